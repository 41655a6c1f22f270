/- slices.Compare at lists of ints, and slices.SortFunc at a row of such lists of one's own. -/
import Derived.Test.YtdgncnhmgbmpjaaColV
import Derived.Test.YtdgncnhmgbmpjaaCellJ
import Derived.Shelf.SlSortCmp.NoneTotal
import Derived.Shelf.SlSortCmp.Whole1
namespace Go.Proofs.Ytdgncnhmgbmpjaa
open Go.RowKit Go.Shelf
set_option linter.unusedVariables false
/-! ## how two lists compare -/
def cmpZ (x y : Int) : Int := if x < y then -1 else if y < x then 1 else 0
def cmpL : List Int → List Int → Int
  | [], [] => 0
  | [], _ :: _ => -1
  | _ :: _, [] => 1
  | x :: a, y :: b => if x = y then cmpL a b else cmpZ x y
theorem cmpZ_zero {x y : Int} : cmpZ x y = 0 ↔ x = y := by
  unfold cmpZ
  split
  · constructor <;> intro h <;> omega
  · split
    · constructor <;> intro h <;> omega
    · constructor <;> intro h <;> omega
theorem cmpZ_neg {x y : Int} : cmpZ x y < 0 ↔ x < y := by
  unfold cmpZ
  split
  · constructor <;> intro h <;> omega
  · split
    · constructor <;> intro h <;> omega
    · constructor <;> intro h <;> omega
theorem cmpZ_anti (x y : Int) : cmpZ y x = - cmpZ x y := by
  unfold cmpZ
  by_cases h1 : x < y
  · rw [if_pos h1, if_neg (by omega), if_pos h1]; decide
  · by_cases h2 : y < x
    · rw [if_pos h2, if_neg h1, if_pos h2]
    · rw [if_neg h2, if_neg h1, if_neg h1, if_neg h2]; rfl
theorem cmpL_anti : ∀ a b : List Int, cmpL b a = - cmpL a b
  | [], [] => rfl
  | [], _ :: _ => rfl
  | _ :: _, [] => rfl
  | x :: a, y :: b => by
    rw [cmpL, cmpL]
    by_cases e : x = y
    · rw [if_pos e, if_pos e.symm, cmpL_anti a b]
    · rw [if_neg e, if_neg (fun h => e h.symm), cmpZ_anti]
theorem cmpL_zero : ∀ {a b : List Int}, cmpL a b = 0 ↔ a = b
  | [], [] => by simp [cmpL]
  | [], _ :: _ => by simp [cmpL]
  | _ :: _, [] => by simp [cmpL]
  | x :: a, y :: b => by
    rw [cmpL]
    by_cases e : x = y
    · rw [if_pos e, cmpL_zero]; simp [e]
    · rw [if_neg e, cmpZ_zero]; simp [e]
theorem cmpL_le_trans : ∀ {a b c : List Int}, cmpL a b ≤ 0 → cmpL b c ≤ 0 → cmpL a c ≤ 0
  | [], _, [], _, _ => Int.le_refl _
  | [], _, _ :: _, _, _ => by rw [cmpL]; decide
  | x :: a, [], _, h, _ => by rw [cmpL] at h; omega
  | x :: a, y :: b, [], _, h => by rw [cmpL] at h; omega
  | x :: a, y :: b, z :: c, h1, h2 => by
    have k1 := cmpZ_neg (x := x) (y := y)
    have k2 := cmpZ_neg (x := y) (y := z)
    have k3 := cmpZ_neg (x := x) (y := z)
    have z1 := cmpZ_zero (x := x) (y := y)
    have z2 := cmpZ_zero (x := y) (y := z)
    rw [cmpL] at h1 h2 ⊢
    by_cases e1 : x = y
    · rw [if_pos e1] at h1
      by_cases e2 : y = z
      · rw [if_pos e2] at h2
        rw [if_pos (e1.trans e2)]
        exact cmpL_le_trans h1 h2
      · rw [if_neg e2] at h2
        have : ¬ cmpZ y z = 0 := fun h => e2 (z2.1 h)
        have := k2.1 (by omega)
        rw [if_neg (by omega)]
        have := k3.2 (by omega)
        omega
    · rw [if_neg e1] at h1
      have : ¬ cmpZ x y = 0 := fun h => e1 (z1.1 h)
      have hxy := k1.1 (by omega)
      by_cases e2 : y = z
      · rw [if_neg (by omega)]
        have := k3.2 (by omega)
        omega
      · rw [if_neg e2] at h2
        have : ¬ cmpZ y z = 0 := fun h => e2 (z2.1 h)
        have := k2.1 (by omega)
        rw [if_neg (by omega)]
        have := k3.2 (by omega)
        omega
theorem isNaNz_c (x : Int) (w : World) : Calls Try.prog 57 #[.int .i64 x] w (RP (.bool false) w) := by
  have h : (x != x) = false := by simp
  go_enter Try.func57, Try.ntmps57
  go_wp2_with fail
  go_ret
  exact ⟨rfl, rfl⟩
theorem cmpZ_c (x y : Int) (w : World) : Calls Try.prog 45 #[.int .i64 x, .int .i64 y] w (RP (.int .i64 (cmpZ x y)) w) := by
  by_cases h : x < y
  · rw [show cmpZ x y = -1 by rw [cmpZ, if_pos h]]
    go_enter Try.func45, Try.ntmps45
    go_wp2_with fail
    refine (isNaNz_c x w).mono ?_; rintro e w1 ⟨rfl, rfl⟩
    go_wp2_with fail
    refine (isNaNz_c y _).mono ?_; rintro e w2 ⟨rfl, rfl⟩
    go_wp2_with fail
    go_ret
    exact ⟨rfl, rfl⟩
  · by_cases h2 : y < x
    · rw [show cmpZ x y = 1 by rw [cmpZ, if_neg h, if_pos h2]]
      go_enter Try.func45, Try.ntmps45
      go_wp2_with fail
      refine (isNaNz_c x w).mono ?_; rintro e w1 ⟨rfl, rfl⟩
      go_wp2_with fail
      refine (isNaNz_c y _).mono ?_; rintro e w2 ⟨rfl, rfl⟩
      go_wp2_with fail
      go_ret
      exact ⟨rfl, rfl⟩
    · rw [show cmpZ x y = 0 by rw [cmpZ, if_neg h, if_neg h2]]
      go_enter Try.func45, Try.ntmps45
      go_wp2_with fail
      refine (isNaNz_c x w).mono ?_; rintro e w1 ⟨rfl, rfl⟩
      go_wp2_with fail
      refine (isNaNz_c y _).mono ?_; rintro e w2 ⟨rfl, rfl⟩
      go_wp2_with fail
      go_ret
      exact ⟨rfl, rfl⟩
theorem drop_get {l : List Int} {k : Nat} (h : k < l.length) : l.drop k = l[k]?.getD 0 :: l.drop (k + 1) := by
  rw [List.drop_eq_getElem_cons h]; simp [h]
set_option maxHeartbeats 1000000 in
theorem Compare_c (va vb : Value) (a b : List Int) (w : World) (ha : Ints w va a) (hb : Ints w vb b) : Calls Try.prog 26 #[va, vb] w (RP (.int .i64 (cmpL a b)) w) := by
  obtain ⟨aa, ca, rfl, h1, h2, HA⟩ := ha.open_
  obtain ⟨ab, cb, rfl, h3, h4, HB⟩ := hb.open_
  clear ha hb
  obtain ⟨R, hR⟩ : ∃ R, cmpL a b = R := ⟨_, rfl⟩
  rw [hR]
  have HR := Lib.hid hR; clear hR
  go_enter Try.func26, Try.ntmps26
  go_wp2_with fail
  go_loopg [11] a.length (fun z i wr => ∃ k : Nat, k ≤ a.length ∧ a.length ≤ k + z ∧ i = .int .i64 k ∧ w = wr ∧ k ≤ b.length ∧ Hid (cmpL (a.drop k) (b.drop k) = R))
  case atStart => exact ⟨0, by omega, by omega, rfl, rfl, by omega, Lib.hid (by rw [List.drop_zero, List.drop_zero]; exact HR.out)⟩
  case round =>
    obtain ⟨k, hk, hkz, rfl, rfl, hkb, HE⟩ := hrel
    by_cases hlt : k < a.length
    · have hkI : (k : Int) < (a.length : Int) := by omega
      obtain ⟨b1, o1, rfl, hc⟩ := HA.out k hlt
      have HDA := Lib.hid (drop_get hlt)
      by_cases hlb : k < b.length
      · have hlI : ¬ (k : Int) ≥ (b.length : Int) := by omega
        have hlD : decide ((k : Int) ≥ (b.length : Int)) = false := by simpa using hlI
        have hlD2 : decide ((b.length : Int) ≤ (k : Int)) = false := by simpa using hlI
        have hlD3 : decide (b.length ≤ k) = false := by simp; omega
        obtain ⟨b2, o2, rfl, hd⟩ := HB.out k hlb
        have HDB := Lib.hid (drop_get hlb)
        generalize a[k]?.getD 0 = x at *
        generalize b[k]?.getD 0 = y at *
        by_cases hxy : x = y
        · subst hxy
          have hz : cmpZ x x = 0 := cmpZ_zero.2 rfl
          have HC := Lib.hid (cmpZ_c x x w)
          rw [hz] at HC
          clear hz
          go_wp2_with fail
          refine HC.out.mono ?_; rintro e w1 ⟨rfl, rfl⟩
          go_wp2_with fail
          go_roundg (gk-1)
          case measure => omega
          case rel => exact ⟨k+1, by omega, by omega, by go_num, rfl, by omega, Lib.hid (by have := HE.out; rw [HDA.out, HDB.out, cmpL, if_pos rfl] at this; exact this)⟩
        · have HC := Lib.hid (cmpZ_c x y w)
          have hz : (cmpZ x y != 0) = true := by simp [cmpZ_zero, hxy]
          have HZ : Hid (cmpZ x y = R) := Lib.hid (by have := HE.out; rw [HDA.out, HDB.out, cmpL, if_neg hxy] at this; exact this)
          generalize cmpZ x y = c at *
          clear hxy
          go_wp2_with fail
          refine HC.out.mono ?_; rintro e w1 ⟨rfl, rfl⟩
          go_wp2_with fail
          go_ret
          exact RP.int HZ.out
      · have hlI : (k : Int) ≥ (b.length : Int) := by omega
        have hlD : decide ((k : Int) ≥ (b.length : Int)) = true := by simpa using hlI
        have hlD2 : decide ((b.length : Int) ≤ (k : Int)) = true := by simpa using hlI
        have hlD3 : decide (b.length ≤ k) = true := by simp; omega
        have HZ : Hid (1 = R) := Lib.hid (by have := HE.out; rw [HDA.out, (List.drop_eq_nil_of_le (show b.length ≤ k by omega) : b.drop k = []), cmpL] at this; exact this)
        go_wp2_with fail
        go_ret
        exact RP.int HZ.out
    · have hkI : ¬ (k : Int) < (a.length : Int) := by omega
      by_cases hlb : a.length < b.length
      · have hlI : (a.length : Int) < (b.length : Int) := by omega
        have hlD3 : decide (a.length < b.length) = true := by simp; omega
        have HZ : Hid (-1 = R) := Lib.hid (by
          have := HE.out
          rw [(List.drop_eq_nil_of_le (show a.length ≤ k by omega) : a.drop k = []), drop_get (l := b) (k := k) (by omega), cmpL] at this; exact this)
        go_wp2_with fail
        go_ret
        exact RP.int HZ.out
      · have hlI : ¬ (a.length : Int) < (b.length : Int) := by omega
        have hlD : decide ((a.length : Int) < (b.length : Int)) = false := by simpa using hlI
        have hlD3 : decide (a.length < b.length) = false := by simp; omega
        have HZ : Hid (0 = R) := Lib.hid (by
          have := HE.out
          rw [(List.drop_eq_nil_of_le (show a.length ≤ k by omega) : a.drop k = []), (List.drop_eq_nil_of_le (show b.length ≤ k by omega) : b.drop k = []), cmpL] at this; exact this)
        go_wp2_with fail
        go_ret
        exact RP.int HZ.out
/-! ## lists as they lie in a world -/
abbrev RowP (w0 : World) : Type := {p : Value × List Int // Ints w0 p.1 p.2}
instance instInhRowP (w0 : World) : Inhabited (RowP w0) := ⟨⟨(.slice none 0 0, []), ints_nil_c w0⟩⟩
def encL {w0 : World} (p : RowP w0) : Value := p.1.1
def cmpP {w0 : World} (x y : RowP w0) : Int := cmpL x.1.2 y.1.2
theorem encL_one (w0 : World) : OneCell (encL (w0 := w0)) := fun x => by
  obtain ⟨a, c, h, _⟩ := x.2.open_
  show x.1.1.oneCell' = true
  rw [h]; rfl
theorem swoP (w0 : World) : Go.Sort.SWO (ltOf (cmpP (w0 := w0))) where
  irrefl x := by
    have : cmpP x x = 0 := cmpL_zero.2 rfl
    simp [ltOf, this]
  trans x y z h1 h2 := by
    simp only [ltOf, decide_eq_true_eq] at h1 h2 ⊢
    have h3 := cmpL_le_trans (a := x.1.2) (b := y.1.2) (c := z.1.2) (by unfold cmpP at h1; omega) (by unfold cmpP at h2; omega)
    have h7 : cmpL x.1.2 z.1.2 ≠ 0 := fun h4 => by
      have h5 := cmpL_zero.1 h4
      have h6 := cmpL_anti x.1.2 y.1.2
      unfold cmpP at h1 h2
      rw [← h5] at h2
      omega
    unfold cmpP
    omega
  ntrans x y z h1 h2 := by
    simp only [ltOf, decide_eq_false_iff_not] at h1 h2 ⊢
    have a1 := cmpL_anti x.1.2 y.1.2
    have a2 := cmpL_anti y.1.2 z.1.2
    have a3 := cmpL_anti x.1.2 z.1.2
    unfold cmpP at h1 h2 ⊢
    have := cmpL_le_trans (a := z.1.2) (b := y.1.2) (c := x.1.2) (by omega) (by omega)
    omega
def sortLRen : Go.Shelf.Ren := ⟨fun | 6 => 43 | 14 => 55 | 15 => 56 | 20 => 60 | 21 => 61 | 22 => 62 | 23 => 63 | 24 => 64 | 25 => 65 | 26 => 66 | 27 => 67 | 28 => 68 | 29 => 69 | 46 => 74 | 47 => 75 | 48 => 76 | 49 => 77 | 50 => 78 | 57 => 79 | n => n, fun | 0 => 0 | 3 => 3 | 4 => 4 | 5 => 5 | 9 => 9 | 22 => 26 | 24 => 22 | 25 => 54 | 39 => 77 | 45 => 80 | 46 => 81 | 50 => 85 | 53 => 88 | 55 => 90 | 66 => 91 | 70 => 95 | 76 => 97 | 77 => 98 | n => n, fun n => n⟩
theorem sortLLays : SlLaysF.n6 Try.prog sortLRen := { mixed := by kernel_rfl, f6 := ⟨Try.f43.name, by kernel_rfl, by kernel_rfl⟩, f14 := ⟨Try.f55.name, by kernel_rfl, by kernel_rfl⟩, f15 := by kernel_rfl, f20 := ⟨Try.f60.name, by kernel_rfl, by kernel_rfl⟩, f21 := ⟨Try.f61.name, by kernel_rfl, by kernel_rfl⟩, f22 := ⟨Try.f62.name, by kernel_rfl, by kernel_rfl⟩, f23 := ⟨Try.f63.name, by kernel_rfl, by kernel_rfl⟩, f24 := ⟨Try.f64.name, by kernel_rfl, by kernel_rfl⟩, f25 := ⟨Try.f65.name, by kernel_rfl, by kernel_rfl⟩, f26 := ⟨Try.f66.name, by kernel_rfl, by kernel_rfl⟩, f27 := ⟨Try.f67.name, by kernel_rfl, by kernel_rfl⟩, f28 := by kernel_rfl, f29 := by kernel_rfl, f46 := ⟨Try.f74.name, by kernel_rfl, by kernel_rfl⟩, f47 := by kernel_rfl, f48 := by kernel_rfl, f49 := ⟨Try.f77.name, by kernel_rfl, by kernel_rfl⟩, f50 := ⟨Try.f78.name, by kernel_rfl, by kernel_rfl⟩, f57 := ⟨Try.f79.name, by kernel_rfl, by kernel_rfl⟩, t0 := by kernel_rfl, a0 := fun _ => by kernel_rfl, z0 := fun _ => by kernel_rfl, v0 := fun _ => by kernel_rfl, t3 := by kernel_rfl, a3 := fun _ => by kernel_rfl, z3 := fun _ => by kernel_rfl, v3 := fun _ => by kernel_rfl, t4 := by kernel_rfl, a4 := fun _ => by kernel_rfl, z4 := fun _ => by kernel_rfl, v4 := fun _ => by kernel_rfl, t5 := by kernel_rfl, a5 := fun _ => by kernel_rfl, z5 := fun _ => by kernel_rfl, v5 := fun _ => by kernel_rfl, t9 := by kernel_rfl, a9 := fun _ => by kernel_rfl, z9 := fun _ => by kernel_rfl, v9 := fun _ => by kernel_rfl, t22 := by kernel_rfl, a22 := fun _ => by kernel_rfl, z22 := fun _ => by kernel_rfl, v22 := fun _ => by kernel_rfl, a24 := fun _ => by kernel_rfl, z24 := fun _ => by kernel_rfl, t25 := by kernel_rfl, a25 := fun _ => by kernel_rfl, z25 := fun _ => by kernel_rfl, v25 := fun _ => by kernel_rfl, t39 := by kernel_rfl, a39 := fun _ => by kernel_rfl, z39 := fun _ => by kernel_rfl, v39 := fun _ => by kernel_rfl, t45 := by kernel_rfl, a45 := fun _ => by kernel_rfl, z45 := fun _ => by kernel_rfl, v45 := fun _ => by kernel_rfl, t46 := by kernel_rfl, a46 := fun _ => by kernel_rfl, z46 := fun _ => by kernel_rfl, v46 := fun _ => by kernel_rfl, t50 := by kernel_rfl, a50 := fun _ => by kernel_rfl, z50 := fun _ => by kernel_rfl, v50 := fun _ => by kernel_rfl, t53 := by kernel_rfl, a53 := fun _ => by kernel_rfl, z53 := fun _ => by kernel_rfl, v53 := fun _ => by kernel_rfl, t55 := by kernel_rfl, a55 := fun _ => by kernel_rfl, z55 := fun _ => by kernel_rfl, v55 := fun _ => by kernel_rfl, t66 := by kernel_rfl, a66 := fun _ => by kernel_rfl, z66 := fun _ => by kernel_rfl, v66 := fun _ => by kernel_rfl, t70 := by kernel_rfl, a70 := fun _ => by kernel_rfl, z70 := fun _ => by kernel_rfl, v70 := fun _ => by kernel_rfl, t76 := by kernel_rfl, a76 := fun _ => by kernel_rfl, z76 := fun _ => by kernel_rfl, v76 := fun _ => by kernel_rfl, t77 := by kernel_rfl, a77 := fun _ => by kernel_rfl, z77 := fun _ => by kernel_rfl, v77 := fun _ => by kernel_rfl }

theorem growL_ext (w : World) (os : Array Obj) : Ext w (Go.Sort.grow w os) :=
  ⟨rfl, rfl, rfl, by simp, fun k hk => Go.Sort.heap_grow_old w os hk⟩
theorem grownP (w0 : World) (w : World) (g m : Nat) (d : Array (RowP w0)) : w.grownBy (Go.Sort.putRow encL (Go.Sort.ahead w m) g 0 d) (some g) := by
  refine ⟨rfl, rfl, rfl, by simp [Go.Sort.putRow, Go.Sort.mapBlock, Go.Sort.ahead], fun k hk hne => ?_⟩
  simp only [Go.Sort.putRow, Go.Sort.mapBlock, Go.Sort.ahead, Array.getElem?_modify]
  rw [if_neg (fun e => hne (by rw [e]))]
theorem extP {w0 w : World} (hx : Ext w0 w) {g : Nat} (hg : w0.heap.size ≤ g) (m : Nat) (d : Array (RowP w0)) (os : Array Obj) : Ext w0 (sortWorld encL w g 0 m d os) := by
  have h1 := grownP w0 w g m d
  have h2 := growL_ext (Go.Sort.putRow encL (Go.Sort.ahead w m) g 0 d) os
  refine Ext.trans (b := Go.Sort.putRow encL (Go.Sort.ahead w m) g 0 d) ?_ h2
  exact ⟨h1.os.trans hx.os, h1.tape.trans hx.tape, h1.output.trans hx.output, Nat.le_trans hx.size h1.size, fun k hk => (h1.block k (Nat.lt_of_lt_of_le hk hx.size) (fun e => by injection e with e; omega)).trans (hx.block k hk)⟩
theorem cmpLaysP {w0 w : World} (hx : Ext w0 w) {g : Nat} (hg : w0.heap.size ≤ g) (size : Nat) : CmpLays1 Try.prog 26 #[] (encL (w0 := w0)) cmpP g 0 size w := fun m os dk hdk x y => by
  have hX := extP hx hg m dk os
  have h := Compare_c x.1.1 y.1.1 x.1.2 y.1.2 _ (x.2.ext hX) (y.2.ext hX)
  refine Calls.mono h ?_
  rintro e w' ⟨he, hw⟩
  exact ⟨he, 0, #[], by rw [← hw, Go.Sort.grow_empty]; rfl⟩
def AscP {w0 : World} (S : List (RowP w0)) : Prop := ∀ i j (hij : i < j) (hj : j < S.length), ¬ cmpP S[j] (S[i]'(by omega)) < 0
theorem rowP_open {w : World} {B n : Nat} {e : TypeId} {xs : List Value} {v : Value} (h : w.ownsRow B e 1 v n xs) (hn : 0 < n) : ∃ g cap cur, v = .slice (some ⟨g, 0, none⟩) n cap ∧ B ≤ g ∧ w.heap[g]? = some (.cells cur e (0, 0)) ∧ n ≤ cap ∧ cap ≤ 9223372036854775807 ∧ cur.size = cap * 1 ∧ cur.toList.take n = xs := by
  rcases h.2 with ⟨_, h0⟩ | ⟨g, cap, cur, hv, hg, hh, hnc, hm, hcs, ht⟩
  · omega
  · exact ⟨g, cap, cur, hv, hg, hh, hnc, hm, hcs, by simpa using ht⟩
/-- the row is put in order -/
theorem sortP_c {w0 : World} (v : Value) (L : List (RowP w0)) (w : World) (B : Nat) (h : w.ownsRow B 22 1 v L.length (L.map encL)) (hx : Ext w0 w) (hB : w0.heap.size ≤ B) (h0 : 0 < L.length) (hl9 : L.length ≤ 1000000) :
    Calls Try.prog 43 #[v, .func (.func 26) #[] #[]] w fun e w' => e = .returned (.tuple #[]) ∧ ∃ S : List (RowP w0), S.Perm L ∧ AscP S ∧ w'.ownsRow B 22 1 v S.length (S.map encL) ∧ w.grownBy w' v.ownBlock := by
  obtain ⟨g, cap, cur, rfl, hg, hh, hnc, hm, hcs, ht⟩ := rowP_open h h0
  have hlt : g < w.heap.size := (Array.getElem?_eq_some_iff.1 hh).1
  have hH : Go.Sort.Holds (encL (w0 := w0)) w g 0 L.toArray := fun j hj => by
    have hj' : j < L.length := by simpa using hj
    rw [Nat.zero_add, getElem!_pos _ j hj]
    have h1 : cur.toList[j]? = some (encL L[j]) := by
      have h2 : (cur.toList.take L.length)[j]? = some (encL L[j]) := by rw [ht, List.getElem?_map, List.getElem?_eq_getElem hj']; rfl
      rwa [List.getElem?_take, if_pos hj'] at h2
    constructor
    · unfold World.cell?
      dsimp only
      rw [hh]
      simpa using h1
    · simp [World.frozen?, hh]
  have hcon := Any.slices_SortFunc sortLLays (encL (w0 := w0)) (encL_one w0) cmpP (swoP w0) 26 #[] g 0 cap L.toArray w (enters_of Try.func26 (by kernel_rfl) rfl) (cmpLaysP hx (by omega) _) hH hlt (by rw [List.size_toArray]; omega)
  rw [List.size_toArray] at hcon
  refine hcon.mono ?_
  rintro e w' ⟨rfl, d', n, os, hp, hs, rfl⟩
  have hds : d'.size = L.length := by have := hp.1; simpa using this
  have hdl : d'.toList.length = L.length := by simpa using hds
  refine ⟨rfl, d'.toList, ?_, fun i j hij hj => ?_, ?_, ?_⟩
  · have h3 := hp.2.2
    have e1 : d'.extract 0 L.length = d' := by rw [← hds, Array.extract_size]
    have e2 : L.toArray.extract 0 L.length = L.toArray := by rw [show L.length = L.toArray.size by simp, Array.extract_size]
    rw [e1, e2] at h3
    simpa using h3
  · have h3 := hs i j (Nat.zero_le _) hij (by omega)
    have hj2 : j < d'.size := by simpa using hj
    rw [getElem!_pos d' j hj2, getElem!_pos d' i (by omega)] at h3
    simp only [ltOf, decide_eq_false_iff_not] at h3
    simpa using h3
  · refine ownsRow_ext ?_ (growL_ext _ os)
    rw [hdl]
    refine ⟨by simp [hds], .inr ⟨g, cap, Go.Sort.putCells encL 0 d' cur, rfl, hg, ?_, hnc, hm, by simpa [Go.Sort.putCells] using hcs, ?_⟩⟩
    · simp [Go.Sort.putRow, Go.Sort.mapBlock, Go.Sort.ahead, Array.getElem?_modify, hh, Go.Sort.onCells]
    · refine List.ext_getElem? fun i => ?_
      by_cases hi : i < L.length
      · have hic : i < cur.size := by omega
        rw [List.getElem?_take, if_pos (by omega), Array.getElem?_toList, List.getElem?_map, Array.getElem?_toList, Array.getElem?_eq_getElem (show i < d'.size by omega)]
        simp only [Go.Sort.putCells, Array.getElem?_mapIdx, Array.getElem?_eq_getElem hic, Option.map_some, Nat.zero_add, Nat.zero_le, true_and, Nat.sub_zero]
        rw [if_pos (show i < d'.size by omega), getElem!_pos d' i (by omega)]
      · rw [List.getElem?_take, if_neg (by omega), List.getElem?_eq_none (by simp; omega)]
  · have h3 := grownP w0 w g n d'
    have h4 := growL_ext (Go.Sort.putRow encL (Go.Sort.ahead w n) g 0 d') os
    exact ⟨h4.os.trans h3.os, h4.tape.trans h3.tape, h4.output.trans h3.output, Nat.le_trans h3.size h4.size, fun k hk hne => (h4.block k (Nat.lt_of_lt_of_le hk h3.size)).trans (h3.block k hk hne)⟩
end Go.Proofs.Ytdgncnhmgbmpjaa
