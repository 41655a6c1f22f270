/- Machines: arcs and machines in memory, which are valid, words; both packages. -/
import Derived.Test.YtpbflkbelhlogaaBlk
import Derived.Laws.StructEq
namespace Go.Proofs.Ytpbflkbelhlogaa
open Go.RowKit Go.Shelf
set_option linter.unusedVariables false

/-! ## plain -/
structure Arc where
  f : Int
  t : Int
  i : Int
  o : Int
instance : DecidableEq Arc := fun a b => decidable_of_iff (a.f = b.f ∧ a.t = b.t ∧ a.i = b.i ∧ a.o = b.o) (by cases a; cases b; simp)
structure Mac where
  s : Int
  a : List Arc
  e : List Int
def arcA (l : List Arc) (k : Nat) : Arc := l[k]?.getD ⟨0, 0, 0, 0⟩
def inB (n lo hi : Int) : Bool := decide (lo ≤ n) && decide (n ≤ hi)
def sndB (l : List Int) : Bool := allB l.length fun i => inB (l[i]?.getD 0) 0 5
def setAt (l : List Int) (n : Int) (i : Nat) : Bool := inB (l[i]?.getD 0) 0 (n - 1) && !(decide (0 < i) && decide (l[i]?.getD 0 ≤ l[i - 1]?.getD 0))
def setB (l : List Int) (n : Int) : Bool := allB l.length (setAt l n)
def arcOk (s : Int) (a : Arc) : Bool := inB a.f 0 (s - 1) && (inB a.t 0 (s - 1) && (inB a.i 0 5 && inB a.o 0 5))
def hasA (l : List Arc) (n : Nat) (x : Arc) : Bool := (List.range n).any fun i => arcA l i == x
def onceB (l : List Arc) : Bool := allB l.length fun i => !hasA l i (arcA l i)
def validM (m : Mac) : Int := if inB m.s 1 9 then (if 60 < m.a.length then 3 else if allB m.a.length (fun k => arcOk m.s (arcA m.a k)) then (if setB m.e m.s then (if onceB m.a then 0 else 5) else 1) else 1) else 1
def wordK (most : Int) (w : List Int) : Int := if most < (w.length : Int) then 3 else if sndB w then 0 else 1
def wordsK (most : Int) : List (List Int) → Int
  | [] => 0
  | w :: l => if wordK most w = 0 then wordsK most l else wordK most w
def checkK (m : Mac) (l : List (List Int)) : Int := if validM m = 0 then wordsK 8 l else validM m

/-! ## arcs in memory -/
def Arcs (w : World) (v : Value) (l : List Arc) : Prop :=
  Sl v l.length fun i b o => w.cell? ⟨b, o + i * 4, none⟩ = some (.int .i64 (arcA l i).f) ∧ w.cell? ⟨b, o + i * 4 + 1, none⟩ = some (.int .i64 (arcA l i).t) ∧ w.cell? ⟨b, o + i * 4 + 2, none⟩ = some (.int .i64 (arcA l i).i) ∧ w.cell? ⟨b, o + i * 4 + 3, none⟩ = some (.int .i64 (arcA l i).o)
theorem Arcs.ext {w w' : World} {v : Value} {l : List Arc} (h : Arcs w v l) (hb : Ext w w') : Arcs w' v l :=
  h.mono fun _ _ _ _ ⟨h1, h2, h3, h4⟩ => ⟨hb.keep h1, hb.keep h2, hb.keep h3, hb.keep h4⟩
theorem Arcs.open_ {w : World} {v : Value} {l : List Arc} (h : Arcs w v l) :
    ∃ (a : Option Addr) (cap : Nat), v = .slice a l.length cap ∧ l.length ≤ cap ∧ cap ≤ 9223372036854775807 ∧
      Hid (∀ i, i < l.length → ∃ b o, a = some ⟨b, o, none⟩ ∧ w.cell? ⟨b, o + i * 4, none⟩ = some (.int .i64 (arcA l i).f) ∧ w.cell? ⟨b, o + i * 4 + 1, none⟩ = some (.int .i64 (arcA l i).t) ∧ w.cell? ⟨b, o + i * 4 + 2, none⟩ = some (.int .i64 (arcA l i).i) ∧ w.cell? ⟨b, o + i * 4 + 3, none⟩ = some (.int .i64 (arcA l i).o)) := h
theorem arcA_take {l : List Arc} {k i : Nat} (h : i < k) : arcA (l.take k) i = arcA l i := by simp [arcA, h]
theorem Arcs.take {w : World} {b o cap n : Nat} {l : List Arc} (h : Arcs w (.slice (some ⟨b, o, none⟩) n cap) l) {k : Nat} (hk : k ≤ l.length) : Arcs w (.slice (some ⟨b, o, none⟩) k cap) (l.take k) := by
  obtain ⟨a, c, he, h1, h2, h3⟩ := h
  injection he with he hn hc
  subst he hc
  have hl : (l.take k).length = k := by simp; omega
  refine ⟨_, _, by rw [hl], by omega, h2, fun i hi => ?_⟩
  rw [hl] at hi
  obtain ⟨b', o', e, h4⟩ := h3 i (by omega)
  refine ⟨b', o', e, ?_⟩
  show _ ∧ _
  rw [arcA_take hi]; exact h4
structure MacR (w : World) (av ev : Value) (m : Mac) : Prop where
  a : Arcs w av m.a
  e : Ints w ev m.e
theorem MacR.ext {w w' : World} {av ev : Value} {m : Mac} (h : MacR w av ev m) (hx : Ext w w') : MacR w' av ev m := ⟨h.a.ext hx, h.e.ext hx⟩
/-- the cells of a new block stay -/
theorem kept_alloc (w : World) (cs : Array Value) (ty : TypeId) {i : Nat} {v : Value} (h : cs[i]? = some v) : ∀ W, Ext (w.alloc (.cells cs ty)) W → W.cell? ⟨w.heap.size, i, none⟩ = some v := fun W hW => hW.keep (alloc_cell w cs ty h)

theorem within_c (n lo hi : Int) (w : World) : Calls Try.prog 60 #[.int .i64 n, .int .i64 lo, .int .i64 hi] w (RP (.bool (inB n lo hi)) w) := by
  by_cases h : lo ≤ n
  · go_enter Try.func60, Try.ntmps60
    go_wp2
    go_ret
    exact RP.bool (by simp [inB, h])
  · go_enter Try.func60, Try.ntmps60
    go_wp2
    go_ret
    exact RP.bool (by simp [inB]; omega)

theorem rwithin_c (n lo hi : Int) (w : World) : Calls Try.prog 61 #[.int .i64 n, .int .i64 lo, .int .i64 hi] w (RP (.bool (inB n lo hi)) w) := by
  by_cases h : lo ≤ n
  · go_enter Try.func61, Try.ntmps61
    go_wp2
    go_ret
    exact RP.bool (by simp [inB, h])
  · go_enter Try.func61, Try.ntmps61
    go_wp2
    go_ret
    exact RP.bool (by simp [inB]; omega)

theorem isSound_c (n : Int) (w : World) : Calls Try.prog 74 #[.int .i64 n] w (RP (.bool (inB n 0 5)) w) := by
  go_enter Try.func74, Try.ntmps74
  go_wp2_with fail
  refine (within_c _ _ _ _).mono ?_; rintro e w1 ⟨rfl, rfl⟩
  go_wp2_with fail
  go_ret
  exact RP.bool rfl

theorem rIsSound_c (n : Int) (w : World) : Calls Try.prog 77 #[.int .i64 n] w (RP (.bool (inB n 0 5)) w) := by
  go_enter Try.func77, Try.ntmps77
  go_wp2_with fail
  refine (rwithin_c _ _ _ _).mono ?_; rintro e w1 ⟨rfl, rfl⟩
  go_wp2_with fail
  go_ret
  exact RP.bool rfl

theorem sounds1_c (n : Int) (w : World) : Calls Try.prog 101 #[.int .i64 n] w (RP (.bool (!inB n 0 5)) w) := by
  go_enter Try.func101, Try.ntmps101
  go_wp2_with fail
  refine (isSound_c _ _).mono ?_; rintro e w1 ⟨rfl, rfl⟩
  go_wp2_with fail
  go_ret
  exact RP.bool (by first | rfl | simp)
theorem RP.rv {v : Value} {w : World} {e : Ending} {w' : World} (h : RP v w e w') : RV v w e w' := ⟨h.1, h.2 ▸ Ext.refl _⟩
theorem notSounds_c (v : Value) (l : List Int) (w : World) (h : Ints w v l) : Calls Try.prog 100 #[v, .func (.func 101) #[] #[]] w (RV (.bool (!sndB l)) w) := by
  have HC := containsFunc_c v l 101 #[] (fun n => !inB n 0 5) w (enters_of Try.func101 (by kernel_rfl) rfl) (fun W i _ _ => (sounds1_c _ W).mono fun _ _ h => h.rv) h
  have he : (!sndB l) = ((List.range l.length).any fun i => !inB (l[i]?.getD 0) 0 5) := by
    unfold sndB allB
    rw [List.not_all_eq_any_not]
  rw [he]; exact HC
theorem wordK_large {most : Int} {l : List Int} (h : most < (l.length : Int)) : wordK most l = 3 := by rw [wordK, if_pos h]
theorem wordK_not {most : Int} {l : List Int} (h : ¬ most < (l.length : Int)) (hs : sndB l = false) : wordK most l = 1 := by rw [wordK, if_neg h, hs]; rfl
theorem wordK_ok {most : Int} {l : List Int} (h : ¬ most < (l.length : Int)) (hs : sndB l = true) : wordK most l = 0 := by rw [wordK, if_neg h, hs]; rfl
theorem wordsK_bad {most : Int} {ls : List (List Int)} {k : Nat} (hk : k < ls.length) (h : wordK most (ls[k]?.getD []) ≠ 0) (hp : ∀ j, j < k → (wordK most (ls[j]?.getD []) == 0) = true) : wordsK most ls = wordK most (ls[k]?.getD []) := by
  induction ls generalizing k with
  | nil => simp at hk
  | cons x l ih =>
    cases k with
    | zero => simp at h ⊢; rw [wordsK, if_neg h]
    | succ k =>
      have h0 : wordK most x = 0 := by have := hp 0 (by omega); simpa using this
      simp only [List.length_cons] at hk
      rw [wordsK, if_pos h0]
      have := ih (k := k) (by omega) (by simpa using h) (fun j hj => by have := hp (j + 1) (by omega); simpa using this)
      simpa using this
theorem wordsK_ok {most : Int} {ls : List (List Int)} (hp : ∀ j, j < ls.length → (wordK most (ls[j]?.getD []) == 0) = true) : wordsK most ls = 0 := by
  induction ls with
  | nil => rfl
  | cons x l ih =>
    have h0 : wordK most x = 0 := by have := hp 0 (by simp); simpa using this
    rw [wordsK, if_pos h0]
    exact ih fun j hj => by have := hp (j + 1) (by simp; omega); simpa using this

set_option maxHeartbeats 400000 in
theorem sounds_c (v : Value) (ls : List (List Int)) (most : Int) (w : World) (h : Rows w v ls) : Calls Try.prog 81 #[.int .i64 most, v] w (RV (.int .i64 (wordsK most ls)) w) := by
  obtain ⟨a, c, rfl, h1, h2, H⟩ := Rows.open_ h
  clear h
  go_enter Try.func81, Try.ntmps81
  go_wp2_with fail
  go_loopg [9] ls.length (fun m i wr => ∃ k : Nat, k ≤ ls.length ∧ ls.length ≤ k + m ∧ i = .int .i64 k ∧ Ext w wr ∧ Hid (∀ j, j < k → (wordK most (ls[j]?.getD []) == 0) = true))
  case atStart => exact ⟨0, by omega, by omega, rfl, Ext.refl _, fun j hj => by omega⟩
  case round =>
    obtain ⟨k, hk, hk2, rfl, hB, hE⟩ := hrel
    by_cases hlt : k < ls.length
    · obtain ⟨b, o, rfl, u, hc, hi⟩ := H.out k hlt
      replace hc := hB.keep hc
      have HC := Lib.hid (notSounds_c u _ wr (hi.ext hB))
      obtain ⟨au, cu, rfl, _, _, _⟩ := hi.open_
      clear hi
      have HBAD := Lib.hid (fun h => wordsK_bad (most := most) hlt h hE.out)
      generalize hx : ls[k]?.getD [] = x at *
      have HX := Lib.hid hx; clear hx
      by_cases hm : most < (x.length : Int)
      · have hK := wordK_large hm
        have HK := Lib.hid hK; clear hK
        go_wp2_with fail
        go_ret
        exact RV.int (by rw [HBAD.out (by rw [HK.out]; decide), HK.out]) hB
      · cases hs : sndB x
        · have HK := Lib.hid (wordK_not hm hs)
          rw [hs] at HC
          have HS := Lib.hid hs; clear hs
          go_wp2_with fail
          refine HC.out.mono ?_; rintro e w1 ⟨rfl, hx1⟩
          go_wp2_with fail
          go_ret
          exact RV.int (by rw [HBAD.out (by rw [HK.out]; decide), HK.out]) (hB.trans hx1)
        · have HK := Lib.hid (wordK_ok hm hs)
          rw [hs] at HC
          have HS := Lib.hid hs; clear hs
          go_wp2_with fail
          refine HC.out.mono ?_; rintro e w1 ⟨rfl, hx1⟩
          go_wp2_with fail
          go_roundg (gk-1)
          case measure => omega
          case rel => exact ⟨k+1, by omega, by omega, by go_num, hB.trans hx1, range_step hE.out (by rw [HX.out, HK.out]; rfl)⟩
    · go_wp2_with fail
      go_ret
      exact RV.int (by rw [wordsK_ok (fun j hj => hE.out j (by omega))]) hB
set_option maxHeartbeats 400000 in
theorem word_c (v : Value) (l : List Int) (most : Int) (w : World) (h : Ints w v l) : Calls Try.prog 69 #[v, .int .i64 most] w (RV (.int .i64 (wordK most l)) w) := by
  obtain ⟨a, c, rfl, h1, h2, H⟩ := h.open_
  clear h
  by_cases hm : most < (l.length : Int)
  · rw [wordK_large hm]
    go_enter Try.func69, Try.ntmps69
    go_wp2_with fail
    go_ret
    exact RV.int rfl (Ext.refl _)
  · have HF := Lib.hid (fun h => wordK_not hm h)
    have HT := Lib.hid (fun h => wordK_ok hm h)
    generalize wordK most l = K at *
    go_enter Try.func69, Try.ntmps69
    go_wp2_with fail
    go_loopg [5] l.length (fun m i wr => ∃ k : Nat, k ≤ l.length ∧ l.length ≤ k + m ∧ i = .int .i64 k ∧ w = wr ∧ Hid (∀ j, j < k → inB (l[j]?.getD 0) 0 5 = true))
    case atStart => exact ⟨0, by omega, by omega, rfl, rfl, fun j hj => by omega⟩
    case round =>
      obtain ⟨k, hk, hk2, rfl, rfl, hE⟩ := hrel
      by_cases hlt : k < l.length
      · obtain ⟨b, o, rfl, hc⟩ := H.out k hlt
        generalize hx : l[k]?.getD 0 = x at *
        have HX := Lib.hid hx; clear hx
        go_wp2_with fail
        refine (rIsSound_c _ _).mono ?_; rintro e w1 ⟨rfl, rfl⟩
        cases hb : inB x 0 5
        · have HB := Lib.hid hb; clear hb
          go_wp2_with fail
          go_ret
          exact RV.int (by rw [HF.out (by rw [sndB, allB_false hlt (by rw [HX.out]; exact HB.out)])]) (Ext.refl _)
        · have HB := Lib.hid hb; clear hb
          go_wp2_with fail
          go_roundg (gk-1)
          case measure => omega
          case rel => exact ⟨k+1, by omega, by omega, by go_num, rfl, range_step hE.out (by rw [HX.out]; exact HB.out)⟩
      · go_wp2_with fail
        go_ret
        exact RV.int (by rw [HT.out (by rw [sndB, allB_true (fun j hj => hE.out j (by omega))])]) (Ext.refl _)

theorem hasA_yes {l : List Arc} {n k : Nat} {x : Arc} (hk : k < n) (h : (x == arcA l k) = true) : hasA l n x = true := by
  rw [hasA, List.any_eq_true]; exact ⟨k, by simpa using hk, by rw [Bool.beq_comm]; exact h⟩
theorem hasA_no {l : List Arc} {n : Nat} {x : Arc} (h : ∀ j, j < n → (x == arcA l j) = false) : hasA l n x = false := by
  rw [hasA, List.any_eq_false]; intro j hj; rw [Bool.beq_comm, h j (by simpa using hj)]; decide
theorem hasA_idx (l : List Arc) (n : Nat) (x : Arc) : hasA l n x = decide (0 ≤ firstIdx n fun i => x == arcA l i) := by
  rw [firstIdx_ge, hasA]
  congr 1
  funext i
  exact Bool.beq_comm

theorem run_eql_arc (W : World) (x y : Arc) : (binOp .eql 50 (.agg #[.int .i64 x.f, .int .i64 x.t, .int .i64 x.i, .int .i64 x.o]) (.agg #[.int .i64 y.f, .int .i64 y.t, .int .i64 y.i, .int .i64 y.o])).run Try.prog W = .ok (.bool (x == y)) W := by
  have u3 : Try.prog.underlying 3 = some (.int .i64) := Try.underlying3
  have hS : Try.prog.underlying 50 = some (.struct (Try.prog.fieldsOf 50)) := by kernel_rfl
  have hp : Try.prog.stoodInHeld 50 = false := by kernel_rfl
  rw [run_eql_struct, show (10000 : Nat) = 9999 + 1 from rfl, run_equalIn_agg W 9999 50 _ _ hS hp]
  simp only [Program.fieldsOf, Try.underlying50]
  go_simp
  obtain ⟨a, b, c, d⟩ := x
  obtain ⟨a', b', c', d'⟩ := y
  by_cases h1 : a = a' <;> by_cases h2 : b = b' <;> by_cases h3 : c = c' <;> by_cases h4 : d = d' <;> simp [h1, h2, h3, h4]

theorem validM_s {m : Mac} (h : inB m.s 1 9 = false) : validM m = 1 := by rw [validM, h]; rfl
theorem validM_l {m : Mac} (h : inB m.s 1 9 = true) (hl : 60 < m.a.length) : validM m = 3 := by rw [validM, h, if_pos rfl, if_pos hl]
theorem validM_a {m : Mac} (h : inB m.s 1 9 = true) (hl : ¬ 60 < m.a.length) {k : Nat} (hk : k < m.a.length) (ha : arcOk m.s (arcA m.a k) = false) : validM m = 1 := by
  rw [validM, h, if_pos rfl, if_neg hl, allB_false hk ha]; rfl
theorem validM_e {m : Mac} (h : inB m.s 1 9 = true) (hl : ¬ 60 < m.a.length) (ha : ∀ j, j < m.a.length → arcOk m.s (arcA m.a j) = true) (hs : setB m.e m.s = false) : validM m = 1 := by
  rw [validM, h, if_pos rfl, if_neg hl, allB_true ha, if_pos rfl, hs]; rfl
theorem validM_t {m : Mac} (h : inB m.s 1 9 = true) (hl : ¬ 60 < m.a.length) (ha : ∀ j, j < m.a.length → arcOk m.s (arcA m.a j) = true) (hs : setB m.e m.s = true) {k : Nat} (hk : k < m.a.length) (ht : hasA m.a k (arcA m.a k) = true) : validM m = 5 := by
  rw [validM, h, if_pos rfl, if_neg hl, allB_true ha, if_pos rfl, hs, if_pos rfl, onceB, allB_false hk (by rw [ht]; rfl)]; rfl
theorem validM_o {m : Mac} (h : inB m.s 1 9 = true) (hl : ¬ 60 < m.a.length) (ha : ∀ j, j < m.a.length → arcOk m.s (arcA m.a j) = true) (hs : setB m.e m.s = true) (ht : ∀ j, j < m.a.length → (!hasA m.a j (arcA m.a j)) = true) : validM m = 0 := by
  rw [validM, h, if_pos rfl, if_neg hl, allB_true ha, if_pos rfl, hs, if_pos rfl, onceB, allB_true ht]; rfl
theorem hasA_take {l : List Arc} {k : Nat} (x : Arc) : hasA (l.take k) k x = hasA l k x := by
  unfold hasA
  rw [Bool.eq_iff_iff, List.any_eq_true, List.any_eq_true]
  constructor
  · rintro ⟨i, hi, h⟩
    exact ⟨i, hi, by rwa [arcA_take (by simpa using hi)] at h⟩
  · rintro ⟨i, hi, h⟩
    exact ⟨i, hi, by rwa [arcA_take (by simpa using hi)]⟩
theorem inB_bd {n lo hi : Int} (h : inB n lo hi = true) : lo ≤ n ∧ n ≤ hi := by simpa [inB] using h
theorem arcOk_f {s : Int} {x : Arc} (h : inB x.f 0 (s - 1) = false) : arcOk s x = false := by simp [arcOk, h]
theorem arcOk_t {s : Int} {x : Arc} (h : inB x.t 0 (s - 1) = false) : arcOk s x = false := by simp [arcOk, h]
theorem arcOk_i {s : Int} {x : Arc} (h : inB x.i 0 5 = false) : arcOk s x = false := by simp [arcOk, h]
theorem arcOk_o {s : Int} {x : Arc} (h : inB x.o 0 5 = false) : arcOk s x = false := by simp [arcOk, h]
theorem arcOk_y {s : Int} {x : Arc} (h1 : inB x.f 0 (s - 1) = true) (h2 : inB x.t 0 (s - 1) = true) (h3 : inB x.i 0 5 = true) (h4 : inB x.o 0 5 = true) : arcOk s x = true := by simp [arcOk, h1, h2, h3, h4]

set_option maxHeartbeats 400000 in
theorem indexA_c (va : Value) (l : List Arc) (x : Arc) (w : World) (ha : Arcs w va l) :
    Calls Try.prog 97 #[va, .agg #[.int .i64 x.f, .int .i64 x.t, .int .i64 x.i, .int .i64 x.o]] w (RV (.int .i64 (firstIdx l.length fun i => x == arcA l i)) w) := by
  obtain ⟨wA, hwA⟩ : ∃ wA, wA = w.alloc (.cells #[.int .i64 x.f, .int .i64 x.t, .int .i64 x.i, .int .i64 x.o] 50) := ⟨_, rfl⟩
  have hE0 : Ext w wA := by rw [hwA]; exact Ext.alloc _ _
  have k0 : ∀ W, Ext wA W → W.cell? ⟨w.heap.size, 0, none⟩ = some (.int .i64 x.f) := by rw [hwA]; exact kept_alloc w _ _ rfl
  have k1 : ∀ W, Ext wA W → W.cell? ⟨w.heap.size, 1, none⟩ = some (.int .i64 x.t) := by rw [hwA]; exact kept_alloc w _ _ rfl
  have k2 : ∀ W, Ext wA W → W.cell? ⟨w.heap.size, 2, none⟩ = some (.int .i64 x.i) := by rw [hwA]; exact kept_alloc w _ _ rfl
  have k3 : ∀ W, Ext wA W → W.cell? ⟨w.heap.size, 3, none⟩ = some (.int .i64 x.o) := by rw [hwA]; exact kept_alloc w _ _ rfl
  obtain ⟨aa, ca, rfl, hla, hma, Ha⟩ := ha.open_
  clear ha
  have HW := Lib.hid hwA; clear hwA
  have heq := fun W y => run_eql_arc W x y
  go_enter Try.func97, Try.ntmps97
  go_wp2_with fail
  rw [← HW.out]
  go_loopg [8] l.length (fun m i wr => ∃ k : Nat, k ≤ l.length ∧ l.length ≤ k + m ∧ i = .int .i64 k ∧ Ext wA wr ∧ Hid (∀ j, j < k → (x == arcA l j) = false))
  case atStart => exact ⟨0, by omega, by omega, rfl, Ext.refl _, fun j hj => by omega⟩
  case round =>
    obtain ⟨k, hk, hk2, rfl, hB, hE⟩ := hrel
    by_cases hlt : k < l.length
    · obtain ⟨ba, oa, rfl, hc0, hc1, hc2, hc3⟩ := Ha.out k hlt
      generalize hy : arcA l k = y at *
      have HY := Lib.hid hy; clear hy
      have hs : ∀ s : Later wr, Ext wA s.w := fun s => hB.trans s.ext
      have q0 := fun s : Later wr => (hE0.trans (hB.trans s.ext)).keep hc0
      have q1 := fun s : Later wr => (hE0.trans (hB.trans s.ext)).keep hc1
      have q2 := fun s : Later wr => (hE0.trans (hB.trans s.ext)).keep hc2
      have q3 := fun s : Later wr => (hE0.trans (hB.trans s.ext)).keep hc3
      cases hxy : (x == y)
      · go_wp2_with fail
        refine wp_region_later (by kernel_rfl) (by kernel_rfl) ?_
        repeat (go_big_quiet_step (fail))
        refine wpQuiet_nil ?_
        intro w5 hw'
        obtain ⟨⟨_, hx5⟩, rfl⟩ := hw'
        clear hs q0 q1 q2 q3
        go_wp2_with fail
        have HX := Lib.hid hxy; clear hxy
        go_roundg (gk-1)
        case measure => omega
        case rel => exact ⟨k+1, by omega, by omega, by go_num, hB.trans hx5, range_step hE.out (by rw [HY.out]; exact HX.out)⟩
      · go_wp2_with fail
        refine wp_region_later (by kernel_rfl) (by kernel_rfl) ?_
        repeat (go_big_quiet_step (fail))
        refine wpQuiet_nil ?_
        intro w5 hw'
        obtain ⟨⟨_, hx5⟩, rfl⟩ := hw'
        clear hs q0 q1 q2 q3
        go_wp2_with fail
        go_ret
        exact RV.int (by rw [firstIdx_at hlt (by rw [HY.out]; exact hxy) hE.out]) (hE0.trans (hB.trans hx5))
    · go_wp2_with fail
      go_ret
      exact RV.int (by rw [firstIdx_none (fun j hj => hE.out j (by omega))]) (hE0.trans hB)
set_option maxHeartbeats 400000 in
theorem containsA_c (va : Value) (l : List Arc) (x : Arc) (w : World) (ha : Arcs w va l) :
    Calls Try.prog 76 #[va, .agg #[.int .i64 x.f, .int .i64 x.t, .int .i64 x.i, .int .i64 x.o]] w (RV (.bool (hasA l l.length x)) w) := by
  have hA := Ext.alloc w (.cells #[.int .i64 x.f, .int .i64 x.t, .int .i64 x.i, .int .i64 x.o] 50)
  have HH := Lib.hid (indexA_c va l x _ (ha.ext hA)); clear ha
  rw [hasA_idx]
  generalize firstIdx l.length (fun i => x == arcA l i) = n at *
  go_enter Try.func76, Try.ntmps76
  go_wp2_with fail
  refine HH.out.mono ?_; rintro e w' ⟨rfl, hx⟩
  go_wp2_with fail
  go_ret
  exact RV.bool (by first | rfl | simp) (hA.trans hx)

set_option maxHeartbeats 1000000 in
theorem isSet_c (v : Value) (l : List Int) (n : Int) (w : World) (h : Ints w v l) (hn : 1 ≤ n) (hn2 : n ≤ 9) : Calls Try.prog 75 #[v, .int .i64 n] w (RP (.bool (setB l n)) w) := by
  obtain ⟨a, c, rfl, h1, h2, H⟩ := h.open_
  clear h
  go_enter Try.func75, Try.ntmps75
  go_wp2_with fail
  go_loopg [9] l.length (fun m i wr => ∃ k : Nat, k ≤ l.length ∧ l.length ≤ k + m ∧ i = .int .i64 k ∧ w = wr ∧ Hid (∀ j, j < k → setAt l n j = true))
  case atStart => exact ⟨0, by omega, by omega, rfl, rfl, fun j hj => by omega⟩
  case round =>
    obtain ⟨k, hk, hk2, rfl, rfl, hE⟩ := hrel
    by_cases hlt : k < l.length
    · obtain ⟨b, o, rfl, hc⟩ := H.out k hlt
      have HAT := Lib.hid (show setAt l n k = (inB (l[k]?.getD 0) 0 (n - 1) && !(decide (0 < k) && decide (l[k]?.getD 0 ≤ l[k - 1]?.getD 0))) from rfl)
      by_cases hk0 : 0 < k
      · obtain ⟨_, _, he, hd⟩ := H.out (k - 1) (by omega)
        injection he with he; injection he with he1 he2 _; subst he1 he2
        generalize l[k]?.getD 0 = x at *
        generalize l[k - 1]?.getD 0 = y at *
        go_wp2_with fail
        refine (within_c _ _ _ _).mono ?_; rintro e w1 ⟨rfl, rfl⟩
        cases hb : inB x 0 (n - 1)
        · have HB := Lib.hid hb; clear hb
          go_wp2_with fail
          go_ret
          exact RP.bool (by rw [setB, allB_false hlt (by rw [HAT.out, HB.out]; rfl)])
        · have HB := Lib.hid hb; clear hb
          by_cases hle : x ≤ y
          · go_wp2_with fail
            go_ret
            exact RP.bool (by rw [setB, allB_false hlt (by rw [HAT.out, HB.out]; simp [hk0, hle])])
          · go_wp2_with fail
            go_roundg (gk-1)
            case measure => omega
            case rel => exact ⟨k+1, by omega, by omega, by go_num, rfl, range_step hE.out (by rw [HAT.out, HB.out]; simp [hle])⟩
      · obtain rfl : k = 0 := by omega
        rw [Nat.add_zero] at hc
        generalize l[0]?.getD 0 = x at *
        go_wp2_with fail
        refine (within_c _ _ _ _).mono ?_; rintro e w1 ⟨rfl, rfl⟩
        cases hb : inB x 0 (n - 1)
        · have HB := Lib.hid hb; clear hb
          go_wp2_with fail
          go_ret
          exact RP.bool (by rw [setB, allB_false hlt (by rw [HAT.out, HB.out]; rfl)])
        · have HB := Lib.hid hb; clear hb
          go_wp2_with fail
          go_roundg (gk-1)
          case measure => omega
          case rel => exact ⟨1, by omega, by omega, by go_num, rfl, range_step hE.out (by rw [HAT.out, HB.out]; rfl)⟩
    · go_wp2_with fail
      go_ret
      exact RP.bool (by rw [setB, allB_true (fun j hj => hE.out j (by omega))])

set_option maxHeartbeats 2000000 in
set_option maxRecDepth 100000 in
theorem Validate_c (av ev : Value) (m : Mac) (w : World) (h : MacR w av ev m) : Calls Try.prog 41 #[.agg #[.int .i64 m.s, av, ev]] w (RV (.int .i64 (validM m)) w) := by
  obtain ⟨wA, hwA⟩ : ∃ wA, wA = w.alloc (.cells #[.int .i64 m.s, av, ev] 25) := ⟨_, rfl⟩
  have hE0 : Ext w wA := by rw [hwA]; exact Ext.alloc _ _
  have k0 : ∀ W, Ext wA W → W.cell? ⟨w.heap.size, 0, none⟩ = some (.int .i64 m.s) := by rw [hwA]; exact kept_alloc w _ _ rfl
  have k1 : ∀ W, Ext wA W → W.cell? ⟨w.heap.size, 1, none⟩ = some av := by rw [hwA]; exact kept_alloc w _ _ rfl
  have k2 : ∀ W, Ext wA W → W.cell? ⟨w.heap.size, 2, none⟩ = some ev := by rw [hwA]; exact kept_alloc w _ _ rfl
  have H0 : Ext wA wA := Ext.refl _
  have HR := Lib.hid (h.ext hE0)
  obtain ⟨aa, ca, rfl, hla, hma, HA⟩ := (h.ext hE0).a.open_
  have HW := Lib.hid hwA; clear hwA h
  go_enter Try.func41, Try.ntmps41
  go_wp2_with fail
  rw [← HW.out]
  refine (within_c _ _ _ _).mono ?_; rintro e w1 ⟨rfl, rfl⟩
  cases hs : inB m.s 1 9
  · have HS := Lib.hid hs; clear hs
    go_wp2_with fail
    go_ret
    exact RV.int (by rw [validM_s HS.out]) hE0
  · obtain ⟨hs1, hs2⟩ := inB_bd hs
    have HS := Lib.hid hs; clear hs
    by_cases hl : 60 < m.a.length
    · go_wp2_with fail
      go_ret
      exact RV.int (by rw [validM_l HS.out hl]) hE0
    · go_wp2_with fail
      go_loopg [18] m.a.length (fun z i wr => ∃ k : Nat, k ≤ m.a.length ∧ m.a.length ≤ k + z ∧ i = .int .i64 k ∧ Ext wA wr ∧ Hid (∀ j, j < k → arcOk m.s (arcA m.a j) = true))
      case atStart => exact ⟨0, by omega, by omega, rfl, Ext.refl _, fun j hj => by omega⟩
      case round =>
        obtain ⟨k, hk, hk2, rfl, hB, hE⟩ := hrel
        by_cases hlt : k < m.a.length
        · obtain ⟨ba, oa, rfl, hc0, hc1, hc2, hc3⟩ := HA.out k hlt
          replace hc0 := hB.keep hc0
          replace hc1 := hB.keep hc1
          replace hc2 := hB.keep hc2
          replace hc3 := hB.keep hc3
          generalize hy : arcA m.a k = y at *
          have HY := Lib.hid hy; clear hy
          have hX : Ext wA (wr.alloc (.cells #[.int .i64 y.f, .int .i64 y.t, .int .i64 y.i, .int .i64 y.o] 50)) := hB.trans (Ext.alloc _ _)
          go_wp2_with fail
          refine (within_c _ _ _ _).mono ?_; rintro e w1 ⟨rfl, rfl⟩
          cases hb0 : inB y.f 0 (m.s - 1)
          · have HB := Lib.hid hb0; clear hb0
            go_wp2_with fail
            go_ret
            exact RV.int (by rw [validM_a HS.out hl hlt (by rw [HY.out]; exact (arcOk_f HB.out))]) (hE0.trans hX)
          · have HB0 := Lib.hid hb0; clear hb0
            go_wp2_with fail
            refine (within_c _ _ _ _).mono ?_; rintro e w1 ⟨rfl, rfl⟩
            cases hb1 : inB y.t 0 (m.s - 1)
            · have HB := Lib.hid hb1; clear hb1
              go_wp2_with fail
              go_ret
              exact RV.int (by rw [validM_a HS.out hl hlt (by rw [HY.out]; exact (arcOk_t HB.out))]) (hE0.trans hX)
            · have HB1 := Lib.hid hb1; clear hb1
              go_wp2_with fail
              refine (isSound_c _ _).mono ?_; rintro e w1 ⟨rfl, rfl⟩
              cases hb2 : inB y.i 0 5
              · have HB := Lib.hid hb2; clear hb2
                go_wp2_with fail
                go_ret
                exact RV.int (by rw [validM_a HS.out hl hlt (by rw [HY.out]; exact (arcOk_i HB.out))]) (hE0.trans hX)
              · have HB2 := Lib.hid hb2; clear hb2
                go_wp2_with fail
                refine (isSound_c _ _).mono ?_; rintro e w1 ⟨rfl, rfl⟩
                cases hb3 : inB y.o 0 5
                · have HB := Lib.hid hb3; clear hb3
                  go_wp2_with fail
                  go_ret
                  exact RV.int (by rw [validM_a HS.out hl hlt (by rw [HY.out]; exact (arcOk_o HB.out))]) (hE0.trans hX)
                · have HB3 := Lib.hid hb3; clear hb3
                  go_wp2_with fail
                  go_roundg (gk-1)
                  case measure => omega
                  case rel => exact ⟨k+1, by omega, by omega, by go_num, hX, range_step hE.out (by rw [HY.out]; exact (arcOk_y HB0.out HB1.out HB2.out HB3.out))⟩
        · have HALL : Hid (∀ j, j < m.a.length → arcOk m.s (arcA m.a j) = true) := Lib.hid (fun j hj => hE.out j (by omega))
          clear hE
          go_wp2_with fail
          refine (isSet_c _ m.e m.s wr (HR.out.e.ext hB) hs1 hs2).mono ?_; rintro e w1 ⟨rfl, rfl⟩
          cases hb : setB m.e m.s
          · have HB := Lib.hid hb; clear hb
            go_wp2_with fail
            go_ret
            exact RV.int (by rw [validM_e HS.out hl HALL.out HB.out]) (hE0.trans hB)
          · have HB := Lib.hid hb; clear hb
            obtain ⟨w0, hw0⟩ : ∃ w0, w0 = wr := ⟨_, rfl⟩
            rw [← hw0]
            rw [← hw0] at hB
            clear hw0 hk hk2 hlt
            generalize k = kq at *
            go_wp2_with fail
            go_loopg [60] m.a.length (fun z i wr => ∃ k : Nat, k ≤ m.a.length ∧ m.a.length ≤ k + z ∧ i = .int .i64 k ∧ Ext wA wr ∧ Hid (∀ j, j < k → (!hasA m.a j (arcA m.a j)) = true))
            case atStart => exact ⟨0, by omega, by omega, rfl, hB, fun j hj => by omega⟩
            case round =>
              clear hB
              obtain ⟨k, hk, hk2, rfl, hB, hE⟩ := hrel
              by_cases hlt : k < m.a.length
              · obtain ⟨ba, oa, rfl, hc0, hc1, hc2, hc3⟩ := HA.out k hlt
                replace hc0 := hB.keep hc0
                replace hc1 := hB.keep hc1
                replace hc2 := hB.keep hc2
                replace hc3 := hB.keep hc3
                generalize hy : arcA m.a k = y at *
                have HY := Lib.hid hy; clear hy
                obtain ⟨wB, hwB⟩ : ∃ wB, wB = wr.alloc (.cells #[.int .i64 y.f, .int .i64 y.t, .int .i64 y.i, .int .i64 y.o] 50) := ⟨_, rfl⟩
                have hEB : Ext wr wB := by rw [hwB]; exact Ext.alloc _ _
                have b0 : ∀ W, Ext wB W → W.cell? ⟨wr.heap.size, 0, none⟩ = some (.int .i64 y.f) := by rw [hwB]; exact kept_alloc wr _ _ rfl
                have b1 : ∀ W, Ext wB W → W.cell? ⟨wr.heap.size, 1, none⟩ = some (.int .i64 y.t) := by rw [hwB]; exact kept_alloc wr _ _ rfl
                have b2 : ∀ W, Ext wB W → W.cell? ⟨wr.heap.size, 2, none⟩ = some (.int .i64 y.i) := by rw [hwB]; exact kept_alloc wr _ _ rfl
                have b3 : ∀ W, Ext wB W → W.cell? ⟨wr.heap.size, 3, none⟩ = some (.int .i64 y.o) := by rw [hwB]; exact kept_alloc wr _ _ rfl
                have HWB := Lib.hid hwB; clear hwB
                have hs : ∀ s : Later wB, Ext wA s.w := fun s => hB.trans (hEB.trans s.ext)
                have hsb : ∀ s : Later wB, Ext wB s.w := fun s => s.ext
                have hkl : k ≤ m.a.length := hk
                have HC : Hid (∀ s : Later wB, Calls Try.prog 76 #[.slice (some ⟨ba, oa, none⟩) k ca, .agg #[.int .i64 y.f, .int .i64 y.t, .int .i64 y.i, .int .i64 y.o]] s.w (RV (.bool (hasA m.a k y)) s.w)) := Lib.hid (fun s => by
                  have := containsA_c _ _ y s.w ((HR.out.a.ext (hs s)).take hkl)
                  rwa [show (m.a.take k).length = k by simp; omega, hasA_take] at this)
                cases hb : hasA m.a k y
                · rw [hb] at HC
                  have HBB := Lib.hid hb; clear hb
                  go_wp2_with fail
                  rw [← HWB.out]
                  refine wp_region_later (by kernel_rfl) (by kernel_rfl) ?_
                  repeat (go_big_quiet_step ((first | (go_at_call 76; first | with_reducible exact Later.call (HC.out _)))))
                  refine wpQuiet_nil ?_
                  intro w5 hw'
                  obtain ⟨⟨_, hx5⟩, rfl⟩ := hw'
                  clear hs hsb
                  have hX := hB.trans (hEB.trans hx5)
                  go_wp2_with fail
                  go_roundg (gk-1)
                  case measure => omega
                  case rel => exact ⟨k+1, by omega, by omega, by go_num, hX, range_step hE.out (by rw [HY.out, HBB.out]; rfl)⟩
                · rw [hb] at HC
                  have HBB := Lib.hid hb; clear hb
                  go_wp2_with fail
                  rw [← HWB.out]
                  refine wp_region_later (by kernel_rfl) (by kernel_rfl) ?_
                  repeat (go_big_quiet_step ((first | (go_at_call 76; first | with_reducible exact Later.call (HC.out _)))))
                  refine wpQuiet_nil ?_
                  intro w5 hw'
                  obtain ⟨⟨_, hx5⟩, rfl⟩ := hw'
                  clear hs hsb
                  have hX := hB.trans (hEB.trans hx5)
                  go_wp2_with fail
                  go_ret
                  exact RV.int (by rw [validM_t HS.out hl HALL.out HB.out hlt (by rw [HY.out]; exact HBB.out)]) (hE0.trans hX)
              · go_wp2_with fail
                go_ret
                exact RV.int (by rw [validM_o HS.out hl HALL.out HB.out (fun j hj => hE.out j (by omega))]) (hE0.trans hB)

set_option maxHeartbeats 4000000 in
set_option maxRecDepth 100000 in
theorem rValidate_c (av ev : Value) (m : Mac) (w : World) (h : MacR w av ev m) : Calls Try.prog 42 #[.agg #[.int .i64 m.s, av, ev]] w (RV (.int .i64 (validM m)) w) := by
  obtain ⟨wA, hwA⟩ : ∃ wA, wA = w.alloc (.cells #[.int .i64 m.s, av, ev] 25) := ⟨_, rfl⟩
  have hE0 : Ext w wA := by rw [hwA]; exact Ext.alloc _ _
  have k0 : ∀ W, Ext wA W → W.cell? ⟨w.heap.size, 0, none⟩ = some (.int .i64 m.s) := by rw [hwA]; exact kept_alloc w _ _ rfl
  have k1 : ∀ W, Ext wA W → W.cell? ⟨w.heap.size, 1, none⟩ = some av := by rw [hwA]; exact kept_alloc w _ _ rfl
  have k2 : ∀ W, Ext wA W → W.cell? ⟨w.heap.size, 2, none⟩ = some ev := by rw [hwA]; exact kept_alloc w _ _ rfl
  have H0 : Ext wA wA := Ext.refl _
  have HR := Lib.hid (h.ext hE0)
  obtain ⟨aa, ca, rfl, hla, hma, HA⟩ := (h.ext hE0).a.open_
  obtain ⟨ae, ce, rfl, hle, hme, HE⟩ := (h.ext hE0).e.open_
  have HW := Lib.hid hwA; clear hwA h
  have heq := fun W x y => run_eql_arc W x y
  go_enter Try.func42, Try.ntmps42
  go_wp2_with fail
  rw [← HW.out]
  refine (rwithin_c _ _ _ _).mono ?_; rintro e w1 ⟨rfl, rfl⟩
  cases hs : inB m.s 1 9
  · have HS := Lib.hid hs; clear hs
    go_wp2_with fail
    go_ret
    exact RV.int (by rw [validM_s HS.out]) hE0
  · obtain ⟨hs1, hs2⟩ := inB_bd hs
    have HS := Lib.hid hs; clear hs
    by_cases hl : 60 < m.a.length
    · go_wp2_with fail
      go_ret
      exact RV.int (by rw [validM_l HS.out hl]) hE0
    · go_wp2_with fail
      go_loopg [3] m.a.length (fun z i wr => ∃ k : Nat, k ≤ m.a.length ∧ m.a.length ≤ k + z ∧ i = .int .i64 k ∧ Ext wA wr ∧ Hid (∀ j, j < k → arcOk m.s (arcA m.a j) = true))
      case atStart => exact ⟨0, by omega, by omega, rfl, Ext.refl _, fun j hj => by omega⟩
      case round =>
        obtain ⟨k, hk, hk2, rfl, hB, hE⟩ := hrel
        by_cases hlt : k < m.a.length
        · obtain ⟨ba, oa, rfl, hc0, hc1, hc2, hc3⟩ := HA.out k hlt
          replace hc0 := hB.keep hc0
          replace hc1 := hB.keep hc1
          replace hc2 := hB.keep hc2
          replace hc3 := hB.keep hc3
          generalize hy : arcA m.a k = y at *
          have HY := Lib.hid hy; clear hy
          have hX : Ext wA (wr.alloc (.cells #[.int .i64 y.f, .int .i64 y.t, .int .i64 y.i, .int .i64 y.o] 50)) := hB.trans (Ext.alloc _ _)
          go_wp2_with fail
          refine (rwithin_c _ _ _ _).mono ?_; rintro e w1 ⟨rfl, rfl⟩
          cases hb0 : inB y.f 0 (m.s - 1)
          · have HB := Lib.hid hb0; clear hb0
            go_wp2_with fail
            go_ret
            exact RV.int (by rw [validM_a HS.out hl hlt (by rw [HY.out]; exact (arcOk_f HB.out))]) (hE0.trans hX)
          · have HB0 := Lib.hid hb0; clear hb0
            go_wp2_with fail
            refine (rwithin_c _ _ _ _).mono ?_; rintro e w1 ⟨rfl, rfl⟩
            cases hb1 : inB y.t 0 (m.s - 1)
            · have HB := Lib.hid hb1; clear hb1
              go_wp2_with fail
              go_ret
              exact RV.int (by rw [validM_a HS.out hl hlt (by rw [HY.out]; exact (arcOk_t HB.out))]) (hE0.trans hX)
            · have HB1 := Lib.hid hb1; clear hb1
              go_wp2_with fail
              refine (rIsSound_c _ _).mono ?_; rintro e w1 ⟨rfl, rfl⟩
              cases hb2 : inB y.i 0 5
              · have HB := Lib.hid hb2; clear hb2
                go_wp2_with fail
                go_ret
                exact RV.int (by rw [validM_a HS.out hl hlt (by rw [HY.out]; exact (arcOk_i HB.out))]) (hE0.trans hX)
              · have HB2 := Lib.hid hb2; clear hb2
                go_wp2_with fail
                refine (rIsSound_c _ _).mono ?_; rintro e w1 ⟨rfl, rfl⟩
                cases hb3 : inB y.o 0 5
                · have HB := Lib.hid hb3; clear hb3
                  go_wp2_with fail
                  go_ret
                  exact RV.int (by rw [validM_a HS.out hl hlt (by rw [HY.out]; exact (arcOk_o HB.out))]) (hE0.trans hX)
                · have HB3 := Lib.hid hb3; clear hb3
                  go_wp2_with fail
                  go_roundg (gk-1)
                  case measure => omega
                  case rel => exact ⟨k+1, by omega, by omega, by go_num, hX, range_step hE.out (by rw [HY.out]; exact (arcOk_y HB0.out HB1.out HB2.out HB3.out))⟩
        · have HALL : Hid (∀ j, j < m.a.length → arcOk m.s (arcA m.a j) = true) := Lib.hid (fun j hj => hE.out j (by omega))
          clear hE
          obtain ⟨w0, hw0⟩ : ∃ w0, w0 = wr := ⟨_, rfl⟩
          rw [← hw0]
          rw [← hw0] at hB
          clear hw0
          go_wp2_with fail
          clear hk hk2 hlt
          generalize k = kq at *
          go_loopg [5] m.e.length (fun z i wr => ∃ k : Nat, k ≤ m.e.length ∧ m.e.length ≤ k + z ∧ i = .int .i64 k ∧ Ext wA wr ∧ Hid (∀ j, j < k → setAt m.e m.s j = true))
          case atStart => exact ⟨0, by omega, by omega, rfl, hB, fun j hj => by omega⟩
          case round =>
            clear hB
            obtain ⟨k, hk, hk2, rfl, hB, hE⟩ := hrel
            by_cases hlt : k < m.e.length
            · obtain ⟨be, oe, rfl, hc⟩ := HE.out k hlt
              have HAT := Lib.hid (show setAt m.e m.s k = (inB (m.e[k]?.getD 0) 0 (m.s - 1) && !(decide (0 < k) && decide (m.e[k]?.getD 0 ≤ m.e[k - 1]?.getD 0))) from rfl)
              have hs : ∀ s : Later wr, Ext wA s.w := fun s => hB.trans s.ext
              have hws : IntKind.i64.wrap (m.s - 1) = m.s - 1 := IntWalk.i64_in _ (by omega)
              by_cases hk0 : 0 < k
              · obtain ⟨_, _, he, hd⟩ := HE.out (k - 1) (by omega)
                injection he with he; injection he with he1 he2 _; subst he1 he2
                generalize m.e[k]?.getD 0 = x at *
                generalize m.e[k - 1]?.getD 0 = y at *
                have HC := Lib.hid (fun s : Later wr => rwithin_c x 0 (m.s - 1) s.w)
                have q0 := fun s : Later wr => (hB.trans s.ext).keep hc
                have q1 := fun s : Later wr => (hB.trans s.ext).keep hd
                cases hb : inB x 0 (m.s - 1)
                · rw [hb] at HC
                  have HBB := Lib.hid hb; clear hb
                  go_wp2_with fail
                  have hw1 : IntKind.i64.wrap ((k : Int) - 1) = (k : Int) - 1 := IntWalk.i64_in _ (by omega)
                  have hw2 : ((k : Int) - 1).toNat = k - 1 := by omega
                  have hw3 : (0 : Int) ≤ (k : Int) - 1 := by omega
                  have hw4 : (k : Int) - 1 < (m.e.length : Int) := by omega
                  have hw5 : k - 1 < m.e.length := by omega
                  refine wp_region_later (by kernel_rfl) (by kernel_rfl) ?_
                  repeat (go_big_quiet_step ((first | (go_at_call 61; first | with_reducible exact Later.callP (HC.out _)))))
                  refine wpQuiet_nil ?_
                  intro w5 hw'
                  obtain ⟨⟨_, hx5⟩, rfl⟩ := hw'
                  clear hs q0 q1 hw1 hw2 hw3 hw4 hw5 hws
                  go_wp2_with fail
                  go_ret
                  exact RV.int (by rw [validM_e HS.out hl HALL.out (by rw [setB, allB_false hlt (by rw [HAT.out, HBB.out]; simp)])]) (hE0.trans (hB.trans hx5))
                · rw [hb] at HC
                  have HBB := Lib.hid hb; clear hb
                  by_cases hle : x ≤ y
                  · have hled : decide (y ≥ x) = true := by simpa using hle
                    have hled2 : decide (x ≤ y) = true := by simpa using hle
                    go_wp2_with fail
                    have hw1 : IntKind.i64.wrap ((k : Int) - 1) = (k : Int) - 1 := IntWalk.i64_in _ (by omega)
                    have hw2 : ((k : Int) - 1).toNat = k - 1 := by omega
                    have hw3 : (0 : Int) ≤ (k : Int) - 1 := by omega
                    have hw4 : (k : Int) - 1 < (m.e.length : Int) := by omega
                    have hw5 : k - 1 < m.e.length := by omega
                    refine wp_region_later (by kernel_rfl) (by kernel_rfl) ?_
                    repeat (go_big_quiet_step ((first | (go_at_call 61; first | with_reducible exact Later.callP (HC.out _)))))
                    refine wpQuiet_nil ?_
                    intro w5 hw'
                    obtain ⟨⟨_, hx5⟩, rfl⟩ := hw'
                    clear hs q0 q1 hw1 hw2 hw3 hw4 hw5 hws
                    go_wp2_with fail
                    go_ret
                    exact RV.int (by rw [validM_e HS.out hl HALL.out (by rw [setB, allB_false hlt (by rw [HAT.out, HBB.out]; simp [hk0, hle])])]) (hE0.trans (hB.trans hx5))
                  · have hled : decide (y ≥ x) = false := by simpa using hle
                    have hled2 : decide (x ≤ y) = false := by simpa using hle
                    go_wp2_with fail
                    have hw1 : IntKind.i64.wrap ((k : Int) - 1) = (k : Int) - 1 := IntWalk.i64_in _ (by omega)
                    have hw2 : ((k : Int) - 1).toNat = k - 1 := by omega
                    have hw3 : (0 : Int) ≤ (k : Int) - 1 := by omega
                    have hw4 : (k : Int) - 1 < (m.e.length : Int) := by omega
                    have hw5 : k - 1 < m.e.length := by omega
                    refine wp_region_later (by kernel_rfl) (by kernel_rfl) ?_
                    repeat (go_big_quiet_step ((first | (go_at_call 61; first | with_reducible exact Later.callP (HC.out _)))))
                    refine wpQuiet_nil ?_
                    intro w5 hw'
                    obtain ⟨⟨_, hx5⟩, rfl⟩ := hw'
                    clear hs q0 q1 hw1 hw2 hw3 hw4 hw5 hws
                    go_wp2_with fail
                    go_roundg (gk-1)
                    case measure => omega
                    case rel => exact ⟨k+1, by omega, by omega, by go_num, hB.trans hx5, range_step hE.out (by rw [HAT.out, HBB.out]; simp [hle])⟩
              · obtain rfl : k = 0 := by omega
                rw [Nat.add_zero] at hc
                generalize m.e[0]?.getD 0 = x at *
                have HC := Lib.hid (fun s : Later wr => rwithin_c x 0 (m.s - 1) s.w)
                have q0 := fun s : Later wr => (hB.trans s.ext).keep hc
                cases hb : inB x 0 (m.s - 1)
                · rw [hb] at HC
                  have HBB := Lib.hid hb; clear hb
                  go_wp2_with fail
                  refine wp_region_later (by kernel_rfl) (by kernel_rfl) ?_
                  repeat (go_big_quiet_step ((first | (go_at_call 61; first | with_reducible exact Later.callP (HC.out _)))))
                  refine wpQuiet_nil ?_
                  intro w5 hw'
                  obtain ⟨⟨_, hx5⟩, rfl⟩ := hw'
                  clear hs q0 hws
                  go_wp2_with fail
                  go_ret
                  exact RV.int (by rw [validM_e HS.out hl HALL.out (by rw [setB, allB_false hlt (by rw [HAT.out, HBB.out]; simp)])]) (hE0.trans (hB.trans hx5))
                · rw [hb] at HC
                  have HBB := Lib.hid hb; clear hb
                  go_wp2_with fail
                  refine wp_region_later (by kernel_rfl) (by kernel_rfl) ?_
                  repeat (go_big_quiet_step ((first | (go_at_call 61; first | with_reducible exact Later.callP (HC.out _)))))
                  refine wpQuiet_nil ?_
                  intro w5 hw'
                  obtain ⟨⟨_, hx5⟩, rfl⟩ := hw'
                  clear hs q0 hws
                  go_wp2_with fail
                  go_roundg (gk-1)
                  case measure => omega
                  case rel => exact ⟨1, by omega, by omega, by go_num, hB.trans hx5, range_step hE.out (by rw [HAT.out, HBB.out]; simp)⟩
            · have HEB : Hid (setB m.e m.s = true) := Lib.hid (by rw [setB, allB_true (fun j hj => hE.out j (by omega))])
              clear hE
              obtain ⟨w0, hw0⟩ : ∃ w0, w0 = wr := ⟨_, rfl⟩
              rw [← hw0]
              rw [← hw0] at hB
              clear hw0
              go_wp2_with fail
              clear hk hk2 hlt
              generalize k = kr at *
              go_loopg [6] m.a.length (fun z i wr => ∃ k : Nat, k ≤ m.a.length ∧ m.a.length ≤ k + z ∧ i = .int .i64 k ∧ Ext wA wr ∧ Hid (∀ j, j < k → (!hasA m.a j (arcA m.a j)) = true))
              case atStart => exact ⟨0, by omega, by omega, rfl, hB, fun j hj => by omega⟩
              case round =>
                clear hB
                obtain ⟨k, hk, hk2, rfl, hB, hE⟩ := hrel
                by_cases hlt : k < m.a.length
                · obtain ⟨ba, oa, rfl, hc0, hc1, hc2, hc3⟩ := HA.out k hlt
                  generalize hy : arcA m.a k = y at *
                  have HY := Lib.hid hy; clear hy
                  obtain ⟨w0, hw0⟩ : ∃ w0, w0 = wr := ⟨_, rfl⟩
                  rw [← hw0]
                  rw [← hw0] at hB
                  clear hw0
                  obtain ⟨g1, rfl⟩ : ∃ g : Nat, g = gk := ⟨_, rfl⟩
                  go_wp2_with fail
                  go_loopg [7] k (fun z i wr => ∃ j : Nat, j ≤ k ∧ k ≤ j + z ∧ i = .int .i64 j ∧ Ext wA wr ∧ Hid (∀ t, t < j → (y == arcA m.a t) = false))
                  case atStart => exact ⟨0, by omega, by omega, rfl, hB, fun j hj => by omega⟩
                  case round =>
                    clear hB
                    obtain ⟨j, hj, hj2, rfl, hB, hD⟩ := hrel
                    by_cases hjk : j < k
                    · obtain ⟨_, _, he, hd0, hd1, hd2, hd3⟩ := HA.out j (by omega)
                      injection he with he; injection he with he1 he2 _; subst he1 he2
                      generalize hx : arcA m.a j = x at *
                      have HX := Lib.hid hx; clear hx
                      have hs : ∀ s : Later wr, Ext wA s.w := fun s => hB.trans s.ext
                      have q0 := fun s : Later wr => (hB.trans s.ext).keep hc0
                      have q1 := fun s : Later wr => (hB.trans s.ext).keep hc1
                      have q2 := fun s : Later wr => (hB.trans s.ext).keep hc2
                      have q3 := fun s : Later wr => (hB.trans s.ext).keep hc3
                      have q4 := fun s : Later wr => (hB.trans s.ext).keep hd0
                      have q5 := fun s : Later wr => (hB.trans s.ext).keep hd1
                      have q6 := fun s : Later wr => (hB.trans s.ext).keep hd2
                      have q7 := fun s : Later wr => (hB.trans s.ext).keep hd3
                      cases hxy : (y == x)
                      · go_wp2_with fail
                        refine wp_region_later (by kernel_rfl) (by kernel_rfl) ?_
                        repeat (go_big_quiet_step (fail))
                        refine wpQuiet_nil ?_
                        intro w5 hw'
                        obtain ⟨⟨_, hx5⟩, rfl⟩ := hw'
                        clear hs q0 q1 q2 q3 q4 q5 q6 q7
                        go_wp2_with fail
                        have HXY := Lib.hid hxy; clear hxy
                        go_roundg (gk-1)
                        case measure => omega
                        case rel => exact ⟨j+1, by omega, by omega, by go_num, hB.trans hx5, range_step hD.out (by rw [HX.out]; exact HXY.out)⟩
                      · go_wp2_with fail
                        refine wp_region_later (by kernel_rfl) (by kernel_rfl) ?_
                        repeat (go_big_quiet_step (fail))
                        refine wpQuiet_nil ?_
                        intro w5 hw'
                        obtain ⟨⟨_, hx5⟩, rfl⟩ := hw'
                        clear hs q0 q1 q2 q3 q4 q5 q6 q7
                        go_wp2_with fail
                        go_ret
                        exact RV.int (by rw [validM_t HS.out hl HALL.out HEB.out hlt (by rw [HY.out]; exact hasA_yes hjk (by rw [HX.out]; exact hxy))]) (hE0.trans (hB.trans hx5))
                    · go_wp2_with fail
                      go_roundg (g1-1)
                      case measure => omega
                      case rel => exact ⟨k+1, by omega, by omega, by go_num, hB, range_step hE.out (by rw [HY.out, hasA_no (fun t ht => hD.out t (by omega))]; rfl)⟩
                · go_wp2_with fail
                  go_ret
                  exact RV.int (by rw [validM_o HS.out hl HALL.out HEB.out (fun j hj => hE.out j (by omega))]) (hE0.trans hB)
end Go.Proofs.Ytpbflkbelhlogaa
