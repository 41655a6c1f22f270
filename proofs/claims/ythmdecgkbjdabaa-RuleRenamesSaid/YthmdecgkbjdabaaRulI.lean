/- A rule along a word; both packages. -/
import Derived.Test.YthmdecgkbjdabaaRulH
namespace Go.Proofs.Ythmdecgkbjdabaa
open Go.RowKit Go.Shelf
set_option linter.unusedVariables false

/-! ## plain -/
def alongF (x : Rul) : Nat → List Int → Nat → Option (List Int)
  | 0, out, _ => some out
  | n + 1, out, i => if placeB x out i then (if 8 < (putL x out i).length then none else alongF x n (putL x out i) (i + x.t.length + 1 - lng x)) else alongF x n out (i + 1)
def optK : Option (List Int) → Int
  | none => 3
  | some _ => 0
def optL : Option (List Int) → List Int
  | none => []
  | some l => l
def alongK (x : Rul) (l : List Int) : Int := if wordK x l = 0 then optK (alongF x (l.length + 1) l 0) else wordK x l
def alongL (x : Rul) (l : List Int) : List Int := if wordK x l = 0 then optL (alongF x (l.length + 1) l 0) else []
theorem sndB_iff (l : List Int) : sndB l = true ↔ ∀ y ∈ l, inB y 0 5 = true := by
  unfold sndB allB
  rw [List.all_eq_true]
  constructor
  · intro h y hy
    obtain ⟨i, hi, rfl⟩ := List.mem_iff_getElem.1 hy
    have := h i (by simpa using hi)
    rwa [List.getElem?_eq_getElem hi] at this
  · intro h i hi
    have hi : i < l.length := by simpa using hi
    rw [List.getElem?_eq_getElem hi]
    exact h _ (List.getElem_mem hi)
theorem sndB_put {x : Rul} {l : List Int} {i : Nat} (h : sndB l = true) (ht : sndB x.t = true) : sndB (putL x l i) = true := by
  rw [sndB_iff] at *
  intro y hy
  rw [putL, List.mem_append, List.mem_append] at hy
  rcases hy with hy | hy | hy
  · exact h y (List.mem_of_mem_take hy)
  · exact ht y hy
  · exact h y (List.mem_of_mem_drop hy)
theorem placeB_nat {x : Rul} {l : List Int} {i : Nat} (h : placeB x l i = true) : i + lng x ≤ l.length := by
  simp only [placeB, Bool.and_eq_true, decide_eq_true_eq] at h
  omega
theorem mem_sel {n : Nat} {f : Nat → Bool} {i : Int} : i ∈ sel n f ↔ ∃ k : Nat, k < n ∧ f k = true ∧ i = k := by
  simp only [sel, List.mem_map, List.mem_filter, List.mem_range]
  constructor
  · rintro ⟨k, ⟨hk, h1⟩, he⟩; exact ⟨k, hk, h1, he.symm⟩
  · rintro ⟨k, hk, h1, he⟩; exact ⟨k, ⟨hk, h1⟩, he.symm⟩
/-- to be among the places -/
theorem has_place (x : Rul) (l : List Int) (i : Int) : hasB (placesL x l) i = placeB x l i := by
  rw [hasB_eq, Bool.eq_iff_iff, List.contains_iff_mem, placesL_all, mem_sel]
  constructor
  · rintro ⟨k, _, h, rfl⟩; exact h
  · intro h
    have h2 := h
    simp only [placeB, Bool.and_eq_true, decide_eq_true_eq] at h2
    refine ⟨i.toNat, by have := h2.1.2; omega, ?_, by omega⟩
    rw [Int.toNat_of_nonneg h2.1.1]; exact h
/-- the state of the loop -/
def AlW (x : Rul) (R : Option (List Int)) (B : Nat) (w1 : World) (m : Nat) (i v : Value) (wr : World) : Prop :=
  ∃ (n f : Nat) (z : Int) (out : List Int), i = .int .i64 z ∧ z = n ∧ f ≤ m ∧ n + f = out.length + 1 ∧ out.length ≤ 8 ∧ sndB out = true ∧ alongF x f out n = R ∧ OInts 3 wr B v out ∧ Ext w1 wr

set_option maxHeartbeats 2000000 in
set_option maxRecDepth 100000 in
theorem Along_c (tv lv rv wv : Value) (x : Rul) (l : List Int) (w : World) (h : RulR w tv lv rv x) (hw : Ints w wv l) :
    Calls Try.prog 15 #[.agg #[.int .i64 x.f, tv, lv, rv], wv] w (RO2 (alongL x l) (alongK x l) w) := by
  obtain ⟨wA, hwA⟩ : ∃ wA, wA = w.alloc (.cells #[.int .i64 x.f, tv, lv, rv] 24) := ⟨_, rfl⟩
  have hE0 : Ext w wA := by rw [hwA]; exact Ext.alloc _ _
  have k0 : ∀ W, Ext wA W → W.cell? ⟨w.heap.size, 0, none⟩ = some (.int .i64 x.f) := by rw [hwA]; exact kept_alloc w _ _ rfl
  have k1 : ∀ W, Ext wA W → W.cell? ⟨w.heap.size, 1, none⟩ = some tv := by rw [hwA]; exact kept_alloc w _ _ rfl
  have k2 : ∀ W, Ext wA W → W.cell? ⟨w.heap.size, 2, none⟩ = some lv := by rw [hwA]; exact kept_alloc w _ _ rfl
  have k3 : ∀ W, Ext wA W → W.cell? ⟨w.heap.size, 3, none⟩ = some rv := by rw [hwA]; exact kept_alloc w _ _ rfl
  have H0 : Ext wA wA := Ext.refl _
  have HI := Lib.hid (hw.ext hE0)
  have HR := Lib.hid (h.ext hE0)
  have HK := Lib.hid (worded_c tv lv rv wv x l wA (h.ext hE0) (hw.ext hE0))
  have hs0 := hE0.size
  obtain ⟨aw, cw, rfl, _⟩ := hw.open_
  obtain ⟨at_, ct, rfl, _⟩ := h.t.open_
  have HW := Lib.hid hwA; clear hwA h hw
  by_cases h0 : wordK x l = 0
  · obtain ⟨G, hl8, hsn⟩ := wordK_zero h0
    have HG := Lib.hid G; have HS := Lib.hid hsn; clear G hsn
    have ht2 := HG.out.len
    rw [alongK, alongL, if_pos h0, if_pos h0]
    rw [h0] at HK
    clear h0
    go_enter Try.func15, Try.ntmps15
    go_wp2_with fail
    rw [← HW.out]
    refine HK.out.mono ?_; rintro e w1 ⟨rfl, hx1⟩
    have hs1 := hx1.size
    go_wp2_with fail
    refine (cloneInts_c _ l w1 (HI.out.ext hx1) (by omega)).mono ?_; rintro e w2 ⟨v2, rfl, ho2, hx2⟩
    have ho2 := OInts.low ho2 (show w.heap.size ≤ w1.heap.size by omega)
    go_wp2_with fail
    have HRR := Lib.hid (show alongF x (l.length + 1) l 0 = alongF x (l.length + 1) l 0 from rfl)
    generalize hRR : alongF x (l.length + 1) l 0 = R at *
    clear HRR
    have HR0 := Lib.hid hRR; clear hRR
    go_loopg [8, 7] (l.length + 1) (AlW x R w.heap.size w2)
    case atStart => exact ⟨0, l.length + 1, 0, l, rfl, rfl, Nat.le_refl _, by omega, hl8, HS.out, HR0.out, ho2, Ext.refl _⟩
    case round =>
      obtain ⟨n, f, z, out, rfl, hz, hfm, hnf, ho8, hso, har, hoo, hB⟩ := hrel
      obtain rfl : z = (n : Int) := hz
      have HSO := Lib.hid hso; have HAR := Lib.hid har; have OO := Lib.hid hoo
      obtain ⟨ao, co, rfl, _⟩ := hoo.ints.open_
      clear hso har hoo
      have hXr := (hx1.trans hx2).trans hB
      have hsr := hXr.size
      cases f with
      | zero =>
        have HRN : R = some out := by rw [← HAR.out]; rfl
        subst HRN
        have hgt : ¬ ((n : Int) ≤ (out.length : Int)) := by omega
        go_wp2_with fail
        go_ret2
        exact ⟨_, rfl, OO.out, hE0.trans hXr⟩
      | succ f =>
        have hle : (n : Int) ≤ (out.length : Int) := by omega
        have hle2 : n ≤ out.length := by omega
        cases hpb : placeB x out n
        · have HPB := Lib.hid hpb; clear hpb
          have HAL := Lib.hid (show alongF x f out (n + 1) = R by have := HAR.out; rw [alongF, HPB.out] at this; exact this)
          go_wp2_with fail
          refine (places_c _ lv rv _ x out wr (HR.out.ext hXr) OO.out.ints HSO.out (by omega)).mono ?_; rintro e w3 ⟨v3, rfl, ho3, hx3⟩
          go_wp2_with fail
          refine (contains_c v3 _ (n : Int) w3 ho3.ints).mono ?_; rw [has_place]; rintro e w4 ⟨rfl, rfl⟩
          rw [HPB.out]
          have hx34 := hx3
          clear ho3
          have hX34 := hXr.trans hx34
          go_wp2_with fail
          go_roundg (gk-1)
          case measure => omega
          case rel => exact ⟨n + 1, f, _, out, rfl, by omega, by omega, by omega, ho8, HSO.out, HAL.out, OO.out.ext hx34, hB.trans hx34⟩
        · have HPB := Lib.hid hpb; clear hpb
          go_wp2_with fail
          refine (places_c _ lv rv _ x out wr (HR.out.ext hXr) OO.out.ints HSO.out (by omega)).mono ?_; rintro e w3 ⟨v3, rfl, ho3, hx3⟩
          go_wp2_with fail
          refine (contains_c v3 _ (n : Int) w3 ho3.ints).mono ?_; rw [has_place]; rintro e w4 ⟨rfl, rfl⟩
          rw [HPB.out]
          have hx34 := hx3
          clear ho3
          have hX34 := hXr.trans hx34
          have HAF := Lib.hid (show (if 8 < (putL x out n).length then none else alongF x f (putL x out n) (n + x.t.length + 1 - lng x)) = R by have := HAR.out; rw [alongF, HPB.out, if_pos rfl] at this; exact this)
          have hfit := placeB_nat HPB.out
          have HPL := Lib.hid (putL_len hfit)
          have HSP := Lib.hid (sndB_put (i := n) HSO.out HG.out.snd)
          have hll := lng_le x
          have hpl2 : (putL x out n).length ≤ 10 := by rw [HPL.out]; omega
          go_wp2_with fail
          refine (put_c _ lv rv _ x out n _ (HR.out.ext (hXr.trans hx34)) (OO.out.ints.ext hx34) hfit (by omega) (by omega)).mono ?_; rintro e w5 ⟨v5, rfl, ho5, hx5⟩
          have hx45 := hx34.trans hx5
          have hs4 := hx34.size
          have HO5 := Lib.hid (OInts.low ho5 (show w.heap.size ≤ w3.heap.size by omega))
          obtain ⟨a5, c5, rfl, _⟩ := ho5.ints.open_
          clear ho5
          have hX5 := hXr.trans hx45
          by_cases h8 : 8 < (putL x out n).length
          · have HRN : R = none := by rw [← HAF.out, if_pos h8]
            subst HRN
            go_wp2_with fail
            go_ret2
            exact ⟨_, rfl, OInts.nil _ _ _, hE0.trans hX5⟩
          · have HAL := Lib.hid (show alongF x f (putL x out n) (n + x.t.length + 1 - lng x) = R by have := HAF.out; rwa [if_neg h8] at this)
            have hs : ∀ s : Later w5, Ext wA s.w := fun s => hX5.trans s.ext
            have hw1 : IntKind.i64.wrap ((x.t.length : Int) + 1) = (x.t.length : Int) + 1 := IntWalk.i64_in _ (by omega)
            have hw2 : IntKind.i64.wrap ((x.t.length : Int) + 1 - (lng x : Int)) = (x.t.length : Int) + 1 - (lng x : Int) := IntWalk.i64_in _ (by omega)
            have hw3 : IntKind.i64.wrap ((n : Int) + ((x.t.length : Int) + 1 - (lng x : Int))) = (n : Int) + ((x.t.length : Int) + 1 - (lng x : Int)) := IntWalk.i64_in _ (by omega)
            go_wp2_with fail
            refine wp_region_later (by kernel_rfl) (by kernel_rfl) ?_
            repeat (go_big_quiet_step (first | (go_at_call 33; first | with_reducible exact Later.call (long_c _ _ _ _ _))))
            refine wpQuiet_nil ?_
            intro w6 hw'
            obtain ⟨⟨_, hx6⟩, rfl⟩ := hw'
            clear hs hw1 hw2 hw3
            go_wp2_with fail
            go_roundg (gk-1)
            case measure => omega
            case rel => exact ⟨n + x.t.length + 1 - lng x, f, _, putL x out n, rfl, by omega, by omega, by have := HPL.out; omega, by omega, HSP.out, HAL.out, HO5.out.ext hx6, hB.trans (hx45.trans hx6)⟩
  · rw [alongK, alongL, if_neg h0, if_neg h0]
    have hk : (wordK x l != 0) = true := by simp [h0]
    generalize wordK x l = k at *
    clear h0
    go_enter Try.func15, Try.ntmps15
    go_wp2_with fail
    rw [← HW.out]
    refine HK.out.mono ?_; rintro e w1 ⟨rfl, hx1⟩
    go_wp2_with fail
    go_ret2
    exact ⟨_, rfl, OInts.nil _ _ _, hE0.trans hx1⟩

end Go.Proofs.Ythmdecgkbjdabaa

