/- Walks: numbers of entries; which entry is more special; the spec of the cells of two. -/
import Derived.Test.YtoepnpjjmfhnnaaRefE
import Derived.Test.YtoepnpjjmfhnnaaScript
namespace Go.Proofs.Ytoepnpjjmfhnnaa
open Go.RowKit Go.Shelf
set_option linter.unusedVariables false

def numB (es : List Ent) (i : Int) : Bool := decide (0 ≤ i) && decide (i ≤ (es.length : Int) - 1)
def numsI (sizes : List Int) (es : List Ent) (l : List Int) : Int := if validI sizes es = 0 then (if allB l.length (fun k => numB es (l[k]?.getD 0)) then 0 else 4) else validI sizes es
def nK (sizes : List Int) (es : List Ent) (i j : Int) : Int := if validI sizes es = 0 then (if numB es i && numB es j then 0 else 4) else validI sizes es
theorem numsI_two (sizes : List Int) (es : List Ent) (i j : Int) : numsI sizes es [i, j] = nK sizes es i j := by
  simp [numsI, nK, allB, List.range_succ]
theorem numsI_one (sizes : List Int) (es : List Ent) (i : Int) : numsI sizes es [i] = nK sizes es i i := by
  simp [numsI, nK, allB, List.range_succ]
theorem numB_nat {es : List Ent} {i : Int} (h : numB es i = true) : ∃ k : Nat, i = k ∧ k < es.length := by
  simp only [numB, Bool.and_eq_true, decide_eq_true_eq] at h
  exact ⟨i.toNat, by omega, by omega⟩
theorem nK_zero {sizes : List Int} {es : List Ent} {i j : Int} (h : nK sizes es i j = 0) : ValidP sizes es ∧ ∃ a b : Nat, i = a ∧ j = b ∧ a < es.length ∧ b < es.length := by
  unfold nK at h
  split at h
  · rename_i h1
    split at h
    · rename_i h2
      rw [Bool.and_eq_true] at h2
      obtain ⟨a, ha, ha2⟩ := numB_nat h2.1
      obtain ⟨b, hb, hb2⟩ := numB_nat h2.2
      exact ⟨validI_zero h1, a, b, ha, hb, ha2, hb2⟩
    · omega
  · omega
theorem nK_swap (sizes : List Int) (es : List Ent) (i j : Int) : nK sizes es i j = nK sizes es j i := by
  unfold nK; rw [Bool.and_comm]

set_option maxHeartbeats 400000 in
theorem numbered_c (sv ev lv : Value) (sizes : List Int) (es : List Ent) (l : List Int) (w : World) (hp : Par w sv ev sizes es) (hl : Ints w lv l) :
    Calls Try.prog 73 #[.agg #[sv, ev], lv] w (RV (.int .i64 (numsI sizes es l)) w) := by
  obtain ⟨ae, ce, rfl, hle, hme, He⟩ := hp.e.open_
  have hA := Ext.alloc w (.cells #[sv, .slice ae es.length ce] 25)
  have HV := Lib.hid (validate_c sv _ sizes es _ (hp.s.ext hA) (hp.e.ext hA))
  clear hp He
  obtain ⟨al, cl, rfl, hll, hml, HL⟩ := hl.open_
  clear hl
  by_cases h0 : validI sizes es = 0
  · have hc : numsI sizes es l = if allB l.length (fun k => numB es (l[k]?.getD 0)) then 0 else 4 := by rw [numsI, if_pos h0]
    rw [h0] at HV
    have HC := Lib.hid hc
    generalize numsI sizes es l = ck at *
    clear h0 hc
    go_enter Try.func73, Try.ntmps73
    go_wp2_with fail
    refine HV.out.mono ?_; rintro e w1 ⟨rfl, hB⟩
    have hb1 := hB.keep (alloc_cell w #[sv, .slice ae es.length ce] 25 (i := 1) rfl)
    have hX := hA.trans hB
    go_wp2_with fail
    go_loopg [15] l.length (fun m i wr => ∃ k : Nat, k ≤ l.length ∧ l.length ≤ k + m ∧ i = .int .i64 k ∧ w1 = wr ∧ Hid (∀ j, j < k → numB es (l[j]?.getD 0) = true))
    case atStart => exact ⟨0, by omega, by omega, rfl, rfl, fun j hj => by omega⟩
    case round =>
      obtain ⟨k, hk, hk2, rfl, rfl, hE⟩ := hrel
      by_cases hlt : k < l.length
      · obtain ⟨ba, oa, rfl, hc1⟩ := HL.out k hlt
        replace hc1 := hX.keep hc1
        generalize hx : l[k]?.getD 0 = x at *
        have HXX := Lib.hid hx; clear hx
        have HWi := Lib.hid (within_c x 0 ((es.length : Int) - 1))
        cases hb : numB es x
        · rw [show (decide (0 ≤ x) && decide (x ≤ (es.length : Int) - 1)) = false from hb] at HWi
          have HX := Lib.hid hb; clear hb
          go_wp2_with fail
          refine (HWi.out _).mono ?_; rintro e w2 ⟨rfl, rfl⟩
          go_wp2_with fail
          go_ret
          exact RV.int (by rw [HC.out, allB_false hlt (by rw [HXX.out]; exact HX.out)]; rfl) hX
        · rw [show (decide (0 ≤ x) && decide (x ≤ (es.length : Int) - 1)) = true from hb] at HWi
          have HX := Lib.hid hb; clear hb
          go_wp2_with fail
          refine (HWi.out _).mono ?_; rintro e w2 ⟨rfl, rfl⟩
          go_wp2_with fail
          go_roundg (gk-1)
          case measure => omega
          case rel => exact ⟨k+1, by omega, by omega, by go_num, rfl, range_step hE.out (by rw [HXX.out]; exact HX.out)⟩
      · go_wp2_with fail
        go_ret
        exact RV.int (by rw [HC.out, allB_true (fun j hj => hE.out j (by omega))]; rfl) hX
  · rw [show numsI sizes es l = validI sizes es by rw [numsI, if_neg h0]]
    generalize validI sizes es = k at *
    have hk : (k != 0) = true := by simp [h0]
    have H0 := Lib.hid h0; clear h0
    go_enter Try.func73, Try.ntmps73
    go_wp2_with fail
    refine HV.out.mono ?_; rintro e w1 ⟨rfl, hB⟩
    go_wp2_with fail
    go_ret
    exact RV.int rfl (hA.trans hB)

set_option maxHeartbeats 400000 in
theorem rNumbered_c (sv ev : Value) (sizes : List Int) (es : List Ent) (i j : Int) (w : World) (hp : Par w sv ev sizes es) :
    Calls Try.prog 75 #[.agg #[sv, ev], .int .i64 i, .int .i64 j] w (RV (.int .i64 (nK sizes es i j)) w) := by
  obtain ⟨ae, ce, rfl, hle, hme, He⟩ := hp.e.open_
  have hA := Ext.alloc w (.cells #[sv, .slice ae es.length ce] 25)
  have HV := Lib.hid (rValidate_c sv _ sizes es _ (hp.s.ext hA) (hp.e.ext hA))
  clear hp He
  by_cases h0 : validI sizes es = 0
  · rw [show nK sizes es i j = if numB es i && numB es j then 0 else 4 by rw [nK, if_pos h0]]
    rw [h0] at HV
    clear h0
    have HW1 := Lib.hid (rWithin_c i 0 ((es.length : Int) - 1))
    have HW2 := Lib.hid (rWithin_c j 0 ((es.length : Int) - 1))
    change Hid (∀ w, Calls _ _ _ _ (RP (.bool (numB es i)) w)) at HW1
    change Hid (∀ w, Calls _ _ _ _ (RP (.bool (numB es j)) w)) at HW2
    cases hb : numB es i
    · rw [hb] at HW1
      clear hb
      simp only [Bool.false_and, Bool.false_eq_true, if_false]
      go_enter Try.func75, Try.ntmps75
      go_wp2_with fail
      refine HV.out.mono ?_; rintro e w1 ⟨rfl, hB⟩
      have hb1 := hB.keep (alloc_cell w #[sv, .slice ae es.length ce] 25 (i := 1) rfl)
      go_wp2_with fail
      refine (HW1.out _).mono ?_; rintro e w2 ⟨rfl, rfl⟩
      go_wp2_with fail
      go_ret
      exact RV.int rfl (hA.trans hB)
    · rw [hb] at HW1
      clear hb
      simp only [Bool.true_and]
      cases hb2 : numB es j
      all_goals
        rw [hb2] at HW2
        clear hb2
        simp only [Bool.false_eq_true, if_false, if_true]
        go_enter Try.func75, Try.ntmps75
        go_wp2_with fail
        refine HV.out.mono ?_; rintro e w1 ⟨rfl, hB⟩
        have hb1 := hB.keep (alloc_cell w #[sv, .slice ae es.length ce] 25 (i := 1) rfl)
        go_wp2_with fail
        refine (HW1.out _).mono ?_; rintro e w2 ⟨rfl, rfl⟩
        go_wp2_with fail
        refine (HW2.out _).mono ?_; rintro e w2 ⟨rfl, rfl⟩
        go_wp2_with fail
        go_ret
        exact RV.int rfl (hA.trans hB)
  · rw [show nK sizes es i j = validI sizes es by rw [nK, if_neg h0]]
    generalize validI sizes es = k at *
    have hk : (k != 0) = true := by simp [h0]
    have H0 := Lib.hid h0; clear h0
    go_enter Try.func75, Try.ntmps75
    go_wp2_with fail
    refine HV.out.mono ?_; rintro e w1 ⟨rfl, hB⟩
    go_wp2_with fail
    go_ret
    exact RV.int rfl (hA.trans hB)

theorem ints_two {w : World} {i j : Int} {t : TypeId} {g : Nat} (hg : w.heap.size = g) : Ints (w.alloc (.cells #[.int .i64 i, .int .i64 j] t)) (.slice (some ⟨g, 0, none⟩) 2 2) [i, j] := by
  subst hg
  refine ints_lit (n := 2) rfl (by omega) (fun k hk => alloc_cell w #[.int .i64 i, .int .i64 j] t ?_)
  match k, hk with
  | 0, _ => rfl
  | 1, _ => rfl

/-! ## IsMore -/
def moreB (sizes : List Int) (es : List Ent) (i j : Int) : Bool := decide (nK sizes es i j = 0) && isMoreB (ent es i.toNat).1 (ent es j.toNat).1

set_option maxHeartbeats 400000 in
set_option maxRecDepth 100000 in
theorem IsMore_c (sv ev : Value) (sizes : List Int) (es : List Ent) (i j : Int) (w : World) (hp : Par w sv ev sizes es) :
    Calls Try.prog 32 #[.agg #[sv, ev], .int .i64 i, .int .i64 j] w (RV (.tuple #[.bool (moreB sizes es i j), .int .i64 (nK sizes es i j)]) w) := by
  have HP := Lib.hid hp
  obtain ⟨ae, ce, rfl, hle, hme, He⟩ := hp.e.open_
  have hA := Ext.alloc w (.cells #[sv, .slice ae es.length ce] 25)
  clear hp
  by_cases h0 : nK sizes es i j = 0
  · obtain ⟨V, a, b, rfl, rfl, hai, hbj⟩ := nK_zero h0
    rw [show moreB sizes es a b = isMoreB (ent es a).1 (ent es b).1 by simp [moreB, h0]]
    rw [h0]
    have HK := Lib.hid h0; have HVV := Lib.hid V
    obtain ⟨ba, oa, rfl, u, hc1, hi1, _⟩ := He.out a hai
    obtain ⟨_, _, hx, u2, hc2, hi2, _⟩ := He.out b hbj
    injection hx with hx; injection hx with hx1 hx2 _; subst hx1 hx2
    have HLL := Lib.hid ((V.len a hai).trans (V.len b hbj).symm)
    clear h0 V
    go_enter Try.func32, Try.ntmps32
    go_wp2_with fail
    refine (numbered_c sv _ _ sizes es [(a : Int), (b : Int)] _ (HP.out.ext (hA.trans (Ext.alloc _ _))) (ints_two (by simp))).mono ?_; rw [numsI_two, HK.out]; rintro e w1 ⟨rfl, hB⟩
    have hb0 := hB.keep ((Ext.alloc _ _).keep (alloc_cell w #[sv, .slice (some ⟨ba, oa, none⟩) es.length ce] 25 (i := 0) rfl))
    have hb1 := hB.keep ((Ext.alloc _ _).keep (alloc_cell w #[sv, .slice (some ⟨ba, oa, none⟩) es.length ce] 25 (i := 1) rfl))
    have hX := hA.trans ((Ext.alloc _ _).trans hB)
    have hc1 := hX.keep hc1
    have hc2 := hX.keep hc2
    have HI1 := Lib.hid (hi1.ext hX); have HI2 := Lib.hid (hi2.ext hX)
    clear hi1 hi2
    generalize (ent es a).1 = x at *
    generalize (ent es b).1 = y at *
    go_wp2_with fail
    go_quiet ((go_at_call 76; exact RP.quiet (isMore_c _ _ x y _ (HI1.out.ext (Ext.drewN _ _)) (HI2.out.ext (Ext.drewN _ _)) HLL.out)))
    go_wp2_with fail
    go_ret2
    exact RV.mk rfl (hX.trans (Ext.drewN _ _))
  · rw [show moreB sizes es i j = false by simp [moreB, h0]]
    generalize hk : nK sizes es i j = k at *
    have hkn : (k != 0) = true := by simp [h0]
    have HK := Lib.hid hk
    have H0 := Lib.hid h0; clear h0 hk
    go_enter Try.func32, Try.ntmps32
    go_wp2_with fail
    refine (numbered_c sv _ _ sizes es [i, j] _ (HP.out.ext (hA.trans (Ext.alloc _ _))) (ints_two (by simp))).mono ?_; rw [numsI_two, HK.out]; rintro e w1 ⟨rfl, hB⟩
    have hb0 := hB.keep ((Ext.alloc _ _).keep (alloc_cell w #[sv, .slice ae es.length ce] 25 (i := 0) rfl))
    have hb1 := hB.keep ((Ext.alloc _ _).keep (alloc_cell w #[sv, .slice ae es.length ce] 25 (i := 1) rfl))
    have hX := hA.trans ((Ext.alloc _ _).trans hB)
    go_wp2_with fail
    go_ret2
    exact RV.mk rfl hX

set_option maxHeartbeats 400000 in
set_option maxRecDepth 100000 in
theorem rIsMoreE_c (sv ev : Value) (sizes : List Int) (es : List Ent) (i j : Int) (w : World) (hp : Par w sv ev sizes es) :
    Calls Try.prog 33 #[.agg #[sv, ev], .int .i64 i, .int .i64 j] w (RV (.tuple #[.bool (moreB sizes es i j), .int .i64 (nK sizes es i j)]) w) := by
  have HP := Lib.hid hp
  obtain ⟨ae, ce, rfl, hle, hme, He⟩ := hp.e.open_
  have hA := Ext.alloc w (.cells #[sv, .slice ae es.length ce] 25)
  clear hp
  by_cases h0 : nK sizes es i j = 0
  · obtain ⟨V, a, b, rfl, rfl, hai, hbj⟩ := nK_zero h0
    rw [show moreB sizes es a b = isMoreB (ent es a).1 (ent es b).1 by simp [moreB, h0]]
    rw [h0]
    have HK := Lib.hid h0; have HVV := Lib.hid V
    obtain ⟨ba, oa, rfl, u, hc1, hi1, _⟩ := He.out a hai
    obtain ⟨_, _, hx, u2, hc2, hi2, _⟩ := He.out b hbj
    injection hx with hx; injection hx with hx1 hx2 _; subst hx1 hx2
    have HLL := Lib.hid ((V.len a hai).trans (V.len b hbj).symm)
    clear h0 V
    go_enter Try.func33, Try.ntmps33
    go_wp2_with fail
    refine (rNumbered_c sv _ sizes es ((a : Int)) ((b : Int)) _ (HP.out.ext hA)).mono ?_; rw [HK.out]; rintro e w1 ⟨rfl, hB⟩
    have hb0 := hB.keep (alloc_cell w #[sv, .slice (some ⟨ba, oa, none⟩) es.length ce] 25 (i := 0) rfl)
    have hb1 := hB.keep (alloc_cell w #[sv, .slice (some ⟨ba, oa, none⟩) es.length ce] 25 (i := 1) rfl)
    have hX := hA.trans hB
    go_wp2_with fail
    refine (rIsMore_c sv _ sizes es a b w1 (HP.out.ext hX) HVV.out hai hbj).mono ?_; rintro e w2 ⟨rfl, hB2⟩
    go_wp2_with fail
    go_ret2
    exact RV.mk rfl (hX.trans hB2)
  · rw [show moreB sizes es i j = false by simp [moreB, h0]]
    generalize hk : nK sizes es i j = k at *
    have hkn : (k != 0) = true := by simp [h0]
    have HK := Lib.hid hk
    have H0 := Lib.hid h0; clear h0 hk
    go_enter Try.func33, Try.ntmps33
    go_wp2_with fail
    refine (rNumbered_c sv _ sizes es (i) (j) _ (HP.out.ext hA)).mono ?_; rw [HK.out]; rintro e w1 ⟨rfl, hB⟩
    have hb0 := hB.keep (alloc_cell w #[sv, .slice ae es.length ce] 25 (i := 0) rfl)
    have hb1 := hB.keep (alloc_cell w #[sv, .slice ae es.length ce] 25 (i := 1) rfl)
    have hX := hA.trans hB
    go_wp2_with fail
    go_ret2
    exact RV.mk rfl hX

/-! ## Meet -/
def meetB (a b : List Int) : Bool := agreesB (fun x y => coversB x y || coversB y x) a b
def meetL (a b : List Int) : List Int := (List.range a.length).map fun t => max (a[t]?.getD 0) (b[t]?.getD 0)
/-- a list, a bool and an error code come back -/
def R3 (L : List Int) (b : Bool) (k : Int) (w : World) (e : Ending) (w' : World) : Prop := ∃ v, e = .returned (.tuple #[v, .bool b, .int .i64 k]) ∧ Ints w' v L ∧ Ext w w'
theorem R3.mk {L : List Int} {b : Bool} {k : Int} {w w' : World} {v : Value} (h : Ints w' v L) (hx : Ext w w') : R3 L b k w (.returned (.tuple #[v, .bool b, .int .i64 k])) w' := ⟨v, rfl, h, hx⟩
def meetsB (sizes : List Int) (es : List Ent) (i j : Int) : Bool := decide (nK sizes es i j = 0) && meetB (ent es i.toNat).1 (ent es j.toNat).1
def meetsL (sizes : List Int) (es : List Ent) (i j : Int) : List Int := if meetsB sizes es i j = true then meetL (ent es i.toNat).1 (ent es j.toNat).1 else []
theorem Ext.setCell {w W : World} (h : Ext w W) {c : Nat} (hc : w.heap.size ≤ c) (i : Nat) (v : Value) : Ext w (W.setCell ⟨c, i, none⟩ v) :=
  ⟨h.os, h.tape, h.output, by simpa [World.setCell] using h.size, fun k hk => (Below.heap_setCell _ _ _ k (fun e => by dsimp only at e; omega)).trans (h.block k hk)⟩
theorem meetL_len (a b : List Int) : (meetL a b).length = a.length := by simp [meetL]
theorem meetL_get {a b : List Int} {t : Nat} (h : t < a.length) : (meetL a b)[t]? = some (max (a[t]?.getD 0) (b[t]?.getD 0)) := by simp [meetL, h]
theorem fill_step {L : List Int} {k : Nat} {x : Int} (h : L[k]? = some x) : (L.take k ++ List.replicate (L.length - k) 0).set k x = L.take (k + 1) ++ List.replicate (L.length - (k + 1)) 0 := by
  have hk : k < L.length := (List.getElem?_eq_some_iff.1 h).1
  have h1 : (L.take k).length = k := by simp; omega
  rw [List.set_append_right _ _ (by omega), h1, Nat.sub_self, List.take_add_one, h]
  rw [show L.length - k = (L.length - (k + 1)) + 1 by omega, List.replicate_succ]
  simp

set_option maxHeartbeats 400000 in
theorem meet1_c (x y : Int) (w : World) : Calls Try.prog 79 #[.int .i64 x, .int .i64 y] w (RP (.bool (coversB x y || coversB y x)) w) := by
  have H1 := Lib.hid (covers_c x y w); have H2 := Lib.hid (covers_c y x w)
  generalize coversB x y = p at *
  generalize coversB y x = q at *
  cases p
  · go_enter Try.func79, Try.ntmps79
    go_wp2_with fail
    refine H1.out.mono ?_; rintro e w' ⟨rfl, rfl⟩
    go_wp2_with fail
    refine H2.out.mono ?_; rintro e w' ⟨rfl, rfl⟩
    go_wp2_with fail
    go_ret
    exact RP.bool (by simp)
  · go_enter Try.func79, Try.ntmps79
    go_wp2_with fail
    refine H1.out.mono ?_; rintro e w' ⟨rfl, rfl⟩
    go_wp2_with fail
    go_ret
    exact RP.bool (by simp)

set_option maxHeartbeats 1000000 in
set_option maxRecDepth 100000 in
theorem Meet_c (sv ev : Value) (sizes : List Int) (es : List Ent) (i j : Int) (w : World) (hp : Par w sv ev sizes es) :
    Calls Try.prog 34 #[.agg #[sv, ev], .int .i64 i, .int .i64 j] w (R3 (meetsL sizes es i j) (meetsB sizes es i j) (nK sizes es i j) w) := by
  have HP := Lib.hid hp
  obtain ⟨ae, ce, rfl, hle, hme, He⟩ := hp.e.open_
  have hA := Ext.alloc w (.cells #[sv, .slice ae es.length ce] 25)
  clear hp
  by_cases h0 : nK sizes es i j = 0
  · obtain ⟨V, a, b, rfl, rfl, hai, hbj⟩ := nK_zero h0
    rw [show meetsB sizes es a b = meetB (ent es a).1 (ent es b).1 by simp [meetsB, h0], show meetsL sizes es a b = if meetB (ent es a).1 (ent es b).1 = true then meetL (ent es a).1 (ent es b).1 else [] by simp [meetsL, meetsB, h0]]
    rw [h0]
    have HK := Lib.hid h0
    generalize hML0 : (if meetB (ent es a).1 (ent es b).1 = true then meetL (ent es a).1 (ent es b).1 else []) = ML at *
    generalize hMB0 : meetB (ent es a).1 (ent es b).1 = MB at *
    have HMB := Lib.hid hMB0; have HML0 := Lib.hid hML0; clear hMB0 hML0
    obtain ⟨ba, oa, rfl, u, hc1, hi1, _⟩ := He.out a hai
    obtain ⟨_, _, hx, u2, hc2, hi2, _⟩ := He.out b hbj
    injection hx with hx; injection hx with hx1 hx2 _; subst hx1 hx2
    have hlen3 : (ent es a).1.length ≤ 3 := by rw [V.len a hai]; exact V.ok.2.1
    have HLL := Lib.hid ((V.len a hai).trans (V.len b hbj).symm)
    have hll1 : (ent es a).1.length ≤ (ent es b).1.length := Nat.le_of_eq HLL.out
    have hll2 : (ent es b).1.length ≤ (ent es a).1.length := Nat.le_of_eq HLL.out.symm
    have HLO := Lib.hid (And.intro (fun t ht => ((V.spec a hai).2 t ht).1) (fun t ht => ((V.spec b hbj).2 t ht).1))
    clear h0 V
    obtain ⟨va, cva, rfl, hva1, hva2, HA1⟩ := hi1.open_
    obtain ⟨vb, cvb, rfl, hvb1, hvb2, HB1⟩ := hi2.open_
    have HI1 := Lib.hid hi1; have HI2 := Lib.hid hi2
    clear hi1 hi2
    go_enter Try.func34, Try.ntmps34
    go_wp2_with fail
    refine (numbered_c sv _ _ sizes es [(a : Int), (b : Int)] _ (HP.out.ext (hA.trans (Ext.alloc _ _))) (ints_two (by simp))).mono ?_; rw [numsI_two, HK.out]; rintro e w1 ⟨rfl, hB⟩
    have hb0 := hB.keep ((Ext.alloc _ _).keep (alloc_cell w #[sv, .slice (some ⟨ba, oa, none⟩) es.length ce] 25 (i := 0) rfl))
    have hb1 := hB.keep ((Ext.alloc _ _).keep (alloc_cell w #[sv, .slice (some ⟨ba, oa, none⟩) es.length ce] 25 (i := 1) rfl))
    have hX := hA.trans ((Ext.alloc _ _).trans hB)
    have hc1 := hX.keep hc1
    have hc2 := hX.keep hc2
    generalize (ent es a).1 = x at *
    generalize (ent es b).1 = y at *
    go_wp2_with fail
    go_quiet (fail)
    have hXq := hX.trans (Ext.drewN w1 nq)
    generalize w1.drewN nq = wq at *
    have HAG := Lib.hid (agrees_c _ _ x y 79 #[] (fun p q => coversB p q || coversB q p) wq (enters_of Try.func79 (by kernel_rfl) rfl) (fun p q => meet1_c p q wq) (HI1.out.ext hXq) (HI2.out.ext hXq) hll1)
    change Hid (Calls _ _ _ _ (RP (.bool (meetB x y)) wq)) at HAG
    rw [HMB.out] at HAG
    cases MB
    · obtain rfl : ML = [] := HML0.out.symm
      go_wp2_with fail
      refine HAG.out.mono ?_; rintro e w2 ⟨rfl, rfl⟩
      go_wp2_with fail
      go_ret3
      exact R3.mk (ints_nil_c _) hXq
    · obtain rfl : ML = meetL x y := HML0.out.symm
      obtain ⟨ti, hi, hz0, hz1, hz2⟩ := info_parts elInts.info
      go_wp2_with fail
      refine HAG.out.mono ?_; rintro e w2 ⟨rfl, rfl⟩
      go_wp2_with (at_make; refine wpList_make_full _ rfl _ _ _ rfl wq.heap.size 3 ti (.int .i64 0) 1 Try.underlying22 hi hz0 hz1 .i64 .i64 _ _ x.length rfl rfl rfl rfl (by rw [hz2]; omega) (by unfold maxLen; omega) (Nat.le_refl _) ?_; intro w3 hown hgr)
      have hcb : CB 3 w3 wq.heap.size (List.replicate x.length 0) := CB.of_row (l := List.replicate x.length 0) (by rw [made_ints] at hown; exact hown)
      have hE1 : Ext wq w3 := ⟨hgr.os, hgr.tape, hgr.output, hgr.size, fun k hk => hgr.block k hk (by simp)⟩
      have hX3 := hXq.trans hE1
      have HML := Lib.hid (meetL_len x y)
      clear hown hgr hi hz0 hz1 hz2
      go_wp2_with fail
      go_loopg [43] x.length (fun m i wr => ∃ k : Nat, k ≤ x.length ∧ x.length ≤ k + m ∧ i = .int .i64 k ∧ Ext w wr ∧ CB 3 wr wq.heap.size ((meetL x y).take k ++ List.replicate ((meetL x y).length - k) 0))
      case atStart => exact ⟨0, by omega, by omega, rfl, hX3, by simpa [HML.out] using hcb⟩
      case round =>
        clear hcb hX3 hE1
        obtain ⟨k, hk, hk2, rfl, hxr, hcb⟩ := hrel
        by_cases hlt : k < x.length
        · have hlty : k < y.length := by omega
          obtain ⟨b1, o1, rfl, hd1⟩ := HA1.out k hlt
          obtain ⟨b2, o2, rfl, hd2⟩ := HB1.out k hlty
          have hcl := hcb.cell (i := k) (by have := HML.out; simp; omega)
          have hfz := hcb.frozen k
          have HST := Lib.hid (fill_step (meetL_get (b := y) hlt))
          have HCB := Lib.hid hcb; clear hcb
          have hwq := hXq.size
          generalize ((meetL x y).take k ++ List.replicate ((meetL x y).length - k) 0) = cur at *
          generalize cur[k]?.getD 0 = old at *
          generalize x[k]?.getD 0 = p at *
          generalize y[k]?.getD 0 = q at *
          have q0 := fun s : Later wr => (hxr.trans s.ext).keep hd1
          have q1 := fun s : Later wr => (hxr.trans s.ext).keep hd2
          by_cases hpq : q > p
          · rw [show max p q = q by omega] at HST
            go_wp2_with fail
            refine wp_region_turns 12 [.look 0, .look 1, .look 2, .look 3, .look 4, .look 5, .look 6, .look 7, .look 8, .look 9, .look 10, .look 11] (by kernel_rfl) (by kernel_rfl) (by intro c a d v w h; cases d <;> exact h) ?_
            have hd : Ext wr { wr with drawn := wr.drawn + 1 } := drawn_ext wr
            have hcl := hd.keep hcl
            have hfz : ({ wr with drawn := wr.drawn + 1 } : World).frozen? ⟨wq.heap.size, k, none⟩ = false := hfz
            have HCB2 := Lib.hid (CB.of_heap HCB.out (W' := { wr with drawn := wr.drawn + 1 }) rfl)
            generalize { wr with drawn := wr.drawn + 1 } = W1 at *
            have q0 := fun s : Later W1 => ((hxr.trans hd).trans s.ext).keep hd1
            have q1 := fun s : Later W1 => ((hxr.trans hd).trans s.ext).keep hd2
            iterate 12 (refine wpTurns_look rfl (fun K hK => ?_); go_simp; first | (refine hK _ ?_; clear hK K) | (refine ⟨_, fun _ => rfl, hK _ ?_⟩; clear hK K))
            refine wpTurns_nil rfl ?_
            clear q0 q1
            go_wp2_with fail
            go_roundg (gk-1)
            case measure => omega
            case rel => exact ⟨k+1, by omega, by omega, by go_num, (hxr.trans hd).setCell hwq _ _, by rw [← HST.out]; exact HCB2.out.set k q⟩
          · rw [show max p q = p by omega] at HST
            have hif : (if p < q then q else p) = p := if_neg hpq
            go_wp2_with fail
            refine wp_region_turns 12 [.look 0, .look 1, .look 2, .look 3, .look 4, .look 5, .look 6, .look 7, .look 8, .look 9, .look 10, .look 11] (by kernel_rfl) (by kernel_rfl) (by intro c a d v w h; cases d <;> exact h) ?_
            have hd : Ext wr { wr with drawn := wr.drawn + 1 } := drawn_ext wr
            have hcl := hd.keep hcl
            have hfz : ({ wr with drawn := wr.drawn + 1 } : World).frozen? ⟨wq.heap.size, k, none⟩ = false := hfz
            have HCB2 := Lib.hid (CB.of_heap HCB.out (W' := { wr with drawn := wr.drawn + 1 }) rfl)
            generalize { wr with drawn := wr.drawn + 1 } = W1 at *
            have q0 := fun s : Later W1 => ((hxr.trans hd).trans s.ext).keep hd1
            have q1 := fun s : Later W1 => ((hxr.trans hd).trans s.ext).keep hd2
            iterate 12 (refine wpTurns_look rfl (fun K hK => ?_); go_simp; first | (refine hK _ ?_; clear hK K) | (refine ⟨_, fun _ => rfl, hK _ ?_⟩; clear hK K))
            refine wpTurns_nil rfl ?_
            clear q0 q1
            go_wp2_with fail
            go_roundg (gk-1)
            case measure => omega
            case rel => exact ⟨k+1, by omega, by omega, by go_num, (hxr.trans hd).setCell hwq _ _, by rw [← HST.out]; first | exact HCB2.out.set k p | simpa only [hif] using HCB2.out.set k p⟩
        · obtain rfl : k = x.length := by omega
          rw [← HML.out, List.take_length, Nat.sub_self, List.replicate_zero, List.append_nil] at hcb
          have HCB := Lib.hid hcb; clear hcb
          go_wp2_with fail
          go_ret3
          exact R3.mk (by have := HCB.out.ints (by rw [HML.out]; omega); rwa [HML.out] at this) hxr
  · rw [show meetsB sizes es i j = false by simp [meetsB, h0], show meetsL sizes es i j = [] by simp [meetsL, meetsB, h0]]
    generalize hk : nK sizes es i j = k at *
    have hkn : (k != 0) = true := by simp [h0]
    have HK := Lib.hid hk
    have H0 := Lib.hid h0; clear h0 hk
    go_enter Try.func34, Try.ntmps34
    go_wp2_with fail
    refine (numbered_c sv _ _ sizes es [i, j] _ (HP.out.ext (hA.trans (Ext.alloc _ _))) (ints_two (by simp))).mono ?_; rw [numsI_two, HK.out]; rintro e w1 ⟨rfl, hB⟩
    have hb0 := hB.keep ((Ext.alloc _ _).keep (alloc_cell w #[sv, .slice ae es.length ce] 25 (i := 0) rfl))
    have hb1 := hB.keep ((Ext.alloc _ _).keep (alloc_cell w #[sv, .slice ae es.length ce] 25 (i := 1) rfl))
    have hX := hA.trans ((Ext.alloc _ _).trans hB)
    go_wp2_with fail
    go_ret3
    exact R3.mk (ints_nil_c _) hX

theorem meetL_succ {a b : List Int} {k : Nat} (h : k < a.length) : (meetL a b).take (k + 1) = (meetL a b).take k ++ [max (a[k]?.getD 0) (b[k]?.getD 0)] := by
  rw [List.take_add_one, meetL_get h]; rfl

set_option maxHeartbeats 1000000 in
set_option maxRecDepth 100000 in
theorem rMeetE_c (sv ev : Value) (sizes : List Int) (es : List Ent) (i j : Int) (w : World) (hp : Par w sv ev sizes es) :
    Calls Try.prog 35 #[.agg #[sv, ev], .int .i64 i, .int .i64 j] w (R3 (meetsL sizes es i j) (meetsB sizes es i j) (nK sizes es i j) w) := by
  have HP := Lib.hid hp
  obtain ⟨ae, ce, rfl, hle, hme, He⟩ := hp.e.open_
  have hA := Ext.alloc w (.cells #[sv, .slice ae es.length ce] 25)
  clear hp
  by_cases h0 : nK sizes es i j = 0
  · obtain ⟨V, a, b, rfl, rfl, hai, hbj⟩ := nK_zero h0
    rw [show meetsB sizes es a b = meetB (ent es a).1 (ent es b).1 by simp [meetsB, h0], show meetsL sizes es a b = if meetB (ent es a).1 (ent es b).1 = true then meetL (ent es a).1 (ent es b).1 else [] by simp [meetsL, meetsB, h0]]
    rw [h0]
    have HK := Lib.hid h0
    generalize hML0 : (if meetB (ent es a).1 (ent es b).1 = true then meetL (ent es a).1 (ent es b).1 else []) = ML at *
    generalize hMB0 : meetB (ent es a).1 (ent es b).1 = MB at *
    have HMB := Lib.hid hMB0; have HML0 := Lib.hid hML0; clear hMB0 hML0
    obtain ⟨ba, oa, rfl, u, hc1, hi1, _⟩ := He.out a hai
    obtain ⟨_, _, hx, u2, hc2, hi2, _⟩ := He.out b hbj
    injection hx with hx; injection hx with hx1 hx2 _; subst hx1 hx2
    have hlen3 : (ent es a).1.length ≤ 3 := by rw [V.len a hai]; exact V.ok.2.1
    have HLL := Lib.hid ((V.len a hai).trans (V.len b hbj).symm)
    have hll1 : (ent es a).1.length ≤ (ent es b).1.length := Nat.le_of_eq HLL.out
    have hll2 : (ent es b).1.length ≤ (ent es a).1.length := Nat.le_of_eq HLL.out.symm
    have HLO := Lib.hid (And.intro (fun t ht => ((V.spec a hai).2 t ht).1) (fun t ht => ((V.spec b hbj).2 t ht).1))
    clear h0 V
    obtain ⟨va, cva, rfl, hva1, hva2, HA1⟩ := hi1.open_
    obtain ⟨vb, cvb, rfl, hvb1, hvb2, HB1⟩ := hi2.open_
    have HI1 := Lib.hid hi1; have HI2 := Lib.hid hi2
    clear hi1 hi2
    go_enter Try.func35, Try.ntmps35
    go_wp2_with fail
    refine (rNumbered_c sv _ sizes es ((a : Int)) ((b : Int)) _ (HP.out.ext hA)).mono ?_; rw [HK.out]; rintro e w1 ⟨rfl, hB⟩
    have hb0 := hB.keep (alloc_cell w #[sv, .slice (some ⟨ba, oa, none⟩) es.length ce] 25 (i := 0) rfl)
    have hb1 := hB.keep (alloc_cell w #[sv, .slice (some ⟨ba, oa, none⟩) es.length ce] 25 (i := 1) rfl)
    have hX := hA.trans hB
    have hc1 := hX.keep hc1
    have hc2 := hX.keep hc2
    generalize (ent es a).1 = x at *
    generalize (ent es b).1 = y at *
    go_wp2_with fail
    go_quiet (fail)
    have hXq := hX.trans (Ext.drewN w1 nq)
    generalize w1.drewN nq = wq at *
    have HML := Lib.hid (meetL_len x y)
    go_wp2_with fail
    go_loopg [13, 10] x.length (fun m i v wr => ∃ k : Nat, k ≤ x.length ∧ x.length ≤ k + m ∧ i = .int .i64 k ∧ Ext w wr ∧ OInts 3 wr w.heap.size v ((meetL x y).take k) ∧ Hid (∀ t, t < k → (coversB (x[t]?.getD 0) (y[t]?.getD 0) || coversB (y[t]?.getD 0) (x[t]?.getD 0)) = true))
    case atStart => exact ⟨0, by omega, by omega, rfl, hXq, OInts.nil _ _ _, fun t ht => by omega⟩
    case round =>
      obtain ⟨k, hk, hk2, rfl, hxr, hown, hE⟩ := hrel
      by_cases hlt : k < x.length
      · have hlty : k < y.length := by omega
        obtain ⟨b1, o1, rfl, hd1⟩ := HA1.out k hlt
        obtain ⟨b2, o2, rfl, hd2⟩ := HB1.out k hlty
        have hlo1 := HLO.out.1 k hlt
        have hlo2 := HLO.out.2 k (by omega)
        have hms := meetL_succ (b := y) hlt
        have htk : ((meetL x y).take k).length ≤ 3 := by have := HML.out; simp; omega
        have HOWN := Lib.hid hown; clear hown
        generalize hp1 : x[k]?.getD 0 = p at *
        generalize hp2 : y[k]?.getD 0 = q at *
        have HP1 := Lib.hid hp1; have HP2 := Lib.hid hp2; clear hp1 hp2
        have hd1w := hxr.keep hd1
        have hd2w := hxr.keep hd2
        by_cases hbad : 0 ≤ p ∧ 0 ≤ q ∧ p ≠ q
        · obtain ⟨hp0, hq0, hne⟩ := hbad
          have hp0' : decide (0 ≤ p) = true := decide_eq_true hp0
          have hq0' : decide (0 ≤ q) = true := decide_eq_true hq0
          have hne' : (p != q) = true := by simp [hne]
          have hmf : meetB x y = false := by
            rw [meetB, agreesB, allB_false hlt]
            rw [HP1.out, HP2.out]; simp [coversB]; omega
          obtain rfl : MB = false := HMB.out.symm.trans hmf
          obtain rfl : ML = [] := HML0.out.symm
          clear hmf
          go_wp2_with fail
          go_quiet (fail)
          go_wp2_with fail
          go_ret3
          exact R3.mk (ints_nil_c _) (hxr.trans (Ext.drewN _ _))
        · have hcv : (coversB p q || coversB q p) = true := by
            simp [coversB]; omega
          have HCV := Lib.hid hcv; clear hcv
          have HMS := Lib.hid hms
          by_cases hpq : q > p
          · rw [show max p q = q by omega] at HMS
            by_cases hp0 : 0 ≤ p
            · have hp0' : decide (0 ≤ p) = true := decide_eq_true hp0
              exact absurd ⟨hp0, by omega, by omega⟩ hbad
            · have hp0' : decide (0 ≤ p) = false := decide_eq_false hp0
              clear hms hbad
              go_wp2_with fail
              go_quiet (fail)
              go_wp2_with fail
              refine wp_region_turns 11 [.look 0, .look 1, .look 2, .look 3, .look 4, .look 5, .look 6, .look 7, .look 8, .look 9, .go 10] (by kernel_rfl) (by kernel_rfl) (by intro c a d v w h; cases d <;> exact h) ?_
              have hdq : Ext wr { (wr.drewN nq) with drawn := (wr.drewN nq).drawn + 1 } := (Ext.drewN wr nq).trans (drawn_ext _)
              generalize { (wr.drewN nq) with drawn := (wr.drewN nq).drawn + 1 } = W1 at *
              have q0 := fun s : Later W1 => ((hxr.trans hdq).trans s.ext).keep hd1
              have q1 := fun s : Later W1 => ((hxr.trans hdq).trans s.ext).keep hd2
              iterate 10 (refine wpTurns_look rfl (fun K hK => ?_); go_simp; first | (refine hK _ ?_; clear hK K) | (refine ⟨_, fun _ => rfl, hK _ ?_⟩; clear hK K))
              clear q0 q1
              refine wpTurns_go rfl rfl (fun K hK => ?_)
              go_wp2_with fail
              refine ⟨Ext.alloc _ _, ?_⟩
              refine wpTurns_nil rfl ?_
              refine wpList_appendInt elInts rfl _ _ rfl rfl rfl (HOWN.out.ext hdq) rfl (by have := hdq.size; have := hxr.size; omega) (by omega) ?_
              intro v' w' hown2 hb2
              go_wp2_with fail
              go_roundg (gk-1)
              case measure => omega
              case rel => exact ⟨k+1, by omega, by omega, by go_num, (hxr.trans hdq).upto hb2 (Nat.le_refl _), by rw [HMS.out]; first | exact hown2 | simpa only [hif] using hown2, range_step hE.out (by rw [HP1.out, HP2.out]; exact HCV.out)⟩
          · rw [show max p q = p by omega] at HMS
            have hif : (if p < q then q else p) = p := if_neg hpq
            by_cases hq0 : 0 ≤ q
            · obtain rfl : p = q := by omega
              have hp0' : decide (0 ≤ p) = true := decide_eq_true hq0
              have hne' : (p != p) = false := by simp
              clear hms hbad
              go_wp2_with fail
              go_quiet (fail)
              go_wp2_with fail
              refine wp_region_turns 11 [.look 0, .look 1, .look 2, .look 3, .look 4, .look 5, .look 6, .look 7, .look 8, .look 9, .go 10] (by kernel_rfl) (by kernel_rfl) (by intro c a d v w h; cases d <;> exact h) ?_
              have hdq : Ext wr { (wr.drewN nq) with drawn := (wr.drewN nq).drawn + 1 } := (Ext.drewN wr nq).trans (drawn_ext _)
              generalize { (wr.drewN nq) with drawn := (wr.drewN nq).drawn + 1 } = W1 at *
              have q0 := fun s : Later W1 => ((hxr.trans hdq).trans s.ext).keep hd1
              have q1 := fun s : Later W1 => ((hxr.trans hdq).trans s.ext).keep hd2
              iterate 10 (refine wpTurns_look rfl (fun K hK => ?_); go_simp; first | (refine hK _ ?_; clear hK K) | (refine ⟨_, fun _ => rfl, hK _ ?_⟩; clear hK K))
              clear q0 q1
              refine wpTurns_go rfl rfl (fun K hK => ?_)
              go_wp2_with fail
              refine ⟨Ext.alloc _ _, ?_⟩
              refine wpTurns_nil rfl ?_
              refine wpList_appendInt elInts rfl _ _ rfl rfl rfl (HOWN.out.ext hdq) rfl (by have := hdq.size; have := hxr.size; omega) (by omega) ?_
              intro v' w' hown2 hb2
              go_wp2_with fail
              go_roundg (gk-1)
              case measure => omega
              case rel => exact ⟨k+1, by omega, by omega, by go_num, (hxr.trans hdq).upto hb2 (Nat.le_refl _), by rw [HMS.out]; first | exact hown2 | simpa only [hif] using hown2, range_step hE.out (by rw [HP1.out, HP2.out]; exact HCV.out)⟩
            · have hq0' : decide (0 ≤ q) = false := decide_eq_false hq0
              clear hms hbad
              by_cases hp0 : 0 ≤ p
              · have hp0' : decide (0 ≤ p) = true := decide_eq_true hp0
                go_wp2_with fail
                go_quiet (fail)
                go_wp2_with fail
                refine wp_region_turns 11 [.look 0, .look 1, .look 2, .look 3, .look 4, .look 5, .look 6, .look 7, .look 8, .look 9, .go 10] (by kernel_rfl) (by kernel_rfl) (by intro c a d v w h; cases d <;> exact h) ?_
                have hdq : Ext wr { (wr.drewN nq) with drawn := (wr.drewN nq).drawn + 1 } := (Ext.drewN wr nq).trans (drawn_ext _)
                generalize { (wr.drewN nq) with drawn := (wr.drewN nq).drawn + 1 } = W1 at *
                have q0 := fun s : Later W1 => ((hxr.trans hdq).trans s.ext).keep hd1
                have q1 := fun s : Later W1 => ((hxr.trans hdq).trans s.ext).keep hd2
                iterate 10 (refine wpTurns_look rfl (fun K hK => ?_); go_simp; first | (refine hK _ ?_; clear hK K) | (refine ⟨_, fun _ => rfl, hK _ ?_⟩; clear hK K))
                clear q0 q1
                refine wpTurns_go rfl rfl (fun K hK => ?_)
                go_wp2_with fail
                refine ⟨Ext.alloc _ _, ?_⟩
                refine wpTurns_nil rfl ?_
                refine wpList_appendInt elInts rfl _ _ rfl rfl rfl (HOWN.out.ext hdq) rfl (by have := hdq.size; have := hxr.size; omega) (by omega) ?_
                intro v' w' hown2 hb2
                go_wp2_with fail
                go_roundg (gk-1)
                case measure => omega
                case rel => exact ⟨k+1, by omega, by omega, by go_num, (hxr.trans hdq).upto hb2 (Nat.le_refl _), by rw [HMS.out]; first | exact hown2 | simpa only [hif] using hown2, range_step hE.out (by rw [HP1.out, HP2.out]; exact HCV.out)⟩
              · have hp0' : decide (0 ≤ p) = false := decide_eq_false hp0
                go_wp2_with fail
                go_quiet (fail)
                go_wp2_with fail
                refine wp_region_turns 11 [.look 0, .look 1, .look 2, .look 3, .look 4, .look 5, .look 6, .look 7, .look 8, .look 9, .go 10] (by kernel_rfl) (by kernel_rfl) (by intro c a d v w h; cases d <;> exact h) ?_
                have hdq : Ext wr { (wr.drewN nq) with drawn := (wr.drewN nq).drawn + 1 } := (Ext.drewN wr nq).trans (drawn_ext _)
                generalize { (wr.drewN nq) with drawn := (wr.drewN nq).drawn + 1 } = W1 at *
                have q0 := fun s : Later W1 => ((hxr.trans hdq).trans s.ext).keep hd1
                have q1 := fun s : Later W1 => ((hxr.trans hdq).trans s.ext).keep hd2
                iterate 10 (refine wpTurns_look rfl (fun K hK => ?_); go_simp; first | (refine hK _ ?_; clear hK K) | (refine ⟨_, fun _ => rfl, hK _ ?_⟩; clear hK K))
                clear q0 q1
                refine wpTurns_go rfl rfl (fun K hK => ?_)
                go_wp2_with fail
                refine ⟨Ext.alloc _ _, ?_⟩
                refine wpTurns_nil rfl ?_
                refine wpList_appendInt elInts rfl _ _ rfl rfl rfl (HOWN.out.ext hdq) rfl (by have := hdq.size; have := hxr.size; omega) (by omega) ?_
                intro v' w' hown2 hb2
                go_wp2_with fail
                go_roundg (gk-1)
                case measure => omega
                case rel => exact ⟨k+1, by omega, by omega, by go_num, (hxr.trans hdq).upto hb2 (Nat.le_refl _), by rw [HMS.out]; first | exact hown2 | simpa only [hif] using hown2, range_step hE.out (by rw [HP1.out, HP2.out]; exact HCV.out)⟩
      · obtain rfl : k = x.length := by omega
        have hmt : meetB x y = true := by rw [meetB, agreesB, allB_true (fun t ht => hE.out t ht)]
        obtain rfl : MB = true := HMB.out.symm.trans hmt
        obtain rfl : ML = meetL x y := HML0.out.symm
        rw [← HML.out, List.take_length] at hown
        have HOWN := Lib.hid hown; clear hown hmt
        go_wp2_with fail
        go_ret3
        exact R3.mk HOWN.out.ints hxr
  · rw [show meetsB sizes es i j = false by simp [meetsB, h0], show meetsL sizes es i j = [] by simp [meetsL, meetsB, h0]]
    generalize hk : nK sizes es i j = k at *
    have hkn : (k != 0) = true := by simp [h0]
    have HK := Lib.hid hk
    have H0 := Lib.hid h0; clear h0 hk
    go_enter Try.func35, Try.ntmps35
    go_wp2_with fail
    refine (rNumbered_c sv _ sizes es (i) (j) _ (HP.out.ext hA)).mono ?_; rw [HK.out]; rintro e w1 ⟨rfl, hB⟩
    have hb0 := hB.keep (alloc_cell w #[sv, .slice ae es.length ce] 25 (i := 0) rfl)
    have hb1 := hB.keep (alloc_cell w #[sv, .slice ae es.length ce] 25 (i := 1) rfl)
    have hX := hA.trans hB
    go_wp2_with fail
    go_ret3
    exact R3.mk (ints_nil_c _) hX
end Go.Proofs.Ytoepnpjjmfhnnaa
