/- Walks: numbers of entries; which entry is more special; the spec of the cells of two. -/
import Derived.Test.YtejklkhaplkblaaRefE
import Derived.Test.YtejklkhaplkblaaScript
namespace Go.Proofs.Ytejklkhaplkblaa
open Go.RowKit Go.Shelf
set_option linter.unusedVariables false

def numB (es : List Ent) (i : Int) : Bool := decide (0 ≤ i) && decide (i ≤ (es.length : Int) - 1)
def numsI (sizes : List Int) (es : List Ent) (l : List Int) : Int := if validI sizes es = 0 then (if allB l.length (fun k => numB es (l[k]?.getD 0)) then 0 else 4) else validI sizes es
def nK (sizes : List Int) (es : List Ent) (i j : Int) : Int := if validI sizes es = 0 then (if numB es i && numB es j then 0 else 4) else validI sizes es
theorem numsI_two (sizes : List Int) (es : List Ent) (i j : Int) : numsI sizes es [i, j] = nK sizes es i j := by
  simp [numsI, nK, allB, List.range_succ]
theorem numsI_one (sizes : List Int) (es : List Ent) (i : Int) : numsI sizes es [i] = nK sizes es i i := by
  simp [numsI, nK, allB, List.range_succ]
theorem numB_nat {es : List Ent} {i : Int} (h : numB es i = true) : ∃ k : Nat, i = k ∧ k < es.length := by
  simp only [numB, Bool.and_eq_true, decide_eq_true_eq] at h
  exact ⟨i.toNat, by omega, by omega⟩
theorem nK_zero {sizes : List Int} {es : List Ent} {i j : Int} (h : nK sizes es i j = 0) : ValidP sizes es ∧ ∃ a b : Nat, i = a ∧ j = b ∧ a < es.length ∧ b < es.length := by
  unfold nK at h
  split at h
  · rename_i h1
    split at h
    · rename_i h2
      rw [Bool.and_eq_true] at h2
      obtain ⟨a, ha, ha2⟩ := numB_nat h2.1
      obtain ⟨b, hb, hb2⟩ := numB_nat h2.2
      exact ⟨validI_zero h1, a, b, ha, hb, ha2, hb2⟩
    · omega
  · omega
theorem nK_swap (sizes : List Int) (es : List Ent) (i j : Int) : nK sizes es i j = nK sizes es j i := by
  unfold nK; rw [Bool.and_comm]

set_option maxHeartbeats 400000 in
theorem numbered_c (sv ev lv : Value) (sizes : List Int) (es : List Ent) (l : List Int) (w : World) (hp : Par w sv ev sizes es) (hl : Ints w lv l) :
    Calls Try.prog 45 #[.agg #[sv, ev], lv] w (RV (.int .i64 (numsI sizes es l)) w) := by
  obtain ⟨ae, ce, rfl, hle, hme, He⟩ := hp.e.open_
  have hA := Ext.alloc w (.cells #[sv, .slice ae es.length ce] 25)
  have HV := Lib.hid (validate_c sv _ sizes es _ (hp.s.ext hA) (hp.e.ext hA))
  clear hp He
  obtain ⟨al, cl, rfl, hll, hml, HL⟩ := hl.open_
  clear hl
  by_cases h0 : validI sizes es = 0
  · have hc : numsI sizes es l = if allB l.length (fun k => numB es (l[k]?.getD 0)) then 0 else 4 := by rw [numsI, if_pos h0]
    rw [h0] at HV
    have HC := Lib.hid hc
    generalize numsI sizes es l = ck at *
    clear h0 hc
    go_enter Try.func45, Try.ntmps45
    go_wp2_with fail
    refine HV.out.mono ?_; rintro e w1 ⟨rfl, hB⟩
    have hb1 := hB.keep (alloc_cell w #[sv, .slice ae es.length ce] 25 (i := 1) rfl)
    have hX := hA.trans hB
    go_wp2_with fail
    go_loopg [15] l.length (fun m i wr => ∃ k : Nat, k ≤ l.length ∧ l.length ≤ k + m ∧ i = .int .i64 k ∧ w1 = wr ∧ Hid (∀ j, j < k → numB es (l[j]?.getD 0) = true))
    case atStart => exact ⟨0, by omega, by omega, rfl, rfl, fun j hj => by omega⟩
    case round =>
      obtain ⟨k, hk, hk2, rfl, rfl, hE⟩ := hrel
      by_cases hlt : k < l.length
      · obtain ⟨ba, oa, rfl, hc1⟩ := HL.out k hlt
        replace hc1 := hX.keep hc1
        generalize hx : l[k]?.getD 0 = x at *
        have HXX := Lib.hid hx; clear hx
        have HWi := Lib.hid (within_c x 0 ((es.length : Int) - 1))
        cases hb : numB es x
        · rw [show (decide (0 ≤ x) && decide (x ≤ (es.length : Int) - 1)) = false from hb] at HWi
          have HX := Lib.hid hb; clear hb
          go_wp2_with fail
          refine (HWi.out _).mono ?_; rintro e w2 ⟨rfl, rfl⟩
          go_wp2_with fail
          go_ret
          exact RV.int (by rw [HC.out, allB_false hlt (by rw [HXX.out]; exact HX.out)]; rfl) hX
        · rw [show (decide (0 ≤ x) && decide (x ≤ (es.length : Int) - 1)) = true from hb] at HWi
          have HX := Lib.hid hb; clear hb
          go_wp2_with fail
          refine (HWi.out _).mono ?_; rintro e w2 ⟨rfl, rfl⟩
          go_wp2_with fail
          go_roundg (gk-1)
          case measure => omega
          case rel => exact ⟨k+1, by omega, by omega, by go_num, rfl, range_step hE.out (by rw [HXX.out]; exact HX.out)⟩
      · go_wp2_with fail
        go_ret
        exact RV.int (by rw [HC.out, allB_true (fun j hj => hE.out j (by omega))]; rfl) hX
  · rw [show numsI sizes es l = validI sizes es by rw [numsI, if_neg h0]]
    generalize validI sizes es = k at *
    have hk : (k != 0) = true := by simp [h0]
    have H0 := Lib.hid h0; clear h0
    go_enter Try.func45, Try.ntmps45
    go_wp2_with fail
    refine HV.out.mono ?_; rintro e w1 ⟨rfl, hB⟩
    go_wp2_with fail
    go_ret
    exact RV.int rfl (hA.trans hB)

theorem ints_two {w : World} {i j : Int} {t : TypeId} {g : Nat} (hg : w.heap.size = g) : Ints (w.alloc (.cells #[.int .i64 i, .int .i64 j] t)) (.slice (some ⟨g, 0, none⟩) 2 2) [i, j] := by
  subst hg
  refine ints_lit (n := 2) rfl (by omega) (fun k hk => alloc_cell w #[.int .i64 i, .int .i64 j] t ?_)
  match k, hk with
  | 0, _ => rfl
  | 1, _ => rfl

/-! ## IsMore -/
def moreB (sizes : List Int) (es : List Ent) (i j : Int) : Bool := decide (nK sizes es i j = 0) && isMoreB (ent es i.toNat).1 (ent es j.toNat).1

set_option maxHeartbeats 400000 in
set_option maxRecDepth 100000 in
theorem IsMore_c (sv ev : Value) (sizes : List Int) (es : List Ent) (i j : Int) (w : World) (hp : Par w sv ev sizes es) :
    Calls Try.prog 17 #[.agg #[sv, ev], .int .i64 i, .int .i64 j] w (RV (.tuple #[.bool (moreB sizes es i j), .int .i64 (nK sizes es i j)]) w) := by
  have HP := Lib.hid hp
  obtain ⟨ae, ce, rfl, hle, hme, He⟩ := hp.e.open_
  have hA := Ext.alloc w (.cells #[sv, .slice ae es.length ce] 25)
  clear hp
  by_cases h0 : nK sizes es i j = 0
  · obtain ⟨V, a, b, rfl, rfl, hai, hbj⟩ := nK_zero h0
    rw [show moreB sizes es a b = isMoreB (ent es a).1 (ent es b).1 by simp [moreB, h0]]
    rw [h0]
    have HK := Lib.hid h0; have HVV := Lib.hid V
    obtain ⟨ba, oa, rfl, u, hc1, hi1, _⟩ := He.out a hai
    obtain ⟨_, _, hx, u2, hc2, hi2, _⟩ := He.out b hbj
    injection hx with hx; injection hx with hx1 hx2 _; subst hx1 hx2
    have HLL := Lib.hid ((V.len a hai).trans (V.len b hbj).symm)
    clear h0 V
    go_enter Try.func17, Try.ntmps17
    go_wp2_with fail
    refine (numbered_c sv _ _ sizes es [(a : Int), (b : Int)] _ (HP.out.ext (hA.trans (Ext.alloc _ _))) (ints_two (by simp))).mono ?_; rw [numsI_two, HK.out]; rintro e w1 ⟨rfl, hB⟩
    have hb0 := hB.keep ((Ext.alloc _ _).keep (alloc_cell w #[sv, .slice (some ⟨ba, oa, none⟩) es.length ce] 25 (i := 0) rfl))
    have hb1 := hB.keep ((Ext.alloc _ _).keep (alloc_cell w #[sv, .slice (some ⟨ba, oa, none⟩) es.length ce] 25 (i := 1) rfl))
    have hX := hA.trans ((Ext.alloc _ _).trans hB)
    have hc1 := hX.keep hc1
    have hc2 := hX.keep hc2
    have HI1 := Lib.hid (hi1.ext hX); have HI2 := Lib.hid (hi2.ext hX)
    clear hi1 hi2
    generalize (ent es a).1 = x at *
    generalize (ent es b).1 = y at *
    go_wp2_with fail
    go_quiet ((go_at_call 46; exact RP.quiet (isMore_c _ _ x y _ (HI1.out.ext (Ext.drewN _ _)) (HI2.out.ext (Ext.drewN _ _)) HLL.out)))
    go_wp2_with fail
    go_ret2
    exact RV.mk rfl (hX.trans (Ext.drewN _ _))
  · rw [show moreB sizes es i j = false by simp [moreB, h0]]
    generalize hk : nK sizes es i j = k at *
    have hkn : (k != 0) = true := by simp [h0]
    have HK := Lib.hid hk
    have H0 := Lib.hid h0; clear h0 hk
    go_enter Try.func17, Try.ntmps17
    go_wp2_with fail
    refine (numbered_c sv _ _ sizes es [i, j] _ (HP.out.ext (hA.trans (Ext.alloc _ _))) (ints_two (by simp))).mono ?_; rw [numsI_two, HK.out]; rintro e w1 ⟨rfl, hB⟩
    have hb0 := hB.keep ((Ext.alloc _ _).keep (alloc_cell w #[sv, .slice ae es.length ce] 25 (i := 0) rfl))
    have hb1 := hB.keep ((Ext.alloc _ _).keep (alloc_cell w #[sv, .slice ae es.length ce] 25 (i := 1) rfl))
    have hX := hA.trans ((Ext.alloc _ _).trans hB)
    go_wp2_with fail
    go_ret2
    exact RV.mk rfl hX

/-! ## Meet -/
def meetB (a b : List Int) : Bool := agreesB (fun x y => coversB x y || coversB y x) a b
def meetL (a b : List Int) : List Int := (List.range a.length).map fun t => max (a[t]?.getD 0) (b[t]?.getD 0)
/-- a list, a bool and an error code come back -/
def R3 (L : List Int) (b : Bool) (k : Int) (w : World) (e : Ending) (w' : World) : Prop := ∃ v, e = .returned (.tuple #[v, .bool b, .int .i64 k]) ∧ Ints w' v L ∧ Ext w w'
theorem R3.mk {L : List Int} {b : Bool} {k : Int} {w w' : World} {v : Value} (h : Ints w' v L) (hx : Ext w w') : R3 L b k w (.returned (.tuple #[v, .bool b, .int .i64 k])) w' := ⟨v, rfl, h, hx⟩
def meetsB (sizes : List Int) (es : List Ent) (i j : Int) : Bool := decide (nK sizes es i j = 0) && meetB (ent es i.toNat).1 (ent es j.toNat).1
def meetsL (sizes : List Int) (es : List Ent) (i j : Int) : List Int := if meetsB sizes es i j = true then meetL (ent es i.toNat).1 (ent es j.toNat).1 else []
theorem Ext.setCell {w W : World} (h : Ext w W) {c : Nat} (hc : w.heap.size ≤ c) (i : Nat) (v : Value) : Ext w (W.setCell ⟨c, i, none⟩ v) :=
  ⟨h.os, h.tape, h.output, by simpa [World.setCell] using h.size, fun k hk => (Below.heap_setCell _ _ _ k (fun e => by dsimp only at e; omega)).trans (h.block k hk)⟩
theorem meetL_len (a b : List Int) : (meetL a b).length = a.length := by simp [meetL]
theorem meetL_get {a b : List Int} {t : Nat} (h : t < a.length) : (meetL a b)[t]? = some (max (a[t]?.getD 0) (b[t]?.getD 0)) := by simp [meetL, h]
theorem fill_step {L : List Int} {k : Nat} {x : Int} (h : L[k]? = some x) : (L.take k ++ List.replicate (L.length - k) 0).set k x = L.take (k + 1) ++ List.replicate (L.length - (k + 1)) 0 := by
  have hk : k < L.length := (List.getElem?_eq_some_iff.1 h).1
  have h1 : (L.take k).length = k := by simp; omega
  rw [List.set_append_right _ _ (by omega), h1, Nat.sub_self, List.take_add_one, h]
  rw [show L.length - k = (L.length - (k + 1)) + 1 by omega, List.replicate_succ]
  simp

theorem meetL_succ {a b : List Int} {k : Nat} (h : k < a.length) : (meetL a b).take (k + 1) = (meetL a b).take k ++ [max (a[k]?.getD 0) (b[k]?.getD 0)] := by
  rw [List.take_add_one, meetL_get h]; rfl

end Go.Proofs.Ytejklkhaplkblaa
