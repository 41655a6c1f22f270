/- Walks: the cells that clash, those that are empty; both packages. -/
import Derived.Test.YtoepnpjjmfhnnaaHomes
namespace Go.Proofs.Ytoepnpjjmfhnnaa
open Go.RowKit Go.Shelf
set_option linter.unusedVariables false

def clashB (es : List Ent) (c : List Int) : Bool := decide (0 < (sel es.length (matchB es c)).length) && decide (decidesI es c < 0)
def emptyB (es : List Ent) (c : List Int) : Bool := (sel es.length (matchB es c)).length == 0
def formB (es : List Ent) (m : Bool) (c : List Int) : Bool := decide (formI es c < 0) && (decide (0 < (sel es.length (matchB es c)).length) == m)
theorem formI_lt {sizes : List Int} {es : List Ent} {c : List Int} (V : ValidP sizes es) : decide (formI es c < 0) = decide (decidesI es c < 0) := by
  unfold formI
  rcases decidesI_cases es c with ⟨k, hk, hd⟩ | hd
  · rw [hd, if_pos (by omega)]
    have := V.ent k hk
    simp only [entB, Bool.and_eq_true, decide_eq_true_eq] at this
    rw [Int.toNat_natCast, decide_eq_false (by omega), decide_eq_false (by omega)]
  · rw [hd, if_neg (by omega)]
theorem decidesI_nil {es : List Ent} {c : List Int} (h : (sel es.length (matchB es c)).length = 0) : decidesI es c = -1 := by
  have h := List.eq_nil_of_length_eq_zero h
  rw [decidesI, h]; rfl
theorem formB_true {sizes : List Int} {es : List Ent} (V : ValidP sizes es) : formB es true = clashB es := by
  funext c
  rw [formB, clashB, formI_lt V, Bool.and_comm]
  cases decide (0 < (sel es.length (matchB es c)).length) <;> rfl
theorem formB_false {sizes : List Int} {es : List Ent} (V : ValidP sizes es) : formB es false = emptyB es := by
  funext c
  rw [formB, emptyB, formI_lt V]
  by_cases h : (sel es.length (matchB es c)).length = 0
  · rw [decidesI_nil h, h]; rfl
  · have h1 : 0 < (sel es.length (matchB es c)).length := by omega
    rw [decide_eq_true h1, show ((sel es.length (matchB es c)).length == 0) = false by simpa using h]
    simp

set_option maxHeartbeats 400000 in
theorem clashes1_c (sv ev vc : Value) (sizes : List Int) (es : List Ent) (c : List Int) (w : World) (he : Ents w ev es) (hc : Ints w vc c) (V : ValidP sizes es) (hlc : c.length = sizes.length)
    (bp : Nat) (hc0 : w.cell? ⟨bp, 0, none⟩ = some sv) (hc1 : w.cell? ⟨bp, 1, none⟩ = some ev) :
    Calls Try.prog 93 #[vc, .pointer (some ⟨bp, 0, none⟩)] w (RV (.bool (clashB es c)) w) := by
  have HM := Lib.hid (matches_c sv ev vc es c w he hc (fun i hi => Nat.le_of_eq ((V.len i hi).trans hlc.symm)) (by have := V.n; omega))
  have HD := Lib.hid (fun W (h : Ext w W) => decides_c sv ev vc es c W (he.ext h) (hc.ext h) (fun i hi => (V.len i hi).trans hlc.symm) (by have := V.n; omega))
  clear he hc V hlc
  unfold clashB
  generalize decidesI es c = d at *
  generalize sel es.length (matchB es c) = l at *
  by_cases h0 : 0 < l.length
  · rw [decide_eq_true h0, Bool.true_and]
    go_enter Try.func93, Try.ntmps93
    go_wp2_with fail
    refine HM.out.mono ?_; rintro e w1 ⟨v, rfl, hi, hx⟩
    obtain ⟨al, cl, rfl, _⟩ := hi.open_
    clear hi
    have hc0 := hx.keep hc0
    have hc1 := hx.keep hc1
    go_wp2_with fail
    refine (HD.out _ hx).mono ?_; rintro e w2 ⟨rfl, hx2⟩
    go_wp2_with fail
    go_ret
    exact RV.bool rfl (hx.trans hx2)
  · obtain rfl : l = [] := List.eq_nil_of_length_eq_zero (by omega)
    go_enter Try.func93, Try.ntmps93
    go_wp2_with fail
    refine HM.out.mono ?_; rintro e w1 ⟨v, rfl, hi, hx⟩
    obtain ⟨al, cl, rfl, _⟩ := hi.open_
    clear hi
    go_wp2_with fail
    go_ret
    exact RV.bool rfl hx

set_option maxHeartbeats 400000 in
theorem empty1_c (sv ev vc : Value) (sizes : List Int) (es : List Ent) (c : List Int) (w : World) (he : Ents w ev es) (hc : Ints w vc c) (V : ValidP sizes es) (hlc : c.length = sizes.length)
    (bp : Nat) (hc0 : w.cell? ⟨bp, 0, none⟩ = some sv) (hc1 : w.cell? ⟨bp, 1, none⟩ = some ev) :
    Calls Try.prog 95 #[vc, .pointer (some ⟨bp, 0, none⟩)] w (RV (.bool (emptyB es c)) w) := by
  have HM := Lib.hid (matches_c sv ev vc es c w he hc (fun i hi => Nat.le_of_eq ((V.len i hi).trans hlc.symm)) (by have := V.n; omega))
  clear he hc V hlc
  unfold emptyB
  generalize sel es.length (matchB es c) = l at *
  go_enter Try.func95, Try.ntmps95
  go_wp2_with fail
  refine HM.out.mono ?_; rintro e w1 ⟨v, rfl, hi, hx⟩
  obtain ⟨al, cl, rfl, _⟩ := hi.open_
  clear hi
  go_wp2_with fail
  go_ret
  exact RV.bool (by rw [Bool.eq_iff_iff]; simp) hx

set_option maxHeartbeats 400000 in
theorem Clashes_c (sv ev : Value) (sizes : List Int) (es : List Ent) (w : World) (hp : Par w sv ev sizes es) :
    Calls Try.prog 48 #[.agg #[sv, ev]] w (R2 (if validI sizes es = 0 then isRows ((cellsOf sizes).filter (clashB es)) else isRows []) (validI sizes es) w) := by
  have hA := Ext.alloc w (.cells #[sv, ev] 25)
  have HV := Lib.hid (validate_c sv ev sizes es _ (hp.s.ext hA) (hp.e.ext hA))
  have HP := Lib.hid hp; clear hp
  by_cases h0 : validI sizes es = 0
  · have V := validI_zero h0
    rw [h0] at HV ⊢
    rw [if_pos rfl]
    clear h0
    go_enter Try.func48, Try.ntmps48
    go_wp2_with fail
    refine HV.out.mono ?_; rintro e w1 ⟨rfl, hB⟩
    have hb0 := hB.keep (alloc_cell w #[sv, ev] 25 (i := 0) rfl)
    have hb1 := hB.keep (alloc_cell w #[sv, ev] 25 (i := 1) rfl)
    have hX := hA.trans hB
    go_wp2_with fail
    refine (where_c sv ev sizes 93 #[.pointer (some ⟨w.heap.size, 0, none⟩)] (clashB es) w1 (enters_of Try.func93 (by kernel_rfl) rfl) (HP.out.s.ext hX) V.ok
      (fun W x v hW hx hi => clashes1_c sv ev v sizes es x W (HP.out.e.ext (hX.trans hW)) hi V (mem_len V.ok hx) _ (hW.keep hb0) (hW.keep hb1))).mono ?_
    rintro e w2 ⟨v, rfl, hr, hB2⟩
    have HR := Lib.hid hr; clear hr
    go_wp2_with fail
    go_ret2
    exact R2.mk HR.out (hX.trans hB2)
  · rw [if_neg h0]
    generalize validI sizes es = k at *
    have hk : (k != 0) = true := by simp [h0]
    have H0 := Lib.hid h0; clear h0
    go_enter Try.func48, Try.ntmps48
    go_wp2_with fail
    refine HV.out.mono ?_; rintro e w1 ⟨rfl, hB⟩
    go_wp2_with fail
    go_ret2
    exact R2.mk (rows_nil_c _) (hA.trans hB)

set_option maxHeartbeats 400000 in
theorem Empty_c (sv ev : Value) (sizes : List Int) (es : List Ent) (w : World) (hp : Par w sv ev sizes es) :
    Calls Try.prog 50 #[.agg #[sv, ev]] w (R2 (if validI sizes es = 0 then isRows ((cellsOf sizes).filter (emptyB es)) else isRows []) (validI sizes es) w) := by
  have hA := Ext.alloc w (.cells #[sv, ev] 25)
  have HV := Lib.hid (validate_c sv ev sizes es _ (hp.s.ext hA) (hp.e.ext hA))
  have HP := Lib.hid hp; clear hp
  by_cases h0 : validI sizes es = 0
  · have V := validI_zero h0
    rw [h0] at HV ⊢
    rw [if_pos rfl]
    clear h0
    go_enter Try.func50, Try.ntmps50
    go_wp2_with fail
    refine HV.out.mono ?_; rintro e w1 ⟨rfl, hB⟩
    have hb0 := hB.keep (alloc_cell w #[sv, ev] 25 (i := 0) rfl)
    have hb1 := hB.keep (alloc_cell w #[sv, ev] 25 (i := 1) rfl)
    have hX := hA.trans hB
    go_wp2_with fail
    refine (where_c sv ev sizes 95 #[.pointer (some ⟨w.heap.size, 0, none⟩)] (emptyB es) w1 (enters_of Try.func95 (by kernel_rfl) rfl) (HP.out.s.ext hX) V.ok
      (fun W x v hW hx hi => empty1_c sv ev v sizes es x W (HP.out.e.ext (hX.trans hW)) hi V (mem_len V.ok hx) _ (hW.keep hb0) (hW.keep hb1))).mono ?_
    rintro e w2 ⟨v, rfl, hr, hB2⟩
    have HR := Lib.hid hr; clear hr
    go_wp2_with fail
    go_ret2
    exact R2.mk HR.out (hX.trans hB2)
  · rw [if_neg h0]
    generalize validI sizes es = k at *
    have hk : (k != 0) = true := by simp [h0]
    have H0 := Lib.hid h0; clear h0
    go_enter Try.func50, Try.ntmps50
    go_wp2_with fail
    refine HV.out.mono ?_; rintro e w1 ⟨rfl, hB⟩
    go_wp2_with fail
    go_ret2
    exact R2.mk (rows_nil_c _) (hA.trans hB)

set_option maxHeartbeats 4000000 in
set_option maxRecDepth 100000 in
theorem formless_c (sv ev : Value) (sizes : List Int) (es : List Ent) (m : Bool) (w : World) (hp : Par w sv ev sizes es) (V : ValidP sizes es) :
    Calls Try.prog 94 #[.agg #[sv, ev], .bool m] w (RRows ((cellsOf sizes).filter (formB es m)) w) := by
  have hA := Ext.alloc w (.cells #[sv, ev] 25)
  have hb0 := alloc_cell w #[sv, ev] 25 (i := 0) rfl
  have hb1 := alloc_cell w #[sv, ev] 25 (i := 1) rfl
  have HP := Lib.hid hp; have HVV := Lib.hid V; clear hp V
  have HLEN := Lib.hid (fun k hk => cells_len HVV.out.ok (k := k) hk)
  have HCR := Lib.hid (fun W (h : Ext w W) => rcells_c sv ev sizes W (HP.out.s.ext h) HVV.out.ok)
  rw [cellsR_eq HVV.out.ok] at HCR
  have hcount := (cells_count HVV.out.ok).2
  generalize cellsOf sizes = L at *
  go_enter Try.func94, Try.ntmps94
  go_wp2_with fail
  refine (HCR.out _ hA).mono ?_; rintro e w2 ⟨v, rfl, hr, hB2⟩
  have hb0 := hB2.keep hb0
  have hb1 := hB2.keep hb1
  have hX2 := hA.trans hB2
  obtain ⟨al, cl, rfl, hll, hml, HR⟩ := Rows.open_ hr
  clear hr
  go_wp2_with fail
  go_loopg [7, 5] L.length (fun mm i v wr => ∃ k : Nat, k ≤ L.length ∧ L.length ≤ k + mm ∧ i = .int .i64 k ∧ Picks w2 v ((L.take k).filter (formB es m)) wr)
  case atStart => exact ⟨0, by omega, by omega, rfl, by simpa using Picks.nil w2⟩
  case round =>
    obtain ⟨k, hk, hk2, rfl, hcoll⟩ := hrel
    have hx := hcoll.1
    by_cases hlt : k < L.length
    · obtain ⟨ba, oa, rfl, u, hc1, hi1⟩ := HR.out k hlt
      have hb0w := hx.keep hb0
      have hb1w := hx.keep hb1
      have hc1w := hx.keep hc1
      have hfs := filter_succ (formB es m) hlt
      have hll2 : ((L.take k).filter (formB es m)).length ≤ 27 := by have := List.length_filter_le (formB es m) (L.take k); simp at this; omega
      have HI1 := Lib.hid hi1
      have HF := Lib.hid (fun W (h : Ext wr W) => rForm_c sv ev u sizes es (L[k]?.getD []) W (HP.out.ext ((hX2.trans hx).trans h)) ((hi1.ext hx).ext h) HVV.out (HLEN.out k hlt))
      have HM := Lib.hid (fun W (h : Ext wr W) => rMatches_c sv ev u sizes es (L[k]?.getD []) W (HP.out.ext ((hX2.trans hx).trans h)) ((hi1.ext hx).ext h) HVV.out (HLEN.out k hlt))
      obtain ⟨au, cu, rfl, _⟩ := hi1.open_
      clear hi1
      generalize L[k]?.getD [] = x at *
      have HCO := Lib.hid hcoll
      by_cases hf : formI es x < 0
      · have hf1 : decide (formI es x < 0) = true := decide_eq_true hf
        by_cases h0 : 0 < (sel es.length (matchB es x)).length
        · cases m
          · have hh : formB es false x = false := by simp [formB, hf, h0]
            rw [hh] at hfs
            simp only [Bool.false_eq_true, if_false, List.append_nil] at hfs
            have HFS := Lib.hid hfs
            clear hcoll hh hfs
            generalize formI es x = f at *
            generalize sel es.length (matchB es x) = l at *
            go_wp2_with fail
            refine wp_region_turns 18 [.look 0, .look 1, .look 2, .look 3, .look 4, .go 5, .look 6, .look 7, .look 8, .look 9, .look 10, .look 11, .look 12, .look 16, .go 13, .look 14, .look 15, .look 17] (by kernel_rfl) (by kernel_rfl) (by intro c a d v w h; cases d <;> exact h) ?_
            have hd : Ext wr { wr with drawn := wr.drawn + 1 } := drawn_ext wr
            generalize { wr with drawn := wr.drawn + 1 } = W1 at *
            have q0 := fun s : Later W1 => (hd.trans s.ext).keep hb0w
            have q1 := fun s : Later W1 => (hd.trans s.ext).keep hb1w
            have q2 := fun s : Later W1 => (hd.trans s.ext).keep hc1w
            iterate 5 (refine wpTurns_look rfl (fun K hK => ?_); go_simp; first | (refine hK _ ?_; clear hK K) | (refine ⟨_, fun _ => rfl, hK _ ?_⟩; clear hK K))
            refine wpTurns_go rfl rfl (fun K hK => ?_)
            go_wp2_with fail
            refine (HF.out _ hd).mono ?_; rintro e W2 ⟨rfl, hy2⟩
            go_wp2_with fail
            refine ⟨hy2, ?_⟩
            clear q0 q1 q2
            have q0 := fun s : Later W2 => ((hd.trans hy2).trans s.ext).keep hb0w
            have q1 := fun s : Later W2 => ((hd.trans hy2).trans s.ext).keep hb1w
            have q2 := fun s : Later W2 => ((hd.trans hy2).trans s.ext).keep hc1w
            iterate 8 (refine wpTurns_look rfl (fun K hK => ?_); go_simp; first | (refine hK _ ?_; clear hK K) | (refine ⟨_, fun _ => rfl, hK _ ?_⟩; clear hK K))
            refine wpTurns_go rfl (by go_simp) (fun K hK => ?_)
            go_wp2_with fail
            refine (HM.out _ (hd.trans hy2)).mono ?_; rintro e W3 ⟨v3, rfl, hi3, hy3⟩
            obtain ⟨a3, c3, rfl, _⟩ := hi3.open_
            clear hi3 q0 q1 q2
            go_wp2_with fail
            refine ⟨hy3, ?_⟩
            iterate 3 (refine wpTurns_look rfl (fun K hK => ?_); go_simp; first | (refine hK _ ?_; clear hK K) | (refine ⟨_, fun _ => rfl, hK _ ?_⟩; clear hK K))
            refine wpTurns_nil rfl ?_
            have hq := (hd.trans hy2).trans hy3
            have hc1q := hq.keep hc1w
            go_wp2_with fail
            go_roundg (gk-1)
            case measure => omega
            case rel => exact ⟨k+1, by omega, by omega, by go_num, by rw [HFS.out]; exact HCO.out.ext hq⟩
          · have hh : formB es true x = true := by simp [formB, hf, h0]
            rw [hh] at hfs
            simp only [if_true] at hfs
            have HFS := Lib.hid hfs
            clear hcoll hh hfs
            generalize formI es x = f at *
            generalize sel es.length (matchB es x) = l at *
            go_wp2_with fail
            refine wp_region_turns 18 [.look 0, .look 1, .look 2, .look 3, .look 4, .go 5, .look 6, .look 7, .look 8, .look 9, .look 10, .look 11, .look 12, .look 16, .go 13, .look 14, .look 15, .look 17] (by kernel_rfl) (by kernel_rfl) (by intro c a d v w h; cases d <;> exact h) ?_
            have hd : Ext wr { wr with drawn := wr.drawn + 1 } := drawn_ext wr
            generalize { wr with drawn := wr.drawn + 1 } = W1 at *
            have q0 := fun s : Later W1 => (hd.trans s.ext).keep hb0w
            have q1 := fun s : Later W1 => (hd.trans s.ext).keep hb1w
            have q2 := fun s : Later W1 => (hd.trans s.ext).keep hc1w
            iterate 5 (refine wpTurns_look rfl (fun K hK => ?_); go_simp; first | (refine hK _ ?_; clear hK K) | (refine ⟨_, fun _ => rfl, hK _ ?_⟩; clear hK K))
            refine wpTurns_go rfl rfl (fun K hK => ?_)
            go_wp2_with fail
            refine (HF.out _ hd).mono ?_; rintro e W2 ⟨rfl, hy2⟩
            go_wp2_with fail
            refine ⟨hy2, ?_⟩
            clear q0 q1 q2
            have q0 := fun s : Later W2 => ((hd.trans hy2).trans s.ext).keep hb0w
            have q1 := fun s : Later W2 => ((hd.trans hy2).trans s.ext).keep hb1w
            have q2 := fun s : Later W2 => ((hd.trans hy2).trans s.ext).keep hc1w
            iterate 8 (refine wpTurns_look rfl (fun K hK => ?_); go_simp; first | (refine hK _ ?_; clear hK K) | (refine ⟨_, fun _ => rfl, hK _ ?_⟩; clear hK K))
            refine wpTurns_go rfl (by go_simp) (fun K hK => ?_)
            go_wp2_with fail
            refine (HM.out _ (hd.trans hy2)).mono ?_; rintro e W3 ⟨v3, rfl, hi3, hy3⟩
            obtain ⟨a3, c3, rfl, _⟩ := hi3.open_
            clear hi3 q0 q1 q2
            go_wp2_with fail
            refine ⟨hy3, ?_⟩
            iterate 3 (refine wpTurns_look rfl (fun K hK => ?_); go_simp; first | (refine hK _ ?_; clear hK K) | (refine ⟨_, fun _ => rfl, hK _ ?_⟩; clear hK K))
            refine wpTurns_nil rfl ?_
            have hq := (hd.trans hy2).trans hy3
            have hc1q := hq.keep hc1w
            go_wp2_with (at_builtin; refine wpList_appendRow rfl _ _ rfl rfl rfl (HCO.out.ext hq) rfl HI1.out (by omega) ?_; intro v' w' hc2)
            go_roundg (gk-1)
            case measure => omega
            case rel => exact ⟨k+1, by omega, by omega, by go_num, by rw [HFS.out]; exact hc2⟩
        · have h0' : (sel es.length (matchB es x)).length = 0 := by omega
          cases m
          · have hh : formB es false x = true := by simp [formB, hf, h0]
            rw [hh] at hfs
            simp only [if_true] at hfs
            have HFS := Lib.hid hfs
            clear hcoll hh hfs
            generalize formI es x = f at *
            generalize sel es.length (matchB es x) = l at *
            go_wp2_with fail
            refine wp_region_turns 18 [.look 0, .look 1, .look 2, .look 3, .look 4, .go 5, .look 6, .look 7, .look 8, .look 9, .look 10, .look 11, .look 12, .look 16, .go 13, .look 14, .look 15, .look 17] (by kernel_rfl) (by kernel_rfl) (by intro c a d v w h; cases d <;> exact h) ?_
            have hd : Ext wr { wr with drawn := wr.drawn + 1 } := drawn_ext wr
            generalize { wr with drawn := wr.drawn + 1 } = W1 at *
            have q0 := fun s : Later W1 => (hd.trans s.ext).keep hb0w
            have q1 := fun s : Later W1 => (hd.trans s.ext).keep hb1w
            have q2 := fun s : Later W1 => (hd.trans s.ext).keep hc1w
            iterate 5 (refine wpTurns_look rfl (fun K hK => ?_); go_simp; first | (refine hK _ ?_; clear hK K) | (refine ⟨_, fun _ => rfl, hK _ ?_⟩; clear hK K))
            refine wpTurns_go rfl rfl (fun K hK => ?_)
            go_wp2_with fail
            refine (HF.out _ hd).mono ?_; rintro e W2 ⟨rfl, hy2⟩
            go_wp2_with fail
            refine ⟨hy2, ?_⟩
            clear q0 q1 q2
            have q0 := fun s : Later W2 => ((hd.trans hy2).trans s.ext).keep hb0w
            have q1 := fun s : Later W2 => ((hd.trans hy2).trans s.ext).keep hb1w
            have q2 := fun s : Later W2 => ((hd.trans hy2).trans s.ext).keep hc1w
            iterate 8 (refine wpTurns_look rfl (fun K hK => ?_); go_simp; first | (refine hK _ ?_; clear hK K) | (refine ⟨_, fun _ => rfl, hK _ ?_⟩; clear hK K))
            refine wpTurns_go rfl (by go_simp) (fun K hK => ?_)
            go_wp2_with fail
            refine (HM.out _ (hd.trans hy2)).mono ?_; rintro e W3 ⟨v3, rfl, hi3, hy3⟩
            obtain ⟨a3, c3, rfl, _⟩ := hi3.open_
            clear hi3 q0 q1 q2
            go_wp2_with fail
            refine ⟨hy3, ?_⟩
            iterate 3 (refine wpTurns_look rfl (fun K hK => ?_); go_simp; first | (refine hK _ ?_; clear hK K) | (refine ⟨_, fun _ => rfl, hK _ ?_⟩; clear hK K))
            refine wpTurns_nil rfl ?_
            have hq := (hd.trans hy2).trans hy3
            have hc1q := hq.keep hc1w
            go_wp2_with (at_builtin; refine wpList_appendRow rfl _ _ rfl rfl rfl (HCO.out.ext hq) rfl HI1.out (by omega) ?_; intro v' w' hc2)
            go_roundg (gk-1)
            case measure => omega
            case rel => exact ⟨k+1, by omega, by omega, by go_num, by rw [HFS.out]; exact hc2⟩
          · have hh : formB es true x = false := by simp [formB, hf, h0]
            rw [hh] at hfs
            simp only [Bool.false_eq_true, if_false, List.append_nil] at hfs
            have HFS := Lib.hid hfs
            clear hcoll hh hfs
            generalize formI es x = f at *
            generalize sel es.length (matchB es x) = l at *
            go_wp2_with fail
            refine wp_region_turns 18 [.look 0, .look 1, .look 2, .look 3, .look 4, .go 5, .look 6, .look 7, .look 8, .look 9, .look 10, .look 11, .look 12, .look 16, .go 13, .look 14, .look 15, .look 17] (by kernel_rfl) (by kernel_rfl) (by intro c a d v w h; cases d <;> exact h) ?_
            have hd : Ext wr { wr with drawn := wr.drawn + 1 } := drawn_ext wr
            generalize { wr with drawn := wr.drawn + 1 } = W1 at *
            have q0 := fun s : Later W1 => (hd.trans s.ext).keep hb0w
            have q1 := fun s : Later W1 => (hd.trans s.ext).keep hb1w
            have q2 := fun s : Later W1 => (hd.trans s.ext).keep hc1w
            iterate 5 (refine wpTurns_look rfl (fun K hK => ?_); go_simp; first | (refine hK _ ?_; clear hK K) | (refine ⟨_, fun _ => rfl, hK _ ?_⟩; clear hK K))
            refine wpTurns_go rfl rfl (fun K hK => ?_)
            go_wp2_with fail
            refine (HF.out _ hd).mono ?_; rintro e W2 ⟨rfl, hy2⟩
            go_wp2_with fail
            refine ⟨hy2, ?_⟩
            clear q0 q1 q2
            have q0 := fun s : Later W2 => ((hd.trans hy2).trans s.ext).keep hb0w
            have q1 := fun s : Later W2 => ((hd.trans hy2).trans s.ext).keep hb1w
            have q2 := fun s : Later W2 => ((hd.trans hy2).trans s.ext).keep hc1w
            iterate 8 (refine wpTurns_look rfl (fun K hK => ?_); go_simp; first | (refine hK _ ?_; clear hK K) | (refine ⟨_, fun _ => rfl, hK _ ?_⟩; clear hK K))
            refine wpTurns_go rfl (by go_simp) (fun K hK => ?_)
            go_wp2_with fail
            refine (HM.out _ (hd.trans hy2)).mono ?_; rintro e W3 ⟨v3, rfl, hi3, hy3⟩
            obtain ⟨a3, c3, rfl, _⟩ := hi3.open_
            clear hi3 q0 q1 q2
            go_wp2_with fail
            refine ⟨hy3, ?_⟩
            iterate 3 (refine wpTurns_look rfl (fun K hK => ?_); go_simp; first | (refine hK _ ?_; clear hK K) | (refine ⟨_, fun _ => rfl, hK _ ?_⟩; clear hK K))
            refine wpTurns_nil rfl ?_
            have hq := (hd.trans hy2).trans hy3
            have hc1q := hq.keep hc1w
            go_wp2_with fail
            go_roundg (gk-1)
            case measure => omega
            case rel => exact ⟨k+1, by omega, by omega, by go_num, by rw [HFS.out]; exact HCO.out.ext hq⟩
      · have hf1 : decide (formI es x < 0) = false := decide_eq_false hf
        cases m
        · have hh : formB es false x = false := by simp [formB, hf]
          rw [hh] at hfs
          simp only [Bool.false_eq_true, if_false, List.append_nil] at hfs
          have HFS := Lib.hid hfs
          clear hcoll hh hfs
          generalize formI es x = f at *
          generalize sel es.length (matchB es x) = l at *
          go_wp2_with fail
          refine wp_region_turns 18 [.look 0, .look 1, .look 2, .look 3, .look 4, .go 5, .look 6, .look 7, .look 8, .look 9, .look 10, .look 11, .look 12, .look 16, .go 13, .look 14, .look 15, .look 17] (by kernel_rfl) (by kernel_rfl) (by intro c a d v w h; cases d <;> exact h) ?_
          have hd : Ext wr { wr with drawn := wr.drawn + 1 } := drawn_ext wr
          generalize { wr with drawn := wr.drawn + 1 } = W1 at *
          have q0 := fun s : Later W1 => (hd.trans s.ext).keep hb0w
          have q1 := fun s : Later W1 => (hd.trans s.ext).keep hb1w
          have q2 := fun s : Later W1 => (hd.trans s.ext).keep hc1w
          iterate 5 (refine wpTurns_look rfl (fun K hK => ?_); go_simp; first | (refine hK _ ?_; clear hK K) | (refine ⟨_, fun _ => rfl, hK _ ?_⟩; clear hK K))
          refine wpTurns_go rfl rfl (fun K hK => ?_)
          go_wp2_with fail
          refine (HF.out _ hd).mono ?_; rintro e W2 ⟨rfl, hy2⟩
          go_wp2_with fail
          refine ⟨hy2, ?_⟩
          clear q0 q1 q2
          have q0 := fun s : Later W2 => ((hd.trans hy2).trans s.ext).keep hb0w
          have q1 := fun s : Later W2 => ((hd.trans hy2).trans s.ext).keep hb1w
          have q2 := fun s : Later W2 => ((hd.trans hy2).trans s.ext).keep hc1w
          iterate 8 (refine wpTurns_look rfl (fun K hK => ?_); go_simp; first | (refine hK _ ?_; clear hK K) | (refine ⟨_, fun _ => rfl, hK _ ?_⟩; clear hK K))
          refine wpTurns_skip rfl (by go_simp) ?_
          iterate 3 (refine wpTurns_look rfl (fun K hK => ?_); go_simp; first | (refine hK _ ?_; clear hK K) | (refine ⟨_, fun _ => rfl, hK _ ?_⟩; clear hK K))
          refine wpTurns_nil rfl ?_
          have hq := hd.trans hy2
          clear q0 q1 q2
          go_wp2_with fail
          go_roundg (gk-1)
          case measure => omega
          case rel => exact ⟨k+1, by omega, by omega, by go_num, by rw [HFS.out]; exact HCO.out.ext hq⟩
        · have hh : formB es true x = false := by simp [formB, hf]
          rw [hh] at hfs
          simp only [Bool.false_eq_true, if_false, List.append_nil] at hfs
          have HFS := Lib.hid hfs
          clear hcoll hh hfs
          generalize formI es x = f at *
          generalize sel es.length (matchB es x) = l at *
          go_wp2_with fail
          refine wp_region_turns 18 [.look 0, .look 1, .look 2, .look 3, .look 4, .go 5, .look 6, .look 7, .look 8, .look 9, .look 10, .look 11, .look 12, .look 16, .go 13, .look 14, .look 15, .look 17] (by kernel_rfl) (by kernel_rfl) (by intro c a d v w h; cases d <;> exact h) ?_
          have hd : Ext wr { wr with drawn := wr.drawn + 1 } := drawn_ext wr
          generalize { wr with drawn := wr.drawn + 1 } = W1 at *
          have q0 := fun s : Later W1 => (hd.trans s.ext).keep hb0w
          have q1 := fun s : Later W1 => (hd.trans s.ext).keep hb1w
          have q2 := fun s : Later W1 => (hd.trans s.ext).keep hc1w
          iterate 5 (refine wpTurns_look rfl (fun K hK => ?_); go_simp; first | (refine hK _ ?_; clear hK K) | (refine ⟨_, fun _ => rfl, hK _ ?_⟩; clear hK K))
          refine wpTurns_go rfl rfl (fun K hK => ?_)
          go_wp2_with fail
          refine (HF.out _ hd).mono ?_; rintro e W2 ⟨rfl, hy2⟩
          go_wp2_with fail
          refine ⟨hy2, ?_⟩
          clear q0 q1 q2
          have q0 := fun s : Later W2 => ((hd.trans hy2).trans s.ext).keep hb0w
          have q1 := fun s : Later W2 => ((hd.trans hy2).trans s.ext).keep hb1w
          have q2 := fun s : Later W2 => ((hd.trans hy2).trans s.ext).keep hc1w
          iterate 8 (refine wpTurns_look rfl (fun K hK => ?_); go_simp; first | (refine hK _ ?_; clear hK K) | (refine ⟨_, fun _ => rfl, hK _ ?_⟩; clear hK K))
          refine wpTurns_skip rfl (by go_simp) ?_
          iterate 3 (refine wpTurns_look rfl (fun K hK => ?_); go_simp; first | (refine hK _ ?_; clear hK K) | (refine ⟨_, fun _ => rfl, hK _ ?_⟩; clear hK K))
          refine wpTurns_nil rfl ?_
          have hq := hd.trans hy2
          clear q0 q1 q2
          go_wp2_with fail
          go_roundg (gk-1)
          case measure => omega
          case rel => exact ⟨k+1, by omega, by omega, by go_num, by rw [HFS.out]; exact HCO.out.ext hq⟩
    · obtain rfl : k = L.length := by omega
      rw [List.take_length] at hcoll
      have HCO := Lib.hid hcoll; clear hcoll
      go_wp2_with fail
      go_ret
      exact ⟨_, rfl, HCO.out.rows, hX2.trans hx⟩

set_option maxHeartbeats 400000 in
theorem rClashes_c (sv ev : Value) (sizes : List Int) (es : List Ent) (w : World) (hp : Par w sv ev sizes es) :
    Calls Try.prog 49 #[.agg #[sv, ev]] w (R2 (if validI sizes es = 0 then isRows ((cellsOf sizes).filter (clashB es)) else isRows []) (validI sizes es) w) := by
  have hA := Ext.alloc w (.cells #[sv, ev] 25)
  have HV := Lib.hid (rValidate_c sv ev sizes es _ (hp.s.ext hA) (hp.e.ext hA))
  have HP := Lib.hid hp; clear hp
  by_cases h0 : validI sizes es = 0
  · have V := validI_zero h0
    rw [h0] at HV ⊢
    rw [if_pos rfl]
    clear h0
    go_enter Try.func49, Try.ntmps49
    go_wp2_with fail
    refine HV.out.mono ?_; rintro e w1 ⟨rfl, hB⟩
    have hb0 := hB.keep (alloc_cell w #[sv, ev] 25 (i := 0) rfl)
    have hb1 := hB.keep (alloc_cell w #[sv, ev] 25 (i := 1) rfl)
    have hX := hA.trans hB
    go_wp2_with fail
    refine (formless_c sv ev sizes es true w1 (HP.out.ext hX) V).mono ?_
    rw [formB_true V]
    rintro e w2 ⟨v, rfl, hr, hB2⟩
    have HR := Lib.hid hr; clear hr
    go_wp2_with fail
    go_ret2
    exact R2.mk HR.out (hX.trans hB2)
  · rw [if_neg h0]
    generalize validI sizes es = k at *
    have hk : (k != 0) = true := by simp [h0]
    have H0 := Lib.hid h0; clear h0
    go_enter Try.func49, Try.ntmps49
    go_wp2_with fail
    refine HV.out.mono ?_; rintro e w1 ⟨rfl, hB⟩
    go_wp2_with fail
    go_ret2
    exact R2.mk (rows_nil_c _) (hA.trans hB)

set_option maxHeartbeats 400000 in
theorem rEmpty_c (sv ev : Value) (sizes : List Int) (es : List Ent) (w : World) (hp : Par w sv ev sizes es) :
    Calls Try.prog 51 #[.agg #[sv, ev]] w (R2 (if validI sizes es = 0 then isRows ((cellsOf sizes).filter (emptyB es)) else isRows []) (validI sizes es) w) := by
  have hA := Ext.alloc w (.cells #[sv, ev] 25)
  have HV := Lib.hid (rValidate_c sv ev sizes es _ (hp.s.ext hA) (hp.e.ext hA))
  have HP := Lib.hid hp; clear hp
  by_cases h0 : validI sizes es = 0
  · have V := validI_zero h0
    rw [h0] at HV ⊢
    rw [if_pos rfl]
    clear h0
    go_enter Try.func51, Try.ntmps51
    go_wp2_with fail
    refine HV.out.mono ?_; rintro e w1 ⟨rfl, hB⟩
    have hb0 := hB.keep (alloc_cell w #[sv, ev] 25 (i := 0) rfl)
    have hb1 := hB.keep (alloc_cell w #[sv, ev] 25 (i := 1) rfl)
    have hX := hA.trans hB
    go_wp2_with fail
    refine (formless_c sv ev sizes es false w1 (HP.out.ext hX) V).mono ?_
    rw [formB_false V]
    rintro e w2 ⟨v, rfl, hr, hB2⟩
    have HR := Lib.hid hr; clear hr
    go_wp2_with fail
    go_ret2
    exact R2.mk HR.out (hX.trans hB2)
  · rw [if_neg h0]
    generalize validI sizes es = k at *
    have hk : (k != 0) = true := by simp [h0]
    have H0 := Lib.hid h0; clear h0
    go_enter Try.func51, Try.ntmps51
    go_wp2_with fail
    refine HV.out.mono ?_; rintro e w1 ⟨rfl, hB⟩
    go_wp2_with fail
    go_ret2
    exact R2.mk (rows_nil_c _) (hA.trans hB)

theorem clash_full {sizes : List Int} {es : List Ent} (V : ValidP sizes es) :
    (!hasB (fillL sizes es) (-1)) = (((cellsOf sizes).filter (clashB es)).length + ((cellsOf sizes).filter (emptyB es)).length == 0) := by
  rw [hasB_eq, Bool.eq_iff_iff]
  simp only [Bool.not_eq_true', beq_iff_eq, Nat.add_eq_zero_iff, List.length_eq_zero_iff, List.filter_eq_nil_iff]
  rw [← Bool.not_eq_true, List.contains_iff_mem, fillL, List.mem_map]
  have key : ∀ c, formI es c = -1 ↔ clashB es c = true ∨ emptyB es c = true := by
    intro c
    have hl := formI_lt (c := c) V
    have hge : formI es c = -1 ∨ 0 ≤ formI es c := by
      unfold formI
      rcases decidesI_cases es c with ⟨k, hk, hd⟩ | hd
      · rw [hd, if_pos (by omega)]
        have := V.ent k hk
        simp only [entB, Bool.and_eq_true, decide_eq_true_eq] at this
        exact .inr (by rw [Int.toNat_natCast]; exact this.2.1)
      · rw [hd, if_neg (by omega)]; exact .inl rfl
    have h2 : formI es c = -1 ↔ decidesI es c < 0 := by
      constructor
      · intro h; rw [h] at hl; simpa using hl.symm
      · intro h
        rw [decide_eq_true h] at hl
        have := of_decide_eq_true hl
        omega
    rw [h2, clashB, emptyB]
    by_cases h0 : (sel es.length (matchB es c)).length = 0
    · rw [decidesI_nil h0, h0]; simp
    · have h1 : 0 < (sel es.length (matchB es c)).length := by omega
      rw [decide_eq_true h1, show ((sel es.length (matchB es c)).length == 0) = false by simpa using h0]
      simp
  constructor
  · intro h
    refine ⟨fun c hc hcl => h ⟨c, hc, (key c).2 (.inl hcl)⟩, fun c hc hcl => h ⟨c, hc, (key c).2 (.inr hcl)⟩⟩
  · rintro ⟨h1, h2⟩ ⟨c, hc, hcf⟩
    rcases (key c).1 hcf with h | h
    · exact h1 c hc h
    · exact h2 c hc h
end Go.Proofs.Ytoepnpjjmfhnnaa
