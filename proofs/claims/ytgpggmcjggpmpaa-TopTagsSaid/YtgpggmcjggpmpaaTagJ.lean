/- Proof of the program: the table is handed back. -/
import Derived.Test.YtgpggmcjggpmpaaTagI
import Derived.Test.YtgpggmcjggpmpaaTagW
namespace Go.Proofs.Ytgpggmcjggpmpaa
open Go.RowKit Go.Shelf
set_option linter.unusedVariables false

def isRowsT (l : List (List Int)) (w : World) (v : Value) : Prop := Rows w v l
theorem rows_nil_t (w : World) : isRowsT [] w (.slice none 0 0) := ⟨none, 0, rfl, by simp, by unfold maxLen; omega, fun i hi => by simp at hi⟩
/-- what Proof answers -/
def proveE (l : Lex) (t : List Int) : Int := if textK l t = 0 then (if (leastO l t).2 then 0 else 4) else textK l t
def proveL (l : Lex) (t : List Int) : List (List Int) := if proveE l t = 0 then tabT l t (t.length + 1) else []
theorem prove_a {l : Lex} {t : List Int} (h : textK l t ≠ 0) : proveE l t = textK l t ∧ proveL l t = [] := by
  have e : proveE l t = textK l t := by unfold proveE; rw [if_neg h]
  exact ⟨e, by unfold proveL; rw [if_neg (by rw [e]; exact h)]⟩
theorem prove_b {l : Lex} {t : List Int} (h : textK l t = 0) (h2 : (leastO l t).2 = false) : proveE l t = 4 ∧ proveL l t = [] := by
  have e : proveE l t = 4 := by unfold proveE; rw [if_pos h, h2]; rfl
  exact ⟨e, by unfold proveL; rw [if_neg (by omega)]⟩
theorem prove_c {l : Lex} {t : List Int} (h : textK l t = 0) (h2 : (leastO l t).2 = true) : proveE l t = 0 ∧ proveL l t = tabT l t (t.length + 1) := by
  have e : proveE l t = 0 := by unfold proveE; rw [if_pos h, h2]; rfl
  exact ⟨e, by unfold proveL; rw [if_pos e]⟩
/-- a grid of rows of one's own reads as a list of lists -/
theorem grd_rows {W : World} {A N : Nat} {f : Nat → List Int} {vs : List Value} {L : List (List Int)} (h : GrD W A N 26 3 (fun _ => True) (gridI f) vs) (hN : N ≤ 1000) (hf : ∀ j, j < N → (f j).length ≤ 1000) (hL : L.length = N) (hLf : ∀ j, j < N → L[j]?.getD [] = f j) :
    Rows W (.slice (some ⟨A, 0, none⟩) N N) L := by
  refine ⟨some ⟨A, 0, none⟩, N, by rw [hL], by omega, by unfold maxLen; omega, fun j hj => ⟨A, 0, rfl, ?_⟩⟩
  rw [hL] at hj
  obtain ⟨g, hv, hb⟩ := h.row j hj trivial
  have hl : (gridI f j).length = (f j).length := gridI_len rfl
  rw [hl] at hv
  refine ⟨_, by rw [Nat.zero_add]; exact h.blk.cell hv, ?_⟩
  rw [hLf j hj]
  have hbi : BInts W g (f j) := hb
  exact hbi.ints (by have := hf j hj; omega)
theorem table_rows {l : Lex} {t : List Int} (hl : LexOk l) (ht : t.length ≤ 12) {W : World} {A : Nat} {vs : List Value} (h : GrD W A (t.length + 1) 26 3 (fun _ => True) (gridI (tR l t)) vs) : isRowsT (tabT l t (t.length + 1)) W (.slice (some ⟨A, 0, none⟩) (t.length + 1) (t.length + 1)) :=
  grd_rows h (by omega) (fun j _ => by rw [tR_len]; have := hl.n8; show l.n ≤ 1000; omega) (tabT_len _ _ _) (fun j hj => tabT_at l t hj)
set_option maxHeartbeats 2000000 in
theorem Proof_c (iv fv tv : Value) (l : Lex) (t : List Int) (w : World) (h : LexR w iv fv l) (ht : Ints w tv t) : Calls Try.prog 24 #[.agg #[iv, fv], tv] w (R2 (isRowsT (proveL l t)) (proveE l t) w) := by
  obtain ⟨wA, hwA⟩ : ∃ wA, wA = w.alloc (.cells #[iv, fv] 25) := ⟨_, rfl⟩
  have hE0 : Ext w wA := by rw [hwA]; exact Ext.alloc _ _
  have k0 : ∀ W, Ext wA W → W.cell? ⟨w.heap.size, 0, none⟩ = some iv := by rw [hwA]; exact kept_alloc w _ _ rfl
  have k1 : ∀ W, Ext wA W → W.cell? ⟨w.heap.size, 1, none⟩ = some fv := by rw [hwA]; exact kept_alloc w _ _ rfl
  have H0 : Ext wA wA := Ext.refl _
  have HR := Lib.hid (h.ext hE0)
  obtain ⟨ai, ci, rfl, hli, hmi, HI⟩ := (h.ext hE0).i.open_
  obtain ⟨af, cf, rfl, hlf, hmf, HF⟩ := Rows.open_ (h.ext hE0).f
  have HT := Lib.hid (ht.ext hE0)
  obtain ⟨at_, ct, rfl, hlt0, hmt0, HTO⟩ := (ht.ext hE0).open_
  have HC1 := Lib.hid (check_c _ _ _ l t wA HR.out HT.out)
  have HW := Lib.hid hwA; clear hwA h ht
  by_cases h0 : textK l t = 0
  · obtain ⟨hl, h12, _⟩ := textK_ok h0
    rw [h0] at HC1
    have HLO : Hid (leastO l t = if t = [] then (0, true) else if leastT l t = big then (0, false) else (leastT l t, true)) := Lib.hid (by unfold leastO; rw [if_pos h0])
    have hTC := Lib.hid (fun W (hW : Ext wA W) => table_c _ _ _ l t W (HR.out.ext hW) hl (HT.out.ext hW) h12)
    have hTR := Lib.hid (fun W A vs => table_rows (W := W) (A := A) (vs := vs) hl h12)
    by_cases htn : t = []
    · obtain ⟨e1, e2⟩ := prove_c h0 (by rw [HLO.out, if_pos htn])
      rw [e1, e2]
      have hd : decide (0 < (t.length : Int)) = false := by simp [htn]
      have hdn : decide (0 < t.length) = false := by simp [htn]
      clear h0 htn e1 e2 HLO
      go_enter Try.func24, Try.ntmps24
      go_wp2_with fail
      rw [← HW.out]
      refine HC1.out.mono ?_; rintro e w1 ⟨rfl, hx1⟩
      go_wp2_with fail
      refine (hTC.out w1 hx1).mono ?_; rintro e w2 ⟨A, vs, rfl, hgd, hx2⟩
      have HGD := Lib.hid (hTR.out _ _ _ hgd); clear hgd
      go_wp2_with fail
      go_ret2
      exact R2.mk HGD.out (hE0.trans (hx1.trans hx2))
    · have hd : decide (0 < (t.length : Int)) = true := by
        simp; cases t with
        | nil => exact absurd rfl htn
        | cons a b => simp
      have hdn : decide (0 < t.length) = true := by
        simp; cases t with
        | nil => exact absurd rfl htn
        | cons a b => simp
      have hLT : Hid (leastT l t = minTo (tR l t t.length) l.i.length) := Lib.hid rfl
      have hn1 : 1 ≤ l.i.length := hl.n1
      have hn8 : l.i.length ≤ 8 := hl.n8
      have htl : (t.length : Int) < (t.length : Int) + 1 := by omega
      rw [if_neg htn] at HLO
      have HPB := Lib.hid (prove_b (l := l) (t := t) h0)
      have HPC := Lib.hid (prove_c (l := l) (t := t) h0)
      rw [HLO.out] at HPB HPC
      clear HLO
      generalize hml : leastT l t = m at *
      have HML := Lib.hid hml
      by_cases hbig : m = big
      · rw [if_pos hbig] at HPB
        obtain ⟨e1, e2⟩ := HPB.out rfl
        rw [e1, e2]
        have hdb : (m == 100000) = true := by rw [hbig]; rfl
        clear h0 htn hml hbig e1 e2 HPB HPC
        go_enter Try.func24, Try.ntmps24
        go_wp2_with fail
        rw [← HW.out]
        refine HC1.out.mono ?_; rintro e w1 ⟨rfl, hx1⟩
        go_wp2_with fail
        refine (hTC.out w1 hx1).mono ?_; rintro e w2 ⟨A, vs, rfl, hgd, hx2⟩
        have hX2 := hx1.trans hx2
        obtain ⟨g, hv, hbv⟩ := hgd.row t.length (by omega) trivial
        have hcA := hgd.blk.cell hv
        rw [gridI_len (tR_len l t t.length)] at hcA
        have hbi : BInts w2 g (tR l t t.length) := hbv
        have hMC := min_c _ _ w2 (hbi.ints (by rw [tR_len]; omega)) (by rw [tR_len]; omega)
        rw [tR_len, ← hLT.out] at hMC
        have HMC := Lib.hid hMC
        have HGD := Lib.hid (hTR.out _ _ _ hgd)
        clear hbi hbv hgd hv hMC
        go_wp2_with fail
        refine HMC.out.mono ?_; rintro e w3 ⟨rfl, rfl⟩
        go_wp2_with fail
        go_ret2
        exact R2.mk (rows_nil_t _) (hE0.trans hX2)
      · rw [if_neg hbig] at HPC
        obtain ⟨e1, e2⟩ := HPC.out rfl
        rw [e1, e2]
        have hdb : (m == 100000) = false := by simpa [big] using hbig
        clear h0 htn hml hbig e1 e2 HPB HPC
        go_enter Try.func24, Try.ntmps24
        go_wp2_with fail
        rw [← HW.out]
        refine HC1.out.mono ?_; rintro e w1 ⟨rfl, hx1⟩
        go_wp2_with fail
        refine (hTC.out w1 hx1).mono ?_; rintro e w2 ⟨A, vs, rfl, hgd, hx2⟩
        have hX2 := hx1.trans hx2
        obtain ⟨g, hv, hbv⟩ := hgd.row t.length (by omega) trivial
        have hcA := hgd.blk.cell hv
        rw [gridI_len (tR_len l t t.length)] at hcA
        have hbi : BInts w2 g (tR l t t.length) := hbv
        have hMC := min_c _ _ w2 (hbi.ints (by rw [tR_len]; omega)) (by rw [tR_len]; omega)
        rw [tR_len, ← hLT.out] at hMC
        have HMC := Lib.hid hMC
        have HGD := Lib.hid (hTR.out _ _ _ hgd)
        clear hbi hbv hgd hv hMC
        go_wp2_with fail
        refine HMC.out.mono ?_; rintro e w3 ⟨rfl, rfl⟩
        go_wp2_with fail
        go_ret2
        exact R2.mk HGD.out (hE0.trans hX2)
  · obtain ⟨e1, e2⟩ := prove_a (t := t) h0
    rw [e1, e2]
    generalize textK l t = k at *
    have hk : (k != 0) = true := by simpa using h0
    clear h0 e1 e2
    go_enter Try.func24, Try.ntmps24
    go_wp2_with fail
    rw [← HW.out]
    refine HC1.out.mono ?_; rintro e w1 ⟨rfl, hx1⟩
    go_wp2_with fail
    go_ret2
    exact R2.mk (rows_nil_t _) (hE0.trans hx1)
end Go.Proofs.Ytgpggmcjggpmpaa
