/- The least number of a list; Least and Proof of the program. -/
import Derived.Test.YtgpggmcjggpmpaaTagH
namespace Go.Proofs.Ytgpggmcjggpmpaa
open Go.RowKit Go.Shelf
set_option linter.unusedVariables false

set_option maxHeartbeats 1000000 in
theorem min_c (v : Value) (l : List Int) (w : World) (h : Ints w v l) (h1 : 1 ≤ l.length) : Calls Try.prog 62 #[v] w (RP (.int .i64 (minTo l l.length)) w) := by
  obtain ⟨a, c, rfl, hl, hm, H⟩ := h.open_
  clear h
  obtain ⟨b, o, rfl, hc0⟩ := H.out 0 (by omega)
  rw [Nat.add_zero] at hc0
  have hd : decide ((l.length : Int) < 1) = false := by simp; omega
  have hd2 : ¬ (l.length : Int) < 1 := by omega
  have hpos : (0 : Int) < (l.length : Int) := by omega
  have H0 : Hid (minTo l 0 = l[0]?.getD 0) := Lib.hid rfl
  have H1 : Hid (minTo l 1 = l[0]?.getD 0) := Lib.hid (by show min (l[0]?.getD 0) (l[0]?.getD 0) = _; omega)
  generalize l[0]?.getD 0 = x0 at *
  go_enter Try.func62, Try.ntmps62
  go_wp2_with fail
  go_loopg [4, 3] l.length (fun z i m wr => ∃ k : Nat, 1 ≤ k ∧ k ≤ l.length ∧ l.length ≤ k + z ∧ i = .int .i64 k ∧ m = .int .i64 (minTo l k) ∧ w = wr)
  case atStart => exact ⟨1, by omega, by omega, by omega, rfl, by rw [H1.out], rfl⟩
  case round =>
    obtain ⟨k, hk1, hk, hkz, rfl, rfl, rfl⟩ := hrel
    by_cases hlt : k < l.length
    · obtain ⟨b', o', he, hc⟩ := H.out k hlt
      injection he with he; injection he with he1 he2; subst he1 he2
      have HN : Hid (minTo l (k + 1) = min (minTo l k) (l[k]?.getD 0)) := Lib.hid rfl
      generalize l[k]?.getD 0 = x at *
      generalize minTo l k = m at *
      rcases Int.lt_or_le x m with hmm | hmm
      · go_wp2_with fail
        go_roundg (gk-1)
        case measure => omega
        case rel => exact ⟨k+1, by omega, by omega, by omega, by go_num, by rw [HN.out, show min m x = x by omega], rfl⟩
      · go_wp2_with fail
        go_roundg (gk-1)
        case measure => omega
        case rel => exact ⟨k+1, by omega, by omega, by omega, by go_num, by rw [HN.out, show min m x = m by omega], rfl⟩
    · have hkl : k = l.length := by omega
      subst hkl
      go_wp2_with fail
      go_ret
      exact RP.int rfl
def R3v (a : Int) (b : Bool) (k : Int) (w : World) (e : Ending) (w' : World) : Prop := RV (.tuple #[.int .i64 a, .bool b, .int .i64 k]) w e w'
set_option maxHeartbeats 2000000 in
theorem Least_c (iv fv tv : Value) (l : Lex) (t : List Int) (w : World) (h : LexR w iv fv l) (ht : Ints w tv t) : Calls Try.prog 22 #[.agg #[iv, fv], tv] w (R3v (leastO l t).1 (leastO l t).2 (textK l t) w) := by
  obtain ⟨wA, hwA⟩ : ∃ wA, wA = w.alloc (.cells #[iv, fv] 25) := ⟨_, rfl⟩
  have hE0 : Ext w wA := by rw [hwA]; exact Ext.alloc _ _
  have k0 : ∀ W, Ext wA W → W.cell? ⟨w.heap.size, 0, none⟩ = some iv := by rw [hwA]; exact kept_alloc w _ _ rfl
  have k1 : ∀ W, Ext wA W → W.cell? ⟨w.heap.size, 1, none⟩ = some fv := by rw [hwA]; exact kept_alloc w _ _ rfl
  have H0 : Ext wA wA := Ext.refl _
  have HR := Lib.hid (h.ext hE0)
  obtain ⟨ai, ci, rfl, hli, hmi, HI⟩ := (h.ext hE0).i.open_
  obtain ⟨af, cf, rfl, hlf, hmf, HF⟩ := Rows.open_ (h.ext hE0).f
  have HT := Lib.hid (ht.ext hE0)
  obtain ⟨at_, ct, rfl, hlt0, hmt0, HTO⟩ := (ht.ext hE0).open_
  have HC1 := Lib.hid (check_c _ _ _ l t wA HR.out HT.out)
  have HW := Lib.hid hwA; clear hwA h ht
  by_cases h0 : textK l t = 0
  · obtain ⟨hl, h12, _⟩ := textK_ok h0
    rw [h0] at HC1
    have HLO : Hid (leastO l t = if t = [] then (0, true) else if leastT l t = big then (0, false) else (leastT l t, true)) := Lib.hid (by unfold leastO; rw [if_pos h0])
    rw [h0]
    by_cases htn : t = []
    · rw [HLO.out, if_pos htn]
      have hd : ((t.length : Int) == 0) = true := by simp [htn]
      clear h0 htn
      go_enter Try.func22, Try.ntmps22
      go_wp2_with fail
      rw [← HW.out]
      refine HC1.out.mono ?_; rintro e w1 ⟨rfl, hx1⟩
      go_wp2_with fail
      go_ret3
      exact ⟨rfl, hE0.trans hx1⟩
    · rw [HLO.out, if_neg htn]
      have hd : ((t.length : Int) == 0) = false := by simp [htn]
      have hTC := Lib.hid (fun W (hW : Ext wA W) => table_c _ _ _ l t W (HR.out.ext hW) hl (HT.out.ext hW) h12)
      have hLT : Hid (leastT l t = minTo (tR l t t.length) l.i.length) := Lib.hid rfl
      have hn1 : 1 ≤ l.i.length := hl.n1
      have hn8 : l.i.length ≤ 8 := hl.n8
      have htl : (t.length : Int) < (t.length : Int) + 1 := by omega
      generalize hml : leastT l t = m at *
      have HML := Lib.hid hml
      by_cases hbig : m = big
      · rw [if_pos hbig]
        have hdb : (m == 100000) = true := by rw [hbig]; rfl
        clear h0 htn hml hbig
        go_enter Try.func22, Try.ntmps22
        go_wp2_with fail
        rw [← HW.out]
        refine HC1.out.mono ?_; rintro e w1 ⟨rfl, hx1⟩
        go_wp2_with fail
        refine (hTC.out w1 hx1).mono ?_; rintro e w2 ⟨A, vs, rfl, hgd, hx2⟩
        have hX2 := hx1.trans hx2
        obtain ⟨g, hv, hbv⟩ := hgd.row t.length (by omega) trivial
        have hcA := hgd.blk.cell hv
        rw [gridI_len (tR_len l t t.length)] at hcA
        have hbi : BInts w2 g (tR l t t.length) := hbv
        have hMC := min_c _ _ w2 (hbi.ints (by rw [tR_len]; omega)) (by rw [tR_len]; omega)
        rw [tR_len, ← hLT.out] at hMC
        have HMC := Lib.hid hMC
        clear hbi hbv hgd hv hMC
        go_wp2_with fail
        refine HMC.out.mono ?_; rintro e w3 ⟨rfl, rfl⟩
        go_wp2_with fail
        go_ret3
        exact ⟨rfl, hE0.trans (hX2.trans (Ext.refl _))⟩
      · rw [if_neg hbig]
        have hdb : (m == 100000) = false := by simpa [big] using hbig
        clear h0 htn hml hbig
        go_enter Try.func22, Try.ntmps22
        go_wp2_with fail
        rw [← HW.out]
        refine HC1.out.mono ?_; rintro e w1 ⟨rfl, hx1⟩
        go_wp2_with fail
        refine (hTC.out w1 hx1).mono ?_; rintro e w2 ⟨A, vs, rfl, hgd, hx2⟩
        have hX2 := hx1.trans hx2
        obtain ⟨g, hv, hbv⟩ := hgd.row t.length (by omega) trivial
        have hcA := hgd.blk.cell hv
        rw [gridI_len (tR_len l t t.length)] at hcA
        have hbi : BInts w2 g (tR l t t.length) := hbv
        have hMC := min_c _ _ w2 (hbi.ints (by rw [tR_len]; omega)) (by rw [tR_len]; omega)
        rw [tR_len, ← hLT.out] at hMC
        have HMC := Lib.hid hMC
        clear hbi hbv hgd hv hMC
        go_wp2_with fail
        refine HMC.out.mono ?_; rintro e w3 ⟨rfl, rfl⟩
        go_wp2_with fail
        go_ret3
        exact ⟨rfl, hE0.trans (hX2.trans (Ext.refl _))⟩
  · rw [show leastO l t = (0, false) by unfold leastO; rw [if_neg h0]]
    generalize textK l t = k at *
    have hk : (k != 0) = true := by simpa using h0
    clear h0
    go_enter Try.func22, Try.ntmps22
    go_wp2_with fail
    rw [← HW.out]
    refine HC1.out.mono ?_; rintro e w1 ⟨rfl, hx1⟩
    go_wp2_with fail
    go_ret3
    exact ⟨rfl, hE0.trans hx1⟩
end Go.Proofs.Ytgpggmcjggpmpaa
