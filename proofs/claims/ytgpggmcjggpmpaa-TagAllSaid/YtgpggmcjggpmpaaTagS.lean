/- Least and Count of the reference. -/
import Derived.Test.YtgpggmcjggpmpaaTagR
import Derived.Test.YtgpggmcjggpmpaaTagI
namespace Go.Proofs.Ytgpggmcjggpmpaa
open Go.RowKit Go.Shelf
set_option linter.unusedVariables false

/-- the least of the first ones that are there -/
def lkTo (row : List Int) : Nat → Int × Bool
  | 0 => (0, false)
  | k + 1 => if row[k]?.getD 0 < big ∧ ((lkTo row k).2 = false ∨ row[k]?.getD 0 < (lkTo row k).1) then (row[k]?.getD 0, true) else lkTo row k
theorem lkTo_min {row : List Int} (hb : ∀ k : Nat, row[k]?.getD 0 ≤ big) : ∀ n, lkTo row (n + 1) = if minTo row (n + 1) = big then (0, false) else (minTo row (n + 1), true)
  | 0 => by
    have h0 := hb 0
    unfold lkTo lkTo minTo minTo
    rw [show min (row[0]?.getD 0) (row[0]?.getD 0) = row[0]?.getD 0 by omega]
    by_cases h : row[0]?.getD 0 = big
    · simp [h]
    · have h2 : row[0]?.getD 0 < big := by omega
      simp [h, h2]
  | n + 1 => by
    have ih := lkTo_min hb n
    have h1 := hb (n + 1)
    have e : minTo row (n + 1 + 1) = min (minTo row (n + 1)) (row[n + 1]?.getD 0) := rfl
    rw [lkTo, ih, e]
    by_cases hm : minTo row (n + 1) = big
    · rw [if_pos hm, hm]
      by_cases h : row[n + 1]?.getD 0 = big
      · rw [h]; simp
      · have h2 : row[n + 1]?.getD 0 < big := by omega
        rw [show min big (row[n + 1]?.getD 0) = row[n + 1]?.getD 0 by omega]
        simp [h, h2]
    · rw [if_neg hm]
      have hmb : minTo row (n + 1) ≤ big := by
        clear ih hm h1 e
        induction n with
        | zero => unfold minTo minTo; have := hb 0; omega
        | succ n ih => show min (minTo row (n + 1)) (row[n + 1]?.getD 0) ≤ big; omega
      by_cases h : row[n + 1]?.getD 0 < minTo row (n + 1)
      · rw [show min (minTo row (n + 1)) (row[n + 1]?.getD 0) = row[n + 1]?.getD 0 by omega]
        have h2 : row[n + 1]?.getD 0 < big := by omega
        have h3 : ¬ row[n + 1]?.getD 0 = big := by omega
        simp [h, h2, h3]
      · rw [show min (minTo row (n + 1)) (row[n + 1]?.getD 0) = minTo row (n + 1) by omega]
        simp [h, hm]
theorem tR_le {l : Lex} (h : LexOk l) {t : List Int} (ht : t.length ≤ 12) {i : Nat} (hi : i ≤ t.length) (k : Nat) : (tR l t i)[k]?.getD 0 ≤ big := by
  by_cases hk : k < l.i.length
  · have h1 := (tabAt_bd h ht (i := i) (j := k) hi hk).2
    rw [← tabRow_at hk] at h1; exact h1
  · have : (tR l t i).length ≤ k := by rw [tR_len]; omega
    rw [List.getElem?_eq_none this]; unfold big; simp
theorem lk_least {l : Lex} (h : LexOk l) {t : List Int} (h0 : textK l t = 0) (hne : t ≠ []) : leastO l t = lkTo (tR l t t.length) l.i.length := by
  obtain ⟨_, ht, _⟩ := textK_ok h0
  have hn := h.n1
  obtain ⟨n, hn2⟩ : ∃ n, l.i.length = n + 1 := ⟨l.i.length - 1, by have : 1 ≤ l.i.length := hn; omega⟩
  have e : leastT l t = minTo (tR l t t.length) l.i.length := rfl
  unfold leastO
  rw [if_pos h0, if_neg hne, e, hn2, lkTo_min (fun k => tR_le h ht (Nat.le_refl _) k) n]
theorem lk_step {l : Lex} (h : LexOk l) {t : List Int} (ht : t.length ≤ 12) {k : Nat} (hk : k < l.i.length) : lkTo (tR l t t.length) (k + 1) = if 0 < (stV l t t.length k).2 ∧ ((lkTo (tR l t t.length) k).2 = false ∨ (stV l t t.length k).1 < (lkTo (tR l t t.length) k).1) then ((stV l t t.length k).1, true) else lkTo (tR l t t.length) k := by
  have hp := cntF_pos h ht (i := t.length) (j := k) (Nat.le_refl _) hk
  rw [← tabRow_at hk] at hp
  have hp2 : 0 < cntF l t t.length k ↔ (tR l t t.length)[k]?.getD 0 < big := hp
  rw [lkTo]
  unfold stV keptC
  simp only
  by_cases hc : 0 < cntF l t t.length k
  · have hb := hp2.1 hc
    rw [if_neg (show ¬ cntF l t t.length k = 0 by omega)]
    simp [hc, hb]
  · have hb : ¬ (tR l t t.length)[k]?.getD 0 < big := fun x => hc (hp2.2 x)
    simp [hc, hb]

set_option maxHeartbeats 4000000 in
theorem rLeast_c (iv fv tv : Value) (l : Lex) (t : List Int) (w : World) (h : LexR w iv fv l) (ht : Ints w tv t) : Calls Try.prog 36 #[.agg #[iv, fv], tv] w (R3v (leastO l t).1 (leastO l t).2 (textK l t) w) := by
  obtain ⟨wA, hwA⟩ : ∃ wA, wA = w.alloc (.cells #[iv, fv] 25) := ⟨_, rfl⟩
  have hE0 : Ext w wA := by rw [hwA]; exact Ext.alloc _ _
  have k0 : ∀ W, Ext wA W → W.cell? ⟨w.heap.size, 0, none⟩ = some iv := by rw [hwA]; exact kept_alloc w _ _ rfl
  have k1 : ∀ W, Ext wA W → W.cell? ⟨w.heap.size, 1, none⟩ = some fv := by rw [hwA]; exact kept_alloc w _ _ rfl
  have H0 : Ext wA wA := Ext.refl _
  have HR := Lib.hid (h.ext hE0)
  obtain ⟨ai, ci, rfl, hli, hmi, HI⟩ := (h.ext hE0).i.open_
  obtain ⟨af, cf, rfl, hlf, hmf, HF⟩ := Rows.open_ (h.ext hE0).f
  have HT := Lib.hid (ht.ext hE0)
  obtain ⟨at_, ct, rfl, hlt0, hmt0, HTO⟩ := (ht.ext hE0).open_
  have HC1 := Lib.hid (texted_c _ _ _ l t wA HR.out HT.out)
  have HW := Lib.hid hwA; clear hwA h ht
  by_cases h0 : textK l t = 0
  · obtain ⟨hl, ht12, _⟩ := textK_ok h0
    have h0' := h0
    rw [h0] at HC1
    rw [h0]
    clear h0
    by_cases htn : t = []
    · rw [show leastO l t = (0, true) by unfold leastO; rw [if_pos h0', if_pos htn]]
      have hd : ((t.length : Int) == 0) = true := by simp [htn]
      clear htn h0'
      go_enter Try.func36, Try.ntmps36
      go_wp2_with fail
      rw [← HW.out]
      refine HC1.out.mono ?_; rintro e w1 ⟨rfl, hx1⟩
      go_wp2_with fail
      go_ret3
      exact ⟨rfl, hE0.trans hx1⟩
    · have hd : ((t.length : Int) == 0) = false := by simp [htn]
      have hTC := Lib.hid (fun W (hW : Ext wA W) => rtable_c _ _ _ l t W (HR.out.ext hW) hl (HT.out.ext hW) ht12)
      have HL := Lib.hid hl
      have hn8 : l.i.length ≤ 8 := hl.n8
      have HLK := Lib.hid (lk_least hl h0' htn)
      rw [HLK.out]
      clear htn h0'
      go_enter Try.func36, Try.ntmps36
      go_wp2_with fail
      rw [← HW.out]
      refine HC1.out.mono ?_; rintro e w1 ⟨rfl, hx1⟩
      go_wp2_with fail
      refine (hTC.out w1 hx1).mono ?_; rintro e w2 ⟨A, vs, rfl, hgd, hx2⟩
      have hX2 := hx1.trans hx2
      obtain ⟨g, hv, hbg⟩ := hgd.row t.length (by omega) trivial
      have hcA := hgd.blk.cell hv
      have htl : (t.length : Int) < (t.length : Int) + 1 := by omega
      clear hgd hv hx2 hl
      go_wp2_with fail
      clear hcA
      go_loopg [11, 9, 10] l.i.length (fun z kk s9 s10 wr => ∃ k : Nat, k ≤ l.i.length ∧ l.i.length ≤ k + z ∧ kk = .int .i64 k ∧ s9 = .int .i64 (lkTo (tR l t t.length) k).1 ∧ s10 = .bool (lkTo (tR l t t.length) k).2 ∧ w2 = wr)
      case atStart => exact ⟨0, by omega, by omega, rfl, rfl, rfl, rfl⟩
      case round =>
        obtain ⟨k, hk, hkz, rfl, rfl, rfl, rfl⟩ := hrel
        by_cases hlt : k < l.i.length
        · have hg0 := hbg.cell (prCells_get (stV l t t.length) hlt).1
          have hg1 := hbg.cell (prCells_get (stV l t t.length) hlt).2
          have HST := Lib.hid (lk_step HL.out ht12 hlt)
          obtain ⟨a, b, hv⟩ : ∃ a b, stV l t t.length k = (a, b) := ⟨_, _, rfl⟩
          obtain ⟨c1, c2, hc⟩ : ∃ a b, lkTo (tR l t t.length) k = (a, b) := ⟨_, _, rfl⟩
          rw [hv] at hg0 hg1 HST
          rw [hc] at HST ⊢
          simp only at hg0 hg1 HST ⊢
          have HVV := Lib.hid hv; have HCC := Lib.hid hc
          clear hv hc
          by_cases hcond : 0 < b ∧ (c2 = false ∨ a < c1)
          · have HN : Hid (lkTo (tR l t t.length) (k + 1) = (a, true)) := Lib.hid (by rw [HST.out, if_pos hcond])
            have hd1 : decide (0 < b) = true := decide_eq_true hcond.1
            cases c2 with
            | false =>
              clear hcond
              go_wp2_with fail
              go_roundg (gk-1)
              case measure => omega
              case rel => exact ⟨k+1, by omega, by omega, by go_num, by rw [HN.out], by rw [HN.out], rfl⟩
            | true =>
              have hd2 : decide (a < c1) = true := decide_eq_true (hcond.2.resolve_left (by simp))
              clear hcond
              go_wp2_with fail
              go_roundg (gk-1)
              case measure => omega
              case rel => exact ⟨k+1, by omega, by omega, by go_num, by rw [HN.out], by rw [HN.out], rfl⟩
          · have HN : Hid (lkTo (tR l t t.length) (k + 1) = (c1, c2)) := Lib.hid (by rw [HST.out, if_neg hcond])
            by_cases hb : 0 < b
            · have hd1 : decide (0 < b) = true := decide_eq_true hb
              cases c2 with
              | false => exact absurd ⟨hb, Or.inl rfl⟩ hcond
              | true =>
                have hd2 : decide (a < c1) = false := decide_eq_false (fun h => hcond ⟨hb, Or.inr h⟩)
                clear hcond
                go_wp2_with fail
                go_roundg (gk-1)
                case measure => omega
                case rel => exact ⟨k+1, by omega, by omega, by go_num, by rw [HN.out], by rw [HN.out], rfl⟩
            · have hd1 : decide (0 < b) = false := decide_eq_false hb
              clear hcond
              go_wp2_with fail
              go_roundg (gk-1)
              case measure => omega
              case rel => exact ⟨k+1, by omega, by omega, by go_num, by rw [HN.out], by rw [HN.out], rfl⟩
        · have hkn : k = l.i.length := by omega
          subst hkn
          go_wp2_with fail
          go_ret3
          exact ⟨rfl, hE0.trans hX2⟩
  · rw [show leastO l t = (0, false) by unfold leastO; rw [if_neg h0]]
    generalize textK l t = k at *
    have hk : (k != 0) = true := by simpa using h0
    clear h0
    go_enter Try.func36, Try.ntmps36
    go_wp2_with fail
    rw [← HW.out]
    refine HC1.out.mono ?_; rintro e w1 ⟨rfl, hx1⟩
    go_wp2_with fail
    go_ret3
    exact ⟨rfl, hE0.trans hx1⟩
theorem countN_nil {l : Lex} (h : textK l [] = 0) : countN l [] = 1 := by unfold countN; rw [if_pos h]; simp [cntR, spl_nil]
theorem cntAll_bd {l : Lex} (hn : l.n ≤ 8) {t : List Int} (ht : t.length ≤ 12) : ∀ k, 0 ≤ cntAll l t k ∧ cntAll l t k ≤ 68719476736 * k
  | 0 => by simp [cntAll]
  | k + 1 => by
    have ih := cntAll_bd hn ht k
    have := cntF_bd hn t ht k
    rw [cntAll]; push_cast; omega
set_option maxHeartbeats 4000000 in
theorem rCount_c (iv fv tv : Value) (l : Lex) (t : List Int) (w : World) (h : LexR w iv fv l) (ht : Ints w tv t) : Calls Try.prog 51 #[.agg #[iv, fv], tv] w (RV (.tuple #[.int .i64 (countN l t), .int .i64 (textK l t)]) w) := by
  obtain ⟨wA, hwA⟩ : ∃ wA, wA = w.alloc (.cells #[iv, fv] 25) := ⟨_, rfl⟩
  have hE0 : Ext w wA := by rw [hwA]; exact Ext.alloc _ _
  have k0 : ∀ W, Ext wA W → W.cell? ⟨w.heap.size, 0, none⟩ = some iv := by rw [hwA]; exact kept_alloc w _ _ rfl
  have k1 : ∀ W, Ext wA W → W.cell? ⟨w.heap.size, 1, none⟩ = some fv := by rw [hwA]; exact kept_alloc w _ _ rfl
  have H0 : Ext wA wA := Ext.refl _
  have HR := Lib.hid (h.ext hE0)
  obtain ⟨ai, ci, rfl, hli, hmi, HI⟩ := (h.ext hE0).i.open_
  obtain ⟨af, cf, rfl, hlf, hmf, HF⟩ := Rows.open_ (h.ext hE0).f
  have HT := Lib.hid (ht.ext hE0)
  obtain ⟨at_, ct, rfl, hlt0, hmt0, HTO⟩ := (ht.ext hE0).open_
  have HC1 := Lib.hid (texted_c _ _ _ l t wA HR.out HT.out)
  have HW := Lib.hid hwA; clear hwA h ht
  by_cases h0 : textK l t = 0
  · obtain ⟨hl, ht12, _⟩ := textK_ok h0
    have h0' := h0
    rw [h0] at HC1
    rw [h0]
    clear h0
    by_cases htn : t = []
    · rw [show countN l t = 1 by rw [htn] at h0' ⊢; exact countN_nil h0']
      have hd : ((t.length : Int) == 0) = true := by simp [htn]
      clear htn h0'
      go_enter Try.func51, Try.ntmps51
      go_wp2_with fail
      rw [← HW.out]
      refine HC1.out.mono ?_; rintro e w1 ⟨rfl, hx1⟩
      go_wp2_with fail
      go_ret2
      exact ⟨rfl, hE0.trans hx1⟩
    · have hd : ((t.length : Int) == 0) = false := by simp [htn]
      have hTC := Lib.hid (fun W (hW : Ext wA W) => rtable_c _ _ _ l t W (HR.out.ext hW) hl (HT.out.ext hW) ht12)
      have HL := Lib.hid hl
      have hn8 : l.i.length ≤ 8 := hl.n8
      have HLK : Hid (countN l t = cntAll l t l.i.length) := Lib.hid (by unfold countN; rw [if_pos h0']; exact (cntAll_eq hl.noE htn).symm)
      rw [HLK.out]
      clear htn h0'
      go_enter Try.func51, Try.ntmps51
      go_wp2_with fail
      rw [← HW.out]
      refine HC1.out.mono ?_; rintro e w1 ⟨rfl, hx1⟩
      go_wp2_with fail
      refine (hTC.out w1 hx1).mono ?_; rintro e w2 ⟨A, vs, rfl, hgd, hx2⟩
      have hX2 := hx1.trans hx2
      obtain ⟨g, hv, hbg⟩ := hgd.row t.length (by omega) trivial
      have hcA := hgd.blk.cell hv
      have htl : (t.length : Int) < (t.length : Int) + 1 := by omega
      clear hgd hv hx2 hl
      go_wp2_with fail
      clear hcA
      go_loopg [9, 8] l.i.length (fun z kk s8 wr => ∃ k : Nat, k ≤ l.i.length ∧ l.i.length ≤ k + z ∧ kk = .int .i64 k ∧ s8 = .int .i64 (cntAll l t k) ∧ w2 = wr)
      case atStart => exact ⟨0, by omega, by omega, rfl, rfl, rfl⟩
      case round =>
        obtain ⟨k, hk, hkz, rfl, rfl, rfl⟩ := hrel
        by_cases hlt : k < l.i.length
        · have hg1 := hbg.cell (prCells_get (stV l t t.length) hlt).2
          have HST : Hid (cntAll l t (k + 1) = cntAll l t k + (stV l t t.length k).2) := Lib.hid rfl
          have hvb := stV_bd HL.out ht12 (i := t.length) (j := k) (Nat.le_refl _) hlt
          have hab := cntAll_bd (l := l) hn8 ht12 k
          obtain ⟨_, _, hv0, hv1⟩ := hvb
          obtain ⟨ha0, ha1⟩ := hab
          generalize (stV l t t.length k).2 = b at *
          generalize cntAll l t k = c at *
          go_wp2_with fail
          go_roundg (gk-1)
          case measure => omega
          case rel => exact ⟨k+1, by omega, by omega, by go_num, by rw [HST.out], rfl⟩
        · have hkn : k = l.i.length := by omega
          subst hkn
          go_wp2_with fail
          go_ret2
          exact ⟨rfl, hE0.trans hX2⟩
  · rw [show countN l t = 0 by unfold countN; rw [if_neg h0]]
    generalize textK l t = k at *
    have hk : (k != 0) = true := by simpa using h0
    clear h0
    go_enter Try.func51, Try.ntmps51
    go_wp2_with fail
    rw [← HW.out]
    refine HC1.out.mono ?_; rintro e w1 ⟨rfl, hx1⟩
    go_wp2_with fail
    go_ret2
    exact ⟨rfl, hE0.trans hx1⟩
end Go.Proofs.Ytgpggmcjggpmpaa
