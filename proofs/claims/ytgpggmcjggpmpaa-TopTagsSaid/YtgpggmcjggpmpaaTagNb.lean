/- CheckProof of the program. -/
import Derived.Test.YtgpggmcjggpmpaaTagN
namespace Go.Proofs.Ytgpggmcjggpmpaa
open Go.RowKit Go.Shelf
set_option linter.unusedVariables false

theorem proof_a {l : Lex} {t : List Int} {p : List (List Int)} (h : textK l t ≠ 0) : proofK l t p = textK l t ∧ proofW l t p = (0, false) := by
  have e : proofK l t p = textK l t := by unfold proofK; rw [if_neg h]
  exact ⟨e, by unfold proofW; rw [if_neg (by rw [e]; exact h)]⟩
theorem proof_b {l : Lex} {t : List Int} {p : List (List Int)} (h : textK l t = 0) (h1 : shapeB l t p = false) : proofK l t p = 1 ∧ proofW l t p = (0, false) := by
  have e : proofK l t p = 1 := by unfold proofK; rw [if_pos h, h1]; rfl
  exact ⟨e, by unfold proofW; rw [if_neg (by omega)]⟩
theorem proof_c {l : Lex} {t : List Int} {p : List (List Int)} (h : textK l t = 0) (h1 : shapeB l t p = true) (h2 : bndsB l t p = false) : proofK l t p = 7 ∧ proofW l t p = (0, false) := by
  have e : proofK l t p = 7 := by unfold proofK; rw [if_pos h, h1, h2]; rfl
  exact ⟨e, by unfold proofW; rw [if_neg (by omega)]⟩
theorem proof_d {l : Lex} {t : List Int} {p : List (List Int)} (h : textK l t = 0) (h1 : shapeB l t p = true) (h2 : bndsB l t p = true) : proofK l t p = 0 ∧ proofW l t p = ((worthL l t p).1, (worthL l t p).2 || decide (t = [])) := by
  have e : proofK l t p = 0 := by unfold proofK; rw [if_pos h, h1, h2]; rfl
  exact ⟨e, by unfold proofW; rw [if_pos e]⟩
theorem shape_len {l : Lex} {t : List Int} {p : List (List Int)} (h : p.length ≠ t.length + 1) : shapeB l t p = false := by unfold shapeB; rw [decide_eq_false h, Bool.false_and]
theorem shape_row {l : Lex} {t : List Int} {p : List (List Int)} {k : Nat} (hk : k < p.length) (h : rowIn l.n (p[k]?.getD []) = false) : shapeB l t p = false := by
  unfold shapeB; rw [allB_false hk h, Bool.and_false]
theorem shape_all {l : Lex} {t : List Int} {p : List (List Int)} (h : p.length = t.length + 1) (h2 : ∀ k, k < p.length → rowIn l.n (p[k]?.getD []) = true) : shapeB l t p = true := by
  unfold shapeB; rw [decide_eq_true h, allB_true h2]; rfl
theorem bnds_no {l : Lex} {t : List Int} {p : List (List Int)} {i j : Nat} (hi : i < t.length + 1) (hj : j < l.n) (h : bndB l t p i j = false) : bndsB l t p = false := allB_false hi (allB_false hj h)
theorem bnds_all {l : Lex} {t : List Int} {p : List (List Int)} (h : ∀ i, i < t.length + 1 → ∀ j, j < l.n → bndB l t p i j = true) : bndsB l t p = true := allB_true fun i hi => allB_true fun j hj => h i hi j hj
/-- what the search for the worth holds -/
def wS (l : Lex) (t : List Int) (p : List (List Int)) (i j : Nat) : Int × Bool := if i < t.length then (0, false) else if i = t.length then worthTo l t (p[t.length]?.getD []) j else worthL l t p
theorem wS_zero (l : Lex) (t : List Int) (p : List (List Int)) : wS l t p 0 0 = (0, false) := by
  unfold wS
  split
  · rfl
  · split
    · rfl
    · omega
theorem wS_next {l : Lex} {t : List Int} {p : List (List Int)} {i : Nat} (hi : i < t.length + 1) : wS l t p i l.i.length = wS l t p (i + 1) 0 := by
  unfold wS
  by_cases h : i < t.length
  · rw [if_pos h]
    by_cases h2 : i + 1 < t.length
    · rw [if_pos h2]
    · rw [if_neg h2, if_pos (by omega)]; rfl
  · rw [if_neg h, if_pos (by omega), if_neg (by omega), if_neg (by omega)]; rfl
theorem wS_end (l : Lex) (t : List Int) (p : List (List Int)) : wS l t p (t.length + 1) 0 = worthL l t p := by unfold wS; rw [if_neg (by omega), if_neg (by omega)]
theorem wS_skip {l : Lex} {t : List Int} {p : List (List Int)} {i j : Nat} (h : endsAt l t i j = false ∨ i ≠ t.length) : wS l t p i (j + 1) = wS l t p i j := by
  unfold wS
  by_cases h1 : i < t.length
  · rw [if_pos h1, if_pos h1]
  · rw [if_neg h1, if_neg h1]
    by_cases h2 : i = t.length
    · rw [if_pos h2, if_pos h2]
      subst h2
      rw [worthTo, if_neg]
      intro hc
      rcases h with h | h
      · rw [h] at hc; cases hc.1
      · exact h rfl
    · rw [if_neg h2, if_neg h2]
theorem wS_take {l : Lex} {t : List Int} {p : List (List Int)} {j : Nat} (h : endsAt l t t.length j = true) : wS l t p t.length (j + 1) = if (wS l t p t.length j).2 = false ∨ prfAt p t.length j < (wS l t p t.length j).1 then (prfAt p t.length j, true) else wS l t p t.length j := by
  have e : ∀ x, wS l t p t.length x = worthTo l t (p[t.length]?.getD []) x := fun x => by unfold wS; rw [if_neg (Nat.lt_irrefl _), if_pos rfl]
  rw [e, e, worthTo]
  simp only [h, true_and]
  rfl
set_option maxHeartbeats 8000000 in
set_option maxRecDepth 100000 in
theorem CheckProof_c (iv fv tv pv : Value) (l : Lex) (t : List Int) (p : List (List Int)) (w : World) (h : LexR w iv fv l) (ht : Ints w tv t) (hp : Rows w pv p) : Calls Try.prog 27 #[.agg #[iv, fv], tv, pv] w (R3v (proofW l t p).1 (proofW l t p).2 (proofK l t p) w) := by
  obtain ⟨wA, hwA⟩ : ∃ wA, wA = w.alloc (.cells #[iv, fv] 25) := ⟨_, rfl⟩
  have hE0 : Ext w wA := by rw [hwA]; exact Ext.alloc _ _
  have k0 : ∀ W, Ext wA W → W.cell? ⟨w.heap.size, 0, none⟩ = some iv := by rw [hwA]; exact kept_alloc w _ _ rfl
  have k1 : ∀ W, Ext wA W → W.cell? ⟨w.heap.size, 1, none⟩ = some fv := by rw [hwA]; exact kept_alloc w _ _ rfl
  have H0 : Ext wA wA := Ext.refl _
  have HR := Lib.hid (h.ext hE0)
  obtain ⟨ai, ci, rfl, hli, hmi, HI⟩ := (h.ext hE0).i.open_
  obtain ⟨af, cf, rfl, hlf, hmf, HF⟩ := Rows.open_ (h.ext hE0).f
  have HT := Lib.hid (ht.ext hE0)
  obtain ⟨at_, ct, rfl, hlt0, hmt0, HTO⟩ := (ht.ext hE0).open_
  have HPR := Lib.hid (hp.ext hE0)
  obtain ⟨ap, cp, rfl, hlp, hmp, HP⟩ := Rows.open_ (hp.ext hE0)
  have HC1 := Lib.hid (check_c _ _ _ l t wA HR.out HT.out)
  have HW := Lib.hid hwA; clear hwA h ht hp
  by_cases h0 : textK l t = 0
  · obtain ⟨hl, ht12, _⟩ := textK_ok h0
    have H00 := Lib.hid h0
    have HL := Lib.hid hl
    rw [h0] at HC1
    clear h0 hl
    have hn8 : l.i.length ≤ 8 := HL.out.n8
    by_cases hlen : p.length = t.length + 1
    · have hd : ((p.length : Int) != (t.length : Int) + 1) = false := by simp; omega
      have HLEN := Lib.hid hlen
      have hpI : (p.length : Int) = (t.length : Int) + 1 := by omega
      have hp13 : p.length ≤ 13 := by omega
      clear hlen hpI
      go_enter Try.func27, Try.ntmps27
      go_wp2_with fail
      rw [← HW.out]
      refine HC1.out.mono ?_; rintro e w1 ⟨rfl, hx1⟩
      go_wp2_with fail
      go_loopg [34] p.length (fun z kk wr => ∃ k : Nat, k ≤ p.length ∧ p.length ≤ k + z ∧ kk = .int .i64 k ∧ Ext wA wr ∧ Hid (∀ x, x < k → rowIn l.n (p[x]?.getD []) = true))
      case atStart => exact ⟨0, by omega, by omega, rfl, hx1, Lib.hid (fun x hx => by omega)⟩
      case round =>
        clear hx1
        obtain ⟨k, hk, hkz, rfl, hX, hE⟩ := hrel
        by_cases hlt : k < p.length
        · obtain ⟨bp, op, rfl, ur, hcr, hur⟩ := HP.out k hlt
          replace hcr := hX.keep hcr
          have hRI : Hid (rowIn l.n (p[k]?.getD []) = (decide ((p[k]?.getD []).length = l.n) && allB (p[k]?.getD []).length fun i => inB ((p[k]?.getD [])[i]?.getD 0) (-100000) 100000)) := Lib.hid rfl
          have HNP := Lib.hid (notPrf_c ur (p[k]?.getD []) wr (hur.ext hX))
          have HNX := Lib.hid (fun h => range_step (f := fun x => rowIn l.n (p[x]?.getD [])) (b := true) (k := k) hE.out h)
          have HNO := Lib.hid (fun h => proof_b (p := p) H00.out (shape_row (t := t) hlt h))
          obtain ⟨ar, cr, rfl, _, _, _⟩ := hur.open_
          clear hur
          generalize hr : p[k]?.getD [] = r at *
          generalize (allB r.length fun i => inB (r[i]?.getD 0) (-100000) 100000) = b at *
          by_cases hrl : r.length = l.i.length
          · have hd2 : ((r.length : Int) != (l.i.length : Int)) = false := by simp; omega
            have hRI2 : Hid (rowIn l.n r = b) := Lib.hid (by rw [hRI.out, decide_eq_true hrl, Bool.true_and])
            have HRL := Lib.hid hrl; have HRR := Lib.hid hr
            clear hrl hr
            cases b with
            | true =>
              have HN := Lib.hid (HNX.out hRI2.out)
              simp only [Bool.not_true] at HNP
              go_wp2_with fail
              refine HNP.out.mono ?_; rintro e w7 ⟨rfl, hx7⟩
              go_wp2_with fail
              go_roundg (gk-1)
              case measure => omega
              case rel => exact ⟨k+1, by omega, by omega, by go_num, hX.trans hx7, HN⟩
            | false =>
              have HN := Lib.hid (HNO.out hRI2.out)
              simp only [Bool.not_false] at HNP
              go_wp2_with fail
              refine HNP.out.mono ?_; rintro e w7 ⟨rfl, hx7⟩
              go_wp2_with fail
              go_ret3
              exact ⟨by rw [HN.out.1, HN.out.2]; rfl, hE0.trans (hX.trans hx7)⟩
          · have hd2 : ((r.length : Int) != (l.i.length : Int)) = true := by simp; omega
            have HN := Lib.hid (HNO.out (by rw [hRI.out, decide_eq_false hrl, Bool.false_and]))
            clear hrl hr
            go_wp2_with fail
            go_ret3
            exact ⟨by rw [HN.out.1, HN.out.2]; rfl, hE0.trans hX⟩
        · have HSH := Lib.hid (shape_all HLEN.out (fun x hx => hE.out x (by omega)))
          have hkp : k = p.length := by omega
          subst hkp
          have HPL := Lib.hid (shapeB_iff HSH.out).2
          clear hE
          go_wp2_with fail
          go_loopg [51, 12, 13] p.length (fun z ii s12 s13 wr => ∃ i : Nat, i ≤ p.length ∧ p.length ≤ i + z ∧ ii = .int .i64 i ∧ s12 = .int .i64 (wS l t p i 0).1 ∧ s13 = .bool (wS l t p i 0).2 ∧ Ext wA wr ∧ Hid (∀ a, a < i → ∀ b, b < l.n → bndB l t p a b = true))
          case atStart => exact ⟨0, by omega, by omega, rfl, by rw [wS_zero], by rw [wS_zero], hX, Lib.hid (fun x hx => by omega)⟩
          case round =>
            clear hX
            obtain ⟨i, hi, hiz, rfl, rfl, rfl, hX, hE⟩ := hrel
            obtain ⟨g1, rfl⟩ : ∃ g : Nat, g = gk := ⟨_, rfl⟩
            obtain ⟨W0, rfl⟩ : ∃ W : World, W = wr := ⟨_, rfl⟩
            by_cases hlt : i < p.length
            · obtain ⟨bp, op, rfl, ur, hcr, hur⟩ := HP.out i hlt
              replace hcr := hX.keep hcr
              obtain ⟨ar, cr, rfl, hlr, hmr, HUR⟩ := hur.open_
              clear hur
              have hrl := (HPL.out i hlt).1
              rw [hrl] at hcr hlr HUR
              have hiT : i < t.length + 1 := by have := HLEN.out; omega
              clear hrl
              go_wp2_with fail
              clear hcr
              go_loopg [58, 12, 13] l.i.length (fun z jj s12 s13 wr => ∃ j : Nat, j ≤ l.i.length ∧ l.i.length ≤ j + z ∧ jj = .int .i64 j ∧ s12 = .int .i64 (wS l t p i j).1 ∧ s13 = .bool (wS l t p i j).2 ∧ Ext wA wr ∧ Hid (∀ b, b < j → bndB l t p i b = true))
              case atStart => exact ⟨0, by omega, by omega, rfl, rfl, rfl, hX, Lib.hid (fun x hx => by omega)⟩
              case round =>
                clear hX
                obtain ⟨j, hj, hjz, rfl, rfl, rfl, hX, hF⟩ := hrel
                obtain ⟨W2, rfl⟩ : ∃ W : World, W = wr := ⟨_, rfl⟩
                by_cases hjl : j < l.i.length
                · obtain ⟨br, or_, rfl, hcn⟩ := HUR.out j hjl
                  replace hcn := hX.keep hcn
                  have hpv : ((p[i]?.getD [])[j]?.getD 0) = prfAt p i j := rfl
                  rw [hpv] at hcn
                  clear hpv
                  have hjI : (j : Int) < (l.i.length : Int) := by omega
                  have hiI : (i : Int) < (p.length : Int) := by omega
                  have HBG := Lib.hid (begins_c _ _ _ l t j i W2 (HR.out.ext hX) HL.out (HT.out.ext hX) hjl (by omega) (by omega))
                  have HBI : Hid (begI l t j i = if endsAt l t i j then (i : Int) - (wrd l (j : Int)).length else 0) := Lib.hid rfl
                  have HBN : Hid (bndB l t p i j = (!endsAt l t i j || lowN l p (prfAt p i j) j (i - (wrd l j).length))) := Lib.hid rfl
                  have HEL := Lib.hid (fun h => endsAt_le (l := l) (t := t) (i := i) (j := j) (by omega) h)
                  have HNX := Lib.hid (fun h => range_step (f := fun x => bndB l t p i x) (b := true) (k := j) hF.out h)
                  have HNO := Lib.hid (fun h => proof_c H00.out HSH.out (bnds_no (p := p) hiT hjl h))
                  have HSK := Lib.hid (fun h => wS_skip (l := l) (t := t) (p := p) (i := i) (j := j) h)
                  have HTK := Lib.hid (fun h => wS_take (l := l) (t := t) (p := p) (j := j) h)
                  obtain ⟨c1, c2, hc⟩ : ∃ a b, wS l t p i j = (a, b) := ⟨_, _, rfl⟩
                  rw [hc] at HSK ⊢
                  simp only
                  have HCC := Lib.hid hc; clear hc
                  generalize hn : prfAt p i j = n at *
                  have HNN := Lib.hid hn; clear hn
                  generalize hbe : endsAt l t i j = be at *
                  have HBE := Lib.hid hbe; clear hbe
                  cases be with
                  | false =>
                    simp only [Bool.false_eq_true, if_false, Bool.not_false, Bool.true_or] at HBI HBN
                    rw [HBI.out] at HBG
                    have HN := Lib.hid (HNX.out HBN.out)
                    have HS := Lib.hid (HSK.out (Or.inl rfl))
                    go_wp2_with fail
                    refine HBG.out.mono ?_; rintro e w7 ⟨rfl, hx7⟩
                    go_wp2_with fail
                    go_roundg (gk-1)
                    case measure => omega
                    case rel => exact ⟨j+1, by omega, by omega, by go_num, by rw [HS.out], by rw [HS.out], hX.trans hx7, HN⟩
                  | true =>
                    simp only [if_true, Bool.not_true, Bool.false_or] at HBI HBN
                    have hLi := HEL.out rfl
                    have hbg : begI l t j i = ((i - (wrd l (j : Int)).length : Nat) : Int) := by rw [HBI.out]; omega
                    rw [hbg] at HBG
                    have HIB := Lib.hid (fun W (hW : Ext wA W) => isBound_c _ _ _ l p (i - (wrd l (j : Int)).length) j n W (HR.out.ext hW) HL.out (HPR.out.ext hW) hjl (by omega) HPL.out)
                    rw [← HBN.out] at HIB
                    clear hbg HBI hLi
                    generalize hq : i - (wrd l (j : Int)).length = q at *
                    have HQQ := Lib.hid hq; clear hq
                    generalize hbb : bndB l t p i j = bb at *
                    have HBB := Lib.hid hbb; clear hbb
                    go_wp2_with fail
                    refine HBG.out.mono ?_; rintro e w7 ⟨rfl, hx7⟩
                    have hX7 := hX.trans hx7
                    clear hcn
                    go_wp2_with fail
                    refine (HIB.out w7 hX7).mono ?_; rintro e w8 ⟨rfl, hx8⟩
                    have hX8 := hX7.trans hx8
                    cases bb with
                    | false =>
                      have HN := Lib.hid (HNO.out rfl)
                      go_wp2_with fail
                      go_ret3
                      exact ⟨by rw [HN.out.1, HN.out.2]; rfl, hE0.trans hX8⟩
                    | true =>
                      have HN := Lib.hid (HNX.out rfl)
                      by_cases hit : i = t.length
                      · have hd5 : ((i : Int) == (t.length : Int)) = true := by simp; omega
                        have HTK2 := Lib.hid (by have := HTK.out (by rw [← hit]; exact HBE.out); rw [← hit, HCC.out, HNN.out] at this; exact this)
                        by_cases hcn2 : c2 = false ∨ n < c1
                        · have HS : Hid (wS l t p i (j + 1) = (n, true)) := Lib.hid (by rw [HTK2.out, if_pos hcn2])
                          cases c2 with
                          | false =>
                            clear hcn2 hit
                            go_wp2_with fail
                            go_roundg (gk-1)
                            case measure => omega
                            case rel => exact ⟨j+1, by omega, by omega, by go_num, by rw [HS.out], by rw [HS.out], hX8, HN⟩
                          | true =>
                            have hd6 : decide (n < c1) = true := decide_eq_true (hcn2.resolve_left (by simp))
                            clear hcn2 hit
                            go_wp2_with fail
                            go_roundg (gk-1)
                            case measure => omega
                            case rel => exact ⟨j+1, by omega, by omega, by go_num, by rw [HS.out], by rw [HS.out], hX8, HN⟩
                        · have HS : Hid (wS l t p i (j + 1) = (c1, c2)) := Lib.hid (by rw [HTK2.out, if_neg hcn2])
                          cases c2 with
                          | false => exact absurd (Or.inl rfl) hcn2
                          | true =>
                            have hd6 : decide (n < c1) = false := decide_eq_false (fun h => hcn2 (Or.inr h))
                            clear hcn2 hit
                            go_wp2_with fail
                            go_roundg (gk-1)
                            case measure => omega
                            case rel => exact ⟨j+1, by omega, by omega, by go_num, by rw [HS.out], by rw [HS.out], hX8, HN⟩
                      · have hd5 : ((i : Int) == (t.length : Int)) = false := by simp; omega
                        have HS := Lib.hid (HSK.out (Or.inr hit))
                        clear hit
                        go_wp2_with fail
                        go_roundg (gk-1)
                        case measure => omega
                        case rel => exact ⟨j+1, by omega, by omega, by go_num, by rw [HS.out], by rw [HS.out], hX8, HN⟩
                · have hjn : j = l.i.length := by omega
                  subst hjn
                  have HWN := Lib.hid (wS_next (l := l) (t := t) (p := p) hiT)
                  have HN := Lib.hid (range_step (f := fun x => decide (∀ b, b < l.n → bndB l t p x b = true)) (b := true) (k := i) (fun a ha => decide_eq_true (hE.out a ha)) (decide_eq_true hF.out))
                  have HN2 := Lib.hid (fun a ha => of_decide_eq_true (HN.out a ha))
                  rw [HWN.out]
                  go_wp2_with fail
                  go_roundg (g1-1)
                  case measure => omega
                  case rel => exact ⟨i+1, by omega, by omega, by go_num, rfl, rfl, hX, HN2⟩
            · have hip : i = p.length := by omega
              have HBS := Lib.hid (proof_d H00.out HSH.out (bnds_all (fun a ha => hE.out a (by have := HLEN.out; omega))))
              have HWE : Hid (wS l t p i 0 = worthL l t p) := Lib.hid (by rw [hip, HLEN.out]; exact wS_end l t p)
              rw [HWE.out]
              clear hip hE
              generalize (worthL l t p).1 = c1 at *
              generalize (worthL l t p).2 = c2 at *
              by_cases htn : t = []
              · have hd7 : ((t.length : Int) == 0) = true := by simp [htn]
                have hdt : Hid (decide (t = []) = true) := Lib.hid (decide_eq_true htn)
                clear htn
                cases c2
                all_goals
                  go_wp2_with fail
                  go_ret3
                  exact ⟨by rw [HBS.out.1, HBS.out.2, hdt.out]; rfl, hE0.trans hX⟩
              · have hd7 : ((t.length : Int) == 0) = false := by simp [htn]
                have hdt : Hid (decide (t = []) = false) := Lib.hid (decide_eq_false htn)
                clear htn
                cases c2
                all_goals
                  go_wp2_with fail
                  go_ret3
                  exact ⟨by rw [HBS.out.1, HBS.out.2, hdt.out]; rfl, hE0.trans hX⟩
    · have hd : ((p.length : Int) != (t.length : Int) + 1) = true := by simp; omega
      have HN := Lib.hid (proof_b (p := p) H00.out (shape_len hlen))
      clear hlen
      go_enter Try.func27, Try.ntmps27
      go_wp2_with fail
      rw [← HW.out]
      refine HC1.out.mono ?_; rintro e w1 ⟨rfl, hx1⟩
      go_wp2_with fail
      go_ret3
      exact ⟨by rw [HN.out.1, HN.out.2]; rfl, hE0.trans hx1⟩
  · rw [(proof_a h0).1, (proof_a h0).2]
    generalize textK l t = k at *
    have hk : (k != 0) = true := by simpa using h0
    clear h0
    go_enter Try.func27, Try.ntmps27
    go_wp2_with fail
    rw [← HW.out]
    refine HC1.out.mono ?_; rintro e w1 ⟨rfl, hx1⟩
    go_wp2_with fail
    go_ret3
    exact ⟨rfl, hE0.trans hx1⟩
end Go.Proofs.Ytgpggmcjggpmpaa
