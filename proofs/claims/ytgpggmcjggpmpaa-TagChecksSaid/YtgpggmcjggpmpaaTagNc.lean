/- CheckProof of the reference. -/
import Derived.Test.YtgpggmcjggpmpaaTagNb
namespace Go.Proofs.Ytgpggmcjggpmpaa
open Go.RowKit Go.Shelf
set_option linter.unusedVariables false

theorem row_not {n : Nat} {r : List Int} (h : r.length ≠ n) : rowIn n r = false := by unfold rowIn; rw [decide_eq_false h, Bool.false_and]
theorem row_no {n : Nat} {r : List Int} {k : Nat} (hk : k < r.length) (h : inB (r[k]?.getD 0) (-100000) 100000 = false) : rowIn n r = false := by unfold rowIn; rw [allB_false hk h, Bool.and_false]
theorem row_all {n : Nat} {r : List Int} (hl : r.length = n) (h : ∀ k, k < r.length → inB (r[k]?.getD 0) (-100000) 100000 = true) : rowIn n r = true := by unfold rowIn; rw [decide_eq_true hl, allB_true h]; rfl
theorem ends_nil {l : Lex} (h : LexOk l) {j : Nat} (hj : j < l.n) : endsAt l [] 0 j = false := by
  rw [Bool.eq_false_iff]
  intro hc
  have h1 := endsAt_le (l := l) (t := []) (i := 0) (j := j) (by simp) hc
  have h2 := h.wo j hj
  have : 1 ≤ (wrd l (j : Int)).length := h2.1
  omega
theorem worth_nil {l : Lex} (h : LexOk l) (p : List (List Int)) : ∀ n, n ≤ l.n → worthTo l [] (p[0]?.getD []) n = (0, false)
  | 0, _ => rfl
  | n + 1, hn => by
    rw [worthTo, if_neg]
    · exact worth_nil h p n (by omega)
    · intro hc
      have := ends_nil h (j := n) (by omega)
      have h2 := hc.1
      rw [show ([] : List Int).length = 0 from rfl, this] at h2; cases h2
theorem worthL_nil {l : Lex} (h : LexOk l) (p : List (List Int)) : worthL l [] p = (0, false) := worth_nil h p l.n (Nat.le_refl _)
theorem worth_step (l : Lex) (t : List Int) (p : List (List Int)) (j : Nat) : worthTo l t (p[t.length]?.getD []) (j + 1) = if endsAt l t t.length j = true ∧ ((worthTo l t (p[t.length]?.getD []) j).2 = false ∨ prfAt p t.length j < (worthTo l t (p[t.length]?.getD []) j).1) then (prfAt p t.length j, true) else worthTo l t (p[t.length]?.getD []) j := rfl
set_option maxHeartbeats 16000000 in
set_option maxRecDepth 100000 in
theorem rCheckProof_c (iv fv tv pv : Value) (l : Lex) (t : List Int) (p : List (List Int)) (w : World) (h : LexR w iv fv l) (ht : Ints w tv t) (hp : Rows w pv p) : Calls Try.prog 37 #[.agg #[iv, fv], tv, pv] w (R3v (proofW l t p).1 (proofW l t p).2 (proofK l t p) w) := by
  obtain ⟨wA, hwA⟩ : ∃ wA, wA = w.alloc (.cells #[iv, fv] 25) := ⟨_, rfl⟩
  have hE0 : Ext w wA := by rw [hwA]; exact Ext.alloc _ _
  have k0 : ∀ W, Ext wA W → W.cell? ⟨w.heap.size, 0, none⟩ = some iv := by rw [hwA]; exact kept_alloc w _ _ rfl
  have k1 : ∀ W, Ext wA W → W.cell? ⟨w.heap.size, 1, none⟩ = some fv := by rw [hwA]; exact kept_alloc w _ _ rfl
  have H0 : Ext wA wA := Ext.refl _
  have HR := Lib.hid (h.ext hE0)
  obtain ⟨ai, ci, rfl, hli, hmi, HI⟩ := (h.ext hE0).i.open_
  obtain ⟨af, cf, rfl, hlf, hmf, HF⟩ := Rows.open_ (h.ext hE0).f
  have HT := Lib.hid (ht.ext hE0)
  obtain ⟨at_, ct, rfl, hlt0, hmt0, HTO⟩ := (ht.ext hE0).open_
  obtain ⟨ap, cp, rfl, hlp, hmp, HP⟩ := Rows.open_ (hp.ext hE0)
  have HC1 := Lib.hid (texted_c _ _ _ l t wA HR.out HT.out)
  have HW := Lib.hid hwA; clear hwA h ht hp
  by_cases h0 : textK l t = 0
  · obtain ⟨hl, ht12, _⟩ := textK_ok h0
    have H00 := Lib.hid h0
    have HL := Lib.hid hl
    rw [h0] at HC1
    clear h0 hl
    have hn8 : l.i.length ≤ 8 := HL.out.n8
    by_cases hlen : p.length = t.length + 1
    · have hd : ((p.length : Int) != (t.length : Int) + 1) = false := by simp; omega
      have HLEN := Lib.hid hlen
      have hp13 : p.length ≤ 13 := by omega
      clear hlen
      go_enter Try.func37, Try.ntmps37
      go_wp2_with fail
      rw [← HW.out]
      refine HC1.out.mono ?_; rintro e w1 ⟨rfl, hx1⟩
      go_wp2_with fail
      go_loopg [10] p.length (fun z kk wr => ∃ k : Nat, k ≤ p.length ∧ p.length ≤ k + z ∧ kk = .int .i64 k ∧ Ext wA wr ∧ Hid (∀ x, x < k → rowIn l.n (p[x]?.getD []) = true))
      case atStart => exact ⟨0, by omega, by omega, rfl, hx1, Lib.hid (fun x hx => by omega)⟩
      case round =>
        clear hx1
        obtain ⟨k, hk, hkz, rfl, hX, hE⟩ := hrel
        obtain ⟨g1, rfl⟩ : ∃ g : Nat, g = gk := ⟨_, rfl⟩
        obtain ⟨W0, rfl⟩ : ∃ W : World, W = wr := ⟨_, rfl⟩
        by_cases hlt : k < p.length
        · obtain ⟨bp, op, rfl, ur, hcr, hur⟩ := HP.out k hlt
          have HCR := Lib.hid hcr
          replace hcr := hX.keep hcr
          have hkI : (k : Int) < (p.length : Int) := by omega
          have HNX := Lib.hid (fun h => range_step (f := fun x => rowIn l.n (p[x]?.getD [])) (b := true) (k := k) hE.out h)
          have HNO := Lib.hid (fun h => proof_b (p := p) H00.out (shape_row (t := t) hlt h))
          obtain ⟨ar, cr, rfl, hlr, hmr, HUR⟩ := hur.open_
          clear hur
          generalize hr : p[k]?.getD [] = r at *
          have HRR := Lib.hid hr; clear hr
          have hs5 : ∀ s : Later W0, Ext wA s.w := fun s => hX.trans s.ext
          have q0 := fun s : Later W0 => s.ext.keep hcr
          by_cases hrl : r.length = l.i.length
          · have hd2 : ((r.length : Int) != (l.i.length : Int)) = false := by simp; omega
            have HRL := Lib.hid hrl; clear hrl
            go_wp2_with fail
            refine wp_region_later (by kernel_rfl) (by kernel_rfl) ?_
            repeat (go_big_quiet_step (fail))
            refine wpQuiet_nil ?_
            intro w5 hw'
            obtain ⟨⟨_, hx5⟩, rfl⟩ := hw'
            have hX5 := hX.trans hx5
            clear q0 hs5 hcr
            go_wp2_with fail
            go_loopg [11] r.length (fun z jj wr => ∃ j : Nat, j ≤ r.length ∧ r.length ≤ j + z ∧ jj = .int .i64 j ∧ Ext wA wr ∧ Hid (∀ x, x < j → inB (r[x]?.getD 0) (-100000) 100000 = true))
            case atStart => exact ⟨0, by omega, by omega, rfl, hX5, Lib.hid (fun x hx => by omega)⟩
            case round =>
              clear hX5 hX
              obtain ⟨j, hj, hjz, rfl, hX, hF⟩ := hrel
              have hcr := hX.keep HCR.out
              by_cases hjl : j < r.length
              · obtain ⟨br, or_, rfl, hcn⟩ := HUR.out j hjl
                replace hcn := hX.keep hcn
                have HWI := Lib.hid (rwithin_c (r[j]?.getD 0) (-100000) 100000 wr)
                have HFX := Lib.hid (fun h => range_step (f := fun x => inB (r[x]?.getD 0) (-100000) 100000) (b := true) (k := j) hF.out h)
                have HFN := Lib.hid (fun h => HNO.out (row_no (n := l.n) hjl h))
                generalize r[j]?.getD 0 = n at *
                generalize inB n (-100000) 100000 = b at *
                cases b with
                | true =>
                  have HN := Lib.hid (HFX.out rfl)
                  go_wp2_with fail
                  refine HWI.out.mono ?_; rintro e w7 ⟨rfl, rfl⟩
                  go_wp2_with fail
                  go_roundg (gk-1)
                  case measure => omega
                  case rel => exact ⟨j+1, by omega, by omega, by go_num, hX, HN⟩
                | false =>
                  have HN := Lib.hid (HFN.out rfl)
                  go_wp2_with fail
                  refine HWI.out.mono ?_; rintro e w7 ⟨rfl, rfl⟩
                  go_wp2_with fail
                  go_ret3
                  exact ⟨by rw [HN.out.1, HN.out.2]; rfl, hE0.trans hX⟩
              · have HN := Lib.hid (HNX.out (row_all (n := l.n) HRL.out (fun x hx => hF.out x (by omega))))
                go_wp2_with fail
                go_roundg (g1-1)
                case measure => omega
                case rel => exact ⟨k+1, by omega, by omega, by go_num, hX, HN⟩
          · have hd2 : ((r.length : Int) != (l.i.length : Int)) = true := by simp; omega
            have HN := Lib.hid (HNO.out (row_not (n := l.n) hrl))
            clear hrl
            go_wp2_with fail
            refine wp_region_later (by kernel_rfl) (by kernel_rfl) ?_
            repeat (go_big_quiet_step (fail))
            refine wpQuiet_nil ?_
            intro w5 hw'
            obtain ⟨⟨_, hx5⟩, rfl⟩ := hw'
            clear q0 hs5 hcr
            go_wp2_with fail
            go_ret3
            exact ⟨by rw [HN.out.1, HN.out.2]; rfl, hE0.trans (hX.trans hx5)⟩
        · have HSH := Lib.hid (shape_all HLEN.out (fun x hx => hE.out x (by omega)))
          have hkp : k = p.length := by omega
          subst hkp
          have HPL := Lib.hid (shapeB_iff HSH.out).2
          clear hE
          go_wp2_with fail
          go_loopg [12] p.length (fun z ii wr => ∃ i : Nat, i ≤ p.length ∧ p.length ≤ i + z ∧ ii = .int .i64 i ∧ Ext wA wr ∧ Hid (∀ a, a < i → ∀ b, b < l.n → bndB l t p a b = true))
          case atStart => exact ⟨0, by omega, by omega, rfl, hX, Lib.hid (fun x hx => by omega)⟩
          case round =>
            clear hX
            obtain ⟨i, hi, hiz, rfl, hX, hE⟩ := hrel
            obtain ⟨g2, rfl⟩ : ∃ g : Nat, g = gk := ⟨_, rfl⟩
            obtain ⟨W2, rfl⟩ : ∃ W : World, W = wr := ⟨_, rfl⟩
            by_cases hlt : i < p.length
            · obtain ⟨bp, op, rfl, ur, hcr, hur⟩ := HP.out i hlt
              obtain ⟨ar, cr, rfl, hlr, hmr, HUR⟩ := hur.open_
              clear hur
              have hrl := (HPL.out i hlt).1
              rw [hrl] at hcr hlr HUR
              have HCR := Lib.hid hcr; clear hcr
              have hiT : i < t.length + 1 := by have := HLEN.out; omega
              have hiI : (i : Int) < (p.length : Int) := by omega
              clear hrl
              go_wp2_with fail
              go_loopg [13] l.i.length (fun z jj wr => ∃ j : Nat, j ≤ l.i.length ∧ l.i.length ≤ j + z ∧ jj = .int .i64 j ∧ Ext wA wr ∧ Hid (∀ b, b < j → bndB l t p i b = true))
              case atStart => exact ⟨0, by omega, by omega, rfl, hX, Lib.hid (fun x hx => by omega)⟩
              case round =>
                clear hX
                obtain ⟨j, hj, hjz, rfl, hX, hF⟩ := hrel
                obtain ⟨g3, rfl⟩ : ∃ g : Nat, g = gk := ⟨_, rfl⟩
                obtain ⟨W3, rfl⟩ : ∃ W : World, W = wr := ⟨_, rfl⟩
                by_cases hjl : j < l.i.length
                · obtain ⟨br, or_, rfl, hcn⟩ := HUR.out j hjl
                  have hpv : ((p[i]?.getD [])[j]?.getD 0) = prfAt p i j := rfl
                  rw [hpv] at hcn
                  have HCN := Lib.hid hcn
                  clear hpv hcn
                  obtain ⟨bi, oi, rfl, u, hc0, hu, hc1, hc2⟩ := HI.out j hjl
                  have HC2 := Lib.hid hc2
                  replace hc0 := hX.keep hc0
                  clear hc1 hc2
                  have hjI : (j : Int) < (l.i.length : Int) := by omega
                  have HCX : Hid (cst l (j : Int) = (itm l.i j).c) := Lib.hid rfl
                  have hxc := HL.out.cst (a := j) hjl
                  have HCM := Lib.hid (fun W (hW : Ext wA W) => by
                    have := comes_c _ _ _ l t ((i : Int) - (wrd l (j : Int)).length) j W (HR.out.ext hW) HL.out (HT.out.ext hW) hjl (by have := (HL.out.wo j hjl).2; have : (wrd l (j : Int)).length ≤ 6 := this; omega) (by omega) (by omega)
                    rw [comesB_ends (by omega)] at this; exact this)
                  have HBN : Hid (bndB l t p i j = (!endsAt l t i j || lowN l p (prfAt p i j) j (i - (wrd l j).length))) := Lib.hid rfl
                  have HLN : Hid (∀ n b, lowN l p n j b = if b = 0 then decide (n ≤ cst l j) else allB l.n fun k => decide (fol l k j < 0) || decide (n ≤ prfAt p b k + fol l k j + cst l j)) := Lib.hid (fun n b => rfl)
                  rw [HCX.out] at hxc HLN
                  have HEL := Lib.hid (fun h => endsAt_le (l := l) (t := t) (i := i) (j := j) (by omega) h)
                  have HNX := Lib.hid (fun h => range_step (f := fun x => bndB l t p i x) (b := true) (k := j) hF.out h)
                  have HNO := Lib.hid (fun h => proof_c H00.out HSH.out (bnds_no (p := p) hiT hjl h))
                  have hnv := (HPL.out i hlt).2 j hjl
                  have hL1 : 1 ≤ (wrd l (j : Int)).length := (HL.out.wo j hjl).1
                  have hL6 : (wrd l (j : Int)).length ≤ 6 := (HL.out.wo j hjl).2
                  obtain ⟨au, cu, rfl, hlu, hmu, _⟩ := hu.open_
                  have hwl : (itm l.i j).w.length = (wrd l (j : Int)).length := rfl
                  rw [hwl] at hc0 hlu
                  clear hu hwl
                  generalize hLL : (wrd l (j : Int)).length = L at *
                  have HLL := Lib.hid hLL; clear hLL
                  generalize (itm l.i j).c = xc at *
                  generalize hn : prfAt p i j = n at *
                  have HNN := Lib.hid hn; clear hn
                  generalize hbe : endsAt l t i j = be at *
                  have HBE := Lib.hid hbe; clear hbe
                  obtain ⟨hnv0, hnv1⟩ := hnv
                  obtain ⟨hx0, hx1⟩ := hxc
                  have hwi : IntKind.i64.wrap ((i : Int) - (L : Int)) = (i : Int) - (L : Int) := IntWalk.i64_in _ (by omega)
                  cases be with
                  | false =>
                    simp only [Bool.not_false, Bool.true_or] at HBN
                    have HN := Lib.hid (HNX.out HBN.out)
                    go_wp2_with fail
                    refine (HCM.out W3 hX).mono ?_; rintro e w7 ⟨rfl, hx7⟩
                    go_wp2_with fail
                    go_roundg (g3-1)
                    case measure => omega
                    case rel => exact ⟨j+1, by omega, by omega, by go_num, hX.trans hx7, HN⟩
                  | true =>
                    simp only [Bool.not_true, Bool.false_or] at HBN
                    have hLi : L ≤ i := HEL.out rfl
                    obtain ⟨q, hq⟩ : ∃ q, i = q + L := ⟨i - L, by omega⟩
                    rw [show i - L = q by omega] at HBN
                    have HFQ : Hid ((i : Int) - (L : Int) = (q : Int)) := Lib.hid (by omega)
                    have hqp : q < p.length := by omega
                    have HQQ := Lib.hid hq; clear hq
                    go_wp2_with fail
                    refine (HCM.out W3 hX).mono ?_; rintro e w7 ⟨rfl, hx7⟩
                    have hX7 := hX.trans hx7
                    clear hc0 hwi
                    rw [HFQ.out]
                    have hs5 : ∀ s : Later w7, Ext wA s.w := fun s => hX7.trans s.ext
                    have q0 := fun s : Later w7 => (hX7.trans s.ext).keep HCR.out
                    have q1 := fun s : Later w7 => (hX7.trans s.ext).keep HCN.out
                    have q2 := fun s : Later w7 => (hX7.trans s.ext).keep HC2.out
                    by_cases hq0 : q = 0
                    · have hd5 : ((q : Int) == 0) = true := by simp [hq0]
                      have hd6 : decide ((0 : Int) < (q : Int)) = false := by simp; omega
                      have hd6n : decide (0 < q) = false := by simp; omega
                      have HLN2 := Lib.hid (HLN.out n q)
                      rw [if_pos hq0] at HLN2
                      by_cases hnx : n ≤ xc
                      · have hd7 : decide (xc < n) = false := by simp; omega
                        have HN := Lib.hid (HNX.out (by rw [HBN.out, HLN2.out, decide_eq_true hnx]))
                        clear hq0
                        go_wp2_with fail
                        refine wp_region_later (by kernel_rfl) (by kernel_rfl) ?_
                        repeat (go_big_quiet_step (fail))
                        refine wpQuiet_nil ?_
                        intro w8 hw'
                        obtain ⟨⟨_, hx8⟩, rfl⟩ := hw'
                        have hX8 := hX7.trans hx8
                        clear q0 q1 q2 hs5
                        go_wp2_with fail
                        go_loopg [15] 1 (fun z kk wr => kk = .int .i64 0 ∧ 1 ≤ z ∧ Ext wA wr)
                        case atStart => exact ⟨rfl, by omega, hX8⟩
                        case round =>
                          obtain ⟨rfl, hz, hX9⟩ := hrel
                          go_wp2_with fail
                          go_roundg (g3-1)
                          case measure => omega
                          case rel => exact ⟨j+1, by omega, by omega, by go_num, hX9, HN⟩
                      · have hd7 : decide (xc < n) = true := by simp; omega
                        have HN := Lib.hid (HNO.out (by rw [HBN.out, HLN2.out, decide_eq_false hnx]))
                        clear hq0
                        go_wp2_with fail
                        refine wp_region_later (by kernel_rfl) (by kernel_rfl) ?_
                        repeat (go_big_quiet_step (fail))
                        refine wpQuiet_nil ?_
                        intro w8 hw'
                        obtain ⟨⟨_, hx8⟩, rfl⟩ := hw'
                        have hX8 := hX7.trans hx8
                        clear q0 q1 q2 hs5
                        go_wp2_with fail
                        go_ret3
                        exact ⟨by rw [HN.out.1, HN.out.2]; rfl, hE0.trans hX8⟩
                    · have hd5 : ((q : Int) == 0) = false := by simp; omega
                      have hd6 : decide ((0 : Int) < (q : Int)) = true := by simp; omega
                      have hd6n : decide (0 < q) = true := by simp; omega
                      have HLN2 := Lib.hid (HLN.out n q)
                      rw [if_neg hq0] at HLN2
                      obtain ⟨bq, oq, he, uq, hcq, huq⟩ := HP.out q hqp
                      injection he with he; injection he with he1 he2; subst he1 he2
                      obtain ⟨aq, cq, rfl, hlq, hmq, HUQ⟩ := huq.open_
                      clear huq
                      have hql := (HPL.out q hqp).1
                      have HQV := Lib.hid (HPL.out q hqp).2
                      rw [hql] at hcq hlq HUQ
                      have HCQ := Lib.hid hcq; clear hcq hql
                      have hqI : (q : Int) < (p.length : Int) := by omega
                      clear hq0
                      go_wp2_with fail
                      refine wp_region_later (by kernel_rfl) (by kernel_rfl) ?_
                      repeat (go_big_quiet_step (fail))
                      refine wpQuiet_nil ?_
                      intro w8 hw'
                      obtain ⟨⟨_, hx8⟩, rfl⟩ := hw'
                      have hX8 := hX7.trans hx8
                      clear q0 q1 q2 hs5
                      go_wp2_with fail
                      go_loopg [15] l.i.length (fun z kk wr => ∃ k : Nat, k ≤ l.i.length ∧ l.i.length ≤ k + z ∧ kk = .int .i64 k ∧ Ext wA wr ∧ Hid (∀ x, x < k → (decide (fol l x j < 0) || decide (n ≤ prfAt p q x + fol l x j + xc)) = true))
                      case atStart => exact ⟨0, by omega, by omega, rfl, hX8, Lib.hid (fun x hx => by omega)⟩
                      case round =>
                        clear hX8
                        obtain ⟨k, hk, hkz, rfl, hX9, hG⟩ := hrel
                        by_cases hkl : k < l.i.length
                        · obtain ⟨bq2, oq2, rfl, hck⟩ := HUQ.out k hkl
                          have hpv : ((p[q]?.getD [])[k]?.getD 0) = prfAt p q k := rfl
                          rw [hpv] at hck
                          have HCK := Lib.hid hck; clear hck hpv
                          have hvb := HQV.out k hkl
                          have hkI : (k : Int) < (l.i.length : Int) := by omega
                          have HFC := Lib.hid (follow_c _ _ l k j wr (HR.out.ext hX9) HL.out hkl hjl)
                          have hfb := HL.out.fol (a := k) (b := j) hkl hjl
                          have HGX := Lib.hid (fun h => range_step (f := fun x => decide (fol l x j < 0) || decide (n ≤ prfAt p q x + fol l x j + xc)) (b := true) (k := k) hG.out h)
                          have HGN := Lib.hid (fun h => HNO.out (by rw [HBN.out, HLN2.out, allB_false (n := l.n) (f := fun x => decide (fol l x j < 0) || decide (n ≤ prfAt p q x + fol l x j + xc)) (j := k) hkl h]))
                          generalize prfAt p q k = m at *
                          generalize fol l (k : Int) (j : Int) = f at *
                          obtain ⟨hf0, hf1⟩ := hfb
                          obtain ⟨hv0, hv1⟩ := hvb
                          have hw1 : IntKind.i64.wrap (m + f) = m + f := IntWalk.i64_in _ (by omega)
                          have hw2 : IntKind.i64.wrap (m + f + xc) = m + f + xc := IntWalk.i64_in _ (by omega)
                          by_cases hff : f < 0
                          · have HN := Lib.hid (HGX.out (by rw [decide_eq_true hff]; rfl))
                            have hd8 : decide (0 ≤ f) = false := by simp; omega
                            go_wp2_with fail
                            refine HFC.out.mono ?_; rintro e wB ⟨rfl, hxB⟩
                            have hXB := hX9.trans hxB
                            have hs5 : ∀ s : Later wB, Ext wA s.w := fun s => hXB.trans s.ext
                            have q0 := fun s : Later wB => (hXB.trans s.ext).keep HCR.out
                            have q1 := fun s : Later wB => (hXB.trans s.ext).keep HCN.out
                            have q2 := fun s : Later wB => (hXB.trans s.ext).keep HC2.out
                            have q3 := fun s : Later wB => (hXB.trans s.ext).keep HCQ.out
                            have q4 := fun s : Later wB => (hXB.trans s.ext).keep HCK.out
                            go_wp2_with fail
                            refine wp_region_later (by kernel_rfl) (by kernel_rfl) ?_
                            repeat (go_big_quiet_step (fail))
                            refine wpQuiet_nil ?_
                            intro wC hw'
                            obtain ⟨⟨_, hxC⟩, rfl⟩ := hw'
                            have hXC := hXB.trans hxC
                            clear q0 q1 q2 q3 q4 hs5
                            go_wp2_with fail
                            go_roundg (gk-1)
                            case measure => omega
                            case rel => exact ⟨k+1, by omega, by omega, by go_num, hXC, HN⟩
                          · have hd8 : decide (0 ≤ f) = true := by simp; omega
                            by_cases hnn : n ≤ m + f + xc
                            · have HN := Lib.hid (HGX.out (by rw [decide_eq_true hnn, Bool.or_true]))
                              have hd9 : decide (m + f + xc < n) = false := by simp; omega
                              clear hff
                              go_wp2_with fail
                              refine HFC.out.mono ?_; rintro e wB ⟨rfl, hxB⟩
                              have hXB := hX9.trans hxB
                              have hs5 : ∀ s : Later wB, Ext wA s.w := fun s => hXB.trans s.ext
                              have q0 := fun s : Later wB => (hXB.trans s.ext).keep HCR.out
                              have q1 := fun s : Later wB => (hXB.trans s.ext).keep HCN.out
                              have q2 := fun s : Later wB => (hXB.trans s.ext).keep HC2.out
                              have q3 := fun s : Later wB => (hXB.trans s.ext).keep HCQ.out
                              have q4 := fun s : Later wB => (hXB.trans s.ext).keep HCK.out
                              go_wp2_with fail
                              refine wp_region_later (by kernel_rfl) (by kernel_rfl) ?_
                              repeat (go_big_quiet_step (fail))
                              refine wpQuiet_nil ?_
                              intro wC hw'
                              obtain ⟨⟨_, hxC⟩, rfl⟩ := hw'
                              have hXC := hXB.trans hxC
                              clear q0 q1 q2 q3 q4 hs5
                              go_wp2_with fail
                              go_roundg (gk-1)
                              case measure => omega
                              case rel => exact ⟨k+1, by omega, by omega, by go_num, hXC, HN⟩
                            · have HN := Lib.hid (HGN.out (by rw [decide_eq_false hff, decide_eq_false hnn]; rfl))
                              have hd9 : decide (m + f + xc < n) = true := by simp; omega
                              clear hff hnn
                              go_wp2_with fail
                              refine HFC.out.mono ?_; rintro e wB ⟨rfl, hxB⟩
                              have hXB := hX9.trans hxB
                              have hs5 : ∀ s : Later wB, Ext wA s.w := fun s => hXB.trans s.ext
                              have q0 := fun s : Later wB => (hXB.trans s.ext).keep HCR.out
                              have q1 := fun s : Later wB => (hXB.trans s.ext).keep HCN.out
                              have q2 := fun s : Later wB => (hXB.trans s.ext).keep HC2.out
                              have q3 := fun s : Later wB => (hXB.trans s.ext).keep HCQ.out
                              have q4 := fun s : Later wB => (hXB.trans s.ext).keep HCK.out
                              go_wp2_with fail
                              refine wp_region_later (by kernel_rfl) (by kernel_rfl) ?_
                              repeat (go_big_quiet_step (fail))
                              refine wpQuiet_nil ?_
                              intro wC hw'
                              obtain ⟨⟨_, hxC⟩, rfl⟩ := hw'
                              have hXC := hXB.trans hxC
                              clear q0 q1 q2 q3 q4 hs5
                              go_wp2_with fail
                              go_ret3
                              exact ⟨by rw [HN.out.1, HN.out.2]; rfl, hE0.trans hXC⟩
                        · have HN := Lib.hid (HNX.out (by rw [HBN.out, HLN2.out, allB_true (fun x hx => hG.out x (by have : x < l.i.length := hx; omega))]))
                          have hd8 : decide ((k : Int) < (l.i.length : Int)) = false := by simp; omega
                          go_wp2_with fail
                          go_roundg (g3-1)
                          case measure => omega
                          case rel => exact ⟨j+1, by omega, by omega, by go_num, hX9, HN⟩
                · have hjn : j = l.i.length := by omega
                  subst hjn
                  have HN := Lib.hid (range_step (f := fun x => decide (∀ b, b < l.n → bndB l t p x b = true)) (b := true) (k := i) (fun a ha => decide_eq_true (hE.out a ha)) (decide_eq_true hF.out))
                  have HN2 := Lib.hid (fun a ha => of_decide_eq_true (HN.out a ha))
                  go_wp2_with fail
                  go_roundg (g2-1)
                  case measure => omega
                  case rel => exact ⟨i+1, by omega, by omega, by go_num, hX, HN2⟩
            · have HBS := Lib.hid (proof_d H00.out HSH.out (bnds_all (fun a ha => hE.out a (by have := HLEN.out; omega))))
              clear hE
              by_cases htn : t = []
              · have hd7 : ((t.length : Int) == 0) = true := by simp [htn]
                have HWN : Hid (proofW l t p = (0, true)) := Lib.hid (by rw [HBS.out.2, decide_eq_true htn]; rw [htn]; rw [worthL_nil HL.out]; rfl)
                clear htn
                go_wp2_with fail
                go_ret3
                exact ⟨by rw [HBS.out.1, HWN.out]; rfl, hE0.trans hX⟩
              · have hd7 : ((t.length : Int) == 0) = false := by simp [htn]
                have HWN : Hid (proofW l t p = worthTo l t (p[t.length]?.getD []) l.i.length) := Lib.hid (by rw [HBS.out.2, decide_eq_false htn, Bool.or_false]; rfl)
                have htp : t.length < p.length := by have := HLEN.out; omega
                obtain ⟨bp, op, rfl, ur, hcr, hur⟩ := HP.out t.length htp
                obtain ⟨ar, cr, rfl, hlr, hmr, HUR⟩ := hur.open_
                clear hur
                have hrl := (HPL.out t.length htp).1
                rw [hrl] at hcr hlr HUR
                have HCR := Lib.hid hcr; clear hcr hrl
                have htpI : (t.length : Int) < (p.length : Int) := by omega
                clear htn
                go_wp2_with fail
                go_loopg [19, 17, 18] l.i.length (fun z jj s17 s18 wr => ∃ j : Nat, j ≤ l.i.length ∧ l.i.length ≤ j + z ∧ jj = .int .i64 j ∧ s17 = .int .i64 (worthTo l t (p[t.length]?.getD []) j).1 ∧ s18 = .bool (worthTo l t (p[t.length]?.getD []) j).2 ∧ Ext wA wr)
                case atStart => exact ⟨0, by omega, by omega, rfl, rfl, rfl, hX⟩
                case round =>
                  clear hX
                  obtain ⟨j, hj, hjz, rfl, rfl, rfl, hX⟩ := hrel
                  by_cases hjl : j < l.i.length
                  · obtain ⟨br, or_, rfl, hcn⟩ := HUR.out j hjl
                    have hpv : ((p[t.length]?.getD [])[j]?.getD 0) = prfAt p t.length j := rfl
                    rw [hpv] at hcn
                    have hcr := hX.keep HCR.out
                    replace hcn := hX.keep hcn
                    clear hpv
                    obtain ⟨bi, oi, rfl, u, hc0, hu, _, _⟩ := HI.out j hjl
                    replace hc0 := hX.keep hc0
                    have hjI : (j : Int) < (l.i.length : Int) := by omega
                    have HCM := Lib.hid (fun W (hW : Ext wA W) => by
                      have := comes_c _ _ _ l t ((t.length : Int) - (wrd l (j : Int)).length) j W (HR.out.ext hW) HL.out (HT.out.ext hW) hjl (by have := (HL.out.wo j hjl).2; have : (wrd l (j : Int)).length ≤ 6 := this; omega) (by omega) (by omega)
                      rw [comesB_ends (Nat.le_refl _)] at this; exact this)
                    have HST := Lib.hid (worth_step l t p j)
                    have hL6 : (wrd l (j : Int)).length ≤ 6 := (HL.out.wo j hjl).2
                    obtain ⟨au, cu, rfl, hlu, hmu, _⟩ := hu.open_
                    have hwl : (itm l.i j).w.length = (wrd l (j : Int)).length := rfl
                    rw [hwl] at hc0 hlu
                    clear hu hwl
                    generalize hLL : (wrd l (j : Int)).length = L at *
                    have HLL := Lib.hid hLL; clear hLL
                    obtain ⟨c1, c2, hc⟩ : ∃ a b, worthTo l t (p[t.length]?.getD []) j = (a, b) := ⟨_, _, rfl⟩
                    rw [hc] at HST ⊢
                    simp only
                    have HCC := Lib.hid hc; clear hc
                    generalize prfAt p t.length j = n at *
                    generalize endsAt l t t.length j = be at *
                    have hwi : IntKind.i64.wrap ((t.length : Int) - (L : Int)) = (t.length : Int) - (L : Int) := IntWalk.i64_in _ (by omega)
                    have hs5 : ∀ s : Later wr, Ext wA s.w := fun s => hX.trans s.ext
                    have q0 := fun s : Later wr => s.ext.keep hcr
                    have q1 := fun s : Later wr => s.ext.keep hcn
                    have q2 := fun s : Later wr => s.ext.keep hc0
                    have HCS := Lib.hid (fun s : Later wr => HCM.out s.w (hX.trans s.ext))
                    by_cases hcond : be = true ∧ (c2 = false ∨ n < c1)
                    · have HS : Hid (worthTo l t (p[t.length]?.getD []) (j + 1) = (n, true)) := Lib.hid (by rw [HST.out, if_pos hcond])
                      obtain ⟨rfl, hcond⟩ := hcond
                      cases c2 with
                      | false =>
                        clear hcond
                        go_wp2_with fail
                        refine wp_region_later (by kernel_rfl) (by kernel_rfl) ?_
                        repeat (go_big_quiet_step ((go_at_call 82; first | with_reducible exact Later.call (HCS.out _))))
                        refine wpQuiet_nil ?_
                        intro wC hw'
                        obtain ⟨⟨_, hxC⟩, rfl⟩ := hw'
                        have hXC := hX.trans hxC
                        clear q0 q1 q2 hs5
                        go_wp2_with fail
                        go_roundg (gk-1)
                        case measure => omega
                        case rel => exact ⟨j+1, by omega, by omega, by go_num, by rw [HS.out], by rw [HS.out], hXC⟩
                      | true =>
                        have hd9 : decide (n < c1) = true := decide_eq_true (hcond.resolve_left (by simp))
                        clear hcond
                        go_wp2_with fail
                        refine wp_region_later (by kernel_rfl) (by kernel_rfl) ?_
                        repeat (go_big_quiet_step ((go_at_call 82; first | with_reducible exact Later.call (HCS.out _))))
                        refine wpQuiet_nil ?_
                        intro wC hw'
                        obtain ⟨⟨_, hxC⟩, rfl⟩ := hw'
                        have hXC := hX.trans hxC
                        clear q0 q1 q2 hs5
                        go_wp2_with fail
                        go_roundg (gk-1)
                        case measure => omega
                        case rel => exact ⟨j+1, by omega, by omega, by go_num, by rw [HS.out], by rw [HS.out], hXC⟩
                    · have HS : Hid (worthTo l t (p[t.length]?.getD []) (j + 1) = (c1, c2)) := Lib.hid (by rw [HST.out, if_neg hcond])
                      cases be with
                      | false =>
                        clear hcond
                        go_wp2_with fail
                        refine wp_region_later (by kernel_rfl) (by kernel_rfl) ?_
                        repeat (go_big_quiet_step ((go_at_call 82; first | with_reducible exact Later.call (HCS.out _))))
                        refine wpQuiet_nil ?_
                        intro wC hw'
                        obtain ⟨⟨_, hxC⟩, rfl⟩ := hw'
                        have hXC := hX.trans hxC
                        clear q0 q1 q2 hs5
                        go_wp2_with fail
                        go_roundg (gk-1)
                        case measure => omega
                        case rel => exact ⟨j+1, by omega, by omega, by go_num, by rw [HS.out], by rw [HS.out], hXC⟩
                      | true =>
                        cases c2 with
                        | false => exact absurd ⟨rfl, Or.inl rfl⟩ hcond
                        | true =>
                          have hd9 : decide (n < c1) = false := decide_eq_false (fun h => hcond ⟨rfl, Or.inr h⟩)
                          clear hcond
                          go_wp2_with fail
                          refine wp_region_later (by kernel_rfl) (by kernel_rfl) ?_
                          repeat (go_big_quiet_step ((go_at_call 82; first | with_reducible exact Later.call (HCS.out _))))
                          refine wpQuiet_nil ?_
                          intro wC hw'
                          obtain ⟨⟨_, hxC⟩, rfl⟩ := hw'
                          have hXC := hX.trans hxC
                          clear q0 q1 q2 hs5
                          go_wp2_with fail
                          go_roundg (gk-1)
                          case measure => omega
                          case rel => exact ⟨j+1, by omega, by omega, by go_num, by rw [HS.out], by rw [HS.out], hXC⟩
                  · have hjn : j = l.i.length := by omega
                    subst hjn
                    go_wp2_with fail
                    go_ret3
                    exact ⟨by rw [HBS.out.1, HWN.out]; rfl, hE0.trans hX⟩
    · have hd : ((p.length : Int) != (t.length : Int) + 1) = true := by simp; omega
      have HN := Lib.hid (proof_b (p := p) H00.out (shape_len hlen))
      clear hlen
      go_enter Try.func37, Try.ntmps37
      go_wp2_with fail
      rw [← HW.out]
      refine HC1.out.mono ?_; rintro e w1 ⟨rfl, hx1⟩
      go_wp2_with fail
      go_ret3
      exact ⟨by rw [HN.out.1, HN.out.2]; rfl, hE0.trans hx1⟩
  · rw [(proof_a h0).1, (proof_a h0).2]
    generalize textK l t = k at *
    have hk : (k != 0) = true := by simpa using h0
    clear h0
    go_enter Try.func37, Try.ntmps37
    go_wp2_with fail
    rw [← HW.out]
    refine HC1.out.mono ?_; rintro e w1 ⟨rfl, hx1⟩
    go_wp2_with fail
    go_ret3
    exact ⟨rfl, hE0.trans hx1⟩
end Go.Proofs.Ytgpggmcjggpmpaa
