/- Splits and pairs that are given, texts of items: CheckSplit, CheckTwo, Text; both packages. -/
import Derived.Test.YtgpggmcjggpmpaaTagD
namespace Go.Proofs.Ytgpggmcjggpmpaa
open Go.RowKit Go.Shelf
set_option linter.unusedVariables false

set_option maxHeartbeats 400000 in
theorem sameInts_c (va vb : Value) (a b : List Int) (w : World) (ha : Ints w va a) (hb : Ints w vb b) :
    Calls Try.prog 28 #[va, vb] w (RQ (sameIntsB a b) w) := by
  obtain ⟨aa, ca, rfl, hla, hma, Hca⟩ := ha.open_
  obtain ⟨ab, cb, rfl, hlb, hmb, Hcb⟩ := hb.open_
  clear ha hb
  by_cases hl : a.length = b.length
  · have H1 : ((a.length : Int) != (b.length : Int)) = false := by simp [hl]
    have hl1 : b.length ≤ a.length := by omega
    have hl2 : a.length ≤ b.length := by omega
    have HL := Lib.hid hl; clear hl
    go_enter Try.func28, Try.ntmps28
    go_wp2_with fail
    go_loopg [5] a.length (fun m i wr => ∃ k : Nat, k ≤ a.length ∧ a.length ≤ k + m ∧ i = .int .i64 k ∧ (∃ n, wr = w.drewN n) ∧ Hid (∀ j, j < k → (a[j]?.getD 0 == b[j]?.getD 0) = true))
    case atStart => exact ⟨0, by omega, by omega, rfl, ⟨0, rfl⟩, fun j hj => by omega⟩
    case round =>
      obtain ⟨k, hk, hk2, rfl, ⟨nd, hwr⟩, hE⟩ := hrel
      have hwx : Ext w wr := by rw [hwr]; exact Ext.drewN _ _
      have HW := Lib.hid hwr; clear hwr
      by_cases hlt : k < a.length
      · obtain ⟨ba, oa, rfl, hc1⟩ := Hca.out k hlt
        obtain ⟨bb, ob, rfl, hc2⟩ := Hcb.out k (by omega)
        replace hc1 := hwx.keep hc1
        replace hc2 := hwx.keep hc2
        generalize hx : a[k]?.getD 0 = x at *
        generalize hy : b[k]?.getD 0 = y at *
        have Hx := Lib.hid hx; have Hy := Lib.hid hy; clear hx hy
        by_cases hxy : x = y
        · subst hxy
          have hn : (x != x) = false := by simp
          go_wp2_with fail
          go_quiet (fail)
          go_wp2_with fail
          go_roundg (gk-1)
          case measure => omega
          case rel => exact ⟨k+1, by omega, by omega, by go_num, ⟨_, by rw [HW.out, World.drewN_drewN]⟩, range_step hE.out (by rw [Hx.out, Hy.out]; simp)⟩
        · have hn : (x != y) = true := by simp [hxy]
          have HX := Lib.hid hxy; clear hxy
          go_wp2_with fail
          go_quiet (fail)
          go_wp2_with fail
          go_ret
          exact RQ.mkW (n := nd) (by rw [sameIntsB, allB_false hlt (by rw [Hx.out, Hy.out]; simpa using HX.out)]; simp) HW.out _
      · go_wp2_with fail
        go_ret
        exact RQ.mkV (n := nd) (by rw [sameIntsB, allB_true (fun j hj => hE.out j (by omega))]; simp [HL.out]) HW.out
  · have H1 : ((a.length : Int) != (b.length : Int)) = true := by simp; omega
    have HL := Lib.hid hl; clear hl
    go_enter Try.func28, Try.ntmps28
    go_wp2_with fail
    go_ret
    exact RQ.mk0 (by have := HL.out; simp [sameIntsB, this])
theorem same_eq (a b : List Int) : sameIntsB a b = decide (a = b) := by
  rw [Bool.eq_iff_iff, sameIntsB_iff, decide_eq_true_eq]; simp
theorem same_v (va vb : Value) (a b : List Int) (w : World) (ha : Ints w va a) (hb : Ints w vb b) : Calls Try.prog 28 #[va, vb] w (RV (.bool (decide (a = b))) w) := by
  rw [← same_eq]; exact (sameInts_c va vb a b w ha hb).mono fun _ _ h => h.rv
theorem equal_v (va vb : Value) (a b : List Int) (w : World) (ha : Ints w va a) (hb : Ints w vb b) : Calls Try.prog 59 #[va, vb] w (RV (.bool (decide (a = b))) w) := by
  rw [← same_eq]; exact (equalInts_c va vb a b w ha hb).mono fun _ _ h => h.rv
/-! ## splits -/
theorem splitK_a {l : Lex} {t s : List Int} (h : textK l t ≠ 0) : splitK l t s = textK l t := by rw [splitK, if_neg h]
theorem splitC_no {l : Lex} {t s : List Int} {k : Int} (h : splitK l t s = k) (hk : k ≠ 0) : splitC l t s = 0 := by rw [splitC, if_neg (by rw [h]; exact hk)]
theorem splitK_b {l : Lex} {t s : List Int} (h : textK l t = 0) (h2 : 12 < (s.length : Int)) : splitK l t s = 3 := by rw [splitK, if_pos h, if_pos h2]
theorem splitK_c {l : Lex} {t s : List Int} (h : textK l t = 0) (h2 : ¬ 12 < (s.length : Int)) (h3 : areB l s = false) : splitK l t s = 4 := by rw [splitK, if_pos h, if_neg h2, h3]; rfl
theorem splitK_d {l : Lex} {t s : List Int} (h : textK l t = 0) (h2 : ¬ 12 < (s.length : Int)) (h3 : areB l s = true) (h4 : wordsL l s ≠ t) : splitK l t s = 7 := by rw [splitK, if_pos h, if_neg h2, if_pos h3, if_neg h4]
theorem splitK_e {l : Lex} {t s : List Int} {b : Bool} (h : textK l t = 0) (h2 : ¬ 12 < (s.length : Int)) (h3 : areB l s = true) (h4 : wordsL l s = t) (h5 : lnkB l s = b) : splitK l t s = if b then 0 else 6 := by rw [splitK, if_pos h, if_neg h2, if_pos h3, if_pos h4, h5]
def lnkAt (l : Lex) (s : List Int) (k : Nat) : Bool := decide (k = 0) || decide (0 ≤ fol l (s[k - 1]?.getD 0) (s[k]?.getD 0))
theorem lnkB_eq (l : Lex) (s : List Int) : lnkB l s = allB s.length (lnkAt l s) := rfl
set_option maxHeartbeats 4000000 in
set_option maxRecDepth 100000 in
theorem CheckSplit_c (iv fv tv sv : Value) (l : Lex) (t s : List Int) (w : World) (h : LexR w iv fv l) (ht : Ints w tv t) (hs : Ints w sv s) : Calls Try.prog 26 #[.agg #[iv, fv], tv, sv] w (RV (.tuple #[.int .i64 (splitC l t s), .int .i64 (splitK l t s)]) w) := by
  obtain ⟨wA, hwA⟩ : ∃ wA, wA = w.alloc (.cells #[iv, fv] 25) := ⟨_, rfl⟩
  have hE0 : Ext w wA := by rw [hwA]; exact Ext.alloc _ _
  have k0 : ∀ W, Ext wA W → W.cell? ⟨w.heap.size, 0, none⟩ = some iv := by rw [hwA]; exact kept_alloc w _ _ rfl
  have k1 : ∀ W, Ext wA W → W.cell? ⟨w.heap.size, 1, none⟩ = some fv := by rw [hwA]; exact kept_alloc w _ _ rfl
  have H0 : Ext wA wA := Ext.refl _
  have HR := Lib.hid (h.ext hE0)
  obtain ⟨ai, ci, rfl, hli, hmi, HI⟩ := (h.ext hE0).i.open_
  obtain ⟨af, cf, rfl, hlf, hmf, HF⟩ := Rows.open_ (h.ext hE0).f
  have HT := Lib.hid (ht.ext hE0)
  have HSS := Lib.hid (hs.ext hE0)
  obtain ⟨at_, ct, rfl, hlt0, hmt0, HTO⟩ := (ht.ext hE0).open_
  obtain ⟨as_, cs, rfl, hls, hms, HS⟩ := (hs.ext hE0).open_
  have HC1 := Lib.hid (check_c _ _ _ l t wA HR.out HT.out)
  have HC2 := Lib.hid (fun W (hW : Ext wA W) => areItems_c _ _ _ l s W (HR.out.ext hW) (HSS.out.ext hW))
  have HW := Lib.hid hwA; clear hwA h ht hs
  by_cases h0 : textK l t = 0
  · rw [h0] at HC1
    have hl := (textK_ok h0).1
    have ht12 := (textK_ok h0).2.1
    by_cases h1 : 12 < (s.length : Int)
    · have hK := splitK_b h0 h1
      rw [splitC_no hK (by omega), hK]
      clear h0 hK hl
      go_enter Try.func26, Try.ntmps26
      go_wp2_with fail
      rw [← HW.out]
      refine HC1.out.mono ?_; rintro e w1 ⟨rfl, hx1⟩
      go_wp2_with fail
      go_ret2
      exact ⟨rfl, hE0.trans hx1⟩
    · have hs12 : (s.length : Int) ≤ 12 := by omega
      by_cases h2 : areB l s = true
      · have HA := Lib.hid (areB_iff.1 h2)
        have HL := Lib.hid hl
        have HC3 := Lib.hid (fun W (hW : Ext wA W) => words_c _ _ _ l s W (HR.out.ext hW) hl (HSS.out.ext hW) HA.out (by omega))
        rw [h2] at HC2
        by_cases h3 : wordsL l s = t
        · generalize hb : lnkB l s = lb at *
          have HK := Lib.hid (splitK_e h0 h1 h2 h3 hb)
          have HLB := Lib.hid hb
          have HWT := Lib.hid h3
          clear h0 h2 h3 hl hb
          rw [HWT.out] at HC3
          have HC4 := Lib.hid (fun W va (ha : Ints W va t) (hW : Ext wA W) => equal_v va _ t t W ha (HT.out.ext hW))
          rw [decide_eq_true rfl] at HC4
          have h1I : ¬ 12 < (s.length : Int) := h1
          go_enter Try.func26, Try.ntmps26
          go_wp2_with fail
          rw [← HW.out]
          refine HC1.out.mono ?_; rintro e w1 ⟨rfl, hx1⟩
          go_wp2_with fail
          refine (HC2.out w1 hx1).mono ?_; rintro e w2 ⟨rfl, hx2⟩
          have hX2 := hx1.trans hx2
          go_wp2_with fail
          refine (HC3.out w2 hX2).mono ?_; rintro e w3 ⟨v3, rfl, ho3, hx3⟩
          have hX3 := hX2.trans hx3
          have hI3 := ho3.ints
          clear ho3
          go_wp2_with fail
          refine (HC4.out w3 v3 hI3 hX3).mono ?_; rintro e w4 ⟨rfl, hx4⟩
          have hX1 := hX3.trans hx4
          clear hx1 hx2 hx3 hx4 hX2 hX3 hI3
          go_wp2_with fail
          go_loopg [37, 9] s.length (fun m i a wr => ∃ k : Nat, k ≤ s.length ∧ s.length ≤ k + m ∧ i = .int .i64 k ∧ a = .int .i64 (costP l s k) ∧ Ext wA wr ∧ Hid (∀ j, j < k → lnkAt l s j = true))
          case atStart => exact ⟨0, by omega, by omega, rfl, rfl, hX1, fun j hj => by omega⟩
          case round =>
            obtain ⟨k, hk, hk2, rfl, rfl, hX, hE⟩ := hrel
            by_cases hlt : k < s.length
            · obtain ⟨bs, os, rfl, hcs⟩ := HS.out k hlt
              obtain ⟨x, hx, hxl⟩ := inN_at HA.out hlt
              have hcb := cost_bd HL.out HA.out k (by omega)
              have hCN : Hid (costP l s (k + 1) = costP l s k + cst l (s[k]?.getD 0) + (if 0 < k then fol l (s[k - 1]?.getD 0) (s[k]?.getD 0) else 0)) := Lib.hid rfl
              have hLA : Hid (lnkAt l s k = (decide (k = 0) || decide (0 ≤ fol l (s[k - 1]?.getD 0) (s[k]?.getD 0)))) := Lib.hid rfl
              rw [hx] at hcs hCN hLA
              have hxc := HL.out.cst (a := x) hxl
              have HCX : Hid (cst l (x : Int) = (itm l.i x).c) := Lib.hid rfl
              rw [HCX.out] at hxc hCN
              obtain ⟨bi, oi, rfl, u, hci, _, hck, hcc⟩ := HI.out x hxl
              have hcs0 := hcs; have hcc0 := hcc
              replace hcs := hX.keep hcs
              replace hcc := hX.keep hcc
              have hxI : (x : Int) < (l.i.length : Int) := by omega
              have hgc : -(k : Int) ≤ costP l s k := hcb.1
              have hgd : costP l s k ≤ 2400 := by have := hcb.2; omega
              have hge : -12 ≤ costP l s k := by omega
              have hgf : costP l s k ≤ 2400 := hgd
              clear hcb hx hgc hgd
              generalize hcp : costP l s k = c at *
              generalize hic : (itm l.i x).c = xc at *
              clear hcp hic hci hck HCX
              by_cases h0 : k = 0
              · have hd0 : decide (0 < (k : Int)) = false := by simp; omega
                have hCN2 : Hid (costP l s (k + 1) = c + xc) := Lib.hid (by rw [hCN.out, if_neg (by omega), Int.add_zero])
                have hLA2 : Hid (lnkAt l s k = true) := Lib.hid (by rw [hLA.out, decide_eq_true h0]; rfl)
                have hd1 : decide (0 < k) = false := by simp; omega
                clear h0
                go_wp2_with fail
                go_roundg (gk-1)
                case measure => omega
                case rel => exact ⟨k+1, by omega, by omega, by go_num, by rw [hCN2.out], hX, range_step hE.out hLA2.out⟩
              · have hk0 : 0 < k := by omega
                have hdk : decide (0 < (k : Int)) = true := by simp; omega
                obtain ⟨y, hy, hyl⟩ := inN_at HA.out (show k - 1 < s.length by omega)
                obtain ⟨bs2, os2, he, hcy⟩ := HS.out (k - 1) (by omega)
                injection he with he; injection he with he1 he2; subst he1 he2
                rw [hy] at hcy
                have hCN2 : Hid (costP l s (k + 1) = c + xc + fol l (y : Int) (x : Int)) := Lib.hid (by rw [hCN.out, hy, if_pos hk0])
                have hLA2 : Hid (lnkAt l s k = decide (0 ≤ fol l (y : Int) (x : Int))) := Lib.hid (by rw [hLA.out, hy, decide_eq_false h0, Bool.false_or])
                have hfb := HL.out.fol (a := y) (b := x) hyl hxl
                have hw1 : IntKind.i64.wrap ((k : Int) - 1) = (k : Int) - 1 := IntWalk.i64_in _ (by omega)
                have htn : ((k : Int) - 1).toNat = k - 1 := by omega
                have hz1 : (0 : Int) ≤ (k : Int) - 1 := by omega
                have hz2 : (k : Int) - 1 < (s.length : Int) := by omega
                clear h0 hy
                have HFC := Lib.hid (fun W (hW : Ext wA W) => follows_c _ _ l y x W (HR.out.ext hW) HL.out hyl hxl)
                generalize fol l (y : Int) (x : Int) = f at *
                by_cases hf : f < 0
                · have hdf : decide (f < 0) = true := by simp [hf]
                  have hLF : lnkAt l s k = false := by rw [hLA2.out]; simp; omega
                  have HKB : Hid (splitK l t s = 6) := Lib.hid (by rw [HK.out, show lb = false by rw [← HLB.out, lnkB_eq, allB_false hlt hLF]]; rfl)
                  clear hf
                  go_wp2_with fail
                  have hs1 : ∀ t : Later wr, Ext wA t.w := fun t => hX.trans t.ext
                  have q0 := fun t : Later wr => (hX.trans t.ext).keep hcy
                  refine wp_region_later (by kernel_rfl) (by kernel_rfl) ?_
                  repeat (go_big_quiet_step ((first | (go_at_call 60; first | with_reducible exact Later.call (HFC.out _ (hX.trans (Later.ext _)))))))
                  refine wpQuiet_nil ?_
                  intro w5 hw'
                  obtain ⟨⟨_, hx5⟩, rfl⟩ := hw'
                  clear hs1 q0
                  go_wp2_with fail
                  go_ret2
                  exact ⟨by rw [splitC_no HKB.out (by omega), HKB.out]; rfl, hE0.trans (hX.trans hx5)⟩
                · have hdf : decide (f < 0) = false := by simp; omega
                  have hLF : Hid (lnkAt l s k = true) := Lib.hid (by rw [hLA2.out]; simp; omega)
                  clear hf
                  go_wp2_with fail
                  have hs1 : ∀ t : Later wr, Ext wA t.w := fun t => hX.trans t.ext
                  have q0 := fun t : Later wr => (hX.trans t.ext).keep hcy
                  refine wp_region_later (by kernel_rfl) (by kernel_rfl) ?_
                  repeat (go_big_quiet_step ((first | (go_at_call 60; first | with_reducible exact Later.call (HFC.out _ (hX.trans (Later.ext _)))))))
                  refine wpQuiet_nil ?_
                  intro w5 hw'
                  obtain ⟨⟨_, hx5⟩, rfl⟩ := hw'
                  clear hs1 q0
                  go_wp2_with fail
                  go_roundg (gk-1)
                  case measure => omega
                  case rel => exact ⟨k+1, by omega, by omega, by go_num, by rw [hCN2.out], hX.trans hx5, range_step hE.out hLF.out⟩
            · have hkl : k = s.length := by omega
              subst hkl
              have HKG : Hid (splitK l t s = 0) := Lib.hid (by rw [HK.out, show lb = true by rw [← HLB.out, lnkB_eq, allB_true (fun j hj => hE.out j (by omega))]]; rfl)
              clear hE
              go_wp2_with fail
              go_ret2
              exact ⟨by rw [splitC, if_pos HKG.out, HKG.out]; rfl, hE0.trans hX⟩
        · have hK := splitK_d h0 h1 h2 h3
          rw [splitC_no hK (by omega), hK]
          have HC4 := Lib.hid (fun W va (ha : Ints W va (wordsL l s)) (hW : Ext wA W) => equal_v va _ (wordsL l s) t W ha (HT.out.ext hW))
          rw [decide_eq_false h3] at HC4
          clear h0 hK hl h2 h3
          generalize wordsL l s = ws at *
          go_enter Try.func26, Try.ntmps26
          go_wp2_with fail
          rw [← HW.out]
          refine HC1.out.mono ?_; rintro e w1 ⟨rfl, hx1⟩
          go_wp2_with fail
          refine (HC2.out w1 hx1).mono ?_; rintro e w2 ⟨rfl, hx2⟩
          have hX2 := hx1.trans hx2
          go_wp2_with fail
          refine (HC3.out w2 hX2).mono ?_; rintro e w3 ⟨v3, rfl, ho3, hx3⟩
          have hX3 := hX2.trans hx3
          have hI3 := ho3.ints
          clear ho3
          go_wp2_with fail
          refine (HC4.out w3 v3 hI3 hX3).mono ?_; rintro e w4 ⟨rfl, hx4⟩
          go_wp2_with fail
          go_ret2
          exact ⟨rfl, hE0.trans (hX3.trans hx4)⟩
      · have h2' : areB l s = false := by simpa using h2
        have hK := splitK_c h0 h1 h2'
        rw [splitC_no hK (by omega), hK]
        rw [h2'] at HC2
        clear h0 hK hl h2 h2'
        go_enter Try.func26, Try.ntmps26
        go_wp2_with fail
        rw [← HW.out]
        refine HC1.out.mono ?_; rintro e w1 ⟨rfl, hx1⟩
        go_wp2_with fail
        refine (HC2.out w1 hx1).mono ?_; rintro e w2 ⟨rfl, hx2⟩
        go_wp2_with fail
        go_ret2
        exact ⟨rfl, hE0.trans (hx1.trans hx2)⟩
  · have hK := splitK_a (s := s) h0
    rw [splitC_no hK h0, hK]
    generalize textK l t = k at *
    have hk : (k != 0) = true := by simpa using h0
    clear h0 hK
    go_enter Try.func26, Try.ntmps26
    go_wp2_with fail
    rw [← HW.out]
    refine HC1.out.mono ?_; rintro e w1 ⟨rfl, hx1⟩
    go_wp2_with fail
    go_ret2
    exact ⟨rfl, hE0.trans hx1⟩
set_option maxHeartbeats 4000000 in
set_option maxRecDepth 100000 in
theorem rCheckSplit_c (iv fv tv sv : Value) (l : Lex) (t s : List Int) (w : World) (h : LexR w iv fv l) (ht : Ints w tv t) (hs : Ints w sv s) : Calls Try.prog 42 #[.agg #[iv, fv], tv, sv] w (RV (.tuple #[.int .i64 (splitC l t s), .int .i64 (splitK l t s)]) w) := by
  obtain ⟨wA, hwA⟩ : ∃ wA, wA = w.alloc (.cells #[iv, fv] 25) := ⟨_, rfl⟩
  have hE0 : Ext w wA := by rw [hwA]; exact Ext.alloc _ _
  have k0 : ∀ W, Ext wA W → W.cell? ⟨w.heap.size, 0, none⟩ = some iv := by rw [hwA]; exact kept_alloc w _ _ rfl
  have k1 : ∀ W, Ext wA W → W.cell? ⟨w.heap.size, 1, none⟩ = some fv := by rw [hwA]; exact kept_alloc w _ _ rfl
  have H0 : Ext wA wA := Ext.refl _
  have HR := Lib.hid (h.ext hE0)
  obtain ⟨ai, ci, rfl, hli, hmi, HI⟩ := (h.ext hE0).i.open_
  obtain ⟨af, cf, rfl, hlf, hmf, HF⟩ := Rows.open_ (h.ext hE0).f
  have HT := Lib.hid (ht.ext hE0)
  have HSS := Lib.hid (hs.ext hE0)
  obtain ⟨at_, ct, rfl, hlt0, hmt0, HTO⟩ := (ht.ext hE0).open_
  obtain ⟨as_, cs, rfl, hls, hms, HS⟩ := (hs.ext hE0).open_
  have HC1 := Lib.hid (texted_c _ _ _ l t wA HR.out HT.out)
  have HC2 := Lib.hid (fun W (hW : Ext wA W) => items_c _ _ _ l s W (HR.out.ext hW) (HSS.out.ext hW))
  have HW := Lib.hid hwA; clear hwA h ht hs
  by_cases h0 : textK l t = 0
  · rw [h0] at HC1
    have hl := (textK_ok h0).1
    have ht12 := (textK_ok h0).2.1
    by_cases h1 : 12 < (s.length : Int)
    · have hK := splitK_b h0 h1
      rw [splitC_no hK (by omega), hK]
      clear h0 hK hl
      go_enter Try.func42, Try.ntmps42
      go_wp2_with fail
      rw [← HW.out]
      refine HC1.out.mono ?_; rintro e w1 ⟨rfl, hx1⟩
      go_wp2_with fail
      go_ret2
      exact ⟨rfl, hE0.trans hx1⟩
    · have hs12 : (s.length : Int) ≤ 12 := by omega
      by_cases h2 : areB l s = true
      · have HA := Lib.hid (areB_iff.1 h2)
        have HL := Lib.hid hl
        have HC3 := Lib.hid (fun W (hW : Ext wA W) => rwords_c _ _ _ l s W (HR.out.ext hW) hl (HSS.out.ext hW) HA.out (by omega))
        rw [h2] at HC2
        by_cases h3 : wordsL l s = t
        · generalize hb : lnkB l s = lb at *
          have HK := Lib.hid (splitK_e h0 h1 h2 h3 hb)
          have HLB := Lib.hid hb
          have HWT := Lib.hid h3
          clear h0 h2 h3 hl hb
          rw [HWT.out] at HC3
          have HC4 := Lib.hid (fun W va (ha : Ints W va t) (hW : Ext wA W) => same_v va _ t t W ha (HT.out.ext hW))
          rw [decide_eq_true rfl] at HC4
          have h1I : ¬ 12 < (s.length : Int) := h1
          go_enter Try.func42, Try.ntmps42
          go_wp2_with fail
          rw [← HW.out]
          refine HC1.out.mono ?_; rintro e w1 ⟨rfl, hx1⟩
          go_wp2_with fail
          refine (HC2.out w1 hx1).mono ?_; rintro e w2 ⟨rfl, hx2⟩
          have hX2 := hx1.trans hx2
          go_wp2_with fail
          refine (HC3.out w2 hX2).mono ?_; rintro e w3 ⟨v3, rfl, ho3, hx3⟩
          have hX3 := hX2.trans hx3
          have hI3 := ho3.ints
          clear ho3
          go_wp2_with fail
          refine (HC4.out w3 v3 hI3 hX3).mono ?_; rintro e w4 ⟨rfl, hx4⟩
          have hX1 := hX3.trans hx4
          clear hx1 hx2 hx3 hx4 hX2 hX3 hI3
          go_wp2_with fail
          go_loopg [10, 9] s.length (fun m i a wr => ∃ k : Nat, k ≤ s.length ∧ s.length ≤ k + m ∧ i = .int .i64 k ∧ a = .int .i64 (costP l s k) ∧ Ext wA wr ∧ Hid (∀ j, j < k → lnkAt l s j = true))
          case atStart => exact ⟨0, by omega, by omega, rfl, rfl, hX1, fun j hj => by omega⟩
          case round =>
            obtain ⟨k, hk, hk2, rfl, rfl, hX, hE⟩ := hrel
            by_cases hlt : k < s.length
            · obtain ⟨bs, os, rfl, hcs⟩ := HS.out k hlt
              obtain ⟨x, hx, hxl⟩ := inN_at HA.out hlt
              have hcb := cost_bd HL.out HA.out k (by omega)
              have hCN : Hid (costP l s (k + 1) = costP l s k + cst l (s[k]?.getD 0) + (if 0 < k then fol l (s[k - 1]?.getD 0) (s[k]?.getD 0) else 0)) := Lib.hid rfl
              have hLA : Hid (lnkAt l s k = (decide (k = 0) || decide (0 ≤ fol l (s[k - 1]?.getD 0) (s[k]?.getD 0)))) := Lib.hid rfl
              rw [hx] at hcs hCN hLA
              have hxc := HL.out.cst (a := x) hxl
              have HCX : Hid (cst l (x : Int) = (itm l.i x).c) := Lib.hid rfl
              rw [HCX.out] at hxc hCN
              obtain ⟨bi, oi, rfl, u, hci, _, hck, hcc⟩ := HI.out x hxl
              have hcs0 := hcs; have hcc0 := hcc
              replace hcs := hX.keep hcs
              replace hcc := hX.keep hcc
              have hxI : (x : Int) < (l.i.length : Int) := by omega
              have hgc : -(k : Int) ≤ costP l s k := hcb.1
              have hgd : costP l s k ≤ 2400 := by have := hcb.2; omega
              have hge : -12 ≤ costP l s k := by omega
              have hgf : costP l s k ≤ 2400 := hgd
              clear hcb hx hgc hgd
              generalize hcp : costP l s k = c at *
              generalize hic : (itm l.i x).c = xc at *
              clear hcp hic hci hck HCX
              by_cases h0 : k = 0
              · have hd0 : decide (0 < (k : Int)) = false := by simp; omega
                have hCN2 : Hid (costP l s (k + 1) = c + xc) := Lib.hid (by rw [hCN.out, if_neg (by omega), Int.add_zero])
                have hLA2 : Hid (lnkAt l s k = true) := Lib.hid (by rw [hLA.out, decide_eq_true h0]; rfl)
                have hd1 : decide (0 < k) = false := by simp; omega
                clear h0
                have hs1 : ∀ t : Later wr, Ext wA t.w := fun t => hX.trans t.ext
                have q1 := fun t : Later wr => (hX.trans t.ext).keep hcs0
                have q2 := fun t : Later wr => (hX.trans t.ext).keep hcc0
                go_wp2_with fail
                refine wp_region_later (by kernel_rfl) (by kernel_rfl) ?_
                repeat (go_big_quiet_step (fail))
                refine wpQuiet_nil ?_
                intro w5 hw'
                obtain ⟨⟨_, hx5⟩, rfl⟩ := hw'
                have hX5 := hX.trans hx5
                clear hs1 q1 q2
                go_wp2_with fail
                go_roundg (gk-1)
                case measure => omega
                case rel => exact ⟨k+1, by omega, by omega, by go_num, by rw [hCN2.out], hX5, range_step hE.out hLA2.out⟩
              · have hk0 : 0 < k := by omega
                have hdk : decide (0 < (k : Int)) = true := by simp; omega
                obtain ⟨y, hy, hyl⟩ := inN_at HA.out (show k - 1 < s.length by omega)
                obtain ⟨bs2, os2, he, hcy⟩ := HS.out (k - 1) (by omega)
                injection he with he; injection he with he1 he2; subst he1 he2
                rw [hy] at hcy
                have hCN2 : Hid (costP l s (k + 1) = c + xc + fol l (y : Int) (x : Int)) := Lib.hid (by rw [hCN.out, hy, if_pos hk0])
                have hLA2 : Hid (lnkAt l s k = decide (0 ≤ fol l (y : Int) (x : Int))) := Lib.hid (by rw [hLA.out, hy, decide_eq_false h0, Bool.false_or])
                have hfb := HL.out.fol (a := y) (b := x) hyl hxl
                have hw1 : IntKind.i64.wrap ((k : Int) - 1) = (k : Int) - 1 := IntWalk.i64_in _ (by omega)
                have htn : ((k : Int) - 1).toNat = k - 1 := by omega
                have hz1 : (0 : Int) ≤ (k : Int) - 1 := by omega
                have hz2 : (k : Int) - 1 < (s.length : Int) := by omega
                clear h0 hy
                have HFC := Lib.hid (fun W (hW : Ext wA W) => follow_c _ _ l y x W (HR.out.ext hW) HL.out hyl hxl)
                generalize fol l (y : Int) (x : Int) = f at *
                by_cases hf : f < 0
                · have hdf : decide (f < 0) = true := by simp [hf]
                  have hLF : lnkAt l s k = false := by rw [hLA2.out]; simp; omega
                  have HKB : Hid (splitK l t s = 6) := Lib.hid (by rw [HK.out, show lb = false by rw [← HLB.out, lnkB_eq, allB_false hlt hLF]]; rfl)
                  clear hf
                  have hs1 : ∀ t : Later wr, Ext wA t.w := fun t => hX.trans t.ext
                  have q1 := fun t : Later wr => (hX.trans t.ext).keep hcs0
                  have q2 := fun t : Later wr => (hX.trans t.ext).keep hcc0
                  go_wp2_with fail
                  refine wp_region_later (by kernel_rfl) (by kernel_rfl) ?_
                  repeat (go_big_quiet_step (fail))
                  refine wpQuiet_nil ?_
                  intro w5 hw'
                  obtain ⟨⟨_, hx5⟩, rfl⟩ := hw'
                  have hX5 := hX.trans hx5
                  clear hs1 q1 q2
                  go_wp2_with fail
                  have hs1 : ∀ t : Later w5, Ext wA t.w := fun t => hX5.trans t.ext
                  have q0 := fun t : Later w5 => (hX5.trans t.ext).keep hcy
                  have q1 := fun t : Later w5 => (hX5.trans t.ext).keep hcs0
                  refine wp_region_later (by kernel_rfl) (by kernel_rfl) ?_
                  repeat (go_big_quiet_step ((first | (go_at_call 83; first | with_reducible exact Later.call (HFC.out _ (hX5.trans (Later.ext _)))))))
                  refine wpQuiet_nil ?_
                  intro w6 hw'
                  obtain ⟨⟨_, hx6⟩, rfl⟩ := hw'
                  clear hs1 q0 q1
                  go_wp2_with fail
                  go_ret2
                  exact ⟨by rw [splitC_no HKB.out (by omega), HKB.out]; rfl, hE0.trans (hX5.trans hx6)⟩
                · have hdf : decide (f < 0) = false := by simp; omega
                  have hLF : Hid (lnkAt l s k = true) := Lib.hid (by rw [hLA2.out]; simp; omega)
                  clear hf
                  have hs1 : ∀ t : Later wr, Ext wA t.w := fun t => hX.trans t.ext
                  have q1 := fun t : Later wr => (hX.trans t.ext).keep hcs0
                  have q2 := fun t : Later wr => (hX.trans t.ext).keep hcc0
                  go_wp2_with fail
                  refine wp_region_later (by kernel_rfl) (by kernel_rfl) ?_
                  repeat (go_big_quiet_step (fail))
                  refine wpQuiet_nil ?_
                  intro w5 hw'
                  obtain ⟨⟨_, hx5⟩, rfl⟩ := hw'
                  have hX5 := hX.trans hx5
                  clear hs1 q1 q2
                  go_wp2_with fail
                  have hs1 : ∀ t : Later w5, Ext wA t.w := fun t => hX5.trans t.ext
                  have q0 := fun t : Later w5 => (hX5.trans t.ext).keep hcy
                  have q1 := fun t : Later w5 => (hX5.trans t.ext).keep hcs0
                  refine wp_region_later (by kernel_rfl) (by kernel_rfl) ?_
                  repeat (go_big_quiet_step ((first | (go_at_call 83; first | with_reducible exact Later.call (HFC.out _ (hX5.trans (Later.ext _)))))))
                  refine wpQuiet_nil ?_
                  intro w6 hw'
                  obtain ⟨⟨_, hx6⟩, rfl⟩ := hw'
                  clear hs1 q0 q1
                  go_wp2_with fail
                  go_roundg (gk-1)
                  case measure => omega
                  case rel => exact ⟨k+1, by omega, by omega, by go_num, by rw [hCN2.out], hX5.trans hx6, range_step hE.out hLF.out⟩
            · have hkl : k = s.length := by omega
              subst hkl
              have HKG : Hid (splitK l t s = 0) := Lib.hid (by rw [HK.out, show lb = true by rw [← HLB.out, lnkB_eq, allB_true (fun j hj => hE.out j (by omega))]]; rfl)
              clear hE
              go_wp2_with fail
              go_ret2
              exact ⟨by rw [splitC, if_pos HKG.out, HKG.out]; rfl, hE0.trans hX⟩
        · have hK := splitK_d h0 h1 h2 h3
          rw [splitC_no hK (by omega), hK]
          have HC4 := Lib.hid (fun W va (ha : Ints W va (wordsL l s)) (hW : Ext wA W) => same_v va _ (wordsL l s) t W ha (HT.out.ext hW))
          rw [decide_eq_false h3] at HC4
          clear h0 hK hl h2 h3
          generalize wordsL l s = ws at *
          go_enter Try.func42, Try.ntmps42
          go_wp2_with fail
          rw [← HW.out]
          refine HC1.out.mono ?_; rintro e w1 ⟨rfl, hx1⟩
          go_wp2_with fail
          refine (HC2.out w1 hx1).mono ?_; rintro e w2 ⟨rfl, hx2⟩
          have hX2 := hx1.trans hx2
          go_wp2_with fail
          refine (HC3.out w2 hX2).mono ?_; rintro e w3 ⟨v3, rfl, ho3, hx3⟩
          have hX3 := hX2.trans hx3
          have hI3 := ho3.ints
          clear ho3
          go_wp2_with fail
          refine (HC4.out w3 v3 hI3 hX3).mono ?_; rintro e w4 ⟨rfl, hx4⟩
          go_wp2_with fail
          go_ret2
          exact ⟨rfl, hE0.trans (hX3.trans hx4)⟩
      · have h2' : areB l s = false := by simpa using h2
        have hK := splitK_c h0 h1 h2'
        rw [splitC_no hK (by omega), hK]
        rw [h2'] at HC2
        clear h0 hK hl h2 h2'
        go_enter Try.func42, Try.ntmps42
        go_wp2_with fail
        rw [← HW.out]
        refine HC1.out.mono ?_; rintro e w1 ⟨rfl, hx1⟩
        go_wp2_with fail
        refine (HC2.out w1 hx1).mono ?_; rintro e w2 ⟨rfl, hx2⟩
        go_wp2_with fail
        go_ret2
        exact ⟨rfl, hE0.trans (hx1.trans hx2)⟩
  · have hK := splitK_a (s := s) h0
    rw [splitC_no hK h0, hK]
    generalize textK l t = k at *
    have hk : (k != 0) = true := by simpa using h0
    clear h0 hK
    go_enter Try.func42, Try.ntmps42
    go_wp2_with fail
    rw [← HW.out]
    refine HC1.out.mono ?_; rintro e w1 ⟨rfl, hx1⟩
    go_wp2_with fail
    go_ret2
    exact ⟨rfl, hE0.trans hx1⟩
end Go.Proofs.Ytgpggmcjggpmpaa
