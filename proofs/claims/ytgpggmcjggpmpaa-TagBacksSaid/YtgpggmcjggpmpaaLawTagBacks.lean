/- TagBacks: for every input the call returns true. No condition. -/
import Derived.Test.YtgpggmcjggpmpaaTagY
import Derived.Test.YtgpggmcjggpmpaaTagBr
import Derived.Test.YtgpggmcjggpmpaaTagSe
import Derived.Test.YtgpggmcjggpmpaaTagG
import Derived.Test.YtgpggmcjggpmpaaTagI
namespace Go.Proofs.Ytgpggmcjggpmpaa
open Go.RowKit Go.Shelf
set_option linter.unusedVariables false

set_option maxHeartbeats 8000000 in
set_option maxRecDepth 100000 in
theorem tagBacks_c (iv fv : Value) (l : Lex) (textv : Value) (text : List Int) (w : World) (h : LexR w iv fv l) (htext : Ints w textv text) :
    Calls Try.prog 11 #[.agg #[iv, fv], textv] w (RV (.bool true) w) := by
  obtain ⟨wA, hwA⟩ : ∃ wA, wA = w.alloc (.cells #[iv, fv] 25) := ⟨_, rfl⟩
  have hE0 : Ext w wA := by rw [hwA]; exact Ext.alloc _ _
  have k0 : ∀ W, Ext wA W → W.cell? ⟨w.heap.size, 0, none⟩ = some iv := by rw [hwA]; exact kept_alloc w _ _ rfl
  have k1 : ∀ W, Ext wA W → W.cell? ⟨w.heap.size, 1, none⟩ = some fv := by rw [hwA]; exact kept_alloc w _ _ rfl
  have H0 : Ext wA wA := Ext.refl _
  have HR := Lib.hid (h.ext hE0)
  obtain ⟨ai, ci, rfl, hli, hmi, HI⟩ := (h.ext hE0).i.open_
  obtain ⟨af, cf, rfl, hlf, hmf, HF⟩ := Rows.open_ (h.ext hE0).f
  have HI_text := Lib.hid (htext.ext hE0)
  obtain ⟨a_text, c_text, rfl, hl_text, hm_text, HU_text⟩ := (htext.ext hE0).open_
  have hxL := Ext.alloc wA (.cells #[.slice a_text text.length c_text] 26)
  have HLG := Lib.hid (by have := Long_c _ _ _ l [text] _ (HR.out.ext hxL) (rows_new wA [.slice a_text text.length c_text] [text] (AllInts.cons HI_text.out (AllInts.nil _)) (by simp)); rw [show wA.heap.size = w.heap.size + 1 by rw [hwA]; simp] at this; exact this)
  have HW := Lib.hid hwA; clear hwA h htext
  have HLB := Lib.hid (longX_lists (l := l) (ls := [text]))
  have HLF := Lib.hid (longX_fol (l := l) (ls := [text]))
  generalize longX l [text] = b1 at *
  cases b1
  · have HLB2 := HLB.out rfl
    have HLF2 := Lib.hid (HLF.out rfl)
    clear HLB HLF
    have hl3_text : text.length ≤ 300 := HLB2 text (by simp)
    clear HLB2
    go_enter Try.func11, Try.ntmps11
    go_wp2_with fail
    rw [← HW.out]
    refine HLG.out.mono ?_; rintro e w2 ⟨rfl, hx2⟩
    have hX := hxL.trans hx2
    clear hx2 hxL
    clear HLG
    go_wp2_with fail
    have hbd : (∀ j, j < l.i.length → (itm l.i j).w.length ≤ 1000) ∧ (∀ j, j < l.f.length → (l.f[j]?.getD []).length ≤ 1000) ∧ l.i.length ≤ 1000 ∧ l.f.length ≤ 1000 := by
      obtain ⟨h1, h2, h3, h4⟩ := HLF2.out
      exact ⟨fun j hj => by have := h3 j hj; omega, fun j hj => by have := h4 j hj; omega, by omega, by omega⟩
    have HFC := Lib.hid (fun W (hW : Ext wA W) => rCopy_c _ _ l W (HR.out.ext hW) hbd)
    have HFB := Lib.hid (fun W (hW : Ext wA W) => rBack_c _ _ l W (HR.out.ext hW))
    have HCA := Lib.hid (fun W (hW : Ext wA W) => Count_c _ _ _ l text W (HR.out.ext hW) (HI_text.out.ext hW))
    have HLA := Lib.hid (fun W (hW : Ext wA W) => Least_c _ _ _ l text W (HR.out.ext hW) (HI_text.out.ext hW))
    have HIA := Lib.hid (fun W (hW : Ext wA W) => IsCode_c _ _ l W (HR.out.ext hW))
    clear hbd
    by_cases h0 : validL l = 0
    · have hl := validL_ok h0
      have hok := back_ok hl
      have HBL : Hid (backL l = backX l) := Lib.hid (by unfold backL; rw [if_pos h0])
      have HVL := Lib.hid h0
      have HN1 : Hid (0 < (backX l).i.length) := Lib.hid hok.n1
      have HF0 : Hid (0 < (backX l).f.length) := Lib.hid (by rw [hok.f4]; omega)
      have HWO : Hid (∀ j, j < (backX l).i.length → 1 ≤ (itm (backX l).i j).w.length ∧ (itm (backX l).i j).w.length ≤ 1000) := Lib.hid (fun j hj => by have := hok.wo j hj; omega)
      have HFO : Hid (∀ a, a < (backX l).f.length → ((backX l).f[a]?.getD []).length = 4) := Lib.hid (fun a ha => (hok.ff a (by rw [hok.f4] at ha; exact ha)).1)
      have HR0 : Hid (0 < ((backX l).f[0]?.getD []).length) := Lib.hid (by rw [HFO.out 0 HF0.out]; omega)
      have HPT := Lib.hid (back_text hl text)
      have HPL := Lib.hid (back_least hl text)
      have HPC : Hid (countN (backX l) text.reverse = countN l text) := Lib.hid (by unfold countN; rw [HPT.out, back_cnt hl])
      have HPV := Lib.hid (ok_validL hok)
      have HPI : Hid (isC (backX l) = isC l) := Lib.hid (by rw [Bool.eq_iff_iff, isC_ok h0, isC_ok (ok_validL hok), codeB_iff, codeB_iff, back_code])
      clear h0 hl hok
      refine (HFC.out w2 hX).mono ?_; rintro e w3 ⟨iv3, fv3, rfl, ho3, hx3⟩
      have hX3 := hX.trans hx3
      have HL3 := Lib.hid ho3.lexR
      obtain ⟨a3, c3, rfl, _, _, _⟩ := (ho3.lexR).i.open_
      obtain ⟨b3, d3, rfl, _, _, _⟩ := Rows.open_ (ho3.lexR).f
      have hA3 := Ext.alloc w3 (.cells #[.slice a3 (l).i.length c3, .slice b3 (l).f.length d3] 25)
      have f0 : ∀ W, Ext (w3.alloc (.cells #[.slice a3 (l).i.length c3, .slice b3 (l).f.length d3] 25)) W → W.cell? ⟨w3.heap.size, 0, none⟩ = some (.slice a3 (l).i.length c3) := kept_alloc w3 _ _ rfl
      have f1 : ∀ W, Ext (w3.alloc (.cells #[.slice a3 (l).i.length c3, .slice b3 (l).f.length d3] 25)) W → W.cell? ⟨w3.heap.size, 1, none⟩ = some (.slice b3 (l).f.length d3) := kept_alloc w3 _ _ rfl
      have HL4 := Lib.hid (HL3.out.ext hA3)
      have hX4 := hX3.trans hA3
      have hX4r := hX3.trans hA3
      have hA3r := hA3
      obtain ⟨W4, hW4⟩ : ∃ W4, W4 = w3.alloc (.cells #[.slice a3 (l).i.length c3, .slice b3 (l).f.length d3] 25) := ⟨_, rfl⟩
      rw [← hW4] at f0 f1 HL4 hX4 hA3
      have HW4 := Lib.hid hW4; clear hW4
      clear ho3
      have HFA := Lib.hid (fun W (hW : Ext W4 W) => Back_c _ _ l W (HL4.out.ext hW))
      rw [HBL.out, HVL.out] at HFA
      go_wp2_with fail
      rw [← HW4.out]
      clear hX4r hA3r
      refine (HFA.out W4 (Ext.refl _)).mono ?_; rintro e w5 ⟨iv5, fv5, rfl, ho5, hx5⟩
      obtain ⟨us, vs, hF⟩ := FSt.begin (Ext.refl W4) hx5 ho5
      obtain ⟨gi, ci, u0, rfl, hmi2, hmi, hgi, hr1⟩ := hF.l.spotI (j := 0) HN1.out
      clear hr1
      obtain ⟨gf, cf, gg0, cg0, rfl, hmf2, hmf, hr2⟩ := hF.l.spotF (a := 0) HF0.out HR0.out
      clear hr2
      have HL5 := Lib.hid ho5.lexR
      clear ho5
      have hws : WS W4 (w5.alloc (.cells #[.slice (some ⟨gi, 0, none⟩) (backX l).i.length ci, .slice (some ⟨gf, 0, none⟩) (backX l).f.length cf] 25)) w5.heap.size gi (backX l).i.length ci gf (backX l).f.length cf := ⟨_, us, vs, hF, rfl, rfl, hgi, HWO.out, HFO.out⟩
      have HWS := Lib.hid hws
      have hA5 := Ext.alloc w5 (.cells #[.slice (some ⟨gi, 0, none⟩) (backX l).i.length ci, .slice (some ⟨gf, 0, none⟩) (backX l).f.length cf] 25)
      have g0 : ∀ W, Ext (w5.alloc (.cells #[.slice (some ⟨gi, 0, none⟩) (backX l).i.length ci, .slice (some ⟨gf, 0, none⟩) (backX l).f.length cf] 25)) W → W.cell? ⟨w5.heap.size, 0, none⟩ = some (.slice (some ⟨gi, 0, none⟩) (backX l).i.length ci) := kept_alloc w5 _ _ rfl
      have g1 : ∀ W, Ext (w5.alloc (.cells #[.slice (some ⟨gi, 0, none⟩) (backX l).i.length ci, .slice (some ⟨gf, 0, none⟩) (backX l).f.length cf] 25)) W → W.cell? ⟨w5.heap.size, 1, none⟩ = some (.slice (some ⟨gf, 0, none⟩) (backX l).f.length cf) := kept_alloc w5 _ _ rfl
      have HL6 := Lib.hid (HL5.out.ext hA5)
      have hX46 := hx5.trans hA5
      have hX6 := hX4.trans hX46
      have hX46r := hX46
      have hX6r := hX6
      have H66r := Ext.refl (w5.alloc (.cells #[.slice (some ⟨gi, 0, none⟩) (backX l).i.length ci, .slice (some ⟨gf, 0, none⟩) (backX l).f.length cf] 25))
      obtain ⟨W6, hW6⟩ : ∃ W6, W6 = w5.alloc (.cells #[.slice (some ⟨gi, 0, none⟩) (backX l).i.length ci, .slice (some ⟨gf, 0, none⟩) (backX l).f.length cf] 25) := ⟨_, rfl⟩
      rw [← hW6] at g0 g1 HL6 hX6 hX46 HWS
      have HW6 := Lib.hid hW6; clear hW6 hA5 hF hws
      have hX66 := Ext.refl W6
      clear u0 gg0 cg0 us vs
      rw [HBL.out, HVL.out] at HFB
      have HCB := Lib.hid (fun W tv (hW : Ext W6 W) (ht : Ints W tv text.reverse) => Count_c _ _ tv (backX l) text.reverse W (HL6.out.ext hW) ht)
      have HLB := Lib.hid (fun W tv (hW : Ext W6 W) (ht : Ints W tv text.reverse) => Least_c _ _ tv (backX l) text.reverse W (HL6.out.ext hW) ht)
      have HIB := Lib.hid (fun W (hW : Ext W6 W) => IsCode_c _ _ (backX l) W (HL6.out.ext hW))
      have HTN := Lib.hid (fun W (hW : Ext W6 W) => Turned_c _ text W (HI_text.out.ext (hX6.trans hW)) (by omega))
      rw [HPC.out] at HCB
      rw [HPL.out] at HLB
      rw [HPT.out] at HCB HLB
      rw [HPI.out, HPV.out] at HIB
      rw [HVL.out] at HIA
      generalize countN l text = cn at *
      generalize textK l text = tk at *
      generalize isC l = ic at *
      generalize leastO l text = lo at *
      generalize lo.1 = lo1 at *
      generalize lo.2 = lo2 at *
      have hcn : (cn != cn) = false := by simp
      have htk : (tk != tk) = false := by simp
      have hic : (ic != ic) = false := by cases ic <;> rfl
      have hlo1 : (lo1 != lo1) = false := by simp
      have hlo2 : (lo2 != lo2) = false := by cases lo2 <;> rfl
      go_wp2_with fail
      rw [← HW6.out]
      clear hX46r H66r hX6r
      refine (HFB.out W6 hX6).mono ?_; rintro e w7 ⟨iv7, fv7, rfl, ho7, hx7⟩
      have HL7 := Lib.hid ho7.lexR
      obtain ⟨a7, c7, rfl, _, _, _⟩ := (ho7.lexR).i.open_
      obtain ⟨b7, d7, rfl, _, _, _⟩ := Rows.open_ (ho7.lexR).f
      clear ho7
      have hA7 := Ext.alloc w7 (.cells #[.slice a7 (backX l).i.length c7, .slice b7 (backX l).f.length d7] 25)
      have p0 : ∀ W, Ext (w7.alloc (.cells #[.slice a7 (backX l).i.length c7, .slice b7 (backX l).f.length d7] 25)) W → W.cell? ⟨w7.heap.size, 0, none⟩ = some (.slice a7 (backX l).i.length c7) := kept_alloc w7 _ _ rfl
      have p1 : ∀ W, Ext (w7.alloc (.cells #[.slice a7 (backX l).i.length c7, .slice b7 (backX l).f.length d7] 25)) W → W.cell? ⟨w7.heap.size, 1, none⟩ = some (.slice b7 (backX l).f.length d7) := kept_alloc w7 _ _ rfl
      have HL8 := Lib.hid (HL7.out.ext hA7)
      have hX68 := hx7.trans hA7
      have hX48 := hX46.trans hX68
      have hX8 := hX6.trans hX68
      have hX68r := hX68
      have hX8r := hX8
      have H88r := Ext.refl (w7.alloc (.cells #[.slice a7 (backX l).i.length c7, .slice b7 (backX l).f.length d7] 25))
      obtain ⟨W8, hW8⟩ : ∃ W8, W8 = w7.alloc (.cells #[.slice a7 (backX l).i.length c7, .slice b7 (backX l).f.length d7] 25) := ⟨_, rfl⟩
      rw [← hW8] at p0 p1 HL8 hX8 hX68 hX48
      have HW8 := Lib.hid hW8; clear hW8 hA7
      have HSM := Lib.hid (same_c _ _ _ _ (backX l) W8 (HL6.out.ext hX68) HL8.out)
      have H88 := Ext.refl W8
      generalize hn : (backX l).i.length = n at *
      generalize hm : (backX l).f.length = m at *
      have Hn := Lib.hid hn; have Hm := Lib.hid hm
      clear hn hm
      go_wp2_with fail
      rw [← HW8.out]
      clear hX68r H88r hX8r
      refine HSM.out.mono ?_; rintro e w9 ⟨rfl, hx9⟩
      clear p0 p1 H88
      have hX69 := hX68.trans hx9
      have hX9 := hX6.trans hX69
      go_wp2_with fail
      refine (HCA.out w9 hX9).mono ?_; rintro e w10 ⟨rfl, hx10⟩
      have hX610 := hX69.trans hx10
      go_wp2_with fail
      refine wp_region_tree (Ext w10) (.look 0 (.look 1 (.one 2 (.one 3 (.look 4 (.look 5 (.look 6 (.look 7 (.look 8 .done))))))))) (by kernel_rfl) (by kernel_rfl) (by intro c a d v w h; cases d <;> exact h) ?_
      have hd : Ext w10 { w10 with drawn := w10.drawn + 1 } := drawn_ext w10
      have hs : ∀ s : InC (Ext w10), Ext W6 s.w := fun s => hX610.trans s.h
      generalize { w10 with drawn := w10.drawn + 1 } = V1 at *
      iterate 2 (refine wpTree_look rfl ‹_› (fun K hK => ?_); go_simp; first | (refine hK _ ?_; clear hK K) | (refine ⟨_, fun _ => rfl, hK _ ?_⟩; clear hK K))
      clear hs
      refine wpTree_one rfl rfl (fun K hK => ?_)
      have HTU := Lib.hid (HTN.out V1 (hX610.trans hd))
      go_wp2_with fail
      refine HTU.out.mono ?_; rintro e V2 ⟨tv, rfl, hot, hxt⟩
      have HCZ := Lib.hid (HCB.out V2 tv ((hX610.trans hd).trans hxt) hot.ints)
      have HE2 := Lib.hid hxt
      clear hot HTU
      go_wp2_with fail
      refine ⟨fun h => h.trans HE2.out, ?_⟩
      refine wpTree_one rfl rfl (fun K hK => ?_)
      go_wp2_with fail
      refine HCZ.out.mono ?_; rintro e w11 ⟨rfl, hx11⟩
      have HE3 := Lib.hid hx11
      have hC11 : Ext w10 w11 := (hd.trans hxt).trans hx11
      have hX611 := hX610.trans hC11
      clear HCZ hxt hx11
      go_wp2_with fail
      refine ⟨fun h => h.trans HE3.out, ?_⟩
      have hs : ∀ s : InC (Ext w10), Ext wA s.w := fun s => (hX6.trans hX610).trans s.h
      iterate 5 (refine wpTree_look rfl ‹_› (fun K hK => ?_); go_simp; first | (refine hK _ ?_; clear hK K) | (refine ⟨_, fun _ => rfl, hK _ ?_⟩; clear hK K))
      refine wpTree_done ?_
      clear hs hd hX610 HE2 HE3 hC11
      have hX11 := hX6.trans hX611
      go_wp2_with fail
      refine (HLA.out w11 hX11).mono ?_; rintro e w12 ⟨rfl, hx12⟩
      have hX612 := hX611.trans hx12
      go_wp2_with fail
      refine wp_region_tree (Ext w12) (.look 0 (.look 1 (.one 2 (.one 3 (.look 4 (.look 5 (.look 6 (.look 7 (.look 8 (.look 9 (.look 10 .done))))))))))) (by kernel_rfl) (by kernel_rfl) (by intro c a d v w h; cases d <;> exact h) ?_
      have hd : Ext w12 { w12 with drawn := w12.drawn + 1 } := drawn_ext w12
      have hs : ∀ s : InC (Ext w12), Ext W6 s.w := fun s => hX612.trans s.h
      generalize { w12 with drawn := w12.drawn + 1 } = V1 at *
      iterate 2 (refine wpTree_look rfl ‹_› (fun K hK => ?_); go_simp; first | (refine hK _ ?_; clear hK K) | (refine ⟨_, fun _ => rfl, hK _ ?_⟩; clear hK K))
      clear hs
      refine wpTree_one rfl rfl (fun K hK => ?_)
      have HTU := Lib.hid (HTN.out V1 (hX612.trans hd))
      go_wp2_with fail
      refine HTU.out.mono ?_; rintro e V2 ⟨tv, rfl, hot, hxt⟩
      have HCZ := Lib.hid (HLB.out V2 tv ((hX612.trans hd).trans hxt) hot.ints)
      have HE2 := Lib.hid hxt
      clear hot HTU
      go_wp2_with fail
      refine ⟨fun h => h.trans HE2.out, ?_⟩
      refine wpTree_one rfl rfl (fun K hK => ?_)
      go_wp2_with fail
      refine HCZ.out.mono ?_; rintro e w13 ⟨rfl, hx13⟩
      have HE3 := Lib.hid hx13
      have hC13 : Ext w12 w13 := (hd.trans hxt).trans hx13
      have hX613 := hX612.trans hC13
      clear HCZ hxt hx13
      go_wp2_with fail
      refine ⟨fun h => h.trans HE3.out, ?_⟩
      have hs : ∀ s : InC (Ext w12), Ext wA s.w := fun s => (hX6.trans hX612).trans s.h
      iterate 7 (refine wpTree_look rfl ‹_› (fun K hK => ?_); go_simp; first | (refine hK _ ?_; clear hK K) | (refine ⟨_, fun _ => rfl, hK _ ?_⟩; clear hK K))
      refine wpTree_done ?_
      clear hs hd hX612 HE2 HE3 hC13
      have hX13 := hX6.trans hX613
      go_wp2_with fail
      refine (HIA.out w13 hX13).mono ?_; rintro e w14 ⟨rfl, hx14⟩
      have hX614 := hX613.trans hx14
      go_wp2_with fail
      refine (HIB.out w14 hX614).mono ?_; rintro e w15 ⟨rfl, hx15⟩
      have hX615 := hX614.trans hx15
      have hX4_ := hX46.trans hX615
      have HWS := Lib.hid (HWS.out.ext hX615)
      clear hX69 hX9 hX611 hX11 hX613 hX13 hX614 hx9 hx10 hx12 hx14 hx15 hX68 hX8 hX48 hx7 hX615 hX6 hX46 hX66 g0 g1 HW8 HW6
      go_wp2_with fail
      go_loopg [24] n (fun z ii wr => ∃ j : Nat, j ≤ n ∧ n ≤ j + z ∧ ii = .int .i64 j ∧ WS W4 wr w5.heap.size gi n ci gf m cf)
      case atStart => exact ⟨0, by omega, by omega, rfl, HWS.out⟩
      case round =>
        clear HWS hX4_
        obtain ⟨j, hj, hjz, rfl, hS⟩ := hrel
        obtain ⟨g1, rfl⟩ : ∃ g : Nat, g = gk := ⟨_, rfl⟩
        have hX := hS.x
        obtain ⟨d0, d1⟩ := hS.box
        have HS := Lib.hid hS; clear hS
        by_cases hlt : j < n
        · have hkI : (j : Int) < (n : Int) := by omega
          obtain ⟨⟨c, hc⟩, hf, hput⟩ := HS.out.costAt hlt
          have HP := Lib.hid (hput (-1)); clear hput
          obtain ⟨e0, e1⟩ := HP.out.box
          obtain ⟨q, g, cg, hwi, hq1, hq2, hq3, hq4⟩ := HP.out.word hlt
          have HWI := Lib.hid hwi
          clear hwi
          go_wp2_with fail
          clear d0 d1 hc hf e0 e1
          go_loopg [25] q (fun z ii wr => ∃ k : Nat, k ≤ q ∧ q ≤ k + z ∧ ii = .int .i64 k ∧ WSI W4 wr w5.heap.size gi n ci gf m cf j q g cg)
          case atStart => exact ⟨0, by omega, by omega, rfl, HWI.out⟩
          case round =>
            clear HWI HP HS hX
            obtain ⟨k, hk, hkz, rfl, hS⟩ := hrel
            obtain ⟨d0, d1⟩ := hS.ws.box
            have hat := hS.at_
            by_cases hkq : k < q
            · have hkI2 : (k : Int) < (q : Int) := by omega
              obtain ⟨⟨c, hc⟩, hf, hput⟩ := hS.put hkq
              have HP := Lib.hid (hput (-1)); clear hput hS
              go_wp2_with fail
              go_roundg (gk-1)
              case measure => omega
              case rel => exact ⟨k+1, by omega, by omega, by go_num, HP.out⟩
            · have hkq' : k = q := by omega
              subst hkq'
              have HP := Lib.hid hS.ws; clear hS
              go_wp2_with fail
              go_roundg (g1-1)
              case measure => omega
              case rel => exact ⟨j+1, by omega, by omega, by go_num, HP.out⟩
        · have hjn : j = n := by omega
          subst hjn
          go_wp2_with fail
          go_loopg [26] m (fun z ii wr => ∃ j2 : Nat, j2 ≤ m ∧ m ≤ j2 + z ∧ ii = .int .i64 j2 ∧ WS W4 wr w5.heap.size gi j ci gf m cf)
          case atStart => exact ⟨0, by omega, by omega, rfl, HS.out⟩
          case round =>
            clear HS hX d0 d1
            obtain ⟨j2, hj2, hjz2, rfl, hS⟩ := hrel
            obtain ⟨g2, rfl⟩ : ∃ g : Nat, g = gk := ⟨_, rfl⟩
            have hX := hS.x
            obtain ⟨d0, d1⟩ := hS.box
            have HS := Lib.hid hS; clear hS
            by_cases hlt2 : j2 < m
            · have hkI : (j2 : Int) < (m : Int) := by omega
              obtain ⟨g, cg, hwi, hq3, hq4⟩ := HS.out.row hlt2
              have HWI := Lib.hid hwi
              clear hwi
              go_wp2_with fail
              clear d0 d1
              go_loopg [27] 4 (fun z ii wr => ∃ k : Nat, k ≤ 4 ∧ 4 ≤ k + z ∧ ii = .int .i64 k ∧ WSF W4 wr w5.heap.size gi j ci gf m cf j2 g cg)
              case atStart => exact ⟨0, by omega, by omega, rfl, HWI.out⟩
              case round =>
                clear HWI HS hX
                obtain ⟨k, hk, hkz, rfl, hS⟩ := hrel
                obtain ⟨d0, d1⟩ := hS.ws.box
                have hat := hS.at_
                by_cases hkq : k < 4
                · have hkI2 : (k : Int) < 4 := by omega
                  obtain ⟨⟨c, hc⟩, hf, hput⟩ := hS.put hkq
                  have HP := Lib.hid (hput (-2)); clear hput hS
                  go_wp2_with fail
                  go_roundg (gk-1)
                  case measure => omega
                  case rel => exact ⟨k+1, by omega, by omega, by go_num, HP.out⟩
                · have hkq' : k = 4 := by omega
                  subst hkq'
                  have HP := Lib.hid hS.ws; clear hS
                  go_wp2_with fail
                  go_roundg (g2-1)
                  case measure => omega
                  case rel => exact ⟨j2+1, by omega, by omega, by go_num, HP.out⟩
            · have hjn : j2 = m := by omega
              subst hjn
              have hXZ := hX4.trans hX
              have HSM2 := Lib.hid (same_c _ _ _ _ l wr (HL4.out.ext hX) (HR.out.ext hXZ))
              go_wp2_with fail
              refine HSM2.out.mono ?_; rintro e wZ ⟨rfl, hxZ⟩
              have hXY := hXZ.trans hxZ
              go_wp2_with fail
              refine (sane_c _).mono ?_; rintro e wK ⟨rfl, hxK⟩
              go_wp2_with fail
              go_ret
              exact RV.bool rfl (hE0.trans (hXY.trans hxK))
    · have HBL : Hid (backL l = ⟨[], []⟩) := Lib.hid (by unfold backL; rw [if_neg h0])
      obtain ⟨k, hk⟩ : ∃ k, validL l = k := ⟨_, rfl⟩
      have HVL := Lib.hid hk
      have hk0 : (k == 0) = false := by rw [← hk]; simpa using h0
      clear h0 hk
      refine (HFC.out w2 hX).mono ?_; rintro e w3 ⟨iv3, fv3, rfl, ho3, hx3⟩
      have hX3 := hX.trans hx3
      have HL3 := Lib.hid ho3.lexR
      obtain ⟨a3, c3, rfl, _, _, _⟩ := (ho3.lexR).i.open_
      obtain ⟨b3, d3, rfl, _, _, _⟩ := Rows.open_ (ho3.lexR).f
      have hA3 := Ext.alloc w3 (.cells #[.slice a3 (l).i.length c3, .slice b3 (l).f.length d3] 25)
      have f0 : ∀ W, Ext (w3.alloc (.cells #[.slice a3 (l).i.length c3, .slice b3 (l).f.length d3] 25)) W → W.cell? ⟨w3.heap.size, 0, none⟩ = some (.slice a3 (l).i.length c3) := kept_alloc w3 _ _ rfl
      have f1 : ∀ W, Ext (w3.alloc (.cells #[.slice a3 (l).i.length c3, .slice b3 (l).f.length d3] 25)) W → W.cell? ⟨w3.heap.size, 1, none⟩ = some (.slice b3 (l).f.length d3) := kept_alloc w3 _ _ rfl
      have HL4 := Lib.hid (HL3.out.ext hA3)
      have hX4 := hX3.trans hA3
      have hX4r := hX3.trans hA3
      have hA3r := hA3
      obtain ⟨W4, hW4⟩ : ∃ W4, W4 = w3.alloc (.cells #[.slice a3 (l).i.length c3, .slice b3 (l).f.length d3] 25) := ⟨_, rfl⟩
      rw [← hW4] at f0 f1 HL4 hX4 hA3
      have HW4 := Lib.hid hW4; clear hW4
      clear ho3
      have HFA := Lib.hid (fun W (hW : Ext W4 W) => Back_c _ _ l W (HL4.out.ext hW))
      rw [HBL.out, HVL.out] at HFA
      go_wp2_with fail
      rw [← HW4.out]
      clear hX4r hA3r
      refine (HFA.out W4 (Ext.refl _)).mono ?_; rintro e w5 ⟨iv5, fv5, rfl, ho5, hx5⟩
      have HO5 := Lib.hid ho5.lexR
      obtain ⟨a5, c5, rfl, _, _, _⟩ := ho5.lexR.i.open_
      obtain ⟨b5, d5, rfl, _, _, _⟩ := Rows.open_ ho5.lexR.f
      clear ho5
      have hA5 := Ext.alloc w5 (.cells #[.slice a5 0 c5, .slice b5 0 d5] 25)
      have g0 : ∀ W, Ext (w5.alloc (.cells #[.slice a5 0 c5, .slice b5 0 d5] 25)) W → W.cell? ⟨w5.heap.size, 0, none⟩ = some (.slice a5 0 c5) := kept_alloc w5 _ _ rfl
      have g1 : ∀ W, Ext (w5.alloc (.cells #[.slice a5 0 c5, .slice b5 0 d5] 25)) W → W.cell? ⟨w5.heap.size, 1, none⟩ = some (.slice b5 0 d5) := kept_alloc w5 _ _ rfl
      have HL6 := Lib.hid (HO5.out.ext hA5)
      have hX46 := hx5.trans hA5
      have hX6 := hX4.trans hX46
      have hX46r := hX46
      have hX6r := hX6
      have H66r := Ext.refl (w5.alloc (.cells #[.slice a5 0 c5, .slice b5 0 d5] 25))
      obtain ⟨W6, hW6⟩ : ∃ W6, W6 = w5.alloc (.cells #[.slice a5 0 c5, .slice b5 0 d5] 25) := ⟨_, rfl⟩
      rw [← hW6] at g0 g1 HL6 hX6 hX46
      have HW6 := Lib.hid hW6; clear hW6 hA5
      have hX66 := Ext.refl W6
      rw [HBL.out, HVL.out] at HFB
      go_wp2_with fail
      simp only [List.length_nil] at *
      rw [← HW6.out]
      clear hX46r H66r hX6r
      refine (HFB.out W6 hX6).mono ?_; rintro e w7 ⟨iv7, fv7, rfl, ho7, hx7⟩
      have HO7 := Lib.hid ho7.lexR
      obtain ⟨a7, c7, rfl, _, _, _⟩ := ho7.lexR.i.open_
      obtain ⟨b7, d7, rfl, _, _, _⟩ := Rows.open_ ho7.lexR.f
      clear ho7
      have hA7 := Ext.alloc w7 (.cells #[.slice a7 0 c7, .slice b7 0 d7] 25)
      have p0 : ∀ W, Ext (w7.alloc (.cells #[.slice a7 0 c7, .slice b7 0 d7] 25)) W → W.cell? ⟨w7.heap.size, 0, none⟩ = some (.slice a7 0 c7) := kept_alloc w7 _ _ rfl
      have p1 : ∀ W, Ext (w7.alloc (.cells #[.slice a7 0 c7, .slice b7 0 d7] 25)) W → W.cell? ⟨w7.heap.size, 1, none⟩ = some (.slice b7 0 d7) := kept_alloc w7 _ _ rfl
      have HL8 := Lib.hid (HO7.out.ext hA7)
      have hX68 := hx7.trans hA7
      have hX48 := hX46.trans hX68
      have hX8 := hX6.trans hX68
      have hX68r := hX68
      have hX8r := hX8
      have H88r := Ext.refl (w7.alloc (.cells #[.slice a7 0 c7, .slice b7 0 d7] 25))
      obtain ⟨W8, hW8⟩ : ∃ W8, W8 = w7.alloc (.cells #[.slice a7 0 c7, .slice b7 0 d7] 25) := ⟨_, rfl⟩
      rw [← hW8] at p0 p1 HL8 hX8 hX68 hX48
      have HW8 := Lib.hid hW8; clear hW8 hA7
      have HSM := Lib.hid (same_c _ _ _ _ ⟨[], []⟩ W8 (HL6.out.ext hX68) HL8.out)
      simp only [List.length_nil] at HSM
      have H88 := Ext.refl W8
      have hkk : (k != k) = false := by simp
      go_wp2_with fail
      rw [← HW8.out]
      clear hX68r H88r hX8r
      refine HSM.out.mono ?_; rintro e w9 ⟨rfl, hx9⟩
      have hX69 := hX68.trans hx9
      have hX49 := hX46.trans hX69
      clear p0 p1 H88 hX68 hX48 hX8 hx9 hX46
      go_wp2_with fail
      go_loopg [24] 0 (fun z ii wr => ii = .int .i64 0 ∧ wr = w9)
      case atStart => exact ⟨rfl, rfl⟩
      case round =>
        obtain ⟨rfl, rfl⟩ := hrel
        go_wp2_with fail
        go_loopg [26] 0 (fun z ii wr2 => ii = .int .i64 0 ∧ wr2 = wr)
        case atStart => exact ⟨rfl, rfl⟩
        case round =>
          obtain ⟨rfl, rfl⟩ := hrel
          have hXZ := hX4.trans hX49
          have HSM2 := Lib.hid (same_c _ _ _ _ l wr (HL4.out.ext hX49) (HR.out.ext hXZ))
          go_wp2_with fail
          refine HSM2.out.mono ?_; rintro e wZ ⟨rfl, hxZ⟩
          have hXY := hXZ.trans hxZ
          go_wp2_with fail
          refine (sane_c _).mono ?_; rintro e wK ⟨rfl, hxK⟩
          go_wp2_with fail
          go_ret
          exact RV.bool rfl (hE0.trans (hXY.trans hxK))
  · go_enter Try.func11, Try.ntmps11
    go_wp2_with fail
    rw [← HW.out]
    refine HLG.out.mono ?_; rintro e w2 ⟨rfl, hx2⟩
    have hX := hxL.trans hx2
    clear hx2 hxL
    go_wp2_with fail
    refine (sane_c _).mono ?_; rintro e wK ⟨rfl, hxK⟩
    go_wp2_with fail
    go_ret
    exact RV.bool rfl (hE0.trans (hX.trans hxK))
end Go.Proofs.Ytgpggmcjggpmpaa
