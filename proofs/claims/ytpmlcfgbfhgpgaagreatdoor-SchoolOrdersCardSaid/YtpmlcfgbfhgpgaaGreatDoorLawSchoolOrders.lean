/- SchoolOrders: the walk. -/
import Derived.Test.YtpmlcfgbfhgpgaaGreatDoorJoinF
namespace Go.Proofs.YtpmlcfgbfhgpgaaGreatDoor
open Go.RowKit Go.Shelf
set_option linter.unusedVariables false
set_option maxHeartbeats 8000000 in
set_option maxRecDepth 100000 in
theorem schoolOrders_c (v u : Value) (s : List Rul) (l : List ByteArray) (w : World) (h : Ruls w v s) (hl : Strs w u l) (hE : Env w) (hT : ErrT w) (h7 : 7 ≤ w.heap.size) :
  Calls Tryz.prog 9 #[v, u] w (RV (.bool true) w) := by
 have HLG := Lib.hid (Large9_c v s w h)
 have HLO := Lib.hid (fun W (q : Ext w W) => Long9_c u l W (hl.ext q))
 have HSA := Lib.hid (fun W (q : Ext w W) => sane_c W (hE.ext q) (hT.ext q) (Nat.le_trans h7 q.size))
 have HBE := Lib.hid (fun W (q : Ext w W) => Begin_c (fun _ => false) v s W (fun k hk => by cases hk) (h.ext q))
 have HFA := Lib.hid (fun W (q : Ext w W) (hv : validS s ≠ 0) => failed_c v s W (h.ext q) hv (hE.ext q) (hT.ext q) (Nat.le_trans h7 q.size))
 have HR := Lib.hid h
 have HL := Lib.hid hl
 have HE := Lib.hid hE
 have HT := Lib.hid hT
 obtain ⟨av, cv, rfl, _⟩ := h.open_
 obtain ⟨au, cu, rfl, _⟩ := hl.open_
 clear h hl hE hT
 cases hb1 : largeB s with
 | true =>
  rw [hb1] at HLG
  clear hb1
  go_enter Tryz.func9, Tryz.ntmps9
  go_wp2_with fail
  refine HLG.out.mono ?_; rintro e w1 ⟨rfl, hx1⟩
  go_wp2_with fail
  refine (HSA.out w1 hx1).mono ?_; rintro e w2 ⟨rfl, hx2⟩
  go_wp2_with fail
  go_ret
  exact ⟨rfl, hx1.trans hx2⟩
 | false =>
  rw [hb1] at HLG
  cases hb2 : longT l with
  | true =>
   rw [hb2] at HLO
   clear hb1 hb2
   go_enter Tryz.func9, Tryz.ntmps9
   go_wp2_with fail
   refine HLG.out.mono ?_; rintro e w1 ⟨rfl, hx1⟩
   go_wp2_with fail
   refine (HLO.out w1 hx1).mono ?_; rintro e w2 ⟨rfl, hx2⟩
   go_wp2_with fail
   refine (HSA.out w2 (hx1.trans hx2)).mono ?_; rintro e w3 ⟨rfl, hx3⟩
   go_wp2_with fail
   go_ret
   exact ⟨rfl, (hx1.trans hx2).trans hx3⟩
  | false =>
   rw [hb2] at HLO
   have HLT := Lib.hid (longT_ok hb2)
   clear hb1 hb2
   by_cases hv : validS s = 0
   ·have HV := Lib.hid hv; clear hv
    go_enter Tryz.func9, Tryz.ntmps9
    go_wp2_with fail
    refine HLG.out.mono ?_; rintro e w1 ⟨rfl, hx1⟩
    go_wp2_with fail
    refine (HLO.out w1 hx1).mono ?_; rintro e w2 ⟨rfl, hx2⟩
    go_wp2_with fail
    refine (HBE.out w2 (hx1.trans hx2)).mono ?_; rintro e w3 ⟨hx3, ⟨h0, _⟩ | ⟨_, b, m1, rv, v0, gh, gq, uq, he, hbz, hgz1, hgz2, hSc, hNr⟩⟩
    ·exact absurd HV.out h0
    subst he
    have hX3 := (hx1.trans hx2).trans hx3
    have HX3 := Lib.hid hX3
    have hbw : w.heap.size ≤ b := Nat.le_trans (hx1.trans hx2).size hbz
    have hb7 : 7 ≤ b := Nat.le_trans h7 hbw
    have HSS : Hid (∀ k, more (more (more (fun _ => false) b) gh) gq k = true → w.heap.size ≤ k) := Lib.hid (fun k hk => by
     rcases more_or hk with hk | hk
     ·rcases more_or hk with hk | hk
      ·rcases more_or hk with hk | hk
       ·cases hk
       ·omega
      ·omega
     ·omega)
    generalize hSS : more (more (more (fun _ => false) b) gh) gq = S at *
    have HSE := Lib.hid hSS; clear hSS
    have HFW := Lib.hid (few_c S _ l w3 hSc.hSl (HL.out.ext (hole_new hX3 HSS.out)))
    have HE3 := Lib.hid (HE.out.ext hX3)
    have HT3 := Lib.hid (HT.out.ext hX3)
    go_wp2_with fail
    refine HFW.out.mono ?_; rintro e w4 ⟨u4, rfl, hu4, hx4⟩
    have HPN : Hid (Pair S w4 b gh m1 rv uq st0 s w4) := Lib.hid (by
     have e : beg9 b gh gq = S := HSE.out
     clear hu4 HSS HFW
     subst e
     exact Pair.new hSc hNr hx4 (by omega) (by omega))
    have HE4 := Lib.hid (HE3.out.ext hx4)
    have HT4 := Lib.hid (HT3.out.ext hx4)
    have HX4 := Lib.hid (hX3.trans hx4)
    have HS7 : Hid (∀ k, S k = true → 7 ≤ k) := Lib.hid (fun k hk => Nat.le_trans h7 (HSS.out k hk))
    obtain ⟨a4, c4, hul4, _, _, HC4⟩ := hu4.at_
    subst hul4
    clear hSc hX3 hNr hu4
    generalize l.take 30 = L at *
    go_wp2_with fail
    go_loopg [8] L.length (fun m i wr => ∃ (k : Nat), k ≤ L.length ∧ L.length ≤ k + m ∧ i = .int .i64 k ∧ Pair S w4 b gh m1 rv uq (runS s st0 (L.take k)) s wr)
    case atStart => exact ⟨0, by omega, by omega, rfl, HPN.out⟩
    case round =>
     obtain ⟨k, hk1, hk2, rfl, hP⟩ := hrel
     by_cases hlt : k < L.length
     ·obtain ⟨bl, ol, ha4, hcl⟩ := HC4.out k hlt
      subst ha4
      have HTK : Hid (L.take (k + 1) = L.take k ++ [L[k]]) := Lib.hid (by rw [List.take_add_one, List.getElem?_eq_getElem hlt]; rfl)
      generalize L[k] = tk at *
      have HRN : Hid (runS s st0 (L.take (k + 1)) = (doS s (runS s st0 (L.take k)) tk).1) := Lib.hid (by rw [HTK.out, runS_append]; rfl)
      go_upto_region 10 with fail
      refine wp_region_treeR (fun a b => Wide S w4 a b) [] (.look 0 (.look 1 (.look 2 (.look 3 (.look 4 (.look 6 (.look 7 (.look 8 (.look 9 (.look 10 (.one 5 (.one 11 (.look 12 (.look 13 (.look 14 (.look 15 (.one 16 (.look 17 (.look 18 .done))))))))))))))))))) (fun a => Wide.refl _ _ a) (fun a b c h k => Wide.trans h k) (by kernel_rfl) (by kernel_rfl) (by intro c a d v w h; cases d <;> exact h) ?_
      replace hP := hP.ext (drawnP_ext wr)
      generalize { wr with drawn := wr.drawn + 1 } = W0 at *
      have hX := hP.far
      have HDO := Lib.hid (pair_do hP (HE4.out.extS hX HS7.out) (HT4.out.extS hX HS7.out) hb7 tk)
      have tl := hole_sub S W0 _ _ ((hX.hole1 (fun _ h => h)).sub _ _ hcl)
      have kt : ∀ q : InC (fun c => Wide S w4 W0 c), q.w.cell? ⟨bl, ol + k, none⟩ = some (.string tk) := fun q => Wide.cell q.h hcl tl
      generalize doS s (runS s st0 (L.take k)) tk = RR at *
      obtain ⟨R1, R2⟩ := RR
      dsimp only at HDO HRN
      clear hX hP
      iterate 10 (refine wpTreeR_look rfl (fun K hK => ?_); go_simp; first | (refine hK _ ?_; clear hK K) | (refine ⟨_, fun _ => rfl, hK _ ?_⟩; clear hK K))
      refine wpTreeR_one rfl rfl (fun K hK => ?_)
      go_wp2_with fail
      refine HDO.out.mono ?_; rintro e w5 ⟨rfl, hE5, hC5⟩
      go_wp2_with fail
      refine ⟨.inr hE5, ?_⟩
      refine wpTreeR_one rfl rfl (fun K hK => ?_)
      go_wp2_with fail
      refine hC5.mono ?_; rintro e w6 ⟨rfl, hE6, hP6⟩
      go_wp2_with fail
      refine ⟨.inr hE6, ?_⟩
      have HEQ := Lib.hid (pair_equal hP6 (HE4.out.extS hP6.far HS7.out))
      have HP6 := Lib.hid hP6
      clear hP6
      iterate 4 (refine wpTreeR_look rfl (fun K hK => ?_); go_simp; first | (refine hK _ ?_; clear hK K) | (refine ⟨_, fun _ => rfl, hK _ ?_⟩; clear hK K))
      refine wpTreeR_one rfl rfl (fun K hK => ?_)
      go_wp2_with fail
      refine HEQ.out.mono ?_; rintro e w7 ⟨rfl, hx7⟩
      go_wp2_with fail
      refine ⟨.inr (Wide.ofExt hx7), ?_⟩
      iterate 2 (refine wpTreeR_look rfl (fun K hK => ?_); go_simp; first | (refine hK _ ?_; clear hK K) | (refine ⟨_, fun _ => rfl, hK _ ?_⟩; clear hK K))
      refine wpTreeR_done ?_
      go_wp2_with fail
      go_roundg (gk-1)
      case measure => omega
      case rel => exact ⟨k + 1, by omega, by omega, by go_num, by rw [HRN.out]; exact HP6.out.ext hx7⟩
     ·obtain rfl : k = L.length := by omega
      have hX := hP.far
      have HXF : Hid (Ext w wr) := Lib.hid (((HX4.out.toX S).trans hX).ext (fun i hi => by
       cases e : S i with
       | false => rfl
       | true => have := HSS.out i e; omega))
      clear hX hP
      go_wp2_with fail
      refine (HSA.out wr HXF.out).mono ?_; rintro e w6 ⟨rfl, hx6⟩
      go_wp2_with fail
      go_ret
      exact ⟨rfl, HXF.out.trans hx6⟩
   ·have HV := Lib.hid hv; clear hv
    go_enter Tryz.func9, Tryz.ntmps9
    go_wp2_with fail
    refine HLG.out.mono ?_; rintro e w1 ⟨rfl, hx1⟩
    go_wp2_with fail
    refine (HLO.out w1 hx1).mono ?_; rintro e w2 ⟨rfl, hx2⟩
    go_wp2_with fail
    refine (HBE.out w2 (hx1.trans hx2)).mono ?_; rintro e w3 ⟨hx3, ⟨h0, he⟩ | ⟨h0, _⟩⟩
    rotate_left
    ·exact absurd h0 HV.out
    clear h0
    subst he
    have hX3 := (hx1.trans hx2).trans hx3
    go_wp2_with fail
    refine (HFA.out w3 hX3 HV.out).mono ?_; rintro e w4 ⟨rfl, hx4⟩
    go_wp2_with fail
    go_ret
    exact ⟨rfl, hX3.trans hx4⟩
end Go.Proofs.YtpmlcfgbfhgpgaaGreatDoor
