/- undo of a school. -/
import Derived.Test.YtpmlcfgbfhgpgaaGreatDoorSysH
namespace Go.Proofs.YtpmlcfgbfhgpgaaGreatDoor
open Go.RowKit Go.Shelf
set_option linter.unusedVariables false
set_option maxHeartbeats 8000000 in
set_option maxRecDepth 100000 in
theorem exec_undo_c {S : Nat → Bool} {b g : Nat} {rv : Value} {v : SV} {x : St} {s : List Rul} {w : World} (h : Sch S b g rv v x s w) (hh : x.has = true) (aw : Option Addr) (nw cw : Nat) :
  Calls Tryz.prog 102 #[.pointer (some ⟨b, 0, none⟩), .pointer (some ⟨g, 0, none⟩), .agg #[.int .i64 6, .int .i64 0, .slice aw nw cw]] w (RAdv S g (execS s x .undo) w) := by
 obtain ⟨wB, hwB, hX, hb4, hb5⟩ := exec_boxes w g 6 0 (.slice aw nw cw)
 have hwl := h.hI.wlen hh
 have hsl := h.hI.slen
 have HWB := Lib.hid hwB; clear hwB
 have hn4 : g ≠ w.heap.size := fun e => by have := h.hg.lt; omega
 rw [show execS s x .undo = if x.slate.length = 0 then (x, 8) else ({ x with slate := x.slate.take (x.slate.length - 1), words := x.words.take x.slate.length }, 0) by simp only [execS]; rw [if_pos hh]]
 rcases Nat.eq_zero_or_pos x.slate.length with h1 | h1
 ·rw [if_pos h1]
  have HG := Lib.hid h.hg
  have HS := Lib.hid h.hs
  obtain ⟨aS, cs, hvs, _⟩ := h.hs.slate.open_
  rw [h1] at hvs
  have g2 := (h.ext hX).hg.cell (i := 2) rfl
  have g5 := (h.ext hX).hg.cell (i := 5) rfl
  rw [hh] at g2
  rw [hvs] at g5
  clear h hwl hsl h1 hvs hh
  go_enter Tryz.func102, Tryz.ntmps102
  go_upto_region 1 with fail
  rw [← HWB.out]
  have k4 := hb4.cell (i := 0) rfl
  have k50 := hb5.cell (i := 0) rfl
  have k51 := hb5.cell (i := 1) rfl
  have k52 := hb5.cell (i := 2) rfl
  generalize w.heap.size = g4 at *
  go_wp2_with fail
  go_ret
  exact RAdv.same (errV_ret (by decide)) hX HG.out HS.out
 ·rw [if_neg (by omega)]
  obtain ⟨m, hm⟩ : ∃ m, x.slate.length = m + 1 := ⟨x.slate.length - 1, by omega⟩
  obtain ⟨us, hus, hUs⟩ := h.hs.words.cel
  have HU := Lib.hid hUs
  obtain ⟨aS, cs, hvs, hcs, hms, _⟩ := h.hs.slate.open_
  obtain ⟨ar, cr, hvr, hcr, hmr, _⟩ := hus.open_
  have hul : us.length = m + 2 := by rw [hUs.1, hwl, hm]
  rw [hm] at hvs hcs
  rw [hul] at hvr hcr
  obtain ⟨vkn, vgr, vb, vw, vs, vf, vo⟩ := v
  simp only at hvs hvr
  subst hvs hvr
  have hgB := (h.ext hX).hg
  simp only [SV.cells] at hgB
  have g2 := hgB.cell (i := 2) rfl
  rw [hh] at g2
  have g5 := hgB.cell (i := 5) rfl
  have g4' := hgB.cell (i := 4) rfl
  rw [hm, show m + 1 - 1 = m by omega]
  have hlC : (x.slate.take m).length = m := by simp; omega
  have hlR : (us.take (m + 1)).length = m + 1 := by simp; omega
  have HCC := Lib.hid (fun W (k : Ext wB W) => cloneChs_c (.slice aS m cs) (x.slate.take m) W (((h.hs.slate.sub (hole_sub S w)).ext (hX.trans k)).takeS (by omega)) (by omega))
  have HCR := Lib.hid (fun W (k : Ext wB W) => cloneRows_c (.slice ar (m + 1) cr) (us.take (m + 1)) (x.words.take (m + 1)) W (((hus.sub (hole_sub S w)).ext (hX.trans k)).takeS (by omega)) (((hUs.sub (hole_sub S w)).ext (hX.trans k)).take _) (by omega))
  have HLC := Lib.hid hlC
  have HLR := Lib.hid hlR
  have hw1 : IntKind.i64.wrap ((m : Int) + 1 - 1) = (m : Int) := by rw [show (m : Int) + 1 - 1 = m by omega]; exact IntWalk.i64_in _ (by omega)
  have hw2 : IntKind.i64.wrap (m : Int) = (m : Int) := IntWalk.i64_in _ (by omega)
  have hw3 : IntKind.i64.wrap ((m : Int) + 1) = (m : Int) + 1 := IntWalk.i64_in _ (by omega)
  have hcm3 : (m : Int) + 1 ≤ (cr : Int) := by omega
  have hcm4 : (0 : Int) ≤ (m : Int) + 1 := by omega
  have hcm : m ≤ cs := by omega
  have hcm2 : m + 1 ≤ cr := by omega
  have hx1 : ¬ ((m : Int) + 1 = 0) := by omega
  clear hlC hlR hm hul hwl hsl h1 hus hUs hh
  go_enter Tryz.func102, Tryz.ntmps102
  go_upto_region 1 with fail
  rw [← HWB.out]
  have k4 := hb4.cell (i := 0) rfl
  have k50 := hb5.cell (i := 0) rfl
  have k51 := hb5.cell (i := 1) rfl
  have k52 := hb5.cell (i := 2) rfl
  generalize w.heap.size = g4 at *
  go_upto_region 25 with fail
  refine wp_region_treeR (fun a b => Below wB.heap.size a b) [19, 22] (.look 0 (.look 2 (.look 3 (.look 4 (.look 5 (.look 6 (.look 7 (.look 8 (.look 10 (.look 11 (.look 12 (.look 13 (.look 14 (.look 15 (.two 1 (.one 9 (.one 16 (.look 17 (.look 18 (.one 19 (.one 20 (.one 21 (.one 22 .done)))))))) 9 (.two 1 (.one 16 (.look 17 (.look 18 (.one 19 (.one 20 (.one 21 (.one 22 .done))))))) 16 (.look 17 (.look 18 (.two 1 (.one 19 (.one 20 (.one 21 (.one 22 .done)))) 19 (.one 1 (.one 20 (.one 21 (.one 22 .done))))))))))))))))))))))) (fun w => Below.refl _ w) (fun a b c h k => Below.trans h k) (by kernel_rfl) (by kernel_rfl) (by intro c a d v w h; cases d <;> exact h) ?_
  have hX0 := drawnP_ext wB
  generalize { wB with drawn := wB.drawn + 1 } = W0 at *
  have q4 : ∀ q : InC (fun c => Below wB.heap.size W0 c), q.w.cell? ⟨g4, 0, none⟩ = some (.pointer (some ⟨g, 0, none⟩)) := fun q => (hb4.ext (Below.trans hX0 q.h)).cell rfl
  have q5 : ∀ q : InC (fun c => Below wB.heap.size W0 c), q.w.cell? ⟨g, 5, none⟩ = some (.slice aS (m + 1) cs) := fun q => (hgB.ext (Below.trans hX0 q.h)).cell rfl
  have q54 : ∀ q : InC (fun c => Below wB.heap.size W0 c), q.w.cell? ⟨g, 4, none⟩ = some (.slice ar (m + 2) cr) := fun q => (hgB.ext (Below.trans hX0 q.h)).cell rfl
  clear k4 k50 k51 k52 g2 g4' g5
  iterate 14 (refine wpTreeR_look rfl (fun K hK => ?_); go_simp; first | (refine hK _ ?_; clear hK K) | (refine ⟨_, fun _ => rfl, hK _ ?_⟩; clear hK K))
  refine wpTreeR_two rfl rfl rfl rfl (fun K hK => ?_) (fun K hK => ?_)
  ·have k41 := (hb4.ext (hX0)).cell (i := 0) rfl
   go_wp2_with fail
   refine ⟨.inr (Below.refl _ _), ?_⟩
   clear k41
   refine wpTreeR_one rfl rfl (fun K hK => ?_)
   go_wp2_with fail
   refine (HCC.out W0 (hX0)).mono ?_; rintro e v1 ⟨u1, rfl, hoC, hx1⟩
   obtain ⟨aC, cC, huC, _⟩ := (Cel.own encCh_len hoC).open_
   rw [HLC.out] at huC
   subst huC
   go_wp2_with fail
   refine ⟨.inr (hx1.mono hX0.size), ?_⟩
   have hX1 := (hX0).trans hx1
   have hz1 := Nat.le_trans (hX0.size) hx1.size
   have HRC := Lib.hid (Cel.own encCh_len (OCel.hole hoC (S := S) (fun k hk => by have := h.hSl k hk; have := hX.size; have := (hX0).size; omega)))
   refine wpTreeR_one rfl rfl (fun K hK => ?_)
   go_wp2_with fail
   refine (HCR.out v1 (hX1)).mono ?_; rintro e v2 ⟨u2, rfl, hoR, hx2⟩
   obtain ⟨aR, cR, huR, _⟩ := (Cel.own encV_len hoR).open_
   rw [HLR.out] at huR
   subst huR
   go_wp2_with fail
   refine ⟨.inr (hx2.mono hz1), ?_⟩
   have hX2 := (hX1).trans hx2
   have hz2 := Nat.le_trans (hz1) hx2.size
   have HRR := Lib.hid (Cel.own encV_len (OCel.hole hoR (S := S) (fun k hk => by have := h.hSl k hk; have := hX.size; have := (hX1).size; omega)))
   replace HRC := Lib.hid (HRC.out.sub (hx2.hole S).sub)
   iterate 2 (refine wpTreeR_look rfl (fun K hK => ?_); go_simp; first | (refine hK _ ?_; clear hK K) | (refine ⟨_, fun _ => rfl, hK _ ?_⟩; clear hK K))
   refine wpTreeR_one rfl rfl (fun K hK => ?_)
   have hg1 := hgB.ext (hX2)
   have z5 := hg1.frozen 5
   have y5 := hg1.cell (i := 5) rfl
   go_wp2_with fail
   have hg2 := hg1.set 5 (.slice aC m cC)
   have hs1 := ExtX.set v2 g 5 (.slice aC m cC)
   have hb41 := ((hb4.ext (hX2)).other (c := g) hn4 5 (.slice aC m cC))
   refine ⟨.inl (by simp), ?_⟩
   generalize World.setCell v2 ⟨g, 5, none⟩ _ = wS at *
   clear z5 y5
   have k41 := hb41.cell (i := 0) rfl
   refine wpTreeR_one rfl rfl (fun K hK => ?_)
   go_wp2_with fail
   refine ⟨.inr (Below.refl _ _), ?_⟩
   refine wpTreeR_one rfl rfl (fun K hK => ?_)
   go_wp2_with fail
   refine ⟨.inr (Below.refl _ _), ?_⟩
   refine wpTreeR_one rfl rfl (fun K hK => ?_)
   have z4 := hg2.frozen 4
   have y4 := hg2.cell (i := 4) rfl
   go_wp2_with fail
   have hg3 := hg2.set 4 (.slice aR (m + 1) cR)
   have hs2 := ExtX.set wS g 4 (.slice aR (m + 1) cR)
   refine ⟨.inl (by simp), ?_⟩
   generalize World.setCell wS ⟨g, 4, none⟩ _ = wF at *
   refine wpTreeR_done ?_
   have hE2 : ExtX (one g) v2 wF := hs1.trans hs2
   have hEw : ExtX (one g) w wF := ((hX.trans (hX2)).toX _).trans hE2
   go_wp2_with fail
   go_ret
   have hk := hole_keep h.hSg hEw
   have hk2 := hole_keep h.hSg hE2
   exact ⟨rfl, hEw, ⟨vkn, vgr, vb, .slice aR (m + 1) cR, .slice aC m cC, vf, vo⟩, hg3, h.hs.kn.sub hk, h.hs.gr.sub hk, h.hs.base.sub hk, Rows.of_cel (HRR.out.sub hk2) ((HU.out.take (m + 1)).sub hk), HRC.out.sub hk2, h.hs.forms.sub hk, h.hs.orders.sub hk⟩
  ·go_wp2_with fail
   refine (HCC.out W0 (hX0)).mono ?_; rintro e v1 ⟨u1, rfl, hoC, hx1⟩
   obtain ⟨aC, cC, huC, _⟩ := (Cel.own encCh_len hoC).open_
   rw [HLC.out] at huC
   subst huC
   go_wp2_with fail
   refine ⟨.inr (hx1.mono hX0.size), ?_⟩
   have hX1 := (hX0).trans hx1
   have hz1 := Nat.le_trans (hX0.size) hx1.size
   have HRC := Lib.hid (Cel.own encCh_len (OCel.hole hoC (S := S) (fun k hk => by have := h.hSl k hk; have := hX.size; have := (hX0).size; omega)))
   refine wpTreeR_two rfl rfl rfl rfl (fun K hK => ?_) (fun K hK => ?_)
   ·have k41 := (hb4.ext (hX1)).cell (i := 0) rfl
    go_wp2_with fail
    refine ⟨.inr (Below.refl _ _), ?_⟩
    clear k41
    refine wpTreeR_one rfl rfl (fun K hK => ?_)
    go_wp2_with fail
    refine (HCR.out v1 (hX1)).mono ?_; rintro e v2 ⟨u2, rfl, hoR, hx2⟩
    obtain ⟨aR, cR, huR, _⟩ := (Cel.own encV_len hoR).open_
    rw [HLR.out] at huR
    subst huR
    go_wp2_with fail
    refine ⟨.inr (hx2.mono hz1), ?_⟩
    have hX2 := (hX1).trans hx2
    have hz2 := Nat.le_trans (hz1) hx2.size
    have HRR := Lib.hid (Cel.own encV_len (OCel.hole hoR (S := S) (fun k hk => by have := h.hSl k hk; have := hX.size; have := (hX1).size; omega)))
    replace HRC := Lib.hid (HRC.out.sub (hx2.hole S).sub)
    iterate 2 (refine wpTreeR_look rfl (fun K hK => ?_); go_simp; first | (refine hK _ ?_; clear hK K) | (refine ⟨_, fun _ => rfl, hK _ ?_⟩; clear hK K))
    refine wpTreeR_one rfl rfl (fun K hK => ?_)
    have hg1 := hgB.ext (hX2)
    have z5 := hg1.frozen 5
    have y5 := hg1.cell (i := 5) rfl
    go_wp2_with fail
    have hg2 := hg1.set 5 (.slice aC m cC)
    have hs1 := ExtX.set v2 g 5 (.slice aC m cC)
    have hb41 := ((hb4.ext (hX2)).other (c := g) hn4 5 (.slice aC m cC))
    refine ⟨.inl (by simp), ?_⟩
    generalize World.setCell v2 ⟨g, 5, none⟩ _ = wS at *
    clear z5 y5
    have k41 := hb41.cell (i := 0) rfl
    refine wpTreeR_one rfl rfl (fun K hK => ?_)
    go_wp2_with fail
    refine ⟨.inr (Below.refl _ _), ?_⟩
    refine wpTreeR_one rfl rfl (fun K hK => ?_)
    go_wp2_with fail
    refine ⟨.inr (Below.refl _ _), ?_⟩
    refine wpTreeR_one rfl rfl (fun K hK => ?_)
    have z4 := hg2.frozen 4
    have y4 := hg2.cell (i := 4) rfl
    go_wp2_with fail
    have hg3 := hg2.set 4 (.slice aR (m + 1) cR)
    have hs2 := ExtX.set wS g 4 (.slice aR (m + 1) cR)
    refine ⟨.inl (by simp), ?_⟩
    generalize World.setCell wS ⟨g, 4, none⟩ _ = wF at *
    refine wpTreeR_done ?_
    have hE2 : ExtX (one g) v2 wF := hs1.trans hs2
    have hEw : ExtX (one g) w wF := ((hX.trans (hX2)).toX _).trans hE2
    go_wp2_with fail
    go_ret
    have hk := hole_keep h.hSg hEw
    have hk2 := hole_keep h.hSg hE2
    exact ⟨rfl, hEw, ⟨vkn, vgr, vb, .slice aR (m + 1) cR, .slice aC m cC, vf, vo⟩, hg3, h.hs.kn.sub hk, h.hs.gr.sub hk, h.hs.base.sub hk, Rows.of_cel (HRR.out.sub hk2) ((HU.out.take (m + 1)).sub hk), HRC.out.sub hk2, h.hs.forms.sub hk, h.hs.orders.sub hk⟩
   ·go_wp2_with fail
    refine (HCR.out v1 (hX1)).mono ?_; rintro e v2 ⟨u2, rfl, hoR, hx2⟩
    obtain ⟨aR, cR, huR, _⟩ := (Cel.own encV_len hoR).open_
    rw [HLR.out] at huR
    subst huR
    go_wp2_with fail
    refine ⟨.inr (hx2.mono hz1), ?_⟩
    have hX2 := (hX1).trans hx2
    have hz2 := Nat.le_trans (hz1) hx2.size
    have HRR := Lib.hid (Cel.own encV_len (OCel.hole hoR (S := S) (fun k hk => by have := h.hSl k hk; have := hX.size; have := (hX1).size; omega)))
    replace HRC := Lib.hid (HRC.out.sub (hx2.hole S).sub)
    iterate 2 (refine wpTreeR_look rfl (fun K hK => ?_); go_simp; first | (refine hK _ ?_; clear hK K) | (refine ⟨_, fun _ => rfl, hK _ ?_⟩; clear hK K))
    refine wpTreeR_two rfl rfl rfl rfl (fun K hK => ?_) (fun K hK => ?_)
    ·have k41 := (hb4.ext (hX2)).cell (i := 0) rfl
     go_wp2_with fail
     refine ⟨.inr (Below.refl _ _), ?_⟩
     clear k41
     refine wpTreeR_one rfl rfl (fun K hK => ?_)
     have hg1 := hgB.ext (hX2)
     have z5 := hg1.frozen 5
     have y5 := hg1.cell (i := 5) rfl
     go_wp2_with fail
     have hg2 := hg1.set 5 (.slice aC m cC)
     have hs1 := ExtX.set v2 g 5 (.slice aC m cC)
     have hb41 := ((hb4.ext (hX2)).other (c := g) hn4 5 (.slice aC m cC))
     refine ⟨.inl (by simp), ?_⟩
     generalize World.setCell v2 ⟨g, 5, none⟩ _ = wS at *
     clear z5 y5
     have k41 := hb41.cell (i := 0) rfl
     refine wpTreeR_one rfl rfl (fun K hK => ?_)
     go_wp2_with fail
     refine ⟨.inr (Below.refl _ _), ?_⟩
     refine wpTreeR_one rfl rfl (fun K hK => ?_)
     go_wp2_with fail
     refine ⟨.inr (Below.refl _ _), ?_⟩
     refine wpTreeR_one rfl rfl (fun K hK => ?_)
     have z4 := hg2.frozen 4
     have y4 := hg2.cell (i := 4) rfl
     go_wp2_with fail
     have hg3 := hg2.set 4 (.slice aR (m + 1) cR)
     have hs2 := ExtX.set wS g 4 (.slice aR (m + 1) cR)
     refine ⟨.inl (by simp), ?_⟩
     generalize World.setCell wS ⟨g, 4, none⟩ _ = wF at *
     refine wpTreeR_done ?_
     have hE2 : ExtX (one g) v2 wF := hs1.trans hs2
     have hEw : ExtX (one g) w wF := ((hX.trans (hX2)).toX _).trans hE2
     go_wp2_with fail
     go_ret
     have hk := hole_keep h.hSg hEw
     have hk2 := hole_keep h.hSg hE2
     exact ⟨rfl, hEw, ⟨vkn, vgr, vb, .slice aR (m + 1) cR, .slice aC m cC, vf, vo⟩, hg3, h.hs.kn.sub hk, h.hs.gr.sub hk, h.hs.base.sub hk, Rows.of_cel (HRR.out.sub hk2) ((HU.out.take (m + 1)).sub hk), HRC.out.sub hk2, h.hs.forms.sub hk, h.hs.orders.sub hk⟩
    ·have hg1 := hgB.ext (hX2)
     have z5 := hg1.frozen 5
     have y5 := hg1.cell (i := 5) rfl
     go_wp2_with fail
     have hg2 := hg1.set 5 (.slice aC m cC)
     have hs1 := ExtX.set v2 g 5 (.slice aC m cC)
     have hb41 := ((hb4.ext (hX2)).other (c := g) hn4 5 (.slice aC m cC))
     refine ⟨.inl (by simp), ?_⟩
     generalize World.setCell v2 ⟨g, 5, none⟩ _ = wS at *
     clear z5 y5
     have k41 := hb41.cell (i := 0) rfl
     refine wpTreeR_one rfl rfl (fun K hK => ?_)
     go_wp2_with fail
     refine ⟨.inr (Below.refl _ _), ?_⟩
     refine wpTreeR_one rfl rfl (fun K hK => ?_)
     go_wp2_with fail
     refine ⟨.inr (Below.refl _ _), ?_⟩
     refine wpTreeR_one rfl rfl (fun K hK => ?_)
     go_wp2_with fail
     refine ⟨.inr (Below.refl _ _), ?_⟩
     refine wpTreeR_one rfl rfl (fun K hK => ?_)
     have z4 := hg2.frozen 4
     have y4 := hg2.cell (i := 4) rfl
     go_wp2_with fail
     have hg3 := hg2.set 4 (.slice aR (m + 1) cR)
     have hs2 := ExtX.set wS g 4 (.slice aR (m + 1) cR)
     refine ⟨.inl (by simp), ?_⟩
     generalize World.setCell wS ⟨g, 4, none⟩ _ = wF at *
     refine wpTreeR_done ?_
     have hE2 : ExtX (one g) v2 wF := hs1.trans hs2
     have hEw : ExtX (one g) w wF := ((hX.trans (hX2)).toX _).trans hE2
     go_wp2_with fail
     go_ret
     have hk := hole_keep h.hSg hEw
     have hk2 := hole_keep h.hSg hE2
     exact ⟨rfl, hEw, ⟨vkn, vgr, vb, .slice aR (m + 1) cR, .slice aC m cC, vf, vo⟩, hg3, h.hs.kn.sub hk, h.hs.gr.sub hk, h.hs.base.sub hk, Rows.of_cel (HRR.out.sub hk2) ((HU.out.take (m + 1)).sub hk), HRC.out.sub hk2, h.hs.forms.sub hk, h.hs.orders.sub hk⟩
end Go.Proofs.YtpmlcfgbfhgpgaaGreatDoor
