/- SchoolRuns: the walk. -/
import Derived.Test.YtpmlcfgbfhgpgaaGreatDoorLaw9I
namespace Go.Proofs.YtpmlcfgbfhgpgaaGreatDoor
open Go.RowKit Go.Shelf
set_option linter.unusedVariables false

set_option maxHeartbeats 8000000 in
set_option maxRecDepth 100000 in
theorem schoolRuns_c (v u : Value) (s : List Rul) (L : List ByteArray) (w : World) (h : Ruls w v s) (hl : Strs w u L) (hE : Env w) (hT : ErrT w) (h7 : 7 ≤ w.heap.size) :
    Calls Tryz.prog 6 #[v, u] w (RV (.bool true) w) := by
  have HLG := Lib.hid (Large9_c v s w h)
  have HLO := Lib.hid (fun W (q : Ext w W) => Long9_c u L W (hl.ext q))
  have HSA := Lib.hid (fun W (q : Ext w W) => sane_c W (hE.ext q) (hT.ext q) (Nat.le_trans h7 q.size))
  have HBE := Lib.hid (fun W (q : Ext w W) => Begin_c (fun _ => false) v s W (fun k hk => by cases hk) (h.ext q))
  have HRU := Lib.hid (fun W (q : Ext w W) (hz : ∀ t ∈ L, t.size ≤ 400) => Run_c v u s L W (h.ext q) (hl.ext q) (hE.ext q) (hT.ext q) (Nat.le_trans h7 q.size) hz)
  have HRN := Lib.hid (fun W (q : Ext w W) => rNew_c (fun _ => false) v s W (fun k hk => by cases hk) (h.ext q))
  have HL := Lib.hid hl
  have HE := Lib.hid hE
  have HT := Lib.hid hT
  obtain ⟨av, cv, rfl, _⟩ := h.open_
  obtain ⟨au, cu, rfl, hu1, hu2, _⟩ := hl.open_
  clear h hl hE hT
  cases hb1 : largeB s with
  | true =>
    rw [hb1] at HLG
    clear hb1
    go_enter Tryz.func6, Tryz.ntmps6
    go_wp2_with fail
    refine HLG.out.mono ?_; rintro e w1 ⟨rfl, hx1⟩
    go_wp2_with fail
    refine (HSA.out w1 hx1).mono ?_; rintro e w2 ⟨rfl, hx2⟩
    go_wp2_with fail
    go_ret
    exact ⟨rfl, hx1.trans hx2⟩
  | false =>
    rw [hb1] at HLG
    cases hb2 : longT L with
    | true =>
      rw [hb2] at HLO
      clear hb1 hb2
      go_enter Tryz.func6, Tryz.ntmps6
      go_wp2_with fail
      refine HLG.out.mono ?_; rintro e w1 ⟨rfl, hx1⟩
      go_wp2_with fail
      refine (HLO.out w1 hx1).mono ?_; rintro e w2 ⟨rfl, hx2⟩
      go_wp2_with fail
      refine (HSA.out w2 (hx1.trans hx2)).mono ?_; rintro e w3 ⟨rfl, hx3⟩
      go_wp2_with fail
      go_ret
      exact ⟨rfl, (hx1.trans hx2).trans hx3⟩
    | false =>
      rw [hb2] at HLO
      have HLT := Lib.hid (longT_ok hb2)
      clear hb1 hb2
      by_cases hv : validS s = 0
      · have HV := Lib.hid hv; clear hv
        by_cases hq : 100 < L.length
        · go_enter Tryz.func6, Tryz.ntmps6
          go_wp2_with fail
          refine HLG.out.mono ?_; rintro e w1 ⟨rfl, hx1⟩
          go_wp2_with fail
          refine (HLO.out w1 hx1).mono ?_; rintro e w2 ⟨rfl, hx2⟩
          have hX2 := hx1.trans hx2
          go_wp2_with fail
          refine (HRU.out w2 hX2 HLT.out.2).mono ?_; rintro e w3 ⟨hx3, ⟨h0, _⟩ | ⟨_, _, rfl⟩ | ⟨_, h0, _⟩⟩
          · exact absurd HV.out h0
          rotate_left
          · exact absurd hq h0
          have hX3 := hX2.trans hx3
          go_wp2_with fail
          refine (HBE.out w3 hX3).mono ?_; rintro e w4 ⟨hx4, ⟨h0, _⟩ | ⟨_, b, m1, rv, v0, gh, gq, uq, rfl, _⟩⟩
          · exact absurd HV.out h0
          have hX4 := hX3.trans hx4
          go_wp2_with fail
          refine (HSA.out w4 hX4).mono ?_; rintro e w5 ⟨rfl, hx5⟩
          go_wp2_with fail
          go_ret
          exact ⟨rfl, hX4.trans hx5⟩
        · go_enter Tryz.func6, Tryz.ntmps6
          go_wp2_with fail
          refine HLG.out.mono ?_; rintro e w1 ⟨rfl, hx1⟩
          go_wp2_with fail
          refine (HLO.out w1 hx1).mono ?_; rintro e w2 ⟨rfl, hx2⟩
          have hX2 := hx1.trans hx2
          go_wp2_with fail
          refine (HRU.out w2 hX2 HLT.out.2).mono ?_; rintro e w3 ⟨hx3, ⟨h0, _⟩ | ⟨_, h0, _⟩ | ⟨_, _, ue, rfl, hue⟩⟩
          · exact absurd HV.out h0
          · exact absurd h0 hq
          have hX3 := hX2.trans hx3
          have HUE := Lib.hid (Cel.own encZ_len hue)
          obtain ⟨ae, ce, hue2, _⟩ := (Cel.own encZ_len hue).open_
          rw [errsS_len] at hue2
          subst hue2
          clear hue
          go_wp2_with fail
          refine (HBE.out w3 hX3).mono ?_; rintro e w4 ⟨hx4, ⟨h0, _⟩ | ⟨_, b, m1, rv, v0, gh, gq, uq, rfl, hbz, hgz1, hgz2, hSc, _⟩⟩
          · exact absurd HV.out h0
          have hX4 := hX3.trans hx4
          have hbw : w.heap.size ≤ b := Nat.le_trans hX3.size hbz
          have hb7 : 7 ≤ b := Nat.le_trans h7 hbw
          have HSS : Hid (∀ k, more (more (more (fun _ => false) b) gh) gq k = true → w3.heap.size ≤ k) := Lib.hid (fun k hk => by
            rcases more_or hk with hk | hk
            · rcases more_or hk with hk | hk
              · rcases more_or hk with hk | hk
                · cases hk
                · omega
              · omega
            · omega)
          generalize hSS : more (more (more (fun _ => false) b) gh) gq = S at *
          clear hSS
          obtain ⟨aU, cU, hul, _, _, HC4⟩ := Strs.at_ ((HL.out.ext hX3).ext (hole_new hx4 HSS.out))
          injection hul with e1 e2 e3
          subst e1 e3
          clear e2
          obtain ⟨aE, cE, hel, _, _, HCE⟩ := (HUE.out.ext (hole_new hx4 HSS.out)).open_
          rw [errsS_len] at hel
          injection hel with e1 e2 e3
          subst e1 e3
          clear e2
          have HE4 := Lib.hid (HE.out.ext hX4)
          have HT4 := Lib.hid (HT.out.ext hX4)
          have HX4 := Lib.hid hX4
          go_wp2_with fail
          go_loopg [13] L.length (fun m i wr => ∃ (k : Nat) (v' : SV), k ≤ L.length ∧ L.length ≤ k + m ∧ i = .int .i64 k ∧ ExtX (one b) w4 wr ∧ SchF S b m1 rv v' (runS s st0 (L.take k)) s wr)
          case atStart => exact ⟨0, v0, by omega, by omega, rfl, ExtX.refl _ _, hSc⟩
          case round =>
            obtain ⟨k, v', hk1, hk2, rfl, hEr, hSr⟩ := hrel
            by_cases hlt : k < L.length
            · obtain ⟨bl, ol, ha4, hcl⟩ := HC4.out k hlt
              subst ha4
              obtain ⟨be, oe, hae, hce⟩ := HCE.out k _ (errsS_at s st0 L (List.getElem?_eq_getElem hlt))
              subst hae
              have hce0 := hce 0 _ rfl
              rw [Nat.mul_one, Nat.add_zero] at hce0
              clear hce
              have hk4 := hole_keep hSr.hSb hEr
              replace hcl := hk4 _ _ hcl
              replace hce0 := hk4 _ _ hce0
              have HTK : Hid (L.take (k + 1) = L.take k ++ [L[k]]) := Lib.hid (by rw [List.take_add_one, List.getElem?_eq_getElem hlt]; rfl)
              have htz : L[k].size ≤ 100000 := by have := HLT.out.2 _ (List.getElem_mem hlt); omega
              generalize L[k] = tk at *
              have HRN2 : Hid (runS s st0 (L.take (k + 1)) = (doS s (runS s st0 (L.take k)) tk).1) := Lib.hid (by rw [HTK.out, runS_append]; rfl)
              go_upto_region 15 with fail
              have hX0 := drawnP_ext wr
              have HDO := Lib.hid (Do_c (hSr.ext hX0) ((HE4.out.extX hEr hb7).ext hX0) ((HT4.out.extX hEr hb7).ext hX0) hb7 tk htz)
              have hb0 := hSr.hSb
              generalize doS s (runS s st0 (L.take k)) tk = R at *
              obtain ⟨R1, R2⟩ := R
              refine wp_region_treeR (fun a c => ExtX (one b) a c) [] (.look 0 (.look 1 (.look 2 (.look 3 (.look 4 (.look 6 (.look 7 (.look 8 (.look 9 (.one 5 (.look 10 .done))))))))))) (fun w => ExtX.refl _ w) (fun a b c h k => ExtX.trans h k) (by kernel_rfl) (by kernel_rfl) (by intro c a d v w h; cases d <;> exact h) ?_
              replace hcl := (hX0.hole S).sub _ _ hcl
              replace hce0 := (hX0.hole S).sub _ _ hce0
              replace hEr := hEr.trans (hX0.toX _)
              generalize { wr with drawn := wr.drawn + 1 } = W0 at *
              have kl : ∀ q : InC (fun c => ExtX (one b) W0 c), q.w.cell? _ = some _ := fun q => hole_sub S q.w _ _ (hole_keep hb0 q.h _ _ hcl)
              have ke : ∀ q : InC (fun c => ExtX (one b) W0 c), q.w.cell? _ = some _ := fun q => hole_sub S q.w _ _ (hole_keep hb0 q.h _ _ hce0)
              iterate 9 (refine wpTreeR_look rfl (fun K hK => ?_); go_simp; first | (refine hK _ ?_; clear hK K) | (refine ⟨_, fun _ => rfl, hK _ ?_⟩; clear hK K))
              refine wpTreeR_one rfl rfl (fun K hK => ?_)
              go_wp2_with fail
              refine (HDO.out).mono ?_; rintro e w5 ⟨he, hE5, v5, hB5⟩
              subst he
              go_wp2_with fail
              refine ⟨.inr hE5, ?_⟩
              iterate 1 (refine wpTreeR_look rfl (fun K hK => ?_); go_simp; first | (refine hK _ ?_; clear hK K) | (refine ⟨_, fun _ => rfl, hK _ ?_⟩; clear hK K))
              refine wpTreeR_done ?_
              go_wp2_with fail
              go_roundg (gk-1)
              case measure => omega
              case rel => exact ⟨k + 1, v5, by omega, by omega, by go_num, hEr.trans hE5, by rw [HRN2.out]; exact hB5⟩
            · obtain rfl : k = L.length := by omega
              rw [List.take_length] at hSr
              have HXr : Hid (Ext w wr) := Lib.hid (((HX4.out.toX (one b)).trans hEr).ext (fun k hk => by simp [one]; omega))
              have HBK := Lib.hid (Book_c hSr (HE4.out.extX hEr hb7))
              generalize (bookB (runS s st0 L).orders) = BB at *
              have hbb : ((⟨BB.toArray⟩ : ByteArray).toList == (⟨BB.toArray⟩ : ByteArray).toList) = true := by simp
              clear hSr
              go_wp2_with fail
              refine HBK.out.mono ?_; rintro e w5 ⟨rfl, hx5⟩
              go_wp2_with fail
              refine (HSA.out w5 (HXr.out.trans hx5)).mono ?_; rintro e w6 ⟨rfl, hx6⟩
              go_wp2_with fail
              go_ret
              exact ⟨rfl, (HXr.out.trans hx5).trans hx6⟩
      · have HV := Lib.hid hv
        have hvn : (validS s != 0) = true := by simpa using hv
        have hvv : (validS s == validS s) = true := by simp
        clear hv
        go_enter Tryz.func6, Tryz.ntmps6
        go_wp2_with fail
        refine HLG.out.mono ?_; rintro e w1 ⟨rfl, hx1⟩
        go_wp2_with fail
        refine (HLO.out w1 hx1).mono ?_; rintro e w2 ⟨rfl, hx2⟩
        have hX2 := hx1.trans hx2
        go_wp2_with fail
        refine (HRU.out w2 hX2 HLT.out.2).mono ?_; rintro e w3 ⟨hx3, ⟨_, rfl⟩ | ⟨h0, _⟩ | ⟨h0, _⟩⟩
        rotate_left
        · exact absurd h0 HV.out
        · exact absurd h0 HV.out
        have hX3 := hX2.trans hx3
        go_wp2_with fail
        refine (HBE.out w3 hX3).mono ?_; rintro e w4 ⟨hx4, ⟨_, rfl⟩ | ⟨h0, _⟩⟩
        rotate_left
        · exact absurd h0 HV.out
        have hX4 := hX3.trans hx4
        go_wp2_with fail
        refine (HRN.out w4 hX4).mono ?_; rintro e w5 ⟨hx5, ⟨_, rfl⟩ | ⟨h0, _⟩⟩
        rotate_left
        · exact absurd h0 HV.out
        have hX5 := hX4.trans hx5
        go_wp2_with fail
        refine (HSA.out w5 hX5).mono ?_; rintro e w6 ⟨rfl, hx6⟩
        go_wp2_with fail
        go_ret
        exact ⟨rfl, hX5.trans hx6⟩
end Go.Proofs.YtpmlcfgbfhgpgaaGreatDoor
