/- TopReplay: the walk. -/
import Derived.Test.YtpmlcfgbfhgpgaaGreatDoorLawTopBook
namespace Go.Proofs.YtpmlcfgbfhgpgaaGreatDoor
open Go.RowKit Go.Shelf
set_option linter.unusedVariables false
theorem strs_head {w : World} {a : Option Addr} {n c m : Nat} {L : List ByteArray} (h : Strs w (.slice a n c) L) (hm : m ≤ L.length) : Strs w (.slice a m c) (L.take m) := by
  obtain ⟨a', c', hv, h1, h2, H⟩ := h
  injection hv with e1 e2 e3
  subst e1 e2 e3
  have hl : (L.take m).length = m := by rw [List.length_take]; omega
  refine ⟨a, c, by rw [hl], by rw [hl]; omega, h2, fun i hi => ?_⟩
  rw [hl] at hi
  obtain ⟨b, o, ha, hc⟩ := H i (by omega)
  exact ⟨b, o, ha, fun j x u hx hu => hc j x u (by rwa [List.getElem?_take_of_lt hi] at hx) hu⟩
theorem run_take {s : List Rul} {x : St} (O : List ByteArray) {k : Nat} (hk : k < O.length) : runS s x (O.take (k + 1)) = (doS s (runS s x (O.take k)) O[k]).1 := by
  rw [List.take_add_one, List.getElem?_eq_getElem hk, runS_append]; rfl
theorem replay_ok {S : Nat → Bool} {s : List Rul} {x : St} {n : Nat} {w w' : World} {e : Ending} (hv : validS s = 0) (hM : MadeS s x) (hn : n ≤ x.orders.length) (h : RRepL S s (x.orders.take n) [] w e w') :
    Ext w w' ∧ ∃ b m1 rv v, w.heap.size ≤ b ∧ e = .returned (.tuple #[.pointer (some ⟨b, 0, none⟩), .int .i64 n, .int .i64 0]) ∧ SchF (more S b) b m1 rv v (runS s st0 (x.orders.take n)) s w' := by
  obtain ⟨hx, hres⟩ := h
  refine ⟨hx, ?_⟩
  rcases hres with ⟨h0, _⟩ | ⟨_, h0, _⟩ | ⟨_, _, k, t, h1, _, h2, _⟩ | ⟨_, _, _, g2, m2, rv2, v2, h1, h2, h3⟩
  · exact absurd hv h0
  · exact absurd rfl h0
  · exact absurd (ok_at (made_take hM n).1 h1) h2
  · rw [List.length_take, Nat.min_eq_left hn] at h2
    exact ⟨g2, m2, rv2, v2, h1, h2, h3⟩
set_option maxHeartbeats 16000000 in
set_option maxRecDepth 100000 in
theorem topReplay_c (v u : Value) (z : Int) (s : List Rul) (L : List ByteArray) (w : World) (h : Ruls w v s) (hl : Strs w u L) (hz : (Lit.int .i64 z).wf = true) (hE : Env w) (hT : ErrT w) (h7 : 7 ≤ w.heap.size) :
    Calls Tryz.prog 18 #[.agg #[v, u, .int .i64 z]] w (RV (.bool true) w) := by
  obtain ⟨wA, hwA⟩ : ∃ wA, wA = w.alloc (.cells #[v, u, .int .i64 z] 92) := ⟨_, rfl⟩
  have hEA : Ext w wA := by rw [hwA]; exact Ext.alloc _ _
  obtain ⟨g1, hg1⟩ : ∃ g, g = w.heap.size := ⟨_, rfl⟩
  have hbA : Blk wA g1 92 [v, u, .int .i64 z] := by rw [hg1, hwA]; exact Blk.alloc _ _ _
  have h7A : 7 ≤ wA.heap.size := Nat.le_trans h7 hEA.size
  have HE := Lib.hid (hE.ext hEA)
  have HT := Lib.hid (hT.ext hEA)
  have HR := Lib.hid (h.ext hEA)
  have HL := Lib.hid (hl.ext hEA)
  have HWA := Lib.hid hwA; clear hwA
  have HS0 := Lib.hid (Sum_c 0 ⟨#[115, 97, 121]⟩ wA (by decide) (by decide))
  have HFI := Lib.hid (fun W (q : Ext wA W) => firm_c v u z s L W (HR.out.ext q) (HL.out.ext q) (HE.out.ext q) (HT.out.ext q) (Nat.le_trans h7A q.size))
  have HRP := Lib.hid (fun W (q : Ext wA W) (bk : ByteArray) (hb : bk.size ≤ 1000000) => Replay_c (fun _ => false) v s bk W (fun k hk => by cases hk) (HR.out.ext q) (HE.out.ext q) (HT.out.ext q) (Nat.le_trans h7A q.size) hb)
  have HNE := Lib.hid (fun W (q : Ext wA W) => New_c (fun _ => false) v s W (fun k hk => by cases hk) (HR.out.ext q))
  obtain ⟨av, cv, rfl, _⟩ := h.open_
  obtain ⟨au, cu, rfl, hc1, hc2, _⟩ := hl.open_
  have b0 := hbA.cell (i := 0) rfl
  have b1 := hbA.cell (i := 1) rfl
  have b2 := hbA.cell (i := 2) rfl
  clear h hl hE hT hbA
  go_enter Tryz.func18, Tryz.ntmps18
  go_upto_region 1 with fail
  rw [← HWA.out]
  rw [← hg1]
  clear hg1
  go_wp2_with fail
  refine HS0.out.mono ?_; rintro e w1 ⟨rfl, rfl⟩
  have hx1 := Ext.refl wA
  rw [show sumB 0 (⟨#[115, 97, 121]⟩ : ByteArray).data.toList = 686971 by decide +kernel]
  have d0 := hx1.keep b0
  have d1 := hx1.keep b1
  have d2 := hx1.keep b2
  go_wp2_with fail
  refine (HFI.out wA hx1).mono ?_; rintro e w2 ⟨hx2, ⟨h0, rfl⟩ | ⟨hv, b, m1, rv, vv, S, u2, hbz, rfl, hF, ho2⟩⟩
  · clear h0
    go_wp2_with fail
    go_ret
    exact ⟨rfl, (hEA.trans hx1).trans hx2⟩
  have hX2 := hx1.trans hx2
  have hM := (run_inv (s := s) (L.take 40) (inv_new hv) (made_new s)).2
  generalize runS s st0 (L.take 40) = x at *
  have hR := hF.hI.rightT
  have hle := hF.hI.olen
  have HV := Lib.hid hv
  have HM := Lib.hid hM
  have HF := Lib.hid hF
  have HBK := Lib.hid (fun W (q : Ext w2 W) => Book_c (hF.ext q) (HE.out.ext (hX2.trans q)))
  have HAU := Lib.hid (fun W (q : Ext w2 W) => Audit_c (hF.ext q) hM (HE.out.ext (hX2.trans q)) (HT.out.ext (hX2.trans q)) (Nat.le_trans h7A (hX2.trans q).size))
  obtain ⟨q1, q2, q3⟩ := read_book hR hle
  obtain ⟨a2, c2, rfl, HS2, HT2⟩ := OCel.txt ho2
  have hbs : (⟨(bookB x.orders).toArray⟩ : ByteArray).size = (bookB x.orders).length := ofBs_size _
  have HR1 : Hid (∀ W, Ext wA W → Calls Tryz.prog 55 #[.slice av s.length cv, .string ⟨(bookB x.orders).toArray⟩] W (fun e w' => Ext W w' ∧ ∃ b m1 rv v, W.heap.size ≤ b ∧ e = .returned (.tuple #[.pointer (some ⟨b, 0, none⟩), .int .i64 x.orders.length, .int .i64 0]) ∧ SchF (more (fun _ => false) b) b m1 rv v x s w')) := Lib.hid (fun W q => by
    have hh := HRP.out W q ⟨(bookB x.orders).toArray⟩ (by omega)
    rw [show txt ⟨(bookB x.orders).toArray⟩ = bookB x.orders from txt_of _, q1, q2] at hh
    refine hh.mono ?_
    rintro e w' hres
    have h4 : RRepL (fun _ => false) s (x.orders.take x.orders.length) [] W e w' := by rw [List.take_length]; exact hres
    have h5 := replay_ok HV.out HM.out (Nat.le_refl _) h4
    rw [List.take_length, HM.out.run] at h5
    exact h5)
  obtain ⟨kk, hkk, hke⟩ := uint_mod9 z x.orders.length (by omega)
  obtain ⟨k4, k5⟩ := write_take hR hle kk
  obtain ⟨t1, t2, t3⟩ := read_take hR hle kk
  have htl : (x.orders.take kk).length = kk := by rw [List.length_take]; omega
  have hbt : (⟨(bookB (x.orders.take kk)).toArray⟩ : ByteArray).size = (bookB (x.orders.take kk)).length := ofBs_size _
  have HWR := Lib.hid (fun W (q : Ext w2 W) => Write_c (.slice a2 kk c2) (x.orders.take kk) W ((strs_head HS2.out hkk).ext q) (HE.out.ext (hX2.trans q)))
  rw [k4, k5] at HWR
  have HR2 : Hid (∀ W, Ext wA W → Calls Tryz.prog 55 #[.slice av s.length cv, .string ⟨(bookB (x.orders.take kk)).toArray⟩] W (fun e w' => Ext W w' ∧ ∃ b m1 rv v, W.heap.size ≤ b ∧ e = .returned (.tuple #[.pointer (some ⟨b, 0, none⟩), .int .i64 kk, .int .i64 0]) ∧ SchF (more (fun _ => false) b) b m1 rv v (runS s st0 (x.orders.take kk)) s w')) := Lib.hid (fun W q => by
    have hh := HRP.out W q ⟨(bookB (x.orders.take kk)).toArray⟩ (by omega)
    rw [show txt ⟨(bookB (x.orders.take kk)).toArray⟩ = bookB (x.orders.take kk) from txt_of _, t1, t2] at hh
    refine hh.mono ?_
    rintro e w' hres
    exact replay_ok HV.out HM.out hkk hres)
  have HOK : Hid (∀ k (hk : k < x.orders.length), (doS s (runS s st0 (x.orders.take k)) x.orders[k]).2 = 0) := Lib.hid (fun k hk => ok_at HM.out.ok (List.getElem?_eq_getElem hk))
  have HRT : Hid (∀ k (hk : k < x.orders.length), runS s st0 (x.orders.take (k + 1)) = (doS s (runS s st0 (x.orders.take k)) x.orders[k]).1) := Lib.hid (fun k hk => run_take x.orders hk)
  have HSZ : Hid (∀ k (hk : k < x.orders.length), (x.orders[k]).size ≤ 100000) := Lib.hid (fun k hk => by have := hF.hI.bookOk.1 _ (List.getElem_mem hk); omega)
  have HSC2 := Lib.hid (fun (S1 S2 : Nat → Bool) (c1 c2 : Nat) (n1 n2 r1 r2 : Value) (y1 y2 : SV) (X : St) W (q : Ext wA W) (h1 : SchF S1 c1 n1 r1 y1 X s W) (h2 : SchF S2 c2 n2 r2 y2 X s W) => sameSchool_c h1 h2 (HE.out.ext q))
  have hRALL : runS s st0 (x.orders.take x.orders.length) = x := by rw [List.take_length]; exact hM.run
  have HRA := Lib.hid hRALL
  clear hF ho2 hv hM hR q1 q2 q3 k4 k5 t1 t2 t3 hbs hbt hRALL
  generalize hO : x.orders = O at *
  clear hO
  generalize (⟨(bookB O).toArray⟩ : ByteArray) = BK at *
  generalize (⟨(bookB (O.take kk)).toArray⟩ : ByteArray) = BT at *
  have e0 := hx2.keep d0
  have e2 := hx2.keep d2
  go_upto_region 6 with fail
  refine wp_region_treeR (fun a b => Ext a b) [] (.look 0 (.look 1 (.look 2 (.one 3 (.one 4 (.look 5 (.look 6 (.look 7 (.look 8 (.look 9 (.look 10 (.look 11 .done)))))))))))) (fun w => Ext.refl w) (fun a b c h k => Ext.trans h k) (by kernel_rfl) (by kernel_rfl) (by intro c a d v w h; cases d <;> exact h) ?_
  have hxd := drawnP_ext w2
  generalize { w2 with drawn := w2.drawn + 1 } = w3 at *
  have k0 : ∀ q : InC (fun c => Ext w3 c), q.w.cell? ⟨g1, 0, none⟩ = some (.slice av s.length cv) := fun q => q.h.keep (hxd.keep e0)
  iterate 3 (refine wpTreeR_look rfl (fun K hK => ?_); go_simp; first | (refine hK _ ?_; clear hK K) | (refine ⟨_, fun _ => rfl, hK _ ?_⟩; clear hK K))
  refine wpTreeR_one rfl rfl (fun K hK => ?_)
  go_wp2_with fail
  refine (HBK.out w3 hxd).mono ?_; rintro e w4 ⟨rfl, hx4⟩
  go_wp2_with fail
  refine ⟨.inr hx4, ?_⟩
  refine wpTreeR_one rfl rfl (fun K hK => ?_)
  go_wp2_with fail
  refine (HR1.out w4 ((hX2.trans hxd).trans hx4)).mono ?_; rintro e w5 ⟨hx5, bv, mv, rvv, vvv, hbv, rfl, hFv⟩
  go_wp2_with fail
  refine ⟨.inr hx5, ?_⟩
  iterate 7 (refine wpTreeR_look rfl (fun K hK => ?_); go_simp; first | (refine hK _ ?_; clear hK K) | (refine ⟨_, fun _ => rfl, hK _ ?_⟩; clear hK K))
  refine wpTreeR_done ?_
  have hx25 := (hxd.trans hx4).trans hx5
  have hX5 := hX2.trans hx25
  clear k0
  have HFV := Lib.hid hFv
  clear hFv
  go_wp2_with fail
  refine (HSC2.out _ _ _ _ _ _ _ _ _ _ x w5 hX5 HFV.out (HF.out.ext hx25)).mono ?_; rintro e w6 ⟨rfl, hx6⟩
  have hx26 := hx25.trans hx6
  go_wp2_with fail
  refine (HAU.out w6 hx26).mono ?_; rintro e w7 ⟨rfl, hx7⟩
  have hx27 := hx26.trans hx7
  have hX7 := hX2.trans hx27
  replace e0 := hx27.keep e0
  replace e2 := hx27.keep e2
  have hcap : O.length ≤ c2 := by
    obtain ⟨_, _, hce, hcl, _⟩ := HS2.out.open_
    injection hce with _ _ hce
    omega
  have hki : decide ((kk : Int) ≤ (c2 : Int)) = true := decide_eq_true (by omega)
  go_wp2_with fail
  refine (HWR.out w7 hx27).mono ?_; rintro e w8 ⟨rfl, hx8⟩
  have hx28 := hx27.trans hx8
  have hX8 := hX7.trans hx8
  replace e0 := hx8.keep e0
  go_wp2_with fail
  refine (HR2.out w8 hX8).mono ?_; rintro e w9 ⟨hx9, bp, mp, rp, vp, hbp, rfl, hFp⟩
  have hx29 := hx28.trans hx9
  have hX9 := hX8.trans hx9
  replace e0 := hx9.keep e0
  have HFP := Lib.hid hFp
  clear hFp
  go_wp2_with fail
  refine (HNE.out w9 hX9).mono ?_; rintro e w10 ⟨hx10, ⟨h0, _⟩ | ⟨_, be, me, re, ve, rfl, hbe, hFe⟩⟩
  · exact absurd HV.out h0
  have hx210 := hx29.trans hx10
  have hX10 := hX9.trans hx10
  have hz2 := hX2.size
  have hz8 := hX8.size
  have hz9 := hX9.size
  have hz29 := hx29.size
  have hz28 := hx28.size
  have hbe7 : 7 ≤ be := by omega
  have hbp7 : 7 ≤ bp := by omega
  have HFE := Lib.hid hFe
  clear hFe
  go_wp2_with fail
  go_loopg [15] kk (fun m i wr => ∃ (k : Nat) (y : SV) (Se : Nat → Bool), k ≤ kk ∧ kk ≤ k + m ∧ i = .int .i64 k ∧ ExtX (one be) w10 wr ∧ SchF Se be me re y (runS s st0 (O.take k)) s wr)
  case atStart => exact ⟨0, ve, _, by omega, by omega, rfl, ExtX.refl _ _, HFE.out⟩
  case round =>
    obtain ⟨k, y, Se, hk, hkm, rfl, hEr, hFr⟩ := hrel
    have h9r : Ext w9 wr := ((hx10.toX (one be)).trans hEr).ext (fun q hq => by simp [one]; omega)
    have hXr := hX9.trans h9r
    have h2r := hx29.trans h9r
    by_cases hlt : k < kk
    · have hltO : k < O.length := by omega
      obtain ⟨bb, ob, rfl, t0⟩ := HT2.out k hltO
      replace t0 := h2r.keep t0
      have HDO := Lib.hid (Do_c hFr (HE.out.ext hXr) (HT.out.ext hXr) hbe7 O[k] (HSZ.out k hltO))
      have HZ := Lib.hid (HOK.out k hltO)
      have HN := Lib.hid (HRT.out k hltO)
      generalize O[k] = tk at *
      generalize hRR : doS s (runS s st0 (O.take k)) tk = RR at *
      obtain ⟨R1, R2⟩ := RR
      dsimp only at HZ HN
      obtain rfl := HZ.out
      have HEr := Lib.hid hEr
      clear hRR hFr hEr
      go_wp2_with fail
      refine HDO.out.mono ?_; rintro e w11 ⟨he, hE11, v11, hB11⟩
      dsimp only at he
      subst he
      go_wp2_with fail
      go_roundg (gk-1)
      case measure => omega
      case rel => exact ⟨k + 1, v11, Se, by omega, by omega, by go_num, HEr.out.trans hE11, by rw [HN.out]; exact hB11⟩
    · obtain rfl : k = kk := by omega
      have HFP2 := Lib.hid (HFP.out.ext h9r)
      have HFR := Lib.hid hFr
      have HEr := Lib.hid hEr
      clear hFr hEr
      go_wp2_with fail
      refine (HSC2.out _ _ _ _ _ _ _ _ _ _ _ wr hXr HFP2.out HFR.out).mono ?_; rintro e w12 ⟨rfl, hx12⟩
      have h212 := h2r.trans hx12
      have hX12 := hXr.trans hx12
      have HFP3 := Lib.hid (HFP2.out.ext hx12)
      have h812 := (hx9.trans h9r).trans hx12
      go_wp2_with fail
      go_loopg [16] (O.length - k) (fun m i wr => ∃ (j : Nat) (y : SV) (Sp : Nat → Bool), k ≤ j ∧ j ≤ O.length ∧ O.length ≤ j + m ∧ i = .int .i64 j ∧ ExtX (one bp) w12 wr ∧ SchF Sp bp mp rp y (runS s st0 (O.take j)) s wr)
      case atStart => exact ⟨k, vp, _, by omega, by omega, by omega, rfl, ExtX.refl _ _, HFP3.out⟩
      case round =>
        obtain ⟨j, y2, Sp, hj1, hj2, hjm, rfl, hE2, hF2⟩ := hrel
        have h8r : Ext w8 wr := ((h812.toX (one bp)).trans hE2).ext (fun q hq => by simp [one]; omega)
        have hXr2 := hX8.trans h8r
        have h2r2 := hx28.trans h8r
        by_cases hlt2 : j < O.length
        · obtain ⟨bb, ob, rfl, t0⟩ := HT2.out j hlt2
          replace t0 := h2r2.keep t0
          have HDO := Lib.hid (Do_c hF2 (HE.out.ext hXr2) (HT.out.ext hXr2) hbp7 O[j] (HSZ.out j hlt2))
          have HZ := Lib.hid (HOK.out j hlt2)
          have HN := Lib.hid (HRT.out j hlt2)
          generalize O[j] = tk at *
          generalize hRR : doS s (runS s st0 (O.take j)) tk = RR at *
          obtain ⟨R1, R2⟩ := RR
          dsimp only at HZ HN
          obtain rfl := HZ.out
          have HE2 := Lib.hid hE2
          clear hRR hF2 hE2
          go_wp2_with fail
          refine HDO.out.mono ?_; rintro e w13 ⟨he, hE13, v13, hB13⟩
          dsimp only at he
          subst he
          go_wp2_with fail
          go_roundg (gk-1)
          case measure => omega
          case rel => exact ⟨j + 1, v13, Sp, by omega, by omega, by omega, by go_num, HE2.out.trans hE13, by rw [HN.out]; exact hB13⟩
        · obtain rfl : j = O.length := by omega
          rw [HRA.out] at hF2
          have HF2 := Lib.hid hF2
          clear hF2 hE2
          go_wp2_with fail
          refine (HSC2.out _ _ _ _ _ _ _ _ _ _ x wr hXr2 HF2.out (HF.out.ext h2r2)).mono ?_; rintro e w14 ⟨rfl, hx14⟩
          go_wp2_with fail
          go_ret
          exact ⟨rfl, (hEA.trans hXr2).trans hx14⟩
end Go.Proofs.YtpmlcfgbfhgpgaaGreatDoor
