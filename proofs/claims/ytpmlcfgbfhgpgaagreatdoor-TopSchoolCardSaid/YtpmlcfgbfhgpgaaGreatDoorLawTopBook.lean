/- TopBook: the walk. -/
import Derived.Test.YtpmlcfgbfhgpgaaGreatDoorJoinD
import Derived.Test.YtpmlcfgbfhgpgaaGreatDoorTreeT
namespace Go.Proofs.YtpmlcfgbfhgpgaaGreatDoor
open Go.RowKit Go.Shelf
set_option linter.unusedVariables false
theorem uint_mod9 (z : Int) (n : Nat) (hn : n < 1000000) : ∃ kk : Nat, kk ≤ n ∧ wrap64 ((IntKind.u64.wrap z).tmod ((n : Int) + 1)) = (kk : Int) := by
  have h0 : 0 ≤ IntKind.u64.wrap z := by
    unfold IntKind.wrap; simp [IntKind.bits, IntKind.signed]; omega
  have h1 := Int.tmod_lt_of_pos (IntKind.u64.wrap z) (show (0 : Int) < (n : Int) + 1 by omega)
  have h2 := Int.tmod_nonneg ((n : Int) + 1) h0
  generalize (IntKind.u64.wrap z).tmod ((n : Int) + 1) = r at *
  exact ⟨r.toNat, by omega, by rw [Go.IntWalk.wrap64_in _ (by omega)]; omega⟩
def t686 : Bs := [54, 56, 54, 57, 55, 49, 32, 115, 97, 121, 10, 54, 56, 54]
theorem read_686 : readB t686 = ([[115, 97, 121]], [54, 56, 54]) := by decide +kernel
theorem rest_isEmpty (l : Bs) : (readRest l).toList.isEmpty = decide ((readB l).2 = []) := by
  unfold readRest
  generalize (readB l).2 = q
  rw [byt, show (ofBs q).data.toList = q from txt_of q]
  cases q <;> simp
def TxtAt (w : World) (a : Option Addr) (L : List ByteArray) : Prop := ∀ i (hi : i < L.length), ∃ b o, a = some ⟨b, o, none⟩ ∧ w.cell? ⟨b, o + i, none⟩ = some (.string L[i])
theorem OCel.txt {w : World} {B : Nat} {v : Value} {L : List ByteArray} (h : OStrs w B v L) : ∃ (a : Option Addr) (c : Nat), v = .slice a L.length c ∧ Hid (Strs w (.slice a L.length c) L) ∧ Hid (TxtAt w a L) := by
  have hs := Cel.own encT_len h
  obtain ⟨a, c, rfl, _, _, H⟩ := Strs.at_ hs
  exact ⟨a, c, rfl, Lib.hid hs, Lib.hid H.out⟩
set_option maxHeartbeats 16000000 in
set_option maxRecDepth 100000 in
theorem topBook_c (v u : Value) (z : Int) (s : List Rul) (L : List ByteArray) (w : World) (h : Ruls w v s) (hl : Strs w u L) (hz : (Lit.int .i64 z).wf = true) (hE : Env w) (hT : ErrT w) (h7 : 7 ≤ w.heap.size) :
    Calls Tryz.prog 17 #[.agg #[v, u, .int .i64 z]] w (RV (.bool true) w) := by
  obtain ⟨wA, hwA⟩ : ∃ wA, wA = w.alloc (.cells #[v, u, .int .i64 z] 92) := ⟨_, rfl⟩
  have hEA : Ext w wA := by rw [hwA]; exact Ext.alloc _ _
  obtain ⟨g1, hg1⟩ : ∃ g, g = w.heap.size := ⟨_, rfl⟩
  have hbA : Blk wA g1 92 [v, u, .int .i64 z] := by rw [hg1, hwA]; exact Blk.alloc _ _ _
  have h7A : 7 ≤ wA.heap.size := Nat.le_trans h7 hEA.size
  have HE := Lib.hid (hE.ext hEA)
  have HT := Lib.hid (hT.ext hEA)
  have HR := Lib.hid (h.ext hEA)
  have HL := Lib.hid (hl.ext hEA)
  have HWA := Lib.hid hwA; clear hwA
  have HBA := Lib.hid hbA
  have hT0 : txt ⟨#[54, 56, 54, 57, 55, 49, 32, 115, 97, 121, 10, 54, 56, 54]⟩ = t686 := rfl
  have HR0 := Lib.hid (Read_c ⟨#[54, 56, 54, 57, 55, 49, 32, 115, 97, 121, 10, 54, 56, 54]⟩ wA (hE.ext hEA) (by decide +kernel))
  rw [hT0, show readRest t686 = ⟨#[54, 56, 54]⟩ by unfold readRest; rw [read_686]; rfl, show readOrders t686 = [⟨#[115, 97, 121]⟩] by unfold readOrders; rw [read_686]; rfl] at HR0
  have HFI := Lib.hid (fun W (q : Ext wA W) => firm_c v u z s L W (HR.out.ext q) (HL.out.ext q) (HE.out.ext q) (HT.out.ext q) (Nat.le_trans h7A q.size))
  have HRP := Lib.hid (fun W (q : Ext wA W) (bk : ByteArray) (hb : bk.size ≤ 1000000) => Replay_c (fun _ => false) v s bk W (fun k hk => by cases hk) (HR.out.ext q) (HE.out.ext q) (HT.out.ext q) (Nat.le_trans h7A q.size) hb)
  obtain ⟨av, cv, rfl, _⟩ := h.open_
  obtain ⟨au, cu, rfl, hc1, hc2, _⟩ := hl.open_
  have hs1 : ((⟨#[115, 97, 121]⟩ : ByteArray).toList != (⟨#[115, 97, 121]⟩ : ByteArray).toList) = false := by simp
  have hs2 : ((⟨#[54, 56, 54]⟩ : ByteArray).toList != (⟨#[54, 56, 54]⟩ : ByteArray).toList) = false := by simp
  have b0 := hbA.cell (i := 0) rfl
  have b1 := hbA.cell (i := 1) rfl
  have b2 := hbA.cell (i := 2) rfl
  clear h hl hE hT hT0 hbA
  go_enter Tryz.func17, Tryz.ntmps17
  go_upto_region 1 with fail
  rw [← HWA.out]
  rw [← hg1]
  clear hg1
  go_wp2_with fail
  refine HR0.out.mono ?_; rintro e w1 ⟨v1, rfl, ho1, hx1⟩
  obtain ⟨a1, c1, rfl, _, HT1⟩ := OCel.txt ho1
  obtain ⟨n1, o1, rfl, p1⟩ := HT1.out 0 (by decide)
  rw [Nat.add_zero] at p1
  simp only [List.getElem_cons_zero] at p1
  have d0 := hx1.keep b0
  have d1 := hx1.keep b1
  have d2 := hx1.keep b2
  clear HT1 ho1
  simp only [List.length_singleton]
  go_wp2_with fail
  refine (HFI.out w1 hx1).mono ?_; rintro e w2 ⟨hx2, ⟨h0, rfl⟩ | ⟨hv, b, m1, rv, vv, S, u2, hbz, rfl, hF, ho2⟩⟩
  · clear h0
    go_wp2_with fail
    go_ret
    exact ⟨rfl, (hEA.trans hx1).trans hx2⟩
  have hX2 := hx1.trans hx2
  have hM := (run_inv (s := s) (L.take 40) (inv_new hv) (made_new s)).2
  have hl40 : (runS s st0 (L.take 40)).orders.length ≤ 1000 := Nat.le_trans hF.hI.olen (by omega)
  have hmt := made_take hM
  generalize runS s st0 (L.take 40) = x at *
  have hR := hF.hI.rightT
  have hle := hF.hI.olen
  have HV := Lib.hid hv
  have HBK := Lib.hid (Book_c hF (HE.out.ext hX2))
  obtain ⟨q1, q2, q3⟩ := read_book hR hle
  obtain ⟨q4, q5⟩ := write_all hR hle
  obtain ⟨a2, c2, rfl, HS2, HT2⟩ := OCel.txt ho2
  have HOK := Lib.hid hmt
  clear hF ho2 hv hM hmt
  generalize x.orders = O at *
  have HMB := Lib.hid (fun m (hm : m ≤ O.length) => merge_book hR hle hm)
  have HBC := Lib.hid (fun k => book_cut hR hle k)
  have HRG := Lib.hid hR
  generalize hB : bookB O = B at *
  have HB := Lib.hid hB
  clear hB hR
  have hbs : (⟨B.toArray⟩ : ByteArray).size = B.length := ofBs_size B
  have hnb : ((⟨B.toArray⟩ : ByteArray).toList != (⟨B.toArray⟩ : ByteArray).toList) = false := by simp
  have hn0 : ((⟨#[]⟩ : ByteArray).toList != (⟨#[]⟩ : ByteArray).toList) = false := by simp
  have HWR := Lib.hid (fun W (q : Ext w2 W) => Write_c _ O W (HS2.out.ext q) (HE.out.ext (hX2.trans q)))
  rw [q4, q5] at HWR
  have HRD := Lib.hid (fun W (q : Ext wA W) => Read_c ⟨B.toArray⟩ W (HE.out.ext q) (by rw [hbs]; omega))
  rw [show txt ⟨B.toArray⟩ = B from txt_of B, q1, show readRest B = ⟨#[]⟩ by unfold readRest; rw [q2]; rfl] at HRD
  clear q4 q5 q1 q2
  obtain ⟨kk, hkk, hke⟩ := uint_mod9 z B.length (by omega)
  obtain ⟨mm, hmm, hm2, hm3, hm4⟩ := HBC.out kk hkk
  have hx2k : (⟨B.toArray⟩ : ByteArray).extract 0 kk = ⟨(B.take kk).toArray⟩ := extract_take _ kk (by omega)
  have hks : (⟨(B.take kk).toArray⟩ : ByteArray).size = (B.take kk).length := ofBs_size _
  have htk : (B.take kk).length ≤ 3900 := by rw [List.length_take]; omega
  have HRD2 := Lib.hid (fun W (q : Ext wA W) => Read_c ⟨(B.take kk).toArray⟩ W (HE.out.ext q) (by rw [hks]; omega))
  rw [show txt ⟨(B.take kk).toArray⟩ = B.take kk from txt_of _, hm2] at HRD2
  have HRL := Lib.hid (fun W (q : Ext wA W) => HRP.out W q ⟨(B.take kk).toArray⟩ (by rw [hks]; omega))
  rw [show txt ⟨(B.take kk).toArray⟩ = B.take kk from txt_of _, hm2] at HRL
  have hrs : (readRest (B.take kk)).size = ((readB (B.take kk)).2).length := ofBs_size _
  have hre : (readRest (B.take kk)).toList.isEmpty = decide ((readB (B.take kk)).2 = []) := rest_isEmpty _
  generalize hQ : (readB (B.take kk)).2 = Q at *
  clear hQ
  generalize readRest (B.take kk) = RR at *
  have hkq : ((kk : Int) - (Q.length : Int)) = ((kk - Q.length : Nat) : Int) := by omega
  have hx2w : (⟨B.toArray⟩ : ByteArray).extract 0 (kk - Q.length) = ⟨(bookB (O.take mm)).toArray⟩ := by rw [extract_take _ _ (by omega), show txt ⟨B.toArray⟩ = B from txt_of B, hm4]
  have hwz : (⟨(bookB (O.take mm)).toArray⟩ : ByteArray).size ≤ 3900 := by
    rw [show (⟨(bookB (O.take mm)).toArray⟩ : ByteArray).size = (bookB (O.take mm)).length from ofBs_size _, ← hm4, List.length_take]; omega
  obtain ⟨M1, M2⟩ := HMB.out mm hmm
  have HM1 := Lib.hid (fun W (q : Ext wA W) => Merge_c ⟨(bookB (O.take mm)).toArray⟩ ⟨B.toArray⟩ W (HE.out.ext q) (by omega) (by omega))
  have HM2 := Lib.hid (fun W (q : Ext wA W) => Merge_c ⟨B.toArray⟩ ⟨(bookB (O.take mm)).toArray⟩ W (HE.out.ext q) (by omega) (by omega))
  rw [show mergeV ⟨(bookB (O.take mm)).toArray⟩ ⟨B.toArray⟩ = _ from M1] at HM1
  rw [show mergeV ⟨B.toArray⟩ ⟨(bookB (O.take mm)).toArray⟩ = _ from M2] at HM2
  simp only [ofBs] at HM1 HM2
  clear M1 M2 hm4
  generalize (⟨(bookB (O.take mm)).toArray⟩ : ByteArray) = WH at *
  have htm : (O.take mm).length = mm := by rw [List.length_take]; omega
  have HTM := Lib.hid htm
  have HTA : Hid (∀ i (hi : i < mm), ∃ h1 h2, (O.take mm)[i]'h1 = O[i]'h2) := Lib.hid (fun i hi => ⟨by omega, by omega, by rw [List.getElem_take]⟩)
  go_wp2_with fail
  refine HBK.out.mono ?_; rintro e w3 ⟨rfl, hx3⟩
  have hX3 := hX2.trans hx3
  go_wp2_with fail
  refine (HWR.out w3 hx3).mono ?_; rintro e w4 ⟨rfl, hx4⟩
  have hX4 := hX3.trans hx4
  go_wp2_with fail
  refine (HRD.out w4 hX4).mono ?_; rintro e w5 ⟨v5, rfl, ho5, hx5⟩
  obtain ⟨a5, c5, rfl, _, HT5⟩ := OCel.txt ho5
  have hX5 := hX4.trans hx5
  have hx25 := (hx3.trans hx4).trans hx5
  clear ho5
  go_wp2_with fail
  go_loopg [13] O.length (fun m i wr => ∃ k : Nat, k ≤ O.length ∧ O.length ≤ k + m ∧ i = .int .i64 k ∧ Ext w5 wr)
  case atStart => exact ⟨0, by omega, by omega, rfl, Ext.refl _⟩
  case round =>
    obtain ⟨k, hk, hkm, rfl, hwx⟩ := hrel
    by_cases hlt : k < O.length
    · obtain ⟨ba, oa, rfl, e1⟩ := HT5.out k hlt
      obtain ⟨bb, ob, rfl, e2⟩ := HT2.out k hlt
      replace e1 := hwx.keep e1
      replace e2 := (hx25.trans hwx).keep e2
      generalize O[k] = y at *
      have hyy : (y.toList != y.toList) = false := by simp
      go_wp2_with fail
      go_quiet (fail)
      go_wp2_with fail
      go_roundg (gk-1)
      case measure => omega
      case rel => exact ⟨k+1, by omega, by omega, by go_num, hwx.trans (Ext.drewN _ _)⟩
    · have hX6 := hX5.trans hwx
      replace b0 := hX6.keep b0
      replace b1 := hX6.keep b1
      replace b2 := hX6.keep b2
      go_wp2_with fail
      refine (HRD2.out wr hX6).mono ?_; rintro e w7 ⟨v7, rfl, ho7, hx7⟩
      obtain ⟨a7, c7, hv7, _, HT7⟩ := OCel.txt ho7
      rw [htm] at hv7
      subst hv7
      have hX7 := hX6.trans hx7
      have hx27 := (hx25.trans hwx).trans hx7
      clear ho7 d0 d1 d2
      have e0 := hx7.keep b0
      have hg1 : decide ((O.length : Int) < (mm : Int)) = false := decide_eq_false (by omega)
      have hg2 : decide ((kk : Int) < (Q.length : Int)) = false := decide_eq_false (by omega)
      go_wp2_with fail
      go_loopg [15] mm (fun m i wr => ∃ k : Nat, k ≤ mm ∧ mm ≤ k + m ∧ i = .int .i64 k ∧ Ext w7 wr)
      case atStart => exact ⟨0, by omega, by omega, rfl, Ext.refl _⟩
      case round =>
        obtain ⟨k2, hk2, hkm2, rfl, hwx2⟩ := hrel
        by_cases hlt2 : k2 < mm
        · obtain ⟨ba, oa, rfl, e1⟩ := HT7.out k2 (by rw [List.length_take]; omega)
          obtain ⟨bb, ob, rfl, e2⟩ := HT2.out k2 (by omega)
          obtain ⟨_, _, hte⟩ := HTA.out k2 hlt2
          rw [hte] at e1
          replace e1 := hwx2.keep e1
          replace e2 := (hx27.trans hwx2).keep e2
          generalize O[k2]'(by omega) = y at *
          have hyy : (y.toList != y.toList) = false := by simp
          go_wp2_with fail
          go_quiet (fail)
          go_wp2_with fail
          go_roundg (gk-1)
          case measure => omega
          case rel => exact ⟨k2+1, by omega, by omega, by go_num, hwx2.trans (Ext.drewN _ _)⟩
        · have hX8 := hX7.trans hwx2
          replace e0 := hwx2.keep e0
          go_wp2_with fail
          refine (HM1.out wr hX8).mono ?_; rintro e w9 ⟨rfl, hx9⟩
          have hX9 := hX8.trans hx9
          go_wp2_with fail
          refine (HM2.out w9 hX9).mono ?_; rintro e w10 ⟨rfl, hx10⟩
          have hX10 := hX9.trans hx10
          replace e0 := (hx9.trans hx10).keep e0
          have HQN : Hid (Q = [] → ∀ e W w', RRepL (fun _ => false) s (O.take mm) Q W e w' → Ext W w' ∧ ∃ g, e = .returned (.tuple #[.pointer (some ⟨g, 0, none⟩), .int .i64 mm, .int .i64 0])) := Lib.hid (fun hq e W w' hres => by
            obtain ⟨hx, hres⟩ := hres
            refine ⟨hx, ?_⟩
            rcases hres with ⟨h0, _⟩ | ⟨_, h0, _⟩ | ⟨_, _, k, t, y1, _, y2, _⟩ | ⟨_, _, _, g2, m2, rv2, v2, y1, y2, y3⟩
            · exact absurd HV.out h0
            · exact absurd hq h0
            · exact absurd (ok_at (HOK.out mm).1 y1) y2
            · rw [HTM.out] at y2; exact ⟨g2, y2⟩)
          have HQY : Hid (Q ≠ [] → ∀ e W w', RRepL (fun _ => false) s (O.take mm) Q W e w' → Ext W w' ∧ e = .returned (.tuple #[.pointer none, .int .i64 0, .int .i64 10])) := Lib.hid (fun hq e W w' hres => by
            obtain ⟨hx, hres⟩ := hres
            refine ⟨hx, ?_⟩
            rcases hres with ⟨h0, _⟩ | ⟨_, _, h0⟩ | ⟨_, h0, _⟩ | ⟨_, h0, _⟩
            · exact absurd HV.out h0
            · exact h0
            · exact absurd h0 hq
            · exact absurd h0 hq)
          by_cases hq : Q = []
          · have hq0 : (decide (Q = [])) = true := by simp [hq]
            rw [hq0] at hre
            have HQ := Lib.hid hq
            clear hq hq0
            go_upto_region 33 with fail
            refine wp_region_treeR (fun a b => Ext a b) [] (.look 0 (.look 1 (.look 2 (.look 3 (.look 4 (.one 5 (.look 6 (.look 7 (.look 8 (.look 9 (.look 10 (.look 11 (.look 12 .done))))))))))))) (fun w => Ext.refl w) (fun a b c h k => Ext.trans h k) (by kernel_rfl) (by kernel_rfl) (by intro c a d v w h; cases d <;> exact h) ?_
            have hxd := drawnP_ext w10
            generalize { w10 with drawn := w10.drawn + 1 } = w11 at *
            have k0 : ∀ q : InC (fun c => Ext w11 c), q.w.cell? ⟨g1, 0, none⟩ = some (.slice av s.length cv) := fun q => q.h.keep (hxd.keep e0)
            iterate 5 (refine wpTreeR_look rfl (fun K hK => ?_); go_simp; first | (refine hK _ ?_; clear hK K) | (refine ⟨_, fun _ => rfl, hK _ ?_⟩; clear hK K))
            refine wpTreeR_one rfl rfl (fun K hK => ?_)
            go_wp2_with fail
            refine (HRL.out w11 (hX10.trans hxd)).mono ?_; rintro e w12 hres
            obtain ⟨hx12, g, rfl⟩ := HQN.out HQ.out _ _ _ hres
            go_wp2_with fail
            refine ⟨.inr hx12, ?_⟩
            iterate 7 (refine wpTreeR_look rfl (fun K hK => ?_); go_simp; first | (refine hK _ ?_; clear hK K) | (refine ⟨_, fun _ => rfl, hK _ ?_⟩; clear hK K))
            refine wpTreeR_done ?_
            go_wp2_with fail
            go_ret
            exact ⟨rfl, (hEA.trans (hX10.trans hxd)).trans hx12⟩
          · have hq0 : (decide (Q = [])) = false := by simp [hq]
            rw [hq0] at hre
            have HQ := Lib.hid hq
            clear hq hq0
            go_upto_region 33 with fail
            refine wp_region_treeR (fun a b => Ext a b) [] (.look 0 (.look 1 (.look 2 (.look 3 (.look 4 (.one 5 (.look 6 (.look 7 (.look 8 (.look 9 (.look 10 (.look 11 (.look 12 .done))))))))))))) (fun w => Ext.refl w) (fun a b c h k => Ext.trans h k) (by kernel_rfl) (by kernel_rfl) (by intro c a d v w h; cases d <;> exact h) ?_
            have hxd := drawnP_ext w10
            generalize { w10 with drawn := w10.drawn + 1 } = w11 at *
            have k0 : ∀ q : InC (fun c => Ext w11 c), q.w.cell? ⟨g1, 0, none⟩ = some (.slice av s.length cv) := fun q => q.h.keep (hxd.keep e0)
            iterate 5 (refine wpTreeR_look rfl (fun K hK => ?_); go_simp; first | (refine hK _ ?_; clear hK K) | (refine ⟨_, fun _ => rfl, hK _ ?_⟩; clear hK K))
            refine wpTreeR_one rfl rfl (fun K hK => ?_)
            go_wp2_with fail
            refine (HRL.out w11 (hX10.trans hxd)).mono ?_; rintro e w12 hres
            obtain ⟨hx12, rfl⟩ := HQY.out HQ.out _ _ _ hres
            go_wp2_with fail
            refine ⟨.inr hx12, ?_⟩
            iterate 7 (refine wpTreeR_look rfl (fun K hK => ?_); go_simp; first | (refine hK _ ?_; clear hK K) | (refine ⟨_, fun _ => rfl, hK _ ?_⟩; clear hK K))
            refine wpTreeR_done ?_
            go_wp2_with fail
            go_ret
            exact ⟨rfl, (hEA.trans (hX10.trans hxd)).trans hx12⟩
end Go.Proofs.YtpmlcfgbfhgpgaaGreatDoor
