/- TopSchool: the walk. -/
import Derived.Test.YtpmlcfgbfhgpgaaGreatDoorLawTopReplay
import Derived.Test.YtpmlcfgbfhgpgaaGreatDoorJoinB
namespace Go.Proofs.YtpmlcfgbfhgpgaaGreatDoor
open Go.RowKit Go.Shelf
set_option linter.unusedVariables false
theorem strs_pre9 {w : World} {a : Option Addr} {n c m : Nat} {L : List ByteArray} (h : Strs w (.slice a n c) L) (hm : m ≤ L.length) : Strs w (.slice a m m) (L.take m) := by
  obtain ⟨a', c', hv, h1, h2, H⟩ := h
  injection hv with e1 e2 e3
  subst e1 e2 e3
  have hl : (L.take m).length = m := by rw [List.length_take]; omega
  refine ⟨a, m, by rw [hl], by rw [hl]; omega, by omega, fun i hi => ?_⟩
  rw [hl] at hi
  obtain ⟨b, o, ha, hc⟩ := H i (by omega)
  exact ⟨b, o, ha, fun j x u hx hu => hc j x u (by rwa [List.getElem?_take_of_lt hi] at hx) hu⟩
theorem sameTexts_t (va vb : Value) (L : List ByteArray) (w : World) (ha : Strs w va L) (hb : Strs w vb L) : Calls Tryz.prog 41 #[va, vb] w (RV (.bool true) w) := by
  refine (sameTexts_c va vb L w ha hb).mono ?_; rintro e w' ⟨rfl, n, rfl⟩
  exact ⟨rfl, Ext.drewN _ _⟩
set_option maxHeartbeats 16000000 in
set_option maxRecDepth 100000 in
theorem topSchool_c (v u : Value) (z : Int) (s : List Rul) (L : List ByteArray) (w : World) (h : Ruls w v s) (hl : Strs w u L) (hz : (Lit.int .i64 z).wf = true) (hE : Env w) (hT : ErrT w) (h7 : 7 ≤ w.heap.size) :
    Calls Tryz.prog 19 #[v, u, .int .i64 z] w (RV (.bool true) w) := by
  have HS0 := Lib.hid (Sum_c 0 ⟨#[97]⟩ w (by decide) (by decide))
  have HLG := Lib.hid (Large9_c v s w h)
  have HLO := Lib.hid (fun W (q : Ext w W) => Long9_c u L W (hl.ext q))
  have HR := Lib.hid h
  have HL := Lib.hid hl
  have HE := Lib.hid hE
  have HT := Lib.hid hT
  have HNE := Lib.hid (fun W (q : Ext w W) => New_c (fun _ => false) v s W (fun k hk => by cases hk) (h.ext q))
  have HRP := Lib.hid (fun W (q : Ext w W) (bk : ByteArray) (hb : bk.size ≤ 1000000) => Replay_c (fun _ => false) v s bk W (fun k hk => by cases hk) (h.ext q) (hE.ext q) (hT.ext q) (Nat.le_trans h7 q.size) hb)
  obtain ⟨av, cv, rfl, _⟩ := h.open_
  obtain ⟨au, cu, rfl, _⟩ := hl.open_
  clear h hl hE hT
  cases hb1 : largeB s with
  | true =>
    rw [hb1] at HLG
    clear hb1
    go_enter Tryz.func19, Tryz.ntmps19
    go_wp2_with fail
    refine HS0.out.mono ?_; rintro e w0 ⟨rfl, rfl⟩
    rw [show sumB 0 (⟨#[97]⟩ : ByteArray).data.toList = 98 by decide +kernel]
    go_wp2_with fail
    refine HLG.out.mono ?_; rintro e w1 ⟨rfl, hx1⟩
    go_wp2_with fail
    go_ret
    exact ⟨rfl, hx1⟩
  | false =>
    rw [hb1] at HLG
    cases hb2 : longT L with
    | true =>
      rw [hb2] at HLO
      clear hb1 hb2
      go_enter Tryz.func19, Tryz.ntmps19
      go_wp2_with fail
      refine HS0.out.mono ?_; rintro e w0 ⟨rfl, rfl⟩
      rw [show sumB 0 (⟨#[97]⟩ : ByteArray).data.toList = 98 by decide +kernel]
      go_wp2_with fail
      refine HLG.out.mono ?_; rintro e w1 ⟨rfl, hx1⟩
      go_wp2_with fail
      refine (HLO.out w1 hx1).mono ?_; rintro e w2 ⟨rfl, hx2⟩
      go_wp2_with fail
      go_ret
      exact ⟨rfl, hx1.trans hx2⟩
    | false =>
      rw [hb2] at HLO
      clear hb1 hb2
      by_cases hv : validS s = 0
      · have HV := Lib.hid hv; clear hv
        go_enter Tryz.func19, Tryz.ntmps19
        go_wp2_with fail
        refine HS0.out.mono ?_; rintro e w0 ⟨rfl, rfl⟩
        rw [show sumB 0 (⟨#[97]⟩ : ByteArray).data.toList = 98 by decide +kernel]
        go_wp2_with fail
        refine HLG.out.mono ?_; rintro e w1 ⟨rfl, hx1⟩
        go_wp2_with fail
        refine (HLO.out w1 hx1).mono ?_; rintro e w2 ⟨rfl, hx2⟩
        go_wp2_with fail
        have hX2 := hx1.trans hx2
        refine (HNE.out w2 hX2).mono ?_; rintro e w3 ⟨hx3, ⟨h0, _⟩ | ⟨_, b, m1, rv, v0, rfl, hbz, hSc⟩⟩
        · exact absurd HV.out h0
        have hX3 := hX2.trans hx3
        have hbw : w.heap.size ≤ b := Nat.le_trans hX2.size hbz
        have hb7 : 7 ≤ b := Nat.le_trans h7 hbw
        have HX3 := Lib.hid hX3
        have hu3 : Strs (hole (more (fun _ => false) b) w3) (.slice au L.length cu) L := HL.out.ext (hole_new hX3 (fun k hk => by
          rcases more_or hk with hk | hk
          · cases hk
          · omega))
        obtain ⟨au', cu', hul, _, _, HC2⟩ := Strs.at_ hu3
        injection hul with hul1 hul2 hul3
        subst hul1 hul3
        clear hu3 hul2
        have HI0 := Lib.hid (fun k => run_inv (s := s) (L.take k) (inv_new HV.out) (made_new s))
        go_wp2_with fail
        go_loopg [13, 9] 30 (fun m i t9 wr => ∃ (k : Nat) (v' : SV) (z9 : Int), k ≤ L.length ∧ k ≤ 30 ∧ 30 ≤ k + m ∧ i = .int .i64 k ∧ t9 = .int .i64 z9 ∧ ExtX (one b) w3 wr ∧ SchF (more (fun _ => false) b) b m1 rv v' (runS s st0 (L.take k)) s wr)
        case atStart => exact ⟨0, v0, 0, by omega, by omega, by omega, rfl, rfl, ExtX.refl _ _, hSc⟩
        case round =>
          obtain ⟨k, v', z9, hk1, hk4, hk2, rfl, rfl, hEr, hSr⟩ := hrel
          have hXr : Ext w wr := ((HX3.out.toX (one b)).trans hEr).ext (fun q hq => by simp [one]; omega)
          have HTK : Hid (∀ h : k < L.length, runS s st0 (L.take (k + 1)) = (doS s (runS s st0 (L.take k)) L[k]).1) := Lib.hid (fun h => run_take L h)
          have HMK := Lib.hid (HI0.out k).2
          generalize hxk : runS s st0 (L.take k) = x at *
          have HXK := Lib.hid hxk; clear hxk
          by_cases hlt : k < L.length
          · by_cases h30 : k < 30
            · obtain ⟨bl, ol, ha2, hcl⟩ := HC2.out k hlt
              subst ha2
              have HBK := Lib.hid (Book_c hSr (HE.out.ext hXr))
              have HDO := Lib.hid (fun W (q : Ext wr W) => DoL_c (hSr.ext q) (HE.out.ext (hXr.trans q)) (HT.out.ext (hXr.trans q)) hb7 L[k])
              have HRN := Lib.hid (HTK.out hlt)
              generalize L[k] = tk at *
              have HMA : Hid (∀ W y, SchF (more (fun _ => false) b) b m1 rv y (doS s x tk).1 s W → Ext w W → Calls Tryz.prog 31 #[.pointer (some ⟨b, 0, none⟩), .slice av s.length cv] W (RV (.bool true) W)) := Lib.hid (fun W y q1 q2 => Made_c q1 _ (HR.out.ext q2))
              have HEr := Lib.hid hEr
              by_cases hz0 : (doS s x tk).2 = 0
              · generalize hRR : doS s x tk = RR at *
                obtain ⟨R1, R2⟩ := RR
                dsimp only at hz0
                subst hz0
                clear hSr hEr
                go_wp2_with fail
                refine HBK.out.mono ?_; rintro e w5 ⟨rfl, hx5⟩
                have tl := hole_sub (more (fun _ => false) b) w5 _ _ (hole_keep (more_self _ _) (HEr.out.trans (hx5.toX (one b))) _ _ hcl)
                go_wp2_with fail
                refine (HDO.out w5 hx5).mono ?_; rintro e w6 ⟨he, hE6, v6, hB6⟩
                dsimp only at he
                subst he
                have hEX : ExtX (one b) w3 w6 := (HEr.out.trans (hx5.toX (one b))).trans hE6
                have hX6 : Ext w w6 := ((HX3.out.toX (one b)).trans hEX).ext (fun q hq => by simp [one]; omega)
                go_wp2_with fail
                refine (HMA.out w6 v6 hB6 hX6).mono ?_; rintro e w7 ⟨rfl, hx7⟩
                go_wp2_with fail
                go_roundg (gk-1)
                case measure => omega
                case rel => exact ⟨k + 1, v6, 0, by omega, by omega, by omega, by go_num, rfl, hEX.trans (hx7.toX (one b)), by rw [HRN.out]; exact hB6.ext hx7⟩
              · have hRS := do_refused hz0
                have hzn : ((doS s x tk).2 != 0) = true := by simpa using hz0
                rw [hRS] at HRN
                have HB2 : Hid (∀ W y, SchF (more (fun _ => false) b) b m1 rv y x s W → Ext w W → Calls Tryz.prog 38 #[.pointer (some ⟨b, 0, none⟩)] W (RV (.string ⟨(bookB x.orders).toArray⟩) W)) := Lib.hid (fun W y q1 q2 => Book_c q1 (HE.out.ext q2))
                rw [hRS] at HMA
                have HDO2 : Hid (∀ W, Ext wr W → Calls Tryz.prog 26 #[.pointer (some ⟨b, 0, none⟩), .string tk] W (RDoF (more (fun _ => false) b) b m1 rv s (x, (doS s x tk).2) W)) := Lib.hid (by have := HDO.out; rw [show doS s x tk = (x, (doS s x tk).2) from Prod.ext hRS rfl] at this; exact this)
                clear hz0 HDO hRS hSr hEr
                generalize (doS s x tk).2 = R2 at *
                generalize hBB : bookB x.orders = BB at *
                clear hBB
                have hnb : ((⟨BB.toArray⟩ : ByteArray).toList != (⟨BB.toArray⟩ : ByteArray).toList) = false := by simp
                go_wp2_with fail
                refine HBK.out.mono ?_; rintro e w5 ⟨rfl, hx5⟩
                have tl := hole_sub (more (fun _ => false) b) w5 _ _ (hole_keep (more_self _ _) (HEr.out.trans (hx5.toX (one b))) _ _ hcl)
                go_wp2_with fail
                refine (HDO2.out w5 hx5).mono ?_; rintro e w6 ⟨he, hE6, v6, hB6⟩
                dsimp only at he hB6
                subst he
                have hEX : ExtX (one b) w3 w6 := (HEr.out.trans (hx5.toX (one b))).trans hE6
                have hX6 : Ext w w6 := ((HX3.out.toX (one b)).trans hEX).ext (fun q hq => by simp [one]; omega)
                go_wp2_with fail
                refine (HB2.out w6 v6 hB6 hX6).mono ?_; rintro e w7 ⟨rfl, hx7⟩
                have hB7 := hB6.ext hx7
                go_wp2_with fail
                refine (HMA.out w7 v6 hB7 (hX6.trans hx7)).mono ?_; rintro e w8 ⟨rfl, hx8⟩
                go_wp2_with fail
                go_roundg (gk-1)
                case measure => omega
                case rel => exact ⟨k + 1, v6, R2, by omega, by omega, by omega, by go_num, rfl, hEX.trans ((hx7.trans hx8).toX (one b)), by rw [HRN.out]; exact hB7.ext hx8⟩
            · obtain rfl : k = 30 := by omega
              have hM := HMK.out
              have hF := hSr
              have hR := hF.hI.rightT
              have hle := hF.hI.olen
              have HM := Lib.hid hM
              have HF := Lib.hid hF
              have HBK := Lib.hid (Book_c hF (HE.out.ext hXr))
              have HAU := Lib.hid (fun W (q : Ext wr W) => Audit_c (hF.ext q) hM (HE.out.ext (hXr.trans q)) (HT.out.ext (hXr.trans q)) (Nat.le_trans h7 (hXr.trans q).size))
              have HB := Lib.hid (read_book hR hle)
              have hBl := (read_book hR hle).2.2
              have HBC := Lib.hid (book_cut hR hle)
              have HMB := Lib.hid (fun m => merge_book (m := m) hR hle)
              have HRTK := Lib.hid (read_take hR hle)
              have HOK : Hid (∀ k (hk : k < x.orders.length), (doS s (runS s st0 (x.orders.take k)) x.orders[k]).2 = 0) := Lib.hid (fun k hk => ok_at HM.out.ok (List.getElem?_eq_getElem hk))
              have HRT : Hid (∀ k (hk : k < x.orders.length), runS s st0 (x.orders.take (k + 1)) = (doS s (runS s st0 (x.orders.take k)) x.orders[k]).1) := Lib.hid (fun k hk => run_take x.orders hk)
              have hRALL : runS s st0 (x.orders.take x.orders.length) = x := by rw [List.take_length]; exact hM.run
              have HRA := Lib.hid hRALL
              have HRL0 : Hid (∀ m, m ≤ x.orders.length → ∀ W, Ext w W → Calls Tryz.prog 55 #[.slice av s.length cv, .string ⟨(bookB (x.orders.take m)).toArray⟩] W (fun e w' => Ext W w' ∧ ∃ b m1 rv v, W.heap.size ≤ b ∧ e = .returned (.tuple #[.pointer (some ⟨b, 0, none⟩), .int .i64 m, .int .i64 0]) ∧ SchF (more (fun _ => false) b) b m1 rv v (runS s st0 (x.orders.take m)) s w')) := Lib.hid (fun m hm W q => by
                obtain ⟨t1, t2, t3⟩ := HRTK.out m
                have hbt : (⟨(bookB (x.orders.take m)).toArray⟩ : ByteArray).size = (bookB (x.orders.take m)).length := ofBs_size _
                have hh := HRP.out W q ⟨(bookB (x.orders.take m)).toArray⟩ (by omega)
                rw [show txt ⟨(bookB (x.orders.take m)).toArray⟩ = bookB (x.orders.take m) from txt_of _, t1, t2] at hh
                refine hh.mono ?_
                rintro e w' hres
                exact replay_ok HV.out HM.out hm hres)
              have HX1 := Lib.hid hXr
              have HTH : Hid (∀ W (q : Ext wr W), SchF (more (fun _ => false) b) b m1 rv v' x s W) := Lib.hid (fun W q => hF.ext q)
              clear hSr hF hM hR hRALL hEr
              generalize hO : x.orders = O at *
              have HOB0 := Lib.hid hO
              clear hO
              obtain ⟨kk, hkk2, hke⟩ := uint_mod9 z (bookB O).length (by omega)
              obtain ⟨mm, hmm, hm2, hm3, hm4⟩ := HBC.out kk hkk2
              obtain ⟨q1, q2, _⟩ := HB.out
              obtain ⟨M1, _⟩ := HMB.out mm hmm
              have HRL := Lib.hid (HRL0.out mm hmm)
              have hw3 : (bookB (O.take mm)).length ≤ 3900 := (HRTK.out mm).2.2
              generalize hBB : bookB O = B at *
              have HOB : Hid (bookB x.orders = B) := Lib.hid (by rw [HOB0.out]; exact hBB)
              clear hBB
              have hbs : (⟨B.toArray⟩ : ByteArray).size = B.length := ofBs_size B
              have hbb : ((⟨B.toArray⟩ : ByteArray).toList == (⟨B.toArray⟩ : ByteArray).toList) = true := by simp
              have hn0 : ((⟨#[]⟩ : ByteArray).toList != (⟨#[]⟩ : ByteArray).toList) = false := by simp
              have HRD := Lib.hid (fun W (q : Ext w W) => Read_c ⟨B.toArray⟩ W (HE.out.ext q) (by rw [hbs]; omega))
              rw [show txt ⟨B.toArray⟩ = B from txt_of B, q1, show readRest B = ⟨#[]⟩ by unfold readRest; rw [q2]; rfl] at HRD
              have hx2k : (⟨B.toArray⟩ : ByteArray).extract 0 kk = ⟨(B.take kk).toArray⟩ := extract_take _ kk (by omega)
              have hks : (⟨(B.take kk).toArray⟩ : ByteArray).size = (B.take kk).length := ofBs_size _
              have htk : (B.take kk).length ≤ 3900 := by rw [List.length_take]; omega
              have HRD2 := Lib.hid (fun W (q : Ext w W) => Read_c ⟨(B.take kk).toArray⟩ W (HE.out.ext q) (by rw [hks]; omega))
              rw [show txt ⟨(B.take kk).toArray⟩ = B.take kk from txt_of _, hm2] at HRD2
              have hrs : (readRest (B.take kk)).size = ((readB (B.take kk)).2).length := ofBs_size _
              generalize hQ : ((readB (B.take kk)).2).length = Q at *
              clear hQ
              generalize readRest (B.take kk) = RR at *
              have hkq : ((kk : Int) - (Q : Int)) = ((kk - Q : Nat) : Int) := by omega
              have hx2w : (⟨B.toArray⟩ : ByteArray).extract 0 (kk - Q) = ⟨(bookB (O.take mm)).toArray⟩ := by rw [extract_take _ _ (by omega), show txt ⟨B.toArray⟩ = B from txt_of B, hm4]
              have hwz : (⟨(bookB (O.take mm)).toArray⟩ : ByteArray).size ≤ 3900 := by
                rw [show (⟨(bookB (O.take mm)).toArray⟩ : ByteArray).size = (bookB (O.take mm)).length from ofBs_size _]; exact hw3
              have HM1 := Lib.hid (fun W (q : Ext w W) => Merge_c ⟨(bookB (O.take mm)).toArray⟩ ⟨B.toArray⟩ W (HE.out.ext q) (by omega) (by omega))
              rw [show mergeV ⟨(bookB (O.take mm)).toArray⟩ ⟨B.toArray⟩ = _ from M1] at HM1
              simp only [ofBs] at HM1
              clear M1 hm4 q1 q2 HBC HMB HRTK
              generalize (⟨(bookB (O.take mm)).toArray⟩ : ByteArray) = WH at *
              have htm : (O.take mm).length = mm := by rw [List.length_take]; omega
              go_wp2_with fail
              refine HBK.out.mono ?_; rintro e w5 ⟨rfl, hx5⟩
              have hX5 := hXr.trans hx5
              go_wp2_with fail
              refine (HRD.out w5 hX5).mono ?_; rintro e w6 ⟨v6, rfl, ho6, hx6⟩
              have hX6 := hX5.trans hx6
              obtain ⟨a6, c6, rfl, HS6, HT6⟩ := OCel.txt ho6
              clear ho6
              go_wp2_with fail
              refine (HRD2.out w6 hX6).mono ?_; rintro e w7 ⟨v7, rfl, ho7, hx7⟩
              have hX7 := hX6.trans hx7
              obtain ⟨a7, c7, hv7, HS7, _⟩ := OCel.txt ho7
              rw [htm] at hv7 HS7
              subst hv7
              clear ho7
              have hg1 : decide ((O.length : Int) < (mm : Int)) = false := decide_eq_false (by omega)
              have hg2 : decide ((kk : Int) < (Q : Int)) = false := decide_eq_false (by omega)
              have hmi : decide ((mm : Int) ≤ (O.length : Int)) = true := decide_eq_true (by omega)
              have hcap : O.length ≤ c6 := by
                obtain ⟨_, _, hce, hcl, _⟩ := HS6.out.open_
                injection hce with _ _ hce
                omega
              have hmc : decide ((mm : Int) ≤ (c6 : Int)) = true := decide_eq_true (by omega)
              go_wp2_with fail
              refine (sameTexts_t _ _ (O.take mm) w7 HS7.out (strs_pre9 (HS6.out.ext hx7) hmm)).mono ?_; rintro e w8 ⟨rfl, hx8⟩
              have hX8 := hX7.trans hx8
              have hx68 := hx7.trans hx8
              go_wp2_with fail
              refine (HRL.out w8 hX8).mono ?_; rintro e w9 ⟨hx9, bx, mx, rx, vx, hbx, rfl, hFx⟩
              have hX9 := hX8.trans hx9
              have HFX := Lib.hid hFx
              clear hFx
              have hz8 := hX8.size
              have hbx7 : 7 ≤ bx := by omega
              have hx69 := hx68.trans hx9
              have hxr8 : Ext wr w8 := (hx5.trans hx6).trans hx68
              have hxr6 : Ext wr w6 := hx5.trans hx6
              go_wp2_with fail
              go_loopg [21] (O.length - mm) (fun m i wr => ∃ (j : Nat) (y : SV), mm ≤ j ∧ j ≤ O.length ∧ O.length ≤ j + m ∧ i = .int .i64 j ∧ ExtX (one bx) w9 wr ∧ SchF (more (fun _ => false) bx) bx mx rx y (runS s st0 (O.take j)) s wr)
              case atStart => exact ⟨mm, vx, by omega, by omega, by omega, rfl, ExtX.refl _ _, HFX.out⟩
              case round =>
                obtain ⟨j, y2, hj1, hj2, hjm, rfl, hE2, hF2⟩ := hrel
                have h8r : Ext w8 wr := ((hx9.toX (one bx)).trans hE2).ext (fun q hq => by simp [one]; omega)
                have hXr2 := hX8.trans h8r
                have hr2 := hxr8.trans h8r
                by_cases hlt2 : j < O.length
                · obtain ⟨bb, ob, rfl, t0⟩ := HT6.out j hlt2
                  replace t0 := (hx68.trans h8r).keep t0
                  have HDO := Lib.hid (DoL_c hF2 (HE.out.ext hXr2) (HT.out.ext hXr2) hbx7 O[j])
                  have HZ := Lib.hid (HOK.out j hlt2)
                  have HN := Lib.hid (HRT.out j hlt2)
                  generalize O[j] = tk at *
                  generalize hRR : doS s (runS s st0 (O.take j)) tk = RR2 at *
                  obtain ⟨R1, R2⟩ := RR2
                  dsimp only at HZ HN
                  obtain rfl := HZ.out
                  have HE2 := Lib.hid hE2
                  clear hRR hF2 hE2
                  go_wp2_with fail
                  refine HDO.out.mono ?_; rintro e w13 ⟨he, hE13, v13, hB13⟩
                  dsimp only at he
                  subst he
                  go_wp2_with fail
                  go_roundg (gk-1)
                  case measure => omega
                  case rel => exact ⟨j + 1, v13, by omega, by omega, by omega, by go_num, HE2.out.trans hE13, by rw [HN.out]; exact hB13⟩
                · obtain rfl : j = O.length := by omega
                  rw [HRA.out] at hF2
                  have hHH := HTH.out wr hr2
                  have HA1 := Lib.hid (fun W (q : Ext wr W) => Word_c (hF2.ext q))
                  have HA2 := Lib.hid (fun W (q : Ext wr W) => Word_c (hHH.ext q))
                  have HB1 := Lib.hid (fun W (q : Ext wr W) => Book_c (hF2.ext q) (HE.out.ext (hXr2.trans q)))
                  have HK1 := Lib.hid (fun W (q : Ext wr W) => Learned_c (hF2.ext q))
                  have HK2 := Lib.hid (fun W (q : Ext wr W) => Learned_c (hHH.ext q))
                  have HG1 := Lib.hid (fun W (q : Ext wr W) => Grounds_c (hF2.ext q))
                  have HG2 := Lib.hid (fun W (q : Ext wr W) => Grounds_c (hHH.ext q))
                  have HS1 := Lib.hid (fun W (q : Ext wr W) => Slate_c (hF2.ext q))
                  have HS2 := Lib.hid (fun W (q : Ext wr W) => Slate_c (hHH.ext q))
                  have HF1 := Lib.hid (fun W (q : Ext wr W) => Forms_c (hF2.ext q))
                  have HF2 := Lib.hid (fun W (q : Ext wr W) => Forms_c (hHH.ext q))
                  have HE1 := Lib.hid (fun W (q : Ext wr W) => Ended_c (hF2.ext q))
                  have HE2 := Lib.hid (fun W (q : Ext wr W) => Ended_c (hHH.ext q))
                  have hOB : bookB x.orders = B := HOB.out
                  rw [hOB] at HB1
                  clear hF2 hHH hE2 hOB
                  have hnc : ∀ A : Bool, (A == A) = true := fun A => by cases A <;> rfl
                  generalize endedS s x = EN at *
                  generalize x.has = HAS at *
                  generalize lastW x = LW at *
                  generalize x.kn = KN at *
                  generalize x.gr = GR at *
                  generalize x.forms = FO at *
                  generalize x.slate = SL at *
                  go_wp2_with fail
                  refine (HM1.out wr hXr2).mono ?_; rintro e y1 ⟨rfl, hy1⟩
                  go_wp2_with fail
                  refine (HA1.out y1 hy1).mono ?_; rintro e y2 ⟨u2, rfl, o2, hy2'⟩
                  obtain ⟨p2, s2, hu2, _⟩ := o2.ints.open_
                  subst hu2
                  have i2 := Lib.hid o2.ints
                  have hy2 := hy1.trans hy2'
                  clear o2
                  go_wp2_with fail
                  refine (HA2.out y2 hy2).mono ?_; rintro e y3 ⟨u3, rfl, o3, hy3'⟩
                  obtain ⟨p3, s3, hu3, _⟩ := o3.ints.open_
                  subst hu3
                  have i3 := Lib.hid o3.ints
                  have hy3 := hy2.trans hy3'
                  clear o3
                  go_wp2_with fail
                  refine (HB1.out y3 hy3).mono ?_; rintro e y4 ⟨rfl, hy4'⟩
                  have hy4 := hy3.trans hy4'
                  go_wp2_with fail
                  refine (HK1.out y4 hy4).mono ?_; rintro e y5 ⟨u5, rfl, o5, hy5'⟩
                  obtain ⟨p5, s5, hu5, _⟩ := o5.ints.open_
                  subst hu5
                  have i5 := Lib.hid o5.ints
                  have hy5 := hy4.trans hy5'
                  clear o5
                  go_wp2_with fail
                  refine (HK2.out y5 hy5).mono ?_; rintro e y6 ⟨u6, rfl, o6, hy6'⟩
                  obtain ⟨p6, s6, hu6, _⟩ := o6.ints.open_
                  subst hu6
                  have i6 := Lib.hid o6.ints
                  have hy6 := hy5.trans hy6'
                  clear o6
                  go_wp2_with fail
                  refine (sameInts4_t _ _ KN y6 (i5.out.ext hy6') i6.out).mono ?_; rintro e y7 ⟨rfl, hy7'⟩
                  have hy7 := hy6.trans hy7'
                  go_wp2_with fail
                  refine (HG1.out y7 hy7).mono ?_; rintro e y8 ⟨u8, rfl, o8, hy8'⟩
                  obtain ⟨p8, s8, hu8, _⟩ := o8.ints.open_
                  subst hu8
                  have i8 := Lib.hid o8.ints
                  have hy8 := hy7.trans hy8'
                  clear o8
                  go_wp2_with fail
                  refine (HG2.out y8 hy8).mono ?_; rintro e y9 ⟨u9, rfl, o9, hy9'⟩
                  obtain ⟨p9, s9, hu9, _⟩ := o9.ints.open_
                  subst hu9
                  have i9 := Lib.hid o9.ints
                  have hy9 := hy8.trans hy9'
                  clear o9
                  go_wp2_with fail
                  refine (sameInts4_t _ _ GR y9 (i8.out.ext hy9') i9.out).mono ?_; rintro e y10 ⟨rfl, hy10'⟩
                  have hy10 := hy9.trans hy10'
                  have hy310 : Ext y3 y10 := (((((hy4'.trans hy5').trans hy6').trans hy7').trans hy8').trans hy9').trans hy10'
                  go_wp2_with fail
                  refine (sameInts4_t _ _ LW y10 ((i2.out.ext hy3').ext hy310) (i3.out.ext hy310)).mono ?_; rintro e y11 ⟨rfl, hy11'⟩
                  have hy11 := hy10.trans hy11'
                  clear hy310
                  go_wp2_with fail
                  refine (HS1.out y11 hy11).mono ?_; rintro e y12 ⟨u12, rfl, o12, hy12'⟩
                  have i12 := Lib.hid (Cel.own encCh_len o12)
                  obtain ⟨p12, s12, hu12, _⟩ := i12.out.open_
                  subst hu12
                  have hy12 := hy11.trans hy12'
                  clear o12
                  go_wp2_with fail
                  refine (HS2.out y12 hy12).mono ?_; rintro e y13 ⟨u13, rfl, o13, hy13'⟩
                  have i13 := Lib.hid (Cel.own encCh_len o13)
                  obtain ⟨p13, s13, hu13, _⟩ := i13.out.open_
                  subst hu13
                  have hy13 := hy12.trans hy13'
                  clear o13
                  go_wp2_with fail
                  refine (sameChs4_t _ _ SL y13 (i12.out.ext hy13') i13.out).mono ?_; rintro e y14 ⟨rfl, hy14'⟩
                  have hy14 := hy13.trans hy14'
                  go_wp2_with fail
                  refine (HF1.out y14 hy14).mono ?_; rintro e y15 ⟨u15, rfl, o15, hy15'⟩
                  have i15 := Lib.hid o15.rows
                  obtain ⟨p15, s15, hu15, _⟩ := Rows.open_ i15.out
                  subst hu15
                  have hy15 := hy14.trans hy15'
                  clear o15
                  go_wp2_with fail
                  refine (HF2.out y15 hy15).mono ?_; rintro e y16 ⟨u16, rfl, o16, hy16'⟩
                  have i16 := Lib.hid o16.rows
                  obtain ⟨p16, s16, hu16, _⟩ := Rows.open_ i16.out
                  subst hu16
                  have hy16 := hy15.trans hy16'
                  clear o16
                  go_wp2_with fail
                  refine (sameWords4_t _ _ FO y16 (i15.out.ext hy16') i16.out).mono ?_; rintro e y17 ⟨rfl, hy17'⟩
                  have hy17 := hy16.trans hy17'
                  go_wp2_with fail
                  refine (HE1.out y17 hy17).mono ?_; rintro e y18 ⟨rfl, hy18'⟩
                  have hy18 := hy17.trans hy18'
                  go_wp2_with fail
                  refine (HE2.out y18 hy18).mono ?_; rintro e y19 ⟨rfl, hy19'⟩
                  have hy19 := hy18.trans hy19'
                  go_wp2_with fail
                  refine (HAU.out y19 (hr2.trans hy19)).mono ?_; rintro e y20 ⟨rfl, hy20'⟩
                  go_wp2_with fail
                  go_ret
                  exact ⟨rfl, (hXr2.trans hy19).trans hy20'⟩
          · have hkk : decide ((k : Int) < (L.length : Int)) = false := decide_eq_false (by omega)
            have hM := HMK.out
            have hF := hSr
            have hR := hF.hI.rightT
            have hle := hF.hI.olen
            have HM := Lib.hid hM
            have HF := Lib.hid hF
            have HBK := Lib.hid (Book_c hF (HE.out.ext hXr))
            have HAU := Lib.hid (fun W (q : Ext wr W) => Audit_c (hF.ext q) hM (HE.out.ext (hXr.trans q)) (HT.out.ext (hXr.trans q)) (Nat.le_trans h7 (hXr.trans q).size))
            have HB := Lib.hid (read_book hR hle)
            have hBl := (read_book hR hle).2.2
            have HBC := Lib.hid (book_cut hR hle)
            have HMB := Lib.hid (fun m => merge_book (m := m) hR hle)
            have HRTK := Lib.hid (read_take hR hle)
            have HOK : Hid (∀ k (hk : k < x.orders.length), (doS s (runS s st0 (x.orders.take k)) x.orders[k]).2 = 0) := Lib.hid (fun k hk => ok_at HM.out.ok (List.getElem?_eq_getElem hk))
            have HRT : Hid (∀ k (hk : k < x.orders.length), runS s st0 (x.orders.take (k + 1)) = (doS s (runS s st0 (x.orders.take k)) x.orders[k]).1) := Lib.hid (fun k hk => run_take x.orders hk)
            have hRALL : runS s st0 (x.orders.take x.orders.length) = x := by rw [List.take_length]; exact hM.run
            have HRA := Lib.hid hRALL
            have HRL0 : Hid (∀ m, m ≤ x.orders.length → ∀ W, Ext w W → Calls Tryz.prog 55 #[.slice av s.length cv, .string ⟨(bookB (x.orders.take m)).toArray⟩] W (fun e w' => Ext W w' ∧ ∃ b m1 rv v, W.heap.size ≤ b ∧ e = .returned (.tuple #[.pointer (some ⟨b, 0, none⟩), .int .i64 m, .int .i64 0]) ∧ SchF (more (fun _ => false) b) b m1 rv v (runS s st0 (x.orders.take m)) s w')) := Lib.hid (fun m hm W q => by
              obtain ⟨t1, t2, t3⟩ := HRTK.out m
              have hbt : (⟨(bookB (x.orders.take m)).toArray⟩ : ByteArray).size = (bookB (x.orders.take m)).length := ofBs_size _
              have hh := HRP.out W q ⟨(bookB (x.orders.take m)).toArray⟩ (by omega)
              rw [show txt ⟨(bookB (x.orders.take m)).toArray⟩ = bookB (x.orders.take m) from txt_of _, t1, t2] at hh
              refine hh.mono ?_
              rintro e w' hres
              exact replay_ok HV.out HM.out hm hres)
            have HX1 := Lib.hid hXr
            have HTH : Hid (∀ W (q : Ext wr W), SchF (more (fun _ => false) b) b m1 rv v' x s W) := Lib.hid (fun W q => hF.ext q)
            clear hSr hF hM hR hRALL hEr
            generalize hO : x.orders = O at *
            have HOB0 := Lib.hid hO
            clear hO
            obtain ⟨kk, hkk2, hke⟩ := uint_mod9 z (bookB O).length (by omega)
            obtain ⟨mm, hmm, hm2, hm3, hm4⟩ := HBC.out kk hkk2
            obtain ⟨q1, q2, _⟩ := HB.out
            obtain ⟨M1, _⟩ := HMB.out mm hmm
            have HRL := Lib.hid (HRL0.out mm hmm)
            have hw3 : (bookB (O.take mm)).length ≤ 3900 := (HRTK.out mm).2.2
            generalize hBB : bookB O = B at *
            have HOB : Hid (bookB x.orders = B) := Lib.hid (by rw [HOB0.out]; exact hBB)
            clear hBB
            have hbs : (⟨B.toArray⟩ : ByteArray).size = B.length := ofBs_size B
            have hbb : ((⟨B.toArray⟩ : ByteArray).toList == (⟨B.toArray⟩ : ByteArray).toList) = true := by simp
            have hn0 : ((⟨#[]⟩ : ByteArray).toList != (⟨#[]⟩ : ByteArray).toList) = false := by simp
            have HRD := Lib.hid (fun W (q : Ext w W) => Read_c ⟨B.toArray⟩ W (HE.out.ext q) (by rw [hbs]; omega))
            rw [show txt ⟨B.toArray⟩ = B from txt_of B, q1, show readRest B = ⟨#[]⟩ by unfold readRest; rw [q2]; rfl] at HRD
            have hx2k : (⟨B.toArray⟩ : ByteArray).extract 0 kk = ⟨(B.take kk).toArray⟩ := extract_take _ kk (by omega)
            have hks : (⟨(B.take kk).toArray⟩ : ByteArray).size = (B.take kk).length := ofBs_size _
            have htk : (B.take kk).length ≤ 3900 := by rw [List.length_take]; omega
            have HRD2 := Lib.hid (fun W (q : Ext w W) => Read_c ⟨(B.take kk).toArray⟩ W (HE.out.ext q) (by rw [hks]; omega))
            rw [show txt ⟨(B.take kk).toArray⟩ = B.take kk from txt_of _, hm2] at HRD2
            have hrs : (readRest (B.take kk)).size = ((readB (B.take kk)).2).length := ofBs_size _
            generalize hQ : ((readB (B.take kk)).2).length = Q at *
            clear hQ
            generalize readRest (B.take kk) = RR at *
            have hkq : ((kk : Int) - (Q : Int)) = ((kk - Q : Nat) : Int) := by omega
            have hx2w : (⟨B.toArray⟩ : ByteArray).extract 0 (kk - Q) = ⟨(bookB (O.take mm)).toArray⟩ := by rw [extract_take _ _ (by omega), show txt ⟨B.toArray⟩ = B from txt_of B, hm4]
            have hwz : (⟨(bookB (O.take mm)).toArray⟩ : ByteArray).size ≤ 3900 := by
              rw [show (⟨(bookB (O.take mm)).toArray⟩ : ByteArray).size = (bookB (O.take mm)).length from ofBs_size _]; exact hw3
            have HM1 := Lib.hid (fun W (q : Ext w W) => Merge_c ⟨(bookB (O.take mm)).toArray⟩ ⟨B.toArray⟩ W (HE.out.ext q) (by omega) (by omega))
            rw [show mergeV ⟨(bookB (O.take mm)).toArray⟩ ⟨B.toArray⟩ = _ from M1] at HM1
            simp only [ofBs] at HM1
            clear M1 hm4 q1 q2 HBC HMB HRTK
            generalize (⟨(bookB (O.take mm)).toArray⟩ : ByteArray) = WH at *
            have htm : (O.take mm).length = mm := by rw [List.length_take]; omega
            go_wp2_with fail
            refine HBK.out.mono ?_; rintro e w5 ⟨rfl, hx5⟩
            have hX5 := hXr.trans hx5
            go_wp2_with fail
            refine (HRD.out w5 hX5).mono ?_; rintro e w6 ⟨v6, rfl, ho6, hx6⟩
            have hX6 := hX5.trans hx6
            obtain ⟨a6, c6, rfl, HS6, HT6⟩ := OCel.txt ho6
            clear ho6
            go_wp2_with fail
            refine (HRD2.out w6 hX6).mono ?_; rintro e w7 ⟨v7, rfl, ho7, hx7⟩
            have hX7 := hX6.trans hx7
            obtain ⟨a7, c7, hv7, HS7, _⟩ := OCel.txt ho7
            rw [htm] at hv7 HS7
            subst hv7
            clear ho7
            have hg1 : decide ((O.length : Int) < (mm : Int)) = false := decide_eq_false (by omega)
            have hg2 : decide ((kk : Int) < (Q : Int)) = false := decide_eq_false (by omega)
            have hmi : decide ((mm : Int) ≤ (O.length : Int)) = true := decide_eq_true (by omega)
            have hcap : O.length ≤ c6 := by
              obtain ⟨_, _, hce, hcl, _⟩ := HS6.out.open_
              injection hce with _ _ hce
              omega
            have hmc : decide ((mm : Int) ≤ (c6 : Int)) = true := decide_eq_true (by omega)
            go_wp2_with fail
            refine (sameTexts_t _ _ (O.take mm) w7 HS7.out (strs_pre9 (HS6.out.ext hx7) hmm)).mono ?_; rintro e w8 ⟨rfl, hx8⟩
            have hX8 := hX7.trans hx8
            have hx68 := hx7.trans hx8
            go_wp2_with fail
            refine (HRL.out w8 hX8).mono ?_; rintro e w9 ⟨hx9, bx, mx, rx, vx, hbx, rfl, hFx⟩
            have hX9 := hX8.trans hx9
            have HFX := Lib.hid hFx
            clear hFx
            have hz8 := hX8.size
            have hbx7 : 7 ≤ bx := by omega
            have hx69 := hx68.trans hx9
            have hxr8 : Ext wr w8 := (hx5.trans hx6).trans hx68
            have hxr6 : Ext wr w6 := hx5.trans hx6
            go_wp2_with fail
            go_loopg [21] (O.length - mm) (fun m i wr => ∃ (j : Nat) (y : SV), mm ≤ j ∧ j ≤ O.length ∧ O.length ≤ j + m ∧ i = .int .i64 j ∧ ExtX (one bx) w9 wr ∧ SchF (more (fun _ => false) bx) bx mx rx y (runS s st0 (O.take j)) s wr)
            case atStart => exact ⟨mm, vx, by omega, by omega, by omega, rfl, ExtX.refl _ _, HFX.out⟩
            case round =>
              obtain ⟨j, y2, hj1, hj2, hjm, rfl, hE2, hF2⟩ := hrel
              have h8r : Ext w8 wr := ((hx9.toX (one bx)).trans hE2).ext (fun q hq => by simp [one]; omega)
              have hXr2 := hX8.trans h8r
              have hr2 := hxr8.trans h8r
              by_cases hlt2 : j < O.length
              · obtain ⟨bb, ob, rfl, t0⟩ := HT6.out j hlt2
                replace t0 := (hx68.trans h8r).keep t0
                have HDO := Lib.hid (DoL_c hF2 (HE.out.ext hXr2) (HT.out.ext hXr2) hbx7 O[j])
                have HZ := Lib.hid (HOK.out j hlt2)
                have HN := Lib.hid (HRT.out j hlt2)
                generalize O[j] = tk at *
                generalize hRR : doS s (runS s st0 (O.take j)) tk = RR2 at *
                obtain ⟨R1, R2⟩ := RR2
                dsimp only at HZ HN
                obtain rfl := HZ.out
                have HE2 := Lib.hid hE2
                clear hRR hF2 hE2
                go_wp2_with fail
                refine HDO.out.mono ?_; rintro e w13 ⟨he, hE13, v13, hB13⟩
                dsimp only at he
                subst he
                go_wp2_with fail
                go_roundg (gk-1)
                case measure => omega
                case rel => exact ⟨j + 1, v13, by omega, by omega, by omega, by go_num, HE2.out.trans hE13, by rw [HN.out]; exact hB13⟩
              · obtain rfl : j = O.length := by omega
                rw [HRA.out] at hF2
                have hHH := HTH.out wr hr2
                have HA1 := Lib.hid (fun W (q : Ext wr W) => Word_c (hF2.ext q))
                have HA2 := Lib.hid (fun W (q : Ext wr W) => Word_c (hHH.ext q))
                have HB1 := Lib.hid (fun W (q : Ext wr W) => Book_c (hF2.ext q) (HE.out.ext (hXr2.trans q)))
                have HK1 := Lib.hid (fun W (q : Ext wr W) => Learned_c (hF2.ext q))
                have HK2 := Lib.hid (fun W (q : Ext wr W) => Learned_c (hHH.ext q))
                have HG1 := Lib.hid (fun W (q : Ext wr W) => Grounds_c (hF2.ext q))
                have HG2 := Lib.hid (fun W (q : Ext wr W) => Grounds_c (hHH.ext q))
                have HS1 := Lib.hid (fun W (q : Ext wr W) => Slate_c (hF2.ext q))
                have HS2 := Lib.hid (fun W (q : Ext wr W) => Slate_c (hHH.ext q))
                have HF1 := Lib.hid (fun W (q : Ext wr W) => Forms_c (hF2.ext q))
                have HF2 := Lib.hid (fun W (q : Ext wr W) => Forms_c (hHH.ext q))
                have HE1 := Lib.hid (fun W (q : Ext wr W) => Ended_c (hF2.ext q))
                have HE2 := Lib.hid (fun W (q : Ext wr W) => Ended_c (hHH.ext q))
                have hOB : bookB x.orders = B := HOB.out
                rw [hOB] at HB1
                clear hF2 hHH hE2 hOB
                have hnc : ∀ A : Bool, (A == A) = true := fun A => by cases A <;> rfl
                generalize endedS s x = EN at *
                generalize x.has = HAS at *
                generalize lastW x = LW at *
                generalize x.kn = KN at *
                generalize x.gr = GR at *
                generalize x.forms = FO at *
                generalize x.slate = SL at *
                go_wp2_with fail
                refine (HM1.out wr hXr2).mono ?_; rintro e y1 ⟨rfl, hy1⟩
                go_wp2_with fail
                refine (HA1.out y1 hy1).mono ?_; rintro e y2 ⟨u2, rfl, o2, hy2'⟩
                obtain ⟨p2, s2, hu2, _⟩ := o2.ints.open_
                subst hu2
                have i2 := Lib.hid o2.ints
                have hy2 := hy1.trans hy2'
                clear o2
                go_wp2_with fail
                refine (HA2.out y2 hy2).mono ?_; rintro e y3 ⟨u3, rfl, o3, hy3'⟩
                obtain ⟨p3, s3, hu3, _⟩ := o3.ints.open_
                subst hu3
                have i3 := Lib.hid o3.ints
                have hy3 := hy2.trans hy3'
                clear o3
                go_wp2_with fail
                refine (HB1.out y3 hy3).mono ?_; rintro e y4 ⟨rfl, hy4'⟩
                have hy4 := hy3.trans hy4'
                go_wp2_with fail
                refine (HK1.out y4 hy4).mono ?_; rintro e y5 ⟨u5, rfl, o5, hy5'⟩
                obtain ⟨p5, s5, hu5, _⟩ := o5.ints.open_
                subst hu5
                have i5 := Lib.hid o5.ints
                have hy5 := hy4.trans hy5'
                clear o5
                go_wp2_with fail
                refine (HK2.out y5 hy5).mono ?_; rintro e y6 ⟨u6, rfl, o6, hy6'⟩
                obtain ⟨p6, s6, hu6, _⟩ := o6.ints.open_
                subst hu6
                have i6 := Lib.hid o6.ints
                have hy6 := hy5.trans hy6'
                clear o6
                go_wp2_with fail
                refine (sameInts4_t _ _ KN y6 (i5.out.ext hy6') i6.out).mono ?_; rintro e y7 ⟨rfl, hy7'⟩
                have hy7 := hy6.trans hy7'
                go_wp2_with fail
                refine (HG1.out y7 hy7).mono ?_; rintro e y8 ⟨u8, rfl, o8, hy8'⟩
                obtain ⟨p8, s8, hu8, _⟩ := o8.ints.open_
                subst hu8
                have i8 := Lib.hid o8.ints
                have hy8 := hy7.trans hy8'
                clear o8
                go_wp2_with fail
                refine (HG2.out y8 hy8).mono ?_; rintro e y9 ⟨u9, rfl, o9, hy9'⟩
                obtain ⟨p9, s9, hu9, _⟩ := o9.ints.open_
                subst hu9
                have i9 := Lib.hid o9.ints
                have hy9 := hy8.trans hy9'
                clear o9
                go_wp2_with fail
                refine (sameInts4_t _ _ GR y9 (i8.out.ext hy9') i9.out).mono ?_; rintro e y10 ⟨rfl, hy10'⟩
                have hy10 := hy9.trans hy10'
                have hy310 : Ext y3 y10 := (((((hy4'.trans hy5').trans hy6').trans hy7').trans hy8').trans hy9').trans hy10'
                go_wp2_with fail
                refine (sameInts4_t _ _ LW y10 ((i2.out.ext hy3').ext hy310) (i3.out.ext hy310)).mono ?_; rintro e y11 ⟨rfl, hy11'⟩
                have hy11 := hy10.trans hy11'
                clear hy310
                go_wp2_with fail
                refine (HS1.out y11 hy11).mono ?_; rintro e y12 ⟨u12, rfl, o12, hy12'⟩
                have i12 := Lib.hid (Cel.own encCh_len o12)
                obtain ⟨p12, s12, hu12, _⟩ := i12.out.open_
                subst hu12
                have hy12 := hy11.trans hy12'
                clear o12
                go_wp2_with fail
                refine (HS2.out y12 hy12).mono ?_; rintro e y13 ⟨u13, rfl, o13, hy13'⟩
                have i13 := Lib.hid (Cel.own encCh_len o13)
                obtain ⟨p13, s13, hu13, _⟩ := i13.out.open_
                subst hu13
                have hy13 := hy12.trans hy13'
                clear o13
                go_wp2_with fail
                refine (sameChs4_t _ _ SL y13 (i12.out.ext hy13') i13.out).mono ?_; rintro e y14 ⟨rfl, hy14'⟩
                have hy14 := hy13.trans hy14'
                go_wp2_with fail
                refine (HF1.out y14 hy14).mono ?_; rintro e y15 ⟨u15, rfl, o15, hy15'⟩
                have i15 := Lib.hid o15.rows
                obtain ⟨p15, s15, hu15, _⟩ := Rows.open_ i15.out
                subst hu15
                have hy15 := hy14.trans hy15'
                clear o15
                go_wp2_with fail
                refine (HF2.out y15 hy15).mono ?_; rintro e y16 ⟨u16, rfl, o16, hy16'⟩
                have i16 := Lib.hid o16.rows
                obtain ⟨p16, s16, hu16, _⟩ := Rows.open_ i16.out
                subst hu16
                have hy16 := hy15.trans hy16'
                clear o16
                go_wp2_with fail
                refine (sameWords4_t _ _ FO y16 (i15.out.ext hy16') i16.out).mono ?_; rintro e y17 ⟨rfl, hy17'⟩
                have hy17 := hy16.trans hy17'
                go_wp2_with fail
                refine (HE1.out y17 hy17).mono ?_; rintro e y18 ⟨rfl, hy18'⟩
                have hy18 := hy17.trans hy18'
                go_wp2_with fail
                refine (HE2.out y18 hy18).mono ?_; rintro e y19 ⟨rfl, hy19'⟩
                have hy19 := hy18.trans hy19'
                go_wp2_with fail
                refine (HAU.out y19 (hr2.trans hy19)).mono ?_; rintro e y20 ⟨rfl, hy20'⟩
                go_wp2_with fail
                go_ret
                exact ⟨rfl, (hXr2.trans hy19).trans hy20'⟩
      · have HV := Lib.hid hv
        have hvn : (validS s != 0) = true := by simpa using hv
        clear hv
        go_enter Tryz.func19, Tryz.ntmps19
        go_wp2_with fail
        refine HS0.out.mono ?_; rintro e w0 ⟨rfl, rfl⟩
        rw [show sumB 0 (⟨#[97]⟩ : ByteArray).data.toList = 98 by decide +kernel]
        go_wp2_with fail
        refine HLG.out.mono ?_; rintro e w1 ⟨rfl, hx1⟩
        go_wp2_with fail
        refine (HLO.out w1 hx1).mono ?_; rintro e w2 ⟨rfl, hx2⟩
        go_wp2_with fail
        have hX2 := hx1.trans hx2
        refine (HNE.out w2 hX2).mono ?_; rintro e w3 ⟨hx3, ⟨h0, rfl⟩ | ⟨h0, _⟩⟩
        rotate_left
        · exact absurd h0 HV.out
        have hX3 := hX2.trans hx3
        go_wp2_with fail
        refine (HRP.out w3 hX3 ⟨#[]⟩ (by decide)).mono ?_; rintro e w4 ⟨hx4, ⟨h1, rfl⟩ | ⟨h1, _⟩ | ⟨h1, _⟩ | ⟨h1, _⟩⟩
        rotate_left
        · exact absurd h1 HV.out
        · exact absurd h1 HV.out
        · exact absurd h1 HV.out
        go_wp2_with fail
        go_ret
        exact ⟨rfl, hX3.trans hx4⟩
end Go.Proofs.YtpmlcfgbfhgpgaaGreatDoor
