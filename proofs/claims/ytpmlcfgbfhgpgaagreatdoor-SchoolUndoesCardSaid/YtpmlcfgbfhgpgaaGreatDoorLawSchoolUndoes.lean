/- SchoolUndoes: the walk. -/
import Derived.Test.YtpmlcfgbfhgpgaaGreatDoorJoinedbRowSchoolUndoes
namespace Go.Proofs.YtpmlcfgbfhgpgaaGreatDoor
open Go.RowKit Go.Shelf
set_option linter.unusedVariables false

set_option maxHeartbeats 8000000 in
set_option maxRecDepth 100000 in
theorem schoolUndoes_c (v u : Value) (s : List Rul) (l : List ByteArray) (w : World) (h : Ruls w v s) (hl : Strs w u l) (hE : Env w) (hT : ErrT w) (h7 : 7 ≤ w.heap.size) :
    Calls Tryz.prog 3 #[v, u] w (RV (.bool true) w) := by
  have HLG := Lib.hid (Large9_c v s w h)
  have HLO := Lib.hid (fun W (q : Ext w W) => Long9_c u l W (hl.ext q))
  have HSA := Lib.hid (fun W (q : Ext w W) => sane_c W (hE.ext q) (hT.ext q) (Nat.le_trans h7 q.size))
  have HBE := Lib.hid (fun W (q : Ext w W) => Begin_c (fun _ => false) v s W (fun k hk => by cases hk) (h.ext q))
  have HFA := Lib.hid (fun W (q : Ext w W) (hv : validS s ≠ 0) => failed_c v s W (h.ext q) hv (hE.ext q) (hT.ext q) (Nat.le_trans h7 q.size))
  have HR := Lib.hid h
  have HL := Lib.hid hl
  have HE := Lib.hid hE
  have HT := Lib.hid hT
  obtain ⟨av, cv, rfl, _⟩ := h.open_
  obtain ⟨au, cu, rfl, _⟩ := hl.open_
  clear h hl hE hT
  cases hb1 : largeB s with
  | true =>
    rw [hb1] at HLG
    clear hb1
    go_enter Tryz.func3, Tryz.ntmps3
    go_wp2_with fail
    refine HLG.out.mono ?_; rintro e w1 ⟨rfl, hx1⟩
    go_wp2_with fail
    refine (HSA.out w1 hx1).mono ?_; rintro e w2 ⟨rfl, hx2⟩
    go_wp2_with fail
    go_ret
    exact ⟨rfl, hx1.trans hx2⟩
  | false =>
    rw [hb1] at HLG
    cases hb2 : longT l with
    | true =>
      rw [hb2] at HLO
      clear hb1 hb2
      go_enter Tryz.func3, Tryz.ntmps3
      go_wp2_with fail
      refine HLG.out.mono ?_; rintro e w1 ⟨rfl, hx1⟩
      go_wp2_with fail
      refine (HLO.out w1 hx1).mono ?_; rintro e w2 ⟨rfl, hx2⟩
      go_wp2_with fail
      refine (HSA.out w2 (hx1.trans hx2)).mono ?_; rintro e w3 ⟨rfl, hx3⟩
      go_wp2_with fail
      go_ret
      exact ⟨rfl, (hx1.trans hx2).trans hx3⟩
    | false =>
      rw [hb2] at HLO
      have HLT := Lib.hid (longT_ok hb2)
      clear hb1 hb2
      by_cases hv : validS s = 0
      · have HV := Lib.hid hv; clear hv
        go_enter Tryz.func3, Tryz.ntmps3
        go_wp2_with fail
        refine HLG.out.mono ?_; rintro e w1 ⟨rfl, hx1⟩
        go_wp2_with fail
        refine (HLO.out w1 hx1).mono ?_; rintro e w2 ⟨rfl, hx2⟩
        go_wp2_with fail
        refine (HBE.out w2 (hx1.trans hx2)).mono ?_; rintro e w3 ⟨hx3, ⟨h0, _⟩ | ⟨_, b, m1, rv, v0, gh, gq, uq, he, hbz, hgz1, hgz2, hSc, hNr⟩⟩
        · exact absurd HV.out h0
        subst he
        have hX3 := (hx1.trans hx2).trans hx3
        have HX3 := Lib.hid hX3
        have hbw : w.heap.size ≤ b := Nat.le_trans (hx1.trans hx2).size hbz
        have hb7 : 7 ≤ b := Nat.le_trans h7 hbw
        have HSS : Hid (∀ k, more (more (more (fun _ => false) b) gh) gq k = true → w.heap.size ≤ k) := Lib.hid (fun k hk => by
          rcases more_or hk with hk | hk
          · rcases more_or hk with hk | hk
            · rcases more_or hk with hk | hk
              · cases hk
              · omega
            · omega
          · omega)
        generalize hSS : more (more (more (fun _ => false) b) gh) gq = S at *
        have HSE := Lib.hid hSS; clear hSS
        have HFW := Lib.hid (few_c S _ l w3 hSc.hSl (HL.out.ext (hole_new hX3 HSS.out)))
        have HE3 := Lib.hid (HE.out.ext hX3)
        have HT3 := Lib.hid (HT.out.ext hX3)
        go_wp2_with fail
        refine HFW.out.mono ?_; rintro e w4 ⟨u4, rfl, hu4, hx4⟩
        obtain ⟨a4, c4, hul4, _, _, HC4⟩ := hu4.at_
        subst hul4
        have hS4 := hSc.ext hx4
        have HE4 := Lib.hid (HE3.out.ext hx4)
        have HT4 := Lib.hid (HT3.out.ext hx4)
        have HLS : Hid (∀ t ∈ l.take 30, t.size ≤ 400) := Lib.hid (fun t ht => HLT.out.2 t (List.mem_of_mem_take ht))
        have HLN : Hid ((l.take 30).length ≤ 30) := Lib.hid (by simp; omega)
        have HX4 := Lib.hid (hX3.trans hx4)
        have HNR := Lib.hid (show NewR S gh gq uq s w3 from hNr)
        clear hSc hX3 hNr hu4
        generalize l.take 30 = L at *
        go_wp2_with fail
        go_loopg [8] L.length (fun m i wr => ∃ (k : Nat) (v' : SV), k ≤ L.length ∧ L.length ≤ k + m ∧ i = .int .i64 k ∧ ExtX (one b) w4 wr ∧ SchF S b m1 rv v' (runS s st0 (L.take k)) s wr)
        case atStart => exact ⟨0, v0, by omega, by omega, rfl, ExtX.refl _ _, hS4⟩
        case round =>
          obtain ⟨k, v', hk1, hk2, rfl, hEr, hSr⟩ := hrel
          by_cases hlt : k < L.length
          · obtain ⟨bl, ol, ha4, hcl⟩ := HC4.out k hlt
            subst ha4
            have tl := hole_sub S wr _ _ (hole_keep hSr.hSb hEr _ _ hcl)
            have HDO := Lib.hid (Do_c hSr (HE4.out.extX hEr hb7) (HT4.out.extX hEr hb7) hb7 L[k] (by have := HLS.out _ (List.getElem_mem hlt); omega))
            have HTK : Hid (L.take (k + 1) = L.take k ++ [L[k]]) := Lib.hid (by rw [List.take_add_one, List.getElem?_eq_getElem hlt]; rfl)
            generalize L[k] = tk at *
            go_wp2_with fail
            refine HDO.out.mono ?_; rintro e w5 ⟨he, hE5, v5, hB5⟩
            subst he
            go_wp2_with fail
            go_roundg (gk-1)
            case measure => omega
            case rel =>
              refine ⟨k + 1, v5, by omega, by omega, by go_num, hEr.trans hE5, ?_⟩
              rw [HTK.out, runS_append]
              exact hB5
          · obtain rfl : k = L.length := by omega
            rw [List.take_length] at hSr
            have HOR := Lib.hid (run_short (s := s) L st0)
            have HMD := Lib.hid (run_inv L (inv_new HV.out) (made_new s)).2
            generalize runS s st0 L = x at *
            have hEr0 := HX4.out.toX (one b)
            replace hEr0 := hEr0.trans hEr
            have HEr := Lib.hid (HE4.out.extX hEr hb7)
            have HTr := Lib.hid (HT4.out.extX hEr hb7)
            have HXr : Hid (Ext w wr) := Lib.hid (hEr0.ext (fun k hk => by simp [one]; omega))
            have HI := Lib.hid hSr.hI
            clear hEr0
            have HWO := Lib.hid (Word_c hSr)
            have HSL := Lib.hid (fun W (q : Ext wr W) => Slate_c (hSr.ext q))
            have HS := Lib.hid hSr
            have HERr := Lib.hid hEr
            clear hSr hEr
            go_wp2_with fail
            refine HWO.out.mono ?_; rintro e w5 ⟨u5, rfl, ho5, hx5⟩
            obtain ⟨a5, c5, hu5, _⟩ := ho5.ints.open_
            subst hu5
            go_wp2_with fail
            refine (HSL.out w5 hx5).mono ?_; rintro e w6 ⟨u6, rfl, ho6, hx6⟩
            obtain ⟨a6, c6, hu6, _⟩ := (Cel.own encCh_len ho6).open_
            subst hu6
            have hx56 := hx5.trans hx6
            have HDO := Lib.hid (Do_c (HS.out.ext hx56) (HEr.out.ext hx56) (HTr.out.ext hx56) hb7 tStep (by decide +kernel))
            go_wp2_with fail
            refine HDO.out.mono ?_; rintro e w7 ⟨he, hE7, v7, hB7⟩
            subst he
            have hk67 := hole_keep HS.out.hSb hE7
            have HU5 := Lib.hid (((OInts.hole ho5 (S := S) HS.out.hSl).ints).sub ((hx6.hole S).sub.trans hk67))
            have HU6 := Lib.hid ((Cel.own encCh_len (OCel.hole ho6 (S := S) (fun k hk => Nat.lt_of_lt_of_le (HS.out.hSl k hk) hx5.size))).sub hk67)
            have HX7 : Hid (Ext w w7) := Lib.hid ((((HXr.out.trans hx56).toX (one b)).trans hE7).ext (fun k hk => by simp [one]; omega))
            have HE7 := Lib.hid ((HEr.out.ext hx56).extX hE7 hb7)
            have HT7 := Lib.hid ((HTr.out.ext hx56).extX hE7 hb7)
            by_cases hz : (doS s x tStep).2 = 0
            · have hzd : ((doS s x tStep).2 != 0) = false := by simp [hz]
              obtain ⟨q1, q2, q3, q4⟩ := step_undo HI.out hz (by have h1 := HOR.out; have h2 := HLN.out; have h3 : st0.orders.length = 0 := rfl; omega)
              have HD2 := Lib.hid (Do_c hB7 HE7.out HT7.out hb7 tUndo (by decide +kernel))
              generalize (doS s x tStep).2 = k1 at *
              generalize (doS s x tStep).1 = x1 at *
              clear hz
              have HQ := Lib.hid (show (doS s x1 tUndo).2 = 0 ∧ lastW (doS s x1 tUndo).1 = lastW x ∧ (doS s x1 tUndo).1.slate = x.slate ∧ (doS s x1 tUndo).1.has = true from ⟨q1, q2, q3, q4⟩)
              clear q1 q2 q3 q4
              go_wp2_with fail
              refine HD2.out.mono ?_; rintro e w8 ⟨he, hE8, v8, hB8⟩
              rw [HQ.out.1] at he
              subst he
              have hk8 := hole_keep hB8.hSb hE8
              have HX8 : Hid (Ext w w8) := Lib.hid (((HX7.out.toX (one b)).trans hE8).ext (fun k hk => by simp [one]; omega))
              have HW8 := Lib.hid (Word_c hB8)
              have HS8 := Lib.hid (fun W (q : Ext w8 W) => Slate_c (hB8.ext q))
              rw [HQ.out.2.1, HQ.out.2.2.2] at HW8
              rw [HQ.out.2.2.1] at HS8
              clear hB8
              go_wp2_with fail
              refine HW8.out.mono ?_; rintro e w9 ⟨u9, rfl, ho9, hx9⟩
              obtain ⟨a9, c9, hu9, _⟩ := ho9.ints.open_
              subst hu9
              have HSI := Lib.hid (sameInts4_c _ _ (lastW x) (lastW x) w9 ho9.ints (((HU5.out.sub hk8).sub (hole_sub S w8)).ext hx9))
              rw [sameIntsB_refl] at HSI
              go_wp2_with fail
              refine HSI.out.mono ?_; rintro e w10 ⟨rfl, n10, hw10⟩
              have hX10 : Ext w8 w10 := by rw [hw10]; exact hx9.trans (Ext.drewN _ _)
              clear hw10
              go_wp2_with fail
              refine (HS8.out w10 hX10).mono ?_; rintro e w11 ⟨u11, rfl, ho11, hx11⟩
              obtain ⟨a11, c11, hu11, _⟩ := (Cel.own encCh_len ho11).open_
              subst hu11
              have HSC := Lib.hid (sameChs4_c _ _ x.slate x.slate w11 (Cel.own encCh_len ho11) (((HU6.out.sub hk8).sub (hole_sub S w8)).ext (hX10.trans hx11)))
              rw [decide_eq_true (rfl : x.slate = x.slate)] at HSC
              go_wp2_with fail
              refine HSC.out.mono ?_; rintro e w12 ⟨rfl, hx12⟩
              have hXw := HX8.out.trans ((hX10.trans hx11).trans hx12)
              go_wp2_with fail
              refine (HSA.out w12 hXw).mono ?_; rintro e w13 ⟨rfl, hx13⟩
              go_wp2_with fail
              go_ret
              exact ⟨rfl, hXw.trans hx13⟩
            · have hzd : ((doS s x tStep).2 != 0) = true := by simp [hz]
              rw [do_refused hz] at hB7
              have HS7 := Lib.hid (Slate_c hB7)
              clear hB7 hz
              generalize (doS s x tStep).2 = k1 at *
              go_wp2_with fail
              refine HS7.out.mono ?_; rintro e w8 ⟨u8, rfl, ho8, hx8⟩
              obtain ⟨a8, c8, hu8, _⟩ := (Cel.own encCh_len ho8).open_
              subst hu8
              have HSC := Lib.hid (sameChs4_c _ _ x.slate x.slate w8 (Cel.own encCh_len ho8) ((HU6.out.sub (hole_sub S w7)).ext hx8))
              rw [decide_eq_true (rfl : x.slate = x.slate)] at HSC
              go_wp2_with fail
              refine HSC.out.mono ?_; rintro e w9 ⟨rfl, hx9⟩
              have hXw := HX7.out.trans (hx8.trans hx9)
              go_wp2_with fail
              refine (HSA.out w9 hXw).mono ?_; rintro e w10 ⟨rfl, hx10⟩
              go_wp2_with fail
              go_ret
              exact ⟨rfl, hXw.trans hx10⟩
      · have HV := Lib.hid hv; clear hv
        go_enter Tryz.func3, Tryz.ntmps3
        go_wp2_with fail
        refine HLG.out.mono ?_; rintro e w1 ⟨rfl, hx1⟩
        go_wp2_with fail
        refine (HLO.out w1 hx1).mono ?_; rintro e w2 ⟨rfl, hx2⟩
        go_wp2_with fail
        refine (HBE.out w2 (hx1.trans hx2)).mono ?_; rintro e w3 ⟨hx3, ⟨h0, he⟩ | ⟨h0, _⟩⟩
        rotate_left
        · exact absurd h0 HV.out
        clear h0
        subst he
        have hX3 := (hx1.trans hx2).trans hx3
        go_wp2_with fail
        refine (HFA.out w3 hX3 HV.out).mono ?_; rintro e w4 ⟨rfl, hx4⟩
        go_wp2_with fail
        go_ret
        exact ⟨rfl, hX3.trans hx4⟩
end Go.Proofs.YtpmlcfgbfhgpgaaGreatDoor
