/- SchoolForms: the walk. -/
import Derived.Test.YtpmlcfgbfhgpgaaGreatDoorLaw9P
namespace Go.Proofs.YtpmlcfgbfhgpgaaGreatDoor
open Go.RowKit Go.Shelf
set_option linter.unusedVariables false
set_option maxHeartbeats 8000000 in
set_option maxRecDepth 100000 in
theorem schoolForms_c (v u : Value) (word : ByteArray) (s : List Rul) (l : List ByteArray) (w : World) (h : Ruls w v s) (hl : Strs w u l) (hwd : word.size ≤ maxLen) (hE : Env w) (hT : ErrT w) (h7 : 7 ≤ w.heap.size) :
    Calls Tryz.prog 12 #[v, u, .string word] w (RV (.bool true) w) := by
  have HLG := Lib.hid (Large9_c v s w h)
  have HLO := Lib.hid (fun W (q : Ext w W) => Long9_c u l W (hl.ext q))
  have HSA := Lib.hid (fun W (q : Ext w W) => sane_c W (hE.ext q) (hT.ext q) (Nat.le_trans h7 q.size))
  have HBE := Lib.hid (fun W (q : Ext w W) => Begin_c (fun _ => false) v s W (fun k hk => by cases hk) (h.ext q))
  have HFA := Lib.hid (fun W (q : Ext w W) (hv : validS s ≠ 0) => failed_c v s W (h.ext q) hv (hE.ext q) (hT.ext q) (Nat.le_trans h7 q.size))
  have HR := Lib.hid h
  have HL := Lib.hid hl
  have HE := Lib.hid hE
  have HT := Lib.hid hT
  obtain ⟨av, cv, rfl, _⟩ := h.open_
  obtain ⟨au, cu, rfl, _⟩ := hl.open_
  clear h hl hE hT
  unfold maxLen at hwd
  cases hb1 : largeB s with
  | true =>
    rw [hb1] at HLG
    clear hb1
    go_enter Tryz.func12, Tryz.ntmps12
    go_wp2_with fail
    refine HLG.out.mono ?_; rintro e w1 ⟨rfl, hx1⟩
    go_wp2_with fail
    refine (HSA.out w1 hx1).mono ?_; rintro e w2 ⟨rfl, hx2⟩
    go_wp2_with fail
    go_ret
    exact ⟨rfl, hx1.trans hx2⟩
  | false =>
    rw [hb1] at HLG
    cases hb2 : longT l with
    | true =>
      rw [hb2] at HLO
      clear hb1 hb2
      go_enter Tryz.func12, Tryz.ntmps12
      go_wp2_with fail
      refine HLG.out.mono ?_; rintro e w1 ⟨rfl, hx1⟩
      go_wp2_with fail
      refine (HLO.out w1 hx1).mono ?_; rintro e w2 ⟨rfl, hx2⟩
      go_wp2_with fail
      refine (HSA.out w2 (hx1.trans hx2)).mono ?_; rintro e w3 ⟨rfl, hx3⟩
      go_wp2_with fail
      go_ret
      exact ⟨rfl, (hx1.trans hx2).trans hx3⟩
    | false =>
      rw [hb2] at HLO
      have HLT := Lib.hid (longT_ok hb2)
      clear hb1 hb2
      by_cases hwz : 400 < word.size
      · go_enter Tryz.func12, Tryz.ntmps12
        go_wp2_with fail
        refine HLG.out.mono ?_; rintro e w1 ⟨rfl, hx1⟩
        go_wp2_with fail
        refine (HLO.out w1 hx1).mono ?_; rintro e w2 ⟨rfl, hx2⟩
        go_wp2_with fail
        refine (HSA.out w2 (hx1.trans hx2)).mono ?_; rintro e w3 ⟨rfl, hx3⟩
        go_wp2_with fail
        go_ret
        exact ⟨rfl, (hx1.trans hx2).trans hx3⟩
      by_cases hv : validS s = 0
      · have HV := Lib.hid hv; clear hv
        go_enter Tryz.func12, Tryz.ntmps12
        go_wp2_with fail
        refine HLG.out.mono ?_; rintro e w1 ⟨rfl, hx1⟩
        go_wp2_with fail
        refine (HLO.out w1 hx1).mono ?_; rintro e w2 ⟨rfl, hx2⟩
        go_wp2_with fail
        refine (HBE.out w2 (hx1.trans hx2)).mono ?_; rintro e w3 ⟨hx3, ⟨h0, _⟩ | ⟨_, b, m1, rv, v0, gh, gq, uq, he, hbz, hgz1, hgz2, hSc, hNr⟩⟩
        · exact absurd HV.out h0
        subst he
        have hX3 := (hx1.trans hx2).trans hx3
        have HX3 := Lib.hid hX3
        have hbw : w.heap.size ≤ b := Nat.le_trans (hx1.trans hx2).size hbz
        have hb7 : 7 ≤ b := Nat.le_trans h7 hbw
        have HSS : Hid (∀ k, more (more (more (fun _ => false) b) gh) gq k = true → w.heap.size ≤ k) := Lib.hid (fun k hk => by
          rcases more_or hk with hk | hk
          · rcases more_or hk with hk | hk
            · rcases more_or hk with hk | hk
              · cases hk
              · omega
            · omega
          · omega)
        generalize hSS : more (more (more (fun _ => false) b) gh) gq = S at *
        have HSE := Lib.hid hSS; clear hSS
        have HFW := Lib.hid (few_c S _ l w3 hSc.hSl (HL.out.ext (hole_new hX3 HSS.out)))
        have HE3 := Lib.hid (HE.out.ext hX3)
        have HT3 := Lib.hid (HT.out.ext hX3)
        go_wp2_with fail
        refine HFW.out.mono ?_; rintro e w4 ⟨u4, rfl, hu4, hx4⟩
        obtain ⟨a4, c4, hul4, _, _, HC4⟩ := hu4.at_
        subst hul4
        have hS4 := hSc.ext hx4
        have HE4 := Lib.hid (HE3.out.ext hx4)
        have HT4 := Lib.hid (HT3.out.ext hx4)
        have HLS : Hid (∀ t ∈ l.take 30, t.size ≤ 400) := Lib.hid (fun t ht => HLT.out.2 t (List.mem_of_mem_take ht))
        have HLN : Hid ((l.take 30).length ≤ 30) := Lib.hid (by simp; omega)
        have HX4 := Lib.hid (hX3.trans hx4)
        have HNR := Lib.hid (show NewR S gh gq uq s w3 from hNr)
        clear hSc hX3 hNr hu4
        generalize l.take 30 = L at *
        go_wp2_with fail
        go_loopg [10] L.length (fun m i wr => ∃ (k : Nat) (v' : SV), k ≤ L.length ∧ L.length ≤ k + m ∧ i = .int .i64 k ∧ ExtX (one b) w4 wr ∧ SchF S b m1 rv v' (runS s st0 (L.take k)) s wr)
        case atStart => exact ⟨0, v0, by omega, by omega, rfl, ExtX.refl _ _, hS4⟩
        case round =>
          obtain ⟨k, v', hk1, hk2, rfl, hEr, hSr⟩ := hrel
          by_cases hlt : k < L.length
          · obtain ⟨bl, ol, ha4, hcl⟩ := HC4.out k hlt
            subst ha4
            have tl := hole_sub S wr _ _ (hole_keep hSr.hSb hEr _ _ hcl)
            have HDO := Lib.hid (Do_c hSr (HE4.out.extX hEr hb7) (HT4.out.extX hEr hb7) hb7 L[k] (by have := HLS.out _ (List.getElem_mem hlt); omega))
            have HTK : Hid (L.take (k + 1) = L.take k ++ [L[k]]) := Lib.hid (by rw [List.take_add_one, List.getElem?_eq_getElem hlt]; rfl)
            generalize L[k] = tk at *
            go_wp2_with fail
            refine HDO.out.mono ?_; rintro e w5 ⟨he, hE5, v5, hB5⟩
            subst he
            go_wp2_with fail
            go_roundg (gk-1)
            case measure => omega
            case rel =>
              refine ⟨k + 1, v5, by omega, by omega, by go_num, hEr.trans hE5, ?_⟩
              rw [HTK.out, runS_append]
              exact hB5
          · obtain rfl : k = L.length := by omega
            rw [List.take_length] at hSr
            have HOR := Lib.hid (run_short (s := s) L st0)
            have HMD := Lib.hid (run_inv L (inv_new HV.out) (made_new s)).2
            generalize runS s st0 L = x at *
            have hEr0 := HX4.out.toX (one b)
            replace hEr0 := hEr0.trans hEr
            have HEr := Lib.hid (HE4.out.extX hEr hb7)
            have HTr := Lib.hid (HT4.out.extX hEr hb7)
            have HXr : Hid (Ext w wr) := Lib.hid (hEr0.ext (fun k hk => by simp [one]; omega))
            have HI := Lib.hid hSr.hI
            clear hEr0
            have HS := Lib.hid hSr
            clear hSr hEr
            have hus : (({ data := #[114, 101, 97, 100, 32] } : ByteArray) ++ word).size ≤ 100000 := by rw [ByteArray.size_append]; have : ({ data := #[114, 101, 97, 100, 32] } : ByteArray).size = 5 := rfl; omega
            have HDO := Lib.hid (Do_c HS.out HEr.out HTr.out hb7 (({ data := #[114, 101, 97, 100, 32] } : ByteArray) ++ word) hus)
            have HU : Hid ((({ data := #[114, 101, 97, 100, 32] } : ByteArray) ++ word).data.toList = tRead word) := Lib.hid (by rw [ByteArray.data_append]; simp [tRead])
            have HOL : Hid (x.orders.length ≤ 30) := Lib.hid (by have h1 := HOR.out; have h2 := HLN.out; have h3 : st0.orders.length = 0 := rfl; omega)
            by_cases hz : (doS s x (({ data := #[114, 101, 97, 100, 32] } : ByteArray) ++ word)).2 = 0
            · obtain ⟨r1, r2, r3, r4⟩ := read_state HU.out hz
              have hoo := (do_orders hz).1
              have ho5 : (doS s x (({ data := #[114, 101, 97, 100, 32] } : ByteArray) ++ word)).1.orders.length ≤ 50 := by rw [hoo]; have := HOL.out; simp; omega
              have hzn : ((doS s x (({ data := #[114, 101, 97, 100, 32] } : ByteArray) ++ word)).2 != 0) = false := by simp [hz]
              generalize hR : doS s x (({ data := #[114, 101, 97, 100, 32] } : ByteArray) ++ word) = R at *
              obtain ⟨x1, q1⟩ := R
              dsimp only at hz r1 r2 r3 r4 ho5 hzn
              subst hz
              clear hR hoo hzn
              go_wp2_with fail
              refine HDO.out.mono ?_; rintro e w5 ⟨he, hE5, v5, hB5⟩
              dsimp only at he hB5
              subst he
              have HX5 : Hid (Ext w w5) := Lib.hid (((HXr.out.toX (one b)).trans hE5).ext (fun k hk => by simp [one]; omega))
              have HE5 := Lib.hid (HEr.out.extX hE5 hb7)
              have HT5 := Lib.hid (HTr.out.extX hE5 hb7)
              have HI5 := Lib.hid hB5.hI
              have HB5 := Lib.hid hB5
              obtain ⟨f1, f2⟩ := form_plain hB5.hI r1 r2 ho5
              have HBA := Lib.hid (Base_c hB5)
              have HLE := Lib.hid (fun W (q : Ext w5 W) => learnedH_c (hB5.ext q) _ (HR.out.ext (hole_new (HX5.out.trans q) (fun k hk => by have : k = b := (by simpa [one] using hk); omega))))
              have HGR := Lib.hid (fun W (q : Ext w5 W) => Grounds_c (hB5.ext q))
              rw [r1] at HBA
              have HR4 := Lib.hid r4
              have HFO := Lib.hid (fun vk vw vg W (h1 : Ruls W vk (sysL s x1)) (h2 : Ints W vw x1.base) (h3 : Ints W vg x1.gr) => Form_c vk vw vg (sysL s x1) x1.base x1.gr W h1 h2 h3 (by have := HI5.out.toInvE.check; rw [HR4.out] at this; exact this))
              rw [r4] at f1 f2
              have F1 := Lib.hid f1
              have F2 := Lib.hid f2
              clear f1 f2
              have hln : ((x1.base.length : Int) != (word.size : Int)) = false := by simp [r3]
              have HR3 := Lib.hid r3
              have hb5 : b < w5.heap.size := hB5.hb.lt
              clear hB5 r1 r3 r4
              go_wp2_with fail
              refine HBA.out.mono ?_; rintro e w6 ⟨u6, rfl, ho6, hx6⟩
              obtain ⟨a6, c6, hu6, _⟩ := ho6.ints.open_
              subst hu6
              go_wp2_with fail
              refine (HLE.out w6 hx6).mono ?_; rintro e w7 ⟨uK, nK, rfl, hK, hN, hx7⟩
              obtain ⟨aK, cK, hKl, _⟩ := hK.open_
              subst hKl
              obtain ⟨aN, cN, hNl, _⟩ := hN.ints.open_
              subst hNl
              have hx67 := hx6.trans hx7
              go_wp2_with fail
              refine (HGR.out w7 hx67).mono ?_; rintro e w8 ⟨u8, rfl, ho8, hx8⟩
              obtain ⟨a8, c8, hu8, _⟩ := ho8.ints.open_
              subst hu8
              have hx68 := hx67.trans hx8
              go_wp2_with fail
              refine (HFO.out _ _ _ w8 ((hK.ext (hx8.hole (one b))).sub (hole_sub _ _)) ((ho6.ints.ext hx7).ext hx8) ho8.ints).mono ?_; rintro e w9 ⟨hx9, ⟨d1, rfl⟩ | ⟨v, wv', d1, rfl, ho9⟩⟩
              · have hx69 := hx68.trans hx9
                have HZ3 := Lib.hid (F2.out d1)
                have HX1 : Hid ((doS s x1 tEnd).1 = x1) := Lib.hid (do_refused (by rw [HZ3.out]; decide))
                have HS0 := Lib.hid r2
                clear d1 r2
                have HDE := Lib.hid (Do_c (HB5.out.ext hx69) (HE5.out.ext hx69) (HT5.out.ext hx69) hb7 tEnd (by decide +kernel))
                go_wp2_with fail
                refine HDE.out.mono ?_; rintro e w10 ⟨he, hE10, v10, hB10⟩
                rw [HZ3.out] at he
                subst he
                rw [HX1.out] at hB10
                have HSL := Lib.hid (Slate_c hB10)
                rw [HS0.out] at HSL
                have HX10 : Hid (Ext w w10) := Lib.hid ((((HX5.out.trans hx69).toX (one b)).trans hE10).ext (fun k hk => by simp [one]; omega))
                clear hB10
                go_wp2_with fail
                refine HSL.out.mono ?_; rintro e w11 ⟨u11, rfl, ho11, hx11⟩
                obtain ⟨a11, c11, hu11, _⟩ := (Cel.own encCh_len ho11).open_
                subst hu11
                simp only [List.length_nil]
                go_wp2_with fail
                refine (HSA.out w11 (HX10.out.trans hx11)).mono ?_; rintro e w12 ⟨rfl, hx12⟩
                go_wp2_with fail
                go_ret
                exact ⟨rfl, (HX10.out.trans hx11).trans hx12⟩
              · obtain ⟨g1, g2, g3, g4, g5, g6⟩ := F1.out v d1
                have hx69 := hx68.trans hx9
                obtain ⟨a9, c9, hu9, _⟩ := ho9.ints.open_
                subst hu9
                have hz8 := hx68.size
                have I9 := Lib.hid (OInts.hole (S := one b) ho9 (fun k hk => by have : k = b := (by simpa [one] using hk); omega)).ints
                have K9 := Lib.hid ((hK.ext (hx8.hole (one b))).ext (hx9.hole (one b)))
                have HDE := Lib.hid (Do_c (HB5.out.ext hx69) (HE5.out.ext hx69) (HT5.out.ext hx69) hb7 tEnd (by decide +kernel))
                have HG5 := Lib.hid g5
                have HG6 := Lib.hid g6
                clear d1 r2 ho9 g5 g6
                generalize sysL s x1 = SY at *
                generalize hR2 : doS s x1 tEnd = R2 at *
                obtain ⟨x2, q2⟩ := R2
                dsimp only at g1 g2 g3 g4
                subst g1
                have HG4 := Lib.hid g4
                have HG3 := Lib.hid g3
                have HG2 := Lib.hid g2
                clear g2 g3 g4 hR2
                go_wp2_with fail
                refine HDE.out.mono ?_; rintro e w10 ⟨he, hE10, v10, hB10⟩
                dsimp only at he hB10
                subst he
                have HX10 : Hid (Ext w w10) := Lib.hid ((((HX5.out.trans hx69).toX (one b)).trans hE10).ext (fun k hk => by simp [one]; omega))
                have hh := hE10.hole1 (S := one b) (fun _ h => h)
                have I10 := Lib.hid ((I9.out.ext hh).sub (hole_sub _ _))
                have K10 := Lib.hid ((K9.out.ext hh).sub (hole_sub _ _))
                have HWO := Lib.hid (Word_c hB10)
                have HEN := Lib.hid (fun W (q : Ext w10 W) => Ended_c (hB10.ext q))
                rw [HG2.out, HG3.out] at HWO
                rw [HG4.out] at HEN
                clear hB10 hh
                go_wp2_with fail
                refine HWO.out.mono ?_; rintro e w11 ⟨u11, rfl, ho11, hx11⟩
                obtain ⟨a11, c11, hu11, _⟩ := ho11.ints.open_
                subst hu11
                have i11 := Lib.hid ho11.ints
                clear ho11
                have HIE := Lib.hid (IsEnd_c _ _ SY v w11 (K10.out.ext hx11) i11.out)
                rw [HG5.out, if_pos rfl, HG6.out, show decide (([] : List Stp).length = 0) = true from rfl] at HIE
                go_wp2_with fail
                refine HIE.out.mono ?_; rintro e w12 ⟨rfl, hx12⟩
                go_wp2_with fail
                refine (sameInts4_t _ _ v w12 ((I10.out.ext hx11).ext hx12) (i11.out.ext hx12)).mono ?_; rintro e w13 ⟨rfl, hx13⟩
                have hX13 := (hx11.trans hx12).trans hx13
                go_wp2_with fail
                refine (HEN.out w13 hX13).mono ?_; rintro e w14 ⟨rfl, hx14⟩
                have hX14 := hX13.trans hx14
                go_wp2_with fail
                refine (HSA.out w14 (HX10.out.trans hX14)).mono ?_; rintro e w15 ⟨rfl, hx15⟩
                go_wp2_with fail
                go_ret
                exact ⟨rfl, (HX10.out.trans hX14).trans hx15⟩
            · have hzn : ((doS s x (({ data := #[114, 101, 97, 100, 32] } : ByteArray) ++ word)).2 != 0) = true := by simpa using hz
              have HZN := Lib.hid hz
              clear hz
              generalize doS s x (({ data := #[114, 101, 97, 100, 32] } : ByteArray) ++ word) = R at *
              go_wp2_with fail
              refine HDO.out.mono ?_; rintro e w5 ⟨he, hE5, v5, hB5⟩
              subst he
              have HX5 : Hid (Ext w w5) := Lib.hid (((HXr.out.toX (one b)).trans hE5).ext (fun k hk => by simp [one]; omega))
              go_wp2_with fail
              refine (HSA.out w5 HX5.out).mono ?_; rintro e w6 ⟨rfl, hx6⟩
              go_wp2_with fail
              go_ret
              exact ⟨rfl, HX5.out.trans hx6⟩
      · have HV := Lib.hid hv; clear hv
        go_enter Tryz.func12, Tryz.ntmps12
        go_wp2_with fail
        refine HLG.out.mono ?_; rintro e w1 ⟨rfl, hx1⟩
        go_wp2_with fail
        refine (HLO.out w1 hx1).mono ?_; rintro e w2 ⟨rfl, hx2⟩
        go_wp2_with fail
        refine (HBE.out w2 (hx1.trans hx2)).mono ?_; rintro e w3 ⟨hx3, ⟨h0, he⟩ | ⟨h0, _⟩⟩
        rotate_left
        · exact absurd h0 HV.out
        clear h0
        subst he
        have hX3 := (hx1.trans hx2).trans hx3
        go_wp2_with fail
        refine (HFA.out w3 hX3 HV.out).mono ?_; rintro e w4 ⟨rfl, hx4⟩
        go_wp2_with fail
        go_ret
        exact ⟨rfl, hX3.trans hx4⟩
end Go.Proofs.YtpmlcfgbfhgpgaaGreatDoor
