/- SchoolAudits: the walk. -/
import Derived.Test.YtpmlcfgbfhgpgaaGreatDoorLaw9L
namespace Go.Proofs.YtpmlcfgbfhgpgaaGreatDoor
open Go.RowKit Go.Shelf
set_option linter.unusedVariables false

set_option maxHeartbeats 8000000 in
set_option maxRecDepth 100000 in
theorem schoolAudits_c (v u : Value) (s : List Rul) (l : List ByteArray) (w : World) (h : Ruls w v s) (hl : Strs w u l) (hE : Env w) (hT : ErrT w) (h7 : 7 ≤ w.heap.size) :
    Calls Tryz.prog 15 #[v, u] w (RV (.bool true) w) := by
  have HLG := Lib.hid (Large9_c v s w h)
  have HLO := Lib.hid (fun W (q : Ext w W) => Long9_c u l W (hl.ext q))
  have HSA := Lib.hid (fun W (q : Ext w W) => sane_c W (hE.ext q) (hT.ext q) (Nat.le_trans h7 q.size))
  have HBE := Lib.hid (fun W (q : Ext w W) => Begin_c (fun _ => false) v s W (fun k hk => by cases hk) (h.ext q))
  have HFA := Lib.hid (fun W (q : Ext w W) (hv : validS s ≠ 0) => failed_c v s W (h.ext q) hv (hE.ext q) (hT.ext q) (Nat.le_trans h7 q.size))
  have HR := Lib.hid h
  have HL := Lib.hid hl
  have HE := Lib.hid hE
  have HT := Lib.hid hT
  obtain ⟨av, cv, rfl, _⟩ := h.open_
  obtain ⟨au, cu, rfl, _⟩ := hl.open_
  clear h hl hE hT
  cases hb1 : largeB s with
  | true =>
    rw [hb1] at HLG
    clear hb1
    go_enter Tryz.func15, Tryz.ntmps15
    go_wp2_with fail
    refine HLG.out.mono ?_; rintro e w1 ⟨rfl, hx1⟩
    go_wp2_with fail
    refine (HSA.out w1 hx1).mono ?_; rintro e w2 ⟨rfl, hx2⟩
    go_wp2_with fail
    go_ret
    exact ⟨rfl, hx1.trans hx2⟩
  | false =>
    rw [hb1] at HLG
    cases hb2 : longT l with
    | true =>
      rw [hb2] at HLO
      clear hb1 hb2
      go_enter Tryz.func15, Tryz.ntmps15
      go_wp2_with fail
      refine HLG.out.mono ?_; rintro e w1 ⟨rfl, hx1⟩
      go_wp2_with fail
      refine (HLO.out w1 hx1).mono ?_; rintro e w2 ⟨rfl, hx2⟩
      go_wp2_with fail
      refine (HSA.out w2 (hx1.trans hx2)).mono ?_; rintro e w3 ⟨rfl, hx3⟩
      go_wp2_with fail
      go_ret
      exact ⟨rfl, (hx1.trans hx2).trans hx3⟩
    | false =>
      rw [hb2] at HLO
      have HLT := Lib.hid (longT_ok hb2)
      clear hb1 hb2
      by_cases hv : validS s = 0
      · have HV := Lib.hid hv; clear hv
        go_enter Tryz.func15, Tryz.ntmps15
        go_wp2_with fail
        refine HLG.out.mono ?_; rintro e w1 ⟨rfl, hx1⟩
        go_wp2_with fail
        refine (HLO.out w1 hx1).mono ?_; rintro e w2 ⟨rfl, hx2⟩
        go_wp2_with fail
        refine (HBE.out w2 (hx1.trans hx2)).mono ?_; rintro e w3 ⟨hx3, ⟨h0, _⟩ | ⟨_, b, m1, rv, v0, gh, gq, uq, he, hbz, hgz1, hgz2, hSc, hNr⟩⟩
        · exact absurd HV.out h0
        subst he
        have hX3 := (hx1.trans hx2).trans hx3
        have HX3 := Lib.hid hX3
        have hbw : w.heap.size ≤ b := Nat.le_trans (hx1.trans hx2).size hbz
        have hb7 : 7 ≤ b := Nat.le_trans h7 hbw
        have HSS : Hid (∀ k, more (more (more (fun _ => false) b) gh) gq k = true → w.heap.size ≤ k) := Lib.hid (fun k hk => by
          rcases more_or hk with hk | hk
          · rcases more_or hk with hk | hk
            · rcases more_or hk with hk | hk
              · cases hk
              · omega
            · omega
          · omega)
        generalize hSS : more (more (more (fun _ => false) b) gh) gq = S at *
        have HSE := Lib.hid hSS; clear hSS
        have HFW := Lib.hid (few_c S _ l w3 hSc.hSl (HL.out.ext (hole_new hX3 HSS.out)))
        have HE3 := Lib.hid (HE.out.ext hX3)
        have HT3 := Lib.hid (HT.out.ext hX3)
        go_wp2_with fail
        refine HFW.out.mono ?_; rintro e w4 ⟨u4, rfl, hu4, hx4⟩
        obtain ⟨a4, c4, hul4, _, _, HC4⟩ := hu4.at_
        subst hul4
        have hS4 := hSc.ext hx4
        have HE4 := Lib.hid (HE3.out.ext hx4)
        have HT4 := Lib.hid (HT3.out.ext hx4)
        have HLS : Hid (∀ t ∈ l.take 30, t.size ≤ 400) := Lib.hid (fun t ht => HLT.out.2 t (List.mem_of_mem_take ht))
        have HLN : Hid ((l.take 30).length ≤ 30) := Lib.hid (by simp; omega)
        have HX4 := Lib.hid (hX3.trans hx4)
        have HNR := Lib.hid (show NewR S gh gq uq s w3 from hNr)
        clear hSc hX3 hNr hu4
        generalize l.take 30 = L at *
        go_wp2_with fail
        go_loopg [8] L.length (fun m i wr => ∃ (k : Nat) (v' : SV), k ≤ L.length ∧ L.length ≤ k + m ∧ i = .int .i64 k ∧ ExtX (one b) w4 wr ∧ SchF S b m1 rv v' (runS s st0 (L.take k)) s wr)
        case atStart => exact ⟨0, v0, by omega, by omega, rfl, ExtX.refl _ _, hS4⟩
        case round =>
          obtain ⟨k, v', hk1, hk2, rfl, hEr, hSr⟩ := hrel
          by_cases hlt : k < L.length
          · obtain ⟨bl, ol, ha4, hcl⟩ := HC4.out k hlt
            subst ha4
            have tl := hole_sub S wr _ _ (hole_keep hSr.hSb hEr _ _ hcl)
            have HDO := Lib.hid (Do_c hSr (HE4.out.extX hEr hb7) (HT4.out.extX hEr hb7) hb7 L[k] (by have := HLS.out _ (List.getElem_mem hlt); omega))
            have HTK : Hid (L.take (k + 1) = L.take k ++ [L[k]]) := Lib.hid (by rw [List.take_add_one, List.getElem?_eq_getElem hlt]; rfl)
            generalize L[k] = tk at *
            go_wp2_with fail
            refine HDO.out.mono ?_; rintro e w5 ⟨he, hE5, v5, hB5⟩
            subst he
            have HMK : Hid (MadeS s (doS s (runS s st0 (L.take k)) tk).1) := Lib.hid (made_do (run_inv (L.take k) (inv_new HV.out) (made_new s)).2 tk)
            have h7w : 7 ≤ w5.heap.size := by have := hB5.hb.lt; omega
            have HAU := Lib.hid (Audit_c hB5 HMK.out ((HE4.out.extX hEr hb7).extX hE5 hb7) ((HT4.out.extX hEr hb7).extX hE5 hb7) h7w)
            by_cases h8 : (k : Int).tmod 8 = 0
            · have h8b : ((k : Int).tmod 8 == 0) = true := by simpa using h8
              go_wp2_with fail
              refine HAU.out.mono ?_; rintro e w6 ⟨rfl, hx6⟩
              go_wp2_with fail
              go_roundg (gk-1)
              case measure => omega
              case rel =>
                refine ⟨k + 1, v5, by omega, by omega, by go_num, hEr.trans (hE5.trans (hx6.toX _)), ?_⟩
                rw [HTK.out, runS_append]
                exact hB5.ext hx6
            · have h8b : ((k : Int).tmod 8 == 0) = false := by simpa using h8
              go_wp2_with fail
              go_roundg (gk-1)
              case measure => omega
              case rel =>
                refine ⟨k + 1, v5, by omega, by omega, by go_num, hEr.trans hE5, ?_⟩
                rw [HTK.out, runS_append]
                exact hB5
          · obtain rfl : k = L.length := by omega
            rw [List.take_length] at hSr
            have HOR := Lib.hid (run_short (s := s) L st0)
            have HMD := Lib.hid (run_inv L (inv_new HV.out) (made_new s)).2
            generalize runS s st0 L = x at *
            have hEr0 := HX4.out.toX (one b)
            replace hEr0 := hEr0.trans hEr
            have HEr := Lib.hid (HE4.out.extX hEr hb7)
            have HTr := Lib.hid (HT4.out.extX hEr hb7)
            have HXr : Hid (Ext w wr) := Lib.hid (hEr0.ext (fun k hk => by simp [one]; omega))
            have HI := Lib.hid hSr.hI
            clear hEr0
            have h7r : 7 ≤ wr.heap.size := by have := hSr.hb.lt; omega
            have HAU := Lib.hid (Audit_c hSr HMD.out HEr.out HTr.out h7r)
            go_wp2_with fail
            refine HAU.out.mono ?_; rintro e w5 ⟨rfl, hx5⟩
            go_wp2_with fail
            refine (HSA.out w5 (HXr.out.trans hx5)).mono ?_; rintro e w6 ⟨rfl, hx6⟩
            go_wp2_with fail
            go_ret
            exact ⟨rfl, (HXr.out.trans hx5).trans hx6⟩
      · have HV := Lib.hid hv; clear hv
        go_enter Tryz.func15, Tryz.ntmps15
        go_wp2_with fail
        refine HLG.out.mono ?_; rintro e w1 ⟨rfl, hx1⟩
        go_wp2_with fail
        refine (HLO.out w1 hx1).mono ?_; rintro e w2 ⟨rfl, hx2⟩
        go_wp2_with fail
        refine (HBE.out w2 (hx1.trans hx2)).mono ?_; rintro e w3 ⟨hx3, ⟨h0, he⟩ | ⟨h0, _⟩⟩
        rotate_left
        · exact absurd h0 HV.out
        clear h0
        subst he
        have hX3 := (hx1.trans hx2).trans hx3
        go_wp2_with fail
        refine (HFA.out w3 hX3 HV.out).mono ?_; rintro e w4 ⟨rfl, hx4⟩
        go_wp2_with fail
        go_ret
        exact ⟨rfl, hX3.trans hx4⟩
end Go.Proofs.YtpmlcfgbfhgpgaaGreatDoor
