/- SchoolSteps: the walk. -/
import Derived.Test.YtpmlcfgbfhgpgaaGreatDoorLaw9J
import Derived.Test.YtpmlcfgbfhgpgaaGreatDoorTreeT
namespace Go.Proofs.YtpmlcfgbfhgpgaaGreatDoor
open Go.RowKit Go.Shelf
set_option linter.unusedVariables false

theorem steps_none {s : List Rul} {x : St} (ho : x.orders.length ≤ 50) (hh : x.has = false) : (doS s x tStep).2 = 8 ∧ endedS s x = false := by
  rw [do_step (by omega)]
  have he : execS s x .step = (x, 8) := by simp only [execS]; rw [if_neg (by rw [hh]; decide)]
  rw [he, if_neg (by simp)]
  exact ⟨rfl, by unfold endedS; rw [hh]; rfl⟩
theorem steps_some {s : List Rul} {x : St} (h : Inv s x) (ho : x.orders.length ≤ 50) (hh : x.has = true) : winK (sysL s x) (lastW x) x.gr = winS (sysL s x) (lastW x) x.gr ∧
    ((winS (sysL s x) (lastW x) x.gr = none ∧ endedS s x = true ∧ (doS s x tStep).2 = 6) ∨
     (∃ c : Ch, winS (sysL s x) (lastW x) x.gr = some c ∧ endedS s x = false ∧ c.1 < x.kn.length ∧
       ((x.slate.length = 60 ∧ (doS s x tStep).2 = 3) ∨ (x.slate.length ≠ 60 ∧ (doS s x tStep).2 = 0 ∧ (doS s x tStep).1.slate = x.slate ++ [((x.kn[c.1]?.getD 0).toNat, c.2.1, c.2.2)])))) := by
  refine ⟨by unfold winK; rw [if_pos h.check], ?_⟩
  have he : execS s x .step = advS s x := by simp only [execS]; rw [if_pos hh]
  rw [do_step (by omega), he]
  have hend : endedS s x = (winS (sysL s x) (lastW x) x.gr).isNone := by unfold endedS chooseS; rw [hh]; simp
  cases hw : winS (sysL s x) (lastW x) x.gr with
  | none =>
    have hc : chooseS s x = none := by unfold chooseS; rw [hw]; rfl
    have ha : advS s x = (x, 6) := by unfold advS; rw [hc]
    left
    refine ⟨rfl, by rw [hend, hw]; rfl, ?_⟩
    rw [ha, if_neg (by simp)]
  | some c =>
    have hc : chooseS s x = some ((x.kn[c.1]?.getD 0).toNat, c.2.1, c.2.2) := by unfold chooseS; rw [hw]; rfl
    have hl := (win_some hw h.gOk).1
    rw [sysL_len] at hl
    right
    refine ⟨c, rfl, by rw [hend, hw]; rfl, hl, ?_⟩
    by_cases h60 : x.slate.length = 60
    · left
      have ha : advS s x = (x, 3) := by unfold advS; rw [hc]; simp only; rw [if_pos h60]
      rw [ha, if_neg (by simp)]
      exact ⟨h60, rfl⟩
    · right
      have ha : advS s x = (stepTo s x ((x.kn[c.1]?.getD 0).toNat, c.2.1, c.2.2), 0) := by unfold advS; rw [hc]; simp only; rw [if_neg h60]
      rw [ha, if_pos rfl]
      exact ⟨h60, rfl, rfl⟩
set_option maxHeartbeats 8000000 in
set_option maxRecDepth 100000 in
theorem schoolSteps_c (v u : Value) (s : List Rul) (l : List ByteArray) (w : World) (h : Ruls w v s) (hl : Strs w u l) (hE : Env w) (hT : ErrT w) (h7 : 7 ≤ w.heap.size) :
    Calls Tryz.prog 5 #[v, u] w (RV (.bool true) w) := by
  have HLG := Lib.hid (Large9_c v s w h)
  have HLO := Lib.hid (fun W (q : Ext w W) => Long9_c u l W (hl.ext q))
  have HSA := Lib.hid (fun W (q : Ext w W) => sane_c W (hE.ext q) (hT.ext q) (Nat.le_trans h7 q.size))
  have HBE := Lib.hid (fun W (q : Ext w W) => Begin_c (fun _ => false) v s W (fun k hk => by cases hk) (h.ext q))
  have HFA := Lib.hid (fun W (q : Ext w W) (hv : validS s ≠ 0) => failed_c v s W (h.ext q) hv (hE.ext q) (hT.ext q) (Nat.le_trans h7 q.size))
  have HR := Lib.hid h
  have HL := Lib.hid hl
  have HE := Lib.hid hE
  have HT := Lib.hid hT
  obtain ⟨av, cv, rfl, _⟩ := h.open_
  obtain ⟨au, cu, rfl, _⟩ := hl.open_
  clear h hl hE hT
  cases hb1 : largeB s with
  | true =>
    rw [hb1] at HLG
    clear hb1
    go_enter Tryz.func5, Tryz.ntmps5
    go_wp2_with fail
    refine HLG.out.mono ?_; rintro e w1 ⟨rfl, hx1⟩
    go_wp2_with fail
    refine (HSA.out w1 hx1).mono ?_; rintro e w2 ⟨rfl, hx2⟩
    go_wp2_with fail
    go_ret
    exact ⟨rfl, hx1.trans hx2⟩
  | false =>
    rw [hb1] at HLG
    cases hb2 : longT l with
    | true =>
      rw [hb2] at HLO
      clear hb1 hb2
      go_enter Tryz.func5, Tryz.ntmps5
      go_wp2_with fail
      refine HLG.out.mono ?_; rintro e w1 ⟨rfl, hx1⟩
      go_wp2_with fail
      refine (HLO.out w1 hx1).mono ?_; rintro e w2 ⟨rfl, hx2⟩
      go_wp2_with fail
      refine (HSA.out w2 (hx1.trans hx2)).mono ?_; rintro e w3 ⟨rfl, hx3⟩
      go_wp2_with fail
      go_ret
      exact ⟨rfl, (hx1.trans hx2).trans hx3⟩
    | false =>
      rw [hb2] at HLO
      have HLT := Lib.hid (longT_ok hb2)
      clear hb1 hb2
      by_cases hv : validS s = 0
      · have HV := Lib.hid hv; clear hv
        go_enter Tryz.func5, Tryz.ntmps5
        go_wp2_with fail
        refine HLG.out.mono ?_; rintro e w1 ⟨rfl, hx1⟩
        go_wp2_with fail
        refine (HLO.out w1 hx1).mono ?_; rintro e w2 ⟨rfl, hx2⟩
        go_wp2_with fail
        refine (HBE.out w2 (hx1.trans hx2)).mono ?_; rintro e w3 ⟨hx3, ⟨h0, _⟩ | ⟨_, b, m1, rv, v0, gh, gq, uq, he, hbz, hgz1, hgz2, hSc, hNr⟩⟩
        · exact absurd HV.out h0
        subst he
        have hX3 := (hx1.trans hx2).trans hx3
        have HX3 := Lib.hid hX3
        have hbw : w.heap.size ≤ b := Nat.le_trans (hx1.trans hx2).size hbz
        have hb7 : 7 ≤ b := Nat.le_trans h7 hbw
        have HSS : Hid (∀ k, more (more (more (fun _ => false) b) gh) gq k = true → w.heap.size ≤ k) := Lib.hid (fun k hk => by
          rcases more_or hk with hk | hk
          · rcases more_or hk with hk | hk
            · rcases more_or hk with hk | hk
              · cases hk
              · omega
            · omega
          · omega)
        generalize hSS : more (more (more (fun _ => false) b) gh) gq = S at *
        have HSE := Lib.hid hSS; clear hSS
        have HFW := Lib.hid (few_c S _ l w3 hSc.hSl (HL.out.ext (hole_new hX3 HSS.out)))
        have HE3 := Lib.hid (HE.out.ext hX3)
        have HT3 := Lib.hid (HT.out.ext hX3)
        go_wp2_with fail
        refine HFW.out.mono ?_; rintro e w4 ⟨u4, rfl, hu4, hx4⟩
        obtain ⟨a4, c4, hul4, _, _, HC4⟩ := hu4.at_
        subst hul4
        have hS4 := hSc.ext hx4
        have HE4 := Lib.hid (HE3.out.ext hx4)
        have HT4 := Lib.hid (HT3.out.ext hx4)
        have HLS : Hid (∀ t ∈ l.take 30, t.size ≤ 400) := Lib.hid (fun t ht => HLT.out.2 t (List.mem_of_mem_take ht))
        have HLN : Hid ((l.take 30).length ≤ 30) := Lib.hid (by simp; omega)
        have HX4 := Lib.hid (hX3.trans hx4)
        have HNR := Lib.hid (show NewR S gh gq uq s w3 from hNr)
        clear hSc hX3 hNr hu4
        generalize l.take 30 = L at *
        go_wp2_with fail
        go_loopg [8] L.length (fun m i wr => ∃ (k : Nat) (v' : SV), k ≤ L.length ∧ L.length ≤ k + m ∧ i = .int .i64 k ∧ ExtX (one b) w4 wr ∧ SchF S b m1 rv v' (runS s st0 (L.take k)) s wr)
        case atStart => exact ⟨0, v0, by omega, by omega, rfl, ExtX.refl _ _, hS4⟩
        case round =>
          obtain ⟨k, v', hk1, hk2, rfl, hEr, hSr⟩ := hrel
          by_cases hlt : k < L.length
          · obtain ⟨bl, ol, ha4, hcl⟩ := HC4.out k hlt
            subst ha4
            have tl := hole_sub S wr _ _ (hole_keep hSr.hSb hEr _ _ hcl)
            have HDO := Lib.hid (Do_c hSr (HE4.out.extX hEr hb7) (HT4.out.extX hEr hb7) hb7 L[k] (by have := HLS.out _ (List.getElem_mem hlt); omega))
            have HTK : Hid (L.take (k + 1) = L.take k ++ [L[k]]) := Lib.hid (by rw [List.take_add_one, List.getElem?_eq_getElem hlt]; rfl)
            generalize L[k] = tk at *
            go_wp2_with fail
            refine HDO.out.mono ?_; rintro e w5 ⟨he, hE5, v5, hB5⟩
            subst he
            go_wp2_with fail
            go_roundg (gk-1)
            case measure => omega
            case rel =>
              refine ⟨k + 1, v5, by omega, by omega, by go_num, hEr.trans hE5, ?_⟩
              rw [HTK.out, runS_append]
              exact hB5
          · obtain rfl : k = L.length := by omega
            rw [List.take_length] at hSr
            have HOR := Lib.hid (run_short (s := s) L st0)
            have HMD := Lib.hid (run_inv L (inv_new HV.out) (made_new s)).2
            generalize runS s st0 L = x at *
            have hEr0 := HX4.out.toX (one b)
            replace hEr0 := hEr0.trans hEr
            have HEr := Lib.hid (HE4.out.extX hEr hb7)
            have HTr := Lib.hid (HT4.out.extX hEr hb7)
            have HXr : Hid (Ext w wr) := Lib.hid (hEr0.ext (fun k hk => by simp [one]; omega))
            have HI := Lib.hid hSr.hI
            clear hEr0
            have HSZ : Hid (x.slate.length ≤ 60) := Lib.hid HI.out.slen
            have HKR := Lib.hid HI.out.toInvE.knR
            have HOL : Hid (x.orders.length ≤ 50) := Lib.hid (by have h1 := HOR.out; have h2 := HLN.out; have h3 : st0.orders.length = 0 := rfl; omega)
            have HWO := Lib.hid (Word_c hSr)
            have HLE := Lib.hid (fun W (q : Ext wr W) => learned_c (hSr.ext q) _ (HR.out.ext (HXr.out.trans q)))
            have HS := Lib.hid hSr
            have HERr := Lib.hid hEr
            clear hSr hEr
            cases hh : x.has with
            | false =>
              obtain ⟨z1, z2⟩ := steps_none (s := s) HOL.out hh
              have z3 : (doS s x tStep).1 = x := do_refused (by rw [z1]; decide)
              rw [hh] at HWO
              clear hh
              have HZ := Lib.hid (And.intro z1 (And.intro z2 z3)); clear z1 z2 z3
              go_wp2_with fail
              refine HWO.out.mono ?_; rintro e w5 ⟨u5, rfl, ho5, hx5⟩
              obtain ⟨a5, c5, hu5, _⟩ := ho5.ints.open_
              subst hu5
              go_wp2_with fail
              refine (HLE.out w5 hx5).mono ?_; rintro e w6 ⟨uK, nK, rfl, hK, hN, hx6⟩
              have hx56 := hx5.trans hx6
              obtain ⟨aK, cK, hKl, _⟩ := hK.open_
              subst hKl
              obtain ⟨aN, cN, hNl, _⟩ := hN.ints.open_
              subst hNl
              have HDO := Lib.hid (Do_c (HS.out.ext hx56) (HEr.out.ext hx56) (HTr.out.ext hx56) hb7 tStep (by decide +kernel))
              go_wp2_with fail
              refine HDO.out.mono ?_; rintro e w7 ⟨he, hE7, v7, hB7⟩
              rw [HZ.out.1] at he
              subst he
              rw [HZ.out.2.2] at hB7
              have HEN := Lib.hid (Ended_c hB7)
              rw [HZ.out.2.1] at HEN
              have HX7 : Hid (Ext w w7) := Lib.hid ((((HXr.out.trans hx56).toX (one b)).trans hE7).ext (fun k hk => by simp [one]; omega))
              go_wp2_with fail
              refine HEN.out.mono ?_; rintro e w8 ⟨rfl, hx8⟩
              go_wp2_with fail
              refine (HSA.out w8 (HX7.out.trans hx8)).mono ?_; rintro e w9 ⟨rfl, hx9⟩
              go_wp2_with fail
              go_ret
              exact ⟨rfl, (HX7.out.trans hx8).trans hx9⟩
            | true =>
              obtain ⟨z0, z⟩ := steps_some HI.out HOL.out hh
              have HCK := Lib.hid HI.out.toInvE.check
              rw [hh] at HWO
              clear hh
              have HGR := Lib.hid (fun W (q : Ext wr W) => Grounds_c (HS.out.ext q))
              have HWN := Lib.hid (fun vk vw vg W (h1 : Ruls W vk (sysL s x)) (h2 : Ints W vw (lastW x)) (h3 : Ints W vg x.gr) => Winner_c vk vw vg (sysL s x) (lastW x) x.gr W h1 h2 h3)
              rw [z0, HCK.out] at HWN
              clear z0
              go_wp2_with fail
              refine HWO.out.mono ?_; rintro e w5 ⟨u5, rfl, ho5, hx5⟩
              obtain ⟨a5, c5, hu5, _⟩ := ho5.ints.open_
              subst hu5
              go_wp2_with fail
              refine (HLE.out w5 hx5).mono ?_; rintro e w6 ⟨uK, nK, rfl, hK, hN, hx6⟩
              have hx56 := hx5.trans hx6
              obtain ⟨aK, cK, hKl, _⟩ := hK.open_
              subst hKl
              obtain ⟨aN, cN, hNl, _⟩ := hN.ints.open_
              subst hNl
              have HNH := Lib.hid (OInts.hole hN (S := S) (fun k hk => Nat.lt_of_lt_of_le (HS.out.hSl k hk) hx5.size))
              clear hN
              go_wp2_with fail
              refine (HGR.out w6 hx56).mono ?_; rintro e w7 ⟨u7, rfl, ho7, hx7⟩
              obtain ⟨a7, c7, hu7, _⟩ := ho7.ints.open_
              subst hu7
              have HWI := Lib.hid (HWN.out _ _ _ w7 (hK.ext hx7) ((ho5.ints.ext hx6).ext hx7) ho7.ints)
              have hx57 := hx56.trans hx7
              clear hK ho5 ho7
              rcases z with ⟨z1, z2, z3⟩ | ⟨⟨c1, c2, c3⟩, z1, z2, zk, zz⟩
              · rw [z1] at HWI
                simp only [chV, Option.isSome_none] at HWI
                have z4 : (doS s x tStep).1 = x := do_refused (by rw [z3]; decide)
                have HZ := Lib.hid (And.intro z3 z4); clear z1 z3 z4
                go_wp2_with fail
                refine HWI.out.mono ?_; rintro e w8 ⟨rfl, hx8⟩
                go_upto_region 18 with fail
                have hxC := (hx57.trans hx8).trans (Ext.alloc w8 (.cells #[.int .i64 0, .int .i64 0, .int .i64 0] 46))
                generalize w8.alloc (.cells #[.int .i64 0, .int .i64 0, .int .i64 0] 46) = wC at *
                have HEN := Lib.hid (Ended_c (HS.out.ext hxC))
                rw [z2] at HEN
                have HSL := Lib.hid (fun W (q : Ext wr W) => Slate_c (HS.out.ext q))
                clear z2
                go_wp2_with fail
                refine HEN.out.mono ?_; rintro e w9 ⟨rfl, hx9⟩
                have hxD := hxC.trans hx9
                go_wp2_with fail
                refine (HSL.out w9 hxD).mono ?_; rintro e w10 ⟨u10, rfl, ho10, hx10⟩
                obtain ⟨a10, c10, hu10, _⟩ := (Cel.own encCh_len ho10).open_
                subst hu10
                have hxE := hxD.trans hx10
                have HDO := Lib.hid (Do_c (HS.out.ext hxE) (HEr.out.ext hxE) (HTr.out.ext hxE) hb7 tStep (by decide +kernel))
                go_wp2_with fail
                refine HDO.out.mono ?_; rintro e w11 ⟨he, hE11, v11, hB11⟩
                rw [HZ.out.1] at he
                subst he
                have HX11 : Hid (Ext w w11) := Lib.hid ((((HXr.out.trans hxE).toX (one b)).trans hE11).ext (fun k hk => by simp [one]; omega))
                go_wp2_with fail
                refine (HSA.out w11 HX11.out).mono ?_; rintro e w12 ⟨rfl, hx12⟩
                go_wp2_with fail
                go_ret
                exact ⟨rfl, HX11.out.trans hx12⟩
              · rw [z1] at HWI
                simp only [chV, Option.isSome_some] at HWI
                dsimp only at zk zz
                clear z1
                go_wp2_with fail
                refine HWI.out.mono ?_; rintro e w8 ⟨rfl, hx8⟩
                go_upto_region 18 with fail
                have hbC := Blk.alloc w8 #[.int .i64 c1, .int .i64 c2, .int .i64 c3] 46
                have hxC8 := Ext.alloc w8 (.cells #[.int .i64 c1, .int .i64 c2, .int .i64 c3] 46)
                have hx58 := hx57.trans hx8
                have hS2 := SchB.more (HS.out.ext hx58) hxC8 (Nat.le_refl _) hbC.lt
                have hgb : b < w8.heap.size := (HS.out.ext hx58).hb.lt
                have hxC := hx58.trans hxC8
                have HN2 := Lib.hid (HNH.out.ext ((hx7.trans hx8).hole S))
                have hgw : w.heap.size ≤ w8.heap.size := (HXr.out.trans hx58).size
                have hNC : OInts 3 (hole (more S w8.heap.size) (w8.alloc (.cells #[.int .i64 c1, .int .i64 c2, .int .i64 c3] 46))) w5.heap.size (.slice aN x.kn.length cN) x.kn := OInts.ext HN2.out (hole_more hxC8 (Nat.le_refl _))
                generalize w8.alloc (.cells #[.int .i64 c1, .int .i64 c2, .int .i64 c3] 46) = wC at *
                generalize w8.heap.size = gC at *
                generalize hS2g : more S gC = S2 at *
                have hSgC : S2 gC = true := by rw [← hS2g]; exact more_self S gC
                clear hS2g
                have HEN := Lib.hid (Ended_c (HS.out.ext hxC))
                rw [z2] at HEN
                have HS2 := Lib.hid hS2
                have HSLt := Lib.hid (fun W (q : Ext wC W) => Slate_c (HS2.out.ext q))
                clear z2 hS2
                go_wp2_with fail
                refine HEN.out.mono ?_; rintro e w9 ⟨rfl, hx9⟩
                have hxD := hxC.trans hx9
                go_wp2_with fail
                refine (HSLt.out w9 hx9).mono ?_; rintro e w10 ⟨u10, rfl, ho10, hx10⟩
                have HBH := Lib.hid (Cel.own encCh_len (OCel.hole ho10 (S := S2) (fun k hk => Nat.lt_of_lt_of_le (HS2.out.hSl k hk) hx9.size)))
                obtain ⟨a9, c9, hu10, _⟩ := (Cel.own encCh_len ho10).open_
                subst hu10
                have hxE := hxD.trans hx10
                have hxCE := hx9.trans hx10
                have HDO := Lib.hid (Do_c (HS2.out.ext hxCE) (HEr.out.ext hxE) (HTr.out.ext hxE) hb7 tStep (by decide +kernel))
                clear ho10
                rcases zz with ⟨z60, z3⟩ | ⟨z60, z3, z4⟩
                · have HZ := Lib.hid z3; clear z3
                  have q60 : ((x.slate.length : Int) == 60) = true := by simp; omega
                  have q60' : (x.slate.length : Int) = 60 := by omega
                  go_wp2_with fail
                  refine HDO.out.mono ?_; rintro e w11 ⟨he, hE11, v11, hB11⟩
                  rw [HZ.out] at he
                  subst he
                  have HX11 : Hid (Ext w w11) := Lib.hid ((((HXr.out.trans hxE).toX (one b)).trans hE11).ext (fun k hk => by simp [one]; omega))
                  go_wp2_with fail
                  refine (HSA.out w11 HX11.out).mono ?_; rintro e w12 ⟨rfl, hx12⟩
                  go_wp2_with fail
                  go_ret
                  exact ⟨rfl, HX11.out.trans hx12⟩
                · have q60 : ((x.slate.length : Int) == 60) = false := by simp; omega
                  have q60' : ¬ ((x.slate.length : Int) = 60) := by omega
                  obtain ⟨cKn, hcKn⟩ : ∃ n : Nat, x.kn[c1] = (n : Int) := ⟨x.kn[c1].toNat, by have := (HKR.out _ (List.getElem_mem zk)).1; omega⟩
                  have hgt : x.kn[c1]?.getD 0 = (cKn : Int) := by rw [List.getElem?_eq_getElem zk]; exact hcKn
                  rw [hgt] at z4
                  have z4' : (doS s x tStep).1.slate = x.slate ++ [((cKn, c2, c3) : Ch)] := z4
                  generalize hR : doS s x tStep = R at *
                  obtain ⟨x1, r2⟩ := R
                  dsimp only at z3 z4'
                  subst z3
                  have HX1 := Lib.hid z4'
                  clear hR z4 z4' z60
                  go_wp2_with fail
                  refine HDO.out.mono ?_; rintro e w11 ⟨he, hE11, v11, hB11⟩
                  dsimp only at he
                  subst he
                  have hkE := hole_keep HS2.out.hSb hE11
                  obtain ⟨_, _, hnl, _, _, HNC⟩ := (((hNC.ext (hxCE.hole S2)).ints).sub hkE).open_
                  injection hnl with e1 e2 e3
                  subst e1 e3
                  obtain ⟨bN, oN, haN, hcN⟩ := HNC.out c1 zk
                  subst haN
                  rw [hgt] at hcN
                  replace hcN := hole_sub S2 w11 _ _ hcN
                  have hbC11 : Blk w11 gC 46 [.int .i64 c1, .int .i64 c2, .int .i64 c3] := by
                    have h1 := hbC.ext hxCE
                    have h2 := hE11.block gC h1.lt (by simp [one]; omega)
                    unfold Blk at h1 ⊢
                    rw [h2]; exact h1
                  have y0 := hbC11.cell (i := 0) rfl
                  have y1 := hbC11.cell (i := 1) rfl
                  have y2 := hbC11.cell (i := 2) rfl
                  have y3 := hbC11.frozen 0
                  have t1 : decide ((c1 : Int) < 0) = false := decide_eq_false (by omega)
                  have t1' : ¬ ((c1 : Int) < 0) := by omega
                  have t2 : decide ((x.kn.length : Int) ≤ (c1 : Int)) = false := decide_eq_false (by omega)
                  have t2' : ¬ ((x.kn.length : Int) ≤ (c1 : Int)) := by omega
                  have hg12 := grownBy_set w11 gC 0 (.int .i64 (cKn : Int))
                  obtain ⟨S3, _, hB12⟩ := SchB.row (o' := none) hB11 hg12 (fun r hr => by injection hr with hr; subst hr; exact ⟨hSgC, by omega⟩) (fun r hr => by cases hr) (fun r hr => by cases hr)
                  have hXS := ExtX.set w11 gC 0 (.int .i64 (cKn : Int))
                  have HBF : Hid (Chs (w11.setCell ⟨gC, 0, none⟩ (.int .i64 (cKn : Int))) (.slice a9 x.slate.length c9) x.slate) := Lib.hid (((HBH.out.sub hkE).sub (hole_keep hSgC hXS)).sub (hole_sub S2 _))
                  have hbC12 := hbC11.set 0 (.int .i64 (cKn : Int))
                  have HX12 : Hid (Ext w (w11.setCell ⟨gC, 0, none⟩ (.int .i64 (cKn : Int)))) := Lib.hid (((((HXr.out.trans hxE).toX (fun k => k == b || k == gC)).trans (hE11.mono (fun k _ hk => by simp [one] at hk ⊢; exact hk.1))).trans (hXS.mono (fun k _ hk => by simp [one] at hk ⊢; exact hk.2))).ext (fun k hk => by simp; omega))
                  clear hNC hkE HNC hg12 hXS
                  go_upto_region 28 with fail
                  generalize w11.setCell ⟨gC, 0, none⟩ (.int .i64 (cKn : Int)) = w12 at *
                  have HSL := Lib.hid (fun W (q : Ext w12 W) => Slate_c (hB12.ext q))
                  have hcells := hbC12
                  obtain ⟨B0, HB0⟩ : ∃ n, Hid (n = ({ w12 with drawn := w12.drawn + 1 } : World).heap.size) := ⟨_, Lib.hid rfl⟩
                  refine wp_region_treT (Below B0) (.look 0 (.look 3 (.look 5 (.three 1 (.two 2 (.two 4 (.one 6 (.one 7 (.one 8 (.look 9 (.one 10 (.look 11 (.look 12 .done))))))) 6 (.one 4 (.one 7 (.one 8 (.look 9 (.one 10 (.look 11 (.look 12 .done)))))))) 6 (.one 2 (.one 4 (.one 7 (.one 8 (.look 9 (.one 10 (.look 11 (.look 12 .done))))))))) 2 (.two 1 (.two 4 (.one 6 (.one 7 (.one 8 (.look 9 (.one 10 (.look 11 (.look 12 .done))))))) 6 (.one 4 (.one 7 (.one 8 (.look 9 (.one 10 (.look 11 (.look 12 .done)))))))) 6 (.one 1 (.one 4 (.one 7 (.one 8 (.look 9 (.one 10 (.look 11 (.look 12 .done))))))))) 6 (.two 1 (.one 2 (.one 4 (.one 7 (.one 8 (.look 9 (.one 10 (.look 11 (.look 12 .done)))))))) 2 (.one 1 (.one 4 (.one 7 (.one 8 (.look 9 (.one 10 (.look 11 (.look 12 .done))))))))))))) (fun w => Below.refl _ w) (fun p q r h k => @Below.trans _ p q r h k) (by kernel_rfl) (by kernel_rfl) (by intro c a d v w h; cases d <;> exact h) ?_
                  have hX0 := drawnP_ext w12
                  replace HSL := Lib.hid (fun W (q : Ext { w12 with drawn := w12.drawn + 1 } W) => HSL.out W (hX0.trans q))
                  replace HBF := Lib.hid (HBF.out.ext hX0)
                  have HX0 := Lib.hid (HX12.out.trans hX0)
                  replace hbC12 := hbC12.ext hX0
                  generalize { w12 with drawn := w12.drawn + 1 } = W0 at *
                  have HBE : Hid (∀ c, Below B0 W0 c → Ext W0 c) := Lib.hid (fun c h => by rw [HB0.out] at h; exact h)
                  have hZ0 : B0 ≤ W0.heap.size := Nat.le_of_eq HB0.out
                  have k0 : ∀ q : InC (Below B0 W0), q.w.cell? ⟨gC, 0, none⟩ = some (.int .i64 (cKn : Int)) := fun q => (hbC12.ext (HBE.out _ q.h)).cell rfl
                  have k1 : ∀ q : InC (Below B0 W0), q.w.cell? ⟨gC, 1, none⟩ = some (.int .i64 c2) := fun q => (hbC12.ext (HBE.out _ q.h)).cell rfl
                  have k2 : ∀ q : InC (Below B0 W0), q.w.cell? ⟨gC, 2, none⟩ = some (.int .i64 c3) := fun q => (hbC12.ext (HBE.out _ q.h)).cell rfl
                  iterate 3 (refine wpTreT_look rfl (fun K hK => ?_); go_simp; first | (refine hK _ ?_; clear hK K) | (refine ⟨_, fun _ => rfl, hK _ ?_⟩; clear hK K))
                  refine wpTreT_three rfl rfl rfl rfl rfl rfl (fun K hK => ?_) (fun K hK => ?_) (fun K hK => ?_)
                  · go_wp2_with fail
                    refine (HSL.out W0 (HBE.out _ (Below.refl B0 W0))).mono ?_; rintro e v20 ⟨uA, rfl, hoA, hx20⟩
                    obtain ⟨aA, cA, huA, _⟩ := (Cel.own encCh_len hoA).open_
                    subst huA
                    go_wp2_with fail
                    refine ⟨hx20.mono hZ0, ?_⟩
                    have hX20 := Below.trans (Below.refl B0 W0) (hx20.mono hZ0)
                    have hZ20 := Nat.le_trans hZ0 hx20.size
                    refine wpTreT_two rfl rfl rfl rfl (fun K hK => ?_) (fun K hK => ?_)
                    · go_wp2_with fail
                      have hoE : (v20.alloc (.cells #[] 46)).ownsRow B0 46 3 (.slice (some ⟨v20.heap.size, 0, none⟩) 0 0) 0 [] := World.ownsRow_lit (size := 3) v20 #[] 0 hZ20 (by unfold maxLen; omega) rfl
                      have hx21 := Ext.alloc v20 (.cells #[] 46)
                      have hgE : v20.heap.size < (v20.alloc (.cells #[] 46)).heap.size := by simp
                      refine ⟨hx21.mono hZ20, ?_⟩
                      have hX21 := Below.trans hX20 (hx21.mono hZ20)
                      have hZ21 := Nat.le_trans hZ20 hx21.size
                      have hne : ∀ r, (Value.slice aA x1.slate.length cA).ownBlock = some r → r ≠ v20.heap.size := fun r hr e => by have := (ownsRow_lt hoA hr).2; omega
                      generalize v20.alloc (.cells #[] 46) = v21 at *
                      generalize v20.heap.size = gE at *
                      replace hoA := ownsRow_ext hoA hx21
                      refine wpTreT_two rfl rfl rfl rfl (fun K hK => ?_) (fun K hK => ?_)
                      · have HRW : Raw v21 3 (.slice a9 x.slate.length c9) x.slate.length (x.slate.flatMap encCh) := Cel.raw encCh_len (by have := HSZ.out; omega) (HBF.out.ext (HBE.out _ hX21))
                        refine wpList_appendAllG (v := .slice (some ⟨gE, 0, none⟩) 0 0) (vx := .slice a9 x.slate.length c9) elCh rfl _ _ rfl rfl rfl hoE HRW (flat_one encCh_one) hZ21 (by have := HSZ.out; omega) (by have := HSZ.out; omega) ?_; intro v4 v22 hoF hb4 hg4 hn4
                        rw [Nat.zero_add, List.nil_append] at hoF
                        have hX22 := Below.trans hX21 hb4
                        have hZ22 := Nat.le_trans hZ21 hb4.size
                        have hszA : ∀ r, (Value.slice aA x1.slate.length cA).ownBlock = some r → r < v21.heap.size := fun r hr => (ownsRow_lt hoA hr).2
                        replace hoA := ownsRow_kept2 hoA hg4 (fun r hr e => hne r hr (by injection e with e; exact e.symm))
                        have hneF : ∀ r, (Value.slice aA x1.slate.length cA).ownBlock = some r → v4.ownBlock ≠ some r := fun r hr e => by
                          rcases hn4 r e with h | h
                          · injection h with h; exact hne r hr h.symm
                          · have := hszA r hr; omega
                        obtain ⟨a4, n4, hv4, _⟩ := (Cel.own encCh_len (show OCel encCh 3 46 v22 B0 v4 x.slate from hoF)).open_
                        subst hv4
                        have HB4 := Lib.hid hb4; clear hb4
                        go_wp2_with fail
                        refine ⟨HB4.out, ?_⟩
                        clear hoE
                        have hoE := hoF
                        refine wpTreT_one rfl rfl (fun K hK => ?_)
                        go_wp2_with fail
                        have hbB := Blk.alloc v22 #[.int .i64 (cKn : Int), .int .i64 c2, .int .i64 c3] 46
                        have hx23 := Ext.alloc v22 (.cells #[.int .i64 (cKn : Int), .int .i64 c2, .int .i64 c3] 46)
                        refine ⟨hx23.mono hZ22, ?_⟩
                        have hX23 := Below.trans hX22 (hx23.mono hZ22)
                        have hZ23 := Nat.le_trans hZ22 hx23.size
                        generalize v22.alloc (.cells #[.int .i64 (cKn : Int), .int .i64 c2, .int .i64 c3] 46) = v23 at *
                        generalize v22.heap.size = gB at *
                        replace hoA := ownsRow_ext hoA hx23
                        replace hoE := ownsRow_ext hoE hx23
                        refine wpTreT_one rfl rfl (fun K hK => ?_)
                        refine wpList_appendAllG (v := .slice a4 x.slate.length n4) (vx := .slice (some ⟨gB, 0, none⟩) 1 1) elCh rfl _ _ rfl rfl rfl hoE (raw_one rfl hbB) (fun u hu => encCh_one (cKn, c2, c3) u hu) hZ23 (by have := HSZ.out; omega) (by have := HSZ.out; omega) ?_; intro v7 v24 hoG hb7' hg7 hn7
                        replace hoG := ocel_snoc (L := x.slate) (x := ((cKn, c2, c3) : Ch)) hoG
                        have hX24 := Below.trans hX23 hb7'
                        have hZ24 := Nat.le_trans hZ23 hb7'.size
                        replace hoA := ownsRow_kept2 hoA hg7 (fun r hr e => hneF r hr e)
                        obtain ⟨a7, n7, hv7, _⟩ := (Cel.own encCh_len hoG).open_
                        rw [List.length_append, List.length_singleton] at hv7
                        subst hv7
                        have HB7 := Lib.hid hb7'; clear hb7'
                        go_wp2_with fail
                        refine ⟨HB7.out, ?_⟩
                        refine wpTreT_one rfl rfl (fun K hK => ?_)
                        have HSC := Lib.hid (sameChs4_c _ _ x1.slate (x.slate ++ [((cKn, c2, c3) : Ch)]) v24 (Cel.own encCh_len hoA) (Cel.own encCh_len hoG))
                        rw [decide_eq_true HX1.out] at HSC
                        go_wp2_with fail
                        refine HSC.out.mono ?_; rintro e v25 ⟨rfl, hx25⟩
                        go_wp2_with fail
                        refine ⟨hx25.mono hZ24, ?_⟩
                        have hX25 := Below.trans hX24 (hx25.mono hZ24)
                        have hZ25 := Nat.le_trans hZ24 hx25.size
                        iterate 1 (refine wpTreT_look rfl (fun K hK => ?_); go_simp; first | (refine hK _ ?_; clear hK K) | (refine ⟨_, fun _ => rfl, hK _ ?_⟩; clear hK K))
                        refine wpTreT_one rfl rfl (fun K hK => ?_)
                        go_wp2_with fail
                        refine (HSA.out v25 (HX0.out.trans (HBE.out _ hX25))).mono ?_; rintro e v26 ⟨rfl, hx26⟩
                        go_wp2_with fail
                        refine ⟨hx26.mono hZ25, ?_⟩
                        have hX26 := Below.trans hX25 (hx26.mono hZ25)
                        have hZ26 := Nat.le_trans hZ25 hx26.size
                        iterate 2 (refine wpTreT_look rfl (fun K hK => ?_); go_simp; first | (refine hK _ ?_; clear hK K) | (refine ⟨_, fun _ => rfl, hK _ ?_⟩; clear hK K))
                        refine wpTreT_done ?_
                        go_wp2_with fail
                        go_ret
                        exact ⟨rfl, HX0.out.trans (HBE.out _ hX26)⟩
                      · go_wp2_with fail
                        have hbB := Blk.alloc v21 #[.int .i64 (cKn : Int), .int .i64 c2, .int .i64 c3] 46
                        have hx22 := Ext.alloc v21 (.cells #[.int .i64 (cKn : Int), .int .i64 c2, .int .i64 c3] 46)
                        refine ⟨hx22.mono hZ21, ?_⟩
                        have hX22 := Below.trans hX21 (hx22.mono hZ21)
                        have hZ22 := Nat.le_trans hZ21 hx22.size
                        have hneB : v21.heap.size ≠ gE := fun e => by have := (ownsRow_lt hoE (r := gE) rfl).2; omega
                        generalize v21.alloc (.cells #[.int .i64 (cKn : Int), .int .i64 c2, .int .i64 c3] 46) = v22 at *
                        generalize v21.heap.size = gB at *
                        replace hoA := ownsRow_ext hoA hx22
                        replace hoE := ownsRow_ext hoE hx22
                        refine wpTreT_one rfl rfl (fun K hK => ?_)
                        have HRW : Raw v22 3 (.slice a9 x.slate.length c9) x.slate.length (x.slate.flatMap encCh) := Cel.raw encCh_len (by have := HSZ.out; omega) (HBF.out.ext (HBE.out _ hX22))
                        refine wpList_appendAllG (v := .slice (some ⟨gE, 0, none⟩) 0 0) (vx := .slice a9 x.slate.length c9) elCh rfl _ _ rfl rfl rfl hoE HRW (flat_one encCh_one) hZ22 (by have := HSZ.out; omega) (by have := HSZ.out; omega) ?_; intro v4 v23 hoF hb4 hg4 hn4
                        rw [Nat.zero_add, List.nil_append] at hoF
                        have hX23 := Below.trans hX22 hb4
                        have hZ23 := Nat.le_trans hZ22 hb4.size
                        have hszA : ∀ r, (Value.slice aA x1.slate.length cA).ownBlock = some r → r < v22.heap.size := fun r hr => (ownsRow_lt hoA hr).2
                        replace hoA := ownsRow_kept2 hoA hg4 (fun r hr e => hne r hr (by injection e with e; exact e.symm))
                        have hneF : ∀ r, (Value.slice aA x1.slate.length cA).ownBlock = some r → v4.ownBlock ≠ some r := fun r hr e => by
                          rcases hn4 r e with h | h
                          · injection h with h; exact hne r hr h.symm
                          · have := hszA r hr; omega
                        replace hbB := hbB.kept2 hg4 (fun e => by injection e with e; exact hneB e.symm)
                        obtain ⟨a4, n4, hv4, _⟩ := (Cel.own encCh_len (show OCel encCh 3 46 v23 B0 v4 x.slate from hoF)).open_
                        subst hv4
                        have HB4 := Lib.hid hb4; clear hb4
                        go_wp2_with fail
                        refine ⟨HB4.out, ?_⟩
                        clear hoE
                        have hoE := hoF
                        refine wpTreT_one rfl rfl (fun K hK => ?_)
                        refine wpList_appendAllG (v := .slice a4 x.slate.length n4) (vx := .slice (some ⟨gB, 0, none⟩) 1 1) elCh rfl _ _ rfl rfl rfl hoE (raw_one rfl hbB) (fun u hu => encCh_one (cKn, c2, c3) u hu) hZ23 (by have := HSZ.out; omega) (by have := HSZ.out; omega) ?_; intro v7 v24 hoG hb7' hg7 hn7
                        replace hoG := ocel_snoc (L := x.slate) (x := ((cKn, c2, c3) : Ch)) hoG
                        have hX24 := Below.trans hX23 hb7'
                        have hZ24 := Nat.le_trans hZ23 hb7'.size
                        replace hoA := ownsRow_kept2 hoA hg7 (fun r hr e => hneF r hr e)
                        obtain ⟨a7, n7, hv7, _⟩ := (Cel.own encCh_len hoG).open_
                        rw [List.length_append, List.length_singleton] at hv7
                        subst hv7
                        have HB7 := Lib.hid hb7'; clear hb7'
                        go_wp2_with fail
                        refine ⟨HB7.out, ?_⟩
                        refine wpTreT_one rfl rfl (fun K hK => ?_)
                        have HSC := Lib.hid (sameChs4_c _ _ x1.slate (x.slate ++ [((cKn, c2, c3) : Ch)]) v24 (Cel.own encCh_len hoA) (Cel.own encCh_len hoG))
                        rw [decide_eq_true HX1.out] at HSC
                        go_wp2_with fail
                        refine HSC.out.mono ?_; rintro e v25 ⟨rfl, hx25⟩
                        go_wp2_with fail
                        refine ⟨hx25.mono hZ24, ?_⟩
                        have hX25 := Below.trans hX24 (hx25.mono hZ24)
                        have hZ25 := Nat.le_trans hZ24 hx25.size
                        iterate 1 (refine wpTreT_look rfl (fun K hK => ?_); go_simp; first | (refine hK _ ?_; clear hK K) | (refine ⟨_, fun _ => rfl, hK _ ?_⟩; clear hK K))
                        refine wpTreT_one rfl rfl (fun K hK => ?_)
                        go_wp2_with fail
                        refine (HSA.out v25 (HX0.out.trans (HBE.out _ hX25))).mono ?_; rintro e v26 ⟨rfl, hx26⟩
                        go_wp2_with fail
                        refine ⟨hx26.mono hZ25, ?_⟩
                        have hX26 := Below.trans hX25 (hx26.mono hZ25)
                        have hZ26 := Nat.le_trans hZ25 hx26.size
                        iterate 2 (refine wpTreT_look rfl (fun K hK => ?_); go_simp; first | (refine hK _ ?_; clear hK K) | (refine ⟨_, fun _ => rfl, hK _ ?_⟩; clear hK K))
                        refine wpTreT_done ?_
                        go_wp2_with fail
                        go_ret
                        exact ⟨rfl, HX0.out.trans (HBE.out _ hX26)⟩
                    · go_wp2_with fail
                      have hbB := Blk.alloc v20 #[.int .i64 (cKn : Int), .int .i64 c2, .int .i64 c3] 46
                      have hx21 := Ext.alloc v20 (.cells #[.int .i64 (cKn : Int), .int .i64 c2, .int .i64 c3] 46)
                      refine ⟨hx21.mono hZ20, ?_⟩
                      have hX21 := Below.trans hX20 (hx21.mono hZ20)
                      have hZ21 := Nat.le_trans hZ20 hx21.size
                      generalize v20.alloc (.cells #[.int .i64 (cKn : Int), .int .i64 c2, .int .i64 c3] 46) = v21 at *
                      generalize v20.heap.size = gB at *
                      replace hoA := ownsRow_ext hoA hx21
                      refine wpTreT_one rfl rfl (fun K hK => ?_)
                      go_wp2_with fail
                      have hoE : (v21.alloc (.cells #[] 46)).ownsRow B0 46 3 (.slice (some ⟨v21.heap.size, 0, none⟩) 0 0) 0 [] := World.ownsRow_lit (size := 3) v21 #[] 0 hZ21 (by unfold maxLen; omega) rfl
                      have hx22 := Ext.alloc v21 (.cells #[] 46)
                      have hgE : v21.heap.size < (v21.alloc (.cells #[] 46)).heap.size := by simp
                      refine ⟨hx22.mono hZ21, ?_⟩
                      have hX22 := Below.trans hX21 (hx22.mono hZ21)
                      have hZ22 := Nat.le_trans hZ21 hx22.size
                      have hne : ∀ r, (Value.slice aA x1.slate.length cA).ownBlock = some r → r ≠ v21.heap.size := fun r hr e => by have := (ownsRow_lt hoA hr).2; omega
                      have hneB : gB ≠ v21.heap.size := by have := hbB.lt; omega
                      generalize v21.alloc (.cells #[] 46) = v22 at *
                      generalize v21.heap.size = gE at *
                      replace hoA := ownsRow_ext hoA hx22
                      replace hbB := hbB.ext hx22
                      refine wpTreT_one rfl rfl (fun K hK => ?_)
                      have HRW : Raw v22 3 (.slice a9 x.slate.length c9) x.slate.length (x.slate.flatMap encCh) := Cel.raw encCh_len (by have := HSZ.out; omega) (HBF.out.ext (HBE.out _ hX22))
                      refine wpList_appendAllG (v := .slice (some ⟨gE, 0, none⟩) 0 0) (vx := .slice a9 x.slate.length c9) elCh rfl _ _ rfl rfl rfl hoE HRW (flat_one encCh_one) hZ22 (by have := HSZ.out; omega) (by have := HSZ.out; omega) ?_; intro v4 v23 hoF hb4 hg4 hn4
                      rw [Nat.zero_add, List.nil_append] at hoF
                      have hX23 := Below.trans hX22 hb4
                      have hZ23 := Nat.le_trans hZ22 hb4.size
                      have hszA : ∀ r, (Value.slice aA x1.slate.length cA).ownBlock = some r → r < v22.heap.size := fun r hr => (ownsRow_lt hoA hr).2
                      replace hoA := ownsRow_kept2 hoA hg4 (fun r hr e => hne r hr (by injection e with e; exact e.symm))
                      have hneF : ∀ r, (Value.slice aA x1.slate.length cA).ownBlock = some r → v4.ownBlock ≠ some r := fun r hr e => by
                        rcases hn4 r e with h | h
                        · injection h with h; exact hne r hr h.symm
                        · have := hszA r hr; omega
                      replace hbB := hbB.kept2 hg4 (fun e => by injection e with e; exact hneB e.symm)
                      obtain ⟨a4, n4, hv4, _⟩ := (Cel.own encCh_len (show OCel encCh 3 46 v23 B0 v4 x.slate from hoF)).open_
                      subst hv4
                      have HB4 := Lib.hid hb4; clear hb4
                      go_wp2_with fail
                      refine ⟨HB4.out, ?_⟩
                      clear hoE
                      have hoE := hoF
                      refine wpTreT_one rfl rfl (fun K hK => ?_)
                      refine wpList_appendAllG (v := .slice a4 x.slate.length n4) (vx := .slice (some ⟨gB, 0, none⟩) 1 1) elCh rfl _ _ rfl rfl rfl hoE (raw_one rfl hbB) (fun u hu => encCh_one (cKn, c2, c3) u hu) hZ23 (by have := HSZ.out; omega) (by have := HSZ.out; omega) ?_; intro v7 v24 hoG hb7' hg7 hn7
                      replace hoG := ocel_snoc (L := x.slate) (x := ((cKn, c2, c3) : Ch)) hoG
                      have hX24 := Below.trans hX23 hb7'
                      have hZ24 := Nat.le_trans hZ23 hb7'.size
                      replace hoA := ownsRow_kept2 hoA hg7 (fun r hr e => hneF r hr e)
                      obtain ⟨a7, n7, hv7, _⟩ := (Cel.own encCh_len hoG).open_
                      rw [List.length_append, List.length_singleton] at hv7
                      subst hv7
                      have HB7 := Lib.hid hb7'; clear hb7'
                      go_wp2_with fail
                      refine ⟨HB7.out, ?_⟩
                      refine wpTreT_one rfl rfl (fun K hK => ?_)
                      have HSC := Lib.hid (sameChs4_c _ _ x1.slate (x.slate ++ [((cKn, c2, c3) : Ch)]) v24 (Cel.own encCh_len hoA) (Cel.own encCh_len hoG))
                      rw [decide_eq_true HX1.out] at HSC
                      go_wp2_with fail
                      refine HSC.out.mono ?_; rintro e v25 ⟨rfl, hx25⟩
                      go_wp2_with fail
                      refine ⟨hx25.mono hZ24, ?_⟩
                      have hX25 := Below.trans hX24 (hx25.mono hZ24)
                      have hZ25 := Nat.le_trans hZ24 hx25.size
                      iterate 1 (refine wpTreT_look rfl (fun K hK => ?_); go_simp; first | (refine hK _ ?_; clear hK K) | (refine ⟨_, fun _ => rfl, hK _ ?_⟩; clear hK K))
                      refine wpTreT_one rfl rfl (fun K hK => ?_)
                      go_wp2_with fail
                      refine (HSA.out v25 (HX0.out.trans (HBE.out _ hX25))).mono ?_; rintro e v26 ⟨rfl, hx26⟩
                      go_wp2_with fail
                      refine ⟨hx26.mono hZ25, ?_⟩
                      have hX26 := Below.trans hX25 (hx26.mono hZ25)
                      have hZ26 := Nat.le_trans hZ25 hx26.size
                      iterate 2 (refine wpTreT_look rfl (fun K hK => ?_); go_simp; first | (refine hK _ ?_; clear hK K) | (refine ⟨_, fun _ => rfl, hK _ ?_⟩; clear hK K))
                      refine wpTreT_done ?_
                      go_wp2_with fail
                      go_ret
                      exact ⟨rfl, HX0.out.trans (HBE.out _ hX26)⟩
                  · go_wp2_with fail
                    have hoE : (W0.alloc (.cells #[] 46)).ownsRow B0 46 3 (.slice (some ⟨W0.heap.size, 0, none⟩) 0 0) 0 [] := World.ownsRow_lit (size := 3) W0 #[] 0 hZ0 (by unfold maxLen; omega) rfl
                    have hx20 := Ext.alloc W0 (.cells #[] 46)
                    have hgE : W0.heap.size < (W0.alloc (.cells #[] 46)).heap.size := by simp
                    refine ⟨hx20.mono hZ0, ?_⟩
                    have hX20 := Below.trans (Below.refl B0 W0) (hx20.mono hZ0)
                    have hZ20 := Nat.le_trans hZ0 hx20.size
                    generalize W0.alloc (.cells #[] 46) = v20 at *
                    generalize W0.heap.size = gE at *
                    refine wpTreT_two rfl rfl rfl rfl (fun K hK => ?_) (fun K hK => ?_)
                    · go_wp2_with fail
                      refine (HSL.out v20 (HBE.out _ hX20)).mono ?_; rintro e v21 ⟨uA, rfl, hoA, hx21⟩
                      obtain ⟨aA, cA, huA, _⟩ := (Cel.own encCh_len hoA).open_
                      subst huA
                      go_wp2_with fail
                      refine ⟨hx21.mono hZ20, ?_⟩
                      have hX21 := Below.trans hX20 (hx21.mono hZ20)
                      have hZ21 := Nat.le_trans hZ20 hx21.size
                      have hgW := (ownsRow_lt hoE (r := gE) rfl).2
                      replace hoE := ownsRow_ext hoE hx21
                      have hne : ∀ r, (Value.slice aA x1.slate.length cA).ownBlock = some r → r ≠ gE := fun r hr e => by have := (ownsRow_lt hoA hr).1; omega
                      refine wpTreT_two rfl rfl rfl rfl (fun K hK => ?_) (fun K hK => ?_)
                      · have HRW : Raw v21 3 (.slice a9 x.slate.length c9) x.slate.length (x.slate.flatMap encCh) := Cel.raw encCh_len (by have := HSZ.out; omega) (HBF.out.ext (HBE.out _ hX21))
                        refine wpList_appendAllG (v := .slice (some ⟨gE, 0, none⟩) 0 0) (vx := .slice a9 x.slate.length c9) elCh rfl _ _ rfl rfl rfl hoE HRW (flat_one encCh_one) hZ21 (by have := HSZ.out; omega) (by have := HSZ.out; omega) ?_; intro v4 v22 hoF hb4 hg4 hn4
                        rw [Nat.zero_add, List.nil_append] at hoF
                        have hX22 := Below.trans hX21 hb4
                        have hZ22 := Nat.le_trans hZ21 hb4.size
                        have hszA : ∀ r, (Value.slice aA x1.slate.length cA).ownBlock = some r → r < v21.heap.size := fun r hr => (ownsRow_lt hoA hr).2
                        replace hoA := ownsRow_kept2 hoA hg4 (fun r hr e => hne r hr (by injection e with e; exact e.symm))
                        have hneF : ∀ r, (Value.slice aA x1.slate.length cA).ownBlock = some r → v4.ownBlock ≠ some r := fun r hr e => by
                          rcases hn4 r e with h | h
                          · injection h with h; exact hne r hr h.symm
                          · have := hszA r hr; omega
                        obtain ⟨a4, n4, hv4, _⟩ := (Cel.own encCh_len (show OCel encCh 3 46 v22 B0 v4 x.slate from hoF)).open_
                        subst hv4
                        have HB4 := Lib.hid hb4; clear hb4
                        go_wp2_with fail
                        refine ⟨HB4.out, ?_⟩
                        clear hoE
                        have hoE := hoF
                        refine wpTreT_one rfl rfl (fun K hK => ?_)
                        go_wp2_with fail
                        have hbB := Blk.alloc v22 #[.int .i64 (cKn : Int), .int .i64 c2, .int .i64 c3] 46
                        have hx23 := Ext.alloc v22 (.cells #[.int .i64 (cKn : Int), .int .i64 c2, .int .i64 c3] 46)
                        refine ⟨hx23.mono hZ22, ?_⟩
                        have hX23 := Below.trans hX22 (hx23.mono hZ22)
                        have hZ23 := Nat.le_trans hZ22 hx23.size
                        generalize v22.alloc (.cells #[.int .i64 (cKn : Int), .int .i64 c2, .int .i64 c3] 46) = v23 at *
                        generalize v22.heap.size = gB at *
                        replace hoA := ownsRow_ext hoA hx23
                        replace hoE := ownsRow_ext hoE hx23
                        refine wpTreT_one rfl rfl (fun K hK => ?_)
                        refine wpList_appendAllG (v := .slice a4 x.slate.length n4) (vx := .slice (some ⟨gB, 0, none⟩) 1 1) elCh rfl _ _ rfl rfl rfl hoE (raw_one rfl hbB) (fun u hu => encCh_one (cKn, c2, c3) u hu) hZ23 (by have := HSZ.out; omega) (by have := HSZ.out; omega) ?_; intro v7 v24 hoG hb7' hg7 hn7
                        replace hoG := ocel_snoc (L := x.slate) (x := ((cKn, c2, c3) : Ch)) hoG
                        have hX24 := Below.trans hX23 hb7'
                        have hZ24 := Nat.le_trans hZ23 hb7'.size
                        replace hoA := ownsRow_kept2 hoA hg7 (fun r hr e => hneF r hr e)
                        obtain ⟨a7, n7, hv7, _⟩ := (Cel.own encCh_len hoG).open_
                        rw [List.length_append, List.length_singleton] at hv7
                        subst hv7
                        have HB7 := Lib.hid hb7'; clear hb7'
                        go_wp2_with fail
                        refine ⟨HB7.out, ?_⟩
                        refine wpTreT_one rfl rfl (fun K hK => ?_)
                        have HSC := Lib.hid (sameChs4_c _ _ x1.slate (x.slate ++ [((cKn, c2, c3) : Ch)]) v24 (Cel.own encCh_len hoA) (Cel.own encCh_len hoG))
                        rw [decide_eq_true HX1.out] at HSC
                        go_wp2_with fail
                        refine HSC.out.mono ?_; rintro e v25 ⟨rfl, hx25⟩
                        go_wp2_with fail
                        refine ⟨hx25.mono hZ24, ?_⟩
                        have hX25 := Below.trans hX24 (hx25.mono hZ24)
                        have hZ25 := Nat.le_trans hZ24 hx25.size
                        iterate 1 (refine wpTreT_look rfl (fun K hK => ?_); go_simp; first | (refine hK _ ?_; clear hK K) | (refine ⟨_, fun _ => rfl, hK _ ?_⟩; clear hK K))
                        refine wpTreT_one rfl rfl (fun K hK => ?_)
                        go_wp2_with fail
                        refine (HSA.out v25 (HX0.out.trans (HBE.out _ hX25))).mono ?_; rintro e v26 ⟨rfl, hx26⟩
                        go_wp2_with fail
                        refine ⟨hx26.mono hZ25, ?_⟩
                        have hX26 := Below.trans hX25 (hx26.mono hZ25)
                        have hZ26 := Nat.le_trans hZ25 hx26.size
                        iterate 2 (refine wpTreT_look rfl (fun K hK => ?_); go_simp; first | (refine hK _ ?_; clear hK K) | (refine ⟨_, fun _ => rfl, hK _ ?_⟩; clear hK K))
                        refine wpTreT_done ?_
                        go_wp2_with fail
                        go_ret
                        exact ⟨rfl, HX0.out.trans (HBE.out _ hX26)⟩
                      · go_wp2_with fail
                        have hbB := Blk.alloc v21 #[.int .i64 (cKn : Int), .int .i64 c2, .int .i64 c3] 46
                        have hx22 := Ext.alloc v21 (.cells #[.int .i64 (cKn : Int), .int .i64 c2, .int .i64 c3] 46)
                        refine ⟨hx22.mono hZ21, ?_⟩
                        have hX22 := Below.trans hX21 (hx22.mono hZ21)
                        have hZ22 := Nat.le_trans hZ21 hx22.size
                        have hneB : v21.heap.size ≠ gE := fun e => by have := (ownsRow_lt hoE (r := gE) rfl).2; omega
                        generalize v21.alloc (.cells #[.int .i64 (cKn : Int), .int .i64 c2, .int .i64 c3] 46) = v22 at *
                        generalize v21.heap.size = gB at *
                        replace hoA := ownsRow_ext hoA hx22
                        replace hoE := ownsRow_ext hoE hx22
                        refine wpTreT_one rfl rfl (fun K hK => ?_)
                        have HRW : Raw v22 3 (.slice a9 x.slate.length c9) x.slate.length (x.slate.flatMap encCh) := Cel.raw encCh_len (by have := HSZ.out; omega) (HBF.out.ext (HBE.out _ hX22))
                        refine wpList_appendAllG (v := .slice (some ⟨gE, 0, none⟩) 0 0) (vx := .slice a9 x.slate.length c9) elCh rfl _ _ rfl rfl rfl hoE HRW (flat_one encCh_one) hZ22 (by have := HSZ.out; omega) (by have := HSZ.out; omega) ?_; intro v4 v23 hoF hb4 hg4 hn4
                        rw [Nat.zero_add, List.nil_append] at hoF
                        have hX23 := Below.trans hX22 hb4
                        have hZ23 := Nat.le_trans hZ22 hb4.size
                        have hszA : ∀ r, (Value.slice aA x1.slate.length cA).ownBlock = some r → r < v22.heap.size := fun r hr => (ownsRow_lt hoA hr).2
                        replace hoA := ownsRow_kept2 hoA hg4 (fun r hr e => hne r hr (by injection e with e; exact e.symm))
                        have hneF : ∀ r, (Value.slice aA x1.slate.length cA).ownBlock = some r → v4.ownBlock ≠ some r := fun r hr e => by
                          rcases hn4 r e with h | h
                          · injection h with h; exact hne r hr h.symm
                          · have := hszA r hr; omega
                        replace hbB := hbB.kept2 hg4 (fun e => by injection e with e; exact hneB e.symm)
                        obtain ⟨a4, n4, hv4, _⟩ := (Cel.own encCh_len (show OCel encCh 3 46 v23 B0 v4 x.slate from hoF)).open_
                        subst hv4
                        have HB4 := Lib.hid hb4; clear hb4
                        go_wp2_with fail
                        refine ⟨HB4.out, ?_⟩
                        clear hoE
                        have hoE := hoF
                        refine wpTreT_one rfl rfl (fun K hK => ?_)
                        refine wpList_appendAllG (v := .slice a4 x.slate.length n4) (vx := .slice (some ⟨gB, 0, none⟩) 1 1) elCh rfl _ _ rfl rfl rfl hoE (raw_one rfl hbB) (fun u hu => encCh_one (cKn, c2, c3) u hu) hZ23 (by have := HSZ.out; omega) (by have := HSZ.out; omega) ?_; intro v7 v24 hoG hb7' hg7 hn7
                        replace hoG := ocel_snoc (L := x.slate) (x := ((cKn, c2, c3) : Ch)) hoG
                        have hX24 := Below.trans hX23 hb7'
                        have hZ24 := Nat.le_trans hZ23 hb7'.size
                        replace hoA := ownsRow_kept2 hoA hg7 (fun r hr e => hneF r hr e)
                        obtain ⟨a7, n7, hv7, _⟩ := (Cel.own encCh_len hoG).open_
                        rw [List.length_append, List.length_singleton] at hv7
                        subst hv7
                        have HB7 := Lib.hid hb7'; clear hb7'
                        go_wp2_with fail
                        refine ⟨HB7.out, ?_⟩
                        refine wpTreT_one rfl rfl (fun K hK => ?_)
                        have HSC := Lib.hid (sameChs4_c _ _ x1.slate (x.slate ++ [((cKn, c2, c3) : Ch)]) v24 (Cel.own encCh_len hoA) (Cel.own encCh_len hoG))
                        rw [decide_eq_true HX1.out] at HSC
                        go_wp2_with fail
                        refine HSC.out.mono ?_; rintro e v25 ⟨rfl, hx25⟩
                        go_wp2_with fail
                        refine ⟨hx25.mono hZ24, ?_⟩
                        have hX25 := Below.trans hX24 (hx25.mono hZ24)
                        have hZ25 := Nat.le_trans hZ24 hx25.size
                        iterate 1 (refine wpTreT_look rfl (fun K hK => ?_); go_simp; first | (refine hK _ ?_; clear hK K) | (refine ⟨_, fun _ => rfl, hK _ ?_⟩; clear hK K))
                        refine wpTreT_one rfl rfl (fun K hK => ?_)
                        go_wp2_with fail
                        refine (HSA.out v25 (HX0.out.trans (HBE.out _ hX25))).mono ?_; rintro e v26 ⟨rfl, hx26⟩
                        go_wp2_with fail
                        refine ⟨hx26.mono hZ25, ?_⟩
                        have hX26 := Below.trans hX25 (hx26.mono hZ25)
                        have hZ26 := Nat.le_trans hZ25 hx26.size
                        iterate 2 (refine wpTreT_look rfl (fun K hK => ?_); go_simp; first | (refine hK _ ?_; clear hK K) | (refine ⟨_, fun _ => rfl, hK _ ?_⟩; clear hK K))
                        refine wpTreT_done ?_
                        go_wp2_with fail
                        go_ret
                        exact ⟨rfl, HX0.out.trans (HBE.out _ hX26)⟩
                    · go_wp2_with fail
                      have hbB := Blk.alloc v20 #[.int .i64 (cKn : Int), .int .i64 c2, .int .i64 c3] 46
                      have hx21 := Ext.alloc v20 (.cells #[.int .i64 (cKn : Int), .int .i64 c2, .int .i64 c3] 46)
                      refine ⟨hx21.mono hZ20, ?_⟩
                      have hX21 := Below.trans hX20 (hx21.mono hZ20)
                      have hZ21 := Nat.le_trans hZ20 hx21.size
                      have hneB : v20.heap.size ≠ gE := fun e => by have := (ownsRow_lt hoE (r := gE) rfl).2; omega
                      generalize v20.alloc (.cells #[.int .i64 (cKn : Int), .int .i64 c2, .int .i64 c3] 46) = v21 at *
                      generalize v20.heap.size = gB at *
                      replace hoE := ownsRow_ext hoE hx21
                      refine wpTreT_one rfl rfl (fun K hK => ?_)
                      go_wp2_with fail
                      refine (HSL.out v21 (HBE.out _ hX21)).mono ?_; rintro e v22 ⟨uA, rfl, hoA, hx22⟩
                      obtain ⟨aA, cA, huA, _⟩ := (Cel.own encCh_len hoA).open_
                      subst huA
                      go_wp2_with fail
                      refine ⟨hx22.mono hZ21, ?_⟩
                      have hX22 := Below.trans hX21 (hx22.mono hZ21)
                      have hZ22 := Nat.le_trans hZ21 hx22.size
                      have hgW := (ownsRow_lt hoE (r := gE) rfl).2
                      replace hoE := ownsRow_ext hoE hx22
                      replace hbB := hbB.ext hx22
                      have hne : ∀ r, (Value.slice aA x1.slate.length cA).ownBlock = some r → r ≠ gE := fun r hr e => by have := (ownsRow_lt hoA hr).1; omega
                      refine wpTreT_one rfl rfl (fun K hK => ?_)
                      have HRW : Raw v22 3 (.slice a9 x.slate.length c9) x.slate.length (x.slate.flatMap encCh) := Cel.raw encCh_len (by have := HSZ.out; omega) (HBF.out.ext (HBE.out _ hX22))
                      refine wpList_appendAllG (v := .slice (some ⟨gE, 0, none⟩) 0 0) (vx := .slice a9 x.slate.length c9) elCh rfl _ _ rfl rfl rfl hoE HRW (flat_one encCh_one) hZ22 (by have := HSZ.out; omega) (by have := HSZ.out; omega) ?_; intro v4 v23 hoF hb4 hg4 hn4
                      rw [Nat.zero_add, List.nil_append] at hoF
                      have hX23 := Below.trans hX22 hb4
                      have hZ23 := Nat.le_trans hZ22 hb4.size
                      have hszA : ∀ r, (Value.slice aA x1.slate.length cA).ownBlock = some r → r < v22.heap.size := fun r hr => (ownsRow_lt hoA hr).2
                      replace hoA := ownsRow_kept2 hoA hg4 (fun r hr e => hne r hr (by injection e with e; exact e.symm))
                      have hneF : ∀ r, (Value.slice aA x1.slate.length cA).ownBlock = some r → v4.ownBlock ≠ some r := fun r hr e => by
                        rcases hn4 r e with h | h
                        · injection h with h; exact hne r hr h.symm
                        · have := hszA r hr; omega
                      replace hbB := hbB.kept2 hg4 (fun e => by injection e with e; exact hneB e.symm)
                      obtain ⟨a4, n4, hv4, _⟩ := (Cel.own encCh_len (show OCel encCh 3 46 v23 B0 v4 x.slate from hoF)).open_
                      subst hv4
                      have HB4 := Lib.hid hb4; clear hb4
                      go_wp2_with fail
                      refine ⟨HB4.out, ?_⟩
                      clear hoE
                      have hoE := hoF
                      refine wpTreT_one rfl rfl (fun K hK => ?_)
                      refine wpList_appendAllG (v := .slice a4 x.slate.length n4) (vx := .slice (some ⟨gB, 0, none⟩) 1 1) elCh rfl _ _ rfl rfl rfl hoE (raw_one rfl hbB) (fun u hu => encCh_one (cKn, c2, c3) u hu) hZ23 (by have := HSZ.out; omega) (by have := HSZ.out; omega) ?_; intro v7 v24 hoG hb7' hg7 hn7
                      replace hoG := ocel_snoc (L := x.slate) (x := ((cKn, c2, c3) : Ch)) hoG
                      have hX24 := Below.trans hX23 hb7'
                      have hZ24 := Nat.le_trans hZ23 hb7'.size
                      replace hoA := ownsRow_kept2 hoA hg7 (fun r hr e => hneF r hr e)
                      obtain ⟨a7, n7, hv7, _⟩ := (Cel.own encCh_len hoG).open_
                      rw [List.length_append, List.length_singleton] at hv7
                      subst hv7
                      have HB7 := Lib.hid hb7'; clear hb7'
                      go_wp2_with fail
                      refine ⟨HB7.out, ?_⟩
                      refine wpTreT_one rfl rfl (fun K hK => ?_)
                      have HSC := Lib.hid (sameChs4_c _ _ x1.slate (x.slate ++ [((cKn, c2, c3) : Ch)]) v24 (Cel.own encCh_len hoA) (Cel.own encCh_len hoG))
                      rw [decide_eq_true HX1.out] at HSC
                      go_wp2_with fail
                      refine HSC.out.mono ?_; rintro e v25 ⟨rfl, hx25⟩
                      go_wp2_with fail
                      refine ⟨hx25.mono hZ24, ?_⟩
                      have hX25 := Below.trans hX24 (hx25.mono hZ24)
                      have hZ25 := Nat.le_trans hZ24 hx25.size
                      iterate 1 (refine wpTreT_look rfl (fun K hK => ?_); go_simp; first | (refine hK _ ?_; clear hK K) | (refine ⟨_, fun _ => rfl, hK _ ?_⟩; clear hK K))
                      refine wpTreT_one rfl rfl (fun K hK => ?_)
                      go_wp2_with fail
                      refine (HSA.out v25 (HX0.out.trans (HBE.out _ hX25))).mono ?_; rintro e v26 ⟨rfl, hx26⟩
                      go_wp2_with fail
                      refine ⟨hx26.mono hZ25, ?_⟩
                      have hX26 := Below.trans hX25 (hx26.mono hZ25)
                      have hZ26 := Nat.le_trans hZ25 hx26.size
                      iterate 2 (refine wpTreT_look rfl (fun K hK => ?_); go_simp; first | (refine hK _ ?_; clear hK K) | (refine ⟨_, fun _ => rfl, hK _ ?_⟩; clear hK K))
                      refine wpTreT_done ?_
                      go_wp2_with fail
                      go_ret
                      exact ⟨rfl, HX0.out.trans (HBE.out _ hX26)⟩
                  · go_wp2_with fail
                    have hbB := Blk.alloc W0 #[.int .i64 (cKn : Int), .int .i64 c2, .int .i64 c3] 46
                    have hx20 := Ext.alloc W0 (.cells #[.int .i64 (cKn : Int), .int .i64 c2, .int .i64 c3] 46)
                    refine ⟨hx20.mono hZ0, ?_⟩
                    have hX20 := Below.trans (Below.refl B0 W0) (hx20.mono hZ0)
                    have hZ20 := Nat.le_trans hZ0 hx20.size
                    generalize W0.alloc (.cells #[.int .i64 (cKn : Int), .int .i64 c2, .int .i64 c3] 46) = v20 at *
                    generalize W0.heap.size = gB at *
                    refine wpTreT_two rfl rfl rfl rfl (fun K hK => ?_) (fun K hK => ?_)
                    · go_wp2_with fail
                      refine (HSL.out v20 (HBE.out _ hX20)).mono ?_; rintro e v21 ⟨uA, rfl, hoA, hx21⟩
                      obtain ⟨aA, cA, huA, _⟩ := (Cel.own encCh_len hoA).open_
                      subst huA
                      go_wp2_with fail
                      refine ⟨hx21.mono hZ20, ?_⟩
                      have hX21 := Below.trans hX20 (hx21.mono hZ20)
                      have hZ21 := Nat.le_trans hZ20 hx21.size
                      replace hbB := hbB.ext hx21
                      refine wpTreT_one rfl rfl (fun K hK => ?_)
                      go_wp2_with fail
                      have hoE : (v21.alloc (.cells #[] 46)).ownsRow B0 46 3 (.slice (some ⟨v21.heap.size, 0, none⟩) 0 0) 0 [] := World.ownsRow_lit (size := 3) v21 #[] 0 hZ21 (by unfold maxLen; omega) rfl
                      have hx22 := Ext.alloc v21 (.cells #[] 46)
                      have hgE : v21.heap.size < (v21.alloc (.cells #[] 46)).heap.size := by simp
                      refine ⟨hx22.mono hZ21, ?_⟩
                      have hX22 := Below.trans hX21 (hx22.mono hZ21)
                      have hZ22 := Nat.le_trans hZ21 hx22.size
                      have hne : ∀ r, (Value.slice aA x1.slate.length cA).ownBlock = some r → r ≠ v21.heap.size := fun r hr e => by have := (ownsRow_lt hoA hr).2; omega
                      have hneB : gB ≠ v21.heap.size := by have := hbB.lt; omega
                      generalize v21.alloc (.cells #[] 46) = v22 at *
                      generalize v21.heap.size = gE at *
                      replace hoA := ownsRow_ext hoA hx22
                      replace hbB := hbB.ext hx22
                      refine wpTreT_one rfl rfl (fun K hK => ?_)
                      have HRW : Raw v22 3 (.slice a9 x.slate.length c9) x.slate.length (x.slate.flatMap encCh) := Cel.raw encCh_len (by have := HSZ.out; omega) (HBF.out.ext (HBE.out _ hX22))
                      refine wpList_appendAllG (v := .slice (some ⟨gE, 0, none⟩) 0 0) (vx := .slice a9 x.slate.length c9) elCh rfl _ _ rfl rfl rfl hoE HRW (flat_one encCh_one) hZ22 (by have := HSZ.out; omega) (by have := HSZ.out; omega) ?_; intro v4 v23 hoF hb4 hg4 hn4
                      rw [Nat.zero_add, List.nil_append] at hoF
                      have hX23 := Below.trans hX22 hb4
                      have hZ23 := Nat.le_trans hZ22 hb4.size
                      have hszA : ∀ r, (Value.slice aA x1.slate.length cA).ownBlock = some r → r < v22.heap.size := fun r hr => (ownsRow_lt hoA hr).2
                      replace hoA := ownsRow_kept2 hoA hg4 (fun r hr e => hne r hr (by injection e with e; exact e.symm))
                      have hneF : ∀ r, (Value.slice aA x1.slate.length cA).ownBlock = some r → v4.ownBlock ≠ some r := fun r hr e => by
                        rcases hn4 r e with h | h
                        · injection h with h; exact hne r hr h.symm
                        · have := hszA r hr; omega
                      replace hbB := hbB.kept2 hg4 (fun e => by injection e with e; exact hneB e.symm)
                      obtain ⟨a4, n4, hv4, _⟩ := (Cel.own encCh_len (show OCel encCh 3 46 v23 B0 v4 x.slate from hoF)).open_
                      subst hv4
                      have HB4 := Lib.hid hb4; clear hb4
                      go_wp2_with fail
                      refine ⟨HB4.out, ?_⟩
                      clear hoE
                      have hoE := hoF
                      refine wpTreT_one rfl rfl (fun K hK => ?_)
                      refine wpList_appendAllG (v := .slice a4 x.slate.length n4) (vx := .slice (some ⟨gB, 0, none⟩) 1 1) elCh rfl _ _ rfl rfl rfl hoE (raw_one rfl hbB) (fun u hu => encCh_one (cKn, c2, c3) u hu) hZ23 (by have := HSZ.out; omega) (by have := HSZ.out; omega) ?_; intro v7 v24 hoG hb7' hg7 hn7
                      replace hoG := ocel_snoc (L := x.slate) (x := ((cKn, c2, c3) : Ch)) hoG
                      have hX24 := Below.trans hX23 hb7'
                      have hZ24 := Nat.le_trans hZ23 hb7'.size
                      replace hoA := ownsRow_kept2 hoA hg7 (fun r hr e => hneF r hr e)
                      obtain ⟨a7, n7, hv7, _⟩ := (Cel.own encCh_len hoG).open_
                      rw [List.length_append, List.length_singleton] at hv7
                      subst hv7
                      have HB7 := Lib.hid hb7'; clear hb7'
                      go_wp2_with fail
                      refine ⟨HB7.out, ?_⟩
                      refine wpTreT_one rfl rfl (fun K hK => ?_)
                      have HSC := Lib.hid (sameChs4_c _ _ x1.slate (x.slate ++ [((cKn, c2, c3) : Ch)]) v24 (Cel.own encCh_len hoA) (Cel.own encCh_len hoG))
                      rw [decide_eq_true HX1.out] at HSC
                      go_wp2_with fail
                      refine HSC.out.mono ?_; rintro e v25 ⟨rfl, hx25⟩
                      go_wp2_with fail
                      refine ⟨hx25.mono hZ24, ?_⟩
                      have hX25 := Below.trans hX24 (hx25.mono hZ24)
                      have hZ25 := Nat.le_trans hZ24 hx25.size
                      iterate 1 (refine wpTreT_look rfl (fun K hK => ?_); go_simp; first | (refine hK _ ?_; clear hK K) | (refine ⟨_, fun _ => rfl, hK _ ?_⟩; clear hK K))
                      refine wpTreT_one rfl rfl (fun K hK => ?_)
                      go_wp2_with fail
                      refine (HSA.out v25 (HX0.out.trans (HBE.out _ hX25))).mono ?_; rintro e v26 ⟨rfl, hx26⟩
                      go_wp2_with fail
                      refine ⟨hx26.mono hZ25, ?_⟩
                      have hX26 := Below.trans hX25 (hx26.mono hZ25)
                      have hZ26 := Nat.le_trans hZ25 hx26.size
                      iterate 2 (refine wpTreT_look rfl (fun K hK => ?_); go_simp; first | (refine hK _ ?_; clear hK K) | (refine ⟨_, fun _ => rfl, hK _ ?_⟩; clear hK K))
                      refine wpTreT_done ?_
                      go_wp2_with fail
                      go_ret
                      exact ⟨rfl, HX0.out.trans (HBE.out _ hX26)⟩
                    · go_wp2_with fail
                      have hoE : (v20.alloc (.cells #[] 46)).ownsRow B0 46 3 (.slice (some ⟨v20.heap.size, 0, none⟩) 0 0) 0 [] := World.ownsRow_lit (size := 3) v20 #[] 0 hZ20 (by unfold maxLen; omega) rfl
                      have hx21 := Ext.alloc v20 (.cells #[] 46)
                      have hgE : v20.heap.size < (v20.alloc (.cells #[] 46)).heap.size := by simp
                      refine ⟨hx21.mono hZ20, ?_⟩
                      have hX21 := Below.trans hX20 (hx21.mono hZ20)
                      have hZ21 := Nat.le_trans hZ20 hx21.size
                      have hneB : gB ≠ v20.heap.size := by have := hbB.lt; omega
                      generalize v20.alloc (.cells #[] 46) = v21 at *
                      generalize v20.heap.size = gE at *
                      replace hbB := hbB.ext hx21
                      refine wpTreT_one rfl rfl (fun K hK => ?_)
                      go_wp2_with fail
                      refine (HSL.out v21 (HBE.out _ hX21)).mono ?_; rintro e v22 ⟨uA, rfl, hoA, hx22⟩
                      obtain ⟨aA, cA, huA, _⟩ := (Cel.own encCh_len hoA).open_
                      subst huA
                      go_wp2_with fail
                      refine ⟨hx22.mono hZ21, ?_⟩
                      have hX22 := Below.trans hX21 (hx22.mono hZ21)
                      have hZ22 := Nat.le_trans hZ21 hx22.size
                      have hgW := (ownsRow_lt hoE (r := gE) rfl).2
                      replace hoE := ownsRow_ext hoE hx22
                      replace hbB := hbB.ext hx22
                      have hne : ∀ r, (Value.slice aA x1.slate.length cA).ownBlock = some r → r ≠ gE := fun r hr e => by have := (ownsRow_lt hoA hr).1; omega
                      refine wpTreT_one rfl rfl (fun K hK => ?_)
                      have HRW : Raw v22 3 (.slice a9 x.slate.length c9) x.slate.length (x.slate.flatMap encCh) := Cel.raw encCh_len (by have := HSZ.out; omega) (HBF.out.ext (HBE.out _ hX22))
                      refine wpList_appendAllG (v := .slice (some ⟨gE, 0, none⟩) 0 0) (vx := .slice a9 x.slate.length c9) elCh rfl _ _ rfl rfl rfl hoE HRW (flat_one encCh_one) hZ22 (by have := HSZ.out; omega) (by have := HSZ.out; omega) ?_; intro v4 v23 hoF hb4 hg4 hn4
                      rw [Nat.zero_add, List.nil_append] at hoF
                      have hX23 := Below.trans hX22 hb4
                      have hZ23 := Nat.le_trans hZ22 hb4.size
                      have hszA : ∀ r, (Value.slice aA x1.slate.length cA).ownBlock = some r → r < v22.heap.size := fun r hr => (ownsRow_lt hoA hr).2
                      replace hoA := ownsRow_kept2 hoA hg4 (fun r hr e => hne r hr (by injection e with e; exact e.symm))
                      have hneF : ∀ r, (Value.slice aA x1.slate.length cA).ownBlock = some r → v4.ownBlock ≠ some r := fun r hr e => by
                        rcases hn4 r e with h | h
                        · injection h with h; exact hne r hr h.symm
                        · have := hszA r hr; omega
                      replace hbB := hbB.kept2 hg4 (fun e => by injection e with e; exact hneB e.symm)
                      obtain ⟨a4, n4, hv4, _⟩ := (Cel.own encCh_len (show OCel encCh 3 46 v23 B0 v4 x.slate from hoF)).open_
                      subst hv4
                      have HB4 := Lib.hid hb4; clear hb4
                      go_wp2_with fail
                      refine ⟨HB4.out, ?_⟩
                      clear hoE
                      have hoE := hoF
                      refine wpTreT_one rfl rfl (fun K hK => ?_)
                      refine wpList_appendAllG (v := .slice a4 x.slate.length n4) (vx := .slice (some ⟨gB, 0, none⟩) 1 1) elCh rfl _ _ rfl rfl rfl hoE (raw_one rfl hbB) (fun u hu => encCh_one (cKn, c2, c3) u hu) hZ23 (by have := HSZ.out; omega) (by have := HSZ.out; omega) ?_; intro v7 v24 hoG hb7' hg7 hn7
                      replace hoG := ocel_snoc (L := x.slate) (x := ((cKn, c2, c3) : Ch)) hoG
                      have hX24 := Below.trans hX23 hb7'
                      have hZ24 := Nat.le_trans hZ23 hb7'.size
                      replace hoA := ownsRow_kept2 hoA hg7 (fun r hr e => hneF r hr e)
                      obtain ⟨a7, n7, hv7, _⟩ := (Cel.own encCh_len hoG).open_
                      rw [List.length_append, List.length_singleton] at hv7
                      subst hv7
                      have HB7 := Lib.hid hb7'; clear hb7'
                      go_wp2_with fail
                      refine ⟨HB7.out, ?_⟩
                      refine wpTreT_one rfl rfl (fun K hK => ?_)
                      have HSC := Lib.hid (sameChs4_c _ _ x1.slate (x.slate ++ [((cKn, c2, c3) : Ch)]) v24 (Cel.own encCh_len hoA) (Cel.own encCh_len hoG))
                      rw [decide_eq_true HX1.out] at HSC
                      go_wp2_with fail
                      refine HSC.out.mono ?_; rintro e v25 ⟨rfl, hx25⟩
                      go_wp2_with fail
                      refine ⟨hx25.mono hZ24, ?_⟩
                      have hX25 := Below.trans hX24 (hx25.mono hZ24)
                      have hZ25 := Nat.le_trans hZ24 hx25.size
                      iterate 1 (refine wpTreT_look rfl (fun K hK => ?_); go_simp; first | (refine hK _ ?_; clear hK K) | (refine ⟨_, fun _ => rfl, hK _ ?_⟩; clear hK K))
                      refine wpTreT_one rfl rfl (fun K hK => ?_)
                      go_wp2_with fail
                      refine (HSA.out v25 (HX0.out.trans (HBE.out _ hX25))).mono ?_; rintro e v26 ⟨rfl, hx26⟩
                      go_wp2_with fail
                      refine ⟨hx26.mono hZ25, ?_⟩
                      have hX26 := Below.trans hX25 (hx26.mono hZ25)
                      have hZ26 := Nat.le_trans hZ25 hx26.size
                      iterate 2 (refine wpTreT_look rfl (fun K hK => ?_); go_simp; first | (refine hK _ ?_; clear hK K) | (refine ⟨_, fun _ => rfl, hK _ ?_⟩; clear hK K))
                      refine wpTreT_done ?_
                      go_wp2_with fail
                      go_ret
                      exact ⟨rfl, HX0.out.trans (HBE.out _ hX26)⟩
      · have HV := Lib.hid hv; clear hv
        go_enter Tryz.func5, Tryz.ntmps5
        go_wp2_with fail
        refine HLG.out.mono ?_; rintro e w1 ⟨rfl, hx1⟩
        go_wp2_with fail
        refine (HLO.out w1 hx1).mono ?_; rintro e w2 ⟨rfl, hx2⟩
        go_wp2_with fail
        refine (HBE.out w2 (hx1.trans hx2)).mono ?_; rintro e w3 ⟨hx3, ⟨h0, he⟩ | ⟨h0, _⟩⟩
        rotate_left
        · exact absurd h0 HV.out
        clear h0
        subst he
        have hX3 := (hx1.trans hx2).trans hx3
        go_wp2_with fail
        refine (HFA.out w3 hX3 HV.out).mono ?_; rintro e w4 ⟨rfl, hx4⟩
        go_wp2_with fail
        go_ret
        exact ⟨rfl, hX3.trans hx4⟩
end Go.Proofs.YtpmlcfgbfhgpgaaGreatDoor
