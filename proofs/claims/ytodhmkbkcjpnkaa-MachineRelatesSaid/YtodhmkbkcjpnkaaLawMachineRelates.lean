/- MachineRelates: for every input the call returns true. No condition. -/
import Derived.Test.YtodhmkbkcjpnkaaMacS
import Derived.Test.YtodhmkbkcjpnkaaMacQ2
import Derived.Test.YtodhmkbkcjpnkaaMacQR
import Derived.Test.YtodhmkbkcjpnkaaMacY
namespace Go.Proofs.Ytodhmkbkcjpnkaa
open Go.RowKit Go.Shelf
set_option linter.unusedVariables false

theorem checkK_v {m : Mac} {l : List (List Int)} (h : checkK m l = 0) : validM m = 0 := by
  unfold checkK at h
  split at h
  · assumption
  · exact h
theorem goRun_at {m : Mac} : ∀ {R u v : List Int} {s : Int}, goRun m R u v s → u.length = R.length ∧ v.length = R.length ∧
    (∀ k, k < R.length → ∃ t : Nat, R[k]?.getD 0 = t ∧ t < m.a.length ∧ (arcA m.a t).i = u[k]?.getD 0 ∧ (arcA m.a t).o = v[k]?.getD 0 ∧ (arcA m.a t).f = (match k with | 0 => s | j + 1 => (arcA m.a (R[j]?.getD 0).toNat).t)) ∧
    (match R.length with | 0 => s | j + 1 => (arcA m.a (R[j]?.getD 0).toNat).t) ∈ m.e
  | [], [], [], s, h => ⟨rfl, rfl, fun k hk => by simp at hk, h⟩
  | x :: R, i :: u, o :: v, s, ⟨t, hx, ht, h1, h2, h3, h4⟩ => by
    obtain ⟨e1, e2, e3, e4⟩ := goRun_at h4
    refine ⟨by simp [e1], by simp [e2], fun k hk => ?_, ?_⟩
    · cases k with
      | zero => exact ⟨t, by simpa using hx, ht, by simpa using h2, by simpa using h3, h1⟩
      | succ k =>
        obtain ⟨t', f1, f2, f3, f4, f5⟩ := e3 k (by simpa using hk)
        refine ⟨t', by simpa using f1, f2, by simpa using f3, by simpa using f4, ?_⟩
        cases k with
        | zero => rw [f5]; simp [hx]
        | succ k => rw [f5]; simp
    · show (arcA m.a ((x :: R)[R.length]?.getD 0).toNat).t ∈ m.e
      cases hR : R with
      | nil => subst hR; simpa [hx] using e4
      | cons y R' => subst hR; simpa using e4
theorem goRun_run {m : Mac} (hm : validM m = 0) {R u v : List Int} (h : goRun m R u v 0) (hl : u.length ≤ 200) : runK m R = 0 ∧ runI m R = u ∧ runO m R = v := by
  obtain ⟨e1, e2, e3, e4⟩ := goRun_at h
  have h1 : allB R.length (inRun m R) = true := allB_true fun j hj => by
    obtain ⟨t, f1, f2, _⟩ := e3 j hj
    unfold inRun inB
    rw [f1]; simp; omega
  have hat : ∀ k, rAt m.a R k = (match k with | 0 => 0 | j + 1 => (arcA m.a (R[j]?.getD 0).toNat).t) := fun k => by cases k <;> rfl
  have h2 : allB R.length (onRun m R) = true := allB_true fun j hj => by
    obtain ⟨t, f1, f2, _, _, f5⟩ := e3 j hj
    unfold onRun
    rw [f1, hat, beq_iff_eq]; exact f5
  have h3 : hasB m.e (rAt m.a R R.length) = true := by
    rw [hasB_eq, List.contains_iff_mem, hat]; exact e4
  have hk : runK m R = 0 := by
    unfold runK
    rw [if_pos hm, if_neg (by omega), h1, if_pos rfl, h2, if_pos rfl, h3, if_pos rfl]
  refine ⟨hk, ?_, ?_⟩
  · rw [runI, if_pos hk, rIn, List.take_length]
    refine List.ext_getElem (by simp [e1]) fun j g1 g2 => ?_
    simp only [List.length_map] at g1
    obtain ⟨t, f1, f2, f3, f4, _⟩ := e3 j g1
    simp only [g1, g2, List.getElem?_eq_getElem, Option.getD_some] at f1 f3
    rw [List.getElem_map, f1]; exact f3
  · rw [runO, if_pos hk, rOut, List.take_length]
    refine List.ext_getElem (by simp [e2]) fun j g1 g2 => ?_
    simp only [List.length_map] at g1
    obtain ⟨t, f1, f2, f3, f4, _⟩ := e3 j g1
    simp only [g1, g2, List.getElem?_eq_getElem, Option.getD_some] at f1 f4
    rw [List.getElem_map, f1]; exact f4
theorem sameInts_w (va vb : Value) (a : List Int) (w : World) (ha : Ints w va a) (hb : Ints w vb a) : Calls Try.prog 42 #[va, vb] w (RV (.bool true) w) := by
  have := sameInts_c va vb a a w ha hb
  rw [show sameIntsB a a = true by rw [sameIntsB_iff]; simp] at this
  refine this.mono ?_
  rintro e w' ⟨rfl, n, rfl⟩
  exact ⟨rfl, Ext.drewN _ _⟩
theorem runsN_no {m : Mac} {u v : List Int} (h : relatesB m u v = false) : runsN m u v = 0 := by
  unfold relatesB at h
  unfold runsN
  by_cases h0 : checkK m [u, v] = 0
  · rw [if_pos h0] at h ⊢
    obtain ⟨hm, hul, _⟩ := checkK_ok (checkK_ok2 h0).1
    have h1 : ¬ 0 < cntUV m u v := by simpa using h
    have h2 : 0 ≤ cntUV m u v := by
      unfold cntUV
      split
      · rename_i hl
        obtain ⟨b1, b2, b3⟩ := bws_iff hm u v hl 0
        have hV := (Vec.bwLs hm.states (Vec.ends hm.ends) (condUV u v)).2 0 (by have := hm.s1; omega)
        have hp : (60 : Int) ^ u.length ≤ 60 ^ 8 := by
          have := Nat.pow_le_pow_right (n := 60) (by omega) hul
          exact_mod_cast this
        have hw : wr64 (bwsE m.a (endE m.e) (condUV u v) 0) = bwsE m.a (endE m.e) (condUV u v) 0 := by
          unfold wr64
          exact IntWalk.i64_in _ (by omega)
        unfold cntN
        rw [hV, hw]; exact b1
      · exact Int.le_refl _
    omega
  · rw [if_neg h0]
theorem runsN_yes {m : Mac} {u v : List Int} (h : relatesB m u v = true) : 0 < runsN m u v ∧ checkK m [u, v] = 0 := by
  unfold relatesB at h
  unfold runsN
  by_cases h0 : checkK m [u, v] = 0
  · rw [if_pos h0] at h ⊢
    exact ⟨by simpa using h, h0⟩
  · rw [if_neg h0] at h; cases h

set_option maxHeartbeats 4000000 in
set_option maxRecDepth 100000 in
theorem machineRelates_c (av ev : Value) (m : Mac) (uv : Value) (u : List Int) (vv : Value) (v : List Int) (w : World) (h : MacR w av ev m) (hu : Ints w uv u) (hv : Ints w vv v) :
    Calls Try.prog 11 #[.agg #[.int .i64 m.s, av, ev], uv, vv] w (RV (.bool true) w) := by
  obtain ⟨wA, hwA⟩ : ∃ wA, wA = w.alloc (.cells #[.int .i64 m.s, av, ev] 25) := ⟨_, rfl⟩
  have hE0 : Ext w wA := by rw [hwA]; exact Ext.alloc _ _
  have k0 : ∀ W, Ext wA W → W.cell? ⟨w.heap.size, 0, none⟩ = some (.int .i64 m.s) := by rw [hwA]; exact kept_alloc w _ _ rfl
  have k1 : ∀ W, Ext wA W → W.cell? ⟨w.heap.size, 1, none⟩ = some av := by rw [hwA]; exact kept_alloc w _ _ rfl
  have k2 : ∀ W, Ext wA W → W.cell? ⟨w.heap.size, 2, none⟩ = some ev := by rw [hwA]; exact kept_alloc w _ _ rfl
  have H0 : Ext wA wA := Ext.refl _
  have HR := Lib.hid (h.ext hE0)
  obtain ⟨aa, ca, rfl, hla, hma, HA⟩ := (h.ext hE0).a.open_
  obtain ⟨ae, ce, rfl, hle, hme, HE⟩ := (h.ext hE0).e.open_
  have HI_u := Lib.hid (hu.ext hE0)
  obtain ⟨a_u, c_u, rfl, _, _, HU_u⟩ := (hu.ext hE0).open_
  have HI_v := Lib.hid (hv.ext hE0)
  obtain ⟨a_v, c_v, rfl, _, _, HU_v⟩ := (hv.ext hE0).open_
  have hxL := Ext.alloc wA (.cells #[.slice a_u u.length c_u, .slice a_v v.length c_v] 23)
  have HLG := Lib.hid (by have := Long_c _ _ _ m [u, v] _ (HR.out.ext hxL) (rows_new wA [.slice a_u u.length c_u, .slice a_v v.length c_v] [u, v] (by exact (AllInts.cons HI_u.out (AllInts.cons HI_v.out (AllInts.nil _)))) (by simp)); rw [show wA.heap.size = w.heap.size + 1 by rw [hwA]; simp] at this; exact this)
  have HW := Lib.hid hwA; clear hwA h hu hv
  have HLB := Lib.hid (longM_bd (m := m) (ls := [u, v]))
  generalize longM m [u, v] = b1 at *
  cases b1
  · have HLB2 := HLB.out rfl
    clear HLB
    go_enter Try.func11, Try.ntmps11
    go_wp2_with fail
    rw [← HW.out]
    refine HLG.out.mono ?_; rintro e w2 ⟨rfl, hx2⟩
    replace hx2 := hxL.trans hx2
    clear HLG
    go_wp2_with fail
    refine (Relates_c _ _ _ _ m u v w2 (HR.out.ext hx2) (HI_u.out.ext hx2) (HI_v.out.ext hx2)).mono ?_; rintro e w3 ⟨rfl, hx3⟩
    have hX3 := hx2.trans hx3
    go_wp2_with fail
    refine (rRelates_c _ _ _ _ m u v w3 (HR.out.ext hX3) (HI_u.out.ext hX3) (HI_v.out.ext hX3)).mono ?_; rintro e w4 ⟨rfl, hx4⟩
    have hX4 := hX3.trans hx4
    go_wp2_with fail
    refine (Runs_c _ _ _ _ m u v w4 (HR.out.ext hX4) (HI_u.out.ext hX4) (HI_v.out.ext hX4)).mono ?_; rintro e w5 ⟨rfl, hx5⟩
    have hX5 := hX4.trans hx5
    go_wp2_with fail
    refine (rRuns_c _ _ _ _ m u v w5 (HR.out.ext hX5) (HI_u.out.ext hX5) (HI_v.out.ext hX5)).mono ?_; rintro e w6 ⟨rfl, hx6⟩
    have hX6 := hX5.trans hx6
    go_wp2_with fail
    refine (Run_c _ _ _ _ m u v w6 (HR.out.ext hX6) (HI_u.out.ext hX6) (HI_v.out.ext hX6)).mono ?_; rintro e w7 ⟨hx7, rv, R, rfl, hi7, hno, hyes⟩
    have hX7 := hX6.trans hx7
    have HI7 := Lib.hid hi7
    obtain ⟨ra, rc, rfl, _⟩ := hi7.open_
    clear hx3 hx4 hx5 hx6 hx7 hX3 hX4 hX5 hX6 hi7
    have HNO := Lib.hid (fun h => hno h)
    have HYES := Lib.hid (fun h => hyes h)
    have HN0 := Lib.hid (fun h => runsN_no (m := m) (u := u) (v := v) h)
    have HN1 := Lib.hid (fun h => runsN_yes (m := m) (u := u) (v := v) h)
    have HKV := Lib.hid (fun (h : checkK m [u, v] = 0) => checkK_ok (checkK_ok2 h).1)
    clear hno hyes
    generalize hk0 : checkK m [u, v] = k0 at *
    generalize hn0 : runsN m u v = n0 at *
    generalize hb0 : relatesB m u v = b0 at *
    have HKN := Lib.hid (And.intro hk0 (And.intro hn0 hb0)); clear hk0 hn0 hb0
    have e1 : (b0 != b0) = false := by simp
    have e2 : (k0 != k0) = false := by simp
    have e3 : (n0 != n0) = false := by simp
    cases b0
    · obtain rfl := HNO.out rfl
      obtain rfl := HN0.out rfl
      have HX7 := Lib.hid hX7
      go_wp2_with fail
      refine (sane_c _).mono ?_; rintro e wK ⟨rfl, hxK⟩
      go_wp2_with fail
      go_ret
      exact RV.bool rfl (hE0.trans (hX7.trans hxK))
    · obtain ⟨hp, rfl⟩ := HN1.out rfl
      have hpn : decide (0 < n0) = true := by simpa using hp
      have hgr := HYES.out rfl
      obtain ⟨hm, hul, _⟩ := HKV.out rfl
      obtain ⟨g1, g2, g3⟩ := goRun_run (by have := HKN.out.1; exact checkK_v this) hgr (by omega)
      have HRR := Lib.hid (rCheckRun_c _ _ _ m R w7 (HR.out.ext hX7) HI7.out)
      unfold RRun at HRR
      rw [g1, g2, g3] at HRR
      clear g1 g2 g3 hm hul hgr HKV hp
      go_wp2_with fail
      refine HRR.out.mono ?_; rintro e w8 ⟨v1, v2, rfl, hi1, hi2, hx8⟩
      obtain ⟨a1, c1, rfl, _⟩ := hi1.open_
      obtain ⟨a2, c2, rfl, _⟩ := hi2.open_
      have hX8 := hX7.trans hx8
      have HS1 := Lib.hid (sameInts_w _ _ u w8 hi1 (HI_u.out.ext hX8))
      have HS2 := Lib.hid (fun W (hW : Ext w8 W) => sameInts_w _ _ v W (hi2.ext hW) (HI_v.out.ext (hX8.trans hW)))
      clear hi1 hi2
      go_wp2_with fail
      refine HS1.out.mono ?_; rintro e w9 ⟨rfl, hx9⟩
      go_wp2_with fail
      refine (HS2.out w9 hx9).mono ?_; rintro e wa ⟨rfl, hxa⟩
      go_wp2_with fail
      refine (sane_c _).mono ?_; rintro e wK ⟨rfl, hxK⟩
      go_wp2_with fail
      go_ret
      exact RV.bool rfl (hE0.trans (hX8.trans (hx9.trans (hxa.trans hxK))))
  · go_enter Try.func11, Try.ntmps11
    go_wp2_with fail
    rw [← HW.out]
    refine HLG.out.mono ?_; rintro e w2 ⟨rfl, hx2⟩
    replace hx2 := hxL.trans hx2
    go_wp2_with fail
    refine (sane_c _).mono ?_; rintro e wK ⟨rfl, hxK⟩
    go_wp2_with fail
    go_ret
    exact RV.bool rfl (hE0.trans (hx2.trans hxK))
end Go.Proofs.Ytodhmkbkcjpnkaa
