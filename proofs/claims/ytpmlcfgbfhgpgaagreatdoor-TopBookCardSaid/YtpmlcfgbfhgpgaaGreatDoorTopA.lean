/- Two schools with the same state are told to be the same. -/
import Derived.Test.YtpmlcfgbfhgpgaaGreatDoorEqA
namespace Go.Proofs.YtpmlcfgbfhgpgaaGreatDoor
open Go.RowKit Go.Shelf
set_option linter.unusedVariables false
theorem sameInts_t (va vb : Value) (a : List Int) (w : World) (ha : Ints w va a) (hb : Ints w vb a) : Calls Tryz.prog 96 #[va, vb] w (RV (.bool true) w) := by
  refine (sameInts_c va vb a a w ha hb).mono ?_; rintro e w' ⟨rfl, n, rfl⟩
  exact ⟨by rw [sameIntsB_id], Ext.drewN _ _⟩
theorem sameLists_t (va vb : Value) (a : List (List Int)) (w : World) (ha : Rows w va a) (hb : Rows w vb a) : Calls Tryz.prog 97 #[va, vb] w (RV (.bool true) w) := by
  refine (sameLists_c va vb a a w ha hb).mono ?_; rintro e w' ⟨rfl, n, rfl⟩
  exact ⟨by rw [rowsB_iff, beq_self_eq_true], Ext.drewN _ _⟩
set_option maxHeartbeats 8000000 in
set_option maxRecDepth 100000 in
theorem sameSchool_c {S S2 : Nat → Bool} {b b2 : Nat} {m1 m2 rv rv2 : Value} {v v2 : SV} {x : St} {s : List Rul} {w : World} (h : SchF S b m1 rv v x s w) (k : SchF S2 b2 m2 rv2 v2 x s w) (hE : Env w) :
    Calls Tryz.prog 62 #[.pointer (some ⟨b, 0, none⟩), .pointer (some ⟨b2, 0, none⟩)] w (RV (.bool true) w) := by
  have HB1 := Lib.hid (Base_c h)
  have HB2 := Lib.hid (fun W (q : Ext w W) => Base_c (k.ext q))
  have HW1 := Lib.hid (fun W (q : Ext w W) => Word_c (h.ext q))
  have HW2 := Lib.hid (fun W (q : Ext w W) => Word_c (k.ext q))
  have HK1 := Lib.hid (fun W (q : Ext w W) => Learned_c (h.ext q))
  have HK2 := Lib.hid (fun W (q : Ext w W) => Learned_c (k.ext q))
  have HG1 := Lib.hid (fun W (q : Ext w W) => Grounds_c (h.ext q))
  have HG2 := Lib.hid (fun W (q : Ext w W) => Grounds_c (k.ext q))
  have HS1 := Lib.hid (fun W (q : Ext w W) => Slate_c (h.ext q))
  have HS2 := Lib.hid (fun W (q : Ext w W) => Slate_c (k.ext q))
  have HF1 := Lib.hid (fun W (q : Ext w W) => Forms_c (h.ext q))
  have HF2 := Lib.hid (fun W (q : Ext w W) => Forms_c (k.ext q))
  have HE1 := Lib.hid (fun W (q : Ext w W) => Ended_c (h.ext q))
  have HE2 := Lib.hid (fun W (q : Ext w W) => Ended_c (k.ext q))
  have HO1 := Lib.hid (fun W (q : Ext w W) => Book_c (h.ext q) (hE.ext q))
  have HO2 := Lib.hid (fun W (q : Ext w W) => Book_c (k.ext q) (hE.ext q))
  clear h k hE
  have hnb : ∀ B : Bool, (B != B) = false := fun B => by cases B <;> rfl
  have hnc : ∀ B : Bool, (B == B) = true := fun B => by cases B <;> rfl
  generalize endedS s x = EN at *
  generalize x.has = HA at *
  generalize x.base = BA at *
  generalize lastW x = LW at *
  generalize x.kn = KN at *
  generalize x.gr = GR at *
  generalize x.forms = FO at *
  generalize bookB x.orders = BO at *
  generalize x.slate = SL at *
  have hnt : ((⟨BO.toArray⟩ : ByteArray).toList == (⟨BO.toArray⟩ : ByteArray).toList) = true := by simp
  go_enter Tryz.func62, Tryz.ntmps62
  go_wp2_with fail
  refine HB1.out.mono ?_; rintro e w1 ⟨u1, rfl, o1, hx1⟩
  obtain ⟨a1, c1, hu1, _⟩ := o1.ints.open_
  subst hu1
  have i1 := Lib.hid o1.ints
  clear o1
  go_wp2_with fail
  refine (HB2.out w1 hx1).mono ?_; rintro e w2 ⟨u2, rfl, o2, hx2⟩
  obtain ⟨a2, c2, hu2, _⟩ := o2.ints.open_
  subst hu2
  have i2 := Lib.hid o2.ints
  clear o2
  have X2 := hx1.trans hx2
  go_wp2_with fail
  refine (HW1.out w2 X2).mono ?_; rintro e w3 ⟨u3, rfl, o3, hx3⟩
  obtain ⟨a3, c3, hu3, _⟩ := o3.ints.open_
  subst hu3
  have i3 := Lib.hid o3.ints
  clear o3
  have X3 := X2.trans hx3
  go_wp2_with fail
  refine (HW2.out w3 X3).mono ?_; rintro e w4 ⟨u4, rfl, o4, hx4⟩
  obtain ⟨a4, c4, hu4, _⟩ := o4.ints.open_
  subst hu4
  have i4 := Lib.hid o4.ints
  clear o4
  have X4 := X3.trans hx4
  go_wp2_with fail
  refine (sameInts_t _ _ BA w4 (((i1.out.ext hx2).ext hx3).ext hx4) ((i2.out.ext hx3).ext hx4)).mono ?_; rintro e w5 ⟨rfl, hx5⟩
  have X5 := X4.trans hx5
  go_wp2_with fail
  refine (sameInts_t _ _ LW w5 ((i3.out.ext hx4).ext hx5) (i4.out.ext hx5)).mono ?_; rintro e w6 ⟨rfl, hx6⟩
  have X6 := X5.trans hx6
  go_wp2_with fail
  refine (HK1.out w6 X6).mono ?_; rintro e w7 ⟨u7, rfl, o7, hx7⟩
  obtain ⟨a7, c7, hu7, _⟩ := o7.ints.open_
  subst hu7
  have X7 := X6.trans hx7
  go_wp2_with fail
  refine (HK2.out w7 X7).mono ?_; rintro e w8 ⟨u8, rfl, o8, hx8⟩
  obtain ⟨a8, c8, hu8, _⟩ := o8.ints.open_
  subst hu8
  have X8 := X7.trans hx8
  go_wp2_with fail
  refine (sameInts_t _ _ KN w8 (o7.ints.ext hx8) o8.ints).mono ?_; rintro e w9 ⟨rfl, hx9⟩
  have X9 := X8.trans hx9
  go_wp2_with fail
  refine (HG1.out w9 X9).mono ?_; rintro e w10 ⟨u10, rfl, o10, hx10⟩
  obtain ⟨a10, c10, hu10, _⟩ := o10.ints.open_
  subst hu10
  have X10 := X9.trans hx10
  go_wp2_with fail
  refine (HG2.out w10 X10).mono ?_; rintro e w11 ⟨u11, rfl, o11, hx11⟩
  obtain ⟨a11, c11, hu11, _⟩ := o11.ints.open_
  subst hu11
  have X11 := X10.trans hx11
  go_wp2_with fail
  refine (sameInts_t _ _ GR w11 (o10.ints.ext hx11) o11.ints).mono ?_; rintro e w12 ⟨rfl, hx12⟩
  have X12 := X11.trans hx12
  go_wp2_with fail
  refine (HS1.out w12 X12).mono ?_; rintro e w13 ⟨u13, rfl, o13, hx13⟩
  have i13 := Lib.hid (Cel.own encCh_len o13)
  obtain ⟨a13, c13, hu13, _⟩ := i13.out.open_
  subst hu13
  have X13 := X12.trans hx13
  clear o7 o8 o10 o11 o13
  go_wp2_with fail
  refine (HS2.out w13 X13).mono ?_; rintro e w14 ⟨u14, rfl, o14, hx14⟩
  have i14 := Lib.hid (Cel.own encCh_len o14)
  obtain ⟨a14, c14, hu14, _⟩ := i14.out.open_
  subst hu14
  have X14 := X13.trans hx14
  clear o14
  have HA1 := Lib.hid (i13.out.ext hx14)
  obtain ⟨a', c', hv1, hl1, hl2, HC1⟩ := HA1.out.open_
  injection hv1 with q1 q2 q3
  subst q1 q3
  obtain ⟨a', c', hv1, hk1, hk2, HC2⟩ := i14.out.open_
  injection hv1 with q1 q2' q3
  subst q1 q3
  clear q2 q2'
  go_wp2_with fail
  go_loopg [15] SL.length (fun m i wr => ∃ k : Nat, k ≤ SL.length ∧ SL.length ≤ k + m ∧ i = .int .i64 k ∧ Ext w14 wr)
  case atStart => exact ⟨0, by omega, by omega, rfl, Ext.refl _⟩
  case round =>
    obtain ⟨k, hk, hkm, rfl, hwx⟩ := hrel
    by_cases hlt : k < SL.length
    · obtain ⟨ba, oa, rfl, hc1⟩ := HC1.out k _ (List.getElem?_eq_getElem hlt)
      obtain ⟨bb, ob, rfl, hc2⟩ := HC2.out k _ (List.getElem?_eq_getElem hlt)
      generalize SL[k] = y at *
      obtain ⟨y1, y2, y3⟩ := y
      have p0 := hwx.keep (hc1 0 _ rfl)
      have p1 := hwx.keep (hc1 1 _ rfl)
      have p2 := hwx.keep (hc1 2 _ rfl)
      have q0 := hwx.keep (hc2 0 _ rfl)
      have q1 := hwx.keep (hc2 1 _ rfl)
      have q2 := hwx.keep (hc2 2 _ rfl)
      rw [Nat.add_zero] at p0 q0
      clear hc1 hc2
      go_wp2_with fail
      go_quiet (fail)
      go_wp2_with fail
      go_roundg (gk-1)
      case measure => omega
      case rel => exact ⟨k+1, by omega, by omega, by go_num, hwx.trans (Ext.drewN _ _)⟩
    · have Y0 := X14.trans hwx
      go_wp2_with fail
      refine (HF1.out wr Y0).mono ?_; rintro e v1 ⟨u1, rfl, o1, hy1⟩
      have r1 := Lib.hid o1.rows
      obtain ⟨a1, c1, hu1, _⟩ := Rows.open_ r1.out
      subst hu1
      have Y1 := Y0.trans hy1
      clear o1
      go_wp2_with fail
      refine (HF2.out v1 Y1).mono ?_; rintro e v2 ⟨u2, rfl, o2, hy2⟩
      have r2 := Lib.hid o2.rows
      obtain ⟨a2, c2, hu2, _⟩ := Rows.open_ r2.out
      subst hu2
      have Y2 := Y1.trans hy2
      clear o2
      go_wp2_with fail
      refine (sameLists_t _ _ FO v2 (r1.out.ext hy2) r2.out).mono ?_; rintro e v3 ⟨rfl, hy3⟩
      have Y3 := Y2.trans hy3
      go_wp2_with fail
      refine (HE1.out v3 Y3).mono ?_; rintro e v4 ⟨rfl, hy4⟩
      have Y4 := Y3.trans hy4
      go_wp2_with fail
      refine (HE2.out v4 Y4).mono ?_; rintro e v5 ⟨rfl, hy5⟩
      have Y5 := Y4.trans hy5
      go_wp2_with fail
      refine (HO1.out v5 Y5).mono ?_; rintro e v6 ⟨rfl, hy6⟩
      have Y6 := Y5.trans hy6
      go_wp2_with fail
      refine (HO2.out v6 Y6).mono ?_; rintro e v7 ⟨rfl, hy7⟩
      have Y7 := Y6.trans hy7
      go_wp2_with fail
      go_ret
      exact ⟨rfl, Y7⟩
end Go.Proofs.YtpmlcfgbfhgpgaaGreatDoor
