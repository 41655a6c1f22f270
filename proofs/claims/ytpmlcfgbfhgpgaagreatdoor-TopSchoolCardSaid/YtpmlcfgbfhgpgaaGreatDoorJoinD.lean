/- Several texts in one: FrmC, EqA, TopA, TopB, TopK. -/
import Derived.Test.YtpmlcfgbfhgpgaaGreatDoorJoinB
import Derived.Test.YtpmlcfgbfhgpgaaGreatDoorRefOne
import Derived.Test.YtpmlcfgbfhgpgaaGreatDoorLaw9I
import Derived.Test.YtpmlcfgbfhgpgaaGreatDoorLaw9L
/- Forms of a school: the forms that were said, in memory of the call's own. -/
namespace Go.Proofs.YtpmlcfgbfhgpgaaGreatDoor
open Go.RowKit Go.Shelf
set_option linter.unusedVariables false
def FrmO (B : Nat) (w : World) (v : Value) (ls : List (List Int)) : Prop := ∃ us S, OCel encV 1 34 w B v us ∧ (∀ r, v.ownBlock = some r → S r = true) ∧ (∀ k, S k = true → k < w.heap.size) ∧ AllInts (hole S w) us ls
theorem FrmO.nil (B : Nat) (w : World) : FrmO B w (.slice none 0 0) [] := ⟨[], fun _ => false, OCel.nil _ _ _ _ _, (fun r hr => by cases hr), (fun k hk => by cases hk), AllInts.nil _⟩
theorem FrmO.ext {B : Nat} {w w' : World} {v : Value} {ls : List (List Int)} (h : FrmO B w v ls) (hx : Ext w w') : FrmO B w' v ls := by
  obtain ⟨us, S, h1, h2, h3, h4⟩ := h
  exact ⟨us, S, OCel.ext h1 hx, h2, fun k hk => Nat.lt_of_lt_of_le (h3 k hk) hx.size, h4.ext (hx.hole S)⟩
theorem flat_encV (us : List Value) : us.flatMap encV = us := by
  induction us with
  | nil => rfl
  | cons a us ih => rw [List.flatMap_cons, ih]; rfl
theorem FrmO.rows {B : Nat} {w : World} {v : Value} {ls : List (List Int)} (h : FrmO B w v ls) : Rows w v ls := by
  obtain ⟨us, S, h1, h2, h3, h4⟩ := h
  have h5 : AllInts w us ls := ⟨h4.1, fun i u hu => (h4.2 i u hu).sub (hole_sub S w)⟩
  have h6 : w.ownsRow B 34 1 v ls.length us := by
    unfold OCel at h1
    rw [show us.flatMap encV = us from flat_encV us] at h1
    rw [← h4.1]; exact h1
  exact Rows.own h6 h5
theorem FrmO.low {B B' : Nat} {w : World} {v : Value} {ls : List (List Int)} (h : FrmO B w v ls) (hB : B' ≤ B) : FrmO B' w v ls := by
  obtain ⟨us, S, h1, h2, h3, h4⟩ := h
  exact ⟨us, S, OCel.low h1 hB, h2, h3, h4⟩
theorem wpList_appendFrm {ops : Array Oper} {rest : List Oper} {o : Oper} {a : Act} {Q : Exit → Act → World → Prop} {W w1 : World} {B : Nat} {v u : Value} {g : Nat} {ls : List (List Int)} {l : List Int}
    (hgd : o.guard = none) (s x : Operand) (ho : o.op = .call { callee := .builtin .append, args := #[s, x], argTypes := #[75, 75] })
    (hs : a.eval s = v) (hx : a.eval x = .slice (some ⟨g, 0, none⟩) 1 1) (hc : FrmO B w1 v ls) (hX : Ext w1 W) (hg : W.heap.size = g) (hu : OInts 3 W w1.heap.size u l) (hB : B ≤ W.heap.size) (hn : ls.length ≤ 1000000)
    (h : ∀ v' w', FrmO B w' v' (ls ++ [l]) → Below B W w' → wpList Tryz.prog ops Q rest (a.put o.dst v') w') : wpList Tryz.prog ops Q (o :: rest) a (W.alloc (.cells #[u] 34)) := by
  obtain ⟨us, S, h1, h2, h3, h4⟩ := hc
  have hlen := h4.1
  obtain ⟨au, cu, huv, _⟩ := hu.ints.open_
  refine wpList_appendS (enc := encV) (L := us) u elRows hgd s x ho hs hx (OCel.ext h1 hX) hg rfl rfl (fun k hk => ?_) hB (by omega) (by omega) ?_
  · simp only [encV, List.mem_cons, List.not_mem_nil, or_false] at hk; subst hk; subst huv; rfl
  intro v' w' hO hb hgr hn'
  have hX2 : ExtX (fun k => decide (v.ownBlock = some k)) W w' := ⟨hgr.os, hgr.tape, hgr.output, hgr.size, fun k hk hr => hgr.block k hk (by simpa [eq_comm] using hr)⟩
  have key : ∀ S' : Nat → Bool, (∀ k, S k = true → S' k = true) → (∀ k, S' k = true → S k = true ∨ (W.heap.size ≤ k ∧ k < w'.heap.size)) → (∀ r, v'.ownBlock = some r → S' r = true) → FrmO B w' v' (ls ++ [l]) := fun S' k1 k2 k3 => by
    have hh : Ext (hole S W) (hole S' w') := hX2.hole (fun k hk => h2 k (by simpa using hk)) k1 (fun k hk => by
      rcases k2 k hk with h | h
      · exact .inl h
      · exact .inr h.1)
    refine ⟨us ++ [u], S', hO, k3, fun k hk => ?_, AllInts.snoc ((h4.ext (hX.hole S)).ext hh) (((OInts.hole hu h3).ints).ext hh)⟩
    rcases k2 k hk with h | h
    · exact Nat.lt_of_lt_of_le (h3 k h) (Nat.le_trans hX.size hgr.size)
    · exact h.2
  refine h v' w' ?_ hb
  cases hv' : v'.ownBlock with
  | none => exact key S (fun _ h => h) (fun _ h => .inl h) (fun r hr => by rw [hv'] at hr; cases hr)
  | some q =>
    have hq : q < w'.heap.size := by
      obtain ⟨_, h | ⟨g', cap, cur, e1, e2, e3, e4⟩⟩ := hO
      · rw [h.1] at hv'; cases hv'
      · rw [e1] at hv'
        injection hv' with hv'
        subst hv'
        rcases Nat.lt_or_ge g' w'.heap.size with hl | hl
        · exact hl
        · rw [Array.getElem?_eq_none hl] at e3; cases e3
    refine key (fun k => S k || k == q) (fun k hk => by simp [hk]) (fun k hk => ?_) (fun r hr => by rw [hv'] at hr; injection hr with hr; subst hr; simp)
    simp only [Bool.or_eq_true, beq_iff_eq] at hk
    rcases hk with hk | hk
    · exact .inl hk
    · subst hk
      rcases hn' k hv' with e | e
      · exact .inl (h2 k e)
      · exact .inr ⟨e, hq⟩
set_option maxHeartbeats 4000000 in
set_option maxRecDepth 100000 in
theorem Forms_c {S : Nat → Bool} {b : Nat} {m1 rv : Value} {v : SV} {x : St} {s : List Rul} {w : World} (h : SchF S b m1 rv v x s w) :
    Calls Tryz.prog 60 #[.pointer (some ⟨b, 0, none⟩)] w (fun e w' => ∃ u, e = .returned u ∧ FrmO w.heap.size w' u x.forms ∧ Ext w w') := by
  have HL := Lib.hid (look_c h)
  have hfl : x.forms.length ≤ 100 := Nat.le_trans h.hI.formsL h.hI.olen
  have HV : Hid (∀ k, k < x.forms.length → (x.forms[k]?.getD []).length ≤ 100000000) := Lib.hid fun k hk => by
    rw [List.getElem?_eq_getElem hk]
    have := validW_len (h.hI.formsV _ (List.getElem_mem hk))
    show (x.forms[k]).length ≤ _
    omega
  obtain ⟨a, c, hvf, h1, h2, H⟩ := Rows.open_ ((h.hs.sub (hole_sub S w)).forms)
  obtain ⟨b0, d0, b1, d1, b2, d2, b3, d3, b4, d4, b5, d5, b6, d6, hvl⟩ := SV.lit h.hs
  subst hvl
  injection hvf with e1 e2 e3
  subst e1 e3
  simp only [SV.cells] at HL
  clear h e2
  have hfo := fld_forms
  generalize hF : x.forms = F at *
  clear hF
  go_enter Tryz.func60, Tryz.ntmps60
  go_wp2_with fail
  refine HL.out.mono ?_; rintro e w1 ⟨rfl, hx1⟩
  go_wp2_with fail
  go_loopg [10, 3] F.length (fun m i t wr => ∃ k : Nat, k ≤ F.length ∧ F.length ≤ k + m ∧ i = .int .i64 k ∧ Ext w wr ∧ FrmO w.heap.size wr t (F.take k))
  case atStart => exact ⟨0, by omega, by omega, rfl, hx1, FrmO.nil _ _⟩
  case round =>
    obtain ⟨k, hk, hk2, rfl, hxr, hO⟩ := hrel
    by_cases hlt : k < F.length
    · obtain ⟨bb, oo, rfl, u, hc, hi⟩ := H.out k hlt
      replace hc := hxr.keep hc
      have HCL := Lib.hid (cloneInts_c u _ wr (hi.ext hxr) (HV.out k hlt))
      obtain ⟨au, cu, rfl, _⟩ := hi.open_
      have HTK : Hid (F.take (k + 1) = F.take k ++ [F[k]?.getD []]) := Lib.hid (by rw [List.take_add_one, List.getElem?_eq_getElem hlt]; rfl)
      have hkl : (F.take k).length ≤ 1000000 := by rw [List.length_take]; omega
      clear hi
      generalize F[k]?.getD [] = fk at *
      have HO := Lib.hid hO
      clear hO
      go_wp2_with fail
      refine HCL.out.mono ?_; rintro e w2 ⟨u2, rfl, ho2, hx2⟩
      obtain ⟨a2, c2, hu2, _⟩ := ho2.ints.open_
      subst hu2
      have hz := hxr.size
      have hz2 := hx2.size
      go_wp2_with (at_builtin; refine wpList_appendFrm rfl _ _ rfl rfl rfl HO.out hx2 rfl ho2 (by omega) hkl ?_; intro v' w' hO' hb')
      go_roundg (gk-1)
      case measure => omega
      case rel => exact ⟨k+1, by omega, by omega, by go_num, (hxr.trans hx2).upto hb' (by omega), by rw [HTK.out]; exact hO'⟩
    · obtain rfl : k = F.length := by omega
      rw [List.take_length] at hO
      have HO := Lib.hid hO
      clear hO
      go_wp2_with fail
      go_ret
      exact ⟨_, rfl, HO.out, hxr⟩
end Go.Proofs.YtpmlcfgbfhgpgaaGreatDoor
/- Lists of words are compared by the reference. -/
namespace Go.Proofs.YtpmlcfgbfhgpgaaGreatDoor
open Go.RowKit Go.Shelf
set_option linter.unusedVariables false
set_option maxHeartbeats 400000 in
theorem sameWords4_c (va vb : Value) (a b : List (List Int)) (w : World) (ha : Rows w va a) (hb : Rows w vb b) :
    Calls Tryz.prog 63 #[va, vb] w (RQ (rowsB a b) w) := by
  obtain ⟨aa, ca, rfl, hla, hma, Hca⟩ := ha.open_
  obtain ⟨ab, cb, rfl, hlb, hmb, Hcb⟩ := hb.open_
  clear ha hb
  by_cases hl : a.length = b.length
  · have H1 : ((a.length : Int) != (b.length : Int)) = false := by simp [hl]
    have hl1 : b.length ≤ a.length := by omega
    have hl2 : a.length ≤ b.length := by omega
    have HL := Lib.hid hl; clear hl
    go_enter Tryz.func63, Tryz.ntmps63
    go_wp2_with fail
    go_loopg [5] a.length (fun m i wr => ∃ k : Nat, k ≤ a.length ∧ a.length ≤ k + m ∧ i = .int .i64 k ∧ (∃ n, wr = w.drewN n) ∧ Hid (∀ j, j < k → sameIntsB (a[j]?.getD []) (b[j]?.getD []) = true))
    case atStart => exact ⟨0, by omega, by omega, rfl, ⟨0, rfl⟩, fun j hj => by omega⟩
    case round =>
      obtain ⟨k, hk, hk2, rfl, ⟨nd, hwr⟩, hE⟩ := hrel
      have hwx : Ext w wr := by rw [hwr]; exact Ext.drewN _ _
      have HW := Lib.hid hwr; clear hwr
      by_cases hlt : k < a.length
      · obtain ⟨ba, oa, rfl, u, hc1, hi1⟩ := Hca.out k hlt
        obtain ⟨bb, ob, rfl, v, hc2, hi2⟩ := Hcb.out k (by omega)
        replace hc1 := hwx.keep hc1
        replace hc2 := hwx.keep hc2
        have HS := Lib.hid (fun W (hx : Ext w W) => sameInts4_c u v _ _ W (hi1.ext hx) (hi2.ext hx))
        clear hi1 hi2
        cases hs : sameIntsB (a[k]?.getD []) (b[k]?.getD [])
        · rw [hs] at HS
          have HX := Lib.hid hs; clear hs
          go_wp2_with fail
          go_quiet ((go_at_call 30; exact RQ.quiet (HS.out _ (hwx.trans (Ext.drewN _ _)))))
          go_wp2_with fail
          go_ret
          exact RQ.mkW (n := nd) (by rw [rowsB, allB_false hlt HX.out]; simp) HW.out _
        · rw [hs] at HS
          have HX := Lib.hid hs; clear hs
          go_wp2_with fail
          go_quiet ((go_at_call 30; exact RQ.quiet (HS.out _ (hwx.trans (Ext.drewN _ _)))))
          go_wp2_with fail
          go_roundg (gk-1)
          case measure => omega
          case rel => exact ⟨k+1, by omega, by omega, by go_num, ⟨_, by rw [HW.out, World.drewN_drewN]⟩, range_step hE.out HX.out⟩
      · go_wp2_with fail
        go_ret
        exact RQ.mkV (n := nd) (by rw [rowsB, allB_true (fun j hj => hE.out j (by omega))]; simp [HL.out]) HW.out
  · have H1 : ((a.length : Int) != (b.length : Int)) = true := by simp; omega
    have HL := Lib.hid hl; clear hl
    go_enter Tryz.func63, Tryz.ntmps63
    go_wp2_with fail
    go_ret
    exact RQ.mk0 (by have := HL.out; simp [rowsB, this])
theorem sameIntsB_id (l : List Int) : sameIntsB l l = true := by rw [sameIntsB_iff]; exact beq_self_eq_true l
theorem sameWords4_t (va vb : Value) (a : List (List Int)) (w : World) (ha : Rows w va a) (hb : Rows w vb a) : Calls Tryz.prog 63 #[va, vb] w (RV (.bool true) w) := by
  refine (sameWords4_c va vb a a w ha hb).mono ?_; rintro e w' ⟨rfl, n, rfl⟩
  exact ⟨by rw [rowsB_iff, beq_self_eq_true], Ext.drewN _ _⟩
theorem sameInts4_t (va vb : Value) (a : List Int) (w : World) (ha : Ints w va a) (hb : Ints w vb a) : Calls Tryz.prog 30 #[va, vb] w (RV (.bool true) w) := by
  refine (sameInts4_c va vb a a w ha hb).mono ?_; rintro e w' ⟨rfl, n, rfl⟩
  exact ⟨by rw [sameIntsB_id], Ext.drewN _ _⟩
theorem sameChs4_t (va vb : Value) (a : List Ch) (w : World) (ha : Chs w va a) (hb : Chs w vb a) : Calls Tryz.prog 29 #[va, vb] w (RV (.bool true) w) := by
  have := sameChs4_c va vb a a w ha hb
  rwa [show decide (a = a) = true by simp] at this
end Go.Proofs.YtpmlcfgbfhgpgaaGreatDoor
/- Two schools with the same state are told to be the same. -/
namespace Go.Proofs.YtpmlcfgbfhgpgaaGreatDoor
open Go.RowKit Go.Shelf
set_option linter.unusedVariables false
theorem sameInts_t (va vb : Value) (a : List Int) (w : World) (ha : Ints w va a) (hb : Ints w vb a) : Calls Tryz.prog 96 #[va, vb] w (RV (.bool true) w) := by
  refine (sameInts_c va vb a a w ha hb).mono ?_; rintro e w' ⟨rfl, n, rfl⟩
  exact ⟨by rw [sameIntsB_id], Ext.drewN _ _⟩
theorem sameLists_t (va vb : Value) (a : List (List Int)) (w : World) (ha : Rows w va a) (hb : Rows w vb a) : Calls Tryz.prog 97 #[va, vb] w (RV (.bool true) w) := by
  refine (sameLists_c va vb a a w ha hb).mono ?_; rintro e w' ⟨rfl, n, rfl⟩
  exact ⟨by rw [rowsB_iff, beq_self_eq_true], Ext.drewN _ _⟩
set_option maxHeartbeats 8000000 in
set_option maxRecDepth 100000 in
theorem sameSchool_c {S S2 : Nat → Bool} {b b2 : Nat} {m1 m2 rv rv2 : Value} {v v2 : SV} {x : St} {s : List Rul} {w : World} (h : SchF S b m1 rv v x s w) (k : SchF S2 b2 m2 rv2 v2 x s w) (hE : Env w) :
    Calls Tryz.prog 62 #[.pointer (some ⟨b, 0, none⟩), .pointer (some ⟨b2, 0, none⟩)] w (RV (.bool true) w) := by
  have HB1 := Lib.hid (Base_c h)
  have HB2 := Lib.hid (fun W (q : Ext w W) => Base_c (k.ext q))
  have HW1 := Lib.hid (fun W (q : Ext w W) => Word_c (h.ext q))
  have HW2 := Lib.hid (fun W (q : Ext w W) => Word_c (k.ext q))
  have HK1 := Lib.hid (fun W (q : Ext w W) => Learned_c (h.ext q))
  have HK2 := Lib.hid (fun W (q : Ext w W) => Learned_c (k.ext q))
  have HG1 := Lib.hid (fun W (q : Ext w W) => Grounds_c (h.ext q))
  have HG2 := Lib.hid (fun W (q : Ext w W) => Grounds_c (k.ext q))
  have HS1 := Lib.hid (fun W (q : Ext w W) => Slate_c (h.ext q))
  have HS2 := Lib.hid (fun W (q : Ext w W) => Slate_c (k.ext q))
  have HF1 := Lib.hid (fun W (q : Ext w W) => Forms_c (h.ext q))
  have HF2 := Lib.hid (fun W (q : Ext w W) => Forms_c (k.ext q))
  have HE1 := Lib.hid (fun W (q : Ext w W) => Ended_c (h.ext q))
  have HE2 := Lib.hid (fun W (q : Ext w W) => Ended_c (k.ext q))
  have HO1 := Lib.hid (fun W (q : Ext w W) => Book_c (h.ext q) (hE.ext q))
  have HO2 := Lib.hid (fun W (q : Ext w W) => Book_c (k.ext q) (hE.ext q))
  clear h k hE
  have hnb : ∀ B : Bool, (B != B) = false := fun B => by cases B <;> rfl
  have hnc : ∀ B : Bool, (B == B) = true := fun B => by cases B <;> rfl
  generalize endedS s x = EN at *
  generalize x.has = HA at *
  generalize x.base = BA at *
  generalize lastW x = LW at *
  generalize x.kn = KN at *
  generalize x.gr = GR at *
  generalize x.forms = FO at *
  generalize bookB x.orders = BO at *
  generalize x.slate = SL at *
  have hnt : ((⟨BO.toArray⟩ : ByteArray).toList == (⟨BO.toArray⟩ : ByteArray).toList) = true := by simp
  go_enter Tryz.func62, Tryz.ntmps62
  go_wp2_with fail
  refine HB1.out.mono ?_; rintro e w1 ⟨u1, rfl, o1, hx1⟩
  obtain ⟨a1, c1, hu1, _⟩ := o1.ints.open_
  subst hu1
  have i1 := Lib.hid o1.ints
  clear o1
  go_wp2_with fail
  refine (HB2.out w1 hx1).mono ?_; rintro e w2 ⟨u2, rfl, o2, hx2⟩
  obtain ⟨a2, c2, hu2, _⟩ := o2.ints.open_
  subst hu2
  have i2 := Lib.hid o2.ints
  clear o2
  have X2 := hx1.trans hx2
  go_wp2_with fail
  refine (HW1.out w2 X2).mono ?_; rintro e w3 ⟨u3, rfl, o3, hx3⟩
  obtain ⟨a3, c3, hu3, _⟩ := o3.ints.open_
  subst hu3
  have i3 := Lib.hid o3.ints
  clear o3
  have X3 := X2.trans hx3
  go_wp2_with fail
  refine (HW2.out w3 X3).mono ?_; rintro e w4 ⟨u4, rfl, o4, hx4⟩
  obtain ⟨a4, c4, hu4, _⟩ := o4.ints.open_
  subst hu4
  have i4 := Lib.hid o4.ints
  clear o4
  have X4 := X3.trans hx4
  go_wp2_with fail
  refine (sameInts_t _ _ BA w4 (((i1.out.ext hx2).ext hx3).ext hx4) ((i2.out.ext hx3).ext hx4)).mono ?_; rintro e w5 ⟨rfl, hx5⟩
  have X5 := X4.trans hx5
  go_wp2_with fail
  refine (sameInts_t _ _ LW w5 ((i3.out.ext hx4).ext hx5) (i4.out.ext hx5)).mono ?_; rintro e w6 ⟨rfl, hx6⟩
  have X6 := X5.trans hx6
  go_wp2_with fail
  refine (HK1.out w6 X6).mono ?_; rintro e w7 ⟨u7, rfl, o7, hx7⟩
  obtain ⟨a7, c7, hu7, _⟩ := o7.ints.open_
  subst hu7
  have X7 := X6.trans hx7
  go_wp2_with fail
  refine (HK2.out w7 X7).mono ?_; rintro e w8 ⟨u8, rfl, o8, hx8⟩
  obtain ⟨a8, c8, hu8, _⟩ := o8.ints.open_
  subst hu8
  have X8 := X7.trans hx8
  go_wp2_with fail
  refine (sameInts_t _ _ KN w8 (o7.ints.ext hx8) o8.ints).mono ?_; rintro e w9 ⟨rfl, hx9⟩
  have X9 := X8.trans hx9
  go_wp2_with fail
  refine (HG1.out w9 X9).mono ?_; rintro e w10 ⟨u10, rfl, o10, hx10⟩
  obtain ⟨a10, c10, hu10, _⟩ := o10.ints.open_
  subst hu10
  have X10 := X9.trans hx10
  go_wp2_with fail
  refine (HG2.out w10 X10).mono ?_; rintro e w11 ⟨u11, rfl, o11, hx11⟩
  obtain ⟨a11, c11, hu11, _⟩ := o11.ints.open_
  subst hu11
  have X11 := X10.trans hx11
  go_wp2_with fail
  refine (sameInts_t _ _ GR w11 (o10.ints.ext hx11) o11.ints).mono ?_; rintro e w12 ⟨rfl, hx12⟩
  have X12 := X11.trans hx12
  go_wp2_with fail
  refine (HS1.out w12 X12).mono ?_; rintro e w13 ⟨u13, rfl, o13, hx13⟩
  have i13 := Lib.hid (Cel.own encCh_len o13)
  obtain ⟨a13, c13, hu13, _⟩ := i13.out.open_
  subst hu13
  have X13 := X12.trans hx13
  clear o7 o8 o10 o11 o13
  go_wp2_with fail
  refine (HS2.out w13 X13).mono ?_; rintro e w14 ⟨u14, rfl, o14, hx14⟩
  have i14 := Lib.hid (Cel.own encCh_len o14)
  obtain ⟨a14, c14, hu14, _⟩ := i14.out.open_
  subst hu14
  have X14 := X13.trans hx14
  clear o14
  have HA1 := Lib.hid (i13.out.ext hx14)
  obtain ⟨a', c', hv1, hl1, hl2, HC1⟩ := HA1.out.open_
  injection hv1 with q1 q2 q3
  subst q1 q3
  obtain ⟨a', c', hv1, hk1, hk2, HC2⟩ := i14.out.open_
  injection hv1 with q1 q2' q3
  subst q1 q3
  clear q2 q2'
  go_wp2_with fail
  go_loopg [15] SL.length (fun m i wr => ∃ k : Nat, k ≤ SL.length ∧ SL.length ≤ k + m ∧ i = .int .i64 k ∧ Ext w14 wr)
  case atStart => exact ⟨0, by omega, by omega, rfl, Ext.refl _⟩
  case round =>
    obtain ⟨k, hk, hkm, rfl, hwx⟩ := hrel
    by_cases hlt : k < SL.length
    · obtain ⟨ba, oa, rfl, hc1⟩ := HC1.out k _ (List.getElem?_eq_getElem hlt)
      obtain ⟨bb, ob, rfl, hc2⟩ := HC2.out k _ (List.getElem?_eq_getElem hlt)
      generalize SL[k] = y at *
      obtain ⟨y1, y2, y3⟩ := y
      have p0 := hwx.keep (hc1 0 _ rfl)
      have p1 := hwx.keep (hc1 1 _ rfl)
      have p2 := hwx.keep (hc1 2 _ rfl)
      have q0 := hwx.keep (hc2 0 _ rfl)
      have q1 := hwx.keep (hc2 1 _ rfl)
      have q2 := hwx.keep (hc2 2 _ rfl)
      rw [Nat.add_zero] at p0 q0
      clear hc1 hc2
      go_wp2_with fail
      go_quiet (fail)
      go_wp2_with fail
      go_roundg (gk-1)
      case measure => omega
      case rel => exact ⟨k+1, by omega, by omega, by go_num, hwx.trans (Ext.drewN _ _)⟩
    · have Y0 := X14.trans hwx
      go_wp2_with fail
      refine (HF1.out wr Y0).mono ?_; rintro e v1 ⟨u1, rfl, o1, hy1⟩
      have r1 := Lib.hid o1.rows
      obtain ⟨a1, c1, hu1, _⟩ := Rows.open_ r1.out
      subst hu1
      have Y1 := Y0.trans hy1
      clear o1
      go_wp2_with fail
      refine (HF2.out v1 Y1).mono ?_; rintro e v2 ⟨u2, rfl, o2, hy2⟩
      have r2 := Lib.hid o2.rows
      obtain ⟨a2, c2, hu2, _⟩ := Rows.open_ r2.out
      subst hu2
      have Y2 := Y1.trans hy2
      clear o2
      go_wp2_with fail
      refine (sameLists_t _ _ FO v2 (r1.out.ext hy2) r2.out).mono ?_; rintro e v3 ⟨rfl, hy3⟩
      have Y3 := Y2.trans hy3
      go_wp2_with fail
      refine (HE1.out v3 Y3).mono ?_; rintro e v4 ⟨rfl, hy4⟩
      have Y4 := Y3.trans hy4
      go_wp2_with fail
      refine (HE2.out v4 Y4).mono ?_; rintro e v5 ⟨rfl, hy5⟩
      have Y5 := Y4.trans hy5
      go_wp2_with fail
      refine (HO1.out v5 Y5).mono ?_; rintro e v6 ⟨rfl, hy6⟩
      have Y6 := Y5.trans hy6
      go_wp2_with fail
      refine (HO2.out v6 Y6).mono ?_; rintro e v7 ⟨rfl, hy7⟩
      have Y7 := Y6.trans hy7
      go_wp2_with fail
      go_ret
      exact ⟨rfl, Y7⟩
end Go.Proofs.YtpmlcfgbfhgpgaaGreatDoor
/- A school by orders, and those that it took. -/
namespace Go.Proofs.YtpmlcfgbfhgpgaaGreatDoor
open Go.RowKit Go.Shelf
set_option linter.unusedVariables false
def RFirm (s : List Rul) (L : List ByteArray) (w : World) (e : Ending) (w' : World) : Prop :=
  Ext w w' ∧ ((validS s ≠ 0 ∧ e = .returned (.tuple #[.pointer none, .slice none 0 0, .bool false])) ∨
   (validS s = 0 ∧ ∃ b m1 rv v S u, w.heap.size ≤ b ∧ e = .returned (.tuple #[.pointer (some ⟨b, 0, none⟩), u, .bool true]) ∧ SchF S b m1 rv v (runS s st0 (L.take 40)) s w' ∧ OStrs w' w.heap.size u (runS s st0 (L.take 40)).orders))
set_option maxHeartbeats 8000000 in
set_option maxRecDepth 100000 in
theorem firm_c (v u : Value) (p : Int) (s : List Rul) (L : List ByteArray) (w : World) (h : Ruls w v s) (hl : Strs w u L) (hE : Env w) (hT : ErrT w) (h7 : 7 ≤ w.heap.size) :
    Calls Tryz.prog 61 #[.agg #[v, u, .int .i64 p], .int .i64 40] w (RFirm s L w) := by
  obtain ⟨wA, hwA⟩ : ∃ wA, wA = w.alloc (.cells #[v, u, .int .i64 p] 92) := ⟨_, rfl⟩
  have hEA : Ext w wA := by rw [hwA]; exact Ext.alloc _ _
  obtain ⟨g6, hg6⟩ : ∃ g, g = w.heap.size := ⟨_, rfl⟩
  have hbA : Blk wA g6 92 [v, u, .int .i64 p] := by rw [hg6, hwA]; exact Blk.alloc _ _ _
  have HN := Lib.hid (New_c (fun _ => false) v s wA (fun k hk => by cases hk) (h.ext hEA))
  have HE := Lib.hid (hE.ext hEA)
  have HT := Lib.hid (hT.ext hEA)
  have HL := Lib.hid (hl.ext hEA)
  have hzA : w.heap.size ≤ wA.heap.size := hEA.size
  have HWA := Lib.hid hwA; clear hwA
  obtain ⟨av, cv, rfl, _⟩ := h.open_
  obtain ⟨au, cu, rfl, hc1, hc2, _⟩ := hl.open_
  have HI0 := Lib.hid (fun hv : validS s = 0 => run_inv (s := s) (L.take 40) (inv_new hv) (made_new s))
  clear h hE hT hl
  have b0 := hbA.cell (i := 0) rfl
  have b1 := hbA.cell (i := 1) rfl
  have HG6 := Lib.hid hg6
  go_enter Tryz.func61, Tryz.ntmps61
  go_upto_region 1 with fail
  rw [← HWA.out]
  rw [← hg6]
  clear hg6
  by_cases hv : validS s = 0
  · have HV := Lib.hid hv; clear hv
    go_wp2_with fail
    refine HN.out.mono ?_; rintro e w1 ⟨hx1, ⟨h0, _⟩ | ⟨_, b, m1, rv, v0, rfl, hbz, hSc⟩⟩
    · exact absurd HV.out h0
    have hb7 : 7 ≤ b := Nat.le_trans h7 (Nat.le_trans hzA hbz)
    have hb1 : b < w1.heap.size := hSc.hb.lt
    have hu1 : Strs (hole (more (fun _ => false) b) w1) (.slice au L.length cu) L := HL.out.ext (hole_new hx1 (fun k hk => by
      rcases more_or hk with hk | hk
      · cases hk
      · omega))
    obtain ⟨au', cu', hul, _, _, HC2⟩ := Strs.at_ hu1
    injection hul with hul1 hul2 hul3
    subst hul1 hul3
    have HE1 := Lib.hid (HE.out.ext hx1)
    have HT1 := Lib.hid (HT.out.ext hx1)
    have hg6b : g6 < b := by have := hbA.lt; omega
    have hb1A := hbA.ext hx1
    have HBR : Hid (∀ W, ExtX (one b) w1 W → W.cell? ⟨g6, 1, none⟩ = some (.slice au L.length cu)) := Lib.hid (fun W q => by
      have hbr : Blk W g6 92 [.slice av s.length cv, .slice au L.length cu, .int .i64 p] := by
        unfold Blk
        rw [q.block g6 hb1A.lt (by simp [one]; omega)]
        exact hb1A
      exact hbr.cell (i := 1) rfl)
    clear hu1 hul2
    have hbw0 : wA.heap.size ≤ b := hbz
    go_wp2_with fail
    go_loopg [10, 9] 40 (fun m i t9 wr => ∃ (k : Nat) (v' : SV) (ar : Option Addr) (nr : Nat) (S : Nat → Bool), k ≤ L.length ∧ k ≤ 40 ∧ 40 ≤ k + m ∧ i = .int .i64 k ∧ t9 = .slice ar (runS s st0 (L.take k)).orders.length nr ∧ OStrs wr w1.heap.size (.slice ar (runS s st0 (L.take k)).orders.length nr) (runS s st0 (L.take k)).orders ∧ (∀ r, (Value.slice ar (runS s st0 (L.take k)).orders.length nr).ownBlock = some r → S r = true) ∧ ExtX (one b) w1 wr ∧ SchF S b m1 rv v' (runS s st0 (L.take k)) s wr)
    case atStart => exact ⟨0, v0, _, _, _, by omega, by omega, by omega, rfl, rfl, OCel.nil _ _ _ _ _, (fun r hr => by cases hr), ExtX.refl _ _, hSc⟩
    case round =>
      obtain ⟨k, v', ar, nr, S, hk1, hk4, hk2, rfl, rfl, hO, hOS, hEr, hSr⟩ := hrel
      have d1 := HBR.out wr hEr
      by_cases hlt : k < L.length
      · by_cases h40 : k < 40
        · obtain ⟨bl, ol, ha2, hcl⟩ := HC2.out k hlt
          subst ha2
          have tl := hole_sub (more (fun _ => false) b) wr _ _ (hole_keep (more_self _ _) hEr _ _ hcl)
          have HDO := Lib.hid (DoL_c hSr (HE1.out.extX hEr hb7) (HT1.out.extX hEr hb7) hb7 L[k])
          have HTK : Hid (L.take (k + 1) = L.take k ++ [L[k]]) := Lib.hid (by rw [List.take_add_one, List.getElem?_eq_getElem hlt]; rfl)
          have hcl' := hcl
          generalize hLk : L[k] = tk at *
          clear hLk
          have HRN : Hid (runS s st0 (L.take (k + 1)) = (doS s (runS s st0 (L.take k)) tk).1) := Lib.hid (by rw [HTK.out, runS_append]; rfl)
          have HOL : Hid ((runS s st0 (L.take k)).orders.length ≤ 1000) := Lib.hid (Nat.le_trans hSr.hI.olen (by omega))
          have hEr0 := hEr
          by_cases hz : (doS s (runS s st0 (L.take k)) tk).2 = 0
          · have HOO := Lib.hid (do_orders hz).1
            have HZ := Lib.hid hz
            generalize hR : doS s (runS s st0 (L.take k)) tk = R at *
            obtain ⟨R1, R2⟩ := R
            dsimp only at hz
            subst hz
            clear hR
            generalize hXO : (runS s st0 (L.take k)).orders = XO at *
            clear hXO
            have HEr := Lib.hid hEr
            go_wp2_with fail
            refine HDO.out.mono ?_; rintro e w5 ⟨he, hE5, v5, hB5⟩
            dsimp only at he
            subst he
            have hE15 := HEr.out.trans hE5
            have tl5 := hole_sub (more (fun _ => false) b) w5 _ _ (hole_keep (more_self _ _) hE15 _ _ hcl')
            have d15 := HBR.out w5 hE15
            replace hO := ownsRow_keep hO hE5 hb1
            have hz5 := hE15.size
            have HOS := Lib.hid hOS
            clear hOS
            go_wp2_with (at_builtin; refine wpList_appendS (enc := encT) (L := XO) (v := .slice ar XO.length nr) tk elStr rfl _ _ rfl rfl rfl hO rfl rfl rfl (by intro u hu; simp only [encT, List.mem_cons, List.not_mem_nil, or_false] at hu; subst hu; rfl) hz5 (by have := HOL.out; omega) (by have := HOL.out; omega) ?_; intro v6 w6 hO6 hb6 hg6' hn6; obtain ⟨a6, c6, hv6, _⟩ := (Cel.own encT_len hO6).open_; subst hv6)
            obtain ⟨S6, hS6, hB6⟩ := SchB.row hB5 hg6' (fun r hr => ⟨HOS.out r hr, fun e => by have := (ownsRow_lt hO hr).1; omega⟩) hn6 (fun r hr => (ownsRow_lt hO6 hr).2)
            have hX6 : ExtX (one b) w1 w6 := hE15.transN (R' := fun q => decide ((Value.slice ar XO.length nr).ownBlock = some q)) ⟨hg6'.os, hg6'.tape, hg6'.output, hg6'.size, fun q hq hr => hg6'.block q hq (by simpa [eq_comm] using hr)⟩ (fun q hq => .inr (ownsRow_lt hO (by simpa using hq)).1)
            go_roundg (gk-1)
            case measure => omega
            case rel =>
              refine ⟨k + 1, v5, a6, c6, S6, by omega, by omega, by omega, by go_num, ?_⟩
              have hoo : R1.orders = XO ++ [tk] := HOO.out
              rw [show runS s st0 (L.take (k + 1)) = R1 from HRN.out, hoo]
              exact ⟨by rw [List.length_append]; rfl, hO6, hS6, hX6, hB6⟩
          · have HRS := Lib.hid (do_refused hz)
            have hzn : ((doS s (runS s st0 (L.take k)) tk).2 == 0) = false := by simpa using hz
            rw [HRS.out] at HRN
            have HDO2 : Hid (Calls Tryz.prog 26 #[.pointer (some ⟨b, 0, none⟩), .string tk] wr (RDoF S b m1 rv s (runS s st0 (L.take k), (doS s (runS s st0 (L.take k)) tk).2) wr)) := Lib.hid (by have := HDO.out; rw [show doS s (runS s st0 (L.take k)) tk = (runS s st0 (L.take k), (doS s (runS s st0 (L.take k)) tk).2) from Prod.ext HRS.out rfl] at this; exact this)
            clear hz HDO HRS
            generalize (doS s (runS s st0 (L.take k)) tk).2 = R2 at *
            generalize runS s st0 (L.take k) = XK at *
            have HEr := Lib.hid hEr
            go_wp2_with fail
            refine HDO2.out.mono ?_; rintro e w5 ⟨he, hE5, v5, hB5⟩
            dsimp only at he
            subst he
            have hE15 := HEr.out.trans hE5
            replace hO := ownsRow_keep hO hE5 hb1
            have HOS := Lib.hid hOS
            clear hOS
            go_wp2_with fail
            go_roundg (gk-1)
            case measure => omega
            case rel => exact ⟨k + 1, v5, ar, nr, S, by omega, by omega, by omega, by go_num, by rw [HRN.out], by rw [HRN.out]; exact hO, by rw [HRN.out]; exact HOS.out, hE15, by rw [HRN.out]; exact hB5⟩
        · obtain rfl : k = 40 := by omega
          have hXw : Ext w wr := ((((hEA.trans hx1).toX (one b)).trans hEr)).ext (fun q hq => by simp [one]; omega)
          have HFIN := Lib.hid hSr
          have hO' := Lib.hid (OCel.low hO (Nat.le_trans hEA.size hx1.size))
          clear hSr hO hOS
          generalize hXK : runS s st0 (L.take 40) = XK at *
          have HXK := Lib.hid hXK
          clear hXK
          go_wp2_with fail
          go_ret3
          exact ⟨hXw, .inr ⟨HV.out, b, m1, rv, v', S, _, by omega, rfl, by rw [HXK.out]; exact HFIN.out, by rw [HXK.out]; exact hO'.out⟩⟩
      · have hkl : L.take 40 = L.take k := by rw [List.take_of_length_le (show L.length ≤ 40 by omega), List.take_of_length_le (show L.length ≤ k by omega)]
        have hXw : Ext w wr := ((((hEA.trans hx1).toX (one b)).trans hEr)).ext (fun q hq => by simp [one]; omega)
        have HKL := Lib.hid hkl
        have HFIN := Lib.hid hSr
        have hO' := Lib.hid (OCel.low hO (Nat.le_trans hEA.size hx1.size))
        clear hSr hO hOS hkl
        generalize hXK : runS s st0 (L.take k) = XK at *
        have HXK := Lib.hid hXK
        clear hXK
        go_wp2_with fail
        go_ret3
        exact ⟨hXw, .inr ⟨HV.out, b, m1, rv, v', S, _, by omega, rfl, by rw [HKL.out, HXK.out]; exact HFIN.out, by rw [HKL.out, HXK.out]; exact hO'.out⟩⟩
  · have HV := Lib.hid hv
    have hvn : (validS s != 0) = true := by simpa using hv
    clear hv
    go_wp2_with fail
    refine HN.out.mono ?_; rintro e w1 ⟨hx1, ⟨h0, rfl⟩ | ⟨h0, _⟩⟩
    rotate_left
    · exact absurd h0 HV.out
    go_wp2_with fail
    go_ret3
    exact ⟨hEA.trans hx1, .inl ⟨HV.out, rfl⟩⟩
end Go.Proofs.YtpmlcfgbfhgpgaaGreatDoor
/- A book of a school, its beginnings, and what is merged: plain. -/
namespace Go.Proofs.YtpmlcfgbfhgpgaaGreatDoor
open Go.RowKit
set_option linter.unusedVariables false
theorem Inv.rightT {s : List Rul} {x : St} (h : Inv s x) : ∀ o ∈ x.orders, rightB (txt o) = true := fun o ho => h.right o ho
theorem write_take {L : List ByteArray} (hR : ∀ o ∈ L, rightB (txt o) = true) (hl : L.length ≤ 100) (n : Nat) : writeK (L.take n) = 0 ∧ writeB (L.take n) = bookB (L.take n) := by
  have h1 : writeK (L.take n) = 0 := by
    unfold writeK
    rw [if_neg (by rw [List.length_take]; omega), if_pos (rightA_iff.2 fun t ht => hR t (List.mem_of_mem_take ht))]
  exact ⟨h1, by unfold writeB; rw [if_pos h1]⟩
theorem write_all {L : List ByteArray} (hR : ∀ o ∈ L, rightB (txt o) = true) (hl : L.length ≤ 100) : writeK L = 0 ∧ writeB L = bookB L := by
  have := write_take hR hl L.length
  rwa [List.take_length] at this
theorem read_book {L : List ByteArray} (hR : ∀ o ∈ L, rightB (txt o) = true) (hl : L.length ≤ 100) : readOrders (bookB L) = L ∧ (readB (bookB L)).2 = [] ∧ (bookB L).length ≤ 3900 := by
  have hR' : ∀ o ∈ L.map txt, rightB o = true := by
    intro o ho
    obtain ⟨t, ht, rfl⟩ := List.mem_map.1 ho
    exact hR t ht
  have hread := readB_text hR' (by simp; omega)
  refine ⟨?_, ?_, ?_⟩
  · unfold readOrders bookB; rw [hread]; exact map_ofBs _
  · unfold bookB; rw [hread]
  · have := textF_short (L.map txt) 0 hR'
    unfold bookB; simp at this ⊢; omega
theorem read_take {L : List ByteArray} (hR : ∀ o ∈ L, rightB (txt o) = true) (hl : L.length ≤ 100) (n : Nat) : readOrders (bookB (L.take n)) = L.take n ∧ (readB (bookB (L.take n))).2 = [] ∧ (bookB (L.take n)).length ≤ 3900 :=
  read_book (fun o ho => hR o (List.mem_of_mem_take ho)) (by rw [List.length_take]; omega)
theorem book_cut {L : List ByteArray} (hR : ∀ o ∈ L, rightB (txt o) = true) (hl : L.length ≤ 100) (k : Nat) (hk : k ≤ (bookB L).length) :
    ∃ m, m ≤ L.length ∧ readOrders ((bookB L).take k) = L.take m ∧ ((readB ((bookB L).take k)).2).length ≤ k ∧ (bookB L).take (k - ((readB ((bookB L).take k)).2).length) = bookB (L.take m) := by
  have hR' : ∀ o ∈ L.map txt, rightB o = true := by
    intro o ho
    obtain ⟨t, ht, rfl⟩ := List.mem_map.1 ho
    exact hR t ht
  obtain ⟨m, h1, h2, h3⟩ := readF_take (L.map txt) 100 0 k hR' (by simpa using hl)
  have h4 := (readF_sound 100 0 ((bookB L).take k)).1
  unfold bookB at hk h4 ⊢
  unfold readOrders readB
  rw [h2] at h4 ⊢
  generalize (readF 100 0 ((textF 0 (L.map txt)).take k)).2 = r at *
  have h5 := congrArg List.length h4
  rw [List.length_take, List.length_append] at h5
  refine ⟨m, by simpa using h1, ?_, by omega, ?_⟩
  · rw [← List.map_take]; exact map_ofBs _
  · have h6 : (textF 0 (L.map txt)).take (k - r.length) = ((textF 0 (L.map txt)).take k).take (k - r.length) := by rw [List.take_take]; congr 1; omega
    rw [h6, h4, List.take_left' (by omega), List.map_take]
theorem merge_book {L : List ByteArray} (hR : ∀ o ∈ L, rightB (txt o) = true) (hl : L.length ≤ 100) {m : Nat} (hm : m ≤ L.length) :
    mergeV (ofBs (bookB (L.take m))) (ofBs (bookB L)) = .tuple #[.string (ofBs (bookB L)), .int .i64 L.length, .int .i64 0] ∧
    mergeV (ofBs (bookB L)) (ofBs (bookB (L.take m))) = .tuple #[.string (ofBs (bookB L)), .int .i64 L.length, .int .i64 0] := by
  obtain ⟨a1, a2, _⟩ := read_book hR hl
  obtain ⟨b1, b2, _⟩ := read_take hR hl m
  have hlm : (L.take m).length = m := by rw [List.length_take]; omega
  have hd : ∀ j, j < m → (L.take m)[j]? = L[j]? := fun j hj => List.getElem?_take_of_lt hj
  constructor
  · unfold mergeV
    simp only [txt_of, a1, a2, b1, b2]
    rw [if_neg (by simp), diffK_none (fun j hj => hd j (by omega))]
    simp only [hlm]
    split
    · rfl
    · rename_i h
      have : m = L.length := by omega
      subst this
      rw [List.take_length]
  · unfold mergeV
    simp only [txt_of, a1, a2, b1, b2]
    rw [if_neg (by simp), diffK_none (fun j hj => (hd j (by omega)).symm)]
    simp only [hlm]
    rw [if_neg (by omega)]
end Go.Proofs.YtpmlcfgbfhgpgaaGreatDoor
