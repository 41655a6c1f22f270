/- Several texts in one: FrmC, EqA. -/
import Derived.Test.YtpmlcfgbfhgpgaaGreatDoorJoinB
import Derived.Test.YtpmlcfgbfhgpgaaGreatDoorRefOne
/- Forms of a school: the forms that were said, in memory of the call's own. -/
namespace Go.Proofs.YtpmlcfgbfhgpgaaGreatDoor
open Go.RowKit Go.Shelf
set_option linter.unusedVariables false
def FrmO (B : Nat) (w : World) (v : Value) (ls : List (List Int)) : Prop := ∃ us S, OCel encV 1 34 w B v us ∧ (∀ r, v.ownBlock = some r → S r = true) ∧ (∀ k, S k = true → k < w.heap.size) ∧ AllInts (hole S w) us ls
theorem FrmO.nil (B : Nat) (w : World) : FrmO B w (.slice none 0 0) [] := ⟨[], fun _ => false, OCel.nil _ _ _ _ _, (fun r hr => by cases hr), (fun k hk => by cases hk), AllInts.nil _⟩
theorem FrmO.ext {B : Nat} {w w' : World} {v : Value} {ls : List (List Int)} (h : FrmO B w v ls) (hx : Ext w w') : FrmO B w' v ls := by
 obtain ⟨us, S, h1, h2, h3, h4⟩ := h
 exact ⟨us, S, OCel.ext h1 hx, h2, fun k hk => Nat.lt_of_lt_of_le (h3 k hk) hx.size, h4.ext (hx.hole S)⟩
theorem flat_encV (us : List Value) : us.flatMap encV = us := by
 induction us with
 | nil => rfl
 | cons a us ih => rw [List.flatMap_cons, ih]; rfl
theorem FrmO.rows {B : Nat} {w : World} {v : Value} {ls : List (List Int)} (h : FrmO B w v ls) : Rows w v ls := by
 obtain ⟨us, S, h1, h2, h3, h4⟩ := h
 have h5 : AllInts w us ls := ⟨h4.1, fun i u hu => (h4.2 i u hu).sub (hole_sub S w)⟩
 have h6 : w.ownsRow B 34 1 v ls.length us := by
  unfold OCel at h1
  rw [show us.flatMap encV = us from flat_encV us] at h1
  rw [← h4.1]; exact h1
 exact Rows.own h6 h5
theorem FrmO.low {B B' : Nat} {w : World} {v : Value} {ls : List (List Int)} (h : FrmO B w v ls) (hB : B' ≤ B) : FrmO B' w v ls := by
 obtain ⟨us, S, h1, h2, h3, h4⟩ := h
 exact ⟨us, S, OCel.low h1 hB, h2, h3, h4⟩
theorem wpList_appendFrm {ops : Array Oper} {rest : List Oper} {o : Oper} {a : Act} {Q : Exit → Act → World → Prop} {W w1 : World} {B : Nat} {v u : Value} {g : Nat} {ls : List (List Int)} {l : List Int}
  (hgd : o.guard = none) (s x : Operand) (ho : o.op = .call { callee := .builtin .append, args := #[s, x], argTypes := #[75, 75] })
  (hs : a.eval s = v) (hx : a.eval x = .slice (some ⟨g, 0, none⟩) 1 1) (hc : FrmO B w1 v ls) (hX : Ext w1 W) (hg : W.heap.size = g) (hu : OInts 3 W w1.heap.size u l) (hB : B ≤ W.heap.size) (hn : ls.length ≤ 1000000)
  (h : ∀ v' w', FrmO B w' v' (ls ++ [l]) → Below B W w' → wpList Tryz.prog ops Q rest (a.put o.dst v') w') : wpList Tryz.prog ops Q (o :: rest) a (W.alloc (.cells #[u] 34)) := by
 obtain ⟨us, S, h1, h2, h3, h4⟩ := hc
 have hlen := h4.1
 obtain ⟨au, cu, huv, _⟩ := hu.ints.open_
 refine wpList_appendS (enc := encV) (L := us) u elRows hgd s x ho hs hx (OCel.ext h1 hX) hg rfl rfl (fun k hk => ?_) hB (by omega) (by omega) ?_
 ·simp only [encV, List.mem_cons, List.not_mem_nil, or_false] at hk; subst hk; subst huv; rfl
 intro v' w' hO hb hgr hn'
 have hX2 : ExtX (fun k => decide (v.ownBlock = some k)) W w' := ⟨hgr.os, hgr.tape, hgr.output, hgr.size, fun k hk hr => hgr.block k hk (by simpa [eq_comm] using hr)⟩
 have key : ∀ S' : Nat → Bool, (∀ k, S k = true → S' k = true) → (∀ k, S' k = true → S k = true ∨ (W.heap.size ≤ k ∧ k < w'.heap.size)) → (∀ r, v'.ownBlock = some r → S' r = true) → FrmO B w' v' (ls ++ [l]) := fun S' k1 k2 k3 => by
  have hh : Ext (hole S W) (hole S' w') := hX2.hole (fun k hk => h2 k (by simpa using hk)) k1 (fun k hk => by
   rcases k2 k hk with h | h
   ·exact .inl h
   ·exact .inr h.1)
  refine ⟨us ++ [u], S', hO, k3, fun k hk => ?_, AllInts.snoc ((h4.ext (hX.hole S)).ext hh) (((OInts.hole hu h3).ints).ext hh)⟩
  rcases k2 k hk with h | h
  ·exact Nat.lt_of_lt_of_le (h3 k h) (Nat.le_trans hX.size hgr.size)
  ·exact h.2
 refine h v' w' ?_ hb
 cases hv' : v'.ownBlock with
 | none => exact key S (fun _ h => h) (fun _ h => .inl h) (fun r hr => by rw [hv'] at hr; cases hr)
 | some q =>
  have hq : q < w'.heap.size := by
   obtain ⟨_, h | ⟨g', cap, cur, e1, e2, e3, e4⟩⟩ := hO
   ·rw [h.1] at hv'; cases hv'
   ·rw [e1] at hv'
    injection hv' with hv'
    subst hv'
    rcases Nat.lt_or_ge g' w'.heap.size with hl | hl
    ·exact hl
    ·rw [Array.getElem?_eq_none hl] at e3; cases e3
  refine key (fun k => S k || k == q) (fun k hk => by simp [hk]) (fun k hk => ?_) (fun r hr => by rw [hv'] at hr; injection hr with hr; subst hr; simp)
  simp only [Bool.or_eq_true, beq_iff_eq] at hk
  rcases hk with hk | hk
  ·exact .inl hk
  ·subst hk
   rcases hn' k hv' with e | e
   ·exact .inl (h2 k e)
   ·exact .inr ⟨e, hq⟩
set_option maxHeartbeats 4000000 in
set_option maxRecDepth 100000 in
theorem Forms_c {S : Nat → Bool} {b : Nat} {m1 rv : Value} {v : SV} {x : St} {s : List Rul} {w : World} (h : SchF S b m1 rv v x s w) :
  Calls Tryz.prog 60 #[.pointer (some ⟨b, 0, none⟩)] w (fun e w' => ∃ u, e = .returned u ∧ FrmO w.heap.size w' u x.forms ∧ Ext w w') := by
 have HL := Lib.hid (look_c h)
 have hfl : x.forms.length ≤ 100 := Nat.le_trans h.hI.formsL h.hI.olen
 have HV : Hid (∀ k, k < x.forms.length → (x.forms[k]?.getD []).length ≤ 100000000) := Lib.hid fun k hk => by
  rw [List.getElem?_eq_getElem hk]
  have := validW_len (h.hI.formsV _ (List.getElem_mem hk))
  show (x.forms[k]).length ≤ _
  omega
 obtain ⟨a, c, hvf, h1, h2, H⟩ := Rows.open_ ((h.hs.sub (hole_sub S w)).forms)
 obtain ⟨b0, d0, b1, d1, b2, d2, b3, d3, b4, d4, b5, d5, b6, d6, hvl⟩ := SV.lit h.hs
 subst hvl
 injection hvf with e1 e2 e3
 subst e1 e3
 simp only [SV.cells] at HL
 clear h e2
 have hfo := fld_forms
 generalize hF : x.forms = F at *
 clear hF
 go_enter Tryz.func60, Tryz.ntmps60
 go_wp2_with fail
 refine HL.out.mono ?_; rintro e w1 ⟨rfl, hx1⟩
 go_wp2_with fail
 go_loopg [10, 3] F.length (fun m i t wr => ∃ k : Nat, k ≤ F.length ∧ F.length ≤ k + m ∧ i = .int .i64 k ∧ Ext w wr ∧ FrmO w.heap.size wr t (F.take k))
 case atStart => exact ⟨0, by omega, by omega, rfl, hx1, FrmO.nil _ _⟩
 case round =>
  obtain ⟨k, hk, hk2, rfl, hxr, hO⟩ := hrel
  by_cases hlt : k < F.length
  ·obtain ⟨bb, oo, rfl, u, hc, hi⟩ := H.out k hlt
   replace hc := hxr.keep hc
   have HCL := Lib.hid (cloneInts_c u _ wr (hi.ext hxr) (HV.out k hlt))
   obtain ⟨au, cu, rfl, _⟩ := hi.open_
   have HTK : Hid (F.take (k + 1) = F.take k ++ [F[k]?.getD []]) := Lib.hid (by rw [List.take_add_one, List.getElem?_eq_getElem hlt]; rfl)
   have hkl : (F.take k).length ≤ 1000000 := by rw [List.length_take]; omega
   clear hi
   generalize F[k]?.getD [] = fk at *
   have HO := Lib.hid hO
   clear hO
   go_wp2_with fail
   refine HCL.out.mono ?_; rintro e w2 ⟨u2, rfl, ho2, hx2⟩
   obtain ⟨a2, c2, hu2, _⟩ := ho2.ints.open_
   subst hu2
   have hz := hxr.size
   have hz2 := hx2.size
   go_wp2_with (at_builtin; refine wpList_appendFrm rfl _ _ rfl rfl rfl HO.out hx2 rfl ho2 (by omega) hkl ?_; intro v' w' hO' hb')
   go_roundg (gk-1)
   case measure => omega
   case rel => exact ⟨k+1, by omega, by omega, by go_num, (hxr.trans hx2).upto hb' (by omega), by rw [HTK.out]; exact hO'⟩
  ·obtain rfl : k = F.length := by omega
   rw [List.take_length] at hO
   have HO := Lib.hid hO
   clear hO
   go_wp2_with fail
   go_ret
   exact ⟨_, rfl, HO.out, hxr⟩
end Go.Proofs.YtpmlcfgbfhgpgaaGreatDoor
/- Lists of words are compared by the reference. -/
namespace Go.Proofs.YtpmlcfgbfhgpgaaGreatDoor
open Go.RowKit Go.Shelf
set_option linter.unusedVariables false
set_option maxHeartbeats 400000 in
theorem sameWords4_c (va vb : Value) (a b : List (List Int)) (w : World) (ha : Rows w va a) (hb : Rows w vb b) :
  Calls Tryz.prog 63 #[va, vb] w (RQ (rowsB a b) w) := by
 obtain ⟨aa, ca, rfl, hla, hma, Hca⟩ := ha.open_
 obtain ⟨ab, cb, rfl, hlb, hmb, Hcb⟩ := hb.open_
 clear ha hb
 by_cases hl : a.length = b.length
 ·have H1 : ((a.length : Int) != (b.length : Int)) = false := by simp [hl]
  have hl1 : b.length ≤ a.length := by omega
  have hl2 : a.length ≤ b.length := by omega
  have HL := Lib.hid hl; clear hl
  go_enter Tryz.func63, Tryz.ntmps63
  go_wp2_with fail
  go_loopg [5] a.length (fun m i wr => ∃ k : Nat, k ≤ a.length ∧ a.length ≤ k + m ∧ i = .int .i64 k ∧ (∃ n, wr = w.drewN n) ∧ Hid (∀ j, j < k → sameIntsB (a[j]?.getD []) (b[j]?.getD []) = true))
  case atStart => exact ⟨0, by omega, by omega, rfl, ⟨0, rfl⟩, fun j hj => by omega⟩
  case round =>
   obtain ⟨k, hk, hk2, rfl, ⟨nd, hwr⟩, hE⟩ := hrel
   have hwx : Ext w wr := by rw [hwr]; exact Ext.drewN _ _
   have HW := Lib.hid hwr; clear hwr
   by_cases hlt : k < a.length
   ·obtain ⟨ba, oa, rfl, u, hc1, hi1⟩ := Hca.out k hlt
    obtain ⟨bb, ob, rfl, v, hc2, hi2⟩ := Hcb.out k (by omega)
    replace hc1 := hwx.keep hc1
    replace hc2 := hwx.keep hc2
    have HS := Lib.hid (fun W (hx : Ext w W) => sameInts4_c u v _ _ W (hi1.ext hx) (hi2.ext hx))
    clear hi1 hi2
    cases hs : sameIntsB (a[k]?.getD []) (b[k]?.getD [])
    ·rw [hs] at HS
     have HX := Lib.hid hs; clear hs
     go_wp2_with fail
     go_quiet ((go_at_call 30; exact RQ.quiet (HS.out _ (hwx.trans (Ext.drewN _ _)))))
     go_wp2_with fail
     go_ret
     exact RQ.mkW (n := nd) (by rw [rowsB, allB_false hlt HX.out]; simp) HW.out _
    ·rw [hs] at HS
     have HX := Lib.hid hs; clear hs
     go_wp2_with fail
     go_quiet ((go_at_call 30; exact RQ.quiet (HS.out _ (hwx.trans (Ext.drewN _ _)))))
     go_wp2_with fail
     go_roundg (gk-1)
     case measure => omega
     case rel => exact ⟨k+1, by omega, by omega, by go_num, ⟨_, by rw [HW.out, World.drewN_drewN]⟩, range_step hE.out HX.out⟩
   ·go_wp2_with fail
    go_ret
    exact RQ.mkV (n := nd) (by rw [rowsB, allB_true (fun j hj => hE.out j (by omega))]; simp [HL.out]) HW.out
 ·have H1 : ((a.length : Int) != (b.length : Int)) = true := by simp; omega
  have HL := Lib.hid hl; clear hl
  go_enter Tryz.func63, Tryz.ntmps63
  go_wp2_with fail
  go_ret
  exact RQ.mk0 (by have := HL.out; simp [rowsB, this])
theorem sameIntsB_id (l : List Int) : sameIntsB l l = true := by rw [sameIntsB_iff]; exact beq_self_eq_true l
theorem sameWords4_t (va vb : Value) (a : List (List Int)) (w : World) (ha : Rows w va a) (hb : Rows w vb a) : Calls Tryz.prog 63 #[va, vb] w (RV (.bool true) w) := by
 refine (sameWords4_c va vb a a w ha hb).mono ?_; rintro e w' ⟨rfl, n, rfl⟩
 exact ⟨by rw [rowsB_iff, beq_self_eq_true], Ext.drewN _ _⟩
theorem sameInts4_t (va vb : Value) (a : List Int) (w : World) (ha : Ints w va a) (hb : Ints w vb a) : Calls Tryz.prog 30 #[va, vb] w (RV (.bool true) w) := by
 refine (sameInts4_c va vb a a w ha hb).mono ?_; rintro e w' ⟨rfl, n, rfl⟩
 exact ⟨by rw [sameIntsB_id], Ext.drewN _ _⟩
theorem sameChs4_t (va vb : Value) (a : List Ch) (w : World) (ha : Chs w va a) (hb : Chs w vb a) : Calls Tryz.prog 29 #[va, vb] w (RV (.bool true) w) := by
 have := sameChs4_c va vb a a w ha hb
 rwa [show decide (a = a) = true by simp] at this
end Go.Proofs.YtpmlcfgbfhgpgaaGreatDoor
