/- RuleRenames: for every input the call returns true, and each argument reads afterwards as it read before. No condition. -/
import Derived.Test.YthmdecgkbjdabaaLawRuleRenames
import Derived.Test.YthmdecgkbjdabaaOpen
import Derived.Test.YthmdecgkbjdabaaRows
namespace Go.Proofs.Ythmdecgkbjdabaa.ruleRenamesP
open Go.ChangeShapes Go.WideShapes Go.ChangeAt Go.RowKit

theorem own : ownKnob Try.prog.godebug = none := by kernel_rfl
theorem laidOut : laidOutB Try.prog = true := by kernel_rfl

set_option maxRecDepth 100000 in
theorem lifted (os : Os) (started : os.Started) (H : Type) (enc : TypeId × Value → H) :
    ReturnsInHanded {} Try.checked os 3 .any (Rows.ruleRenamesSpec.pre6 enc Try.prog Try.f3 Rows.ruleRenamesRow.domain false) (Rows.ruleRenamesSpec.post enc Try.prog Try.f3 false true false false) := by
  refine returnsInHanded_of_change (C := Try.checked) own started (by kernel_rfl) Try.func3
    (ChangeSpec.witness6 (enc := enc) (C := Try.checked) false ⟨#[], #[.agg #[.int .i64 0, .slice none 0 0, .slice none 0 0, .slice none 0 0], .slice none 0 0, .slice none 0 0], []⟩ 8 (by kernel_rfl) (by kernel_rfl) (by kernel_rfl) (by kernel_rfl)) ?_
  intro W base args ds gs before hval0 hW hcnd _
  have hval : ∀ (j : Nat) t v, (Try.f3).params[j]? = some t → args[j]? = some v → Value.okWide Try.prog W .any base t v := hval0
  have hW' := hW
  obtain ⟨p, q, hA0, hV, rfl, hfz, hnd⟩ := hW
  have hA : DataW.TrodAll enc Try.prog W 0 (fun _ => true) true (Try.f3).params.toList args.toList ds p := hA0
  rw [Try.params3] at hA hval
  obtain ⟨v0, vs0, d0, ds0, p0, q0, hargs, rfl, rfl, h0, r0⟩ := trodAll_cons hA
  obtain ⟨v1, vs1, d1, ds1, p1, q1, rfl, rfl, rfl, h1, r1⟩ := trodAll_cons r0
  obtain ⟨v2, vs2, d2, ds2, p2, q2, rfl, rfl, rfl, h2, r2⟩ := trodAll_cons r1
  obtain ⟨rfl, rfl, rfl⟩ := trodAll_nil r2
  obtain rfl : args = #[v0, v1, v2] := by cases args; simp_all
  obtain ⟨rfl, rfl⟩ := trodVars_none hV
  have k0 := h0
  have lt0 : ∀ x ∈ p0, x.block < W.heap.size := by obtain ⟨m, hm⟩ := k0; exact DataW.trod_lt m _ _ _ hm
  obtain ⟨f0, tv0, lv0, rv0, y0, z0, u0, v0, m0, rfl, rfl, rfl, qf0, qt0, ql0, qr0⟩ := Go.Joins.open_agg4 Try.underlying24 (by kernel_rfl) (by kernel_rfl) (hval 0 24 v0 rfl rfl) h0
  obtain ⟨a0, hcs, _, w0⟩ := DataW.trod_int Try.underlying3 qf0
  injection hcs with hcs; subst hcs
  obtain ⟨_, lt0_, hcs, ht0, _⟩ := open_Ints Try.underlying22 Try.underlying3 (by kernel_rfl) qt0
  injection hcs with hcs; subst hcs
  obtain ⟨_, ll0_, hcs, hl0, _⟩ := open_Ints Try.underlying22 Try.underlying3 (by kernel_rfl) ql0
  injection hcs with hcs; subst hcs
  obtain ⟨_, lr0_, hcs, hr0, _⟩ := open_Ints Try.underlying22 Try.underlying3 (by kernel_rfl) qr0
  injection hcs with hcs; subst hcs
  have k1 := h1
  have lt1 : ∀ x ∈ p1, x.block < W.heap.size := by obtain ⟨m, hm⟩ := k1; exact DataW.trod_lt m _ _ _ hm
  obtain ⟨m1, hm1⟩ := h1
  obtain ⟨c1, l1, hcs, hs1, ws1⟩ := open_Ints Try.underlying22 Try.underlying3 (by kernel_rfl) hm1
  obtain ⟨ca1, cl1, cc1, rfl⟩ := okWide_slice Try.underlying22 (hval 1 22 v1 rfl rfl)
  simp only [Value.cells] at hcs; injection hcs with hcs; subst hcs
  have k2 := h2
  have lt2 : ∀ x ∈ p2, x.block < W.heap.size := by obtain ⟨m, hm⟩ := k2; exact DataW.trod_lt m _ _ _ hm
  obtain ⟨m2, hm2⟩ := h2
  obtain ⟨c2, l2, hcs, hs2, ws2⟩ := open_Ints Try.underlying22 Try.underlying3 (by kernel_rfl) hm2
  obtain ⟨ca2, cl2, cc2, rfl⟩ := okWide_slice Try.underlying22 (hval 2 22 v2 rfl rfl)
  simp only [Value.cells] at hcs; injection hcs with hcs; subst hcs
  clear hA0 hval0
  refine (ruleRenames_c tv0 lv0 rv0 ⟨a0, lt0_, ll0_, lr0_⟩ (.slice ca1 cl1 cc1) l1 (.slice ca2 cl2 cc2) l2 W ⟨ht0, hl0, hr0⟩ hs1 hs2).mono fun e W' ⟨he, bel⟩ => ?_
  subst he
  exact ⟨_, rfl, _, _, _, [], _, [], hW', trodAll_mk1 (shut_bool Try.underlying4 _), (trodAll_cons_mk (Below.trod laidOut (by kernel_rfl) (of_decide_eq_true (by kernel_rfl)) k0 bel lt0) (trodAll_cons_mk (Below.trod laidOut (by kernel_rfl) (of_decide_eq_true (by kernel_rfl)) k1 bel lt1) (trodAll_cons_mk (Below.trod laidOut (by kernel_rfl) (of_decide_eq_true (by kernel_rfl)) k2 bel lt2) trodAll_mk0))), rfl, bel.frame _, fun h => by cases h⟩

theorem g1 : Try.prog.liftsFinal = Rows.ruleRenamesRow.lifted := by kernel_rfl
theorem g2 : Try.prog.mayEnter = true := by kernel_rfl
theorem g3 : Try.prog.inPlace 3 = Rows.ruleRenamesRow.inPlace := by kernel_rfl
theorem g4 : Try.prog.unfollowed 3 = Rows.ruleRenamesRow.unfollowed := by kernel_rfl
theorem g5 : Try.prog.recurses 3 = Rows.ruleRenamesRow.recurses := by kernel_rfl
theorem g6 : Try.prog.varsNamed 3 = Rows.ruleRenamesRow.named := by kernel_rfl
theorem closed : joinedFacts Try.prog 3 Try.f3 Rows.ruleRenamesSpec Rows.ruleRenamesRow = true := by
  unfold joinedFacts
  rw [g1, g2, g3, g4, g5, g6]
  kernel_rfl

theorem holds : Rows.RuleRenamesSaid :=
  OpenClaim.holds_of_wide 3 Try.f3 rfl rfl rfl rfl rfl rfl rfl ⟨rfl, rfl, rfl, rfl, rfl⟩ rfl rfl rfl rfl rfl (by kernel_rfl) Try.func3 closed
    (of_decide_eq_true (by kernel_rfl)) (by unfold Func.isWrapper; first | (rw [if_pos (by decide +kernel)]; kernel_rfl) | (rw [if_neg (by decide +kernel)]; exact ⟨rfl, rfl⟩))
    (fun os started H enc _ => lifted os started H enc)
#print axioms holds
end Go.Proofs.Ythmdecgkbjdabaa.ruleRenamesP
