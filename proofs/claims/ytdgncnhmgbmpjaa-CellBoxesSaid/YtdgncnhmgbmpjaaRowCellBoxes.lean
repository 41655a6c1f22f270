/- CellBoxes: for every input the call returns true, and each argument reads afterwards as it read before. No condition. -/
import Derived.Test.YtdgncnhmgbmpjaaLawCellBoxes
import Derived.Test.YtdgncnhmgbmpjaaOpen
import Derived.Test.YtdgncnhmgbmpjaaRows
namespace Go.Proofs.Ytdgncnhmgbmpjaa.cellBoxesP
open Go.ChangeShapes Go.WideShapes Go.ChangeAt Go.RowKit

theorem own : ownKnob Try.prog.godebug = none := by kernel_rfl
theorem laidOut : laidOutB Try.prog = true := by kernel_rfl

set_option maxRecDepth 100000 in
theorem lifted (os : Os) (started : os.Started) (H : Type) (enc : TypeId × Value → H) :
    ReturnsInHanded {} Try.checked os 4 .any (Rows.cellBoxesSpec.pre6 enc Try.prog Try.f4 Rows.cellBoxesRow.domain false) (Rows.cellBoxesSpec.post enc Try.prog Try.f4 false true false false) := by
  refine returnsInHanded_of_change (C := Try.checked) own started (by kernel_rfl) Try.func4
    (ChangeSpec.witness6 (enc := enc) (C := Try.checked) false ⟨#[], #[.agg #[.slice none 0 0, .slice none 0 0], .int .i64 0], []⟩ 8 (by kernel_rfl) (by kernel_rfl) (by kernel_rfl) (by kernel_rfl)) ?_
  intro W base args ds gs before hval0 hW hcnd _
  have hval : ∀ (j : Nat) t v, (Try.f4).params[j]? = some t → args[j]? = some v → Value.okWide Try.prog W .any base t v := hval0
  have hW' := hW
  obtain ⟨p, q, hA0, hV, rfl, hfz, hnd⟩ := hW
  have hA : DataW.TrodAll enc Try.prog W 0 (fun _ => true) true (Try.f4).params.toList args.toList ds p := hA0
  rw [Try.params4] at hA hval
  obtain ⟨v0, vs0, d0, ds0, p0, q0, hargs, rfl, rfl, h0, r0⟩ := trodAll_cons hA
  obtain ⟨v1, vs1, d1, ds1, p1, q1, rfl, rfl, rfl, h1, r1⟩ := trodAll_cons r0
  obtain ⟨rfl, rfl, rfl⟩ := trodAll_nil r1
  obtain rfl : args = #[v0, v1] := by cases args; simp_all
  obtain ⟨rfl, rfl⟩ := trodVars_none hV
  have k0 := h0
  have lt0 : ∀ x ∈ p0, x.block < W.heap.size := by obtain ⟨m, hm⟩ := k0; exact DataW.trod_lt m _ _ _ hm
  obtain ⟨s0, e0, y0, z0, m0, rfl, rfl, rfl, t0, u0⟩ := Go.Joins.open_agg2 Try.underlying25 (by kernel_rfl) (by kernel_rfl) (hval 0 25 v0 rfl rfl) h0
  obtain ⟨_, sizes0, hcs, hs0, ws0⟩ := open_Ints Try.underlying22 Try.underlying3 (by kernel_rfl) t0
  injection hcs with hcs; subst hcs
  obtain ⟨_, es0, hcs, he0, we0⟩ := open_Ents Try.underlying23 Try.underlying42 (by kernel_rfl) rfl rfl (by kernel_rfl) Try.underlying22 rfl rfl (by kernel_rfl) Try.underlying3 u0
  injection hcs with hcs; subst hcs
  obtain ⟨a1, rfl, rfl, rfl, w1⟩ := open_int Try.underlying3 (hval 1 3 v1 rfl rfl) h1
  clear hA0 hval0
  refine (cellBoxes_c s0 e0 sizes0 es0 a1 W ⟨hs0, he0⟩ w1).mono fun e W' ⟨he, bel⟩ => ?_
  subst he
  exact ⟨_, rfl, _, _, _, [], _, [], hW', trodAll_mk1 (shut_bool Try.underlying4 _), (trodAll_cons_mk (Below.trod laidOut (by kernel_rfl) (of_decide_eq_true (by kernel_rfl)) k0 bel lt0) (trodAll_cons_mk (shut_int Try.underlying3 w1) trodAll_mk0)), rfl, bel.frame _, fun h => by cases h⟩

theorem g1 : Try.prog.liftsFinal = Rows.cellBoxesRow.lifted := by kernel_rfl
theorem g2 : Try.prog.mayEnter = true := by kernel_rfl
theorem g3 : Try.prog.inPlace 4 = Rows.cellBoxesRow.inPlace := by kernel_rfl
theorem g4 : Try.prog.unfollowed 4 = Rows.cellBoxesRow.unfollowed := by kernel_rfl
theorem g5 : Try.prog.recurses 4 = Rows.cellBoxesRow.recurses := by kernel_rfl
theorem g6 : Try.prog.varsNamed 4 = Rows.cellBoxesRow.named := by kernel_rfl
theorem closed : joinedFacts Try.prog 4 Try.f4 Rows.cellBoxesSpec Rows.cellBoxesRow = true := by
  unfold joinedFacts
  rw [g1, g2, g3, g4, g5, g6]
  kernel_rfl

theorem holds : Rows.CellBoxesSaid :=
  OpenClaim.holds_of_wide 4 Try.f4 rfl rfl rfl rfl rfl rfl rfl ⟨rfl, rfl, rfl, rfl, rfl⟩ rfl rfl rfl rfl rfl (by kernel_rfl) Try.func4 closed
    (of_decide_eq_true (by kernel_rfl)) (by unfold Func.isWrapper; first | (rw [if_pos (by decide +kernel)]; kernel_rfl) | (rw [if_neg (by decide +kernel)]; exact ⟨rfl, rfl⟩))
    (fun os started H enc _ => lifted os started H enc)
#print axioms holds
end Go.Proofs.Ytdgncnhmgbmpjaa.cellBoxesP
