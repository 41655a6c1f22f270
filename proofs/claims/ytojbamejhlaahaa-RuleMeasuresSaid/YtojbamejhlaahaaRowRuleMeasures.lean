/- RuleMeasures: for every input the call returns true, and each argument reads afterwards as it read before. No condition. -/
import Derived.Test.YtojbamejhlaahaaLawRuleMeasures
import Derived.Test.YtojbamejhlaahaaOpen
import Derived.Test.YtojbamejhlaahaaRows
namespace Go.Proofs.Ytojbamejhlaahaa.ruleMeasuresP
open Go.ChangeShapes Go.WideShapes Go.ChangeAt Go.RowKit

theorem own : ownKnob Try.prog.godebug = none := by kernel_rfl
theorem laidOut : laidOutB Try.prog = true := by kernel_rfl

set_option maxRecDepth 100000 in
theorem lifted (os : Os) (started : os.Started) (H : Type) (enc : TypeId × Value → H) :
    ReturnsInHanded {} Try.checked os 8 .any (Rows.ruleMeasuresSpec.pre6 enc Try.prog Try.f8 Rows.ruleMeasuresRow.domain false) (Rows.ruleMeasuresSpec.post enc Try.prog Try.f8 false true false false) := by
  refine returnsInHanded_of_change (C := Try.checked) own started (by kernel_rfl) Try.func8
    (ChangeSpec.witness6 (enc := enc) (C := Try.checked) false ⟨#[], #[.agg #[.int .i64 0, .slice none 0 0, .slice none 0 0, .slice none 0 0]], []⟩ 8 (by kernel_rfl) (by kernel_rfl) (by kernel_rfl) (by kernel_rfl)) ?_
  intro W base args ds gs before hval0 hW hcnd _
  have hval : ∀ (j : Nat) t v, (Try.f8).params[j]? = some t → args[j]? = some v → Value.okWide Try.prog W .any base t v := hval0
  have hW' := hW
  obtain ⟨p, q, hA0, hV, rfl, hfz, hnd⟩ := hW
  have hA : DataW.TrodAll enc Try.prog W 0 (fun _ => true) true (Try.f8).params.toList args.toList ds p := hA0
  rw [Try.params8] at hA hval
  obtain ⟨v0, vs0, d0, ds0, p0, q0, hargs, rfl, rfl, h0, r0⟩ := trodAll_cons hA
  obtain ⟨rfl, rfl, rfl⟩ := trodAll_nil r0
  obtain rfl : args = #[v0] := by cases args; simp_all
  obtain ⟨rfl, rfl⟩ := trodVars_none hV
  have k0 := h0
  have lt0 : ∀ x ∈ p0, x.block < W.heap.size := by obtain ⟨m, hm⟩ := k0; exact DataW.trod_lt m _ _ _ hm
  obtain ⟨f0, tv0, lv0, rv0, y0, z0, u0, v0, m0, rfl, rfl, rfl, qf0, qt0, ql0, qr0⟩ := Go.Joins.open_agg4 Try.underlying24 (by kernel_rfl) (by kernel_rfl) (hval 0 24 v0 rfl rfl) h0
  obtain ⟨a0, hcs, _, w0⟩ := DataW.trod_int Try.underlying3 qf0
  injection hcs with hcs; subst hcs
  obtain ⟨_, lt0_, hcs, ht0, _⟩ := open_Ints Try.underlying22 Try.underlying3 (by kernel_rfl) qt0
  injection hcs with hcs; subst hcs
  obtain ⟨_, ll0_, hcs, hl0, _⟩ := open_Ints Try.underlying22 Try.underlying3 (by kernel_rfl) ql0
  injection hcs with hcs; subst hcs
  obtain ⟨_, lr0_, hcs, hr0, _⟩ := open_Ints Try.underlying22 Try.underlying3 (by kernel_rfl) qr0
  injection hcs with hcs; subst hcs
  clear hA0 hval0
  refine (ruleMeasures_c tv0 lv0 rv0 ⟨a0, lt0_, ll0_, lr0_⟩ W ⟨ht0, hl0, hr0⟩).mono fun e W' ⟨he, bel⟩ => ?_
  subst he
  exact ⟨_, rfl, _, _, _, [], _, [], hW', trodAll_mk1 (shut_bool Try.underlying4 _), (trodAll_cons_mk (Below.trod laidOut (by kernel_rfl) (of_decide_eq_true (by kernel_rfl)) k0 bel lt0) trodAll_mk0), rfl, bel.frame _, fun h => by cases h⟩

theorem holds : Rows.RuleMeasuresSaid :=
  OpenClaim.holds_of_wide 8 Try.f8 rfl rfl rfl rfl rfl rfl rfl ⟨rfl, rfl, rfl, rfl, rfl⟩ rfl rfl rfl rfl rfl (by kernel_rfl) Try.func8 (by kernel_rfl)
    (of_decide_eq_true (by kernel_rfl)) (by unfold Func.isWrapper; first | (rw [if_pos (by decide +kernel)]; kernel_rfl) | (rw [if_neg (by decide +kernel)]; exact ⟨rfl, rfl⟩))
    (fun os started H enc _ => lifted os started H enc)
#print axioms holds
end Go.Proofs.Ytojbamejhlaahaa.ruleMeasuresP
