/- Regions that draw their order: some operations only look (they may be taken first), some make memory, the rest goes in the text's order. Over any program. -/
import Derived.Test.YtpmlcfgbfhgpgaaGreatDoorRegion
namespace Go.Proofs.YtpmlcfgbfhgpgaaGreatDoor
open Go.RowKit
set_option linter.unusedVariables false
section
variable {P : Program} {ops : Array Oper} {md : Region.Mode}
def purely (P : Program) (w : World) (v : Value) : Result Next → Prop
 | .ok (.value u) w' => w' = w ∧ u = v
 | _ => False
@[go_sem] theorem purely_value (w w' : World) (u v : Value) : purely P w v (.ok (.value u) w') = (w' = w ∧ u = v) := rfl
def YieldsX (P : Program) (ops : Array Oper) (w : World) (o : Oper) (v : Value) (a : Act) : Prop :=
 (Region.wanted o (yielded ops a.tmps) = true ∧ ∀ s : Later w, purely P s.w v ((execOp a.eval o).run P s.w)) ∨ (Region.wanted o (yielded ops a.tmps) = false ∧ v = undef)
theorem YieldsX.later {w w' : World} {o : Oper} {v : Value} {a : Act} (h : YieldsX P ops w o v a) (hx : Ext w w') : YieldsX P ops w' o v a :=
 h.imp (fun ⟨h1, h2⟩ => ⟨h1, fun s => h2 ⟨s.w, hx.trans s.ext⟩⟩) id
theorem YieldsX.of_same {w : World} {o : Oper} {v : Value} {a a' : Act} (hy : YieldsX P ops w o v a) (he : execOp a'.eval o = execOp a.eval o)
  (hw : Region.wanted o (yielded ops a'.tmps) = Region.wanted o (yielded ops a.tmps)) : YieldsX P ops w o v a' := by
 unfold YieldsX at *
 rw [he, hw]
 exact hy
theorem YieldsX.wpOp {i : Nat} {o : Oper} {v : Value} {a : Act} {w : World} {Q : Exit → Act → World → Prop} (hi : ops[i]? = some o) (hy : YieldsX P ops w o v a)
  {K : Act → World → Prop} (h : K (a.put o.dst v) w) : wpOp P ops Q i K a w := by
 unfold Go.wpOp
 simp only [hi]
 rcases hy with ⟨hw, hv⟩ | ⟨hw, rfl⟩
 ·simp only [hw, if_true]
  refine .inl ?_
  have h1 := hv ⟨w, Ext.refl w⟩
  unfold Oper.wp
  dsimp only at h1
  generalize (execOp a.eval o).run P w = r at h1 ⊢
  cases r with
  | ok n w' =>
   cases n <;> simp only [purely] at h1
   case value u => obtain ⟨rfl, rfl⟩ := h1; exact h
  | halt x w' => exact h1.elim
 ·simp only [hw, Bool.false_eq_true, if_false]; exact h
theorem wpOp_putX {j : Nat} {oi oj : Oper} {v : Value} {Q : Exit → Act → World → Prop} (hj : ops[j]? = some oj) (hap : oi.apart ops oj = true)
  (hsi : ∀ cs b, oi.op ≠ .select cs b) (hsj : ∀ cs b, oj.op ≠ .select cs b) (hQ : ∀ c a w, Q (.panic c) (a.put oi.dst v) w → Q (.panic c) a w)
  {K : Act → World → Prop} {a : Act} {w : World} (h : wpOp P ops Q j K (a.put oi.dst v) w) :
  wpOp P ops Q j (fun a' w' => (execOp a'.eval oi = execOp a.eval oi ∧ Region.wanted oi (yielded ops a'.tmps) = Region.wanted oi (yielded ops a.tmps)) ∧ K (a'.put oi.dst v) w') a w := by
 obtain ⟨h1, h2, h3⟩ := Oper.apart_spec hap
 have keep : ∀ (b : Act) u, (execOp b.eval oi = execOp a.eval oi ∧ Region.wanted oi (yielded ops b.tmps) = Region.wanted oi (yielded ops a.tmps)) →
   (execOp (b.put oj.dst u).eval oi = execOp a.eval oi ∧ Region.wanted oi (yielded ops (b.put oj.dst u).tmps) = Region.wanted oi (yielded ops a.tmps)) := fun b u hb =>
  ⟨(execOp_put oi hsi b oj.dst u h3).trans hb.1, (wanted_put oi b oj.dst u h3).trans hb.2⟩
 unfold wpOp at *
 simp only [hj] at *
 rw [wanted_put oj a oi.dst v h1] at h
 split
 ·rename_i hw
  simp only [hw, if_true] at h
  rcases h with h | ⟨hasks, hlets⟩
  case inr => exact .inr ⟨by unfold Oper.asks at *; rw [execOp_put oj hsj a oi.dst v h1] at hasks; exact hasks, hlets⟩
  refine .inl ?_
  unfold Oper.wp at *
  rw [execOp_put oj hsj a oi.dst v h1] at h
  generalize (execOp a.eval oj).run P w = r at *
  cases r with
  | ok n w' =>
   cases n <;> simp only [Oper.upon] at h ⊢
   case value u => exact ⟨keep a u ⟨rfl, rfl⟩, by rw [← Act.put_comm a v u h2]; exact h⟩
   case skip => exact ⟨keep a _ ⟨rfl, rfl⟩, by rw [← Act.put_comm a v undef h2]; exact h⟩
   case defer d =>
    refine ⟨keep _ _ ⟨rfl, rfl⟩, ?_⟩
    rw [← Act.put_comm _ v undef h2, ← Act.put_defers]
    exact h
   case enter f args =>
    refine Calls.mono h fun e w'' he => ?_
    cases e with
    | returned u => exact ⟨keep a u ⟨rfl, rfl⟩, by rw [← Act.put_comm a v u h2]; exact he⟩
    | panicked c => exact hQ _ _ _ he
    | outgrown => exact he
   case row row args => exact Rows.mono h fun u w'' he => ⟨keep a u ⟨rfl, rfl⟩, by rw [← Act.put_comm a v u h2]; exact he⟩
  | halt x w' =>
   cases x <;> simp only [Oper.upon] at h ⊢
   case panic u => exact hQ _ _ _ h
 ·rename_i hw
  simp only [hw] at h
  exact ⟨keep a _ ⟨rfl, rfl⟩, by rw [← Act.put_comm a v undef h2]; exact h⟩
end
end Go.Proofs.YtpmlcfgbfhgpgaaGreatDoor
