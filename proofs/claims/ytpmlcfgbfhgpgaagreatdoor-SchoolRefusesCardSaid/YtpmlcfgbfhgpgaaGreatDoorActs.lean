/- Regions that draw their order, with operations that write: a script of steps: look (a value that old memory gives; may be taken at any time from there on, ahead of all that writes old memory), calc (a value that no memory gives; at any time from there on), go (alone ready at its turn). B: what lies below it is written only by the operations of D. Over any program. -/
import Derived.Test.YtpmlcfgbfhgpgaaGreatDoorScript
namespace Go.Proofs.YtpmlcfgbfhgpgaaGreatDoor
open Go.RowKit
set_option linter.unusedVariables false
structure Since (B : Nat) (w0 : World) where
 w : World
 below : Below B w0 w
theorem Since.keep {B : Nat} {w0 : World} (s : Since B w0) {a : Addr} {v : Value} (hb : a.block < B) (h : w0.cell? a = some v) : s.w.cell? a = some v := (s.below.cell hb).trans h
section
variable {P : Program} {ops : Array Oper} {md : Region.Mode}
inductive Play where
 | look (k : Nat)
 | calc (k : Nat)
 | go (k : Nat)
def YieldsS (P : Program) (ops : Array Oper) (B : Nat) (w : World) (o : Oper) (v : Value) (a : Act) : Prop :=
 (Region.wanted o (yielded ops a.tmps) = true ∧ ∀ s : Since B w, purely P s.w v ((execOp a.eval o).run P s.w)) ∨ (Region.wanted o (yielded ops a.tmps) = false ∧ v = undef)
theorem YieldsS.later {B : Nat} {w w' : World} {o : Oper} {v : Value} {a : Act} (h : YieldsS P ops B w o v a) (hx : Below B w w') : YieldsS P ops B w' o v a :=
 h.imp (fun ⟨h1, h2⟩ => ⟨h1, fun s => h2 ⟨s.w, hx.trans s.below⟩⟩) id
theorem YieldsS.of_same {B : Nat} {w : World} {o : Oper} {v : Value} {a a' : Act} (hy : YieldsS P ops B w o v a) (he : execOp a'.eval o = execOp a.eval o)
  (hw : Region.wanted o (yielded ops a'.tmps) = Region.wanted o (yielded ops a.tmps)) : YieldsS P ops B w o v a' := by
 unfold YieldsS at *
 rw [he, hw]
 exact hy
def YieldsA (P : Program) (ops : Array Oper) (o : Oper) (v : Value) (a : Act) : Prop :=
 (Region.wanted o (yielded ops a.tmps) = true ∧ ∀ w : World, purely P w v ((execOp a.eval o).run P w)) ∨ (Region.wanted o (yielded ops a.tmps) = false ∧ v = undef)
theorem YieldsA.s {B : Nat} {w : World} {o : Oper} {v : Value} {a : Act} (h : YieldsA P ops o v a) : YieldsS P ops B w o v a :=
 h.imp (fun ⟨h1, h2⟩ => ⟨h1, fun s => h2 s.w⟩) id
theorem YieldsA.of_same {o : Oper} {v : Value} {a a' : Act} (hy : YieldsA P ops o v a) (he : execOp a'.eval o = execOp a.eval o)
  (hw : Region.wanted o (yielded ops a'.tmps) = Region.wanted o (yielded ops a.tmps)) : YieldsA P ops o v a' := by
 unfold YieldsA at *
 rw [he, hw]
 exact hy
theorem YieldsS.wpOp {B i : Nat} {o : Oper} {v : Value} {a : Act} {w : World} {Q : Exit → Act → World → Prop} (hi : ops[i]? = some o) (hy : YieldsS P ops B w o v a)
  {K : Act → World → Prop} (h : K (a.put o.dst v) w) : wpOp P ops Q i K a w := by
 unfold Go.wpOp
 simp only [hi]
 rcases hy with ⟨hw, h1⟩ | ⟨hw, rfl⟩
 ·simp only [hw, if_true]
  refine .inl ?_
  have h1 := h1 ⟨w, Below.refl _ _⟩
  unfold Oper.wp
  generalize (execOp a.eval o).run P w = r at *
  cases r with
  | ok n w' =>
   cases n <;> simp only [purely] at h1
   case value u => obtain ⟨rfl, rfl⟩ := h1; exact h
  | halt x w' => exact h1.elim
 ·simp only [hw, Bool.false_eq_true, if_false]; exact h
def Region.reachB (md : Region.Mode) (ops : Array Oper) (i : Nat) : Nat → Nat → Bool
 | 0, j => j == i
 | f + 1, j => j == i || match ops[j]? with
  | none => false
  | some o => o.after.any fun e => Region.binds md e && Region.reachB md ops i f e.on
theorem reach_listed {i : Nat} {listed : Array Bool} (inv : HeadInv md ops ops.size listed) : ∀ (f j : Nat), Region.reachB md ops i f j = true → listed.getD j false = true → listed.getD i false = true
 | 0, j, h, hl => by
  have : j = i := by simpa [Region.reachB] using h
  subst this; exact hl
 | f + 1, j, h, hl => by
  rw [Region.reachB, Bool.or_eq_true] at h
  rcases h with h | h
  ·have : j = i := by simpa using h
   subst this; exact hl
  ·split at h
   ·cases h
   ·rename_i o ho
    obtain ⟨x, hx, he⟩ := Array.any_eq_true.1 h
    rw [Bool.and_eq_true] at he
    exact reach_listed inv f _ he.2 (inv.closed j o ho hl _ (Array.getElem_mem hx) he.1)
theorem reach_waits {i : Nat} {listed : Array Bool} (inv : HeadInv md ops ops.size listed) (hun : listed.getD i true = false) {f j : Nat} (hji : j ≠ i) (h : Region.reachB md ops i f j = true) : j ∉ Region.ready md ops listed := by
 intro hr
 obtain ⟨_, o, ho, hall⟩ := mem_ready.1 hr
 cases f with
 | zero => exact hji (by simpa [Region.reachB] using h)
 | succ f =>
  rw [Region.reachB, Bool.or_eq_true] at h
  rcases h with h | h
  ·exact hji (by simpa using h)
  ·rw [ho] at h
   obtain ⟨x, hx, he⟩ := Array.any_eq_true.1 h
   rw [Bool.and_eq_true] at he
   have := reach_listed inv f _ he.2 (hall _ (Array.getElem_mem hx) he.1)
   rw [getD_both hun] at this
   cases this
end
end Go.Proofs.YtpmlcfgbfhgpgaaGreatDoor
