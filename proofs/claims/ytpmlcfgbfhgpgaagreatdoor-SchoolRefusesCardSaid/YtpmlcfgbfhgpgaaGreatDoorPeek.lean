/- Regions that draw their order, with operations that write: a script of steps: look (what an operation reads stays till all of D are done), peek (what it reads stays throughout), go (alone ready at its turn), par (two that are ready together). Over any program. -/
import Derived.Test.YtpmlcfgbfhgpgaaGreatDoorActs
namespace Go.Proofs.YtpmlcfgbfhgpgaaGreatDoor
open Go.RowKit
set_option linter.unusedVariables false
structure InC (C : World → Prop) where
 w : World
 h : C w
section
variable {P : Program} {ops : Array Oper} {md : Region.Mode}
def YieldsC (P : Program) (ops : Array Oper) (C : World → Prop) (o : Oper) (v : Value) (a : Act) : Prop :=
 (Region.wanted o (yielded ops a.tmps) = true ∧ ∀ w, C w → purely P w v ((execOp a.eval o).run P w)) ∨ (Region.wanted o (yielded ops a.tmps) = false ∧ v = undef)
theorem YieldsC.of_same {C : World → Prop} {o : Oper} {v : Value} {a a' : Act} (hy : YieldsC P ops C o v a) (he : execOp a'.eval o = execOp a.eval o)
  (hw : Region.wanted o (yielded ops a'.tmps) = Region.wanted o (yielded ops a.tmps)) : YieldsC P ops C o v a' := by
 unfold YieldsC at *
 rw [he, hw]
 exact hy
theorem YieldsC.wpOp {C : World → Prop} {i : Nat} {o : Oper} {v : Value} {a : Act} {w : World} {Q : Exit → Act → World → Prop} (hi : ops[i]? = some o) (hC : C w) (hy : YieldsC P ops C o v a)
  {K : Act → World → Prop} (h : K (a.put o.dst v) w) : wpOp P ops Q i K a w := by
 unfold Go.wpOp
 simp only [hi]
 rcases hy with ⟨hw, h1⟩ | ⟨hw, rfl⟩
 ·simp only [hw, if_true]
  refine .inl ?_
  have h1 := h1 w hC
  unfold Oper.wp
  generalize (execOp a.eval o).run P w = r at *
  cases r with
  | ok n w' =>
   cases n <;> simp only [purely] at h1
   case value u => obtain ⟨rfl, rfl⟩ := h1; exact h
  | halt x w' => exact h1.elim
 ·simp only [hw, Bool.false_eq_true, if_false]; exact h
def KeepE (C1 C2 : World → Prop) (D : List Nat) (i : Nat) (w w' : World) : Prop := (i ∈ D ∨ (C1 w → C1 w')) ∧ (C2 w → C2 w')
theorem KeepE.refl {C1 C2 : World → Prop} {D : List Nat} {i : Nat} {w : World} : KeepE C1 C2 D i w w := ⟨.inr id, id⟩
theorem KeepE.of {C1 C2 : World → Prop} {D : List Nat} {i : Nat} {w w' : World} (h1 : C1 w → C1 w') (h2 : C2 w → C2 w') : KeepE C1 C2 D i w w' := ⟨.inr h1, h2⟩
def wpAnyE (P : Program) (md : Region.Mode) (ops : Array Oper) (Q : Exit → Act → World → Prop) (C1 C2 : World → Prop) (D : List Nat) : Nat → Array Bool → Act → World → Prop
 | 0, listed, a, w => Region.ready md ops listed = [] ∧ Q .normal a w
 | f + 1, listed, a, w => (Region.ready md ops listed = [] → Q .normal a w) ∧
   ∀ i ∈ Region.ready md ops listed, wpOp P ops Q i (fun a' w' => KeepE C1 C2 D i w w' ∧ wpAnyE P md ops Q C1 C2 D f (listed.setIfInBounds i true) a' w') a w
theorem wpAny_of_E {Q : Exit → Act → World → Prop} {C1 C2 : World → Prop} {D : List Nat} : ∀ (f : Nat) (listed : Array Bool) (a : Act) (w : World), wpAnyE P md ops Q C1 C2 D f listed a w → wpAny P md ops Q f listed a w
 | 0, _, _, _, h => h
 | f + 1, _, _, _, h => ⟨h.1, fun i hi => wpOp_mono (fun a' w' h' => wpAny_of_E f _ a' w' h'.2) (h.2 i hi)⟩
theorem wpAnyE_first {C C1 C2 : World → Prop} {i : Nat} {D : List Nat} {oi : Oper} {v : Value} {Q : Exit → Act → World → Prop} (hi : ops[i]? = some oi) (hsel : ∀ (j : Nat) (o : Oper) cs b, ops[j]? = some o → o.op ≠ .select cs b)
  (hQ : ∀ c (a : Act) d v w, Q (.panic c) (a.put d v) w → Q (.panic c) a w)
  (hkeep : ∀ (listed : Array Bool), listed.getD i true = false → HeadInv md ops ops.size listed → ∀ j ∈ Region.ready md ops listed, ∀ w w', KeepE C1 C2 D j w w' → C w → C w') :
  ∀ (f : Nat) (listed : Array Bool) (a : Act) (w : World), HeadInv md ops ops.size listed →
   (∀ j oj, ops[j]? = some oj → j ≠ i → listed.getD j true = false → (∀ e ∈ oj.after, Region.binds md e = true → e.on ≠ i) → oi.apart ops oj = true) →
   i ∈ Region.ready md ops listed → C w → YieldsC P ops C oi v a →
   wpAnyE P md ops Q C1 C2 D f (listed.setIfInBounds i true) (a.put oi.dst v) w → wpAnyE P md ops Q C1 C2 D (f + 1) listed a w := by
 intro f
 induction f with
 | zero =>
  intro listed a w inv _ hr hc hy H
  refine ⟨fun h => (by rw [h] at hr; cases hr), fun j hj => ?_⟩
  by_cases hji : j = i
  ·subst hji; exact hy.wpOp hi hc ⟨KeepE.refl, H⟩
  ·have := ready_mono hj hji
   rw [H.1] at this
   cases this
 | succ f ih =>
  intro listed a w inv hfree hr hc hy H
  have hun := (mem_ready.1 hr).1
  refine ⟨fun h => (by rw [h] at hr; cases hr), fun j hj => ?_⟩
  by_cases hji : j = i
  ·subst hji; exact hy.wpOp hi hc ⟨KeepE.refl, H⟩
  ·have hk := hkeep listed hun inv j hj
   obtain ⟨hjun, oj, hoj, hall⟩ := mem_ready.1 hj
   have hnot : ∀ e ∈ oj.after, Region.binds md e = true → e.on ≠ i := fun e he hb heq => by
    have h1 := hall e he hb
    rw [heq, getD_both hun] at h1
    cases h1
   have hjs : j < ops.size := (Array.getElem?_eq_some_iff.1 hoj).1
   have h2 := wpOp_putX hoj (hfree j oj hoj hji hjun hnot) (fun cs b => hsel i oi cs b hi) (fun cs b => hsel j oj cs b hoj) (fun c a w h => hQ c a _ _ w h) (H.2 j (ready_mono hj hji))
   have hfree' : ∀ k ok, ops[k]? = some ok → k ≠ i → (listed.setIfInBounds j true).getD k true = false →
     (∀ e ∈ ok.after, Region.binds md e = true → e.on ≠ i) → oi.apart ops ok = true := fun k ok hk hki hun hno => by
    refine hfree k ok hk hki ?_ hno
    by_cases hjk : j = k
    ·subst hjk; exact hjun
    ·rw [getD_set_ne true hjk] at hun; exact hun
   refine wpOp_mono (fun a' w' h3 => ⟨h3.2.1, ?_⟩) h2
   refine ih (listed.setIfInBounds j true) a' w' (inv.set hj hjs) hfree' (ready_mono hr (Ne.symm hji)) (hk w w' h3.2.1 hc) (hy.of_same h3.1.1 h3.1.2) ?_
   rw [Array.setIfInBounds_comm _ _ hji]
   exact h3.2.2
inductive Peek where
 | look (k : Nat)
 | peek (k : Nat)
 | go (k : Nat)
 | par (i j : Nat)
 | par3 (i j k : Nat)
def Peek.weight : Peek → Nat
 | .par _ _ => 2
 | .par3 _ _ _ => 3
 | _ => 1
def peeks : List Peek → Nat
 | [] => 0
 | t :: ts => t.weight + peeks ts
@[reducible] def wpTwo (P : Program) (ops : Array Oper) (Q : Exit → Act → World → Prop) (C1 C2 : World → Prop) (D : List Nat) (i j : Nat) (K : Act → World → Prop) (a : Act) (w : World) : Prop :=
 wpOp P ops Q i (fun a' w' => KeepE C1 C2 D i w w' ∧ wpOp P ops Q j (fun a'' w'' => KeepE C1 C2 D j w' w'' ∧ K a'' w'') a' w') a w ∧
 wpOp P ops Q j (fun a' w' => KeepE C1 C2 D j w w' ∧ wpOp P ops Q i (fun a'' w'' => KeepE C1 C2 D i w' w'' ∧ K a'' w'') a' w') a w
def wpPeek (P : Program) (ops : Array Oper) (Q : Exit → Act → World → Prop) (C1 C2 : World → Prop) (D : List Nat) : List Peek → Act → World → Prop
 | [], a, w => Q .normal a w
 | .look k :: r, a, w => match ops[k]? with
  | none => False
  | some o => if Region.wanted o (yielded ops a.tmps) then ∃ v, (∀ W, C1 W → purely P W v ((execOp a.eval o).run P W)) ∧ C1 w ∧ wpPeek P ops Q C1 C2 D r (a.put o.dst v) w else C1 w ∧ wpPeek P ops Q C1 C2 D r (a.put o.dst undef) w
 | .peek k :: r, a, w => match ops[k]? with
  | none => False
  | some o => if Region.wanted o (yielded ops a.tmps) then ∃ v, (∀ W, C2 W → purely P W v ((execOp a.eval o).run P W)) ∧ C2 w ∧ wpPeek P ops Q C1 C2 D r (a.put o.dst v) w else C2 w ∧ wpPeek P ops Q C1 C2 D r (a.put o.dst undef) w
 | .go k :: r, a, w => wpOp P ops Q k (fun a' w' => KeepE C1 C2 D k w w' ∧ wpPeek P ops Q C1 C2 D r a' w') a w
 | .par i j :: r, a, w =>
  wpOp P ops Q i (fun a' w' => KeepE C1 C2 D i w w' ∧ wpOp P ops Q j (fun a'' w'' => KeepE C1 C2 D j w' w'' ∧ wpPeek P ops Q C1 C2 D r a'' w'') a' w') a w ∧
  wpOp P ops Q j (fun a' w' => KeepE C1 C2 D j w w' ∧ wpOp P ops Q i (fun a'' w'' => KeepE C1 C2 D i w' w'' ∧ wpPeek P ops Q C1 C2 D r a'' w'') a' w') a w
 | .par3 i j k :: r, a, w =>
  wpOp P ops Q i (fun a' w' => KeepE C1 C2 D i w w' ∧ wpTwo P ops Q C1 C2 D j k (wpPeek P ops Q C1 C2 D r) a' w') a w ∧
  wpOp P ops Q j (fun a' w' => KeepE C1 C2 D j w w' ∧ wpTwo P ops Q C1 C2 D i k (wpPeek P ops Q C1 C2 D r) a' w') a w ∧
  wpOp P ops Q k (fun a' w' => KeepE C1 C2 D k w w' ∧ wpTwo P ops Q C1 C2 D i j (wpPeek P ops Q C1 C2 D r) a' w') a w
theorem wpPeek_look {Q : Exit → Act → World → Prop} {C1 C2 : World → Prop} {k : Nat} {D : List Nat} {r : List Peek} {a : Act} {w : World} {o : Oper} (ho : ops[k]? = some o) (hc : C1 w)
  (h : ∀ K : Act → Prop, (∀ a, wpPeek P ops Q C1 C2 D r a w → K a) → if Region.wanted o (yielded ops a.tmps) then ∃ v, (∀ s : InC C1, purely P s.w v ((execOp a.eval o).run P s.w)) ∧ K (a.put o.dst v) else K (a.put o.dst undef)) : wpPeek P ops Q C1 C2 D (.look k :: r) a w := by
 have h := h _ (fun _ h => h)
 unfold wpPeek
 simp only [ho]
 split at h
 ·rename_i hw; rw [if_pos hw]; obtain ⟨v, h1, h2⟩ := h; exact ⟨v, fun W hW => h1 ⟨W, hW⟩, hc, h2⟩
 ·rename_i hw; rw [if_neg hw]; exact ⟨hc, h⟩
theorem wpPeek_peek {Q : Exit → Act → World → Prop} {C1 C2 : World → Prop} {k : Nat} {D : List Nat} {r : List Peek} {a : Act} {w : World} {o : Oper} (ho : ops[k]? = some o) (hc : C2 w)
  (h : ∀ K : Act → Prop, (∀ a, wpPeek P ops Q C1 C2 D r a w → K a) → if Region.wanted o (yielded ops a.tmps) then ∃ v, (∀ s : InC C2, purely P s.w v ((execOp a.eval o).run P s.w)) ∧ K (a.put o.dst v) else K (a.put o.dst undef)) : wpPeek P ops Q C1 C2 D (.peek k :: r) a w := by
 have h := h _ (fun _ h => h)
 unfold wpPeek
 simp only [ho]
 split at h
 ·rename_i hw; rw [if_pos hw]; obtain ⟨v, h1, h2⟩ := h; exact ⟨v, fun W hW => h1 ⟨W, hW⟩, hc, h2⟩
 ·rename_i hw; rw [if_neg hw]; exact ⟨hc, h⟩
theorem wpOp_of_list {Q : Exit → Act → World → Prop} {k : Nat} {a : Act} {w : World} {o : Oper} {K0 : Act → World → Prop} (ho : ops[k]? = some o) (hg : Region.wanted o (yielded ops a.tmps) = true)
  (h : ∀ K : Act → World → Prop, (∀ a' w', K0 a' w' → K a' w') → wpList P ops (Exit.then K Q) [o] a w) : wpOp P ops Q k K0 a w := by
 unfold wpOp
 have h := h _ fun _ _ h => h
 unfold wpList at h
 simp only [hg, if_true] at h
 simp only [ho, hg, if_true]
 rcases h with h | ⟨h1, a', w', h2⟩
 ·refine .inl ?_
  unfold Oper.wp at *
  generalize (execOp a.eval o).run P w = x at *
  cases x with
  | ok n w' =>
   cases n <;> simp only [Oper.upon] at h ⊢ <;> first | exact h | (refine h.mono fun e w'' he => ?_; cases e <;> exact he) | (refine Rows.mono h fun u w'' he => ?_; exact he)
  | halt x w' => cases x <;> simp only [Oper.upon] at h ⊢ <;> exact h
 ·exact .inr ⟨h1, a', w', h2⟩
theorem wpPeek_go {Q : Exit → Act → World → Prop} {C1 C2 : World → Prop} {k : Nat} {D : List Nat} {r : List Peek} {a : Act} {w : World} {o : Oper} (ho : ops[k]? = some o) (hg : Region.wanted o (yielded ops a.tmps) = true)
  (h : ∀ K : Act → World → Prop, (∀ a' w', KeepE C1 C2 D k w w' ∧ wpPeek P ops Q C1 C2 D r a' w' → K a' w') → wpList P ops (Exit.then K Q) [o] a w) : wpPeek P ops Q C1 C2 D (.go k :: r) a w := by
 unfold wpPeek; exact wpOp_of_list ho hg h
theorem wpPeek_nil {Q : Exit → Act → World → Prop} {C1 C2 : World → Prop} {D : List Nat} {a : Act} {w : World} (h : Q .normal a w) : wpPeek P ops Q C1 C2 D [] a w := h
def Region.twoB (md : Region.Mode) (ops : Array Oper) (i j : Nat) (listed : Array Bool) : Bool :=
 decide (Region.ready md ops listed = [i, j]) && decide (i < ops.size) && decide (j < ops.size) && decide (i ≠ j) && decide (Region.ready md ops (listed.setIfInBounds i true) = [j]) && decide (Region.ready md ops (listed.setIfInBounds j true) = [i])
def Region.peekB (md : Region.Mode) (ops : Array Oper) (D : List Nat) : List Peek → Array Bool → Bool
 | [], listed => (Region.ready md ops listed).isEmpty
 | .look i :: r, listed => (Region.ready md ops listed).contains i && Region.free md ops listed i && decide (i < ops.size) && (D.all fun d => d != i && Region.reachB md ops i ops.size d) && Region.peekB md ops D r (listed.setIfInBounds i true)
 | .peek i :: r, listed => (Region.ready md ops listed).contains i && Region.free md ops listed i && decide (i < ops.size) && Region.peekB md ops D r (listed.setIfInBounds i true)
 | .go k :: r, listed => decide (Region.ready md ops listed = [k]) && decide (k < ops.size) && Region.peekB md ops D r (listed.setIfInBounds k true)
 | .par i j :: r, listed => decide (Region.ready md ops listed = [i, j]) && decide (i < ops.size) && decide (j < ops.size) && decide (i ≠ j) && decide (Region.ready md ops (listed.setIfInBounds i true) = [j]) && decide (Region.ready md ops (listed.setIfInBounds j true) = [i])
   && Region.peekB md ops D r ((listed.setIfInBounds i true).setIfInBounds j true)
 | .par3 i j k :: r, listed => decide (Region.ready md ops listed = [i, j, k]) && decide (i < ops.size) && decide (j < ops.size) && decide (k < ops.size) && decide (i ≠ j) && decide (i ≠ k) && decide (j ≠ k)
   && Region.twoB md ops j k (listed.setIfInBounds i true) && Region.twoB md ops i k (listed.setIfInBounds j true) && Region.twoB md ops i j (listed.setIfInBounds k true)
   && Region.peekB md ops D r (((listed.setIfInBounds i true).setIfInBounds j true).setIfInBounds k true)
theorem wpAnyE_one {Q : Exit → Act → World → Prop} {C1 C2 : World → Prop} {D : List Nat} {k f : Nat} {listed : Array Bool} {a : Act} {w : World} (hr : Region.ready md ops listed = [k])
  (h : wpOp P ops Q k (fun a' w' => KeepE C1 C2 D k w w' ∧ wpAnyE P md ops Q C1 C2 D f (listed.setIfInBounds k true) a' w') a w) : wpAnyE P md ops Q C1 C2 D (f + 1) listed a w := by
 refine ⟨fun h0 => (by rw [hr] at h0; cases h0), fun i hi => ?_⟩
 rw [hr] at hi
 obtain rfl : i = k := by simpa using hi
 exact h
theorem wpAnyE_two {Q : Exit → Act → World → Prop} {C1 C2 : World → Prop} {D : List Nat} {i j f : Nat} {listed : Array Bool} {a : Act} {w : World} {K : Act → World → Prop} (hB : Region.twoB md ops i j listed = true)
  (hK : ∀ a w, HeadInv md ops ops.size ((listed.setIfInBounds i true).setIfInBounds j true) → K a w → wpAnyE P md ops Q C1 C2 D f ((listed.setIfInBounds i true).setIfInBounds j true) a w) (inv : HeadInv md ops ops.size listed)
  (h : wpTwo P ops Q C1 C2 D i j K a w) : wpAnyE P md ops Q C1 C2 D (f + 2) listed a w := by
 simp only [Region.twoB, Bool.and_eq_true, decide_eq_true_eq] at hB
 obtain ⟨⟨⟨⟨⟨h1, h2⟩, h3⟩, h4⟩, h5⟩, h6⟩ := hB
 have hi : i ∈ Region.ready md ops listed := by rw [h1]; simp
 have inv2 := (inv.set hi h2).set (i := j) (by rw [h5]; simp) h3
 refine ⟨fun h0 => (by rw [h1] at h0; cases h0), fun k hk => ?_⟩
 rw [h1] at hk
 simp only [List.mem_cons, List.not_mem_nil, or_false] at hk
 rcases hk with rfl | rfl
 ·exact wpOp_mono (fun a' w' h' => ⟨h'.1, wpAnyE_one h5 (wpOp_mono (fun a'' w'' h'' => ⟨h''.1, hK a'' w'' inv2 h''.2⟩) h'.2)⟩) h.1
 ·refine wpOp_mono (fun a' w' h' => ⟨h'.1, wpAnyE_one h6 (wpOp_mono (fun a'' w'' h'' => ⟨h''.1, ?_⟩) h'.2)⟩) h.2
  rw [Array.setIfInBounds_comm _ _ (Ne.symm h4)]
  exact hK a'' w'' inv2 h''.2
theorem wpAnyE_peek {Q : Exit → Act → World → Prop} {C1 C2 : World → Prop} {D : List Nat} (hsel : Region.noSelect ops = true) (hQ : ∀ c (a : Act) d v w, Q (.panic c) (a.put d v) w → Q (.panic c) a w) :
  ∀ (ts : List Peek) (listed : Array Bool) (a : Act) (w : World), HeadInv md ops ops.size listed → Region.peekB md ops D ts listed = true → wpPeek P ops Q C1 C2 D ts a w → wpAnyE P md ops Q C1 C2 D (peeks ts) listed a w
 | [], listed, a, w, inv, hB, h => ⟨by simpa [Region.peekB] using hB, h⟩
 | .go k :: ts, listed, a, w, inv, hB, h => by
  simp only [Region.peekB, Bool.and_eq_true, decide_eq_true_eq] at hB
  show wpAnyE P md ops Q C1 C2 D (1 + peeks ts) listed a w
  rw [Nat.add_comm]
  exact wpAnyE_one hB.1.1 (wpOp_mono (fun a' w' h' => ⟨h'.1, wpAnyE_peek hsel hQ ts _ a' w' (inv.set (by rw [hB.1.1]; simp) hB.1.2) hB.2 h'.2⟩) h)
 | .par i j :: ts, listed, a, w, inv, hB, h => by
  simp only [Region.peekB, Bool.and_eq_true, decide_eq_true_eq] at hB
  obtain ⟨⟨⟨⟨⟨⟨h1, h2⟩, h3⟩, h4⟩, h5⟩, h6⟩, h7⟩ := hB
  show wpAnyE P md ops Q C1 C2 D (2 + peeks ts) listed a w
  rw [Nat.add_comm]
  have hi : i ∈ Region.ready md ops listed := by rw [h1]; simp
  have hj : j ∈ Region.ready md ops listed := by rw [h1]; simp
  have inv2 := (inv.set hi h2).set (i := j) (by rw [h5]; simp) h3
  refine ⟨fun h0 => (by rw [h1] at h0; cases h0), fun k hk => ?_⟩
  rw [h1] at hk
  simp only [List.mem_cons, List.not_mem_nil, or_false] at hk
  rcases hk with rfl | rfl
  ·exact wpOp_mono (fun a' w' h' => ⟨h'.1, wpAnyE_one h5 (wpOp_mono (fun a'' w'' h'' => ⟨h''.1, wpAnyE_peek hsel hQ ts _ a'' w'' inv2 h7 h''.2⟩) h'.2)⟩) h.1
  ·refine wpOp_mono (fun a' w' h' => ⟨h'.1, wpAnyE_one h6 (wpOp_mono (fun a'' w'' h'' => ⟨h''.1, ?_⟩) h'.2)⟩) h.2
   rw [Array.setIfInBounds_comm _ _ (Ne.symm h4)]
   exact wpAnyE_peek hsel hQ ts _ a'' w'' inv2 h7 h''.2
 | .par3 i j k :: ts, listed, a, w, inv, hB, h => by
  simp only [Region.peekB, Bool.and_eq_true, decide_eq_true_eq] at hB
  obtain ⟨⟨⟨⟨⟨⟨⟨⟨⟨⟨h1, hi⟩, hj⟩, hk⟩, hij⟩, hik⟩, hjk⟩, t1⟩, t2⟩, t3⟩, hB'⟩ := hB
  show wpAnyE P md ops Q C1 C2 D (3 + peeks ts) listed a w
  rw [Nat.add_comm]
  refine ⟨fun h0 => (by rw [h1] at h0; cases h0), fun m hm => ?_⟩
  have hm0 := hm
  rw [h1] at hm
  simp only [List.mem_cons, List.not_mem_nil, or_false] at hm
  rcases hm with rfl | rfl | rfl
  ·exact wpOp_mono (fun a' w' h' => ⟨h'.1, wpAnyE_two t1 (fun a'' w'' inv' h'' => wpAnyE_peek hsel hQ ts _ a'' w'' inv' hB' h'') (inv.set hm0 hi) h'.2⟩) h.1
  ·have he : ((listed.setIfInBounds m true).setIfInBounds i true).setIfInBounds k true = ((listed.setIfInBounds i true).setIfInBounds m true).setIfInBounds k true := by rw [Array.setIfInBounds_comm _ _ (Ne.symm hij)]
   rw [← he] at hB'
   exact wpOp_mono (fun a' w' h' => ⟨h'.1, wpAnyE_two t2 (fun a'' w'' inv' h'' => wpAnyE_peek hsel hQ ts _ a'' w'' inv' hB' h'') (inv.set hm0 hj) h'.2⟩) h.2.1
  ·have he : ((listed.setIfInBounds m true).setIfInBounds i true).setIfInBounds j true = ((listed.setIfInBounds i true).setIfInBounds j true).setIfInBounds m true := by rw [Array.setIfInBounds_comm _ _ (Ne.symm hik), Array.setIfInBounds_comm _ _ (Ne.symm hjk)]
   rw [← he] at hB'
   exact wpOp_mono (fun a' w' h' => ⟨h'.1, wpAnyE_two t3 (fun a'' w'' inv' h'' => wpAnyE_peek hsel hQ ts _ a'' w'' inv' hB' h'') (inv.set hm0 hk) h'.2⟩) h.2.2
 | .look i :: ts, listed, a, w, inv, hB, h => by
  simp only [Region.peekB, Bool.and_eq_true, decide_eq_true_eq, List.all_eq_true] at hB
  obtain ⟨⟨⟨⟨hr, hf⟩, hin⟩, hD⟩, hB'⟩ := hB
  have hr' : i ∈ Region.ready md ops listed := by simpa using hr
  have hi0 : ops[i]? = some ops[i] := Array.getElem?_eq_getElem hin
  unfold wpPeek at h
  simp only [hi0] at h
  have hex : ∃ v, YieldsC P ops C1 ops[i] v a ∧ C1 w ∧ wpPeek P ops Q C1 C2 D ts (a.put ops[i].dst v) w := by
   by_cases hw : Region.wanted ops[i] (yielded ops a.tmps) = true
   ·rw [if_pos hw] at h
    obtain ⟨v, h1, h2⟩ := h
    exact ⟨v, .inl ⟨hw, h1⟩, h2⟩
   ·rw [if_neg hw] at h
    exact ⟨undef, .inr ⟨by simpa using hw, rfl⟩, h⟩
  obtain ⟨v, hy, hc, hK⟩ := hex
  show wpAnyE P md ops Q C1 C2 D (1 + peeks ts) listed a w
  rw [Nat.add_comm]
  refine wpAnyE_first (C := C1) hi0 (Region.noSelect_spec hsel) hQ (fun listed' hun inv' j hj w w' hk => ?_) _ listed a w inv (Region.free_spec hi0 hf) hr' hc hy (wpAnyE_peek hsel hQ ts _ _ w (inv.set hr' hin) hB' hK)
  refine hk.1.resolve_left fun hjD => ?_
  have := hD j hjD
  exact reach_waits inv' hun (by have := this.1; simpa using this) this.2 hj
 | .peek i :: ts, listed, a, w, inv, hB, h => by
  simp only [Region.peekB, Bool.and_eq_true, decide_eq_true_eq] at hB
  obtain ⟨⟨⟨hr, hf⟩, hin⟩, hB'⟩ := hB
  have hr' : i ∈ Region.ready md ops listed := by simpa using hr
  have hi0 : ops[i]? = some ops[i] := Array.getElem?_eq_getElem hin
  unfold wpPeek at h
  simp only [hi0] at h
  have hex : ∃ v, YieldsC P ops C2 ops[i] v a ∧ C2 w ∧ wpPeek P ops Q C1 C2 D ts (a.put ops[i].dst v) w := by
   by_cases hw : Region.wanted ops[i] (yielded ops a.tmps) = true
   ·rw [if_pos hw] at h
    obtain ⟨v, h1, h2⟩ := h
    exact ⟨v, .inl ⟨hw, h1⟩, h2⟩
   ·rw [if_neg hw] at h
    exact ⟨undef, .inr ⟨by simpa using hw, rfl⟩, h⟩
  obtain ⟨v, hy, hc, hK⟩ := hex
  show wpAnyE P md ops Q C1 C2 D (1 + peeks ts) listed a w
  rw [Nat.add_comm]
  exact wpAnyE_first (C := C2) hi0 (Region.noSelect_spec hsel) hQ (fun listed' hun inv' j hj w w' hk => hk.2) _ listed a w inv (Region.free_spec hi0 hf) hr' hc hy (wpAnyE_peek hsel hQ ts _ _ w (inv.set hr' hin) hB' hK)
theorem wpAny_peek {Q : Exit → Act → World → Prop} {a : Act} {w : World} (C1 C2 : World → Prop) (D : List Nat) (ts : List Peek)
  (hB : (Region.noSelect ops && decide (peeks ts = ops.size) && Region.peekB .any ops D ts (Array.replicate ops.size false)) = true)
  (hQ : ∀ c (a : Act) d v w, Q (.panic c) (a.put d v) w → Q (.panic c) a w) (h : wpPeek P ops Q C1 C2 D ts a w) :
  wpAny P .any ops Q ops.size (Array.replicate ops.size false) a w := by
 simp only [Bool.and_eq_true, decide_eq_true_eq] at hB
 obtain ⟨⟨hsel, hl⟩, ho⟩ := hB
 have inv0 : HeadInv .any ops ops.size (Array.replicate ops.size false) :=
  ⟨by simp, fun j oj _ hl => (by rw [getD_replicate_false] at hl; cases hl), fun t ht1 ht2 => by omega⟩
 have := wpAnyE_peek (P := P) hsel hQ ts _ a w inv0 ho h
 rw [hl] at this
 exact wpAny_of_E _ _ _ _ this
theorem wp_region_peek {id : Nat} {Q : Exit → Act → World → Prop} {a : Act} {w : World} (C1 C2 : World → Prop) (D : List Nat) (ts : List Peek) (hm : P.follows .mixedOrders = true)
  (hB : (Region.noSelect ops && decide (peeks ts = ops.size) && Region.peekB .any ops D ts (Array.replicate ops.size false)) = true)
  (hQ : ∀ c (a : Act) d v w, Q (.panic c) (a.put d v) w → Q (.panic c) a w) (h : wpPeek P ops Q C1 C2 D ts a { w with drawn := w.drawn + 1 }) :
  (Code.region id ops true).wp P Q a w :=
 wp_region_any hm (wpAny_peek C1 C2 D ts hB hQ h)
end
end Go.Proofs.YtpmlcfgbfhgpgaaGreatDoor
