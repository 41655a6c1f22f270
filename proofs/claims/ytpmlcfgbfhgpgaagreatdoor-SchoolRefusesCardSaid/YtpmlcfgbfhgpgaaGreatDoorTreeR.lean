/- Regions that draw their order: a tree of turns, each of which keeps the worlds in a relation (but for those of D, which wait for all looks). A look reads what stays in every world that follows. Over any program. -/
import Derived.Test.YtpmlcfgbfhgpgaaGreatDoorTree
namespace Go.Proofs.YtpmlcfgbfhgpgaaGreatDoor
open Go.RowKit
set_option linter.unusedVariables false
section
variable {P : Program} {ops : Array Oper} {md : Region.Mode}
def KeepR (R : World → World → Prop) (D : List Nat) (i : Nat) (w w' : World) : Prop := i ∈ D ∨ R w w'
def wpAnyR (P : Program) (md : Region.Mode) (ops : Array Oper) (Q : Exit → Act → World → Prop) (R : World → World → Prop) (D : List Nat) : Nat → Array Bool → Act → World → Prop
 | 0, listed, a, w => Region.ready md ops listed = [] ∧ Q .normal a w
 | f + 1, listed, a, w => (Region.ready md ops listed = [] → Q .normal a w) ∧
   ∀ i ∈ Region.ready md ops listed, wpOp P ops Q i (fun a' w' => KeepR R D i w w' ∧ wpAnyR P md ops Q R D f (listed.setIfInBounds i true) a' w') a w
theorem wpAny_of_R {Q : Exit → Act → World → Prop} {R : World → World → Prop} {D : List Nat} : ∀ (f : Nat) (listed : Array Bool) (a : Act) (w : World), wpAnyR P md ops Q R D f listed a w → wpAny P md ops Q f listed a w
 | 0, _, _, _, h => h
 | f + 1, _, _, _, h => ⟨h.1, fun i hi => wpOp_mono (fun a' w' h' => wpAny_of_R f _ a' w' h'.2) (h.2 i hi)⟩
theorem wpAnyR_first {C : World → Prop} {R : World → World → Prop} (hRr : ∀ w, R w w) {i : Nat} {D : List Nat} {oi : Oper} {v : Value} {Q : Exit → Act → World → Prop} (hi : ops[i]? = some oi) (hsel : ∀ (j : Nat) (o : Oper) cs b, ops[j]? = some o → o.op ≠ .select cs b)
  (hQ : ∀ c (a : Act) d v w, Q (.panic c) (a.put d v) w → Q (.panic c) a w)
  (hkeep : ∀ (listed : Array Bool), listed.getD i true = false → HeadInv md ops ops.size listed → ∀ j ∈ Region.ready md ops listed, ∀ w w', KeepR R D j w w' → C w → C w') :
  ∀ (f : Nat) (listed : Array Bool) (a : Act) (w : World), HeadInv md ops ops.size listed →
   (∀ j oj, ops[j]? = some oj → j ≠ i → listed.getD j true = false → (∀ e ∈ oj.after, Region.binds md e = true → e.on ≠ i) → oi.apart ops oj = true) →
   i ∈ Region.ready md ops listed → C w → YieldsC P ops C oi v a →
   wpAnyR P md ops Q R D f (listed.setIfInBounds i true) (a.put oi.dst v) w → wpAnyR P md ops Q R D (f + 1) listed a w := by
 intro f
 induction f with
 | zero =>
  intro listed a w inv _ hr hc hy H
  refine ⟨fun h => (by rw [h] at hr; cases hr), fun j hj => ?_⟩
  by_cases hji : j = i
  ·subst hji; exact hy.wpOp hi hc ⟨.inr (hRr _), H⟩
  ·have := ready_mono hj hji
   rw [H.1] at this
   cases this
 | succ f ih =>
  intro listed a w inv hfree hr hc hy H
  have hun := (mem_ready.1 hr).1
  refine ⟨fun h => (by rw [h] at hr; cases hr), fun j hj => ?_⟩
  by_cases hji : j = i
  ·subst hji; exact hy.wpOp hi hc ⟨.inr (hRr _), H⟩
  ·have hk := hkeep listed hun inv j hj
   obtain ⟨hjun, oj, hoj, hall⟩ := mem_ready.1 hj
   have hnot : ∀ e ∈ oj.after, Region.binds md e = true → e.on ≠ i := fun e he hb heq => by
    have h1 := hall e he hb
    rw [heq, getD_both hun] at h1
    cases h1
   have hjs : j < ops.size := (Array.getElem?_eq_some_iff.1 hoj).1
   have h2 := wpOp_putX hoj (hfree j oj hoj hji hjun hnot) (fun cs b => hsel i oi cs b hi) (fun cs b => hsel j oj cs b hoj) (fun c a w h => hQ c a _ _ w h) (H.2 j (ready_mono hj hji))
   have hfree' : ∀ k ok, ops[k]? = some ok → k ≠ i → (listed.setIfInBounds j true).getD k true = false →
     (∀ e ∈ ok.after, Region.binds md e = true → e.on ≠ i) → oi.apart ops ok = true := fun k ok hk hki hun hno => by
    refine hfree k ok hk hki ?_ hno
    by_cases hjk : j = k
    ·subst hjk; exact hjun
    ·rw [getD_set_ne true hjk] at hun; exact hun
   refine wpOp_mono (fun a' w' h3 => ⟨h3.2.1, ?_⟩) h2
   refine ih (listed.setIfInBounds j true) a' w' (inv.set hj hjs) hfree' (ready_mono hr (Ne.symm hji)) (hk w w' h3.2.1 hc) (hy.of_same h3.1.1 h3.1.2) ?_
   rw [Array.setIfInBounds_comm _ _ hji]
   exact h3.2.2
def wpTreeR (P : Program) (ops : Array Oper) (Q : Exit → Act → World → Prop) (R : World → World → Prop) (D : List Nat) : Tree → Act → World → Prop
 | .done, a, w => Q .normal a w
 | .look k t, a, w => match ops[k]? with
  | none => False
  | some o => if Region.wanted o (yielded ops a.tmps) then ∃ v, (∀ W, R w W → purely P W v ((execOp a.eval o).run P W)) ∧ wpTreeR P ops Q R D t (a.put o.dst v) w else wpTreeR P ops Q R D t (a.put o.dst undef) w
 | .one k t, a, w => wpOp P ops Q k (fun a' w' => KeepR R D k w w' ∧ wpTreeR P ops Q R D t a' w') a w
 | .two i t j s, a, w => wpOp P ops Q i (fun a' w' => KeepR R D i w w' ∧ wpTreeR P ops Q R D t a' w') a w ∧ wpOp P ops Q j (fun a' w' => KeepR R D j w w' ∧ wpTreeR P ops Q R D s a' w') a w
def Region.treeRB (md : Region.Mode) (ops : Array Oper) (D : List Nat) : Tree → Array Bool → Bool
 | .done, listed => (Region.ready md ops listed).isEmpty
 | .look i t, listed => (Region.ready md ops listed).contains i && Region.free md ops listed i && decide (i < ops.size) && (D.all fun d => d != i && Region.reachB md ops i ops.size d) && Region.treeRB md ops D t (listed.setIfInBounds i true)
 | .one k t, listed => decide (Region.ready md ops listed = [k]) && decide (k < ops.size) && Region.treeRB md ops D t (listed.setIfInBounds k true)
 | .two i t j s, listed => decide (Region.ready md ops listed = [i, j]) && decide (i < ops.size) && decide (j < ops.size) && decide (t.turns = s.turns) && Region.treeRB md ops D t (listed.setIfInBounds i true) && Region.treeRB md ops D s (listed.setIfInBounds j true)
theorem wpTreeR_look {Q : Exit → Act → World → Prop} {R : World → World → Prop} {D : List Nat} {k : Nat} {t : Tree} {a : Act} {w : World} {o : Oper} (ho : ops[k]? = some o)
  (h : ∀ K : Act → Prop, (∀ a, wpTreeR P ops Q R D t a w → K a) → if Region.wanted o (yielded ops a.tmps) then ∃ v, (∀ s : InC (R w), purely P s.w v ((execOp a.eval o).run P s.w)) ∧ K (a.put o.dst v) else K (a.put o.dst undef)) : wpTreeR P ops Q R D (.look k t) a w := by
 have h := h _ (fun _ h => h)
 unfold wpTreeR
 simp only [ho]
 split at h
 ·rename_i hw; rw [if_pos hw]; obtain ⟨v, h1, h2⟩ := h; exact ⟨v, fun W hW => h1 ⟨W, hW⟩, h2⟩
 ·rename_i hw; rw [if_neg hw]; exact h
theorem wpTreeR_one {Q : Exit → Act → World → Prop} {R : World → World → Prop} {D : List Nat} {k : Nat} {t : Tree} {a : Act} {w : World} {o : Oper} (ho : ops[k]? = some o) (hg : Region.wanted o (yielded ops a.tmps) = true)
  (h : ∀ K : Act → World → Prop, (∀ a' w', KeepR R D k w w' ∧ wpTreeR P ops Q R D t a' w' → K a' w') → wpList P ops (Exit.then K Q) [o] a w) : wpTreeR P ops Q R D (.one k t) a w := by
 unfold wpTreeR; exact wpOp_of_list ho hg h
theorem wpTreeR_two {Q : Exit → Act → World → Prop} {R : World → World → Prop} {D : List Nat} {i j : Nat} {t s : Tree} {a : Act} {w : World} {o p : Oper} (ho : ops[i]? = some o) (hp : ops[j]? = some p) (hg : Region.wanted o (yielded ops a.tmps) = true) (hg2 : Region.wanted p (yielded ops a.tmps) = true)
  (h : ∀ K : Act → World → Prop, (∀ a' w', KeepR R D i w w' ∧ wpTreeR P ops Q R D t a' w' → K a' w') → wpList P ops (Exit.then K Q) [o] a w)
  (h2 : ∀ K : Act → World → Prop, (∀ a' w', KeepR R D j w w' ∧ wpTreeR P ops Q R D s a' w' → K a' w') → wpList P ops (Exit.then K Q) [p] a w) : wpTreeR P ops Q R D (.two i t j s) a w := by
 unfold wpTreeR; exact ⟨wpOp_of_list ho hg h, wpOp_of_list hp hg2 h2⟩
theorem wpTreeR_done {Q : Exit → Act → World → Prop} {R : World → World → Prop} {D : List Nat} {a : Act} {w : World} (h : Q .normal a w) : wpTreeR P ops Q R D .done a w := h
theorem wpAnyR_tree {Q : Exit → Act → World → Prop} {R : World → World → Prop} {D : List Nat} (hRr : ∀ w, R w w) (hRt : ∀ a b c, R a b → R b c → R a c) (hsel : Region.noSelect ops = true) (hQ : ∀ c (a : Act) d v w, Q (.panic c) (a.put d v) w → Q (.panic c) a w) :
  ∀ (t : Tree) (listed : Array Bool) (a : Act) (w : World), HeadInv md ops ops.size listed → Region.treeRB md ops D t listed = true → wpTreeR P ops Q R D t a w → wpAnyR P md ops Q R D t.turns listed a w
 | .done, listed, a, w, inv, hB, h => ⟨by simpa [Region.treeRB] using hB, h⟩
 | .one k t, listed, a, w, inv, hB, h => by
  simp only [Region.treeRB, Bool.and_eq_true, decide_eq_true_eq] at hB
  refine ⟨fun h0 => (by rw [hB.1.1] at h0; cases h0), fun i hi => ?_⟩
  rw [hB.1.1] at hi
  obtain rfl : i = k := by simpa using hi
  exact wpOp_mono (fun a' w' h' => ⟨h'.1, wpAnyR_tree hRr hRt hsel hQ t _ a' w' (inv.set (by rw [hB.1.1]; simp) hB.1.2) hB.2 h'.2⟩) h
 | .two i t j s, listed, a, w, inv, hB, h => by
  simp only [Region.treeRB, Bool.and_eq_true, decide_eq_true_eq] at hB
  obtain ⟨⟨⟨⟨⟨h1, h2⟩, h3⟩, h4⟩, h5⟩, h6⟩ := hB
  have hi : i ∈ Region.ready md ops listed := by rw [h1]; simp
  have hj : j ∈ Region.ready md ops listed := by rw [h1]; simp
  refine ⟨fun h0 => (by rw [h1] at h0; cases h0), fun k hk => ?_⟩
  rw [h1] at hk
  simp only [List.mem_cons, List.not_mem_nil, or_false] at hk
  rcases hk with rfl | rfl
  ·exact wpOp_mono (fun a' w' h' => ⟨h'.1, wpAnyR_tree hRr hRt hsel hQ t _ a' w' (inv.set hi h2) h5 h'.2⟩) h.1
  ·exact wpOp_mono (fun a' w' h' => ⟨h'.1, by rw [h4]; exact wpAnyR_tree hRr hRt hsel hQ s _ a' w' (inv.set hj h3) h6 h'.2⟩) h.2
 | .look i t, listed, a, w, inv, hB, h => by
  simp only [Region.treeRB, Bool.and_eq_true, decide_eq_true_eq, List.all_eq_true] at hB
  obtain ⟨⟨⟨⟨hr, hf⟩, hin⟩, hD⟩, hB'⟩ := hB
  have hr' : i ∈ Region.ready md ops listed := by simpa using hr
  have hi0 : ops[i]? = some ops[i] := Array.getElem?_eq_getElem hin
  unfold wpTreeR at h
  simp only [hi0] at h
  have hex : ∃ v, YieldsC P ops (R w) ops[i] v a ∧ wpTreeR P ops Q R D t (a.put ops[i].dst v) w := by
   by_cases hw : Region.wanted ops[i] (yielded ops a.tmps) = true
   ·rw [if_pos hw] at h
    obtain ⟨v, h1, h2⟩ := h
    exact ⟨v, .inl ⟨hw, h1⟩, h2⟩
   ·rw [if_neg hw] at h
    exact ⟨undef, .inr ⟨by simpa using hw, rfl⟩, h⟩
  obtain ⟨v, hy, hK⟩ := hex
  refine wpAnyR_first (C := R w) hRr hi0 (Region.noSelect_spec hsel) hQ (fun listed' hun inv' j hj w1 w' hk hc => ?_) _ listed a w inv (Region.free_spec hi0 hf) hr' (hRr w) hy (wpAnyR_tree hRr hRt hsel hQ t _ _ w (inv.set hr' hin) hB' hK)
  refine hRt _ _ _ hc (hk.resolve_left fun hjD => ?_)
  have := hD j hjD
  exact reach_waits inv' hun (by have := this.1; simpa using this) this.2 hj
theorem wp_region_treeR {id : Nat} {Q : Exit → Act → World → Prop} {a : Act} {w : World} (R : World → World → Prop) (D : List Nat) (t : Tree) (hRr : ∀ w, R w w) (hRt : ∀ a b c, R a b → R b c → R a c) (hm : P.follows .mixedOrders = true)
  (hB : (Region.noSelect ops && decide (t.turns = ops.size) && Region.treeRB .any ops D t (Array.replicate ops.size false)) = true)
  (hQ : ∀ c (a : Act) d v w, Q (.panic c) (a.put d v) w → Q (.panic c) a w) (h : wpTreeR P ops Q R D t a { w with drawn := w.drawn + 1 }) :
  (Code.region id ops true).wp P Q a w := by
 simp only [Bool.and_eq_true, decide_eq_true_eq] at hB
 obtain ⟨⟨hsel, hl⟩, ho⟩ := hB
 have inv0 : HeadInv .any ops ops.size (Array.replicate ops.size false) :=
  ⟨by simp, fun j oj _ hl => (by rw [getD_replicate_false] at hl; cases hl), fun t ht1 ht2 => by omega⟩
 have h2 := wpAnyR_tree (P := P) hRr hRt hsel hQ t _ a { w with drawn := w.drawn + 1 } inv0 ho h
 rw [hl] at h2
 exact wp_region_any hm (wpAny_of_R _ _ _ _ h2)
end
end Go.Proofs.YtpmlcfgbfhgpgaaGreatDoor
