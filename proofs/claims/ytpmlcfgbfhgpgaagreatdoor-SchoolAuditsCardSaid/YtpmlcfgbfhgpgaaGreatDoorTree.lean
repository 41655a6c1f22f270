/- Regions that draw their order: a tree of turns: look (reads, in every world of a class), one (alone ready), two (two that are ready together, each with its own way on). Over any program. -/
import Derived.Test.YtpmlcfgbfhgpgaaGreatDoorPeek
namespace Go.Proofs.YtpmlcfgbfhgpgaaGreatDoor
open Go.RowKit
set_option linter.unusedVariables false
inductive Tree where
  | done
  | look (k : Nat) (t : Tree)
  | one (k : Nat) (t : Tree)
  | two (i : Nat) (t : Tree) (j : Nat) (s : Tree)
def Tree.turns : Tree → Nat
  | .done => 0
  | .look _ t => t.turns + 1
  | .one _ t => t.turns + 1
  | .two _ t _ _ => t.turns + 1
section
variable {P : Program} {ops : Array Oper} {md : Region.Mode}
def wpTree (P : Program) (ops : Array Oper) (Q : Exit → Act → World → Prop) (C : World → Prop) : Tree → Act → World → Prop
  | .done, a, w => Q .normal a w
  | .look k t, a, w => match ops[k]? with
    | none => False
    | some o => if Region.wanted o (yielded ops a.tmps) then ∃ v, (∀ W, C W → purely P W v ((execOp a.eval o).run P W)) ∧ C w ∧ wpTree P ops Q C t (a.put o.dst v) w else C w ∧ wpTree P ops Q C t (a.put o.dst undef) w
  | .one k t, a, w => wpOp P ops Q k (fun a' w' => (C w → C w') ∧ wpTree P ops Q C t a' w') a w
  | .two i t j s, a, w => wpOp P ops Q i (fun a' w' => (C w → C w') ∧ wpTree P ops Q C t a' w') a w ∧ wpOp P ops Q j (fun a' w' => (C w → C w') ∧ wpTree P ops Q C s a' w') a w
def Region.treeB (md : Region.Mode) (ops : Array Oper) : Tree → Array Bool → Bool
  | .done, listed => (Region.ready md ops listed).isEmpty
  | .look i t, listed => (Region.ready md ops listed).contains i && Region.free md ops listed i && decide (i < ops.size) && Region.treeB md ops t (listed.setIfInBounds i true)
  | .one k t, listed => decide (Region.ready md ops listed = [k]) && decide (k < ops.size) && Region.treeB md ops t (listed.setIfInBounds k true)
  | .two i t j s, listed => decide (Region.ready md ops listed = [i, j]) && decide (i < ops.size) && decide (j < ops.size) && decide (t.turns = s.turns) && Region.treeB md ops t (listed.setIfInBounds i true) && Region.treeB md ops s (listed.setIfInBounds j true)
theorem wpTree_look {Q : Exit → Act → World → Prop} {C : World → Prop} {k : Nat} {t : Tree} {a : Act} {w : World} {o : Oper} (ho : ops[k]? = some o) (hc : C w)
    (h : ∀ K : Act → Prop, (∀ a, wpTree P ops Q C t a w → K a) → if Region.wanted o (yielded ops a.tmps) then ∃ v, (∀ s : InC C, purely P s.w v ((execOp a.eval o).run P s.w)) ∧ K (a.put o.dst v) else K (a.put o.dst undef)) : wpTree P ops Q C (.look k t) a w := by
  have h := h _ (fun _ h => h)
  unfold wpTree
  simp only [ho]
  split at h
  · rename_i hw; rw [if_pos hw]; obtain ⟨v, h1, h2⟩ := h; exact ⟨v, fun W hW => h1 ⟨W, hW⟩, hc, h2⟩
  · rename_i hw; rw [if_neg hw]; exact ⟨hc, h⟩
theorem wpTree_one {Q : Exit → Act → World → Prop} {C : World → Prop} {k : Nat} {t : Tree} {a : Act} {w : World} {o : Oper} (ho : ops[k]? = some o) (hg : Region.wanted o (yielded ops a.tmps) = true)
    (h : ∀ K : Act → World → Prop, (∀ a' w', (C w → C w') ∧ wpTree P ops Q C t a' w' → K a' w') → wpList P ops (Exit.then K Q) [o] a w) : wpTree P ops Q C (.one k t) a w := by
  unfold wpTree; exact wpOp_of_list ho hg h
theorem wpTree_two {Q : Exit → Act → World → Prop} {C : World → Prop} {i j : Nat} {t s : Tree} {a : Act} {w : World} {o p : Oper} (ho : ops[i]? = some o) (hp : ops[j]? = some p) (hg : Region.wanted o (yielded ops a.tmps) = true) (hg2 : Region.wanted p (yielded ops a.tmps) = true)
    (h : ∀ K : Act → World → Prop, (∀ a' w', (C w → C w') ∧ wpTree P ops Q C t a' w' → K a' w') → wpList P ops (Exit.then K Q) [o] a w)
    (h2 : ∀ K : Act → World → Prop, (∀ a' w', (C w → C w') ∧ wpTree P ops Q C s a' w' → K a' w') → wpList P ops (Exit.then K Q) [p] a w) : wpTree P ops Q C (.two i t j s) a w := by
  unfold wpTree; exact ⟨wpOp_of_list ho hg h, wpOp_of_list hp hg2 h2⟩
theorem wpTree_done {Q : Exit → Act → World → Prop} {C : World → Prop} {a : Act} {w : World} (h : Q .normal a w) : wpTree P ops Q C .done a w := h

theorem wpAnyE_tree {Q : Exit → Act → World → Prop} {C : World → Prop} (hsel : Region.noSelect ops = true) (hQ : ∀ c (a : Act) d v w, Q (.panic c) (a.put d v) w → Q (.panic c) a w) :
    ∀ (t : Tree) (listed : Array Bool) (a : Act) (w : World), HeadInv md ops ops.size listed → Region.treeB md ops t listed = true → wpTree P ops Q C t a w → wpAnyE P md ops Q C (fun _ => True) [] t.turns listed a w
  | .done, listed, a, w, inv, hB, h => ⟨by simpa [Region.treeB] using hB, h⟩
  | .one k t, listed, a, w, inv, hB, h => by
    simp only [Region.treeB, Bool.and_eq_true, decide_eq_true_eq] at hB
    exact wpAnyE_one hB.1.1 (wpOp_mono (fun a' w' h' => ⟨⟨.inr h'.1, id⟩, wpAnyE_tree hsel hQ t _ a' w' (inv.set (by rw [hB.1.1]; simp) hB.1.2) hB.2 h'.2⟩) h)
  | .two i t j s, listed, a, w, inv, hB, h => by
    simp only [Region.treeB, Bool.and_eq_true, decide_eq_true_eq] at hB
    obtain ⟨⟨⟨⟨⟨h1, h2⟩, h3⟩, h4⟩, h5⟩, h6⟩ := hB
    have hi : i ∈ Region.ready md ops listed := by rw [h1]; simp
    have hj : j ∈ Region.ready md ops listed := by rw [h1]; simp
    refine ⟨fun h0 => (by rw [h1] at h0; cases h0), fun k hk => ?_⟩
    rw [h1] at hk
    simp only [List.mem_cons, List.not_mem_nil, or_false] at hk
    rcases hk with rfl | rfl
    · exact wpOp_mono (fun a' w' h' => ⟨⟨.inr h'.1, id⟩, wpAnyE_tree hsel hQ t _ a' w' (inv.set hi h2) h5 h'.2⟩) h.1
    · exact wpOp_mono (fun a' w' h' => ⟨⟨.inr h'.1, id⟩, by rw [h4]; exact wpAnyE_tree hsel hQ s _ a' w' (inv.set hj h3) h6 h'.2⟩) h.2
  | .look i t, listed, a, w, inv, hB, h => by
    simp only [Region.treeB, Bool.and_eq_true, decide_eq_true_eq] at hB
    obtain ⟨⟨⟨hr, hf⟩, hin⟩, hB'⟩ := hB
    have hr' : i ∈ Region.ready md ops listed := by simpa using hr
    have hi0 : ops[i]? = some ops[i] := Array.getElem?_eq_getElem hin
    unfold wpTree at h
    simp only [hi0] at h
    have hex : ∃ v, YieldsC P ops C ops[i] v a ∧ C w ∧ wpTree P ops Q C t (a.put ops[i].dst v) w := by
      by_cases hw : Region.wanted ops[i] (yielded ops a.tmps) = true
      · rw [if_pos hw] at h
        obtain ⟨v, h1, h2⟩ := h
        exact ⟨v, .inl ⟨hw, h1⟩, h2⟩
      · rw [if_neg hw] at h
        exact ⟨undef, .inr ⟨by simpa using hw, rfl⟩, h⟩
    obtain ⟨v, hy, hc, hK⟩ := hex
    exact wpAnyE_first (C := C) hi0 (Region.noSelect_spec hsel) hQ (fun listed' hun inv' j hj w w' hk => hk.1.resolve_left (by simp)) _ listed a w inv (Region.free_spec hi0 hf) hr' hc hy (wpAnyE_tree hsel hQ t _ _ w (inv.set hr' hin) hB' hK)

theorem wp_region_tree {id : Nat} {Q : Exit → Act → World → Prop} {a : Act} {w : World} (C : World → Prop) (t : Tree) (hm : P.follows .mixedOrders = true)
    (hB : (Region.noSelect ops && decide (t.turns = ops.size) && Region.treeB .any ops t (Array.replicate ops.size false)) = true)
    (hQ : ∀ c (a : Act) d v w, Q (.panic c) (a.put d v) w → Q (.panic c) a w) (h : wpTree P ops Q C t a { w with drawn := w.drawn + 1 }) :
    (Code.region id ops true).wp P Q a w := by
  simp only [Bool.and_eq_true, decide_eq_true_eq] at hB
  obtain ⟨⟨hsel, hl⟩, ho⟩ := hB
  have inv0 : HeadInv .any ops ops.size (Array.replicate ops.size false) :=
    ⟨by simp, fun j oj _ hl => (by rw [getD_replicate_false] at hl; cases hl), fun t ht1 ht2 => by omega⟩
  have h2 := wpAnyE_tree (P := P) hsel hQ t _ a { w with drawn := w.drawn + 1 } inv0 ho h
  rw [hl] at h2
  exact wp_region_any hm (wpAny_of_E _ _ _ _ h2)
end
end Go.Proofs.YtpmlcfgbfhgpgaaGreatDoor
