/- Regions that draw their order: a script of operations that look (each may be taken at any time from there on) and of such that make memory or call, each of which is the only one ready at its turn; then a tail in the text's order. Over any program. -/
import Derived.Test.YtpmlcfgbfhgpgaaGreatDoorOrd
namespace Go.Proofs.YtpmlcfgbfhgpgaaGreatDoor
open Go.RowKit
set_option linter.unusedVariables false

section
variable {P : Program} {ops : Array Oper} {md : Region.Mode}

/-- one step of a script: look at operation k; go through operation k -/
inductive Turn where
  | look (k : Nat)
  | go (k : Nat)

def wpTurns (P : Program) (ops : Array Oper) (Q : Exit → Act → World → Prop) (n : Nat) : List Turn → Act → World → Prop
  | [], a, w => wpList P ops Q (ops.toList.drop n) a w
  | .look k :: r, a, w => match ops[k]? with
    | none => False
    | some o => if Region.wanted o (yielded ops a.tmps) then ∃ v, (∀ s : Later w, purely P s.w v ((execOp a.eval o).run P s.w)) ∧ wpTurns P ops Q n r (a.put o.dst v) w else wpTurns P ops Q n r (a.put o.dst undef) w
  | .go k :: r, a, w => wpOp P ops Q k (fun a' w' => Ext w w' ∧ wpTurns P ops Q n r a' w') a w

theorem wpTurns_look {Q : Exit → Act → World → Prop} {n k : Nat} {r : List Turn} {a : Act} {w : World} {o : Oper} (ho : ops[k]? = some o)
    (h : ∀ K : Act → Prop, (∀ a, wpTurns P ops Q n r a w → K a) → if Region.wanted o (yielded ops a.tmps) then ∃ v, (∀ s : Later w, purely P s.w v ((execOp a.eval o).run P s.w)) ∧ K (a.put o.dst v) else K (a.put o.dst undef)) : wpTurns P ops Q n (.look k :: r) a w := by
  unfold wpTurns
  simp only [ho]
  exact h _ (fun _ h => h)
theorem wpTurns_go {Q : Exit → Act → World → Prop} {n k : Nat} {r : List Turn} {a : Act} {w : World} {o : Oper} (ho : ops[k]? = some o) (hg : Region.wanted o (yielded ops a.tmps) = true)
    (h : ∀ K : Act → World → Prop, (∀ a' w', Ext w w' ∧ wpTurns P ops Q n r a' w' → K a' w') → o.wp P a w K Q) : wpTurns P ops Q n (.go k :: r) a w := by
  unfold wpTurns wpOp
  simp only [ho, hg, if_true]
  exact .inl (h _ fun _ _ h => h)
/-- .. one that is not wanted -/
theorem wpTurns_skip {Q : Exit → Act → World → Prop} {n k : Nat} {r : List Turn} {a : Act} {w : World} {o : Oper} (ho : ops[k]? = some o) (hg : Region.wanted o (yielded ops a.tmps) = false)
    (h : wpTurns P ops Q n r (a.put o.dst undef) w) : wpTurns P ops Q n (.go k :: r) a w := by
  unfold wpTurns wpOp
  simp only [ho, hg]
  exact ⟨Ext.refl _, h⟩
theorem wpTurns_nil {Q : Exit → Act → World → Prop} {n : Nat} {a : Act} {w : World} {l : List Oper} (hl : ops.toList.drop n = l) (h : wpList P ops Q l a w) : wpTurns P ops Q n [] a w := by
  unfold wpTurns; rw [hl]; exact h

def Region.turnsB (md : Region.Mode) (ops : Array Oper) (n : Nat) : List Turn → Array Bool → Bool
  | [], listed => Region.seqB md ops (ops.size - n) n listed
  | .look i :: r, listed => (Region.ready md ops listed).contains i && Region.free md ops listed i && decide (i < n) && Region.turnsB md ops n r (listed.setIfInBounds i true)
  | .go k :: r, listed => decide (Region.ready md ops listed = [k]) && decide (k < n) && Region.turnsB md ops n r (listed.setIfInBounds k true)

theorem wpAnyX_turns {Q : Exit → Act → World → Prop} {n : Nat} (hsel : Region.noSelect ops = true) (hs : Region.sinkB md ops n = true) (hc : Region.chainB md ops n = true) (hn : n < ops.size) (hQ : ∀ c (a : Act) d v w, Q (.panic c) (a.put d v) w → Q (.panic c) a w) :
    ∀ (ts : List Turn) (listed : Array Bool) (a : Act) (w : World), HeadInv md ops n listed → Region.turnsB md ops n ts listed = true → wpTurns P ops Q n ts a w →
    wpAnyX P md ops Q n (ts.length + (ops.size - n)) listed a w
  | [], listed, a, w, inv, hB, h => by
    have := wpAnyX_mem (P := P) (md := md) (Q := Q) (n := n) (Nat.le_of_lt hn) [] listed a w (by simpa [Region.memB, Region.turnsB] using hB) (by unfold wpTurns at h; unfold wpMem; exact h)
    simpa using this
  | .go k :: ts, listed, a, w, inv, hB, h => by
    simp only [Region.turnsB, Bool.and_eq_true, decide_eq_true_eq] at hB
    rw [List.length_cons, show ts.length + 1 + (ops.size - n) = (ts.length + (ops.size - n)) + 1 by omega]
    refine ⟨fun h0 => (by rw [hB.1.1] at h0; cases h0), fun i hi => ?_⟩
    have hi2 := hi
    rw [hB.1.1] at hi
    obtain rfl : i = k := by simpa using hi
    exact .inl ⟨hB.1.2, wpOp_mono (fun a' w' h' => ⟨h'.1, wpAnyX_turns hsel hs hc hn hQ ts _ a' w' (inv.set hi2 hB.1.2) hB.2 h'.2⟩) h⟩
  | .look i :: ts, listed, a, w, inv, hB, h => by
    simp only [Region.turnsB, Bool.and_eq_true, decide_eq_true_eq] at hB
    obtain ⟨⟨⟨hr, hf⟩, hin⟩, hB'⟩ := hB
    have hr' : i ∈ Region.ready md ops listed := by simpa using hr
    have hi0 : ops[i]? = some ops[i] := Array.getElem?_eq_getElem (by omega)
    unfold wpTurns at h
    simp only [hi0] at h
    rw [List.length_cons, show ts.length + 1 + (ops.size - n) = (ts.length + (ops.size - n)) + 1 by omega]
    have hex : ∃ v, YieldsX P ops w ops[i] v a ∧ wpTurns P ops Q n ts (a.put ops[i].dst v) w := by
      by_cases hw : Region.wanted ops[i] (yielded ops a.tmps) = true
      · rw [if_pos hw] at h
        obtain ⟨v, h1, h2⟩ := h
        exact ⟨v, .inl ⟨hw, h1⟩, h2⟩
      · rw [if_neg hw] at h
        exact ⟨undef, .inr ⟨by simpa using hw, rfl⟩, h⟩
    obtain ⟨v, hy, hK⟩ := hex
    refine wpAnyX_first hi0 (Region.noSelect_spec hsel) hQ hin (fun listed' hun j hj inv' => ?_) _ listed a w inv (Region.free_spec hi0 hf) hr' hy ?_
    · rcases Nat.lt_or_ge j n with h | h
      · exact h
      · exact absurd hj (tail_waits hs hc hn inv' _ i rfl hin hun j h)
    · exact wpAnyX_turns hsel hs hc hn hQ ts _ _ w (inv.set hr' hin) hB' hK

theorem wpAny_turns {Q : Exit → Act → World → Prop} {a : Act} {w : World} (n : Nat) (ts : List Turn)
    (hB : (Region.noSelect ops && Region.sinkB .any ops n && Region.chainB .any ops n && decide (n < ops.size) && decide (ts.length = n) && Region.turnsB .any ops n ts (Array.replicate ops.size false)) = true)
    (hQ : ∀ c (a : Act) d v w, Q (.panic c) (a.put d v) w → Q (.panic c) a w) (h : wpTurns P ops Q n ts a w) :
    wpAny P .any ops Q ops.size (Array.replicate ops.size false) a w := by
  simp only [Bool.and_eq_true, decide_eq_true_eq] at hB
  obtain ⟨⟨⟨⟨⟨hsel, hs⟩, hc⟩, hn⟩, hl⟩, ho⟩ := hB
  have inv0 : HeadInv .any ops n (Array.replicate ops.size false) :=
    ⟨by simp, fun j oj _ hl => (by rw [getD_replicate_false] at hl; cases hl), fun t _ ht => getD_in (by simpa using ht) (getD_replicate_false _ _)⟩
  have := wpAnyX_turns (P := P) hsel hs hc hn hQ ts _ a w inv0 ho h
  rw [show ts.length + (ops.size - n) = ops.size by omega] at this
  exact wpAny_of_X _ _ _ _ this

/-- in a round of a range over a function -/
theorem wpIn_region_turns {l m id : Nat} {Q : Exit → Act → World → Prop} {a : Act} {w : World} (n : Nat) (ts : List Turn) (hm : P.follows .mixedOrders = true) (hd : noDefer ops = true)
    (hB : (Region.noSelect ops && Region.sinkB .any ops n && Region.chainB .any ops n && decide (n < ops.size) && decide (ts.length = n) && Region.turnsB .any ops n ts (Array.replicate ops.size false)) = true)
    (hQ : ∀ c (a : Act) d v w, Q (.panic c) (a.put d v) w → Q (.panic c) a w) (hQ2 : ∀ a w, ¬ Q .outgrown a w) (h : wpTurns P ops Q n ts a { w with drawn := w.drawn + 1 }) :
    (Code.region id ops true).wpIn (Fence.wide.inRound l) m P Q a w :=
  wpIn_region_any hm (wpAnyIn_of hd hQ2 _ _ _ _ (wpAny_turns n ts hB hQ h))
/-- anywhere else -/
theorem wp_region_turns {id : Nat} {Q : Exit → Act → World → Prop} {a : Act} {w : World} (n : Nat) (ts : List Turn) (hm : P.follows .mixedOrders = true)
    (hB : (Region.noSelect ops && Region.sinkB .any ops n && Region.chainB .any ops n && decide (n < ops.size) && decide (ts.length = n) && Region.turnsB .any ops n ts (Array.replicate ops.size false)) = true)
    (hQ : ∀ c (a : Act) d v w, Q (.panic c) (a.put d v) w → Q (.panic c) a w) (h : wpTurns P ops Q n ts a { w with drawn := w.drawn + 1 }) :
    (Code.region id ops true).wp P Q a w :=
  wp_region_any hm (wpAny_turns n ts hB hQ h)
end

end Go.Proofs.YtpmlcfgbfhgpgaaGreatDoor
