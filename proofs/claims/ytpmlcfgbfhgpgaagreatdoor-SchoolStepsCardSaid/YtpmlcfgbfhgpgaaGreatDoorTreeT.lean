/- Regions that draw their order: trees of turns with three ready at once. Appends that tell the block that was written. -/
import Derived.Test.YtpmlcfgbfhgpgaaGreatDoorTreeR
import Derived.Test.YtpmlcfgbfhgpgaaGreatDoorLaw9I
namespace Go.Proofs.YtpmlcfgbfhgpgaaGreatDoor
open Go.RowKit Go.Shelf
set_option linter.unusedVariables false
inductive Tre where
  | done
  | look (k : Nat) (t : Tre)
  | one (k : Nat) (t : Tre)
  | two (i : Nat) (t : Tre) (j : Nat) (s : Tre)
  | three (i : Nat) (t : Tre) (j : Nat) (s : Tre) (k : Nat) (r : Tre)
def Tre.turns : Tre → Nat
  | .done => 0
  | .look _ t => t.turns + 1
  | .one _ t => t.turns + 1
  | .two _ t _ _ => t.turns + 1
  | .three _ t _ _ _ _ => t.turns + 1
section
variable {P : Program} {ops : Array Oper} {md : Region.Mode}
def wpTreT (P : Program) (ops : Array Oper) (Q : Exit → Act → World → Prop) (R : World → World → Prop) : Tre → Act → World → Prop
  | .done, a, w => Q .normal a w
  | .look k t, a, w => match ops[k]? with
    | none => False
    | some o => if Region.wanted o (yielded ops a.tmps) then ∃ v, (∀ W, R w W → purely P W v ((execOp a.eval o).run P W)) ∧ wpTreT P ops Q R t (a.put o.dst v) w else wpTreT P ops Q R t (a.put o.dst undef) w
  | .one k t, a, w => wpOp P ops Q k (fun a' w' => R w w' ∧ wpTreT P ops Q R t a' w') a w
  | .two i t j s, a, w => wpOp P ops Q i (fun a' w' => R w w' ∧ wpTreT P ops Q R t a' w') a w ∧ wpOp P ops Q j (fun a' w' => R w w' ∧ wpTreT P ops Q R s a' w') a w
  | .three i t j s k r, a, w => wpOp P ops Q i (fun a' w' => R w w' ∧ wpTreT P ops Q R t a' w') a w ∧ wpOp P ops Q j (fun a' w' => R w w' ∧ wpTreT P ops Q R s a' w') a w ∧ wpOp P ops Q k (fun a' w' => R w w' ∧ wpTreT P ops Q R r a' w') a w
def Region.treTB (md : Region.Mode) (ops : Array Oper) : Tre → Array Bool → Bool
  | .done, listed => (Region.ready md ops listed).isEmpty
  | .look i t, listed => (Region.ready md ops listed).contains i && Region.free md ops listed i && decide (i < ops.size) && Region.treTB md ops t (listed.setIfInBounds i true)
  | .one k t, listed => decide (Region.ready md ops listed = [k]) && decide (k < ops.size) && Region.treTB md ops t (listed.setIfInBounds k true)
  | .two i t j s, listed => decide (Region.ready md ops listed = [i, j]) && decide (i < ops.size) && decide (j < ops.size) && decide (t.turns = s.turns) && Region.treTB md ops t (listed.setIfInBounds i true) && Region.treTB md ops s (listed.setIfInBounds j true)
  | .three i t j s k r, listed => decide (Region.ready md ops listed = [i, j, k]) && decide (i < ops.size) && decide (j < ops.size) && decide (k < ops.size) && decide (t.turns = s.turns) && decide (t.turns = r.turns) && Region.treTB md ops t (listed.setIfInBounds i true) && Region.treTB md ops s (listed.setIfInBounds j true) && Region.treTB md ops r (listed.setIfInBounds k true)
theorem wpTreT_look {Q : Exit → Act → World → Prop} {R : World → World → Prop} {k : Nat} {t : Tre} {a : Act} {w : World} {o : Oper} (ho : ops[k]? = some o)
    (h : ∀ K : Act → Prop, (∀ a, wpTreT P ops Q R t a w → K a) → if Region.wanted o (yielded ops a.tmps) then ∃ v, (∀ s : InC (R w), purely P s.w v ((execOp a.eval o).run P s.w)) ∧ K (a.put o.dst v) else K (a.put o.dst undef)) : wpTreT P ops Q R (.look k t) a w := by
  have h := h _ (fun _ h => h)
  unfold wpTreT
  simp only [ho]
  split at h
  · rename_i hw; rw [if_pos hw]; obtain ⟨v, h1, h2⟩ := h; exact ⟨v, fun W hW => h1 ⟨W, hW⟩, h2⟩
  · rename_i hw; rw [if_neg hw]; exact h
theorem wpTreT_one {Q : Exit → Act → World → Prop} {R : World → World → Prop} {k : Nat} {t : Tre} {a : Act} {w : World} {o : Oper} (ho : ops[k]? = some o) (hg : Region.wanted o (yielded ops a.tmps) = true)
    (h : ∀ K : Act → World → Prop, (∀ a' w', R w w' ∧ wpTreT P ops Q R t a' w' → K a' w') → wpList P ops (Exit.then K Q) [o] a w) : wpTreT P ops Q R (.one k t) a w := by
  unfold wpTreT; exact wpOp_of_list ho hg h
theorem wpTreT_two {Q : Exit → Act → World → Prop} {R : World → World → Prop} {i j : Nat} {t s : Tre} {a : Act} {w : World} {o p : Oper} (ho : ops[i]? = some o) (hp : ops[j]? = some p) (hg : Region.wanted o (yielded ops a.tmps) = true) (hg2 : Region.wanted p (yielded ops a.tmps) = true)
    (h : ∀ K : Act → World → Prop, (∀ a' w', R w w' ∧ wpTreT P ops Q R t a' w' → K a' w') → wpList P ops (Exit.then K Q) [o] a w)
    (h2 : ∀ K : Act → World → Prop, (∀ a' w', R w w' ∧ wpTreT P ops Q R s a' w' → K a' w') → wpList P ops (Exit.then K Q) [p] a w) : wpTreT P ops Q R (.two i t j s) a w := by
  unfold wpTreT; exact ⟨wpOp_of_list ho hg h, wpOp_of_list hp hg2 h2⟩
theorem wpTreT_three {Q : Exit → Act → World → Prop} {R : World → World → Prop} {i j k : Nat} {t s r : Tre} {a : Act} {w : World} {o p q : Oper} (ho : ops[i]? = some o) (hp : ops[j]? = some p) (hq : ops[k]? = some q) (hg : Region.wanted o (yielded ops a.tmps) = true) (hg2 : Region.wanted p (yielded ops a.tmps) = true) (hg3 : Region.wanted q (yielded ops a.tmps) = true)
    (h : ∀ K : Act → World → Prop, (∀ a' w', R w w' ∧ wpTreT P ops Q R t a' w' → K a' w') → wpList P ops (Exit.then K Q) [o] a w)
    (h2 : ∀ K : Act → World → Prop, (∀ a' w', R w w' ∧ wpTreT P ops Q R s a' w' → K a' w') → wpList P ops (Exit.then K Q) [p] a w)
    (h3 : ∀ K : Act → World → Prop, (∀ a' w', R w w' ∧ wpTreT P ops Q R r a' w' → K a' w') → wpList P ops (Exit.then K Q) [q] a w) : wpTreT P ops Q R (.three i t j s k r) a w := by
  unfold wpTreT; exact ⟨wpOp_of_list ho hg h, wpOp_of_list hp hg2 h2, wpOp_of_list hq hg3 h3⟩
theorem wpTreT_done {Q : Exit → Act → World → Prop} {R : World → World → Prop} {a : Act} {w : World} (h : Q .normal a w) : wpTreT P ops Q R .done a w := h
theorem wpAnyR_treT {Q : Exit → Act → World → Prop} {R : World → World → Prop} (hRr : ∀ w, R w w) (hRt : ∀ a b c, R a b → R b c → R a c) (hsel : Region.noSelect ops = true) (hQ : ∀ c (a : Act) d v w, Q (.panic c) (a.put d v) w → Q (.panic c) a w) :
    ∀ (t : Tre) (listed : Array Bool) (a : Act) (w : World), HeadInv md ops ops.size listed → Region.treTB md ops t listed = true → wpTreT P ops Q R t a w → wpAnyR P md ops Q R [] t.turns listed a w
  | .done, listed, a, w, inv, hB, h => ⟨by simpa [Region.treTB] using hB, h⟩
  | .one k t, listed, a, w, inv, hB, h => by
    simp only [Region.treTB, Bool.and_eq_true, decide_eq_true_eq] at hB
    refine ⟨fun h0 => (by rw [hB.1.1] at h0; cases h0), fun i hi => ?_⟩
    rw [hB.1.1] at hi
    obtain rfl : i = k := by simpa using hi
    exact wpOp_mono (fun a' w' h' => ⟨.inr h'.1, wpAnyR_treT hRr hRt hsel hQ t _ a' w' (inv.set (by rw [hB.1.1]; simp) hB.1.2) hB.2 h'.2⟩) h
  | .two i t j s, listed, a, w, inv, hB, h => by
    simp only [Region.treTB, Bool.and_eq_true, decide_eq_true_eq] at hB
    obtain ⟨⟨⟨⟨⟨h1, h2⟩, h3⟩, h4⟩, h5⟩, h6⟩ := hB
    have hi : i ∈ Region.ready md ops listed := by rw [h1]; simp
    have hj : j ∈ Region.ready md ops listed := by rw [h1]; simp
    refine ⟨fun h0 => (by rw [h1] at h0; cases h0), fun k hk => ?_⟩
    rw [h1] at hk
    simp only [List.mem_cons, List.not_mem_nil, or_false] at hk
    rcases hk with rfl | rfl
    · exact wpOp_mono (fun a' w' h' => ⟨.inr h'.1, wpAnyR_treT hRr hRt hsel hQ t _ a' w' (inv.set hi h2) h5 h'.2⟩) h.1
    · exact wpOp_mono (fun a' w' h' => ⟨.inr h'.1, by rw [h4]; exact wpAnyR_treT hRr hRt hsel hQ s _ a' w' (inv.set hj h3) h6 h'.2⟩) h.2
  | .three i t j s k r, listed, a, w, inv, hB, h => by
    simp only [Region.treTB, Bool.and_eq_true, decide_eq_true_eq] at hB
    obtain ⟨⟨⟨⟨⟨⟨⟨⟨h1, h2⟩, h3⟩, h3k⟩, h4⟩, h4r⟩, h5⟩, h6⟩, h7⟩ := hB
    have hi : i ∈ Region.ready md ops listed := by rw [h1]; simp
    have hj : j ∈ Region.ready md ops listed := by rw [h1]; simp
    have hk' : k ∈ Region.ready md ops listed := by rw [h1]; simp
    refine ⟨fun h0 => (by rw [h1] at h0; cases h0), fun m hm => ?_⟩
    rw [h1] at hm
    simp only [List.mem_cons, List.not_mem_nil, or_false] at hm
    rcases hm with rfl | rfl | rfl
    · exact wpOp_mono (fun a' w' h' => ⟨.inr h'.1, wpAnyR_treT hRr hRt hsel hQ t _ a' w' (inv.set hi h2) h5 h'.2⟩) h.1
    · exact wpOp_mono (fun a' w' h' => ⟨.inr h'.1, by show wpAnyR P md ops Q R [] t.turns _ _ _; rw [h4]; exact wpAnyR_treT hRr hRt hsel hQ s _ a' w' (inv.set hj h3) h6 h'.2⟩) h.2.1
    · exact wpOp_mono (fun a' w' h' => ⟨.inr h'.1, by show wpAnyR P md ops Q R [] t.turns _ _ _; rw [h4r]; exact wpAnyR_treT hRr hRt hsel hQ r _ a' w' (inv.set hk' h3k) h7 h'.2⟩) h.2.2
  | .look i t, listed, a, w, inv, hB, h => by
    simp only [Region.treTB, Bool.and_eq_true, decide_eq_true_eq] at hB
    obtain ⟨⟨⟨hr, hf⟩, hin⟩, hB'⟩ := hB
    have hr' : i ∈ Region.ready md ops listed := by simpa using hr
    have hi0 : ops[i]? = some ops[i] := Array.getElem?_eq_getElem hin
    unfold wpTreT at h
    simp only [hi0] at h
    have hex : ∃ v, YieldsC P ops (R w) ops[i] v a ∧ wpTreT P ops Q R t (a.put ops[i].dst v) w := by
      by_cases hw : Region.wanted ops[i] (yielded ops a.tmps) = true
      · rw [if_pos hw] at h
        obtain ⟨v, h1, h2⟩ := h
        exact ⟨v, .inl ⟨hw, h1⟩, h2⟩
      · rw [if_neg hw] at h
        exact ⟨undef, .inr ⟨by simpa using hw, rfl⟩, h⟩
    obtain ⟨v, hy, hK⟩ := hex
    refine wpAnyR_first (C := R w) hRr hi0 (Region.noSelect_spec hsel) hQ (fun listed' hun inv' j hj w1 w' hk hc => ?_) _ listed a w inv (Region.free_spec hi0 hf) hr' (hRr w) hy (wpAnyR_treT hRr hRt hsel hQ t _ _ w (inv.set hr' hin) hB' hK)
    exact hRt _ _ _ hc (hk.resolve_left fun hjD => by cases hjD)
theorem wp_region_treT {id : Nat} {Q : Exit → Act → World → Prop} {a : Act} {w : World} (R : World → World → Prop) (t : Tre) (hRr : ∀ w, R w w) (hRt : ∀ a b c, R a b → R b c → R a c) (hm : P.follows .mixedOrders = true)
    (hB : (Region.noSelect ops && decide (t.turns = ops.size) && Region.treTB .any ops t (Array.replicate ops.size false)) = true)
    (hQ : ∀ c (a : Act) d v w, Q (.panic c) (a.put d v) w → Q (.panic c) a w) (h : wpTreT P ops Q R t a { w with drawn := w.drawn + 1 }) :
    (Code.region id ops true).wp P Q a w := by
  simp only [Bool.and_eq_true, decide_eq_true_eq] at hB
  obtain ⟨⟨hsel, hl⟩, ho⟩ := hB
  have inv0 : HeadInv .any ops ops.size (Array.replicate ops.size false) :=
    ⟨by simp, fun j oj _ hl => (by rw [getD_replicate_false] at hl; cases hl), fun t ht1 ht2 => by omega⟩
  have h2 := wpAnyR_treT (P := P) hRr hRt hsel hQ t _ a { w with drawn := w.drawn + 1 } inv0 ho h
  rw [hl] at h2
  exact wp_region_any hm (wpAny_of_R _ _ _ _ h2)
end
theorem wpList_appendAllG {P : Program} {ops : Array Oper} {rest : List Oper} {o : Oper} {a : Act} {Q : Exit → Act → World → Prop} {W : World} {B : Nat} {t e : TypeId} {size bytes : Nat} {z : Value} {v vx : Value} {n m : Nat} {xs news : List Value}
    (hT : ElTy P t e size bytes z) (hgd : o.guard = none) (s x : Operand) (ho : o.op = .call { callee := .builtin .append, args := #[s, x], argTypes := #[t, t] })
    (hs : a.eval s = v) (hx : a.eval x = vx) (hown : W.ownsRow B e size v n xs) (hr : Raw W size vx m news) (h1 : ∀ u ∈ news, u.oneCell' = true) (hB : B ≤ W.heap.size)
    (hlen : (n + m) * bytes ≤ 140737488355328) (hn : n + m ≤ 9223372036854775807)
    (h : ∀ v' w', w'.ownsRow B e size v' (n + m) (xs ++ news) → Below B W w' → W.grownBy w' v.ownBlock → (∀ r, v'.ownBlock = some r → v.ownBlock = some r ∨ W.heap.size ≤ r) → wpList P ops Q rest (a.put o.dst v') w') : wpList P ops Q (o :: rest) a W := by
  refine wpList_plain hgd fun _ hK => ?_
  have key : ∃ v' w', (Builtin.append_ #[t, t] o.type #[v, vx]).run P W = .ok v' w' ∧ w'.ownsRow B e size v' (n + m) (xs ++ news) ∧ W.grownBy w' v.ownBlock ∧ (v'.ownBlock = v.ownBlock ∨ v'.ownBlock = some W.heap.size) := by
    obtain ⟨i0, hi, hz0, hz1, hz2⟩ := info_parts hT.info
    obtain ⟨A, c, rfl, hl, hc⟩ := hr
    rcases A with _ | ad
    · have hm : m = 0 := by
        rcases Nat.eq_zero_or_pos m with h0 | h0
        · exact h0
        · obtain ⟨ad, h, _⟩ := hc h0; cases h
      subst hm
      have hn : news = [] := List.eq_nil_of_length_eq_zero (by simpa using hl)
      subst hn
      exact ⟨v, W, run_append_nil W B t o.type e i0 size hT.ht hi v n xs hown c, by simpa using hown, ⟨rfl, rfl, rfl, Nat.le_refl _, fun _ _ _ => rfl⟩, .inl rfl⟩
    · have hcells : ∀ j u, news[j]? = some u → W.cell? (ad.add j) = some u := by
        intro j u hu
        rcases Nat.eq_zero_or_pos m with h0 | h0
        · subst h0
          have hn : news = [] := List.eq_nil_of_length_eq_zero (by simpa using hl)
          subst hn; simp at hu
        · obtain ⟨ad', h, hc⟩ := hc h0
          injection h with h; subst h
          exact hc j u hu
      obtain ⟨v', w', hrun, h2, h3, _, h6⟩ := run_append_own_at (P := P) W B t o.type e i0 z size bytes hT.ht hi hz0 hz1 hz2 hT.zc hT.pos v n xs hown ad m c news hl hcells h1 (by unfold maxLen; omega) hlen hB
      exact ⟨v', w', hrun, h2, h3, h6⟩
  obtain ⟨v', w', hrun, h2, h3, h6⟩ := key
  unfold Oper.wp execOp
  simp only [ho, resolve, invoke, builtin, Sem.run_bind, Sem.run_pure, Result.andThen_ok, List.map_toArray, List.map_cons, List.map_nil, hs, hx, hrun]
  exact hK _ _ (h v' w' h2 (Below.of_grownBy h3 hown hB) h3 (fun r hr => by
    rcases h6 with h6 | h6
    · left; rw [← hr]; exact h6.symm
    · right
      rw [hr] at h6
      injection h6 with h6
      rw [h6]; omega))
theorem ownsRow_kept2 {w w' : World} {B size n : Nat} {e : TypeId} {v : Value} {xs : List Value} {o : Option Nat} (h : w.ownsRow B e size v n xs) (hg : w.grownBy w' o) (hne : ∀ r, v.ownBlock = some r → o ≠ some r) : w'.ownsRow B e size v n xs := by
  obtain ⟨h0, h | ⟨g, cap, cur, h1, h2, h3, h4⟩⟩ := h
  · exact ⟨h0, .inl h⟩
  · refine ⟨h0, .inr ⟨g, cap, cur, h1, h2, ?_, h4⟩⟩
    have hgl : g < w.heap.size := by
      rcases Nat.lt_or_ge g w.heap.size with hl | hl
      · exact hl
      · rw [Array.getElem?_eq_none hl] at h3; cases h3
    rw [hg.block g hgl (fun e => hne g (by rw [h1]; rfl) e.symm)]
    exact h3
theorem Blk.kept2 {w w' : World} {g : Nat} {e : TypeId} {l : List Value} {o : Option Nat} (h : Blk w g e l) (hg : w.grownBy w' o) (hne : o ≠ some g) : Blk w' g e l := by
  have hl := h.lt
  unfold Blk at h ⊢
  rw [hg.block g hl (fun e => hne e.symm)]
  exact h
end Go.Proofs.YtpmlcfgbfhgpgaaGreatDoor
