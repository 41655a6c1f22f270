/- Regions that draw their order: some operations only look (they may be taken first), some make memory, the rest goes in the text's order. Over any program. -/
import Derived.Test.YtpmlcfgbfhgpgaaGreatDoorRegion
namespace Go.Proofs.YtpmlcfgbfhgpgaaGreatDoor
open Go.RowKit
set_option linter.unusedVariables false

section
variable {P : Program} {ops : Array Oper} {md : Region.Mode}

/-- what an operation comes to: the value v, the world as it was -/
def purely (P : Program) (w : World) (v : Value) : Result Next → Prop
  | .ok (.value u) w' => w' = w ∧ u = v
  | _ => False
@[go_sem] theorem purely_value (w w' : World) (u v : Value) : purely P w v (.ok (.value u) w') = (w' = w ∧ u = v) := rfl

/-- it yields v in every world after w -/
def YieldsX (P : Program) (ops : Array Oper) (w : World) (o : Oper) (v : Value) (a : Act) : Prop :=
  (Region.wanted o (yielded ops a.tmps) = true ∧ ∀ s : Later w, purely P s.w v ((execOp a.eval o).run P s.w)) ∨ (Region.wanted o (yielded ops a.tmps) = false ∧ v = undef)
theorem YieldsX.later {w w' : World} {o : Oper} {v : Value} {a : Act} (h : YieldsX P ops w o v a) (hx : Ext w w') : YieldsX P ops w' o v a :=
  h.imp (fun ⟨h1, h2⟩ => ⟨h1, fun s => h2 ⟨s.w, hx.trans s.ext⟩⟩) id
theorem YieldsX.of_same {w : World} {o : Oper} {v : Value} {a a' : Act} (hy : YieldsX P ops w o v a) (he : execOp a'.eval o = execOp a.eval o)
    (hw : Region.wanted o (yielded ops a'.tmps) = Region.wanted o (yielded ops a.tmps)) : YieldsX P ops w o v a' := by
  unfold YieldsX at *
  rw [he, hw]
  exact hy
theorem YieldsX.wpOp {i : Nat} {o : Oper} {v : Value} {a : Act} {w : World} {Q : Exit → Act → World → Prop} (hi : ops[i]? = some o) (hy : YieldsX P ops w o v a)
    {K : Act → World → Prop} (h : K (a.put o.dst v) w) : wpOp P ops Q i K a w := by
  unfold Go.wpOp
  simp only [hi]
  rcases hy with ⟨hw, hv⟩ | ⟨hw, rfl⟩
  · simp only [hw, if_true]
    refine .inl ?_
    have h1 := hv ⟨w, Ext.refl w⟩
    unfold Oper.wp
    dsimp only at h1
    generalize (execOp a.eval o).run P w = r at h1 ⊢
    cases r with
    | ok n w' =>
      cases n <;> simp only [purely] at h1
      case value u => obtain ⟨rfl, rfl⟩ := h1; exact h
    | halt x w' => exact h1.elim
  · simp only [hw, Bool.false_eq_true, if_false]; exact h

/-- whatever order is picked; what lies before operation n leaves a later world -/
def wpAnyX (P : Program) (md : Region.Mode) (ops : Array Oper) (Q : Exit → Act → World → Prop) (n : Nat) : Nat → Array Bool → Act → World → Prop
  | 0, listed, a, w => Region.ready md ops listed = [] ∧ Q .normal a w
  | f + 1, listed, a, w => (Region.ready md ops listed = [] → Q .normal a w) ∧
      ∀ i ∈ Region.ready md ops listed, (i < n ∧ wpOp P ops Q i (fun a' w' => Ext w w' ∧ wpAnyX P md ops Q n f (listed.setIfInBounds i true) a' w') a w) ∨ (n ≤ i ∧ wpOp P ops Q i (fun a' w' => wpAny P md ops Q f (listed.setIfInBounds i true) a' w') a w)

theorem wpAny_of_X {Q : Exit → Act → World → Prop} {n : Nat} : ∀ (f : Nat) (listed : Array Bool) (a : Act) (w : World), wpAnyX P md ops Q n f listed a w → wpAny P md ops Q f listed a w
  | 0, _, _, _, h => h
  | f + 1, _, _, _, h => ⟨h.1, fun i hi => by
      rcases h.2 i hi with ⟨_, h1⟩ | ⟨_, h1⟩
      · exact wpOp_mono (fun a' w' h' => wpAny_of_X f _ a' w' h'.2) h1
      · exact h1⟩

/-- one operation apart from oi: whether oi's value lies there already makes no difference -/
theorem wpOp_putX {j : Nat} {oi oj : Oper} {v : Value} {Q : Exit → Act → World → Prop} (hj : ops[j]? = some oj) (hap : oi.apart ops oj = true)
    (hsi : ∀ cs b, oi.op ≠ .select cs b) (hsj : ∀ cs b, oj.op ≠ .select cs b) (hQ : ∀ c a w, Q (.panic c) (a.put oi.dst v) w → Q (.panic c) a w)
    {K : Act → World → Prop} {a : Act} {w : World} (h : wpOp P ops Q j K (a.put oi.dst v) w) :
    wpOp P ops Q j (fun a' w' => (execOp a'.eval oi = execOp a.eval oi ∧ Region.wanted oi (yielded ops a'.tmps) = Region.wanted oi (yielded ops a.tmps)) ∧ K (a'.put oi.dst v) w') a w := by
  obtain ⟨h1, h2, h3⟩ := Oper.apart_spec hap
  have keep : ∀ (b : Act) u, (execOp b.eval oi = execOp a.eval oi ∧ Region.wanted oi (yielded ops b.tmps) = Region.wanted oi (yielded ops a.tmps)) →
      (execOp (b.put oj.dst u).eval oi = execOp a.eval oi ∧ Region.wanted oi (yielded ops (b.put oj.dst u).tmps) = Region.wanted oi (yielded ops a.tmps)) := fun b u hb =>
    ⟨(execOp_put oi hsi b oj.dst u h3).trans hb.1, (wanted_put oi b oj.dst u h3).trans hb.2⟩
  unfold wpOp at *
  simp only [hj] at *
  rw [wanted_put oj a oi.dst v h1] at h
  split
  · rename_i hw
    simp only [hw, if_true] at h
    rcases h with h | ⟨hasks, hlets⟩
    case inr => exact .inr ⟨by unfold Oper.asks at *; rw [execOp_put oj hsj a oi.dst v h1] at hasks; exact hasks, hlets⟩
    refine .inl ?_
    unfold Oper.wp at *
    rw [execOp_put oj hsj a oi.dst v h1] at h
    generalize (execOp a.eval oj).run P w = r at *
    cases r with
    | ok n w' =>
      cases n <;> simp only [Oper.upon] at h ⊢
      case value u => exact ⟨keep a u ⟨rfl, rfl⟩, by rw [← Act.put_comm a v u h2]; exact h⟩
      case skip => exact ⟨keep a _ ⟨rfl, rfl⟩, by rw [← Act.put_comm a v undef h2]; exact h⟩
      case defer d =>
        refine ⟨keep _ _ ⟨rfl, rfl⟩, ?_⟩
        rw [← Act.put_comm _ v undef h2, ← Act.put_defers]
        exact h
      case enter f args =>
        refine Calls.mono h fun e w'' he => ?_
        cases e with
        | returned u => exact ⟨keep a u ⟨rfl, rfl⟩, by rw [← Act.put_comm a v u h2]; exact he⟩
        | panicked c => exact hQ _ _ _ he
        | outgrown => exact he
      case row row args => exact Rows.mono h fun u w'' he => ⟨keep a u ⟨rfl, rfl⟩, by rw [← Act.put_comm a v u h2]; exact he⟩
    | halt x w' =>
      cases x <;> simp only [Oper.upon] at h ⊢
      case panic u => exact hQ _ _ _ h
  · rename_i hw
    simp only [hw] at h
    exact ⟨keep a _ ⟨rfl, rfl⟩, by rw [← Act.put_comm a v undef h2]; exact h⟩

theorem wpAnyX_first {n i : Nat} {oi : Oper} {v : Value} {Q : Exit → Act → World → Prop} (hi : ops[i]? = some oi) (hsel : ∀ (j : Nat) (o : Oper) cs b, ops[j]? = some o → o.op ≠ .select cs b)
    (hQ : ∀ c (a : Act) d v w, Q (.panic c) (a.put d v) w → Q (.panic c) a w) (hin : i < n) (htail : ∀ (listed : Array Bool), listed.getD i true = false → ∀ j ∈ Region.ready md ops listed, HeadInv md ops n listed → j < n) :
    ∀ (f : Nat) (listed : Array Bool) (a : Act) (w : World), HeadInv md ops n listed →
      (∀ j oj, ops[j]? = some oj → j ≠ i → listed.getD j true = false → (∀ e ∈ oj.after, Region.binds md e = true → e.on ≠ i) → oi.apart ops oj = true) →
      i ∈ Region.ready md ops listed → YieldsX P ops w oi v a →
      wpAnyX P md ops Q n f (listed.setIfInBounds i true) (a.put oi.dst v) w → wpAnyX P md ops Q n (f + 1) listed a w := by
  intro f
  induction f with
  | zero =>
    intro listed a w inv _ hr hy H
    have hun := (mem_ready.1 hr).1
    refine ⟨fun h => (by rw [h] at hr; cases hr), fun j hj => ?_⟩
    by_cases hji : j = i
    · subst hji; exact .inl ⟨hin, hy.wpOp hi ⟨Ext.refl _, H⟩⟩
    · have := ready_mono hj hji
      rw [H.1] at this
      cases this
  | succ f ih =>
    intro listed a w inv hfree hr hy H
    have hun := (mem_ready.1 hr).1
    refine ⟨fun h => (by rw [h] at hr; cases hr), fun j hj => ?_⟩
    have hjn : j < n := htail listed hun j hj inv
    by_cases hji : j = i
    · subst hji; exact .inl ⟨hin, hy.wpOp hi ⟨Ext.refl _, H⟩⟩
    · refine .inl ⟨hjn, ?_⟩
      obtain ⟨hjun, oj, hoj, hall⟩ := mem_ready.1 hj
      have hnot : ∀ e ∈ oj.after, Region.binds md e = true → e.on ≠ i := fun e he hb heq => by
        have h1 := hall e he hb
        rw [heq, getD_both hun] at h1
        cases h1
      have h1 : wpOp P ops Q j (fun a' w' => Ext w w' ∧ wpAnyX P md ops Q n f ((listed.setIfInBounds i true).setIfInBounds j true) a' w') (a.put oi.dst v) w := by
        rcases H.2 j (ready_mono hj hji) with ⟨_, h1⟩ | ⟨h0, _⟩
        · exact h1
        · omega
      have h2 := wpOp_putX hoj (hfree j oj hoj hji hjun hnot) (fun cs b => hsel i oi cs b hi) (fun cs b => hsel j oj cs b hoj) (fun c a w h => hQ c a _ _ w h) h1
      have hfree' : ∀ k ok, ops[k]? = some ok → k ≠ i → (listed.setIfInBounds j true).getD k true = false →
          (∀ e ∈ ok.after, Region.binds md e = true → e.on ≠ i) → oi.apart ops ok = true := fun k ok hk hki hun hno => by
        refine hfree k ok hk hki ?_ hno
        by_cases hjk : j = k
        · subst hjk; exact hjun
        · rw [getD_set_ne true hjk] at hun; exact hun
      refine wpOp_mono (fun a' w' h3 => ⟨h3.2.1, ?_⟩) h2
      refine ih (listed.setIfInBounds j true) a' w' (inv.set hj hjn) hfree' (ready_mono hr (Ne.symm hji)) ((hy.of_same h3.1.1 h3.1.2).later h3.2.1) ?_
      rw [Array.setIfInBounds_comm _ _ hji]
      exact h3.2.2

/-- the walk: the operations that look, taken first -/
def wpPure (P : Program) (ops : Array Oper) (w : World) (Q : Act → Prop) : List Oper → Act → Prop
  | [], a => Q a
  | o :: rest, a => if Region.wanted o (yielded ops a.tmps) then ∃ v, (∀ s : Later w, purely P s.w v ((execOp a.eval o).run P s.w)) ∧ wpPure P ops w Q rest (a.put o.dst v) else wpPure P ops w Q rest (a.put o.dst undef)
theorem wpPure_nil {w : World} {Q : Act → Prop} {a : Act} (h : Q a) : wpPure P ops w Q [] a := h
theorem wpPure_step {w : World} {Q : Act → Prop} {a : Act} {o : Oper} {rest : List Oper}
    (h : ∀ K : Act → Prop, (∀ a, wpPure P ops w Q rest a → K a) → if Region.wanted o (yielded ops a.tmps) then ∃ v, (∀ s : Later w, purely P s.w v ((execOp a.eval o).run P s.w)) ∧ K (a.put o.dst v) else K (a.put o.dst undef)) : wpPure P ops w Q (o :: rest) a :=
  h _ (fun _ h => h)
/-- then those that make memory, one after another -/
def wpMem (P : Program) (ops : Array Oper) (Q : Exit → Act → World → Prop) (n : Nat) : List Nat → Act → World → Prop
  | [], a, w => wpList P ops Q (ops.toList.drop n) a w
  | k :: ks, a, w => wpOp P ops Q k (fun a' w' => Ext w w' ∧ wpMem P ops Q n ks a' w') a w

theorem wpMem_step {Q : Exit → Act → World → Prop} {n k : Nat} {ks : List Nat} {a : Act} {w : World} {o : Oper} (ho : ops[k]? = some o) (hg : o.guard = none)
    (h : ∀ K : Act → World → Prop, (∀ a' w', Ext w w' ∧ wpMem P ops Q n ks a' w' → K a' w') → o.wp P a w K Q) : wpMem P ops Q n (k :: ks) a w := by
  unfold wpMem wpOp
  simp only [ho, Region.wanted, hg, if_true]
  exact .inl (h _ fun _ _ h => h)
theorem wpMem_nil {Q : Exit → Act → World → Prop} {n : Nat} {a : Act} {w : World} {l : List Oper} (hl : ops.toList.drop n = l) (h : wpList P ops Q l a w) : wpMem P ops Q n [] a w := by
  unfold wpMem; rw [hl]; exact h
def Region.memB (md : Region.Mode) (ops : Array Oper) (n : Nat) : List Nat → Array Bool → Bool
  | [], listed => Region.seqB md ops (ops.size - n) n listed
  | k :: ks, listed => decide (Region.ready md ops listed = [k]) && decide (k < n) && Region.memB md ops n ks (listed.setIfInBounds k true)
def Region.ordB (md : Region.Mode) (ops : Array Oper) (n : Nat) (ms : List Nat) : List Nat → Array Bool → Bool
  | [], listed => Region.memB md ops n ms listed
  | i :: is, listed => (Region.ready md ops listed).contains i && Region.free md ops listed i && decide (i < n) && Region.ordB md ops n ms is (listed.setIfInBounds i true)

theorem wpAnyX_mem {Q : Exit → Act → World → Prop} {n : Nat} (hnn : n ≤ ops.size) : ∀ (ms : List Nat) (listed : Array Bool) (a : Act) (w : World), Region.memB md ops n ms listed = true → wpMem P ops Q n ms a w →
    wpAnyX P md ops Q n (ms.length + (ops.size - n)) listed a w
  | [], listed, a, w, hB, h => by
    simp only [List.length_nil, Nat.zero_add]
    simp only [Region.memB] at hB
    have h1 := wpAny_of_seq (P := P) (md := md) (Q' := Q) (ops.toList.drop n) n listed a w (fun j => by simp [List.getElem?_drop]) (by simpa using hB) h
    simp only [List.length_drop, Array.length_toList] at h1
    cases hg : ops.size - n with
    | zero => rw [hg] at h1; exact h1
    | succ g =>
      rw [hg] at h1 hB
      refine ⟨h1.1, fun i hi => .inr ⟨seqB_ready hB i hi, h1.2 i hi⟩⟩
  | k :: ms, listed, a, w, hB, h => by
    simp only [Region.memB, Bool.and_eq_true, decide_eq_true_eq] at hB
    rw [List.length_cons, show ms.length + 1 + (ops.size - n) = (ms.length + (ops.size - n)) + 1 by omega]
    refine ⟨fun h0 => (by rw [hB.1.1] at h0; cases h0), fun i hi => ?_⟩
    rw [hB.1.1] at hi
    obtain rfl : i = k := by simpa using hi
    exact .inl ⟨hB.1.2, wpOp_mono (fun a' w' h' => ⟨h'.1, wpAnyX_mem hnn ms _ a' w' hB.2 h'.2⟩) h⟩

theorem wpAnyX_ord {Q : Exit → Act → World → Prop} {n : Nat} (hsel : Region.noSelect ops = true) (hs : Region.sinkB md ops n = true) (hc : Region.chainB md ops n = true) (hn : n < ops.size) (hQ : ∀ c (a : Act) d v w, Q (.panic c) (a.put d v) w → Q (.panic c) a w) {ms : List Nat} {w : World} :
    ∀ (is : List Nat) (listed : Array Bool) (a : Act), HeadInv md ops n listed → Region.ordB md ops n ms is listed = true → wpPure P ops w (fun a' => wpMem P ops Q n ms a' w) (is.filterMap fun i => ops[i]?) a →
    wpAnyX P md ops Q n (is.length + (ms.length + (ops.size - n))) listed a w
  | [], listed, a, inv, hB, h => by
    simp only [List.length_nil, Nat.zero_add]
    exact wpAnyX_mem (by omega) ms listed a w (by simpa [Region.ordB] using hB) h
  | i :: is, listed, a, inv, hB, h => by
    simp only [Region.ordB, Bool.and_eq_true, decide_eq_true_eq] at hB
    obtain ⟨⟨⟨hr, hf⟩, hin⟩, hB'⟩ := hB
    have hr' : i ∈ Region.ready md ops listed := by simpa using hr
    have hi0 : ops[i]? = some ops[i] := Array.getElem?_eq_getElem (by omega)
    simp only [List.filterMap_cons, hi0] at h
    rw [List.length_cons, show is.length + 1 + (ms.length + (ops.size - n)) = (is.length + (ms.length + (ops.size - n))) + 1 by omega]
    have hex : ∃ v, YieldsX P ops w ops[i] v a ∧ wpPure P ops w (fun a' => wpMem P ops Q n ms a' w) (is.filterMap fun i => ops[i]?) (a.put ops[i].dst v) := by
      unfold wpPure at h
      by_cases hw : Region.wanted ops[i] (yielded ops a.tmps) = true
      · rw [if_pos hw] at h
        obtain ⟨v, h1, h2⟩ := h
        exact ⟨v, .inl ⟨hw, h1⟩, h2⟩
      · rw [if_neg hw] at h
        exact ⟨undef, .inr ⟨by simpa using hw, rfl⟩, h⟩
    obtain ⟨v, hy, hK⟩ := hex
    refine wpAnyX_first hi0 (Region.noSelect_spec hsel) hQ hin (fun listed' hun j hj inv' => ?_) _ listed a w inv (Region.free_spec hi0 hf) hr' hy ?_
    · rcases Nat.lt_or_ge j n with h | h
      · exact h
      · exact absurd hj (tail_waits hs hc hn inv' _ i rfl hin hun j h)
    · exact wpAnyX_ord hsel hs hc hn hQ is _ _ (inv.set hr' hin) hB' hK

/-- qs: the operations that look, in an order; ms: those that make memory; from n on: the text's order -/
theorem wpAny_ord {Q : Exit → Act → World → Prop} {a : Act} {w : World} (n : Nat) (qs ms : List Nat)
    (hB : (Region.noSelect ops && Region.sinkB .any ops n && Region.chainB .any ops n && decide (n < ops.size) && decide (qs.length + ms.length = n) && Region.ordB .any ops n ms qs (Array.replicate ops.size false)) = true)
    (hQ : ∀ c (a : Act) d v w, Q (.panic c) (a.put d v) w → Q (.panic c) a w) (h : wpPure P ops w (fun a' => wpMem P ops Q n ms a' w) (qs.filterMap fun i => ops[i]?) a) :
    wpAny P .any ops Q ops.size (Array.replicate ops.size false) a w := by
  simp only [Bool.and_eq_true, decide_eq_true_eq] at hB
  obtain ⟨⟨⟨⟨⟨hsel, hs⟩, hc⟩, hn⟩, hl⟩, ho⟩ := hB
  have inv0 : HeadInv .any ops n (Array.replicate ops.size false) :=
    ⟨by simp, fun j oj _ hl => (by rw [getD_replicate_false] at hl; cases hl), fun t _ ht => getD_in (by simpa using ht) (getD_replicate_false _ _)⟩
  have := wpAnyX_ord (P := P) hsel hs hc hn hQ qs _ a inv0 ho h
  rw [show qs.length + (ms.length + (ops.size - n)) = ops.size by omega] at this
  exact wpAny_of_X _ _ _ _ this

/-- in a round of a range over a function -/
theorem wpIn_region_ord {l m id : Nat} {Q : Exit → Act → World → Prop} {a : Act} {w : World} (n : Nat) (qs ms : List Nat) (hm : P.follows .mixedOrders = true) (hd : noDefer ops = true)
    (hB : (Region.noSelect ops && Region.sinkB .any ops n && Region.chainB .any ops n && decide (n < ops.size) && decide (qs.length + ms.length = n) && Region.ordB .any ops n ms qs (Array.replicate ops.size false)) = true)
    (hQ : ∀ c (a : Act) d v w, Q (.panic c) (a.put d v) w → Q (.panic c) a w) (hQ2 : ∀ a w, ¬ Q .outgrown a w) (h : wpPure P ops { w with drawn := w.drawn + 1 } (fun a' => wpMem P ops Q n ms a' { w with drawn := w.drawn + 1 }) (qs.filterMap fun i => ops[i]?) a) :
    (Code.region id ops true).wpIn (Fence.wide.inRound l) m P Q a w :=
  wpIn_region_any hm (wpAnyIn_of hd hQ2 _ _ _ _ (wpAny_ord n qs ms hB hQ h))
/-- anywhere else -/
theorem wp_region_ord {id : Nat} {Q : Exit → Act → World → Prop} {a : Act} {w : World} (n : Nat) (qs ms : List Nat) (hm : P.follows .mixedOrders = true)
    (hB : (Region.noSelect ops && Region.sinkB .any ops n && Region.chainB .any ops n && decide (n < ops.size) && decide (qs.length + ms.length = n) && Region.ordB .any ops n ms qs (Array.replicate ops.size false)) = true)
    (hQ : ∀ c (a : Act) d v w, Q (.panic c) (a.put d v) w → Q (.panic c) a w) (h : wpPure P ops { w with drawn := w.drawn + 1 } (fun a' => wpMem P ops Q n ms a' { w with drawn := w.drawn + 1 }) (qs.filterMap fun i => ops[i]?) a) :
    (Code.region id ops true).wp P Q a w :=
  wp_region_any hm (wpAny_ord n qs ms hB hQ h)
end
end Go.Proofs.YtpmlcfgbfhgpgaaGreatDoor
