/- Regions that draw their order, with operations that write: a script of steps: look (a value that old memory gives; may be taken at any time from there on, ahead of all that writes old memory), calc (a value that no memory gives; at any time from there on), go (alone ready at its turn). B: what lies below it is written only by the operations of D. Over any program. -/
import Derived.Test.YtpmlcfgbfhgpgaaGreatDoorScript
namespace Go.Proofs.YtpmlcfgbfhgpgaaGreatDoor
open Go.RowKit
set_option linter.unusedVariables false

/-- a world that comes after w0, with the same memory below B -/
structure Since (B : Nat) (w0 : World) where
  w : World
  below : Below B w0 w
theorem Since.keep {B : Nat} {w0 : World} (s : Since B w0) {a : Addr} {v : Value} (hb : a.block < B) (h : w0.cell? a = some v) : s.w.cell? a = some v := (s.below.cell hb).trans h

section
variable {P : Program} {ops : Array Oper} {md : Region.Mode}

inductive Play where
  | look (k : Nat)
  | calc (k : Nat)
  | go (k : Nat)

/-- it yields v in every world after w -/
def YieldsS (P : Program) (ops : Array Oper) (B : Nat) (w : World) (o : Oper) (v : Value) (a : Act) : Prop :=
  (Region.wanted o (yielded ops a.tmps) = true ∧ ∀ s : Since B w, purely P s.w v ((execOp a.eval o).run P s.w)) ∨ (Region.wanted o (yielded ops a.tmps) = false ∧ v = undef)
theorem YieldsS.later {B : Nat} {w w' : World} {o : Oper} {v : Value} {a : Act} (h : YieldsS P ops B w o v a) (hx : Below B w w') : YieldsS P ops B w' o v a :=
  h.imp (fun ⟨h1, h2⟩ => ⟨h1, fun s => h2 ⟨s.w, hx.trans s.below⟩⟩) id
theorem YieldsS.of_same {B : Nat} {w : World} {o : Oper} {v : Value} {a a' : Act} (hy : YieldsS P ops B w o v a) (he : execOp a'.eval o = execOp a.eval o)
    (hw : Region.wanted o (yielded ops a'.tmps) = Region.wanted o (yielded ops a.tmps)) : YieldsS P ops B w o v a' := by
  unfold YieldsS at *
  rw [he, hw]
  exact hy
/-- .. in every world at all -/
def YieldsA (P : Program) (ops : Array Oper) (o : Oper) (v : Value) (a : Act) : Prop :=
  (Region.wanted o (yielded ops a.tmps) = true ∧ ∀ w : World, purely P w v ((execOp a.eval o).run P w)) ∨ (Region.wanted o (yielded ops a.tmps) = false ∧ v = undef)
theorem YieldsA.s {B : Nat} {w : World} {o : Oper} {v : Value} {a : Act} (h : YieldsA P ops o v a) : YieldsS P ops B w o v a :=
  h.imp (fun ⟨h1, h2⟩ => ⟨h1, fun s => h2 s.w⟩) id
theorem YieldsA.of_same {o : Oper} {v : Value} {a a' : Act} (hy : YieldsA P ops o v a) (he : execOp a'.eval o = execOp a.eval o)
    (hw : Region.wanted o (yielded ops a'.tmps) = Region.wanted o (yielded ops a.tmps)) : YieldsA P ops o v a' := by
  unfold YieldsA at *
  rw [he, hw]
  exact hy
theorem YieldsS.wpOp {B i : Nat} {o : Oper} {v : Value} {a : Act} {w : World} {Q : Exit → Act → World → Prop} (hi : ops[i]? = some o) (hy : YieldsS P ops B w o v a)
    {K : Act → World → Prop} (h : K (a.put o.dst v) w) : wpOp P ops Q i K a w := by
  unfold Go.wpOp
  simp only [hi]
  rcases hy with ⟨hw, h1⟩ | ⟨hw, rfl⟩
  · simp only [hw, if_true]
    refine .inl ?_
    have h1 := h1 ⟨w, Below.refl _ _⟩
    unfold Oper.wp
    generalize (execOp a.eval o).run P w = r at *
    cases r with
    | ok n w' =>
      cases n <;> simp only [purely] at h1
      case value u => obtain ⟨rfl, rfl⟩ := h1; exact h
    | halt x w' => exact h1.elim
  · simp only [hw, Bool.false_eq_true, if_false]; exact h

/-- whatever order is picked; what is not in D keeps the memory below B -/
def wpAnyD (P : Program) (md : Region.Mode) (ops : Array Oper) (Q : Exit → Act → World → Prop) (B : Nat) (D : List Nat) : Nat → Array Bool → Act → World → Prop
  | 0, listed, a, w => Region.ready md ops listed = [] ∧ Q .normal a w
  | f + 1, listed, a, w => (Region.ready md ops listed = [] → Q .normal a w) ∧
      ∀ i ∈ Region.ready md ops listed, wpOp P ops Q i (fun a' w' => (i ∈ D ∨ Below B w w') ∧ wpAnyD P md ops Q B D f (listed.setIfInBounds i true) a' w') a w

theorem wpAny_of_D {Q : Exit → Act → World → Prop} {B : Nat} {D : List Nat} : ∀ (f : Nat) (listed : Array Bool) (a : Act) (w : World), wpAnyD P md ops Q B D f listed a w → wpAny P md ops Q f listed a w
  | 0, _, _, _, h => h
  | f + 1, _, _, _, h => ⟨h.1, fun i hi => wpOp_mono (fun a' w' h' => wpAny_of_D f _ a' w' h'.2) (h.2 i hi)⟩

/-- operation j waits for operation i -/
def Region.reachB (md : Region.Mode) (ops : Array Oper) (i : Nat) : Nat → Nat → Bool
  | 0, j => j == i
  | f + 1, j => j == i || match ops[j]? with
    | none => false
    | some o => o.after.any fun e => Region.binds md e && Region.reachB md ops i f e.on
theorem reach_listed {i : Nat} {listed : Array Bool} (inv : HeadInv md ops ops.size listed) : ∀ (f j : Nat), Region.reachB md ops i f j = true → listed.getD j false = true → listed.getD i false = true
  | 0, j, h, hl => by
    have : j = i := by simpa [Region.reachB] using h
    subst this; exact hl
  | f + 1, j, h, hl => by
    rw [Region.reachB, Bool.or_eq_true] at h
    rcases h with h | h
    · have : j = i := by simpa using h
      subst this; exact hl
    · split at h
      · cases h
      · rename_i o ho
        obtain ⟨x, hx, he⟩ := Array.any_eq_true.1 h
        rw [Bool.and_eq_true] at he
        exact reach_listed inv f _ he.2 (inv.closed j o ho hl _ (Array.getElem_mem hx) he.1)
theorem reach_waits {i : Nat} {listed : Array Bool} (inv : HeadInv md ops ops.size listed) (hun : listed.getD i true = false) {f j : Nat} (hji : j ≠ i) (h : Region.reachB md ops i f j = true) : j ∉ Region.ready md ops listed := by
  intro hr
  obtain ⟨_, o, ho, hall⟩ := mem_ready.1 hr
  cases f with
  | zero => exact hji (by simpa [Region.reachB] using h)
  | succ f =>
    rw [Region.reachB, Bool.or_eq_true] at h
    rcases h with h | h
    · exact hji (by simpa using h)
    · rw [ho] at h
      obtain ⟨x, hx, he⟩ := Array.any_eq_true.1 h
      rw [Bool.and_eq_true] at he
      have := reach_listed inv f _ he.2 (hall _ (Array.getElem_mem hx) he.1)
      rw [getD_both hun] at this
      cases this

theorem wpAnyD_look {B i : Nat} {D : List Nat} {oi : Oper} {v : Value} {Q : Exit → Act → World → Prop} (hi : ops[i]? = some oi) (hsel : ∀ (j : Nat) (o : Oper) cs b, ops[j]? = some o → o.op ≠ .select cs b)
    (hQ : ∀ c (a : Act) d v w, Q (.panic c) (a.put d v) w → Q (.panic c) a w) (hwait : ∀ (listed : Array Bool), listed.getD i true = false → HeadInv md ops ops.size listed → ∀ j ∈ Region.ready md ops listed, j ∉ D) :
    ∀ (f : Nat) (listed : Array Bool) (a : Act) (w : World), HeadInv md ops ops.size listed →
      (∀ j oj, ops[j]? = some oj → j ≠ i → listed.getD j true = false → (∀ e ∈ oj.after, Region.binds md e = true → e.on ≠ i) → oi.apart ops oj = true) →
      i ∈ Region.ready md ops listed → YieldsS P ops B w oi v a →
      wpAnyD P md ops Q B D f (listed.setIfInBounds i true) (a.put oi.dst v) w → wpAnyD P md ops Q B D (f + 1) listed a w := by
  intro f
  induction f with
  | zero =>
    intro listed a w inv _ hr hy H
    refine ⟨fun h => (by rw [h] at hr; cases hr), fun j hj => ?_⟩
    by_cases hji : j = i
    · subst hji; exact hy.wpOp hi ⟨.inr (Below.refl _ _), H⟩
    · have := ready_mono hj hji
      rw [H.1] at this
      cases this
  | succ f ih =>
    intro listed a w inv hfree hr hy H
    have hun := (mem_ready.1 hr).1
    refine ⟨fun h => (by rw [h] at hr; cases hr), fun j hj => ?_⟩
    by_cases hji : j = i
    · subst hji; exact hy.wpOp hi ⟨.inr (Below.refl _ _), H⟩
    · have hjD := hwait listed hun inv j hj
      obtain ⟨hjun, oj, hoj, hall⟩ := mem_ready.1 hj
      have hnot : ∀ e ∈ oj.after, Region.binds md e = true → e.on ≠ i := fun e he hb heq => by
        have h1 := hall e he hb
        rw [heq, getD_both hun] at h1
        cases h1
      have hjs : j < ops.size := (Array.getElem?_eq_some_iff.1 hoj).1
      have h2 := wpOp_putX hoj (hfree j oj hoj hji hjun hnot) (fun cs b => hsel i oi cs b hi) (fun cs b => hsel j oj cs b hoj) (fun c a w h => hQ c a _ _ w h) (H.2 j (ready_mono hj hji))
      have hfree' : ∀ k ok, ops[k]? = some ok → k ≠ i → (listed.setIfInBounds j true).getD k true = false →
          (∀ e ∈ ok.after, Region.binds md e = true → e.on ≠ i) → oi.apart ops ok = true := fun k ok hk hki hun hno => by
        refine hfree k ok hk hki ?_ hno
        by_cases hjk : j = k
        · subst hjk; exact hjun
        · rw [getD_set_ne true hjk] at hun; exact hun
      refine wpOp_mono (fun a' w' h3 => ⟨h3.2.1, ?_⟩) h2
      have hbel : Below B w w' := h3.2.1.resolve_left hjD
      refine ih (listed.setIfInBounds j true) a' w' (inv.set hj hjs) hfree' (ready_mono hr (Ne.symm hji)) ((hy.of_same h3.1.1 h3.1.2).later hbel) ?_
      rw [Array.setIfInBounds_comm _ _ hji]
      exact h3.2.2

theorem wpAnyD_calc {B i : Nat} {D : List Nat} {oi : Oper} {v : Value} {Q : Exit → Act → World → Prop} (hi : ops[i]? = some oi) (hsel : ∀ (j : Nat) (o : Oper) cs b, ops[j]? = some o → o.op ≠ .select cs b)
    (hQ : ∀ c (a : Act) d v w, Q (.panic c) (a.put d v) w → Q (.panic c) a w) :
    ∀ (f : Nat) (listed : Array Bool) (a : Act) (w : World), HeadInv md ops ops.size listed →
      (∀ j oj, ops[j]? = some oj → j ≠ i → listed.getD j true = false → (∀ e ∈ oj.after, Region.binds md e = true → e.on ≠ i) → oi.apart ops oj = true) →
      i ∈ Region.ready md ops listed → YieldsA P ops oi v a →
      wpAnyD P md ops Q B D f (listed.setIfInBounds i true) (a.put oi.dst v) w → wpAnyD P md ops Q B D (f + 1) listed a w := by
  intro f
  induction f with
  | zero =>
    intro listed a w inv _ hr hy H
    refine ⟨fun h => (by rw [h] at hr; cases hr), fun j hj => ?_⟩
    by_cases hji : j = i
    · subst hji; exact (hy.s (B := B)).wpOp hi ⟨.inr (Below.refl _ _), H⟩
    · have := ready_mono hj hji
      rw [H.1] at this
      cases this
  | succ f ih =>
    intro listed a w inv hfree hr hy H
    have hun := (mem_ready.1 hr).1
    refine ⟨fun h => (by rw [h] at hr; cases hr), fun j hj => ?_⟩
    by_cases hji : j = i
    · subst hji; exact (hy.s (B := B)).wpOp hi ⟨.inr (Below.refl _ _), H⟩
    · obtain ⟨hjun, oj, hoj, hall⟩ := mem_ready.1 hj
      have hnot : ∀ e ∈ oj.after, Region.binds md e = true → e.on ≠ i := fun e he hb heq => by
        have h1 := hall e he hb
        rw [heq, getD_both hun] at h1
        cases h1
      have hjs : j < ops.size := (Array.getElem?_eq_some_iff.1 hoj).1
      have h2 := wpOp_putX hoj (hfree j oj hoj hji hjun hnot) (fun cs b => hsel i oi cs b hi) (fun cs b => hsel j oj cs b hoj) (fun c a w h => hQ c a _ _ w h) (H.2 j (ready_mono hj hji))
      have hfree' : ∀ k ok, ops[k]? = some ok → k ≠ i → (listed.setIfInBounds j true).getD k true = false →
          (∀ e ∈ ok.after, Region.binds md e = true → e.on ≠ i) → oi.apart ops ok = true := fun k ok hk hki hun hno => by
        refine hfree k ok hk hki ?_ hno
        by_cases hjk : j = k
        · subst hjk; exact hjun
        · rw [getD_set_ne true hjk] at hun; exact hun
      refine wpOp_mono (fun a' w' h3 => ⟨h3.2.1, ?_⟩) h2
      refine ih (listed.setIfInBounds j true) a' w' (inv.set hj hjs) hfree' (ready_mono hr (Ne.symm hji)) (hy.of_same h3.1.1 h3.1.2) ?_
      rw [Array.setIfInBounds_comm _ _ hji]
      exact h3.2.2

def wpPlay (P : Program) (ops : Array Oper) (Q : Exit → Act → World → Prop) (B : Nat) (D : List Nat) : List Play → Act → World → Prop
  | [], a, w => Q .normal a w
  | .look k :: r, a, w => match ops[k]? with
    | none => False
    | some o => if Region.wanted o (yielded ops a.tmps) then ∃ v, (∀ s : Since B w, purely P s.w v ((execOp a.eval o).run P s.w)) ∧ wpPlay P ops Q B D r (a.put o.dst v) w else wpPlay P ops Q B D r (a.put o.dst undef) w
  | .calc k :: r, a, w => match ops[k]? with
    | none => False
    | some o => if Region.wanted o (yielded ops a.tmps) then ∃ v, (∀ w : World, purely P w v ((execOp a.eval o).run P w)) ∧ wpPlay P ops Q B D r (a.put o.dst v) w else wpPlay P ops Q B D r (a.put o.dst undef) w
  | .go k :: r, a, w => wpOp P ops Q k (fun a' w' => (k ∈ D ∨ Below B w w') ∧ wpPlay P ops Q B D r a' w') a w

theorem wpPlay_look {Q : Exit → Act → World → Prop} {B k : Nat} {D : List Nat} {r : List Play} {a : Act} {w : World} {o : Oper} (ho : ops[k]? = some o)
    (h : ∀ K : Act → Prop, (∀ a, wpPlay P ops Q B D r a w → K a) → if Region.wanted o (yielded ops a.tmps) then ∃ v, (∀ s : Since B w, purely P s.w v ((execOp a.eval o).run P s.w)) ∧ K (a.put o.dst v) else K (a.put o.dst undef)) : wpPlay P ops Q B D (.look k :: r) a w := by
  unfold wpPlay
  simp only [ho]
  exact h _ (fun _ h => h)
theorem wpPlay_calc {Q : Exit → Act → World → Prop} {B k : Nat} {D : List Nat} {r : List Play} {a : Act} {w : World} {o : Oper} (ho : ops[k]? = some o)
    (h : ∀ K : Act → Prop, (∀ a, wpPlay P ops Q B D r a w → K a) → if Region.wanted o (yielded ops a.tmps) then ∃ v, (∀ w : World, purely P w v ((execOp a.eval o).run P w)) ∧ K (a.put o.dst v) else K (a.put o.dst undef)) : wpPlay P ops Q B D (.calc k :: r) a w := by
  unfold wpPlay
  simp only [ho]
  exact h _ (fun _ h => h)
theorem wpPlay_go {Q : Exit → Act → World → Prop} {B k : Nat} {D : List Nat} {r : List Play} {a : Act} {w : World} {o : Oper} (ho : ops[k]? = some o) (hg : Region.wanted o (yielded ops a.tmps) = true)
    (h : ∀ K : Act → World → Prop, (∀ a' w', (k ∈ D ∨ Below B w w') ∧ wpPlay P ops Q B D r a' w' → K a' w') → wpList P ops (Exit.then K Q) [o] a w) : wpPlay P ops Q B D (.go k :: r) a w := by
  unfold wpPlay wpOp
  have h := h _ fun _ _ h => h
  unfold wpList at h
  simp only [hg, if_true] at h
  simp only [ho, hg, if_true]
  rcases h with h | ⟨h1, a', w', h2⟩
  · refine .inl ?_
    unfold Oper.wp at *
    generalize (execOp a.eval o).run P w = x at *
    cases x with
    | ok n w' =>
      cases n <;> simp only [Oper.upon] at h ⊢ <;> first | exact h | (refine h.mono fun e w'' he => ?_; cases e <;> exact he) | (refine Rows.mono h fun u w'' he => ?_; exact he)
    | halt x w' => cases x <;> simp only [Oper.upon] at h ⊢ <;> exact h
  · exact .inr ⟨h1, a', w', h2⟩
/-- .. one that is not wanted -/
theorem wpPlay_skip {Q : Exit → Act → World → Prop} {B k : Nat} {D : List Nat} {r : List Play} {a : Act} {w : World} {o : Oper} (ho : ops[k]? = some o) (hg : Region.wanted o (yielded ops a.tmps) = false)
    (h : wpPlay P ops Q B D r (a.put o.dst undef) w) : wpPlay P ops Q B D (.go k :: r) a w := by
  unfold wpPlay wpOp
  simp only [ho, hg]
  exact ⟨.inr (Below.refl _ _), h⟩
theorem wpPlay_nil {Q : Exit → Act → World → Prop} {B : Nat} {D : List Nat} {a : Act} {w : World} (h : Q .normal a w) : wpPlay P ops Q B D [] a w := h

def Region.playB (md : Region.Mode) (ops : Array Oper) (D : List Nat) : List Play → Array Bool → Bool
  | [], listed => (Region.ready md ops listed).isEmpty
  | .look i :: r, listed => (Region.ready md ops listed).contains i && Region.free md ops listed i && decide (i < ops.size) && (D.all fun d => d != i && Region.reachB md ops i ops.size d) && Region.playB md ops D r (listed.setIfInBounds i true)
  | .calc i :: r, listed => (Region.ready md ops listed).contains i && Region.free md ops listed i && decide (i < ops.size) && Region.playB md ops D r (listed.setIfInBounds i true)
  | .go k :: r, listed => decide (Region.ready md ops listed = [k]) && decide (k < ops.size) && Region.playB md ops D r (listed.setIfInBounds k true)

theorem wpAnyD_play {Q : Exit → Act → World → Prop} {B : Nat} {D : List Nat} (hsel : Region.noSelect ops = true) (hQ : ∀ c (a : Act) d v w, Q (.panic c) (a.put d v) w → Q (.panic c) a w) :
    ∀ (ts : List Play) (listed : Array Bool) (a : Act) (w : World), HeadInv md ops ops.size listed → Region.playB md ops D ts listed = true → wpPlay P ops Q B D ts a w → wpAnyD P md ops Q B D ts.length listed a w
  | [], listed, a, w, inv, hB, h => ⟨by simpa [Region.playB] using hB, h⟩
  | .go k :: ts, listed, a, w, inv, hB, h => by
    simp only [Region.playB, Bool.and_eq_true, decide_eq_true_eq] at hB
    refine ⟨fun h0 => (by rw [hB.1.1] at h0; cases h0), fun i hi => ?_⟩
    have hi2 := hi
    rw [hB.1.1] at hi
    obtain rfl : i = k := by simpa using hi
    exact wpOp_mono (fun a' w' h' => ⟨h'.1, wpAnyD_play hsel hQ ts _ a' w' (inv.set hi2 hB.1.2) hB.2 h'.2⟩) h
  | .look i :: ts, listed, a, w, inv, hB, h => by
    simp only [Region.playB, Bool.and_eq_true, decide_eq_true_eq, List.all_eq_true] at hB
    obtain ⟨⟨⟨⟨hr, hf⟩, hin⟩, hD⟩, hB'⟩ := hB
    have hr' : i ∈ Region.ready md ops listed := by simpa using hr
    have hi0 : ops[i]? = some ops[i] := Array.getElem?_eq_getElem hin
    unfold wpPlay at h
    simp only [hi0] at h
    have hex : ∃ v, YieldsS P ops B w ops[i] v a ∧ wpPlay P ops Q B D ts (a.put ops[i].dst v) w := by
      by_cases hw : Region.wanted ops[i] (yielded ops a.tmps) = true
      · rw [if_pos hw] at h
        obtain ⟨v, h1, h2⟩ := h
        exact ⟨v, .inl ⟨hw, h1⟩, h2⟩
      · rw [if_neg hw] at h
        exact ⟨undef, .inr ⟨by simpa using hw, rfl⟩, h⟩
    obtain ⟨v, hy, hK⟩ := hex
    refine wpAnyD_look hi0 (Region.noSelect_spec hsel) hQ (fun listed' hun inv' j hj hjD => ?_) _ listed a w inv (Region.free_spec hi0 hf) hr' hy (wpAnyD_play hsel hQ ts _ _ w (inv.set hr' hin) hB' hK)
    have := hD j hjD
    exact reach_waits inv' hun (by have := this.1; simpa using this) this.2 hj
  | .calc i :: ts, listed, a, w, inv, hB, h => by
    simp only [Region.playB, Bool.and_eq_true, decide_eq_true_eq] at hB
    obtain ⟨⟨⟨hr, hf⟩, hin⟩, hB'⟩ := hB
    have hr' : i ∈ Region.ready md ops listed := by simpa using hr
    have hi0 : ops[i]? = some ops[i] := Array.getElem?_eq_getElem hin
    unfold wpPlay at h
    simp only [hi0] at h
    have hex : ∃ v, YieldsA P ops ops[i] v a ∧ wpPlay P ops Q B D ts (a.put ops[i].dst v) w := by
      by_cases hw : Region.wanted ops[i] (yielded ops a.tmps) = true
      · rw [if_pos hw] at h
        obtain ⟨v, h1, h2⟩ := h
        exact ⟨v, .inl ⟨hw, h1⟩, h2⟩
      · rw [if_neg hw] at h
        exact ⟨undef, .inr ⟨by simpa using hw, rfl⟩, h⟩
    obtain ⟨v, hy, hK⟩ := hex
    exact wpAnyD_calc hi0 (Region.noSelect_spec hsel) hQ _ listed a w inv (Region.free_spec hi0 hf) hr' hy (wpAnyD_play hsel hQ ts _ _ w (inv.set hr' hin) hB' hK)

theorem wpAny_play {Q : Exit → Act → World → Prop} {a : Act} {w : World} (B : Nat) (D : List Nat) (ts : List Play)
    (hB : (Region.noSelect ops && decide (ts.length = ops.size) && Region.playB .any ops D ts (Array.replicate ops.size false)) = true)
    (hQ : ∀ c (a : Act) d v w, Q (.panic c) (a.put d v) w → Q (.panic c) a w) (h : wpPlay P ops Q B D ts a w) :
    wpAny P .any ops Q ops.size (Array.replicate ops.size false) a w := by
  simp only [Bool.and_eq_true, decide_eq_true_eq] at hB
  obtain ⟨⟨hsel, hl⟩, ho⟩ := hB
  have inv0 : HeadInv .any ops ops.size (Array.replicate ops.size false) :=
    ⟨by simp, fun j oj _ hl => (by rw [getD_replicate_false] at hl; cases hl), fun t ht1 ht2 => by omega⟩
  have := wpAnyD_play (P := P) (B := B) hsel hQ ts _ a w inv0 ho h
  rw [hl] at this
  exact wpAny_of_D _ _ _ _ this

theorem wpIn_region_play {l m id : Nat} {Q : Exit → Act → World → Prop} {a : Act} {w : World} (B : Nat) (D : List Nat) (ts : List Play) (hm : P.follows .mixedOrders = true) (hd : noDefer ops = true)
    (hB : (Region.noSelect ops && decide (ts.length = ops.size) && Region.playB .any ops D ts (Array.replicate ops.size false)) = true)
    (hQ : ∀ c (a : Act) d v w, Q (.panic c) (a.put d v) w → Q (.panic c) a w) (hQ2 : ∀ a w, ¬ Q .outgrown a w) (h : wpPlay P ops Q B D ts a { w with drawn := w.drawn + 1 }) :
    (Code.region id ops true).wpIn (Fence.wide.inRound l) m P Q a w :=
  wpIn_region_any hm (wpAnyIn_of hd hQ2 _ _ _ _ (wpAny_play B D ts hB hQ h))
theorem wp_region_play {id : Nat} {Q : Exit → Act → World → Prop} {a : Act} {w : World} (B : Nat) (D : List Nat) (ts : List Play) (hm : P.follows .mixedOrders = true)
    (hB : (Region.noSelect ops && decide (ts.length = ops.size) && Region.playB .any ops D ts (Array.replicate ops.size false)) = true)
    (hQ : ∀ c (a : Act) d v w, Q (.panic c) (a.put d v) w → Q (.panic c) a w) (h : wpPlay P ops Q B D ts a { w with drawn := w.drawn + 1 }) :
    (Code.region id ops true).wp P Q a w :=
  wp_region_any hm (wpAny_play B D ts hB hQ h)
end

end Go.Proofs.YtpmlcfgbfhgpgaaGreatDoor
