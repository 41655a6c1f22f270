/- A range over a function that hands out two values and has no row of its own: the iterator's contract, the caller's law. Over any program. -/
import Derived.Test.YthmdecgkbjdabaaIter
namespace Go.Proofs.Ythmdecgkbjdabaa
open Go.RowKit
set_option linter.unusedVariables false

/-- The iterator goes over xs, handing out u x and v x. The rounds never stop it. What lay in w0 stays, but for block row. -/
def IterN {α : Type} (P : Program) (gf : Nat) (lb : Array Value) (u v : α → Value) (xs : List α) (w0 : World) (row : Option Nat) : Prop :=
  ∀ (l : Nat) (J : Nat → World → Prop) (W : World), w0.grownBy W row →
    (∀ k W1 W2, J k W1 → Ext W1 W2 → J k W2) →
    (∀ k x W1, xs[k]? = some x → J k W1 → w0.grownBy W1 row →
      YieldAt Fence.wide 0 P l #[u x, v x] W1 fun e W' => e = .returned (.bool true) ∧ J (k + 1) W' ∧ w0.grownBy W' row) →
    J 0 W →
    CallsIn Fence.wide 0 P gf (#[.func (.yield l) #[] #[]] ++ lb) W fun e W' => (∃ v, e = .returned v) ∧ J xs.length W'
def postN (J : World → Prop) (w0 : World) (row : Option Nat) (W : World) : Exit → Act → World → Prop
  | .normal, _, W' => KeepsOthers W W' ∧ w0.grownBy W' row ∧ J W'
  | _, _, _ => False

theorem wp_range2 {P : Program} {α : Type} {g : Operand} {p q : Tmp} {assign body : Code} {Q : Exit → Act → World → Prop} {a : Act} {w : World}
    {gf : Nat} {lb : Array Value} (hg : a.eval g = .func (.func gf) #[] lb) (eg : Enters P gf) {u v : α → Value}
    {xs : List α} {w0 : World} {row : Option Nat} (hseq : IterN P gf lb u v xs w0 row) (hb0 : w0.grownBy w row)
    (I : Nat → World → Prop)
    (hI : ∀ k W1 W2 row, I k W1 → W1.grownBy W2 row → (∀ r, row = some r → w.heap.size ≤ r ∧ ∃ o : Obj, W1.heap[r]? = some o ∧ o.isCells = false) → I k W2)
    (h0 : I 0 w) (a₁ : α → Act)
    (hassign : ∀ (l : Nat) (x : α) (W : World) (K : Act → World → Prop), K (a₁ x) W → assign.wpIn (Fence.wide.inRound l) 0 P (Exit.then K (fun _ _ _ => False)) { tmps := (a.tmps.setIfInBounds p (u x)).setIfInBounds q (v x), defers := [] } W)
    (hbody : ∀ (l k : Nat) (x : α) (W : World), xs[k]? = some x → I k W → w0.grownBy W row → body.wpIn (Fence.wide.inRound l) 0 P (postN (I (k + 1)) w0 row W) (a₁ x) W)
    (hdone : ∀ (D : Nat) (W : World), w.heap.size ≤ D → I xs.length W → W.heap[D]? = some (.deferred (some [])) → Q .normal { a with defers := { target := .collected D, args := #[] } :: a.defers } W) :
    (Code.rangeFunc g #[p, q] assign body).wpIn Fence.wide 0 P Q a w := by
  refine wpIn_rangeFunc ?_
  intro fn hfn
  rw [show Fence.wide.round = none from rfl]
  obtain ⟨rec, hrec⟩ : ∃ rec : LoopState → Option Code → Loop, rec = fun st pe => { state := st, pending := pe, fn, tmps := a.tmps, params := #[p, q], assign, body, defers := w.heap.size } := ⟨_, rfl⟩
  obtain ⟨W1, hW1⟩ : ∃ W1, (w.alloc (.deferred (some []))).alloc (.loop (rec .ready none)) = W1 := ⟨_, rfl⟩
  have hL1 : W1.heap[w.heap.size + 1]? = some (.loop (rec .ready none)) := by
    rw [← hW1]; have := World.alloc_heap_new (w.alloc (.deferred (some []))) (.loop (rec .ready none)); rwa [World.size_alloc] at this
  have hK1 : W1.heap[w.heap.size]? = some (.deferred (some [])) := by
    rw [← hW1]; exact (Below.heap_alloc _ _ _ (by simp)).trans (World.alloc_heap_new w _)
  have hs1 : W1.heap.size = w.heap.size + 2 := by rw [← hW1]; simp
  have hE1 : Ext w W1 := by rw [← hW1]; exact (Ext.alloc _ _).trans (Ext.alloc _ _)
  have hb1 : w0.grownBy W1 row := grownBy_trans_new hb0 (grownBy_of_ext hE1 none) (fun x e => by cases e)
  have hI1 : I 0 W1 := hI 0 w W1 none h0 ⟨hE1.os, hE1.tape, hE1.output, hE1.size, fun k hk _ => hE1.block k hk⟩ (fun r e => by cases e)
  refine ⟨w.heap.size + 1, [{ target := .collected w.heap.size, args := #[] }], W1, { target := .fn (.func gf) lb, args := #[.func (.yield (w.heap.size + 1)) #[] #[]] }, W1, gf,
    #[.func (.yield (w.heap.size + 1)) #[] #[]] ++ lb, W1, ?_, ?_, ?_, ?_, (fun h => by cases h), ?_⟩
  · rw [← hW1, hrec]; exact run_enterLoop_outer _ _ _ _ _
  · simp only [resolve, hg]
    simp [go_sem]
  · intro f' _; trivial
  · simp [invoke, go_sem, eg _ _]
  · refine (hseq (w.heap.size + 1)
      (fun k W => I k W ∧ W.heap[w.heap.size + 1]? = some (.loop (rec .ready none)) ∧ W.heap[w.heap.size]? = some (.deferred (some [])))
      W1 hb1 ?_ ?_ ⟨hI1, hL1, hK1⟩).mono ?_
    · rintro k A B ⟨h1, h2, h3⟩ hx
      have hl2 : w.heap.size + 1 < A.heap.size := (Array.getElem?_eq_some_iff.1 h2).1
      exact ⟨hI k A B none h1 (grownBy_of_ext hx none) (fun r e => by cases e), (hx.block _ hl2).trans h2, (hx.block _ (by omega)).trans h3⟩
    · rintro k x W hx ⟨hi, hl, hk⟩ hx0
      have hlt : w.heap.size + 1 < W.heap.size := (Array.getElem?_eq_some_iff.1 hl).1
      have hy := run_yield (P := P) (args := #[u x, v x]) hl (by rw [hrec]; rfl)
      rw [hrec] at hy
      have ez : ((#[p, q].zip #[u x, v x]).foldl (fun tmps (t, a) => tmps.setIfInBounds t a) a.tmps : Array Value) = (a.tmps.setIfInBounds p (u x)).setIfInBounds q (v x) := by simp
      dsimp only at hy
      rw [ez] at hy
      refine ⟨fn, _, assign, body, hy, roundIn_of_wpIn hfn ?_⟩
      refine hassign _ x W _ ⟨_, run_beginRound hl (by rw [hrec]), ?_⟩
      have hgo : W.grownBy (W.putObj (w.heap.size + 1) (.loop { rec .ready none with state := .busy })) (some (w.heap.size + 1)) := grownBy_putObj' _ _ _
      have hl2 : (W.putObj (w.heap.size + 1) (.loop { rec .ready none with state := .busy })).heap[w.heap.size + 1]? = some (.loop { rec .ready none with state := .busy }) := World.putObj_heap_same hlt
      have hk2 : (W.putObj (w.heap.size + 1) (.loop { rec .ready none with state := .busy })).heap[w.heap.size]? = some (.deferred (some [])) := (World.putObj_heap_other (by omega)).trans hk
      have hx2 : w0.grownBy (W.putObj (w.heap.size + 1) (.loop { rec .ready none with state := .busy })) row := grownBy_putObj_new hx0 (by have := hb0.size; omega) _
      have hi2 := hI k W _ _ hi hgo (fun r e => by cases e; exact ⟨by omega, ⟨_, hl, rfl⟩⟩)
      refine wpIn_mono (hbody _ k x _ hx hi2 hx2) ?_
      have fin : ∀ (W3 : World), KeepsOthers (W.putObj (w.heap.size + 1) (.loop { rec .ready none with state := .busy })) W3 →
          (Instr.endRound (w.heap.size + 1) none).run P W3 = .ok (.bool true) (W3.putObj (w.heap.size + 1) (.loop (rec .ready none))) ∧
          W3.heap[w.heap.size + 1]? = some (.loop { rec .ready none with state := .busy }) ∧
          (W3.putObj (w.heap.size + 1) (.loop (rec .ready none))).heap[w.heap.size + 1]? = some (.loop (rec .ready none)) ∧
          (W3.putObj (w.heap.size + 1) (.loop (rec .ready none))).heap[w.heap.size]? = some (.deferred (some [])) := fun W3 hk3 => by
        have hl3 := hk3.same _ _ hl2 rfl
        have := run_endRound (P := P) none hl3
        rw [hrec] at this ⊢
        exact ⟨this, by rw [hrec] at hl3; exact hl3, World.putObj_heap_same (Array.getElem?_eq_some_iff.1 hl3).1, (World.putObj_heap_other (by omega)).trans (hk3.same _ _ hk2 rfl)⟩
      rintro e a3 W3 hp
      cases e with
      | normal =>
        obtain ⟨hk3, hx3, hi3⟩ := hp
        obtain ⟨hr, hl3, hl4, hk4⟩ := fin W3 hk3
        have hs3 := hk3.size
        simp at hs3
        exact ⟨_, _, hr, rfl, ⟨hI (k + 1) W3 _ _ hi3 (grownBy_putObj' _ _ _) (fun r e => by cases e; exact ⟨by omega, ⟨_, hl3, rfl⟩⟩), hl4, hk4⟩,
          grownBy_putObj_new hx3 (by have := hb0.size; omega) _⟩
      | ret => exact hp.elim
      | exit id => exact hp.elim
      | goto t => exact hp.elim
      | panic ch => exact hp.elim
      | outgrown => exact hp.elim
    · rintro e W2 ⟨⟨v, rfl⟩, hi, hl, hk⟩
      refine ⟨none, _, by have := run_endLoop (P := P) hl (by rw [hrec]; simp); rw [hrec] at this; exact this, hdone w.heap.size _ (Nat.le_refl _) ?_ ((World.putObj_heap_other (by omega)).trans hk)⟩
      exact hI xs.length W2 _ _ hi (grownBy_putObj' _ _ _) (fun r e => by cases e; exact ⟨by omega, ⟨_, hl, rfl⟩⟩)
end Go.Proofs.Ythmdecgkbjdabaa
