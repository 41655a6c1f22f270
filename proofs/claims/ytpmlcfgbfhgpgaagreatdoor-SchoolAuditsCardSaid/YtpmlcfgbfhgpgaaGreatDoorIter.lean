/- A range over a function whose iterator writes one row of its own between the rounds: the iterator's contract, the caller's law. Over any program. -/
import Derived.Test.YtpmlcfgbfhgpgaaGreatDoorRegion
import Derived.RangeFuncFrom
import Derived.RangeFuncLeaves
import Derived.Shelf.Abstract
namespace Go.Proofs.YtpmlcfgbfhgpgaaGreatDoor
open Go.RowKit Go.Shelf
set_option linter.unusedVariables false

/-- The iterator goes over xs; its own row is block c; what it hands out reads as x by Φ. The rounds never stop it. What lay in w0 stays, but for block row, the caller's own. -/
def IterC {α : Type} (P : Program) (gf : Nat) (lb : Array Value) (Φ : Nat → α → Value → World → Prop) (xs : List α) (w0 : World) (row : Option Nat) : Prop :=
  ∀ (l : Nat) (J : Nat → Nat → World → Prop) (W : World), w0.grownBy W row →
    (∀ c k W1 W2, J c k W1 → W.heap.size ≤ c → W1.grownBy W2 (some c) → J c k W2) →
    (∀ c k x v W1, xs[k]? = some x → J c k W1 → W.heap.size ≤ c → c < W1.heap.size → w0.grownBy W1 row → Φ c x v W1 →
      YieldAt Fence.wide 0 P l #[v] W1 fun e W' => e = .returned (.bool true) ∧ J c (k + 1) W' ∧ W'.heap[c]? = W1.heap[c]? ∧ w0.grownBy W' row) →
    (∀ c, W.heap.size ≤ c → J c 0 W) →
    CallsIn Fence.wide 0 P gf (#[.func (.yield l) #[] #[]] ++ lb) W fun e W' => (∃ v, e = .returned v) ∧ ∃ c, W.heap.size ≤ c ∧ J c xs.length W'

/-- how a round may end -/
def postR (c : Nat) (J : World → Prop) (w0 : World) (row : Option Nat) (W : World) : Exit → Act → World → Prop
  | .normal, _, W' => KeepsOthers W W' ∧ W'.heap[c]? = W.heap[c]? ∧ w0.grownBy W' row ∧ J W'
  | _, _, _ => False

theorem grownBy_trans_new {a b d : World} {r : Option Nat} {row : Option Nat} (h : a.grownBy b r) (k : b.grownBy d row) (hr : ∀ x, row = some x → a.heap.size ≤ x ∨ r = some x) : a.grownBy d r :=
  ⟨k.os.trans h.os, k.tape.trans h.tape, k.output.trans h.output, Nat.le_trans h.size k.size, fun i hi hne => (k.block i (Nat.lt_of_lt_of_le hi h.size) (fun e => by
    rcases hr i e.symm with h1 | h1
    · omega
    · exact hne h1.symm)).trans (h.block i hi hne)⟩
theorem grownBy_of_ext {W W' : World} (h : Ext W W') (row : Option Nat) : W.grownBy W' row := ⟨h.os, h.tape, h.output, h.size, fun k hk _ => h.block k hk⟩
theorem grownBy_putObj_new {w0 W : World} {row : Option Nat} (h : w0.grownBy W row) {l : Nat} (hl : w0.heap.size ≤ l) (o : Obj) : w0.grownBy (W.putObj l o) row :=
  grownBy_trans_new h (grownBy_putObj' W l o) (fun x e => by cases e; exact .inl hl)

theorem wp_range {P : Program} {α : Type} {g : Operand} {p : Tmp} {assign body : Code} {Q : Exit → Act → World → Prop} {a : Act} {w : World}
    {gf : Nat} {lb : Array Value} (hg : a.eval g = .func (.func gf) #[] lb) (eg : Enters P gf)
    {Φ : Nat → α → Value → World → Prop} (hΦ : ∀ c x v W W' row, Φ c x v W → W.grownBy W' row → (∀ r, row = some r → ∃ o : Obj, W.heap[r]? = some o ∧ o.isCells = false) → Φ c x v W')
    {xs : List α} {w0 : World} {row : Option Nat} (hseq : IterC P gf lb Φ xs w0 row) (hb0 : w0.grownBy w row)
    (I : Nat → Nat → World → Prop)
    (hI : ∀ c k W1 W2 row, I c k W1 → w.heap.size ≤ c → W1.grownBy W2 row → (∀ r, row = some r → w.heap.size ≤ r ∧ (r = c ∨ ∃ o : Obj, W1.heap[r]? = some o ∧ o.isCells = false)) → I c k W2)
    (h0 : ∀ c, w.heap.size ≤ c → I c 0 w) (a₁ : Value → Act)
    (hassign : ∀ (l : Nat) (v : Value) (W : World) (K : Act → World → Prop), K (a₁ v) W → assign.wpIn (Fence.wide.inRound l) 0 P (Exit.then K (fun _ _ _ => False)) { tmps := a.tmps.setIfInBounds p v, defers := [] } W)
    (hbody : ∀ (l c k : Nat) (x : α) (v : Value) (W : World), xs[k]? = some x → I c k W → w.heap.size ≤ c → c < W.heap.size → w0.grownBy W row → Φ c x v W → body.wpIn (Fence.wide.inRound l) 0 P (postR c (I c (k + 1)) w0 row W) (a₁ v) W)
    (hdone : ∀ (D c : Nat) (W : World), w.heap.size ≤ D → w.heap.size ≤ c → D ≠ c → I c xs.length W → W.heap[D]? = some (.deferred (some [])) → Q .normal { a with defers := { target := .collected D, args := #[] } :: a.defers } W) :
    (Code.rangeFunc g #[p] assign body).wpIn Fence.wide 0 P Q a w := by
  refine wpIn_rangeFunc ?_
  intro fn hfn
  rw [show Fence.wide.round = none from rfl]
  obtain ⟨rec, hrec⟩ : ∃ rec : LoopState → Option Code → Loop, rec = fun st pe => { state := st, pending := pe, fn, tmps := a.tmps, params := #[p], assign, body, defers := w.heap.size } := ⟨_, rfl⟩
  obtain ⟨W1, hW1⟩ : ∃ W1, (w.alloc (.deferred (some []))).alloc (.loop (rec .ready none)) = W1 := ⟨_, rfl⟩
  have hL1 : W1.heap[w.heap.size + 1]? = some (.loop (rec .ready none)) := by
    rw [← hW1]; have := World.alloc_heap_new (w.alloc (.deferred (some []))) (.loop (rec .ready none)); rwa [World.size_alloc] at this
  have hK1 : W1.heap[w.heap.size]? = some (.deferred (some [])) := by
    rw [← hW1]; exact (Below.heap_alloc _ _ _ (by simp)).trans (World.alloc_heap_new w _)
  have hs1 : W1.heap.size = w.heap.size + 2 := by rw [← hW1]; simp
  have hE1 : Ext w W1 := by rw [← hW1]; exact (Ext.alloc _ _).trans (Ext.alloc _ _)
  have hb1 : w0.grownBy W1 row := grownBy_trans_new hb0 (grownBy_of_ext hE1 none) (fun x e => by cases e)
  have hI1 : ∀ c, W1.heap.size ≤ c → I c 0 W1 := fun c hc => hI c 0 w W1 none (h0 c (by omega)) (by omega) ⟨hE1.os, hE1.tape, hE1.output, hE1.size, fun k hk _ => hE1.block k hk⟩ (fun r e => by cases e)
  refine ⟨w.heap.size + 1, [{ target := .collected w.heap.size, args := #[] }], W1, { target := .fn (.func gf) lb, args := #[.func (.yield (w.heap.size + 1)) #[] #[]] }, W1, gf,
    #[.func (.yield (w.heap.size + 1)) #[] #[]] ++ lb, W1, ?_, ?_, ?_, ?_, (fun h => by cases h), ?_⟩
  · rw [← hW1, hrec]; exact run_enterLoop_outer _ _ _ _ _
  · simp only [resolve, hg]
    simp [go_sem]
  · intro f' _; trivial
  · simp [invoke, go_sem, eg _ _]
  · refine (hseq (w.heap.size + 1)
      (fun c k W => I c k W ∧ W.heap[w.heap.size + 1]? = some (.loop (rec .ready none)) ∧ W.heap[w.heap.size]? = some (.deferred (some [])))
      W1 hb1 ?_ ?_ (fun c hc => ⟨hI1 c hc, hL1, hK1⟩)).mono ?_
    · rintro c k A B ⟨h1, h2, h3⟩ hc hgr
      have hl2 : w.heap.size + 1 < A.heap.size := (Array.getElem?_eq_some_iff.1 h2).1
      exact ⟨hI c k A B (some c) h1 (by omega) hgr (fun r e => by cases e; exact ⟨by omega, .inl rfl⟩),
        (hgr.block _ hl2 (by simp; omega)).trans h2, (hgr.block _ (by omega) (by simp; omega)).trans h3⟩
    · rintro c k x v W hx ⟨hi, hl, hk⟩ hc hcl hx0 hph
      have hlt : w.heap.size + 1 < W.heap.size := (Array.getElem?_eq_some_iff.1 hl).1
      have hy := run_yield (P := P) (args := #[v]) hl (by rw [hrec]; rfl)
      rw [hrec] at hy
      have ez : ((#[p].zip #[v]).foldl (fun tmps (t, a) => tmps.setIfInBounds t a) a.tmps : Array Value) = a.tmps.setIfInBounds p v := by simp
      dsimp only at hy
      rw [ez] at hy
      refine ⟨fn, _, assign, body, hy, roundIn_of_wpIn hfn ?_⟩
      refine hassign _ v W _ ⟨_, run_beginRound hl (by rw [hrec]), ?_⟩
      have hgo : W.grownBy (W.putObj (w.heap.size + 1) (.loop { rec .ready none with state := .busy })) (some (w.heap.size + 1)) := grownBy_putObj' _ _ _
      have hl2 : (W.putObj (w.heap.size + 1) (.loop { rec .ready none with state := .busy })).heap[w.heap.size + 1]? = some (.loop { rec .ready none with state := .busy }) := World.putObj_heap_same hlt
      have hk2 : (W.putObj (w.heap.size + 1) (.loop { rec .ready none with state := .busy })).heap[w.heap.size]? = some (.deferred (some [])) := (World.putObj_heap_other (by omega)).trans hk
      have hc2 : (W.putObj (w.heap.size + 1) (.loop { rec .ready none with state := .busy })).heap[c]? = W.heap[c]? := World.putObj_heap_other (by omega)
      have hx2 : w0.grownBy (W.putObj (w.heap.size + 1) (.loop { rec .ready none with state := .busy })) row := grownBy_putObj_new hx0 (by have := hb0.size; omega) _
      have hi2 := hI c k W _ _ hi (by omega) hgo (fun r e => by cases e; exact ⟨by omega, .inr ⟨_, hl, rfl⟩⟩)
      have hp2 := hΦ c x v W _ _ hph hgo (fun r e => by cases e; exact ⟨_, hl, rfl⟩)
      refine wpIn_mono (hbody _ c k x v _ hx hi2 (by omega) (by simpa using hcl) hx2 hp2) ?_
      have fin : ∀ (W3 : World), KeepsOthers (W.putObj (w.heap.size + 1) (.loop { rec .ready none with state := .busy })) W3 →
          (Instr.endRound (w.heap.size + 1) none).run P W3 = .ok (.bool true) (W3.putObj (w.heap.size + 1) (.loop (rec .ready none))) ∧
          W3.heap[w.heap.size + 1]? = some (.loop { rec .ready none with state := .busy }) ∧
          (W3.putObj (w.heap.size + 1) (.loop (rec .ready none))).heap[w.heap.size + 1]? = some (.loop (rec .ready none)) ∧
          (W3.putObj (w.heap.size + 1) (.loop (rec .ready none))).heap[w.heap.size]? = some (.deferred (some [])) := fun W3 hk3 => by
        have hl3 := hk3.same _ _ hl2 rfl
        have := run_endRound (P := P) none hl3
        rw [hrec] at this ⊢
        exact ⟨this, by rw [hrec] at hl3; exact hl3, World.putObj_heap_same (Array.getElem?_eq_some_iff.1 hl3).1, (World.putObj_heap_other (by omega)).trans (hk3.same _ _ hk2 rfl)⟩
      rintro e a3 W3 hp
      cases e with
      | normal =>
        obtain ⟨hk3, hc3, hx3, hi3⟩ := hp
        obtain ⟨hr, hl3, hl4, hk4⟩ := fin W3 hk3
        have hs3 := hk3.size
        simp at hs3
        exact ⟨_, _, hr, rfl, ⟨hI c (k + 1) W3 _ _ hi3 (by omega) (grownBy_putObj' _ _ _) (fun r e => by cases e; exact ⟨by omega, .inr ⟨_, hl3, rfl⟩⟩), hl4, hk4⟩,
          ((World.putObj_heap_other (by omega)).trans hc3).trans hc2, grownBy_putObj_new hx3 (by have := hb0.size; omega) _⟩
      | ret => exact hp.elim
      | exit id => exact hp.elim
      | goto t => exact hp.elim
      | panic ch => exact hp.elim
      | outgrown => exact hp.elim
    · rintro e W2 ⟨⟨v, rfl⟩, c, hc, hi, hl, hk⟩
      refine ⟨none, _, by have := run_endLoop (P := P) hl (by rw [hrec]; simp); rw [hrec] at this; exact this, hdone w.heap.size c _ (Nat.le_refl _) (by omega) (by omega) ?_ ((World.putObj_heap_other (by omega)).trans hk)⟩
      exact hI c xs.length W2 _ _ hi (by omega) (grownBy_putObj' _ _ _) (fun r e => by cases e; exact ⟨by omega, .inr ⟨_, hl, rfl⟩⟩)
end Go.Proofs.YtpmlcfgbfhgpgaaGreatDoor
