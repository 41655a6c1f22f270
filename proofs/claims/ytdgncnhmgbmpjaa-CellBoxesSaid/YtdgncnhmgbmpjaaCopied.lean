/- Walk: copied, a paradigm in new memory. -/
import Derived.Test.YtdgncnhmgbmpjaaCopy
import Derived.Test.YtdgncnhmgbmpjaaMore
namespace Go.Proofs.Ytdgncnhmgbmpjaa
open Go.RowKit Go.Shelf
set_option linter.unusedVariables false

theorem OInts.low {e : TypeId} {w : World} {B B' : Nat} {v : Value} {l : List Int} (h : OInts e w B v l) (hB : B' ≤ B) : OInts e w B' v l := by
  refine ⟨h.1, ?_⟩
  rcases h.2 with h | ⟨g, cap, cur, h1, h2, h3⟩
  · exact .inl h
  · exact .inr ⟨g, cap, cur, h1, by omega, h3⟩
/-- neither a row of ints nor of entries -/
def Neither (o : Obj) : Prop := ∀ cur, o ≠ .cells cur 3 (0, 0) ∧ o ≠ .cells cur 42 (0, 0)
theorem OEnts.kept {w w' : World} {B : Nat} {v : Value} {es : List Ent} {row : Option Nat} (h : OEnts w B v es) (hg : w.grownBy w' row) (hr : ∀ r, row = some r → ∃ o : Obj, w.heap[r]? = some o ∧ Neither o) : OEnts w' B v es := by
  obtain ⟨us, h1, h2⟩ := h
  refine ⟨us, World.ownsRow.kept h1 hg ?_, h2.kept hg (fun r h => by obtain ⟨o, ho, hn⟩ := hr r h; exact ⟨o, ho, fun cur => (hn cur).1⟩)⟩
  rcases h1.2 with ⟨rfl, _⟩ | ⟨g, cap, cur, rfl, _, hgb, _⟩
  · exact .inl rfl
  · refine .inr fun he => ?_
    simp only [Value.ownBlock] at he
    obtain ⟨o, ho, hne⟩ := hr g he.symm
    rw [hgb] at ho
    injection ho with ho
    exact (hne cur).2 ho.symm
/-- a box with a paradigm -/
def BoxP (W : World) (g : Nat) (a b : Value) : Prop := W.heap[g]? = some (.cells #[a, b] 25 (0, 0))
theorem BoxP.new (W : World) (a b : Value) {g : Nat} (hg : W.heap.size = g) : BoxP (W.alloc (.cells #[a, b] 25)) g a b := by subst hg; exact World.alloc_heap_new W _
theorem BoxP.lt {W : World} {g : Nat} {a b : Value} (h : BoxP W g a b) : g < W.heap.size := (Array.getElem?_eq_some_iff.1 h).1
theorem BoxP.ext {W W' : World} {g : Nat} {a b : Value} (h : BoxP W g a b) (hx : Ext W W') : BoxP W' g a b := (hx.block g h.lt).trans h
theorem BoxP.kept {W W' : World} {g : Nat} {a b : Value} {row : Option Nat} (h : BoxP W g a b) (hg : W.grownBy W' row) (hr : row ≠ some g) : BoxP W' g a b := (hg.block g h.lt (fun e => hr e.symm)).trans h
theorem BoxP.c0 {W : World} {g : Nat} {a b : Value} (h : BoxP W g a b) : W.cell? ⟨g, 0, none⟩ = some a := by unfold BoxP at h; simp [World.cell?, h]
theorem BoxP.c1 {W : World} {g : Nat} {a b : Value} (h : BoxP W g a b) : W.cell? ⟨g, 1, none⟩ = some b := by unfold BoxP at h; simp [World.cell?, h]
theorem BoxP.frozen {W : World} {g : Nat} {a b : Value} (h : BoxP W g a b) (i : Nat) : W.frozen? ⟨g, i, none⟩ = false := by unfold BoxP at h; simp [World.frozen?, h]
theorem BoxP.set1 {W : World} {g : Nat} {a b : Value} (h : BoxP W g a b) (x : Value) : BoxP (W.setCell ⟨g, 1, none⟩ x) g a x := by
  unfold BoxP at *
  simp [World.setCell, Array.getElem?_modify, h]
theorem BoxP.neither {W : World} {g : Nat} {a b : Value} (h : BoxP W g a b) : ∀ r, some g = some r → ∃ o : Obj, W.heap[r]? = some o ∧ Neither o := fun r hr => by
  injection hr with hr; subst hr
  exact ⟨_, h, fun cur => ⟨fun e => by injection e with _ e; exact absurd e (by decide), fun e => by injection e with _ e; exact absurd e (by decide)⟩⟩

theorem BoxP.set0 {W : World} {g : Nat} {a b : Value} (h : BoxP W g a b) (x : Value) : BoxP (W.setCell ⟨g, 0, none⟩ x) g x b := by
  unfold BoxP at *
  simp [World.setCell, Array.getElem?_modify, h]
theorem BoxP.noInts {W : World} {g : Nat} {a b : Value} (h : BoxP W g a b) : ∀ r, some g = some r → ∃ o : Obj, W.heap[r]? = some o ∧ ∀ cur, o ≠ .cells cur 3 (0, 0) := fun r hr => by
  obtain ⟨o, h1, h2⟩ := h.neither r hr
  exact ⟨o, h1, fun cur => (h2 cur).1⟩
/-- a paradigm in memory of the call's own comes back -/
def RCopy (sizes : List Int) (es : List Ent) (w : World) (e : Ending) (w' : World) : Prop := ∃ sv ev, e = .returned (.agg #[sv, ev]) ∧ OInts 3 w' w.heap.size sv sizes ∧ OEnts w' w.heap.size ev es ∧ Ext w w'
theorem take_ent (es : List Ent) {k : Nat} (hk : k < es.length) : es.take (k + 1) = es.take k ++ [((ent es k).1, (ent es k).2)] := by
  rw [List.take_add_one, ent, List.getElem?_eq_getElem hk]; rfl

end Go.Proofs.Ytdgncnhmgbmpjaa
