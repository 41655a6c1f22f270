/- Several texts in one: Copied, RCopy, Equal, SwapP, Add. -/
import Derived.Test.YtdgncnhmgbmpjaaCopy
import Derived.Test.YtdgncnhmgbmpjaaMore
/- Walk: copied, a paradigm in new memory. -/
namespace Go.Proofs.Ytdgncnhmgbmpjaa
open Go.RowKit Go.Shelf
set_option linter.unusedVariables false

theorem OInts.low {e : TypeId} {w : World} {B B' : Nat} {v : Value} {l : List Int} (h : OInts e w B v l) (hB : B' ≤ B) : OInts e w B' v l := by
  refine ⟨h.1, ?_⟩
  rcases h.2 with h | ⟨g, cap, cur, h1, h2, h3⟩
  · exact .inl h
  · exact .inr ⟨g, cap, cur, h1, by omega, h3⟩
/-- neither a row of ints nor of entries -/
def Neither (o : Obj) : Prop := ∀ cur, o ≠ .cells cur 3 (0, 0) ∧ o ≠ .cells cur 42 (0, 0)
theorem OEnts.kept {w w' : World} {B : Nat} {v : Value} {es : List Ent} {row : Option Nat} (h : OEnts w B v es) (hg : w.grownBy w' row) (hr : ∀ r, row = some r → ∃ o : Obj, w.heap[r]? = some o ∧ Neither o) : OEnts w' B v es := by
  obtain ⟨us, h1, h2⟩ := h
  refine ⟨us, World.ownsRow.kept h1 hg ?_, h2.kept hg (fun r h => by obtain ⟨o, ho, hn⟩ := hr r h; exact ⟨o, ho, fun cur => (hn cur).1⟩)⟩
  rcases h1.2 with ⟨rfl, _⟩ | ⟨g, cap, cur, rfl, _, hgb, _⟩
  · exact .inl rfl
  · refine .inr fun he => ?_
    simp only [Value.ownBlock] at he
    obtain ⟨o, ho, hne⟩ := hr g he.symm
    rw [hgb] at ho
    injection ho with ho
    exact (hne cur).2 ho.symm
/-- a box with a paradigm -/
def BoxP (W : World) (g : Nat) (a b : Value) : Prop := W.heap[g]? = some (.cells #[a, b] 25 (0, 0))
theorem BoxP.new (W : World) (a b : Value) {g : Nat} (hg : W.heap.size = g) : BoxP (W.alloc (.cells #[a, b] 25)) g a b := by subst hg; exact World.alloc_heap_new W _
theorem BoxP.lt {W : World} {g : Nat} {a b : Value} (h : BoxP W g a b) : g < W.heap.size := (Array.getElem?_eq_some_iff.1 h).1
theorem BoxP.ext {W W' : World} {g : Nat} {a b : Value} (h : BoxP W g a b) (hx : Ext W W') : BoxP W' g a b := (hx.block g h.lt).trans h
theorem BoxP.kept {W W' : World} {g : Nat} {a b : Value} {row : Option Nat} (h : BoxP W g a b) (hg : W.grownBy W' row) (hr : row ≠ some g) : BoxP W' g a b := (hg.block g h.lt (fun e => hr e.symm)).trans h
theorem BoxP.c0 {W : World} {g : Nat} {a b : Value} (h : BoxP W g a b) : W.cell? ⟨g, 0, none⟩ = some a := by unfold BoxP at h; simp [World.cell?, h]
theorem BoxP.c1 {W : World} {g : Nat} {a b : Value} (h : BoxP W g a b) : W.cell? ⟨g, 1, none⟩ = some b := by unfold BoxP at h; simp [World.cell?, h]
theorem BoxP.frozen {W : World} {g : Nat} {a b : Value} (h : BoxP W g a b) (i : Nat) : W.frozen? ⟨g, i, none⟩ = false := by unfold BoxP at h; simp [World.frozen?, h]
theorem BoxP.set1 {W : World} {g : Nat} {a b : Value} (h : BoxP W g a b) (x : Value) : BoxP (W.setCell ⟨g, 1, none⟩ x) g a x := by
  unfold BoxP at *
  simp [World.setCell, Array.getElem?_modify, h]
theorem BoxP.neither {W : World} {g : Nat} {a b : Value} (h : BoxP W g a b) : ∀ r, some g = some r → ∃ o : Obj, W.heap[r]? = some o ∧ Neither o := fun r hr => by
  injection hr with hr; subst hr
  exact ⟨_, h, fun cur => ⟨fun e => by injection e with _ e; exact absurd e (by decide), fun e => by injection e with _ e; exact absurd e (by decide)⟩⟩

theorem BoxP.set0 {W : World} {g : Nat} {a b : Value} (h : BoxP W g a b) (x : Value) : BoxP (W.setCell ⟨g, 0, none⟩ x) g x b := by
  unfold BoxP at *
  simp [World.setCell, Array.getElem?_modify, h]
theorem BoxP.noInts {W : World} {g : Nat} {a b : Value} (h : BoxP W g a b) : ∀ r, some g = some r → ∃ o : Obj, W.heap[r]? = some o ∧ ∀ cur, o ≠ .cells cur 3 (0, 0) := fun r hr => by
  obtain ⟨o, h1, h2⟩ := h.neither r hr
  exact ⟨o, h1, fun cur => (h2 cur).1⟩
/-- a paradigm in memory of the call's own comes back -/
def RCopy (sizes : List Int) (es : List Ent) (w : World) (e : Ending) (w' : World) : Prop := ∃ sv ev, e = .returned (.agg #[sv, ev]) ∧ OInts 3 w' w.heap.size sv sizes ∧ OEnts w' w.heap.size ev es ∧ Ext w w'
theorem take_ent (es : List Ent) {k : Nat} (hk : k < es.length) : es.take (k + 1) = es.take k ++ [((ent es k).1, (ent es k).2)] := by
  rw [List.take_add_one, ent, List.getElem?_eq_getElem hk]; rfl

end Go.Proofs.Ytdgncnhmgbmpjaa
/- Walk: the reference's Copy, a paradigm in new memory. -/
namespace Go.Proofs.Ytdgncnhmgbmpjaa
open Go.RowKit Go.Shelf
set_option linter.unusedVariables false

end Go.Proofs.Ytdgncnhmgbmpjaa
/- Walk: the reference's Equal of two paradigms. -/
namespace Go.Proofs.Ytdgncnhmgbmpjaa
open Go.RowKit Go.Shelf
set_option linter.unusedVariables false

def eqAt (es fs : List Ent) (i : Nat) : Bool := sameIntsB (ent es i).1 (ent fs i).1 && ((ent es i).2 == (ent fs i).2)
def eqP (sizes : List Int) (es : List Ent) (ss : List Int) (fs : List Ent) : Bool := sameIntsB sizes ss && (es.length == fs.length && allB es.length (eqAt es fs))
theorem sameIntsB_refl (l : List Int) : sameIntsB l l = true := by rw [sameIntsB_iff]; exact beq_self_eq_true l
theorem eqP_refl (sizes : List Int) (es : List Ent) : eqP sizes es sizes es = true := by
  rw [eqP, sameIntsB_refl, beq_self_eq_true, allB_true]
  · rfl
  · intro j _; simp [eqAt, sameIntsB_refl]

end Go.Proofs.Ytdgncnhmgbmpjaa
/- Two entries of one's own exchanged: memory and lists. -/
namespace Go.Proofs.Ytdgncnhmgbmpjaa
open Go.RowKit Go.Shelf
set_option linter.unusedVariables false

theorem eCells_set : ∀ (us : List Value) (es : List Ent) (a : Nat) (u : Value) (e : Ent), us.length = es.length → eCells (us.set a u) (es.set a e) = ((eCells us es).set (a * 2) u).set (a * 2 + 1) (.int .i64 e.2)
  | [], [], a, _, _, _ => by simp [eCells]
  | [], _ :: _, _, _, _, h => by simp at h
  | _ :: _, [], _, _, _, h => by simp at h
  | x :: us, y :: es, 0, u, e, h => by simp [eCells]
  | x :: us, y :: es, a + 1, u, e, h => by
    rw [show (a + 1) * 2 = a * 2 + 2 by omega, show a * 2 + 2 + 1 = (a * 2 + 1) + 2 by omega]
    have := eCells_set us es a u e (by simpa using h)
    simp only [List.set_cons_succ, eCells, this]
theorem AllO.set {w : World} {B : Nat} {us : List Value} {ls : List (List Int)} {a : Nat} {u : Value} {l : List Int} (h : AllO w B us ls) (hu : OInts 3 w B u l) : AllO w B (us.set a u) (ls.set a l) := by
  obtain ⟨h1, h2⟩ := h
  refine ⟨by simp [h1], fun i x hx => ?_⟩
  by_cases hia : a = i
  · subst hia
    rw [List.getElem?_set] at hx
    simp only [if_true] at hx
    split at hx
    · injection hx with hx; subst hx
      rw [List.getElem?_set_self (by omega)]; exact hu
    · cases hx
  · rw [List.getElem?_set_ne hia] at hx
    rw [List.getElem?_set_ne hia]; exact h2 i x hx
/-- a cell of a row of one's own is written -/
theorem ownsRow_set {w : World} {B size n : Nat} {e : TypeId} {g cap : Nat} {xs : List Value} (h : w.ownsRow B e size (.slice (some ⟨g, 0, none⟩) n cap) n xs) {i : Nat} (hi : i < xs.length) (v : Value) :
    (w.setCell ⟨g, i, none⟩ v).ownsRow B e size (.slice (some ⟨g, 0, none⟩) n cap) n (xs.set i v) := by
  obtain ⟨h1, h2⟩ := h
  refine ⟨by simp [h1], ?_⟩
  rcases h2 with ⟨h, _⟩ | ⟨g', cap', cur, hv, hg, hh, hnc, hm, hcs, ht⟩
  · cases h
  · injection hv with ha _ hc
    injection ha with ha; injection ha with ha _ _
    subst ha hc
    refine .inr ⟨g, cap, cur.setIfInBounds i v, rfl, hg, ?_, hnc, hm, by simpa using hcs, ?_⟩
    · simp [World.setCell, Array.getElem?_modify, hh]
    · rw [Array.toList_setIfInBounds, List.take_set, ht]
end Go.Proofs.Ytdgncnhmgbmpjaa
/- Walks: Add, both packages. -/
namespace Go.Proofs.Ytdgncnhmgbmpjaa
open Go.RowKit Go.Shelf
set_option linter.unusedVariables false

/-- a paradigm in memory of the call's own and an error code come back -/
def RP2 (S : List Int) (E : List Ent) (k : Int) (w : World) (e : Ending) (w' : World) : Prop := ∃ sv ev, e = .returned (.tuple #[.agg #[sv, ev], .int .i64 k]) ∧ OInts 3 w' w.heap.size sv S ∧ OEnts w' w.heap.size ev E ∧ Ext w w'
theorem OEnts.low {w : World} {B B' : Nat} {v : Value} {es : List Ent} (h : OEnts w B v es) (hB : B' ≤ B) : OEnts w B' v es := by
  obtain ⟨us, h1, h2⟩ := h
  refine ⟨us, ⟨h1.1, ?_⟩, h2.1, fun i u hu => (h2.2 i u hu).low hB⟩
  rcases h1.2 with h | ⟨g, cap, cur, h1, h2, h3⟩
  · exact .inl h
  · exact .inr ⟨g, cap, cur, h1, by omega, h3⟩
def addK (sizes : List Int) (es : List Ent) (x : List Int) (f : Int) : Int := if validI sizes es = 0 then validI sizes (es ++ [(x, f)]) else validI sizes es
def addS (sizes : List Int) (es : List Ent) (x : List Int) (f : Int) : List Int := if addK sizes es x f = 0 then sizes else []
def addE (sizes : List Int) (es : List Ent) (x : List Int) (f : Int) : List Ent := if addK sizes es x f = 0 then es ++ [(x, f)] else []

end Go.Proofs.Ytdgncnhmgbmpjaa
