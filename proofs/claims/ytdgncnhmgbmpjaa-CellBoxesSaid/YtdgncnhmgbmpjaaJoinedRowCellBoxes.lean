/- Several texts in one: RCopy, Equal, SwapP, Add, Swap, RSwap. -/
import Derived.Test.YtdgncnhmgbmpjaaCopied
import Derived.Test.YtdgncnhmgbmpjaaPeek
import Derived.Deep.Cut
/- Walk: the reference's Copy, a paradigm in new memory. -/
namespace Go.Proofs.Ytdgncnhmgbmpjaa
open Go.RowKit Go.Shelf
set_option linter.unusedVariables false

end Go.Proofs.Ytdgncnhmgbmpjaa
/- Walk: the reference's Equal of two paradigms. -/
namespace Go.Proofs.Ytdgncnhmgbmpjaa
open Go.RowKit Go.Shelf
set_option linter.unusedVariables false

def eqAt (es fs : List Ent) (i : Nat) : Bool := sameIntsB (ent es i).1 (ent fs i).1 && ((ent es i).2 == (ent fs i).2)
def eqP (sizes : List Int) (es : List Ent) (ss : List Int) (fs : List Ent) : Bool := sameIntsB sizes ss && (es.length == fs.length && allB es.length (eqAt es fs))
theorem sameIntsB_refl (l : List Int) : sameIntsB l l = true := by rw [sameIntsB_iff]; exact beq_self_eq_true l
theorem eqP_refl (sizes : List Int) (es : List Ent) : eqP sizes es sizes es = true := by
  rw [eqP, sameIntsB_refl, beq_self_eq_true, allB_true]
  · rfl
  · intro j _; simp [eqAt, sameIntsB_refl]

end Go.Proofs.Ytdgncnhmgbmpjaa
/- Two entries of one's own exchanged: memory and lists. -/
namespace Go.Proofs.Ytdgncnhmgbmpjaa
open Go.RowKit Go.Shelf
set_option linter.unusedVariables false

theorem eCells_set : ∀ (us : List Value) (es : List Ent) (a : Nat) (u : Value) (e : Ent), us.length = es.length → eCells (us.set a u) (es.set a e) = ((eCells us es).set (a * 2) u).set (a * 2 + 1) (.int .i64 e.2)
  | [], [], a, _, _, _ => by simp [eCells]
  | [], _ :: _, _, _, _, h => by simp at h
  | _ :: _, [], _, _, _, h => by simp at h
  | x :: us, y :: es, 0, u, e, h => by simp [eCells]
  | x :: us, y :: es, a + 1, u, e, h => by
    rw [show (a + 1) * 2 = a * 2 + 2 by omega, show a * 2 + 2 + 1 = (a * 2 + 1) + 2 by omega]
    have := eCells_set us es a u e (by simpa using h)
    simp only [List.set_cons_succ, eCells, this]
theorem AllO.set {w : World} {B : Nat} {us : List Value} {ls : List (List Int)} {a : Nat} {u : Value} {l : List Int} (h : AllO w B us ls) (hu : OInts 3 w B u l) : AllO w B (us.set a u) (ls.set a l) := by
  obtain ⟨h1, h2⟩ := h
  refine ⟨by simp [h1], fun i x hx => ?_⟩
  by_cases hia : a = i
  · subst hia
    rw [List.getElem?_set] at hx
    simp only [if_true] at hx
    split at hx
    · injection hx with hx; subst hx
      rw [List.getElem?_set_self (by omega)]; exact hu
    · cases hx
  · rw [List.getElem?_set_ne hia] at hx
    rw [List.getElem?_set_ne hia]; exact h2 i x hx
/-- a cell of a row of one's own is written -/
theorem ownsRow_set {w : World} {B size n : Nat} {e : TypeId} {g cap : Nat} {xs : List Value} (h : w.ownsRow B e size (.slice (some ⟨g, 0, none⟩) n cap) n xs) {i : Nat} (hi : i < xs.length) (v : Value) :
    (w.setCell ⟨g, i, none⟩ v).ownsRow B e size (.slice (some ⟨g, 0, none⟩) n cap) n (xs.set i v) := by
  obtain ⟨h1, h2⟩ := h
  refine ⟨by simp [h1], ?_⟩
  rcases h2 with ⟨h, _⟩ | ⟨g', cap', cur, hv, hg, hh, hnc, hm, hcs, ht⟩
  · cases h
  · injection hv with ha _ hc
    injection ha with ha; injection ha with ha _ _
    subst ha hc
    refine .inr ⟨g, cap, cur.setIfInBounds i v, rfl, hg, ?_, hnc, hm, by simpa using hcs, ?_⟩
    · simp [World.setCell, Array.getElem?_modify, hh]
    · rw [Array.toList_setIfInBounds, List.take_set, ht]
end Go.Proofs.Ytdgncnhmgbmpjaa
/- Walks: Add, both packages. -/
namespace Go.Proofs.Ytdgncnhmgbmpjaa
open Go.RowKit Go.Shelf
set_option linter.unusedVariables false

/-- a paradigm in memory of the call's own and an error code come back -/
def RP2 (S : List Int) (E : List Ent) (k : Int) (w : World) (e : Ending) (w' : World) : Prop := ∃ sv ev, e = .returned (.tuple #[.agg #[sv, ev], .int .i64 k]) ∧ OInts 3 w' w.heap.size sv S ∧ OEnts w' w.heap.size ev E ∧ Ext w w'
theorem OEnts.low {w : World} {B B' : Nat} {v : Value} {es : List Ent} (h : OEnts w B v es) (hB : B' ≤ B) : OEnts w B' v es := by
  obtain ⟨us, h1, h2⟩ := h
  refine ⟨us, ⟨h1.1, ?_⟩, h2.1, fun i u hu => (h2.2 i u hu).low hB⟩
  rcases h1.2 with h | ⟨g, cap, cur, h1, h2, h3⟩
  · exact .inl h
  · exact .inr ⟨g, cap, cur, h1, by omega, h3⟩
def addK (sizes : List Int) (es : List Ent) (x : List Int) (f : Int) : Int := if validI sizes es = 0 then validI sizes (es ++ [(x, f)]) else validI sizes es
def addS (sizes : List Int) (es : List Ent) (x : List Int) (f : Int) : List Int := if addK sizes es x f = 0 then sizes else []
def addE (sizes : List Int) (es : List Ent) (x : List Int) (f : Int) : List Ent := if addK sizes es x f = 0 then es ++ [(x, f)] else []

end Go.Proofs.Ytdgncnhmgbmpjaa
/- Walks: Swap, both packages. -/
namespace Go.Proofs.Ytdgncnhmgbmpjaa
open Go.RowKit Go.Shelf
set_option linter.unusedVariables false

def swapE (es : List Ent) (a b : Nat) : List Ent := (es.set a (ent es b)).set b (ent es a)
def swS (sizes : List Int) (es : List Ent) (i j : Int) : List Int := if nK sizes es i j = 0 then sizes else []
def swE (sizes : List Int) (es : List Ent) (i j : Int) : List Ent := if nK sizes es i j = 0 then swapE es i.toNat j.toNat else []

theorem fin2 {w W : World} {g : Nat} {A B x y : Value} {S : List Int} {E : List Ent} (k : Int) (hrb : BoxP W g x y) (hg : w.heap.size ≤ g) (hs : OInts 3 W w.heap.size A S) (he : OEnts W w.heap.size B E) (hX : Ext w W) :
    RP2 S E k w (.returned (.tuple #[.agg #[A, B], .int .i64 k])) ((W.setCell ⟨g, 0, none⟩ A).setCell ⟨g, 1, none⟩ B) ∧ BoxP ((W.setCell ⟨g, 0, none⟩ A).setCell ⟨g, 1, none⟩ B) g A B := by
  have h0 := hrb.set0 A
  exact ⟨⟨_, _, rfl, (hs.kept (grownBy_set W g 0 A) hrb.noInts).kept (grownBy_set _ g 1 B) h0.noInts, (he.kept (grownBy_set W g 0 A) hrb.neither).kept (grownBy_set _ g 1 B) h0.neither, (hX.setCell hg 0 A).setCell hg 1 B⟩, h0.set1 B⟩
theorem OEnts.at_ {w : World} {B : Nat} {v : Value} {es : List Ent} (h : OEnts w B v es) {a : Nat} (ha : a < es.length) :
    ∃ g cap u, v = .slice (some ⟨g, 0, none⟩) es.length cap ∧ w.cell? ⟨g, a * 2, none⟩ = some u ∧ OInts 3 w B u (ent es a).1 ∧ w.cell? ⟨g, a * 2 + 1, none⟩ = some (.int .i64 (ent es a).2) := by
  obtain ⟨us, ho, hal⟩ := h
  have hul : us.length = es.length := by rw [hal.1]; simp
  have hl := ho.1
  rcases ho.2 with ⟨rfl, h0⟩ | ⟨g, cap, cur, rfl, hg, hh, hnc, hm, hcs, ht⟩
  · omega
  · refine ⟨g, cap, us[a], rfl, ?_, ?_, ?_⟩
    · rw [ho.cellAt (a * 2) (by omega), eCells_spec us es a hul, List.getElem?_eq_getElem (by omega)]
    · have := hal.2 a us[a] (List.getElem?_eq_getElem (by omega))
      rwa [map_fst_get] at this
    · rw [ho.cellAt (a * 2 + 1) (by omega), eCells_form us es a hul ha]
theorem OEnts.cells_ {w : World} {B g n cap : Nat} {es : List Ent} (h : OEnts w B (.slice (some ⟨g, 0, none⟩) n cap) es) {a : Nat} (ha : a < es.length) : ∃ z0 z1, w.cell? ⟨g, a * 2, none⟩ = some z0 ∧ w.cell? ⟨g, a * 2 + 1, none⟩ = some z1 := by
  obtain ⟨_, _, u, hv, h0, _, h1⟩ := h.at_ ha
  injection hv with hv; injection hv with hv; injection hv with hv; subst hv
  exact ⟨_, _, h0, h1⟩
/-- the row's block -/
def RowE (w : World) (B g : Nat) : Prop := B ≤ g ∧ g < w.heap.size ∧ (∃ cur, w.heap[g]? = some (.cells cur 42 (0, 0)))
theorem OEnts.row {w : World} {B g n cap : Nat} {es : List Ent} (h : OEnts w B (.slice (some ⟨g, 0, none⟩) n cap) es) : RowE w B g := by
  obtain ⟨us, ho, hal⟩ := h
  obtain ⟨cur, h1, h2⟩ := ownBlock_cells ho g rfl
  exact ⟨h2, (Array.getElem?_eq_some_iff.1 h1).1, cur, h1⟩
theorem RowE.noInts {w : World} {B g : Nat} (h : RowE w B g) : ∀ r, some g = some r → ∃ o : Obj, w.heap[r]? = some o ∧ ∀ cur, o ≠ .cells cur 3 (0, 0) := fun r hr => by
  injection hr with hr; subst hr
  obtain ⟨_, _, cur, h1⟩ := h
  exact ⟨_, h1, fun cur' he => by injection he with _ he; exact absurd he (by decide)⟩
theorem RowE.frozen {w : World} {B g : Nat} (h : RowE w B g) (i : Nat) : w.frozen? ⟨g, i, none⟩ = false := by
  obtain ⟨_, _, cur, h1⟩ := h
  simp [World.frozen?, h1]
theorem RowE.set {w : World} {B g : Nat} (h : RowE w B g) (i : Nat) (v : Value) : RowE (w.setCell ⟨g, i, none⟩ v) B g := by
  obtain ⟨h1, h2, cur, h3⟩ := h
  exact ⟨h1, by simpa using h2, cur.setIfInBounds i v, by simp [World.setCell, Array.getElem?_modify, h3]⟩
theorem RowE.ne {w : World} {B g c : Nat} {a b : Value} (h : RowE w B g) (hb : BoxP w c a b) : g ≠ c := fun e => by
  subst e
  obtain ⟨_, _, cur, h3⟩ := h
  rw [BoxP, h3] at hb; injection hb with hb; injection hb with _ hb; exact absurd hb (by decide)
/-- an entry is written over -/
theorem OEnts.put {w : World} {B g n cap : Nat} {es : List Ent} (h : OEnts w B (.slice (some ⟨g, 0, none⟩) n cap) es) {a : Nat} (ha : a < es.length) {u : Value} {l : List Int} {f : Int} (hu : OInts 3 w B u l) :
    OEnts ((w.setCell ⟨g, a * 2, none⟩ u).setCell ⟨g, a * 2 + 1, none⟩ (.int .i64 f)) B (.slice (some ⟨g, 0, none⟩) n cap) (es.set a (l, f)) := by
  have hrow := h.row
  have hrow2 := hrow.set (a * 2) u
  obtain ⟨us, ho, hal⟩ := h
  have hul : us.length = es.length := by rw [hal.1]; simp
  have hn : n = es.length := by
    rcases ho.2 with ⟨h, _⟩ | ⟨_, _, _, hv, _⟩
    · cases h
    · injection hv
  subst hn
  have hlen := eCells_len us es hul
  refine ⟨us.set a u, ?_, ?_⟩
  · rw [eCells_set us es a u (l, f) hul, List.length_set]
    exact ownsRow_set (ownsRow_set ho (by omega) u) (by simp; omega) _
  · rw [List.map_set]
    exact ((hal.kept (grownBy_set w g _ u) hrow.noInts).kept (grownBy_set _ g _ _) hrow2.noInts).set ((hu.kept (grownBy_set w g _ u) hrow.noInts).kept (grownBy_set _ g _ _) hrow2.noInts)
theorem OInts.set2 {w : World} {B B' g : Nat} {v u x : Value} {l : List Int} {i j : Nat} (h : OInts 3 w B v l) (hr : RowE w B' g) : OInts 3 ((w.setCell ⟨g, i, none⟩ u).setCell ⟨g, j, none⟩ x) B v l :=
  (h.kept (grownBy_set w g i u) hr.noInts).kept (grownBy_set _ g j x) (hr.set i u).noInts
theorem BoxP.set2 {w : World} {B' g c : Nat} {a b u x : Value} {i j : Nat} (h : BoxP w c a b) (hr : RowE w B' g) : BoxP ((w.setCell ⟨g, i, none⟩ u).setCell ⟨g, j, none⟩ x) c a b :=
  have hne : some g ≠ some c := fun e => by injection e with e; exact hr.ne h e
  (h.kept (grownBy_set w g i u) hne).kept (grownBy_set _ g j x) hne

/-- a box with an entry -/
def BoxX (W : World) (g : Nat) (a b : Value) : Prop := W.heap[g]? = some (.cells #[a, b] 42 (0, 0))
theorem BoxX.new (W : World) (a b : Value) {g : Nat} (hg : W.heap.size = g) : BoxX (W.alloc (.cells #[a, b] 42)) g a b := by subst hg; exact World.alloc_heap_new W _
theorem BoxX.lt {W : World} {g : Nat} {a b : Value} (h : BoxX W g a b) : g < W.heap.size := (Array.getElem?_eq_some_iff.1 h).1
theorem BoxX.ext {W W' : World} {g : Nat} {a b : Value} (h : BoxX W g a b) (hx : Ext W W') : BoxX W' g a b := (hx.block g h.lt).trans h
theorem BoxX.kept {W W' : World} {g : Nat} {a b : Value} {row : Option Nat} (h : BoxX W g a b) (hg : W.grownBy W' row) (hr : row ≠ some g) : BoxX W' g a b := (hg.block g h.lt (fun e => hr e.symm)).trans h
theorem BoxX.c0 {W : World} {g : Nat} {a b : Value} (h : BoxX W g a b) : W.cell? ⟨g, 0, none⟩ = some a := by unfold BoxX at h; simp [World.cell?, h]
theorem BoxX.c1 {W : World} {g : Nat} {a b : Value} (h : BoxX W g a b) : W.cell? ⟨g, 1, none⟩ = some b := by unfold BoxX at h; simp [World.cell?, h]
theorem BoxX.frozen {W : World} {g : Nat} {a b : Value} (h : BoxX W g a b) (i : Nat) : W.frozen? ⟨g, i, none⟩ = false := by unfold BoxX at h; simp [World.frozen?, h]
theorem BoxX.set01 {W : World} {g : Nat} {a b : Value} (h : BoxX W g a b) (x y : Value) : BoxX ((W.setCell ⟨g, 0, none⟩ x).setCell ⟨g, 1, none⟩ y) g x y := by
  unfold BoxX at *
  simp [World.setCell, Array.getElem?_modify, h]
theorem BoxX.other {W : World} {g c : Nat} {a b : Value} (h : BoxX W g a b) (hne : c ≠ g) (i j : Nat) (x y : Value) : BoxX ((W.setCell ⟨c, i, none⟩ x).setCell ⟨c, j, none⟩ y) g a b :=
  have hn : some c ≠ some g := fun e => by injection e with e; exact hne e
  (h.kept (grownBy_set W c i x) hn).kept (grownBy_set _ c j y) hn

end Go.Proofs.Ytdgncnhmgbmpjaa
/- Walk: Swap of the reference. -/
namespace Go.Proofs.Ytdgncnhmgbmpjaa
open Go.RowKit Go.Shelf
set_option linter.unusedVariables false

end Go.Proofs.Ytdgncnhmgbmpjaa
