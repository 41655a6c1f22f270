/- A block of slices, each of which is a block of one's own: rows that are made one after another. -/
import Derived.Test.YtgpggmcjggpmpaaBlk
namespace Go.Proofs.Ytgpggmcjggpmpaa
open Go.RowKit Go.Shelf
set_option linter.unusedVariables false
theorem Blk.ne_of {W : World} {g A : Nat} {ty tyO : TypeId} {l vs : List Value} (h1 : Blk W g ty l) (h2 : Blk W A tyO vs) (hne : ty ≠ tyO) : g ≠ A := by
  rintro rfl
  have := Option.some.inj (h1.symm.trans h2)
  injection this with _ h2 _
  exact hne h2
/-- A is the block of N rows; those that are there read as rows says -/
structure GrD (W : World) (A N : Nat) (tyO ty : TypeId) (has : Nat → Prop) (rows : Nat → List Value) (vs : List Value) : Prop where
  len : vs.length = N
  blk : Blk W A tyO vs
  row : ∀ j, j < N → has j → ∃ g, vs[j]? = some (.slice (some ⟨g, 0, none⟩) (rows j).length (rows j).length) ∧ Blk W g ty (rows j)
/-- .. while row j is being made in block g -/
structure GrR (W : World) (A N : Nat) (tyO ty : TypeId) (has : Nat → Prop) (rows : Nat → List Value) (vs : List Value) (j g n : Nat) : Prop where
  len : vs.length = N
  blk : Blk W A tyO vs
  lt : j < N
  at_ : vs[j]? = some (.slice (some ⟨g, 0, none⟩) n n)
  ne : A ≠ g
  row : ∀ i, i < N → has i → i ≠ j → ∃ g', g' ≠ g ∧ vs[i]? = some (.slice (some ⟨g', 0, none⟩) (rows i).length (rows i).length) ∧ Blk W g' ty (rows i)
section
variable {W W' : World} {A N j g n : Nat} {tyO ty : TypeId} {has has' : Nat → Prop} {rows : Nat → List Value} {vs : List Value}
theorem GrD.ext (h : GrD W A N tyO ty has rows vs) (hx : Ext W W') : GrD W' A N tyO ty has rows vs :=
  ⟨h.len, h.blk.ext hx, fun i h1 h2 => by obtain ⟨g', h4, h5⟩ := h.row i h1 h2; exact ⟨g', h4, Blk.ext h5 hx⟩⟩
theorem GrR.ext (h : GrR W A N tyO ty has rows vs j g n) (hx : Ext W W') : GrR W' A N tyO ty has rows vs j g n :=
  ⟨h.len, h.blk.ext hx, h.lt, h.at_, h.ne, fun i h1 h2 h6 => by obtain ⟨g', h3, h4, h5⟩ := h.row i h1 h2 h6; exact ⟨g', h3, h4, Blk.ext h5 hx⟩⟩
theorem GrR.set (h : GrR W A N tyO ty has rows vs j g n) (i : Nat) (v : Value) : GrR (W.setCell ⟨g, i, none⟩ v) A N tyO ty has rows vs j g n :=
  ⟨h.len, h.blk.other (fun e => h.ne e.symm) i v, h.lt, h.at_, h.ne, fun i' h1 h2 h6 => by
    obtain ⟨g', h3, h4, h5⟩ := h.row i' h1 h2 h6
    exact ⟨g', h3, h4, Blk.other h5 (fun e => h3 e.symm) i v⟩⟩
theorem GrR.done (h : GrR W A N tyO ty has rows vs j g n) (hl : (rows j).length = n) (hb : Blk W g ty (rows j)) (hh : ∀ i, has' i → has i ∨ i = j) : GrD W A N tyO ty has' rows vs :=
  ⟨h.len, h.blk, fun i h1 h2 => by
    by_cases e : i = j
    · subst e; exact ⟨g, by rw [hl]; exact h.at_, hb⟩
    · obtain ⟨g', _, h4, h5⟩ := h.row i h1 ((hh i h2).resolve_right e) e
      exact ⟨g', h4, h5⟩⟩
theorem GrD.begin {w2 : World} {l : List Value} (h : GrD W A N tyO ty has rows vs) (hne : ty ≠ tyO) (hj : j < N) (hg : W.heap.size ≤ g) (hx : Ext W w2) (hb : Blk w2 g ty l) :
    GrR (w2.setCell ⟨A, j, none⟩ (.slice (some ⟨g, 0, none⟩) n n)) A N tyO ty has rows (vs.set j (.slice (some ⟨g, 0, none⟩) n n)) j g n ∧ Blk (w2.setCell ⟨A, j, none⟩ (.slice (some ⟨g, 0, none⟩) n n)) g ty l := by
  have hA : A < W.heap.size := h.blk.lt
  have hl := h.len
  refine ⟨⟨by simp [h.len], (h.blk.ext hx).set j _, hj, by rw [List.getElem?_set_self (by omega)], by omega, fun i h1 h2 h6 => ?_⟩, Blk.other hb (by omega) _ _⟩
  obtain ⟨g', h4, h5⟩ := h.row i h1 h2
  have hg' := Blk.lt h5
  have hn := Blk.ne_of h5 h.blk hne
  exact ⟨g', by omega, by rw [List.getElem?_set_ne (fun e => h6 e.symm)]; exact h4, Blk.other (Blk.ext h5 hx) (fun e => hn e.symm) _ _⟩
theorem GrR.cell (h : GrR W A N tyO ty has rows vs j g n) : W.cell? ⟨A, j, none⟩ = some (.slice (some ⟨g, 0, none⟩) n n) := h.blk.cell h.at_
theorem GrD.new (hb : Blk W A tyO (List.replicate N (.slice none 0 0))) (hno : ∀ i, i < N → ¬ has i) : GrD W A N tyO ty has rows (List.replicate N (.slice none 0 0)) :=
  ⟨by simp, hb, fun i h1 h2 => absurd h2 (hno i h1)⟩
end
end Go.Proofs.Ytgpggmcjggpmpaa
