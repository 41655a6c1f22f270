/- A block of slices, all of the same length, each of which is a block of one's own; rows of pairs. -/
import Derived.Test.YtgpggmcjggpmpaaGrd
namespace Go.Proofs.Ytgpggmcjggpmpaa
open Go.RowKit Go.Shelf
set_option linter.unusedVariables false
/-- A is the block of N rows; those that are there read as rows says -/
structure GnD (W : World) (A N n : Nat) (tyO ty : TypeId) (has : Nat → Prop) (rows : Nat → List Value) (vs : List Value) : Prop where
  len : vs.length = N
  blk : Blk W A tyO vs
  row : ∀ j, j < N → has j → ∃ g, vs[j]? = some (.slice (some ⟨g, 0, none⟩) n n) ∧ Blk W g ty (rows j)
/-- .. while row j is being made in block g -/
structure GnR (W : World) (A N : Nat) (tyO ty : TypeId) (has : Nat → Prop) (rows : Nat → List Value) (vs : List Value) (j g n : Nat) : Prop where
  len : vs.length = N
  blk : Blk W A tyO vs
  lt : j < N
  at_ : vs[j]? = some (.slice (some ⟨g, 0, none⟩) n n)
  ne : A ≠ g
  row : ∀ i, i < N → has i → i ≠ j → ∃ g', g' ≠ g ∧ vs[i]? = some (.slice (some ⟨g', 0, none⟩) n n) ∧ Blk W g' ty (rows i)
section
variable {W W' : World} {A N j g n : Nat} {tyO ty : TypeId} {has has' : Nat → Prop} {rows : Nat → List Value} {vs : List Value}
theorem GnD.ext (h : GnD W A N n tyO ty has rows vs) (hx : Ext W W') : GnD W' A N n tyO ty has rows vs :=
  ⟨h.len, h.blk.ext hx, fun i h1 h2 => by obtain ⟨g', h4, h5⟩ := h.row i h1 h2; exact ⟨g', h4, Blk.ext h5 hx⟩⟩
theorem GnR.ext (h : GnR W A N tyO ty has rows vs j g n) (hx : Ext W W') : GnR W' A N tyO ty has rows vs j g n :=
  ⟨h.len, h.blk.ext hx, h.lt, h.at_, h.ne, fun i h1 h2 h6 => by obtain ⟨g', h3, h4, h5⟩ := h.row i h1 h2 h6; exact ⟨g', h3, h4, Blk.ext h5 hx⟩⟩
theorem GnR.set (h : GnR W A N tyO ty has rows vs j g n) (i : Nat) (v : Value) : GnR (W.setCell ⟨g, i, none⟩ v) A N tyO ty has rows vs j g n :=
  ⟨h.len, h.blk.other (fun e => h.ne e.symm) i v, h.lt, h.at_, h.ne, fun i' h1 h2 h6 => by
    obtain ⟨g', h3, h4, h5⟩ := h.row i' h1 h2 h6
    exact ⟨g', h3, h4, Blk.other h5 (fun e => h3 e.symm) i v⟩⟩
theorem GnR.done (h : GnR W A N tyO ty has rows vs j g n) (hb : Blk W g ty (rows j)) (hh : ∀ i, has' i → has i ∨ i = j) : GnD W A N n tyO ty has' rows vs :=
  ⟨h.len, h.blk, fun i h1 h2 => by
    by_cases e : i = j
    · subst e; exact ⟨g, h.at_, hb⟩
    · obtain ⟨g', _, h4, h5⟩ := h.row i h1 ((hh i h2).resolve_right e) e
      exact ⟨g', h4, h5⟩⟩
theorem GnD.begin {w2 : World} {l : List Value} (h : GnD W A N n tyO ty has rows vs) (hne : ty ≠ tyO) (hj : j < N) (hg : W.heap.size ≤ g) (hx : Ext W w2) (hb : Blk w2 g ty l) :
    GnR (w2.setCell ⟨A, j, none⟩ (.slice (some ⟨g, 0, none⟩) n n)) A N tyO ty has rows (vs.set j (.slice (some ⟨g, 0, none⟩) n n)) j g n ∧ Blk (w2.setCell ⟨A, j, none⟩ (.slice (some ⟨g, 0, none⟩) n n)) g ty l := by
  have hA : A < W.heap.size := h.blk.lt
  have hl := h.len
  refine ⟨⟨by simp [h.len], (h.blk.ext hx).set j _, hj, by rw [List.getElem?_set_self (by omega)], by omega, fun i h1 h2 h6 => ?_⟩, Blk.other hb (by omega) _ _⟩
  obtain ⟨g', h4, h5⟩ := h.row i h1 h2
  have hg' := Blk.lt h5
  have hn := Blk.ne_of h5 h.blk hne
  exact ⟨g', by omega, by rw [List.getElem?_set_ne (fun e => h6 e.symm)]; exact h4, Blk.other (Blk.ext h5 hx) (fun e => hn e.symm) _ _⟩
theorem GnR.cell (h : GnR W A N tyO ty has rows vs j g n) : W.cell? ⟨A, j, none⟩ = some (.slice (some ⟨g, 0, none⟩) n n) := h.blk.cell h.at_
theorem GnD.new (hb : Blk W A tyO (List.replicate N (.slice none 0 0))) (hno : ∀ i, i < N → ¬ has i) : GnD W A N n tyO ty has rows (List.replicate N (.slice none 0 0)) :=
  ⟨by simp, hb, fun i h1 h2 => absurd h2 (hno i h1)⟩
end

/-! ## rows of pairs -/
def prCells (n : Nat) (F : Nat → Int × Int) : List Value := (List.range n).flatMap fun j => [.int .i64 (F j).1, .int .i64 (F j).2]
theorem prCells_succ (n : Nat) (F : Nat → Int × Int) : prCells (n + 1) F = prCells n F ++ [.int .i64 (F n).1, .int .i64 (F n).2] := by
  unfold prCells; rw [List.range_succ, List.flatMap_append, List.flatMap_singleton]
theorem prCells_len (F : Nat → Int × Int) : ∀ n, (prCells n F).length = n * 2
  | 0 => rfl
  | n + 1 => by rw [prCells_succ, List.length_append, prCells_len F n]; simp; omega
theorem prCells_get (F : Nat → Int × Int) {j : Nat} : ∀ {n}, j < n → (prCells n F)[j * 2]? = some (.int .i64 (F j).1) ∧ (prCells n F)[j * 2 + 1]? = some (.int .i64 (F j).2)
  | n + 1, hj => by
    rw [prCells_succ]
    have hl := prCells_len F n
    by_cases h : j = n
    · subst h
      rw [List.getElem?_append_right (by omega), List.getElem?_append_right (by omega), hl, Nat.sub_self, show j * 2 + 1 - j * 2 = 1 by omega]
      exact ⟨rfl, rfl⟩
    · rw [List.getElem?_append_left (by omega), List.getElem?_append_left (by omega)]
      exact prCells_get F (by omega)
theorem prCells_same {F G : Nat → Int × Int} : ∀ {n}, (∀ j, j < n → F j = G j) → prCells n F = prCells n G
  | 0, _ => rfl
  | n + 1, h => by rw [prCells_succ, prCells_succ, prCells_same (fun j hj => h j (by omega)), h n (by omega)]
def up (F : Nat → Int × Int) (j : Nat) (v : Int × Int) : Nat → Int × Int := fun x => if x = j then v else F x
theorem prCells_set0 (F : Nat → Int × Int) {j : Nat} (a : Int) : ∀ {n}, j < n → (prCells n F).set (j * 2) (.int .i64 a) = prCells n (up F j (a, (F j).2))
  | n + 1, hj => by
    rw [prCells_succ, prCells_succ]
    have hl := prCells_len F n
    by_cases h : j = n
    · subst h
      rw [List.set_append, if_neg (by omega), hl, Nat.sub_self, prCells_same (F := up F j (a, (F j).2)) (G := F) (fun x hx => by unfold up; rw [if_neg (by omega)])]
      simp [up]
    · rw [List.set_append, if_pos (by omega), prCells_set0 F a (by omega)]
      have : up F j (a, (F j).2) n = F n := by unfold up; rw [if_neg (by omega)]
      rw [this]
theorem prCells_set1 (F : Nat → Int × Int) {j : Nat} (b : Int) : ∀ {n}, j < n → (prCells n F).set (j * 2 + 1) (.int .i64 b) = prCells n (up F j ((F j).1, b))
  | n + 1, hj => by
    rw [prCells_succ, prCells_succ]
    have hl := prCells_len F n
    by_cases h : j = n
    · subst h
      rw [List.set_append, if_neg (by omega), hl, show j * 2 + 1 - j * 2 = 1 by omega, prCells_same (F := up F j ((F j).1, b)) (G := F) (fun x hx => by unfold up; rw [if_neg (by omega)])]
      simp [up]
    · rw [List.set_append, if_pos (by omega), prCells_set1 F b (by omega)]
      have : up F j ((F j).1, b) n = F n := by unfold up; rw [if_neg (by omega)]
      rw [this]
theorem prCells_zero : ∀ n, prCells n (fun _ => (0, 0)) = List.replicate (n * 2) (.int .i64 0)
  | 0 => rfl
  | n + 1 => by rw [prCells_succ, prCells_zero n, show (n + 1) * 2 = n * 2 + 1 + 1 by omega, List.replicate_succ', List.replicate_succ']; simp
theorem prCells_hide (n : Nat) (F : Nat → Int × Int) : ∃ L, L = prCells n F := ⟨_, rfl⟩
end Go.Proofs.Ytgpggmcjggpmpaa
