/- Walks: the cells with a form, those that clash, those that are empty; both packages. -/
import Derived.Test.YtdgncnhmgbmpjaaMatch
import Derived.Test.YtdgncnhmgbmpjaaScript
namespace Go.Proofs.Ytdgncnhmgbmpjaa
open Go.RowKit Go.Shelf
set_option linter.unusedVariables false

theorem mem_len {sizes x : List Int} (hok : sizesOk sizes) (h : x ∈ cellsOf sizes) : x.length = sizes.length := by
  obtain ⟨k, hk, rfl⟩ := List.mem_iff_getElem.1 h
  have := cells_len hok (k := k) hk
  simpa [hk] using this
theorem filter_succ {L : List (List Int)} (p : List Int → Bool) {k : Nat} (hk : k < L.length) : (L.take (k + 1)).filter p = (L.take k).filter p ++ (if p (L[k]?.getD []) then [L[k]?.getD []] else []) := by
  rw [List.take_add_one, List.getElem?_eq_getElem hk, List.filter_append]; simp [List.filter_cons]

/-! ## the reference's lists -/
/-- collected so far: rows of the list's own, of what lay before -/
def Picks (w0 : World) (v : Value) (ls : List (List Int)) (wr : World) : Prop := Ext w0 wr ∧ ∃ us, wr.ownsRow w0.heap.size 22 1 v us.length us ∧ AllInts w0 us ls
theorem Picks.nil (w : World) : Picks w (.slice none 0 0) [] w := ⟨Ext.refl _, [], World.ownsRow_nil _ _ _ _, rfl, fun i u h => by simp at h⟩
theorem Picks.ext {w0 wr w' : World} {v : Value} {ls : List (List Int)} (h : Picks w0 v ls wr) (hx : Ext wr w') : Picks w0 v ls w' := by
  obtain ⟨h1, us, h2, h3⟩ := h
  exact ⟨h1.trans hx, us, ownsRow_ext h2 hx, h3⟩
theorem Picks.rows {w0 wr : World} {v : Value} {ls : List (List Int)} (h : Picks w0 v ls wr) : Rows wr v ls := by
  obtain ⟨h1, us, h2, h3⟩ := h
  exact Rows.own (by rw [← h3.1]; exact h2) (h3.ext h1)
/-- append of one row -/
theorem wpList_appendRow {ops : Array Oper} {rest : List Oper} {o : Oper} {a : Act} {Q : Exit → Act → World → Prop} {W w0 : World} {v u : Value} {g : Nat} {ls : List (List Int)} {l : List Int}
    (hgd : o.guard = none) (s x : Operand) (ho : o.op = .call { callee := .builtin .append, args := #[s, x], argTypes := #[26, 26] })
    (hs : a.eval s = v) (hx : a.eval x = .slice (some ⟨g, 0, none⟩) 1 1) (hc : Picks w0 v ls W) (hg : W.heap.size = g) (hu : Ints w0 u l) (hn : ls.length ≤ 1000000)
    (h : ∀ v' w', Picks w0 v' (ls ++ [l]) w' → wpList Try.prog ops Q rest (a.put o.dst v') w') : wpList Try.prog ops Q (o :: rest) a (W.alloc (.cells #[u] 22)) := by
  obtain ⟨h1, us, h2, h3⟩ := hc
  have hlen := h3.1
  refine wpList_append1 elRows hgd s x ho hs hx h2 hg (by obtain ⟨a, c, rfl, _⟩ := hu; rfl) h1.size (by omega) (by omega) ?_
  intro v' w' h4 h5
  exact h v' w' ⟨h1.upto h5 (Nat.le_refl _), us ++ [u], by simpa using h4, h3.snoc hu⟩

/-! ## Homes -/
def homesK (sizes : List Int) (es : List Ent) (n : Int) : Int := if validI sizes es = 0 then (if decide (0 ≤ n) && decide (n ≤ 9) then 0 else 1) else validI sizes es
theorem homesK_zero {sizes : List Int} {es : List Ent} {n : Int} (h : homesK sizes es n = 0) : validI sizes es = 0 ∧ 0 ≤ n ∧ n ≤ 9 := by
  unfold homesK at h
  split at h
  · rename_i h1
    split at h
    · rename_i h2
      simp only [Bool.and_eq_true, decide_eq_true_eq] at h2
      exact ⟨h1, h2.1, h2.2⟩
    · omega
  · omega
def homeB (es : List Ent) (n : Int) (c : List Int) : Bool := formI es c == n

end Go.Proofs.Ytdgncnhmgbmpjaa
