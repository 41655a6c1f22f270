/- All splits, one after another: plain; a list of lists kept while another one grows. -/
import Derived.Test.YtgpggmcjggpmpaaTagU
import Derived.Test.YtgpggmcjggpmpaaTagG
namespace Go.Proofs.Ytgpggmcjggpmpaa
open Go.RowKit Go.Shelf
set_option linter.unusedVariables false

/-- what the first j items add behind s -/
def outTo (l : Lex) (r : List Int) (b : Int) (s : List Int) (j : Nat) : List (List Int) := ((List.range j).flatMap (nextOf l r b)).map (s ++ ·)
theorem outTo_zero (l : Lex) (r : List Int) (b : Int) (s : List Int) : outTo l r b s 0 = [] := rfl
theorem outTo_next (l : Lex) (r : List Int) (b : Int) (s : List Int) (j : Nat) : outTo l r b s (j + 1) = outTo l r b s j ++ (nextOf l r b j).map (s ++ ·) := by
  unfold outTo; rw [show List.range (j + 1) = List.range j ++ [j] from List.range_succ, List.flatMap_append, List.map_append]; simp
theorem outTo_no {l : Lex} {r : List Int} {b : Int} {s : List Int} {j : Nat} (h : okNext l r b j = false) : outTo l r b s (j + 1) = outTo l r b s j := by
  rw [outTo_next, nextOf, h]; simp
theorem outTo_none {l : Lex} {r : List Int} {b : Int} {s : List Int} {j : Nat} (h : ((spl l (r.drop (wrd l (j : Int)).length) j).length : Int) = 0) : outTo l r b s (j + 1) = outTo l r b s j := by
  have : spl l (r.drop (wrd l (j : Int)).length) j = [] := List.length_eq_zero_iff.1 (by omega)
  rw [outTo_next, nextOf, this]; split <;> simp
theorem outTo_take {l : Lex} {r : List Int} {b : Int} {s : List Int} {j : Nat} (h : okNext l r b j = true) : outTo l r b s (j + 1) = outTo l r b s j ++ (spl l (r.drop (wrd l (j : Int)).length) j).map ((s ++ [(j : Int)]) ++ ·) := by
  rw [outTo_next, nextOf, if_pos h, List.map_map]
  congr 1
  refine List.map_congr_left fun x _ => ?_
  simp
theorem outTo_all {l : Lex} (h : NoE l) {r : List Int} (hr : r ≠ []) (b : Int) (s : List Int) : outTo l r b s l.n = (spl l r b).map (s ++ ·) := by
  unfold outTo; rw [spl_cons h hr]
theorem flat_le {α : Type} {f : Nat → List α} {j n : Nat} (h : j ≤ n) : ((List.range j).flatMap f).length ≤ ((List.range n).flatMap f).length := by
  obtain ⟨k, rfl⟩ : ∃ k, n = j + k := ⟨n - j, by omega⟩
  rw [List.range_add, List.flatMap_append, List.length_append]; omega
/-- there is room for what an item adds -/
theorem outTo_room {l : Lex} (h : NoE l) {r : List Int} (hr : r ≠ []) (b : Int) (s : List Int) {j : Nat} (hj : j < l.n) (ho : okNext l r b j = true) : (outTo l r b s j).length + (spl l (r.drop (wrd l (j : Int)).length) j).length ≤ (spl l r b).length := by
  have h1 := flat_le (f := nextOf l r b) (show j + 1 ≤ l.n by omega)
  rw [← spl_cons h hr b] at h1
  have h2 := congrArg List.length (outTo_take (s := s) ho)
  unfold outTo at h2 ⊢
  simp only [List.length_map, List.length_append] at h2 ⊢
  omega
theorem outTo_len {l : Lex} (h : NoE l) {r : List Int} (hr : r ≠ []) (b : Int) (s : List Int) {j : Nat} (hj : j ≤ l.n) : (outTo l r b s j).length ≤ (spl l r b).length := by
  have h1 := flat_le (f := nextOf l r b) hj
  rw [← spl_cons h hr b] at h1
  unfold outTo
  simpa using h1
/-- behind which item s ends -/
def befS (s : List Int) : Int := if s = [] then -1 else lastI s
theorem befS_snoc (s : List Int) (x : Int) : befS (s ++ [x]) = x := by unfold befS; rw [if_neg (by simp)]; simp [lastI]
theorem SR.keptN {w w' : World} {B : Nat} {sv : Value} {q : List (List Int)} {row : Option Nat} (h : SR w B sv q) (hg : w.grownBy w' row) (hr : ∀ r, row = some r → NoI w B r ∧ sv.ownBlock ≠ some r) : SR w' B sv q := by
  obtain ⟨vs, h1, h2⟩ := h
  exact ⟨vs, h1.kept hg (fun r e => (hr r e).2), h2.kept hg (fun r e => (hr r e).1)⟩
theorem noI_set {w : World} {B g : Nat} {ty : TypeId} {vs : List Value} (h : Blk w g ty vs) (hB : B ≤ g) (ht : ty ≠ 3) : NoI w B g := ⟨hB, _, ty, _, h, ht⟩
theorem SR.low {w : World} {B B' : Nat} {v : Value} {q : List (List Int)} (h : SR w B v q) (hB : B' ≤ B) (hs : ∀ vs, AllS w B vs q → AllS w B' vs q) : SR w B' v q := by
  obtain ⟨vs, h1, h2⟩ := h
  refine ⟨vs, ⟨h1.1, ?_⟩, hs vs h2⟩
  rcases h1.2 with h | ⟨g, o, cap, cur, e, hb, r⟩
  · exact .inl h
  · exact .inr ⟨g, o, cap, cur, e, by omega, r⟩
end Go.Proofs.Ytgpggmcjggpmpaa
