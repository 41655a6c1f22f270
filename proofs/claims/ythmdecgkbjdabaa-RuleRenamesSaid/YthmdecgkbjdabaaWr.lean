/- Writing into a list of one's own. -/
import Derived.Test.YthmdecgkbjdabaaSl
namespace Go.Proofs.Ythmdecgkbjdabaa
open Go.RowKit Go.Shelf
set_option linter.unusedVariables false

/-- a cell of a row of one's own is written -/
theorem ownsRow_set {w : World} {B size n : Nat} {e : TypeId} {g cap : Nat} {xs : List Value} (h : w.ownsRow B e size (.slice (some ⟨g, 0, none⟩) n cap) n xs) {i : Nat} (hi : i < xs.length) (v : Value) :
    (w.setCell ⟨g, i, none⟩ v).ownsRow B e size (.slice (some ⟨g, 0, none⟩) n cap) n (xs.set i v) := by
  obtain ⟨h1, h2⟩ := h
  refine ⟨by simp [h1], ?_⟩
  rcases h2 with ⟨h, _⟩ | ⟨g', cap', cur, hv, hg, hh, hnc, hm, hcs, ht⟩
  · cases h
  · injection hv with ha _ hc
    injection ha with ha; injection ha with ha _ _
    subst ha hc
    refine .inr ⟨g, cap, cur.setIfInBounds i v, rfl, hg, ?_, hnc, hm, by simpa using hcs, ?_⟩
    · simp [World.setCell, Array.getElem?_modify, hh]
    · rw [Array.toList_setIfInBounds, List.take_set, ht]
theorem OInts.write {w : World} {B r i : Nat} {u : Value} {l : List Int} {x : Int} (h : OInts 3 w B u l) : ∃ l', l'.length = l.length ∧ OInts 3 (w.setCell ⟨r, i, none⟩ (.int .i64 x)) B u l' := by
  by_cases hr : u.ownBlock = some r
  · rcases h.2 with ⟨rfl, _⟩ | ⟨g, cap, cur, rfl, hg, hh, hnc, hm, hcs, ht⟩
    · cases hr
    · simp only [Value.ownBlock, Option.some.injEq] at hr; subst hr
      by_cases hi : i < l.length
      · refine ⟨l.set i x, by simp, ?_⟩
        have := ownsRow_set (i := i) h (by simpa using hi) (.int .i64 x)
        unfold OInts
        rw [List.length_set, show Go.Proofs.Ythmdecgkbjdabaa.ints (l.set i x) = (Go.Proofs.Ythmdecgkbjdabaa.ints l).set i (.int .i64 x) from by simp [Go.Proofs.Ythmdecgkbjdabaa.ints, List.map_set]]; exact this
      · refine ⟨l, rfl, h.1, .inr ⟨g, cap, cur.setIfInBounds i (.int .i64 x), rfl, hg, ?_, hnc, hm, by simpa using hcs, ?_⟩⟩
        · simp [World.setCell, Array.getElem?_modify, hh]
        · rw [Array.toList_setIfInBounds, List.take_set_of_le (by omega), ht]
  · exact ⟨l, rfl, World.ownsRow.kept h (grownBy_set w r i _) (.inr hr)⟩
theorem OInts.spot {w : World} {B : Nat} {u : Value} {l : List Int} (h : OInts 3 w B u l) {i : Nat} (hi : i < l.length) : ∃ r cap, u = .slice (some ⟨r, 0, none⟩) l.length cap ∧ l.length ≤ cap ∧ cap ≤ 9223372036854775807 ∧ B ≤ r ∧ (∃ cur, w.heap[r]? = some (.cells cur 3 (0, 0))) ∧
    w.cell? ⟨r, i, none⟩ = some (.int .i64 (l[i]?.getD 0)) ∧ w.frozen? ⟨r, i, none⟩ = false := by
  rcases h.2 with ⟨_, h0⟩ | ⟨g, cap, cur, rfl, hg, hh, hnc, hm, hcs, ht⟩
  · omega
  · refine ⟨g, cap, rfl, hnc, hm, hg, ⟨cur, hh⟩, ?_, ?_⟩
    · rw [World.ownsRow.cellAt (show w.ownsRow B 3 1 (.slice (some ⟨g, 0, none⟩) l.length cap) l.length (Go.Proofs.Ythmdecgkbjdabaa.ints l) from ⟨by simp, .inr ⟨g, cap, cur, rfl, hg, hh, hnc, hm, hcs, ht⟩⟩) i (by simpa using hi), ints_get l i hi]
    · simp [World.frozen?, hh]
end Go.Proofs.Ythmdecgkbjdabaa
