/- Two entries of one's own exchanged: memory and lists. -/
import Derived.Test.YtejklkhaplkblaaEqual
namespace Go.Proofs.Ytejklkhaplkblaa
open Go.RowKit Go.Shelf
set_option linter.unusedVariables false

theorem eCells_set : ∀ (us : List Value) (es : List Ent) (a : Nat) (u : Value) (e : Ent), us.length = es.length → eCells (us.set a u) (es.set a e) = ((eCells us es).set (a * 2) u).set (a * 2 + 1) (.int .i64 e.2)
  | [], [], a, _, _, _ => by simp [eCells]
  | [], _ :: _, _, _, _, h => by simp at h
  | _ :: _, [], _, _, _, h => by simp at h
  | x :: us, y :: es, 0, u, e, h => by simp [eCells]
  | x :: us, y :: es, a + 1, u, e, h => by
    rw [show (a + 1) * 2 = a * 2 + 2 by omega, show a * 2 + 2 + 1 = (a * 2 + 1) + 2 by omega]
    have := eCells_set us es a u e (by simpa using h)
    simp only [List.set_cons_succ, eCells, this]
theorem AllO.set {w : World} {B : Nat} {us : List Value} {ls : List (List Int)} {a : Nat} {u : Value} {l : List Int} (h : AllO w B us ls) (hu : OInts 3 w B u l) : AllO w B (us.set a u) (ls.set a l) := by
  obtain ⟨h1, h2⟩ := h
  refine ⟨by simp [h1], fun i x hx => ?_⟩
  by_cases hia : a = i
  · subst hia
    rw [List.getElem?_set] at hx
    simp only [if_true] at hx
    split at hx
    · injection hx with hx; subst hx
      rw [List.getElem?_set_self (by omega)]; exact hu
    · cases hx
  · rw [List.getElem?_set_ne hia] at hx
    rw [List.getElem?_set_ne hia]; exact h2 i x hx
/-- a cell of a row of one's own is written -/
theorem ownsRow_set {w : World} {B size n : Nat} {e : TypeId} {g cap : Nat} {xs : List Value} (h : w.ownsRow B e size (.slice (some ⟨g, 0, none⟩) n cap) n xs) {i : Nat} (hi : i < xs.length) (v : Value) :
    (w.setCell ⟨g, i, none⟩ v).ownsRow B e size (.slice (some ⟨g, 0, none⟩) n cap) n (xs.set i v) := by
  obtain ⟨h1, h2⟩ := h
  refine ⟨by simp [h1], ?_⟩
  rcases h2 with ⟨h, _⟩ | ⟨g', cap', cur, hv, hg, hh, hnc, hm, hcs, ht⟩
  · cases h
  · injection hv with ha _ hc
    injection ha with ha; injection ha with ha _ _
    subst ha hc
    refine .inr ⟨g, cap, cur.setIfInBounds i v, rfl, hg, ?_, hnc, hm, by simpa using hcs, ?_⟩
    · simp [World.setCell, Array.getElem?_modify, hh]
    · rw [Array.toList_setIfInBounds, List.take_set, ht]
end Go.Proofs.Ytejklkhaplkblaa
