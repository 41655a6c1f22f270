/- The cells of a spec are a box, whose smallest spec is that one: plain. -/
import Derived.Test.YtdgncnhmgbmpjaaBoxP
namespace Go.Proofs.Ytdgncnhmgbmpjaa
open Go.RowKit Go.Shelf
set_option linter.unusedVariables false
def specsOf : List Int → List (List Int)
  | [] => [[]]
  | s :: ss => (List.range (s.toNat + 1)).flatMap fun (v : Nat) => (specsOf ss).map fun c => ((v : Int) - 1) :: c
theorem mem_specsOf : ∀ (sizes c : List Int), c.length = sizes.length → (∀ i, i < c.length → -1 ≤ c[i]?.getD 0 ∧ c[i]?.getD 0 ≤ sizes[i]?.getD 0 - 1) → c ∈ specsOf sizes
  | [], c, hl, _ => by
    have : c = [] := List.eq_nil_of_length_eq_zero (by simpa using hl)
    subst this; simp [specsOf]
  | s :: ss, [], hl, _ => by simp at hl
  | s :: ss, v :: c, hl, h => by
    have h0 := h 0 (by simp)
    simp only [List.getElem?_cons_zero, Option.getD_some] at h0
    have ih := mem_specsOf ss c (by simpa using hl) (fun i hi => by
      have := h (i + 1) (by simp; omega)
      simpa using this)
    simp only [specsOf, List.mem_flatMap, List.mem_range, List.mem_map]
    exact ⟨(v + 1).toNat, by omega, c, ih, by rw [show (((v + 1).toNat : Nat) : Int) - 1 = v by omega]⟩
def boxOf (sizes a : List Int) : List (List Int) := (cellsOf sizes).filter (holdsB a)
theorem box_hull {sizes a : List Int} (hok : sizesOk sizes) (ha : SpecOk sizes a) : hullL (boxOf sizes a) = a ∧ 0 < (boxOf sizes a).length := by
  have := sizes_all (p := fun l => (specsOf l).all fun a => decide (hullL (boxOf l a) = a ∧ 0 < (boxOf l a).length)) (by decide +kernel) hok
  have := List.all_eq_true.1 this a (mem_specsOf sizes a ha.1 ha.2)
  simpa using this
theorem cell_isListB {sizes x : List Int} (hok : sizesOk sizes) (h : x ∈ cellsOf sizes) : isListB sizes x 0 = true := by
  obtain ⟨k, hk, rfl⟩ := List.mem_iff_getElem.1 h
  have h1 := cells_ok hok hk
  rw [List.getElem?_eq_getElem hk, Option.getD_some] at h1
  simp only [cellOk, Bool.and_eq_true, beq_iff_eq, List.all_eq_true, List.mem_range, decide_eq_true_eq] at h1
  rw [isListB_iff]
  exact ⟨h1.1, h1.2⟩
theorem box_check {sizes : List Int} {es : List Ent} {a : List Int} (V : ValidP sizes es) : checkI sizes es (boxOf sizes a) = 0 := by
  rw [checkI, if_pos (validI_of V), allB_true (fun j hj => ?_)]
  · rfl
  · rw [List.getElem?_eq_getElem hj]
    exact cell_isListB V.ok (List.mem_filter.1 (List.getElem_mem hj)).1
theorem box_isBox {sizes : List Int} {es : List Ent} {i : Nat} (V : ValidP sizes es) (hi : i < es.length) :
    isBoxB sizes es (boxOf sizes (ent es i).1) = true ∧ checkI sizes es (boxOf sizes (ent es i).1) = 0 ∧ hullK sizes es (boxOf sizes (ent es i).1) = 0 ∧ hullV sizes es (boxOf sizes (ent es i).1) = (ent es i).1 := by
  have hs := V.spec i hi
  obtain ⟨h1, h2⟩ := box_hull V.ok hs
  have hc := box_check (a := (ent es i).1) V
  have hk : hullK sizes es (boxOf sizes (ent es i).1) = 0 := by rw [hullK, if_pos hc, if_neg (by omega)]
  refine ⟨?_, hc, hk, by rw [hullV, if_pos hk, h1]⟩
  rw [isBoxB, if_pos hc, if_neg (by omega), boxB_iff, h1]
  intro c hm hh
  exact List.mem_filter.2 ⟨hm, hh⟩
theorem box_next {sizes a : List Int} {k : Nat} (hk : k < (cellsOf sizes).length) : ((cellsOf sizes).take (k + 1)).filter (holdsB a) = ((cellsOf sizes).take k).filter (holdsB a) ++ if holdsB a ((cellsOf sizes)[k]?.getD []) then [(cellsOf sizes)[k]?.getD []] else [] := by
  rw [List.take_add_one, List.getElem?_eq_getElem hk, List.filter_append]
  cases h : holdsB a (cellsOf sizes)[k] <;> simp [h]
end Go.Proofs.Ytdgncnhmgbmpjaa
