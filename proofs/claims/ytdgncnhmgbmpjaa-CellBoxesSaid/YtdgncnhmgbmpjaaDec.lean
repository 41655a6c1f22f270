/- Which entry decides a cell, said of the entries themselves; entries in another order make the same forms. Plain. -/
import Derived.Test.YtdgncnhmgbmpjaaCellJ
namespace Go.Proofs.Ytdgncnhmgbmpjaa
set_option linter.unusedVariables false

theorem more_asym (a b : List Int) (h : isMoreB a b = true) : isMoreB b a = false := by
  simp only [isMoreB, Bool.and_eq_true, Bool.not_eq_true'] at h
  simp [isMoreB, h.2]
/-- entry k decides the cell -/
def Dec (es : List Ent) (c : List Int) (k : Nat) : Prop := k < es.length ∧ holdsB (ent es k).1 c = true ∧ ∀ j, j < es.length → holdsB (ent es j).1 c = true → j ≠ k → isMoreB (ent es k).1 (ent es j).1 = true
theorem Dec.one {es : List Ent} {c : List Int} {k j : Nat} (h : Dec es c k) (h2 : Dec es c j) : j = k := by
  by_cases e : j = k
  · exact e
  · have h3 := h.2.2 j h2.1 h2.2.1 e
    have h4 := h2.2.2 k h.1 h.2.1 (Ne.symm e)
    rw [more_asym _ _ h3] at h4; cases h4
theorem mem_sel {n : Nat} {f : Nat → Bool} {i : Int} : i ∈ sel n f ↔ ∃ k : Nat, k < n ∧ f k = true ∧ i = k := by
  simp only [sel, List.mem_map, List.mem_filter, List.mem_range]
  constructor
  · rintro ⟨k, ⟨hk, h1⟩, he⟩; exact ⟨k, hk, h1, he.symm⟩
  · rintro ⟨k, hk, h1, he⟩; exact ⟨k, ⟨hk, h1⟩, he.symm⟩
theorem best_iff {es : List Ent} {c : List Int} {k : Nat} (hk : k < es.length) (hm : matchB es c k = true) : bestB es (sel es.length (matchB es c)) k = true ↔ Dec es c k := by
  unfold bestB
  rw [Bool.not_eq_true', List.any_eq_false]
  constructor
  · intro h
    refine ⟨hk, hm, fun j hj hmj hne => ?_⟩
    have := h j (mem_sel.2 ⟨j, hj, hmj, rfl⟩)
    simp only [worseB, Int.toNat_natCast, Bool.and_eq_true, bne_iff_ne, Bool.not_eq_true', not_and, Bool.not_eq_false] at this
    exact this (by omega)
  · intro h i hi
    obtain ⟨j, hj, hmj, rfl⟩ := mem_sel.1 hi
    simp only [worseB, Int.toNat_natCast, Bool.and_eq_true, bne_iff_ne, Bool.not_eq_true', not_and, Bool.not_eq_false]
    intro hne
    exact h.2.2 j hj hmj (by omega)
theorem decides_iff {es : List Ent} {c : List Int} {k : Nat} : decidesI es c = k ↔ Dec es c k := by
  unfold decidesI findI
  constructor
  · intro h
    cases hf : (sel es.length (matchB es c)).find? (bestB es (sel es.length (matchB es c))) with
    | none => rw [hf] at h; simp at h
    | some x =>
      rw [hf] at h; simp at h; subst h
      obtain ⟨j, hj, hm, he⟩ := mem_sel.1 (List.mem_of_find?_eq_some hf)
      have : j = k := by omega
      subst this
      have hb := List.find?_some hf
      exact (best_iff hj hm).1 hb
  · intro h
    have hm : (k : Int) ∈ sel es.length (matchB es c) := mem_sel.2 ⟨k, h.1, h.2.1, rfl⟩
    cases hf : (sel es.length (matchB es c)).find? (bestB es (sel es.length (matchB es c))) with
    | none =>
      have := List.find?_eq_none.1 hf k hm
      exact absurd ((best_iff h.1 h.2.1).2 h) this
    | some x =>
      obtain ⟨j, hj, hmj, rfl⟩ := mem_sel.1 (List.mem_of_find?_eq_some hf)
      have hd := (best_iff hj hmj).1 (List.find?_some hf)
      rw [h.one hd]; rfl
theorem decides_none {es : List Ent} {c : List Int} (h : ∀ k, ¬ Dec es c k) : decidesI es c = -1 := by
  rcases decidesI_cases es c with ⟨k, _, hk⟩ | h1
  · exact absurd (decides_iff.1 hk) (h k)
  · exact h1
theorem form_dec {es : List Ent} {c : List Int} {k : Nat} (h : Dec es c k) : formI es c = (ent es k).2 := by
  rw [formI, decides_iff.2 h, if_pos (by omega)]; simp
theorem form_none {es : List Ent} {c : List Int} (h : ∀ k, ¬ Dec es c k) : formI es c = -1 := by
  rw [formI, decides_none h, if_neg (by omega)]
/-- entries in another order make the same forms -/
theorem form_perm {es fs : List Ent} {c : List Int} (s : Nat → Nat) (hl : fs.length = es.length) (hs : ∀ i, s (s i) = i) (hb : ∀ i, i < es.length → s i < es.length) (he : ∀ i, i < es.length → ent fs i = ent es (s i)) : formI fs c = formI es c := by
  have hd : ∀ k, Dec es c k → Dec fs c (s k) := fun k h => by
    refine ⟨by rw [hl]; exact hb k h.1, by rw [he _ (hb k h.1), hs]; exact h.2.1, fun j hj hm hne => ?_⟩
    rw [hl] at hj
    rw [he _ (hb k h.1), hs, he j hj]
    rw [he j hj] at hm
    exact h.2.2 (s j) (hb j hj) hm (fun e => hne (by rw [← e, hs]))
  have hd2 : ∀ k, Dec fs c k → Dec es c (s k) := fun k h => by
    have hk : k < es.length := by rw [← hl]; exact h.1
    refine ⟨hb k hk, by rw [← he k hk]; exact h.2.1, fun j hj hm hne => ?_⟩
    have h3 := h.2.2 (s j) (by rw [hl]; exact hb j hj) (by rw [he _ (hb j hj), hs]; exact hm) (fun e => hne (by rw [← e, hs]))
    rw [he k hk, he _ (hb j hj), hs] at h3
    exact h3
  by_cases h : ∃ k, Dec es c k
  · obtain ⟨k, h⟩ := h
    rw [form_dec h, form_dec (hd k h), he _ (hb k h.1), hs]
  · have h0 : ∀ k, ¬ Dec es c k := fun k hk => h ⟨k, hk⟩
    rw [form_none h0, form_none fun k hk => h0 _ (hd2 k hk)]
end Go.Proofs.Ytdgncnhmgbmpjaa
