/- One more entry: cells for which it does not hold keep their forms. Plain. -/
import Derived.Test.YtoepnpjjmfhnnaaAdd
namespace Go.Proofs.Ytoepnpjjmfhnnaa
set_option linter.unusedVariables false

theorem ent_append {es : List Ent} {e : Ent} {i : Nat} (hi : i < es.length) : ent (es ++ [e]) i = ent es i := by
  unfold ent; rw [List.getElem?_append_left hi]
theorem ent_last (es : List Ent) (e : Ent) : ent (es ++ [e]) es.length = e := by
  unfold ent; simp
theorem sel_congr {n : Nat} {f g : Nat → Bool} (h : ∀ i, i < n → f i = g i) : sel n f = sel n g := by
  unfold sel
  congr 1
  exact List.filter_congr (fun i hi => h i (by simpa using hi))
theorem sel_append {es : List Ent} {x : List Int} {f : Int} {c : List Int} (h : holdsB x c = false) : sel (es ++ [(x, f)]).length (matchB (es ++ [(x, f)]) c) = sel es.length (matchB es c) := by
  rw [List.length_append, List.length_singleton, sel_no (by rw [matchB, ent_last]; exact h)]
  exact sel_congr (fun i hi => by rw [matchB, ent_append hi]; rfl)
theorem findI_congr {l : List Int} {p q : Int → Bool} (h : ∀ i ∈ l, p i = q i) : findI l p = findI l q := by
  unfold findI
  congr 1
  induction l with
  | nil => rfl
  | cons y ys ih =>
    rw [List.find?_cons, List.find?_cons, h y (by simp), ih (fun i hi => h i (by simp [hi]))]
theorem sel_mem {n : Nat} {f : Nat → Bool} {i : Int} (h : i ∈ sel n f) : ∃ k : Nat, k < n ∧ i = k := by
  simp only [sel, List.mem_map, List.mem_filter, List.mem_range] at h
  obtain ⟨k, ⟨hk, _⟩, he⟩ := h
  exact ⟨k, hk, he.symm⟩
theorem decides_append {es : List Ent} {x : List Int} {f : Int} {c : List Int} (h : holdsB x c = false) : decidesI (es ++ [(x, f)]) c = decidesI es c := by
  rw [decidesI, decidesI, sel_append h]
  refine findI_congr (fun i hi => ?_)
  obtain ⟨a, ha, rfl⟩ := sel_mem hi
  unfold bestB
  congr 1
  rw [Bool.eq_iff_iff, List.any_eq_true, List.any_eq_true]
  constructor
  · rintro ⟨j, hj, hw⟩
    refine ⟨j, hj, ?_⟩
    obtain ⟨b, hb, rfl⟩ := sel_mem hj
    rw [worseB, Int.toNat_natCast, Int.toNat_natCast, ent_append ha, ent_append hb] at hw
    rw [worseB, Int.toNat_natCast, Int.toNat_natCast]; exact hw
  · rintro ⟨j, hj, hw⟩
    refine ⟨j, hj, ?_⟩
    obtain ⟨b, hb, rfl⟩ := sel_mem hj
    rw [worseB, Int.toNat_natCast, Int.toNat_natCast] at hw
    rw [worseB, Int.toNat_natCast, Int.toNat_natCast, ent_append ha, ent_append hb]; exact hw
theorem form_append {es : List Ent} {x : List Int} {f : Int} {c : List Int} (h : holdsB x c = false) : formI (es ++ [(x, f)]) c = formI es c := by
  unfold formI
  rw [decides_append h]
  rcases decidesI_cases es c with ⟨k, hk, hd⟩ | hd
  · rw [hd, Int.toNat_natCast, ent_append hk]
  · rw [hd, if_neg (by omega), if_neg (by omega)]
end Go.Proofs.Ytoepnpjjmfhnnaa
