/- Specs and cells: plain. -/
import Derived.Test.YtdgncnhmgbmpjaaCellJ
namespace Go.Proofs.Ytdgncnhmgbmpjaa
set_option linter.unusedVariables false

theorem holdsB_iff (s o : List Int) : holdsB s o = true ↔ ∀ i, i < s.length → s[i]?.getD 0 = -1 ∨ s[i]?.getD 0 = o[i]?.getD 0 := by
  simp [holdsB, agreesB, allB, coversB]
theorem isListB_iff (sizes l : List Int) (lo : Int) : isListB sizes l lo = true ↔ l.length = sizes.length ∧ ∀ i, i < l.length → lo ≤ l[i]?.getD 0 ∧ l[i]?.getD 0 ≤ sizes[i]?.getD 0 - 1 := by
  simp [isListB, allB, okAt]

theorem mem_cellsOf : ∀ (sizes c : List Int), c.length = sizes.length → (∀ i, i < c.length → 0 ≤ c[i]?.getD 0 ∧ c[i]?.getD 0 ≤ sizes[i]?.getD 0 - 1) → c ∈ cellsOf sizes
  | [], c, hl, _ => by
    have : c = [] := List.eq_nil_of_length_eq_zero (by simpa using hl)
    subst this; simp [cellsOf]
  | s :: ss, [], hl, _ => by simp at hl
  | s :: ss, v :: c, hl, h => by
    have h0 := h 0 (by simp)
    simp only [List.getElem?_cons_zero, Option.getD_some] at h0
    have ih := mem_cellsOf ss c (by simpa using hl) (fun i hi => by
      have := h (i + 1) (by simp; omega)
      simpa using this)
    simp only [cellsOf, List.mem_flatMap, List.mem_range, List.mem_map]
    exact ⟨v.toNat, by omega, c, ih, by rw [show ((v.toNat : Nat) : Int) = v by omega]⟩

def insideB (sizes a b : List Int) : Bool := allB (cellsOf sizes).length fun k => !(holdsB a ((cellsOf sizes)[k]?.getD []) && !holdsB b ((cellsOf sizes)[k]?.getD []))
/-- a spec's numbers -/
def SpecOk (sizes a : List Int) : Prop := a.length = sizes.length ∧ ∀ i, i < a.length → -1 ≤ a[i]?.getD 0 ∧ a[i]?.getD 0 ≤ sizes[i]?.getD 0 - 1
theorem SpecOk.of {sizes a : List Int} (h : isListB sizes a (-1) = true) : SpecOk sizes a := (isListB_iff _ _ _).1 h
theorem ValidP.spec {sizes : List Int} {es : List Ent} (h : ValidP sizes es) (i : Nat) (hi : i < es.length) : SpecOk sizes (Go.Proofs.Ytdgncnhmgbmpjaa.ent es i).1 := by
  have := h.ent i hi
  simp only [entB, Bool.and_eq_true] at this
  exact SpecOk.of this.1

theorem get_map_range (n : Nat) (f : Nat → Int) (i : Nat) (hi : i < n) : ((List.range n).map f)[i]?.getD 0 = f i := by simp [hi]

theorem insideB_eq {sizes a b : List Int} (hok : sizesOk sizes) (ha : SpecOk sizes a) (hb : SpecOk sizes b) : insideB sizes a b = holdsB b a := by
  cases h : holdsB b a with
  | true =>
    rw [holdsB_iff] at h
    refine allB_true fun k hk => ?_
    cases h1 : holdsB a ((cellsOf sizes)[k]?.getD []) with
    | false => rfl
    | true =>
      rw [holdsB_iff] at h1
      have h2 : holdsB b ((cellsOf sizes)[k]?.getD []) = true := by
        rw [holdsB_iff]
        intro i hi
        rcases h i hi with h3 | h3
        · exact .inl h3
        · rcases h1 i (by rw [ha.1, ← hb.1]; exact hi) with h4 | h4
          · exact .inl (h3.trans h4)
          · exact .inr (h3.trans h4)
      rw [h2]; rfl
  | false =>
    have hex : ∃ t, t < b.length ∧ b[t]?.getD 0 ≠ -1 ∧ b[t]?.getD 0 ≠ a[t]?.getD 0 := by
      apply Classical.byContradiction
      intro hn
      have : holdsB b a = true := by
        rw [holdsB_iff]
        intro i hi
        apply Classical.byContradiction
        intro hc
        exact hn ⟨i, hi, fun h => hc (.inl h), fun h => hc (.inr h)⟩
      rw [h] at this; cases this
    obtain ⟨t, ht, hb1, hb2⟩ := hex
    have hlen : b.length = a.length := hb.1.trans ha.1.symm
    let f : Nat → Int := fun i => if i = t then (if a[t]?.getD 0 = -1 then (if b[t]?.getD 0 = 0 then 1 else 0) else a[t]?.getD 0) else max (a[i]?.getD 0) 0
    have hmem : (List.range sizes.length).map f ∈ cellsOf sizes := by
      refine mem_cellsOf _ _ (by simp) (fun i hi => ?_)
      simp only [List.length_map, List.length_range] at hi
      rw [get_map_range _ _ _ hi]
      have h1 := ha.2 i (by rw [ha.1]; exact hi)
      have h2 := hok.2.2 i hi
      simp only [f]
      split
      · subst_vars
        split
        · split <;> omega
        · omega
      · omega
    obtain ⟨k, hk, hkc⟩ := List.mem_iff_getElem.1 hmem
    have hget : (cellsOf sizes)[k]?.getD [] = (List.range sizes.length).map f := by simp [hk, hkc]
    refine allB_false hk ?_
    rw [hget]
    have h1 : holdsB a ((List.range sizes.length).map f) = true := by
      rw [holdsB_iff]
      intro i hi
      have hi' : i < sizes.length := by rw [← ha.1]; exact hi
      rw [get_map_range _ _ _ hi']
      have h3 := ha.2 i hi
      simp only [f]
      split
      · subst_vars
        split
        · rename_i h4; exact .inl h4
        · exact .inr rfl
      · rcases Int.lt_or_le (a[i]?.getD 0) 0 with h4 | h4
        · exact .inl (by omega)
        · exact .inr (by omega)
    have h2 : holdsB b ((List.range sizes.length).map f) = false := by
      cases h5 : holdsB b ((List.range sizes.length).map f) with
      | false => rfl
      | true =>
        exfalso
        rw [holdsB_iff] at h5
        have ht' : t < sizes.length := by rw [← hb.1]; exact ht
        rcases h5 t ht with h6 | h6
        · exact hb1 h6
        · rw [get_map_range _ _ _ ht'] at h6
          simp only [f, if_true] at h6
          split at h6
          · split at h6
            · omega
            · omega
          · exact hb2 h6
    rw [h1, h2]; rfl
theorem isMoreR_eq {sizes a b : List Int} (hok : sizesOk sizes) (ha : SpecOk sizes a) (hb : SpecOk sizes b) : (insideB sizes a b && !insideB sizes b a) = isMoreB a b := by
  rw [insideB_eq hok ha hb, insideB_eq hok hb ha]; rfl

theorem sel_inj (n : Nat) (f : Nat → Bool) {i k : Nat} (hi : i < (sel n f).length) (hk : k < (sel n f).length) (h : (sel n f)[i]?.getD 0 = (sel n f)[k]?.getD 0) : i = k := by
  have hp : (sel n f).Pairwise (· < ·) := by
    unfold sel
    rw [List.pairwise_map]
    exact ((List.pairwise_lt_range (n := n)).filter f).imp (fun h => by omega)
  rw [List.pairwise_iff_getElem] at hp
  simp [hi, hk] at h
  rcases Nat.lt_trichotomy i k with h1 | h1 | h1
  · have := hp i k hi hk h1; omega
  · exact h1
  · have := hp k i hk hi h1; omega
end Go.Proofs.Ytdgncnhmgbmpjaa
