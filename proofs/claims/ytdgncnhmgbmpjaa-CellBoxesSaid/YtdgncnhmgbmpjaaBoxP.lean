/- Cells that are a box: plain. -/
import Derived.Test.YtdgncnhmgbmpjaaCmpF
import Derived.Test.YtdgncnhmgbmpjaaHullC
namespace Go.Proofs.Ytdgncnhmgbmpjaa
open Go.RowKit Go.Shelf
set_option linter.unusedVariables false
theorem nodup_sub_lenP {α : Type} [DecidableEq α] : ∀ {l k : List α}, l.Nodup → (∀ x ∈ l, x ∈ k) → l.length ≤ k.length
  | [], _, _, _ => Nat.zero_le _
  | x :: l, k, hn, hs => by
    have hn' := List.nodup_cons.1 hn
    have hx := hs x (by simp)
    have h1 := nodup_sub_lenP (l := l) (k := k.erase x) hn'.2 fun y hy => (List.mem_erase_of_ne (fun e => hn'.1 (by rw [← e]; exact hy))).2 (hs y (by simp [hy]))
    have h2 := List.length_erase_of_mem hx
    have h3 := List.length_pos_of_mem hx
    rw [List.length_cons]; omega
theorem cells_nodup {l : List Int} (hl : sizesOk l) : (cellsOf l).Nodup := by
  have := sizes_all (p := fun l => decide (cellsOf l).Nodup) (by decide +kernel) hl
  simpa using this
theorem hullP_get {o c : List Int} {j t : Nat} (h : t < o.length) : (hullP o c j)[t]?.getD 0 = if t < j ∧ o[t]?.getD 0 ≠ c[t]?.getD 0 then -1 else o[t]?.getD 0 := by
  unfold hullP
  rw [List.getElem?_map, List.getElem?_range h]; rfl
theorem hullTo_holds {ls : List (List Int)} {n : Nat} (hn : (ls[0]?.getD []).length = n) : ∀ (k i : Nat), i < k → ∀ t, t < n → (hullTo ls k)[t]?.getD 0 = -1 ∨ (hullTo ls k)[t]?.getD 0 = (ls[i]?.getD [])[t]?.getD 0
  | 0, i, hi, _, _ => absurd hi (Nat.not_lt_zero i)
  | k + 1, i, hi, t, ht => by
    have hl := hullTo_len ls k
    rw [hullTo, hullP_get (by omega)]
    split
    · exact .inl rfl
    · rename_i hne
      by_cases e : i = k
      · subst e
        right
        exact Classical.byContradiction fun h => hne ⟨by omega, h⟩
      · exact hullTo_holds hn k i (by omega) t ht
theorem hull_holds {ls : List (List Int)} {n : Nat} (hn : ∀ i, i < ls.length → (ls[i]?.getD []).length = n) {c : List Int} (hc : c ∈ ls) : holdsB (hullL ls) c = true := by
  obtain ⟨i, hi, rfl⟩ := List.mem_iff_getElem.1 hc
  rw [holdsB_iff]
  intro t ht
  have h0 : (ls[0]?.getD []).length = n := hn 0 (by omega)
  rw [hullL, hullTo_len, h0] at ht
  have := hullTo_holds h0 ls.length i hi t ht
  rw [List.getElem?_eq_getElem hi, Option.getD_some] at this
  exact this
theorem hull_len {ls : List (List Int)} {n : Nat} (h0 : 0 < ls.length) (hn : ∀ i, i < ls.length → (ls[i]?.getD []).length = n) : (hullL ls).length = n := by rw [hullL, hullTo_len]; exact hn 0 h0
def boxB (sizes : List Int) (ls : List (List Int)) : Bool := allB (cellsOf sizes).length fun k => !(holdsB (hullL ls) ((cellsOf sizes)[k]?.getD [])) || ls.contains ((cellsOf sizes)[k]?.getD [])
def isBoxB (sizes : List Int) (es : List Ent) (ls : List (List Int)) : Bool := if checkI sizes es ls = 0 then (if ls.length = 0 then false else boxB sizes ls) else false
theorem boxB_iff {sizes : List Int} {ls : List (List Int)} : boxB sizes ls = true ↔ ∀ c ∈ cellsOf sizes, holdsB (hullL ls) c = true → c ∈ ls := by
  unfold boxB allB
  rw [List.all_eq_true]
  constructor
  · intro h c hc hh
    obtain ⟨i, hi, rfl⟩ := List.mem_iff_getElem.1 hc
    have := h i (by simpa using hi)
    rw [List.getElem?_eq_getElem hi, Option.getD_some, hh] at this
    simpa using this
  · intro h k hk
    have hk' : k < (cellsOf sizes).length := by simpa using hk
    rw [List.getElem?_eq_getElem hk', Option.getD_some]
    cases hh : holdsB (hullL ls) (cellsOf sizes)[k]
    · rfl
    · have := h _ (List.getElem_mem hk') hh
      simpa using this
theorem box_len {sizes : List Int} {ls D : List (List Int)} (hok : sizesOk sizes) (hD : D.Nodup) (hm : ∀ c, c ∈ D ↔ c ∈ ls) (hin : ∀ c ∈ ls, c ∈ cellsOf sizes ∧ holdsB (hullL ls) c = true) :
    ((D.length : Int) == (((cellsOf sizes).filter (holdsB (hullL ls))).length : Int)) = boxB sizes ls := by
  have hF : ((cellsOf sizes).filter (holdsB (hullL ls))).Nodup := (cells_nodup hok).filter _
  have hDF : ∀ c ∈ D, c ∈ (cellsOf sizes).filter (holdsB (hullL ls)) := fun c hc => List.mem_filter.2 (hin c ((hm c).1 hc))
  have h1 := nodup_sub_lenP hD hDF
  rw [Bool.eq_iff_iff, boxB_iff, beq_iff_eq]
  constructor
  · intro h c hc hh
    refine (hm c).1 (Classical.byContradiction fun hn => ?_)
    have h2 := nodup_sub_lenP (l := c :: D) (List.nodup_cons.2 ⟨hn, hD⟩) (fun x hx => by
      rcases List.mem_cons.1 hx with rfl | hx
      · exact List.mem_filter.2 ⟨hc, hh⟩
      · exact hDF x hx)
    rw [List.length_cons] at h2; omega
  · intro h
    have h2 := nodup_sub_lenP (k := D) hF (fun c hc => by
      obtain ⟨h3, h4⟩ := List.mem_filter.1 hc
      exact (hm c).2 (h c h3 h4))
    omega
/-! ## equal neighbors of a row in order, once -/
theorem keyP_le {w0 : World} {S : List (RowP w0)} (h : AscP S) {i j : Nat} (hij : i ≤ j) (hj : j < S.length) : cmpL (keyP S i) (keyP S j) ≤ 0 := by
  by_cases e : i = j
  · subst e; rw [cmpL_zero.2 rfl]; exact Int.le_refl _
  · have h1 := h i j (by omega) hj
    have e1 : keyP S i = (S[i]'(by omega)).1.2 := by unfold keyP atP; rw [List.getElem?_eq_getElem (by omega)]; rfl
    have e2 : keyP S j = S[j].1.2 := by unfold keyP atP; rw [List.getElem?_eq_getElem hj]; rfl
    have h2 := cmpL_anti (keyP S i) (keyP S j)
    unfold cmpP at h1
    rw [← e1, ← e2] at h1
    omega
theorem ddP_nodup {w0 : World} {S : List (RowP w0)} (h : AscP S) : ((ddToP S S.length).map fun x => x.1.2).Nodup := by
  unfold ddToP
  rw [List.map_map]
  refine List.pairwise_map.2 (List.Pairwise.imp_of_mem (R := fun a b => a < b) ?_ ((List.pairwise_lt_range (n := S.length)).filter _))
  intro i j hi hj hij he
  have hj1 := List.mem_filter.1 hj
  have hjl : j < S.length := by simpa using hj1.1
  have hk := hj1.2
  unfold ddKP at hk
  have hne : keyP S j ≠ keyP S (j - 1) := by
    intro e
    rw [e] at hk
    simp at hk
    omega
  have he' : keyP S i = keyP S j := he
  have h1 := keyP_le h (i := i) (j := j - 1) (by omega) (by omega)
  have h2 := keyP_le h (i := j - 1) (j := j) (by omega) hjl
  have h3 := cmpL_anti (keyP S (j - 1)) (keyP S j)
  rw [he'] at h1
  exact hne (cmpL_zero.1 (by omega))
theorem ddP_mem {w0 : World} {S : List (RowP w0)} (c : List Int) : c ∈ (ddToP S S.length).map (fun x => x.1.2) ↔ c ∈ S.map fun x => x.1.2 := by
  unfold ddToP
  rw [List.map_map, List.mem_map, List.mem_map]
  constructor
  · rintro ⟨j, hj, rfl⟩
    have hjl : j < S.length := by simpa using (List.mem_filter.1 hj).1
    refine ⟨S[j], List.getElem_mem hjl, ?_⟩
    show _ = (atP S j).1.2
    unfold atP; rw [List.getElem?_eq_getElem hjl]; rfl
  · rintro ⟨x, hx, rfl⟩
    obtain ⟨j, hj, rfl⟩ := List.mem_iff_getElem.1 hx
    have key : ∀ j, j < S.length → ∃ i, i ∈ (List.range S.length).filter (ddKP S) ∧ keyP S i = keyP S j := by
      intro j
      induction j with
      | zero => intro h; exact ⟨0, List.mem_filter.2 ⟨by simpa using h, rfl⟩, rfl⟩
      | succ j ih =>
        intro h
        cases hk : ddKP S (j + 1)
        · obtain ⟨i, hi, he⟩ := ih (by omega)
          refine ⟨i, hi, ?_⟩
          unfold ddKP at hk
          simp only [Bool.or_eq_false_iff, Bool.not_eq_false', beq_iff_eq, Nat.add_sub_cancel] at hk
          rw [he, hk.2]
        · exact ⟨j + 1, List.mem_filter.2 ⟨by simpa using h, hk⟩, rfl⟩
    obtain ⟨i, hi, he⟩ := key j hj
    refine ⟨i, hi, ?_⟩
    show keyP S i = _
    rw [he]; unfold keyP atP; rw [List.getElem?_eq_getElem hj]; rfl
/-- values that read as lists, as rows of the world -/
theorem rowsP_of {w0 : World} : ∀ {us : List Value} {ls : List (List Int)}, AllInts w0 us ls → ∃ L : List (RowP w0), L.map encL = us ∧ L.map (fun x => x.1.2) = ls
  | [], [], _ => ⟨[], rfl, rfl⟩
  | [], _ :: _, h => by have := h.1; simp at this
  | _ :: _, [], h => by have := h.1; simp at this
  | u :: us, l :: ls, h => by
    obtain ⟨L, h1, h2⟩ := rowsP_of (us := us) (ls := ls) ⟨by have := h.1; simpa using this, fun i x hx => by have := h.2 (i + 1) x (by simpa using hx); simpa using this⟩
    exact ⟨⟨(u, l), by have := h.2 0 u rfl; simpa using this⟩ :: L, by rw [List.map_cons, h1]; rfl, by rw [List.map_cons, h2]⟩
end Go.Proofs.Ytdgncnhmgbmpjaa
