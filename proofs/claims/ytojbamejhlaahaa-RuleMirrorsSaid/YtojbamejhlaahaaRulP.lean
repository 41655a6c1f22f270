/- Plain laws of rules: all places at once as segments; along without neighbors. -/
import Derived.Test.YtojbamejhlaahaaRulI
namespace Go.Proofs.Ytojbamejhlaahaa
open Go.RowKit Go.Shelf
set_option linter.unusedVariables false

/-- what stands at number i in the word that is made at all places at once -/
def seg (x : Rul) (l : List Int) (i : Nat) : List Int := (if placeB x l i then x.t else []) ++ (if placeB x l i = true ∧ lng x = 1 then [] else l[i]?.toList)
theorem allTo_foldr (x : Rul) (l : List Int) : ∀ k, k ≤ (placesL x l).length → allTo x l k = ((placesL x l).drop ((placesL x l).length - k)).foldr (fun i acc => putL x acc i.toNat) l
  | 0, _ => by simp [allTo]
  | k + 1, hk => by
    have hlt : (placesL x l).length - (k + 1) < (placesL x l).length := by omega
    rw [List.drop_eq_getElem_cons hlt, List.foldr_cons, allTo, allTo_foldr x l k (by omega), show (placesL x l).length - 1 - k = (placesL x l).length - (k + 1) by omega, List.getElem?_eq_getElem hlt, show (placesL x l).length - (k + 1) + 1 = (placesL x l).length - k by omega]
    rfl
theorem allL_foldr (x : Rul) (l : List Int) : allL x l = (List.range (l.length + 1)).foldr (fun (i : Nat) acc => if placeB x l (i : Int) then putL x acc i else acc) l := by
  unfold allL
  rw [allTo_foldr x l _ (Nat.le_refl _), Nat.sub_self, List.drop_zero, placesL_all, sel, List.foldr_map, List.foldr_filter]
  rfl
theorem put_seg (x : Rul) (l : List Int) (j : Nat) (R : List Int) (hj : j ≤ l.length) : (if placeB x l j then putL x (l.take (j + 1) ++ R) j else l.take (j + 1) ++ R) = l.take j ++ (seg x l j ++ R) := by
  have htk : l.take (j + 1) = l.take j ++ l[j]?.toList := by
    rw [List.take_add_one]
  by_cases hp : placeB x l j = true
  · rw [if_pos hp, seg, if_pos hp, putL]
    have hfit := placeB_nat hp
    have h1 : (l.take (j + 1) ++ R).take j = l.take j := by
      rw [htk, List.append_assoc, List.take_left' (by simp; omega)]
    rw [h1]
    rcases Nat.lt_or_ge (lng x) 1 with h0 | h0
    · have h0 : lng x = 0 := by omega
      rw [h0, Nat.add_zero, if_neg (by omega)]
      have h2 : (l.take (j + 1) ++ R).drop j = l[j]?.toList ++ R := by
        rw [htk, List.append_assoc, List.drop_left' (by simp; omega)]
      rw [h2]; simp
    · have h1 : lng x = 1 := by have := lng_le x; omega
      rw [h1] at hfit
      rw [h1, if_pos ⟨hp, rfl⟩]
      have h2 : (l.take (j + 1) ++ R).drop (j + 1) = R := List.drop_left' (by simp; omega)
      rw [h2]; simp
  · rw [if_neg hp, seg, if_neg hp, if_neg (fun h => hp h.1), htk]; simp
theorem foldr_seg (x : Rul) (l : List Int) : ∀ n j, j + n = l.length + 1 → (List.range' j n).foldr (fun (i : Nat) acc => if placeB x l (i : Int) then putL x acc i else acc) l = l.take j ++ (List.range' j n).flatMap (seg x l)
  | 0, j, h => by simp [List.take_of_length_le (show l.length ≤ j by omega)]
  | n + 1, j, h => by
    rw [List.range'_succ, List.foldr_cons, foldr_seg x l n (j + 1) (by omega), List.flatMap_cons, put_seg x l j _ (by omega)]
theorem allL_seg (x : Rul) (l : List Int) : allL x l = (List.range (l.length + 1)).flatMap (seg x l) := by
  rw [allL_foldr, List.range_eq_range', foldr_seg x l _ 0 (by omega)]; simp

/-! ## along, without neighbors -/
theorem place_free {x : Rul} (hf : lng x = 1) (hl : x.l = []) (hr : x.r = []) (w : List Int) (i : Nat) : placeB x w i = (decide (i < w.length) && (w[i]?.getD 0 == x.f)) := by
  have hnf : x.f ≠ -1 := by intro h; rw [lng, if_pos h] at hf; omega
  unfold placeB placeAt mayB
  rw [hl, hr, hf]
  by_cases hi : i < w.length
  · have h1 : decide ((0 : Int) ≤ (i : Int)) = true := by simp
    have h2 : decide ((i : Int) + ((1 : Nat) : Int) ≤ (w.length : Int)) = true := by simp; omega
    have h3 : (x.f == -1) = false := by simp [hnf]
    have h4 : atI w i = w[i]?.getD 0 := atI_nat hi
    rw [h1, h2, h3, h4]; simp [hi]
  · have h2 : decide ((i : Int) + ((1 : Nat) : Int) ≤ (w.length : Int)) = false := by simp; omega
    rw [h2]; simp [hi]
theorem along_free {x : Rul} (hf : lng x = 1) (hl : x.l = []) (hr : x.r = []) (ht : x.t.length ≤ 2) (l : List Int) :
    ∀ n j (p : List Int), j + n = l.length → (p ++ l.drop j).length ≤ 8 → alongF x (n + 1) (p ++ l.drop j) p.length = (if 8 < (p ++ (List.range' j (n + 1)).flatMap (seg x l)).length then none else some (p ++ (List.range' j (n + 1)).flatMap (seg x l)))
  | 0, j, p, h, h8 => by
    have hj : j = l.length := by omega
    subst hj
    have hd : l.drop l.length = [] := by simp
    rw [hd, List.append_nil] at h8 ⊢
    have hp : placeB x p p.length = false := by rw [place_free hf hl hr]; simp
    have hp2 : placeB x l l.length = false := by rw [place_free hf hl hr]; simp
    have hs : seg x l l.length = [] := by simp [seg, hp2]
    rw [alongF, hp]
    have h8' : ¬ 8 < p.length := by omega
    simp [List.range'_succ, hs, alongF, h8']
  | n + 1, j, p, h, h8 => by
    have hj : j < l.length := by omega
    have hd : l.drop j = l[j] :: l.drop (j + 1) := List.drop_eq_getElem_cons hj
    have hpe : placeB x (p ++ l.drop j) p.length = placeB x l j := by
      rw [place_free hf hl hr, place_free hf hl hr, hd]
      have h2 : (p ++ l[j] :: l.drop (j + 1))[p.length]? = some l[j] := by rw [List.getElem?_append_right (Nat.le_refl _), Nat.sub_self]; rfl
      have h3 : p.length < (p ++ l[j] :: l.drop (j + 1)).length := by simp only [List.length_append, List.length_cons]; omega
      rw [h2, List.getElem?_eq_getElem hj, decide_eq_true h3, decide_eq_true hj]
    rw [List.range'_succ, List.flatMap_cons]
    rw [alongF, hpe]
    by_cases hp : placeB x l j = true
    · rw [if_pos hp]
      have hs : seg x l j = x.t := by rw [seg, if_pos hp, if_pos ⟨hp, hf⟩, List.append_nil]
      have hput : putL x (p ++ l.drop j) p.length = (p ++ x.t) ++ l.drop (j + 1) := by
        rw [putL, hf, hd, List.take_left', List.drop_append]
        · simp
        · rfl
      rw [hput, hs, hf, show p.length + x.t.length + 1 - 1 = (p ++ x.t).length by simp]
      by_cases h9 : 8 < (p ++ x.t ++ l.drop (j + 1)).length
      · rw [if_pos h9]
        have hge : (l.drop (j + 1)).length ≤ ((List.range' (j + 1) (n + 1)).flatMap (seg x l)).length := by
          by_cases h0 : x.t.length = 0
          · exfalso; rw [hd] at h8; simp [h0] at h9 h8; omega
          · exact seg_ge hf (by omega) l n (j + 1) (by omega)
        rw [if_pos]
        simp only [List.length_append] at *; omega
      · rw [if_neg h9, along_free hf hl hr ht l n (j + 1) (p ++ x.t) (by omega) (by omega)]
        simp only [List.append_assoc]
    · rw [if_neg hp]
      have hs : seg x l j = [l[j]] := by
        rw [seg, if_neg hp, if_neg (fun h => hp h.1), List.getElem?_eq_getElem hj]; rfl
      have he : p ++ l.drop j = (p ++ [l[j]]) ++ l.drop (j + 1) := by rw [hd]; simp
      rw [he] at h8 ⊢
      rw [show p.length + 1 = (p ++ [l[j]]).length by simp, along_free hf hl hr ht l n (j + 1) (p ++ [l[j]]) (by omega) h8, hs]
      simp only [List.append_assoc]
where seg_ge {x : Rul} (hf : lng x = 1) (h0 : 1 ≤ x.t.length) (l : List Int) : ∀ n j, j + n = l.length → (l.drop j).length ≤ ((List.range' j (n + 1)).flatMap (seg x l)).length
  | 0, j, h => by simp; omega
  | n + 1, j, h => by
    have := seg_ge hf h0 l n (j + 1) (by omega)
    have hj : j < l.length := by omega
    rw [List.range'_succ, List.flatMap_cons, List.length_append]
    have h1 : 1 ≤ (seg x l j).length := by
      by_cases hp : placeB x l j = true
      · rw [seg, if_pos hp]; simp; omega
      · rw [seg, if_neg hp, if_neg (fun h => hp h.1), List.getElem?_eq_getElem hj]; simp
    simp only [List.length_drop] at *; omega
/-- without neighbors of a sound, along is all at once -/
theorem along_all {x : Rul} {l : List Int} (hf : ¬ x.f < 0) (hl : x.l = []) (hr : x.r = []) : alongK x l = atAllK x l ∧ alongL x l = atAllL x l := by
  have hf : lng x = 1 := by rw [lng, if_neg (by omega)]
  unfold alongK atAllK alongL atAllL
  by_cases h0 : wordK x l = 0
  · obtain ⟨G, hl8, hsn⟩ := wordK_zero h0
    rw [if_pos h0, if_pos h0, if_pos h0, if_pos h0]
    have h := along_free hf hl hr G.len l l.length 0 [] (by omega) (by simpa using hl8)
    simp only [List.drop_zero, List.nil_append, List.length_nil] at h
    rw [← List.range_eq_range', ← allL_seg] at h
    rw [h, shortK, shortL]
    split
    · exact ⟨rfl, rfl⟩
    · exact ⟨rfl, rfl⟩
  · rw [if_neg h0, if_neg h0, if_neg h0, if_neg h0]; exact ⟨rfl, rfl⟩
end Go.Proofs.Ytojbamejhlaahaa
