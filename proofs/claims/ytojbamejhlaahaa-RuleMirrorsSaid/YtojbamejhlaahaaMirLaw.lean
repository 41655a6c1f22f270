/- Plain laws: places and words of the mirrored rule. -/
import Derived.Test.YtojbamejhlaahaaRulP
import Derived.Test.YtojbamejhlaahaaMir
import Derived.Test.YtojbamejhlaahaaLawRuleMeasures
namespace Go.Proofs.Ytojbamejhlaahaa
open Go.RowKit Go.Shelf
set_option linter.unusedVariables false

theorem atI_rev (l : List Int) (j : Int) : atI l.reverse j = atI l ((l.length : Int) - 1 - j) := by
  unfold atI
  rw [List.length_reverse]
  by_cases h : 0 ≤ j ∧ j ≤ (l.length : Int) - 1
  · rw [if_pos h, if_pos (by omega)]
    have h1 : j.toNat < l.length := by omega
    have h2 : ((l.length : Int) - 1 - j).toNat = l.length - 1 - j.toNat := by omega
    rw [h2, List.getElem?_eq_getElem (by simpa using h1), List.getElem?_eq_getElem (by omega)]
    simp [List.getElem_reverse]
  · rw [if_neg h, if_neg (by omega)]
def rev (x : Rul) : Rul := ⟨x.f, x.t.reverse, x.r, x.l⟩
theorem lng_rev (x : Rul) : lng (rev x) = lng x := rfl
theorem placeAt_rev (x : Rul) (l : List Int) (i : Int) : placeAt (rev x) l.reverse ((l.length : Int) - lng x - i) = placeAt x l i := by
  unfold placeAt
  rw [atI_rev, atI_rev, atI_rev, lng_rev]
  have hlr : (l.length : Int) - 1 - ((l.length : Int) - lng x - i - 1) = i + lng x := by omega
  have hll : (l.length : Int) - 1 - ((l.length : Int) - lng x - i + lng x) = i - 1 := by omega
  rw [hlr, hll]
  simp only [rev]
  rw [Bool.and_comm (mayB x.r _)]
  by_cases hf : x.f = -1
  · simp [hf]
  · have h1 : lng x = 1 := by simp [lng, hf]
    rw [h1, show (l.length : Int) - 1 - ((l.length : Int) - ((1 : Nat) : Int) - i) = i by omega]
theorem range_rev (m : Nat) : (List.range m).reverse = (List.range m).map (fun j => m - 1 - j) := by
  apply List.ext_getElem
  · simp
  · intro i h1 h2
    simp at h1
    simp [List.getElem_reverse]
theorem sel_rev (m : Nat) (f : Nat → Bool) : sel m (fun j => f (m - 1 - j)) = ((sel m f).map (fun i => (m : Int) - 1 - i)).reverse := by
  have h1 : ((List.range m).filter (fun j => f (m - 1 - j))).map (fun j => m - 1 - j) = ((List.range m).filter f).reverse := by
    rw [← List.filter_reverse, range_rev, List.filter_map]; rfl
  have h2 : (List.range m).filter (fun j => f (m - 1 - j)) = (((List.range m).filter (fun j => f (m - 1 - j))).map (fun j => m - 1 - j)).map (fun j => m - 1 - j) := by
    rw [List.map_map]
    conv => lhs; rw [← List.map_id ((List.range m).filter _)]
    refine List.map_congr_left fun j hj => ?_
    have := (List.mem_filter.1 hj).1
    simp at this
    simp; omega
  unfold sel
  rw [h2, h1, List.map_map, List.map_map, ← List.map_reverse]
  refine List.map_congr_left fun j hj => ?_
  have := (List.mem_filter.1 (List.mem_reverse.1 hj)).1
  simp at this
  simp; omega
theorem places_rev (x : Rul) (l : List Int) : placesL (rev x) l.reverse = ((placesL x l).map (fun i => (l.length : Int) - lng x - i)).reverse := by
  unfold placesL
  rw [List.length_reverse, lng_rev]
  have hlg := lng_le x
  by_cases hm : l.length + 1 - lng x = 0
  · rw [hm]; rfl
  · have h := sel_rev (l.length + 1 - lng x) (fun i => placeAt x l i)
    rw [show ((l.length + 1 - lng x : Nat) : Int) - 1 = (l.length : Int) - lng x by omega] at h
    rw [← h]
    refine sel_congr fun i hi => ?_
    rw [← placeAt_rev x l, show (l.length : Int) - lng x - ((l.length + 1 - lng x - 1 - i : Nat) : Int) = i by omega]
theorem places_at (x : Rul) (l : List Int) : (placesL (rev x) l.reverse).length = (placesL x l).length ∧ ∀ k, k < (placesL x l).length →
    (placesL (rev x) l.reverse)[(placesL x l).length - 1 - k]?.getD 0 = (l.length : Int) - lng x - (placesL x l)[k]?.getD 0 ∧ 0 ≤ (placesL x l)[k]?.getD 0 ∧ (placesL x l)[k]?.getD 0 ≤ l.length := by
  rw [places_rev]
  refine ⟨by simp, fun k hk => ?_⟩
  obtain ⟨i, hi, hp, he⟩ := sel_get (n := l.length + 1 - lng x) (f := fun i => placeAt x l i) (k := k) hk
  have he' : (placesL x l)[k]?.getD 0 = (i : Int) := he
  refine ⟨?_, by omega, by omega⟩
  rw [List.getElem?_reverse (by simp; omega)]
  simp only [List.length_map]
  rw [show (placesL x l).length - 1 - ((placesL x l).length - 1 - k) = k by omega, List.getElem?_map, List.getElem?_eq_getElem hk]
  rw [List.getElem?_eq_getElem hk] at he'
  simp at he' ⊢

/-! ## all at once -/
theorem flatMap_cg {l : List Nat} {f g : Nat → List Int} (h : ∀ i ∈ l, f i = g i) : l.flatMap f = l.flatMap g := by
  rw [List.flatMap_def, List.flatMap_def, List.map_congr_left h]
theorem rev_weave (I C : Nat → List Int) : ∀ n, ((List.range n).flatMap (fun i => I i ++ C i) ++ I n).reverse = (List.range n).flatMap (fun j => (I (n - j)).reverse ++ (C (n - 1 - j)).reverse) ++ (I 0).reverse
  | 0 => by simp
  | n + 1 => by
    have h := rev_weave I C n
    have e : (List.range n).flatMap (fun a => (I (n + 1 - a.succ)).reverse ++ (C (n + 1 - 1 - a.succ)).reverse) = (List.range n).flatMap (fun j => (I (n - j)).reverse ++ (C (n - 1 - j)).reverse) := by
      refine flatMap_cg fun j hj => ?_
      rw [show n + 1 - j.succ = n - j by omega, show n + 1 - 1 - j.succ = n - 1 - j by omega]
    have R : (List.range (n + 1)).flatMap (fun j => (I (n + 1 - j)).reverse ++ (C (n + 1 - 1 - j)).reverse) = ((I (n + 1)).reverse ++ (C n).reverse) ++ (List.range n).flatMap (fun j => (I (n - j)).reverse ++ (C (n - 1 - j)).reverse) := by
      rw [List.range_succ_eq_map, List.flatMap_cons, List.flatMap_map, e]; rfl
    rw [R, List.append_assoc, ← h, List.range_succ]
    simp [List.flatMap_append]
def insS (x : Rul) (l : List Int) (i : Nat) : List Int := if placeB x l i then x.t else []
def keepS (x : Rul) (l : List Int) (i : Nat) : List Int := if placeB x l i = true ∧ lng x = 1 then [] else l[i]?.toList
theorem seg_split (x : Rul) (l : List Int) (i : Nat) : seg x l i = insS x l i ++ keepS x l i := rfl
theorem keep_end (x : Rul) (l : List Int) : keepS x l l.length = [] := by
  unfold keepS; split <;> simp
theorem allL_weave (x : Rul) (l : List Int) : allL x l = (List.range l.length).flatMap (fun i => insS x l i ++ keepS x l i) ++ insS x l l.length := by
  rw [allL_seg, List.range_succ, List.flatMap_append]
  simp only [List.flatMap_cons, List.flatMap_nil, List.append_nil]
  rw [seg_split x l l.length, keep_end, List.append_nil]
  rfl
theorem placeB_rev {x : Rul} {l : List Int} {i : Nat} (hi : i + lng x ≤ l.length) : placeB (rev x) l.reverse ((l.length - lng x - i : Nat) : Int) = placeB x l i := by
  unfold placeB
  rw [show ((l.length - lng x - i : Nat) : Int) = (l.length : Int) - lng x - i by omega, placeAt_rev, lng_rev, List.length_reverse]
  congr 1
  have h1 : decide (0 ≤ (l.length : Int) - lng x - i) = true := by simp; omega
  have h2 : decide ((l.length : Int) - lng x - i + lng x ≤ l.length) = true := by simp; omega
  have h3 : decide ((0 : Int) ≤ i) = true := by simp
  have h4 : decide ((i : Int) + lng x ≤ l.length) = true := by simp; omega
  rw [h1, h2, h3, h4]
theorem get_rev (l : List Int) {j : Nat} (hj : j < l.length) : l.reverse[j]? = l[l.length - 1 - j]? := List.getElem?_reverse hj
theorem allL_rev (x : Rul) (l : List Int) : allL (rev x) l.reverse = (allL x l).reverse := by
  have hlg := lng_le x
  by_cases h0 : lng x = 0
  · rw [allL_weave x l, rev_weave, allL_weave, List.length_reverse]
    have hI : ∀ j, j ≤ l.length → insS (rev x) l.reverse j = (insS x l (l.length - j)).reverse := fun j hj => by
      have := placeB_rev (x := x) (l := l) (i := l.length - j) (by omega)
      rw [show l.length - lng x - (l.length - j) = j by omega] at this
      unfold insS
      rw [this]
      split <;> simp [rev]
    congr 1
    · refine flatMap_cg fun j hj => ?_
      have hj : j < l.length := by simpa using hj
      rw [hI j (by omega)]
      congr 1
      unfold keepS
      rw [if_neg (by rw [lng_rev, h0]; simp), if_neg (by rw [h0]; simp), get_rev l hj]
      cases l[l.length - 1 - j]? <;> rfl
    · rw [hI _ (Nat.le_refl _), Nat.sub_self]
  · have h1 : lng x = 1 := by omega
    have hend : ∀ y : Rul, lng y = 1 → ∀ u : List Int, insS y u u.length = [] := fun y hy u => by
      unfold insS placeB
      have : decide ((u.length : Int) + lng y ≤ u.length) = false := by simp; omega
      rw [this]; simp
    have hw := rev_weave (fun _ => []) (fun i => insS x l i ++ keepS x l i) l.length
    simp only [List.nil_append, List.append_nil, List.reverse_nil] at hw
    rw [allL_weave x l, hend x h1, List.append_nil, hw, allL_weave, hend (rev x) h1 l.reverse, List.append_nil, List.length_reverse]
    refine flatMap_cg fun j hj => ?_
    have hj : j < l.length := by simpa using hj
    have hp := placeB_rev (x := x) (l := l) (i := l.length - 1 - j) (by omega)
    rw [show l.length - lng x - (l.length - 1 - j) = j by omega] at hp
    unfold insS keepS
    rw [lng_rev, hp, h1, get_rev l hj]
    cases placeB x l ((l.length - 1 - j : Nat) : Int)
    · simp
      cases l[l.length - 1 - j]? <;> rfl
    · simp [rev]
theorem validW_rev (l : List Int) : validW l.reverse = validW l := by
  unfold validW
  rw [List.length_reverse, sndB_all, sndB_all, List.all_reverse]
theorem sndB_allT {x : Rul} {l : List Int} (h : sndB l = true) (ht : sndB x.t = true) : ∀ k, sndB (allTo x l k) = true
  | 0 => h
  | k + 1 => sndB_put (sndB_allT h ht k) ht
theorem mirror_word {x : Rul} {l : List Int} (h : validR x = 0) (hw : validW l = 0) :
    plK x l = 0 ∧ plL x l = placesL x l ∧ plK (mirX x) (backL l) = 0 ∧ plL (mirX x) (backL l) = placesL (rev x) l.reverse ∧ backL l = l.reverse ∧
    atAllK (mirX x) (backL l) = atAllK x l ∧ atAllL (mirX x) (backL l) = (atAllL x l).reverse ∧ (atAllL x l).length ≤ 8 ∧
    (atAllK x l = 0 → validW (atAllL x l) = 0) := by
  obtain ⟨hm, hv⟩ := valid_mir h
  have hb : backL l = l.reverse := by rw [backL, if_pos hw]
  have hk : wordK x l = 0 := by rw [wordK, if_pos h]; exact hw
  have hv' : validR (rev x) = 0 := by rw [← show mirX x = rev x from hm]; exact hv
  have hk' : wordK (rev x) l.reverse = 0 := by rw [wordK, if_pos hv', validW_rev]; exact hw
  rw [hb, show mirX x = rev x from hm]
  have ha := allL_rev x l
  refine ⟨hk, by rw [plL, if_pos hk], hk', by rw [plL, if_pos hk'], rfl, ?_, ?_, ?_, ?_⟩
  · rw [atAllK, if_pos hk', atAllK, if_pos hk, ha, shortK, shortK, List.length_reverse]
  · rw [atAllL, if_pos hk', atAllL, if_pos hk, ha, shortL, shortL, List.length_reverse]
    split <;> simp
  · rw [atAllL, if_pos hk, shortL]; split
    · simp
    · omega
  · intro hz
    have G := validR_zero h
    have hs := sndB_allT (x := x) (validW_zero hw).2 G.snd (placesL x l).length
    rw [atAllK, if_pos hk, shortK] at hz
    rw [atAllL, if_pos hk, shortL]
    split at hz
    · omega
    · rename_i h8
      rw [if_neg h8]
      show (if _ then _ else _) = _
      rw [if_neg h8, show allL x l = allTo x l (placesL x l).length from rfl, hs]; rfl
end Go.Proofs.Ytojbamejhlaahaa
