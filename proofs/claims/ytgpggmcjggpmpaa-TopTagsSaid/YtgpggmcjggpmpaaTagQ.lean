/- How many splits go on from a place, and the reference's table of costs and numbers: plain. -/
import Derived.Test.YtgpggmcjggpmpaaTagP
namespace Go.Proofs.Ytgpggmcjggpmpaa
set_option linter.unusedVariables false
/-! ## how many ways go on -/
theorem flatMap_same {α β : Type} {f g : α → List β} : ∀ {a : List α}, (∀ x ∈ a, f x = g x) → a.flatMap f = a.flatMap g
  | [], _ => rfl
  | x :: a, h => by rw [List.flatMap_cons, List.flatMap_cons, h x (by simp), flatMap_same fun y hy => h y (by simp [hy])]
theorem splF_fuel {l : Lex} (h : NoE l) : ∀ (f g : Nat) (r : List Int) (b : Int), r.length ≤ f → r.length ≤ g → splF l f r b = splF l g r b
  | 0, 0, r, b, _, _ => rfl
  | 0, g + 1, r, b, hf, _ => by
    obtain rfl : r = [] := List.eq_nil_of_length_eq_zero (by omega)
    simp [splF]
  | f + 1, 0, r, b, _, hg => by
    obtain rfl : r = [] := List.eq_nil_of_length_eq_zero (by omega)
    simp [splF]
  | f + 1, g + 1, r, b, hf, hg => by
    unfold splF
    by_cases hr : r = []
    · rw [if_pos hr, if_pos hr]
    · rw [if_neg hr, if_neg hr]
      have hrl : 0 < r.length := List.length_pos_iff.2 hr
      have : ∀ j ∈ List.range l.n, (if (wrd l (j : Nat)).isPrefixOf r && (decide (b < 0) || decide (0 ≤ fol l b (j : Nat))) then (splF l f (r.drop (wrd l (j : Nat)).length) (j : Nat)).map (((j : Nat) : Int) :: ·) else []) =
          (if (wrd l (j : Nat)).isPrefixOf r && (decide (b < 0) || decide (0 ≤ fol l b (j : Nat))) then (splF l g (r.drop (wrd l (j : Nat)).length) (j : Nat)).map (((j : Nat) : Int) :: ·) else []) := by
        intro j hj
        have hne : 0 < (wrd l (j : Int)).length := h j (by simpa using hj)
        rw [splF_fuel h f g _ _ (by rw [List.length_drop]; omega) (by rw [List.length_drop]; omega)]
      exact flatMap_same this
/-- all ways to go on -/
def spl (l : Lex) (r : List Int) (b : Int) : List (List Int) := splF l r.length r b
def okNext (l : Lex) (r : List Int) (b : Int) (j : Nat) : Bool := (wrd l j).isPrefixOf r && (decide (b < 0) || decide (0 ≤ fol l b j))
def nextOf (l : Lex) (r : List Int) (b : Int) (j : Nat) : List (List Int) := if okNext l r b j then (spl l (r.drop (wrd l j).length) j).map ((j : Int) :: ·) else []
theorem spl_nil (l : Lex) (b : Int) : spl l [] b = [[]] := by simp [spl, splF]
theorem spl_cons {l : Lex} (h : NoE l) {r : List Int} (hr : r ≠ []) (b : Int) : spl l r b = (List.range l.n).flatMap (nextOf l r b) := by
  have hrl : 0 < r.length := List.length_pos_iff.2 hr
  obtain ⟨m, hm⟩ : ∃ m, r.length = m + 1 := ⟨r.length - 1, by omega⟩
  unfold spl
  rw [hm, splF, if_neg hr]
  refine flatMap_same fun j hj => ?_
  have hne : 0 < (wrd l (j : Int)).length := h j (by simpa using hj)
  unfold nextOf okNext spl
  rw [splF_fuel h m _ _ _ (by rw [List.length_drop]; omega) (Nat.le_refl _)]
theorem spl_len {l : Lex} (hn : l.n ≤ 8) (r : List Int) (b : Int) : (spl l r b).length ≤ 8 ^ r.length := splF_len hn _ _ _
/-- the numbers of ways by the first j items -/
def cntTo (l : Lex) (r : List Int) (b : Int) : Nat → Int
  | 0 => 0
  | j + 1 => cntTo l r b j + (if okNext l r b j then ((spl l (r.drop (wrd l j).length) j).length : Int) else 0)
def cntR (l : Lex) (r : List Int) (b : Int) : Int := (spl l r b).length
theorem cntTo_flat (l : Lex) (r : List Int) (b : Int) : ∀ j, cntTo l r b j = (((List.range j).flatMap (nextOf l r b)).length : Int)
  | 0 => by simp [cntTo]
  | j + 1 => by
    rw [cntTo, cntTo_flat l r b j, show List.range (j + 1) = List.range j ++ [j] from List.range_succ, List.flatMap_append, List.length_append, List.flatMap_singleton]
    unfold nextOf
    split
    · rw [List.length_map]; push_cast; rfl
    · simp
theorem cntTo_all {l : Lex} (h : NoE l) {r : List Int} (hr : r ≠ []) (b : Int) : cntTo l r b l.n = cntR l r b := by
  rw [cntTo_flat, cntR, spl_cons h hr]
theorem cntR_bd {l : Lex} (hn : l.n ≤ 8) {r : List Int} (hr : r.length ≤ 12) (b : Int) : 0 ≤ cntR l r b ∧ cntR l r b ≤ 68719476736 := by
  have h1 := spl_len hn r b
  have h2 : 8 ^ r.length ≤ 8 ^ 12 := Nat.pow_le_pow_right (by omega) hr
  have h3 : (8 : Nat) ^ 12 = 68719476736 := by decide
  unfold cntR; omega
theorem cntTo_bd {l : Lex} (hn : l.n ≤ 8) {r : List Int} (hr : r.length ≤ 12) (b : Int) : ∀ j, 0 ≤ cntTo l r b j ∧ cntTo l r b j ≤ 68719476736 * j
  | 0 => by simp [cntTo]
  | j + 1 => by
    have ih := cntTo_bd hn hr b j
    have := cntR_bd hn (r := r.drop (wrd l j).length) (by rw [List.length_drop]; omega) j
    unfold cntR at this
    rw [cntTo]
    split <;> · push_cast; omega

/-! ## the reference's table: costs and numbers -/
def cntF (l : Lex) (t : List Int) (i j : Nat) : Int := (fwdF l t i i j).length
theorem fwdF_len {l : Lex} (hn : l.n ≤ 8) (t : List Int) : ∀ (f i j : Nat), (fwdF l t f i j).length ≤ 8 ^ f
  | 0, i, j => by simp [fwdF]
  | f + 1, i, j => by
    unfold fwdF
    split
    · split
      · exact Nat.one_le_pow _ _ (by omega)
      · refine Nat.le_trans (len_flatMap_le (B := 8 ^ f) (fun k _ => ?_)) ?_
        · split
          · rw [List.length_map]; exact fwdF_len hn t f _ _
          · simp
        · rw [Nat.pow_succ, Nat.mul_comm]; exact Nat.mul_le_mul_left _ hn
    · simp
theorem fwdF_fuel {l : Lex} (h : NoE l) (t : List Int) {f g i j : Nat} (hf : i ≤ f) (hg : i ≤ g) (hi : i ≤ t.length) (hj : j < l.n) : (fwdF l t f i j).length = (fwdF l t g i j).length :=
  length_eq_of_same (fwdF_nodup h t _ _ _ hf hi hj) (fwdF_nodup h t _ _ _ hg hi hj) fun s => by rw [fwdF_mem h t _ _ _ s hf hi hj, fwdF_mem h t _ _ _ s hg hi hj]
theorem cntF_bd {l : Lex} (hn : l.n ≤ 8) (t : List Int) {i : Nat} (hi : i ≤ 12) (j : Nat) : 0 ≤ cntF l t i j ∧ cntF l t i j ≤ 68719476736 := by
  have h1 := fwdF_len hn t i i j
  have h2 : 8 ^ i ≤ 8 ^ 12 := Nat.pow_le_pow_right (by omega) hi
  have h3 : (8 : Nat) ^ 12 = 68719476736 := by decide
  unfold cntF; omega
/-- the sum over the first k items that may stand before j -/
def cntK (l : Lex) (t : List Int) (i j : Nat) : Nat → Int
  | 0 => 0
  | k + 1 => cntK l t i j k + (if 0 ≤ fol l k j then cntF l t i k else 0)
theorem cntK_bd {l : Lex} (hn : l.n ≤ 8) (t : List Int) {i : Nat} (hi : i ≤ 12) (j : Nat) : ∀ k, 0 ≤ cntK l t i j k ∧ cntK l t i j k ≤ 68719476736 * k
  | 0 => by simp [cntK]
  | k + 1 => by
    have ih := cntK_bd hn t hi j k
    have := cntF_bd hn t hi k
    rw [cntK]
    split <;> · push_cast; omega
theorem cntK_flat {l : Lex} (h : NoE l) {t : List Int} {f i j : Nat} (hf : i ≤ f) (hi : i ≤ t.length) : ∀ n, n ≤ l.n → cntK l t i j n = (((List.range n).flatMap fun (k : Nat) => if decide (0 ≤ fol l k j) then (fwdF l t f i k).map (· ++ [(j : Int)]) else []).length : Int)
  | 0, _ => by simp [cntK]
  | n + 1, hn => by
    rw [cntK, cntK_flat h hf hi n (by omega), show List.range (n + 1) = List.range n ++ [n] from List.range_succ, List.flatMap_append, List.length_append, List.flatMap_singleton]
    by_cases hc : 0 ≤ fol l n j
    · rw [if_pos hc, if_pos (by simpa using hc), List.length_map]
      unfold cntF
      rw [fwdF_fuel h t (Nat.le_refl _) hf hi (by omega)]; push_cast; rfl
    · rw [if_neg hc, if_neg (by simpa using hc)]; simp
theorem cntF_eq {l : Lex} (h : NoE l) {t : List Int} {i j : Nat} (hi : i ≤ t.length) (hj : j < l.n) : cntF l t i j = if endsAt l t i j then (if i = (wrd l j).length then 1 else cntK l t (i - (wrd l j).length) j l.n) else 0 := by
  have hne : 0 < (wrd l (j : Int)).length := h j hj
  unfold cntF
  rw [fwdF_fuel h t (Nat.le_refl _) (show i ≤ i + 1 by omega) hi hj]
  unfold fwdF endsAt
  split
  · split
    · rfl
    · rw [cntK_flat h (f := i) (by omega) (by omega) l.n (Nat.le_refl _)]
  · rfl
theorem cntF_pos {l : Lex} (h : LexOk l) {t : List Int} (ht : t.length ≤ 12) {i j : Nat} (hi : i ≤ t.length) (hj : j < l.n) : 0 < cntF l t i j ↔ tabAt l t (tabT l t i) i j < big := by
  have hT := tab_least h ht i hi j hj
  unfold cntF
  constructor
  · intro hp
    obtain ⟨s, hs⟩ := List.exists_mem_of_length_pos (show 0 < (fwdF l t i i j).length by omega)
    rw [fwdF_mem h.noE t _ _ _ s (Nat.le_refl _) hi hj] at hs
    rcases hT with ⟨_, h1⟩ | ⟨h1, _⟩
    · exact absurd hs (h1 s)
    · exact h1
  · intro hp
    rcases hT with ⟨h1, _⟩ | ⟨_, ⟨s, hs, _⟩, _⟩
    · omega
    · rw [← fwdF_mem h.noE t _ _ _ s (Nat.le_refl _) hi hj] at hs
      have := List.length_pos_of_mem hs
      omega
/-- what the reference keeps of a cost -/
def keptC (c n : Int) : Int := if n = 0 then 0 else c
/-- while the sum is made: a cost is there exactly if the sum is not 0 -/
theorem stepMin_pos {l : Lex} {t : List Int} {i j : Nat} {row : List Int} (hn8 : l.n ≤ 8) (hi : i ≤ 12) (hj : j < l.n) (hcf : ∀ k, k < l.n → (0 < cntF l t i k ↔ row[k]?.getD 0 < big)) (hbd : ∀ k, k < l.n → 0 ≤ fol l k j → row[k]?.getD 0 < big → row[k]?.getD 0 + fol l k j + cst l j < big) :
    ∀ k, k ≤ l.n → (0 < cntK l t i j k ↔ stepMin l j row k < big) ∧ stepMin l j row k ≤ big
  | 0, _ => ⟨by simp [cntK, stepMin], by simp [stepMin]⟩
  | k + 1, hk => by
    have ih := stepMin_pos hn8 hi hj hcf hbd k (by omega)
    have h1 := hcf k (by omega)
    have h2 := cntK_bd hn8 t hi j k
    have h3 := cntF_bd hn8 t hi k
    rw [cntK, stepMin]
    by_cases hc : 0 ≤ fol l k j
    · by_cases hr : row[k]?.getD 0 < big
      · have := hbd k (by omega) hc hr
        rw [if_pos hc, if_pos ⟨hc, hr⟩]
        constructor
        · constructor
          · intro _; omega
          · intro _; have := h1.2 hr; omega
        · omega
      · rw [if_pos hc, if_neg (fun h => hr h.2)]
        have : ¬ 0 < cntF l t i k := fun h => hr (h1.1 h)
        have : cntF l t i k = 0 := by omega
        rw [this, Int.add_zero]; exact ih
    · rw [if_neg hc, if_neg (fun h => hc h.1), Int.add_zero]; exact ih
/-! ## the least of a row -/
def minR (row : List Int) : Int := (row.drop 1).foldl min (row[0]?.getD 0)
def minTo (row : List Int) : Nat → Int
  | 0 => row[0]?.getD 0
  | k + 1 => min (minTo row k) (row[k]?.getD 0)
theorem minTo_least {l : Lex} {S : Nat → List Int → Prop} {row : List Int} (hrow : ∀ k, k < l.n → IsLeast l (S k) (row[k]?.getD 0)) : ∀ n, 1 ≤ n → n ≤ l.n → IsLeast l (fun s => ∃ k, k < n ∧ S k s) (minTo row n)
  | 0, h, _ => by omega
  | 1, _, hn => by
    have := hrow 0 (by omega)
    have hm : minTo row 1 = row[0]?.getD 0 := by simp [minTo]
    rw [hm]
    rcases this with ⟨e, h⟩ | ⟨e, ⟨s, hs, e2⟩, h⟩
    · refine .inl ⟨e, ?_⟩
      rintro s ⟨k, hk, hs⟩
      obtain rfl : k = 0 := by omega
      exact h s hs
    · refine .inr ⟨e, ⟨s, ⟨0, by omega, hs⟩, e2⟩, ?_⟩
      rintro s ⟨k, hk, hs⟩
      obtain rfl : k = 0 := by omega
      exact h s hs
  | n + 2, _, hn => by
    have ih := minTo_least hrow (n + 1) (by omega) (by omega)
    have hr := hrow (n + 1) (by omega)
    rw [minTo]
    generalize minTo row (n + 1) = m at *
    generalize row[n + 1]?.getD 0 = x at *
    rcases ih with ⟨e, h⟩ | ⟨e, ⟨s, ⟨k, hk, hs⟩, e2⟩, h⟩
    · rcases hr with ⟨e', h'⟩ | ⟨e', ⟨s', hs', e2'⟩, h'⟩
      · refine .inl ⟨by omega, ?_⟩
        rintro s ⟨k, hk, hs⟩
        by_cases hk1 : k = n + 1
        · subst hk1; exact h' s hs
        · exact h s ⟨k, by omega, hs⟩
      · refine .inr ⟨by omega, ⟨s', ⟨n + 1, by omega, hs'⟩, by omega⟩, ?_⟩
        rintro s ⟨k, hk, hs⟩
        by_cases hk1 : k = n + 1
        · subst hk1; have := h' s hs; omega
        · exact absurd ⟨k, by omega, hs⟩ (h s)
    · rcases hr with ⟨e', h'⟩ | ⟨e', ⟨s', hs', e2'⟩, h'⟩
      · refine .inr ⟨by omega, ⟨s, ⟨k, by omega, hs⟩, by omega⟩, ?_⟩
        rintro s ⟨k, hk, hs⟩
        by_cases hk1 : k = n + 1
        · subst hk1; exact absurd hs (h' s)
        · have := h s ⟨k, by omega, hs⟩; omega
      · refine .inr ⟨by omega, ?_, ?_⟩
        · by_cases hmx : m ≤ x
          · exact ⟨s, ⟨k, by omega, hs⟩, by omega⟩
          · exact ⟨s', ⟨n + 1, by omega, hs'⟩, by omega⟩
        · rintro s ⟨k, hk, hs⟩
          by_cases hk1 : k = n + 1
          · subst hk1; have := h' s hs; omega
          · have := h s ⟨k, by omega, hs⟩; omega
theorem ends_iff {l : Lex} (h : NoE l) {t : List Int} (ht : t ≠ []) (s : List Int) : IsSp l (-1) t s ↔ ∃ k, k < l.n ∧ Ends l t t.length k s := by
  rw [← fwdAll_mem h ht]
  unfold fwdAll
  rw [List.mem_flatMap]
  constructor
  · rintro ⟨j, hj, hs⟩
    have hj : j < l.n := by simpa using hj
    exact ⟨j, hj, (fwdF_mem h t _ _ j s (Nat.le_refl _) (Nat.le_refl _) hj).1 hs⟩
  · rintro ⟨j, hj, hs⟩
    exact ⟨j, by simpa using hj, (fwdF_mem h t _ _ j s (Nat.le_refl _) (Nat.le_refl _) hj).2 hs⟩
/-- the least cost of a split of a text: big if there is none -/
def leastT (l : Lex) (t : List Int) : Int := minTo (tabRow l t (tabT l t t.length) t.length) l.n
theorem leastT_is {l : Lex} (h : LexOk l) {t : List Int} (ht : t.length ≤ 12) (hne : t ≠ []) : IsLeast l (IsSp l (-1) t) (leastT l t) := by
  have := minTo_least (l := l) (S := fun k s => Ends l t t.length k s) (row := tabRow l t (tabT l t t.length) t.length) (fun k hk => by
    unfold tabRow
    rw [List.getElem?_map, List.getElem?_range hk]
    exact tab_least h ht _ (Nat.le_refl _) k hk) l.n h.n1 (Nat.le_refl _)
  rcases this with ⟨e, h1⟩ | ⟨e, ⟨s, hs, e2⟩, h1⟩
  · exact .inl ⟨e, fun s hs => h1 s ((ends_iff h.noE hne s).1 hs)⟩
  · exact .inr ⟨e, ⟨s, (ends_iff h.noE hne s).2 hs, e2⟩, fun s hs => h1 s ((ends_iff h.noE hne s).1 hs)⟩
/-- the number of splits, counted from both sides -/
def cntAll (l : Lex) (t : List Int) : Nat → Int
  | 0 => 0
  | j + 1 => cntAll l t j + cntF l t t.length j
theorem cntAll_eq {l : Lex} (h : NoE l) {t : List Int} (ht : t ≠ []) : cntAll l t l.n = cntR l t (-1) := by
  have : ∀ n, cntAll l t n = (((List.range n).flatMap fun j => fwdF l t t.length t.length j).length : Int) := by
    intro n
    induction n with
    | zero => simp [cntAll]
    | succ n ih => rw [cntAll, ih, show List.range (n + 1) = List.range n ++ [n] from List.range_succ, List.flatMap_append, List.length_append, List.flatMap_singleton]; unfold cntF; push_cast; rfl
  rw [this]
  have h2 := splits_fwd h ht
  unfold cntR spl
  unfold splits at h2
  rw [h2]; rfl
end Go.Proofs.Ytgpggmcjggpmpaa
