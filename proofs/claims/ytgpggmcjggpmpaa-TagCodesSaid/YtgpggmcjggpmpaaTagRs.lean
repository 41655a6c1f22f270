/- The reference's search for what can be left over: plain. -/
import Derived.Test.YtgpggmcjggpmpaaTagO
namespace Go.Proofs.Ytgpggmcjggpmpaa
set_option linter.unusedVariables false

/-- what the word of j has more than that of i -/
def firstP (l : Lex) (i j : Nat) : Option (List Int) := if i = j then none else if (wrd l (i : Int)).isPrefixOf (wrd l (j : Int)) then some ((wrd l (j : Int)).drop (wrd l (i : Int)).length) else none
def leftTo (l : Lex) (i j : Nat) : List (List Int) := ((List.range i).flatMap fun i => (List.range l.n).filterMap (firstP l i)) ++ (List.range j).filterMap (firstP l i)
theorem leftTo_zero (l : Lex) : leftTo l 0 0 = [] := rfl
theorem leftTo_row (l : Lex) (i : Nat) : leftTo l i l.n = leftTo l (i + 1) 0 := by
  unfold leftTo; rw [show List.range (i + 1) = List.range i ++ [i] from List.range_succ, List.flatMap_append]; simp
theorem leftTo_some {l : Lex} {i j : Nat} {x : List Int} (e : firstP l i j = some x) : leftTo l i (j + 1) = leftTo l i j ++ [x] := by
  unfold leftTo; rw [show List.range (j + 1) = List.range j ++ [j] from List.range_succ, List.filterMap_append, filterMap_some e, List.append_assoc]
theorem leftTo_none {l : Lex} {i j : Nat} (e : firstP l i j = none) : leftTo l i (j + 1) = leftTo l i j := by
  unfold leftTo; rw [show List.range (j + 1) = List.range j ++ [j] from List.range_succ, List.filterMap_append, filterMap_none' e, List.append_nil]
theorem leftTo_len {l : Lex} (h : LexOk l) {i j : Nat} (hi : i ≤ l.n) (hj : j ≤ l.n) : (leftTo l i j).length ≤ 72 := by
  have h8 := h.n8
  unfold leftTo
  rw [List.length_append]
  have h1 := flatMap_len (f := fun i => (List.range l.n).filterMap (firstP l i)) (m := 8) (fun x => by have := filterMap_len (firstP l x) (List.range l.n); rw [List.length_range] at this; omega) (List.range i)
  have h2 := filterMap_len (firstP l i) (List.range j)
  rw [List.length_range] at h1 h2
  omega
theorem leftTo_mem {l : Lex} {x : List Int} : x ∈ leftTo l l.n 0 ↔ ∃ i j, i < l.n ∧ j < l.n ∧ firstP l i j = some x := by
  unfold leftTo
  simp only [List.range_zero, List.filterMap_nil, List.append_nil, List.mem_flatMap, List.mem_filterMap, List.mem_range]
  constructor
  · rintro ⟨i, hi, j, hj, e⟩; exact ⟨i, j, hi, hj, e⟩
  · rintro ⟨i, j, hi, hj, e⟩; exact ⟨i, hi, j, hj, e⟩
def lf (left : List (List Int)) (n : Nat) : List Int := left[n]?.getD []
/-- what holds while word n is followed by the items from i on -/
structure RSrch (l : Lex) (left : List (List Int)) (n i : Nat) : Prop where
  hq : ∀ o ∈ left, (∃ lo sh, Hangs l lo sh o) ∧ o ∈ tails l
  ne : ∀ k, k < n → lf left k ≠ []
  lt : n ≤ left.length
  first : ∀ i j, i < l.n → j < l.n → i ≠ j → ∀ o, overOf (wrd l (i : Nat)) (wrd l (j : Nat)) = some o → o ∈ left
  next : ∀ k, k < n → ∀ j, j < l.n → ∀ o, overOf (lf left k) (wrd l (j : Nat)) = some o → o ∈ left
  cur : n < left.length → ∀ j, j < i → ∀ o, overOf (lf left n) (wrd l (j : Nat)) = some o → o ∈ left
  bd : ∃ a b, left = a ++ b ∧ a.length ≤ 72 ∧ b.Nodup
theorem RSrch.len {l : Lex} (h : LexOk l) {left : List (List Int)} {n i : Nat} (s : RSrch l left n i) : left.length ≤ 128 := by
  obtain ⟨a, b, e, h1, h2⟩ := s.bd
  have h3 := length_le_of_subset h2 (fun x hx => (s.hq x (by rw [e]; simp [hx])).2)
  rw [tails_len] at h3
  have := h.n8
  rw [e, List.length_append]; omega
theorem RSrch.start {l : Lex} (h : LexOk l) : RSrch l (leftTo l l.n 0) 0 0 := by
  refine ⟨fun x hx => ?_, fun k hk => by omega, Nat.zero_le _, fun i j hi hj hij o ho => ?_, fun k hk => by omega, fun _ j hj => by omega, ⟨_, [], (List.append_nil _).symm, leftTo_len h (Nat.le_refl _) (Nat.zero_le _), List.nodup_nil⟩⟩
  · obtain ⟨i, j, hi, hj, e⟩ := leftTo_mem.1 hx
    unfold firstP at e
    split at e
    · cases e
    · rename_i hij
      split at e
      · rename_i hp
        injection e with e; subst e
        have hii : inN l (i : Int) := ⟨by omega, by omega⟩
        have hjj : inN l (j : Int) := ⟨by omega, by omega⟩
        exact ⟨⟨_, _, hangs_first hjj hii (fun e => hij (by omega)) hp⟩, tails_drop h (tails_whole h hj) _⟩
      · cases e
  · rw [leftTo_mem]
    unfold overOf at ho
    split at ho
    · rename_i hp
      exact ⟨j, i, hj, hi, by unfold firstP; rw [if_neg (fun e => hij e.symm), if_pos hp]; exact ho⟩
    · split at ho
      · rename_i hp
        exact ⟨i, j, hi, hj, by unfold firstP; rw [if_neg hij, if_pos hp]; exact ho⟩
      · cases ho
theorem RSrch.keep {l : Lex} {left : List (List Int)} {n i : Nat} (s : RSrch l left n i) (hk : ∀ o, overOf (lf left n) (wrd l (i : Nat)) = some o → o ∈ left) : RSrch l left n (i + 1) :=
  ⟨s.hq, s.ne, s.lt, s.first, s.next, fun hn j hj o ho => by
    by_cases e : j = i
    · subst e; exact hk o ho
    · exact s.cur hn j (by omega) o ho, s.bd⟩
theorem lf_app {left : List (List Int)} {x : List Int} {k : Nat} (h : k < left.length) : lf (left ++ [x]) k = lf left k := by
  unfold lf; rw [List.getElem?_append_left h]
theorem lf_mem {left : List (List Int)} {k : Nat} (h : k < left.length) : lf left k ∈ left := by
  unfold lf; rw [List.getElem?_eq_getElem h, Option.getD_some]; exact List.getElem_mem h
theorem over_hangs {l : Lex} {lo sh o x : List Int} (hh : Hangs l lo sh o) {j : Nat} (hj : j < l.n) (e : overOf o (wrd l (j : Nat)) = some x) : ∃ lo sh, Hangs l lo sh x := by
  have hin : inN l (j : Int) := ⟨by omega, by omega⟩
  unfold overOf at e
  split at e
  · rename_i hp
    injection e with e; subst e
    exact ⟨_, _, hh.in_ hin hp⟩
  · split at e
    · rename_i hp
      injection e with e; subst e
      exact ⟨_, _, hh.out hin hp⟩
    · cases e
theorem RSrch.add {l : Lex} (h : LexOk l) {left : List (List Int)} {n i : Nat} (s : RSrch l left n i) (hn : n < left.length) (hi : i < l.n) {x : List Int} (hx : overOf (lf left n) (wrd l (i : Nat)) = some x) (hno : x ∉ left) : RSrch l (left ++ [x]) n (i + 1) := by
  obtain ⟨⟨lo, sh, hh⟩, ht⟩ := s.hq _ (lf_mem hn)
  refine ⟨fun o ho => ?_, fun k hk => ?_, by rw [List.length_append]; omega, fun i j hi hj hij o ho => List.mem_append_left _ (s.first i j hi hj hij o ho), fun k hk j hj o ho => ?_, fun _ j hj o ho => ?_, ?_⟩
  · rcases List.mem_append.1 ho with ho | ho
    · exact s.hq o ho
    · rw [List.mem_singleton] at ho; subst ho
      exact ⟨over_hangs hh hi hx, overOf_tails h ht hi hx⟩
  · rw [lf_app (by omega)]; exact s.ne k hk
  · rw [lf_app (by omega)] at ho; exact List.mem_append_left _ (s.next k hk j hj o ho)
  · rw [lf_app hn] at ho
    by_cases e : j = i
    · subst e
      rw [hx] at ho; injection ho with ho; subst ho
      simp
    · exact List.mem_append_left _ (s.cur hn j (by omega) o ho)
  · obtain ⟨a, b, e, h1, h2⟩ := s.bd
    refine ⟨a, b ++ [x], by rw [e, List.append_assoc], h1, ?_⟩
    rw [List.nodup_append]
    exact ⟨h2, by simp, fun y hy z hz => by
      rw [List.mem_singleton] at hz; subst hz
      intro e2; subst e2
      exact hno (by rw [e]; simp [hy])⟩
theorem RSrch.step {l : Lex} {left : List (List Int)} {n : Nat} (s : RSrch l left n l.n) (hn : n < left.length) (hne : lf left n ≠ []) : RSrch l left (n + 1) 0 := by
  refine ⟨s.hq, fun k hk => ?_, hn, s.first, fun k hk j hj o ho => ?_, fun _ j hj => by omega, s.bd⟩
  · by_cases e : k = n
    · subst e; exact hne
    · exact s.ne k (by omega)
  · by_cases e : k = n
    · subst e; exact s.cur hn j hj o ho
    · exact s.next k (by omega) j hj o ho
theorem mem_lf {left : List (List Int)} {o : List Int} (h : o ∈ left) : ∃ k, k < left.length ∧ lf left k = o := by
  obtain ⟨k, hk, e⟩ := List.mem_iff_getElem.1 h
  exact ⟨k, hk, by unfold lf; rw [List.getElem?_eq_getElem hk]; exact e⟩
theorem RSrch.end_ {l : Lex} (h : LexOk l) {left : List (List Int)} (s : RSrch l left left.length 0) : ¬ notCode l := by
  refine Shut.code h.noE (S := fun o => o ∈ left) ⟨s.first, fun o ho j hj o' ho' => ?_, fun hn => ?_⟩
  · obtain ⟨k, hk, rfl⟩ := mem_lf ho
    exact s.next k hk j hj o' ho'
  · obtain ⟨k, hk, e⟩ := mem_lf hn
    exact s.ne k hk e
theorem RSrch.found {l : Lex} {left : List (List Int)} {n i : Nat} (s : RSrch l left n i) (hn : n < left.length) (he : lf left n = []) : notCode l := by
  obtain ⟨⟨lo, sh, hh⟩, _⟩ := s.hq _ (lf_mem hn)
  rw [he] at hh
  exact ⟨_, _, hh.two⟩
/-- the two looks of the search: the rest first, the word first -/
theorem over_one {o w : List Int} (h : o.isPrefixOf w = true) : overOf o w = some (w.drop o.length) := by
  unfold overOf
  split
  · rename_i h2
    rw [List.isPrefixOf_iff_prefix] at h h2
    have := h.eq_of_length (by have := h.length_le; have := h2.length_le; omega)
    subst this; rfl
  · rfl
theorem over_two {o w : List Int} (h : o.isPrefixOf w = false) (h2 : w.isPrefixOf o = true) : overOf o w = some (o.drop w.length) := by
  unfold overOf; rw [if_pos h2]
theorem over_not {o w : List Int} (h : o.isPrefixOf w = false) (h2 : w.isPrefixOf o = false) : overOf o w = none := by
  unfold overOf; rw [if_neg (by rw [h2]; decide), if_neg (by rw [h]; decide)]
end Go.Proofs.Ytgpggmcjggpmpaa
