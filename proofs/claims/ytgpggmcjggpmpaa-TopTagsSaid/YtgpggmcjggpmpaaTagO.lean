/- The search for two lists with the same words: plain. -/
import Derived.Test.YtgpggmcjggpmpaaTagT
namespace Go.Proofs.Ytgpggmcjggpmpaa
set_option linter.unusedVariables false

theorem withH_over (l : Lex) (h : Hng) (j : Nat) : (withH l h j).map (fun x => x.2.2) = overOf h.2.2 (wrd l j) := by
  unfold withH overOf
  split
  · rfl
  · split
    · rfl
    · rfl
theorem withH_hangs {l : Lex} {h h' : Hng} {j : Nat} (hh : Hangs l h.1 h.2.1 h.2.2) (hj : j < l.n) (e : withH l h j = some h') : Hangs l h'.1 h'.2.1 h'.2.2 := by
  have hin : inN l (j : Int) := ⟨by omega, by omega⟩
  unfold withH at e
  split at e
  · rename_i hp
    injection e with e; subst e
    exact hh.in_ hin hp
  · split at e
    · rename_i hp
      injection e with e; subst e
      exact hh.out hin hp
    · cases e
theorem withH_len {l : Lex} {h h' : Hng} {j : Nat} (e : withH l h j = some h') : h'.1.length + h'.2.1.length = h.1.length + h.2.1.length + 1 := by
  unfold withH at e
  split at e
  · injection e with e; subst e; simp; omega
  · split at e
    · injection e with e; subst e; simp; omega
    · cases e
/-- the first ones -/
def firstH (l : Lex) (i j : Nat) : Option Hng := if i = j then none else withH l ([(i : Int)], [], wrd l i) j
theorem firstH_hangs {l : Lex} {h' : Hng} {i j : Nat} (hi : i < l.n) (hj : j < l.n) (e : firstH l i j = some h') : Hangs l h'.1 h'.2.1 h'.2.2 := by
  have hii : inN l (i : Int) := ⟨by omega, by omega⟩
  have hjj : inN l (j : Int) := ⟨by omega, by omega⟩
  unfold firstH at e
  split at e
  · cases e
  · rename_i hij
    unfold withH at e
    split at e
    · rename_i hp
      injection e with e; subst e
      exact hangs_first hii hjj (fun e => hij (by omega)) hp
    · split at e
      · rename_i hp
        injection e with e; subst e
        exact hangs_first hjj hii (fun e => hij (by omega)) hp
      · cases e
theorem firstH_len {l : Lex} {h' : Hng} {i j : Nat} (e : firstH l i j = some h') : h'.1.length + h'.2.1.length = 2 := by
  unfold firstH at e
  split at e
  · cases e
  · have := withH_len e; simpa using this
theorem firstH_over {l : Lex} {i j : Nat} (hij : i ≠ j) : (firstH l i j).map (fun x => x.2.2) = overOf (wrd l i) (wrd l j) := by
  unfold firstH; rw [if_neg hij, withH_over]
def firstTo (l : Lex) (i j : Nat) : List Hng := ((List.range i).flatMap fun i => (List.range l.n).filterMap (firstH l i)) ++ (List.range j).filterMap (firstH l i)
theorem firstTo_zero (l : Lex) : firstTo l 0 0 = [] := rfl
theorem firstTo_row (l : Lex) (i : Nat) : firstTo l i l.n = firstTo l (i + 1) 0 := by
  unfold firstTo; rw [show List.range (i + 1) = List.range i ++ [i] from List.range_succ, List.flatMap_append, List.flatMap_singleton]; simp
theorem filterMap_some {α β : Type} {f : α → Option β} {x : α} {y : β} (h : f x = some y) : [x].filterMap f = [y] := by simp [h]
theorem filterMap_none' {α β : Type} {f : α → Option β} {x : α} (h : f x = none) : [x].filterMap f = [] := by simp [h]
theorem firstTo_some {l : Lex} {i j : Nat} {h : Hng} (e : firstH l i j = some h) : firstTo l i (j + 1) = firstTo l i j ++ [h] := by
  unfold firstTo; rw [show List.range (j + 1) = List.range j ++ [j] from List.range_succ, List.filterMap_append, filterMap_some e, List.append_assoc]
theorem firstTo_none {l : Lex} {i j : Nat} (e : firstH l i j = none) : firstTo l i (j + 1) = firstTo l i j := by
  unfold firstTo; rw [show List.range (j + 1) = List.range j ++ [j] from List.range_succ, List.filterMap_append, filterMap_none' e, List.append_nil]
theorem filterMap_len {α β : Type} (f : α → Option β) (l : List α) : (l.filterMap f).length ≤ l.length := List.length_filterMap_le f l
theorem flatMap_len {α β : Type} {f : α → List β} {m : Nat} (h : ∀ x, (f x).length ≤ m) : ∀ l : List α, (l.flatMap f).length ≤ l.length * m
  | [] => by simp
  | x :: l => by
    rw [List.flatMap_cons, List.length_append, List.length_cons, Nat.add_mul]
    have := h x; have := flatMap_len h l; omega
theorem firstTo_len {l : Lex} (h : LexOk l) {i j : Nat} (hi : i ≤ l.n) (hj : j ≤ l.n) : (firstTo l i j).length ≤ 72 := by
  unfold firstTo
  rw [List.length_append]
  have h8 := h.n8
  have h1 : ((List.range i).flatMap fun i => (List.range l.n).filterMap (firstH l i)).length ≤ (List.range i).length * 8 := flatMap_len (fun x => Nat.le_trans (filterMap_len _ _) (by rw [List.length_range]; exact h8)) _
  have h2 := filterMap_len (firstH l i) (List.range j)
  rw [List.length_range] at h1 h2
  omega
theorem firstTo_mem {l : Lex} {h : Hng} : h ∈ firstTo l l.n 0 ↔ ∃ i j, i < l.n ∧ j < l.n ∧ firstH l i j = some h := by
  unfold firstTo
  simp only [List.range_zero, List.filterMap_nil, List.append_nil, List.mem_flatMap, List.mem_range, List.mem_filterMap]
  constructor
  · rintro ⟨i, hi, j, hj, e⟩; exact ⟨i, j, hi, hj, e⟩
  · rintro ⟨i, j, hi, hj, e⟩; exact ⟨i, hi, j, hj, e⟩

/-- what holds when the search comes by its label -/
structure Srch (l : Lex) (seen : List (List Int)) (q : List Hng) : Prop where
  hq : ∀ h ∈ q, Hangs l h.1 h.2.1 h.2.2 ∧ h.2.2 ∈ tails l ∧ h.1.length + h.2.1.length ≤ seen.length + 2
  hs : ∀ o ∈ seen, o ∈ tails l ∧ o ≠ []
  nd : seen.Nodup
  first : ∀ i j, i < l.n → j < l.n → i ≠ j → ∀ o, overOf (wrd l i) (wrd l j) = some o → o ∈ seen ∨ ∃ h ∈ q, h.2.2 = o
  next : ∀ o ∈ seen, ∀ j, j < l.n → ∀ o', overOf o (wrd l j) = some o' → o' ∈ seen ∨ ∃ h ∈ q, h.2.2 = o'
  ql : q.length ≤ 72 + 8 * seen.length
theorem tails_whole {l : Lex} (h : LexOk l) {i : Nat} (hi : i < l.n) : wrd l (i : Nat) ∈ tails l := by
  have := tails_word (l := l) (k := 0) hi (by omega)
  simpa using this
theorem srch_start {l : Lex} (h : LexOk l) : Srch l [] (firstTo l l.n 0) := by
  refine ⟨fun x hx => ?_, (fun o ho => by cases ho), List.nodup_nil, fun i j hi hj hij o ho => .inr ?_, (fun o ho => by cases ho), by have := firstTo_len h (Nat.le_refl l.n) (Nat.zero_le l.n); simp; omega⟩
  · obtain ⟨i, j, hi, hj, e⟩ := firstTo_mem.1 hx
    refine ⟨firstH_hangs hi hj e, ?_, by have := firstH_len e; simp; omega⟩
    have hij : i ≠ j := fun e2 => by unfold firstH at e; rw [if_pos e2] at e; cases e
    have h2 := firstH_over (l := l) hij
    rw [e] at h2
    exact overOf_tails h (tails_whole h hi) hj h2.symm
  · have h2 := firstH_over (l := l) hij
    rw [ho] at h2
    cases e : firstH l i j with
    | none => rw [e] at h2; cases h2
    | some x => rw [e] at h2; injection h2 with h2; exact ⟨x, firstTo_mem.2 ⟨i, j, hi, hj, e⟩, h2⟩
theorem srch_len {l : Lex} (h : LexOk l) {seen : List (List Int)} {q : List Hng} (s : Srch l seen q) : seen.length ≤ 56 := by
  have h1 := length_le_of_subset s.nd (fun x hx => (s.hs x hx).1)
  rw [tails_len] at h1
  have := h.n8; omega
theorem srch_end {l : Lex} (h : LexOk l) {seen : List (List Int)} (s : Srch l seen []) : ¬ notCode l := by
  refine Shut.code h.noE (S := fun o => o ∈ seen) ⟨fun i j hi hj hij o ho => ?_, fun o ho j hj o' ho' => ?_, fun hn => (s.hs [] hn).2 rfl⟩
  · rcases s.first i j hi hj hij o ho with h | ⟨x, hx, _⟩
    · exact h
    · cases hx
  · rcases s.next o ho j hj o' ho' with h | ⟨x, hx, _⟩
    · exact h
    · cases hx
theorem srch_found {l : Lex} (h : LexOk l) {seen : List (List Int)} {q : List Hng} {x : Hng} (s : Srch l seen (x :: q)) (he : x.2.2 = []) : TwoOf l x.1 x.2.1 ∧ x.1.length ≤ 200 ∧ x.2.1.length ≤ 200 := by
  obtain ⟨h1, _, h3⟩ := s.hq x (by simp)
  rw [he] at h1
  have := srch_len h s
  exact ⟨h1.two, by omega, by omega⟩
theorem srch_skip {l : Lex} {seen : List (List Int)} {q : List Hng} {x : Hng} (s : Srch l seen (x :: q)) (he : x.2.2 ∈ seen) : Srch l seen q := by
  have hsw : ∀ o, (∃ h ∈ x :: q, h.2.2 = o) → o ∈ seen ∨ ∃ h ∈ q, h.2.2 = o := by
    rintro o ⟨y, hy, rfl⟩
    rcases List.mem_cons.1 hy with rfl | hy
    · exact .inl he
    · exact .inr ⟨y, hy, rfl⟩
  exact ⟨fun y hy => s.hq y (by simp [hy]), s.hs, s.nd, fun i j hi hj hij o ho => (s.first i j hi hj hij o ho).elim .inl (hsw o), fun o ho j hj o' ho' => (s.next o ho j hj o' ho').elim .inl (hsw o'), by have := s.ql; simp at this; omega⟩
def nextTo (l : Lex) (x : Hng) (q : List Hng) (k : Nat) : List Hng := q ++ (List.range k).filterMap (withH l x)
theorem nextTo_zero (l : Lex) (x : Hng) (q : List Hng) : nextTo l x q 0 = q := by simp [nextTo]
theorem nextTo_some {l : Lex} {x h : Hng} {q : List Hng} {k : Nat} (e : withH l x k = some h) : nextTo l x q (k + 1) = nextTo l x q k ++ [h] := by
  unfold nextTo; rw [show List.range (k + 1) = List.range k ++ [k] from List.range_succ, List.filterMap_append, filterMap_some e, List.append_assoc]
theorem nextTo_none {l : Lex} {x : Hng} {q : List Hng} {k : Nat} (e : withH l x k = none) : nextTo l x q (k + 1) = nextTo l x q k := by
  unfold nextTo; rw [show List.range (k + 1) = List.range k ++ [k] from List.range_succ, List.filterMap_append, filterMap_none' e, List.append_nil]
theorem nextTo_len {l : Lex} {x : Hng} {q : List Hng} {k : Nat} : (nextTo l x q k).length ≤ q.length + k := by
  unfold nextTo
  have := filterMap_len (withH l x) (List.range k)
  rw [List.length_range] at this
  rw [List.length_append]; omega
theorem srch_more {l : Lex} (h : LexOk l) {seen : List (List Int)} {q : List Hng} {x : Hng} (s : Srch l seen (x :: q)) (he : x.2.2 ≠ []) (hn : x.2.2 ∉ seen) : Srch l (seen ++ [x.2.2]) (nextTo l x q l.n) := by
  obtain ⟨hx1, hx2, hx3⟩ := s.hq x (by simp)
  have hsw : ∀ o, (∃ h ∈ x :: q, h.2.2 = o) → o ∈ seen ++ [x.2.2] ∨ ∃ h ∈ nextTo l x q l.n, h.2.2 = o := by
    rintro o ⟨y, hy, rfl⟩
    rcases List.mem_cons.1 hy with rfl | hy
    · exact .inl (by simp)
    · exact .inr ⟨y, by unfold nextTo; simp [hy], rfl⟩
  have hup : ∀ o, o ∈ seen ∨ (∃ h ∈ x :: q, h.2.2 = o) → o ∈ seen ++ [x.2.2] ∨ ∃ h ∈ nextTo l x q l.n, h.2.2 = o := by
    rintro o (h | h)
    · exact .inl (by simp [h])
    · exact hsw o h
  refine ⟨fun y hy => ?_, fun o ho => ?_, ?_, fun i j hi hj hij o ho => hup o (s.first i j hi hj hij o ho), fun o ho j hj o' ho' => ?_, ?_⟩
  · unfold nextTo at hy
    rcases List.mem_append.1 hy with hy | hy
    · obtain ⟨h1, h2, h3⟩ := s.hq y (by simp [hy])
      exact ⟨h1, h2, by simp; omega⟩
    · rw [List.mem_filterMap] at hy
      obtain ⟨j, hj, e⟩ := hy
      have hj : j < l.n := by simpa using hj
      have ho := withH_over l x j
      rw [e] at ho
      exact ⟨withH_hangs hx1 hj e, overOf_tails h hx2 hj ho.symm, by have := withH_len e; simp; omega⟩
  · rcases List.mem_append.1 ho with ho | ho
    · exact s.hs o ho
    · rw [List.mem_singleton] at ho; subst ho; exact ⟨hx2, he⟩
  · rw [List.nodup_append]
    exact ⟨s.nd, by simp, fun a ha b hb => by rw [List.mem_singleton] at hb; subst hb; exact fun e => hn (e ▸ ha)⟩
  · rcases List.mem_append.1 ho with ho | ho
    · exact hup o' (s.next o ho j hj o' ho')
    · rw [List.mem_singleton] at ho; subst ho
      refine .inr ?_
      have h2 := withH_over l x j
      rw [ho'] at h2
      cases e : withH l x j with
      | none => rw [e] at h2; cases h2
      | some y =>
        rw [e] at h2; injection h2 with h2
        exact ⟨y, by unfold nextTo; rw [List.mem_append, List.mem_filterMap]; exact .inr ⟨j, by simpa using hj, e⟩, h2⟩
  · have h1 := nextTo_len (l := l) (x := x) (q := q) (k := l.n)
    have h2 := s.ql
    have h8 := h.n8
    rw [List.length_append, List.length_singleton]
    rw [List.length_cons] at h2
    omega
theorem srch_more_len {l : Lex} (h : LexOk l) {seen : List (List Int)} {q : List Hng} {x : Hng} (s : Srch l seen (x :: q)) (he : x.2.2 ≠ []) (hn : x.2.2 ∉ seen) : seen.length + 1 ≤ 56 := by
  have := srch_len h (srch_more h s he hn)
  simpa using this
end Go.Proofs.Ytgpggmcjggpmpaa
