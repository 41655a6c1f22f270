/- Codes, plain: what hangs over is followed; a closed search without an empty rest shows a code. -/
import Derived.Test.YtgpggmcjggpmpaaTagP
namespace Go.Proofs.Ytgpggmcjggpmpaa
set_option linter.unusedVariables false
/-! ## codes -/
def allIn (l : Lex) (s : List Int) : Prop := ∀ x ∈ s, inN l x
/-- two different lists of items with the same words -/
def TwoOf (l : Lex) (a b : List Int) : Prop := allIn l a ∧ allIn l b ∧ a ≠ b ∧ wordsL l a = wordsL l b
def notCode (l : Lex) : Prop := ∃ a b, TwoOf l a b
open Classical in
noncomputable def codeB (l : Lex) : Bool := decide (¬ notCode l)
/-- what hangs over, if w is put behind the shorter one of two lists of which the longer one has over more -/
def overOf (over w : List Int) : Option (List Int) := if w.isPrefixOf over then some (over.drop w.length) else if over.isPrefixOf w then some (w.drop over.length) else none
/-- the set of overs of a search that found nothing -/
structure Shut (l : Lex) (S : List Int → Prop) : Prop where
  first : ∀ i j : Nat, i < l.n → j < l.n → i ≠ j → ∀ o, overOf (wrd l i) (wrd l j) = some o → S o
  next : ∀ o, S o → ∀ j : Nat, j < l.n → ∀ o', overOf o (wrd l j) = some o' → S o'
  none : ¬ S []
theorem overOf_left {a b c d : List Int} (h : a ++ c = b ++ d) (hl : b.length ≤ a.length) : overOf a b = some (a.drop b.length) ∧ a = b ++ a.drop b.length ∧ a.drop b.length ++ c = d := by
  have hp : b <+: a := by
    have h1 : b <+: a ++ c := ⟨d, h.symm⟩
    exact List.prefix_of_prefix_length_le h1 (List.prefix_append a c) hl
  obtain ⟨r, rfl⟩ := hp
  refine ⟨?_, by simp, ?_⟩
  · unfold overOf; rw [if_pos (by rw [List.isPrefixOf_iff_prefix]; exact List.prefix_append _ _)]
  · rw [List.append_assoc] at h; simpa using List.append_cancel_left h
theorem overOf_right {a b c d : List Int} (h : a ++ c = b ++ d) (hl : a.length < b.length) : overOf a b = some (b.drop a.length) ∧ c = b.drop a.length ++ d := by
  have hp : a <+: b := by
    have h1 : a <+: b ++ d := ⟨c, h⟩
    exact List.prefix_of_prefix_length_le h1 (List.prefix_append b d) (by omega)
  obtain ⟨r, rfl⟩ := hp
  refine ⟨?_, ?_⟩
  · unfold overOf
    rw [if_neg (by rw [List.isPrefixOf_iff_prefix]; intro hc; have := hc.length_le; omega), if_pos (by rw [List.isPrefixOf_iff_prefix]; exact List.prefix_append _ _)]
  · rw [List.append_assoc] at h; simpa using List.append_cancel_left h
theorem Shut.no {l : Lex} {S : List Int → Prop} (hS : Shut l S) : ∀ (n : Nat) (o a b : List Int), a.length + b.length ≤ n → S o → allIn l a → allIn l b → o ++ wordsL l a ≠ wordsL l b := by
  intro n
  induction n with
  | zero =>
    intro o a b hn ho ha hb h
    obtain rfl : a = [] := List.eq_nil_of_length_eq_zero (by omega)
    obtain rfl : b = [] := List.eq_nil_of_length_eq_zero (by omega)
    simp [wordsL] at h
    subst h; exact hS.none ho
  | succ n ih =>
    intro o a b hn ho ha hb h
    cases b with
    | nil =>
      simp [wordsL] at h
      rw [h.1] at ho; exact hS.none ho
    | cons x b =>
      have hx := hb x (by simp)
      obtain ⟨j, rfl⟩ : ∃ j : Nat, x = j := ⟨x.toNat, by have := hx.1; omega⟩
      have hj : j < l.n := by have : ((j : Int)) < (l.n : Int) := hx.2; omega
      have hb' : allIn l b := fun y hy => hb y (by simp [hy])
      rw [wordsL_cons] at h
      by_cases hl : (wrd l (j : Int)).length ≤ o.length
      · obtain ⟨h1, _, h3⟩ := overOf_left h hl
        exact ih _ a b (by simp at hn; omega) (hS.next o ho j hj _ h1) ha hb' h3
      · obtain ⟨h1, h2⟩ := overOf_right h (by omega)
        exact ih _ b a (by simp at hn; omega) (hS.next o ho j hj _ h1) hb' ha h2.symm
theorem Shut.code {l : Lex} (hne : NoE l) {S : List Int → Prop} (hS : Shut l S) : ¬ notCode l := by
  rintro ⟨a, b, ha, hb, hab, hw⟩
  induction a generalizing b with
  | nil =>
    have := words_nil hne hb (by rw [← hw]; rfl)
    exact hab this.symm
  | cons x a ih =>
    cases b with
    | nil => exact absurd (words_nil hne ha (by rw [hw]; rfl)) (by simp)
    | cons y b =>
      have ha' : allIn l a := fun z hz => ha z (by simp [hz])
      have hb' : allIn l b := fun z hz => hb z (by simp [hz])
      by_cases hxy : x = y
      · subst hxy
        rw [wordsL_cons, wordsL_cons] at hw
        exact ih b ha' hb' (fun e => hab (by rw [e])) (List.append_cancel_left hw)
      · have hx := ha x (by simp)
        have hy := hb y (by simp)
        obtain ⟨i, rfl⟩ : ∃ j : Nat, x = j := ⟨x.toNat, by have := hx.1; omega⟩
        obtain ⟨j, rfl⟩ : ∃ j : Nat, y = j := ⟨y.toNat, by have := hy.1; omega⟩
        have hi : i < l.n := by have : ((i : Int)) < (l.n : Int) := hx.2; omega
        have hj : j < l.n := by have : ((j : Int)) < (l.n : Int) := hy.2; omega
        have hij : i ≠ j := fun e => hxy (by rw [e])
        rw [wordsL_cons, wordsL_cons] at hw
        by_cases hl : (wrd l (j : Int)).length ≤ (wrd l (i : Int)).length
        · obtain ⟨h1, _, h3⟩ := overOf_left hw hl
          exact hS.no _ _ a b (Nat.le_refl _) (hS.first i j hi hj hij _ h1) ha' hb' h3
        · obtain ⟨h1, h2⟩ := overOf_right hw (by omega)
          exact hS.no _ _ b a (Nat.le_refl _) (hS.first i j hi hj hij _ h1) hb' ha' h2.symm
/-- lists that differ in the first item; the words of the longer one are those of the shorter one and over -/
structure Hangs (l : Lex) (lo sh ov : List Int) : Prop where
  inl : allIn l lo
  ins : allIn l sh
  wo : wordsL l lo = wordsL l sh ++ ov
  df : ∃ x y lo' sh', lo = x :: lo' ∧ sh = y :: sh' ∧ x ≠ y
theorem Hangs.two {l : Lex} {lo sh : List Int} (h : Hangs l lo sh []) : TwoOf l lo sh := by
  obtain ⟨x, y, lo', sh', rfl, rfl, hxy⟩ := h.df
  exact ⟨h.inl, h.ins, fun e => by injection e with e; exact hxy e, by have := h.wo; rwa [List.append_nil] at this⟩
theorem wordsL_snoc (l : Lex) (s : List Int) (x : Int) : wordsL l (s ++ [x]) = wordsL l s ++ wrd l x := by rw [wordsL_app]; simp [wordsL]
theorem allIn_snoc {l : Lex} {s : List Int} {x : Int} (h : allIn l s) (hx : inN l x) : allIn l (s ++ [x]) := fun y hy => by
  rcases List.mem_append.1 hy with hy | hy
  · exact h y hy
  · rw [List.mem_singleton] at hy; subst hy; exact hx
/-- the word fits within what hangs over -/
theorem Hangs.in_ {l : Lex} {lo sh ov : List Int} (h : Hangs l lo sh ov) {j : Int} (hj : inN l j) (hp : (wrd l j).isPrefixOf ov = true) : Hangs l lo (sh ++ [j]) (ov.drop (wrd l j).length) := by
  refine ⟨h.inl, allIn_snoc h.ins hj, ?_, ?_⟩
  · rw [wordsL_snoc, List.append_assoc, ← prefix_drop.1 hp]; exact h.wo
  · obtain ⟨x, y, lo', sh', rfl, rfl, hxy⟩ := h.df
    exact ⟨x, y, lo', sh' ++ [j], rfl, rfl, hxy⟩
theorem Hangs.out {l : Lex} {lo sh ov : List Int} (h : Hangs l lo sh ov) {j : Int} (hj : inN l j) (hp : ov.isPrefixOf (wrd l j) = true) : Hangs l (sh ++ [j]) lo ((wrd l j).drop ov.length) := by
  refine ⟨allIn_snoc h.ins hj, h.inl, ?_, ?_⟩
  · rw [wordsL_snoc, h.wo, List.append_assoc, ← prefix_drop.1 hp]
  · obtain ⟨x, y, lo', sh', rfl, rfl, hxy⟩ := h.df
    exact ⟨y, x, sh' ++ [j], lo', rfl, rfl, Ne.symm hxy⟩
theorem hangs_first {l : Lex} {i j : Int} (hi : inN l i) (hj : inN l j) (hij : i ≠ j) (hp : (wrd l j).isPrefixOf (wrd l i) = true) : Hangs l [i] [j] ((wrd l i).drop (wrd l j).length) := by
  refine ⟨fun x hx => by rw [List.mem_singleton] at hx; subst hx; exact hi, fun x hx => by rw [List.mem_singleton] at hx; subst hx; exact hj, ?_, ⟨i, j, [], [], rfl, rfl, hij⟩⟩
  simp only [wordsL, List.flatMap_cons, List.flatMap_nil, List.append_nil]
  exact prefix_drop.1 hp
/-- the ends of the words: what can hang over -/
def tails (l : Lex) : List (List Int) := (List.range l.n).flatMap fun j => (List.range 7).map fun k => (wrd l (j : Nat)).drop k
theorem tails_len (l : Lex) : (tails l).length = l.n * 7 := by
  unfold tails
  generalize l.n = n
  induction n with
  | zero => simp
  | succ n ih => rw [show List.range (n + 1) = List.range n ++ [n] from List.range_succ, List.flatMap_append, List.length_append, ih, List.flatMap_singleton, List.length_map, List.length_range]; omega
theorem tails_word {l : Lex} {j k : Nat} (hj : j < l.n) (hk : k ≤ 6) : (wrd l (j : Nat)).drop k ∈ tails l := by
  unfold tails
  rw [List.mem_flatMap]
  exact ⟨j, by simpa using hj, List.mem_map.2 ⟨k, by simp; omega, rfl⟩⟩
theorem tails_drop {l : Lex} (h : LexOk l) {o : List Int} (ho : o ∈ tails l) (m : Nat) : o.drop m ∈ tails l := by
  unfold tails at ho
  rw [List.mem_flatMap] at ho
  obtain ⟨j, hj, ho⟩ := ho
  obtain ⟨k, hk, rfl⟩ := List.mem_map.1 ho
  have hj : j < l.n := by simpa using hj
  rw [List.drop_drop]
  have hw := (h.wo j hj).2
  by_cases hkm : k + m ≤ 6
  · exact tails_word hj hkm
  · rw [List.drop_of_length_le (by show (wrd l (j : Int)).length ≤ _; have : (wrd l (j : Int)).length ≤ 6 := hw; omega)]
    have := tails_word (l := l) (k := 6) hj (Nat.le_refl _)
    rwa [List.drop_of_length_le (by show (wrd l (j : Int)).length ≤ _; exact hw)] at this
theorem overOf_tails {l : Lex} (h : LexOk l) {o o' : List Int} (ho : o ∈ tails l) {j : Nat} (hj : j < l.n) (he : overOf o (wrd l j) = some o') : o' ∈ tails l := by
  unfold overOf at he
  split at he
  · injection he with he; subst he; exact tails_drop h ho _
  · split at he
    · rename_i hp
      injection he with he; subst he
      rw [List.isPrefixOf_iff_prefix] at hp
      exact tails_word hj (Nat.le_trans hp.length_le (h.wo j hj).2)
    · cases he
end Go.Proofs.Ytgpggmcjggpmpaa
