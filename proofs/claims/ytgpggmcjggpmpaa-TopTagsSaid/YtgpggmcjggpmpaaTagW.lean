/- Proofs that nothing is cheaper; the longest words first: plain. -/
import Derived.Test.YtgpggmcjggpmpaaTagV
namespace Go.Proofs.Ytgpggmcjggpmpaa
set_option linter.unusedVariables false
/-! ## proofs that nothing is cheaper -/
def prfAt (p : List (List Int)) (i j : Nat) : Int := (p[i]?.getD [])[j]?.getD 0
def rowIn (n : Nat) (r : List Int) : Bool := decide (r.length = n) && allB r.length fun i => inB (r[i]?.getD 0) (-100000) 100000
def shapeB (l : Lex) (t : List Int) (p : List (List Int)) : Bool := decide (p.length = t.length + 1) && allB p.length fun i => rowIn l.n (p[i]?.getD [])
/-- the number at i, j is small enough -/
def lowB (l : Lex) (p : List (List Int)) (i j b : Nat) : Bool := if b = 0 then decide (prfAt p i j ≤ cst l j) else allB l.n fun k => decide (fol l k j < 0) || decide (prfAt p i j ≤ prfAt p b k + fol l k j + cst l j)
def bndB (l : Lex) (t : List Int) (p : List (List Int)) (i j : Nat) : Bool := !endsAt l t i j || lowB l p i j (i - (wrd l j).length)
def bndsB (l : Lex) (t : List Int) (p : List (List Int)) : Bool := allB (t.length + 1) fun i => allB l.n fun j => bndB l t p i j
def worthTo (l : Lex) (t : List Int) (row : List Int) : Nat → Int × Bool
  | 0 => (0, false)
  | j + 1 => if endsAt l t t.length j = true ∧ ((worthTo l t row j).2 = false ∨ row[j]?.getD 0 < (worthTo l t row j).1) then (row[j]?.getD 0, true) else worthTo l t row j
def proofK (l : Lex) (t : List Int) (p : List (List Int)) : Int := if textK l t = 0 then (if shapeB l t p then (if bndsB l t p then 0 else 7) else 1) else textK l t
def worthL (l : Lex) (t : List Int) (p : List (List Int)) : Int × Bool := worthTo l t (p[t.length]?.getD []) l.n
def proofW (l : Lex) (t : List Int) (p : List (List Int)) : Int × Bool := if proofK l t p = 0 then ((worthL l t p).1, (worthL l t p).2 || decide (t = [])) else (0, false)
theorem worthTo_le {l : Lex} {t row : List Int} : ∀ n, (∀ j, j < n → endsAt l t t.length j = true → (worthTo l t row n).2 = true ∧ (worthTo l t row n).1 ≤ row[j]?.getD 0) ∧ ((worthTo l t row n).2 = true → ∃ j, j < n ∧ endsAt l t t.length j = true ∧ (worthTo l t row n).1 = row[j]?.getD 0) ∧ ((worthTo l t row n).2 = false → (worthTo l t row n).1 = 0)
  | 0 => ⟨fun j hj => by omega, fun h => by simp [worthTo] at h, fun _ => rfl⟩
  | n + 1 => by
    obtain ⟨h1, h2, h3⟩ := worthTo_le (l := l) (t := t) (row := row) n
    rw [worthTo]
    split
    · rename_i hc
      refine ⟨fun j hj he => ⟨rfl, ?_⟩, fun _ => ⟨n, by omega, hc.1, rfl⟩, fun h => by cases h⟩
      by_cases hjn : j = n
      · subst hjn; exact Int.le_refl _
      · obtain ⟨e1, e2⟩ := h1 j (by omega) he
        rcases hc.2 with h | h
        · rw [e1] at h; cases h
        · show row[n]?.getD 0 ≤ _; omega
    · rename_i hc
      refine ⟨fun j hj he => ?_, fun h => ?_, h3⟩
      · by_cases hjn : j = n
        · subst hjn
          have : ¬ ((worthTo l t row j).2 = false ∨ row[j]?.getD 0 < (worthTo l t row j).1) := fun h => hc ⟨he, h⟩
          have ht : (worthTo l t row j).2 = true := by
            cases hb : (worthTo l t row j).2 with
            | true => rfl
            | false => exact absurd (.inl hb) this
          exact ⟨ht, by omega⟩
        · exact h1 j (by omega) he
      · obtain ⟨j, hj, e⟩ := h2 h
        exact ⟨j, by omega, e⟩
theorem proofK_ok {l : Lex} {t : List Int} {p : List (List Int)} (h : proofK l t p = 0) : textK l t = 0 ∧ shapeB l t p = true ∧ bndsB l t p = true := by
  unfold proofK at h
  split at h <;> rename_i h0
  · split at h <;> rename_i h1
    · split at h <;> rename_i h2
      · exact ⟨h0, h1, h2⟩
      · omega
    · omega
  · exact absurd h h0
/-- the numbers of a proof that holds are no greater than costs -/
theorem proof_low {l : Lex} (h : LexOk l) {t : List Int} {p : List (List Int)} (hb : bndsB l t p = true) : ∀ (i : Nat), i ≤ t.length → ∀ j, j < l.n → ∀ s, Ends l t i j s → prfAt p i j ≤ costL l s := by
  intro i
  induction i using Nat.strongRecOn with
  | ind i ih =>
    intro hi j hj s hs
    have hne : 0 < (wrd l (j : Int)).length := h.noE j hj
    obtain ⟨he, hcase⟩ := (ends_step h.noE hj hi s).1 hs
    have hle := endsAt_le hi he
    unfold bndsB at hb
    rw [allB_iff] at hb
    have hij := allB_iff.1 (hb i (by omega)) j hj
    unfold bndB at hij
    rw [he, Bool.not_true, Bool.false_or] at hij
    unfold lowB at hij
    rcases hcase with ⟨h1, rfl⟩ | ⟨h1, s', k, hk, rfl, hek, hfk⟩
    · rw [if_pos (by omega), decide_eq_true_eq] at hij
      rw [costL_one]; exact hij
    · rw [if_neg (by omega)] at hij
      have h2 := allB_iff.1 hij k hk
      rw [Bool.or_eq_true, decide_eq_true_eq, decide_eq_true_eq] at h2
      have h3 := ih (i - (wrd l (j : Int)).length) (by omega) (by omega) k hk s' hek
      obtain ⟨s2, rfl, _⟩ := hek
      rw [costL_app l (by simp) 1 [(j : Int)] rfl (by simp), lastI_snoc, costL_one]
      simp
      omega
theorem proof_worth {l : Lex} {t : List Int} {p : List (List Int)} (h : (proofW l t p).2 = true) : textK l t = 0 ∧ ((leastO l t).2 = true → (proofW l t p).1 ≤ (leastO l t).1) := by
  unfold proofW at h ⊢
  split at h
  · rename_i hk
    rw [if_pos hk]
    obtain ⟨h0, h1, h2⟩ := proofK_ok hk
    refine ⟨h0, fun hl => ?_⟩
    obtain ⟨hlex, ht, _⟩ := textK_ok h0
    unfold leastO at hl ⊢
    rw [if_pos h0] at hl ⊢
    by_cases htn : t = []
    · rw [if_pos htn]
      subst htn
      have : (worthL l [] p).2 = false := by
        cases hb : (worthL l [] p).2 with
        | false => rfl
        | true =>
          obtain ⟨j, hj, he, _⟩ := (worthTo_le (l := l) (t := []) (row := p[([] : List Int).length]?.getD []) l.n).2.1 hb
          have := endsAt_le (Nat.le_refl _) he
          have hne : 0 < (wrd l (j : Int)).length := hlex.noE j hj
          simp at this; simp [this] at hne
      have := (worthTo_le (l := l) (t := []) (row := p[([] : List Int).length]?.getD []) l.n).2.2 this
      unfold worthL; rw [this]; exact Int.le_refl _
    · rw [if_neg htn] at hl ⊢
      rcases leastT_is hlex ht htn with ⟨e, _⟩ | ⟨hlt, ⟨s, hs, e⟩, _⟩
      · rw [if_pos e] at hl; cases hl
      · rw [if_neg (by omega)]
        show (worthL l t p).1 ≤ leastT l t
        obtain ⟨k, hk', hek⟩ := (ends_iff hlex.noE htn s).1 hs
        have h3 := proof_low hlex h2 _ (Nat.le_refl _) k hk' s hek
        have h4 := ((worthTo_le (l := l) (t := t) (row := p[t.length]?.getD []) l.n).1 k hk' (ends_word (Nat.le_refl _) hek)).2
        rw [← e]
        exact Int.le_trans h4 h3
  · cases h
/-- the table is a proof -/
theorem tabAt_bd {l : Lex} (h : LexOk l) {t : List Int} (ht : t.length ≤ 12) {i j : Nat} (hi : i ≤ t.length) (hj : j < l.n) : 0 ≤ tabAt l t (tabT l t i) i j ∧ tabAt l t (tabT l t i) i j ≤ big := by
  rcases tab_least h ht i hi j hj with ⟨e, _⟩ | ⟨hlt, ⟨s, ⟨s', rfl, hs⟩, e⟩, _⟩
  · rw [e]; unfold big; omega
  · have := cost_pos h hs.inn hs.ln _ (Nat.le_refl _)
    have e2 : costL l (s' ++ [(j : Int)]) = costP l (s' ++ [(j : Int)]) (s' ++ [(j : Int)]).length := rfl
    omega
theorem stepMin_low {l : Lex} {j : Nat} {row : List Int} : ∀ (n k : Nat), k < n → 0 ≤ fol l k j → row[k]?.getD 0 < big → stepMin l j row n ≤ row[k]?.getD 0 + fol l k j + cst l j
  | n + 1, k, hk, hf, hr => by
    rw [stepMin]
    by_cases hkn : k = n
    · subst hkn; rw [if_pos ⟨hf, hr⟩]; omega
    · have := stepMin_low n k (by omega) hf hr
      split <;> omega
theorem stepMin_big {l : Lex} {j : Nat} {row : List Int} : ∀ n, stepMin l j row n ≤ big
  | 0 => Int.le_refl _
  | n + 1 => by
    have := stepMin_big (l := l) (j := j) (row := row) n
    rw [stepMin]; split <;> omega
theorem tab_prf {l : Lex} {t : List Int} {i j n : Nat} (hi : i < n) (hj : j < l.n) : prfAt (tabT l t n) i j = tabAt l t (tabT l t i) i j := by
  unfold prfAt; rw [tabT_at l t hi, tabRow_at hj]
theorem tab_proof {l : Lex} {t : List Int} (h0 : textK l t = 0) : proofK l t (tabT l t (t.length + 1)) = 0 := by
  obtain ⟨h, ht, _⟩ := textK_ok h0
  have hs : shapeB l t (tabT l t (t.length + 1)) = true := by
    unfold shapeB
    rw [Bool.and_eq_true, decide_eq_true_eq, tabT_len, allB_iff]
    refine ⟨rfl, fun i hi => ?_⟩
    unfold rowIn
    rw [tabT_at l t hi, Bool.and_eq_true, decide_eq_true_eq, allB_iff]
    have hl : (tabRow l t (tabT l t i) i).length = l.n := by simp [tabRow]
    refine ⟨hl, fun j hj => ?_⟩
    rw [hl] at hj
    rw [tabRow_at hj, inB_iff]
    have := tabAt_bd h ht (i := i) (by omega) hj
    unfold big at this; omega
  have hb : bndsB l t (tabT l t (t.length + 1)) = true := by
    unfold bndsB
    rw [allB_iff]
    intro i hi
    rw [allB_iff]
    intro j hj
    unfold bndB
    cases he : endsAt l t i j with
    | false => rfl
    | true =>
      have hle := endsAt_le (by omega) he
      have hne : 0 < (wrd l (j : Int)).length := h.noE j hj
      rw [Bool.not_true, Bool.false_or]
      unfold lowB
      rw [tab_prf hi hj]
      unfold tabAt
      rw [if_pos he]
      by_cases hil : i = (wrd l (j : Int)).length
      · rw [if_pos (by omega), if_pos hil]; simp
      · rw [if_neg (by omega), if_neg hil, allB_iff]
        intro k hk
        rw [Bool.or_eq_true, decide_eq_true_eq, decide_eq_true_eq]
        rw [tab_prf (by omega) hk]
        by_cases hf : fol l k j < 0
        · exact .inl hf
        · right
          have hrow : ((tabT l t i)[i - (wrd l (j : Int)).length]?.getD [])[k]?.getD 0 = tabAt l t (tabT l t (i - (wrd l (j : Int)).length)) (i - (wrd l (j : Int)).length) k := by
            rw [tabT_at l t (by omega), tabRow_at hk]
          by_cases hr : tabAt l t (tabT l t (i - (wrd l (j : Int)).length)) (i - (wrd l (j : Int)).length) k < big
          · have := stepMin_low (l := l) (j := j) (row := (tabT l t i)[i - (wrd l (j : Int)).length]?.getD []) l.n k hk (by omega) (by rw [hrow]; exact hr)
            rw [hrow] at this; exact this
          · have h1 := stepMin_big (l := l) (j := j) (row := (tabT l t i)[i - (wrd l (j : Int)).length]?.getD []) l.n
            have h2 := h.cst hj
            have h3 := tabAt_bd h ht (i := i - (wrd l (j : Int)).length) (by omega) hk
            omega
  unfold proofK
  rw [if_pos h0, if_pos hs, if_pos hb]
theorem tab_worth {l : Lex} {t : List Int} (h0 : textK l t = 0) (hs : (leastO l t).2 = true) : proofW l t (tabT l t (t.length + 1)) = leastO l t := by
  obtain ⟨h, ht, _⟩ := textK_ok h0
  unfold proofW
  rw [if_pos (tab_proof h0)]
  unfold leastO at hs ⊢
  rw [if_pos h0] at hs ⊢
  obtain ⟨w1, w2, w3⟩ := worthTo_le (l := l) (t := t) (row := (tabT l t (t.length + 1))[t.length]?.getD []) l.n
  by_cases htn : t = []
  · subst htn
    rw [if_pos rfl]
    have : (worthL l [] (tabT l [] (([] : List Int).length + 1))).2 = false := by
      cases hb : (worthL l [] (tabT l [] (([] : List Int).length + 1))).2 with
      | false => rfl
      | true =>
        obtain ⟨j, hj, he, _⟩ := w2 hb
        have := endsAt_le (Nat.le_refl _) he
        have hne : 0 < (wrd l (j : Int)).length := h.noE j hj
        simp at this; simp [this] at hne
    have h3 := w3 this
    unfold worthL at *
    rw [h3, this]; rfl
  · rw [if_neg htn] at hs ⊢
    rcases leastT_is h ht htn with ⟨e, _⟩ | ⟨hlt, ⟨s, hss, e⟩, hmin⟩
    · rw [if_pos e] at hs; cases hs
    · rw [if_neg (by omega)]
      obtain ⟨k, hk, hek⟩ := (ends_iff h.noE htn s).1 hss
      have hekw := ends_word (Nat.le_refl _) hek
      obtain ⟨h1, h2⟩ := w1 k hk hekw
      have hrow : ∀ j, j < l.n → ((tabT l t (t.length + 1))[t.length]?.getD [])[j]?.getD 0 = tabAt l t (tabT l t t.length) t.length j := fun j hj => by
        rw [tabT_at l t (by omega), tabRow_at hj]
      have hle : (worthL l t (tabT l t (t.length + 1))).1 ≤ leastT l t := by
        have : (worthL l t (tabT l t (t.length + 1))).1 ≤ tabAt l t (tabT l t t.length) t.length k := by rw [← hrow k hk]; exact h2
        rcases tab_least h ht t.length (Nat.le_refl _) k hk with ⟨_, hn⟩ | ⟨_, _, hm⟩
        · exact absurd hek (hn s)
        · have := hm s hek; omega
      have hge : leastT l t ≤ (worthL l t (tabT l t (t.length + 1))).1 := by
        obtain ⟨j, hj, hej, e3⟩ := w2 h1
        have e4 : (worthL l t (tabT l t (t.length + 1))).1 = tabAt l t (tabT l t t.length) t.length j := by rw [← hrow j hj]; exact e3
        rcases tab_least h ht t.length (Nat.le_refl _) j hj with ⟨e5, _⟩ | ⟨_, ⟨s2, hs2, e5⟩, _⟩
        · rw [e4, e5]; omega
        · rw [e4, ← e5]; exact hmin s2 ((ends_iff h.noE htn s2).2 ⟨j, hj, hs2⟩)
      have h1' : (worthL l t (tabT l t (t.length + 1))).2 = true := h1
      rw [h1', show (worthL l t (tabT l t (t.length + 1))).1 = leastT l t by omega]; rfl
/-! ## the longest words first -/
def fits (l : Lex) (r : List Int) (j : Nat) : Bool := (wrd l j).isPrefixOf r
def longerB (l : Lex) (o : Option Nat) (j : Nat) : Bool := match o with
  | none => true
  | some b => decide ((wrd l b).length < (wrd l j).length)
/-- the first longest one of the first n items that fits -/
def longest (l : Lex) (r : List Int) : Nat → Option Nat
  | 0 => none
  | j + 1 => if fits l r j && longerB l (longest l r j) j then some j else longest l r j
theorem longest_fits {l : Lex} {r : List Int} : ∀ n b, longest l r n = some b → b < n ∧ fits l r b = true
  | n + 1, b, h => by
    rw [longest] at h
    split at h
    · rename_i hc
      injection h with h; subst h
      rw [Bool.and_eq_true] at hc
      exact ⟨by omega, hc.1⟩
    · have := longest_fits n b h; exact ⟨by omega, this.2⟩
def greedyF (l : Lex) : Nat → List Int → List Int
  | 0, _ => []
  | f + 1, r => match longest l r l.n with
    | none => []
    | some b => (b : Int) :: greedyF l f (r.drop (wrd l b).length)
def greedyL (l : Lex) (t : List Int) : List Int := greedyF l t.length t
def greedyN (l : Lex) (t : List Int) : Int := (wordsL l (greedyL l t)).length
end Go.Proofs.Ytgpggmcjggpmpaa
