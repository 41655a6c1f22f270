/- Costs of lists put together; a best split, found from the end: plain. -/
import Derived.Test.YtgpggmcjggpmpaaTagQ
import Derived.Test.YtgpggmcjggpmpaaTagC
namespace Go.Proofs.Ytgpggmcjggpmpaa
set_option linter.unusedVariables false
/-! ## costs of lists put together -/
theorem costL_nil (l : Lex) : costL l [] = 0 := rfl
theorem costL_one (l : Lex) (x : Int) : costL l [x] = cst l x := by simp [costL, costP]
theorem costL_app (l : Lex) {a : List Int} (ha : a ≠ []) : ∀ (n : Nat) (b : List Int), b.length = n → b ≠ [] → costL l (a ++ b) = costL l a + fol l (lastI a) (b[0]?.getD 0) + costL l b
  | 0, b, hn, hb => absurd (List.eq_nil_of_length_eq_zero hn) hb
  | n + 1, b, hn, hb => by
    obtain ⟨b2, x, rfl⟩ : ∃ s2 x, b = s2 ++ [x] := ⟨b.dropLast, b.getLast hb, (List.dropLast_concat_getLast hb).symm⟩
    have hal : 0 < a.length := List.length_pos_iff.2 ha
    by_cases h2 : b2 = []
    · subst h2
      rw [List.nil_append, costL_snoc, if_pos hal, costL_one]
      show _ + fol l (lastI a) x = _ + fol l (lastI a) x + _
      omega
    · have hbl : 0 < b2.length := List.length_pos_iff.2 h2
      rw [← List.append_assoc, costL_snoc, costL_app l ha n b2 (by simpa using hn) h2, costL_snoc, if_pos (by simp; omega), if_pos hbl]
      have e1 : (a ++ b2)[(a ++ b2).length - 1]?.getD 0 = b2[b2.length - 1]?.getD 0 := by
        rw [List.getElem?_append_right (by simp; omega)]
        congr 2; simp; omega
      have e2 : (b2 ++ [x])[0]?.getD 0 = b2[0]?.getD 0 := by rw [List.getElem?_append_left hbl]
      rw [e1, e2]; omega
theorem costL_cons (l : Lex) (j x : Int) (r : List Int) : costL l (j :: x :: r) = cst l j + fol l j x + costL l (x :: r) := by
  have := costL_app l (a := [j]) (by simp) _ (x :: r) rfl (by simp)
  rw [List.singleton_append, costL_one] at this
  rw [this]; simp [lastI]
/-- consecutive items may follow -/
def lnkB (l : Lex) (s : List Int) : Bool := (List.range s.length).all fun k => decide (k = 0) || decide (0 ≤ fol l (s[k - 1]?.getD 0) (s[k]?.getD 0))
theorem lnk_of_at {l : Lex} : ∀ {b : Int} {s : List Int}, (b < 0 ∨ s = [] ∨ 0 ≤ fol l b (s[0]?.getD 0)) → (∀ k, k + 1 < s.length → 0 ≤ fol l (s[k]?.getD 0) (s[k + 1]?.getD 0)) → lnk l b s = true
  | b, [], _, _ => rfl
  | b, x :: s, h0, h => by
    rw [lnk, Bool.and_eq_true, Bool.or_eq_true, decide_eq_true_eq, decide_eq_true_eq]
    refine ⟨?_, lnk_of_at ?_ fun k hk => ?_⟩
    · rcases h0 with h0 | h0 | h0
      · exact .inl h0
      · cases h0
      · exact .inr (by simpa using h0)
    · cases s with
      | nil => exact .inr (.inl rfl)
      | cons y s => exact .inr (.inr (by have := h 0 (by simp); simpa using this))
    · have := h (k + 1) (by simpa using hk)
      simpa using this
theorem lnkB_iff {l : Lex} {s : List Int} (hs : ∀ x ∈ s, 0 ≤ x) : lnkB l s = true ↔ lnk l (-1) s = true := by
  unfold lnkB
  rw [List.all_eq_true]
  constructor
  · intro h
    refine lnk_of_at (.inl (by omega)) fun k hk => ?_
    have := h (k + 1) (by simpa using hk)
    simpa using this
  · intro h k hk
    have hk : k < s.length := by simpa using hk
    cases k with
    | zero => simp
    | succ k => have := lnk_at hs h k hk; simp [this]
/-! ## a best split, from the end -/
/-- sfx is an end of a split of t from the place i on, and the cheapest splits of t end so -/
structure BestS (l : Lex) (t : List Int) (i : Nat) (sfx : List Int) : Prop where
  ile : i ≤ t.length
  inn : allIn l sfx
  wo : wordsL l sfx = t.drop i
  ln : lnk l (-1) sfx = true
  ex : sfx ≠ [] → ∃ s, (s = [] ∧ i = 0 ∨ ∃ k, k < l.n ∧ Ends l t i k s ∧ 0 ≤ fol l k (sfx[0]?.getD 0)) ∧ costL l (s ++ sfx) = leastT l t
/-- the cost of standing with j before the rest -/
def beforeC (l : Lex) (t : List Int) (i : Nat) (sfx : List Int) (j : Nat) : Int := (tabRow l t (tabT l t i) i)[j]?.getD 0 + (if sfx = [] then 0 else fol l j (sfx[0]?.getD 0))
def mayStand (l : Lex) (sfx : List Int) (j : Nat) : Prop := sfx = [] ∨ 0 ≤ fol l j (sfx[0]?.getD 0)
theorem tabRow_at {l : Lex} {t : List Int} {i j : Nat} (hj : j < l.n) : (tabRow l t (tabT l t i) i)[j]?.getD 0 = tabAt l t (tabT l t i) i j := by
  unfold tabRow; rw [List.getElem?_map, List.getElem?_range hj]; rfl
theorem ends_word {l : Lex} {t : List Int} {i j : Nat} {s : List Int} (hi : i ≤ t.length) (h : Ends l t i j s) : endsAt l t i j = true := by
  obtain ⟨s', rfl, hs⟩ := h
  have hw := hs.wo
  rw [wordsL_snoc] at hw
  unfold endsAt
  rw [List.isSuffixOf_iff_suffix]; exact ⟨_, hw⟩
theorem lnk_app {l : Lex} {a b : List Int} (ha : a ≠ []) (hb : b ≠ []) (hpa : ∀ x ∈ a, 0 ≤ x) : lnk l (-1) (a ++ b) = true ↔ lnk l (-1) a = true ∧ 0 ≤ fol l (lastI a) (b[0]?.getD 0) ∧ lnk l (-1) b = true := by
  induction a with
  | nil => exact absurd rfl ha
  | cons x a ih =>
    cases a with
    | nil =>
      cases b with
      | nil => exact absurd rfl hb
      | cons y b =>
        have := hpa x (by simp)
        simp only [List.singleton_append, lnk, lastI, Bool.and_eq_true, Bool.or_eq_true, decide_eq_true_eq]
        simp
        omega
    | cons z a =>
      have ih := ih (by simp) (fun y hy => hpa y (by simp [hy]))
      have e : lastI (x :: z :: a) = lastI (z :: a) := by simp [lastI]
      rw [e, List.cons_append, lnk, lnk]
      have hz : ∀ r, lnk l x (z :: r) = ((decide (x < 0) || decide (0 ≤ fol l x z)) && lnk l (-1) (z :: r)) := by
        intro r; rw [lnk, lnk]; simp
      rw [List.cons_append, hz, hz, ← List.cons_append]
      simp only [Bool.and_eq_true, ih]
      constructor
      · rintro ⟨h1, h2, h3, h4, h5⟩; exact ⟨⟨h1, h2, h3⟩, h4, h5⟩
      · rintro ⟨⟨h1, h2, h3⟩, h4, h5⟩; exact ⟨h1, h2, h3, h4, h5⟩
theorem BestS.start (l : Lex) (t : List Int) : BestS l t t.length [] := ⟨Nat.le_refl _, fun x hx => by simp at hx, by simp [wordsL], rfl, fun h => absurd rfl h⟩
/-- every way to stand before the rest costs no less than the least -/
theorem before_ge {l : Lex} (h : LexOk l) {t : List Int} (ht : t.length ≤ 12) {i : Nat} {sfx : List Int} (hB : BestS l t i sfx) (hi : 0 < i) {j : Nat} (hj : j < l.n) (hm : mayStand l sfx j) (hlt : beforeC l t i sfx j < big) :
    (tabAt l t (tabT l t i) i j < big ∧ ∃ s, Ends l t i j s ∧ costL l (s ++ sfx) = beforeC l t i sfx j + costL l sfx ∧ IsSp l (-1) t (s ++ sfx)) := by
  have hT := tab_least h ht i hB.ile j hj
  unfold beforeC at hlt ⊢
  rw [tabRow_at hj] at hlt ⊢
  have hfol : 0 ≤ (if sfx = [] then 0 else fol l j (sfx[0]?.getD 0)) := by
    split
    · omega
    · rcases hm with hm | hm
      · contradiction
      · exact hm
  have hlt2 : tabAt l t (tabT l t i) i j < big := by omega
  rcases hT with ⟨e, _⟩ | ⟨_, ⟨s, hs, e⟩, _⟩
  · omega
  · refine ⟨hlt2, s, hs, ?_, ?_⟩
    · obtain ⟨s', rfl, hss⟩ := hs
      by_cases hsf : sfx = []
      · subst hsf; simp [costL_nil, e]
      · rw [costL_app l (by simp) _ sfx rfl hsf, if_neg hsf, lastI_snoc, e]
    · obtain ⟨s', rfl, hss⟩ := hs
      refine ⟨?_, ?_, ?_⟩
      · intro x hx
        rcases List.mem_append.1 hx with hx | hx
        · exact hss.inn x hx
        · exact hB.inn x hx
      · rw [wordsL_app, hss.wo, hB.wo, List.take_append_drop]
      · by_cases hsf : sfx = []
        · subst hsf; rw [List.append_nil]; exact hss.ln
        · rw [lnk_app (by simp) hsf (fun x hx => (hss.inn x hx).1)]
          refine ⟨hss.ln, ?_, hB.ln⟩
          rw [lastI_snoc]
          rcases hm with hm | hm
          · contradiction
          · exact hm
/-- the cheapest one that can stand before -/
theorem BestS.step {l : Lex} (h : LexOk l) {t : List Int} (ht : t.length ≤ 12) {i : Nat} {sfx : List Int} (hB : BestS l t i sfx) (hi : 0 < i) {j : Nat} (hj : j < l.n) (hm : mayStand l sfx j) (hlt : beforeC l t i sfx j < big)
    (hmin : ∀ k, k < l.n → mayStand l sfx k → beforeC l t i sfx j ≤ beforeC l t i sfx k) : (wrd l j).length ≤ i ∧ 0 < (wrd l j).length ∧ BestS l t (i - (wrd l j).length) ((j : Int) :: sfx) := by
  obtain ⟨hlt2, s, hs, hcost, hsp⟩ := before_ge h ht hB hi hj hm hlt
  have hne : 0 < (wrd l (j : Int)).length := h.noE j hj
  have hends := ends_word hB.ile hs
  have hle := endsAt_le hB.ile hends
  have htne : t ≠ [] := by rintro rfl; have := hB.ile; simp at this; omega
  -- its cost is the least
  have hleast : costL l (s ++ sfx) = leastT l t := by
    rcases leastT_is h ht htne with ⟨_, hno⟩ | ⟨_, ⟨s1, hs1, e1⟩, hmin1⟩
    · exact absurd hsp (hno _)
    · have h1 := hmin1 _ hsp
      -- the least one has the same end
      have h2 : costL l (s ++ sfx) ≤ leastT l t := by
        by_cases hsf : sfx = []
        · subst hsf
          obtain ⟨k, hk, hek⟩ := (ends_iff h.noE htne s1).1 hs1
          have hil : i = t.length := by
            have := hB.wo
            simp [wordsL] at this
            have := hB.ile; omega
          subst hil
          have hT := tab_least h ht t.length (Nat.le_refl _) k hk
          have hmk := hmin k hk (.inl rfl)
          unfold beforeC at hmk hcost
          rw [tabRow_at hj, tabRow_at hk] at hmk
          rw [tabRow_at hj] at hcost
          rcases hT with ⟨_, hno⟩ | ⟨_, _, hmin2⟩
          · exact absurd hek (hno _)
          · have := hmin2 _ hek
            rw [hcost]; simp [costL_nil] at hmk ⊢; omega
        · obtain ⟨s2, hs2, e2⟩ := hB.ex hsf
          rcases hs2 with ⟨_, h0⟩ | ⟨k, hk, hek, hfk⟩
          · omega
          · have hT := tab_least h ht i hB.ile k hk
            have hmk := hmin k hk (.inr hfk)
            unfold beforeC at hmk hcost
            rw [tabRow_at hj, tabRow_at hk] at hmk
            rw [tabRow_at hj] at hcost
            rcases hT with ⟨_, hno⟩ | ⟨_, _, hmin2⟩
            · exact absurd hek (hno _)
            · have h3 := hmin2 _ hek
              obtain ⟨s3, rfl, hs3⟩ := hek
              rw [costL_app l (by simp) _ sfx rfl hsf, lastI_snoc] at e2
              rw [if_neg hsf, if_neg hsf] at hmk
              rw [if_neg hsf] at hcost
              omega
      omega
  refine ⟨hle, hne, by have := hB.ile; omega, ?_, ?_, ?_, fun _ => ?_⟩
  · intro x hx
    rcases List.mem_cons.1 hx with rfl | hx
    · exact ⟨by omega, by show ((j : Int)) < (l.n : Int); omega⟩
    · exact hB.inn x hx
  · obtain ⟨_, h2⟩ := (suffix_take hB.ile).1 hends
    rw [wordsL_cons, hB.wo]
    have h3 : t.take i ++ t.drop i = t.take (i - (wrd l (j : Int)).length) ++ t.drop (i - (wrd l (j : Int)).length) := by rw [List.take_append_drop, List.take_append_drop]
    rw [h2, List.append_assoc] at h3
    exact List.append_cancel_left h3
  · rw [lnk]
    simp
    cases hsf : sfx with
    | nil => rfl
    | cons y r =>
      have hl := hB.ln
      rw [hsf, lnk] at hl
      simp at hl
      rcases hm with hm | hm
      · rw [hsf] at hm; cases hm
      · rw [hsf] at hm
        rw [lnk, hl]; simp at hm ⊢; simp [hm]
  · rcases ((ends_step h.noE hj hB.ile s).1 hs).2 with ⟨h1, rfl⟩ | ⟨h1, s', k, hk, rfl, hek, hfk⟩
    · exact ⟨[], .inl ⟨rfl, by omega⟩, by rw [List.nil_append]; exact hleast⟩
    · exact ⟨s', .inr ⟨k, hk, hek, by simpa using hfk⟩, by rw [← hleast, List.append_assoc]; rfl⟩
theorem BestS.done {l : Lex} (h : NoE l) {t sfx : List Int} (hB : BestS l t 0 sfx) (ht : t ≠ []) : IsSp l (-1) t sfx ∧ costL l sfx = leastT l t := by
  have hw := hB.wo
  rw [List.drop_zero] at hw
  have hne : sfx ≠ [] := by rintro rfl; exact ht hw.symm
  refine ⟨⟨hB.inn, hw, hB.ln⟩, ?_⟩
  obtain ⟨s, hs, e⟩ := hB.ex hne
  rcases hs with ⟨rfl, _⟩ | ⟨k, hk, hek, _⟩
  · exact e
  · obtain ⟨s', rfl, hss⟩ := hek
    have := hss.wo
    rw [List.take_zero] at this
    have := words_nil h hss.inn this
    simp at this
/-- where nothing can stand before: there is no split -/
theorem BestS.stop {l : Lex} (h : LexOk l) {t : List Int} (ht : t.length ≤ 12) {i : Nat} {sfx : List Int} (hB : BestS l t i sfx) (hi : 0 < i) (hno : ∀ k, k < l.n → mayStand l sfx k → big ≤ beforeC l t i sfx k) : leastT l t = big := by
  have htne : t ≠ [] := by rintro rfl; have := hB.ile; simp at this; omega
  rcases leastT_is h ht htne with ⟨e, _⟩ | ⟨_, ⟨s1, hs1, e1⟩, _⟩
  · exact e
  · exfalso
    by_cases hsf : sfx = []
    · subst hsf
      obtain ⟨k, hk, hek⟩ := (ends_iff h.noE htne s1).1 hs1
      have hil : i = t.length := by
        have := hB.wo
        simp [wordsL] at this
        have := hB.ile; omega
      subst hil
      have hmk := hno k hk (.inl rfl)
      unfold beforeC at hmk
      rw [tabRow_at hk] at hmk
      rcases tab_least h ht t.length (Nat.le_refl _) k hk with ⟨_, hn⟩ | ⟨hlt, _⟩
      · exact absurd hek (hn _)
      · simp at hmk; omega
    · obtain ⟨s2, hs2, e2⟩ := hB.ex hsf
      rcases hs2 with ⟨_, h0⟩ | ⟨k, hk, hek, hfk⟩
      · omega
      · have hmk := hno k hk (.inr hfk)
        unfold beforeC at hmk
        rw [tabRow_at hk, if_neg hsf] at hmk
        have hx : inN l (sfx[0]?.getD 0) := hB.inn _ (by rw [List.getElem?_eq_getElem (List.length_pos_iff.2 hsf)]; exact List.getElem_mem _)
        obtain ⟨x, hxe⟩ : ∃ x : Nat, sfx[0]?.getD 0 = (x : Int) := ⟨(sfx[0]?.getD 0).toNat, by have := hx.1; omega⟩
        have hxl : x < l.n := by have := hx.2; rw [hxe] at this; have : ((x : Int)) < (l.n : Int) := this; omega
        have hf := h.fol hk hxl
        rcases tab_least h ht i hB.ile k hk with ⟨_, hn⟩ | ⟨hlt, ⟨s3, hs3, e3⟩, _⟩
        · exact absurd hek (hn _)
        · obtain ⟨s4, rfl, hs4⟩ := hs3
          have hb := cost_bd h hs4.inn _ (Nat.le_refl _)
          have hlen := hs4.len h.noE
          rw [List.length_take] at hlen
          have : costL l (s4 ++ [(k : Int)]) = costP l (s4 ++ [(k : Int)]) (s4 ++ [(k : Int)]).length := rfl
          rw [hxe] at hmk
          unfold big at *
          omega
end Go.Proofs.Ytgpggmcjggpmpaa
