/- Lexicons and splits, plain: all splits from the left and from the right, the table of least costs. -/
import Derived.Test.YtgpggmcjggpmpaaLib
namespace Go.Proofs.Ytgpggmcjggpmpaa
set_option linter.unusedVariables false
/-! ## plain: lexicons, splits -/
structure Itm where
  w : List Int
  k : Int
  c : Int
structure Lex where
  i : List Itm
  f : List (List Int)
def itm (l : List Itm) (j : Nat) : Itm := l[j]?.getD ⟨[], 0, 0⟩
abbrev Lex.n (l : Lex) : Nat := l.i.length
/-- what it costs that b follows a -/
def fol (l : Lex) (a b : Int) : Int := (l.f[(itm l.i a.toNat).k.toNat]?.getD [])[(itm l.i b.toNat).k.toNat]?.getD 0
def wrd (l : Lex) (x : Int) : List Int := (itm l.i x.toNat).w
def cst (l : Lex) (x : Int) : Int := (itm l.i x.toNat).c
def wordsL (l : Lex) (s : List Int) : List Int := s.flatMap (wrd l)
def inN (l : Lex) (x : Int) : Prop := 0 ≤ x ∧ x < l.n
def lnk (l : Lex) : Int → List Int → Bool
  | _, [] => true
  | b, x :: s => (decide (b < 0) || decide (0 ≤ fol l b x)) && lnk l x s
structure IsSp (l : Lex) (b : Int) (t s : List Int) : Prop where
  inn : ∀ x ∈ s, inN l x
  wo : wordsL l s = t
  ln : lnk l b s = true
/-- words are not empty -/
def NoE (l : Lex) : Prop := ∀ j, j < l.n → 0 < (itm l.i j).w.length
theorem NoE.at {l : Lex} (h : NoE l) {x : Int} (hx : inN l x) : 0 < (wrd l x).length := h _ (by have := hx.1; have := hx.2; omega)

/-! ## all splits, from the left -/
def splF (l : Lex) : Nat → List Int → Int → List (List Int)
  | 0, r, _ => if r = [] then [[]] else []
  | f + 1, r, b => if r = [] then [[]] else (List.range l.n).flatMap fun (j : Nat) => if (wrd l j).isPrefixOf r && (decide (b < 0) || decide (0 ≤ fol l b j)) then (splF l f (r.drop (wrd l j).length) j).map ((j : Int) :: ·) else []
theorem wordsL_cons (l : Lex) (x : Int) (s : List Int) : wordsL l (x :: s) = wrd l x ++ wordsL l s := by simp [wordsL]
theorem wordsL_app (l : Lex) (a b : List Int) : wordsL l (a ++ b) = wordsL l a ++ wordsL l b := by simp [wordsL]
theorem words_nil {l : Lex} (h : NoE l) {s : List Int} (hs : ∀ x ∈ s, inN l x) (hw : wordsL l s = []) : s = [] := by
  cases s with
  | nil => rfl
  | cons x s =>
    have := h.at (hs x (by simp))
    rw [wordsL_cons] at hw
    have := congrArg List.length hw
    simp at this; simp_all
theorem prefix_drop {a r : List Int} : a.isPrefixOf r = true ↔ r = a ++ r.drop a.length := by
  rw [List.isPrefixOf_iff_prefix, List.prefix_iff_eq_append]
  exact ⟨fun h => h.symm, fun h => h.symm⟩
theorem splF_mem {l : Lex} (h : NoE l) : ∀ (f : Nat) (r : List Int) (b : Int) (s : List Int), r.length ≤ f → (s ∈ splF l f r b ↔ IsSp l b r s)
  | 0, r, b, s, hf => by
    obtain rfl : r = [] := List.eq_nil_of_length_eq_zero (by omega)
    simp only [splF, if_pos, List.mem_singleton]
    constructor
    · rintro rfl; exact ⟨by simp, rfl, rfl⟩
    · intro hs; exact words_nil h hs.inn hs.wo
  | f + 1, r, b, s, hf => by
    by_cases hr : r = []
    · subst hr
      simp only [splF, if_pos, List.mem_singleton]
      constructor
      · rintro rfl; exact ⟨by simp, rfl, rfl⟩
      · intro hs; exact words_nil h hs.inn hs.wo
    · simp only [splF, if_neg hr, List.mem_flatMap, List.mem_range]
      constructor
      · rintro ⟨j, hj, hm⟩
        split at hm
        · rename_i hc
          rw [Bool.and_eq_true] at hc
          obtain ⟨s', hs', rfl⟩ := List.mem_map.1 hm
          have hp := prefix_drop.1 hc.1
          have hne := h j hj
          have hle : (wrd l j).length ≤ r.length := by rw [hp]; simp
          have hs := (splF_mem h f _ _ s' (by rw [List.length_drop]; have : 0 < (wrd l (j : Int)).length := hne; omega)).1 hs'
          refine ⟨?_, ?_, ?_⟩
          · intro x hx
            rcases List.mem_cons.1 hx with rfl | hx
            · exact ⟨by omega, by show ((j : Int)) < (l.n : Int); omega⟩
            · exact hs.inn x hx
          · rw [wordsL_cons, hs.wo]; exact hp.symm
          · rw [lnk, hc.2, hs.ln]; rfl
        · cases hm
      · intro hs
        cases s with
        | nil => exact absurd hs.wo.symm (by simpa [wordsL] using hr)
        | cons x s' =>
          have hx := hs.inn x (by simp)
          have hw := hs.wo
          rw [wordsL_cons] at hw
          have hl := hs.ln
          rw [lnk, Bool.and_eq_true] at hl
          obtain ⟨j, rfl⟩ : ∃ j : Nat, x = j := ⟨x.toNat, by have := hx.1; omega⟩
          have hj : j < l.n := by have : ((j : Int)) < (l.n : Int) := hx.2; omega
          refine ⟨j, hj, ?_⟩
          have hp : (wrd l j).isPrefixOf r = true := prefix_drop.2 (by rw [← hw]; simp)
          have hne : 0 < (wrd l (j : Int)).length := h j hj
          rw [hp, hl.1]
          refine List.mem_map.2 ⟨s', (splF_mem h f _ _ s' (by rw [List.length_drop]; omega)).2 ⟨fun y hy => hs.inn y (by simp [hy]), by rw [← hw]; simp, hl.2⟩, rfl⟩
theorem nodup_flatMap_heads {α : Type} {n : Nat} {g : Nat → List (List α)} {e : Nat → α} (he : ∀ i j, i < n → j < n → e i = e j → i = j) (h1 : ∀ j, j < n → (g j).Nodup) (h2 : ∀ j s, j < n → s ∈ g j → s.head? = some (e j)) : ((List.range n).flatMap g).Nodup := by
  induction n with
  | zero => simp
  | succ n ih =>
    rw [List.range_succ, List.flatMap_append, List.nodup_append]
    refine ⟨ih (fun i j hi hj => he i j (by omega) (by omega)) (fun j hj => h1 j (by omega)) (fun j s hj => h2 j s (by omega)), by simpa using h1 n (by omega), ?_⟩
    intro a ha b hb heq
    subst heq
    obtain ⟨j, hj, ha⟩ := List.mem_flatMap.1 ha
    rw [List.mem_range] at hj
    have hb : a ∈ g n := by simpa using hb
    have e1 := h2 j a (by omega) ha
    have e2 := h2 n a (by omega) hb
    rw [e1] at e2
    injection e2 with e2
    have := he j n (by omega) (by omega) e2
    omega
theorem splF_nodup (l : Lex) : ∀ (f : Nat) (r : List Int) (b : Int), (splF l f r b).Nodup
  | 0, r, b => by unfold splF; split <;> simp
  | f + 1, r, b => by
    unfold splF
    split
    · simp
    · refine nodup_flatMap_heads (e := fun j => (j : Int)) (fun i j _ _ h => by exact_mod_cast h) (fun j _ => ?_) (fun j s _ hs => ?_)
      · split
        · exact List.Pairwise.map _ (fun a b hab => by simpa using hab) (splF_nodup l f _ _)
        · simp
      · split at hs
        · obtain ⟨s', _, rfl⟩ := List.mem_map.1 hs; rfl
        · cases hs
theorem len_flatMap_le {α : Type} {n B : Nat} {g : Nat → List α} (h : ∀ j, j < n → (g j).length ≤ B) : ((List.range n).flatMap g).length ≤ n * B := by
  induction n with
  | zero => simp
  | succ n ih =>
    rw [List.range_succ, List.flatMap_append, List.length_append, Nat.succ_mul]
    have := ih (fun j hj => h j (by omega))
    have := h n (by omega)
    rw [List.flatMap_singleton]
    omega
theorem splF_len {l : Lex} (hn : l.n ≤ 8) : ∀ (f : Nat) (r : List Int) (b : Int), (splF l f r b).length ≤ 8 ^ f
  | 0, r, b => by unfold splF; split <;> simp
  | f + 1, r, b => by
    unfold splF
    split
    · exact Nat.one_le_pow _ _ (by omega)
    · refine Nat.le_trans (len_flatMap_le (B := 8 ^ f) (fun j _ => ?_)) ?_
      · split
        · rw [List.length_map]; exact splF_len hn f _ _
        · simp
      · rw [Nat.pow_succ, Nat.mul_comm]; exact Nat.mul_le_mul_left _ hn

/-! ## from the right: the last item known -/
def costP (l : Lex) (s : List Int) : Nat → Int
  | 0 => 0
  | k + 1 => costP l s k + cst l (s[k]?.getD 0) + (if 0 < k then fol l (s[k - 1]?.getD 0) (s[k]?.getD 0) else 0)
def costL (l : Lex) (s : List Int) : Int := costP l s s.length
theorem costP_app (l : Lex) (s r : List Int) : ∀ k, k ≤ s.length → costP l (s ++ r) k = costP l s k
  | 0, _ => rfl
  | k + 1, hk => by
    rw [costP, costP, costP_app l s r k (by omega), List.getElem?_append_left (by omega), List.getElem?_append_left (by omega)]
theorem costL_snoc (l : Lex) (s : List Int) (x : Int) : costL l (s ++ [x]) = costL l s + cst l x + (if 0 < s.length then fol l (s[s.length - 1]?.getD 0) x else 0) := by
  unfold costL
  rw [List.length_append, List.length_singleton, costP, costP_app l s [x] _ (Nat.le_refl _)]
  congr 1
  · simp
  · split
    · rw [List.getElem?_append_left (by omega)]; simp
    · rfl
def lastI (s : List Int) : Int := s[s.length - 1]?.getD 0
theorem lastI_snoc (s : List Int) (x : Int) : lastI (s ++ [x]) = x := by simp [lastI]
theorem lnk_snoc (l : Lex) : ∀ (b : Int) (s : List Int) (x : Int), lnk l b (s ++ [x]) = (lnk l b s && (decide ((if s = [] then b else lastI s) < 0) || decide (0 ≤ fol l (if s = [] then b else lastI s) x)))
  | b, [], x => by simp [lnk]
  | b, y :: s, x => by
    rw [List.cons_append, lnk, lnk_snoc l y s x, lnk, Bool.and_assoc]
    congr 3 <;> · cases s <;> simp [lastI]
/-- splits of the first i sounds, the last item j -/
def fwdF (l : Lex) (t : List Int) : Nat → Nat → Nat → List (List Int)
  | 0, _, _ => []
  | f + 1, i, j => if (wrd l j).isSuffixOf (t.take i) then (if i = (wrd l j).length then [[(j : Int)]] else (List.range l.n).flatMap fun (k : Nat) => if decide (0 ≤ fol l k j) then (fwdF l t f (i - (wrd l j).length) k).map (· ++ [(j : Int)]) else []) else []
theorem suffix_take {a t : List Int} {i : Nat} (hi : i ≤ t.length) : a.isSuffixOf (t.take i) = true ↔ a.length ≤ i ∧ t.take i = t.take (i - a.length) ++ a := by
  rw [List.isSuffixOf_iff_suffix, List.suffix_iff_eq_append]
  have hl : (t.take i).length = i := by simp; omega
  rw [hl, List.take_take]
  constructor
  · intro h
    have h2 := congrArg List.length h
    simp at h2
    have : min (i - a.length) i = i - a.length := by omega
    rw [this] at h
    exact ⟨by omega, h.symm⟩
  · rintro ⟨h1, h2⟩
    have : min (i - a.length) i = i - a.length := by omega
    rw [this]; exact h2.symm
/-- a split of the first i sounds that ends with j -/
def Ends (l : Lex) (t : List Int) (i : Nat) (j : Nat) (s : List Int) : Prop := ∃ s', s = s' ++ [(j : Int)] ∧ IsSp l (-1) (t.take i) s
theorem fwdF_mem {l : Lex} (h : NoE l) (t : List Int) : ∀ (f i j : Nat) (s : List Int), i ≤ f → i ≤ t.length → j < l.n → (s ∈ fwdF l t f i j ↔ Ends l t i j s)
  | 0, i, j, s, hf, hi, hj => by
    obtain rfl : i = 0 := by omega
    constructor
    · intro h; simp [fwdF] at h
    · rintro ⟨s', rfl, hs⟩
      have := words_nil h hs.inn (by rw [hs.wo]; simp)
      simp at this
  | f + 1, i, j, s, hf, hi, hj => by
    have hne : 0 < (wrd l (j : Int)).length := h j hj
    have hjn : inN l (j : Int) := ⟨by omega, by show ((j : Int)) < (l.n : Int); omega⟩
    unfold fwdF
    by_cases hsuf : (wrd l (j : Int)).isSuffixOf (t.take i) = true
    · rw [if_pos hsuf]
      obtain ⟨hle, hsp⟩ := (suffix_take hi).1 hsuf
      by_cases hil : i = (wrd l (j : Int)).length
      · rw [if_pos hil, List.mem_singleton]
        rw [hil, Nat.sub_self, List.take_zero, List.nil_append] at hsp
        constructor
        · rintro rfl
          refine ⟨[], rfl, ?_, ?_, by simp [lnk]⟩
          · intro x hx; rw [List.mem_singleton] at hx; subst hx; exact hjn
          · rw [hil, hsp]; simp [wordsL]
        · rintro ⟨s', rfl, hs⟩
          have hw := hs.wo
          rw [wordsL_app, hil, hsp] at hw
          have : wordsL l s' = [] := by
            have hw1 : wordsL l [(j : Int)] = wrd l j := by simp [wordsL]
            rw [hw1] at hw
            have hlen := congrArg List.length hw
            rw [List.length_append] at hlen
            exact List.eq_nil_of_length_eq_zero (by omega)
          have := words_nil h (fun x hx => hs.inn x (by simp [hx])) this
          subst this; rfl
      · rw [if_neg hil, List.mem_flatMap]
        constructor
        · rintro ⟨k, hk, hm⟩
          rw [List.mem_range] at hk
          split at hm
          · rename_i hc
            obtain ⟨s', hs', rfl⟩ := List.mem_map.1 hm
            obtain ⟨s2, rfl, hs2⟩ := (fwdF_mem h t f _ k s' (by omega) (by omega) hk).1 hs'
            refine ⟨_, rfl, ?_, ?_, ?_⟩
            · intro x hx
              rcases List.mem_append.1 hx with hx | hx
              · exact hs2.inn x hx
              · rw [List.mem_singleton] at hx; subst hx; exact hjn
            · rw [wordsL_app, hs2.wo, hsp]; simp [wordsL]
            · rw [lnk_snoc, hs2.ln, Bool.true_and, if_neg (by simp), lastI_snoc]
              simp at hc; simp [hc]
          · cases hm
        · rintro ⟨s', rfl, hs⟩
          have hw := hs.wo
          have hln := hs.ln
          rw [wordsL_app, hsp] at hw
          have hw1 : wordsL l [(j : Int)] = wrd l j := by simp [wordsL]
          rw [hw1] at hw
          have hw2 := List.append_cancel_right hw
          have hs'ne : s' ≠ [] := by
            rintro rfl
            have := congrArg List.length hw2
            simp [wordsL] at this; omega
          obtain ⟨s2, x, rfl⟩ : ∃ s2 x, s' = s2 ++ [x] := ⟨s'.dropLast, s'.getLast hs'ne, (List.dropLast_concat_getLast hs'ne).symm⟩
          have hx := hs.inn x (by simp)
          obtain ⟨k, rfl⟩ : ∃ k : Nat, x = k := ⟨x.toNat, by have := hx.1; omega⟩
          have hk : k < l.n := by have : ((k : Int)) < (l.n : Int) := hx.2; omega
          rw [lnk_snoc, if_neg (by simp), lastI_snoc, Bool.and_eq_true] at hln
          refine ⟨k, by simpa using hk, ?_⟩
          have hc : decide (0 ≤ fol l k j) = true := by
            have h2 := hln.2
            rw [Bool.or_eq_true, decide_eq_true_eq] at h2
            rcases h2 with h2 | h2
            · omega
            · exact h2
          rw [if_pos hc]
          refine List.mem_map.2 ⟨_, (fwdF_mem h t f _ k _ (by omega) (by omega) hk).2 ⟨s2, rfl, ?_, hw2, hln.1⟩, rfl⟩
          intro y hy
          exact hs.inn y (by simp at hy ⊢; rcases hy with hy | hy <;> simp [hy])
    · rw [if_neg hsuf]
      constructor
      · intro h; cases h
      · rintro ⟨s', rfl, hs⟩
        have hw := hs.wo
        rw [wordsL_app] at hw
        have hw1 : wordsL l [(j : Int)] = wrd l j := by simp [wordsL]
        rw [hw1] at hw
        exact absurd (by rw [List.isSuffixOf_iff_suffix]; exact ⟨_, hw⟩) hsuf
theorem nodup_flatMap_by {α β : Type} {n : Nat} {g : Nat → List α} {e : Nat → β} {key : α → β} (he : ∀ i j, i < n → j < n → e i = e j → i = j) (h1 : ∀ j, j < n → (g j).Nodup) (h2 : ∀ j s, j < n → s ∈ g j → key s = e j) : ((List.range n).flatMap g).Nodup := by
  induction n with
  | zero => simp
  | succ n ih =>
    rw [List.range_succ, List.flatMap_append, List.nodup_append]
    refine ⟨ih (fun i j hi hj => he i j (by omega) (by omega)) (fun j hj => h1 j (by omega)) (fun j s hj => h2 j s (by omega)), by simpa using h1 n (by omega), ?_⟩
    intro a ha b hb heq
    subst heq
    obtain ⟨j, hj, ha⟩ := List.mem_flatMap.1 ha
    rw [List.mem_range] at hj
    have hb : a ∈ g n := by simpa using hb
    have e1 := h2 j a (by omega) ha
    have e2 := h2 n a (by omega) hb
    have := he j n (by omega) (by omega) (e1.symm.trans e2)
    omega
theorem fwdF_nodup {l : Lex} (h : NoE l) (t : List Int) : ∀ (f i j : Nat), i ≤ f → i ≤ t.length → j < l.n → (fwdF l t f i j).Nodup
  | 0, i, j, _, _, _ => by simp [fwdF]
  | f + 1, i, j, hf, hi, hj => by
    have hne : 0 < (wrd l (j : Int)).length := h j hj
    unfold fwdF
    split
    · split
      · simp
      · refine nodup_flatMap_by (e := fun k => (k : Int)) (key := fun s => lastI (s.dropLast)) (fun i j _ _ h => by exact_mod_cast h) (fun k hk => ?_) (fun k s hk hs => ?_)
        · split
          · exact List.Pairwise.map _ (fun a b hab => by simpa using hab) (fwdF_nodup h t f _ _ (by omega) (by omega) hk)
          · simp
        · split at hs
          · obtain ⟨s', hs', rfl⟩ := List.mem_map.1 hs
            obtain ⟨s2, rfl, _⟩ := (fwdF_mem h t f _ k s' (by omega) (by omega) hk).1 hs'
            show lastI ((s2 ++ [(k : Int)] ++ [(j : Int)]).dropLast) = _
            rw [List.dropLast_concat, lastI_snoc]
          · cases hs
    · simp
/-- all splits that end with some item -/
def fwdAll (l : Lex) (t : List Int) : List (List Int) := (List.range l.n).flatMap fun j => fwdF l t t.length t.length j
theorem fwdAll_mem {l : Lex} (h : NoE l) {t : List Int} (ht : t ≠ []) (s : List Int) : s ∈ fwdAll l t ↔ IsSp l (-1) t s := by
  unfold fwdAll
  rw [List.mem_flatMap]
  constructor
  · rintro ⟨j, hj, hs⟩
    obtain ⟨_, _, h2⟩ := (fwdF_mem h t _ _ j s (Nat.le_refl _) (Nat.le_refl _) (by simpa using hj)).1 hs
    rwa [List.take_length] at h2
  · intro hs
    have hne : s ≠ [] := by rintro rfl; exact ht hs.wo.symm
    obtain ⟨s2, x, rfl⟩ : ∃ s2 x, s = s2 ++ [x] := ⟨s.dropLast, s.getLast hne, (List.dropLast_concat_getLast hne).symm⟩
    have hx := hs.inn x (by simp)
    obtain ⟨k, rfl⟩ : ∃ k : Nat, x = k := ⟨x.toNat, by have := hx.1; omega⟩
    have hk : k < l.n := by have : ((k : Int)) < (l.n : Int) := hx.2; omega
    exact ⟨k, by simpa using hk, (fwdF_mem h t _ _ k _ (Nat.le_refl _) (Nat.le_refl _) hk).2 ⟨s2, rfl, by rw [List.take_length]; exact hs⟩⟩
theorem fwdAll_nodup {l : Lex} (h : NoE l) (t : List Int) : (fwdAll l t).Nodup := by
  refine nodup_flatMap_by (e := fun k => (k : Int)) (key := lastI) (fun i j _ _ h => by exact_mod_cast h) (fun k hk => fwdF_nodup h t _ _ _ (Nat.le_refl _) (Nat.le_refl _) hk) (fun k s hk hs => ?_)
  obtain ⟨s2, rfl, _⟩ := (fwdF_mem h t _ _ k s (Nat.le_refl _) (Nat.le_refl _) hk).1 hs
  exact lastI_snoc _ _
theorem length_le_of_subset {α : Type} [DecidableEq α] : ∀ {a b : List α}, a.Nodup → (∀ x ∈ a, x ∈ b) → a.length ≤ b.length
  | [], b, _, _ => by simp
  | x :: a, b, hn, hs => by
    rw [List.nodup_cons] at hn
    have hx := hs x (by simp)
    have := length_le_of_subset (a := a) (b := b.erase x) hn.2 (fun y hy => by
      have hne : y ≠ x := fun e => hn.1 (e ▸ hy)
      exact (List.mem_erase_of_ne hne).2 (hs y (by simp [hy])))
    have hb := List.length_erase_of_mem hx
    have := List.length_pos_of_mem hx
    simp; omega
theorem length_eq_of_same {α : Type} [DecidableEq α] {a b : List α} (ha : a.Nodup) (hb : b.Nodup) (h : ∀ x, x ∈ a ↔ x ∈ b) : a.length = b.length :=
  Nat.le_antisymm (length_le_of_subset ha fun x hx => (h x).1 hx) (length_le_of_subset hb fun x hx => (h x).2 hx)
/-- all splits of a text -/
def splits (l : Lex) (t : List Int) : List (List Int) := splF l t.length t (-1)
theorem splits_mem {l : Lex} (h : NoE l) {t s : List Int} : s ∈ splits l t ↔ IsSp l (-1) t s := splF_mem h _ _ _ _ (Nat.le_refl _)
theorem splits_fwd {l : Lex} (h : NoE l) {t : List Int} (ht : t ≠ []) : (splits l t).length = (fwdAll l t).length :=
  length_eq_of_same (splF_nodup _ _ _ _) (fwdAll_nodup h t) fun s => by rw [splits_mem h, fwdAll_mem h ht]

/-! ## the table of costs, as the program makes it -/
def big : Int := 100000
def stepMin (l : Lex) (j : Nat) (row : List Int) : Nat → Int
  | 0 => big
  | k + 1 => if 0 ≤ fol l k j ∧ row[k]?.getD 0 < big then min (stepMin l j row k) (row[k]?.getD 0 + fol l k j + cst l j) else stepMin l j row k
def endsAt (l : Lex) (t : List Int) (i j : Nat) : Bool := (wrd l j).isSuffixOf (t.take i)
def tabAt (l : Lex) (t : List Int) (rows : List (List Int)) (i j : Nat) : Int :=
  if endsAt l t i j then (if i = (wrd l j).length then cst l j else stepMin l j (rows[i - (wrd l j).length]?.getD []) l.n) else big
def tabRow (l : Lex) (t : List Int) (rows : List (List Int)) (i : Nat) : List Int := (List.range l.n).map (tabAt l t rows i)
def tabT (l : Lex) (t : List Int) : Nat → List (List Int)
  | 0 => []
  | i + 1 => tabT l t i ++ [tabRow l t (tabT l t i) i]
theorem tabT_len (l : Lex) (t : List Int) : ∀ i, (tabT l t i).length = i
  | 0 => rfl
  | i + 1 => by rw [tabT, List.length_append, tabT_len l t i]; rfl
theorem tabT_at (l : Lex) (t : List Int) {i : Nat} : ∀ {n}, i < n → (tabT l t n)[i]?.getD [] = tabRow l t (tabT l t i) i
  | n + 1, h => by
    rw [tabT]
    by_cases e : i < n
    · rw [List.getElem?_append_left (by rw [tabT_len]; exact e)]; exact tabT_at l t e
    · obtain rfl : i = n := by omega
      rw [List.getElem?_append_right (by rw [tabT_len]; exact Nat.le_refl _), tabT_len]; simp
/-- the least of a list of costs, big if there is none -/
def leastB (c : List Int) : Int := c.foldl min big
theorem foldl_min_le (c : List Int) : ∀ b : Int, c.foldl min b ≤ b ∧ (∀ x ∈ c, c.foldl min b ≤ x) ∧ (c.foldl min b = b ∨ c.foldl min b ∈ c) := by
  induction c with
  | nil => intro b; simp
  | cons y c ih =>
    intro b
    obtain ⟨h1, h2, h3⟩ := ih (min b y)
    rw [List.foldl_cons]
    refine ⟨by omega, ?_, ?_⟩
    · intro x hx
      rcases List.mem_cons.1 hx with rfl | hx
      · omega
      · exact h2 x hx
    · rcases h3 with h3 | h3
      · by_cases hby : b ≤ y
        · left; omega
        · right; rw [h3]; simp; omega
      · right; simp [h3]
/-- x is the least of the costs of the lists, big if there is none -/
def IsLeast (l : Lex) (S : List Int → Prop) (x : Int) : Prop := (x = big ∧ ∀ s, ¬ S s) ∨ (x < big ∧ (∃ s, S s ∧ costL l s = x) ∧ ∀ s, S s → x ≤ costL l s)
structure LexOk (l : Lex) : Prop where
  n1 : 1 ≤ l.n
  n8 : l.n ≤ 8
  wo : ∀ j, j < l.n → 1 ≤ (itm l.i j).w.length ∧ (itm l.i j).w.length ≤ 6
  so : ∀ j, j < l.n → ∀ x ∈ (itm l.i j).w, 0 ≤ x ∧ x ≤ 5
  ki : ∀ j, j < l.n → 0 ≤ (itm l.i j).k ∧ (itm l.i j).k ≤ 3
  co : ∀ j, j < l.n → 0 ≤ (itm l.i j).c ∧ (itm l.i j).c ≤ 99
  f4 : l.f.length = 4
  ff : ∀ a, a < 4 → (l.f[a]?.getD []).length = 4 ∧ ∀ b, b < 4 → -1 ≤ (l.f[a]?.getD [])[b]?.getD 0 ∧ (l.f[a]?.getD [])[b]?.getD 0 ≤ 99
theorem LexOk.noE {l : Lex} (h : LexOk l) : NoE l := fun j hj => by have := h.wo j hj; omega
theorem LexOk.fol {l : Lex} (h : LexOk l) {a b : Nat} (ha : a < l.n) (hb : b < l.n) : -1 ≤ fol l a b ∧ fol l a b ≤ 99 := by
  have h1 := h.ki a ha
  have h2 := h.ki b hb
  exact (h.ff (itm l.i a).k.toNat (by omega)).2 (itm l.i b).k.toNat (by omega)
theorem LexOk.cst {l : Lex} (h : LexOk l) {a : Nat} (ha : a < l.n) : 0 ≤ cst l a ∧ cst l a ≤ 99 := h.co a ha
theorem words_len {l : Lex} (h : NoE l) : ∀ {s : List Int}, (∀ x ∈ s, inN l x) → s.length ≤ (wordsL l s).length
  | [], _ => by simp
  | x :: s, hs => by
    have := h.at (hs x (by simp))
    have := words_len h (s := s) (fun y hy => hs y (by simp [hy]))
    rw [wordsL_cons]; simp; omega
theorem IsSp.len {l : Lex} (h : NoE l) {b : Int} {t s : List Int} (hs : IsSp l b t s) : s.length ≤ t.length := by
  have := words_len h hs.inn; rwa [hs.wo] at this
/-- costs are not negative, and small -/
theorem cost_bd {l : Lex} (h : LexOk l) {s : List Int} (hs : ∀ x ∈ s, inN l x) : ∀ k, k ≤ s.length → -(k : Int) ≤ costP l s k ∧ costP l s k ≤ 198 * k
  | 0, _ => by simp [costP]
  | k + 1, hk => by
    have ih := cost_bd h hs k (by omega)
    have hx : inN l (s[k]?.getD 0) := hs _ (by rw [List.getElem?_eq_getElem (by omega)]; exact List.getElem_mem _)
    obtain ⟨x, e⟩ : ∃ x : Nat, s[k]?.getD 0 = x := ⟨(s[k]?.getD 0).toNat, by have := hx.1; omega⟩
    have hxl : x < l.n := by have := hx.2; rw [e] at this; have : ((x : Int)) < (l.n : Int) := this; omega
    have h1 := h.cst hxl
    rw [costP, e]
    split
    · have hy : inN l (s[k - 1]?.getD 0) := hs _ (by rw [List.getElem?_eq_getElem (by omega)]; exact List.getElem_mem _)
      obtain ⟨y, e2⟩ : ∃ y : Nat, s[k - 1]?.getD 0 = y := ⟨(s[k - 1]?.getD 0).toNat, by have := hy.1; omega⟩
      have hyl : y < l.n := by have := hy.2; rw [e2] at this; have : ((y : Int)) < (l.n : Int) := this; omega
      have h2 := h.fol hyl hxl
      rw [e2]; push_cast; omega
    · push_cast; omega
theorem lnk_at {l : Lex} : ∀ {b : Int} {s : List Int}, (∀ x ∈ s, 0 ≤ x) → lnk l b s = true → ∀ k, k + 1 < s.length → 0 ≤ fol l (s[k]?.getD 0) (s[k + 1]?.getD 0)
  | b, [], _, _, k, hk => by simp at hk
  | b, x :: s, hs, h, k, hk => by
    rw [lnk, Bool.and_eq_true] at h
    cases k with
    | zero =>
      cases s with
      | nil => simp at hk
      | cons y s =>
        have h2 := h.2
        rw [lnk, Bool.and_eq_true, Bool.or_eq_true, decide_eq_true_eq, decide_eq_true_eq] at h2
        have := hs x (by simp)
        simp
        rcases h2.1 with h3 | h3
        · omega
        · exact h3
    | succ k =>
      have := lnk_at (fun y hy => hs y (by simp [hy])) h.2 k (by simpa using hk)
      simpa using this
theorem cost_pos {l : Lex} (h : LexOk l) {b : Int} {s : List Int} (hs : ∀ x ∈ s, inN l x) (hl : lnk l b s = true) : ∀ k, k ≤ s.length → 0 ≤ costP l s k
  | 0, _ => by simp [costP]
  | k + 1, hk => by
    have ih := cost_pos h hs hl k (by omega)
    have hx : inN l (s[k]?.getD 0) := hs _ (by rw [List.getElem?_eq_getElem (by omega)]; exact List.getElem_mem _)
    obtain ⟨x, e⟩ : ∃ x : Nat, s[k]?.getD 0 = x := ⟨(s[k]?.getD 0).toNat, by have := hx.1; omega⟩
    have hxl : x < l.n := by have := hx.2; rw [e] at this; have : ((x : Int)) < (l.n : Int) := this; omega
    have h1 := h.cst hxl
    rw [costP]
    split
    · rename_i h0
      have := lnk_at (fun x hx => (hs x hx).1) hl (k - 1) (by omega)
      rw [show k - 1 + 1 = k by omega] at this
      rw [e] at this ⊢
      omega
    · rw [e]; omega
theorem stepMin_least {l : Lex} (h : LexOk l) {t : List Int} {i j : Nat} {row : List Int} (hj : j < l.n) (hi : i ≤ t.length) (ht : t.length ≤ 12) (hpos : 0 < i)
    (hrow : ∀ k, k < l.n → IsLeast l (Ends l t i k) (row[k]?.getD 0)) : ∀ n, n ≤ l.n → IsLeast l (fun s => ∃ s' k, k < n ∧ s = s' ++ [(j : Int)] ∧ Ends l t i k s' ∧ 0 ≤ fol l k j) (stepMin l j row n)
  | 0, _ => .inl ⟨rfl, fun s ⟨_, k, hk, _⟩ => by omega⟩
  | n + 1, hn => by
    have ih := stepMin_least h hj hi ht hpos hrow n (by omega)
    have hr := hrow n (by omega)
    have hf := h.fol (a := n) (b := j) (by omega) hj
    have hc := h.cst hj
    rw [stepMin]
    have hcost : ∀ s', Ends l t i n s' → costL l (s' ++ [(j : Int)]) = costL l s' + fol l n j + cst l j := by
      rintro s' ⟨s2, rfl, _⟩
      rw [costL_snoc, if_pos (by simp)]
      have := lastI_snoc s2 (n : Int)
      unfold lastI at this
      rw [this]; omega
    by_cases hcond : 0 ≤ fol l n j ∧ row[n]?.getD 0 < big
    · rw [if_pos hcond]
      rcases hr with ⟨hr, _⟩ | ⟨hr, ⟨s0, hs0, e0⟩, hmin⟩
      · exact absurd hcond.2 (by rw [hr]; omega)
      · have hb : row[n]?.getD 0 + fol l n j + cst l j < big := by
          have hb := cost_bd h hs0.choose_spec.2.inn s0.length (Nat.le_refl _)
          have hlen := hs0.choose_spec.2.len h.noE
          rw [List.length_take] at hlen
          have : costL l s0 = costP l s0 s0.length := rfl
          have hs12 : s0.length ≤ 12 := by omega
          unfold big
          omega
        have hval := hcost s0 hs0
        rcases ih with ⟨e1, hno⟩ | ⟨e1, ⟨s1, hs1, e2⟩, hmin1⟩
        · refine .inr ⟨by omega, ⟨s0 ++ [(j : Int)], ⟨s0, n, by omega, rfl, hs0, hcond.1⟩, by rw [hval, e0]; omega⟩, ?_⟩
          rintro s ⟨s', k, hk, rfl, he, hfk⟩
          by_cases hkn : k = n
          · subst hkn
            rw [hcost s' he]
            have := hmin s' he
            omega
          · exact absurd ⟨s', k, by omega, rfl, he, hfk⟩ (hno _)
        · refine .inr ⟨by omega, ?_, ?_⟩
          · by_cases hle : stepMin l j row n ≤ row[n]?.getD 0 + fol l n j + cst l j
            · obtain ⟨s', k, hk, hh⟩ := hs1
              exact ⟨s1, ⟨s', k, by omega, hh⟩, by omega⟩
            · exact ⟨s0 ++ [(j : Int)], ⟨s0, n, by omega, rfl, hs0, hcond.1⟩, by rw [hval, e0]; omega⟩
          · rintro s ⟨s', k, hk, rfl, he, hfk⟩
            by_cases hkn : k = n
            · subst hkn
              rw [hcost s' he]
              have := hmin s' he
              omega
            · have := hmin1 _ ⟨s', k, by omega, rfl, he, hfk⟩
              omega
    · rw [if_neg hcond]
      have hno : ∀ s', 0 ≤ fol l n j → ¬ Ends l t i n s' := by
        intro s' hf' he
        rcases hr with ⟨_, hr⟩ | ⟨hr, _⟩
        · exact hr s' he
        · exact hcond ⟨hf', hr⟩
      rcases ih with ⟨e1, hn1⟩ | ⟨e1, ⟨s1, ⟨s', k, hk, hh⟩, e2⟩, hmin1⟩
      · refine .inl ⟨e1, ?_⟩
        rintro s ⟨s', k, hk, rfl, he, hfk⟩
        by_cases hkn : k = n
        · subst hkn; exact hno s' hfk he
        · exact hn1 _ ⟨s', k, by omega, rfl, he, hfk⟩
      · refine .inr ⟨e1, ⟨s1, ⟨s', k, by omega, hh⟩, e2⟩, ?_⟩
        rintro s ⟨s', k, hk, rfl, he, hfk⟩
        by_cases hkn : k = n
        · subst hkn; exact absurd he (hno s' hfk)
        · exact hmin1 _ ⟨s', k, by omega, rfl, he, hfk⟩
/-- how a split that ends with j goes on from the place where j begins -/
theorem ends_step {l : Lex} (h : NoE l) {t : List Int} {i j : Nat} (hj : j < l.n) (hi : i ≤ t.length) (s : List Int) :
    Ends l t i j s ↔ endsAt l t i j = true ∧ ((i = (wrd l j).length ∧ s = [(j : Int)]) ∨ (i ≠ (wrd l j).length ∧ ∃ s' k, k < l.n ∧ s = s' ++ [(j : Int)] ∧ Ends l t (i - (wrd l j).length) k s' ∧ 0 ≤ fol l k j)) := by
  rw [← fwdF_mem h t (i + 1) i j s (by omega) hi hj]
  have hne : 0 < (wrd l (j : Int)).length := h j hj
  unfold fwdF endsAt
  by_cases hs : (wrd l (j : Int)).isSuffixOf (t.take i) = true
  · rw [if_pos hs]
    by_cases hil : i = (wrd l (j : Int)).length
    · rw [if_pos hil, List.mem_singleton]
      simp [hs, ← hil]
    · rw [if_neg hil, List.mem_flatMap]
      constructor
      · rintro ⟨k, hk, hm⟩
        rw [List.mem_range] at hk
        split at hm
        · rename_i hc
          obtain ⟨s', hs', rfl⟩ := List.mem_map.1 hm
          exact ⟨hs, .inr ⟨hil, s', k, hk, rfl, (fwdF_mem h t i _ k s' (by omega) (by omega) hk).1 hs', by simpa using hc⟩⟩
        · cases hm
      · rintro ⟨_, ⟨h1, _⟩ | ⟨_, s', k, hk, rfl, he, hf⟩⟩
        · exact absurd h1 hil
        · refine ⟨k, by simpa using hk, ?_⟩
          rw [if_pos (by simpa using hf)]
          exact List.mem_map.2 ⟨s', (fwdF_mem h t i _ k s' (by omega) (by omega) hk).2 he, rfl⟩
  · rw [if_neg hs]
    constructor
    · intro h; cases h
    · rintro ⟨h1, _⟩; exact absurd h1 hs
theorem endsAt_le {l : Lex} {t : List Int} {i j : Nat} (hi : i ≤ t.length) (h : endsAt l t i j = true) : (wrd l j).length ≤ i := ((suffix_take hi).1 h).1
theorem tab_least {l : Lex} (h : LexOk l) {t : List Int} (ht : t.length ≤ 12) : ∀ (i : Nat), i ≤ t.length → ∀ j, j < l.n → IsLeast l (Ends l t i j) (tabAt l t (tabT l t i) i j) := by
  intro i
  induction i using Nat.strongRecOn with
  | ind i ih =>
    intro hi j hj
    have hne : 0 < (wrd l (j : Int)).length := h.noE j hj
    unfold tabAt
    by_cases he : endsAt l t i j = true
    · rw [if_pos he]
      have hle := endsAt_le hi he
      by_cases hil : i = (wrd l (j : Int)).length
      · rw [if_pos hil]
        have hc := h.cst hj
        have hcc : costL l [(j : Int)] = cst l j := by simp [costL, costP]
        refine .inr ⟨by unfold big; omega, ⟨[(j : Int)], (ends_step h.noE hj hi _).2 ⟨he, .inl ⟨hil, rfl⟩⟩, hcc⟩, ?_⟩
        intro s hs
        rcases ((ends_step h.noE hj hi s).1 hs).2 with ⟨_, rfl⟩ | ⟨hn, _⟩
        · rw [hcc]; exact Int.le_refl _
        · exact absurd hil hn
      · rw [if_neg hil]
        have hS : ∀ s, Ends l t i j s ↔ (∃ s' k, k < l.n ∧ s = s' ++ [(j : Int)] ∧ Ends l t (i - (wrd l j).length) k s' ∧ 0 ≤ fol l k j) := by
          intro s
          rw [ends_step h.noE hj hi s]
          constructor
          · rintro ⟨_, ⟨h1, _⟩ | ⟨_, h2⟩⟩
            · exact absurd h1 hil
            · exact h2
          · intro h2; exact ⟨he, .inr ⟨hil, h2⟩⟩
        have := stepMin_least h (t := t) (i := i - (wrd l (j : Int)).length) (row := (tabT l t i)[i - (wrd l (j : Int)).length]?.getD []) hj (by omega) ht (by omega) (fun k hk => by
          rw [tabT_at l t (by omega)]
          unfold tabRow
          rw [List.getElem?_map, List.getElem?_range hk]
          exact ih _ (by omega) (by omega) k hk) l.n (Nat.le_refl _)
        rcases this with ⟨e1, h1⟩ | ⟨e1, ⟨s, h2, e2⟩, h3⟩
        · exact .inl ⟨e1, fun s hs => h1 s ((hS s).1 hs)⟩
        · exact .inr ⟨e1, ⟨s, (hS s).2 h2, e2⟩, fun s hs => h3 s ((hS s).1 hs)⟩
    · rw [if_neg he]
      exact .inl ⟨rfl, fun s hs => he ((ends_step h.noE hj hi s).1 hs).1⟩
end Go.Proofs.Ytgpggmcjggpmpaa
