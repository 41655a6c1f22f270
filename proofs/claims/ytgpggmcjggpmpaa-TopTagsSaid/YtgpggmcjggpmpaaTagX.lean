/- Other lexicons: free, dearer, without an item: plain. -/
import Derived.Test.YtgpggmcjggpmpaaTagW
namespace Go.Proofs.Ytgpggmcjggpmpaa
set_option linter.unusedVariables false
/-! ## other lexicons -/
def freeX (l : Lex) : Lex := ⟨l.i, l.f.map fun r => r.map fun _ => 0⟩
def dearX (l : Lex) (j : Nat) (by_ : Int) : Lex := ⟨l.i.set j ⟨(itm l.i j).w, (itm l.i j).k, (itm l.i j).c + by_⟩, l.f⟩
def withoutX (l : Lex) (j : Nat) : Lex := ⟨l.i.eraseIdx j, l.f⟩
/-- the costs of following, the other way round -/
def turnF (f : List (List Int)) : List (List Int) := (List.range f.length).map fun i => (List.range (f[i]?.getD []).length).map fun k => (f[k]?.getD [])[i]?.getD 0
def backX (l : Lex) : Lex := ⟨l.i.map fun x => ⟨x.w.reverse, x.k, x.c⟩, turnF l.f⟩
theorem itm_lt {l : List Itm} {j : Nat} (h : j < l.length) : itm l j = l[j] := by simp [itm, h]
theorem itm_map {l : List Itm} {g : Itm → Itm} {j : Nat} (h : j < l.length) : itm (l.map g) j = g (itm l j) := by simp [itm, h]
/-! ### everything may follow -/
theorem free_ok {l : Lex} (h : LexOk l) : LexOk (freeX l) := by
  refine ⟨h.n1, h.n8, h.wo, h.so, h.ki, h.co, by simp [freeX, h.f4], fun a ha => ?_⟩
  have h1 := h.ff a ha
  have e : (freeX l).f[a]?.getD [] = ((l.f[a]?.getD []).map fun _ => (0 : Int)) := by
    have : a < l.f.length := by rw [h.f4]; exact ha
    simp [freeX, this]
  rw [e]
  refine ⟨by rw [List.length_map]; exact h1.1, fun b hb => ?_⟩
  have : b < (l.f[a]?.getD []).length := by rw [h1.1]; exact hb
  simp [this]
theorem free_fol {l : Lex} (h : LexOk l) {a b : Int} (ha : inN l a) (hb : inN l b) : fol (freeX l) a b = 0 := by
  obtain ⟨i, rfl⟩ : ∃ j : Nat, a = j := ⟨a.toNat, by have := ha.1; omega⟩
  obtain ⟨j, rfl⟩ : ∃ j : Nat, b = j := ⟨b.toNat, by have := hb.1; omega⟩
  have hi : i < l.n := by have : ((i : Int)) < (l.n : Int) := ha.2; omega
  have hj : j < l.n := by have : ((j : Int)) < (l.n : Int) := hb.2; omega
  have h1 := h.ki i hi
  have h2 := h.ki j hj
  unfold fol
  show ((l.f.map fun r => r.map fun _ => (0 : Int))[(itm l.i i).k.toNat]?.getD [])[(itm l.i j).k.toNat]?.getD 0 = 0
  have h3 : (itm l.i i).k.toNat < l.f.length := by rw [h.f4]; omega
  rw [List.getElem?_map, List.getElem?_eq_getElem h3]
  simp
  cases hx : (l.f[(itm l.i i).k.toNat])[(itm l.i j).k.toNat]? <;> simp
theorem free_lnk {l : Lex} (h : LexOk l) : ∀ {b : Int} {s : List Int}, (b < 0 ∨ inN l b) → allIn l s → lnk (freeX l) b s = true
  | b, [], _, _ => rfl
  | b, x :: s, hb, hs => by
    have hx := hs x (by simp)
    rw [lnk, free_lnk h (.inr hx) (fun y hy => hs y (by simp [hy]))]
    rcases hb with hb | hb
    · simp [hb]
    · rw [free_fol h hb hx]; simp
theorem free_isSp {l : Lex} (h : LexOk l) {t s : List Int} : IsSp (freeX l) (-1) t s ↔ allIn l s ∧ wordsL l s = t := by
  constructor
  · intro hs; exact ⟨hs.inn, hs.wo⟩
  · rintro ⟨h1, h2⟩; exact ⟨h1, h2, free_lnk h (.inl (by omega)) h1⟩
theorem words_cut {l : Lex} (h : NoE l) : ∀ {a b c d : List Int}, allIn l a → allIn l b → wordsL l a = wordsL l b → a ++ c = b ++ d → a = b
  | [], [], _, _, _, _, _, _ => rfl
  | [], y :: b, _, _, _, hb, hw, _ => absurd (words_nil h hb (by rw [← hw]; rfl)) (by simp)
  | x :: a, [], _, _, ha, _, hw, _ => absurd (words_nil h ha (by rw [hw]; rfl)) (by simp)
  | x :: a, y :: b, c, d, ha, hb, hw, he => by
    simp only [List.cons_append] at he
    injection he with h1 h2
    subst h1
    rw [wordsL_cons, wordsL_cons] at hw
    rw [words_cut h (fun z hz => ha z (by simp [hz])) (fun z hz => hb z (by simp [hz])) (List.append_cancel_left hw) h2]
theorem nodup_pairs {α : Type} [DecidableEq α] {A B : List (List α)} (hA : A.Nodup) (hB : B.Nodup) (hc : ∀ a ∈ A, ∀ a' ∈ A, ∀ c d, a ++ c = a' ++ d → a = a') : (A.flatMap fun a => B.map (a ++ ·)).Nodup ∧ (A.flatMap fun a => B.map (a ++ ·)).length = A.length * B.length := by
  induction A with
  | nil => simp
  | cons a A ih =>
    rw [List.nodup_cons] at hA
    obtain ⟨h1, h2⟩ := ih hA.2 (fun x hx y hy => hc x (by simp [hx]) y (by simp [hy]))
    constructor
    · rw [List.flatMap_cons, List.nodup_append]
      refine ⟨List.Pairwise.map _ (fun x y hxy => by simpa using hxy) hB, h1, ?_⟩
      intro x hx y hy hxy
      obtain ⟨b, _, rfl⟩ := List.mem_map.1 hx
      obtain ⟨a', ha', hy⟩ := List.mem_flatMap.1 hy
      obtain ⟨b', _, rfl⟩ := List.mem_map.1 hy
      have := hc a (by simp) a' (by simp [ha']) _ _ hxy
      subst this; exact hA.1 ha'
    · rw [List.flatMap_cons, List.length_append, h2, List.length_map, List.length_cons, Nat.succ_mul]; omega
theorem free_mul {l : Lex} (h : LexOk l) (u v : List Int) : cntR (freeX l) u (-1) * cntR (freeX l) v (-1) ≤ cntR (freeX l) (u ++ v) (-1) := by
  have hf := free_ok h
  have hmem : ∀ t s, s ∈ spl (freeX l) t (-1) ↔ allIn l s ∧ wordsL l s = t := fun t s => by
    show s ∈ splits (freeX l) t ↔ _
    rw [splits_mem hf.noE, free_isSp h]
  obtain ⟨h1, h2⟩ := nodup_pairs (A := spl (freeX l) u (-1)) (B := spl (freeX l) v (-1)) (splF_nodup _ _ _ _) (splF_nodup _ _ _ _) (fun a ha a' ha' c d e => by
    rw [hmem] at ha ha'
    exact words_cut h.noE ha.1 ha'.1 (by rw [ha.2, ha'.2]) e)
  have h3 := length_le_of_subset (b := spl (freeX l) (u ++ v) (-1)) h1 (fun s hs => by
    obtain ⟨a, ha, hs⟩ := List.mem_flatMap.1 hs
    obtain ⟨b, hb, rfl⟩ := List.mem_map.1 hs
    rw [hmem] at ha hb ⊢
    refine ⟨fun x hx => ?_, by rw [wordsL_app, ha.2, hb.2]⟩
    rcases List.mem_append.1 hx with hx | hx
    · exact ha.1 x hx
    · exact hb.1 x hx)
  rw [h2] at h3
  unfold cntR
  exact_mod_cast h3
/-! ### a dearer item -/
theorem dear_at {l : Lex} {j : Nat} (hj : j < l.n) {by_ : Int} (k : Nat) : itm (dearX l j by_).i k = if k = j then ⟨(itm l.i j).w, (itm l.i j).k, (itm l.i j).c + by_⟩ else itm l.i k := by
  unfold dearX itm
  by_cases hk : k = j
  · subst hk
    have : k < l.i.length := hj
    simp [this]
  · rw [if_neg hk, List.getElem?_set_ne (fun e => hk e.symm)]
theorem dear_wrd {l : Lex} {j : Nat} (hj : j < l.n) {by_ x : Int} : wrd (dearX l j by_) x = wrd l x := by
  unfold wrd; rw [dear_at hj]; split
  · rename_i e; rw [e]
  · rfl
theorem dear_kind {l : Lex} {j : Nat} (hj : j < l.n) {by_ : Int} (k : Nat) : (itm (dearX l j by_).i k).k = (itm l.i k).k := by
  rw [dear_at hj]; split
  · rename_i e; rw [e]
  · rfl
theorem dear_fol {l : Lex} {j : Nat} (hj : j < l.n) {by_ a b : Int} : fol (dearX l j by_) a b = fol l a b := by
  unfold fol; rw [dear_kind hj, dear_kind hj]; rfl
theorem dear_n {l : Lex} {j : Nat} {by_ : Int} : (dearX l j by_).n = l.n := by simp [Lex.n, dearX]
theorem dear_ok {l : Lex} (h : LexOk l) {j : Nat} (hj : j < l.n) {by_ : Int} (hb : 0 ≤ cst l j + by_ ∧ cst l j + by_ ≤ 99) : LexOk (dearX l j by_) := by
  have hw : ∀ k, (itm (dearX l j by_).i k).w = (itm l.i k).w := fun k => by
    rw [dear_at hj]; split
    · rename_i e; rw [e]
    · rfl
  refine ⟨by rw [dear_n]; exact h.n1, by rw [dear_n]; exact h.n8, fun k hk => ?_, fun k hk => ?_, fun k hk => ?_, fun k hk => ?_, h.f4, h.ff⟩
  · rw [dear_n] at hk; rw [hw]; exact h.wo k hk
  · rw [dear_n] at hk; rw [hw]; exact h.so k hk
  · rw [dear_n] at hk; rw [dear_kind hj]; exact h.ki k hk
  · rw [dear_n] at hk
    rw [dear_at hj]
    split
    · exact hb
    · exact h.co k hk
theorem dear_lnk {l : Lex} {j : Nat} (hj : j < l.n) {by_ : Int} : ∀ {b : Int} {s : List Int}, lnk (dearX l j by_) b s = lnk l b s
  | b, [] => rfl
  | b, x :: s => by rw [lnk, lnk, dear_fol hj, dear_lnk hj]
theorem dear_words {l : Lex} {j : Nat} (hj : j < l.n) {by_ : Int} : ∀ (s : List Int), wordsL (dearX l j by_) s = wordsL l s
  | [] => rfl
  | x :: s => by rw [wordsL_cons, wordsL_cons, dear_words hj s, dear_wrd hj]
theorem dear_isSp {l : Lex} {j : Nat} (hj : j < l.n) {by_ : Int} {t s : List Int} : IsSp (dearX l j by_) (-1) t s ↔ IsSp l (-1) t s := by
  constructor
  · intro h; exact ⟨fun x hx => by have := h.inn x hx; unfold inN at *; rwa [dear_n] at this, by rw [← dear_words hj]; exact h.wo, by rw [← dear_lnk hj]; exact h.ln⟩
  · intro h; exact ⟨fun x hx => by have := h.inn x hx; unfold inN at *; rwa [dear_n], by rw [dear_words hj]; exact h.wo, by rw [dear_lnk hj]; exact h.ln⟩
theorem dear_cost {l : Lex} {j : Nat} (hj : j < l.n) {by_ : Int} (hb : 0 ≤ by_) (s : List Int) : ∀ k, costP l s k ≤ costP (dearX l j by_) s k
  | 0 => Int.le_refl _
  | k + 1 => by
    have ih := dear_cost hj hb s k
    rw [costP, costP]
    have h1 : cst l (s[k]?.getD 0) ≤ cst (dearX l j by_) (s[k]?.getD 0) := by
      unfold cst
      rw [dear_at hj]
      split
      · rename_i e; rw [e]; show _ ≤ _ + by_; omega
      · omega
    rw [dear_fol hj]
    omega
theorem dear_least {l : Lex} (h : LexOk l) {j : Nat} (hj : j < l.n) {by_ : Int} (hb : 0 ≤ by_) (hc : cst l j + by_ ≤ 99) {t : List Int} (h0 : textK l t = 0) (h1 : textK (dearX l j by_) t = 0) :
    (leastO (dearX l j by_) t).2 = (leastO l t).2 ∧ (leastO l t).1 ≤ (leastO (dearX l j by_) t).1 := by
  obtain ⟨_, ht, _⟩ := textK_ok h0
  have hd := dear_ok h hj (by_ := by_) ⟨by have := h.cst hj; omega, hc⟩
  unfold leastO
  rw [if_pos h0, if_pos h1]
  by_cases htn : t = []
  · rw [if_pos htn, if_pos htn]; exact ⟨rfl, Int.le_refl _⟩
  · rw [if_neg htn, if_neg htn]
    rcases leastT_is h ht htn with ⟨e, hno⟩ | ⟨hlt, ⟨s, hs, e⟩, hmin⟩
    · rcases leastT_is hd ht htn with ⟨e', _⟩ | ⟨_, ⟨s', hs', _⟩, _⟩
      · rw [if_pos e, if_pos e']; exact ⟨rfl, Int.le_refl _⟩
      · exact absurd ((dear_isSp hj).1 hs') (hno _)
    · rcases leastT_is hd ht htn with ⟨_, hno⟩ | ⟨hlt', ⟨s', hs', e'⟩, _⟩
      · exact absurd ((dear_isSp hj).2 hs) (hno _)
      · rw [if_neg (by omega), if_neg (by omega)]
        refine ⟨rfl, ?_⟩
        have h2 := hmin s' ((dear_isSp hj).1 hs')
        have h3 := dear_cost hj hb s' s'.length
        have : costL l s' = costP l s' s'.length := rfl
        have : costL (dearX l j by_) s' = costP (dearX l j by_) s' s'.length := rfl
        show leastT l t ≤ leastT (dearX l j by_) t
        omega
/-! ### an item less -/
/-- the number in the greater lexicon -/
def upI (j : Nat) (x : Int) : Int := if x < j then x else x + 1
theorem upI_inj {j : Nat} {x y : Int} (h : upI j x = upI j y) : x = y := by unfold upI at h; split at h <;> split at h <;> omega
theorem without_n {l : Lex} {j : Nat} (hj : j < l.n) : (withoutX l j).n = l.n - 1 := by
  simp only [Lex.n, withoutX, List.length_eraseIdx]
  rw [if_pos hj]
theorem without_at {l : Lex} {j : Nat} (hj : j < l.n) {x : Int} (hx : inN (withoutX l j) x) : inN l (upI j x) ∧ itm (withoutX l j).i x.toNat = itm l.i (upI j x).toNat := by
  have hn := without_n hj
  obtain ⟨h1, h2⟩ := hx
  rw [hn] at h2
  unfold inN upI
  split
  · rename_i hlt
    refine ⟨by omega, ?_⟩
    unfold itm withoutX
    rw [List.getElem?_eraseIdx_of_lt (by omega)]
  · rename_i hlt
    refine ⟨by omega, ?_⟩
    unfold itm withoutX
    rw [List.getElem?_eraseIdx_of_ge (by omega), show (x + 1).toNat = x.toNat + 1 by omega]
theorem without_ok {l : Lex} (h : LexOk l) {j : Nat} (hj : j < l.n) (h1 : l.n ≠ 1) : LexOk (withoutX l j) := by
  have hn := without_n hj
  have := h.n1; have := h.n8
  have hat : ∀ k, k < (withoutX l j).n → ∃ k', k' < l.n ∧ itm (withoutX l j).i k = itm l.i k' := fun k hk => by
    obtain ⟨h2, h3⟩ := without_at hj (x := (k : Int)) ⟨by omega, by exact_mod_cast hk⟩
    exact ⟨_, by have := h2.1; have := h2.2; omega, h3⟩
  refine ⟨by omega, by omega, fun k hk => ?_, fun k hk => ?_, fun k hk => ?_, fun k hk => ?_, h.f4, h.ff⟩ <;> obtain ⟨k', hk', e⟩ := hat k hk <;> rw [e]
  · exact h.wo k' hk'
  · exact h.so k' hk'
  · exact h.ki k' hk'
  · exact h.co k' hk'
theorem without_words {l : Lex} {j : Nat} (hj : j < l.n) : ∀ {s : List Int}, allIn (withoutX l j) s → wordsL (withoutX l j) s = wordsL l (s.map (upI j)) ∧ allIn l (s.map (upI j))
  | [], _ => ⟨rfl, fun x hx => by simp at hx⟩
  | x :: s, hs => by
    obtain ⟨h1, h2⟩ := without_at hj (hs x (by simp))
    obtain ⟨h3, h4⟩ := without_words hj (s := s) (fun y hy => hs y (by simp [hy]))
    refine ⟨?_, ?_⟩
    · rw [List.map_cons, wordsL_cons, wordsL_cons, h3]
      congr 1
      unfold wrd; rw [h2]
    · intro y hy
      rw [List.map_cons] at hy
      rcases List.mem_cons.1 hy with rfl | hy
      · exact h1
      · exact h4 y hy
theorem without_fol {l : Lex} {j : Nat} (hj : j < l.n) {a b : Int} (ha : inN (withoutX l j) a) (hb : inN (withoutX l j) b) : fol (withoutX l j) a b = fol l (upI j a) (upI j b) := by
  unfold fol; rw [(without_at hj ha).2, (without_at hj hb).2]; rfl
theorem without_lnk {l : Lex} {j : Nat} (hj : j < l.n) : ∀ {b : Int} {s : List Int}, inN (withoutX l j) b → allIn (withoutX l j) s → lnk (withoutX l j) b s = true → lnk l (upI j b) (s.map (upI j)) = true
  | b, [], _, _, _ => rfl
  | b, x :: s, hb, hs, h => by
    have hx := hs x (by simp)
    rw [lnk, Bool.and_eq_true, Bool.or_eq_true, decide_eq_true_eq, decide_eq_true_eq, without_fol hj hb hx] at h
    rw [List.map_cons, lnk, without_lnk hj hx (fun y hy => hs y (by simp [hy])) h.2]
    have := hb.1
    rcases h.1 with h1 | h1
    · omega
    · simp [h1]
theorem without_sp {l : Lex} {j : Nat} (hj : j < l.n) {t s : List Int} (h : IsSp (withoutX l j) (-1) t s) : IsSp l (-1) t (s.map (upI j)) := by
  obtain ⟨h1, h2⟩ := without_words hj h.inn
  refine ⟨h2, by rw [← h1]; exact h.wo, ?_⟩
  cases s with
  | nil => rfl
  | cons x s =>
    have hl := h.ln
    rw [lnk] at hl
    rw [List.map_cons, lnk]
    have := without_lnk hj (s := s) (h.inn x (by simp)) (fun y hy => h.inn y (by simp [hy])) (by simpa using hl)
    simp [this]
theorem map_inj {α β : Type} {f : α → β} (h : ∀ x y, f x = f y → x = y) : ∀ {a b : List α}, a.map f = b.map f → a = b
  | [], [], _ => rfl
  | [], y :: b, e => by simp at e
  | x :: a, [], e => by simp at e
  | x :: a, y :: b, e => by
    simp only [List.map_cons] at e
    injection e with e1 e2
    rw [h x y e1, map_inj h e2]
theorem without_cnt {l : Lex} (h : LexOk l) {j : Nat} (hj : j < l.n) (h1 : l.n ≠ 1) (t : List Int) : cntR (withoutX l j) t (-1) ≤ cntR l t (-1) := by
  have hw := without_ok h hj h1
  have hnd : ((spl (withoutX l j) t (-1)).map (List.map (upI j))).Nodup := List.Pairwise.map _ (fun a b hab e => hab (map_inj (fun x y => upI_inj) e)) (splF_nodup _ _ _ _)
  have := length_le_of_subset (b := spl l t (-1)) hnd (fun s hs => by
    obtain ⟨s', hs', rfl⟩ := List.mem_map.1 hs
    exact (splits_mem h.noE).2 (without_sp hj ((splits_mem hw.noE).1 hs')))
  rw [List.length_map] at this
  unfold cntR; omega
theorem without_code {l : Lex} {j : Nat} (hj : j < l.n) (h : notCode (withoutX l j)) : notCode l := by
  obtain ⟨a, b, ha, hb, hab, hw⟩ := h
  obtain ⟨a1, a2⟩ := without_words hj ha
  obtain ⟨b1, b2⟩ := without_words hj hb
  exact ⟨_, _, a2, b2, fun e => hab (map_inj (fun x y => upI_inj) e), by rw [← a1, ← b1]; exact hw⟩
end Go.Proofs.Ytgpggmcjggpmpaa
