/- Which lexicons, texts, splits and pairs are right: plain. -/
import Derived.Test.YtgpggmcjggpmpaaTagL
namespace Go.Proofs.Ytgpggmcjggpmpaa
set_option linter.unusedVariables false
/-! ## which lexicons and texts are right -/
def inB (n lo hi : Int) : Bool := decide (lo ≤ n) && decide (n ≤ hi)
def sndB (l : List Int) : Bool := allB l.length fun i => inB (l[i]?.getD 0) 0 5
def itmB (x : Itm) : Bool := inB (x.w.length : Int) 1 6 && (sndB x.w && (inB x.k 0 3 && inB x.c 0 99))
def rowB (r : List Int) : Bool := decide (r.length = 4) && allB r.length fun i => inB (r[i]?.getD 0) (-1) 99
def folB (f : List (List Int)) : Bool := decide (f.length = 4) && allB f.length fun i => rowB (f[i]?.getD [])
def validL (l : Lex) : Int := if inB (l.n : Int) 1 8 then (if allB l.n (fun j => itmB (itm l.i j)) && folB l.f then 0 else 1) else 3
def textK (l : Lex) (t : List Int) : Int := if validL l = 0 then (if 12 < (t.length : Int) then 3 else if sndB t then 0 else 1) else validL l
def areB (l : Lex) (s : List Int) : Bool := allB s.length fun i => inB (s[i]?.getD 0) 0 ((l.n : Int) - 1)
theorem inB_iff {n lo hi : Int} : inB n lo hi = true ↔ lo ≤ n ∧ n ≤ hi := by simp [inB]
theorem allB_iff {n : Nat} {f : Nat → Bool} : allB n f = true ↔ ∀ j, j < n → f j = true := by simp [allB]
theorem allB_at {l : List Int} {p : Int → Bool} : allB l.length (fun i => p (l[i]?.getD 0)) = true ↔ ∀ x ∈ l, p x = true := by
  rw [allB_iff]
  constructor
  · intro h x hx
    obtain ⟨i, hi, rfl⟩ := List.mem_iff_getElem.1 hx
    have := h i hi
    simpa [hi] using this
  · intro h j hj
    simpa [hj] using h l[j] (List.getElem_mem hj)
theorem sndB_iff {l : List Int} : sndB l = true ↔ ∀ x ∈ l, 0 ≤ x ∧ x ≤ 5 := by
  unfold sndB
  rw [allB_at (p := fun x => inB x 0 5)]
  constructor
  · intro h x hx; exact inB_iff.1 (h x hx)
  · intro h x hx; exact inB_iff.2 (h x hx)
theorem areB_iff {l : Lex} {s : List Int} : areB l s = true ↔ allIn l s := by
  unfold areB
  rw [allB_at (p := fun x => inB x 0 ((l.n : Int) - 1))]
  constructor
  · intro h x hx; have := inB_iff.1 (h x hx); exact ⟨this.1, by omega⟩
  · intro h x hx; have := h x hx; exact inB_iff.2 ⟨this.1, by have := this.2; omega⟩
theorem validL_ok {l : Lex} (h : validL l = 0) : LexOk l := by
  unfold validL at h
  split at h <;> rename_i h1
  · split at h <;> rename_i h2
    · rw [Bool.and_eq_true] at h2
      obtain ⟨ha, hb⟩ := h2
      rw [inB_iff] at h1
      rw [allB_iff] at ha
      unfold folB at hb
      rw [Bool.and_eq_true, decide_eq_true_eq, allB_iff] at hb
      have hi : ∀ j, j < l.n → (1 ≤ ((itm l.i j).w.length : Int) ∧ ((itm l.i j).w.length : Int) ≤ 6) ∧ (∀ x ∈ (itm l.i j).w, 0 ≤ x ∧ x ≤ 5) ∧ (0 ≤ (itm l.i j).k ∧ (itm l.i j).k ≤ 3) ∧ (0 ≤ (itm l.i j).c ∧ (itm l.i j).c ≤ 99) := by
        intro j hj
        have := ha j hj
        unfold itmB at this
        rw [Bool.and_eq_true, Bool.and_eq_true, Bool.and_eq_true, inB_iff, inB_iff, inB_iff, sndB_iff] at this
        exact this
      refine ⟨by omega, by omega, fun j hj => ?_, fun j hj => (hi j hj).2.1, fun j hj => (hi j hj).2.2.1, fun j hj => (hi j hj).2.2.2, hb.1, fun a ha4 => ?_⟩
      · have := (hi j hj).1; omega
      · have h3 := hb.2 a (by omega)
        unfold rowB at h3
        rw [Bool.and_eq_true, decide_eq_true_eq, allB_iff] at h3
        refine ⟨h3.1, fun b hb4 => ?_⟩
        exact inB_iff.1 (h3.2 b (by omega))
    · omega
  · omega
theorem ok_validL {l : Lex} (h : LexOk l) : validL l = 0 := by
  unfold validL
  have h1 := h.n1
  have h2 := h.n8
  rw [if_pos (inB_iff.2 ⟨by omega, by omega⟩), if_pos]
  rw [Bool.and_eq_true]
  constructor
  · rw [allB_iff]
    intro j hj
    unfold itmB
    have := h.wo j hj
    rw [Bool.and_eq_true, Bool.and_eq_true, Bool.and_eq_true, inB_iff, inB_iff, inB_iff, sndB_iff]
    exact ⟨by omega, h.so j hj, h.ki j hj, h.co j hj⟩
  · unfold folB
    rw [Bool.and_eq_true, decide_eq_true_eq, allB_iff]
    refine ⟨h.f4, fun a ha => ?_⟩
    have h3 := h.ff a (by rw [h.f4] at ha; exact ha)
    unfold rowB
    rw [Bool.and_eq_true, decide_eq_true_eq, allB_iff]
    exact ⟨h3.1, fun b hb => inB_iff.2 (h3.2 b (by omega))⟩
theorem textK_ok {l : Lex} {t : List Int} (h : textK l t = 0) : LexOk l ∧ t.length ≤ 12 ∧ ∀ x ∈ t, 0 ≤ x ∧ x ≤ 5 := by
  unfold textK at h
  split at h <;> rename_i h1
  · split at h <;> rename_i h2
    · omega
    · split at h <;> rename_i h3
      · exact ⟨validL_ok h1, by omega, sndB_iff.1 h3⟩
      · omega
  · exact absurd h h1
theorem textK_valid {l : Lex} {t : List Int} (h : validL l = 0) : textK l t = if 12 < (t.length : Int) then 3 else if sndB t then 0 else 1 := by rw [textK, if_pos h]
/-! ## splits that are given -/
def splitK (l : Lex) (t s : List Int) : Int := if textK l t = 0 then (if 12 < (s.length : Int) then 3 else if areB l s then (if wordsL l s = t then (if lnkB l s then 0 else 6) else 7) else 4) else textK l t
def splitC (l : Lex) (t s : List Int) : Int := if splitK l t s = 0 then costL l s else 0
theorem splitK_ok {l : Lex} {t s : List Int} (h : splitK l t s = 0) : LexOk l ∧ t.length ≤ 12 ∧ s.length ≤ 12 ∧ IsSp l (-1) t s ∧ textK l t = 0 := by
  unfold splitK at h
  split at h <;> rename_i h0
  · obtain ⟨hl, ht, _⟩ := textK_ok h0
    split at h <;> rename_i h1
    · omega
    · split at h <;> rename_i h2
      · split at h <;> rename_i h3
        · split at h <;> rename_i h4
          · have ha := areB_iff.1 h2
            exact ⟨hl, ht, by omega, ⟨ha, h3, (lnkB_iff (fun x hx => (ha x hx).1)).1 h4⟩, h0⟩
          · omega
        · omega
      · omega
  · exact absurd h h0
theorem splitK_of {l : Lex} {t s : List Int} (h : textK l t = 0) (hs : IsSp l (-1) t s) : splitK l t s = 0 := by
  obtain ⟨hl, ht, _⟩ := textK_ok h
  have := hs.len hl.noE
  unfold splitK
  rw [if_pos h, if_neg (by omega), if_pos (areB_iff.2 hs.inn), if_pos hs.wo, if_pos ((lnkB_iff (fun x hx => (hs.inn x hx).1)).2 hs.ln)]
/-- what Least returns -/
def leastO (l : Lex) (t : List Int) : Int × Bool := if textK l t = 0 then (if t = [] then (0, true) else if leastT l t = big then (0, false) else (leastT l t, true)) else (0, false)
theorem leastO_le {l : Lex} {t s : List Int} (h : splitK l t s = 0) : (leastO l t).2 = true ∧ (leastO l t).1 ≤ splitC l t s := by
  obtain ⟨hl, ht, _, hs, h0⟩ := splitK_ok h
  unfold leastO splitC
  rw [if_pos h0, if_pos h]
  by_cases htn : t = []
  · rw [if_pos htn]
    subst htn
    have := words_nil hl.noE hs.inn hs.wo
    subst this
    exact ⟨rfl, by simp [costL_nil]⟩
  · rw [if_neg htn]
    rcases leastT_is hl ht htn with ⟨_, hno⟩ | ⟨hlt, _, hmin⟩
    · exact absurd hs (hno s)
    · rw [if_neg (by omega)]
      exact ⟨rfl, hmin s hs⟩
theorem cntR_pos {l : Lex} (h : LexOk l) {t : List Int} : 0 < cntR l t (-1) ↔ ∃ s, IsSp l (-1) t s := by
  unfold cntR spl
  constructor
  · intro hp
    obtain ⟨s, hs⟩ := List.exists_mem_of_length_pos (show 0 < (splF l t.length t (-1)).length by omega)
    exact ⟨s, (splits_mem h.noE).1 hs⟩
  · rintro ⟨s, hs⟩
    have := List.length_pos_of_mem ((splits_mem h.noE).2 hs)
    unfold splits at this; omega
/-- a least cost is there exactly if there is a split -/
theorem leastO_cnt {l : Lex} {t : List Int} (h0 : textK l t = 0) : (leastO l t).2 = decide (0 < cntR l t (-1)) := by
  obtain ⟨hl, ht, _⟩ := textK_ok h0
  unfold leastO
  rw [if_pos h0]
  by_cases htn : t = []
  · rw [if_pos htn]
    subst htn
    symm
    rw [decide_eq_true_eq, cntR_pos hl]
    exact ⟨[], fun x hx => by simp at hx, rfl, rfl⟩
  · rw [if_neg htn]
    rcases leastT_is hl ht htn with ⟨e, hno⟩ | ⟨hlt, ⟨s, hs, _⟩, _⟩
    · rw [if_pos e]
      symm
      rw [decide_eq_false_iff_not, cntR_pos hl]
      rintro ⟨s, hs⟩; exact hno s hs
    · rw [if_neg (by omega)]
      symm
      rw [decide_eq_true_eq, cntR_pos hl]
      exact ⟨s, hs⟩
/-- by a code a text has at most one split -/
theorem code_once {l : Lex} (h : LexOk l) (hc : ¬ notCode l) (t : List Int) : cntR l t (-1) ≤ 1 := by
  have hnd : (spl l t (-1)).Nodup := splF_nodup _ _ _ _
  have hm : ∀ s, s ∈ spl l t (-1) → IsSp l (-1) t s := fun s hs => (splits_mem h.noE).1 hs
  unfold cntR
  generalize spl l t (-1) = L at *
  match L, hnd, hm with
  | [], _, _ => simp
  | [_], _, _ => simp
  | a :: b :: r, hnd, hm =>
    have ha := hm a (by simp)
    have hb := hm b (by simp)
    have hab : a ≠ b := by intro e; subst e; simp at hnd
    exact absurd ⟨a, b, ha.inn, hb.inn, hab, by rw [ha.wo, hb.wo]⟩ hc
/-! ## two lists with the same words -/
def twoK (l : Lex) (a b : List Int) : Int := if validL l = 0 then (if 200 < (a.length : Int) ∨ 200 < (b.length : Int) then 3 else if areB l a && areB l b then (if a = b ∨ wordsL l a ≠ wordsL l b then 7 else 0) else 4) else validL l
theorem twoK_not {l : Lex} {a b : List Int} (h : twoK l a b = 0) : notCode l ∧ validL l = 0 := by
  unfold twoK at h
  split at h <;> rename_i h0
  · split at h <;> rename_i h1
    · omega
    · split at h <;> rename_i h2
      · split at h <;> rename_i h3
        · omega
        · rw [Bool.and_eq_true] at h2
          exact ⟨⟨a, b, areB_iff.1 h2.1, areB_iff.1 h2.2, fun e => h3 (.inl e), Classical.not_not.1 fun e => h3 (.inr e)⟩, h0⟩
      · omega
  · exact absurd h h0
theorem twoK_of {l : Lex} {a b : List Int} (h : validL l = 0) (ht : TwoOf l a b) (ha : a.length ≤ 200) (hb : b.length ≤ 200) : twoK l a b = 0 := by
  obtain ⟨h1, h2, h3, h4⟩ := ht
  unfold twoK
  rw [if_pos h, if_neg (by omega), if_pos (by rw [Bool.and_eq_true]; exact ⟨areB_iff.2 h1, areB_iff.2 h2⟩), if_neg]
  rintro (e | e)
  · exact h3 e
  · exact e h4
end Go.Proofs.Ytgpggmcjggpmpaa
