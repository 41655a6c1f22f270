/- The lexicon turned round: plain. -/
import Derived.Test.YtgpggmcjggpmpaaTagX
namespace Go.Proofs.Ytgpggmcjggpmpaa
set_option linter.unusedVariables false
/-! ## the lexicon turned round -/
theorem back_n (l : Lex) : (backX l).n = l.n := by simp [Lex.n, backX]
theorem back_at {l : Lex} {j : Nat} (hj : j < l.n) : itm (backX l).i j = ⟨(itm l.i j).w.reverse, (itm l.i j).k, (itm l.i j).c⟩ := itm_map hj
theorem turnF_at {f : List (List Int)} (h4 : f.length = 4) (hr : ∀ a, a < 4 → (f[a]?.getD []).length = 4) {a b : Nat} (ha : a < 4) (hb : b < 4) : ((turnF f)[a]?.getD []).length = 4 ∧ ((turnF f)[a]?.getD [])[b]?.getD 0 = (f[b]?.getD [])[a]?.getD 0 := by
  have e : (turnF f)[a]?.getD [] = (List.range 4).map fun k => (f[k]?.getD [])[a]?.getD 0 := by
    unfold turnF
    rw [List.getElem?_map, List.getElem?_range (by omega)]
    simp only [Option.map_some, Option.getD_some]
    rw [hr a ha]
  rw [e]
  refine ⟨by simp, ?_⟩
  rw [List.getElem?_map, List.getElem?_range hb]; rfl
theorem back_ok {l : Lex} (h : LexOk l) : LexOk (backX l) := by
  refine ⟨by rw [back_n]; exact h.n1, by rw [back_n]; exact h.n8, fun k hk => ?_, fun k hk => ?_, fun k hk => ?_, fun k hk => ?_, by simp [backX, turnF, h.f4], fun a ha => ?_⟩
  · rw [back_n] at hk; rw [back_at hk]; simpa using h.wo k hk
  · rw [back_n] at hk; rw [back_at hk]; intro x hx; exact h.so k hk x (by simpa using hx)
  · rw [back_n] at hk; rw [back_at hk]; exact h.ki k hk
  · rw [back_n] at hk; rw [back_at hk]; exact h.co k hk
  · refine ⟨(turnF_at h.f4 (fun a ha => (h.ff a ha).1) ha ha).1, fun b hb => ?_⟩
    rw [show (backX l).f = turnF l.f from rfl, (turnF_at h.f4 (fun a ha => (h.ff a ha).1) ha hb).2]
    exact (h.ff b hb).2 a ha
theorem back_fol {l : Lex} (h : LexOk l) {a b : Int} (ha : inN l a) (hb : inN l b) : fol (backX l) a b = fol l b a := by
  obtain ⟨i, rfl⟩ : ∃ j : Nat, a = j := ⟨a.toNat, by have := ha.1; omega⟩
  obtain ⟨j, rfl⟩ : ∃ j : Nat, b = j := ⟨b.toNat, by have := hb.1; omega⟩
  have hi : i < l.n := by have : ((i : Int)) < (l.n : Int) := ha.2; omega
  have hj : j < l.n := by have : ((j : Int)) < (l.n : Int) := hb.2; omega
  have h1 := h.ki i hi
  have h2 := h.ki j hj
  unfold fol
  simp only [Int.toNat_natCast]
  rw [back_at hi, back_at hj]
  exact (turnF_at h.f4 (fun a ha => (h.ff a ha).1) (show (itm l.i i).k.toNat < 4 by omega) (show (itm l.i j).k.toNat < 4 by omega)).2
theorem back_wrd {l : Lex} {x : Int} (hx : inN l x) : wrd (backX l) x = (wrd l x).reverse := by
  unfold wrd
  rw [back_at (by have := hx.1; have := hx.2; omega)]
theorem back_cst {l : Lex} {x : Int} (hx : inN l x) : cst (backX l) x = cst l x := by
  unfold cst
  rw [back_at (by have := hx.1; have := hx.2; omega)]
theorem back_allIn {l : Lex} {s : List Int} : allIn (backX l) s ↔ allIn l s := by unfold allIn inN; rw [back_n]
theorem allIn_rev {l : Lex} {s : List Int} : allIn l s.reverse ↔ allIn l s := by unfold allIn; simp
theorem back_words {l : Lex} : ∀ {s : List Int}, allIn l s → wordsL (backX l) s.reverse = (wordsL l s).reverse
  | [], _ => rfl
  | x :: s, hs => by
    rw [List.reverse_cons, wordsL_app, back_words (fun y hy => hs y (by simp [hy])), wordsL_cons l, List.reverse_append]
    congr 1
    simp [wordsL, back_wrd (hs x (by simp))]
theorem back_lnk {l : Lex} (h : LexOk l) : ∀ {s : List Int}, allIn l s → (lnk (backX l) (-1) s.reverse = true ↔ lnk l (-1) s = true)
  | [], _ => by simp [lnk]
  | [x], _ => by simp [lnk]
  | x :: y :: s, hs => by
    have hx := hs x (by simp)
    have hy := hs y (by simp)
    have hs' : allIn l (y :: s) := fun z hz => hs z (List.mem_cons_of_mem _ hz)
    have ih := back_lnk h hs'
    rw [show x :: y :: s = [x] ++ (y :: s) from rfl, List.reverse_append, lnk_app (by simp) (by simp) (fun z hz => (allIn_rev.2 hs' z hz).1), ih, lnk_app (by simp) (by simp) (fun z hz => (by simp at hz; subst hz; exact hx.1))]
    have e1 : lastI (y :: s).reverse = y := by rw [List.reverse_cons, lastI_snoc]
    rw [e1]
    simp only [List.reverse_cons, List.reverse_nil, List.nil_append, List.getElem?_cons_zero, Option.getD_some]
    rw [back_fol h hy hx]
    have e2 : lastI [x] = x := by simp [lastI]
    rw [e2]
    simp only [lnk]
    constructor
    · rintro ⟨h1, h2, h3⟩; exact ⟨h3, h2, h1⟩
    · rintro ⟨h1, h2, h3⟩; exact ⟨h3, h2, h1⟩
theorem back_cost {l : Lex} (h : LexOk l) : ∀ {s : List Int}, allIn l s → costL (backX l) s.reverse = costL l s
  | [], _ => rfl
  | [x], hs => by rw [List.reverse_singleton, costL_one, costL_one, back_cst (hs x (by simp))]
  | x :: y :: s, hs => by
    have hx := hs x (by simp)
    have hy := hs y (by simp)
    have hs' : allIn l (y :: s) := fun z hz => hs z (List.mem_cons_of_mem _ hz)
    have ih := back_cost h hs'
    rw [show x :: y :: s = [x] ++ (y :: s) from rfl, List.reverse_append, costL_app _ (by simp) _ _ rfl (by simp), ih, costL_app _ (by simp) _ _ rfl (by simp)]
    have e1 : lastI (y :: s).reverse = y := by rw [List.reverse_cons, lastI_snoc]
    rw [e1, List.reverse_singleton, costL_one, costL_one, back_cst hx]
    simp only [List.getElem?_cons_zero, Option.getD_some]
    rw [back_fol h hy hx]
    have e2 : lastI [x] = x := by simp [lastI]
    rw [e2]; omega
theorem back_sp {l : Lex} (h : LexOk l) {t s : List Int} : IsSp (backX l) (-1) t.reverse s.reverse ↔ IsSp l (-1) t s := by
  constructor
  · intro hs
    have hin : allIn l s := by rw [← allIn_rev, ← back_allIn]; exact hs.inn
    refine ⟨hin, ?_, (back_lnk h hin).1 hs.ln⟩
    have := hs.wo
    rw [back_words hin] at this
    simpa using congrArg List.reverse this
  · intro hs
    exact ⟨back_allIn.2 (allIn_rev.2 hs.inn), by rw [back_words hs.inn, hs.wo], (back_lnk h hs.inn).2 hs.ln⟩
theorem back_cnt {l : Lex} (h : LexOk l) (t : List Int) : cntR (backX l) t.reverse (-1) = cntR l t (-1) := by
  have hnd : ((spl l t (-1)).map List.reverse).Nodup := List.Pairwise.map _ (fun a b hab e => hab (by simpa using e)) (splF_nodup _ _ _ _)
  have := length_eq_of_same (splF_nodup (backX l) t.reverse.length t.reverse (-1)) hnd (fun s => by
    rw [show splF (backX l) t.reverse.length t.reverse (-1) = splits (backX l) t.reverse from rfl, splits_mem (back_ok h).noE, List.mem_map]
    constructor
    · intro hs
      refine ⟨s.reverse, (splits_mem h.noE).2 ((back_sp h).1 (by rw [List.reverse_reverse]; exact hs)), by simp⟩
    · rintro ⟨s', hs', rfl⟩
      exact (back_sp h).2 ((splits_mem h.noE).1 hs'))
  rw [List.length_map] at this
  unfold cntR spl at *
  omega
theorem back_text {l : Lex} (h : LexOk l) (t : List Int) : textK (backX l) t.reverse = textK l t := by
  rw [textK_valid (ok_validL (back_ok h)), textK_valid (ok_validL h), List.length_reverse]
  have : sndB t.reverse = sndB t := by rw [Bool.eq_iff_iff, sndB_iff, sndB_iff]; simp
  rw [this]
theorem back_least {l : Lex} (h : LexOk l) (t : List Int) : leastO (backX l) t.reverse = leastO l t := by
  unfold leastO
  rw [back_text h]
  by_cases h0 : textK l t = 0
  · rw [if_pos h0, if_pos h0]
    obtain ⟨_, ht, _⟩ := textK_ok h0
    by_cases htn : t = []
    · subst htn; rfl
    · have hrn : t.reverse ≠ [] := by simpa using htn
      rw [if_neg htn, if_neg hrn]
      have e : leastT (backX l) t.reverse = leastT l t := by
        rcases leastT_is h ht htn with ⟨e, hno⟩ | ⟨hlt, ⟨s, hs, e⟩, hmin⟩
        · rcases leastT_is (back_ok h) (by rw [List.length_reverse]; exact ht) hrn with ⟨e', _⟩ | ⟨_, ⟨s', hs', _⟩, _⟩
          · rw [e, e']
          · exact absurd ((back_sp h).1 (by rw [List.reverse_reverse]; exact hs')) (hno s'.reverse)
        · rcases leastT_is (back_ok h) (by rw [List.length_reverse]; exact ht) hrn with ⟨_, hno⟩ | ⟨_, ⟨s', hs', e'⟩, hmin'⟩
          · exact absurd ((back_sp h).2 hs) (hno _)
          · have h1 := hmin' _ ((back_sp h).2 hs)
            rw [back_cost h hs.inn] at h1
            have hs2 : IsSp l (-1) t s'.reverse := (back_sp h).1 (by rw [List.reverse_reverse]; exact hs')
            have h2 := hmin _ hs2
            have h3 := back_cost h hs2.inn
            rw [List.reverse_reverse] at h3
            omega
      rw [e]
  · rw [if_neg h0, if_neg h0]
theorem back_code {l : Lex} : notCode (backX l) ↔ notCode l := by
  constructor
  · rintro ⟨a, b, ha, hb, hab, hw⟩
    have ha' := allIn_rev.2 (back_allIn.1 ha)
    have hb' := allIn_rev.2 (back_allIn.1 hb)
    have h1 := back_words ha'
    have h2 := back_words hb'
    rw [List.reverse_reverse] at h1 h2
    refine ⟨a.reverse, b.reverse, ha', hb', fun e => hab (by simpa using e), ?_⟩
    rw [h1, h2] at hw
    simpa using hw
  · rintro ⟨a, b, ha, hb, hab, hw⟩
    exact ⟨a.reverse, b.reverse, back_allIn.2 (allIn_rev.2 ha), back_allIn.2 (allIn_rev.2 hb), fun e => hab (by simpa using e), by rw [back_words ha, back_words hb, hw]⟩
end Go.Proofs.Ytgpggmcjggpmpaa
