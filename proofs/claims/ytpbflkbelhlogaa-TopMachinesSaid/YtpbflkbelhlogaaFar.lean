/- How far each state is from an end: two ways to compute it. Plain; no program in sight. -/
import Derived.Test.YtpbflkbelhlogaaBlk
namespace Go.Proofs.Ytpbflkbelhlogaa
set_option linter.unusedVariables false
section
variable {A : Type} (f t : A → Nat)
/-- k arcs lead from s to an end -/
def Rch (ar : List A) (E : Nat → Prop) : Nat → Nat → Prop
  | 0, s => E s
  | k + 1, s => ∃ a, a ∈ ar ∧ f a = s ∧ Rch ar E k (t a)
/-- and no fewer -/
def Dst (ar : List A) (E : Nat → Prop) (d s : Nat) : Prop := Rch f t ar E d s ∧ ∀ k, Rch f t ar E k s → d ≤ k
def at0 (l : List Int) (i : Nat) : Int := l[i]?.getD 0
theorem at0_set {l : List Int} {i j : Nat} {x : Int} (hi : i < l.length) : at0 (l.set i x) j = if i = j then x else at0 l j := by
  unfold at0
  by_cases h : i = j
  · subst h; rw [List.getElem?_set_self hi, if_pos rfl]; rfl
  · rw [List.getElem?_set_ne h, if_neg h]
/-- one arc, as the program takes it -/
def pStep (out : List Int) (a : A) : List Int := if 0 ≤ at0 out (t a) ∧ (at0 out (f a) < 0 ∨ at0 out (t a) + 1 < at0 out (f a)) then out.set (f a) (at0 out (t a) + 1) else out
def pTo (ar : List A) (out : List Int) (k : Nat) : List Int := (ar.take k).foldl (pStep f t) out
def pRnd (ar : List A) (out : List Int) : Nat → List Int
  | 0 => out
  | r + 1 => pTo f t ar (pRnd ar out r) ar.length
/-- one arc in a round, as the document takes it -/
def rStep (r : Nat) (out : List Int) (a : A) : List Int := if at0 out (t a) = (r : Int) ∧ at0 out (f a) < 0 then out.set (f a) ((r : Int) + 1) else out
def rTo (r : Nat) (ar : List A) (out : List Int) (k : Nat) : List Int := (ar.take k).foldl (rStep f t r) out
def rRnd (ar : List A) (out : List Int) : Nat → List Int
  | 0 => out
  | r + 1 => rTo f t r ar (rRnd ar out r) ar.length
variable {f t}
theorem pStep_len (out : List Int) (a : A) : (pStep f t out a).length = out.length := by unfold pStep; split <;> simp
theorem rStep_len (r : Nat) (out : List Int) (a : A) : (rStep f t r out a).length = out.length := by unfold rStep; split <;> simp
theorem pTo_len (out : List Int) : ∀ ar : List A, (ar.foldl (pStep f t) out).length = out.length := fun ar => by
  induction ar generalizing out with
  | nil => rfl
  | cons a ar ih => rw [List.foldl_cons, ih, pStep_len]
theorem rTo_len (r : Nat) (out : List Int) : ∀ ar : List A, (ar.foldl (rStep f t r) out).length = out.length := fun ar => by
  induction ar generalizing out with
  | nil => rfl
  | cons a ar ih => rw [List.foldl_cons, ih, rStep_len]
theorem pRnd_len (ar : List A) (out : List Int) : ∀ r, (pRnd f t ar out r).length = out.length
  | 0 => rfl
  | r + 1 => by rw [pRnd]; unfold pTo; rw [pTo_len, pRnd_len ar out r]
theorem rRnd_len (ar : List A) (out : List Int) : ∀ r, (rRnd f t ar out r).length = out.length
  | 0 => rfl
  | r + 1 => by rw [rRnd]; unfold rTo; rw [rTo_len, rRnd_len ar out r]
theorem foldl_take_succ {B : Type} (g : B → A → B) (ar : List A) (b : B) {k : Nat} (hk : k < ar.length) : (ar.take (k + 1)).foldl g b = g ((ar.take k).foldl g b) ar[k] := by
  rw [List.take_add_one, List.getElem?_eq_getElem hk, List.foldl_append]; rfl
theorem pTo_next {ar : List A} {out : List Int} {k : Nat} (hk : k < ar.length) : pTo f t ar out (k + 1) = pStep f t (pTo f t ar out k) ar[k] := foldl_take_succ _ _ _ hk
theorem rTo_next {r : Nat} {ar : List A} {out : List Int} {k : Nat} (hk : k < ar.length) : rTo f t r ar out (k + 1) = rStep f t r (rTo f t r ar out k) ar[k] := foldl_take_succ _ _ _ hk
theorem pTo_all {ar : List A} {out : List Int} : pTo f t ar out ar.length = ar.foldl (pStep f t) out := by unfold pTo; rw [List.take_length]
theorem rTo_all {r : Nat} {ar : List A} {out : List Int} : rTo f t r ar out ar.length = ar.foldl (rStep f t r) out := by unfold rTo; rw [List.take_length]
/-! ## the program's -/
/-- what is told is reached in so many arcs -/
def Snd (ar : List A) (E : Nat → Prop) (n : Nat) (out : List Int) : Prop := ∀ s, s < n → -1 ≤ at0 out s ∧ (0 ≤ at0 out s → Rch f t ar E (at0 out s).toNat s)
theorem pStep_snd {ar : List A} {E : Nat → Prop} {n : Nat} {out : List Int} (hl : out.length = n) (hr : ∀ a ∈ ar, f a < n ∧ t a < n) (h : Snd (f := f) (t := t) ar E n out) {a : A} (ha : a ∈ ar) : Snd (f := f) (t := t) ar E n (pStep f t out a) := by
  obtain ⟨h1, h2⟩ := hr a ha
  unfold pStep
  split
  · rename_i hc
    intro s hs
    rw [at0_set (by omega)]
    by_cases e : f a = s
    · rw [if_pos e]
      refine ⟨by omega, fun _ => ?_⟩
      have := (h (t a) h2).2 hc.1
      rw [show (at0 out (t a) + 1).toNat = (at0 out (t a)).toNat + 1 by omega]
      exact ⟨a, ha, e, this⟩
    · rw [if_neg e]; exact h s hs
  · exact h
theorem pStep_low {out : List Int} {n s : Nat} {k : Int} (hl : out.length = n) {a : A} (hf : f a < n) (h : 0 ≤ at0 out s ∧ at0 out s ≤ k) : 0 ≤ at0 (pStep f t out a) s ∧ at0 (pStep f t out a) s ≤ k := by
  unfold pStep
  split
  · rename_i hc
    rw [at0_set (by omega)]
    by_cases e : f a = s
    · subst e; rw [if_pos rfl]; omega
    · rw [if_neg e]; exact h
  · exact h
theorem pFold_low {n s : Nat} {k : Int} : ∀ (br : List A) (out : List Int), out.length = n → (∀ a ∈ br, f a < n) → (0 ≤ at0 out s ∧ at0 out s ≤ k) → 0 ≤ at0 (br.foldl (pStep f t) out) s ∧ at0 (br.foldl (pStep f t) out) s ≤ k
  | [], _, _, _, h => h
  | a :: br, out, hl, hr, h => by
    rw [List.foldl_cons]
    exact pFold_low br _ (by rw [pStep_len]; exact hl) (fun x hx => hr x (by simp [hx])) (pStep_low hl (hr a (by simp)) h)
theorem pFold_snd {ar : List A} {E : Nat → Prop} {n : Nat} (hr : ∀ a ∈ ar, f a < n ∧ t a < n) : ∀ (br : List A) (out : List Int), (∀ a ∈ br, a ∈ ar) → out.length = n → Snd (f := f) (t := t) ar E n out → Snd (f := f) (t := t) ar E n (br.foldl (pStep f t) out)
  | [], _, _, _, h => h
  | a :: br, out, hb, hl, h => by
    rw [List.foldl_cons]
    exact pFold_snd hr br _ (fun x hx => hb x (by simp [hx])) (by rw [pStep_len]; exact hl) (pStep_snd hl hr h (hb a (by simp)))
/-- what is reached in at most r arcs is told -/
def Cmp (ar : List A) (E : Nat → Prop) (n r : Nat) (out : List Int) : Prop := ∀ s k, s < n → k ≤ r → Rch f t ar E k s → 0 ≤ at0 out s ∧ at0 out s ≤ (k : Int)
theorem pFold_hit {n : Nat} {k : Int} (hk : 0 ≤ k) : ∀ (br : List A) (out : List Int) {a : A}, a ∈ br → out.length = n → (∀ a ∈ br, f a < n) → (0 ≤ at0 out (t a) ∧ at0 out (t a) ≤ k) → 0 ≤ at0 (br.foldl (pStep f t) out) (f a) ∧ at0 (br.foldl (pStep f t) out) (f a) ≤ k + 1
  | b :: br, out, a, ha, hl, hr, h => by
    rw [List.foldl_cons]
    rcases List.mem_cons.1 ha with rfl | ha
    · refine pFold_low br _ (by rw [pStep_len]; exact hl) (fun x hx => hr x (by simp [hx])) ?_
      have hfa := hr a (by simp)
      unfold pStep
      by_cases hc : 0 ≤ at0 out (t a) ∧ (at0 out (f a) < 0 ∨ at0 out (t a) + 1 < at0 out (f a))
      · rw [if_pos hc, at0_set (by omega), if_pos rfl]; omega
      · rw [if_neg hc]; omega
    · exact pFold_hit hk br _ ha (by rw [pStep_len]; exact hl) (fun x hx => hr x (by simp [hx])) (pStep_low hl (hr b (by simp)) h)
theorem pRnd_is {ar : List A} {E : Nat → Prop} {n : Nat} (hr : ∀ a ∈ ar, f a < n ∧ t a < n) {out : List Int} (hl : out.length = n) (h0 : Snd (f := f) (t := t) ar E n out) (hc : Cmp (f := f) (t := t) ar E n 0 out) : ∀ r, Snd (f := f) (t := t) ar E n (pRnd f t ar out r) ∧ Cmp (f := f) (t := t) ar E n r (pRnd f t ar out r)
  | 0 => ⟨h0, hc⟩
  | r + 1 => by
    obtain ⟨h1, h2⟩ := pRnd_is hr hl h0 hc r
    have hl2 : (pRnd f t ar out r).length = n := by rw [pRnd_len]; exact hl
    rw [pRnd, pTo_all]
    refine ⟨pFold_snd hr _ _ (fun _ h => h) hl2 h1, fun s k hs hk hR => ?_⟩
    by_cases hk0 : k ≤ r
    · exact pFold_low _ _ hl2 (fun a ha => (hr a ha).1) (h2 s k hs hk0 hR)
    · obtain rfl : k = r + 1 := by omega
      obtain ⟨a, ha, rfl, hR2⟩ := hR
      have := pFold_hit (k := (r : Int)) (by omega) ar _ ha hl2 (fun a ha => (hr a ha).1) (h2 (t a) r (hr a ha).2 (Nat.le_refl _) hR2)
      exact ⟨this.1, by have := this.2; omega⟩
/-! ## a shortest way is shorter than there are states -/
theorem Dst.next {ar : List A} {E : Nat → Prop} {d s : Nat} (h : Dst f t ar E (d + 1) s) : ∃ a, a ∈ ar ∧ f a = s ∧ Dst f t ar E d (t a) := by
  obtain ⟨⟨a, ha, he, hR⟩, hm⟩ := h
  refine ⟨a, ha, he, hR, fun k hk => ?_⟩
  have := hm (k + 1) ⟨a, ha, he, hk⟩
  omega
theorem Dst.uniq {ar : List A} {E : Nat → Prop} {d e s : Nat} (h : Dst f t ar E d s) (h2 : Dst f t ar E e s) : d = e := Nat.le_antisymm (h.2 _ h2.1) (h2.2 _ h.1)
theorem far_nodup_lt : ∀ (N : Nat) (l : List Nat), l.Nodup → (∀ x ∈ l, x < N) → l.length ≤ N
  | 0, l, _, h => by
    cases l with
    | nil => simp
    | cons x l => have := h x (by simp); omega
  | N + 1, l, hn, h => by
    have h2 : (l.erase N).Nodup := hn.sublist (List.erase_sublist)
    have h1 := far_nodup_lt N (l.erase N) h2 (fun x hx => by
      have hx1 := List.mem_of_mem_erase hx
      have := h x hx1
      have hne : x ≠ N := fun e => by subst e; exact (List.Nodup.not_mem_erase hn) hx
      omega)
    have := List.length_erase (a := N) (l := l)
    split at this <;> omega
theorem Dst.chain {ar : List A} {E : Nat → Prop} {n : Nat} (hr : ∀ a ∈ ar, f a < n ∧ t a < n) : ∀ (d s : Nat), s < n → Dst f t ar E d s → ∃ l : List Nat, l.length = d + 1 ∧ l.Nodup ∧ ∀ x ∈ l, x < n ∧ ∃ e, e ≤ d ∧ Dst f t ar E e x
  | 0, s, hs, h => ⟨[s], rfl, by simp, fun x hx => by rw [List.mem_singleton] at hx; subst hx; exact ⟨hs, 0, Nat.le_refl _, h⟩⟩
  | d + 1, s, hs, h => by
    obtain ⟨a, ha, he, h2⟩ := h.next
    obtain ⟨l, h3, h4, h5⟩ := Dst.chain hr d (t a) (hr a ha).2 h2
    refine ⟨s :: l, by rw [List.length_cons, h3], List.nodup_cons.2 ⟨fun hm => ?_, h4⟩, fun x hx => ?_⟩
    · obtain ⟨_, e, he2, h6⟩ := h5 s hm
      have := h.uniq h6; omega
    · rcases List.mem_cons.1 hx with rfl | hx
      · exact ⟨hs, d + 1, Nat.le_refl _, h⟩
      · obtain ⟨h6, e, h7, h8⟩ := h5 x hx
        exact ⟨h6, e, by omega, h8⟩
theorem Dst.lt {ar : List A} {E : Nat → Prop} {n d s : Nat} (hr : ∀ a ∈ ar, f a < n ∧ t a < n) (hs : s < n) (h : Dst f t ar E d s) : d < n := by
  obtain ⟨l, h1, h2, h3⟩ := Dst.chain hr d s hs h
  have := far_nodup_lt n l h2 (fun x hx => (h3 x hx).1)
  omega
theorem Dst.least {ar : List A} {E : Nat → Prop} : ∀ (k s : Nat), Rch f t ar E k s → ∃ d, d ≤ k ∧ Dst f t ar E d s := by
  intro k
  induction k using Nat.strongRecOn with
  | _ k ih =>
    intro s h
    by_cases hm : ∃ j, j < k ∧ Rch f t ar E j s
    · obtain ⟨j, hj, h2⟩ := hm
      obtain ⟨d, h3, h4⟩ := ih j hj s h2
      exact ⟨d, by omega, h4⟩
    · refine ⟨k, Nat.le_refl _, h, fun j hj => ?_⟩
      by_cases hjk : k ≤ j
      · exact hjk
      · exact absurd ⟨j, by omega, hj⟩ hm
/-- a list tells how far each state is -/
def IsFar (ar : List A) (E : Nat → Prop) (n : Nat) (out : List Int) : Prop := out.length = n ∧ ∀ s, s < n → (at0 out s = -1 ∧ ∀ k, ¬ Rch f t ar E k s) ∨ ∃ d : Nat, at0 out s = (d : Int) ∧ Dst f t ar E d s
theorem IsFar.eq {ar : List A} {E : Nat → Prop} {n : Nat} {a b : List Int} (h : IsFar (f := f) (t := t) ar E n a) (k : IsFar (f := f) (t := t) ar E n b) : a = b := by
  have hl := h.1.trans k.1.symm
  refine List.ext_getElem hl fun i h1 h2 => ?_
  have e : at0 a i = at0 b i := by
    rcases h.2 i (by have := h.1; omega) with ⟨e1, hn⟩ | ⟨d, e1, hd⟩
    · rcases k.2 i (by have := h.1; omega) with ⟨e2, _⟩ | ⟨d2, _, hd2⟩
      · rw [e1, e2]
      · exact absurd hd2.1 (hn d2)
    · rcases k.2 i (by have := h.1; omega) with ⟨_, hn⟩ | ⟨d2, e2, hd2⟩
      · exact absurd hd.1 (hn d)
      · rw [e1, e2, hd.uniq hd2]
  unfold at0 at e
  rw [List.getElem?_eq_getElem h1, List.getElem?_eq_getElem h2] at e
  exact e
theorem pFar_is {ar : List A} {E : Nat → Prop} {n : Nat} (hr : ∀ a ∈ ar, f a < n ∧ t a < n) {out : List Int} (hl : out.length = n) (h0 : Snd (f := f) (t := t) ar E n out) (hc : Cmp (f := f) (t := t) ar E n 0 out) : IsFar (f := f) (t := t) ar E n (pRnd f t ar out n) := by
  obtain ⟨h1, h2⟩ := pRnd_is hr hl h0 hc n
  refine ⟨by rw [pRnd_len]; exact hl, fun s hs => ?_⟩
  obtain ⟨h3, h4⟩ := h1 s hs
  by_cases hneg : 0 ≤ at0 (pRnd f t ar out n) s
  · obtain ⟨d, hd, hD⟩ := Dst.least _ s (h4 hneg)
    have h5 := h2 s d hs (Nat.le_of_lt (hD.lt hr hs)) hD.1
    refine .inr ⟨d, by omega, hD⟩
  · refine .inl ⟨by omega, fun k hk => ?_⟩
    obtain ⟨d, hd, hD⟩ := Dst.least _ s hk
    have h5 := h2 s d hs (Nat.le_of_lt (hD.lt hr hs)) hD.1
    omega
/-! ## the document's -/
def Lay (ar : List A) (E : Nat → Prop) (n r : Nat) (out : List Int) : Prop := ∀ s, s < n → (at0 out s = -1 ∨ ∃ d : Nat, d ≤ r ∧ at0 out s = (d : Int) ∧ Dst f t ar E d s) ∧ ∀ d, d ≤ r → Dst f t ar E d s → at0 out s = (d : Int)
/-- within round r + 1 -/
def LayM (ar : List A) (E : Nat → Prop) (n r : Nat) (out : List Int) : Prop := ∀ s, s < n → (at0 out s = -1 ∨ ∃ d : Nat, d ≤ r + 1 ∧ at0 out s = (d : Int) ∧ Dst f t ar E d s) ∧ ∀ d, d ≤ r → Dst f t ar E d s → at0 out s = (d : Int)
theorem rStep_lay {ar : List A} {E : Nat → Prop} {n r : Nat} {out : List Int} (hl : out.length = n) (hr : ∀ a ∈ ar, f a < n ∧ t a < n) (h : LayM (f := f) (t := t) ar E n r out) {a : A} (ha : a ∈ ar) : LayM (f := f) (t := t) ar E n r (rStep f t r out a) ∧ (at0 out (t a) = (r : Int) → 0 ≤ at0 (rStep f t r out a) (f a)) ∧ ∀ s, 0 ≤ at0 out s → at0 (rStep f t r out a) s = at0 out s := by
  obtain ⟨h1, h2⟩ := hr a ha
  by_cases hc : at0 out (t a) = (r : Int) ∧ at0 out (f a) < 0
  · have e : rStep f t r out a = out.set (f a) ((r : Int) + 1) := by unfold rStep; rw [if_pos hc]
    rw [e]
    have hd : Dst f t ar E (r + 1) (f a) := by
      rcases (h (t a) h2).1 with h3 | ⟨d, h3, h4, h5⟩
      · omega
      · obtain rfl : d = r := by omega
        refine ⟨⟨a, ha, rfl, h5.1⟩, fun k hk => ?_⟩
        by_cases hk2 : d + 1 ≤ k
        · exact hk2
        · obtain ⟨d2, hd2, hD⟩ := Dst.least _ _ hk
          have := (h (f a) h1).2 d2 (by omega) hD
          omega
    refine ⟨fun s hs => ?_, fun _ => by rw [at0_set (by omega), if_pos rfl]; omega, fun s hs => ?_⟩
    · rw [at0_set (by omega)]
      by_cases e2 : f a = s
      · rw [if_pos e2]
        subst e2
        exact ⟨.inr ⟨r + 1, Nat.le_refl _, rfl, hd⟩, fun d hd1 hd2 => by have := hd.uniq hd2; omega⟩
      · rw [if_neg e2]; exact h s hs
    · rw [at0_set (by omega), if_neg]
      rintro rfl; omega
  · have e : rStep f t r out a = out := by unfold rStep; rw [if_neg hc]
    rw [e]
    exact ⟨h, fun h3 => by omega, fun _ _ => rfl⟩
theorem rFold_lay {ar : List A} {E : Nat → Prop} {n r : Nat} (hr : ∀ a ∈ ar, f a < n ∧ t a < n) : ∀ (br : List A) (out : List Int), (∀ a ∈ br, a ∈ ar) → out.length = n → LayM (f := f) (t := t) ar E n r out → LayM (f := f) (t := t) ar E n r (br.foldl (rStep f t r) out) ∧ (∀ a ∈ br, at0 out (t a) = (r : Int) → 0 ≤ at0 (br.foldl (rStep f t r) out) (f a)) ∧ ∀ s, 0 ≤ at0 out s → at0 (br.foldl (rStep f t r) out) s = at0 out s
  | [], _, _, _, h => ⟨h, fun a ha => (by cases ha), fun _ _ => rfl⟩
  | b :: br, out, hb, hl, h => by
    obtain ⟨h1, h2, h3⟩ := rStep_lay hl hr h (hb b (by simp))
    obtain ⟨h4, h5, h6⟩ := rFold_lay hr br (rStep f t r out b) (fun x hx => hb x (by simp [hx])) (by rw [rStep_len]; exact hl) h1
    rw [List.foldl_cons]
    refine ⟨h4, fun a ha ht => ?_, fun s hs => by rw [h6 s (by rw [h3 s hs]; exact hs), h3 s hs]⟩
    rcases List.mem_cons.1 ha with rfl | ha
    · have := h2 ht
      rw [h6 _ this]; exact this
    · exact h5 a ha (by rw [h3 _ (by omega)]; exact ht)
theorem rRnd_is {ar : List A} {E : Nat → Prop} {n : Nat} (hr : ∀ a ∈ ar, f a < n ∧ t a < n) {out : List Int} (hl : out.length = n) (h0 : Lay (f := f) (t := t) ar E n 0 out) : ∀ r, Lay (f := f) (t := t) ar E n r (rRnd f t ar out r)
  | 0 => h0
  | r + 1 => by
    have h1 := rRnd_is hr hl h0 r
    have hl2 : (rRnd f t ar out r).length = n := by rw [rRnd_len]; exact hl
    obtain ⟨h2, h3, h4⟩ := rFold_lay hr ar (rRnd f t ar out r) (fun _ h => h) hl2 (fun s hs => ⟨by
      rcases (h1 s hs).1 with h | ⟨d, hd, h5, h6⟩
      · exact .inl h
      · exact .inr ⟨d, by omega, h5, h6⟩, (h1 s hs).2⟩)
    rw [rRnd, rTo_all]
    refine fun s hs => ⟨(h2 s hs).1, fun d hd hD => ?_⟩
    by_cases hdr : d ≤ r
    · exact (h2 s hs).2 d hdr hD
    · obtain rfl : d = r + 1 := by omega
      obtain ⟨a, ha, rfl, hD2⟩ := hD.next
      have h5 := h3 a ha ((h1 (t a) (hr a ha).2).2 r (Nat.le_refl _) hD2)
      rcases (h2 (f a) hs).1 with h6 | ⟨e, _, h6, h7⟩
      · omega
      · rw [h6, hD.uniq h7]
theorem rFar_is {ar : List A} {E : Nat → Prop} {n : Nat} (hr : ∀ a ∈ ar, f a < n ∧ t a < n) {out : List Int} (hl : out.length = n) (h0 : Lay (f := f) (t := t) ar E n 0 out) : IsFar (f := f) (t := t) ar E n (rRnd f t ar out n) := by
  have h1 := rRnd_is hr hl h0 n
  refine ⟨by rw [rRnd_len]; exact hl, fun s hs => ?_⟩
  rcases (h1 s hs).1 with h | ⟨d, _, h2, h3⟩
  · refine .inl ⟨h, fun k hk => ?_⟩
    obtain ⟨d, hd, hD⟩ := Dst.least _ s hk
    have := (h1 s hs).2 d (Nat.le_of_lt (hD.lt hr hs)) hD
    omega
  · exact .inr ⟨d, h2, h3⟩
/-- the beginning: 0 at the ends, -1 elsewhere -/
theorem far_begin {ar : List A} {E : Nat → Prop} {n : Nat} {out : List Int} (h : ∀ s, s < n → (E s → at0 out s = 0) ∧ (¬ E s → at0 out s = -1)) : Snd (f := f) (t := t) ar E n out ∧ Cmp (f := f) (t := t) ar E n 0 out ∧ Lay (f := f) (t := t) ar E n 0 out := by
  refine ⟨fun s hs => ?_, fun s k hs hk hR => ?_, fun s hs => ?_⟩
  · by_cases hE : E s
    · rw [(h s hs).1 hE]; exact ⟨by omega, fun _ => hE⟩
    · rw [(h s hs).2 hE]; exact ⟨by omega, fun h => by omega⟩
  · obtain rfl : k = 0 := by omega
    rw [(h s hs).1 hR]; omega
  · by_cases hE : E s
    · refine ⟨.inr ⟨0, Nat.le_refl _, (h s hs).1 hE, hE, fun _ _ => by omega⟩, fun d hd _ => ?_⟩
      obtain rfl : d = 0 := by omega
      exact (h s hs).1 hE
    · refine ⟨.inl ((h s hs).2 hE), fun d hd hD => ?_⟩
      obtain rfl : d = 0 := by omega
      exact absurd hD.1 hE
end
/-! ## the smallest of the chosen, and all of these -/
section
variable {A S : Type} (sel : A → Bool) (key : A → Int) (add : S → A → S) (S0 : S)
def bestOf (br : List A) : Int := br.foldl (fun b a => if sel a then min b (key a) else b) 6
def accOf (br : List A) (c : A → Bool) : S := br.foldl (fun s a => if c a then add s a else s) S0
/-- both in one pass, begun anew with each smaller one -/
def selStep (p : Int × S) (a : A) : Int × S := if sel a && decide (key a ≤ p.1) then (if key a < p.1 then (key a, add S0 a) else (p.1, add p.2 a)) else p
def selTo (br : List A) : Int × S := br.foldl (selStep sel key add S0) (6, S0)
variable {sel key add S0}
theorem snoc_rec {P : List A → Prop} (h0 : P []) (h : ∀ br a, P br → P (br ++ [a])) : ∀ br, P br := fun br => by
  have : ∀ (k : Nat), k ≤ br.length → P (br.take k) := fun k => by
    induction k with
    | zero => intro _; rw [List.take_zero]; exact h0
    | succ k ih =>
      intro hk
      rw [List.take_add_one, List.getElem?_eq_getElem (by omega)]
      exact h _ _ (ih (by omega))
  have h1 := this br.length (Nat.le_refl _)
  rw [List.take_length] at h1; exact h1
theorem best_snoc (br : List A) (a : A) : bestOf sel key (br ++ [a]) = if sel a then min (bestOf sel key br) (key a) else bestOf sel key br := by
  unfold bestOf; rw [List.foldl_append]; rfl
theorem acc_snoc (br : List A) (c : A → Bool) (a : A) : accOf add S0 (br ++ [a]) c = if c a then add (accOf add S0 br c) a else accOf add S0 br c := by
  unfold accOf; rw [List.foldl_append]; rfl
theorem best_le : ∀ br : List A, bestOf sel key br ≤ 6 ∧ ∀ a ∈ br, sel a = true → bestOf sel key br ≤ key a := by
  refine snoc_rec ⟨Int.le_refl _, fun a ha => by cases ha⟩ fun br a ih => ?_
  rw [best_snoc]
  by_cases hs : sel a = true
  · rw [if_pos hs]
    refine ⟨by have := ih.1; omega, fun x hx hsx => ?_⟩
    rcases List.mem_append.1 hx with hx | hx
    · have := ih.2 x hx hsx; omega
    · rw [List.mem_singleton] at hx; subst hx; omega
  · rw [if_neg hs]
    refine ⟨ih.1, fun x hx hsx => ?_⟩
    rcases List.mem_append.1 hx with hx | hx
    · exact ih.2 x hx hsx
    · rw [List.mem_singleton] at hx; subst hx; exact absurd hsx hs
/-- it is the key of a chosen one, if a chosen one has a key below 6 -/
theorem best_hit : ∀ br : List A, bestOf sel key br = 6 ∨ ∃ a, a ∈ br ∧ sel a = true ∧ bestOf sel key br = key a := by
  refine snoc_rec (.inl rfl) fun br a ih => ?_
  rw [best_snoc]
  by_cases hs : sel a = true
  · rw [if_pos hs]
    by_cases hlt : bestOf sel key br ≤ key a
    · rw [Int.min_eq_left hlt]
      rcases ih with h | ⟨x, hx, h1, h2⟩
      · exact .inl h
      · exact .inr ⟨x, List.mem_append_left _ hx, h1, h2⟩
    · rw [Int.min_eq_right (by omega)]
      exact .inr ⟨a, by simp, hs, rfl⟩
  · rw [if_neg hs]
    rcases ih with h | ⟨x, hx, h1, h2⟩
    · exact .inl h
    · exact .inr ⟨x, List.mem_append_left _ hx, h1, h2⟩
theorem acc_none (c : A → Bool) : ∀ br : List A, (∀ a ∈ br, c a = false) → accOf add S0 br c = S0 := by
  refine snoc_rec (fun _ => rfl) fun br a ih h => ?_
  rw [acc_snoc, h a (by simp)]
  exact ih fun x hx => h x (by simp [hx])
theorem acc_congr {c d : A → Bool} : ∀ br : List A, (∀ a ∈ br, c a = d a) → accOf add S0 br c = accOf add S0 br d := by
  refine snoc_rec (fun _ => rfl) fun br a ih h => ?_
  rw [acc_snoc, acc_snoc, h a (by simp), ih fun x hx => h x (by simp [hx])]
theorem best_congr {s2 : A → Bool} : ∀ br : List A, (∀ a ∈ br, sel a = s2 a) → bestOf sel key br = bestOf s2 key br := by
  refine snoc_rec (fun _ => rfl) fun br a ih h => ?_
  rw [best_snoc, best_snoc, h a (by simp), ih fun x hx => h x (by simp [hx])]
theorem selTo_is : ∀ br : List A, selTo sel key add S0 br = (bestOf sel key br, accOf add S0 br fun a => sel a && key a == bestOf sel key br) := by
  refine snoc_rec rfl fun br a ih => ?_
  have e : selTo sel key add S0 (br ++ [a]) = selStep sel key add S0 (selTo sel key add S0 br) a := by unfold selTo; rw [List.foldl_append]; rfl
  rw [e, ih, best_snoc]
  have hb := (best_le (sel := sel) (key := key) br).2
  unfold selStep
  by_cases hs : sel a = true
  · rw [if_pos hs, hs, Bool.true_and]
    by_cases hle : key a ≤ bestOf sel key br
    · rw [if_pos (decide_eq_true hle)]
      by_cases hlt : key a < bestOf sel key br
      · rw [if_pos hlt, Int.min_eq_right (by omega), acc_snoc, hs]
        have h0 : accOf add S0 br (fun x => sel x && key x == key a) = S0 := acc_none _ br fun x hx => by
          cases hsx : sel x
          · rfl
          · have := hb x hx hsx
            simp; omega
        rw [h0]; simp
      · have he : key a = bestOf sel key br := by omega
        rw [if_neg hlt, Int.min_eq_left (by omega), acc_snoc, hs]
        simp [he]
    · rw [if_neg (by simpa using hle), Int.min_eq_left (by omega), acc_snoc, hs]
      have : (key a == bestOf sel key br) = false := by simp; omega
      rw [this]; rfl
  · have hs' : sel a = false := by simpa using hs
    rw [if_neg (by rw [hs']; simp), if_neg hs, acc_snoc, hs']; rfl
/-- as a list -/
theorem acc_list {B : Type} (g : A → B) (c : A → Bool) : ∀ br : List A, accOf (fun (l : List B) a => l ++ [g a]) [] br c = (br.filter c).map g := by
  refine snoc_rec rfl fun br a ih => ?_
  rw [acc_snoc, ih, List.filter_append, List.map_append]
  cases hc : c a <;> simp [hc]
theorem selTo_next {br : List A} {k : Nat} (hk : k < br.length) : selTo sel key add S0 (br.take (k + 1)) = selStep sel key add S0 (selTo sel key add S0 (br.take k)) br[k] := foldl_take_succ _ _ _ hk
theorem bestOf_next {br : List A} {k : Nat} (hk : k < br.length) : bestOf sel key (br.take (k + 1)) = if sel br[k] then min (bestOf sel key (br.take k)) (key br[k]) else bestOf sel key (br.take k) := by
  unfold bestOf; rw [foldl_take_succ _ _ _ hk]
end
end Go.Proofs.Ytpbflkbelhlogaa
