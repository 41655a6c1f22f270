/- A school by orders: what always holds, and what follows of it. Plain. -/
import Derived.Test.YtpmlcfgbfhgpgaaGreatDoorJoinA
namespace Go.Proofs.YtpmlcfgbfhgpgaaGreatDoor
open Go.RowKit
set_option linter.unusedVariables false
theorem errS_all {s : List Rul} : errS s = 0 ↔ ∀ r ∈ s, validR r = 0 := by
 induction s with
 | nil => simp [errS]
 | cons x s ih =>
  simp only [errS, List.mem_cons, forall_eq_or_imp]
  by_cases h : validR x = 0
  ·rw [if_pos h, ih]; simp [h]
  ·rw [if_neg h]; simp [h]
theorem validS_zero {s : List Rul} : validS s = 0 ↔ s.length ≤ 6 ∧ ∀ r ∈ s, validR r = 0 := by
 unfold validS
 by_cases h : 6 < s.length
 ·rw [if_pos h]
  exact ⟨fun h => (by cases h), fun h2 => (by omega)⟩
 ·rw [if_neg h, errS_all]
  exact ⟨fun h2 => ⟨by omega, h2⟩, fun h2 => h2.2⟩
theorem rulAt_mem {s : List Rul} {k : Nat} (h : k < s.length) : rulAt s k ∈ s := by
 unfold rulAt; rw [List.getElem?_eq_getElem h]; exact List.getElem_mem h
theorem inB_iff {n a b : Int} : inB n a b = true ↔ a ≤ n ∧ n ≤ b := by unfold inB; simp
theorem allB_iff {n : Nat} {f : Nat → Bool} : allB n f = true ↔ ∀ i, i < n → f i = true := by
 unfold allB; rw [List.all_eq_true]; simp
theorem all_at {l : List Int} {p : Int → Prop} : (∀ g ∈ l, p g) ↔ ∀ i, i < l.length → p (l[i]?.getD 0) := by
 constructor
 ·intro h i hi
  rw [List.getElem?_eq_getElem hi]; exact h _ (List.getElem_mem hi)
 ·intro h g hg
  obtain ⟨i, hi, rfl⟩ := List.mem_iff_getElem.1 hg
  have := h i hi
  rwa [List.getElem?_eq_getElem hi] at this
theorem nodup_dup {gs : List Int} : gs.Nodup ↔ ∀ i, i < gs.length → dupG gs i = false := by
 unfold List.Nodup
 rw [List.pairwise_iff_getElem]
 constructor
 ·intro h i hi
  unfold dupG
  rw [hasB_eq, List.getElem?_eq_getElem hi, Option.getD_some]
  cases hc : (gs.take i).contains gs[i]
  ·rfl
  ·exfalso
   obtain ⟨j, hj, e⟩ := List.mem_iff_getElem.1 (List.contains_iff_mem.1 hc)
   rw [List.length_take] at hj
   rw [List.getElem_take] at e
   exact h j i (by omega) hi (by omega) e
 ·intro h i j hi hj hij e
  have := h j hj
  unfold dupG at this
  rw [hasB_eq, List.getElem?_eq_getElem hj, Option.getD_some] at this
  have hm : gs[j] ∈ gs.take j := List.mem_iff_getElem.2 ⟨i, by rw [List.length_take]; omega, by rw [List.getElem_take]; exact e⟩
  rw [List.contains_iff_mem.2 hm] at this
  cases this
theorem validG_zero {gs : List Int} : validG gs = 0 ↔ gs.length ≤ 4 ∧ (∀ g ∈ gs, 1 ≤ g ∧ g ≤ 4) ∧ gs.Nodup := by
 have ho : outG gs = false ↔ ∀ g ∈ gs, 1 ≤ g ∧ g ≤ 4 := by
  unfold outG
  rw [Bool.not_eq_false', allB_iff, all_at]
  simp only [inB_iff]
 have hd : allB gs.length (fun i => !dupG gs i) = true ↔ gs.Nodup := by
  rw [allB_iff, nodup_dup]; simp
 unfold validG
 by_cases h : 4 < gs.length
 ·rw [if_pos h]
  exact ⟨fun h => (by cases h), fun h2 => (by omega)⟩
 ·rw [if_neg h]
  cases h1 : outG gs
  ·rw [if_neg (by decide)]
   by_cases h2 : allB gs.length (fun i => !dupG gs i) = true
   ·rw [if_pos h2]
    exact ⟨fun _ => ⟨by omega, ho.1 h1, hd.1 h2⟩, fun _ => rfl⟩
   ·rw [if_neg h2]
    exact ⟨fun h => (by cases h), fun h3 => absurd (hd.2 h3.2.2) h2⟩
  ·rw [if_pos rfl]
   exact ⟨fun h => (by cases h), fun h3 => by rw [ho.2 h3.2.1] at h1; cases h1⟩
theorem nodup_len {α : Type} [DecidableEq α] : ∀ {l k : List α}, l.Nodup → (∀ x ∈ l, x ∈ k) → l.length ≤ k.length
 | [], k, _, _ => by simp
 | x :: l, k, hd, hk => by
  rw [List.nodup_cons] at hd
  have hx := hk x (by simp)
  have := nodup_len (l := l) (k := k.erase x) hd.2 (fun y hy => (List.mem_erase_of_ne (fun e => hd.1 (by rw [← e]; exact hy))).2 (hk y (by simp [hy])))
  rw [List.length_erase_of_mem hx] at this
  have := List.length_pos_of_mem hx
  simp only [List.length_cons]; omega
theorem gr_len {gs : List Int} (h : ∀ g ∈ gs, 1 ≤ g ∧ g ≤ 4) (hd : gs.Nodup) : gs.length ≤ 4 :=
 nodup_len (k := [1, 2, 3, 4]) hd (fun x hx => by
  have := h x hx
  have : x = 1 ∨ x = 2 ∨ x = 3 ∨ x = 4 := by omega
  simpa using this)
theorem pair_len : ∀ (l : List Int) (a n : Int), l.Pairwise (· < ·) → (∀ k ∈ l, a ≤ k ∧ k < n) → a ≤ n → (l.length : Int) ≤ n - a
 | [], a, n, _, _, h => by simp; omega
 | x :: l, a, n, hp, hr, h => by
  have hx := hr x (by simp)
  rw [List.pairwise_cons] at hp
  have := pair_len l (x + 1) n hp.2 (fun k hk => ⟨by have := hp.1 k hk; omega, (hr k (by simp [hk])).2⟩) (by omega)
  simp only [List.length_cons]; omega
theorem beats_le (s : List Rul) (w : List Int) (a b : Stp) : ∀ gs : List Int, (∀ g ∈ gs, 1 ≤ g ∧ g ≤ 4) → -4 ≤ beatsZ s w gs a b ∧ beatsZ s w gs a b ≤ 4 := by
 intro gs
 induction gs with
 | nil => intro _; simp [beatsZ]
 | cons g gs ih =>
  intro h
  simp only [beatsZ]
  have hg := h g (by simp)
  split
  ·exact ih fun k hk => h k (by simp [hk])
  ·have hd : decZ s w g a b = 1 ∨ decZ s w g a b = -1 ∨ decZ s w g a b = 0 := by
    unfold decZ; repeat' split
    all_goals simp
   rcases hd with e | e | e <;> rw [e] <;> omega
theorem win_some {s : List Rul} {w gs : List Int} {c : Ch} (h : winS s w gs = some c) (hg : ∀ g ∈ gs, 1 ≤ g ∧ g ≤ 4) :
  c.1 < s.length ∧ 0 ≤ c.2.1 ∧ c.2.1 ≤ w.length ∧ applyK (rulAt s c.1) w c.2.1 = 0 ∧ 0 ≤ c.2.2 ∧ c.2.2 ≤ 4 := by
 unfold winS winL at h
 by_cases h0 : (movesL s w).length = 0
 ·rw [if_pos h0] at h; cases h
 ·rw [if_neg h0] at h
  split at h
  ·injection h with h; subst h
   obtain ⟨a1, a2, a3, a4⟩ := moves_at (s := s) (w := w) (i := (movesL s w).length - 1) (by omega)
   exact ⟨a1, a2, a3, a4, by simp, by simp⟩
  ·rename_i hb
   injection h with h; subst h
   rcases firstIdx_cases (movesL s w).length (bestB s w gs (movesL s w)) with ⟨j, hj, ht, _, he⟩ | ⟨_, he⟩
   ·have he' : (bestI s w gs (movesL s w)).toNat = j := by unfold bestI; rw [he]; simp
    rw [he']
    obtain ⟨a1, a2, a3, a4⟩ := moves_at (s := s) (w := w) hj
    refine ⟨a1, a2, a3, a4, ?_⟩
    unfold groundI
    simp only
    by_cases h1 : 1 < (movesL s w).length
    ·rw [if_pos h1]
     have hk : (if j = 0 then 1 else 0) < (movesL s w).length ∧ (if j = 0 then 1 else 0) ≠ j := by
      by_cases e : j = 0
      ·rw [if_pos e]; omega
      ·rw [if_neg e]; omega
     generalize (if j = 0 then 1 else 0) = k at *
     have := allB_iff.1 ht k hk.1
     have hne : (k == j) = false := by simpa using hk.2
     rw [hne, Bool.false_or, decide_eq_true_eq] at this
     exact ⟨by omega, (beats_le s w _ _ gs hg).2⟩
    ·rw [if_neg h1]; simp
   ·exfalso
    unfold bestI at hb
    rw [he] at hb
    omega
theorem InvE.kl {s : List Rul} {x : St} (h : InvE s x) : x.kn.length ≤ s.length := by
 have := pair_len x.kn 0 s.length h.knS h.knR (by omega)
 omega
theorem InvE.s6 {s : List Rul} {x : St} (h : InvE s x) : s.length ≤ 6 := (validS_zero.1 h.rules).1
theorem sysL_at {s : List Rul} {x : St} {i : Nat} (h : i < x.kn.length) : rulAt (sysL s x) i = rulAt s (x.kn[i]?.getD 0).toNat := by
 unfold sysL
 conv => lhs; unfold rulAt
 rw [List.getElem?_map, List.getElem?_eq_getElem h]
 rfl
theorem sysL_len (s : List Rul) (x : St) : (sysL s x).length = x.kn.length := by unfold sysL; simp
theorem InvE.sys {s : List Rul} {x : St} (h : InvE s x) : validS (sysL s x) = 0 := by
 rw [validS_zero, sysL_len]
 refine ⟨by have := h.kl; have := h.s6; omega, fun r hr => ?_⟩
 unfold sysL at hr
 obtain ⟨k, hk, rfl⟩ := List.mem_map.1 hr
 have := h.knR k hk
 exact (validS_zero.1 h.rules).2 _ (rulAt_mem (by omega))
theorem InvE.gOk {s : List Rul} {x : St} (h : InvE s x) : ∀ g ∈ x.gr, 1 ≤ g ∧ g ≤ 4 := (validG_zero.1 h.gr).2.1
theorem InvE.last {s : List Rul} {x : St} (h : InvE s x) : validW (lastW x) = 0 := by
 unfold lastW
 cases hn : x.words[x.words.length - 1]? with
 | none => rfl
 | some v => exact h.wv v (List.mem_of_getElem? hn)
theorem InvE.check {s : List Rul} {x : St} (h : InvE s x) : checkK (sysL s x) (lastW x) x.gr = 0 := by
 have hw : checkW (sysL s x) (lastW x) = 0 := by unfold checkW; rw [if_pos h.sys]; exact h.last
 unfold checkK; rw [if_pos hw]; exact h.gr
theorem choose_some {s : List Rul} {x : St} {c : Ch} (h : InvE s x) (hc : chooseS s x = some c) :
  c.1 < s.length ∧ applyK (rulAt s c.1) (lastW x) c.2.1 = 0 ∧ 0 ≤ c.2.1 ∧ c.2.1 ≤ 8 ∧ 0 ≤ c.2.2 ∧ c.2.2 ≤ 4 := by
 unfold chooseS at hc
 obtain ⟨d, hd, rfl⟩ := Option.map_eq_some_iff.1 hc
 obtain ⟨a1, a2, a3, a4, a5, a6⟩ := win_some hd h.gOk
 rw [sysL_len] at a1
 rw [sysL_at a1] at a4
 have hk := h.knR (x.kn[d.1]) (List.getElem_mem a1)
 have hl : (lastW x).length ≤ 8 := by
  have := h.last
  unfold validW at this
  split at this
  ·cases this
  ·omega
 refine ⟨?_, a4, a2, (by show d.2.1 ≤ 8; omega), a5, a6⟩
 simp only [List.getElem?_eq_getElem a1, Option.getD_some]
 omega
theorem apply_zeroS {x : Rul} {l : List Int} {i : Int} (h : applyK x l i = 0) : wordK x l = 0 ∧ (applyL x l i).length ≤ 8 ∧ sndB (applyL x l i) = true := by
 unfold applyK at h
 split at h
 ·rename_i h0
  refine ⟨h0, ?_⟩
  obtain ⟨G, hl8, hsn⟩ := wordK_zero h0
  rw [applyL, if_pos h0]
  cases hp : placeB x l i
  ·rw [hp] at h; simp [apK] at h
  ·rw [hp] at h
   simp only [apK, cond_true, shortK] at h
   simp only [apL, cond_true, shortL]
   split at h
   ·omega
   ·rename_i h8
    rw [if_neg h8]
    exact ⟨by omega, sndB_put hsn G.snd⟩
 ·rename_i h0; exact absurd h h0
theorem apply_valid {x : Rul} {l : List Int} {i : Int} (h : applyK x l i = 0) : validW (applyL x l i) = 0 := by
 obtain ⟨_, h8, hs⟩ := apply_zeroS h
 unfold validW
 rw [if_neg (by omega), if_pos hs]
theorem InvE.wl {s : List Rul} {x : St} (h : InvE s x) (hh : x.has = true) : lastW x = x.words[x.slate.length]?.getD [] := by
 unfold lastW; rw [h.wlen hh]; rfl
theorem InvE.stepTo {s : List Rul} {x : St} {c : Ch} (h : InvE s x) (hh : x.has = true) (hc : chooseS s x = some c) (h60 : x.slate.length ≠ 60) : InvE s (stepTo s x c) := by
 obtain ⟨c1, c2, c3, c4, c5, c6⟩ := choose_some h hc
 have hwl := h.wlen hh
 have hl := h.wl hh
 refine ⟨h.rules, h.knS, h.knR, h.gr, fun _ => ?_, fun _ => ?_, fun hf => ?_, fun w hw => ?_, fun i d hd => ?_, ?_, h.formsN, h.formsV⟩
 ·simp [Go.Proofs.YtpmlcfgbfhgpgaaGreatDoor.stepTo]; omega
 ·have := h.w0 hh
  have h0 : 0 < x.words.length := by omega
  show (x.words ++ [_])[0]? = some x.base
  rw [List.getElem?_append_left h0]; exact this
 ·exfalso
  have hf : x.has = false := hf
  rw [hh] at hf; cases hf
 ·have hw : w ∈ x.words ++ [applyL (rulAt s c.1) (lastW x) c.2.1] := hw
  rcases List.mem_append.1 hw with hw | hw
  ·exact h.wv w hw
  ·simp only [List.mem_singleton] at hw; subst hw
   exact apply_valid c2
 ·have hd : (x.slate ++ [c])[i]? = some d := hd
  show _ ∧ _ ∧ applyK _ ((x.words ++ [_])[i]?.getD []) _ = 0 ∧ (x.words ++ [_])[i + 1]? = some (applyL _ ((x.words ++ [_])[i]?.getD []) _)
  rcases Nat.lt_trichotomy i x.slate.length with hi | hi | hi
  ·rw [List.getElem?_append_left hi] at hd
   rw [List.getElem?_append_left (by omega), List.getElem?_append_left (by omega)]
   exact h.made i d hd
  ·rw [List.getElem?_append_right (by omega), hi, Nat.sub_self] at hd
   have hd : c = d := by simpa using hd
   subst hd
   rw [List.getElem?_append_left (by omega), List.getElem?_append_right (by omega), hi, ← hl]
   refine ⟨c1, ⟨c5, c6⟩, c2, ?_⟩
   rw [show x.slate.length + 1 - x.words.length = 0 by omega]
   rfl
  ·rw [List.getElem?_eq_none (by simp; omega)] at hd; cases hd
 ·show (x.slate ++ [c]).length ≤ 60
  have := h.slen
  simp; omega
structure Kept (x y : St) : Prop where
 kn : y.kn = x.kn
 gr : y.gr = x.gr
 has : y.has = x.has
 base : y.base = x.base
 forms : y.forms = x.forms
 orders : y.orders = x.orders
theorem Kept.refl (x : St) : Kept x x := ⟨rfl, rfl, rfl, rfl, rfl, rfl⟩
theorem Kept.trans {x y z : St} (h : Kept x y) (k : Kept y z) : Kept x z := ⟨k.kn.trans h.kn, k.gr.trans h.gr, k.has.trans h.has, k.base.trans h.base, k.forms.trans h.forms, k.orders.trans h.orders⟩
theorem adv_cases (s : List Rul) (x : St) : (chooseS s x = none ∧ advS s x = (x, 6)) ∨ (∃ c, chooseS s x = some c ∧ x.slate.length = 60 ∧ advS s x = (x, 3)) ∨ (∃ c, chooseS s x = some c ∧ x.slate.length ≠ 60 ∧ advS s x = (stepTo s x c, 0)) := by
 unfold advS
 cases h : chooseS s x with
 | none => exact .inl ⟨rfl, rfl⟩
 | some c =>
  refine .inr ?_
  by_cases h60 : x.slate.length = 60
  ·exact .inl ⟨c, rfl, h60, by simp only [if_pos h60]⟩
  ·exact .inr ⟨c, rfl, h60, by simp only [if_neg h60]⟩
theorem adv_inv {s : List Rul} {x : St} (h : InvE s x) (hh : x.has = true) : InvE s (advS s x).1 ∧ Kept x (advS s x).1 := by
 rcases adv_cases s x with ⟨_, e⟩ | ⟨c, _, _, e⟩ | ⟨c, hc, h60, e⟩
 ·rw [e]; exact ⟨h, Kept.refl x⟩
 ·rw [e]; exact ⟨h, Kept.refl x⟩
 ·rw [e]; exact ⟨h.stepTo hh hc h60, ⟨rfl, rfl, rfl, rfl, rfl, rfl⟩⟩
theorem end_inv {s : List Rul} : ∀ (n : Nat) {x : St}, InvE s x → x.has = true → InvE s (endS s n x).1 ∧ Kept x (endS s n x).1 := by
 intro n
 induction n with
 | zero => intro x h hh; exact ⟨h, Kept.refl x⟩
 | succ n ih =>
  intro x h hh
  rw [endS]
  split
  ·obtain ⟨a1, a2⟩ := adv_inv h hh
   obtain ⟨b1, b2⟩ := ih a1 (by rw [a2.has]; exact hh)
   exact ⟨b1, a2.trans b2⟩
  ·split <;> exact ⟨h, Kept.refl x⟩
theorem ins_pair {l : List Int} {n : Int} (h : l.Pairwise (· < ·)) : (l.filter (· < n) ++ n :: l.filter (n < ·)).Pairwise (· < ·) := by
 rw [List.pairwise_append, List.pairwise_cons]
 refine ⟨h.filter _, ⟨fun y hy => ?_, h.filter _⟩, fun y hy z hz => ?_⟩
 ·have := (List.mem_filter.1 hy).2; simpa using this
 ·have h1 := (List.mem_filter.1 hy).2
  have h1 : y < n := by simpa using h1
  rcases List.mem_cons.1 hz with rfl | hz
  ·exact h1
  ·have h2 := (List.mem_filter.1 hz).2
   have h2 : n < z := by simpa using h2
   omega
structure KeptT (x y : St) : Prop where
 has : y.has = x.has
 base : y.base = x.base
 words : y.words = x.words
 slate : y.slate = x.slate
 forms : y.forms = x.forms
 orders : y.orders = x.orders
theorem KeptT.refl (x : St) : KeptT x x := ⟨rfl, rfl, rfl, rfl, rfl, rfl⟩
theorem InvE.setKn {s : List Rul} {x : St} (h : InvE s x) (l : List Int) (hp : l.Pairwise (· < ·)) (hr : ∀ k ∈ l, 0 ≤ k ∧ k < s.length) : InvE s { x with kn := l } :=
 ⟨h.rules, hp, hr, h.gr, h.wlen, h.w0, h.none_, h.wv, h.made, h.slen, h.formsN, h.formsV⟩
theorem InvE.setGr {s : List Rul} {x : St} (h : InvE s x) (l : List Int) (hg : validG l = 0) : InvE s { x with gr := l } :=
 ⟨h.rules, h.knS, h.knR, hg, h.wlen, h.w0, h.none_, h.wv, h.made, h.slen, h.formsN, h.formsV⟩
theorem teach_inv {s : List Rul} {x : St} (h : InvE s x) (c : Cmd) : InvE s (teachS s x c).1 ∧ KeptT x (teachS s x c).1 := by
 cases c with
 | learn n =>
  simp only [teachS]
  split
  ·exact ⟨h, KeptT.refl x⟩
  ·split
   ·exact ⟨h, KeptT.refl x⟩
   ·refine ⟨h.setKn _ (ins_pair h.knS) fun k hk => ?_, ⟨rfl, rfl, rfl, rfl, rfl, rfl⟩⟩
    rcases List.mem_append.1 hk with hk | hk
    ·exact h.knR k (List.mem_filter.1 hk).1
    ·rcases List.mem_cons.1 hk with rfl | hk
     ·omega
     ·exact h.knR k (List.mem_filter.1 hk).1
 | forget n =>
  simp only [teachS]
  split
  ·exact ⟨h, KeptT.refl x⟩
  ·split
   ·exact ⟨h.setKn _ (h.knS.filter _) fun k hk => h.knR k (List.mem_filter.1 hk).1, ⟨rfl, rfl, rfl, rfl, rfl, rfl⟩⟩
   ·exact ⟨h, KeptT.refl x⟩
 | change n =>
  simp only [teachS]
  obtain ⟨g1, g2, g3⟩ := validG_zero.1 h.gr
  split
  ·exact ⟨h, KeptT.refl x⟩
  ·rename_i hn
   split
   ·refine ⟨h.setGr _ (validG_zero.2 ⟨?_, fun g hg => g2 g (List.mem_filter.1 hg).1, g3.filter _⟩), ⟨rfl, rfl, rfl, rfl, rfl, rfl⟩⟩
    have := List.length_filter_le (· != (n : Int)) x.gr
    omega
   ·rename_i hh
    rw [hasB_eq] at hh
    have hn2 : (n : Int) ∉ x.gr := fun hm => hh (by simpa using hm)
    have h2 : ∀ g ∈ x.gr ++ [(n : Int)], 1 ≤ g ∧ g ≤ 4 := fun g hg => by
     rcases List.mem_append.1 hg with hg | hg
     ·exact g2 g hg
     ·simp only [List.mem_singleton] at hg; omega
    have h3 : (x.gr ++ [(n : Int)]).Nodup := by
     rw [List.nodup_append]
     refine ⟨g3, by simp, fun a ha b hb e => ?_⟩
     simp only [List.mem_singleton] at hb
     subst hb; subst e; exact hn2 ha
    exact ⟨h.setGr _ (validG_zero.2 ⟨gr_len h2 h3, h2, h3⟩), ⟨rfl, rfl, rfl, rfl, rfl, rfl⟩⟩
 | read w => exact ⟨h, KeptT.refl x⟩
 | step => exact ⟨h, KeptT.refl x⟩
 | fin => exact ⟨h, KeptT.refl x⟩
 | undo => exact ⟨h, KeptT.refl x⟩
 | say => exact ⟨h, KeptT.refl x⟩
def CmdOk : Cmd → Prop
 | .read w => validW w = 0
 | _ => True
theorem sndOf_some {r : Bs} {w : List Int} (h : sndOf r = some w) : 1 ≤ r.length ∧ r.length ≤ 8 ∧ (∀ b ∈ r, 48 ≤ b.toNat ∧ b.toNat ≤ 53) ∧ w = r.map fun b => (b.toNat : Int) - 48 := by
 unfold sndOf at h
 split at h
 ·rename_i hc
  injection h with h
  simp only [Bool.and_eq_true, decide_eq_true_eq, List.all_eq_true] at hc
  exact ⟨hc.1.1, hc.1.2, fun b hb => hc.2 b hb, h.symm⟩
 ·cases h
theorem sndOf_valid {r : Bs} {w : List Int} (h : sndOf r = some w) : validW w = 0 := by
 obtain ⟨h1, h2, h3, rfl⟩ := sndOf_some h
 unfold validW
 rw [List.length_map, if_neg (by omega), if_pos]
 unfold sndB
 rw [allB_iff]
 intro i hi
 rw [List.length_map] at hi
 rw [List.getElem?_map, List.getElem?_eq_getElem hi]
 have := h3 _ (List.getElem_mem hi)
 rw [inB_iff]
 simp only [Option.map_some, Option.getD_some]
 omega
theorem parse_ok {t : Bs} {c : Cmd} (h : parseB t = some c) : CmdOk c := by
 cases c with
 | read w =>
  rw [parseB_form] at h
  split at h
  ·cases h
  ·split at h
   ·cases h
   ·rename_i k wh hf
    split at h
    ·cases h
    ·split at h
     ·obtain ⟨n, _, e⟩ := Option.map_eq_some_iff.1 h
      rcases formOf_cases hf with ⟨_, a, b⟩ | ⟨_, a, b⟩ | ⟨_, a⟩
      ·have := (cmdOf_none a b).1
       omega
      ·have := (cmdOf_num n a b).1
       rw [e] at this; simp only [kindC] at this; omega
      ·omega
     ·split at h
      ·obtain ⟨u, hu, e⟩ := Option.map_eq_some_iff.1 h
       rcases formOf_cases hf with ⟨_, a, b⟩ | ⟨_, a, b⟩ | ⟨_, rfl⟩
       ·omega
       ·omega
       ·have := (cmdOf_read u).2.2
        rw [e] at this
        simp only [wordC] at this
        subst this
        exact sndOf_valid hu
      ·injection h with e
       rcases formOf_cases hf with ⟨_, a, b⟩ | ⟨_, a, b⟩ | ⟨_, rfl⟩
       ·have := (cmdOf_none a b).1
        rw [e] at this; simp only [kindC] at this; omega
       ·omega
       ·omega
 | _ => trivial
theorem InvE.ext {s : List Rul} {x : St} (h : InvE s x) (l : List ByteArray) : InvE s { x with orders := l } :=
 ⟨h.rules, h.knS, h.knR, h.gr, h.wlen, h.w0, h.none_, h.wv, h.made, h.slen, h.formsN, h.formsV⟩
theorem exec_inv {s : List Rul} {x : St} (h : InvE s x) (c : Cmd) (hc : CmdOk c) : InvE s (execS s x c).1 ∧ (execS s x c).1.orders = x.orders ∧ (execS s x c).1.forms.length ≤ x.forms.length + 1 := by
 have hk : ∀ y : St, InvE s y ∧ KeptT x y → InvE s y ∧ y.orders = x.orders ∧ y.forms.length ≤ x.forms.length + 1 := fun y hy => ⟨hy.1, hy.2.orders, by rw [hy.2.forms]; omega⟩
 have hk2 : ∀ y : St, InvE s y ∧ Kept x y → InvE s y ∧ y.orders = x.orders ∧ y.forms.length ≤ x.forms.length + 1 := fun y hy => ⟨hy.1, hy.2.orders, by rw [hy.2.forms]; omega⟩
 have h0 : InvE s x ∧ x.orders = x.orders ∧ x.forms.length ≤ x.forms.length + 1 := ⟨h, rfl, by omega⟩
 cases c with
 | learn n => exact hk _ (teach_inv h (.learn n))
 | forget n => exact hk _ (teach_inv h (.forget n))
 | change n => exact hk _ (teach_inv h (.change n))
 | read w =>
  refine ⟨⟨h.rules, h.knS, h.knR, h.gr, fun _ => rfl, fun _ => rfl, fun hf => (by cases hf), fun v hv => ?_, fun i c hc => ?_, (by simp [execS]), h.formsN, h.formsV⟩, rfl, by simp [execS]⟩
  ·have hv : v ∈ [w] := hv
   simp only [List.mem_singleton] at hv; subst hv; exact hc
  ·have hc : ([] : List Ch)[i]? = some c := hc
   simp at hc
 | step =>
  simp only [execS]
  split
  ·rename_i hh; exact hk2 _ (adv_inv h hh)
  ·exact h0
 | fin =>
  simp only [execS]
  split
  ·rename_i hh; exact hk2 _ (end_inv 61 h hh)
  ·exact h0
 | undo =>
  simp only [execS]
  split
  ·rename_i hh
   split
   ·exact h0
   ·rename_i hn
    have hwl := h.wlen hh
    refine ⟨⟨h.rules, h.knS, h.knR, h.gr, fun _ => ?_, fun _ => ?_, fun hf => ?_, fun v hv => ?_, fun i c hc => ?_, ?_, h.formsN, h.formsV⟩, rfl, by simp⟩
    ·simp only [List.length_take]; omega
    ·simp only
     rw [List.getElem?_take_of_lt (by omega)]
     exact h.w0 hh
    ·have hf : x.has = false := hf
     rw [hh] at hf; cases hf
    ·exact h.wv v (List.mem_of_mem_take hv)
    ·simp only at hc ⊢
     have hi : i < x.slate.length - 1 := by
      rcases Nat.lt_or_ge i (x.slate.length - 1) with hi | hi
      ·exact hi
      ·rw [List.getElem?_eq_none (by simp; omega)] at hc; cases hc
     rw [List.getElem?_take_of_lt hi] at hc
     rw [List.getElem?_take_of_lt (by omega), List.getElem?_take_of_lt (by omega)]
     exact h.made i c hc
    ·have := h.slen
     simp only [List.length_take]; omega
  ·exact h0
 | say =>
  simp only [execS]
  split
  ·split
   ·exact h0
   ·split
    ·exact h0
    ·rename_i hh _ hcn hf
     refine ⟨⟨h.rules, h.knS, h.knR, h.gr, h.wlen, h.w0, h.none_, h.wv, h.made, h.slen, ?_, ?_⟩, rfl, by simp⟩
     ·simp only
      rw [List.nodup_append]
      refine ⟨h.formsN, by simp, fun a ha b hb e => ?_⟩
      simp only [List.mem_singleton] at hb
      subst hb; subst e
      exact hf (List.contains_iff_mem.2 ha)
     ·intro w hw
      simp only at hw
      rcases List.mem_append.1 hw with hw | hw
      ·exact h.formsV w hw
      ·simp only [List.mem_singleton] at hw; subst hw; exact h.last
  ·exact h0
theorem do_cases (s : List Rul) (x : St) (t : ByteArray) : ((doS s x t).2 ≠ 0 ∧ (doS s x t).1 = x) ∨ (∃ c, parseB t.data.toList = some c ∧ x.orders.length < 100 ∧ (execS s x c).2 = 0 ∧ doS s x t = ({ (execS s x c).1 with orders := x.orders ++ [t] }, 0)) := by
 unfold doS
 cases h : parseB t.data.toList with
 | none => exact .inl ⟨by simp, rfl⟩
 | some c =>
  simp only
  by_cases h1 : 100 ≤ x.orders.length
  ·rw [if_pos h1]; exact .inl ⟨by simp, rfl⟩
  ·rw [if_neg h1]
   by_cases h2 : (execS s x c).2 = 0
   ·rw [if_pos h2]; exact .inr ⟨c, rfl, by omega, h2, rfl⟩
   ·rw [if_neg h2]; exact .inl ⟨h2, rfl⟩
theorem inv_new {s : List Rul} (h : validS s = 0) : Inv s st0 where
 rules := h
 knS := by simp [st0]
 knR := by simp [st0]
 gr := by decide
 wlen := by simp [st0]
 w0 := by simp [st0]
 none_ := by simp [st0]
 wv := by simp [st0]
 made := by simp [st0]
 slen := by simp [st0]
 formsN := by simp [st0]
 formsV := by simp [st0]
 formsL := by simp [st0]
 olen := by simp [st0]
 oR := by simp [st0]
theorem do_inv {s : List Rul} {x : St} (h : Inv s x) (t : ByteArray) : Inv s (doS s x t).1 := by
 rcases do_cases s x t with ⟨_, e⟩ | ⟨c, hc, ho, _, e⟩
 ·rw [e]; exact h
 ·obtain ⟨a1, a2, a3⟩ := exec_inv h.toInvE c (parse_ok hc)
  rw [e]
  refine ⟨a1.ext _, ?_, ?_, fun o ho2 => ?_⟩
  ·have := h.formsL
   simp only [List.length_append, List.length_cons, List.length_nil]; omega
  ·simp only [List.length_append, List.length_cons, List.length_nil]; omega
  ·simp only at ho2
   rcases List.mem_append.1 ho2 with ho2 | ho2
   ·exact h.oR o ho2
   ·simp only [List.mem_singleton] at ho2; subst ho2; rw [hc]; rfl
theorem do_refused {s : List Rul} {x : St} {t : ByteArray} (h : (doS s x t).2 ≠ 0) : (doS s x t).1 = x := by
 rcases do_cases s x t with ⟨_, e⟩ | ⟨c, _, _, _, e⟩
 ·exact e
 ·rw [e] at h; exact absurd rfl h
theorem do_orders {s : List Rul} {x : St} {t : ByteArray} (h : (doS s x t).2 = 0) : (doS s x t).1.orders = x.orders ++ [t] ∧ (parseB t.data.toList).isSome = true ∧ x.orders.length < 100 := by
 rcases do_cases s x t with ⟨h2, _⟩ | ⟨c, hc, ho, _, e⟩
 ·exact absurd h h2
 ·rw [e]; exact ⟨rfl, by rw [hc]; rfl, ho⟩
theorem runS_append (s : List Rul) (x : St) (a b : List ByteArray) : runS s x (a ++ b) = runS s (runS s x a) b := by
 induction a generalizing x with
 | nil => rfl
 | cons t a ih => simp [runS, ih]
def okS (s : List Rul) (x : St) : List ByteArray → Bool
 | [] => true
 | t :: ts => (doS s x t).2 == 0 && okS s (doS s x t).1 ts
theorem okS_append (s : List Rul) (x : St) (a b : List ByteArray) : okS s x (a ++ b) = (okS s x a && okS s (runS s x a) b) := by
 induction a generalizing x with
 | nil => simp [okS, runS]
 | cons t a ih => simp [okS, runS, ih, Bool.and_assoc]
structure MadeS (s : List Rul) (x : St) : Prop where
 run : runS s st0 x.orders = x
 ok : okS s st0 x.orders = true
theorem made_new (s : List Rul) : MadeS s st0 := ⟨rfl, rfl⟩
theorem made_do {s : List Rul} {x : St} (h : MadeS s x) (t : ByteArray) : MadeS s (doS s x t).1 := by
 by_cases hz : (doS s x t).2 = 0
 ·have ho := (do_orders hz).1
  refine ⟨?_, ?_⟩
  ·rw [ho, runS_append, h.run]; rfl
  ·rw [ho, okS_append, h.ok, h.run]; simp [okS, hz]
 ·rw [do_refused hz]; exact h
theorem run_inv {s : List Rul} : ∀ (ts : List ByteArray) {x : St}, Inv s x → MadeS s x → Inv s (runS s x ts) ∧ MadeS s (runS s x ts) := by
 intro ts
 induction ts with
 | nil => intro x h k; exact ⟨h, k⟩
 | cons t ts ih => intro x h k; exact ih (do_inv h t) (made_do k t)
theorem ok_orders {s : List Rul} : ∀ (ts : List ByteArray) {x : St}, okS s x ts = true → (runS s x ts).orders = x.orders ++ ts := by
 intro ts
 induction ts with
 | nil => intro x _; simp [runS]
 | cons t ts ih =>
  intro x h
  simp only [okS, Bool.and_eq_true, beq_iff_eq] at h
  rw [runS, ih h.2, (do_orders h.1).1]
  simp
theorem made_take {s : List Rul} {x : St} (h : MadeS s x) (n : Nat) : okS s st0 (x.orders.take n) = true ∧ (runS s st0 (x.orders.take n)).orders = x.orders.take n ∧ okS s (runS s st0 (x.orders.take n)) (x.orders.drop n) = true ∧ runS s (runS s st0 (x.orders.take n)) (x.orders.drop n) = x := by
 have h1 := h.ok
 rw [← List.take_append_drop n x.orders, okS_append, Bool.and_eq_true] at h1
 refine ⟨h1.1, ?_, h1.2, ?_⟩
 ·rw [ok_orders _ h1.1]; rfl
 ·rw [← runS_append, List.take_append_drop]; exact h.run
theorem numOf_digits {r : Bs} {n : Nat} (h : numOf r = some n) : (∀ b ∈ r, 48 ≤ b.toNat ∧ b.toNat ≤ 57) ∧ n ≤ 99 := by
 unfold numOf at h
 split at h
 ·split at h
  ·rename_i a hd
   injection h with h
   simp only [digB, Bool.and_eq_true, decide_eq_true_eq] at hd
   exact ⟨fun b hb => by simp only [List.mem_singleton] at hb; subst hb; exact hd, by omega⟩
  ·cases h
 ·split at h
  ·rename_i a b hd
   injection h with h
   simp only [digB, Bool.and_eq_true, decide_eq_true_eq] at hd
   refine ⟨fun c hc => ?_, by omega⟩
   simp only [List.mem_cons, List.not_mem_nil, or_false] at hc
   rcases hc with rfl | rfl
   ·exact hd.1.1
   ·exact hd.1.2
  ·cases h
 ·cases h
theorem formOf_word {A : Bs} {p : Int × Int} (h : formOf A = some p) : 1 ≤ A.length ∧ (10 : UInt8) ∉ A := by
 unfold formOf at h
 repeat' split at h
 all_goals first | (cases h; done) | (rename_i e; rw [e]; decide)
theorem more_split {t : Bs} (h : moreOf t = true) : t = wordOf t ++ 32 :: restOf t := by
 have hl : (t.takeWhile (· != 32)).length ≠ t.length := by
  unfold moreOf wordOf at h
  have h : (t.takeWhile (· != 32)).length < t.length := by simpa using h
  omega
 exact (takeWhile_split t 32 hl).1
theorem more_none {t : Bs} (h : moreOf t = false) : t = wordOf t := by
 unfold moreOf wordOf at h
 have h : ¬ (t.takeWhile (· != 32)).length < t.length := by simpa using h
 unfold wordOf
 have hp : t.takeWhile (· != 32) <+: t := List.takeWhile_prefix _
 exact (hp.eq_of_length (by have := hp.length_le; omega)).symm
theorem parse_right {t : Bs} (h : (parseB t).isSome = true) : rightB t = true := by
 rw [parseB_form] at h
 by_cases h30 : 30 < t.length
 ·rw [if_pos h30] at h; cases h
 rw [if_neg h30] at h
 cases hf : formOf (wordOf t) with
 | none => rw [hf] at h; cases h
 | some p =>
  obtain ⟨k, wh⟩ := p
  rw [hf] at h
  simp only at h
  obtain ⟨w1, w2⟩ := formOf_word hf
  by_cases hm : moreOf t ≠ decide (wh ≠ 0)
  ·rw [if_pos hm] at h; cases h
  rw [if_neg hm] at h
  cases hmt : moreOf t
  ·have e := more_none hmt
   rw [← e] at w1 w2
   exact rightB_iff.2 ⟨w1, by omega, w2⟩
  ·have e := more_split hmt
   have hr : (10 : UInt8) ∉ restOf t := by
    intro hc
    split at h
    ·obtain ⟨n, hn⟩ := Option.isSome_iff_exists.1 h
     obtain ⟨n, hn, _⟩ := Option.map_eq_some_iff.1 hn
     have := (numOf_digits hn).1 10 hc
     revert this; decide
    ·split at h
     ·obtain ⟨n, hn⟩ := Option.isSome_iff_exists.1 h
      obtain ⟨n, hn, _⟩ := Option.map_eq_some_iff.1 hn
      have := (sndOf_some hn).2.2.1 10 hc
      revert this; decide
     ·rename_i a b
      rcases formOf_cases hf with ⟨a0, _⟩ | ⟨a0, _⟩ | ⟨a0, _⟩
      ·rw [hmt, a0] at hm
       exact hm (by simp)
      ·exact a a0
      ·exact b a0
   refine rightB_iff.2 ⟨?_, by omega, ?_⟩
   ·have := congrArg List.length e
    simp only [List.length_append, List.length_cons] at this; omega
   ·intro hc
    rw [e] at hc
    rcases List.mem_append.1 hc with hc | hc
    ·exact w2 hc
    ·rcases List.mem_cons.1 hc with hc | hc
     ·revert hc; decide
     ·exact hr hc
theorem Inv.right {s : List Rul} {x : St} (h : Inv s x) : ∀ o ∈ x.orders, rightB o.data.toList = true := fun o ho => parse_right (h.oR o ho)
end Go.Proofs.YtpmlcfgbfhgpgaaGreatDoor
