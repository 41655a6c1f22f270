/- How many runs there are: counted from the ends back, and from the beginning on: the same number, modulo 2^64. Plain; no program in sight. -/
import Derived.Test.YtpbflkbelhlogaaMacA
namespace Go.Proofs.Ytpbflkbelhlogaa
open Go.RowKit
set_option linter.unusedVariables false

/-! ## sums -/
def sumL {α : Type} (f : α → Int) : List α → Int
  | [] => 0
  | x :: l => f x + sumL f l
theorem sumL_congr {α : Type} {f g : α → Int} {l : List α} (h : ∀ x ∈ l, f x = g x) : sumL f l = sumL g l := by
  induction l with
  | nil => rfl
  | cons x l ih => rw [sumL, sumL, h x (by simp), ih fun y hy => h y (by simp [hy])]
theorem sumL_add {α : Type} (f g : α → Int) (l : List α) : sumL (fun x => f x + g x) l = sumL f l + sumL g l := by
  induction l with
  | nil => rfl
  | cons x l ih => simp only [sumL, ih]; omega
theorem sumL_mul {α : Type} (c : Int) (f : α → Int) (l : List α) : sumL (fun x => c * f x) l = c * sumL f l := by
  induction l with
  | nil => simp [sumL]
  | cons x l ih => simp only [sumL, ih, Int.mul_add]
theorem sumL_zero {α : Type} (l : List α) : sumL (fun _ => (0 : Int)) l = 0 := by
  induction l with
  | nil => rfl
  | cons x l ih => simp only [sumL, ih]; rfl
theorem sumL_swap {α β : Type} (f : α → β → Int) (l : List α) (m : List β) : sumL (fun x => sumL (fun y => f x y) m) l = sumL (fun y => sumL (fun x => f x y) l) m := by
  induction l with
  | nil => simp only [sumL, sumL_zero]
  | cons x l ih => simp only [sumL, ih, sumL_add]
theorem sumL_app {α : Type} (f : α → Int) (l m : List α) : sumL f (l ++ m) = sumL f l + sumL f m := by
  induction l with
  | nil => simp [sumL]
  | cons x l ih => simp only [List.cons_append, sumL, ih]; omega
theorem sumL_delta (g : Nat → Int) (k : Nat) : ∀ n, sumL (fun s => if s = k then g s else 0) (List.range n) = if k < n then g k else 0
  | 0 => by simp [sumL]
  | n + 1 => by
    rw [List.range_succ, sumL_app, sumL_delta g k n]
    simp only [sumL, Int.add_zero]
    by_cases h : n = k
    · subst h; simp
    · by_cases h2 : k < n
      · rw [if_pos h2, if_neg h, if_pos (by omega)]; omega
      · rw [if_neg h2, if_neg h, if_neg (by omega)]; rfl
theorem sumL_nonneg {α : Type} {f : α → Int} {l : List α} (h : ∀ x ∈ l, 0 ≤ f x) : 0 ≤ sumL f l := by
  induction l with
  | nil => exact Int.le_refl _
  | cons x l ih => have := h x (by simp); have := ih fun y hy => h y (by simp [hy]); simp only [sumL]; omega

/-! ## exact numbers -/
/-- how many runs go on from each state, if b of them go on after one arc more -/
def bwE (ar : List Arc) (c : Arc → Bool) (b : Nat → Int) (s : Nat) : Int := sumL (fun a => if (c a && a.f.toNat == s) = true then b a.t.toNat else 0) ar
def fwE (ar : List Arc) (c : Arc → Bool) (f : Nat → Int) (s : Nat) : Int := sumL (fun a => if (c a && a.t.toNat == s) = true then f a.f.toNat else 0) ar
def dotE (n : Nat) (f b : Nat → Int) : Int := sumL (fun s => f s * b s) (List.range n)
theorem dot_step {n : Nat} {ar : List Arc} (c : Arc → Bool) (f b : Nat → Int) (h : ∀ a ∈ ar, a.f.toNat < n ∧ a.t.toNat < n) : dotE n (fwE ar c f) b = dotE n f (bwE ar c b) := by
  have e1 : dotE n (fwE ar c f) b = sumL (fun a => if c a = true then f a.f.toNat * b a.t.toNat else 0) ar := by
    unfold dotE fwE
    rw [sumL_congr (g := fun s => sumL (fun a => b s * (if (c a && a.t.toNat == s) = true then f a.f.toNat else 0)) ar) (fun s _ => by rw [sumL_mul, Int.mul_comm]), sumL_swap]
    refine sumL_congr fun a ha => ?_
    cases hc : c a
    · simp only [Bool.false_and, Bool.false_eq_true, if_false, Int.mul_zero]; exact sumL_zero _
    · rw [sumL_congr (g := fun s => if s = a.t.toNat then b s * f a.f.toNat else 0) (fun s _ => by
        by_cases hs : s = a.t.toNat
        · subst hs; simp
        · have : (a.t.toNat == s) = false := by rw [beq_eq_false_iff_ne]; exact fun e => hs e.symm
          rw [if_neg hs, this]; simp), sumL_delta, if_pos (h a ha).2, if_pos rfl, Int.mul_comm]
  have e2 : dotE n f (bwE ar c b) = sumL (fun a => if c a = true then f a.f.toNat * b a.t.toNat else 0) ar := by
    unfold dotE bwE
    rw [sumL_congr (g := fun s => sumL (fun a => f s * (if (c a && a.f.toNat == s) = true then b a.t.toNat else 0)) ar) (fun s _ => by rw [sumL_mul]), sumL_swap]
    refine sumL_congr fun a ha => ?_
    cases hc : c a
    · simp only [Bool.false_and, Bool.false_eq_true, if_false, Int.mul_zero]; exact sumL_zero _
    · rw [sumL_congr (g := fun s => if s = a.f.toNat then f s * b a.t.toNat else 0) (fun s _ => by
        by_cases hs : s = a.f.toNat
        · subst hs; simp
        · have : (a.f.toNat == s) = false := by rw [beq_eq_false_iff_ne]; exact fun e => hs e.symm
          rw [if_neg hs, this]; simp), sumL_delta, if_pos (h a ha).1, if_pos rfl]
  rw [e1, e2]
/-- along conditions -/
def bwsE (ar : List Arc) (b : Nat → Int) : List (Arc → Bool) → Nat → Int
  | [] => b
  | c :: cs => bwE ar c (bwsE ar b cs)
def fwsE (ar : List Arc) (f : Nat → Int) : List (Arc → Bool) → Nat → Int
  | [] => f
  | c :: cs => fwsE ar (fwE ar c f) cs
theorem dot_steps {n : Nat} {ar : List Arc} (h : ∀ a ∈ ar, a.f.toNat < n ∧ a.t.toNat < n) : ∀ (cs : List (Arc → Bool)) (f b : Nat → Int), dotE n (fwsE ar f cs) b = dotE n f (bwsE ar b cs)
  | [], _, _ => rfl
  | c :: cs, f, b => by rw [fwsE, bwsE, dot_steps h cs, dot_step c _ _ h]
def oneE (k : Nat) (s : Nat) : Int := if s = k then 1 else 0
theorem dot_one {n k : Nat} (hk : k < n) (b : Nat → Int) : dotE n (oneE k) b = b k := by
  unfold dotE oneE
  rw [sumL_congr (g := fun s => if s = k then b s else 0) (fun s _ => by split <;> simp), sumL_delta, if_pos hk]

/-! ## numbers in memory -/
abbrev wr64 (n : Int) : Int := IntKind.i64.wrap n
theorem wr64_add (a b : Int) : wr64 (wr64 a + wr64 b) = wr64 (a + b) := by
  simp only [wr64, IntKind.wrap_i64]; omega
theorem wr64_wr64 (a : Int) : wr64 (wr64 a) = wr64 a := by
  simp only [wr64, IntKind.wrap_i64]; omega
theorem wr64_zero : wr64 0 = 0 := by simp [wr64, IntKind.wrap_i64]
theorem wr64_one : wr64 1 = 1 := by simp [wr64, IntKind.wrap_i64]
/-- l is the numbers f of n states -/
def Vec (n : Nat) (l : List Int) (f : Nat → Int) : Prop := l.length = n ∧ ∀ s, s < n → l[s]?.getD 0 = wr64 (f s)
theorem Vec.congr {n : Nat} {l : List Int} {f g : Nat → Int} (h : Vec n l f) (e : ∀ s, s < n → f s = g s) : Vec n l g := ⟨h.1, fun s hs => by rw [h.2 s hs, e s hs]⟩
theorem Vec.eq {n : Nat} {l m : List Int} {f : Nat → Int} (h : Vec n l f) (k : Vec n m f) : l = m := by
  have hl := h.1
  refine List.ext_getElem (h.1.trans k.1.symm) fun i h1 h2 => ?_
  have := (h.2 i (by omega)).trans (k.2 i (by omega)).symm
  simpa [h1, h2] using this
theorem Vec.zero (n : Nat) : Vec n (List.replicate n 0) (fun _ => 0) := ⟨by simp, fun s hs => by simp [hs, wr64_zero]⟩
/-- at i, x more -/
def addAt (l : List Int) (i : Nat) (x : Int) : List Int := l.set i (wr64 (l[i]?.getD 0 + x))
theorem addAt_len (l : List Int) (i : Nat) (x : Int) : (addAt l i x).length = l.length := by simp [addAt]
theorem Vec.addAt {n : Nat} {l : List Int} {f : Nat → Int} (h : Vec n l f) {i : Nat} (hi : i < n) (x : Int) : Vec n (addAt l i (wr64 x)) (fun s => f s + if i = s then x else 0) := by
  refine ⟨by rw [addAt_len]; exact h.1, fun s hs => ?_⟩
  have hl := h.1
  by_cases e : i = s
  · subst e
    unfold Go.Proofs.Ytpbflkbelhlogaa.addAt
    rw [List.getElem?_set_self (by omega)]
    show _ = wr64 (f i + if i = i then x else 0)
    rw [if_pos rfl, Option.getD_some, h.2 i hi, wr64_add]
  · unfold Go.Proofs.Ytpbflkbelhlogaa.addAt
    show _ = wr64 (f s + if i = s then x else 0)
    rw [List.getElem?_set_ne e, if_neg e, h.2 s hs, Int.add_zero]
def bwStep (c : Arc → Bool) (now : List Int) (b : List Int) (a : Arc) : List Int := if c a then addAt b a.f.toNat (now[a.t.toNat]?.getD 0) else b
def fwStep (c : Arc → Bool) (now : List Int) (b : List Int) (a : Arc) : List Int := if c a then addAt b a.t.toNat (now[a.f.toNat]?.getD 0) else b
theorem Vec.bw {n : Nat} {now : List Int} {g : Nat → Int} (hn : Vec n now g) (c : Arc → Bool) : ∀ (ar : List Arc) (l : List Int) (f : Nat → Int), (∀ a ∈ ar, a.f.toNat < n ∧ a.t.toNat < n) → Vec n l f →
    Vec n (ar.foldl (bwStep c now) l) (fun s => f s + bwE ar c g s)
  | [], l, f, _, h => h.congr fun s _ => by simp [bwE, sumL]
  | a :: ar, l, f, ha, h => by
    have h1 := ha a (by simp)
    rw [List.foldl_cons]
    cases hc : c a
    · rw [bwStep, hc, if_neg (by decide)]
      refine (Vec.bw hn c ar l f (fun x hx => ha x (by simp [hx])) h).congr fun s _ => ?_
      simp [bwE, sumL, hc]
    · rw [bwStep, hc, if_pos rfl, hn.2 _ h1.2]
      refine (Vec.bw hn c ar _ _ (fun x hx => ha x (by simp [hx])) (h.addAt h1.1 _)).congr fun s _ => ?_
      simp only [bwE, sumL, hc, Bool.true_and, beq_iff_eq]
      split <;> omega
theorem Vec.fw {n : Nat} {now : List Int} {g : Nat → Int} (hn : Vec n now g) (c : Arc → Bool) : ∀ (ar : List Arc) (l : List Int) (f : Nat → Int), (∀ a ∈ ar, a.f.toNat < n ∧ a.t.toNat < n) → Vec n l f →
    Vec n (ar.foldl (fwStep c now) l) (fun s => f s + fwE ar c g s)
  | [], l, f, _, h => h.congr fun s _ => by simp [fwE, sumL]
  | a :: ar, l, f, ha, h => by
    have h1 := ha a (by simp)
    rw [List.foldl_cons]
    cases hc : c a
    · rw [fwStep, hc, if_neg (by decide)]
      refine (Vec.fw hn c ar l f (fun x hx => ha x (by simp [hx])) h).congr fun s _ => ?_
      simp [fwE, sumL, hc]
    · rw [fwStep, hc, if_pos rfl, hn.2 _ h1.1]
      refine (Vec.fw hn c ar _ _ (fun x hx => ha x (by simp [hx])) (h.addAt h1.2 _)).congr fun s _ => ?_
      simp only [fwE, sumL, hc, Bool.true_and, beq_iff_eq]
      split <;> omega
/-- one step back, on -/
def bwL (n : Nat) (ar : List Arc) (c : Arc → Bool) (now : List Int) : List Int := ar.foldl (bwStep c now) (List.replicate n 0)
def fwL (n : Nat) (ar : List Arc) (c : Arc → Bool) (now : List Int) : List Int := ar.foldl (fwStep c now) (List.replicate n 0)
theorem Vec.bwL {n : Nat} {ar : List Arc} {now : List Int} {g : Nat → Int} (h : ∀ a ∈ ar, a.f.toNat < n ∧ a.t.toNat < n) (hn : Vec n now g) (c : Arc → Bool) : Vec n (bwL n ar c now) (bwE ar c g) :=
  (Vec.bw hn c ar _ _ h (Vec.zero n)).congr fun s _ => by simp
theorem Vec.fwL {n : Nat} {ar : List Arc} {now : List Int} {g : Nat → Int} (h : ∀ a ∈ ar, a.f.toNat < n ∧ a.t.toNat < n) (hn : Vec n now g) (c : Arc → Bool) : Vec n (fwL n ar c now) (fwE ar c g) :=
  (Vec.fw hn c ar _ _ h (Vec.zero n)).congr fun s _ => by simp
def bwLs (n : Nat) (ar : List Arc) (e : List Int) : List (Arc → Bool) → List Int
  | [] => e
  | c :: cs => bwL n ar c (bwLs n ar e cs)
def fwLs (n : Nat) (ar : List Arc) (f : List Int) : List (Arc → Bool) → List Int
  | [] => f
  | c :: cs => fwLs n ar (fwL n ar c f) cs
theorem Vec.bwLs {n : Nat} {ar : List Arc} (h : ∀ a ∈ ar, a.f.toNat < n ∧ a.t.toNat < n) {e : List Int} {b : Nat → Int} (he : Vec n e b) : ∀ cs, Vec n (bwLs n ar e cs) (bwsE ar b cs)
  | [] => he
  | c :: cs => (Vec.bwLs h he cs).bwL h c
theorem Vec.fwLs {n : Nat} {ar : List Arc} (h : ∀ a ∈ ar, a.f.toNat < n ∧ a.t.toNat < n) : ∀ (cs : List (Arc → Bool)) {f : List Int} {g : Nat → Int}, Vec n f g → Vec n (fwLs n ar f cs) (fwsE ar g cs)
  | [], _, _, hf => hf
  | c :: cs, _, _, hf => Vec.fwLs h cs (hf.fwL h c)

/-! ## the states in which a run may end -/
def endE (e : List Int) (s : Nat) : Int := if e.contains (s : Int) then 1 else 0
/-- set to 1 at each number of a list -/
def onesL (e : List Int) (l : List Int) : List Int := e.foldl (fun l s => l.set s.toNat 1) l
theorem onesL_len : ∀ (e l : List Int), (onesL e l).length = l.length
  | [], _ => rfl
  | s :: e, l => by rw [onesL, List.foldl_cons]; exact (onesL_len e _).trans (by simp)
theorem Vec.ones {n : Nat} : ∀ (e l : List Int) (f : Nat → Int), (∀ x ∈ e, 0 ≤ x ∧ x < n) → Vec n l f → Vec n (onesL e l) (fun s => if e.contains (s : Int) then 1 else f s)
  | [], l, f, _, h => h.congr fun s _ => by simp
  | x :: e, l, f, he, h => by
    have hx := he x (by simp)
    have h1 : Vec n (l.set x.toNat 1) (fun s => if x.toNat = s then 1 else f s) := by
      refine ⟨by simp [h.1], fun s hs => ?_⟩
      have hl := h.1
      by_cases e : x.toNat = s
      · subst e
        rw [List.getElem?_set_self (by omega)]
        show _ = wr64 (if x.toNat = x.toNat then 1 else f x.toNat)
        rw [if_pos rfl, wr64_one]; rfl
      · show _ = wr64 (if x.toNat = s then 1 else f s)
        rw [List.getElem?_set_ne e, if_neg e, h.2 s hs]
    refine (Vec.ones e _ _ (fun y hy => he y (by simp [hy])) h1).congr fun s _ => ?_
    by_cases e1 : e.contains (s : Int) = true
    · rw [if_pos e1, if_pos (by rw [List.contains_cons, e1, Bool.or_true])]
    · by_cases e2 : x.toNat = s
      · have : (s : Int) = x := by omega
        rw [if_neg e1, if_pos e2, if_pos (by rw [List.contains_cons, this]; simp)]
      · have : ((s : Int) == x) = false := by rw [beq_eq_false_iff_ne]; omega
        rw [if_neg e1, if_neg e2, if_neg (by rw [List.contains_cons, this, Bool.false_or]; exact e1)]
def endsL (n : Nat) (e : List Int) : List Int := onesL e (List.replicate n 0)
theorem Vec.ends {n : Nat} {e : List Int} (he : ∀ x ∈ e, 0 ≤ x ∧ x < n) : Vec n (endsL n e) (endE e) := Vec.ones e _ _ he (Vec.zero n)
def beginL (n : Nat) : List Int := (List.replicate n 0).set 0 1
theorem Vec.begin {n : Nat} (h0 : 0 < n) : Vec n (beginL n) (oneE 0) := by
  refine ⟨by simp [beginL], fun s hs => ?_⟩
  unfold beginL oneE
  by_cases e : s = 0
  · subst e; rw [List.getElem?_set_self (by simp; omega), if_pos rfl, wr64_one]; rfl
  · rw [List.getElem?_set_ne (by omega), if_neg e, wr64_zero]; simp [hs]
/-- the sum of the numbers at a list of places -/
def sumAt (l : List Int) (e : List Int) : Int := e.foldl (fun t s => wr64 (t + l[s.toNat]?.getD 0)) 0
theorem sumAt_go {n : Nat} {l : List Int} {f : Nat → Int} (h : Vec n l f) : ∀ (e : List Int) (t : Int), (∀ x ∈ e, 0 ≤ x ∧ x < n) → e.foldl (fun t s => wr64 (t + l[s.toNat]?.getD 0)) (wr64 t) = wr64 (t + sumL (fun x => f x.toNat) e)
  | [], t, _ => by simp [sumL]
  | x :: e, t, he => by
    have hx := he x (by simp)
    rw [List.foldl_cons, h.2 _ (by omega), wr64_add, sumAt_go h e _ (fun y hy => he y (by simp [hy]))]
    simp only [sumL, Int.add_assoc]
theorem sumAt_eq {n : Nat} {l : List Int} {f : Nat → Int} (h : Vec n l f) {e : List Int} (he : ∀ x ∈ e, 0 ≤ x ∧ x < n) : sumAt l e = wr64 (sumL (fun x => f x.toNat) e) := by
  have := sumAt_go h e 0 he
  rw [wr64_zero, Int.zero_add] at this
  exact this
theorem sum_ends {n : Nat} (f : Nat → Int) : ∀ {e : List Int}, e.Nodup → (∀ x ∈ e, 0 ≤ x ∧ x < n) → sumL (fun x => f x.toNat) e = dotE n f (endE e)
  | [], _, _ => by
    unfold dotE
    rw [sumL_congr (g := fun _ => (0 : Int)) (fun (s : Nat) _ => by show f s * endE [] s = 0; simp [endE]), sumL_zero]; rfl
  | x :: e, hd, he => by
    have hx := he x (by simp)
    obtain ⟨hd1, hd2⟩ := List.nodup_cons.1 hd
    rw [sumL, sum_ends f hd2 (fun y hy => he y (by simp [hy]))]
    have e1 : f x.toNat = sumL (fun s => if s = x.toNat then f s else 0) (List.range n) := by rw [sumL_delta, if_pos (by omega)]
    rw [e1]
    unfold dotE
    rw [← sumL_add]
    refine sumL_congr fun s _ => ?_
    unfold endE
    by_cases hs : s = x.toNat
    · have hsx : (s : Int) = x := by omega
      have hne : e.contains x = false := by simpa using hd1
      rw [if_pos hs, hsx, hne, List.contains_cons]; simp
    · have : ((s : Int) == x) = false := by rw [beq_eq_false_iff_ne]; omega
      rw [if_neg hs, List.contains_cons, this, Bool.false_or, Int.zero_add]
/-- the numbers counted from both sides are the same -/
theorem count_same {n : Nat} {ar : List Arc} {e : List Int} (h : ∀ a ∈ ar, a.f.toNat < n ∧ a.t.toNat < n) (he : ∀ x ∈ e, 0 ≤ x ∧ x < n) (hd : e.Nodup) (h0 : 0 < n) (cs : List (Arc → Bool)) :
    sumAt (fwLs n ar (beginL n) cs) e = (bwLs n ar (endsL n e) cs)[0]?.getD 0 := by
  rw [sumAt_eq (Vec.fwLs h cs (Vec.begin h0)) he, sum_ends _ hd he, dot_steps h, dot_one h0, (Vec.bwLs h (Vec.ends he) cs).2 0 h0]
/-! ## sets -/
theorem setB_asc {l : List Int} {n : Int} (h : setB l n = true) : ∀ i, i < l.length → (0 ≤ l[i]?.getD 0 ∧ l[i]?.getD 0 < n) ∧ (0 < i → l[i - 1]?.getD 0 < l[i]?.getD 0) := by
  intro i hi
  unfold setB allB at h
  rw [List.all_eq_true] at h
  have := h i (by simpa using hi)
  simp only [setAt, Bool.and_eq_true, Bool.not_eq_true', Bool.and_eq_false_iff, decide_eq_false_iff_not, inB, decide_eq_true_eq] at this
  omega
theorem setB_lt {l : List Int} {n : Int} (h : setB l n = true) {j : Nat} (hj : j < l.length) : ∀ i, i < j → l[i]?.getD 0 < l[j]?.getD 0 := by
  induction j with
  | zero => intro i hi; omega
  | succ j ih =>
    intro i hi
    have h1 := (setB_asc h (j + 1) hj).2 (by omega)
    rw [Nat.add_sub_cancel] at h1
    by_cases e : i = j
    · subst e; exact h1
    · have := ih (by omega) i (by omega); omega
theorem setB_nodup {l : List Int} {n : Int} (h : setB l n = true) : l.Nodup := by
  unfold List.Nodup
  rw [List.pairwise_iff_getElem]
  intro i j hi hj hij
  have := setB_lt h hj i hij
  simp only [hi, hj, List.getElem?_eq_getElem, Option.getD_some] at this
  omega
theorem setB_in {l : List Int} {n : Int} (h : setB l n = true) : ∀ x ∈ l, 0 ≤ x ∧ x < n := by
  intro x hx
  obtain ⟨i, hi, rfl⟩ := List.mem_iff_getElem.1 hx
  have := (setB_asc h i hi).1
  simpa [hi] using this
/-- what is known of a valid machine -/
structure MacOk (m : Mac) : Prop where
  s1 : 1 ≤ m.s
  s2 : m.s ≤ 9
  a : m.a.length ≤ 60
  ok : ∀ j, j < m.a.length → arcOk m.s (arcA m.a j) = true
  e : setB m.e m.s = true
  once : onceB m.a = true
theorem validM_mac {m : Mac} (h : validM m = 0) : MacOk m := by
  unfold validM at h
  split at h <;> rename_i h1
  · split at h <;> rename_i h2
    · omega
    · split at h <;> rename_i h3
      · split at h <;> rename_i h4
        · split at h <;> rename_i h5
          · refine ⟨(inB_bd h1).1, (inB_bd h1).2, by omega, fun j hj => ?_, h4, h5⟩
            unfold allB at h3
            rw [List.all_eq_true] at h3
            exact h3 j (by simpa using hj)
          · omega
        · omega
      · omega
  · omega
theorem MacOk.arc {m : Mac} (h : MacOk m) {j : Nat} (hj : j < m.a.length) : (0 ≤ (arcA m.a j).f ∧ (arcA m.a j).f < m.s) ∧ (0 ≤ (arcA m.a j).t ∧ (arcA m.a j).t < m.s) ∧ (0 ≤ (arcA m.a j).i ∧ (arcA m.a j).i ≤ 5) ∧ (0 ≤ (arcA m.a j).o ∧ (arcA m.a j).o ≤ 5) := by
  have := h.ok j hj
  simp only [arcOk, Bool.and_eq_true, inB, decide_eq_true_eq] at this
  omega
theorem MacOk.mem {m : Mac} (h : MacOk m) {a : Arc} (ha : a ∈ m.a) : (0 ≤ a.f ∧ a.f < m.s) ∧ (0 ≤ a.t ∧ a.t < m.s) ∧ (0 ≤ a.i ∧ a.i ≤ 5) ∧ (0 ≤ a.o ∧ a.o ≤ 5) := by
  obtain ⟨j, hj, rfl⟩ := List.mem_iff_getElem.1 ha
  have := h.arc hj
  simpa [arcA, hj] using this
theorem MacOk.states {m : Mac} (h : MacOk m) : ∀ a ∈ m.a, a.f.toNat < m.s.toNat ∧ a.t.toNat < m.s.toNat := fun a ha => by
  have := h.mem ha
  have := h.s1
  omega
theorem MacOk.ends {m : Mac} (h : MacOk m) : ∀ x ∈ m.e, 0 ≤ x ∧ x < (m.s.toNat : Int) := fun x hx => by
  have := setB_in h.e x hx
  have := h.s1
  omega
end Go.Proofs.Ytpbflkbelhlogaa
