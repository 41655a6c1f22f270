/- Sums, lines and books of orders: plain. -/
import Derived.Test.YtpmlcfgbfhgpgaaGreatDoorLib
import Derived.Lib.ItoaNum
namespace Go.Proofs.YtpmlcfgbfhgpgaaGreatDoor
open Go.RowKit
set_option linter.unusedVariables false
abbrev Bs : Type := List UInt8
def sumB (s : Int) (t : Bs) : Int := t.foldl (fun s b => (s * 257 + (b.toNat : Int) + 1) % 1000003) (s % 1000003)
def sumTo (s : Int) (t : Bs) (k : Nat) : Int := sumB s (t.take k)
theorem sumTo_zero (s : Int) (t : Bs) : sumTo s t 0 = s % 1000003 := by simp [sumTo, sumB]
theorem sumTo_succ (s : Int) (t : Bs) {k : Nat} (h : k < t.length) : sumTo s t (k + 1) = (sumTo s t k * 257 + ((t[k]'h).toNat : Int) + 1) % 1000003 := by
 unfold sumTo sumB
 rw [List.take_add_one, List.getElem?_eq_getElem h, Option.toList_some, List.foldl_append]
 rfl
theorem sumTo_all (s : Int) (t : Bs) : sumTo s t t.length = sumB s t := by simp [sumTo]
theorem sumTo_range (s : Int) (t : Bs) : ∀ k, k ≤ t.length → 0 ≤ sumTo s t k ∧ sumTo s t k < 1000003 := by
 intro k
 induction k with
 | zero => intro _; rw [sumTo_zero]; omega
 | succ k ih => intro h; rw [sumTo_succ s t (by omega)]; omega
theorem sumB_range (s : Int) (t : Bs) : 0 ≤ sumB s t ∧ sumB s t < 1000003 := by
 have := sumTo_range s t t.length (Nat.le_refl _)
 rwa [sumTo_all] at this
def rightB (t : Bs) : Bool := decide (1 ≤ t.length) && (decide (t.length ≤ 30) && !t.contains 10)
theorem rightB_iff {t : Bs} : rightB t = true ↔ 1 ≤ t.length ∧ t.length ≤ 30 ∧ (10 : UInt8) ∉ t := by
 unfold rightB; simp
def lineB (s : Int) (t : Bs) : Bs := Lib.itoa (sumB s t) ++ (32 :: t ++ [10])
def textF (s : Int) : List Bs → Bs
 | [] => []
 | t :: ts => lineB s t ++ textF (sumB s t) ts
def sumsF (s : Int) : List Bs → Int
 | [] => s
 | t :: ts => sumsF (sumB s t) ts
def readOne (s : Int) (bk : Bs) : Option (Bs × Bs) :=
 let line := bk.takeWhile (· != 10)
 if line.length = bk.length then none else
 let num := line.takeWhile (· != 32)
 if num.length = line.length then none else
 let o := line.drop (num.length + 1)
 if rightB o && Lib.itoa (sumB s o) == num then some (o, bk.drop (line.length + 1)) else none
def readF : Nat → Int → Bs → List Bs × Bs
 | 0, _, bk => ([], bk)
 | n + 1, s, bk => match readOne s bk with
  | none => ([], bk)
  | some (o, r) => (o :: (readF n (sumB s o) r).1, (readF n (sumB s o) r).2)
def readB (bk : Bs) : List Bs × Bs := readF 100 0 bk
theorem decDigits_digit : ∀ n : Nat, ∀ b ∈ Lib.decDigits n, 48 ≤ b.toNat ∧ b.toNat ≤ 57 := by
 intro n
 induction n using Nat.strongRecOn with
 | _ n ih =>
  intro b hb
  rw [Lib.decDigits] at hb
  split at hb
  ·simp only [List.mem_singleton] at hb; subst hb
   rw [UInt8.toNat_ofNat']; omega
  ·rw [List.mem_append] at hb
   rcases hb with hb | hb
   ·exact ih (n / 10) (by omega) b hb
   ·simp only [List.mem_singleton] at hb; subst hb
    rw [UInt8.toNat_ofNat']; omega
theorem itoa_digit {n : Int} (h : 0 ≤ n) : ∀ b ∈ Lib.itoa n, 48 ≤ b.toNat ∧ b.toNat ≤ 57 := by
 intro b hb
 unfold Lib.itoa at hb
 rw [if_neg (by omega)] at hb
 exact decDigits_digit _ b hb
theorem itoa_no {n : Int} (h : 0 ≤ n) (c : UInt8) (hc : c.toNat < 48) : c ∉ Lib.itoa n := fun hb => by have := itoa_digit h c hb; omega
theorem takeWhile_ne (a r : Bs) (c : UInt8) (h : c ∉ a) : (a ++ c :: r).takeWhile (· != c) = a := by
 induction a with
 | nil => simp
 | cons x a ih =>
  have hx : x ≠ c := fun e => h (by rw [e]; simp)
  simp only [List.cons_append]
  rw [List.takeWhile_cons, if_pos (by simp [hx]), ih (fun hc => h (by simp [hc]))]
theorem takeWhile_split (a : Bs) (c : UInt8) (h : (a.takeWhile (· != c)).length ≠ a.length) : a = a.takeWhile (· != c) ++ c :: a.drop ((a.takeWhile (· != c)).length + 1) ∧ c ∉ a.takeWhile (· != c) := by
 induction a with
 | nil => simp at h
 | cons x a ih =>
  by_cases e : x = c
  ·subst e; simp
  ·rw [List.takeWhile_cons, if_pos (by simp [e])] at h ⊢
   obtain ⟨h1, h2⟩ := ih (by simpa using h)
   refine ⟨?_, ?_⟩
   ·simp only [List.length_cons, List.cons_append, List.drop_succ_cons]
    exact congrArg _ h1
   ·simp only [List.mem_cons, not_or]
    exact ⟨fun h => e h.symm, h2⟩
theorem takeWhile_len (a : Bs) (c : UInt8) (h : (a.takeWhile (· != c)).length = a.length) : c ∉ a := by
 induction a with
 | nil => simp
 | cons x a ih =>
  by_cases e : x = c
  ·subst e; simp at h
  ·rw [List.takeWhile_cons, if_pos (by simp [e])] at h
   have := ih (by simpa using h)
   simp only [List.mem_cons, not_or]
   exact ⟨fun h => e h.symm, this⟩
theorem readOne_line {s : Int} {t : Bs} (r : Bs) (h : rightB t = true) : readOne s (lineB s t ++ r) = some (t, r) := by
 obtain ⟨h1, h2, h3⟩ := rightB_iff.1 h
 have hn := (sumB_range s t).1
 have e : lineB s t ++ r = (Lib.itoa (sumB s t) ++ 32 :: t) ++ 10 :: r := by simp [lineB]
 have hl : (lineB s t ++ r).takeWhile (· != 10) = Lib.itoa (sumB s t) ++ 32 :: t := by
  rw [e]
  refine takeWhile_ne _ _ _ ?_
  simp only [List.mem_append, List.mem_cons, not_or]
  exact ⟨itoa_no hn 10 (by decide), by decide, h3⟩
 have hm : (Lib.itoa (sumB s t) ++ 32 :: t).takeWhile (· != 32) = Lib.itoa (sumB s t) := takeWhile_ne _ _ _ (itoa_no hn 32 (by decide))
 unfold readOne
 simp only [hl, hm]
 rw [if_neg (by rw [e]; simp), if_neg (by simp)]
 have hd : (Lib.itoa (sumB s t) ++ 32 :: t).drop ((Lib.itoa (sumB s t)).length + 1) = t := by
  rw [← List.drop_drop, List.drop_left]; rfl
 rw [hd, h, if_pos (by simp)]
 rw [e, show (Lib.itoa (sumB s t) ++ 32 :: t).length + 1 = 1 + (Lib.itoa (sumB s t) ++ 32 :: t).length from by omega, Nat.add_comm, ← List.drop_drop, List.drop_left]
 rfl
theorem readOne_some {s : Int} {bk o r : Bs} (h : readOne s bk = some (o, r)) : rightB o = true ∧ bk = lineB s o ++ r := by
 unfold readOne at h
 simp only at h
 by_cases h1 : (bk.takeWhile (· != 10)).length = bk.length
 ·rw [if_pos h1] at h; cases h
 ·rw [if_neg h1] at h
  obtain ⟨e1, _⟩ := takeWhile_split bk 10 h1
  generalize bk.takeWhile (· != 10) = line at *
  by_cases h2 : (line.takeWhile (· != 32)).length = line.length
  ·rw [if_pos h2] at h; cases h
  ·rw [if_neg h2] at h
   obtain ⟨e2, _⟩ := takeWhile_split line 32 h2
   generalize line.takeWhile (· != 32) = num at *
   split at h
   ·rename_i hh
    rw [Bool.and_eq_true, beq_iff_eq] at hh
    injection h with h; injection h with ho hr
    refine ⟨by rw [← ho]; exact hh.1, ?_⟩
    rw [← ho, ← hr]
    unfold lineB
    rw [hh.2]
    rw [ho] at e2 ⊢
    rw [hr] at e1 ⊢
    rw [e1]
    conv => lhs; rw [e2]
    simp
   ·cases h
theorem textF_append (s : Int) (a b : List Bs) : textF s (a ++ b) = textF s a ++ textF (sumsF s a) b := by
 induction a generalizing s with
 | nil => rfl
 | cons t a ih => simp [textF, sumsF, ih]
theorem sumsF_append (s : Int) (a b : List Bs) : sumsF s (a ++ b) = sumsF (sumsF s a) b := by
 induction a generalizing s with
 | nil => rfl
 | cons t a ih => simp [sumsF, ih]
theorem readF_sound : ∀ (n : Nat) (s : Int) (bk : Bs), bk = textF s (readF n s bk).1 ++ (readF n s bk).2 ∧ (∀ o ∈ (readF n s bk).1, rightB o = true) ∧ (readF n s bk).1.length ≤ n := by
 intro n
 induction n with
 | zero => intro s bk; simp [readF, textF]
 | succ n ih =>
  intro s bk
  rw [readF]
  cases h : readOne s bk with
  | none => simp [textF]
  | some p =>
   obtain ⟨o, r⟩ := p
   obtain ⟨h1, h2⟩ := readOne_some h
   obtain ⟨a1, a2, a3⟩ := ih (sumB s o) r
   simp only [textF, List.append_assoc]
   refine ⟨by rw [← a1]; exact h2, ?_, by simp; omega⟩
   intro x hx
   rcases List.mem_cons.1 hx with rfl | hx
   ·exact h1
   ·exact a2 x hx
theorem readF_text : ∀ (ts : List Bs) (n : Nat) (s : Int) (r : Bs), (∀ o ∈ ts, rightB o = true) → ts.length ≤ n →
  readF n s (textF s ts ++ r) = (ts ++ (readF (n - ts.length) (sumsF s ts) r).1, (readF (n - ts.length) (sumsF s ts) r).2) := by
 intro ts
 induction ts with
 | nil => intro n s r _ _; simp [textF, sumsF]
 | cons t ts ih =>
  intro n s r h hn
  cases n with
  | zero => simp at hn
  | succ n =>
   rw [readF, textF, List.append_assoc, readOne_line _ (h t (by simp))]
   simp only
   rw [ih n (sumB s t) r (fun o ho => h o (by simp [ho])) (by simpa using hn)]
   simp [sumsF]
theorem readF_nil (n : Nat) (s : Int) : readF n s [] = ([], []) := by
 cases n with
 | zero => rfl
 | succ n => simp [readF, readOne]
theorem readB_text {ts : List Bs} (h : ∀ o ∈ ts, rightB o = true) (hn : ts.length ≤ 100) : readB (textF 0 ts) = (ts, []) := by
 have := readF_text ts 100 0 [] h hn
 rw [List.append_nil, readF_nil] at this
 simpa [readB] using this
end Go.Proofs.YtpmlcfgbfhgpgaaGreatDoor
