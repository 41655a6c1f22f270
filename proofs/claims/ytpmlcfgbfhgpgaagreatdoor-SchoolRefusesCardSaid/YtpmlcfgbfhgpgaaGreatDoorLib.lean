/- Words for reading memory, posts, loops: plain lemmas, no program in sight. -/
import Derived.WalkKit
import Derived.WalkSpells
import Derived.WalkLawsBesides
import Derived.Outline
import Derived.Deep.QuietTactic
import Derived.BigQuiet
import Derived.Lib.Hide
import Derived.Deep.LoopGhost
namespace Go.Proofs.YtpmlcfgbfhgpgaaGreatDoor
open Go.RowKit
set_option linter.unusedVariables false
abbrev Ext (w w' : World) : Prop := Below w.heap.size w w'
theorem cell_lt {w : World} {a : Addr} {v : Value} (h : w.cell? a = some v) : a.block < w.heap.size := by
 unfold World.cell? at h
 rcases Nat.lt_or_ge a.block w.heap.size with hl | hl
 ·exact hl
 ·rw [Array.getElem?_eq_none hl] at h; cases h
theorem Ext.keep {w w' : World} (hb : Ext w w') {a : Addr} {v : Value} (h : w.cell? a = some v) : w'.cell? a = some v :=
 (hb.cell (cell_lt h)).trans h
theorem Ext.refl (w : World) : Ext w w := Below.refl _ _
theorem Ext.trans {a b c : World} (h : Ext a b) (k : Ext b c) : Ext a c := Below.trans h (k.mono h.size)
theorem Ext.upto {a b c : World} {B : Nat} (h : Ext a b) (k : Below B b c) (hB : a.heap.size ≤ B) : Ext a c := Below.trans h (k.mono hB)
theorem Ext.drewN (w : World) (n : Nat) : Ext w (w.drewN n) := ⟨rfl, rfl, rfl, Nat.le_refl _, fun _ _ => rfl⟩
theorem Ext.alloc (w : World) (o : Obj) : Ext w (w.alloc o) := (Below.refl _ _).alloc (Nat.le_refl _) o
def Sl (v : Value) (n : Nat) (R : Nat → Nat → Nat → Prop) : Prop :=
 ∃ (a : Option Addr) (cap : Nat), v = .slice a n cap ∧ n ≤ cap ∧ cap ≤ maxLen ∧ ∀ i, i < n → ∃ b o, a = some ⟨b, o, none⟩ ∧ R i b o
theorem Sl.mono {v : Value} {n : Nat} {R R' : Nat → Nat → Nat → Prop} (h : Sl v n R) (hr : ∀ i b o, i < n → R i b o → R' i b o) : Sl v n R' := by
 obtain ⟨a, cap, hv, hl, hc, hh⟩ := h
 refine ⟨a, cap, hv, hl, hc, fun i hi => ?_⟩
 obtain ⟨b, o, ha, hcell⟩ := hh i hi
 exact ⟨b, o, ha, hr _ _ _ hi hcell⟩
def Ints (w : World) (v : Value) (l : List Int) : Prop :=
 Sl v l.length fun i b o => w.cell? ⟨b, o + i, none⟩ = some (.int .i64 (l[i]?.getD 0))
theorem Ints.ext {w w' : World} {v : Value} {l : List Int} (h : Ints w v l) (hb : Ext w w') : Ints w' v l :=
 h.mono fun _ _ _ _ hc => hb.keep hc
theorem Sl.open_ {v : Value} {n : Nat} {R : Nat → Nat → Nat → Prop} (h : Sl v n R) :
  ∃ (a : Option Addr) (cap : Nat), v = .slice a n cap ∧ n ≤ cap ∧ cap ≤ 9223372036854775807 ∧ Hid (∀ i, i < n → ∃ b o, a = some ⟨b, o, none⟩ ∧ R i b o) := h
theorem Ints.open_ {w : World} {v : Value} {l : List Int} (h : Ints w v l) :
  ∃ (a : Option Addr) (cap : Nat), v = .slice a l.length cap ∧ l.length ≤ cap ∧ cap ≤ 9223372036854775807 ∧
   Hid (∀ i, i < l.length → ∃ b o, a = some ⟨b, o, none⟩ ∧ w.cell? ⟨b, o + i, none⟩ = some (.int .i64 (l[i]?.getD 0))) := h
def Rows (w : World) (v : Value) (l : List (List Int)) : Prop :=
 Sl v l.length fun i b o => ∃ u, w.cell? ⟨b, o + i, none⟩ = some u ∧ Ints w u (l[i]?.getD [])
theorem Rows.ext {w w' : World} {v : Value} {l : List (List Int)} (h : Rows w v l) (hb : Ext w w') : Rows w' v l :=
 h.mono fun _ _ _ _ ⟨u, hc, hi⟩ => ⟨u, hb.keep hc, hi.ext hb⟩
def allB (n : Nat) (f : Nat → Bool) : Bool := (List.range n).all f
theorem allB_true {n : Nat} {f : Nat → Bool} (h : ∀ j, j < n → f j = true) : allB n f = true := by
 simp [allB]; exact h
theorem allB_false {n : Nat} {f : Nat → Bool} {j : Nat} (hj : j < n) (h : f j = false) : allB n f = false := by
 rw [allB, List.all_eq_false]
 exact ⟨j, by simp [hj], by simp [h]⟩
def RQ (b : Bool) (w : World) (e : Ending) (w' : World) : Prop := e = .returned (.bool b) ∧ ∃ n, w' = w.drewN n
def RV (v : Value) (w : World) (e : Ending) (w' : World) : Prop := e = .returned v ∧ Ext w w'
theorem RQ.mk {b c : Bool} {w : World} (h : b = c) (n : Nat) : RQ c w (.returned (.bool b)) (w.drewN n) := ⟨by rw [h], n, rfl⟩
theorem RQ.mk0 {b c : Bool} {w : World} (h : b = c) : RQ c w (.returned (.bool b)) w := ⟨by rw [h], 0, rfl⟩
def RP (v : Value) (w : World) (e : Ending) (w' : World) : Prop := e = .returned v ∧ w = w'
theorem RP.mk {v u : Value} {w : World} (h : v = u) : RP u w (.returned v) w := ⟨by rw [h], rfl⟩
theorem RP.bool {b c : Bool} {w : World} (h : b = c) : RP (.bool c) w (.returned (.bool b)) w := ⟨by rw [h], rfl⟩
theorem RP.int {k : IntKind} {b c : Int} {w : World} (h : b = c) : RP (.int k c) w (.returned (.int k b)) w := ⟨by rw [h], rfl⟩
theorem RV.mk {v u : Value} {w w' : World} (h : v = u) (hx : Ext w w') : RV u w (.returned v) w' := ⟨by rw [h], hx⟩
theorem RV.bool {b c : Bool} {w w' : World} (h : b = c) (hx : Ext w w') : RV (.bool c) w (.returned (.bool b)) w' := ⟨by rw [h], hx⟩
theorem RV.int {k : IntKind} {b c : Int} {w w' : World} (h : b = c) (hx : Ext w w') : RV (.int k c) w (.returned (.int k b)) w' := ⟨by rw [h], hx⟩
def RInts (l : List Int) (w : World) (e : Ending) (w' : World) : Prop := ∃ v, e = .returned v ∧ Ints w' v l ∧ Ext w w'
def firstIdx (n : Nat) (f : Nat → Bool) : Int := match (List.range n).find? f with | some i => i | none => -1
theorem find_range_some {n : Nat} {f : Nat → Bool} {j : Nat} (hj : j < n) (ht : f j = true) (h : ∀ i, i < j → f i = false) : (List.range n).find? f = some j := by
 rw [List.find?_eq_some_iff_append]
 refine ⟨ht, List.range j, (List.range' (j+1) (n-(j+1))), ?_, ?_⟩
 ·rw [List.range_eq_range', List.range_eq_range', show n = j + (1 + (n - (j+1))) by omega, ← List.range'_append_1, ← List.range'_append_1]
  simp [show j + (1 + (n - (j+1))) - (j+1) = n - (j+1) by omega]
 ·intro a ha
  simp only [List.mem_range] at ha
  simp [h a ha]
theorem firstIdx_at {n : Nat} {f : Nat → Bool} {j : Nat} (hj : j < n) (ht : f j = true) (h : ∀ i, i < j → f i = false) : firstIdx n f = j := by
 unfold firstIdx; rw [find_range_some hj ht h]
theorem firstIdx_none {n : Nat} {f : Nat → Bool} (h : ∀ i, i < n → f i = false) : firstIdx n f = -1 := by
 have : (List.range n).find? f = none := by
  rw [List.find?_eq_none]; intro x hx; simp [h x (by simpa using hx)]
 unfold firstIdx; rw [this]
theorem firstIdx_cases (n : Nat) (f : Nat → Bool) : (∃ j, j < n ∧ f j = true ∧ (∀ i, i < j → f i = false) ∧ firstIdx n f = j) ∨ ((∀ i, i < n → f i = false) ∧ firstIdx n f = -1) := by
 by_cases h : ∀ i, i < n → f i = false
 ·exact .inr ⟨h, firstIdx_none h⟩
 ·refine .inl ?_
  cases hf : (List.range n).find? f with
  | none =>
   exfalso; apply h; intro i hi
   have := (List.find?_eq_none.1 hf) i (by simpa using hi)
   simpa using this
  | some j =>
   obtain ⟨ht, as, bs, he, hh⟩ := List.find?_eq_some_iff_append.1 hf
   have hl : as = List.range as.length ∧ j = as.length ∧ j < n := by
    have h1 : (List.range n)[as.length]? = some j := by rw [he]; simp
    have h2 : as.length < n := by
     have := congrArg List.length he; simp at this; omega
    rw [List.getElem?_range h2] at h1
    injection h1 with h1
    refine ⟨?_, h1.symm, by omega⟩
    have h3 : (List.range n).take as.length = as := by rw [he]; simp
    rw [← h3, List.take_range]; simp
   refine ⟨j, hl.2.2, ht, fun i hi => ?_, ?_⟩
   ·have := hh i (by rw [hl.1, List.mem_range]; omega)
    simpa using this
   ·unfold firstIdx; rw [hf]
theorem range_step {f : Nat → Bool} {b : Bool} {k : Nat} (h : ∀ j, j < k → f j = b) (hk : f k = b) : ∀ j, j < k + 1 → f j = b := fun j hj => by
 by_cases e : j = k
 ·subst e; exact hk
 ·exact h j (by omega)
end Go.Proofs.YtpmlcfgbfhgpgaaGreatDoor
