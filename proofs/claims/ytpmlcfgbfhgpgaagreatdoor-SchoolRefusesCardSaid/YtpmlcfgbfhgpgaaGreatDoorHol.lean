/- Blocks that may change: what all other blocks hold. -/
import Derived.Test.YtpmlcfgbfhgpgaaGreatDoorBlk
import Derived.Test.YtpmlcfgbfhgpgaaGreatDoorRulA
namespace Go.Proofs.YtpmlcfgbfhgpgaaGreatDoor
open Go.RowKit Go.Shelf
set_option linter.unusedVariables false
structure ExtX (R : Nat → Bool) (w w' : World) : Prop where
 os : w'.os = w.os
 tape : w'.tape = w.tape
 output : w'.output = w.output
 size : w.heap.size ≤ w'.heap.size
 block : ∀ k, k < w.heap.size → R k = false → w'.heap[k]? = w.heap[k]?
theorem ExtX.refl (R : Nat → Bool) (w : World) : ExtX R w w := ⟨rfl, rfl, rfl, Nat.le_refl _, fun _ _ _ => rfl⟩
theorem Ext.toX {w w' : World} (h : Ext w w') (R : Nat → Bool) : ExtX R w w' := ⟨h.os, h.tape, h.output, h.size, fun k hk _ => h.block k hk⟩
theorem ExtX.trans {R : Nat → Bool} {a b c : World} (h : ExtX R a b) (k : ExtX R b c) : ExtX R a c :=
 ⟨k.os.trans h.os, k.tape.trans h.tape, k.output.trans h.output, Nat.le_trans h.size k.size, fun i hi hr => (k.block i (Nat.lt_of_lt_of_le hi h.size) hr).trans (h.block i hi hr)⟩
theorem ExtX.mono {R R' : Nat → Bool} {a b : World} (h : ExtX R a b) (hr : ∀ k, k < a.heap.size → R' k = false → R k = false) : ExtX R' a b := ⟨h.os, h.tape, h.output, h.size, fun k hk hk' => h.block k hk (hr k hk hk')⟩
theorem ExtX.transN {R R' : Nat → Bool} {a b c : World} (h : ExtX R a b) (k : ExtX R' b c) (hr : ∀ i, R' i = true → R i = true ∨ a.heap.size ≤ i) : ExtX R a c :=
 ⟨k.os.trans h.os, k.tape.trans h.tape, k.output.trans h.output, Nat.le_trans h.size k.size, fun i hi hri => by
  refine (k.block i (Nat.lt_of_lt_of_le hi h.size) ?_).trans (h.block i hi hri)
  cases hh : R' i
  ·rfl
  ·rcases hr i hh with h1 | h1
   ·rw [hri] at h1; cases h1
   ·omega⟩
theorem ExtX.ext {R : Nat → Bool} {w w' : World} (h : ExtX R w w') (hr : ∀ k, k < w.heap.size → R k = false) : Ext w w' := ⟨h.os, h.tape, h.output, h.size, fun k hk => h.block k hk (hr k hk)⟩
def one (b : Nat) (k : Nat) : Bool := k == b
theorem ExtX.set (w : World) (b i : Nat) (v : Value) : ExtX (one b) w (w.setCell ⟨b, i, none⟩ v) :=
 ⟨rfl, rfl, rfl, by simp [World.setCell], fun k hk hr => (grownBy_set w b i v).block k hk (fun e => by injection e with e; simp [one, e] at hr)⟩
def hole (S : Nat → Bool) (w : World) : World := { w with heap := w.heap.mapIdx fun k o => if S k then .cells #[] 0 (0, 0) else o }
@[simp] theorem hole_size (S : Nat → Bool) (w : World) : (hole S w).heap.size = w.heap.size := by simp [hole]
theorem hole_block (S : Nat → Bool) (w : World) {k : Nat} (h : S k = false) : (hole S w).heap[k]? = w.heap[k]? := by
 unfold hole
 simp only [Array.getElem?_mapIdx, h]
 cases w.heap[k]? <;> rfl
theorem hole_in (S : Nat → Bool) (w : World) {k : Nat} (h : S k = true) (hk : k < w.heap.size) : (hole S w).heap[k]? = some (.cells #[] 0 (0, 0)) := by
 unfold hole
 simp only [Array.getElem?_mapIdx, h, Array.getElem?_eq_getElem hk]
 rfl
def Sub (a b : World) : Prop := ∀ (x : Addr) (v : Value), a.cell? x = some v → b.cell? x = some v
theorem Sub.refl (a : World) : Sub a a := fun _ _ h => h
theorem Sub.trans {a b c : World} (h : Sub a b) (k : Sub b c) : Sub a c := fun x v hx => k x v (h x v hx)
theorem Ext.sub {w w' : World} (h : Ext w w') : Sub w w' := fun _ _ hx => h.keep hx
theorem hole_cell {S : Nat → Bool} {w : World} {x : Addr} {v : Value} (h : (hole S w).cell? x = some v) : w.cell? x = some v ∧ S x.block = false := by
 cases hs : S x.block
 ·refine ⟨?_, rfl⟩
  unfold World.cell? at h ⊢
  rwa [hole_block S w hs] at h
 ·exfalso
  unfold World.cell? at h
  rcases Nat.lt_or_ge x.block w.heap.size with hl | hl
  ·rw [hole_in S w hs hl] at h
   simp at h
  ·rw [Array.getElem?_eq_none (by simpa using hl)] at h; cases h
theorem hole_sub (S : Nat → Bool) (w : World) : Sub (hole S w) w := fun _ _ h => (hole_cell h).1
theorem ExtX.hole {R S S' : Nat → Bool} {w w' : World} (h : ExtX R w w') (hr : ∀ k, R k = true → S k = true) (h1 : ∀ k, S k = true → S' k = true) (h2 : ∀ k, S' k = true → S k = true ∨ w.heap.size ≤ k) : Ext (hole S w) (hole S' w') := by
 refine ⟨h.os, h.tape, h.output, by simpa using h.size, fun k hk => ?_⟩
 have hk : k < w.heap.size := by simpa using hk
 cases hs : S k
 ·have hs' : S' k = false := by
   cases e : S' k
   ·rfl
   ·rcases h2 k e with a | a
    ·rw [hs] at a; cases a
    ·omega
  have hrk : R k = false := by
   cases e : R k
   ·rfl
   ·rw [hr k e] at hs; cases hs
  rw [hole_block S w hs, hole_block S' w' hs']
  exact h.block k hk hrk
 ·rw [hole_in S w hs hk, hole_in S' w' (h1 k hs) (Nat.lt_of_lt_of_le hk h.size)]
theorem ExtX.hole1 {R S : Nat → Bool} {w w' : World} (h : ExtX R w w') (hr : ∀ k, R k = true → S k = true) : Ext (Go.Proofs.YtpmlcfgbfhgpgaaGreatDoor.hole S w) (Go.Proofs.YtpmlcfgbfhgpgaaGreatDoor.hole S w') := h.hole hr (fun _ h => h) (fun _ h => .inl h)
theorem Ext.hole {w w' : World} (h : Ext w w') (S : Nat → Bool) : Ext (Go.Proofs.YtpmlcfgbfhgpgaaGreatDoor.hole S w) (Go.Proofs.YtpmlcfgbfhgpgaaGreatDoor.hole S w') := (h.toX (fun _ => false)).hole1 (fun _ h => by cases h)
theorem hole_new {w0 w : World} {S : Nat → Bool} (h : Ext w0 w) (hS : ∀ k, S k = true → w0.heap.size ≤ k) : Ext w0 (hole S w) := by
 refine ⟨h.os, h.tape, h.output, by simpa using h.size, fun k hk => ?_⟩
 have : S k = false := by
  cases e : S k
  ·rfl
  ·have := hS k e; omega
 rw [hole_block S w this]; exact h.block k hk
theorem Ints.sub {w w' : World} {v : Value} {l : List Int} (h : Ints w v l) (hb : Sub w w') : Ints w' v l := h.mono fun _ _ _ _ hc => hb _ _ hc
theorem Rows.sub {w w' : World} {v : Value} {l : List (List Int)} (h : Rows w v l) (hb : Sub w w') : Rows w' v l :=
 h.mono fun _ _ _ _ ⟨u, hc, hi⟩ => ⟨u, hb _ _ hc, hi.sub hb⟩
theorem RulR.sub {w w' : World} {tv lv rv : Value} {x : Rul} (h : RulR w tv lv rv x) (hx : Sub w w') : RulR w' tv lv rv x := ⟨h.t.sub hx, h.l.sub hx, h.r.sub hx⟩
end Go.Proofs.YtpmlcfgbfhgpgaaGreatDoor
