/- Run of a school. -/
import Derived.Test.YtpmlcfgbfhgpgaaGreatDoorLaw9H
namespace Go.Proofs.YtpmlcfgbfhgpgaaGreatDoor
open Go.RowKit Go.Shelf
set_option linter.unusedVariables false
theorem ownsRow_lt {w : World} {B size n : Nat} {e : TypeId} {v : Value} {xs : List Value} (h : w.ownsRow B e size v n xs) {r : Nat} (hr : v.ownBlock = some r) : B ≤ r ∧ r < w.heap.size := by
 obtain ⟨h0, h | ⟨g, cap, cur, h1, h2, h3, h4⟩⟩ := h
 ·rw [h.1] at hr; cases hr
 ·rw [h1] at hr
  injection hr with hr
  subst hr
  refine ⟨h2, ?_⟩
  rcases Nat.lt_or_ge g w.heap.size with hl | hl
  ·exact hl
  ·rw [Array.getElem?_eq_none hl] at h3; cases h3
theorem SchB.row {S : Nat → Bool} {b : Nat} {m0 m1 rv : Value} {v : SV} {x : St} {s : List Rul} {w w' : World} {o o' : Option Nat} (h : SchB S b m0 m1 rv v x s w) (hg : w.grownBy w' o)
  (hS : ∀ r, o = some r → S r = true ∧ r ≠ b) (hn : ∀ r, o' = some r → o = some r ∨ w.heap.size ≤ r) (hl : ∀ r, o' = some r → r < w'.heap.size) :
  ∃ S', (∀ r, o' = some r → S' r = true) ∧ SchB S' b m0 m1 rv v x s w' := by
 have hX : ExtX (fun k => decide (o = some k)) w w' := ⟨hg.os, hg.tape, hg.output, hg.size, fun k hk hr => hg.block k hk (by simpa [eq_comm] using hr)⟩
 have hb : Blk w' b 108 (m0 :: m1 :: rv :: v.cells x) := by
  have h1 := h.hb
  unfold Blk at h1 ⊢
  rw [hg.block b h.hb.lt (fun e => (hS b e.symm).2 rfl)]
  exact h1
 have key : ∀ S' : Nat → Bool, (∀ k, S k = true → S' k = true) → (∀ k, S' k = true → S k = true ∨ (w.heap.size ≤ k ∧ k < w'.heap.size)) → SchB S' b m0 m1 rv v x s w' := fun S' h1 h2 => by
  have hh : Ext (hole S w) (hole S' w') := hX.hole (fun k hk => (hS k (by simpa using hk)).1) h1 (fun k hk => by
   rcases h2 k hk with h | h
   ·exact .inl h
   ·exact .inr h.1)
  exact ⟨h1 b h.hSb, fun k hk => by
   rcases h2 k hk with h3 | h3
   ·exact Nat.lt_of_lt_of_le (h.hSl k h3) hg.size
   ·exact h3.2, hb, h.hr.ext hh, h.hs.ext hh, h.hI⟩
 cases o' with
 | none => exact ⟨S, (fun r hr => by cases hr), key S (fun _ h => h) (fun _ h => .inl h)⟩
 | some g =>
  refine ⟨Go.Proofs.YtpmlcfgbfhgpgaaGreatDoor.more S g, (fun r hr => by injection hr with hr; subst hr; exact more_self S g), key _ (fun k hk => more_in hk) (fun k hk => ?_)⟩
  rcases more_or hk with hk | hk
  ·exact .inl hk
  ·subst hk
   rcases hn k rfl with h1 | h1
   ·exact .inl (hS k h1).1
   ·exact .inr ⟨h1, hl k rfl⟩
end Go.Proofs.YtpmlcfgbfhgpgaaGreatDoor
