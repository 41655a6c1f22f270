/- Writes that change numbers alone. -/
import Derived.Test.YtpmlcfgbfhgpgaaGreatDoorHol
namespace Go.Proofs.YtpmlcfgbfhgpgaaGreatDoor
open Go.RowKit
set_option linter.unusedVariables false
def IntX (w w' : World) : Prop := ∀ (g : Nat) (cur : Array Value) (e : TypeId), w.heap[g]? = some (.cells cur e (0, 0)) → ∃ cur' : Array Value, w'.heap[g]? = some (.cells cur' e (0, 0)) ∧ ∀ (i : Nat) (v : Value), cur[i]? = some v → cur'[i]? = some v ∨ ∃ z z' : Int, v = .int .i64 z ∧ cur'[i]? = some (.int .i64 z')
theorem IntX.refl (w : World) : IntX w w := fun g cur e h => ⟨cur, h, fun i v hv => .inl hv⟩
theorem IntX.int {w w' : World} (h : IntX w w') {g i : Nat} {cur : Array Value} {e : TypeId} {z : Int} (hb : w.heap[g]? = some (.cells cur e (0, 0))) (hc : w.cell? ⟨g, i, none⟩ = some (.int .i64 z)) : (∃ z', w'.cell? ⟨g, i, none⟩ = some (.int .i64 z')) ∧ w'.frozen? ⟨g, i, none⟩ = false := by
 obtain ⟨cur', h1, h2⟩ := h g cur e hb
 have hc2 : cur[i]? = some (.int .i64 z) := by simpa [World.cell?, hb] using hc
 refine ⟨?_, by simp [World.frozen?, h1]⟩
 rcases h2 i _ hc2 with h | ⟨z1, z', _, h⟩
 ·exact ⟨z, by simpa [World.cell?, h1] using h⟩
 ·exact ⟨z', by simpa [World.cell?, h1] using h⟩
theorem IntX.slice {w w' : World} (h : IntX w w') {g i : Nat} {cur : Array Value} {e : TypeId} {a : Option Addr} {n c : Nat} (hb : w.heap[g]? = some (.cells cur e (0, 0))) (hc : w.cell? ⟨g, i, none⟩ = some (.slice a n c)) : w'.cell? ⟨g, i, none⟩ = some (.slice a n c) := by
 obtain ⟨cur', h1, h2⟩ := h g cur e hb
 have hc2 : cur[i]? = some (.slice a n c) := by simpa [World.cell?, hb] using hc
 rcases h2 i _ hc2 with h | ⟨z1, z', h0, _⟩
 ·simpa [World.cell?, h1] using h
 ·cases h0
theorem IntX.set {w w' : World} (h : IntX w w') {g i : Nat} {cur : Array Value} {e : TypeId} {z z' : Int} (hb : w.heap[g]? = some (.cells cur e (0, 0))) (hc : w.cell? ⟨g, i, none⟩ = some (.int .i64 z)) : IntX w (w'.setCell ⟨g, i, none⟩ (.int .i64 z')) := by
 intro k c2 e2 hk
 obtain ⟨cur', h1, h2⟩ := h k c2 e2 hk
 by_cases hkg : g = k
 ·subst hkg
  rw [hb] at hk
  injection hk with hk
  injection hk with q1 q2 q3
  subst q1 q2
  have hc2 : cur[i]? = some (.int .i64 z) := by simpa [World.cell?, hb] using hc
  refine ⟨cur'.setIfInBounds i (.int .i64 z'), by simp [World.setCell, Array.getElem?_modify, h1], fun j v hv => ?_⟩
  by_cases hij : i = j
  ·subst hij
   rw [hc2] at hv
   injection hv with hv
   refine .inr ⟨z, z', hv.symm, ?_⟩
   have hlt : i < cur'.size := by
    rcases h2 i _ hc2 with h | ⟨_, _, _, h⟩
    ·exact (Array.getElem?_eq_some_iff.1 h).1
    ·exact (Array.getElem?_eq_some_iff.1 h).1
   simp [hlt]
  ·rcases h2 j v hv with h | ⟨z1, z2, h, h'⟩
   ·exact .inl (by rw [Array.getElem?_setIfInBounds_ne hij]; exact h)
   ·exact .inr ⟨z1, z2, h, by rw [Array.getElem?_setIfInBounds_ne hij]; exact h'⟩
 ·refine ⟨cur', ?_, h2⟩
  simp [World.setCell, Array.getElem?_modify, hkg, h1]
end Go.Proofs.YtpmlcfgbfhgpgaaGreatDoor
