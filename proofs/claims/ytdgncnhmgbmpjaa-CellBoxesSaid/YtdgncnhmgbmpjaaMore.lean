/- Walks: numbers of entries; which entry is more special; the spec of the cells of two. -/
import Derived.Test.YtdgncnhmgbmpjaaRefE
import Derived.Test.YtdgncnhmgbmpjaaScript
namespace Go.Proofs.Ytdgncnhmgbmpjaa
open Go.RowKit Go.Shelf
set_option linter.unusedVariables false

def numB (es : List Ent) (i : Int) : Bool := decide (0 ≤ i) && decide (i ≤ (es.length : Int) - 1)
def numsI (sizes : List Int) (es : List Ent) (l : List Int) : Int := if validI sizes es = 0 then (if allB l.length (fun k => numB es (l[k]?.getD 0)) then 0 else 4) else validI sizes es
def nK (sizes : List Int) (es : List Ent) (i j : Int) : Int := if validI sizes es = 0 then (if numB es i && numB es j then 0 else 4) else validI sizes es
theorem numsI_two (sizes : List Int) (es : List Ent) (i j : Int) : numsI sizes es [i, j] = nK sizes es i j := by
  simp [numsI, nK, allB, List.range_succ]
theorem numsI_one (sizes : List Int) (es : List Ent) (i : Int) : numsI sizes es [i] = nK sizes es i i := by
  simp [numsI, nK, allB, List.range_succ]
theorem numB_nat {es : List Ent} {i : Int} (h : numB es i = true) : ∃ k : Nat, i = k ∧ k < es.length := by
  simp only [numB, Bool.and_eq_true, decide_eq_true_eq] at h
  exact ⟨i.toNat, by omega, by omega⟩
theorem nK_zero {sizes : List Int} {es : List Ent} {i j : Int} (h : nK sizes es i j = 0) : ValidP sizes es ∧ ∃ a b : Nat, i = a ∧ j = b ∧ a < es.length ∧ b < es.length := by
  unfold nK at h
  split at h
  · rename_i h1
    split at h
    · rename_i h2
      rw [Bool.and_eq_true] at h2
      obtain ⟨a, ha, ha2⟩ := numB_nat h2.1
      obtain ⟨b, hb, hb2⟩ := numB_nat h2.2
      exact ⟨validI_zero h1, a, b, ha, hb, ha2, hb2⟩
    · omega
  · omega
theorem nK_swap (sizes : List Int) (es : List Ent) (i j : Int) : nK sizes es i j = nK sizes es j i := by
  unfold nK; rw [Bool.and_comm]

theorem ints_two {w : World} {i j : Int} {t : TypeId} {g : Nat} (hg : w.heap.size = g) : Ints (w.alloc (.cells #[.int .i64 i, .int .i64 j] t)) (.slice (some ⟨g, 0, none⟩) 2 2) [i, j] := by
  subst hg
  refine ints_lit (n := 2) rfl (by omega) (fun k hk => alloc_cell w #[.int .i64 i, .int .i64 j] t ?_)
  match k, hk with
  | 0, _ => rfl
  | 1, _ => rfl

/-! ## IsMore -/
def moreB (sizes : List Int) (es : List Ent) (i j : Int) : Bool := decide (nK sizes es i j = 0) && isMoreB (ent es i.toNat).1 (ent es j.toNat).1

/-! ## Meet -/
def meetB (a b : List Int) : Bool := agreesB (fun x y => coversB x y || coversB y x) a b
def meetL (a b : List Int) : List Int := (List.range a.length).map fun t => max (a[t]?.getD 0) (b[t]?.getD 0)
/-- a list, a bool and an error code come back -/
def R3 (L : List Int) (b : Bool) (k : Int) (w : World) (e : Ending) (w' : World) : Prop := ∃ v, e = .returned (.tuple #[v, .bool b, .int .i64 k]) ∧ Ints w' v L ∧ Ext w w'
theorem R3.mk {L : List Int} {b : Bool} {k : Int} {w w' : World} {v : Value} (h : Ints w' v L) (hx : Ext w w') : R3 L b k w (.returned (.tuple #[v, .bool b, .int .i64 k])) w' := ⟨v, rfl, h, hx⟩
def meetsB (sizes : List Int) (es : List Ent) (i j : Int) : Bool := decide (nK sizes es i j = 0) && meetB (ent es i.toNat).1 (ent es j.toNat).1
def meetsL (sizes : List Int) (es : List Ent) (i j : Int) : List Int := if meetsB sizes es i j = true then meetL (ent es i.toNat).1 (ent es j.toNat).1 else []
theorem Ext.setCell {w W : World} (h : Ext w W) {c : Nat} (hc : w.heap.size ≤ c) (i : Nat) (v : Value) : Ext w (W.setCell ⟨c, i, none⟩ v) :=
  ⟨h.os, h.tape, h.output, by simpa [World.setCell] using h.size, fun k hk => (Below.heap_setCell _ _ _ k (fun e => by dsimp only at e; omega)).trans (h.block k hk)⟩
theorem meetL_len (a b : List Int) : (meetL a b).length = a.length := by simp [meetL]
theorem meetL_get {a b : List Int} {t : Nat} (h : t < a.length) : (meetL a b)[t]? = some (max (a[t]?.getD 0) (b[t]?.getD 0)) := by simp [meetL, h]
theorem fill_step {L : List Int} {k : Nat} {x : Int} (h : L[k]? = some x) : (L.take k ++ List.replicate (L.length - k) 0).set k x = L.take (k + 1) ++ List.replicate (L.length - (k + 1)) 0 := by
  have hk : k < L.length := (List.getElem?_eq_some_iff.1 h).1
  have h1 : (L.take k).length = k := by simp; omega
  rw [List.set_append_right _ _ (by omega), h1, Nat.sub_self, List.take_add_one, h]
  rw [show L.length - k = (L.length - (k + 1)) + 1 by omega, List.replicate_succ]
  simp

theorem meetL_succ {a b : List Int} {k : Nat} (h : k < a.length) : (meetL a b).take (k + 1) = (meetL a b).take k ++ [max (a[k]?.getD 0) (b[k]?.getD 0)] := by
  rw [List.take_add_one, meetL_get h]; rfl

end Go.Proofs.Ytdgncnhmgbmpjaa
