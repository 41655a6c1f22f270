/- The cells of a paradigm, as lists: plain. -/
import Derived.Test.YtdgncnhmgbmpjaaLib
namespace Go.Proofs.Ytdgncnhmgbmpjaa
set_option linter.unusedVariables false

def cellsOf : List Int → List (List Int)
  | [] => [[]]
  | s :: ss => (List.range s.toNat).flatMap fun (v : Nat) => (cellsOf ss).map fun c => (v : Int) :: c
def inc (sizes : List Int) : List Int → Nat → Option (List Int)
  | _, 0 => none
  | cur, n + 1 => if cur[n]?.getD 0 = sizes[n]?.getD 0 - 1 then inc sizes (cur.set n 0) n else some (cur.set n (cur[n]?.getD 0 + 1))
def sizesOk (l : List Int) : Prop := 1 ≤ l.length ∧ l.length ≤ 3 ∧ ∀ i, i < l.length → 2 ≤ l[i]?.getD 0 ∧ l[i]?.getD 0 ≤ 3
def allSizes : List (List Int) := [[2], [3], [2,2], [2,3], [3,2], [3,3], [2,2,2], [2,2,3], [2,3,2], [2,3,3], [3,2,2], [3,2,3], [3,3,2], [3,3,3]]
theorem sizes_mem {l : List Int} (h : sizesOk l) : l ∈ allSizes := by
  obtain ⟨h1, h2, h3⟩ := h
  match l, h1, h2, h3 with
  | [a], _, _, h3 =>
    have ha := h3 0 (by simp); simp at ha
    have : a = 2 ∨ a = 3 := by omega
    rcases this with rfl | rfl <;> decide
  | [a, b], _, _, h3 =>
    have ha := h3 0 (by simp); have hb := h3 1 (by simp); simp at ha hb
    have h1 : a = 2 ∨ a = 3 := by omega
    have h2 : b = 2 ∨ b = 3 := by omega
    rcases h1 with rfl | rfl <;> rcases h2 with rfl | rfl <;> decide
  | [a, b, c], _, _, h3 =>
    have ha := h3 0 (by simp); have hb := h3 1 (by simp); have hc := h3 2 (by simp); simp at ha hb hc
    have h1 : a = 2 ∨ a = 3 := by omega
    have h2 : b = 2 ∨ b = 3 := by omega
    have h4 : c = 2 ∨ c = 3 := by omega
    rcases h1 with rfl | rfl <;> rcases h2 with rfl | rfl <;> rcases h4 with rfl | rfl <;> decide
theorem sizes_all {p : List Int → Bool} (h : allSizes.all p = true) {l : List Int} (hl : sizesOk l) : p l = true := List.all_eq_true.1 h l (sizes_mem hl)

def cellOk (sizes c : List Int) : Bool := c.length == sizes.length && (List.range c.length).all fun i => decide (0 ≤ c[i]?.getD 0) && decide (c[i]?.getD 0 ≤ sizes[i]?.getD 0 - 1)
theorem cells_count {l : List Int} (hl : sizesOk l) : 1 ≤ (cellsOf l).length ∧ (cellsOf l).length ≤ 27 := by
  have := sizes_all (p := fun l => decide (1 ≤ (cellsOf l).length ∧ (cellsOf l).length ≤ 27)) (by decide) hl
  simpa using this
theorem cells_first {l : List Int} (hl : sizesOk l) : (cellsOf l)[0]? = some (List.replicate l.length 0) := by
  have := sizes_all (p := fun l => decide ((cellsOf l)[0]? = some (List.replicate l.length 0))) (by decide) hl
  simpa using this
theorem cells_next {l : List Int} (hl : sizesOk l) {k : Nat} (hk : k < (cellsOf l).length) : inc l ((cellsOf l)[k]?.getD []) l.length = (cellsOf l)[k+1]? := by
  have := sizes_all (p := fun l => (List.range (cellsOf l).length).all fun k => decide (inc l ((cellsOf l)[k]?.getD []) l.length = (cellsOf l)[k+1]?)) (by decide +kernel) hl
  have := List.all_eq_true.1 this k (by simpa using hk)
  simpa using this
theorem cells_ok {l : List Int} (hl : sizesOk l) {k : Nat} (hk : k < (cellsOf l).length) : cellOk l ((cellsOf l)[k]?.getD []) = true := by
  have := sizes_all (p := fun l => (List.range (cellsOf l).length).all fun k => cellOk l ((cellsOf l)[k]?.getD [])) (by decide +kernel) hl
  exact List.all_eq_true.1 this k (by simpa using hk)
theorem cellOk_len {s c : List Int} (h : cellOk s c = true) : c.length = s.length := by
  simp only [cellOk, Bool.and_eq_true, beq_iff_eq] at h; exact h.1
theorem cells_len {l : List Int} (hl : sizesOk l) {k : Nat} (hk : k < (cellsOf l).length) : ((cellsOf l)[k]?.getD []).length = l.length := cellOk_len (cells_ok hl hk)
end Go.Proofs.Ytdgncnhmgbmpjaa
