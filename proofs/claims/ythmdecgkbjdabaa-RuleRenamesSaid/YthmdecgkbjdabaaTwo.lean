/- Two rules: both sides, special, what both let be; both packages. -/
import Derived.Test.YthmdecgkbjdabaaRulH
import Derived.ChangeKeysEq
namespace Go.Proofs.Ythmdecgkbjdabaa
open Go.RowKit Go.Shelf
set_option linter.unusedVariables false

/-! ## memory -/
theorem kept_alloc2 (w : World) (cs ds : Array Value) (ty tz : TypeId) {i : Nat} {v : Value} (h : cs[i]? = some v) : ∀ W, Ext ((w.alloc (.cells cs ty)).alloc (.cells ds tz)) W → W.cell? ⟨w.heap.size, i, none⟩ = some v :=
  fun W hW => hW.keep ((Ext.alloc _ _).keep (alloc_cell w cs ty h))
theorem kept_alloc2' (w : World) (cs ds : Array Value) (ty tz : TypeId) {i : Nat} {v : Value} (h : ds[i]? = some v) : ∀ W, Ext ((w.alloc (.cells cs ty)).alloc (.cells ds tz)) W → W.cell? ⟨w.heap.size + 1, i, none⟩ = some v :=
  fun W hW => hW.keep (by have := alloc_cell (w.alloc (.cells cs ty)) ds tz h; simpa using this)

/-! ## arrays of bools -/
theorem run_eqItems_bools {P : Program} (w : World) (d : Nat) {e : TypeId} (he : P.plainKey e = true) (hb : P.underlying e = some .bool) (xs ys : Array Value) (A B : Nat → Bool) : ∀ (is : List Nat),
    (∀ i ∈ is, xs[i]? = some (.bool (A i)) ∧ ys[i]? = some (.bool (B i))) → (Op.eqItems (d + 1) e 1 xs ys is).run P w = .ok (is.all fun i => A i == B i) w
  | [], _ => by simp [Op.eqItems]
  | i :: is, h => by
    obtain ⟨h1, h2⟩ := h i (by simp)
    have ih := run_eqItems_bools w d he hb xs ys A B is (fun j hj => h j (by simp [hj]))
    simp only [Op.eqItems, Sem.run_bind, Nat.mul_one, run_part_plain w he h1, run_part_plain w he h2, Result.andThen_ok, run_equalIn_bool' w d e _ _ hb]
    by_cases hab : A i = B i
    · simp [hab, ih]
    · have : (A i == B i) = false := by simpa using hab
      simp [this]
theorem run_eql_bools {P : Program} (w : World) {t e : TypeId} {n : Nat} (hu : P.underlying t = some (.array n e)) (hi : (P.info? e).isSome = true) (hc : P.cellsOf e = 1) (he : P.plainKey e = true) (hb : P.underlying e = some .bool) (xs ys : Array Value) (A B : Nat → Bool)
    (h : ∀ i, i < n → xs[i]? = some (.bool (A i)) ∧ ys[i]? = some (.bool (B i))) : (binOp .eql t (.agg xs) (.agg ys)).run P w = .ok (.bool ((List.range n).all fun i => A i == B i)) w := by
  obtain ⟨i, hi⟩ := Option.isSome_iff_exists.1 hi
  rw [run_eql_struct, run_equalIn_array w 9999 _ _ hu hi, hc, run_eqItems_bools w 9998 he hb xs ys A B _ (fun i hi => h i (by simpa using hi))]
  rfl
theorem run_eql_side (w : World) (a0 a1 a2 a3 a4 a5 a6 b0 b1 b2 b3 b4 b5 b6 : Bool) :
    (binOp .eql 59 (.agg #[.bool a0, .bool a1, .bool a2, .bool a3, .bool a4, .bool a5, .bool a6]) (.agg #[.bool b0, .bool b1, .bool b2, .bool b3, .bool b4, .bool b5, .bool b6])).run Try.prog w = .ok (.bool (a0 == b0 && (a1 == b1 && (a2 == b2 && (a3 == b3 && (a4 == b4 && (a5 == b5 && a6 == b6))))))) w := by
  rw [run_eql_bools w Try.underlying59 (by kernel_rfl) (by kernel_rfl) (by kernel_rfl) Try.underlying4 _ _ (fun i => [a0, a1, a2, a3, a4, a5, a6].getD i false) (fun i => [b0, b1, b2, b3, b4, b5, b6].getD i false)
    (fun i hi => by have : i = 0 ∨ i = 1 ∨ i = 2 ∨ i = 3 ∨ i = 4 ∨ i = 5 ∨ i = 6 := by omega
                    rcases this with rfl | rfl | rfl | rfl | rfl | rfl | rfl <;> exact ⟨rfl, rfl⟩)]
  simp [List.range, List.range.loop]

theorem run_index_side (w : World) (xs : Array Value) (k : Nat) (b : Bool) (hk : k < 7) (hx : xs[k]? = some (.bool b)) : (Instr.index 59 (.agg xs) (.int .i64 (k : Int))).run Try.prog w = .ok (.bool b) w := by
  have hi : (Try.prog.info? 4).isSome = true := by kernel_rfl
  obtain ⟨i, hi⟩ := Option.isSome_iff_exists.1 hi
  have hc : Try.prog.cellsOf 4 = 1 := by kernel_rfl
  have h1 : (0 : Int) ≤ (k : Int) ∧ (k : Int) < ((7 : Nat) : Int) := by omega
  simp [Instr.index, run_underlying Try.underlying59, asIntOf, h1, run_sizeOf w hi, hc, run_part_plain (P := Try.prog) w (e := 4) (by kernel_rfl) hx]
  try omega

/-! ## plain -/
def twoK (x y : Rul) : Int := if validR x = 0 then validR y else validR x
def bothB (a b : List Int) (n : Int) : Bool := mayB a n && mayB b n
def bothA (a b : List Int) : Array Value := #[.bool (bothB a b (-1)), .bool (bothB a b 0), .bool (bothB a b 1), .bool (bothB a b 2), .bool (bothB a b 3), .bool (bothB a b 4), .bool (bothB a b 5)]
def bothV (a b : List Int) : Value := .agg (bothA a b)
def comL (a b : List Int) : List Int := (sel 7 fun i => bothB a b ((i : Int) - 1)).map fun i => i - 1
def insB (a b : List Int) : Bool := allB 7 fun i => !(mayB a ((i : Int) - 1) && !mayB b ((i : Int) - 1))
theorem allB7 (f : Nat → Bool) : allB 7 f = (f 0 && (f 1 && (f 2 && (f 3 && (f 4 && (f 5 && f 6)))))) := by simp [allB, List.range, List.range.loop]

/-! ## both sides -/
def andA (a b : Nat → Bool) (k : Nat) (i : Nat) : Value := .bool (a i && (b i || decide (k ≤ i)))
def andC (a b : Nat → Bool) (k : Nat) : Array Value := #[andA a b k 0, andA a b k 1, andA a b k 2, andA a b k 3, andA a b k 4, andA a b k 5, andA a b k 6]
theorem andC_cell (a b : Nat → Bool) {k : Nat} (hk : k < 7) : (andC a b k)[k]? = some (.bool (a k)) := by
  have : k = 0 ∨ k = 1 ∨ k = 2 ∨ k = 3 ∨ k = 4 ∨ k = 5 ∨ k = 6 := by omega
  rcases this with rfl | rfl | rfl | rfl | rfl | rfl | rfl <;> simp [andC, andA]
theorem andC_set (a b : Nat → Bool) {k : Nat} (hk : k < 7) : (andC a b k).setIfInBounds k (.bool (a k && b k)) = andC a b (k + 1) := by
  have : k = 0 ∨ k = 1 ∨ k = 2 ∨ k = 3 ∨ k = 4 ∨ k = 5 ∨ k = 6 := by omega
  rcases this with rfl | rfl | rfl | rfl | rfl | rfl | rfl <;> simp [andC, andA]
theorem andC_zero (a b : Nat → Bool) : andC a b 0 = #[.bool (a 0), .bool (a 1), .bool (a 2), .bool (a 3), .bool (a 4), .bool (a 5), .bool (a 6)] := by simp [andC, andA]
theorem andC_end (a b : Nat → Bool) : andC a b 7 = #[.bool (a 0 && b 0), .bool (a 1 && b 1), .bool (a 2 && b 2), .bool (a 3 && b 3), .bool (a 4 && b 4), .bool (a 5 && b 5), .bool (a 6 && b 6)] := by simp [andC, andA]
/-! ## the reference's -/
end Go.Proofs.Ythmdecgkbjdabaa

