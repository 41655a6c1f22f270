/- slices.Reverse at []int. -/
import Derived.Test.YtpbflkbelhlogaaWr
import Derived.Shelf.RegionOpenPlain
import Derived.Deep.LoopGhost
import Derived.Lib.Walk
import Derived.Sort.WalkB12
import Derived.Lib.SlicesMore
namespace Go.Proofs.Ytpbflkbelhlogaa
open Go.Shelf Go.RowKit Go.Lib Go.Sort
set_option linter.unusedVariables false

set_option maxHeartbeats 1600000 in
set_option maxRecDepth 1000000 in
theorem reverse_arr (blk off cap : Nat) (d : Array Int) (w : World) (hH : Holds encI w blk off d) (hsz : d.size ≤ 9223372036854775807) :
    Calls Try.prog 96 #[.slice (some ⟨blk, off, none⟩) d.size cap] w fun e w' => e = .returned (.tuple #[]) ∧ ∃ n, w' = putRow encI (Sort.ahead w n) blk off d.reverse := by
  go_enter Try.func96, Try.ntmps96
  go_wp2_with fail
  go_loopg [2, 3] d.size (fun k s2 s3 wr => ∃ (i jn : Nat) (jz : Int) (dk : Array Int) (n : Nat), s2 = .int .i64 i ∧ s3 = .int .i64 jz ∧ ((i : Int) < jz → jz = jn ∧ jn < d.size) ∧ (¬ (i : Int) < jz → ¬ i < jn) ∧ jn - i ≤ k ∧
    dk.size = d.size ∧ wr = putRow encI (Sort.ahead w n) blk off dk ∧ reverseLoop i jn dk = reverseLoop 0 (d.size - 1) d)
  case atStart => exact ⟨0, d.size - 1, (d.size : Int) - 1, d, 0, rfl, rfl, fun h => ⟨by omega, by omega⟩, fun h => by omega, by omega, rfl, (putRow_self encI w blk off d hH).symm, rfl⟩
  case round =>
    obtain ⟨i, jn, jz, dk, n, rfl, rfl, h1, h2, hk, hds, hwr, heq⟩ := hrel
    by_cases hlt : (i : Int) < jz
    · obtain ⟨rfl, hjn⟩ := h1 hlt
      have hij : i < jn := by omega
      have hid : i < d.size := by omega
      have mixed : Try.prog.follows Departure.mixedOrders = true := by kernel_rfl
      have hHk : Holds encI wr blk off dk := by rw [hwr]; exact holds_putRow encI _ blk off d dk (holds_ahead encI w n blk off d hH) hds
      obtain ⟨ci, fi⟩ := hHk i (by omega)
      obtain ⟨cj, fj⟩ := hHk jn (by omega)
      have A : Aside (wr = putRow encI (Sort.ahead w n) blk off dk) := hwr
      clear hwr hHk hH h1 h2
      go_wp2_with fail
      go_region_o
      go_wp2
      go_roundg (jn - 1 - (i + 1))
      case measure => omega
      case rel =>
        rw [reverseLoop, if_pos hij] at heq
        exact ⟨i + 1, jn - 1, (jn : Int) - 1, swp dk i jn, n + 1, by simp, rfl, fun h => ⟨by omega, by omega⟩, fun h => by omega, Nat.le_refl _, by rw [size_swp]; exact hds,
          swap_world encI (by omega) (by omega) A.out (by first | rfl | simp [encI, getElem!_pos, show jn < dk.size by omega]) (by first | rfl | simp [encI, getElem!_pos, show i < dk.size by omega]), heq⟩
    · have hnot := h2 hlt
      go_wp2
      go_end0
      refine ⟨rfl, n, ?_⟩
      rw [reverseLoop, if_neg hnot] at heq
      rw [← Lib.reverseLoop_reverse, ← heq]
theorem reverse_empty (a : Option Addr) (cap : Nat) (w : World) :
    Calls Try.prog 96 #[.slice a 0 cap] w fun e w' => e = .returned (.tuple #[]) ∧ w' = w := by
  go_enter Try.func96, Try.ntmps96
  go_wp2_with fail
  go_loopg [2, 3] 0 (fun k s2 s3 wr => s2 = .int .i64 0 ∧ s3 = .int .i64 (-1) ∧ wr = w)
  case atStart => exact ⟨rfl, rfl, rfl⟩
  case round =>
    obtain ⟨rfl, rfl, rfl⟩ := hrel
    go_wp2_with fail
    go_end0
    exact ⟨rfl, rfl⟩
theorem ext_putRow {w W : World} (h : Ext w W) {g : Nat} (hg : w.heap.size ≤ g) (n : Nat) (d : Array Int) : Ext w (putRow encI (Sort.ahead W n) g 0 d) :=
  ⟨h.os, h.tape, h.output, by simpa [putRow, mapBlock, Sort.ahead] using h.size, fun k hk => by
    refine Eq.trans ?_ (h.block k hk)
    simp only [putRow, mapBlock, Sort.ahead, Array.getElem?_modify]
    rw [if_neg (by omega)]⟩
theorem putRow_own {w : World} {B g cap : Nat} {l l' : List Int} (h : OInts 3 w B (.slice (some ⟨g, 0, none⟩) l.length cap) l) (hl : l'.length = l.length) (n : Nat) :
    OInts 3 (putRow encI (Sort.ahead w n) g 0 l'.toArray) B (.slice (some ⟨g, 0, none⟩) l.length cap) l' := by
  obtain ⟨h1, h2⟩ := h
  rcases h2 with ⟨h, _⟩ | ⟨g', cap', cur, hv, hg, hh, hnc, hm, hcs, ht⟩
  · cases h
  · injection hv with ha _ hc
    injection ha with ha; injection ha with ha _ _
    subst ha hc
    refine ⟨by simp, .inr ⟨g, cap, putCells encI 0 l'.toArray cur, by rw [hl], hg, ?_, by rw [hl]; exact hnc, hm, by simpa [putCells] using hcs, ?_⟩⟩
    · simp [putRow, mapBlock, Sort.ahead, Array.getElem?_modify, hh, onCells]
    · refine List.ext_getElem? fun i => ?_
      by_cases hi : i < l'.length
      · have hic : i < cur.size := by omega
        rw [List.getElem?_take, if_pos (by omega)]
        simp [putCells, hi, ints, hic, encI]
      · rw [List.getElem?_take, if_neg (by omega)]
        rw [List.getElem?_eq_none (by simp [ints]; omega)]
theorem holds_own {w : World} {B g cap : Nat} {l : List Int} (h : OInts 3 w B (.slice (some ⟨g, 0, none⟩) l.length cap) l) : Holds encI w g 0 l.toArray := by
  intro j hj
  have hj : j < l.length := by simpa using hj
  obtain ⟨r, c, he, _, _, _, _, hc, hf⟩ := h.spot hj
  injection he with h1 _ _
  injection h1 with h1; injection h1 with h1 _ _
  subst h1
  rw [Nat.zero_add]
  refine ⟨?_, hf⟩
  rw [hc]
  simp [encI, hj]
/-- a list of one's own, turned round in place -/
theorem reverse_c (v : Value) (l : List Int) (w : World) (B : Nat) (h : OInts 3 w B v l) :
    Calls Try.prog 96 #[v] w fun e w' => e = .returned (.tuple #[]) ∧ OInts 3 w' B v l.reverse ∧ ∀ w0, Ext w0 w → w0.heap.size ≤ B → Ext w0 w' := by
  have h0 := h
  rcases h.2 with ⟨rfl, hl⟩ | ⟨g, cap, cur, rfl, hg, hh, hnc, hm, hcs, ht⟩
  · obtain rfl : l = [] := List.length_eq_zero_iff.1 hl
    refine (reverse_empty _ _ w).mono ?_
    rintro e w' ⟨rfl, rfl⟩
    exact ⟨rfl, h0, fun w0 h _ => h⟩
  · have hr := reverse_arr g 0 cap l.toArray w (holds_own h0) (by have h9 : cap ≤ 9223372036854775807 := hm; rw [List.size_toArray]; omega)
    rw [List.size_toArray] at hr
    refine hr.mono ?_
    rintro e w' ⟨rfl, n, rfl⟩
    rw [List.reverse_toArray]
    exact ⟨rfl, putRow_own h0 (by simp) n, fun w0 hx hb => ext_putRow hx (by omega) n _⟩
end Go.Proofs.Ytpbflkbelhlogaa
