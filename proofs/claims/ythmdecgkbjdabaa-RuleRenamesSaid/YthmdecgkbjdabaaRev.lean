/- slices.Reverse at []int. -/
import Derived.Test.YthmdecgkbjdabaaWr
import Derived.Shelf.RegionOpenPlain
import Derived.Deep.LoopGhost
import Derived.Lib.Walk
import Derived.Sort.WalkB12
import Derived.Lib.SlicesMore
namespace Go.Proofs.Ythmdecgkbjdabaa
open Go.Shelf Go.RowKit Go.Lib Go.Sort
set_option linter.unusedVariables false

theorem ext_putRow {w W : World} (h : Ext w W) {g : Nat} (hg : w.heap.size ≤ g) (n : Nat) (d : Array Int) : Ext w (putRow encI (Sort.ahead W n) g 0 d) :=
  ⟨h.os, h.tape, h.output, by simpa [putRow, mapBlock, Sort.ahead] using h.size, fun k hk => by
    refine Eq.trans ?_ (h.block k hk)
    simp only [putRow, mapBlock, Sort.ahead, Array.getElem?_modify]
    rw [if_neg (by omega)]⟩
theorem putRow_own {w : World} {B g cap : Nat} {l l' : List Int} (h : OInts 3 w B (.slice (some ⟨g, 0, none⟩) l.length cap) l) (hl : l'.length = l.length) (n : Nat) :
    OInts 3 (putRow encI (Sort.ahead w n) g 0 l'.toArray) B (.slice (some ⟨g, 0, none⟩) l.length cap) l' := by
  obtain ⟨h1, h2⟩ := h
  rcases h2 with ⟨h, _⟩ | ⟨g', cap', cur, hv, hg, hh, hnc, hm, hcs, ht⟩
  · cases h
  · injection hv with ha _ hc
    injection ha with ha; injection ha with ha _ _
    subst ha hc
    refine ⟨by simp, .inr ⟨g, cap, putCells encI 0 l'.toArray cur, by rw [hl], hg, ?_, by rw [hl]; exact hnc, hm, by simpa [putCells] using hcs, ?_⟩⟩
    · simp [putRow, mapBlock, Sort.ahead, Array.getElem?_modify, hh, onCells]
    · refine List.ext_getElem? fun i => ?_
      by_cases hi : i < l'.length
      · have hic : i < cur.size := by omega
        rw [List.getElem?_take, if_pos (by omega)]
        simp [putCells, hi, ints, hic, encI]
      · rw [List.getElem?_take, if_neg (by omega)]
        rw [List.getElem?_eq_none (by simp [ints]; omega)]
theorem holds_own {w : World} {B g cap : Nat} {l : List Int} (h : OInts 3 w B (.slice (some ⟨g, 0, none⟩) l.length cap) l) : Holds encI w g 0 l.toArray := by
  intro j hj
  have hj : j < l.length := by simpa using hj
  obtain ⟨r, c, he, _, _, _, _, hc, hf⟩ := h.spot hj
  injection he with h1 _ _
  injection h1 with h1; injection h1 with h1 _ _
  subst h1
  rw [Nat.zero_add]
  refine ⟨?_, hf⟩
  rw [hc]
  simp [encI, hj]
end Go.Proofs.Ythmdecgkbjdabaa
