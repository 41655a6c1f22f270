/- slices.SortFunc at a row of arcs of one's own. -/
import Derived.Test.YtpbflkbelhlogaaArcC
import Derived.Shelf.SlSortCmp.NoneTotal
namespace Go.Proofs.Ytpbflkbelhlogaa
open Go.RowKit Go.Shelf
set_option linter.unusedVariables false
instance instInhArcT : Inhabited Arc := ⟨⟨0, 0, 0, 0⟩⟩
theorem cmpLaysA (blk off size : Nat) (w : World) : CmpLays Try.prog 104 #[] encA 4 cmpA blk off size w := fun m os dk hdk x y => by
  have h := compare_c x y (sortWorldK encA 4 w blk off m dk os)
  exact h
theorem flatK_flat (l : List Arc) : (Go.Sort.flatK encA 4 l.toArray).toList = l.flatMap encA := by
  apply List.ext_getElem?
  intro t
  by_cases ht : t < l.length * 4
  · have h1 : t / 4 < l.length := by omega
    have h2 := flat_get encA encA_len l (t / 4) (t % 4) _ (List.getElem?_eq_getElem h1) (by omega)
    rw [show t / 4 * 4 + t % 4 = t by omega] at h2
    rw [h2, Array.getElem?_toList]
    have h3 : t < (Go.Sort.flatK encA 4 l.toArray).size := by simpa using ht
    rw [Array.getElem?_eq_getElem h3, ← getElem!_pos _ t h3, Go.Sort.get_flatK encA 4 l.toArray t (by simpa using ht)]
    rw [getElem!_pos l.toArray (t / 4) (by simpa using h1)]
    have h4 : t % 4 < (encA l[t / 4]).length := by rw [encA_len]; omega
    rw [List.getElem?_eq_getElem h4]
    simp only [List.getElem_toArray]
    rw [getElem!_pos (encA l[t / 4]) (t % 4) h4]
  · rw [List.getElem?_eq_none (by simp; omega), List.getElem?_eq_none (by rw [flat_len encA encA_len]; omega)]
theorem holdsA {w : World} {B g cap : Nat} {l : List Arc} (h : w.ownsRow B 50 4 (.slice (some ⟨g, 0, none⟩) l.length cap) l.length (l.flatMap encA)) : Go.Sort.HoldsK encA 4 w g 0 l.toArray := by
  intro j hj
  have hl : (l.flatMap encA).length = l.length * 4 := flat_len encA encA_len l
  have hj2 : j < l.length * 4 := by simpa using hj
  rw [Nat.zero_add]
  refine ⟨?_, row_frozen h j⟩
  rw [h.cellAt j (by omega), ← flatK_flat, Array.getElem?_toList, Array.getElem?_eq_getElem (by simpa using hj2), getElem!_pos _ j (by simpa using hj2)]
  rfl
theorem putRowA {w : World} {B g cap n : Nat} {l l' : List Arc} (h : w.ownsRow B 50 4 (.slice (some ⟨g, 0, none⟩) n cap) n (l.flatMap encA)) (hl : l'.length = n) (m : Nat) :
    (Go.Sort.putRowK encA 4 (Go.Sort.ahead w m) g 0 l'.toArray).ownsRow B 50 4 (.slice (some ⟨g, 0, none⟩) n cap) n (l'.flatMap encA) := by
  obtain ⟨cur, hB, hh, hnc, hm, hcs, ht⟩ := arow_open h
  have hfl : (l'.flatMap encA).length = n * 4 := by rw [flat_len encA encA_len, hl]
  refine ⟨hfl, .inr ⟨g, cap, Go.Sort.putCells id 0 (Go.Sort.flatK encA 4 l'.toArray) cur, rfl, hB, ?_, hnc, hm, by simpa [Go.Sort.putCells] using hcs, ?_⟩⟩
  · simp [Go.Sort.putRowK, Go.Sort.putRow, Go.Sort.mapBlock, Go.Sort.ahead, Array.getElem?_modify, hh, Go.Sort.onCells]
  · rw [← flatK_flat]
    refine List.ext_getElem? fun i => ?_
    by_cases hi : i < n * 4
    · have hic : i < cur.size := by omega
      have hif : i < (Go.Sort.flatK encA 4 l'.toArray).size := by simp [hl]; exact hi
      rw [List.getElem?_take, if_pos hi, Array.getElem?_toList, Array.getElem?_toList, Array.getElem?_eq_getElem hif]
      simp only [Go.Sort.putCells, Array.getElem?_mapIdx, Array.getElem?_eq_getElem hic, Option.map_some, Nat.zero_add, Nat.zero_le, true_and, Nat.sub_zero]
      rw [if_pos hif, getElem!_pos _ i hif]; rfl
    · rw [List.getElem?_take, if_neg hi, List.getElem?_eq_none (by simp [hl]; omega)]
theorem grown_putRow (w : World) (g m : Nat) (l : List Arc) : w.grownBy (Go.Sort.putRowK encA 4 (Go.Sort.ahead w m) g 0 l.toArray) (some g) := by
  refine ⟨rfl, rfl, rfl, by simp [Go.Sort.putRowK, Go.Sort.putRow, Go.Sort.mapBlock, Go.Sort.ahead], fun k hk hne => ?_⟩
  simp only [Go.Sort.putRowK, Go.Sort.putRow, Go.Sort.mapBlock, Go.Sort.ahead, Array.getElem?_modify]
  rw [if_neg (fun e => hne (by rw [e]))]
/-- the row is put in order -/
theorem sortA_c (v : Value) (l : List Arc) (w : World) (B : Nat) (h : OArcs w B v l) (hl9 : l.length ≤ 100000) :
    Calls Try.prog 103 #[v, .func (.func 104) #[] #[]] w fun e w' => e = .returned (.tuple #[]) ∧ ∃ s, s.Perm l ∧ AscW s ∧ OArcs w' B v s ∧ w.grownBy w' v.ownBlock := by
  rcases h.2 with ⟨rfl, h0⟩ | ⟨g, cap, cur0, rfl, hg, hh, hnc, hm, hcs, ht⟩
  · obtain rfl : l = [] := List.length_eq_zero_iff.1 h0
    refine (AnyF.slices_SortFunc_none sortALays none 0 (.func (.func 104) #[] #[]) w).mono ?_
    rintro e w' ⟨rfl, rfl⟩
    exact ⟨rfl, [], List.Perm.refl _, fun i j hij hj => by simp at hj, h, World.grownBy.refl _ _⟩
  · have hsz : l.toArray.size < 4611686018427387904 := by rw [List.size_toArray]; omega
    have hlt : g < w.heap.size := (Array.getElem?_eq_some_iff.1 hh).1
    have hcon := AnyQ.slices_SortFunc sortALays 4 (fun w => by kernel_rfl) (fun w => by kernel_rfl) encA encA_len (fun x v hv => by
      unfold encA at hv
      simp only [List.mem_cons, List.not_mem_nil, or_false] at hv
      rcases hv with rfl | rfl | rfl | rfl <;> rfl) cmpA swoA 104 #[] g 0 cap l.toArray w (enters_of Try.func104 (by kernel_rfl) rfl) (cmpLaysA g 0 _ w) (holdsA h) hlt hsz
    rw [List.size_toArray] at hcon
    refine hcon.mono ?_
    rintro e w' ⟨rfl, d', n, os, hp, hs, rfl⟩
    have hdl : d'.toList.length = l.length := by have := hp.1; simpa using this
    refine ⟨rfl, d'.toList, ?_, fun i j hij hj => ?_, ?_, ?_⟩
    · have h3 := hp.2.2
      have e1 : d'.extract 0 l.length = d' := by
        have : d'.size = l.length := by simpa using hdl
        rw [← this, Array.extract_size]
      have e2 : l.toArray.extract 0 l.length = l.toArray := by rw [show l.length = l.toArray.size by simp, Array.extract_size]
      rw [e1, e2] at h3
      simpa using h3
    · have h3 := hs i j (Nat.zero_le _) hij (by omega)
      have hj2 : j < d'.size := by simpa using hj
      rw [getElem!_pos d' j hj2, getElem!_pos d' i (by omega), ltOf_A] at h3
      have h4 : arcA d'.toList j = d'[j] := by simp [arcA, hj2]
      have h5 : arcA d'.toList i = d'[i]'(by omega) := by simp [arcA, show i < d'.size by omega]
      rw [h4, h5]
      simpa using h3
    · have h3 := putRowA (l' := d'.toList) h hdl n
      rw [Array.toArray_toList] at h3
      unfold OArcs
      rw [hdl]
      exact ownsRow_ext h3 (grow_ext _ os)
    · have h3 := grown_putRow w g n d'.toList
      rw [Array.toArray_toList] at h3
      have h4 := grow_ext (Go.Sort.putRowK encA 4 (Go.Sort.ahead w n) g 0 d') os
      exact grown_tr h3 ⟨h4.os, h4.tape, h4.output, h4.size, fun k hk _ => h4.block k hk⟩
end Go.Proofs.Ytpbflkbelhlogaa
