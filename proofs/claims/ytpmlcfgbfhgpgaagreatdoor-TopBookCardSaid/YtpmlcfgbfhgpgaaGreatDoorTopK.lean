/- A book of a school, its beginnings, and what is merged: plain. -/
import Derived.Test.YtpmlcfgbfhgpgaaGreatDoorLaw9L
namespace Go.Proofs.YtpmlcfgbfhgpgaaGreatDoor
open Go.RowKit
set_option linter.unusedVariables false
theorem Inv.rightT {s : List Rul} {x : St} (h : Inv s x) : ∀ o ∈ x.orders, rightB (txt o) = true := fun o ho => h.right o ho
theorem write_take {L : List ByteArray} (hR : ∀ o ∈ L, rightB (txt o) = true) (hl : L.length ≤ 100) (n : Nat) : writeK (L.take n) = 0 ∧ writeB (L.take n) = bookB (L.take n) := by
  have h1 : writeK (L.take n) = 0 := by
    unfold writeK
    rw [if_neg (by rw [List.length_take]; omega), if_pos (rightA_iff.2 fun t ht => hR t (List.mem_of_mem_take ht))]
  exact ⟨h1, by unfold writeB; rw [if_pos h1]⟩
theorem write_all {L : List ByteArray} (hR : ∀ o ∈ L, rightB (txt o) = true) (hl : L.length ≤ 100) : writeK L = 0 ∧ writeB L = bookB L := by
  have := write_take hR hl L.length
  rwa [List.take_length] at this
theorem read_book {L : List ByteArray} (hR : ∀ o ∈ L, rightB (txt o) = true) (hl : L.length ≤ 100) : readOrders (bookB L) = L ∧ (readB (bookB L)).2 = [] ∧ (bookB L).length ≤ 3900 := by
  have hR' : ∀ o ∈ L.map txt, rightB o = true := by
    intro o ho
    obtain ⟨t, ht, rfl⟩ := List.mem_map.1 ho
    exact hR t ht
  have hread := readB_text hR' (by simp; omega)
  refine ⟨?_, ?_, ?_⟩
  · unfold readOrders bookB; rw [hread]; exact map_ofBs _
  · unfold bookB; rw [hread]
  · have := textF_short (L.map txt) 0 hR'
    unfold bookB; simp at this ⊢; omega
theorem read_take {L : List ByteArray} (hR : ∀ o ∈ L, rightB (txt o) = true) (hl : L.length ≤ 100) (n : Nat) : readOrders (bookB (L.take n)) = L.take n ∧ (readB (bookB (L.take n))).2 = [] ∧ (bookB (L.take n)).length ≤ 3900 :=
  read_book (fun o ho => hR o (List.mem_of_mem_take ho)) (by rw [List.length_take]; omega)
theorem book_cut {L : List ByteArray} (hR : ∀ o ∈ L, rightB (txt o) = true) (hl : L.length ≤ 100) (k : Nat) (hk : k ≤ (bookB L).length) :
    ∃ m, m ≤ L.length ∧ readOrders ((bookB L).take k) = L.take m ∧ ((readB ((bookB L).take k)).2).length ≤ k ∧ (bookB L).take (k - ((readB ((bookB L).take k)).2).length) = bookB (L.take m) := by
  have hR' : ∀ o ∈ L.map txt, rightB o = true := by
    intro o ho
    obtain ⟨t, ht, rfl⟩ := List.mem_map.1 ho
    exact hR t ht
  obtain ⟨m, h1, h2, h3⟩ := readF_take (L.map txt) 100 0 k hR' (by simpa using hl)
  have h4 := (readF_sound 100 0 ((bookB L).take k)).1
  unfold bookB at hk h4 ⊢
  unfold readOrders readB
  rw [h2] at h4 ⊢
  generalize (readF 100 0 ((textF 0 (L.map txt)).take k)).2 = r at *
  have h5 := congrArg List.length h4
  rw [List.length_take, List.length_append] at h5
  refine ⟨m, by simpa using h1, ?_, by omega, ?_⟩
  · rw [← List.map_take]; exact map_ofBs _
  · have h6 : (textF 0 (L.map txt)).take (k - r.length) = ((textF 0 (L.map txt)).take k).take (k - r.length) := by rw [List.take_take]; congr 1; omega
    rw [h6, h4, List.take_left' (by omega), List.map_take]
theorem merge_book {L : List ByteArray} (hR : ∀ o ∈ L, rightB (txt o) = true) (hl : L.length ≤ 100) {m : Nat} (hm : m ≤ L.length) :
    mergeV (ofBs (bookB (L.take m))) (ofBs (bookB L)) = .tuple #[.string (ofBs (bookB L)), .int .i64 L.length, .int .i64 0] ∧
    mergeV (ofBs (bookB L)) (ofBs (bookB (L.take m))) = .tuple #[.string (ofBs (bookB L)), .int .i64 L.length, .int .i64 0] := by
  obtain ⟨a1, a2, _⟩ := read_book hR hl
  obtain ⟨b1, b2, _⟩ := read_take hR hl m
  have hlm : (L.take m).length = m := by rw [List.length_take]; omega
  have hd : ∀ j, j < m → (L.take m)[j]? = L[j]? := fun j hj => List.getElem?_take_of_lt hj
  constructor
  · unfold mergeV
    simp only [txt_of, a1, a2, b1, b2]
    rw [if_neg (by simp), diffK_none (fun j hj => hd j (by omega))]
    simp only [hlm]
    split
    · rfl
    · rename_i h
      have : m = L.length := by omega
      subst this
      rw [List.take_length]
  · unfold mergeV
    simp only [txt_of, a1, a2, b1, b2]
    rw [if_neg (by simp), diffK_none (fun j hj => (hd j (by omega)).symm)]
    simp only [hlm]
    rw [if_neg (by omega)]
end Go.Proofs.YtpmlcfgbfhgpgaaGreatDoor
