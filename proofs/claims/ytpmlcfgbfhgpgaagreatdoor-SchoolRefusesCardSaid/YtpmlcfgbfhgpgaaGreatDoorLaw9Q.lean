/- The book of a school, read. -/
import Derived.Test.YtpmlcfgbfhgpgaaGreatDoorJoinC
import Derived.Test.YtpmlcfgbfhgpgaaGreatDoorSchQ
namespace Go.Proofs.YtpmlcfgbfhgpgaaGreatDoor
open Go.RowKit Go.Shelf
set_option linter.unusedVariables false
theorem book_read {s : List Rul} {x : St} (h : Inv s x) : readOrders (bookB x.orders) = x.orders ∧ (readB (bookB x.orders)).2 = [] ∧ (bookB x.orders).length ≤ 3900 := by
 have hR : ∀ o ∈ x.orders.map txt, rightB o = true := by
  intro o ho
  obtain ⟨t, ht, rfl⟩ := List.mem_map.1 ho
  exact h.right t ht
 have hl := h.olen
 have hread := readB_text hR (by simp; omega)
 refine ⟨?_, ?_, ?_⟩
 ·unfold readOrders bookB; rw [hread]; exact map_ofBs _
 ·unfold bookB; rw [hread]
 ·have := textF_short (x.orders.map txt) 0 hR
  unfold bookB; simp at this ⊢; omega
end Go.Proofs.YtpmlcfgbfhgpgaaGreatDoor
