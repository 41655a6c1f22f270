/- Audit of a school. -/
import Derived.Test.YtpmlcfgbfhgpgaaGreatDoorLaw9K
import Derived.Test.YtpmlcfgbfhgpgaaGreatDoorJoinC
namespace Go.Proofs.YtpmlcfgbfhgpgaaGreatDoor
open Go.RowKit Go.Shelf
set_option linter.unusedVariables false
theorem book_read {s : List Rul} {x : St} (h : Inv s x) : readOrders (bookB x.orders) = x.orders ∧ (readB (bookB x.orders)).2 = [] ∧ (bookB x.orders).length ≤ 3900 := by
 have hR : ∀ o ∈ x.orders.map txt, rightB o = true := by
  intro o ho
  obtain ⟨t, ht, rfl⟩ := List.mem_map.1 ho
  exact h.right t ht
 have hl := h.olen
 have hread := readB_text hR (by simp; omega)
 refine ⟨?_, ?_, ?_⟩
 ·unfold readOrders bookB; rw [hread]; exact map_ofBs _
 ·unfold bookB; rw [hread]
 ·have := textF_short (x.orders.map txt) 0 hR
  unfold bookB; simp at this ⊢; omega
theorem ok_at {s : List Rul} {L : List ByteArray} (h : okS s st0 L = true) {k : Nat} {t : ByteArray} (hk : L[k]? = some t) : (doS s (runS s st0 (L.take k)) t).2 = 0 := by
 have hlt : k < L.length := by
  rcases Nat.lt_or_ge k L.length with h | h
  ·exact h
  ·rw [List.getElem?_eq_none h] at hk; cases hk
 rw [List.getElem?_eq_getElem hlt] at hk
 injection hk with hk
 rw [← List.take_append_drop k L, okS_append, List.drop_eq_getElem_cons hlt, hk, Bool.and_eq_true] at h
 have h2 := h.2
 simp only [okS, Bool.and_eq_true, beq_iff_eq] at h2
 exact h2.1
end Go.Proofs.YtpmlcfgbfhgpgaaGreatDoor
