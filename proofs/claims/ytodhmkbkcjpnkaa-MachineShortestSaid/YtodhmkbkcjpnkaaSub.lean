/- Parts of a slice of ints: s[:i], s[k:]. -/
import Derived.Test.YtodhmkbkcjpnkaaSl
namespace Go.Proofs.Ytodhmkbkcjpnkaa
open Go.RowKit Go.Shelf
set_option linter.unusedVariables false
theorem ints_take {w : World} {a : Option Addr} {c n : Nat} {l : List Int} (h : Ints w (.slice a n c) l) {i : Nat} (hi : i ≤ l.length) : Ints w (.slice a i c) (l.take i) := by
  obtain ⟨a', c', hv, hl, hm, H⟩ := h
  injection hv with ha hn hc; subst ha hc
  refine ⟨a, c, by rw [List.length_take, Nat.min_eq_left hi], by rw [List.length_take]; omega, hm, fun j hj => ?_⟩
  rw [List.length_take] at hj
  obtain ⟨b, o, hb, hcell⟩ := H j (by omega)
  exact ⟨b, o, hb, by show w.cell? _ = some (.int .i64 ((l.take i)[j]?.getD 0)); rw [List.getElem?_take, if_pos (by omega)]; exact hcell⟩
theorem ints_drop {w : World} {b o c n : Nat} {l : List Int} (h : Ints w (.slice (some ⟨b, o, none⟩) n c) l) {k : Nat} (hk : k ≤ l.length) {A : Option Addr} (hA : (if c = k then some (⟨b, o, none⟩ : Addr) else some ⟨b, o + k, none⟩) = A) :
    Ints w (.slice A (l.length - k) (c - k)) (l.drop k) := by
  obtain ⟨a', c', hv, hl, hm, H⟩ := h
  injection hv with ha hn hc; subst ha hc
  refine ⟨A, c - k, by rw [List.length_drop], by rw [List.length_drop]; omega, by omega, fun j hj => ?_⟩
  rw [List.length_drop] at hj
  rw [if_neg (by omega)] at hA
  subst hA
  obtain ⟨b', o', hb, hcell⟩ := H (k + j) (by omega)
  injection hb with hb; injection hb with h1 h2 _; subst h1 h2
  exact ⟨b, o + k, rfl, by show w.cell? _ = some (.int .i64 ((l.drop k)[j]?.getD 0)); rw [List.getElem?_drop, Nat.add_assoc]; exact hcell⟩
theorem ints_none {w : World} {a : Option Addr} {c : Nat} (hc : c ≤ 9223372036854775807) : Ints w (.slice a 0 c) [] := ⟨a, c, rfl, Nat.zero_le _, by unfold maxLen; omega, fun i hi => by simp at hi⟩
end Go.Proofs.Ytodhmkbkcjpnkaa
