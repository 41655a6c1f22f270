/- Regions that draw their order: trees of turns with three ready at once. Appends that tell the block that was written. -/
import Derived.Test.YtpmlcfgbfhgpgaaGreatDoorTreeR
import Derived.Test.YtpmlcfgbfhgpgaaGreatDoorLaw9I
namespace Go.Proofs.YtpmlcfgbfhgpgaaGreatDoor
open Go.RowKit Go.Shelf
set_option linter.unusedVariables false
inductive Tre where
 | done
 | look (k : Nat) (t : Tre)
 | one (k : Nat) (t : Tre)
 | two (i : Nat) (t : Tre) (j : Nat) (s : Tre)
 | three (i : Nat) (t : Tre) (j : Nat) (s : Tre) (k : Nat) (r : Tre)
def Tre.turns : Tre → Nat
 | .done => 0
 | .look _ t => t.turns + 1
 | .one _ t => t.turns + 1
 | .two _ t _ _ => t.turns + 1
 | .three _ t _ _ _ _ => t.turns + 1
section
variable {P : Program} {ops : Array Oper} {md : Region.Mode}
end
theorem wpList_appendAllG {P : Program} {ops : Array Oper} {rest : List Oper} {o : Oper} {a : Act} {Q : Exit → Act → World → Prop} {W : World} {B : Nat} {t e : TypeId} {size bytes : Nat} {z : Value} {v vx : Value} {n m : Nat} {xs news : List Value}
  (hT : ElTy P t e size bytes z) (hgd : o.guard = none) (s x : Operand) (ho : o.op = .call { callee := .builtin .append, args := #[s, x], argTypes := #[t, t] })
  (hs : a.eval s = v) (hx : a.eval x = vx) (hown : W.ownsRow B e size v n xs) (hr : Raw W size vx m news) (h1 : ∀ u ∈ news, u.oneCell' = true) (hB : B ≤ W.heap.size)
  (hlen : (n + m) * bytes ≤ 140737488355328) (hn : n + m ≤ 9223372036854775807)
  (h : ∀ v' w', w'.ownsRow B e size v' (n + m) (xs ++ news) → Below B W w' → W.grownBy w' v.ownBlock → (∀ r, v'.ownBlock = some r → v.ownBlock = some r ∨ W.heap.size ≤ r) → wpList P ops Q rest (a.put o.dst v') w') : wpList P ops Q (o :: rest) a W := by
 refine wpList_plain hgd fun _ hK => ?_
 have key : ∃ v' w', (Builtin.append_ #[t, t] o.type #[v, vx]).run P W = .ok v' w' ∧ w'.ownsRow B e size v' (n + m) (xs ++ news) ∧ W.grownBy w' v.ownBlock ∧ (v'.ownBlock = v.ownBlock ∨ v'.ownBlock = some W.heap.size) := by
  obtain ⟨i0, hi, hz0, hz1, hz2⟩ := info_parts hT.info
  obtain ⟨A, c, rfl, hl, hc⟩ := hr
  rcases A with _ | ad
  ·have hm : m = 0 := by
    rcases Nat.eq_zero_or_pos m with h0 | h0
    ·exact h0
    ·obtain ⟨ad, h, _⟩ := hc h0; cases h
   subst hm
   have hn : news = [] := List.eq_nil_of_length_eq_zero (by simpa using hl)
   subst hn
   exact ⟨v, W, run_append_nil W B t o.type e i0 size hT.ht hi v n xs hown c, by simpa using hown, ⟨rfl, rfl, rfl, Nat.le_refl _, fun _ _ _ => rfl⟩, .inl rfl⟩
  ·have hcells : ∀ j u, news[j]? = some u → W.cell? (ad.add j) = some u := by
    intro j u hu
    rcases Nat.eq_zero_or_pos m with h0 | h0
    ·subst h0
     have hn : news = [] := List.eq_nil_of_length_eq_zero (by simpa using hl)
     subst hn; simp at hu
    ·obtain ⟨ad', h, hc⟩ := hc h0
     injection h with h; subst h
     exact hc j u hu
   obtain ⟨v', w', hrun, h2, h3, _, h6⟩ := run_append_own_at (P := P) W B t o.type e i0 z size bytes hT.ht hi hz0 hz1 hz2 hT.zc hT.pos v n xs hown ad m c news hl hcells h1 (by unfold maxLen; omega) hlen hB
   exact ⟨v', w', hrun, h2, h3, h6⟩
 obtain ⟨v', w', hrun, h2, h3, h6⟩ := key
 unfold Oper.wp execOp
 simp only [ho, resolve, invoke, builtin, Sem.run_bind, Sem.run_pure, Result.andThen_ok, List.map_toArray, List.map_cons, List.map_nil, hs, hx, hrun]
 exact hK _ _ (h v' w' h2 (Below.of_grownBy h3 hown hB) h3 (fun r hr => by
  rcases h6 with h6 | h6
  ·left; rw [← hr]; exact h6.symm
  ·right
   rw [hr] at h6
   injection h6 with h6
   rw [h6]; omega))
end Go.Proofs.YtpmlcfgbfhgpgaaGreatDoor
