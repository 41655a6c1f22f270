/- Machines: Either of the reference: plain facts, what stays. -/
import Derived.Test.YtodhmkbkcjpnkaaEith
import Derived.Test.YtodhmkbkcjpnkaaRPlain
namespace Go.Proofs.Ytodhmkbkcjpnkaa
open Go.RowKit Go.Shelf
set_option linter.unusedVariables false
theorem run_append_rawG {P : Program} (w : World) (B : Nat) {t e : TypeId} (ty : TypeId) {size bytes : Nat} {z : Value} (hT : ElTy P t e size bytes z)
    (v : Value) (n : Nat) (xs : List Value) (hown : w.ownsRow B e size v n xs) (vx : Value) (m : Nat) (news : List Value) (hr : Raw w size vx m news) (h1 : ∀ u ∈ news, u.oneCell' = true)
    (hlen : (n + m) * bytes ≤ 140737488355328) (hn : n + m ≤ 9223372036854775807) (hB : B ≤ w.heap.size) :
    ∃ v' w', (Builtin.append_ #[t, t] ty #[v, vx]).run P w = .ok v' w' ∧ w'.ownsRow B e size v' (n + m) (xs ++ news) ∧ w.grownBy w' v.ownBlock := by
  obtain ⟨i0, hi, hz0, hz1, hz2⟩ := info_parts hT.info
  obtain ⟨A, c, rfl, hl, hc⟩ := hr
  rcases A with _ | ad
  · have hm : m = 0 := by
      rcases Nat.eq_zero_or_pos m with h0 | h0
      · exact h0
      · obtain ⟨ad, h, _⟩ := hc h0; cases h
    subst hm
    have hn : news = [] := List.eq_nil_of_length_eq_zero (by simpa using hl)
    subst hn
    exact ⟨v, w, run_append_nil w B t ty e i0 size hT.ht hi v n xs hown c, by simpa using hown, ⟨rfl, rfl, rfl, Nat.le_refl _, fun _ _ _ => rfl⟩⟩
  · have hcells : ∀ j u, news[j]? = some u → w.cell? (ad.add j) = some u := by
      intro j u hu
      rcases Nat.eq_zero_or_pos m with h0 | h0
      · subst h0
        have hn : news = [] := List.eq_nil_of_length_eq_zero (by simpa using hl)
        subst hn; simp at hu
      · obtain ⟨ad', h, hc⟩ := hc h0
        injection h with h; subst h
        exact hc j u hu
    obtain ⟨v', w', hrun, h2, h3, _, _⟩ := run_append_own_at (P := P) w B t ty e i0 z size bytes hT.ht hi hz0 hz1 hz2 hT.zc hT.pos v n xs hown ad m c news hl hcells h1 (by unfold maxLen; omega) hlen hB
    exact ⟨v', w', hrun, h2, h3⟩
/-- append of all that a slice of ints holds, telling which block was written -/
theorem wpList_appendIntsG {P : Program} {ops : Array Oper} {rest : List Oper} {o : Oper} {a : Act} {Q : Exit → Act → World → Prop} {W : World} {B : Nat} {t e : TypeId} {v vx : Value} {l k : List Int}
    (hT : ElTy P t e 1 8 (.int .i64 0)) (hgd : o.guard = none) (s x : Operand) (ho : o.op = .call { callee := .builtin .append, args := #[s, x], argTypes := #[t, t] })
    (hs : a.eval s = v) (hx : a.eval x = vx) (hown : OInts e W B v l) (hr : Ints W vx k) (hB : B ≤ W.heap.size) (hlen : l.length + k.length ≤ 1000000)
    (h : ∀ v' w', OInts e w' B v' (l ++ k) → Below B W w' → W.grownBy w' v.ownBlock → wpList P ops Q rest (a.put o.dst v') w') : wpList P ops Q (o :: rest) a W := by
  refine wpList_plain hgd fun _ hK => ?_
  obtain ⟨v', w', hrun, h2, h3⟩ := run_append_rawG (P := P) W B o.type hT v l.length (ints l) hown vx k.length (ints k) hr.raw (ints_one k) (by omega) (by omega) hB
  unfold Oper.wp execOp
  simp only [ho, resolve, invoke, builtin, Sem.run_bind, Sem.run_pure, Result.andThen_ok, List.map_toArray, List.map_cons, List.map_nil, hs, hx, hrun]
  exact hK _ _ (h v' w' (by unfold OInts; rw [ints_append, List.length_append]; exact h2) (Below.of_grownBy h3 hown hB) h3)
def stN (m n : Mac) (j : Nat) : Bool := if j = 0 then false else if j = 1 then hasB m.e 0 else hasB m.e 0 || hasB n.e 0
def elN (m n : Mac) (j : Nat) : List Int := if j = 0 then [] else if j = 1 then eithE 1 m.e else eithE 1 m.e ++ eithE (1 + m.s) n.e
theorem eith_el (m n : Mac) : eithEs m n = (if stN m n 2 then [0] else []) ++ elN m n 2 := by
  unfold eithEs eith0 stN elN
  cases hasB m.e 0 <;> cases hasB n.e 0 <;> rfl
/-- the J-th machine of two -/
theorem reith_step {m n : Mac} (hm : MacOk m) (hn : MacOk n) {w : World} {av ev bv fv : Value} (h : MacR w av ev m) (k : MacR w bv fv n) {j : Nat} (hj : j < 2) :
    ∃ (x : Mac) (xv yv : Value) (fr : Int), MacR w xv yv x ∧ MacOk x ∧ [.int .i64 m.s, av, ev, .int .i64 n.s, bv, fv][j * 3]? = some (.int .i64 x.s) ∧ [.int .i64 m.s, av, ev, .int .i64 n.s, bv, fv][j * 3 + 1]? = some xv ∧ [.int .i64 m.s, av, ev, .int .i64 n.s, bv, fv][j * 3 + 2]? = some yv ∧
      frN m n j = fr ∧ frN m n (j + 1) = fr + x.s ∧ eaN m n (j + 1) = eaN m n j ++ eithX fr x.a ∧ elN m n (j + 1) = elN m n j ++ eithE fr x.e ∧ stN m n (j + 1) = (stN m n j || hasB x.e 0) ∧ 1 ≤ fr ∧ fr ≤ 10 ∧ (eaN m n j).length ≤ 120 ∧ (elN m n j).length ≤ 10 := by
  have h1 := hm.s1
  have h2 := hm.s2
  have hA := eithX_len 1 m.a
  have ha := hm.a
  have he := end_bd hm
  obtain rfl | rfl : j = 0 ∨ j = 1 := by omega
  · exact ⟨m, av, ev, 1, h, hm, rfl, rfl, rfl, rfl, rfl, by simp [eaN], by simp [elN], by simp [stN], by omega, by omega, by simp [eaN], by simp [elN]⟩
  · exact ⟨n, bv, fv, 1 + m.s, k, hn, rfl, rfl, rfl, rfl, rfl, rfl, rfl, rfl, by omega, by omega, by show (eithX 1 m.a).length ≤ 120; omega, by show (eithE 1 m.e).length ≤ 10; unfold eithE; rw [List.length_map]; omega⟩
structure ER (w1 w : World) (gL : Nat) (us : List Value) (gB : Nat) (vs : List Value) (gO : Nat) (s : Int) (vo vl : Value) (A : List Arc) (E : List Int) : Prop where
  ext : Ext w1 w
  lit : Blk w gL 25 us
  box : Blk w gB 25 vs
  out : Blk w gO 25 [.int .i64 s, vo, .slice none 0 0]
  arcs : OArcs w w1.heap.size vo A
  last : OInts 3 w w1.heap.size vl E
theorem ER.later {w1 w w' : World} {gL gB gO : Nat} {s : Int} {us vs : List Value} {vo vl : Value} {A : List Arc} {E : List Int} (h : ER w1 w gL us gB vs gO s vo vl A E) (hx : Ext w w') : ER w1 w' gL us gB vs gO s vo vl A E :=
  ⟨h.ext.trans hx, h.lit.ext hx, h.box.ext hx, h.out.ext hx, h.arcs.ext hx, h.last.ext hx⟩
theorem ER.pushE {w1 w w' : World} {gL gB gO : Nat} {s : Int} {us vs : List Value} {vo vl vl' : Value} {A : List Arc} {E E' : List Int} (h : ER w1 w gL us gB vs gO s vo vl A E) (hr : OInts 3 w' w1.heap.size vl' E') (hb : Below w1.heap.size w w') (hg : w.grownBy w' vl.ownBlock) : ER w1 w' gL us gB vs gO s vo vl' A E' :=
  ⟨h.ext.upto hb (Nat.le_refl _), h.lit.keptR (by decide) h.last hg, h.box.keptR (by decide) h.last hg, h.out.keptR (by decide) h.last hg, row_keptR h.arcs (by decide) h.last hg, hr⟩
theorem ER.set {w1 w : World} {gL gB gO b : Nat} {s : Int} {us vs ys : List Value} {vo vl : Value} {A : List Arc} {E : List Int} (h : ER w1 w gL us gB vs gO s vo vl A E) (hb : Blk w b 50 ys) (hge : w1.heap.size ≤ b) (hn : vo.ownBlock ≠ some b) (i : Nat) (x : Value) : ER w1 (w.setCell ⟨b, i, none⟩ x) gL us gB vs gO s vo vl A E :=
  ⟨h.ext.setCell hge _ _, h.lit.other (fun e => blk_ne h.lit hb e.symm) i x, h.box.other (fun e => blk_ne h.box hb e.symm) i x, h.out.other (fun e => blk_ne h.out hb e.symm) i x, row_setN h.arcs hn i x, row_setR h.last hb (by decide) i x⟩
theorem ER.lay {w1 w w' : World} {gL gB gO : Nat} {s : Int} {us vs : List Value} {vo vo' vl : Value} {A A' : List Arc} {E : List Int} (h : ER w1 w gL us gB vs gO s vo vl A E) (hge : w1.heap.size ≤ gO) (hL : gO ≠ gL) (hB : gO ≠ gB) (hx : Ext w w') (hr : OArcs w' w1.heap.size vo' A') : ER w1 (w'.setCell ⟨gO, 1, none⟩ vo') gL us gB vs gO s vo' vl A' E := by
  have h' := h.later hx
  refine ⟨h'.ext.setCell hge _ _, h'.lit.other hL 1 vo', h'.box.other hB 1 vo', ?_, row_setR hr h'.out (by decide) 1 vo', row_setR h'.last h'.out (by decide) 1 vo'⟩
  have := h'.out.set 1 vo'
  simpa using this
end Go.Proofs.Ytodhmkbkcjpnkaa
