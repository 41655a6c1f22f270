/- Regions that draw their order: looks first, then every order one by one. And append to a list literal without elements. Over any program. -/
import Derived.Test.YtpbflkbelhlogaaPeek
import Derived.Test.YtpbflkbelhlogaaOwn
import Derived.ArgAppend
namespace Go.Proofs.Ytpbflkbelhlogaa
open Go.RowKit
set_option linter.unusedVariables false
section
variable {P : Program} {ops : Array Oper} {md : Region.Mode}
theorem wpPeek_nilK {Q : Exit → Act → World → Prop} {K : Act → World → Prop} {C1 C2 : World → Prop} {D : List Nat} {a : Act} {w : World} (h : K a w) : wpPeek P ops (fun e a w => match e with | .normal => K a w | e => Q e a w) C1 C2 D [] a w := h
def Region.looksB (md : Region.Mode) (ops : Array Oper) (D : List Nat) : List Nat → Array Bool → Bool
  | [], _ => true
  | i :: r, listed => (Region.ready md ops listed).contains i && Region.free md ops listed i && decide (i < ops.size) && (D.all fun d => d != i && Region.reachB md ops i ops.size d) && Region.looksB md ops D r (listed.setIfInBounds i true)
def listed (l : Array Bool) (is : List Nat) : Array Bool := is.foldl (fun l i => l.setIfInBounds i true) l
theorem wpAnyE_looks {Q Q' : Exit → Act → World → Prop} {C1 C2 : World → Prop} {D : List Nat} {w : World} {f : Nat} (hsel : Region.noSelect ops = true) (hQ : ∀ c (a : Act) d v w, Q (.panic c) (a.put d v) w → Q (.panic c) a w) :
    ∀ (is : List Nat) (L : Array Bool) (a : Act), HeadInv md ops ops.size L → Region.looksB md ops D is L = true →
      (∀ a, HeadInv md ops ops.size (listed L is) → Q' .normal a w → wpAnyE P md ops Q C1 C2 D f (listed L is) a w) →
      wpPeek P ops Q' C1 C2 D (is.map .look) a w → wpAnyE P md ops Q C1 C2 D (f + is.length) L a w
  | [], L, a, inv, _, hK, h => hK a inv h
  | i :: is, L, a, inv, hB, hK, h => by
    simp only [Region.looksB, Bool.and_eq_true, decide_eq_true_eq, List.all_eq_true] at hB
    obtain ⟨⟨⟨⟨hr, hf⟩, hin⟩, hD⟩, hB'⟩ := hB
    have hr' : i ∈ Region.ready md ops L := by simpa using hr
    have hi0 : ops[i]? = some ops[i] := Array.getElem?_eq_getElem hin
    rw [List.map_cons] at h
    unfold wpPeek at h
    simp only [hi0] at h
    have hex : ∃ v, YieldsC P ops C1 ops[i] v a ∧ C1 w ∧ wpPeek P ops Q' C1 C2 D (is.map .look) (a.put ops[i].dst v) w := by
      by_cases hw : Region.wanted ops[i] (yielded ops a.tmps) = true
      · rw [if_pos hw] at h
        obtain ⟨v, h1, h2⟩ := h
        exact ⟨v, .inl ⟨hw, h1⟩, h2⟩
      · rw [if_neg hw] at h
        exact ⟨undef, .inr ⟨by simpa using hw, rfl⟩, h⟩
    obtain ⟨v, hy, hc, hK'⟩ := hex
    show wpAnyE P md ops Q C1 C2 D ((f + is.length) + 1) L a w
    refine wpAnyE_first (C := C1) hi0 (Region.noSelect_spec hsel) hQ (fun listed' hun inv' j hj w w' hk => ?_) _ L a w inv (Region.free_spec hi0 hf) hr' hc hy (wpAnyE_looks hsel hQ is _ _ (inv.set hr' hin) hB' hK hK')
    refine hk.1.resolve_left fun hjD => ?_
    have := hD j hjD
    exact reach_waits inv' hun (by have := this.1; simpa using this) this.2 hj
def wpEach (P : Program) (ops : Array Oper) (Q : Exit → Act → World → Prop) (K : Nat → Act → World → Prop) (a : Act) (w : World) : List Nat → Prop
  | [] => True
  | i :: r => wpOp P ops Q i (K i) a w ∧ wpEach P ops Q K a w r
/-- one of these is next -/
theorem wpAnyE_each {Q : Exit → Act → World → Prop} {C1 C2 : World → Prop} {D : List Nat} {f : Nat} {L : Array Bool} {a : Act} {w : World} {i : Nat} {is : List Nat} (hr : Region.ready md ops L = i :: is)
    (h : wpEach P ops Q (fun i a' w' => KeepE C1 C2 D i w w' ∧ wpAnyE P md ops Q C1 C2 D f (L.setIfInBounds i true) a' w') a w (i :: is)) : wpAnyE P md ops Q C1 C2 D (f + 1) L a w := by
  refine ⟨fun h0 => (by rw [hr] at h0; cases h0), fun j hj => ?_⟩
  rw [hr] at hj
  generalize i :: is = l at *
  clear hr
  induction l with
  | nil => cases hj
  | cons x r ih =>
    rcases List.mem_cons.1 hj with rfl | hj
    · exact h.1
    · exact ih h.2 hj
theorem wpAnyE_done {Q : Exit → Act → World → Prop} {C1 C2 : World → Prop} {D : List Nat} {L : Array Bool} {a : Act} {w : World} (hr : Region.ready md ops L = []) (h : Q .normal a w) : wpAnyE P md ops Q C1 C2 D 0 L a w := ⟨hr, h⟩
theorem wp_region_free {id : Nat} {Q : Exit → Act → World → Prop} {a : Act} {w : World} (C1 C2 : World → Prop) (D is : List Nat) (f : Nat) (hm : P.follows .mixedOrders = true)
    (hB : (Region.noSelect ops && decide (f + is.length = ops.size) && Region.looksB .any ops D is (Array.replicate ops.size false)) = true)
    (hQ : ∀ c (a : Act) d v w, Q (.panic c) (a.put d v) w → Q (.panic c) a w)
    (h : wpPeek P ops (fun e a w => match e with | .normal => wpAnyE P .any ops Q C1 C2 D f (listed (Array.replicate ops.size false) is) a w | e => Q e a w) C1 C2 D (is.map .look) a { w with drawn := w.drawn + 1 }) :
    (Code.region id ops true).wp P Q a w := by
  simp only [Bool.and_eq_true, decide_eq_true_eq] at hB
  obtain ⟨⟨hsel, hl⟩, ho⟩ := hB
  have inv0 : HeadInv .any ops ops.size (Array.replicate ops.size false) :=
    ⟨by simp, fun j oj _ hl => (by rw [getD_replicate_false] at hl; cases hl), fun t ht1 ht2 => by omega⟩
  have := wpAnyE_looks (P := P) (Q := Q) (C2 := C2) hsel hQ is _ a inv0 ho (fun a _ h => h) h
  rw [hl] at this
  exact wp_region_any hm (wpAny_of_E _ _ _ _ this)
/-- append to a list literal without elements: new memory, or none -/
theorem run_append_fresh (w : World) {t e : TypeId} (ty : TypeId) {size bytes : Nat} {z : Value} (hT : ElTy P t e size bytes z)
    (b : Nat) (vx : Value) (m : Nat) (news : List Value) (hr : Raw w size vx m news) (hlen : m * bytes ≤ 140737488355328) (hn : m ≤ 9223372036854775807) :
    ∃ v' w', (Builtin.append_ #[t, t] ty #[.slice (some ⟨b, 0, none⟩) 0 0, vx]).run P w = .ok v' w' ∧ Ext w w' ∧ (m = 0 ∧ v' = .slice (some ⟨b, 0, none⟩) 0 0 ∨ w'.ownsRow w.heap.size e size v' m news) := by
  obtain ⟨i0, hi, hz0, hz1, hz2⟩ := info_parts hT.info
  obtain ⟨A, c, rfl, hl, hc⟩ := hr
  by_cases h0 : m = 0
  · subst h0
    refine ⟨.slice (some ⟨b, 0, none⟩) 0 0, w, ?_, Ext.refl _, .inl ⟨rfl, rfl⟩⟩
    cases A <;> simp [Builtin.append_, run_underlying hT.ht, sizeOf, typeInfo, hi, Builtin.lenOf, Builtin.firstCells, storeCells, loadCells, loadCellsFrom]
  · obtain ⟨ad, rfl, hcells⟩ := hc (by omega)
    obtain ⟨v', w', hrun, h2, h3⟩ := run_append_arg_grows (P := P) w t ty e i0 z size bytes hT.ht hi hz0 hz1 hz2 hT.zc hT.pos ⟨b, 0, none⟩ 0 0 [] (by simp) (by simp) ad m c news hl hcells (by omega) (by unfold maxLen; omega) (by simpa using hlen)
    refine ⟨v', w', hrun, ?_, .inr (by simpa using h2)⟩
    exact ⟨h3.os, h3.tape, h3.output, h3.size, fun k hk => h3.block k hk (by simp)⟩
theorem wpList_appendFresh {rest : List Oper} {o : Oper} {a : Act} {Q : Exit → Act → World → Prop} {W : World} {t e : TypeId} {size bytes : Nat} {z : Value} {b : Nat} {vx : Value} {m : Nat} {news : List Value}
    (hT : ElTy P t e size bytes z) (hgd : o.guard = none) (s x : Operand) (ho : o.op = .call { callee := .builtin .append, args := #[s, x], argTypes := #[t, t] })
    (hs : a.eval s = .slice (some ⟨b, 0, none⟩) 0 0) (hx : a.eval x = vx) (hr : Raw W size vx m news)
    (hlen : m * bytes ≤ 140737488355328) (hn : m ≤ 9223372036854775807)
    (h : ∀ v' w', Ext W w' → (m = 0 ∧ v' = .slice (some ⟨b, 0, none⟩) 0 0 ∨ w'.ownsRow W.heap.size e size v' m news) → wpList P ops Q rest (a.put o.dst v') w') : wpList P ops Q (o :: rest) a W := by
  refine wpList_plain hgd fun _ hK => ?_
  obtain ⟨v', w', hrun, h2, h3⟩ := run_append_fresh (P := P) W o.type hT b vx m news hr hlen hn
  unfold Oper.wp execOp
  simp only [ho, resolve, invoke, builtin, Sem.run_bind, Sem.run_pure, Result.andThen_ok, List.map_toArray, List.map_cons, List.map_nil, hs, hx, hrun]
  exact hK _ _ (h v' w' h2 h3)
end
end Go.Proofs.Ytpbflkbelhlogaa
