/- Paradigms in new memory: what is owned; copied. -/
import Derived.Test.YtdgncnhmgbmpjaaSame
import Derived.Test.YtdgncnhmgbmpjaaActs
namespace Go.Proofs.Ytdgncnhmgbmpjaa
open Go.RowKit Go.Shelf
set_option linter.unusedVariables false

/-! ## entries of one's own -/
def eCells : List Value → List Ent → List Value
  | u :: us, e :: es => u :: .int .i64 e.2 :: eCells us es
  | _, _ => []
theorem eCells_snoc : ∀ (us : List Value) (es : List Ent) (u : Value) (e : Ent), us.length = es.length → eCells (us ++ [u]) (es ++ [e]) = eCells us es ++ [u, .int .i64 e.2]
  | [], [], _, _, _ => rfl
  | [], _ :: _, _, _, h => by simp at h
  | _ :: _, [], _, _, h => by simp at h
  | x :: us, y :: es, u, e, h => by simp [eCells, eCells_snoc us es u e (by simpa using h)]
theorem eCells_len : ∀ (us : List Value) (es : List Ent), us.length = es.length → (eCells us es).length = es.length * 2
  | [], [], _ => rfl
  | [], _ :: _, h => by simp at h
  | _ :: _, [], h => by simp at h
  | _ :: us, _ :: es, h => by simp [eCells, eCells_len us es (by simpa using h)]; omega
theorem eCells_spec : ∀ (us : List Value) (es : List Ent) (i : Nat), us.length = es.length → (eCells us es)[i * 2]? = us[i]?
  | [], [], i, _ => by simp [eCells]
  | [], _ :: _, _, h => by simp at h
  | _ :: _, [], _, h => by simp at h
  | u :: us, e :: es, 0, _ => rfl
  | u :: us, e :: es, i + 1, h => by
    rw [show (i + 1) * 2 = i * 2 + 2 by omega]
    simpa [eCells] using eCells_spec us es i (by simpa using h)
theorem eCells_form : ∀ (us : List Value) (es : List Ent) (i : Nat), us.length = es.length → i < es.length → (eCells us es)[i * 2 + 1]? = some (.int .i64 (ent es i).2)
  | [], [], i, _, hi => by simp at hi
  | [], _ :: _, _, h, _ => by simp at h
  | _ :: _, [], _, h, _ => by simp at h
  | u :: us, e :: es, 0, _, _ => rfl
  | u :: us, e :: es, i + 1, h, hi => by
    rw [show (i + 1) * 2 + 1 = (i * 2 + 1) + 2 by omega]
    have := eCells_form us es i (by simpa using h) (by simpa using hi)
    simpa [eCells, ent] using this
/-- each of these is a row of ints of one's own -/
def AllO (w : World) (B : Nat) (us : List Value) (ls : List (List Int)) : Prop := us.length = ls.length ∧ ∀ (i : Nat) (u : Value), us[i]? = some u → OInts 3 w B u (ls[i]?.getD [])
theorem AllO.nil (w : World) (B : Nat) : AllO w B [] [] := ⟨rfl, fun i u hu => by simp at hu⟩
theorem AllO.snoc {w : World} {B : Nat} {us : List Value} {ls : List (List Int)} {u : Value} {l : List Int} (h : AllO w B us ls) (hu : OInts 3 w B u l) : AllO w B (us ++ [u]) (ls ++ [l]) := by
  obtain ⟨h1, h2⟩ := h
  refine ⟨by simp [h1], fun i x hx => ?_⟩
  rcases Nat.lt_or_ge i us.length with hi | hi
  · rw [List.getElem?_append_left hi] at hx
    rw [List.getElem?_append_left (by omega)]
    exact h2 i x hx
  · rw [List.getElem?_append_right hi] at hx
    rw [List.getElem?_append_right (by omega)]
    rcases Nat.eq_zero_or_pos (i - us.length) with h0 | h0
    · rw [h0] at hx; simp at hx; subst hx
      rw [show i - ls.length = 0 by omega]; exact hu
    · rw [List.getElem?_eq_none (by simp; omega)] at hx; cases hx
/-- it stays where a row of another kind grows -/
theorem OInts.kept {w w' : World} {B : Nat} {u : Value} {l : List Int} {row : Option Nat} (h : OInts 3 w B u l) (hg : w.grownBy w' row) (hr : ∀ r, row = some r → ∃ o : Obj, w.heap[r]? = some o ∧ ∀ cur, o ≠ .cells cur 3 (0, 0)) : OInts 3 w' B u l := by
  refine World.ownsRow.kept h hg ?_
  rcases h.2 with ⟨rfl, _⟩ | ⟨g, cap, cur, rfl, _, hgb, _⟩
  · exact .inl rfl
  · refine .inr fun he => ?_
    simp only [Value.ownBlock] at he
    obtain ⟨o, ho, hne⟩ := hr g he.symm
    rw [hgb] at ho
    injection ho with ho
    exact hne cur ho.symm
theorem AllO.kept {w w' : World} {B : Nat} {us : List Value} {ls : List (List Int)} {row : Option Nat} (h : AllO w B us ls) (hg : w.grownBy w' row) (hr : ∀ r, row = some r → ∃ o : Obj, w.heap[r]? = some o ∧ ∀ cur, o ≠ .cells cur 3 (0, 0)) : AllO w' B us ls :=
  ⟨h.1, fun i u hu => (h.2 i u hu).kept hg hr⟩
theorem AllO.ext {w w' : World} {B : Nat} {us : List Value} {ls : List (List Int)} (h : AllO w B us ls) (hx : Ext w w') : AllO w' B us ls := ⟨h.1, fun i u hu => (h.2 i u hu).ext hx⟩
theorem ownsRow_other {w : World} {B size n : Nat} {e : TypeId} {v : Value} {xs : List Value} (h : w.ownsRow B e size v n xs) (hne : e ≠ 3) : ∀ r, v.ownBlock = some r → ∃ o : Obj, w.heap[r]? = some o ∧ ∀ cur, o ≠ .cells cur 3 (0, 0) := fun r hr => by
  obtain ⟨cur, h1, _⟩ := ownBlock_cells h r hr
  exact ⟨_, h1, fun cur' he => by injection he with _ he; exact hne he⟩
/-- entries of one's own, from block B on -/
def OEnts (w : World) (B : Nat) (v : Value) (es : List Ent) : Prop := ∃ us, w.ownsRow B 42 2 v es.length (eCells us es) ∧ AllO w B us (es.map Prod.fst)
theorem OEnts.nil (w : World) (B : Nat) : OEnts w B (.slice none 0 0) [] := ⟨[], World.ownsRow_nil _ _ _ _, AllO.nil _ _⟩
theorem OEnts.ext {w w' : World} {B : Nat} {v : Value} {es : List Ent} (h : OEnts w B v es) (hx : Ext w w') : OEnts w' B v es := by
  obtain ⟨us, h1, h2⟩ := h; exact ⟨us, ownsRow_ext h1 hx, h2.ext hx⟩
theorem map_fst_get (es : List Ent) (i : Nat) : (es.map Prod.fst)[i]?.getD [] = (ent es i).1 := by
  unfold ent
  rw [List.getElem?_map]
  cases es[i]? <;> rfl
theorem OEnts.ents {w : World} {B : Nat} {v : Value} {es : List Ent} (h : OEnts w B v es) : Ents w v es := by
  obtain ⟨us, ho, ha⟩ := h
  have hul : us.length = es.length := by rw [ha.1]; simp
  have hl := ho.1
  rcases ho.2 with ⟨rfl, h0⟩ | ⟨g, cap, cur, rfl, hg, hh, hnc, hm, hcs, ht⟩
  · exact ⟨none, 0, by rw [h0], by omega, by unfold maxLen; omega, fun i hi => by omega⟩
  · refine ⟨some ⟨g, 0, none⟩, cap, rfl, hnc, hm, fun i hi => ⟨g, 0, rfl, us[i], ?_, ?_, ?_⟩⟩
    · have := ho.cellAt (i * 2) (by omega)
      rw [Nat.zero_add, this, eCells_spec us es i hul, List.getElem?_eq_getElem (by omega)]
    · have := ha.2 i us[i] (List.getElem?_eq_getElem (by omega))
      rw [map_fst_get] at this
      exact this.ints
    · have := ho.cellAt (i * 2 + 1) (by omega)
      rw [show 0 + i * 2 + 1 = i * 2 + 1 by omega, this, eCells_form us es i hul hi]
theorem elEnts : ElTy Try.prog 23 42 2 32 (.agg #[.slice none 0 0, .int .i64 0]) := ⟨Try.underlying23, by kernel_rfl, rfl, by omega⟩
/-- append of one entry -/
theorem wpList_appendEnt {ops : Array Oper} {rest : List Oper} {o : Oper} {a : Act} {Q : Exit → Act → World → Prop} {W : World} {B : Nat} {v u : Value} {f : Int} {g : Nat} {es : List Ent} {l : List Int}
    (hgd : o.guard = none) (s x : Operand) (ho : o.op = .call { callee := .builtin .append, args := #[s, x], argTypes := #[23, 23] })
    (hs : a.eval s = v) (hx : a.eval x = .slice (some ⟨g, 0, none⟩) 1 1) (hc : OEnts W B v es) (hg : W.heap.size = g) (hu : OInts 3 W B u l) (hn : es.length ≤ 1000000) (hB : B ≤ W.heap.size)
    (h : ∀ g' cap' w', OEnts w' B (.slice (some ⟨g', 0, none⟩) (es.length + 1) cap') (es ++ [(l, f)]) → (W.alloc (.cells #[u, .int .i64 f] 42)).grownBy w' v.ownBlock → (∀ r, v.ownBlock = some r → B ≤ r ∧ ∃ cur, W.heap[r]? = some (.cells cur 42 (0, 0))) →
      wpList Try.prog ops Q rest (a.put o.dst (.slice (some ⟨g', 0, none⟩) (es.length + 1) cap')) w') : wpList Try.prog ops Q (o :: rest) a (W.alloc (.cells #[u, .int .i64 f] 42)) := by
  subst hg
  obtain ⟨us, hown, hal⟩ := hc
  obtain ⟨i0, hi, hz0, hz1, hz2⟩ := info_parts elEnts.info
  have hul : us.length = es.length := by rw [hal.1]; simp
  refine wpList_plain hgd fun _ hK => ?_
  obtain ⟨v', w', hrun, h2, h3, _, _⟩ := run_append_own_at (P := Try.prog) (W.alloc (.cells #[u, .int .i64 f] 42)) B 23 o.type 42 i0 (.agg #[.slice none 0 0, .int .i64 0]) 2 32 elEnts.ht hi hz0 hz1 hz2 elEnts.zc elEnts.pos v es.length (eCells us es) (hown.alloc _)
    ⟨W.heap.size, 0, none⟩ 1 1 [u, .int .i64 f] rfl (by
      intro j x hx
      rw [addr_add]
      have hk : (W.alloc (.cells #[u, .int .i64 f] 42)).cell? ⟨W.heap.size, j, none⟩ = some x := alloc_cell W #[u, .int .i64 f] 42 (by simpa using hx)
      show (W.alloc (.cells #[u, .int .i64 f] 42)).cell? ⟨W.heap.size, 0 + j, none⟩ = some x
      rw [Nat.zero_add]; exact hk) (by
      intro x hx
      simp only [List.mem_cons, List.not_mem_nil, or_false] at hx
      rcases hx with rfl | rfl
      · obtain ⟨_, _, rfl, _⟩ := hu.ints; rfl
      · rfl) (by unfold maxLen; omega) (by omega) (by simp; omega)
  have hoth := ownsRow_other (hown.alloc (.cells #[u, .int .i64 f] 42)) (by decide)
  have hform : ∃ g' cap', v' = .slice (some ⟨g', 0, none⟩) (es.length + 1) cap' := by
    rcases h2.2 with ⟨_, h0⟩ | ⟨g', cap', _, rfl, _⟩
    · omega
    · exact ⟨g', cap', rfl⟩
  obtain ⟨g', cap', rfl⟩ := hform
  unfold Oper.wp execOp
  simp only [ho, resolve, invoke, builtin, Sem.run_bind, Sem.run_pure, Result.andThen_ok, List.map_toArray, List.map_cons, List.map_nil, hs, hx, hrun]
  refine hK _ _ (h g' cap' w' ⟨us ++ [u], ?_, ?_⟩ h3 (fun r hr => by obtain ⟨cur, h4, h5⟩ := ownBlock_cells hown r hr; exact ⟨h5, cur, h4⟩))
  · rw [eCells_snoc us es u (l, f) hul]; simpa using h2
  · rw [List.map_append]
    exact ((hal.ext (Ext.alloc _ _)).kept h3 hoth).snoc ((hu.alloc _).kept h3 hoth)
end Go.Proofs.Ytdgncnhmgbmpjaa
