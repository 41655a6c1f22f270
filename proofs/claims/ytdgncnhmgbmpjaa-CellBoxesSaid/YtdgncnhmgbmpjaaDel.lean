/- An entry taken out of a row of one's own; slices.Delete at entries. -/
import Derived.Test.YtdgncnhmgbmpjaaJoinedRowCellBoxes
namespace Go.Proofs.Ytdgncnhmgbmpjaa
open Go.RowKit Go.Shelf
set_option linter.unusedVariables false

theorem eCells_erase : ∀ (us : List Value) (es : List Ent) (i : Nat), us.length = es.length → eCells (us.eraseIdx i) (es.eraseIdx i) = (eCells us es).take (i * 2) ++ (eCells us es).drop ((i + 1) * 2)
  | [], [], i, _ => by simp [eCells]
  | [], _ :: _, _, h => by simp at h
  | _ :: _, [], _, h => by simp at h
  | u :: us, e :: es, 0, h => by simp [eCells]
  | u :: us, e :: es, i + 1, h => by
    have := eCells_erase us es i (by simpa using h)
    rw [List.eraseIdx_cons_succ, List.eraseIdx_cons_succ, eCells, eCells, this]
    rw [show (i + 1) * 2 = i * 2 + 1 + 1 by omega, show (i + 1 + 1) * 2 = (i + 1) * 2 + 1 + 1 by omega, show (i + 1) * 2 = i * 2 + 2 by omega]
    simp
theorem AllO.erase {w : World} {B : Nat} {us : List Value} {ls : List (List Int)} (h : AllO w B us ls) (i : Nat) : AllO w B (us.eraseIdx i) (ls.eraseIdx i) := by
  obtain ⟨h1, h2⟩ := h
  refine ⟨by rw [List.length_eraseIdx, List.length_eraseIdx, h1], fun j x hx => ?_⟩
  rw [List.getElem?_eraseIdx] at hx ⊢
  split at hx
  · rename_i hj; rw [if_pos hj]; exact h2 j x hx
  · rename_i hj; rw [if_neg hj]; exact h2 (j + 1) x hx
theorem map_erase : ∀ (es : List Ent) (i : Nat), (es.eraseIdx i).map Prod.fst = (es.map Prod.fst).eraseIdx i
  | [], i => by simp
  | e :: es, 0 => by simp
  | e :: es, i + 1 => by simp [map_erase es i]
theorem ent_erase (es : List Ent) (k i : Nat) : ent (es.eraseIdx k) i = if i < k then ent es i else ent es (i + 1) := by
  unfold ent; rw [List.getElem?_eraseIdx]; split <;> rfl
/-- the row laid open -/
theorem OEnts.open_ {w : World} {B g n cap : Nat} {es : List Ent} (h : OEnts w B (.slice (some ⟨g, 0, none⟩) n cap) es) :
    ∃ us cur, B ≤ g ∧ w.heap[g]? = some (.cells cur 42 (0, 0)) ∧ n = es.length ∧ n ≤ cap ∧ cap ≤ maxLen ∧ cur.size = cap * 2 ∧ cur.toList.take (n * 2) = eCells us es ∧ AllO w B us (es.map Prod.fst) := by
  obtain ⟨us, ho, hal⟩ := h
  rcases ho.2 with ⟨h, _⟩ | ⟨g', cap', cur, hv, hg, hh, hnc, hm, hcs, ht⟩
  · cases h
  · injection hv with ha hn hc
    injection ha with ha; injection ha with ha _ _
    subst ha hc hn
    exact ⟨us, cur, hg, hh, rfl, hnc, hm, hcs, ht, hal⟩
theorem OInts.kept2 {w w' : World} {B B' g : Nat} {u : Value} {l : List Int} (h : OInts 3 w B u l) (hg : w.grownBy w' (some g)) (hr : RowE w B' g) : OInts 3 w' B u l := h.kept hg hr.noInts
theorem ggrow {a w w' : World} {r : Option Nat} (h : a.grownBy w r) (k : w.grownBy w' r) : a.grownBy w' r :=
  ⟨k.os.trans h.os, k.tape.trans h.tape, k.output.trans h.output, Nat.le_trans h.size k.size, fun x hx hne => (k.block x (Nat.lt_of_lt_of_le hx h.size) hne).trans (h.block x hx hne)⟩
theorem grownBy_setRow (w : World) (g : Nat) (cs : Array Value) : w.grownBy (w.setRow g cs) (some g) :=
  ⟨rfl, rfl, rfl, by simp, fun k hk hne => setRow_other w g k cs (fun e => hne (by rw [e]))⟩
/-- what append and clear leave of the row -/
theorem OEnts.cut {w w' : World} {B g n cap : Nat} {es : List Ent} {i : Nat} (h : OEnts w B (.slice (some ⟨g, 0, none⟩) n cap) es) (hi : i < n) {cur' : Array Value} {us : List Value}
    (hal : AllO w B us (es.map Prod.fst)) (hgr : w.grownBy w' (some g)) (hc : w'.heap[g]? = some (.cells cur' 42 (0, 0))) (hs : cur'.size = cap * 2) (ht : cur'.toList.take ((n - 1) * 2) = (eCells us es).take (i * 2) ++ (eCells us es).drop ((i + 1) * 2)) :
    OEnts w' B (.slice (some ⟨g, 0, none⟩) (n - 1) cap) (es.eraseIdx i) := by
  have hrow := h.row
  obtain ⟨_, _, hB, _, hn, hnc, hm, _⟩ := h.open_
  have hul : us.length = es.length := by rw [hal.1]; simp
  refine ⟨us.eraseIdx i, ⟨?_, .inr ⟨g, cap, cur', ?_, hB, hc, by rw [List.length_eraseIdx_of_lt (by omega)]; omega, hm, hs, ?_⟩⟩, ?_⟩
  · rw [eCells_len _ _ (by rw [List.length_eraseIdx, List.length_eraseIdx, hul])]
  · rw [List.length_eraseIdx_of_lt (by omega), hn]
  · rw [List.length_eraseIdx_of_lt (by omega), ← hn, ht, eCells_erase us es i hul]
  · rw [map_erase]
    exact (hal.kept hgr hrow.noInts).erase i
theorem cut_list {X N R : List Value} {a b n : Nat} (hX : n ≤ X.length) (ha : a ≤ b) (hb : b ≤ n) (hN : N = (X.take n).drop b) : (X.take a ++ N ++ R).take (a + (n - b)) = (X.take n).take a ++ (X.take n).drop b := by
  subst hN
  have hl : (X.take a ++ (X.take n).drop b).length = a + (n - b) := by simp; omega
  rw [← hl, List.take_left, List.take_take, Nat.min_eq_left (by omega)]
theorem zeroEnt (w : World) : (zeroValue 42).run Try.prog w = .ok (.agg #[.slice none 0 0, .int .i64 0]) w := by kernel_rfl
theorem run_clear_ent (w : World) (ty : TypeId) (g o c : Nat) (cur : Array Value) (hg : w.heap[g]? = some (.cells cur 42 (0, 0))) (hl : o + 2 ≤ cur.size) :
    (Builtin.clear_ #[23] ty #[.slice (some ⟨g, o, none⟩) 1 c]).run Try.prog w = .ok (.tuple #[]) (w.setRow g (cur.toList.take o ++ Value.slice none 0 0 :: Value.int .i64 0 :: cur.toList.drop (o + 2)).toArray) := by
  have hst := run_storeCells_at Try.prog g o 42 [.slice none 0 0, .int .i64 0] 0 cur w hg (by simpa using hl) (by simp [Value.oneCell'])
  simp only [Nat.add_zero] at hst
  have hz : (Builtin.zeroCells (Value.agg #[.slice none 0 0, .int .i64 0]).cells 1).toList = [.slice none 0 0, .int .i64 0] := by kernel_rfl
  simp [Builtin.clear_, run_underlying Try.underlying23, hz, hst]

theorem wpList_append_run {P : Program} {ops : Array Oper} {rest : List Oper} {o : Oper} {a : Act} {Q : Exit → Act → World → Prop} {W w' : World} {t : TypeId} {v u v' : Value}
    (hgd : o.guard = none) (s x : Operand) (ho : o.op = .call { callee := .builtin .append, args := #[s, x], argTypes := #[t, t] }) (hs : a.eval s = v) (hx : a.eval x = u)
    (hrun : (Builtin.append_ #[t, t] o.type #[v, u]).run P W = .ok v' w') (h : wpList P ops Q rest (a.put o.dst v') w') : wpList P ops Q (o :: rest) a W := by
  refine wpList_plain hgd fun _ hK => ?_
  unfold Oper.wp execOp
  simp only [ho, resolve, invoke, builtin, Sem.run_bind, Sem.run_pure, Result.andThen_ok, List.map_toArray, List.map_cons, List.map_nil, hs, hx, hrun]
  exact hK _ _ h

end Go.Proofs.Ytdgncnhmgbmpjaa
