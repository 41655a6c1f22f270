/- slices.Compact at arcs: equal neighbors, once. -/
import Derived.Test.YtpbflkbelhlogaaArcP
import Derived.Test.YtpbflkbelhlogaaMacL
import Derived.Laws.CopyRow
namespace Go.Proofs.Ytpbflkbelhlogaa
open Go.RowKit Go.Shelf
set_option linter.unusedVariables false
/-- a row of arcs of one's own -/
def OArcs (w : World) (B : Nat) (v : Value) (l : List Arc) : Prop := w.ownsRow B 50 4 v l.length (l.flatMap encA)
theorem OArcs.ext {w w' : World} {B : Nat} {v : Value} {l : List Arc} (h : OArcs w B v l) (hx : Ext w w') : OArcs w' B v l := ownsRow_ext h hx
theorem OArcs.arcs {w : World} {B : Nat} {v : Value} {l : List Arc} (h : OArcs w B v l) : Arcs w v l := Arcs.own h
theorem grown_tr {a w w' : World} {r : Option Nat} (h : a.grownBy w r) (k : w.grownBy w' r) : a.grownBy w' r :=
  ⟨k.os.trans h.os, k.tape.trans h.tape, k.output.trans h.output, Nat.le_trans h.size k.size, fun x hx hne => (k.block x (Nat.lt_of_lt_of_le hx h.size) hne).trans (h.block x hx hne)⟩
theorem flat_set4 (x : Arc) : ∀ (l : List Arc) (k : Nat), k < l.length → ((((l.flatMap encA).set (k * 4) (.int .i64 x.f)).set (k * 4 + 1) (.int .i64 x.t)).set (k * 4 + 2) (.int .i64 x.i)).set (k * 4 + 3) (.int .i64 x.o) = (l.set k x).flatMap encA
  | [], k, h => by simp at h
  | y :: l, 0, _ => rfl
  | y :: l, k + 1, h => by
    have ih := flat_set4 x l k (by simpa using h)
    rw [List.set_cons_succ, List.flatMap_cons, List.flatMap_cons, ← ih]
    rw [List.set_append_right _ _ (by rw [encA_len]; omega), encA_len, List.set_append_right _ _ (by rw [encA_len]; omega), encA_len, List.set_append_right _ _ (by rw [encA_len]; omega), encA_len, List.set_append_right _ _ (by rw [encA_len]; omega), encA_len]
    rw [show (k + 1) * 4 - 4 = k * 4 by omega, show (k + 1) * 4 + 1 - 4 = k * 4 + 1 by omega, show (k + 1) * 4 + 2 - 4 = k * 4 + 2 by omega, show (k + 1) * 4 + 3 - 4 = k * 4 + 3 by omega]
theorem OArcs.put {w : World} {B g n cap k : Nat} {M : List Arc} (h : w.ownsRow B 50 4 (.slice (some ⟨g, 0, none⟩) n cap) n (M.flatMap encA)) (hn : M.length = n) (hk : k < n) (x : Arc) :
    ((((w.setCell ⟨g, k * 4, none⟩ (.int .i64 x.f)).setCell ⟨g, k * 4 + 1, none⟩ (.int .i64 x.t)).setCell ⟨g, k * 4 + 2, none⟩ (.int .i64 x.i)).setCell ⟨g, k * 4 + 3, none⟩ (.int .i64 x.o)).ownsRow B 50 4 (.slice (some ⟨g, 0, none⟩) n cap) n ((M.set k x).flatMap encA) ∧
    w.grownBy ((((w.setCell ⟨g, k * 4, none⟩ (.int .i64 x.f)).setCell ⟨g, k * 4 + 1, none⟩ (.int .i64 x.t)).setCell ⟨g, k * 4 + 2, none⟩ (.int .i64 x.i)).setCell ⟨g, k * 4 + 3, none⟩ (.int .i64 x.o)) (some g) := by
  have hl : (M.flatMap encA).length = n * 4 := by rw [flat_len encA encA_len, hn]
  refine ⟨?_, ?_⟩
  · rw [← flat_set4 x M k (by omega)]
    exact ownsRow_set (ownsRow_set (ownsRow_set (ownsRow_set h (by omega) _) (by simp only [List.length_set]; omega) _) (by simp only [List.length_set]; omega) _) (by simp only [List.length_set]; omega) _
  · exact grown_tr (grown_tr (grown_tr (grownBy_set w g _ _) (grownBy_set _ g _ _)) (grownBy_set _ g _ _)) (grownBy_set _ g _ _)
/-- the row laid open -/
theorem arow_open {w : World} {B g n cap : Nat} {xs : List Value} {size : Nat} {e : TypeId} (h : w.ownsRow B e size (.slice (some ⟨g, 0, none⟩) n cap) n xs) : ∃ cur, B ≤ g ∧ w.heap[g]? = some (.cells cur e (0, 0)) ∧ n ≤ cap ∧ cap ≤ maxLen ∧ cur.size = cap * size ∧ cur.toList.take (n * size) = xs := by
  rcases h.2 with ⟨h, _⟩ | ⟨g', cap', cur, hv, hg, hh, hnc, hm, hcs, ht⟩
  · cases h
  · injection hv with ha _ hc
    injection ha with ha; injection ha with ha _ _
    subst ha hc
    exact ⟨cur, hg, hh, hnc, hm, hcs, ht⟩
theorem zeroArc (w : World) : (zeroValue 50).run Try.prog w = .ok (.agg #[.int .i64 0, .int .i64 0, .int .i64 0, .int .i64 0]) w := by kernel_rfl
theorem grown_setRow (w : World) (g : Nat) (cs : Array Value) : w.grownBy (w.setRow g cs) (some g) :=
  ⟨rfl, rfl, rfl, by simp, fun k hk hne => setRow_other w g k cs (fun e => hne (by rw [e]))⟩
/-- clear of the row's rest, and the row cut to what stands before it -/
theorem clear_arcs {w : World} {B g n cap k : Nat} {M : List Arc} (h : w.ownsRow B 50 4 (.slice (some ⟨g, 0, none⟩) n cap) n (M.flatMap encA)) (hn : M.length = n) (hk : k < n) :
    ∃ w', (∀ (A : Option Addr) (m c : Nat) ty, A = some ⟨g, k * 4, none⟩ → m = n - k → (Builtin.clear_ #[22] ty #[.slice A m c]).run Try.prog w = .ok (.tuple #[]) w') ∧ w'.ownsRow B 50 4 (.slice (some ⟨g, 0, none⟩) k cap) k ((M.take k).flatMap encA) ∧ w.grownBy w' (some g) := by
  obtain ⟨cur, hB, hh, hnc, hm, hcs, ht⟩ := arow_open h
  obtain ⟨zs, hzs⟩ : ∃ zs, zs = (Builtin.zeroCells (Value.agg #[.int .i64 0, .int .i64 0, .int .i64 0, .int .i64 0]).cells (n - k)).toList := ⟨_, rfl⟩
  have hzl : zs.length = (n - k) * 4 := by rw [hzs]; simp [Builtin.zeroCells, Value.cells]
  have hz1 : ∀ v ∈ zs, v.oneCell' = true := by
    intro v hv
    rw [hzs] at hv
    simp only [Builtin.zeroCells, Value.cells, Array.toList_map, List.mem_map] at hv
    obtain ⟨i, _, rfl⟩ := hv
    have hr : i % 4 = 0 ∨ i % 4 = 1 ∨ i % 4 = 2 ∨ i % 4 = 3 := by omega
    show (#[Value.int .i64 0, .int .i64 0, .int .i64 0, .int .i64 0][i % 4]!).oneCell' = true
    rcases hr with hr | hr | hr | hr <;> rw [hr] <;> rfl
  have hst := run_storeCells_at Try.prog g (k * 4) 50 zs 0 cur w hh (by rw [hzl]; omega) hz1
  simp only [Nat.add_zero] at hst
  obtain ⟨cs, hcs2⟩ : ∃ cs, cs = (cur.toList.take (k * 4) ++ zs ++ cur.toList.drop (k * 4 + zs.length)).toArray := ⟨_, rfl⟩
  rw [← hcs2] at hst
  refine ⟨w.setRow g cs, ?_, ?_, grown_setRow w g _⟩
  · intro A m c ty hA hm2
    subst hA hm2
    obtain ⟨q, hq⟩ : ∃ q, n - k = q + 1 := ⟨n - k - 1, by omega⟩
    rw [hq] at hzs ⊢
    simp only [Builtin.clear_, run_underlying Try.underlying22, zeroArc, ← hzs, hst, Sem.run_bind, Sem.run_pure, Result.andThen_ok, List.getElem?_toArray, List.getElem?_cons_zero]
  · have hl : (M.flatMap encA).length = n * 4 := by rw [flat_len encA encA_len, hn]
    have hlk : ((M.take k).flatMap encA).length = k * 4 := by rw [flat_len encA encA_len, List.length_take]; omega
    refine ⟨hlk, .inr ⟨g, cap, _, rfl, hB, setRow_heap w g _ cs 50 (0, 0) hh, by omega, hm, ?_, ?_⟩⟩
    · rw [hcs2]; simp [hzl]; omega
    · have h1 : (cur.toList.take (k * 4)).length = k * 4 := by simp; omega
      rw [hcs2]
      show List.take (k * 4) (cur.toList.take (k * 4) ++ zs ++ cur.toList.drop (k * 4 + zs.length)) = _
      rw [List.append_assoc, List.take_append_of_le_length (by omega), List.take_take, Nat.min_self]
      have h2 : cur.toList.take (k * 4) = (cur.toList.take (n * 4)).take (k * 4) := by rw [List.take_take, Nat.min_eq_left (by omega)]
      rw [h2, ht]
      have h3 : M.flatMap encA = (M.take k).flatMap encA ++ (M.drop k).flatMap encA := by rw [← List.flatMap_append, List.take_append_drop]
      rw [h3, ← hlk, List.take_left]
/-- the state of the second loop: m places written, the next one to be looked at is j -/
structure CompS (w wr : World) (B g n cap : Nat) (l M : List Arc) (m j : Nat) : Prop where
  row : wr.ownsRow B 50 4 (.slice (some ⟨g, 0, none⟩) n cap) n (M.flatMap encA)
  len : M.length = n
  grown : w.grownBy wr (some g)
  head : M.take m = ddTo l j
  rest : ∀ i, j ≤ i + 1 → arcA M i = arcA l i
  m1 : 1 ≤ m
  mj : m < j
theorem CompS.cells {w wr : World} {B g n cap : Nat} {l M : List Arc} {m j : Nat} (h : CompS w wr B g n cap l M m j) {i : Nat} (hi : i < n) : (wr.cell? ⟨g, i * 4, none⟩ = some (.int .i64 (arcA M i).f) ∧ wr.cell? ⟨g, i * 4 + 1, none⟩ = some (.int .i64 (arcA M i).t) ∧ wr.cell? ⟨g, i * 4 + 2, none⟩ = some (.int .i64 (arcA M i).i) ∧ wr.cell? ⟨g, i * 4 + 3, none⟩ = some (.int .i64 (arcA M i).o)) := by
  have hr := h.row
  have hln := h.len
  subst hln
  obtain ⟨a, c, hv, _, _, H⟩ := (Arcs.own hr).open_
  obtain ⟨b, o, e, h0, h1, h2, h3⟩ := H.out i hi
  injection hv with hv _ _
  rw [← hv] at e
  injection e with e
  injection e with e1 e2 _
  subst e1 e2
  rw [Nat.zero_add] at h0 h1 h2 h3
  exact ⟨h0, h1, h2, h3⟩
theorem row_frozen {w : World} {B g n cap size : Nat} {e : TypeId} {xs : List Value} (h : w.ownsRow B e size (.slice (some ⟨g, 0, none⟩) n cap) n xs) (i : Nat) : w.frozen? ⟨g, i, none⟩ = false := by
  obtain ⟨cur, _, hh, _⟩ := arow_open h
  simp [World.frozen?, hh]
theorem row_cellN {w : World} {B g n cap : Nat} {M : List Arc} (h : w.ownsRow B 50 4 (.slice (some ⟨g, 0, none⟩) n cap) n (M.flatMap encA)) (hn : M.length = n) {i : Nat} (hi : i < n) {c : Nat} (hc : c < 4) : ∃ v, w.cell? ⟨g, i * 4 + c, none⟩ = some v := by
  have hl : (M.flatMap encA).length = n * 4 := by rw [flat_len encA encA_len, hn]
  refine ⟨_, (h.cellAt (i * 4 + c) (by omega)).trans (List.getElem?_eq_getElem (by omega))⟩
theorem arcA_set {M : List Arc} {k i : Nat} {x : Arc} (h : k < M.length) : arcA (M.set k x) i = if k = i then x else arcA M i := by
  unfold arcA
  by_cases e : k = i
  · subst e; rw [List.getElem?_set_self h, if_pos rfl]; rfl
  · rw [List.getElem?_set_ne e, if_neg e]
theorem CompS.put {w wr : World} {B g n cap : Nat} {l M : List Arc} {m j : Nat} (h : CompS w wr B g n cap l M m j) (hj : j < n) (hl : l.length = n) (hd : ddK l j = true) :
    CompS w ((((wr.setCell ⟨g, m * 4, none⟩ (.int .i64 (arcA l j).f)).setCell ⟨g, m * 4 + 1, none⟩ (.int .i64 (arcA l j).t)).setCell ⟨g, m * 4 + 2, none⟩ (.int .i64 (arcA l j).i)).setCell ⟨g, m * 4 + 3, none⟩ (.int .i64 (arcA l j).o)) B g n cap l (M.set m (arcA l j)) (m + 1) (j + 1) := by
  have hm := h.mj
  obtain ⟨h1, h2⟩ := OArcs.put h.row h.len (k := m) (by omega) (arcA l j)
  refine ⟨h1, by rw [List.length_set]; exact h.len, grown_tr h.grown h2, ?_, fun i hi => ?_, by omega, by omega⟩
  · rw [ddTo_next, hd, if_pos rfl, ← h.head, take_next (by rw [List.length_set, h.len]; omega) ⟨0, 0, 0, 0⟩, List.take_set_of_le (Nat.le_refl _)]
    congr 1
    show [arcA (M.set m (arcA l j)) m] = [arcA l j]
    rw [arcA_set (by rw [h.len]; omega), if_pos rfl]
  · rw [arcA_set (by rw [h.len]; omega), if_neg (by omega)]
    exact h.rest i (by omega)
theorem CompS.skip {w wr : World} {B g n cap : Nat} {l M : List Arc} {m j : Nat} (h : CompS w wr B g n cap l M m j) (hd : ddK l j = false) : CompS w wr B g n cap l M m (j + 1) :=
  ⟨h.row, h.len, h.grown, by rw [ddTo_next, hd, if_neg (by simp)]; exact h.head, fun i hi => h.rest i (by omega), h.m1, by have := h.mj; omega⟩
theorem CompS.ext {w wr w' : World} {B g n cap : Nat} {l M : List Arc} {m j : Nat} (h : CompS w wr B g n cap l M m j) (hx : Ext wr w') : CompS w w' B g n cap l M m j :=
  ⟨ownsRow_ext h.row hx, h.len, grown_tr h.grown ⟨hx.os, hx.tape, hx.output, hx.size, fun k hk _ => hx.block k hk⟩, h.head, h.rest, h.m1, h.mj⟩
end Go.Proofs.Ytpbflkbelhlogaa
