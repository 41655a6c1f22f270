/- A lexicon in memory of the call's own: what is owned, what a store leaves. -/
import Derived.Test.YtgpggmcjggpmpaaTagE
import Derived.Test.YtgpggmcjggpmpaaTagT
import Derived.Test.YtgpggmcjggpmpaaTagI
namespace Go.Proofs.Ytgpggmcjggpmpaa
open Go.RowKit Go.Shelf
set_option linter.unusedVariables false

/-! ## items of one's own -/
def iCells : List Value → List Itm → List Value
  | u :: us, x :: xs => u :: .int .i64 x.k :: .int .i64 x.c :: iCells us xs
  | _, _ => []
theorem iCells_snoc : ∀ (us : List Value) (xs : List Itm) (u : Value) (x : Itm), us.length = xs.length → iCells (us ++ [u]) (xs ++ [x]) = iCells us xs ++ [u, .int .i64 x.k, .int .i64 x.c]
  | [], [], _, _, _ => rfl
  | [], _ :: _, _, _, h => by simp at h
  | _ :: _, [], _, _, h => by simp at h
  | a :: us, y :: xs, u, x, h => by simp [iCells, iCells_snoc us xs u x (by simpa using h)]
theorem iCells_len : ∀ (us : List Value) (xs : List Itm), us.length = xs.length → (iCells us xs).length = xs.length * 3
  | [], [], _ => rfl
  | [], _ :: _, h => by simp at h
  | _ :: _, [], h => by simp at h
  | _ :: us, _ :: xs, h => by simp [iCells, iCells_len us xs (by simpa using h)]; omega
theorem iCells_at : ∀ (us : List Value) (xs : List Itm) (i : Nat), us.length = xs.length → i < xs.length → (iCells us xs)[i * 3]? = us[i]? ∧ (iCells us xs)[i * 3 + 1]? = some (.int .i64 (itm xs i).k) ∧ (iCells us xs)[i * 3 + 2]? = some (.int .i64 (itm xs i).c)
  | [], [], i, _, hi => by simp at hi
  | [], _ :: _, _, h, _ => by simp at h
  | _ :: _, [], _, h, _ => by simp at h
  | u :: us, e :: es, 0, _, _ => ⟨rfl, rfl, rfl⟩
  | u :: us, e :: es, i + 1, h, hi => by
    rw [show (i + 1) * 3 = i * 3 + 3 by omega, show i * 3 + 3 + 1 = (i * 3 + 1) + 3 by omega, show i * 3 + 3 + 2 = (i * 3 + 2) + 3 by omega]
    have := iCells_at us es i (by simpa using h) (by simpa using hi)
    simpa [iCells, itm] using this
theorem iCells_setC : ∀ (us : List Value) (xs : List Itm) (i : Nat) (c : Int), us.length = xs.length → i < xs.length → (iCells us xs).set (i * 3 + 2) (.int .i64 c) = iCells us (xs.set i ⟨(itm xs i).w, (itm xs i).k, c⟩)
  | [], [], i, _, _, hi => by simp at hi
  | [], _ :: _, _, _, h, _ => by simp at h
  | _ :: _, [], _, _, h, _ => by simp at h
  | u :: us, e :: es, 0, _, _, _ => rfl
  | u :: us, e :: es, i + 1, c, h, hi => by
    rw [show (i + 1) * 3 + 2 = (i * 3 + 2) + 3 by omega]
    have := iCells_setC us es i c (by simpa using h) (by simpa using hi)
    simpa [iCells, itm] using this
theorem iCells_setW : ∀ (us : List Value) (xs : List Itm) (i : Nat) (u' : Value) (l : List Int), us.length = xs.length → i < xs.length → (iCells us xs).set (i * 3) u' = iCells (us.set i u') (xs.set i ⟨l, (itm xs i).k, (itm xs i).c⟩)
  | [], [], i, _, _, _, hi => by simp at hi
  | [], _ :: _, _, _, _, h, _ => by simp at h
  | _ :: _, [], _, _, _, h, _ => by simp at h
  | u :: us, e :: es, 0, _, _, _, _ => rfl
  | u :: us, e :: es, i + 1, u', l, h, hi => by
    rw [show (i + 1) * 3 = (i * 3) + 3 by omega]
    have := iCells_setW us es i u' l (by simpa using h) (by simpa using hi)
    simpa [iCells, itm] using this
theorem iCells_word : ∀ (us : List Value) (xs : List Itm) (i : Nat) (l : List Int), us.length = xs.length → iCells us (xs.set i ⟨l, (itm xs i).k, (itm xs i).c⟩) = iCells us xs
  | [], [], i, _, _ => rfl
  | [], _ :: _, _, _, h => by simp at h
  | _ :: _, [], _, _, h => by simp at h
  | u :: us, e :: es, 0, _, _ => rfl
  | u :: us, e :: es, i + 1, l, h => by
    have := iCells_word us es i l (by simpa using h)
    simp only [List.set_cons_succ, iCells]
    have e2 : itm (e :: es) (i + 1) = itm es i := by simp [itm]
    rw [e2, this]
/-- each of these is a row of ints of one's own -/
def AllO (w : World) (B : Nat) (us : List Value) (ls : List (List Int)) : Prop := us.length = ls.length ∧ ∀ (i : Nat) (u : Value), us[i]? = some u → OInts 3 w B u (ls[i]?.getD [])
theorem AllO.nil (w : World) (B : Nat) : AllO w B [] [] := ⟨rfl, fun i u hu => by simp at hu⟩
theorem AllO.snoc {w : World} {B : Nat} {us : List Value} {ls : List (List Int)} {u : Value} {l : List Int} (h : AllO w B us ls) (hu : OInts 3 w B u l) : AllO w B (us ++ [u]) (ls ++ [l]) := by
  obtain ⟨h1, h2⟩ := h
  refine ⟨by simp [h1], fun i x hx => ?_⟩
  rcases Nat.lt_or_ge i us.length with hi | hi
  · rw [List.getElem?_append_left hi] at hx
    rw [List.getElem?_append_left (by omega)]
    exact h2 i x hx
  · rw [List.getElem?_append_right hi] at hx
    rw [List.getElem?_append_right (by omega)]
    rcases Nat.eq_zero_or_pos (i - us.length) with h0 | h0
    · rw [h0] at hx; simp at hx; subst hx
      rw [show i - ls.length = 0 by omega]; exact hu
    · rw [List.getElem?_eq_none (by simp; omega)] at hx; cases hx
theorem AllO.ext {w w' : World} {B : Nat} {us : List Value} {ls : List (List Int)} (h : AllO w B us ls) (hx : Ext w w') : AllO w' B us ls := ⟨h.1, fun i u hu => (h.2 i u hu).ext hx⟩
theorem OInts.keptB {w w' : World} {B : Nat} {u : Value} {l : List Int} {row : Option Nat} (h : OInts 3 w B u l) (hg : w.grownBy w' row) (hr : ∀ r, row = some r → u.ownBlock ≠ some r) : OInts 3 w' B u l := by
  refine World.ownsRow.kept h hg ?_
  cases hu : u.ownBlock with
  | none => exact .inl rfl
  | some r => exact .inr (fun e => hr r e.symm hu)
theorem OInts.blkInt {w : World} {B : Nat} {u : Value} {l : List Int} (h : OInts 3 w B u l) {r : Nat} (hr : u.ownBlock = some r) : B ≤ r ∧ r < w.heap.size ∧ ∃ cur, w.heap[r]? = some (.cells cur 3 (0, 0)) := by
  obtain ⟨cur, h1, h2⟩ := ownBlock_cells h r hr
  exact ⟨h2, (Array.getElem?_eq_some_iff.1 h1).1, cur, h1⟩
theorem AllO.kept {w w' : World} {B : Nat} {us : List Value} {ls : List (List Int)} {row : Option Nat} (h : AllO w B us ls) (hg : w.grownBy w' row) (hr : ∀ r, row = some r → ∀ u ∈ us, u.ownBlock ≠ some r) : AllO w' B us ls :=
  ⟨h.1, fun i u hu => (h.2 i u hu).keptB hg (fun r e => hr r e u (List.mem_of_getElem? hu))⟩
theorem AllO.noInt {w : World} {B r : Nat} {us : List Value} {ls : List (List Int)} (h : AllO w B us ls) {cur : Array Value} {e : TypeId} (hr : w.heap[r]? = some (.cells cur e (0, 0))) (he : e ≠ 3) : ∀ u ∈ us, u.ownBlock ≠ some r := fun u hu hb => by
  obtain ⟨i, hi, e1⟩ := List.mem_iff_getElem.1 hu
  obtain ⟨_, _, cur', h2⟩ := (h.2 i u (by rw [List.getElem?_eq_getElem hi, e1])).blkInt hb
  rw [hr] at h2; injection h2 with h2; injection h2 with _ h2 _; exact he h2
theorem AllO.lt {w : World} {B r : Nat} {us : List Value} {ls : List (List Int)} (h : AllO w B us ls) {u : Value} (hu : u ∈ us) (hb : u.ownBlock = some r) : r < w.heap.size := by
  obtain ⟨i, hi, e1⟩ := List.mem_iff_getElem.1 hu
  exact ((h.2 i u (by rw [List.getElem?_eq_getElem hi, e1])).blkInt hb).2.1
/-- one of the rows is another one now, the others stayed -/
theorem AllO.upd {w w' : World} {B : Nat} {us : List Value} {ls : List (List Int)} {a g : Nat} {l' : List Int} {u' : Value} (h : AllO w B us ls) (hg : w.grownBy w' (some g)) (ha : OInts 3 w' B u' l') (hal : a < us.length) (ho : ∀ i u, us[i]? = some u → i ≠ a → u.ownBlock ≠ some g) : AllO w' B (us.set a u') (ls.set a l') := by
  refine ⟨by simp [h.1], fun i u hu => ?_⟩
  rw [List.getElem?_set] at hu ⊢
  by_cases e : a = i
  · subst e
    rw [if_pos rfl, if_pos hal] at hu
    injection hu with hu; subst hu
    rw [if_pos rfl, if_pos (by rw [← h.1]; exact hal)]; exact ha
  · rw [if_neg e] at hu ⊢
    exact (h.2 i u hu).keptB hg (fun r er => by injection er with er; subst er; exact ho i u hu (fun e2 => e e2.symm))
/-- no two of these share a block -/
def Apart (us : List Value) : Prop := us.Pairwise fun x y => ∀ r, x.ownBlock = some r → y.ownBlock ≠ some r
theorem Apart.snoc {us : List Value} {u : Value} (h : Apart us) (hu : ∀ x ∈ us, ∀ r, x.ownBlock = some r → u.ownBlock ≠ some r) : Apart (us ++ [u]) := by
  unfold Apart at *
  rw [List.pairwise_append]
  exact ⟨h, List.pairwise_singleton _ _, fun x hx y hy => by rw [List.mem_singleton] at hy; subst hy; exact hu x hx⟩
theorem Apart.at_ {us : List Value} (h : Apart us) {i j : Nat} {x y : Value} (hi : us[i]? = some x) (hj : us[j]? = some y) (hne : i ≠ j) {r : Nat} (hx : x.ownBlock = some r) : y.ownBlock ≠ some r := by
  obtain ⟨h1, e1⟩ := List.getElem?_eq_some_iff.1 hi
  obtain ⟨h2, e2⟩ := List.getElem?_eq_some_iff.1 hj
  have hp := List.pairwise_iff_getElem.1 h
  rcases Nat.lt_or_ge i j with hl | hl
  · have := hp i j h1 h2 hl
    rw [e1, e2] at this; exact this r hx
  · have := hp j i h2 h1 (by omega)
    rw [e1, e2] at this; exact fun hy => this r hy hx
theorem Apart.left {us vs : List Value} (h : Apart (us ++ vs)) : Apart us := (List.pairwise_append.1 h).1
theorem Apart.right {us vs : List Value} (h : Apart (us ++ vs)) : Apart vs := (List.pairwise_append.1 h).2.1
theorem Apart.cross {us vs : List Value} (h : Apart (us ++ vs)) {x y : Value} (hx : x ∈ us) (hy : y ∈ vs) {r : Nat} (hr : x.ownBlock = some r) : y.ownBlock ≠ some r := (List.pairwise_append.1 h).2.2 x hx y hy r hr
/-- the words of items -/
abbrev wsI (is : List Itm) : List (List Int) := is.map Itm.w
theorem wsI_at (is : List Itm) (i : Nat) : (wsI is)[i]?.getD [] = (itm is i).w := by
  unfold itm wsI; rw [List.getElem?_map]; cases is[i]? <;> rfl
/-- a lexicon in memory of one's own, from block B on -/
structure OLexP (w : World) (B : Nat) (iv fv : Value) (l : Lex) (us vs : List Value) : Prop where
  i : w.ownsRow B 28 3 iv l.i.length (iCells us l.i)
  f : w.ownsRow B 26 1 fv l.f.length vs
  wi : AllO w B us (wsI l.i)
  wf : AllO w B vs l.f
  ap : Apart (us ++ vs)
def OLex (w : World) (B : Nat) (iv fv : Value) (l : Lex) : Prop := ∃ us vs, OLexP w B iv fv l us vs
theorem OLex.nil (w : World) (B : Nat) : OLex w B (.slice none 0 0) (.slice none 0 0) ⟨[], []⟩ := ⟨[], [], World.ownsRow_nil _ _ _ _, World.ownsRow_nil _ _ _ _, AllO.nil _ _, AllO.nil _ _, List.Pairwise.nil⟩
theorem OLexP.ext {w w' : World} {B : Nat} {iv fv : Value} {l : Lex} {us vs : List Value} (h : OLexP w B iv fv l us vs) (hx : Ext w w') : OLexP w' B iv fv l us vs :=
  ⟨ownsRow_ext h.i hx, ownsRow_ext h.f hx, h.wi.ext hx, h.wf.ext hx, h.ap⟩
theorem OLex.ext {w w' : World} {B : Nat} {iv fv : Value} {l : Lex} (h : OLex w B iv fv l) (hx : Ext w w') : OLex w' B iv fv l := by
  obtain ⟨us, vs, h⟩ := h; exact ⟨us, vs, h.ext hx⟩
theorem OLexP.len {w : World} {B : Nat} {iv fv : Value} {l : Lex} {us vs : List Value} (h : OLexP w B iv fv l us vs) : us.length = l.i.length ∧ vs.length = l.f.length := ⟨by rw [h.wi.1]; simp, h.wf.1⟩
theorem ownsRow_low {w : World} {B B' size n : Nat} {e : TypeId} {v : Value} {xs : List Value} (h : w.ownsRow B e size v n xs) (hB : B' ≤ B) : w.ownsRow B' e size v n xs := by
  refine ⟨h.1, ?_⟩
  rcases h.2 with h | ⟨g, cap, cur, h1, h2, h3⟩
  · exact .inl h
  · exact .inr ⟨g, cap, cur, h1, by omega, h3⟩
theorem OLex.low {w : World} {B B' : Nat} {iv fv : Value} {l : Lex} (h : OLex w B iv fv l) (hB : B' ≤ B) : OLex w B' iv fv l := by
  obtain ⟨us, vs, h⟩ := h
  exact ⟨us, vs, ownsRow_low h.i hB, ownsRow_low h.f hB, ⟨h.wi.1, fun i u hu => ownsRow_low (h.wi.2 i u hu) hB⟩, ⟨h.wf.1, fun i u hu => ownsRow_low (h.wf.2 i u hu) hB⟩, h.ap⟩
theorem ownsRow_form {w : World} {B size n : Nat} {e : TypeId} {v : Value} {xs : List Value} (h : w.ownsRow B e size v n xs) : ∃ a cap, v = .slice a n cap ∧ n ≤ cap ∧ cap ≤ 9223372036854775807 ∧ (0 < n → ∃ g, a = some ⟨g, 0, none⟩ ∧ B ≤ g) := by
  rcases h.2 with ⟨rfl, h0⟩ | ⟨g, cap, cur, rfl, hB, _, hn, hm, _⟩
  · exact ⟨none, 0, by rw [h0], by omega, by omega, fun h => by omega⟩
  · exact ⟨_, cap, rfl, hn, hm, fun _ => ⟨g, rfl, hB⟩⟩
theorem OLexP.lexR {w : World} {B : Nat} {iv fv : Value} {l : Lex} {us vs : List Value} (h : OLexP w B iv fv l us vs) : LexR w iv fv l := by
  obtain ⟨hul, hvl⟩ := h.len
  constructor
  · rcases h.i.2 with ⟨rfl, h0⟩ | ⟨g, cap, cur, rfl, hg, hh, hnc, hm, hcs, ht⟩
    · exact ⟨none, 0, by rw [h0], by omega, by unfold maxLen; omega, fun i hi => by omega⟩
    · refine ⟨some ⟨g, 0, none⟩, cap, rfl, hnc, hm, fun i hi => ⟨g, 0, rfl, us[i], ?_, ?_, ?_, ?_⟩⟩
      · rw [Nat.zero_add, h.i.cellAt (i * 3) (by omega), (iCells_at us l.i i hul hi).1, List.getElem?_eq_getElem (by omega)]
      · have := (h.wi.2 i us[i] (List.getElem?_eq_getElem (by omega))).ints
        rwa [wsI_at] at this
      · rw [Nat.zero_add, h.i.cellAt (i * 3 + 1) (by omega), (iCells_at us l.i i hul hi).2.1]
      · rw [Nat.zero_add, h.i.cellAt (i * 3 + 2) (by omega), (iCells_at us l.i i hul hi).2.2]
  · exact Rows.own h.f ⟨hvl, fun i u hu => (h.wf.2 i u hu).ints⟩
theorem OLex.lexR {w : World} {B : Nat} {iv fv : Value} {l : Lex} (h : OLex w B iv fv l) : LexR w iv fv l := by
  obtain ⟨us, vs, h⟩ := h; exact h.lexR
theorem OInts.fresh {w w' : World} {B : Nat} {u : Value} {l : List Int} (h : OInts 3 w' w.heap.size u l) {us : List Value} {ls : List (List Int)} (ha : AllO w B us ls) : ∀ x ∈ us, ∀ r, x.ownBlock = some r → u.ownBlock ≠ some r := fun x hx r hr hu => by
  have h1 := ha.lt hx hr
  have h2 := (h.blkInt hu).1
  omega
/-- one more item; u is a new row -/
theorem OLexP.pushI {w W w' : World} {B : Nat} {iv iv' : Value} {is us : List _} {u : Value} {x : Itm} (h : OLexP w B iv (.slice none 0 0) ⟨is, []⟩ us []) (hx : Ext w W) (hu : OInts 3 W w.heap.size u x.w) (hB : B ≤ w.heap.size)
    (h2 : w'.ownsRow B 28 3 iv' (is.length + 1) (iCells us is ++ [u, .int .i64 x.k, .int .i64 x.c])) (hg : W.grownBy w' iv.ownBlock) : OLexP w' B iv' (.slice none 0 0) ⟨is ++ [x], []⟩ (us ++ [u]) [] := by
  have hul := h.len.1
  have hW := h.ext hx
  have hrow : ∀ r, iv.ownBlock = some r → ∃ cur, W.heap[r]? = some (.cells cur 28 (0, 0)) := fun r hr => by obtain ⟨cur, h1, _⟩ := ownBlock_cells hW.i r hr; exact ⟨cur, h1⟩
  have huB : OInts 3 W B u x.w := ownsRow_low hu hB
  have hno : ∀ r, iv.ownBlock = some r → u.ownBlock ≠ some r := fun r hr hb => by
    obtain ⟨cur, h1⟩ := hrow r hr
    obtain ⟨_, _, cur', h3⟩ := huB.blkInt hb
    rw [h1] at h3; injection h3 with h3; injection h3 with _ h3 _; exact absurd h3 (by decide)
  refine ⟨?_, World.ownsRow_nil _ _ _ _, ?_, AllO.nil _ _, ?_⟩
  · rw [iCells_snoc us is u x hul]; simpa using h2
  · have := (hW.wi.kept hg (fun r e => by obtain ⟨cur, h1⟩ := hrow r e; exact hW.wi.noInt h1 (by decide))).snoc (huB.keptB hg hno)
    show AllO w' B (us ++ [u]) ((is ++ [x]).map Itm.w)
    rw [List.map_append]; exact this
  · have := h.ap
    rw [List.append_nil] at this ⊢
    exact this.snoc (hu.fresh h.wi)
/-- one more row; u is a new row -/
theorem OLexP.pushF {w W w' : World} {B : Nat} {iv fv fv' : Value} {l : Lex} {us vs : List Value} {u : Value} {r : List Int} (h : OLexP w B iv fv l us vs) (hx : Ext w W) (hu : OInts 3 W w.heap.size u r) (hB : B ≤ w.heap.size)
    (h2 : w'.ownsRow B 26 1 fv' (l.f.length + 1) (vs ++ [u])) (hg : W.grownBy w' fv.ownBlock) : OLexP w' B iv fv' ⟨l.i, l.f ++ [r]⟩ us (vs ++ [u]) := by
  have hW := h.ext hx
  have hrow : ∀ r, fv.ownBlock = some r → ∃ cur, W.heap[r]? = some (.cells cur 26 (0, 0)) := fun r hr => by obtain ⟨cur, h1, _⟩ := ownBlock_cells hW.f r hr; exact ⟨cur, h1⟩
  have huB : OInts 3 W B u r := ownsRow_low hu hB
  have hno : ∀ r, fv.ownBlock = some r → u.ownBlock ≠ some r := fun r hr hb => by
    obtain ⟨cur, h1⟩ := hrow r hr
    obtain ⟨_, _, cur', h3⟩ := huB.blkInt hb
    rw [h1] at h3; injection h3 with h3; injection h3 with _ h3 _; exact absurd h3 (by decide)
  have hnoI : iv.ownBlock = none ∨ iv.ownBlock ≠ fv.ownBlock := by
    cases hi : iv.ownBlock with
    | none => exact .inl rfl
    | some r =>
      refine .inr (fun e => ?_)
      obtain ⟨cur, h1⟩ := hrow r e.symm
      obtain ⟨cur', h3, _⟩ := ownBlock_cells hW.i r hi
      rw [h1] at h3; injection h3 with h3; injection h3 with _ h3 _; exact absurd h3 (by decide)
  refine ⟨hW.i.kept hg hnoI, by simpa using h2, hW.wi.kept hg (fun r e => by obtain ⟨cur, h1⟩ := hrow r e; exact hW.wi.noInt h1 (by decide)), ?_, ?_⟩
  · exact (hW.wf.kept hg (fun r e => by obtain ⟨cur, h1⟩ := hrow r e; exact hW.wf.noInt h1 (by decide))).snoc (huB.keptB hg hno)
  · rw [← List.append_assoc]
    exact h.ap.snoc (fun x hx r hr => (List.mem_append.1 hx).elim (fun hx => hu.fresh h.wi x hx r hr) (fun hx => hu.fresh h.wf x hx r hr))
end Go.Proofs.Ytgpggmcjggpmpaa
