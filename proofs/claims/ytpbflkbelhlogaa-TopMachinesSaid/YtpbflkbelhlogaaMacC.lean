/- Images of words: plain words; rows of bools and beginnings of images in memory. -/
import Derived.Test.YtpbflkbelhlogaaMacB
import Derived.Maps.AppendAt
namespace Go.Proofs.Ytpbflkbelhlogaa
open Go.RowKit Go.Shelf
set_option linter.unusedVariables false

/-! ## plain -/
def getB (l : List Bool) (i : Int) : Bool := l[i.toNat]?.getD false
def onB (c : Arc → Bool) (tgt : Arc → Int) (l : List Bool) (a : Arc) : List Bool := if c a then l.set (tgt a).toNat true else l
def onsB (n : Nat) (ar : List Arc) (c : Arc → Bool) (tgt : Arc → Int) : List Bool := ar.foldl (onB c tgt) (List.replicate n false)
def trueAt (e : List Int) (l : List Bool) : List Bool := e.foldl (fun l s => l.set s.toNat true) l
def endsB (n : Nat) (e : List Int) : List Bool := trueAt e (List.replicate n false)
def canC (s : Int) (nx : List Bool) (a : Arc) : Bool := a.i == s && getB nx a.t
def canL (n : Nat) (m : Mac) : List Int → List Bool
  | [] => endsB n m.e
  | s :: u => onsB n m.a (canC s (canL n m u)) (fun a => a.f)
abbrev Hd : Type := List Int × List Bool
def hd (hs : List Hd) (i : Nat) : Hd := hs[i]?.getD ([], [])
def goC (s o : Int) (st nx : List Bool) (a : Arc) : Bool := getB st a.f && a.i == s && a.o == o && getB nx a.t
def nextO (n : Nat) (ar : List Arc) (s : Int) (nx : List Bool) (h : Hd) (o : Nat) : List Hd :=
  if ar.any (goC s o h.2 nx) then [(h.1 ++ [(o : Int)], onsB n ar (goC s o h.2 nx) (fun a => a.t))] else []
def nextH (n : Nat) (ar : List Arc) (s : Int) (nx : List Bool) (h : Hd) : List Hd := (List.range 6).flatMap (nextO n ar s nx h)
def nextL (n : Nat) (ar : List Arc) (s : Int) (nx : List Bool) (hs : List Hd) : List Hd := hs.flatMap (nextH n ar s nx)
def imgGo (n : Nat) (m : Mac) : List Int → List Hd → Option (List Hd)
  | [], hs => some hs
  | s :: u, hs => if 300 < (nextL n m.a s (canL n m u) hs).length then none else imgGo n m u (nextL n m.a s (canL n m u) hs)
def beginB (n : Nat) : List Bool := (List.replicate n false).set 0 true
def imagesO (n : Nat) (m : Mac) (u : List Int) : Option (List (List Int)) := if getB (canL n m u) 0 then (imgGo n m u [([], beginB n)]).map (fun hs => hs.map Prod.fst) else some []
theorem onsF_len (c : Arc → Bool) (tgt : Arc → Int) : ∀ (ar : List Arc) (l : List Bool), (ar.foldl (onB c tgt) l).length = l.length
  | [], _ => rfl
  | a :: ar, l => by rw [List.foldl_cons, onsF_len c tgt ar]; unfold onB; split <;> simp
theorem onsB_len (n : Nat) (ar : List Arc) (c : Arc → Bool) (tgt : Arc → Int) : (onsB n ar c tgt).length = n := by rw [onsB, onsF_len]; simp
theorem trueAt_len : ∀ (e : List Int) (l : List Bool), (trueAt e l).length = l.length
  | [], _ => rfl
  | s :: e, l => by rw [trueAt, List.foldl_cons]; exact (trueAt_len e _).trans (by simp)
theorem endsB_len (n : Nat) (e : List Int) : (endsB n e).length = n := by rw [endsB, trueAt_len]; simp
theorem canL_len (n : Nat) (m : Mac) : ∀ u, (canL n m u).length = n
  | [] => endsB_len n m.e
  | s :: u => by rw [canL, onsB_len]
theorem beginB_len (n : Nat) : (beginB n).length = n := by simp [beginB]
theorem trueAt_next {e : List Int} {k : Nat} (h : k < e.length) (l : List Bool) : trueAt (e.take (k + 1)) l = (trueAt (e.take k) l).set (e[k]?.getD 0).toNat true := by
  rw [take_next h 0, trueAt, trueAt, List.foldl_append]; rfl
theorem onF_next {ar : List Arc} {k : Nat} (h : k < ar.length) (c : Arc → Bool) (tgt : Arc → Int) (l : List Bool) : (ar.take (k + 1)).foldl (onB c tgt) l = onB c tgt ((ar.take k).foldl (onB c tgt) l) (arcA ar k) := by
  rw [take_next h ⟨0, 0, 0, 0⟩, List.foldl_append]; rfl
theorem any_next {ar : List Arc} {k : Nat} (h : k < ar.length) (c : Arc → Bool) : (ar.take (k + 1)).any c = ((ar.take k).any c || c (arcA ar k)) := by
  rw [take_next h ⟨0, 0, 0, 0⟩, List.any_append]; simp [arcA]
theorem drop_one {l : List Int} {k : Nat} (h : k < l.length) : l.drop k = l[k]?.getD 0 :: l.drop (k + 1) := by
  rw [List.drop_eq_getElem_cons h]; simp [h]
theorem canL_drop {n : Nat} {m : Mac} {u : List Int} {k : Nat} (h : k < u.length) : canL n m (u.drop k) = onsB n m.a (canC (u[k]?.getD 0) (canL n m (u.drop (k + 1)))) (fun a => a.f) := by
  rw [drop_one h, canL]
theorem flat_next {α β : Type} {l : List α} {k : Nat} (h : k < l.length) (d : α) (f : α → List β) : (l.take (k + 1)).flatMap f = (l.take k).flatMap f ++ f (l[k]?.getD d) := by
  rw [take_next h d, List.flatMap_append]; simp
theorem flat_range {β : Type} (k : Nat) (f : Nat → List β) : (List.range (k + 1)).flatMap f = (List.range k).flatMap f ++ f k := by
  rw [List.range_succ, List.flatMap_append]; simp
/-- what the walks need of a machine -/
structure MacIn (m : Mac) (n : Nat) : Prop where
  s : m.s = n
  n1 : 1 ≤ n
  n9 : n ≤ 9
  a : m.a.length ≤ 60
  arc : ∀ j, j < m.a.length → (0 ≤ (arcA m.a j).f ∧ (arcA m.a j).f < n) ∧ (0 ≤ (arcA m.a j).t ∧ (arcA m.a j).t < n)
  ends : ∀ j, j < m.e.length → 0 ≤ m.e[j]?.getD 0 ∧ m.e[j]?.getD 0 < n
theorem MacOk.in_ {m : Mac} (h : MacOk m) : MacIn m m.s.toNat := by
  have h1 := h.s1
  have h2 := h.s2
  refine ⟨by omega, by omega, by omega, h.a, fun j hj => ?_, fun j hj => ?_⟩
  · have := h.arc hj; omega
  · have := setB_in h.e (m.e[j]?.getD 0) (by rw [List.getElem?_eq_getElem hj]; exact List.getElem_mem hj)
    omega

/-! ## rows of bools -/
theorem BBools.ne {W : World} {g A : Nat} {l : List Bool} {vs : List Value} (h : BBools W g l) (hA : Blk W A 75 vs) : g ≠ A := by
  rintro rfl
  have := Option.some.inj (h.symm.trans hA)
  injection this with _ h2 _
  exact absurd h2 (by decide)
/-- A is the block of N rows, those from i on read as rows says -/
structure GridD (W : World) (A N n i : Nat) (rows : Nat → List Bool) (vs : List Value) : Prop where
  len : vs.length = N
  blk : Blk W A 75 vs
  row : ∀ j, i ≤ j → j < N → (rows j).length = n ∧ ∃ g, vs[j]? = some (.slice (some ⟨g, 0, none⟩) n n) ∧ BBools W g (rows j)
/-- .. while row j is being made in block g -/
structure GridR (W : World) (A N n j g : Nat) (rows : Nat → List Bool) (vs : List Value) : Prop where
  len : vs.length = N
  blk : Blk W A 75 vs
  lt : j < N
  at_ : vs[j]? = some (.slice (some ⟨g, 0, none⟩) n n)
  ne : A ≠ g
  row : ∀ i, j < i → i < N → (rows i).length = n ∧ ∃ g', g' ≠ g ∧ vs[i]? = some (.slice (some ⟨g', 0, none⟩) n n) ∧ BBools W g' (rows i)
theorem GridR.ext {W W' : World} {A N n j g : Nat} {rows : Nat → List Bool} {vs : List Value} (h : GridR W A N n j g rows vs) (hx : Ext W W') : GridR W' A N n j g rows vs :=
  ⟨h.len, h.blk.ext hx, h.lt, h.at_, h.ne, fun i h1 h2 => by obtain ⟨hl, g', h3, h4, h5⟩ := h.row i h1 h2; exact ⟨hl, g', h3, h4, Blk.ext h5 hx⟩⟩
theorem GridR.set {W : World} {A N n j g : Nat} {rows : Nat → List Bool} {vs : List Value} (h : GridR W A N n j g rows vs) (i : Nat) (v : Value) : GridR (W.setCell ⟨g, i, none⟩ v) A N n j g rows vs :=
  ⟨h.len, h.blk.other (fun e => h.ne e.symm) i v, h.lt, h.at_, h.ne, fun i' h1 h2 => by
    obtain ⟨hl, g', h3, h4, h5⟩ := h.row i' h1 h2
    exact ⟨hl, g', h3, h4, Blk.other h5 (fun e => h3 e.symm) i v⟩⟩
theorem GridR.done {W : World} {A N n j g : Nat} {rows : Nat → List Bool} {vs : List Value} (h : GridR W A N n j g rows vs) (hl : (rows j).length = n) (hb : BBools W g (rows j)) : GridD W A N n j rows vs :=
  ⟨h.len, h.blk, fun i h1 h2 => by
    by_cases e : i = j
    · subst e; exact ⟨hl, g, h.at_, hb⟩
    · obtain ⟨hl', g', _, h4, h5⟩ := h.row i (by omega) h2
      exact ⟨hl', g', h4, h5⟩⟩
theorem GridD.begin {W w2 : World} {A N n j g : Nat} {rows : Nat → List Bool} {vs : List Value} {l : List Bool} (h : GridD W A N n (j + 1) rows vs) (hj : j < N) (hg : W.heap.size ≤ g) (hx : Ext W w2) (hb : BBools w2 g l) :
    GridR (w2.setCell ⟨A, j, none⟩ (.slice (some ⟨g, 0, none⟩) n n)) A N n j g rows (vs.set j (.slice (some ⟨g, 0, none⟩) n n)) ∧ BBools (w2.setCell ⟨A, j, none⟩ (.slice (some ⟨g, 0, none⟩) n n)) g l := by
  have hA : A < W.heap.size := h.blk.lt
  have hl := h.len
  refine ⟨⟨by simp [h.len], (h.blk.ext hx).set j _, hj, by rw [List.getElem?_set_self (by omega)], by omega, fun i h1 h2 => ?_⟩, Blk.other hb (by omega) _ _⟩
  obtain ⟨hl', g', h4, h5⟩ := h.row i (by omega) h2
  have hg' := Blk.lt h5
  have hne := BBools.ne h5 h.blk
  exact ⟨hl', g', by omega, by rw [List.getElem?_set_ne (by omega)]; exact h4, Blk.other (Blk.ext h5 hx) (fun e => hne e.symm) _ _⟩
/-- the slice v reads as N rows of n bools -/
def Grid (W : World) (v : Value) (N n : Nat) (rows : Nat → List Bool) : Prop :=
  ∃ A, v = .slice (some ⟨A, 0, none⟩) N N ∧ ∀ j, j < N → ∃ g, W.cell? ⟨A, j, none⟩ = some (.slice (some ⟨g, 0, none⟩) n n) ∧ ∀ i, i < n → W.cell? ⟨g, i, none⟩ = some (.bool ((rows j)[i]?.getD false))
theorem Grid.ext {W W' : World} {v : Value} {N n : Nat} {rows : Nat → List Bool} (h : Grid W v N n rows) (hx : Ext W W') : Grid W' v N n rows := by
  obtain ⟨A, hv, h⟩ := h
  refine ⟨A, hv, fun j hj => ?_⟩
  obtain ⟨g, h1, h2⟩ := h j hj
  exact ⟨g, hx.keep h1, fun i hi => hx.keep (h2 i hi)⟩
theorem GridD.grid {W : World} {A N n : Nat} {rows : Nat → List Bool} {vs : List Value} (h : GridD W A N n 0 rows vs) : Grid W (.slice (some ⟨A, 0, none⟩) N N) N n rows :=
  ⟨A, rfl, fun j hj => by
    obtain ⟨hl, g, h1, h2⟩ := h.row j (by omega) hj
    exact ⟨g, h.blk.cell h1, fun i hi => h2.cell (by omega)⟩⟩

/-! ## beginnings of images -/
def Heads (w : World) (v : Value) (hs : List Hd) : Prop :=
  Sl v hs.length fun i b o => ∃ u bv, w.cell? ⟨b, o + i * 2, none⟩ = some u ∧ Ints w u (hd hs i).1 ∧ w.cell? ⟨b, o + i * 2 + 1, none⟩ = some bv ∧ Bools w bv (hd hs i).2
theorem Heads.ext {w w' : World} {v : Value} {hs : List Hd} (h : Heads w v hs) (hx : Ext w w') : Heads w' v hs :=
  h.mono fun _ _ _ _ ⟨u, bv, h1, h2, h3, h4⟩ => ⟨u, bv, hx.keep h1, h2.ext hx, hx.keep h3, h4.ext hx⟩
theorem Heads.open_ {w : World} {v : Value} {hs : List Hd} (h : Heads w v hs) :
    ∃ (a : Option Addr) (cap : Nat), v = .slice a hs.length cap ∧ hs.length ≤ cap ∧ cap ≤ 9223372036854775807 ∧
      Hid (∀ i, i < hs.length → ∃ b o, a = some ⟨b, o, none⟩ ∧ ∃ u bv, w.cell? ⟨b, o + i * 2, none⟩ = some u ∧ Ints w u (hd hs i).1 ∧ w.cell? ⟨b, o + i * 2 + 1, none⟩ = some bv ∧ Bools w bv (hd hs i).2) := h
def OBool (w : World) (bv : Value) (l : List Bool) : Prop := ∃ g, bv = .slice (some ⟨g, 0, none⟩) l.length l.length ∧ BBools w g l
theorem OBool.bools {w : World} {bv : Value} {l : List Bool} (h : OBool w bv l) (hn : l.length ≤ 1000000) : Bools w bv l := by
  obtain ⟨g, rfl, hb⟩ := h; exact hb.bools hn
theorem OBool.ext {w w' : World} {bv : Value} {l : List Bool} (h : OBool w bv l) (hx : Ext w w') : OBool w' bv l := by
  obtain ⟨g, rfl, hb⟩ := h; exact ⟨g, rfl, Blk.ext hb hx⟩
theorem OBool.kept {w w' : World} {bv : Value} {l : List Bool} {row : Option Nat} (h : OBool w bv l) (hg : w.grownBy w' row) (hr : ∀ r, row = some r → ∃ o : Obj, w.heap[r]? = some o ∧ ∀ cur, o ≠ .cells cur 4 (0, 0)) : OBool w' bv l := by
  obtain ⟨g, rfl, hb⟩ := h
  refine ⟨g, rfl, (hg.block g (Blk.lt hb) (fun e => ?_)).trans hb⟩
  obtain ⟨o, ho, hne⟩ := hr g e.symm
  unfold BBools Blk at hb
  rw [hb] at ho
  injection ho with ho
  exact hne _ ho.symm
def hCells : List (Value × Value) → List Value
  | [] => []
  | p :: ps => p.1 :: p.2 :: hCells ps
theorem hCells_len : ∀ ps, (hCells ps).length = ps.length * 2
  | [] => rfl
  | p :: ps => by simp [hCells, hCells_len ps]; omega
theorem hCells_snoc : ∀ (ps : List (Value × Value)) (p : Value × Value), hCells (ps ++ [p]) = hCells ps ++ [p.1, p.2]
  | [], _ => rfl
  | q :: ps, p => by simp [hCells, hCells_snoc ps p]
theorem hCells_one : ∀ (ps : List (Value × Value)) (i : Nat), (hCells ps)[i * 2]? = (ps[i]?).map Prod.fst
  | [], i => by simp [hCells]
  | p :: ps, 0 => rfl
  | p :: ps, i + 1 => by
    rw [show (i + 1) * 2 = i * 2 + 2 by omega]
    simpa [hCells] using hCells_one ps i
theorem hCells_two : ∀ (ps : List (Value × Value)) (i : Nat), (hCells ps)[i * 2 + 1]? = (ps[i]?).map Prod.snd
  | [], i => by simp [hCells]
  | p :: ps, 0 => rfl
  | p :: ps, i + 1 => by
    rw [show (i + 1) * 2 + 1 = (i * 2 + 1) + 2 by omega]
    simpa [hCells] using hCells_two ps i
def AllH (w : World) (B : Nat) (ps : List (Value × Value)) (hs : List Hd) : Prop := ps.length = hs.length ∧ ∀ (i : Nat) (p : Value × Value), ps[i]? = some p → OInts 3 w B p.1 (hd hs i).1 ∧ OBool w p.2 (hd hs i).2
theorem AllH.ext {w w' : World} {B : Nat} {ps : List (Value × Value)} {hs : List Hd} (h : AllH w B ps hs) (hx : Ext w w') : AllH w' B ps hs :=
  ⟨h.1, fun i p hp => ⟨(h.2 i p hp).1.ext hx, (h.2 i p hp).2.ext hx⟩⟩
theorem AllH.snoc {w : World} {B : Nat} {ps : List (Value × Value)} {hs : List Hd} {p : Value × Value} {x : Hd} (h : AllH w B ps hs) (h1 : OInts 3 w B p.1 x.1) (h2 : OBool w p.2 x.2) : AllH w B (ps ++ [p]) (hs ++ [x]) := by
  obtain ⟨hl, h⟩ := h
  refine ⟨by simp [hl], fun i q hq => ?_⟩
  rcases Nat.lt_or_ge i ps.length with hi | hi
  · rw [List.getElem?_append_left hi] at hq
    have : hd (hs ++ [x]) i = hd hs i := by unfold hd; rw [List.getElem?_append_left (by omega)]
    rw [this]; exact h i q hq
  · rw [List.getElem?_append_right hi] at hq
    rcases Nat.eq_zero_or_pos (i - ps.length) with h0 | h0
    · rw [h0] at hq; simp at hq; subst hq
      have : hd (hs ++ [x]) i = x := by unfold hd; rw [List.getElem?_append_right (by omega), show i - hs.length = 0 by omega]; rfl
      rw [this]; exact ⟨h1, h2⟩
    · rw [List.getElem?_eq_none (by simp; omega)] at hq; cases hq
/-- beginnings of one's own, of the struct type th -/
def OHeads (th : TypeId) (w : World) (B : Nat) (v : Value) (hs : List Hd) : Prop := ∃ ps, w.ownsRow B th 2 v hs.length (hCells ps) ∧ AllH w B ps hs
theorem OHeads.nil (th : TypeId) (w : World) (B : Nat) : OHeads th w B (.slice none 0 0) [] := ⟨[], World.ownsRow_nil _ _ _ _, rfl, fun i p hp => by simp at hp⟩
theorem OHeads.ext {th : TypeId} {w w' : World} {B : Nat} {v : Value} {hs : List Hd} (h : OHeads th w B v hs) (hx : Ext w w') : OHeads th w' B v hs := by
  obtain ⟨ps, h1, h2⟩ := h; exact ⟨ps, ownsRow_ext h1 hx, h2.ext hx⟩
theorem OHeads.heads {th : TypeId} {w : World} {B : Nat} {v : Value} {hs : List Hd} (h : OHeads th w B v hs) (hn : ∀ i, i < hs.length → (hd hs i).2.length ≤ 1000000) : Heads w v hs := by
  obtain ⟨ps, ho, hl, ha⟩ := h
  rcases ho.2 with ⟨rfl, h0⟩ | ⟨g, cap, cur, rfl, hg, hh, hnc, hm, hcs, ht⟩
  · exact ⟨none, 0, by rw [h0], by omega, by unfold maxLen; omega, fun i hi => by omega⟩
  · refine ⟨some ⟨g, 0, none⟩, cap, rfl, hnc, hm, fun i hi => ⟨g, 0, rfl, (ps[i]'(by omega)).1, (ps[i]'(by omega)).2, ?_, ?_, ?_, ?_⟩⟩
    · have := ho.cellAt (i * 2) (by omega)
      rw [Nat.zero_add, this, hCells_one, List.getElem?_eq_getElem (by omega)]; rfl
    · exact (ha i _ (List.getElem?_eq_getElem (by omega))).1.ints
    · have := ho.cellAt (i * 2 + 1) (by omega)
      rw [show 0 + i * 2 + 1 = i * 2 + 1 by omega, this, hCells_two, List.getElem?_eq_getElem (by omega)]; rfl
    · exact (ha i _ (List.getElem?_eq_getElem (by omega))).2.bools (hn i hi)
def r_lt (w : World) (v : Value) : Prop := ∀ r, v.ownBlock = some r → r < w.heap.size
/-- append of one beginning -/
theorem wpList_appendHd {ops : Array Oper} {rest : List Oper} {o : Oper} {a : Act} {Q : Exit → Act → World → Prop} {W : World} {B : Nat} {v u bv : Value} {g : Nat} {hs : List Hd} {x : Hd} {tl th : TypeId}
    (hT : ElTy Try.prog tl th 2 48 (.agg #[.slice none 0 0, .slice none 0 0])) (hne : th ≠ 3) (hne2 : th ≠ 4)
    (hgd : o.guard = none) (s y : Operand) (ho : o.op = .call { callee := .builtin .append, args := #[s, y], argTypes := #[tl, tl] })
    (hs' : a.eval s = v) (hx : a.eval y = .slice (some ⟨g, 0, none⟩) 1 1) (hc : OHeads th W B v hs) (hg : W.heap.size = g) (hu : OInts 3 W B u x.1) (hb : OBool W bv x.2) (hn : hs.length ≤ 1000000) (hB : B ≤ W.heap.size)
    (h : ∀ v' w', OHeads th w' B v' (hs ++ [x]) → Below B W w' → W.grownBy w' v.ownBlock → (∀ r, v'.ownBlock = some r → v.ownBlock = some r ∨ W.heap.size ≤ r) → r_lt w' v' → wpList Try.prog ops Q rest (a.put o.dst v') w') : wpList Try.prog ops Q (o :: rest) a (W.alloc (.cells #[u, bv] th)) := by
  subst hg
  obtain ⟨ps, hown, hal⟩ := hc
  obtain ⟨i0, hi, hz0, hz1, hz2⟩ := info_parts hT.info
  have hul := hal.1
  refine wpList_plain hgd fun _ hK => ?_
  obtain ⟨v', w', hrun, h2, h3, _, h6⟩ := run_append_own_at (P := Try.prog) (W.alloc (.cells #[u, bv] th)) B tl o.type th i0 (.agg #[.slice none 0 0, .slice none 0 0]) 2 48 hT.ht hi hz0 hz1 hz2 hT.zc hT.pos v hs.length (hCells ps) (hown.alloc _)
    ⟨W.heap.size, 0, none⟩ 1 1 [u, bv] rfl (by
      intro j z hz
      rw [addr_add]
      have hk : (W.alloc (.cells #[u, bv] th)).cell? ⟨W.heap.size, j, none⟩ = some z := alloc_cell W #[u, bv] th (by simpa using hz)
      show (W.alloc (.cells #[u, bv] th)).cell? ⟨W.heap.size, 0 + j, none⟩ = some z
      rw [Nat.zero_add]; exact hk) (by
      intro z hz
      simp only [List.mem_cons, List.not_mem_nil, or_false] at hz
      rcases hz with rfl | rfl
      · obtain ⟨_, _, rfl, _⟩ := hu.ints; rfl
      · obtain ⟨_, rfl, _⟩ := hb; rfl) (by unfold maxLen; omega) (by omega) (by simp; omega)
  have hown' := hown.alloc (.cells #[u, bv] th)
  have hoth : ∀ e, th ≠ e → ∀ r, v.ownBlock = some r → ∃ o : Obj, (W.alloc (.cells #[u, bv] th)).heap[r]? = some o ∧ ∀ cur, o ≠ .cells cur e (0, 0) := fun e hne r hr => by
    obtain ⟨cur, h1, _⟩ := ownBlock_cells hown' r hr
    exact ⟨_, h1, fun cur' he => by injection he with _ he; exact hne he⟩
  unfold Oper.wp execOp
  simp only [ho, resolve, invoke, builtin, Sem.run_bind, Sem.run_pure, Result.andThen_ok, List.map_toArray, List.map_cons, List.map_nil, hs', hx, hrun]
  refine hK _ _ (h v' w' ⟨ps ++ [(u, bv)], ?_, ?_⟩ ?_ ?_ ?_ ?_)
  · rw [hCells_snoc]; simpa using h2
  · have h4 := hal.ext (Ext.alloc W (.cells #[u, bv] th))
    have h5 : AllH w' B ps hs := ⟨h4.1, fun i p hp => ⟨(h4.2 i p hp).1.kept h3 (hoth _ hne), (h4.2 i p hp).2.kept h3 (hoth _ hne2)⟩⟩
    exact h5.snoc ((hu.alloc _).kept h3 (hoth _ hne)) ((hb.ext (Ext.alloc _ _)).kept h3 (hoth _ hne2))
  · exact ((Below.refl B W).alloc hB _).trans (Below.of_grownBy h3 hown' (by simp; omega))
  · exact grownBy_trans_new (grownBy_of_ext (Ext.alloc W (.cells #[u, bv] th)) v.ownBlock) h3 (fun r hr => .inr hr)
  · intro r hr
    rcases h6 with h6 | h6
    · left; rw [← hr]; exact h6.symm
    · right
      rw [hr] at h6
      injection h6 with h6
      rw [h6]; simp
  · intro r hr
    obtain ⟨cur, h7, _⟩ := ownBlock_cells h2 r hr
    exact (Array.getElem?_eq_some_iff.1 h7).1
end Go.Proofs.Ytpbflkbelhlogaa
