/- Blocks of the call's own whose list of values is known: what they hold, what a store leaves. -/
import Derived.Test.YtpmlcfgbfhgpgaaGreatDoorSl
import Derived.Deep.OwnRows
namespace Go.Proofs.YtpmlcfgbfhgpgaaGreatDoor
open Go.RowKit Go.Shelf
set_option linter.unusedVariables false
def Blk (W : World) (g : Nat) (ty : TypeId) (l : List Value) : Prop := W.heap[g]? = some (.cells l.toArray ty (0, 0))
section
variable {W W' : World} {g : Nat} {ty : TypeId} {l : List Value}
theorem Blk.lt (h : Blk W g ty l) : g < W.heap.size := (Array.getElem?_eq_some_iff.1 h).1
theorem Blk.ext (h : Blk W g ty l) (hx : Ext W W') : Blk W' g ty l := (hx.block g h.lt).trans h
theorem Blk.cell (h : Blk W g ty l) {i : Nat} {v : Value} (hv : l[i]? = some v) : W.cell? ⟨g, i, none⟩ = some v := by
 unfold Blk at h; simp [World.cell?, h, hv]
theorem Blk.frozen (h : Blk W g ty l) (i : Nat) : W.frozen? ⟨g, i, none⟩ = false := by unfold Blk at h; simp [World.frozen?, h]
theorem Blk.set (h : Blk W g ty l) (i : Nat) (v : Value) : Blk (W.setCell ⟨g, i, none⟩ v) g ty (l.set i v) := by
 unfold Blk at *
 simp [World.setCell, Array.getElem?_modify, h]
theorem Blk.other (h : Blk W g ty l) {c : Nat} (hne : c ≠ g) (i : Nat) (v : Value) : Blk (W.setCell ⟨c, i, none⟩ v) g ty l :=
 ((grownBy_set W c i v).block g h.lt (fun e => hne (by injection e with e; exact e.symm))).trans h
theorem Blk.alloc (W : World) (cs : Array Value) (ty : TypeId) : Blk (W.alloc (.cells cs ty)) W.heap.size ty cs.toList := World.alloc_heap_new W (.cells cs ty)
end
def BInts (W : World) (g : Nat) (l : List Int) : Prop := Blk W g 3 (l.map (Value.int .i64))
def BBools (W : World) (g : Nat) (l : List Bool) : Prop := Blk W g 4 (l.map Value.bool)
theorem BInts.cell {W : World} {g : Nat} {l : List Int} (h : BInts W g l) {i : Nat} (hi : i < l.length) : W.cell? ⟨g, i, none⟩ = some (.int .i64 (l[i]?.getD 0)) :=
 Blk.cell h (by simp [hi])
theorem BInts.set {W : World} {g : Nat} {l : List Int} (h : BInts W g l) (i : Nat) (x : Int) : BInts (W.setCell ⟨g, i, none⟩ (.int .i64 x)) g (l.set i x) := by
 have := Blk.set h i (.int .i64 x); unfold BInts; rwa [List.map_set]
theorem BBools.cell {W : World} {g : Nat} {l : List Bool} (h : BBools W g l) {i : Nat} (hi : i < l.length) : W.cell? ⟨g, i, none⟩ = some (.bool (l[i]?.getD false)) :=
 Blk.cell h (by simp [hi])
theorem BBools.set {W : World} {g : Nat} {l : List Bool} (h : BBools W g l) (i : Nat) (x : Bool) : BBools (W.setCell ⟨g, i, none⟩ (.bool x)) g (l.set i x) := by
 have := Blk.set h i (.bool x); unfold BBools; rwa [List.map_set]
theorem BInts.ints {W : World} {g : Nat} {l : List Int} (h : BInts W g l) (hn : l.length ≤ 1000000) : Ints W (.slice (some ⟨g, 0, none⟩) l.length l.length) l :=
 ⟨_, _, rfl, Nat.le_refl _, by unfold maxLen; omega, fun i hi => ⟨g, 0, rfl, by show W.cell? ⟨g, 0 + i, none⟩ = _; rw [Nat.zero_add]; exact h.cell hi⟩⟩
def Bools (w : World) (v : Value) (l : List Bool) : Prop :=
 Sl v l.length fun i b o => w.cell? ⟨b, o + i, none⟩ = some (.bool (l[i]?.getD false))
theorem Bools.ext {w w' : World} {v : Value} {l : List Bool} (h : Bools w v l) (hb : Ext w w') : Bools w' v l := h.mono fun _ _ _ _ hc => hb.keep hc
theorem Bools.open_ {w : World} {v : Value} {l : List Bool} (h : Bools w v l) :
  ∃ (a : Option Addr) (cap : Nat), v = .slice a l.length cap ∧ l.length ≤ cap ∧ cap ≤ 9223372036854775807 ∧
   Hid (∀ i, i < l.length → ∃ b o, a = some ⟨b, o, none⟩ ∧ w.cell? ⟨b, o + i, none⟩ = some (.bool (l[i]?.getD false))) := h
theorem BBools.bools {W : World} {g : Nat} {l : List Bool} (h : BBools W g l) (hn : l.length ≤ 1000000) : Bools W (.slice (some ⟨g, 0, none⟩) l.length l.length) l :=
 ⟨_, _, rfl, Nat.le_refl _, by unfold maxLen; omega, fun i hi => ⟨g, 0, rfl, by show W.cell? ⟨g, 0 + i, none⟩ = _; rw [Nat.zero_add]; exact h.cell hi⟩⟩
theorem madeCells_one (z : Value) (n : Nat) : (madeCells #[z] n).toList = List.replicate n z := by
 simp [madeCells, Nat.mod_one, List.map_const']
theorem wpList_make_blk {P : Program} {ops : Array Oper} {rest : List Oper} {o : Oper} {a : Act} {Q : Exit → Act → World → Prop} {W : World} {t e : TypeId} {bytes : Nat} {z : Value} (n : Nat)
  (hT : ElTy P t e 1 bytes z) (hz : z.cells = #[z]) (hgd : o.guard = none) (l c : Operand) (ho : o.op = .makeSlice t l c) (hl : a.eval l = .int .i64 (n : Int)) (hc : a.eval c = .int .i64 (n : Int)) (hn : n ≤ 100000) (hb : bytes ≤ 1000000)
  (h : ∀ g w', W.heap.size ≤ g → Blk w' g e (List.replicate n z) → Ext W w' → g < w'.heap.size → wpList P ops Q rest (a.put o.dst (.slice (some ⟨g, 0, none⟩) n n)) w') : wpList P ops Q (o :: rest) a W := by
 obtain ⟨i0, hi, hz0, hz1, hz2⟩ := info_parts hT.info
 refine wpList_make_row (P := P) W hgd l c t ho e i0 z hT.ht hi hz0 hz1 hz .i64 .i64 n hl hc ?_ (by omega) ?_
 ·rw [hz2]; exact Nat.le_trans (Nat.mul_le_mul hb hn) (by decide)
 ·refine h _ _ (Nat.le_refl _) ?_ (Ext.alloc _ _) (by simp)
  have := Blk.alloc W (madeCells #[z] n) e
  rwa [madeCells_one] at this
theorem elBools : ElTy Tryz.prog 74 4 1 1 (.bool false) := ⟨Tryz.underlying74, by kernel_rfl, rfl, by omega⟩
end Go.Proofs.YtpmlcfgbfhgpgaaGreatDoor
