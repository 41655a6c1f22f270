/- What stays while the search's chain is read back. -/
import Derived.Test.YtpbflkbelhlogaaMacU
import Derived.Test.YtpbflkbelhlogaaOSet
namespace Go.Proofs.Ytpbflkbelhlogaa
open Go.RowKit Go.Shelf
set_option linter.unusedVariables false

def lcells (l : Lst) : List Value := [.int .i64 l.fr.1, .int .i64 l.fr.2.1, .bool l.fr.2.2, .int .i64 l.i, .int .i64 l.u, .int .i64 l.v, .bool l.fst]
structure CS (wA w : World) (r : Nat) (q : Que) (b : Nat) (lc : List Value) (rs : List (Value × List Int)) (cs : List (Nat × Int)) : Prop where
  ext : Ext wA w
  map : MapQ w r q
  blk : Blk w b 112 lc
  set : OSet w wA.heap.size rs cs
section
variable {wA w w' : World} {r : Nat} {q : Que} {b : Nat} {lc : List Value} {rs : List (Value × List Int)} {cs : List (Nat × Int)}
theorem CS.later (h : CS wA w r q b lc rs cs) (hx : Ext w w') : CS wA w' r q b lc rs cs := ⟨h.ext.trans hx, h.map.ext hx, h.blk.ext hx, h.set.later hx⟩
theorem CS.drop (h : CS wA w r q b lc rs cs) : CS wA w r q b lc rs [] := ⟨h.ext, h.map, h.blk, h.set.drop⟩
theorem CS.build (h : CS wA w r q b lc rs cs) (x : Int) : CS wA (w.alloc (.cells #[.int .i64 x] 3)) r q b lc rs ((w.heap.size, x) :: cs) :=
  ⟨h.ext.trans (Ext.alloc _ _), h.map.ext (Ext.alloc _ _), h.blk.ext (Ext.alloc _ _), h.set.build x⟩
theorem MapQ.kept {B : Nat} {v : Value} {l : List Int} (h : MapQ w r q) (ho : OInts 3 w B v l) (hg : w.grownBy w' v.ownBlock) : MapQ w' r q := by
  have hl := h.lt
  obtain ⟨arr, c, hb, he⟩ := h
  refine ⟨arr, c, (hg.block r hl (fun e => ?_)).trans hb, he⟩
  obtain ⟨cur, h1, _⟩ := ownBlock_cells ho r e.symm
  rw [hb] at h1
  injection h1 with h1
  cases h1
theorem CS.app {pre post : List (Value × List Int)} {v v' : Value} {l l' : List Int} (h : CS wA w r q b lc (pre ++ (v, l) :: post) cs) (hset : OSet w' wA.heap.size (pre ++ (v', l') :: post) cs) (ho : OInts 3 w wA.heap.size v l) (hg : w.grownBy w' v.ownBlock) : CS wA w' r q b lc (pre ++ (v', l') :: post) cs :=
  ⟨h.ext.grown hg h.ext.size (fun k hk => by obtain ⟨cur, _, h2⟩ := ownBlock_cells ho k hk; exact h2), h.map.kept ho hg, h.blk.kept (by decide) ho hg, hset⟩
theorem CS.fresh {b' : Nat} {lc' : List Value} (h : CS wA w r q b lc rs cs) (hx : Ext w w') (hb : Blk w' b' 112 lc') : CS wA w' r q b' lc' rs cs :=
  ⟨h.ext.trans hx, h.map.ext hx, hb, h.set.later hx⟩
end
def KeepB (b : Nat) (lc : List Value) (w : World) : Prop := Blk w b 112 lc
theorem OSet.nils (w : World) (B : Nat) : OSet w B [(.slice none 0 0, []), (.slice none 0 0, []), (.slice none 0 0, [])] [] :=
  ⟨fun p hp => by simp at hp; subst hp; exact OInts.nil _ _ _, by simp [Apart, Value.ownBlock], fun c hc => by simp at hc⟩
/-- a struct of seven cells is stored into a block of one's own -/
theorem Blk.store7 {w : World} {g : Nat} {ty : TypeId} {a0 a1 a2 a3 a4 a5 a6 : Value} (h : Blk w g ty [a0, a1, a2, a3, a4, a5, a6]) (b0 b1 b2 b3 b4 b5 b6 : Value) :
    Blk (((((((w.setCell ⟨g, 0, none⟩ b0).setCell ⟨g, 1, none⟩ b1).setCell ⟨g, 2, none⟩ b2).setCell ⟨g, 3, none⟩ b3).setCell ⟨g, 4, none⟩ b4).setCell ⟨g, 5, none⟩ b5).setCell ⟨g, 6, none⟩ b6) g ty [b0, b1, b2, b3, b4, b5, b6] := by
  have := ((((((h.set 0 b0).set 1 b1).set 2 b2).set 3 b3).set 4 b4).set 5 b5).set 6 b6
  simpa using this
theorem Ext.store7 {w W : World} (h : Ext w W) {g : Nat} (hg : w.heap.size ≤ g) (b0 b1 b2 b3 b4 b5 b6 : Value) :
    Ext w (((((((W.setCell ⟨g, 0, none⟩ b0).setCell ⟨g, 1, none⟩ b1).setCell ⟨g, 2, none⟩ b2).setCell ⟨g, 3, none⟩ b3).setCell ⟨g, 4, none⟩ b4).setCell ⟨g, 5, none⟩ b5).setCell ⟨g, 6, none⟩ b6) :=
  ((((((h.setCell hg 0 b0).setCell hg 1 b1).setCell hg 2 b2).setCell hg 3 b3).setCell hg 4 b4).setCell hg 5 b5).setCell hg 6 b6
end Go.Proofs.Ytpbflkbelhlogaa
