/- The mirrored rule of the program. -/
import Derived.Test.YthmdecgkbjdabaaRulN
namespace Go.Proofs.Ythmdecgkbjdabaa
open Go.RowKit Go.Shelf
set_option linter.unusedVariables false

/-- a block that holds a rule, whole -/
def BoxR (W : World) (g : Nat) (a b c d : Value) : Prop := W.heap[g]? = some (.cells #[a, b, c, d] 24 (0, 0))
theorem BoxR.new (W : World) (a b c d : Value) {g : Nat} (hg : W.heap.size = g) : BoxR (W.alloc (.cells #[a, b, c, d] 24)) g a b c d := by subst hg; exact World.alloc_heap_new W _
theorem BoxR.lt {W : World} {g : Nat} {a b c d : Value} (h : BoxR W g a b c d) : g < W.heap.size := (Array.getElem?_eq_some_iff.1 h).1
theorem BoxR.ext {W W' : World} {g : Nat} {a b c d : Value} (h : BoxR W g a b c d) (hx : Ext W W') : BoxR W' g a b c d := (hx.block g h.lt).trans h
theorem BoxR.c0 {W : World} {g : Nat} {a b c d : Value} (h : BoxR W g a b c d) : W.cell? ⟨g, 0, none⟩ = some a := by unfold BoxR at h; simp [World.cell?, h]
theorem BoxR.c1 {W : World} {g : Nat} {a b c d : Value} (h : BoxR W g a b c d) : W.cell? ⟨g, 1, none⟩ = some b := by unfold BoxR at h; simp [World.cell?, h]
theorem BoxR.c2 {W : World} {g : Nat} {a b c d : Value} (h : BoxR W g a b c d) : W.cell? ⟨g, 2, none⟩ = some c := by unfold BoxR at h; simp [World.cell?, h]
theorem BoxR.c3 {W : World} {g : Nat} {a b c d : Value} (h : BoxR W g a b c d) : W.cell? ⟨g, 3, none⟩ = some d := by unfold BoxR at h; simp [World.cell?, h]
theorem BoxR.frozen {W : World} {g : Nat} {a b c d : Value} (h : BoxR W g a b c d) (i : Nat) : W.frozen? ⟨g, i, none⟩ = false := by unfold BoxR at h; simp [World.frozen?, h]
theorem BoxR.set {W : World} {g : Nat} {a b c d : Value} (h : BoxR W g a b c d) (a' b' c' d' : Value) :
    BoxR ((((W.setCell ⟨g, 0, none⟩ a').setCell ⟨g, 1, none⟩ b').setCell ⟨g, 2, none⟩ c').setCell ⟨g, 3, none⟩ d') g a' b' c' d' := by
  unfold BoxR at *
  simp [World.setCell, Array.getElem?_modify, h]
theorem BoxR.set_ext {W w : World} (hx : Ext w W) {g : Nat} (hg : w.heap.size ≤ g) (a' b' c' d' : Value) :
    Ext w ((((W.setCell ⟨g, 0, none⟩ a').setCell ⟨g, 1, none⟩ b').setCell ⟨g, 2, none⟩ c').setCell ⟨g, 3, none⟩ d') :=
  (((hx.setCell hg 0 a').setCell hg 1 b').setCell hg 2 c').setCell hg 3 d'
theorem BoxR.kept {W : World} {g : Nat} {a b c d : Value} (h : BoxR W g a b c d) {B : Nat} {u : Value} {l : List Int} (ho : OInts 3 W B u l) (a' b' c' d' : Value) :
    OInts 3 ((((W.setCell ⟨g, 0, none⟩ a').setCell ⟨g, 1, none⟩ b').setCell ⟨g, 2, none⟩ c').setCell ⟨g, 3, none⟩ d') B u l := by
  refine OInts.kept (row := some g) ho (grownBy_trans_new (grownBy_trans_new (grownBy_trans_new (grownBy_set W g 0 a') (grownBy_set _ g 1 b') (fun r e => .inr e)) (grownBy_set _ g 2 c') (fun r e => .inr e)) (grownBy_set _ g 3 d') (fun r e => .inr e)) (fun r hr => ?_)
  cases hr
  exact ⟨_, h, fun cur he => by injection he with _ he; exact absurd he (by decide)⟩
theorem BoxR.kept3 {W : World} {g : Nat} {a b c d : Value} (h : BoxR W g a b c d) {B1 B2 B3 : Nat} {u1 u2 u3 : Value} {f : Int} {l1 l2 l3 : List Int} (h1 : OInts 3 W B1 u1 l1) (h2 : OInts 3 W B2 u2 l2) (h3 : OInts 3 W B3 u3 l3) (a' b' c' d' : Value) :
    RulR ((((W.setCell ⟨g, 0, none⟩ a').setCell ⟨g, 1, none⟩ b').setCell ⟨g, 2, none⟩ c').setCell ⟨g, 3, none⟩ d') u1 u2 u3 ⟨f, l1, l2, l3⟩ :=
  ⟨(h.kept h1 a' b' c' d').ints, (h.kept h2 a' b' c' d').ints, (h.kept h3 a' b' c' d').ints⟩
def mirX (x : Rul) : Rul := if validR x = 0 then ⟨x.f, x.t.reverse, x.r, x.l⟩ else ⟨0, [], [], []⟩
/-- a rule in memory and an error code -/
def RRul (x : Rul) (k : Int) (w : World) (e : Ending) (w' : World) : Prop := ∃ tv lv rv, e = .returned (.tuple #[.agg #[.int .i64 x.f, tv, lv, rv], .int .i64 k]) ∧ RulR w' tv lv rv x ∧ Ext w w'

end Go.Proofs.Ythmdecgkbjdabaa

