/- Machines: Either of the program. -/
import Derived.Test.YtodhmkbkcjpnkaaPlnP
import Derived.Test.YtodhmkbkcjpnkaaShoL
namespace Go.Proofs.Ytodhmkbkcjpnkaa
open Go.RowKit Go.Shelf
set_option linter.unusedVariables false

def mov1 (f : Int) (a : Arc) : Arc := ⟨a.f + f, a.t + f, a.i, a.o⟩
def mov0 (f : Int) (a : Arc) : Arc := ⟨0, a.t + f, a.i, a.o⟩
def eith1 (f : Int) (a : Arc) : List Arc := if a.f = 0 then [mov1 f a, mov0 f a] else [mov1 f a]
def eithX (f : Int) (l : List Arc) : List Arc := l.flatMap (eith1 f)
def eithE (f : Int) (l : List Int) : List Int := l.map fun e => e + f
def eithA (m n : Mac) : List Arc := eithX 1 m.a ++ eithX (1 + m.s) n.a
def eith0 (m n : Mac) : List Int := if hasB m.e 0 then [0] else if hasB n.e 0 then [0] else []
def eithEs (m n : Mac) : List Int := eith0 m n ++ (eithE 1 m.e ++ eithE (1 + m.s) n.e)
def eitherK (m n : Mac) : Int := if bothK m n = 0 then madeK (1 + m.s + n.s) (eithA m n) else bothK m n
def eitherM (m n : Mac) : Mac := if bothK m n = 0 then madeM (1 + m.s + n.s) (eithA m n) (eithEs m n) else ⟨0, [], []⟩
def frN (m n : Mac) (j : Nat) : Int := if j = 0 then 1 else if j = 1 then 1 + m.s else 1 + m.s + n.s
def eaN (m n : Mac) (j : Nat) : List Arc := if j = 0 then [] else if j = 1 then eithX 1 m.a else eithA m n
def eeN (m n : Mac) (j : Nat) : List Int := if j = 0 then eith0 m n else if j = 1 then eith0 m n ++ eithE 1 m.e else eithEs m n
theorem eith1_len (f : Int) (a : Arc) : (eith1 f a).length ≤ 2 := by unfold eith1; split <;> simp
theorem eithX_len (f : Int) (l : List Arc) : (eithX f l).length ≤ l.length * 2 := flat_leA (eith1 f) 2 l (eith1_len f)
theorem eith0_len (m n : Mac) : (eith0 m n).length ≤ 1 := by unfold eith0; by_cases h1 : hasB m.e 0 = true <;> by_cases h2 : hasB n.e 0 = true <;> simp [h1, h2]
theorem eithA_len {m n : Mac} (hm : MacOk m) (hn : MacOk n) : (eithA m n).length ≤ 240 := by
  have h1 := eithX_len 1 m.a
  have h2 := eithX_len (1 + m.s) n.a
  have h3 := hm.a
  have h4 := hn.a
  unfold eithA; rw [List.length_append]; omega
/-- the J-th machine of two -/
theorem eith_step {m n : Mac} (hm : MacOk m) (hn : MacOk n) {w : World} {av ev bv fv : Value} (h : MacR w av ev m) (k : MacR w bv fv n) {j : Nat} (hj : j < 2) :
    ∃ (x : Mac) (xv yv : Value) (fr : Int), MacR w xv yv x ∧ MacOk x ∧ [.int .i64 m.s, av, ev, .int .i64 n.s, bv, fv][j * 3]? = some (.int .i64 x.s) ∧ [.int .i64 m.s, av, ev, .int .i64 n.s, bv, fv][j * 3 + 1]? = some xv ∧ [.int .i64 m.s, av, ev, .int .i64 n.s, bv, fv][j * 3 + 2]? = some yv ∧
      frN m n j = fr ∧ frN m n (j + 1) = fr + x.s ∧ eaN m n (j + 1) = eaN m n j ++ eithX fr x.a ∧ eeN m n (j + 1) = eeN m n j ++ eithE fr x.e ∧ 1 ≤ fr ∧ fr ≤ 10 ∧ (eaN m n j).length ≤ 120 ∧ (eeN m n j).length ≤ 10 := by
  have h1 := hm.s1
  have h2 := hm.s2
  have h0 := eith0_len m n
  have hA := eithX_len 1 m.a
  have ha := hm.a
  have he := end_bd hm
  obtain rfl | rfl : j = 0 ∨ j = 1 := by omega
  · exact ⟨m, av, ev, 1, h, hm, rfl, rfl, rfl, rfl, rfl, by simp [eaN], rfl, by omega, by omega, by simp [eaN], by show (eith0 m n).length ≤ 10; omega⟩
  · exact ⟨n, bv, fv, 1 + m.s, k, hn, rfl, rfl, rfl, rfl, rfl, rfl, by show eithEs m n = (eith0 m n ++ eithE 1 m.e) ++ _; rw [eithEs, List.append_assoc], by omega, by omega, by show (eithX 1 m.a).length ≤ 120; omega, by show (eith0 m n ++ eithE 1 m.e).length ≤ 10; rw [List.length_append]; unfold eithE; rw [List.length_map]; omega⟩
theorem row_setN {w : World} {B n size g : Nat} {e : TypeId} {xs : List Value} {v : Value} (h : w.ownsRow B e size v n xs) (hn : v.ownBlock ≠ some g) (i : Nat) (x : Value) : (w.setCell ⟨g, i, none⟩ x).ownsRow B e size v n xs :=
  World.ownsRow.kept h (grownBy_set w g i x) (.inr hn)
structure EI (w1 w : World) (gL : Nat) (us : List Value) (gB : Nat) (vs : List Value) (t7 t8 : Value) (A : List Arc) (E : List Int) : Prop where
  ext : Ext w1 w
  lit : Blk w gL 25 us
  box : Blk w gB 25 vs
  arcs : OArcs w w1.heap.size t7 A
  all : OInts 3 w w1.heap.size t8 E
theorem EI.later {w1 w w' : World} {gL gB : Nat} {us vs : List Value} {t7 t8 : Value} {A : List Arc} {E : List Int} (h : EI w1 w gL us gB vs t7 t8 A E) (hx : Ext w w') : EI w1 w' gL us gB vs t7 t8 A E :=
  ⟨h.ext.trans hx, h.lit.ext hx, h.box.ext hx, h.arcs.ext hx, h.all.ext hx⟩
theorem EI.pushA {w1 w w' : World} {gL gB : Nat} {us vs : List Value} {t7 t7' t8 : Value} {A A' : List Arc} {E : List Int} (h : EI w1 w gL us gB vs t7 t8 A E) (hr : OArcs w' w1.heap.size t7' A') (hb : Below w1.heap.size w w') (hg : w.grownBy w' t7.ownBlock) : EI w1 w' gL us gB vs t7' t8 A' E :=
  ⟨h.ext.upto hb (Nat.le_refl _), h.lit.keptR (by decide) h.arcs hg, h.box.keptR (by decide) h.arcs hg, hr, row_keptR h.all (by decide) h.arcs hg⟩
theorem EI.pushE {w1 w w' : World} {gL gB : Nat} {us vs : List Value} {t7 t8 t8' : Value} {A : List Arc} {E E' : List Int} (h : EI w1 w gL us gB vs t7 t8 A E) (hr : OInts 3 w' w1.heap.size t8' E') (hb : Below w1.heap.size w w') (hg : w.grownBy w' t8.ownBlock) : EI w1 w' gL us gB vs t7 t8' A E' :=
  ⟨h.ext.upto hb (Nat.le_refl _), h.lit.keptR (by decide) h.all hg, h.box.keptR (by decide) h.all hg, row_keptR h.arcs (by decide) h.all hg, hr⟩
theorem blk_ne {w : World} {a b : Nat} {us vs : List Value} (h : Blk w a 25 us) (k : Blk w b 50 vs) : a ≠ b := fun e => by
  subst e
  unfold Blk at h k
  rw [h] at k
  injection k with k
  injection k with _ k
  exact absurd k (by decide)
theorem EI.set {w1 w : World} {gL gB b : Nat} {us vs ys : List Value} {t7 t8 : Value} {A : List Arc} {E : List Int} (h : EI w1 w gL us gB vs t7 t8 A E) (hb : Blk w b 50 ys) (hge : w1.heap.size ≤ b) (hn : t7.ownBlock ≠ some b) (i : Nat) (x : Value) : EI w1 (w.setCell ⟨b, i, none⟩ x) gL us gB vs t7 t8 A E :=
  ⟨h.ext.setCell hge _ _, h.lit.other (fun e => blk_ne h.lit hb e.symm) i x, h.box.other (fun e => blk_ne h.box hb e.symm) i x, row_setN h.arcs hn i x, row_setR h.all hb (by decide) i x⟩

end Go.Proofs.Ytodhmkbkcjpnkaa
