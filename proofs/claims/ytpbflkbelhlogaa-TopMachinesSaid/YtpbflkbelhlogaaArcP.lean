/- Arcs in order, each once: plain; no program in sight. -/
import Derived.Test.YtpbflkbelhlogaaArcS
namespace Go.Proofs.Ytpbflkbelhlogaa
open Go.RowKit Go.Shelf
set_option linter.unusedVariables false
def LtA (x y : Arc) : Prop := x.f < y.f ∨ (x.f = y.f ∧ (x.t < y.t ∨ (x.t = y.t ∧ (x.i < y.i ∨ (x.i = y.i ∧ x.o < y.o)))))
instance (x y : Arc) : Decidable (LtA x y) := by unfold LtA; exact inferInstance
theorem cmpI_cases (x y : Int) : (x < y ∧ cmpI x y = -1) ∨ (x = y ∧ cmpI x y = 0) ∨ (y < x ∧ cmpI x y = 1) := by
  unfold cmpI
  by_cases h : x < y
  · rw [if_pos h]; exact .inl ⟨h, rfl⟩
  · rw [if_neg h]
    by_cases h2 : y < x
    · rw [if_pos h2]; exact .inr (.inr ⟨h2, rfl⟩)
    · rw [if_neg h2]; exact .inr (.inl ⟨by omega, rfl⟩)
theorem cmpA_lt (x y : Arc) : cmpA x y < 0 ↔ LtA x y := by
  unfold cmpA orL LtA
  rcases cmpI_cases x.f y.f with ⟨h1, e1⟩ | ⟨h1, e1⟩ | ⟨h1, e1⟩ <;> rw [e1]
  · simp; omega
  · rcases cmpI_cases x.t y.t with ⟨h2, e2⟩ | ⟨h2, e2⟩ | ⟨h2, e2⟩ <;> rw [e2]
    · simp; omega
    · rcases cmpI_cases x.i y.i with ⟨h3, e3⟩ | ⟨h3, e3⟩ | ⟨h3, e3⟩ <;> rw [e3]
      · simp; omega
      · rcases cmpI_cases x.o y.o with ⟨h4, e4⟩ | ⟨h4, e4⟩ | ⟨h4, e4⟩ <;> rw [e4] <;> simp <;> omega
      · simp; omega
    · simp; omega
  · simp; omega
theorem LtA.irrefl (x : Arc) : ¬ LtA x x := by unfold LtA; omega
theorem LtA.trans {x y z : Arc} (h1 : LtA x y) (h2 : LtA y z) : LtA x z := by unfold LtA at *; omega
theorem LtA.asymm {x y : Arc} (h1 : LtA x y) : ¬ LtA y x := fun h => LtA.irrefl x (h1.trans h)
theorem LtA.tri (x y : Arc) : LtA x y ∨ x = y ∨ LtA y x := by
  obtain ⟨a, b, c, d⟩ := x
  obtain ⟨a', b', c', d'⟩ := y
  unfold LtA
  simp only [Arc.mk.injEq]
  omega
theorem LtA.ntrans {x y z : Arc} (h1 : ¬ LtA x y) (h2 : ¬ LtA y z) : ¬ LtA x z := by unfold LtA at *; omega
theorem ltOf_A (x y : Arc) : ltOf cmpA x y = decide (LtA x y) := by
  unfold ltOf
  rw [Bool.eq_iff_iff, decide_eq_true_iff, decide_eq_true_iff]; exact cmpA_lt x y
theorem swoA : Go.Sort.SWO (ltOf cmpA) where
  irrefl x := by rw [ltOf_A]; simpa using LtA.irrefl x
  trans x y z h1 h2 := by rw [ltOf_A] at *; simp only [decide_eq_true_iff] at *; exact h1.trans h2
  ntrans x y z h1 h2 := by rw [ltOf_A] at *; simp only [decide_eq_false_iff_not] at *; exact LtA.ntrans h1 h2
/-! ## strictly ascending lists are told by their elements -/
theorem asc_uniq : ∀ {a b : List Arc}, a.Pairwise LtA → b.Pairwise LtA → (∀ x, x ∈ a ↔ x ∈ b) → a = b
  | [], [], _, _, _ => rfl
  | [], y :: b, _, _, h => by have := (h y).2 (by simp); cases this
  | x :: a, [], _, _, h => by have := (h x).1 (by simp); cases this
  | x :: a, y :: b, ha, hb, h => by
    rw [List.pairwise_cons] at ha hb
    have hxy : x = y := by
      rcases List.mem_cons.1 ((h x).1 (by simp)) with e | e
      · exact e
      · rcases List.mem_cons.1 ((h y).2 (by simp)) with e2 | e2
        · exact e2.symm
        · exact absurd (ha.1 y e2) (LtA.asymm (hb.1 x e))
    subst hxy
    rw [asc_uniq ha.2 hb.2 fun z => ?_]
    have hz := h z
    constructor
    · intro hm
      rcases List.mem_cons.1 (hz.1 (by simp [hm])) with e | e
      · subst e; exact absurd (ha.1 _ hm) (LtA.irrefl _)
      · exact e
    · intro hm
      rcases List.mem_cons.1 (hz.2 (by simp [hm])) with e | e
      · subst e; exact absurd (hb.1 _ hm) (LtA.irrefl _)
      · exact e
/-! ## neighbors that are equal, once -/
def ddK (l : List Arc) (j : Nat) : Bool := j == 0 || !(arcA l j == arcA l (j - 1))
def ddTo (l : List Arc) (j : Nat) : List Arc := ((List.range j).filter (ddK l)).map (arcA l)
theorem ddTo_next (l : List Arc) (j : Nat) : ddTo l (j + 1) = if ddK l j then ddTo l j ++ [arcA l j] else ddTo l j := by
  unfold ddTo
  rw [List.range_succ, List.filter_append, List.map_append]
  cases h : ddK l j <;> simp [h]
theorem ddTo_len (l : List Arc) : ∀ j, (ddTo l j).length ≤ j := fun j => by
  unfold ddTo
  rw [List.length_map]
  have := List.length_filter_le (ddK l) (List.range j)
  simpa using this
/-- ascending, equals side by side -/
def AscW (l : List Arc) : Prop := ∀ i j, i < j → j < l.length → ¬ LtA (arcA l j) (arcA l i)
theorem dd_asc {l : List Arc} (h : AscW l) : (ddTo l l.length).Pairwise LtA := by
  unfold ddTo
  rw [List.pairwise_map]
  refine List.Pairwise.imp_of_mem (R := fun a b => a < b) ?_ ((List.pairwise_lt_range (n := l.length)).filter _)
  intro i j hi hj hij
  have hj1 := List.mem_filter.1 hj
  have hjl : j < l.length := by simpa using hj1.1
  have hk := hj1.2
  unfold ddK at hk
  have hne : arcA l j ≠ arcA l (j - 1) := by
    intro e
    rw [e] at hk
    simp at hk
    omega
  rcases LtA.tri (arcA l i) (arcA l j) with h1 | h1 | h1
  · exact h1
  · exfalso
    have h2 := h (j - 1) j (by omega) hjl
    rcases LtA.tri (arcA l (j - 1)) (arcA l j) with h3 | h3 | h3
    · by_cases e : i = j - 1
      · subst e; exact hne h1.symm
      · have h4 := h i (j - 1) (by omega) (by omega)
        rw [h1] at h4
        exact h4 h3
    · exact hne h3.symm
    · exact h2 h3
  · exact absurd h1 (h i j hij hjl)
theorem dd_mem {l : List Arc} (x : Arc) : x ∈ ddTo l l.length ↔ x ∈ l := by
  unfold ddTo
  rw [List.mem_map]
  constructor
  · rintro ⟨j, hj, rfl⟩
    have hjl : j < l.length := by simpa using (List.mem_filter.1 hj).1
    unfold arcA
    rw [List.getElem?_eq_getElem hjl]; exact List.getElem_mem hjl
  · intro hx
    obtain ⟨j, hj, rfl⟩ := List.mem_iff_getElem.1 hx
    have key : ∀ j, j < l.length → ∃ i, i ∈ (List.range l.length).filter (ddK l) ∧ arcA l i = arcA l j := by
      intro j
      induction j with
      | zero => intro h; exact ⟨0, List.mem_filter.2 ⟨by simpa using h, rfl⟩, rfl⟩
      | succ j ih =>
        intro h
        cases hk : ddK l (j + 1)
        · obtain ⟨i, hi, he⟩ := ih (by omega)
          refine ⟨i, hi, ?_⟩
          unfold ddK at hk
          simp only [Bool.or_eq_false_iff, Bool.not_eq_false', beq_iff_eq, Nat.add_sub_cancel] at hk
          rw [he, hk.2]
        · exact ⟨j + 1, List.mem_filter.2 ⟨by simpa using h, hk⟩, rfl⟩
    obtain ⟨i, hi, he⟩ := key j hj
    exact ⟨i, hi, by rw [he]; simp [arcA, hj]⟩
/-! ## as the document lays an arc into a list -/
def insS (a : Arc) (p : List Arc × Bool) (x : Arc) : List Arc × Bool := if !p.2 && decide (LtA a x) then (p.1 ++ [a] ++ [x], true) else (p.1 ++ [x], p.2)
def insTo (a : Arc) (l : List Arc) (k : Nat) : List Arc × Bool := (l.take k).foldl (insS a) ([], false)
def insA (l : List Arc) (a : Arc) : List Arc := if (insTo a l l.length).2 then (insTo a l l.length).1 else (insTo a l l.length).1 ++ [a]
def putA (l : List Arc) (a : Arc) : List Arc := if l.contains a then l else insA l a
theorem ins_true (a : Arc) : ∀ (l out : List Arc), l.foldl (insS a) (out, true) = (out ++ l, true)
  | [], out => by simp
  | x :: l, out => by
    rw [List.foldl_cons, show insS a (out, true) x = (out ++ [x], true) from rfl, ins_true a l]
    simp
theorem ins_false (a : Arc) : ∀ (l out : List Arc), l.Pairwise LtA → (∀ x ∈ out, LtA x a) → out.Pairwise LtA → (∀ x ∈ out, ∀ y ∈ l, LtA x y) → a ∉ l →
    ((if (l.foldl (insS a) (out, false)).2 then (l.foldl (insS a) (out, false)).1 else (l.foldl (insS a) (out, false)).1 ++ [a]).Pairwise LtA ∧ ∀ z, z ∈ (if (l.foldl (insS a) (out, false)).2 then (l.foldl (insS a) (out, false)).1 else (l.foldl (insS a) (out, false)).1 ++ [a]) ↔ z ∈ out ∨ z = a ∨ z ∈ l)
  | [], out, _, h1, h2, _, _ => by
    simp only [List.foldl_nil, Bool.false_eq_true, if_false]
    refine ⟨List.pairwise_append.2 ⟨h2, by simp, fun x hx y hy => ?_⟩, fun z => by simp⟩
    rw [List.mem_singleton] at hy; subst hy; exact h1 x hx
  | x :: l, out, hl, h1, h2, h3, hn => by
    rw [List.pairwise_cons] at hl
    have hax : a ≠ x := fun e => hn (by simp [e])
    rw [List.foldl_cons]
    by_cases hlt : LtA a x
    · rw [show insS a (out, false) x = (out ++ [a] ++ [x], true) by unfold insS; rw [if_pos (by simpa using hlt)], ins_true]
      simp only [if_true]
      refine ⟨?_, fun z => by simp⟩
      rw [List.append_assoc, List.append_assoc]
      refine List.pairwise_append.2 ⟨h2, ?_, fun u hu y hy => ?_⟩
      · show (a :: x :: l).Pairwise LtA
        rw [List.pairwise_cons, List.pairwise_cons]
        refine ⟨fun y hy => ?_, hl⟩
        rcases List.mem_cons.1 hy with rfl | hy
        · exact hlt
        · exact hlt.trans (hl.1 y hy)
      · have : y = a ∨ y ∈ x :: l := by simpa using hy
        rcases this with rfl | hy
        · exact h1 u hu
        · exact h3 u hu y hy
    · have hxa : LtA x a := by
        rcases LtA.tri x a with h | h | h
        · exact h
        · exact absurd h.symm hax
        · exact absurd h hlt
      rw [show insS a (out, false) x = (out ++ [x], false) by unfold insS; rw [if_neg (by simpa using hlt)]]
      obtain ⟨h4, h5⟩ := ins_false a l (out ++ [x]) hl.2 (fun u hu => by
        rcases List.mem_append.1 hu with hu | hu
        · exact h1 u hu
        · rw [List.mem_singleton] at hu; subst hu; exact hxa) (List.pairwise_append.2 ⟨h2, by simp, fun u hu y hy => by rw [List.mem_singleton] at hy; subst hy; exact h3 u hu _ (by simp)⟩)
        (fun u hu y hy => by
          rcases List.mem_append.1 hu with hu | hu
          · exact h3 u hu y (by simp [hy])
          · rw [List.mem_singleton] at hu; subst hu; exact hl.1 y hy) (fun h => hn (by simp [h]))
      exact ⟨h4, fun z => by
        rw [h5 z, List.mem_append, List.mem_singleton, List.mem_cons]
        constructor
        · rintro ((e | e) | e | e)
          · exact .inl e
          · exact .inr (.inr (.inl e))
          · exact .inr (.inl e)
          · exact .inr (.inr (.inr e))
        · rintro (e | e | e | e)
          · exact .inl (.inl e)
          · exact .inr (.inl e)
          · exact .inl (.inr e)
          · exact .inr (.inr e)⟩
theorem put_asc {l : List Arc} (h : l.Pairwise LtA) (a : Arc) : (putA l a).Pairwise LtA ∧ ∀ z, z ∈ putA l a ↔ z = a ∨ z ∈ l := by
  unfold putA
  by_cases hc : l.contains a = true
  · rw [if_pos hc]
    rw [List.contains_iff_mem] at hc
    exact ⟨h, fun z => ⟨fun hz => .inr hz, fun hz => by
      rcases hz with rfl | hz
      · exact hc
      · exact hz⟩⟩
  · rw [if_neg hc]
    rw [List.contains_iff_mem] at hc
    have := ins_false a l [] h (fun x hx => by cases hx) List.Pairwise.nil (fun x hx => by cases hx) hc
    unfold insA insTo
    rw [List.take_length]
    exact ⟨this.1, fun z => by rw [this.2 z]; simp⟩
def arcsU (l : List Arc) : List Arc := l.foldl putA []
theorem putF_asc : ∀ (l U : List Arc), U.Pairwise LtA → (l.foldl putA U).Pairwise LtA ∧ ∀ z, z ∈ l.foldl putA U ↔ z ∈ U ∨ z ∈ l
  | [], U, h => ⟨h, fun z => by simp⟩
  | a :: l, U, h => by
    obtain ⟨h1, h2⟩ := put_asc h a
    obtain ⟨h3, h4⟩ := putF_asc l (putA U a) h1
    rw [List.foldl_cons]
    refine ⟨h3, fun z => ?_⟩
    rw [h4 z, h2 z, List.mem_cons]
    constructor
    · rintro ((h | h) | h) <;> simp [h]
    · rintro (h | h | h) <;> simp [h]
theorem arcsU_asc (l : List Arc) : (arcsU l).Pairwise LtA := (putF_asc l [] List.Pairwise.nil).1
theorem arcsU_mem (l : List Arc) (z : Arc) : z ∈ arcsU l ↔ z ∈ l := by
  have := (putF_asc l [] List.Pairwise.nil).2 z
  unfold arcsU; rw [this]; simp
/-- sorted, and equal neighbors once: the document's list -/
theorem dd_arcsU {l s : List Arc} (hp : s.Perm l) (hs : AscW s) : ddTo s s.length = arcsU l :=
  asc_uniq (dd_asc hs) (arcsU_asc l) fun x => by rw [dd_mem, arcsU_mem, hp.mem_iff]
end Go.Proofs.Ytpbflkbelhlogaa
