/- CellReduces: which entries are needless, and the paradigm without those that are, in new memory, agree with the reference; its forms are the same. No condition. -/
import Derived.Test.YtdgncnhmgbmpjaaLawWithout
namespace Go.Proofs.Ytdgncnhmgbmpjaa
open Go.RowKit Go.Shelf
set_option linter.unusedVariables false

theorem ite_isInts {c : Prop} [Decidable c] (a b : List Int) : (if c then isInts a else isInts b) = isInts (if c then a else b) := by split <;> rfl
theorem long_no {sizes : List Int} {es : List Ent} (h : longB sizes es = false) : es.length ≤ 1000 ∧ sizes.length ≤ 1000 ∧ ∀ i, i < es.length → (ent es i).1.length ≤ 1000 := by
  simp only [longB, Bool.or_eq_false_iff, decide_eq_false_iff_not, Bool.not_eq_false'] at h
  obtain ⟨h1, h2, h3⟩ := h
  refine ⟨by omega, by omega, fun i hi => ?_⟩
  rw [allB, List.all_eq_true] at h3
  have := h3 i (by simpa using hi)
  simp at this; omega
/-- rows of ints of one's own, of such lengths -/
def LenO (w : World) (B : Nat) (us : List Value) (ns : List (List Int)) : Prop := us.length = ns.length ∧ ∀ (i : Nat) (u : Value), us[i]? = some u → ∃ l : List Int, l.length = (ns[i]?.getD []).length ∧ OInts 3 w B u l
theorem AllO.lenO {w : World} {B : Nat} {us : List Value} {ls : List (List Int)} (h : AllO w B us ls) : LenO w B us ls := ⟨h.1, fun i u hu => ⟨_, rfl, h.2 i u hu⟩⟩
theorem OInts.write {w : World} {B r i : Nat} {u : Value} {l : List Int} {x : Int} (h : OInts 3 w B u l) : ∃ l', l'.length = l.length ∧ OInts 3 (w.setCell ⟨r, i, none⟩ (.int .i64 x)) B u l' := by
  by_cases hr : u.ownBlock = some r
  · rcases h.2 with ⟨rfl, _⟩ | ⟨g, cap, cur, rfl, hg, hh, hnc, hm, hcs, ht⟩
    · cases hr
    · simp only [Value.ownBlock, Option.some.injEq] at hr; subst hr
      by_cases hi : i < l.length
      · refine ⟨l.set i x, by simp, ?_⟩
        have := ownsRow_set (i := i) h (by simpa using hi) (.int .i64 x)
        unfold OInts
        rw [List.length_set, show Go.Proofs.Ytdgncnhmgbmpjaa.ints (l.set i x) = (Go.Proofs.Ytdgncnhmgbmpjaa.ints l).set i (.int .i64 x) from by simp [Go.Proofs.Ytdgncnhmgbmpjaa.ints, List.map_set]]; exact this
      · refine ⟨l, rfl, h.1, .inr ⟨g, cap, cur.setIfInBounds i (.int .i64 x), rfl, hg, ?_, hnc, hm, by simpa using hcs, ?_⟩⟩
        · simp [World.setCell, Array.getElem?_modify, hh]
        · rw [Array.toList_setIfInBounds, List.take_set_of_le (by omega), ht]
  · exact ⟨l, rfl, World.ownsRow.kept h (grownBy_set w r i _) (.inr hr)⟩
structure SpW (B g : Nat) (sv ev : Value) (us : List Value) (es : List Ent) (wc wr : World) : Prop where
  box : BoxP wr g sv ev
  row : wr.ownsRow B 42 2 ev es.length (eCells us es)
  len : LenO wr B us (es.map Prod.fst)
  ext : Ext wc wr
theorem SpW.at_ {B g : Nat} {sv ev : Value} {us : List Value} {es : List Ent} {wc wr : World} (h : SpW B g sv ev us es wc wr) {k : Nat} (hk : k < es.length) :
    ∃ ge cap u, ∃ l : List Int, ev = .slice (some ⟨ge, 0, none⟩) es.length cap ∧ es.length ≤ cap ∧ cap ≤ 9223372036854775807 ∧ wr.cell? ⟨ge, k * 2, none⟩ = some u ∧ us[k]? = some u ∧ l.length = (ent es k).1.length ∧ OInts 3 wr B u l := by
  have hul : us.length = es.length := by rw [h.len.1]; simp
  have hl := h.row.1
  rcases h.row.2 with ⟨_, h0⟩ | ⟨ge, cap, cur, rfl, hg, hh, hnc, hm, hcs, ht⟩
  · omega
  · obtain ⟨l, h1, h2⟩ := h.len.2 k us[k] (List.getElem?_eq_getElem (by omega))
    refine ⟨ge, cap, us[k], l, rfl, hnc, hm, ?_, List.getElem?_eq_getElem (by omega), by rw [h1, map_fst_get], h2⟩
    rw [h.row.cellAt (k * 2) (by omega), eCells_spec us es k hul, List.getElem?_eq_getElem (by omega)]
theorem SpW.write {B g r i : Nat} {sv ev : Value} {us : List Value} {es : List Ent} {wc wr : World} (h : SpW B g sv ev us es wc wr) (hB : wc.heap.size ≤ r) (hr : ∀ x, some r = some x → ∃ cur, wr.heap[x]? = some (.cells cur 3 (0, 0))) (x : Int) :
    SpW B g sv ev us es wc (wr.setCell ⟨r, i, none⟩ (.int .i64 x)) := by
  obtain ⟨cur, hh⟩ := hr r rfl
  refine ⟨h.box.kept (grownBy_set wr r i _) (fun e => ?_), World.ownsRow.kept h.row (grownBy_set wr r i _) ?_, ⟨h.len.1, fun k u hu => ?_⟩, h.ext.setCell hB i _⟩
  · injection e with e; subst e
    have := h.box; rw [BoxP, hh] at this; injection this with this; injection this with _ this; exact absurd this (by decide)
  · rcases h.row.2 with ⟨rfl, _⟩ | ⟨g', cap, cur', rfl, _, hgb, _⟩
    · exact .inl rfl
    · refine .inr fun he => ?_
      simp only [Value.ownBlock, Option.some.injEq] at he; subst he
      rw [hh] at hgb; injection hgb with hgb; injection hgb with _ hgb; exact absurd hgb (by decide)
  · obtain ⟨l, h1, h2⟩ := h.len.2 k u hu
    obtain ⟨l', h3, h4⟩ := h2.write (r := r) (i := i) (x := x)
    exact ⟨l', h3.trans h1, h4⟩
theorem OInts.spot {w : World} {B : Nat} {u : Value} {l : List Int} (h : OInts 3 w B u l) {i : Nat} (hi : i < l.length) : ∃ r cap, u = .slice (some ⟨r, 0, none⟩) l.length cap ∧ l.length ≤ cap ∧ cap ≤ 9223372036854775807 ∧ B ≤ r ∧ (∃ cur, w.heap[r]? = some (.cells cur 3 (0, 0))) ∧
    w.cell? ⟨r, i, none⟩ = some (.int .i64 (l[i]?.getD 0)) ∧ w.frozen? ⟨r, i, none⟩ = false := by
  rcases h.2 with ⟨_, h0⟩ | ⟨g, cap, cur, rfl, hg, hh, hnc, hm, hcs, ht⟩
  · omega
  · refine ⟨g, cap, rfl, hnc, hm, hg, ⟨cur, hh⟩, ?_, ?_⟩
    · rw [World.ownsRow.cellAt (show w.ownsRow B 3 1 (.slice (some ⟨g, 0, none⟩) l.length cap) l.length (Go.Proofs.Ytdgncnhmgbmpjaa.ints l) from ⟨by simp, .inr ⟨g, cap, cur, rfl, hg, hh, hnc, hm, hcs, ht⟩⟩) i (by simpa using hi), ints_get l i hi]
    · simp [World.frozen?, hh]

end Go.Proofs.Ytdgncnhmgbmpjaa

