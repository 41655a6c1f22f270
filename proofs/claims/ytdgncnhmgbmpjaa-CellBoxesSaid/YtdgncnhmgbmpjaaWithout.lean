/- Walks: without, drop. -/
import Derived.Test.YtdgncnhmgbmpjaaDel
namespace Go.Proofs.Ytdgncnhmgbmpjaa
open Go.RowKit Go.Shelf
set_option linter.unusedVariables false

/-- the struct that is handed back lies in block g -/
theorem fin1 {w W : World} {g : Nat} {A B x y : Value} {S : List Int} {E : List Ent} (hrb : BoxP W g x y) (hg : w.heap.size ≤ g) (hs : OInts 3 W w.heap.size A S) (he : OEnts W w.heap.size B E) (hX : Ext w W) :
    RCopy S E w (.returned (.agg #[A, B])) ((W.setCell ⟨g, 0, none⟩ A).setCell ⟨g, 1, none⟩ B) ∧ BoxP ((W.setCell ⟨g, 0, none⟩ A).setCell ⟨g, 1, none⟩ B) g A B := by
  have h0 := hrb.set0 A
  exact ⟨⟨_, _, rfl, (hs.kept (grownBy_set W g 0 A) hrb.noInts).kept (grownBy_set _ g 1 B) h0.noInts, (he.kept (grownBy_set W g 0 A) hrb.neither).kept (grownBy_set _ g 1 B) h0.neither, (hX.setCell hg 0 A).setCell hg 1 B⟩, h0.set1 B⟩

/-! ## drop -/
theorem Ents.cells_ {w : World} {a : Option Addr} {cap : Nat} {es : List Ent} (h : Ents w (.slice a es.length cap) es) (hne : 0 < es.length) :
    ∃ b o us, a = some ⟨b, o, none⟩ ∧ AllInts w us (es.map Prod.fst) ∧ ∀ j x, (eCells us es)[j]? = some x → w.cell? ⟨b, o + j, none⟩ = some x := by
  obtain ⟨a', cap', hv, hle, hme, He⟩ := h.open_
  injection hv with ha _ hc; subst ha hc
  obtain ⟨b, o, rfl, _⟩ := He.out 0 hne
  have He' : ∀ i, i < es.length → ∃ u, w.cell? ⟨b, o + i * 2, none⟩ = some u ∧ Ints w u (ent es i).1 ∧ w.cell? ⟨b, o + i * 2 + 1, none⟩ = some (.int .i64 (ent es i).2) := fun i hi => by
    obtain ⟨b', o', he, h⟩ := He.out i hi
    injection he with he; injection he with h1 h2 _; subst h1 h2; exact h
  refine ⟨b, o, (List.range es.length).map (fun i => (w.cell? ⟨b, o + i * 2, none⟩).getD undef), rfl, ⟨by simp, fun i u hu => ?_⟩, fun j x hx => ?_⟩
  · have hi : i < es.length := by have := (List.getElem?_eq_some_iff.1 hu).1; simpa using this
    obtain ⟨v, h1, h2, _⟩ := He' i hi
    rw [List.getElem?_map, List.getElem?_range hi] at hu
    simp only [Option.map_some, h1, Option.getD_some, Option.some.injEq] at hu
    subst hu; rw [map_fst_get]; exact h2
  · have hul : ((List.range es.length).map (fun i => (w.cell? ⟨b, o + i * 2, none⟩).getD undef)).length = es.length := by simp
    have hj : j < es.length * 2 := by have := (List.getElem?_eq_some_iff.1 hx).1; rwa [eCells_len _ _ hul] at this
    rcases Nat.mod_two_eq_zero_or_one j with h | h
    · obtain ⟨q, rfl⟩ : ∃ q, j = q * 2 := ⟨j / 2, by omega⟩
      obtain ⟨v, h1, _, _⟩ := He' q (by omega)
      rw [eCells_spec _ _ _ hul, List.getElem?_map, List.getElem?_range (by omega)] at hx
      simp only [Option.map_some, h1, Option.getD_some, Option.some.injEq] at hx
      subst hx; exact h1
    · obtain ⟨q, rfl⟩ : ∃ q, j = q * 2 + 1 := ⟨j / 2, by omega⟩
      obtain ⟨v, _, _, h1⟩ := He' q (by omega)
      rw [eCells_form _ _ _ hul (by omega)] at hx
      injection hx with hx; subst hx; rw [← Nat.add_assoc]; exact h1
theorem Ents.own {w : World} {B : Nat} {v : Value} {es : List Ent} {us : List Value} (ho : w.ownsRow B 42 2 v es.length (eCells us es)) (ha : AllInts w us (es.map Prod.fst)) : Ents w v es := by
  have hul : us.length = es.length := by rw [ha.1]; simp
  have hl := ho.1
  rcases ho.2 with ⟨rfl, h0⟩ | ⟨g, cap, cur, rfl, hg, hh, hnc, hm, hcs, ht⟩
  · exact ⟨none, 0, by rw [h0], by omega, by unfold maxLen; omega, fun i hi => by omega⟩
  · refine ⟨some ⟨g, 0, none⟩, cap, rfl, hnc, hm, fun i hi => ⟨g, 0, rfl, us[i], ?_, ?_, ?_⟩⟩
    · have := ho.cellAt (i * 2) (by omega)
      rw [Nat.zero_add, this, eCells_spec us es i hul, List.getElem?_eq_getElem (by omega)]
    · have := ha.2 i us[i] (List.getElem?_eq_getElem (by omega))
      rwa [map_fst_get] at this
    · have := ho.cellAt (i * 2 + 1) (by omega)
      rw [show 0 + i * 2 + 1 = i * 2 + 1 by omega, this, eCells_form us es i hul hi]
theorem AllInts.erase {w : World} {us : List Value} {ls : List (List Int)} (h : AllInts w us ls) (i : Nat) : AllInts w (us.eraseIdx i) (ls.eraseIdx i) := by
  obtain ⟨h1, h2⟩ := h
  refine ⟨by rw [List.length_eraseIdx, List.length_eraseIdx, h1], fun j x hx => ?_⟩
  rw [List.getElem?_eraseIdx] at hx ⊢
  split at hx
  · rename_i hj; rw [if_pos hj]; exact h2 j x hx
  · rename_i hj; rw [if_neg hj]; exact h2 (j + 1) x hx
theorem eCells_one {w : World} {us : List Value} {es : List Ent} (ha : AllInts w us (es.map Prod.fst)) : ∀ u ∈ eCells us es, u.oneCell' = true := fun u hu => by
  have hul : us.length = es.length := by rw [ha.1]; simp
  obtain ⟨k, hk, he⟩ := List.mem_iff_getElem.1 hu
  have hk2 : (eCells us es)[k]? = some u := by rw [List.getElem?_eq_getElem hk, he]
  rw [eCells_len us es hul] at hk
  rcases Nat.mod_two_eq_zero_or_one k with h | h
  · obtain ⟨q, rfl⟩ : ∃ q, k = q * 2 := ⟨k / 2, by omega⟩
    rw [eCells_spec us es q hul] at hk2
    obtain ⟨_, _, rfl, _⟩ := ha.2 q u hk2; rfl
  · obtain ⟨q, rfl⟩ : ∃ q, k = q * 2 + 1 := ⟨k / 2, by omega⟩
    rw [eCells_form us es q hul (by omega)] at hk2
    injection hk2 with hk2; rw [← hk2]; rfl
theorem own_ne {w : World} {B n g : Nat} {v : Value} {xs : List Value} (h : w.ownsRow B 42 2 v n xs) (hr : ∀ r, some g = some r → ∃ o : Obj, w.heap[r]? = some o ∧ Neither o) : v.ownBlock = none ∨ v.ownBlock ≠ some g := by
  rcases h.2 with ⟨rfl, _⟩ | ⟨g', cap, cur, rfl, _, hgb, _⟩
  · exact .inl rfl
  · refine .inr fun he => ?_
    simp only [Value.ownBlock] at he
    obtain ⟨o, ho, hne⟩ := hr g' he.symm
    rw [hgb] at ho; injection ho with ho
    exact (hne cur).2 ho.symm
/-- a paradigm whose sizes are those and whose entries lie elsewhere -/
def RDrop (sv : Value) (es : List Ent) (w : World) (e : Ending) (w' : World) : Prop := ∃ ev, e = .returned (.agg #[sv, ev]) ∧ Ents w' ev es ∧ Ext w w'

def RDropRaw (sv : Value) (us : List Value) (es : List Ent) (i : Nat) (w : World) (e : Ending) (w' : World) : Prop :=
  ∃ ev, e = .returned (.agg #[sv, ev]) ∧ w'.ownsRow w.heap.size 42 2 ev (es.eraseIdx i).length (eCells (us.eraseIdx i) (es.eraseIdx i)) ∧ Ext w w'
def RDropO (sv : Value) (es : List Ent) (B : Nat) (w : World) (e : Ending) (w' : World) : Prop := ∃ ev, e = .returned (.agg #[sv, ev]) ∧ OEnts w' B ev es ∧ Ext w w'
theorem own_low {w : World} {B B' size n : Nat} {e : TypeId} {v : Value} {xs : List Value} (h : w.ownsRow B e size v n xs) (hB : B' ≤ B) : w.ownsRow B' e size v n xs := by
  refine ⟨h.1, ?_⟩
  rcases h.2 with h | ⟨g, cap, cur, h1, h2, h3⟩
  · exact .inl h
  · exact .inr ⟨g, cap, cur, h1, by omega, h3⟩
end Go.Proofs.Ytdgncnhmgbmpjaa
