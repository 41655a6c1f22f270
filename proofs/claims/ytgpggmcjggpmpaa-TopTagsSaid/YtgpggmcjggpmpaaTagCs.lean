/- A lexicon of one's own is changed: what a store leaves; Free of both packages. -/
import Derived.Test.YtgpggmcjggpmpaaTagCr
import Derived.Test.YtgpggmcjggpmpaaTagX
import Derived.Lib.SliceRun
namespace Go.Proofs.Ytgpggmcjggpmpaa
open Go.RowKit Go.Shelf
set_option linter.unusedVariables false

theorem ownsRow_notInt {w : World} {B B' size n : Nat} {e : TypeId} {v u : Value} {xs : List Value} {l : List Int} (h : w.ownsRow B e size v n xs) (hu : OInts 3 w B' u l) (he : e ≠ 3) {g : Nat} (hg : u.ownBlock = some g) : v.ownBlock = none ∨ v.ownBlock ≠ some g := by
  cases hv : v.ownBlock with
  | none => exact .inl rfl
  | some r =>
    refine .inr (fun e1 => ?_)
    injection e1 with e1; subst e1
    obtain ⟨cur, h1, _⟩ := ownBlock_cells h r hv
    obtain ⟨_, _, cur', h2⟩ := hu.blkInt hg
    rw [h1] at h2; injection h2 with h2; injection h2 with _ h2 _; exact he h2
theorem set_self {α : Type} {us : List α} {a : Nat} {u : α} (h : us[a]? = some u) : us.set a u = us := by
  obtain ⟨h1, h2⟩ := List.getElem?_eq_some_iff.1 h
  rw [← h2]; exact List.set_getElem_self h1
/-- a row of Follow is another one now -/
theorem OLexP.updF {w w' : World} {B g a : Nat} {iv fv u : Value} {l : Lex} {us vs : List Value} {l' : List Int} (h : OLexP w B iv fv l us vs) (hu : vs[a]? = some u) (hub : u.ownBlock = some g) (hg : w.grownBy w' (some g)) (ha : OInts 3 w' B u l') : OLexP w' B iv fv ⟨l.i, l.f.set a l'⟩ us vs := by
  have hal : a < vs.length := (List.getElem?_eq_some_iff.1 hu).1
  have hou := h.wf.2 a u hu
  refine ⟨h.i.kept hg (ownsRow_notInt h.i hou (by decide) hub), ?_, ?_, ?_, h.ap⟩
  · have := h.f.kept hg (ownsRow_notInt h.f hou (by decide) hub)
    show w'.ownsRow B 26 1 fv (l.f.set a l').length vs
    rw [List.length_set]; exact this
  · exact h.wi.kept hg (fun r e x hx hb => by injection e with e; subst e; exact h.ap.cross hx (List.mem_of_getElem? hu) hb hub)
  · have := h.wf.upd hg ha hal (fun i x hx hne hb => h.ap.right.at_ hx hu hne hb hub)
    rwa [set_self hu] at this
/-- a word is another one now, in the same block -/
theorem OLexP.updI {w w' : World} {B g a : Nat} {iv fv u : Value} {l : Lex} {us vs : List Value} {l' : List Int} (h : OLexP w B iv fv l us vs) (hu : us[a]? = some u) (hub : u.ownBlock = some g) (hg : w.grownBy w' (some g)) (ha : OInts 3 w' B u l') : OLexP w' B iv fv ⟨l.i.set a ⟨l', (itm l.i a).k, (itm l.i a).c⟩, l.f⟩ us vs := by
  have hal : a < us.length := (List.getElem?_eq_some_iff.1 hu).1
  have hul := h.len.1
  have hou := h.wi.2 a u hu
  refine ⟨?_, h.f.kept hg (ownsRow_notInt h.f hou (by decide) hub), ?_, ?_, h.ap⟩
  · have := h.i.kept hg (ownsRow_notInt h.i hou (by decide) hub)
    show w'.ownsRow B 28 3 iv (l.i.set a _).length (iCells us (l.i.set a _))
    rw [List.length_set, iCells_word us l.i a l' hul]; exact this
  · have := h.wi.upd hg ha hal (fun i x hx hne hb => h.ap.left.at_ hx hu hne hb hub)
    rw [set_self hu] at this
    show AllO w' B us ((l.i.set a _).map Itm.w)
    rw [List.map_set]; exact this
  · exact h.wf.kept hg (fun r e x hx hb => by injection e with e; subst e; exact h.ap.cross (List.mem_of_getElem? hu) hx hub hb)
theorem OInts.setAt {w : World} {B g cap i : Nat} {l : List Int} {x : Int} (h : OInts 3 w B (.slice (some ⟨g, 0, none⟩) l.length cap) l) (hi : i < l.length) : OInts 3 (w.setCell ⟨g, i, none⟩ (.int .i64 x)) B (.slice (some ⟨g, 0, none⟩) l.length cap) (l.set i x) := by
  have := ownsRow_set (i := i) h (by simpa using hi) (.int .i64 x)
  unfold OInts
  rw [List.length_set, show Go.Proofs.Ytgpggmcjggpmpaa.ints (l.set i x) = (Go.Proofs.Ytgpggmcjggpmpaa.ints l).set i (.int .i64 x) from by simp [Go.Proofs.Ytgpggmcjggpmpaa.ints, List.map_set]]; exact this
/-- where an element of a row lies -/
theorem OLexP.spotF {w : World} {B a : Nat} {iv fv : Value} {l : Lex} {us vs : List Value} (h : OLexP w B iv fv l us vs) (ha : a < l.f.length) (hi : 0 < (l.f[a]?.getD []).length) :
    ∃ gf cf g cg, fv = .slice (some ⟨gf, 0, none⟩) l.f.length cf ∧ l.f.length ≤ cf ∧ cf ≤ 9223372036854775807 ∧ w.cell? ⟨gf, a, none⟩ = some (.slice (some ⟨g, 0, none⟩) (l.f[a]?.getD []).length cg) ∧ (l.f[a]?.getD []).length ≤ cg ∧ cg ≤ 9223372036854775807 ∧ B ≤ g ∧
      vs[a]? = some (.slice (some ⟨g, 0, none⟩) (l.f[a]?.getD []).length cg) ∧ OInts 3 w B (.slice (some ⟨g, 0, none⟩) (l.f[a]?.getD []).length cg) (l.f[a]?.getD []) := by
  have hvl := h.len.2
  obtain ⟨u, hu⟩ : ∃ u, vs[a]? = some u := ⟨_, List.getElem?_eq_getElem (by omega)⟩
  have hou := h.wf.2 a u hu
  obtain ⟨g, cg, rfl, h1, h2, h3, _⟩ := hou.spot hi
  rcases h.f.2 with ⟨_, h0⟩ | ⟨gf, cf, cur, rfl, hgB, hh, hnc, hm, hcs, ht⟩
  · omega
  · refine ⟨gf, cf, g, cg, rfl, hnc, hm, ?_, h1, h2, h3, hu, hou⟩
    rw [h.f.cellAt a (by omega), hu]
theorem OLexP.setF {w : World} {B a i g cg : Nat} {iv fv : Value} {l : Lex} {us vs : List Value} (h : OLexP w B iv fv l us vs) (hu : vs[a]? = some (.slice (some ⟨g, 0, none⟩) (l.f[a]?.getD []).length cg)) (hi : i < (l.f[a]?.getD []).length) (x : Int) :
    OLexP (w.setCell ⟨g, i, none⟩ (.int .i64 x)) B iv fv ⟨l.i, l.f.set a ((l.f[a]?.getD []).set i x)⟩ us vs := by
  refine h.updF hu rfl (grownBy_set _ _ _ _) ?_
  exact OInts.setAt (h.wf.2 a _ hu) hi
/-- where the parts of an item lie -/
theorem OLexP.spotI {w : World} {B j : Nat} {iv fv : Value} {l : Lex} {us vs : List Value} (h : OLexP w B iv fv l us vs) (hj : j < l.i.length) :
    ∃ gi ci u, iv = .slice (some ⟨gi, 0, none⟩) l.i.length ci ∧ l.i.length ≤ ci ∧ ci ≤ 9223372036854775807 ∧ B ≤ gi ∧ us[j]? = some u ∧ OInts 3 w B u (itm l.i j).w ∧
      w.cell? ⟨gi, j * 3, none⟩ = some u ∧ w.cell? ⟨gi, j * 3 + 1, none⟩ = some (.int .i64 (itm l.i j).k) ∧ w.cell? ⟨gi, j * 3 + 2, none⟩ = some (.int .i64 (itm l.i j).c) ∧ ∀ i, w.frozen? ⟨gi, i, none⟩ = false := by
  have hul := h.len.1
  obtain ⟨u, hu⟩ : ∃ u, us[j]? = some u := ⟨_, List.getElem?_eq_getElem (by omega)⟩
  have hou := h.wi.2 j u hu
  rw [wsI_at] at hou
  rcases h.i.2 with ⟨_, h0⟩ | ⟨gi, ci, cur, rfl, hgB, hh, hnc, hm, hcs, ht⟩
  · omega
  · obtain ⟨e0, e1, e2⟩ := iCells_at us l.i j hul hj
    exact ⟨gi, ci, u, rfl, hnc, hm, hgB, hu, hou, by rw [h.i.cellAt (j * 3) (by omega), e0, hu], by rw [h.i.cellAt (j * 3 + 1) (by omega), e1], by rw [h.i.cellAt (j * 3 + 2) (by omega), e2], fun i => by simp [World.frozen?, hh]⟩
theorem OLexP.notItem {w : World} {B gi ci n : Nat} {fv : Value} {l : Lex} {us vs : List Value} (h : OLexP w B (.slice (some ⟨gi, 0, none⟩) n ci) fv l us vs) {w' : World} (hg : w.grownBy w' (some gi)) : w'.ownsRow B 26 1 fv l.f.length vs ∧ AllO w' B us (wsI l.i) ∧ AllO w' B vs l.f := by
  obtain ⟨cur, h1, _⟩ := ownBlock_cells h.i gi rfl
  refine ⟨h.f.kept hg ?_, h.wi.kept hg (fun r e => by injection e with e; subst e; exact h.wi.noInt h1 (by decide)), h.wf.kept hg (fun r e => by injection e with e; subst e; exact h.wf.noInt h1 (by decide))⟩
  cases hv : fv.ownBlock with
  | none => exact .inl rfl
  | some r =>
    refine .inr (fun e1 => ?_)
    injection e1 with e1; subst e1
    obtain ⟨cur', h2, _⟩ := ownBlock_cells h.f r hv
    rw [h1] at h2; injection h2 with h2; injection h2 with _ h2 _; exact absurd h2 (by decide)
/-- the cost of an item is another one -/
theorem OLexP.setC {w : World} {B j gi ci : Nat} {fv : Value} {l : Lex} {us vs : List Value} (h : OLexP w B (.slice (some ⟨gi, 0, none⟩) l.i.length ci) fv l us vs) (hj : j < l.i.length) (c : Int) :
    OLexP (w.setCell ⟨gi, j * 3 + 2, none⟩ (.int .i64 c)) B (.slice (some ⟨gi, 0, none⟩) l.i.length ci) fv ⟨l.i.set j ⟨(itm l.i j).w, (itm l.i j).k, c⟩, l.f⟩ us vs := by
  have hul := h.len.1
  obtain ⟨h1, h2, h3⟩ := h.notItem (grownBy_set w gi (j * 3 + 2) (.int .i64 c))
  refine ⟨?_, h1, ?_, h3, h.ap⟩
  · have := ownsRow_set (i := j * 3 + 2) h.i (by rw [iCells_len us l.i hul]; omega) (.int .i64 c)
    rw [iCells_setC us l.i j c hul hj] at this
    show World.ownsRow _ B 28 3 _ (l.i.set j _).length _
    rw [List.length_set]; exact this
  · show AllO _ B us ((l.i.set j _).map Itm.w)
    rw [List.map_set]
    have e : (l.i.map Itm.w).set j (itm l.i j).w = l.i.map Itm.w := by
      apply set_self
      rw [List.getElem?_map, List.getElem?_eq_getElem hj, itm_lt hj]; rfl
    rw [e]; exact h2
/-- the word of an item is a new list -/
theorem OLexP.setW {w : World} {B j gi ci : Nat} {fv u : Value} {l : Lex} {us vs : List Value} {l' : List Int} (h : OLexP w B (.slice (some ⟨gi, 0, none⟩) l.i.length ci) fv l us vs) (hj : j < l.i.length) (hu : OInts 3 w B u l') (hnew : ∀ x ∈ us ++ vs, ∀ r, x.ownBlock = some r → u.ownBlock ≠ some r) :
    OLexP (w.setCell ⟨gi, j * 3, none⟩ u) B (.slice (some ⟨gi, 0, none⟩) l.i.length ci) fv ⟨l.i.set j ⟨l', (itm l.i j).k, (itm l.i j).c⟩, l.f⟩ (us.set j u) vs := by
  have hul := h.len.1
  obtain ⟨cur, hc1, _⟩ := ownBlock_cells h.i gi rfl
  have hg := grownBy_set w gi (j * 3) u
  obtain ⟨h1, h2, h3⟩ := h.notItem hg
  have hu' : OInts 3 (w.setCell ⟨gi, j * 3, none⟩ u) B u l' := hu.keptB hg (fun r e hb => by
    injection e with e; subst e
    obtain ⟨_, _, cur', h4⟩ := hu.blkInt hb
    rw [hc1] at h4; injection h4 with h4; injection h4 with _ h4 _; exact absurd h4 (by decide))
  refine ⟨?_, h1, ?_, h3, ?_⟩
  · have := ownsRow_set (i := j * 3) h.i (by rw [iCells_len us l.i hul]; omega) u
    rw [iCells_setW us l.i j u l' hul hj] at this
    show World.ownsRow _ B 28 3 _ (l.i.set j _).length _
    rw [List.length_set]; exact this
  · show AllO _ B (us.set j u) ((l.i.set j _).map Itm.w)
    rw [List.map_set]
    refine ⟨by simp [hul], fun i x hx => ?_⟩
    rw [List.getElem?_set] at hx ⊢
    by_cases e : j = i
    · subst e
      rw [if_pos rfl, if_pos (by omega)] at hx
      injection hx with hx; subst hx
      rw [if_pos rfl, if_pos (by simpa using hj)]; exact hu'
    · rw [if_neg e] at hx ⊢
      exact h2.2 i x hx
  · unfold Apart
    rw [List.pairwise_iff_getElem]
    intro i k hi hk hik
    have hp := List.pairwise_iff_getElem.1 h.ap
    have hset : us.set j u ++ vs = (us ++ vs).set j u := by rw [List.set_append_left _ _ (by omega)]
    simp only [hset, List.getElem_set] at *
    have hi' : i < (us ++ vs).length := by simpa using hi
    have hk' : k < (us ++ vs).length := by simpa using hk
    by_cases e1 : j = i
    · subst e1
      simp only [if_true]
      rw [if_neg (by omega)]
      intro r hr hb
      exact hnew _ (List.getElem_mem hk') r hb hr
    · by_cases e2 : j = k
      · subst e2
        rw [if_neg (by omega)]
        simp only [if_true]
        exact fun r hr => hnew _ (List.getElem_mem hi') r hr
      · rw [if_neg e1, if_neg e2]
        exact hp i k hi' hk' hik
/-- a lexicon of the call's own and an error code come back -/
def RLexE (l : Lex) (k : Int) (w : World) (e : Ending) (w' : World) : Prop := ∃ iv fv, e = .returned (.tuple #[.agg #[iv, fv], .int .i64 k]) ∧ OLex w' w.heap.size iv fv l ∧ Ext w w'
theorem copy_bounds {l : Lex} (h : LexOk l) : (∀ j, j < l.i.length → (itm l.i j).w.length ≤ 1000) ∧ (∀ j, j < l.f.length → (l.f[j]?.getD []).length ≤ 1000) ∧ l.i.length ≤ 1000 ∧ l.f.length ≤ 1000 := by
  refine ⟨fun j hj => by have := (h.wo j hj).2; omega, fun j hj => by have := (h.ff j (by rw [h.f4] at hj; exact hj)).1; omega, by have : l.i.length ≤ 8 := h.n8; omega, by rw [h.f4]; omega⟩
end Go.Proofs.Ytgpggmcjggpmpaa
