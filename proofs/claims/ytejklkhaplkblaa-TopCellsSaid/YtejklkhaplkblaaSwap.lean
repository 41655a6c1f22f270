/- Walks: Swap, both packages. -/
import Derived.Test.YtejklkhaplkblaaAdd
import Derived.Test.YtejklkhaplkblaaPeek
namespace Go.Proofs.Ytejklkhaplkblaa
open Go.RowKit Go.Shelf
set_option linter.unusedVariables false

def swapE (es : List Ent) (a b : Nat) : List Ent := (es.set a (ent es b)).set b (ent es a)
def swS (sizes : List Int) (es : List Ent) (i j : Int) : List Int := if nK sizes es i j = 0 then sizes else []
def swE (sizes : List Int) (es : List Ent) (i j : Int) : List Ent := if nK sizes es i j = 0 then swapE es i.toNat j.toNat else []

theorem fin2 {w W : World} {g : Nat} {A B x y : Value} {S : List Int} {E : List Ent} (k : Int) (hrb : BoxP W g x y) (hg : w.heap.size ≤ g) (hs : OInts 3 W w.heap.size A S) (he : OEnts W w.heap.size B E) (hX : Ext w W) :
    RP2 S E k w (.returned (.tuple #[.agg #[A, B], .int .i64 k])) ((W.setCell ⟨g, 0, none⟩ A).setCell ⟨g, 1, none⟩ B) ∧ BoxP ((W.setCell ⟨g, 0, none⟩ A).setCell ⟨g, 1, none⟩ B) g A B := by
  have h0 := hrb.set0 A
  exact ⟨⟨_, _, rfl, (hs.kept (grownBy_set W g 0 A) hrb.noInts).kept (grownBy_set _ g 1 B) h0.noInts, (he.kept (grownBy_set W g 0 A) hrb.neither).kept (grownBy_set _ g 1 B) h0.neither, (hX.setCell hg 0 A).setCell hg 1 B⟩, h0.set1 B⟩
theorem OEnts.at_ {w : World} {B : Nat} {v : Value} {es : List Ent} (h : OEnts w B v es) {a : Nat} (ha : a < es.length) :
    ∃ g cap u, v = .slice (some ⟨g, 0, none⟩) es.length cap ∧ w.cell? ⟨g, a * 2, none⟩ = some u ∧ OInts 3 w B u (ent es a).1 ∧ w.cell? ⟨g, a * 2 + 1, none⟩ = some (.int .i64 (ent es a).2) := by
  obtain ⟨us, ho, hal⟩ := h
  have hul : us.length = es.length := by rw [hal.1]; simp
  have hl := ho.1
  rcases ho.2 with ⟨rfl, h0⟩ | ⟨g, cap, cur, rfl, hg, hh, hnc, hm, hcs, ht⟩
  · omega
  · refine ⟨g, cap, us[a], rfl, ?_, ?_, ?_⟩
    · rw [ho.cellAt (a * 2) (by omega), eCells_spec us es a hul, List.getElem?_eq_getElem (by omega)]
    · have := hal.2 a us[a] (List.getElem?_eq_getElem (by omega))
      rwa [map_fst_get] at this
    · rw [ho.cellAt (a * 2 + 1) (by omega), eCells_form us es a hul ha]
theorem OEnts.cells_ {w : World} {B g n cap : Nat} {es : List Ent} (h : OEnts w B (.slice (some ⟨g, 0, none⟩) n cap) es) {a : Nat} (ha : a < es.length) : ∃ z0 z1, w.cell? ⟨g, a * 2, none⟩ = some z0 ∧ w.cell? ⟨g, a * 2 + 1, none⟩ = some z1 := by
  obtain ⟨_, _, u, hv, h0, _, h1⟩ := h.at_ ha
  injection hv with hv; injection hv with hv; injection hv with hv; subst hv
  exact ⟨_, _, h0, h1⟩
/-- the row's block -/
def RowE (w : World) (B g : Nat) : Prop := B ≤ g ∧ g < w.heap.size ∧ (∃ cur, w.heap[g]? = some (.cells cur 53 (0, 0)))
theorem OEnts.row {w : World} {B g n cap : Nat} {es : List Ent} (h : OEnts w B (.slice (some ⟨g, 0, none⟩) n cap) es) : RowE w B g := by
  obtain ⟨us, ho, hal⟩ := h
  obtain ⟨cur, h1, h2⟩ := ownBlock_cells ho g rfl
  exact ⟨h2, (Array.getElem?_eq_some_iff.1 h1).1, cur, h1⟩
theorem RowE.noInts {w : World} {B g : Nat} (h : RowE w B g) : ∀ r, some g = some r → ∃ o : Obj, w.heap[r]? = some o ∧ ∀ cur, o ≠ .cells cur 3 (0, 0) := fun r hr => by
  injection hr with hr; subst hr
  obtain ⟨_, _, cur, h1⟩ := h
  exact ⟨_, h1, fun cur' he => by injection he with _ he; exact absurd he (by decide)⟩
theorem RowE.frozen {w : World} {B g : Nat} (h : RowE w B g) (i : Nat) : w.frozen? ⟨g, i, none⟩ = false := by
  obtain ⟨_, _, cur, h1⟩ := h
  simp [World.frozen?, h1]
theorem RowE.set {w : World} {B g : Nat} (h : RowE w B g) (i : Nat) (v : Value) : RowE (w.setCell ⟨g, i, none⟩ v) B g := by
  obtain ⟨h1, h2, cur, h3⟩ := h
  exact ⟨h1, by simpa using h2, cur.setIfInBounds i v, by simp [World.setCell, Array.getElem?_modify, h3]⟩
theorem RowE.ne {w : World} {B g c : Nat} {a b : Value} (h : RowE w B g) (hb : BoxP w c a b) : g ≠ c := fun e => by
  subst e
  obtain ⟨_, _, cur, h3⟩ := h
  rw [BoxP, h3] at hb; injection hb with hb; injection hb with _ hb; exact absurd hb (by decide)
/-- an entry is written over -/
theorem OEnts.put {w : World} {B g n cap : Nat} {es : List Ent} (h : OEnts w B (.slice (some ⟨g, 0, none⟩) n cap) es) {a : Nat} (ha : a < es.length) {u : Value} {l : List Int} {f : Int} (hu : OInts 3 w B u l) :
    OEnts ((w.setCell ⟨g, a * 2, none⟩ u).setCell ⟨g, a * 2 + 1, none⟩ (.int .i64 f)) B (.slice (some ⟨g, 0, none⟩) n cap) (es.set a (l, f)) := by
  have hrow := h.row
  have hrow2 := hrow.set (a * 2) u
  obtain ⟨us, ho, hal⟩ := h
  have hul : us.length = es.length := by rw [hal.1]; simp
  have hn : n = es.length := by
    rcases ho.2 with ⟨h, _⟩ | ⟨_, _, _, hv, _⟩
    · cases h
    · injection hv
  subst hn
  have hlen := eCells_len us es hul
  refine ⟨us.set a u, ?_, ?_⟩
  · rw [eCells_set us es a u (l, f) hul, List.length_set]
    exact ownsRow_set (ownsRow_set ho (by omega) u) (by simp; omega) _
  · rw [List.map_set]
    exact ((hal.kept (grownBy_set w g _ u) hrow.noInts).kept (grownBy_set _ g _ _) hrow2.noInts).set ((hu.kept (grownBy_set w g _ u) hrow.noInts).kept (grownBy_set _ g _ _) hrow2.noInts)
theorem OInts.set2 {w : World} {B B' g : Nat} {v u x : Value} {l : List Int} {i j : Nat} (h : OInts 3 w B v l) (hr : RowE w B' g) : OInts 3 ((w.setCell ⟨g, i, none⟩ u).setCell ⟨g, j, none⟩ x) B v l :=
  (h.kept (grownBy_set w g i u) hr.noInts).kept (grownBy_set _ g j x) (hr.set i u).noInts
theorem BoxP.set2 {w : World} {B' g c : Nat} {a b u x : Value} {i j : Nat} (h : BoxP w c a b) (hr : RowE w B' g) : BoxP ((w.setCell ⟨g, i, none⟩ u).setCell ⟨g, j, none⟩ x) c a b :=
  have hne : some g ≠ some c := fun e => by injection e with e; exact hr.ne h e
  (h.kept (grownBy_set w g i u) hne).kept (grownBy_set _ g j x) hne

/-- a box with an entry -/
def BoxX (W : World) (g : Nat) (a b : Value) : Prop := W.heap[g]? = some (.cells #[a, b] 53 (0, 0))
theorem BoxX.new (W : World) (a b : Value) {g : Nat} (hg : W.heap.size = g) : BoxX (W.alloc (.cells #[a, b] 53)) g a b := by subst hg; exact World.alloc_heap_new W _
theorem BoxX.lt {W : World} {g : Nat} {a b : Value} (h : BoxX W g a b) : g < W.heap.size := (Array.getElem?_eq_some_iff.1 h).1
theorem BoxX.ext {W W' : World} {g : Nat} {a b : Value} (h : BoxX W g a b) (hx : Ext W W') : BoxX W' g a b := (hx.block g h.lt).trans h
theorem BoxX.kept {W W' : World} {g : Nat} {a b : Value} {row : Option Nat} (h : BoxX W g a b) (hg : W.grownBy W' row) (hr : row ≠ some g) : BoxX W' g a b := (hg.block g h.lt (fun e => hr e.symm)).trans h
theorem BoxX.c0 {W : World} {g : Nat} {a b : Value} (h : BoxX W g a b) : W.cell? ⟨g, 0, none⟩ = some a := by unfold BoxX at h; simp [World.cell?, h]
theorem BoxX.c1 {W : World} {g : Nat} {a b : Value} (h : BoxX W g a b) : W.cell? ⟨g, 1, none⟩ = some b := by unfold BoxX at h; simp [World.cell?, h]
theorem BoxX.frozen {W : World} {g : Nat} {a b : Value} (h : BoxX W g a b) (i : Nat) : W.frozen? ⟨g, i, none⟩ = false := by unfold BoxX at h; simp [World.frozen?, h]
theorem BoxX.set01 {W : World} {g : Nat} {a b : Value} (h : BoxX W g a b) (x y : Value) : BoxX ((W.setCell ⟨g, 0, none⟩ x).setCell ⟨g, 1, none⟩ y) g x y := by
  unfold BoxX at *
  simp [World.setCell, Array.getElem?_modify, h]
theorem BoxX.other {W : World} {g c : Nat} {a b : Value} (h : BoxX W g a b) (hne : c ≠ g) (i j : Nat) (x y : Value) : BoxX ((W.setCell ⟨c, i, none⟩ x).setCell ⟨c, j, none⟩ y) g a b :=
  have hn : some c ≠ some g := fun e => by injection e with e; exact hne e
  (h.kept (grownBy_set W c i x) hn).kept (grownBy_set _ c j y) hn

set_option maxHeartbeats 2000000 in
set_option maxRecDepth 100000 in
theorem Swap_c (sv ev : Value) (sizes : List Int) (es : List Ent) (i j : Int) (w : World) (hp : Par w sv ev sizes es) :
    Calls Try.prog 18 #[.agg #[sv, ev], .int .i64 i, .int .i64 j] w (RP2 (swS sizes es i j) (swE sizes es i j) (nK sizes es i j) w) := by
  have HP := Lib.hid hp
  clear hp
  obtain ⟨wA, hwA⟩ : ∃ wA, wA = ((w.alloc (.cells #[sv, ev] 25)).alloc (.cells #[.slice none 0 0, .slice none 0 0] 25)).alloc (.cells #[.int .i64 i, .int .i64 j] 3) := ⟨_, rfl⟩
  have hE0 : Ext w wA := by rw [hwA]; exact ((Ext.alloc _ _).trans (Ext.alloc _ _)).trans (Ext.alloc _ _)
  have hz1 : BoxP wA w.heap.size sv ev := by rw [hwA]; exact ((BoxP.new w _ _ rfl).ext (Ext.alloc _ _)).ext (Ext.alloc _ _)
  have hz2 : BoxP wA (w.heap.size + 1) (.slice none 0 0) (.slice none 0 0) := by rw [hwA]; exact (BoxP.new _ _ _ (by simp)).ext (Ext.alloc _ _)
  have hb0 := hz1.c0
  have hb1 := hz1.c1
  have HNB := Lib.hid (show Calls Try.prog 45 #[.agg #[sv, ev], .slice (some ⟨w.heap.size + 1 + 1, 0, none⟩) 2 2] wA (RV (.int .i64 (nK sizes es i j)) wA) by
    rw [← numsI_two]; exact numbered_c sv ev _ sizes es [i, j] _ (HP.out.ext hE0) (by rw [hwA]; exact ints_two (by simp)))
  have HW := Lib.hid hwA; clear hwA hz1
  by_cases h0 : nK sizes es i j = 0
  · obtain ⟨V, a, b, rfl, rfl, hai, hbj⟩ := nK_zero h0
    rw [show swS sizes es a b = sizes by rw [swS, if_pos h0], show swE sizes es a b = swapE es a b by rw [swE, if_pos h0]; rfl]
    rw [h0] at HNB
    rw [h0]
    have HCP := Lib.hid (fun W (h : Ext w W) => copied_c sv ev sizes es W (HP.out.ext h) (by have := V.n; omega) (by have := V.ok.2.1; omega) (fun i hi => by rw [V.len i hi]; have := V.ok.2.1; omega))
    have hen := V.n
    clear h0 V
    go_enter Try.func18, Try.ntmps18
    go_wp2_with fail
    rw [← HW.out]
    refine HNB.out.mono ?_; rintro e w1 ⟨rfl, hB⟩
    have hb0 := hB.keep hb0
    have hb1 := hB.keep hb1
    have hX := hE0.trans hB
    have hs1 := hX.size
    go_wp2_with fail
    refine (HCP.out w1 hX).mono ?_; rintro e w2 ⟨sv2, ev2, rfl, hov, hoe, hx2⟩
    obtain ⟨a2, c2, rfl, _⟩ := hov.ints.open_
    have hoe := OEnts.low hoe (show w.heap.size ≤ w1.heap.size by omega)
    have hov := OInts.low hov (show w.heap.size ≤ w1.heap.size by omega)
    obtain ⟨g, cap, ua, rfl, hca, hoa, hfa⟩ := hoe.at_ hai
    obtain ⟨_, _, ub, hg, hcb, hob, hfb⟩ := hoe.at_ hbj
    injection hg with hg _ hg2; injection hg with hg; injection hg with hg; subst hg hg2
    obtain ⟨xa, ya, rfl, _⟩ := hoa.ints.open_
    obtain ⟨xb, yb, rfl, _⟩ := hob.ints.open_
    generalize hna : (ent es a).1.length = na at *
    generalize hnb : (ent es b).1.length = nb at *
    clear hna hnb
    have hrow := hoe.row
    have hA3 := Ext.alloc w2 (.cells #[.slice a2 sizes.length c2, .slice (some ⟨g, 0, none⟩) es.length cap] 25)
    have hbox := BoxP.new w2 (.slice a2 sizes.length c2) (.slice (some ⟨g, 0, none⟩) es.length cap) rfl
    have hrb := ((hz2.ext hB).ext hx2).ext hA3
    have hX3 := (hX.trans hx2).trans hA3
    have hs2 := hx2.size
    go_wp2_with fail
    have hE5 : Ext w2 (w2.alloc (.cells #[.slice a2 sizes.length c2, .slice (some ⟨g, 0, none⟩) es.length cap] 25)) := hA3
    have hca := hA3.keep hca
    have hcb := hA3.keep hcb
    have hfa := hA3.keep hfa
    have hfb := hA3.keep hfb
    have hoe := OEnts.ext hoe hA3
    have hov := OInts.ext hov hA3
    have hoa := OInts.ext hoa hA3
    have hob := OInts.ext hob hA3
    have hrow := hoe.row
    generalize (w2.alloc (.cells #[.slice a2 sizes.length c2, .slice (some ⟨g, 0, none⟩) es.length cap] 25)) = W5 at *
    refine wp_region_peek (Ext W5) (fun W => BoxP W w2.heap.size (.slice a2 sizes.length c2) (.slice (some ⟨g, 0, none⟩) es.length cap)) [17, 19] [.peek 0, .peek 1, .peek 2, .peek 3, .peek 4, .peek 5, .peek 6, .peek 7, .peek 8, .peek 9, .look 10, .peek 11, .peek 12, .peek 13, .peek 14, .look 15, .peek 16, .go 17, .peek 18, .go 19] (by kernel_rfl) (by kernel_rfl) (by intro c a d v w h; cases d <;> exact h) ?_
    have hd : Ext W5 { W5 with drawn := W5.drawn + 1 } := drawn_ext W5
    have hbd := hbox.ext hd
    have q0 := fun s : InC (fun W => BoxP W w2.heap.size (.slice a2 sizes.length c2) (.slice (some ⟨g, 0, none⟩) es.length cap)) => s.h.c1
    have q1 := fun s : InC (Ext W5) => s.h.keep hca
    have q2 := fun s : InC (Ext W5) => s.h.keep hcb
    have q3 := fun s : InC (Ext W5) => s.h.keep hfa
    have q4 := fun s : InC (Ext W5) => s.h.keep hfb
    generalize { W5 with drawn := W5.drawn + 1 } = W1 at *
    (refine wpPeek_peek rfl ‹_› (fun K hK => ?_); go_simp; first | (refine hK _ ?_; clear hK K) | (refine ⟨_, fun _ => rfl, hK _ ?_⟩; clear hK K))
    (refine wpPeek_peek rfl ‹_› (fun K hK => ?_); go_simp; first | (refine hK _ ?_; clear hK K) | (refine ⟨_, fun _ => rfl, hK _ ?_⟩; clear hK K))
    (refine wpPeek_peek rfl ‹_› (fun K hK => ?_); go_simp; first | (refine hK _ ?_; clear hK K) | (refine ⟨_, fun _ => rfl, hK _ ?_⟩; clear hK K))
    (refine wpPeek_peek rfl ‹_› (fun K hK => ?_); go_simp; first | (refine hK _ ?_; clear hK K) | (refine ⟨_, fun _ => rfl, hK _ ?_⟩; clear hK K))
    (refine wpPeek_peek rfl ‹_› (fun K hK => ?_); go_simp; first | (refine hK _ ?_; clear hK K) | (refine ⟨_, fun _ => rfl, hK _ ?_⟩; clear hK K))
    (refine wpPeek_peek rfl ‹_› (fun K hK => ?_); go_simp; first | (refine hK _ ?_; clear hK K) | (refine ⟨_, fun _ => rfl, hK _ ?_⟩; clear hK K))
    (refine wpPeek_peek rfl ‹_› (fun K hK => ?_); go_simp; first | (refine hK _ ?_; clear hK K) | (refine ⟨_, fun _ => rfl, hK _ ?_⟩; clear hK K))
    (refine wpPeek_peek rfl ‹_› (fun K hK => ?_); go_simp; first | (refine hK _ ?_; clear hK K) | (refine ⟨_, fun _ => rfl, hK _ ?_⟩; clear hK K))
    (refine wpPeek_peek rfl ‹_› (fun K hK => ?_); go_simp; first | (refine hK _ ?_; clear hK K) | (refine ⟨_, fun _ => rfl, hK _ ?_⟩; clear hK K))
    (refine wpPeek_peek rfl ‹_› (fun K hK => ?_); go_simp; first | (refine hK _ ?_; clear hK K) | (refine ⟨_, fun _ => rfl, hK _ ?_⟩; clear hK K))
    (refine wpPeek_look rfl ‹_› (fun K hK => ?_); go_simp; first | (refine hK _ ?_; clear hK K) | (refine ⟨_, fun _ => rfl, hK _ ?_⟩; clear hK K))
    (refine wpPeek_peek rfl ‹_› (fun K hK => ?_); go_simp; first | (refine hK _ ?_; clear hK K) | (refine ⟨_, fun _ => rfl, hK _ ?_⟩; clear hK K))
    (refine wpPeek_peek rfl ‹_› (fun K hK => ?_); go_simp; first | (refine hK _ ?_; clear hK K) | (refine ⟨_, fun _ => rfl, hK _ ?_⟩; clear hK K))
    (refine wpPeek_peek rfl ‹_› (fun K hK => ?_); go_simp; first | (refine hK _ ?_; clear hK K) | (refine ⟨_, fun _ => rfl, hK _ ?_⟩; clear hK K))
    (refine wpPeek_peek rfl ‹_› (fun K hK => ?_); go_simp; first | (refine hK _ ?_; clear hK K) | (refine ⟨_, fun _ => rfl, hK _ ?_⟩; clear hK K))
    (refine wpPeek_look rfl ‹_› (fun K hK => ?_); go_simp; first | (refine hK _ ?_; clear hK K) | (refine ⟨_, fun _ => rfl, hK _ ?_⟩; clear hK K))
    (refine wpPeek_peek rfl ‹_› (fun K hK => ?_); go_simp; first | (refine hK _ ?_; clear hK K) | (refine ⟨_, fun _ => rfl, hK _ ?_⟩; clear hK K))
    clear q1 q2 q3 q4
    have hX4 := hX3.trans hd
    have hca := hd.keep hca
    have hcb := hd.keep hcb
    have hfa := hd.keep hfa
    have hfb := hd.keep hfb
    have hoe := OEnts.ext hoe hd
    have hov := OInts.ext hov hd
    have hoa := OInts.ext hoa hd
    have hob := OInts.ext hob hd
    have hrb := hrb.ext hd
    have hrow := hoe.row
    have hf0 := hrow.frozen (a * 2)
    have hf1 := hrow.frozen (a * 2 + 1)
    have hf2 := hrow.frozen (b * 2)
    have hf3 := hrow.frozen (b * 2 + 1)
    refine wpPeek_go rfl rfl (fun K hK => ?_)
    go_wp2_with fail
    refine ⟨⟨.inl (by decide), fun h => h.set2 hrow⟩, ?_⟩
    have hbd := BoxP.set2 (i := a * 2) (j := a * 2 + 1) (u := .slice xb nb yb) (x := .int .i64 (ent es b).2) hbd hrow
    have hoe2 := OEnts.put hoe hai (f := (ent es b).2) hob
    have hoa2 := OInts.set2 (i := a * 2) (j := a * 2 + 1) (u := .slice xb nb yb) (x := .int .i64 (ent es b).2) hoa hrow
    have hov2 := OInts.set2 (i := a * 2) (j := a * 2 + 1) (u := .slice xb nb yb) (x := .int .i64 (ent es b).2) hov hrow
    have hrb2 := BoxP.set2 (i := a * 2) (j := a * 2 + 1) (u := .slice xb nb yb) (x := .int .i64 (ent es b).2) hrb hrow
    have hX5 := (hX4.setCell hrow.1 (a * 2) (.slice xb nb yb)).setCell hrow.1 (a * 2 + 1) (.int .i64 (ent es b).2)
    have hrow2 := hoe2.row
    have hcb2 : ∃ u, ((W1.setCell ⟨g, a * 2, none⟩ (.slice xb nb yb)).setCell ⟨g, a * 2 + 1, none⟩ (.int .i64 (ent es b).2)).cell? ⟨g, b * 2, none⟩ = some u := by
      obtain ⟨_, _, u, hv, hc, _⟩ := hoe2.at_ (a := b) (by simpa using hbj)
      injection hv with hv; injection hv with hv; injection hv with hv; subst hv
      exact ⟨u, hc⟩
    have hcb3 : ∃ u, ((W1.setCell ⟨g, a * 2, none⟩ (.slice xb nb yb)).setCell ⟨g, a * 2 + 1, none⟩ (.int .i64 (ent es b).2)).cell? ⟨g, b * 2 + 1, none⟩ = some u := by
      obtain ⟨_, _, u, hv, _, _, hc⟩ := hoe2.at_ (a := b) (by simpa using hbj)
      injection hv with hv; injection hv with hv; injection hv with hv; subst hv
      exact ⟨_, hc⟩
    obtain ⟨z0, hz0⟩ := hcb2
    obtain ⟨z1, hz1⟩ := hcb3
    generalize (W1.setCell ⟨g, a * 2, none⟩ (.slice xb nb yb)).setCell ⟨g, a * 2 + 1, none⟩ (.int .i64 (ent es b).2) = W2 at *
    clear hca hcb hfa hfb hf0 hf1 hf2 hf3 hoe hoa hov hrb hX4 hX3 hrow
    have hf2 := hrow2.frozen (b * 2)
    have hf3 := hrow2.frozen (b * 2 + 1)
    (refine wpPeek_peek rfl ‹_› (fun K hK => ?_); go_simp; first | (refine hK _ ?_; clear hK K) | (refine ⟨_, fun _ => rfl, hK _ ?_⟩; clear hK K))
    obtain ⟨z1', hz1'⟩ : ∃ z, (W2.setCell ⟨g, b * 2, none⟩ (.slice xa na ya)).cell? ⟨g, b * 2 + 1, none⟩ = some z := cell?_setCell_some hz1
    have hf4 := (hrow2.set (b * 2) (.slice xa na ya)).frozen (b * 2 + 1)
    refine wpPeek_go rfl rfl (fun K hK => ?_)
    go_wp2_with fail
    refine ⟨⟨.inl (by decide), fun h => h.set2 hrow2⟩, ?_⟩
    refine wpPeek_nil ?_
    have hbd := BoxP.set2 (i := b * 2) (j := b * 2 + 1) (u := .slice xa na ya) (x := .int .i64 (ent es a).2) hbd hrow2
    have hoe3 := OEnts.put hoe2 (a := b) (by simpa using hbj) (f := (ent es a).2) hoa2
    have hov3 := OInts.set2 (i := b * 2) (j := b * 2 + 1) (u := .slice xa na ya) (x := .int .i64 (ent es a).2) hov2 hrow2
    have hrb3 := BoxP.set2 (i := b * 2) (j := b * 2 + 1) (u := .slice xa na ya) (x := .int .i64 (ent es a).2) hrb2 hrow2
    have hX6 := (hX5.setCell hrow2.1 (b * 2) (.slice xa na ya)).setCell hrow2.1 (b * 2 + 1) (.int .i64 (ent es a).2)
    generalize (W2.setCell ⟨g, b * 2, none⟩ (.slice xa na ya)).setCell ⟨g, b * 2 + 1, none⟩ (.int .i64 (ent es a).2) = W3 at *
    clear hf2 hf3 hf4 hz0 hz1 hz1' q0
    have c0 := hbd.c0
    have c1 := hbd.c1
    have r0 := hrb3.c0
    have r1 := hrb3.c1
    have rf0 := hrb3.frozen 0
    have rf1 := hrb3.frozen 1
    obtain ⟨HF, hp1⟩ := fin2 0 hrb3 (by omega) hov3 hoe3 hX6
    have HFIN := Lib.hid HF; clear HF
    have p0 := hp1.c0
    have p1 := hp1.c1
    clear hp1 hrb3
    go_wp2_with fail
    refine bodyPost_ret (v := .tuple #[.agg #[.slice a2 sizes.length c2, .slice (some ⟨g, 0, none⟩) es.length cap], .int .i64 0]) ?_ rfl HFIN.out
    simp [results, Try.results18, go_sem, p0, p1]
  · rw [show swS sizes es i j = [] by rw [swS, if_neg h0], show swE sizes es i j = [] by rw [swE, if_neg h0]]
    generalize nK sizes es i j = k at *
    have hkn : (k != 0) = true := by simp [h0]
    clear h0
    go_enter Try.func18, Try.ntmps18
    go_wp2_with fail
    rw [← HW.out]
    refine HNB.out.mono ?_; rintro e w1 ⟨rfl, hB⟩
    have hrb := hz2.ext hB
    have hX := hE0.trans hB
    have r0 := hrb.c0
    have r1 := hrb.c1
    have rf0 := hrb.frozen 0
    have rf1 := hrb.frozen 1
    obtain ⟨HF, hp1⟩ := fin2 k hrb (by omega) (OInts.nil _ _ _) (OEnts.nil _ _) hX
    have HFIN := Lib.hid HF; clear HF
    have q0 := hp1.c0
    have q1 := hp1.c1
    clear hp1 hrb
    go_wp2_with fail
    refine bodyPost_ret (v := .tuple #[.agg #[.slice none 0 0, .slice none 0 0], .int .i64 k]) ?_ rfl HFIN.out
    simp [results, Try.results18, go_sem, q0, q1]
end Go.Proofs.Ytejklkhaplkblaa
