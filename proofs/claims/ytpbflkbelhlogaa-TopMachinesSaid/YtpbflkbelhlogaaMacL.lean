/- A machine copied and turned round, in new memory: the reference. -/
import Derived.Test.YtpbflkbelhlogaaMacK
import Derived.Test.YtpbflkbelhlogaaFree
import Derived.Test.YtpbflkbelhlogaaWr
namespace Go.Proofs.Ytpbflkbelhlogaa
open Go.RowKit Go.Shelf
set_option linter.unusedVariables false

/-! ## lists of one's own, or empty ones -/
def FInts (w : World) (B : Nat) (v : Value) (l : List Int) : Prop := (l = [] ∧ ∃ b, v = .slice (some ⟨b, 0, none⟩) 0 0) ∨ OInts 3 w B v l
def FArcs (w : World) (B : Nat) (v : Value) (l : List Arc) : Prop := (l = [] ∧ ∃ b, v = .slice (some ⟨b, 0, none⟩) 0 0) ∨ w.ownsRow B 50 4 v l.length (l.flatMap encA)
theorem FInts.new {w' : World} {v : Value} {b B : Nat} {l : List Int} (h : l.length = 0 ∧ v = .slice (some ⟨b, 0, none⟩) 0 0 ∨ w'.ownsRow B 3 1 v l.length (ints l)) : FInts w' B v l := by
  rcases h with ⟨h, rfl⟩ | h
  · exact .inl ⟨List.eq_nil_of_length_eq_zero h, _, rfl⟩
  · exact .inr h
theorem FArcs.new {w' : World} {v : Value} {b B : Nat} {l : List Arc} (h : l.length = 0 ∧ v = .slice (some ⟨b, 0, none⟩) 0 0 ∨ w'.ownsRow B 50 4 v l.length (l.flatMap encA)) : FArcs w' B v l := by
  rcases h with ⟨h, rfl⟩ | h
  · exact .inl ⟨List.eq_nil_of_length_eq_zero h, _, rfl⟩
  · exact .inr h
theorem FInts.ints {w : World} {v : Value} {B : Nat} {l : List Int} (h : FInts w B v l) : Ints w v l := by
  rcases h with ⟨rfl, b, rfl⟩ | h
  · exact ints_lit (n := 0) rfl (by omega) (fun i hi => by omega)
  · exact h.ints
theorem FArcs.arcs {w : World} {v : Value} {B : Nat} {l : List Arc} (h : FArcs w B v l) : Arcs w v l := by
  rcases h with ⟨rfl, b, rfl⟩ | h
  · exact ⟨_, 0, rfl, Nat.le_refl _, by unfold maxLen; omega, fun i hi => absurd hi (Nat.not_lt_zero i)⟩
  · exact Arcs.own h
theorem FInts.ext {w w' : World} {v : Value} {B : Nat} {l : List Int} (h : FInts w B v l) (hx : Ext w w') : FInts w' B v l := by
  rcases h with h | h
  · exact .inl h
  · exact .inr (h.ext hx)
theorem FArcs.ext {w w' : World} {v : Value} {B : Nat} {l : List Arc} (h : FArcs w B v l) (hx : Ext w w') : FArcs w' B v l := by
  rcases h with h | h
  · exact .inl h
  · exact .inr (ownsRow_ext h hx)
theorem FInts.low {w : World} {v : Value} {B B' : Nat} {l : List Int} (h : FInts w B v l) (hB : B' ≤ B) : FInts w B' v l := by
  rcases h with h | h
  · exact .inl h
  · exact .inr (h.low hB)
theorem FArcs.low {w : World} {v : Value} {B B' : Nat} {l : List Arc} (h : FArcs w B v l) (hB : B' ≤ B) : FArcs w B' v l := by
  rcases h with h | h
  · exact .inl h
  · exact .inr (row_low h hB)
theorem FInts.store3 {w : World} {B g : Nat} {ty : TypeId} {l : List Int} {v a0 a1 a2 : Value} (h : FInts w B v l) (hb : Blk w g ty [a0, a1, a2]) (hne : 3 ≠ ty) (b0 b1 b2 : Value) : FInts (((w.setCell ⟨g, 0, none⟩ b0).setCell ⟨g, 1, none⟩ b1).setCell ⟨g, 2, none⟩ b2) B v l := by
  rcases h with h | h
  · exact .inl h
  · exact .inr (row_store3 h hb hne b0 b1 b2)
theorem FArcs.store3 {w : World} {B g : Nat} {ty : TypeId} {l : List Arc} {v a0 a1 a2 : Value} (h : FArcs w B v l) (hb : Blk w g ty [a0, a1, a2]) (hne : 50 ≠ ty) (b0 b1 b2 : Value) : FArcs (((w.setCell ⟨g, 0, none⟩ b0).setCell ⟨g, 1, none⟩ b1).setCell ⟨g, 2, none⟩ b2) B v l := by
  rcases h with h | h
  · exact .inl h
  · exact .inr (row_store3 h hb hne b0 b1 b2)
theorem FInts.open_ {w : World} {v : Value} {B : Nat} {l : List Int} (h : FInts w B v l) : ∃ a c, v = .slice a l.length c := by
  rcases h with ⟨rfl, b, rfl⟩ | h
  · exact ⟨_, _, rfl⟩
  · exact row_open h
theorem FArcs.open_ {w : World} {v : Value} {B : Nat} {l : List Arc} (h : FArcs w B v l) : ∃ a c, v = .slice a l.length c := by
  rcases h with ⟨rfl, b, rfl⟩ | h
  · exact ⟨_, _, rfl⟩
  · exact row_open h
structure FMac (w : World) (B : Nat) (av ev : Value) (m : Mac) : Prop where
  a : FArcs w B av m.a
  e : FInts w B ev m.e
theorem FMac.mac {w : World} {B : Nat} {av ev : Value} {m : Mac} (h : FMac w B av ev m) : MacR w av ev m := ⟨h.a.arcs, h.e.ints⟩
def RFMac (m : Mac) (w : World) (e : Ending) (w' : World) : Prop := ∃ av ev, e = .returned (.agg #[.int .i64 m.s, av, ev]) ∧ FMac w' w.heap.size av ev m ∧ Ext w w'
theorem Arcs.raw {w : World} {v : Value} {l : List Arc} (h : Arcs w v l) : Raw w 4 v l.length (l.flatMap encA) := by
  obtain ⟨a, cap, hv, _, _, hh⟩ := h
  have hfl := flat_len encA encA_len l
  refine ⟨a, cap, hv, hfl, fun h0 => ?_⟩
  obtain ⟨b, o, ha, _⟩ := hh 0 h0
  refine ⟨⟨b, o, none⟩, ha, fun j u hu => ?_⟩
  have hj : j < l.length * 4 := by rw [← hfl]; exact (List.getElem?_eq_some_iff.1 hu).1
  have hi : j / 4 < l.length := by omega
  obtain ⟨b', o', ha', h1, h2, h3, h4⟩ := hh (j / 4) hi
  rw [ha] at ha'
  injection ha' with ha'
  injection ha' with e1 e2 _
  subst e1 e2
  have hp : l[j / 4]? = some (arcA l (j / 4)) := by unfold arcA; rw [List.getElem?_eq_getElem hi]; rfl
  have hg := flat_get encA encA_len l (j / 4) (j % 4) _ hp (by omega)
  rw [show j / 4 * 4 + j % 4 = j by omega, hu] at hg
  rw [addr_add]
  show w.cell? ⟨b, o + j, none⟩ = some u
  have hr : j % 4 = 0 ∨ j % 4 = 1 ∨ j % 4 = 2 ∨ j % 4 = 3 := by omega
  rcases hr with hr | hr | hr | hr
  · rw [hr] at hg; injection hg with hg; rw [hg, show o + j = o + j / 4 * 4 by omega]; exact h1
  · rw [hr] at hg; injection hg with hg; rw [hg, show o + j = o + j / 4 * 4 + 1 by omega]; exact h2
  · rw [hr] at hg; injection hg with hg; rw [hg, show o + j = o + j / 4 * 4 + 2 by omega]; exact h3
  · rw [hr] at hg; injection hg with hg; rw [hg, show o + j = o + j / 4 * 4 + 3 by omega]; exact h4

set_option maxHeartbeats 4000000 in
set_option maxRecDepth 100000 in
theorem rCopy_c (av ev : Value) (m : Mac) (w : World) (h : MacR w av ev m) (hal : m.a.length ≤ 100000) (hel : m.e.length ≤ 100000) : Calls Try.prog 35 #[.agg #[.int .i64 m.s, av, ev]] w (RFMac m w) := by
  obtain ⟨wA, hwA⟩ : ∃ wA, wA = w.alloc (.cells #[.int .i64 m.s, av, ev] 25) := ⟨_, rfl⟩
  have hE0 : Ext w wA := by rw [hwA]; exact Ext.alloc _ _
  have k0 : ∀ W, Ext wA W → W.cell? ⟨w.heap.size, 0, none⟩ = some (.int .i64 m.s) := by rw [hwA]; exact kept_alloc w _ _ rfl
  have k1 : ∀ W, Ext wA W → W.cell? ⟨w.heap.size, 1, none⟩ = some av := by rw [hwA]; exact kept_alloc w _ _ rfl
  have k2 : ∀ W, Ext wA W → W.cell? ⟨w.heap.size, 2, none⟩ = some ev := by rw [hwA]; exact kept_alloc w _ _ rfl
  have H0 : Ext wA wA := Ext.refl _
  have HR := Lib.hid (h.ext hE0)
  obtain ⟨aa, ca, rfl, hla, hma, HA⟩ := (h.ext hE0).a.open_
  obtain ⟨ae, ce, rfl, hle, hme, HE⟩ := (h.ext hE0).e.open_
  have HW := Lib.hid hwA; clear hwA h
  go_enter Try.func35, Try.ntmps35
  go_wp2_with fail
  rw [← HW.out]
  obtain ⟨w1, hwB⟩ : ∃ w1, w1 = wA.alloc (.cells #[.int .i64 0, .slice none 0 0, .slice none 0 0] 25) := ⟨_, rfl⟩
  have hX1 : Ext wA w1 := by rw [hwB]; exact Ext.alloc _ _
  rw [← hwB]
  have hsA : wA.heap.size = w.heap.size + 1 := by rw [HW.out]; simp
  have hbx : Blk w1 (w.heap.size + 1) 25 [.int .i64 0, .slice none 0 0, .slice none 0 0] := by rw [hwB, ← hsA]; exact Blk.alloc wA _ _
  clear hwB
  refine wp_region_free (Ext w1) (fun _ => True) [11] [0, 1, 3, 4, 7, 8] 6 (by kernel_rfl) (by kernel_rfl) (by intro c a d v w h; cases d <;> exact h) ?_
  have hd : Ext w1 { w1 with drawn := w1.drawn + 1 } := drawn_ext w1
  have hs : ∀ s : InC (Ext w1), Ext wA s.w := fun s => hX1.trans s.h
  generalize { w1 with drawn := w1.drawn + 1 } = W0 at *
  have H0_ : Hid (Ext w1 W0) := hd
  clear hd
  have hd := H0_.out
  iterate 6 (refine wpPeek_look rfl ‹_› (fun K hK => ?_); go_simp; first | (refine hK _ ?_; clear hK K) | (refine ⟨_, fun _ => rfl, hK _ ?_⟩; clear hK K))
  clear hs hd
  refine wpPeek_nilK ?_
  have H0 := H0_
  clear H0_
  refine wpAnyE_each (i := 2) (is := [6]) (by kernel_rfl) ⟨?_, ?_, trivial⟩
  · refine wpOp_of_list rfl rfl (fun K hK => ?_)
    go_wp2_with fail
    refine ⟨KeepE.of (fun h => h.trans (Ext.alloc _ _)) (fun _ => trivial), ?_⟩
    have hx1 : Hid (Ext W0 (W0.alloc (.cells #[] 50))) := Lib.hid (Ext.alloc _ _)
    generalize W0.alloc (.cells #[] 50) = W1 at *
    have H1 : Hid (Ext w1 W1) := Lib.hid (H0.out.trans hx1.out)
    refine wpAnyE_each (i := 5) (is := [6]) (by kernel_rfl) ⟨?_, ?_, trivial⟩
    · refine wpOp_of_list rfl rfl (fun K hK => ?_)
      refine wpList_appendFresh elArc rfl _ _ rfl rfl rfl (HR.out.a.ext (hX1.trans H1.out)).raw (by omega) (by omega) ?_
      intro v5 W2 hx2 ho5
      go_wp2_with fail
      refine ⟨KeepE.of (fun h => h.trans hx2) (fun _ => trivial), ?_⟩
      replace hx2 := Lib.hid hx2
      have hi5_ := Lib.hid (FArcs.new ho5); clear ho5
      have H2 : Hid (Ext w1 W2) := Lib.hid (H1.out.trans hx2.out)
      refine wpAnyE_each (i := 6) (is := []) (by kernel_rfl) ⟨?_, trivial⟩
      · refine wpOp_of_list rfl rfl (fun K hK => ?_)
        go_wp2_with fail
        refine ⟨KeepE.of (fun h => h.trans (Ext.alloc _ _)) (fun _ => trivial), ?_⟩
        have hx3 : Hid (Ext W2 (W2.alloc (.cells #[] 3))) := Lib.hid (Ext.alloc _ _)
        generalize W2.alloc (.cells #[] 3) = W3 at *
        have H3 : Hid (Ext w1 W3) := Lib.hid (H2.out.trans hx3.out)
        refine wpAnyE_each (i := 9) (is := []) (by kernel_rfl) ⟨?_, trivial⟩
        · refine wpOp_of_list rfl rfl (fun K hK => ?_)
          refine wpList_appendFresh elInts rfl _ _ rfl rfl rfl (HR.out.e.ext (hX1.trans H3.out)).raw (by omega) (by omega) ?_
          intro v9 W4 hx4 ho9
          go_wp2_with fail
          refine ⟨KeepE.of (fun h => h.trans hx4) (fun _ => trivial), ?_⟩
          replace hx4 := Lib.hid hx4
          have hi9_ := Lib.hid (FInts.new ho9); clear ho9
          have H4 : Hid (Ext w1 W4) := Lib.hid (H3.out.trans hx4.out)
          obtain ⟨a5, c5, rfl⟩ := hi5_.out.open_
          obtain ⟨a9, c9, rfl⟩ := hi9_.out.open_
          refine wpAnyE_each (i := 10) (is := []) (by kernel_rfl) ⟨?_, trivial⟩
          refine wpOp_of_list rfl rfl (fun K hK => ?_)
          go_wp2_with fail
          refine ⟨KeepE.of id id, ?_⟩
          have hbx4 := hbx.ext H4.out
          have HIN : Hid (FMac _ w.heap.size (.slice a5 m.a.length c5) (.slice a9 m.e.length c9) m) := Lib.hid ⟨FArcs.store3 ((((hi5_.out.ext hx3.out).ext hx4.out)).low (hE0.trans (hX1.trans H1.out)).size) hbx4 (by decide) (.int .i64 m.s) (.slice a5 m.a.length c5) (.slice a9 m.e.length c9), FInts.store3 ((hi9_.out).low (hE0.trans (hX1.trans H3.out)).size) hbx4 (by decide) (.int .i64 m.s) (.slice a5 m.a.length c5) (.slice a9 m.e.length c9)⟩
          have hXW := hE0.trans (hX1.trans H4.out)
          clear hbx
          have z0 := hbx4.cell (i := 0) rfl
          have z1 := hbx4.cell (i := 1) rfl
          have z2 := hbx4.cell (i := 2) rfl
          have f0 := hbx4.frozen 0
          have f1 := hbx4.frozen 1
          have f2 := hbx4.frozen 2
          have hb2 := hbx4.store3 (.int .i64 m.s) (.slice a5 m.a.length c5) (.slice a9 m.e.length c9)
          have hx2 := Ext.store3 hXW (show w.heap.size ≤ w.heap.size + 1 by omega) (.int .i64 m.s) (.slice a5 m.a.length c5) (.slice a9 m.e.length c9)
          have HB := Lib.hid (And.intro hb2 hx2)
          clear hbx4 hb2 hx2
          refine wpAnyE_each (i := 11) (is := []) (by kernel_rfl) ⟨?_, trivial⟩
          refine wpOp_of_list rfl rfl (fun K hK => ?_)
          go_wp2_with fail
          refine ⟨⟨.inl (by simp), fun _ => trivial⟩, ?_⟩
          refine wpAnyE_done (by kernel_rfl) ?_
          obtain ⟨hb2, hx2⟩ := HB.out
          clear z0 z1 z2 f0 f1 f2 HB
          generalize (((W4.setCell ⟨w.heap.size + 1, 0, none⟩ (.int .i64 m.s)).setCell ⟨w.heap.size + 1, 1, none⟩ (.slice a5 m.a.length c5)).setCell ⟨w.heap.size + 1, 2, none⟩ (.slice a9 m.e.length c9)) = w2 at *
          have d0 := hb2.cell (i := 0) rfl
          have d1 := hb2.cell (i := 1) rfl
          have d2 := hb2.cell (i := 2) rfl
          clear hb2
          go_wp2_with fail
          refine bodyPost_ret (v := .agg #[.int .i64 m.s, .slice a5 m.a.length c5, .slice a9 m.e.length c9]) (by simp [results, Try.results35, go_sem, d0, d1, d2]) rfl ?_
          exact ⟨_, _, rfl, HIN.out, hx2⟩
    · refine wpOp_of_list rfl rfl (fun K hK => ?_)
      go_wp2_with fail
      refine ⟨KeepE.of (fun h => h.trans (Ext.alloc _ _)) (fun _ => trivial), ?_⟩
      have hx2 : Hid (Ext W1 (W1.alloc (.cells #[] 3))) := Lib.hid (Ext.alloc _ _)
      generalize W1.alloc (.cells #[] 3) = W2 at *
      have H2 : Hid (Ext w1 W2) := Lib.hid (H1.out.trans hx2.out)
      refine wpAnyE_each (i := 5) (is := []) (by kernel_rfl) ⟨?_, trivial⟩
      · refine wpOp_of_list rfl rfl (fun K hK => ?_)
        refine wpList_appendFresh elArc rfl _ _ rfl rfl rfl (HR.out.a.ext (hX1.trans H2.out)).raw (by omega) (by omega) ?_
        intro v5 W3 hx3 ho5
        go_wp2_with fail
        refine ⟨KeepE.of (fun h => h.trans hx3) (fun _ => trivial), ?_⟩
        replace hx3 := Lib.hid hx3
        have hi5_ := Lib.hid (FArcs.new ho5); clear ho5
        have H3 : Hid (Ext w1 W3) := Lib.hid (H2.out.trans hx3.out)
        refine wpAnyE_each (i := 9) (is := []) (by kernel_rfl) ⟨?_, trivial⟩
        · refine wpOp_of_list rfl rfl (fun K hK => ?_)
          refine wpList_appendFresh elInts rfl _ _ rfl rfl rfl (HR.out.e.ext (hX1.trans H3.out)).raw (by omega) (by omega) ?_
          intro v9 W4 hx4 ho9
          go_wp2_with fail
          refine ⟨KeepE.of (fun h => h.trans hx4) (fun _ => trivial), ?_⟩
          replace hx4 := Lib.hid hx4
          have hi9_ := Lib.hid (FInts.new ho9); clear ho9
          have H4 : Hid (Ext w1 W4) := Lib.hid (H3.out.trans hx4.out)
          obtain ⟨a5, c5, rfl⟩ := hi5_.out.open_
          obtain ⟨a9, c9, rfl⟩ := hi9_.out.open_
          refine wpAnyE_each (i := 10) (is := []) (by kernel_rfl) ⟨?_, trivial⟩
          refine wpOp_of_list rfl rfl (fun K hK => ?_)
          go_wp2_with fail
          refine ⟨KeepE.of id id, ?_⟩
          have hbx4 := hbx.ext H4.out
          have HIN : Hid (FMac _ w.heap.size (.slice a5 m.a.length c5) (.slice a9 m.e.length c9) m) := Lib.hid ⟨FArcs.store3 (((hi5_.out.ext hx4.out)).low (hE0.trans (hX1.trans H2.out)).size) hbx4 (by decide) (.int .i64 m.s) (.slice a5 m.a.length c5) (.slice a9 m.e.length c9), FInts.store3 ((hi9_.out).low (hE0.trans (hX1.trans H3.out)).size) hbx4 (by decide) (.int .i64 m.s) (.slice a5 m.a.length c5) (.slice a9 m.e.length c9)⟩
          have hXW := hE0.trans (hX1.trans H4.out)
          clear hbx
          have z0 := hbx4.cell (i := 0) rfl
          have z1 := hbx4.cell (i := 1) rfl
          have z2 := hbx4.cell (i := 2) rfl
          have f0 := hbx4.frozen 0
          have f1 := hbx4.frozen 1
          have f2 := hbx4.frozen 2
          have hb2 := hbx4.store3 (.int .i64 m.s) (.slice a5 m.a.length c5) (.slice a9 m.e.length c9)
          have hx2 := Ext.store3 hXW (show w.heap.size ≤ w.heap.size + 1 by omega) (.int .i64 m.s) (.slice a5 m.a.length c5) (.slice a9 m.e.length c9)
          have HB := Lib.hid (And.intro hb2 hx2)
          clear hbx4 hb2 hx2
          refine wpAnyE_each (i := 11) (is := []) (by kernel_rfl) ⟨?_, trivial⟩
          refine wpOp_of_list rfl rfl (fun K hK => ?_)
          go_wp2_with fail
          refine ⟨⟨.inl (by simp), fun _ => trivial⟩, ?_⟩
          refine wpAnyE_done (by kernel_rfl) ?_
          obtain ⟨hb2, hx2⟩ := HB.out
          clear z0 z1 z2 f0 f1 f2 HB
          generalize (((W4.setCell ⟨w.heap.size + 1, 0, none⟩ (.int .i64 m.s)).setCell ⟨w.heap.size + 1, 1, none⟩ (.slice a5 m.a.length c5)).setCell ⟨w.heap.size + 1, 2, none⟩ (.slice a9 m.e.length c9)) = w2 at *
          have d0 := hb2.cell (i := 0) rfl
          have d1 := hb2.cell (i := 1) rfl
          have d2 := hb2.cell (i := 2) rfl
          clear hb2
          go_wp2_with fail
          refine bodyPost_ret (v := .agg #[.int .i64 m.s, .slice a5 m.a.length c5, .slice a9 m.e.length c9]) (by simp [results, Try.results35, go_sem, d0, d1, d2]) rfl ?_
          exact ⟨_, _, rfl, HIN.out, hx2⟩
  · refine wpOp_of_list rfl rfl (fun K hK => ?_)
    go_wp2_with fail
    refine ⟨KeepE.of (fun h => h.trans (Ext.alloc _ _)) (fun _ => trivial), ?_⟩
    have hx1 : Hid (Ext W0 (W0.alloc (.cells #[] 3))) := Lib.hid (Ext.alloc _ _)
    generalize W0.alloc (.cells #[] 3) = W1 at *
    have H1 : Hid (Ext w1 W1) := Lib.hid (H0.out.trans hx1.out)
    refine wpAnyE_each (i := 2) (is := []) (by kernel_rfl) ⟨?_, trivial⟩
    · refine wpOp_of_list rfl rfl (fun K hK => ?_)
      go_wp2_with fail
      refine ⟨KeepE.of (fun h => h.trans (Ext.alloc _ _)) (fun _ => trivial), ?_⟩
      have hx2 : Hid (Ext W1 (W1.alloc (.cells #[] 50))) := Lib.hid (Ext.alloc _ _)
      generalize W1.alloc (.cells #[] 50) = W2 at *
      have H2 : Hid (Ext w1 W2) := Lib.hid (H1.out.trans hx2.out)
      refine wpAnyE_each (i := 5) (is := []) (by kernel_rfl) ⟨?_, trivial⟩
      · refine wpOp_of_list rfl rfl (fun K hK => ?_)
        refine wpList_appendFresh elArc rfl _ _ rfl rfl rfl (HR.out.a.ext (hX1.trans H2.out)).raw (by omega) (by omega) ?_
        intro v5 W3 hx3 ho5
        go_wp2_with fail
        refine ⟨KeepE.of (fun h => h.trans hx3) (fun _ => trivial), ?_⟩
        replace hx3 := Lib.hid hx3
        have hi5_ := Lib.hid (FArcs.new ho5); clear ho5
        have H3 : Hid (Ext w1 W3) := Lib.hid (H2.out.trans hx3.out)
        refine wpAnyE_each (i := 9) (is := []) (by kernel_rfl) ⟨?_, trivial⟩
        · refine wpOp_of_list rfl rfl (fun K hK => ?_)
          refine wpList_appendFresh elInts rfl _ _ rfl rfl rfl (HR.out.e.ext (hX1.trans H3.out)).raw (by omega) (by omega) ?_
          intro v9 W4 hx4 ho9
          go_wp2_with fail
          refine ⟨KeepE.of (fun h => h.trans hx4) (fun _ => trivial), ?_⟩
          replace hx4 := Lib.hid hx4
          have hi9_ := Lib.hid (FInts.new ho9); clear ho9
          have H4 : Hid (Ext w1 W4) := Lib.hid (H3.out.trans hx4.out)
          obtain ⟨a5, c5, rfl⟩ := hi5_.out.open_
          obtain ⟨a9, c9, rfl⟩ := hi9_.out.open_
          refine wpAnyE_each (i := 10) (is := []) (by kernel_rfl) ⟨?_, trivial⟩
          refine wpOp_of_list rfl rfl (fun K hK => ?_)
          go_wp2_with fail
          refine ⟨KeepE.of id id, ?_⟩
          have hbx4 := hbx.ext H4.out
          have HIN : Hid (FMac _ w.heap.size (.slice a5 m.a.length c5) (.slice a9 m.e.length c9) m) := Lib.hid ⟨FArcs.store3 (((hi5_.out.ext hx4.out)).low (hE0.trans (hX1.trans H2.out)).size) hbx4 (by decide) (.int .i64 m.s) (.slice a5 m.a.length c5) (.slice a9 m.e.length c9), FInts.store3 ((hi9_.out).low (hE0.trans (hX1.trans H3.out)).size) hbx4 (by decide) (.int .i64 m.s) (.slice a5 m.a.length c5) (.slice a9 m.e.length c9)⟩
          have hXW := hE0.trans (hX1.trans H4.out)
          clear hbx
          have z0 := hbx4.cell (i := 0) rfl
          have z1 := hbx4.cell (i := 1) rfl
          have z2 := hbx4.cell (i := 2) rfl
          have f0 := hbx4.frozen 0
          have f1 := hbx4.frozen 1
          have f2 := hbx4.frozen 2
          have hb2 := hbx4.store3 (.int .i64 m.s) (.slice a5 m.a.length c5) (.slice a9 m.e.length c9)
          have hx2 := Ext.store3 hXW (show w.heap.size ≤ w.heap.size + 1 by omega) (.int .i64 m.s) (.slice a5 m.a.length c5) (.slice a9 m.e.length c9)
          have HB := Lib.hid (And.intro hb2 hx2)
          clear hbx4 hb2 hx2
          refine wpAnyE_each (i := 11) (is := []) (by kernel_rfl) ⟨?_, trivial⟩
          refine wpOp_of_list rfl rfl (fun K hK => ?_)
          go_wp2_with fail
          refine ⟨⟨.inl (by simp), fun _ => trivial⟩, ?_⟩
          refine wpAnyE_done (by kernel_rfl) ?_
          obtain ⟨hb2, hx2⟩ := HB.out
          clear z0 z1 z2 f0 f1 f2 HB
          generalize (((W4.setCell ⟨w.heap.size + 1, 0, none⟩ (.int .i64 m.s)).setCell ⟨w.heap.size + 1, 1, none⟩ (.slice a5 m.a.length c5)).setCell ⟨w.heap.size + 1, 2, none⟩ (.slice a9 m.e.length c9)) = w2 at *
          have d0 := hb2.cell (i := 0) rfl
          have d1 := hb2.cell (i := 1) rfl
          have d2 := hb2.cell (i := 2) rfl
          clear hb2
          go_wp2_with fail
          refine bodyPost_ret (v := .agg #[.int .i64 m.s, .slice a5 m.a.length c5, .slice a9 m.e.length c9]) (by simp [results, Try.results35, go_sem, d0, d1, d2]) rfl ?_
          exact ⟨_, _, rfl, HIN.out, hx2⟩

/-! ## turned in place -/
def mixA (l : List Arc) (k : Nat) : List Arc := (l.take k).map tA ++ l.drop k
theorem mixA_len (l : List Arc) (k : Nat) : (mixA l k).length = l.length := by simp [mixA]; omega
theorem mixA_zero (l : List Arc) : mixA l 0 = l := by simp [mixA]
theorem mixA_all (l : List Arc) : mixA l l.length = l.map tA := by simp [mixA]
theorem mixA_next : ∀ (l : List Arc) (k : Nat), k < l.length → mixA l (k + 1) = (mixA l k).set k (tA (arcA l k))
  | [], k, h => absurd h (Nat.not_lt_zero k)
  | x :: l, 0, _ => by simp [mixA, arcA]
  | x :: l, k + 1, h => by
    have := mixA_next l k (by simpa using h)
    simp only [mixA, List.take_succ_cons, List.drop_succ_cons, List.map_cons, List.cons_append, List.set_cons_succ] at this ⊢
    rw [this]; rfl
theorem mixA_arc : ∀ (l : List Arc) (k : Nat), k < l.length → arcA (mixA l k) k = arcA l k
  | [], k, h => absurd h (Nat.not_lt_zero k)
  | x :: l, 0, _ => by simp [mixA]
  | x :: l, k + 1, h => by
    have := mixA_arc l k (by simpa using h)
    simpa [mixA, arcA] using this
theorem set_flat (o i : Int) : ∀ (l : List Arc) (k : Nat), k < l.length → ((l.flatMap encA).set (k * 4 + 2) (.int .i64 o)).set (k * 4 + 3) (.int .i64 i) = (l.set k ⟨(arcA l k).f, (arcA l k).t, o, i⟩).flatMap encA
  | [], k, h => absurd h (Nat.not_lt_zero k)
  | x :: l, 0, _ => by simp [encA, arcA, List.flatMap_cons]
  | x :: l, k + 1, h => by
    have := set_flat o i l k (by simpa using h)
    rw [List.flatMap_cons, List.set_append_right _ _ (by rw [encA_len]; omega), List.set_append_right _ _ (by rw [encA_len]; omega), List.set_cons_succ, List.flatMap_cons]
    rw [encA_len, show (k + 1) * 4 + 2 - 4 = k * 4 + 2 by omega, show (k + 1) * 4 + 3 - 4 = k * 4 + 3 by omega, this]
    rfl
theorem FArcs.spot {w : World} {B : Nat} {v : Value} {l : List Arc} (h : FArcs w B v l) {k : Nat} (hk : k < l.length) : ∃ g cap, v = .slice (some ⟨g, 0, none⟩) l.length cap ∧ l.length ≤ cap ∧ cap ≤ 9223372036854775807 ∧ B ≤ g ∧
    w.ownsRow B 50 4 (.slice (some ⟨g, 0, none⟩) l.length cap) l.length (l.flatMap encA) ∧ (∀ j, j < l.length * 4 → ∃ x, w.cell? ⟨g, j, none⟩ = some (.int .i64 x)) ∧ ∀ j, w.frozen? ⟨g, j, none⟩ = false := by
  have hfl := flat_len encA encA_len l
  rcases h with ⟨rfl, _⟩ | h
  · exact absurd hk (Nat.not_lt_zero k)
  · have h0 := h
    rcases h.2 with ⟨_, h1⟩ | ⟨g, cap, cur, rfl, hg, hh, hnc, hm, hcs, ht⟩
    · omega
    · refine ⟨g, cap, rfl, hnc, hm, hg, h0, fun j hj => ?_, fun j => by simp [World.frozen?, hh]⟩
      have h1 := h0.cellAt j (by omega)
      have hi : j / 4 < l.length := by omega
      have hp : l[j / 4]? = some (arcA l (j / 4)) := by unfold arcA; rw [List.getElem?_eq_getElem hi]; rfl
      have hg2 := flat_get encA encA_len l (j / 4) (j % 4) _ hp (by omega)
      rw [show j / 4 * 4 + j % 4 = j by omega] at hg2
      have hr : j % 4 = 0 ∨ j % 4 = 1 ∨ j % 4 = 2 ∨ j % 4 = 3 := by omega
      rcases hr with hr | hr | hr | hr <;> rw [hr] at hg2 <;> exact ⟨_, by rw [h1, hg2]; rfl⟩
/-- the state of the loop -/
structure TurnR (wA w : World) (g2 g3 : Nat) (s : Int) (av ev : Value) (ar : List Arc) (es : List Int) : Prop where
  ext : Ext wA w
  arcs : FArcs w wA.heap.size av ar
  ends : FInts w wA.heap.size ev es
  box : Blk w g3 25 [.int .i64 s, av, ev]
  res : Blk w g2 25 [.int .i64 0, .slice none 0 0, .slice none 0 0]
theorem TurnR.later {wA w w' : World} {g2 g3 : Nat} {s : Int} {av ev : Value} {ar : List Arc} {es : List Int} (h : TurnR wA w g2 g3 s av ev ar es) (hx : Ext w w') : TurnR wA w' g2 g3 s av ev ar es :=
  ⟨h.ext.trans hx, h.arcs.ext hx, h.ends.ext hx, h.box.ext hx, h.res.ext hx⟩
theorem Blk.setO {w : World} {B b n size g i : Nat} {ty e : TypeId} {us xs : List Value} {cap : Nat} {x : Value} (h : Blk w b ty us) (hne : ty ≠ e) (ho : w.ownsRow B e size (.slice (some ⟨g, 0, none⟩) n cap) n xs) : Blk (w.setCell ⟨g, i, none⟩ x) b ty us :=
  h.keptR hne ho (grownBy_set w g i x)
theorem FInts.setO {w : World} {B B' n size g i : Nat} {e : TypeId} {l : List Int} {xs : List Value} {cap : Nat} {x v : Value} (h : FInts w B' v l) (hne : 3 ≠ e) (ho : w.ownsRow B e size (.slice (some ⟨g, 0, none⟩) n cap) n xs) : FInts (w.setCell ⟨g, i, none⟩ x) B' v l := by
  rcases h with h | h
  · exact .inl h
  · exact .inr (row_keptR h hne ho (grownBy_set w g i x))
structure TurnX (wA w : World) (g2 g3 : Nat) (s : Int) (g n cap : Nat) (ev : Value) (xs : List Value) (es : List Int) : Prop where
  ext : Ext wA w
  row : w.ownsRow wA.heap.size 50 4 (.slice (some ⟨g, 0, none⟩) n cap) n xs
  ends : FInts w wA.heap.size ev es
  box : Blk w g3 25 [.int .i64 s, .slice (some ⟨g, 0, none⟩) n cap, ev]
  res : Blk w g2 25 [.int .i64 0, .slice none 0 0, .slice none 0 0]
theorem TurnX.later {wA w w' : World} {g2 g3 : Nat} {s : Int} {g n cap : Nat} {ev : Value} {xs : List Value} {es : List Int} (h : TurnX wA w g2 g3 s g n cap ev xs es) (hx : Ext w w') : TurnX wA w' g2 g3 s g n cap ev xs es :=
  ⟨h.ext.trans hx, ownsRow_ext h.row hx, h.ends.ext hx, h.box.ext hx, h.res.ext hx⟩
theorem TurnX.set {wA w : World} {g2 g3 : Nat} {s : Int} {g n cap : Nat} {ev : Value} {xs : List Value} {es : List Int} (h : TurnX wA w g2 g3 s g n cap ev xs es) (hg : wA.heap.size ≤ g) {i : Nat} (hi : i < xs.length) (v : Value) : TurnX wA (w.setCell ⟨g, i, none⟩ v) g2 g3 s g n cap ev (xs.set i v) es :=
  ⟨h.ext.setCell hg _ _, ownsRow_set h.row hi v, h.ends.setO (by decide) h.row, h.box.setO (by decide) h.row, h.res.setO (by decide) h.row⟩
theorem TurnX.cell {wA w : World} {g2 g3 : Nat} {s : Int} {g n cap : Nat} {ev : Value} {xs : List Value} {es : List Int} (h : TurnX wA w g2 g3 s g n cap ev xs es) {i : Nat} (hi : i < xs.length) : w.cell? ⟨g, i, none⟩ = some xs[i] ∧ w.frozen? ⟨g, i, none⟩ = false := by
  refine ⟨by rw [h.row.cellAt i (by have := h.row.1; omega), List.getElem?_eq_getElem hi], ?_⟩
  obtain ⟨cur, h1, _⟩ := ownBlock_cells h.row g rfl
  simp [World.frozen?, h1]
theorem TurnX.done {wA w : World} {g2 g3 : Nat} {s : Int} {g k cap : Nat} {ev : Value} {l : List Arc} {es : List Int} (hk : k < l.length)
    (h : TurnX wA w g2 g3 s g l.length cap ev ((((mixA l k).flatMap encA).set (k * 4 + 2) (.int .i64 (arcA l k).o)).set (k * 4 + 3) (.int .i64 (arcA l k).i)) es) : TurnR wA w g2 g3 s (.slice (some ⟨g, 0, none⟩) l.length cap) ev (mixA l (k + 1)) es := by
  refine ⟨h.ext, .inr ?_, h.ends, h.box, h.res⟩
  have h2 := h.row
  rw [set_flat _ _ _ _ (by rw [mixA_len]; exact hk), mixA_arc l k hk] at h2
  rw [mixA_len, mixA_next l k hk]
  exact h2

set_option maxHeartbeats 4000000 in
set_option maxRecDepth 100000 in
theorem rturn_c (av ev : Value) (m : Mac) (w : World) (h : MacR w av ev m) (hal : m.a.length ≤ 100000) (hel : m.e.length ≤ 100000) : Calls Try.prog 72 #[.agg #[.int .i64 m.s, av, ev]] w (RFMac (turnM m) w) := by
  obtain ⟨wA, hwA⟩ : ∃ wA, wA = w.alloc (.cells #[.int .i64 m.s, av, ev] 25) := ⟨_, rfl⟩
  have hE0 : Ext w wA := by rw [hwA]; exact Ext.alloc _ _
  have k0 : ∀ W, Ext wA W → W.cell? ⟨w.heap.size, 0, none⟩ = some (.int .i64 m.s) := by rw [hwA]; exact kept_alloc w _ _ rfl
  have k1 : ∀ W, Ext wA W → W.cell? ⟨w.heap.size, 1, none⟩ = some av := by rw [hwA]; exact kept_alloc w _ _ rfl
  have k2 : ∀ W, Ext wA W → W.cell? ⟨w.heap.size, 2, none⟩ = some ev := by rw [hwA]; exact kept_alloc w _ _ rfl
  have H0 : Ext wA wA := Ext.refl _
  have HC := Lib.hid (fun W (hW : Ext wA W) => rCopy_c av ev m W ((h.ext hE0).ext hW) hal hel)
  obtain ⟨aa, ca, rfl, hla, hma, HA⟩ := (h.ext hE0).a.open_
  obtain ⟨ae, ce, rfl, hle, hme, HE⟩ := (h.ext hE0).e.open_
  have hsA : wA.heap.size = w.heap.size + 1 := by rw [hwA]; simp
  have HSA := Lib.hid hsA; clear hsA
  have HW := Lib.hid hwA; clear hwA h
  obtain ⟨wB, hwB⟩ : ∃ wB, wB = wA.alloc (.cells #[.int .i64 0, .slice none 0 0, .slice none 0 0] 25) := ⟨_, rfl⟩
  have hEB : Ext wA wB := by rw [hwB]; exact Ext.alloc _ _
  have hR2 : Blk wB (w.heap.size + 1) 25 [.int .i64 0, .slice none 0 0, .slice none 0 0] := by rw [hwB, ← HSA.out]; exact Blk.alloc wA _ _
  have hsB : wB.heap.size = wA.heap.size + 1 := by rw [hwB]; simp
  have HWB := Lib.hid hwB; clear hwB
  have HR2 := Lib.hid hR2; clear hR2
  have HSB := Lib.hid hsB; clear hsB
  go_enter Try.func72, Try.ntmps72
  go_wp2_with fail
  rw [← HW.out, ← HWB.out]
  refine (HC.out wB hEB).mono ?_; rintro e w1 ⟨av1, ev1, rfl, hF, hx1⟩
  obtain ⟨a1, c1, rfl⟩ := hF.a.open_
  obtain ⟨a2, c2, rfl⟩ := hF.e.open_
  have hA1 := Ext.alloc w1 (.cells #[.int .i64 m.s, .slice a1 m.a.length c1, .slice a2 m.e.length c2] 25)
  have hT0 : TurnR wA (w1.alloc (.cells #[.int .i64 m.s, .slice a1 m.a.length c1, .slice a2 m.e.length c2] 25)) (w.heap.size + 1) w1.heap.size m.s (.slice a1 m.a.length c1) (.slice a2 m.e.length c2) (mixA m.a 0) m.e :=
    ⟨(hEB.trans hx1).trans hA1, by rw [mixA_zero]; exact (hF.a.low hEB.size).ext hA1, (hF.e.low hEB.size).ext hA1, Blk.alloc w1 _ _, (HR2.out.ext hx1).ext hA1⟩
  have hg3 : wA.heap.size < w1.heap.size := by have := hx1.size; have := HSB.out; omega
  clear hF hx1 hA1
  go_wp2_with fail
  go_loopg [4] m.a.length (fun z i wr => ∃ k : Nat, k ≤ m.a.length ∧ m.a.length ≤ k + z ∧ i = .int .i64 k ∧ TurnR wA wr (w.heap.size + 1) w1.heap.size m.s (.slice a1 m.a.length c1) (.slice a2 m.e.length c2) (mixA m.a k) m.e)
  case atStart => exact ⟨0, by omega, by omega, rfl, hT0⟩
  case round =>
    clear hT0
    obtain ⟨k, hk, hkz, rfl, hT⟩ := hrel
    have hEr := hT.ext
    have d1 := hT.box.cell (i := 1) rfl
    by_cases hlt : k < m.a.length
    · obtain ⟨ba, oa, rfl, hc0, hc1, hc2, hc3⟩ := HA.out k hlt
      have hlm := mixA_len m.a k
      obtain ⟨g, cap, hv, hcap, hcm, hgB, ho, hcell, hfz⟩ := hT.arcs.spot (k := k) (by omega)
      rw [hlm] at hv hcap ho hcell
      injection hv with ha _ hc
      subst ha hc
      have hX : TurnX wA wr (w.heap.size + 1) w1.heap.size m.s g m.a.length c1 (.slice a2 m.e.length c2) ((mixA m.a k).flatMap encA) m.e := ⟨hT.ext, ho, hT.ends, hT.box, hT.res⟩
      have hfl := flat_len encA encA_len (mixA m.a k)
      rw [hlm] at hfl
      have HDONE : Hid (∀ W, TurnX wA W (w.heap.size + 1) w1.heap.size m.s g m.a.length c1 (.slice a2 m.e.length c2) ((((mixA m.a k).flatMap encA).set (k * 4 + 2) (.int .i64 (arcA m.a k).o)).set (k * 4 + 3) (.int .i64 (arcA m.a k).i)) m.e → TurnR wA W (w.heap.size + 1) w1.heap.size m.s (.slice (some ⟨g, 0, none⟩) m.a.length c1) (.slice a2 m.e.length c2) (mixA m.a (k + 1)) m.e) :=
        Lib.hid (fun W h => TurnX.done hlt h)
      generalize (mixA m.a k).flatMap encA = xs at *
      generalize arcA m.a k = y at *
      have HFL := Lib.hid hfl
      have HX := Lib.hid hX
      clear hT ho hcell hfz hlm hX hfl
      have hs : ∀ s : Later wr, Ext wA s.w := fun s => hEr.trans s.ext
      have q0 := fun s : Later wr => s.ext.keep d1
      have q1 := fun s : Later wr => (hEr.trans s.ext).keep hc3
      go_upto_region 5 with fail
      refine wp_region_later_tail 11 (by kernel_rfl) (by kernel_rfl) ?_
      simp only [List.take_succ_cons, List.take_zero, List.drop_succ_cons, List.drop_zero]
      repeat (go_big_quiet_step (fail))
      refine wpQuiet_nil ?_
      intro w5 hw'
      obtain ⟨⟨_, hx5⟩, rfl⟩ := hw'
      clear hs q0 q1
      have hX5 := HX.out.later hx5
      obtain ⟨n1, n2⟩ := hX5.cell (i := k * 4 + 2) (by have := HFL.out; omega)
      have hX6 := hX5.set hgB (i := k * 4 + 2) (by have := HFL.out; omega) (.int .i64 y.o)
      have HX6 := Lib.hid hX6
      clear hX5 hX6
      go_upto_region 6 with fail
      clear n1 n2
      generalize w5.setCell ⟨g, k * 4 + 2, none⟩ (.int .i64 y.o) = W6 at *
      have hE6 := HX6.out.ext
      have hs : ∀ s : Later W6, Ext wA s.w := fun s => hE6.trans s.ext
      have q0 := fun s : Later W6 => s.ext.keep (HX6.out.box.cell (i := 1) rfl)
      have q1 := fun s : Later W6 => (hE6.trans s.ext).keep hc2
      refine wp_region_later_tail 11 (by kernel_rfl) (by kernel_rfl) ?_
      simp only [List.take_succ_cons, List.take_zero, List.drop_succ_cons, List.drop_zero]
      repeat (go_big_quiet_step (fail))
      refine wpQuiet_nil ?_
      intro w7 hw'
      obtain ⟨⟨_, hx7⟩, rfl⟩ := hw'
      clear hs q0 q1
      have hX7 := HX6.out.later hx7
      obtain ⟨n1, n2⟩ := hX7.cell (i := k * 4 + 3) (by rw [List.length_set]; have := HFL.out; omega)
      have hX8 := hX7.set hgB (i := k * 4 + 3) (by rw [List.length_set]; have := HFL.out; omega) (.int .i64 y.i)
      have HX8 := Lib.hid hX8
      clear hX7 hX8
      go_wp2_with fail
      go_roundg (gk-1)
      case measure => omega
      case rel => exact ⟨k+1, by omega, by omega, by go_num, HDONE.out _ HX8.out⟩
    · have hTL : TurnR wA wr (w.heap.size + 1) w1.heap.size m.s (.slice a1 m.a.length c1) (.slice a2 m.e.length c2) (m.a.map tA) m.e := by rwa [show k = m.a.length by omega, mixA_all] at hT
      clear hT
      have d0 := hTL.box.cell (i := 0) rfl
      have d2 := hTL.box.cell (i := 2) rfl
      have z0 := hTL.res.cell (i := 0) rfl
      have z1 := hTL.res.cell (i := 1) rfl
      have z2 := hTL.res.cell (i := 2) rfl
      have f0 := hTL.res.frozen 0
      have f1 := hTL.res.frozen 1
      have f2 := hTL.res.frozen 2
      have hb2 := hTL.res.store3 (.int .i64 m.s) (.slice a1 m.a.length c1) (.slice a2 m.e.length c2)
      have hx2 := Ext.store3 hTL.ext (g := w.heap.size + 1) (by have := HSA.out; omega) (.int .i64 m.s) (.slice a1 m.a.length c1) (.slice a2 m.e.length c2)
      have hr2 := FArcs.store3 hTL.arcs hTL.res (by decide) (.int .i64 m.s) (.slice a1 m.a.length c1) (.slice a2 m.e.length c2)
      have he2 := FInts.store3 hTL.ends hTL.res (by decide) (.int .i64 m.s) (.slice a1 m.a.length c1) (.slice a2 m.e.length c2)
      have HFIN : Hid (_ ∧ _ ∧ _ ∧ _) := Lib.hid ⟨hb2, hx2, hr2, he2⟩
      clear hTL hb2 hx2 hr2 he2
      go_wp2_with fail
      obtain ⟨hb2, hx2, hr2, he2⟩ := HFIN.out
      clear z0 z1 z2 f0 f1 f2 d0 d1 d2 HFIN
      have d0 := hb2.cell (i := 0) rfl
      have d1 := hb2.cell (i := 1) rfl
      have d2 := hb2.cell (i := 2) rfl
      generalize (((wr.setCell ⟨w.heap.size + 1, 0, none⟩ (.int .i64 m.s)).setCell ⟨w.heap.size + 1, 1, none⟩ (.slice a1 m.a.length c1)).setCell ⟨w.heap.size + 1, 2, none⟩ (.slice a2 m.e.length c2)) = wz at *
      refine bodyPost_ret (v := .agg #[.int .i64 m.s, .slice a1 m.a.length c1, .slice a2 m.e.length c2]) (by simp [results, Try.results72, go_sem, d0, d1, d2]) rfl ?_
      exact ⟨_, _, rfl, ⟨hr2.low hE0.size, he2.low hE0.size⟩, hE0.trans hx2⟩
end Go.Proofs.Ytpbflkbelhlogaa
