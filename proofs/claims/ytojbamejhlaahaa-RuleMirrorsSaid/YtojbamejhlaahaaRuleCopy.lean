/- A rule in new memory, mirrored; the reference. -/
import Derived.Test.YtojbamejhlaahaaMir
import Derived.Test.YtojbamejhlaahaaFree
namespace Go.Proofs.Ytojbamejhlaahaa
open Go.RowKit Go.Shelf
set_option linter.unusedVariables false

/-- a list of one's own, or an empty one -/
def FInts (w : World) (B : Nat) (v : Value) (l : List Int) : Prop := (l = [] ∧ ∃ b, v = .slice (some ⟨b, 0, none⟩) 0 0) ∨ OInts 3 w B v l
theorem FInts.new {w' : World} {v : Value} {b B : Nat} {l : List Int} (h : l.length = 0 ∧ v = .slice (some ⟨b, 0, none⟩) 0 0 ∨ w'.ownsRow B 3 1 v l.length (ints l)) : FInts w' B v l := by
  rcases h with ⟨h, rfl⟩ | h
  · exact .inl ⟨List.eq_nil_of_length_eq_zero h, _, rfl⟩
  · exact .inr h
theorem FInts.ints {w : World} {v : Value} {B : Nat} {l : List Int} (h : FInts w B v l) : Ints w v l := by
  rcases h with ⟨rfl, b, rfl⟩ | h
  · exact ints_lit (n := 0) rfl (by omega) (fun i hi => by omega)
  · exact h.ints
theorem FInts.ext {w w' : World} {v : Value} {B : Nat} {l : List Int} (h : FInts w B v l) (hx : Ext w w') : FInts w' B v l := by
  rcases h with h | h
  · exact .inl h
  · exact .inr (h.ext hx)
theorem FInts.low {w : World} {v : Value} {B B' : Nat} {l : List Int} (h : FInts w B v l) (hB : B' ≤ B) : FInts w B' v l := by
  rcases h with h | h
  · exact .inl h
  · exact .inr (h.low hB)
theorem FInts.kept {W : World} {g : Nat} {a b c d : Value} {B : Nat} {u : Value} {l : List Int} (ho : FInts W B u l) (h : BoxR W g a b c d) (a' b' c' d' : Value) :
    FInts ((((W.setCell ⟨g, 0, none⟩ a').setCell ⟨g, 1, none⟩ b').setCell ⟨g, 2, none⟩ c').setCell ⟨g, 3, none⟩ d') B u l := by
  rcases ho with ho | ho
  · exact .inl ho
  · exact .inr (h.kept ho a' b' c' d')
/-- a rule in new memory -/
structure FRul (w : World) (B : Nat) (tv lv rv : Value) (x : Rul) : Prop where
  t : FInts w B tv x.t
  l : FInts w B lv x.l
  r : FInts w B rv x.r
theorem FRul.rul {w : World} {B : Nat} {tv lv rv : Value} {x : Rul} (h : FRul w B tv lv rv x) : RulR w tv lv rv x := ⟨h.t.ints, h.l.ints, h.r.ints⟩
theorem FRul.kept {W : World} {g : Nat} {a b c d : Value} {B : Nat} {tv lv rv : Value} {x : Rul} (ho : FRul W B tv lv rv x) (h : BoxR W g a b c d) (a' b' c' d' : Value) :
    FRul ((((W.setCell ⟨g, 0, none⟩ a').setCell ⟨g, 1, none⟩ b').setCell ⟨g, 2, none⟩ c').setCell ⟨g, 3, none⟩ d') B tv lv rv x := ⟨ho.t.kept h a' b' c' d', ho.l.kept h a' b' c' d', ho.r.kept h a' b' c' d'⟩
def RRule (x : Rul) (w : World) (e : Ending) (w' : World) : Prop := ∃ tv lv rv, e = .returned (.agg #[.int .i64 x.f, tv, lv, rv]) ∧ FRul w' w.heap.size tv lv rv x ∧ Ext w w'

set_option maxHeartbeats 4000000 in
set_option maxRecDepth 100000 in
theorem Copy_c (tv lv rv : Value) (x : Rul) (w : World) (h : RulR w tv lv rv x) (hb : longR x = false) : Calls Try.prog 90 #[.agg #[.int .i64 x.f, tv, lv, rv]] w (RRule x w) := by
  obtain ⟨wA, hwA⟩ : ∃ wA, wA = w.alloc (.cells #[.int .i64 x.f, tv, lv, rv] 24) := ⟨_, rfl⟩
  have hE0 : Ext w wA := by rw [hwA]; exact Ext.alloc _ _
  have k0 : ∀ W, Ext wA W → W.cell? ⟨w.heap.size, 0, none⟩ = some (.int .i64 x.f) := by rw [hwA]; exact kept_alloc w _ _ rfl
  have k1 : ∀ W, Ext wA W → W.cell? ⟨w.heap.size, 1, none⟩ = some tv := by rw [hwA]; exact kept_alloc w _ _ rfl
  have k2 : ∀ W, Ext wA W → W.cell? ⟨w.heap.size, 2, none⟩ = some lv := by rw [hwA]; exact kept_alloc w _ _ rfl
  have k3 : ∀ W, Ext wA W → W.cell? ⟨w.heap.size, 3, none⟩ = some rv := by rw [hwA]; exact kept_alloc w _ _ rfl
  have H0 : Ext wA wA := Ext.refl _
  have HR := Lib.hid (h.ext hE0)
  obtain ⟨hbt, hbl, hbr⟩ := longR_le hb
  have HW := Lib.hid hwA; clear hwA h hb
  go_enter Try.func90, Try.ntmps90
  go_wp2_with fail
  rw [← HW.out]
  obtain ⟨w1, hwB⟩ : ∃ w1, w1 = wA.alloc (.cells #[.int .i64 0, .slice none 0 0, .slice none 0 0, .slice none 0 0] 24) := ⟨_, rfl⟩
  have hX1 : Ext wA w1 := by rw [hwB]; exact Ext.alloc _ _
  rw [← hwB]
  have hsA : wA.heap.size = w.heap.size + 1 := by rw [HW.out]; simp
  have hbx : BoxR w1 (w.heap.size + 1) (.int .i64 0) (.slice none 0 0) (.slice none 0 0) (.slice none 0 0) := (by rw [hwB]; exact BoxR.new wA _ _ _ _ hsA : BoxR w1 _ _ _ _ _)
  clear hwB
  refine wp_region_free (Ext w1) (fun _ => True) [15] [0, 1, 3, 4, 7, 8, 11, 12] 8 (by kernel_rfl) (by kernel_rfl) (by intro c a d v w h; cases d <;> exact h) ?_
  have hd : Ext w1 { w1 with drawn := w1.drawn + 1 } := drawn_ext w1
  have hs : ∀ s : InC (Ext w1), Ext wA s.w := fun s => hX1.trans s.h
  generalize { w1 with drawn := w1.drawn + 1 } = W0 at *
  have H0_ : Hid (Ext w1 W0) := hd
  clear hd
  have hd := H0_.out
  iterate 8 (refine wpPeek_look rfl ‹_› (fun K hK => ?_); go_simp; first | (refine hK _ ?_; clear hK K) | (refine ⟨_, fun _ => rfl, hK _ ?_⟩; clear hK K))
  clear hs hd
  refine wpPeek_nilK ?_
  have H0 := H0_
  clear H0_
  refine wpAnyE_each (i := 2) (is := [6, 10]) (by kernel_rfl) ⟨?_, ?_, ?_, trivial⟩
  · refine wpOp_of_list rfl rfl (fun K hK => ?_)
    go_wp2_with fail
    refine ⟨KeepE.of (fun h => h.trans (Ext.alloc _ _)) (fun _ => trivial), ?_⟩
    have hx1 : Hid (Ext W0 (W0.alloc (.cells #[] 3))) := Lib.hid (Ext.alloc _ _)
    generalize W0.alloc (.cells #[] 3) = W1 at *
    have H1 : Hid (Ext w1 W1) := Lib.hid (H0.out.trans hx1.out)
    refine wpAnyE_each (i := 5) (is := [6, 10]) (by kernel_rfl) ⟨?_, ?_, ?_, trivial⟩
    · refine wpOp_of_list rfl rfl (fun K hK => ?_)
      refine wpList_appendFresh elInts rfl _ _ rfl rfl rfl (HR.out.t.ext (hX1.trans H1.out)).raw (by omega) (by omega) ?_
      intro v5 W2 hx2 ho5
      go_wp2_with fail
      refine ⟨KeepE.of (fun h => h.trans hx2) (fun _ => trivial), ?_⟩
      replace hx2 := Lib.hid hx2
      have hi5_ := Lib.hid (FInts.new ho5); clear ho5
      have H2 : Hid (Ext w1 W2) := Lib.hid (H1.out.trans hx2.out)
      refine wpAnyE_each (i := 6) (is := [10]) (by kernel_rfl) ⟨?_, ?_, trivial⟩
      · refine wpOp_of_list rfl rfl (fun K hK => ?_)
        go_wp2_with fail
        refine ⟨KeepE.of (fun h => h.trans (Ext.alloc _ _)) (fun _ => trivial), ?_⟩
        have hx3 : Hid (Ext W2 (W2.alloc (.cells #[] 3))) := Lib.hid (Ext.alloc _ _)
        generalize W2.alloc (.cells #[] 3) = W3 at *
        have H3 : Hid (Ext w1 W3) := Lib.hid (H2.out.trans hx3.out)
        refine wpAnyE_each (i := 9) (is := [10]) (by kernel_rfl) ⟨?_, ?_, trivial⟩
        · refine wpOp_of_list rfl rfl (fun K hK => ?_)
          refine wpList_appendFresh elInts rfl _ _ rfl rfl rfl (HR.out.l.ext (hX1.trans H3.out)).raw (by omega) (by omega) ?_
          intro v9 W4 hx4 ho9
          go_wp2_with fail
          refine ⟨KeepE.of (fun h => h.trans hx4) (fun _ => trivial), ?_⟩
          replace hx4 := Lib.hid hx4
          have hi9_ := Lib.hid (FInts.new ho9); clear ho9
          have H4 : Hid (Ext w1 W4) := Lib.hid (H3.out.trans hx4.out)
          refine wpAnyE_each (i := 10) (is := []) (by kernel_rfl) ⟨?_, trivial⟩
          · refine wpOp_of_list rfl rfl (fun K hK => ?_)
            go_wp2_with fail
            refine ⟨KeepE.of (fun h => h.trans (Ext.alloc _ _)) (fun _ => trivial), ?_⟩
            have hx5 : Hid (Ext W4 (W4.alloc (.cells #[] 3))) := Lib.hid (Ext.alloc _ _)
            generalize W4.alloc (.cells #[] 3) = W5 at *
            have H5 : Hid (Ext w1 W5) := Lib.hid (H4.out.trans hx5.out)
            refine wpAnyE_each (i := 13) (is := []) (by kernel_rfl) ⟨?_, trivial⟩
            · refine wpOp_of_list rfl rfl (fun K hK => ?_)
              refine wpList_appendFresh elInts rfl _ _ rfl rfl rfl (HR.out.r.ext (hX1.trans H5.out)).raw (by omega) (by omega) ?_
              intro v13 W6 hx6 ho13
              go_wp2_with fail
              refine ⟨KeepE.of (fun h => h.trans hx6) (fun _ => trivial), ?_⟩
              replace hx6 := Lib.hid hx6
              have hi13_ := Lib.hid (FInts.new ho13); clear ho13
              have H6 : Hid (Ext w1 W6) := Lib.hid (H5.out.trans hx6.out)
              obtain ⟨a5, c5, rfl, _⟩ := hi5_.out.ints.open_
              obtain ⟨a9, c9, rfl, _⟩ := hi9_.out.ints.open_
              obtain ⟨a13, c13, rfl, _⟩ := hi13_.out.ints.open_
              refine wpAnyE_each (i := 14) (is := []) (by kernel_rfl) ⟨?_, trivial⟩
              refine wpOp_of_list rfl rfl (fun K hK => ?_)
              go_wp2_with fail
              refine ⟨KeepE.of id id, ?_⟩
              have hbx4 := hbx.ext H6.out
              have HIN := Lib.hid (FRul.kept (x := x) ⟨(((((hi5_.out.ext hx3.out).ext hx4.out).ext hx5.out).ext hx6.out)).low (hE0.trans (hX1.trans H1.out)).size, (((hi9_.out.ext hx5.out).ext hx6.out)).low (hE0.trans (hX1.trans H3.out)).size, (hi13_.out).low (hE0.trans (hX1.trans H5.out)).size⟩ hbx4 (.int .i64 x.f) (.slice a5 x.t.length c5) (.slice a9 x.l.length c9) (.slice a13 x.r.length c13))
              have hXW := hE0.trans (hX1.trans H6.out)
              clear hbx
              have z0 := hbx4.c0
              have z1 := hbx4.c1
              have z2 := hbx4.c2
              have z3 := hbx4.c3
              have f0 := hbx4.frozen 0
              have f1 := hbx4.frozen 1
              have f2 := hbx4.frozen 2
              have f3 := hbx4.frozen 3
              refine wpAnyE_each (i := 15) (is := []) (by kernel_rfl) ⟨?_, trivial⟩
              refine wpOp_of_list rfl rfl (fun K hK => ?_)
              go_wp2_with fail
              refine ⟨⟨.inl (by simp), fun _ => trivial⟩, ?_⟩
              refine wpAnyE_done (by kernel_rfl) ?_
              have hb2 := hbx4.set (.int .i64 x.f) (.slice a5 x.t.length c5) (.slice a9 x.l.length c9) (.slice a13 x.r.length c13)
              have hx2 := BoxR.set_ext hXW (show w.heap.size ≤ w.heap.size + 1 by omega) (.int .i64 x.f) (.slice a5 x.t.length c5) (.slice a9 x.l.length c9) (.slice a13 x.r.length c13)
              clear hbx4 z0 z1 z2 z3 f0 f1 f2 f3
              generalize ((((W6.setCell ⟨w.heap.size + 1, 0, none⟩ (.int .i64 x.f)).setCell ⟨w.heap.size + 1, 1, none⟩ (.slice a5 x.t.length c5)).setCell ⟨w.heap.size + 1, 2, none⟩ (.slice a9 x.l.length c9)).setCell ⟨w.heap.size + 1, 3, none⟩ (.slice a13 x.r.length c13)) = w2 at *
              have d0 := hb2.c0
              have d1 := hb2.c1
              have d2 := hb2.c2
              have d3 := hb2.c3
              clear hb2
              go_wp2_with fail
              refine bodyPost_ret (v := .agg #[.int .i64 x.f, .slice a5 x.t.length c5, .slice a9 x.l.length c9, .slice a13 x.r.length c13]) (by simp [results, Try.results90, go_sem, d0, d1, d2, d3]) rfl ?_
              exact ⟨_, _, _, rfl, HIN.out, hx2⟩
        · refine wpOp_of_list rfl rfl (fun K hK => ?_)
          go_wp2_with fail
          refine ⟨KeepE.of (fun h => h.trans (Ext.alloc _ _)) (fun _ => trivial), ?_⟩
          have hx4 : Hid (Ext W3 (W3.alloc (.cells #[] 3))) := Lib.hid (Ext.alloc _ _)
          generalize W3.alloc (.cells #[] 3) = W4 at *
          have H4 : Hid (Ext w1 W4) := Lib.hid (H3.out.trans hx4.out)
          refine wpAnyE_each (i := 9) (is := []) (by kernel_rfl) ⟨?_, trivial⟩
          · refine wpOp_of_list rfl rfl (fun K hK => ?_)
            refine wpList_appendFresh elInts rfl _ _ rfl rfl rfl (HR.out.l.ext (hX1.trans H4.out)).raw (by omega) (by omega) ?_
            intro v9 W5 hx5 ho9
            go_wp2_with fail
            refine ⟨KeepE.of (fun h => h.trans hx5) (fun _ => trivial), ?_⟩
            replace hx5 := Lib.hid hx5
            have hi9_ := Lib.hid (FInts.new ho9); clear ho9
            have H5 : Hid (Ext w1 W5) := Lib.hid (H4.out.trans hx5.out)
            refine wpAnyE_each (i := 13) (is := []) (by kernel_rfl) ⟨?_, trivial⟩
            · refine wpOp_of_list rfl rfl (fun K hK => ?_)
              refine wpList_appendFresh elInts rfl _ _ rfl rfl rfl (HR.out.r.ext (hX1.trans H5.out)).raw (by omega) (by omega) ?_
              intro v13 W6 hx6 ho13
              go_wp2_with fail
              refine ⟨KeepE.of (fun h => h.trans hx6) (fun _ => trivial), ?_⟩
              replace hx6 := Lib.hid hx6
              have hi13_ := Lib.hid (FInts.new ho13); clear ho13
              have H6 : Hid (Ext w1 W6) := Lib.hid (H5.out.trans hx6.out)
              obtain ⟨a5, c5, rfl, _⟩ := hi5_.out.ints.open_
              obtain ⟨a9, c9, rfl, _⟩ := hi9_.out.ints.open_
              obtain ⟨a13, c13, rfl, _⟩ := hi13_.out.ints.open_
              refine wpAnyE_each (i := 14) (is := []) (by kernel_rfl) ⟨?_, trivial⟩
              refine wpOp_of_list rfl rfl (fun K hK => ?_)
              go_wp2_with fail
              refine ⟨KeepE.of id id, ?_⟩
              have hbx4 := hbx.ext H6.out
              have HIN := Lib.hid (FRul.kept (x := x) ⟨(((((hi5_.out.ext hx3.out).ext hx4.out).ext hx5.out).ext hx6.out)).low (hE0.trans (hX1.trans H1.out)).size, ((hi9_.out.ext hx6.out)).low (hE0.trans (hX1.trans H4.out)).size, (hi13_.out).low (hE0.trans (hX1.trans H5.out)).size⟩ hbx4 (.int .i64 x.f) (.slice a5 x.t.length c5) (.slice a9 x.l.length c9) (.slice a13 x.r.length c13))
              have hXW := hE0.trans (hX1.trans H6.out)
              clear hbx
              have z0 := hbx4.c0
              have z1 := hbx4.c1
              have z2 := hbx4.c2
              have z3 := hbx4.c3
              have f0 := hbx4.frozen 0
              have f1 := hbx4.frozen 1
              have f2 := hbx4.frozen 2
              have f3 := hbx4.frozen 3
              refine wpAnyE_each (i := 15) (is := []) (by kernel_rfl) ⟨?_, trivial⟩
              refine wpOp_of_list rfl rfl (fun K hK => ?_)
              go_wp2_with fail
              refine ⟨⟨.inl (by simp), fun _ => trivial⟩, ?_⟩
              refine wpAnyE_done (by kernel_rfl) ?_
              have hb2 := hbx4.set (.int .i64 x.f) (.slice a5 x.t.length c5) (.slice a9 x.l.length c9) (.slice a13 x.r.length c13)
              have hx2 := BoxR.set_ext hXW (show w.heap.size ≤ w.heap.size + 1 by omega) (.int .i64 x.f) (.slice a5 x.t.length c5) (.slice a9 x.l.length c9) (.slice a13 x.r.length c13)
              clear hbx4 z0 z1 z2 z3 f0 f1 f2 f3
              generalize ((((W6.setCell ⟨w.heap.size + 1, 0, none⟩ (.int .i64 x.f)).setCell ⟨w.heap.size + 1, 1, none⟩ (.slice a5 x.t.length c5)).setCell ⟨w.heap.size + 1, 2, none⟩ (.slice a9 x.l.length c9)).setCell ⟨w.heap.size + 1, 3, none⟩ (.slice a13 x.r.length c13)) = w2 at *
              have d0 := hb2.c0
              have d1 := hb2.c1
              have d2 := hb2.c2
              have d3 := hb2.c3
              clear hb2
              go_wp2_with fail
              refine bodyPost_ret (v := .agg #[.int .i64 x.f, .slice a5 x.t.length c5, .slice a9 x.l.length c9, .slice a13 x.r.length c13]) (by simp [results, Try.results90, go_sem, d0, d1, d2, d3]) rfl ?_
              exact ⟨_, _, _, rfl, HIN.out, hx2⟩
      · refine wpOp_of_list rfl rfl (fun K hK => ?_)
        go_wp2_with fail
        refine ⟨KeepE.of (fun h => h.trans (Ext.alloc _ _)) (fun _ => trivial), ?_⟩
        have hx3 : Hid (Ext W2 (W2.alloc (.cells #[] 3))) := Lib.hid (Ext.alloc _ _)
        generalize W2.alloc (.cells #[] 3) = W3 at *
        have H3 : Hid (Ext w1 W3) := Lib.hid (H2.out.trans hx3.out)
        refine wpAnyE_each (i := 6) (is := []) (by kernel_rfl) ⟨?_, trivial⟩
        · refine wpOp_of_list rfl rfl (fun K hK => ?_)
          go_wp2_with fail
          refine ⟨KeepE.of (fun h => h.trans (Ext.alloc _ _)) (fun _ => trivial), ?_⟩
          have hx4 : Hid (Ext W3 (W3.alloc (.cells #[] 3))) := Lib.hid (Ext.alloc _ _)
          generalize W3.alloc (.cells #[] 3) = W4 at *
          have H4 : Hid (Ext w1 W4) := Lib.hid (H3.out.trans hx4.out)
          refine wpAnyE_each (i := 9) (is := []) (by kernel_rfl) ⟨?_, trivial⟩
          · refine wpOp_of_list rfl rfl (fun K hK => ?_)
            refine wpList_appendFresh elInts rfl _ _ rfl rfl rfl (HR.out.l.ext (hX1.trans H4.out)).raw (by omega) (by omega) ?_
            intro v9 W5 hx5 ho9
            go_wp2_with fail
            refine ⟨KeepE.of (fun h => h.trans hx5) (fun _ => trivial), ?_⟩
            replace hx5 := Lib.hid hx5
            have hi9_ := Lib.hid (FInts.new ho9); clear ho9
            have H5 : Hid (Ext w1 W5) := Lib.hid (H4.out.trans hx5.out)
            refine wpAnyE_each (i := 13) (is := []) (by kernel_rfl) ⟨?_, trivial⟩
            · refine wpOp_of_list rfl rfl (fun K hK => ?_)
              refine wpList_appendFresh elInts rfl _ _ rfl rfl rfl (HR.out.r.ext (hX1.trans H5.out)).raw (by omega) (by omega) ?_
              intro v13 W6 hx6 ho13
              go_wp2_with fail
              refine ⟨KeepE.of (fun h => h.trans hx6) (fun _ => trivial), ?_⟩
              replace hx6 := Lib.hid hx6
              have hi13_ := Lib.hid (FInts.new ho13); clear ho13
              have H6 : Hid (Ext w1 W6) := Lib.hid (H5.out.trans hx6.out)
              obtain ⟨a5, c5, rfl, _⟩ := hi5_.out.ints.open_
              obtain ⟨a9, c9, rfl, _⟩ := hi9_.out.ints.open_
              obtain ⟨a13, c13, rfl, _⟩ := hi13_.out.ints.open_
              refine wpAnyE_each (i := 14) (is := []) (by kernel_rfl) ⟨?_, trivial⟩
              refine wpOp_of_list rfl rfl (fun K hK => ?_)
              go_wp2_with fail
              refine ⟨KeepE.of id id, ?_⟩
              have hbx4 := hbx.ext H6.out
              have HIN := Lib.hid (FRul.kept (x := x) ⟨(((((hi5_.out.ext hx3.out).ext hx4.out).ext hx5.out).ext hx6.out)).low (hE0.trans (hX1.trans H1.out)).size, ((hi9_.out.ext hx6.out)).low (hE0.trans (hX1.trans H4.out)).size, (hi13_.out).low (hE0.trans (hX1.trans H5.out)).size⟩ hbx4 (.int .i64 x.f) (.slice a5 x.t.length c5) (.slice a9 x.l.length c9) (.slice a13 x.r.length c13))
              have hXW := hE0.trans (hX1.trans H6.out)
              clear hbx
              have z0 := hbx4.c0
              have z1 := hbx4.c1
              have z2 := hbx4.c2
              have z3 := hbx4.c3
              have f0 := hbx4.frozen 0
              have f1 := hbx4.frozen 1
              have f2 := hbx4.frozen 2
              have f3 := hbx4.frozen 3
              refine wpAnyE_each (i := 15) (is := []) (by kernel_rfl) ⟨?_, trivial⟩
              refine wpOp_of_list rfl rfl (fun K hK => ?_)
              go_wp2_with fail
              refine ⟨⟨.inl (by simp), fun _ => trivial⟩, ?_⟩
              refine wpAnyE_done (by kernel_rfl) ?_
              have hb2 := hbx4.set (.int .i64 x.f) (.slice a5 x.t.length c5) (.slice a9 x.l.length c9) (.slice a13 x.r.length c13)
              have hx2 := BoxR.set_ext hXW (show w.heap.size ≤ w.heap.size + 1 by omega) (.int .i64 x.f) (.slice a5 x.t.length c5) (.slice a9 x.l.length c9) (.slice a13 x.r.length c13)
              clear hbx4 z0 z1 z2 z3 f0 f1 f2 f3
              generalize ((((W6.setCell ⟨w.heap.size + 1, 0, none⟩ (.int .i64 x.f)).setCell ⟨w.heap.size + 1, 1, none⟩ (.slice a5 x.t.length c5)).setCell ⟨w.heap.size + 1, 2, none⟩ (.slice a9 x.l.length c9)).setCell ⟨w.heap.size + 1, 3, none⟩ (.slice a13 x.r.length c13)) = w2 at *
              have d0 := hb2.c0
              have d1 := hb2.c1
              have d2 := hb2.c2
              have d3 := hb2.c3
              clear hb2
              go_wp2_with fail
              refine bodyPost_ret (v := .agg #[.int .i64 x.f, .slice a5 x.t.length c5, .slice a9 x.l.length c9, .slice a13 x.r.length c13]) (by simp [results, Try.results90, go_sem, d0, d1, d2, d3]) rfl ?_
              exact ⟨_, _, _, rfl, HIN.out, hx2⟩
    · refine wpOp_of_list rfl rfl (fun K hK => ?_)
      go_wp2_with fail
      refine ⟨KeepE.of (fun h => h.trans (Ext.alloc _ _)) (fun _ => trivial), ?_⟩
      have hx2 : Hid (Ext W1 (W1.alloc (.cells #[] 3))) := Lib.hid (Ext.alloc _ _)
      generalize W1.alloc (.cells #[] 3) = W2 at *
      have H2 : Hid (Ext w1 W2) := Lib.hid (H1.out.trans hx2.out)
      refine wpAnyE_each (i := 5) (is := [10]) (by kernel_rfl) ⟨?_, ?_, trivial⟩
      · refine wpOp_of_list rfl rfl (fun K hK => ?_)
        refine wpList_appendFresh elInts rfl _ _ rfl rfl rfl (HR.out.t.ext (hX1.trans H2.out)).raw (by omega) (by omega) ?_
        intro v5 W3 hx3 ho5
        go_wp2_with fail
        refine ⟨KeepE.of (fun h => h.trans hx3) (fun _ => trivial), ?_⟩
        replace hx3 := Lib.hid hx3
        have hi5_ := Lib.hid (FInts.new ho5); clear ho5
        have H3 : Hid (Ext w1 W3) := Lib.hid (H2.out.trans hx3.out)
        refine wpAnyE_each (i := 9) (is := [10]) (by kernel_rfl) ⟨?_, ?_, trivial⟩
        · refine wpOp_of_list rfl rfl (fun K hK => ?_)
          refine wpList_appendFresh elInts rfl _ _ rfl rfl rfl (HR.out.l.ext (hX1.trans H3.out)).raw (by omega) (by omega) ?_
          intro v9 W4 hx4 ho9
          go_wp2_with fail
          refine ⟨KeepE.of (fun h => h.trans hx4) (fun _ => trivial), ?_⟩
          replace hx4 := Lib.hid hx4
          have hi9_ := Lib.hid (FInts.new ho9); clear ho9
          have H4 : Hid (Ext w1 W4) := Lib.hid (H3.out.trans hx4.out)
          refine wpAnyE_each (i := 10) (is := []) (by kernel_rfl) ⟨?_, trivial⟩
          · refine wpOp_of_list rfl rfl (fun K hK => ?_)
            go_wp2_with fail
            refine ⟨KeepE.of (fun h => h.trans (Ext.alloc _ _)) (fun _ => trivial), ?_⟩
            have hx5 : Hid (Ext W4 (W4.alloc (.cells #[] 3))) := Lib.hid (Ext.alloc _ _)
            generalize W4.alloc (.cells #[] 3) = W5 at *
            have H5 : Hid (Ext w1 W5) := Lib.hid (H4.out.trans hx5.out)
            refine wpAnyE_each (i := 13) (is := []) (by kernel_rfl) ⟨?_, trivial⟩
            · refine wpOp_of_list rfl rfl (fun K hK => ?_)
              refine wpList_appendFresh elInts rfl _ _ rfl rfl rfl (HR.out.r.ext (hX1.trans H5.out)).raw (by omega) (by omega) ?_
              intro v13 W6 hx6 ho13
              go_wp2_with fail
              refine ⟨KeepE.of (fun h => h.trans hx6) (fun _ => trivial), ?_⟩
              replace hx6 := Lib.hid hx6
              have hi13_ := Lib.hid (FInts.new ho13); clear ho13
              have H6 : Hid (Ext w1 W6) := Lib.hid (H5.out.trans hx6.out)
              obtain ⟨a5, c5, rfl, _⟩ := hi5_.out.ints.open_
              obtain ⟨a9, c9, rfl, _⟩ := hi9_.out.ints.open_
              obtain ⟨a13, c13, rfl, _⟩ := hi13_.out.ints.open_
              refine wpAnyE_each (i := 14) (is := []) (by kernel_rfl) ⟨?_, trivial⟩
              refine wpOp_of_list rfl rfl (fun K hK => ?_)
              go_wp2_with fail
              refine ⟨KeepE.of id id, ?_⟩
              have hbx4 := hbx.ext H6.out
              have HIN := Lib.hid (FRul.kept (x := x) ⟨((((hi5_.out.ext hx4.out).ext hx5.out).ext hx6.out)).low (hE0.trans (hX1.trans H2.out)).size, (((hi9_.out.ext hx5.out).ext hx6.out)).low (hE0.trans (hX1.trans H3.out)).size, (hi13_.out).low (hE0.trans (hX1.trans H5.out)).size⟩ hbx4 (.int .i64 x.f) (.slice a5 x.t.length c5) (.slice a9 x.l.length c9) (.slice a13 x.r.length c13))
              have hXW := hE0.trans (hX1.trans H6.out)
              clear hbx
              have z0 := hbx4.c0
              have z1 := hbx4.c1
              have z2 := hbx4.c2
              have z3 := hbx4.c3
              have f0 := hbx4.frozen 0
              have f1 := hbx4.frozen 1
              have f2 := hbx4.frozen 2
              have f3 := hbx4.frozen 3
              refine wpAnyE_each (i := 15) (is := []) (by kernel_rfl) ⟨?_, trivial⟩
              refine wpOp_of_list rfl rfl (fun K hK => ?_)
              go_wp2_with fail
              refine ⟨⟨.inl (by simp), fun _ => trivial⟩, ?_⟩
              refine wpAnyE_done (by kernel_rfl) ?_
              have hb2 := hbx4.set (.int .i64 x.f) (.slice a5 x.t.length c5) (.slice a9 x.l.length c9) (.slice a13 x.r.length c13)
              have hx2 := BoxR.set_ext hXW (show w.heap.size ≤ w.heap.size + 1 by omega) (.int .i64 x.f) (.slice a5 x.t.length c5) (.slice a9 x.l.length c9) (.slice a13 x.r.length c13)
              clear hbx4 z0 z1 z2 z3 f0 f1 f2 f3
              generalize ((((W6.setCell ⟨w.heap.size + 1, 0, none⟩ (.int .i64 x.f)).setCell ⟨w.heap.size + 1, 1, none⟩ (.slice a5 x.t.length c5)).setCell ⟨w.heap.size + 1, 2, none⟩ (.slice a9 x.l.length c9)).setCell ⟨w.heap.size + 1, 3, none⟩ (.slice a13 x.r.length c13)) = w2 at *
              have d0 := hb2.c0
              have d1 := hb2.c1
              have d2 := hb2.c2
              have d3 := hb2.c3
              clear hb2
              go_wp2_with fail
              refine bodyPost_ret (v := .agg #[.int .i64 x.f, .slice a5 x.t.length c5, .slice a9 x.l.length c9, .slice a13 x.r.length c13]) (by simp [results, Try.results90, go_sem, d0, d1, d2, d3]) rfl ?_
              exact ⟨_, _, _, rfl, HIN.out, hx2⟩
        · refine wpOp_of_list rfl rfl (fun K hK => ?_)
          go_wp2_with fail
          refine ⟨KeepE.of (fun h => h.trans (Ext.alloc _ _)) (fun _ => trivial), ?_⟩
          have hx4 : Hid (Ext W3 (W3.alloc (.cells #[] 3))) := Lib.hid (Ext.alloc _ _)
          generalize W3.alloc (.cells #[] 3) = W4 at *
          have H4 : Hid (Ext w1 W4) := Lib.hid (H3.out.trans hx4.out)
          refine wpAnyE_each (i := 9) (is := []) (by kernel_rfl) ⟨?_, trivial⟩
          · refine wpOp_of_list rfl rfl (fun K hK => ?_)
            refine wpList_appendFresh elInts rfl _ _ rfl rfl rfl (HR.out.l.ext (hX1.trans H4.out)).raw (by omega) (by omega) ?_
            intro v9 W5 hx5 ho9
            go_wp2_with fail
            refine ⟨KeepE.of (fun h => h.trans hx5) (fun _ => trivial), ?_⟩
            replace hx5 := Lib.hid hx5
            have hi9_ := Lib.hid (FInts.new ho9); clear ho9
            have H5 : Hid (Ext w1 W5) := Lib.hid (H4.out.trans hx5.out)
            refine wpAnyE_each (i := 13) (is := []) (by kernel_rfl) ⟨?_, trivial⟩
            · refine wpOp_of_list rfl rfl (fun K hK => ?_)
              refine wpList_appendFresh elInts rfl _ _ rfl rfl rfl (HR.out.r.ext (hX1.trans H5.out)).raw (by omega) (by omega) ?_
              intro v13 W6 hx6 ho13
              go_wp2_with fail
              refine ⟨KeepE.of (fun h => h.trans hx6) (fun _ => trivial), ?_⟩
              replace hx6 := Lib.hid hx6
              have hi13_ := Lib.hid (FInts.new ho13); clear ho13
              have H6 : Hid (Ext w1 W6) := Lib.hid (H5.out.trans hx6.out)
              obtain ⟨a5, c5, rfl, _⟩ := hi5_.out.ints.open_
              obtain ⟨a9, c9, rfl, _⟩ := hi9_.out.ints.open_
              obtain ⟨a13, c13, rfl, _⟩ := hi13_.out.ints.open_
              refine wpAnyE_each (i := 14) (is := []) (by kernel_rfl) ⟨?_, trivial⟩
              refine wpOp_of_list rfl rfl (fun K hK => ?_)
              go_wp2_with fail
              refine ⟨KeepE.of id id, ?_⟩
              have hbx4 := hbx.ext H6.out
              have HIN := Lib.hid (FRul.kept (x := x) ⟨((((hi5_.out.ext hx4.out).ext hx5.out).ext hx6.out)).low (hE0.trans (hX1.trans H2.out)).size, ((hi9_.out.ext hx6.out)).low (hE0.trans (hX1.trans H4.out)).size, (hi13_.out).low (hE0.trans (hX1.trans H5.out)).size⟩ hbx4 (.int .i64 x.f) (.slice a5 x.t.length c5) (.slice a9 x.l.length c9) (.slice a13 x.r.length c13))
              have hXW := hE0.trans (hX1.trans H6.out)
              clear hbx
              have z0 := hbx4.c0
              have z1 := hbx4.c1
              have z2 := hbx4.c2
              have z3 := hbx4.c3
              have f0 := hbx4.frozen 0
              have f1 := hbx4.frozen 1
              have f2 := hbx4.frozen 2
              have f3 := hbx4.frozen 3
              refine wpAnyE_each (i := 15) (is := []) (by kernel_rfl) ⟨?_, trivial⟩
              refine wpOp_of_list rfl rfl (fun K hK => ?_)
              go_wp2_with fail
              refine ⟨⟨.inl (by simp), fun _ => trivial⟩, ?_⟩
              refine wpAnyE_done (by kernel_rfl) ?_
              have hb2 := hbx4.set (.int .i64 x.f) (.slice a5 x.t.length c5) (.slice a9 x.l.length c9) (.slice a13 x.r.length c13)
              have hx2 := BoxR.set_ext hXW (show w.heap.size ≤ w.heap.size + 1 by omega) (.int .i64 x.f) (.slice a5 x.t.length c5) (.slice a9 x.l.length c9) (.slice a13 x.r.length c13)
              clear hbx4 z0 z1 z2 z3 f0 f1 f2 f3
              generalize ((((W6.setCell ⟨w.heap.size + 1, 0, none⟩ (.int .i64 x.f)).setCell ⟨w.heap.size + 1, 1, none⟩ (.slice a5 x.t.length c5)).setCell ⟨w.heap.size + 1, 2, none⟩ (.slice a9 x.l.length c9)).setCell ⟨w.heap.size + 1, 3, none⟩ (.slice a13 x.r.length c13)) = w2 at *
              have d0 := hb2.c0
              have d1 := hb2.c1
              have d2 := hb2.c2
              have d3 := hb2.c3
              clear hb2
              go_wp2_with fail
              refine bodyPost_ret (v := .agg #[.int .i64 x.f, .slice a5 x.t.length c5, .slice a9 x.l.length c9, .slice a13 x.r.length c13]) (by simp [results, Try.results90, go_sem, d0, d1, d2, d3]) rfl ?_
              exact ⟨_, _, _, rfl, HIN.out, hx2⟩
      · refine wpOp_of_list rfl rfl (fun K hK => ?_)
        go_wp2_with fail
        refine ⟨KeepE.of (fun h => h.trans (Ext.alloc _ _)) (fun _ => trivial), ?_⟩
        have hx3 : Hid (Ext W2 (W2.alloc (.cells #[] 3))) := Lib.hid (Ext.alloc _ _)
        generalize W2.alloc (.cells #[] 3) = W3 at *
        have H3 : Hid (Ext w1 W3) := Lib.hid (H2.out.trans hx3.out)
        refine wpAnyE_each (i := 5) (is := []) (by kernel_rfl) ⟨?_, trivial⟩
        · refine wpOp_of_list rfl rfl (fun K hK => ?_)
          refine wpList_appendFresh elInts rfl _ _ rfl rfl rfl (HR.out.t.ext (hX1.trans H3.out)).raw (by omega) (by omega) ?_
          intro v5 W4 hx4 ho5
          go_wp2_with fail
          refine ⟨KeepE.of (fun h => h.trans hx4) (fun _ => trivial), ?_⟩
          replace hx4 := Lib.hid hx4
          have hi5_ := Lib.hid (FInts.new ho5); clear ho5
          have H4 : Hid (Ext w1 W4) := Lib.hid (H3.out.trans hx4.out)
          refine wpAnyE_each (i := 9) (is := []) (by kernel_rfl) ⟨?_, trivial⟩
          · refine wpOp_of_list rfl rfl (fun K hK => ?_)
            refine wpList_appendFresh elInts rfl _ _ rfl rfl rfl (HR.out.l.ext (hX1.trans H4.out)).raw (by omega) (by omega) ?_
            intro v9 W5 hx5 ho9
            go_wp2_with fail
            refine ⟨KeepE.of (fun h => h.trans hx5) (fun _ => trivial), ?_⟩
            replace hx5 := Lib.hid hx5
            have hi9_ := Lib.hid (FInts.new ho9); clear ho9
            have H5 : Hid (Ext w1 W5) := Lib.hid (H4.out.trans hx5.out)
            refine wpAnyE_each (i := 13) (is := []) (by kernel_rfl) ⟨?_, trivial⟩
            · refine wpOp_of_list rfl rfl (fun K hK => ?_)
              refine wpList_appendFresh elInts rfl _ _ rfl rfl rfl (HR.out.r.ext (hX1.trans H5.out)).raw (by omega) (by omega) ?_
              intro v13 W6 hx6 ho13
              go_wp2_with fail
              refine ⟨KeepE.of (fun h => h.trans hx6) (fun _ => trivial), ?_⟩
              replace hx6 := Lib.hid hx6
              have hi13_ := Lib.hid (FInts.new ho13); clear ho13
              have H6 : Hid (Ext w1 W6) := Lib.hid (H5.out.trans hx6.out)
              obtain ⟨a5, c5, rfl, _⟩ := hi5_.out.ints.open_
              obtain ⟨a9, c9, rfl, _⟩ := hi9_.out.ints.open_
              obtain ⟨a13, c13, rfl, _⟩ := hi13_.out.ints.open_
              refine wpAnyE_each (i := 14) (is := []) (by kernel_rfl) ⟨?_, trivial⟩
              refine wpOp_of_list rfl rfl (fun K hK => ?_)
              go_wp2_with fail
              refine ⟨KeepE.of id id, ?_⟩
              have hbx4 := hbx.ext H6.out
              have HIN := Lib.hid (FRul.kept (x := x) ⟨(((hi5_.out.ext hx5.out).ext hx6.out)).low (hE0.trans (hX1.trans H3.out)).size, ((hi9_.out.ext hx6.out)).low (hE0.trans (hX1.trans H4.out)).size, (hi13_.out).low (hE0.trans (hX1.trans H5.out)).size⟩ hbx4 (.int .i64 x.f) (.slice a5 x.t.length c5) (.slice a9 x.l.length c9) (.slice a13 x.r.length c13))
              have hXW := hE0.trans (hX1.trans H6.out)
              clear hbx
              have z0 := hbx4.c0
              have z1 := hbx4.c1
              have z2 := hbx4.c2
              have z3 := hbx4.c3
              have f0 := hbx4.frozen 0
              have f1 := hbx4.frozen 1
              have f2 := hbx4.frozen 2
              have f3 := hbx4.frozen 3
              refine wpAnyE_each (i := 15) (is := []) (by kernel_rfl) ⟨?_, trivial⟩
              refine wpOp_of_list rfl rfl (fun K hK => ?_)
              go_wp2_with fail
              refine ⟨⟨.inl (by simp), fun _ => trivial⟩, ?_⟩
              refine wpAnyE_done (by kernel_rfl) ?_
              have hb2 := hbx4.set (.int .i64 x.f) (.slice a5 x.t.length c5) (.slice a9 x.l.length c9) (.slice a13 x.r.length c13)
              have hx2 := BoxR.set_ext hXW (show w.heap.size ≤ w.heap.size + 1 by omega) (.int .i64 x.f) (.slice a5 x.t.length c5) (.slice a9 x.l.length c9) (.slice a13 x.r.length c13)
              clear hbx4 z0 z1 z2 z3 f0 f1 f2 f3
              generalize ((((W6.setCell ⟨w.heap.size + 1, 0, none⟩ (.int .i64 x.f)).setCell ⟨w.heap.size + 1, 1, none⟩ (.slice a5 x.t.length c5)).setCell ⟨w.heap.size + 1, 2, none⟩ (.slice a9 x.l.length c9)).setCell ⟨w.heap.size + 1, 3, none⟩ (.slice a13 x.r.length c13)) = w2 at *
              have d0 := hb2.c0
              have d1 := hb2.c1
              have d2 := hb2.c2
              have d3 := hb2.c3
              clear hb2
              go_wp2_with fail
              refine bodyPost_ret (v := .agg #[.int .i64 x.f, .slice a5 x.t.length c5, .slice a9 x.l.length c9, .slice a13 x.r.length c13]) (by simp [results, Try.results90, go_sem, d0, d1, d2, d3]) rfl ?_
              exact ⟨_, _, _, rfl, HIN.out, hx2⟩
    · refine wpOp_of_list rfl rfl (fun K hK => ?_)
      go_wp2_with fail
      refine ⟨KeepE.of (fun h => h.trans (Ext.alloc _ _)) (fun _ => trivial), ?_⟩
      have hx2 : Hid (Ext W1 (W1.alloc (.cells #[] 3))) := Lib.hid (Ext.alloc _ _)
      generalize W1.alloc (.cells #[] 3) = W2 at *
      have H2 : Hid (Ext w1 W2) := Lib.hid (H1.out.trans hx2.out)
      refine wpAnyE_each (i := 5) (is := [6]) (by kernel_rfl) ⟨?_, ?_, trivial⟩
      · refine wpOp_of_list rfl rfl (fun K hK => ?_)
        refine wpList_appendFresh elInts rfl _ _ rfl rfl rfl (HR.out.t.ext (hX1.trans H2.out)).raw (by omega) (by omega) ?_
        intro v5 W3 hx3 ho5
        go_wp2_with fail
        refine ⟨KeepE.of (fun h => h.trans hx3) (fun _ => trivial), ?_⟩
        replace hx3 := Lib.hid hx3
        have hi5_ := Lib.hid (FInts.new ho5); clear ho5
        have H3 : Hid (Ext w1 W3) := Lib.hid (H2.out.trans hx3.out)
        refine wpAnyE_each (i := 6) (is := []) (by kernel_rfl) ⟨?_, trivial⟩
        · refine wpOp_of_list rfl rfl (fun K hK => ?_)
          go_wp2_with fail
          refine ⟨KeepE.of (fun h => h.trans (Ext.alloc _ _)) (fun _ => trivial), ?_⟩
          have hx4 : Hid (Ext W3 (W3.alloc (.cells #[] 3))) := Lib.hid (Ext.alloc _ _)
          generalize W3.alloc (.cells #[] 3) = W4 at *
          have H4 : Hid (Ext w1 W4) := Lib.hid (H3.out.trans hx4.out)
          refine wpAnyE_each (i := 9) (is := []) (by kernel_rfl) ⟨?_, trivial⟩
          · refine wpOp_of_list rfl rfl (fun K hK => ?_)
            refine wpList_appendFresh elInts rfl _ _ rfl rfl rfl (HR.out.l.ext (hX1.trans H4.out)).raw (by omega) (by omega) ?_
            intro v9 W5 hx5 ho9
            go_wp2_with fail
            refine ⟨KeepE.of (fun h => h.trans hx5) (fun _ => trivial), ?_⟩
            replace hx5 := Lib.hid hx5
            have hi9_ := Lib.hid (FInts.new ho9); clear ho9
            have H5 : Hid (Ext w1 W5) := Lib.hid (H4.out.trans hx5.out)
            refine wpAnyE_each (i := 13) (is := []) (by kernel_rfl) ⟨?_, trivial⟩
            · refine wpOp_of_list rfl rfl (fun K hK => ?_)
              refine wpList_appendFresh elInts rfl _ _ rfl rfl rfl (HR.out.r.ext (hX1.trans H5.out)).raw (by omega) (by omega) ?_
              intro v13 W6 hx6 ho13
              go_wp2_with fail
              refine ⟨KeepE.of (fun h => h.trans hx6) (fun _ => trivial), ?_⟩
              replace hx6 := Lib.hid hx6
              have hi13_ := Lib.hid (FInts.new ho13); clear ho13
              have H6 : Hid (Ext w1 W6) := Lib.hid (H5.out.trans hx6.out)
              obtain ⟨a5, c5, rfl, _⟩ := hi5_.out.ints.open_
              obtain ⟨a9, c9, rfl, _⟩ := hi9_.out.ints.open_
              obtain ⟨a13, c13, rfl, _⟩ := hi13_.out.ints.open_
              refine wpAnyE_each (i := 14) (is := []) (by kernel_rfl) ⟨?_, trivial⟩
              refine wpOp_of_list rfl rfl (fun K hK => ?_)
              go_wp2_with fail
              refine ⟨KeepE.of id id, ?_⟩
              have hbx4 := hbx.ext H6.out
              have HIN := Lib.hid (FRul.kept (x := x) ⟨((((hi5_.out.ext hx4.out).ext hx5.out).ext hx6.out)).low (hE0.trans (hX1.trans H2.out)).size, ((hi9_.out.ext hx6.out)).low (hE0.trans (hX1.trans H4.out)).size, (hi13_.out).low (hE0.trans (hX1.trans H5.out)).size⟩ hbx4 (.int .i64 x.f) (.slice a5 x.t.length c5) (.slice a9 x.l.length c9) (.slice a13 x.r.length c13))
              have hXW := hE0.trans (hX1.trans H6.out)
              clear hbx
              have z0 := hbx4.c0
              have z1 := hbx4.c1
              have z2 := hbx4.c2
              have z3 := hbx4.c3
              have f0 := hbx4.frozen 0
              have f1 := hbx4.frozen 1
              have f2 := hbx4.frozen 2
              have f3 := hbx4.frozen 3
              refine wpAnyE_each (i := 15) (is := []) (by kernel_rfl) ⟨?_, trivial⟩
              refine wpOp_of_list rfl rfl (fun K hK => ?_)
              go_wp2_with fail
              refine ⟨⟨.inl (by simp), fun _ => trivial⟩, ?_⟩
              refine wpAnyE_done (by kernel_rfl) ?_
              have hb2 := hbx4.set (.int .i64 x.f) (.slice a5 x.t.length c5) (.slice a9 x.l.length c9) (.slice a13 x.r.length c13)
              have hx2 := BoxR.set_ext hXW (show w.heap.size ≤ w.heap.size + 1 by omega) (.int .i64 x.f) (.slice a5 x.t.length c5) (.slice a9 x.l.length c9) (.slice a13 x.r.length c13)
              clear hbx4 z0 z1 z2 z3 f0 f1 f2 f3
              generalize ((((W6.setCell ⟨w.heap.size + 1, 0, none⟩ (.int .i64 x.f)).setCell ⟨w.heap.size + 1, 1, none⟩ (.slice a5 x.t.length c5)).setCell ⟨w.heap.size + 1, 2, none⟩ (.slice a9 x.l.length c9)).setCell ⟨w.heap.size + 1, 3, none⟩ (.slice a13 x.r.length c13)) = w2 at *
              have d0 := hb2.c0
              have d1 := hb2.c1
              have d2 := hb2.c2
              have d3 := hb2.c3
              clear hb2
              go_wp2_with fail
              refine bodyPost_ret (v := .agg #[.int .i64 x.f, .slice a5 x.t.length c5, .slice a9 x.l.length c9, .slice a13 x.r.length c13]) (by simp [results, Try.results90, go_sem, d0, d1, d2, d3]) rfl ?_
              exact ⟨_, _, _, rfl, HIN.out, hx2⟩
      · refine wpOp_of_list rfl rfl (fun K hK => ?_)
        go_wp2_with fail
        refine ⟨KeepE.of (fun h => h.trans (Ext.alloc _ _)) (fun _ => trivial), ?_⟩
        have hx3 : Hid (Ext W2 (W2.alloc (.cells #[] 3))) := Lib.hid (Ext.alloc _ _)
        generalize W2.alloc (.cells #[] 3) = W3 at *
        have H3 : Hid (Ext w1 W3) := Lib.hid (H2.out.trans hx3.out)
        refine wpAnyE_each (i := 5) (is := []) (by kernel_rfl) ⟨?_, trivial⟩
        · refine wpOp_of_list rfl rfl (fun K hK => ?_)
          refine wpList_appendFresh elInts rfl _ _ rfl rfl rfl (HR.out.t.ext (hX1.trans H3.out)).raw (by omega) (by omega) ?_
          intro v5 W4 hx4 ho5
          go_wp2_with fail
          refine ⟨KeepE.of (fun h => h.trans hx4) (fun _ => trivial), ?_⟩
          replace hx4 := Lib.hid hx4
          have hi5_ := Lib.hid (FInts.new ho5); clear ho5
          have H4 : Hid (Ext w1 W4) := Lib.hid (H3.out.trans hx4.out)
          refine wpAnyE_each (i := 9) (is := []) (by kernel_rfl) ⟨?_, trivial⟩
          · refine wpOp_of_list rfl rfl (fun K hK => ?_)
            refine wpList_appendFresh elInts rfl _ _ rfl rfl rfl (HR.out.l.ext (hX1.trans H4.out)).raw (by omega) (by omega) ?_
            intro v9 W5 hx5 ho9
            go_wp2_with fail
            refine ⟨KeepE.of (fun h => h.trans hx5) (fun _ => trivial), ?_⟩
            replace hx5 := Lib.hid hx5
            have hi9_ := Lib.hid (FInts.new ho9); clear ho9
            have H5 : Hid (Ext w1 W5) := Lib.hid (H4.out.trans hx5.out)
            refine wpAnyE_each (i := 13) (is := []) (by kernel_rfl) ⟨?_, trivial⟩
            · refine wpOp_of_list rfl rfl (fun K hK => ?_)
              refine wpList_appendFresh elInts rfl _ _ rfl rfl rfl (HR.out.r.ext (hX1.trans H5.out)).raw (by omega) (by omega) ?_
              intro v13 W6 hx6 ho13
              go_wp2_with fail
              refine ⟨KeepE.of (fun h => h.trans hx6) (fun _ => trivial), ?_⟩
              replace hx6 := Lib.hid hx6
              have hi13_ := Lib.hid (FInts.new ho13); clear ho13
              have H6 : Hid (Ext w1 W6) := Lib.hid (H5.out.trans hx6.out)
              obtain ⟨a5, c5, rfl, _⟩ := hi5_.out.ints.open_
              obtain ⟨a9, c9, rfl, _⟩ := hi9_.out.ints.open_
              obtain ⟨a13, c13, rfl, _⟩ := hi13_.out.ints.open_
              refine wpAnyE_each (i := 14) (is := []) (by kernel_rfl) ⟨?_, trivial⟩
              refine wpOp_of_list rfl rfl (fun K hK => ?_)
              go_wp2_with fail
              refine ⟨KeepE.of id id, ?_⟩
              have hbx4 := hbx.ext H6.out
              have HIN := Lib.hid (FRul.kept (x := x) ⟨(((hi5_.out.ext hx5.out).ext hx6.out)).low (hE0.trans (hX1.trans H3.out)).size, ((hi9_.out.ext hx6.out)).low (hE0.trans (hX1.trans H4.out)).size, (hi13_.out).low (hE0.trans (hX1.trans H5.out)).size⟩ hbx4 (.int .i64 x.f) (.slice a5 x.t.length c5) (.slice a9 x.l.length c9) (.slice a13 x.r.length c13))
              have hXW := hE0.trans (hX1.trans H6.out)
              clear hbx
              have z0 := hbx4.c0
              have z1 := hbx4.c1
              have z2 := hbx4.c2
              have z3 := hbx4.c3
              have f0 := hbx4.frozen 0
              have f1 := hbx4.frozen 1
              have f2 := hbx4.frozen 2
              have f3 := hbx4.frozen 3
              refine wpAnyE_each (i := 15) (is := []) (by kernel_rfl) ⟨?_, trivial⟩
              refine wpOp_of_list rfl rfl (fun K hK => ?_)
              go_wp2_with fail
              refine ⟨⟨.inl (by simp), fun _ => trivial⟩, ?_⟩
              refine wpAnyE_done (by kernel_rfl) ?_
              have hb2 := hbx4.set (.int .i64 x.f) (.slice a5 x.t.length c5) (.slice a9 x.l.length c9) (.slice a13 x.r.length c13)
              have hx2 := BoxR.set_ext hXW (show w.heap.size ≤ w.heap.size + 1 by omega) (.int .i64 x.f) (.slice a5 x.t.length c5) (.slice a9 x.l.length c9) (.slice a13 x.r.length c13)
              clear hbx4 z0 z1 z2 z3 f0 f1 f2 f3
              generalize ((((W6.setCell ⟨w.heap.size + 1, 0, none⟩ (.int .i64 x.f)).setCell ⟨w.heap.size + 1, 1, none⟩ (.slice a5 x.t.length c5)).setCell ⟨w.heap.size + 1, 2, none⟩ (.slice a9 x.l.length c9)).setCell ⟨w.heap.size + 1, 3, none⟩ (.slice a13 x.r.length c13)) = w2 at *
              have d0 := hb2.c0
              have d1 := hb2.c1
              have d2 := hb2.c2
              have d3 := hb2.c3
              clear hb2
              go_wp2_with fail
              refine bodyPost_ret (v := .agg #[.int .i64 x.f, .slice a5 x.t.length c5, .slice a9 x.l.length c9, .slice a13 x.r.length c13]) (by simp [results, Try.results90, go_sem, d0, d1, d2, d3]) rfl ?_
              exact ⟨_, _, _, rfl, HIN.out, hx2⟩
  · refine wpOp_of_list rfl rfl (fun K hK => ?_)
    go_wp2_with fail
    refine ⟨KeepE.of (fun h => h.trans (Ext.alloc _ _)) (fun _ => trivial), ?_⟩
    have hx1 : Hid (Ext W0 (W0.alloc (.cells #[] 3))) := Lib.hid (Ext.alloc _ _)
    generalize W0.alloc (.cells #[] 3) = W1 at *
    have H1 : Hid (Ext w1 W1) := Lib.hid (H0.out.trans hx1.out)
    refine wpAnyE_each (i := 2) (is := [10]) (by kernel_rfl) ⟨?_, ?_, trivial⟩
    · refine wpOp_of_list rfl rfl (fun K hK => ?_)
      go_wp2_with fail
      refine ⟨KeepE.of (fun h => h.trans (Ext.alloc _ _)) (fun _ => trivial), ?_⟩
      have hx2 : Hid (Ext W1 (W1.alloc (.cells #[] 3))) := Lib.hid (Ext.alloc _ _)
      generalize W1.alloc (.cells #[] 3) = W2 at *
      have H2 : Hid (Ext w1 W2) := Lib.hid (H1.out.trans hx2.out)
      refine wpAnyE_each (i := 5) (is := [10]) (by kernel_rfl) ⟨?_, ?_, trivial⟩
      · refine wpOp_of_list rfl rfl (fun K hK => ?_)
        refine wpList_appendFresh elInts rfl _ _ rfl rfl rfl (HR.out.t.ext (hX1.trans H2.out)).raw (by omega) (by omega) ?_
        intro v5 W3 hx3 ho5
        go_wp2_with fail
        refine ⟨KeepE.of (fun h => h.trans hx3) (fun _ => trivial), ?_⟩
        replace hx3 := Lib.hid hx3
        have hi5_ := Lib.hid (FInts.new ho5); clear ho5
        have H3 : Hid (Ext w1 W3) := Lib.hid (H2.out.trans hx3.out)
        refine wpAnyE_each (i := 9) (is := [10]) (by kernel_rfl) ⟨?_, ?_, trivial⟩
        · refine wpOp_of_list rfl rfl (fun K hK => ?_)
          refine wpList_appendFresh elInts rfl _ _ rfl rfl rfl (HR.out.l.ext (hX1.trans H3.out)).raw (by omega) (by omega) ?_
          intro v9 W4 hx4 ho9
          go_wp2_with fail
          refine ⟨KeepE.of (fun h => h.trans hx4) (fun _ => trivial), ?_⟩
          replace hx4 := Lib.hid hx4
          have hi9_ := Lib.hid (FInts.new ho9); clear ho9
          have H4 : Hid (Ext w1 W4) := Lib.hid (H3.out.trans hx4.out)
          refine wpAnyE_each (i := 10) (is := []) (by kernel_rfl) ⟨?_, trivial⟩
          · refine wpOp_of_list rfl rfl (fun K hK => ?_)
            go_wp2_with fail
            refine ⟨KeepE.of (fun h => h.trans (Ext.alloc _ _)) (fun _ => trivial), ?_⟩
            have hx5 : Hid (Ext W4 (W4.alloc (.cells #[] 3))) := Lib.hid (Ext.alloc _ _)
            generalize W4.alloc (.cells #[] 3) = W5 at *
            have H5 : Hid (Ext w1 W5) := Lib.hid (H4.out.trans hx5.out)
            refine wpAnyE_each (i := 13) (is := []) (by kernel_rfl) ⟨?_, trivial⟩
            · refine wpOp_of_list rfl rfl (fun K hK => ?_)
              refine wpList_appendFresh elInts rfl _ _ rfl rfl rfl (HR.out.r.ext (hX1.trans H5.out)).raw (by omega) (by omega) ?_
              intro v13 W6 hx6 ho13
              go_wp2_with fail
              refine ⟨KeepE.of (fun h => h.trans hx6) (fun _ => trivial), ?_⟩
              replace hx6 := Lib.hid hx6
              have hi13_ := Lib.hid (FInts.new ho13); clear ho13
              have H6 : Hid (Ext w1 W6) := Lib.hid (H5.out.trans hx6.out)
              obtain ⟨a5, c5, rfl, _⟩ := hi5_.out.ints.open_
              obtain ⟨a9, c9, rfl, _⟩ := hi9_.out.ints.open_
              obtain ⟨a13, c13, rfl, _⟩ := hi13_.out.ints.open_
              refine wpAnyE_each (i := 14) (is := []) (by kernel_rfl) ⟨?_, trivial⟩
              refine wpOp_of_list rfl rfl (fun K hK => ?_)
              go_wp2_with fail
              refine ⟨KeepE.of id id, ?_⟩
              have hbx4 := hbx.ext H6.out
              have HIN := Lib.hid (FRul.kept (x := x) ⟨((((hi5_.out.ext hx4.out).ext hx5.out).ext hx6.out)).low (hE0.trans (hX1.trans H2.out)).size, (((hi9_.out.ext hx5.out).ext hx6.out)).low (hE0.trans (hX1.trans H3.out)).size, (hi13_.out).low (hE0.trans (hX1.trans H5.out)).size⟩ hbx4 (.int .i64 x.f) (.slice a5 x.t.length c5) (.slice a9 x.l.length c9) (.slice a13 x.r.length c13))
              have hXW := hE0.trans (hX1.trans H6.out)
              clear hbx
              have z0 := hbx4.c0
              have z1 := hbx4.c1
              have z2 := hbx4.c2
              have z3 := hbx4.c3
              have f0 := hbx4.frozen 0
              have f1 := hbx4.frozen 1
              have f2 := hbx4.frozen 2
              have f3 := hbx4.frozen 3
              refine wpAnyE_each (i := 15) (is := []) (by kernel_rfl) ⟨?_, trivial⟩
              refine wpOp_of_list rfl rfl (fun K hK => ?_)
              go_wp2_with fail
              refine ⟨⟨.inl (by simp), fun _ => trivial⟩, ?_⟩
              refine wpAnyE_done (by kernel_rfl) ?_
              have hb2 := hbx4.set (.int .i64 x.f) (.slice a5 x.t.length c5) (.slice a9 x.l.length c9) (.slice a13 x.r.length c13)
              have hx2 := BoxR.set_ext hXW (show w.heap.size ≤ w.heap.size + 1 by omega) (.int .i64 x.f) (.slice a5 x.t.length c5) (.slice a9 x.l.length c9) (.slice a13 x.r.length c13)
              clear hbx4 z0 z1 z2 z3 f0 f1 f2 f3
              generalize ((((W6.setCell ⟨w.heap.size + 1, 0, none⟩ (.int .i64 x.f)).setCell ⟨w.heap.size + 1, 1, none⟩ (.slice a5 x.t.length c5)).setCell ⟨w.heap.size + 1, 2, none⟩ (.slice a9 x.l.length c9)).setCell ⟨w.heap.size + 1, 3, none⟩ (.slice a13 x.r.length c13)) = w2 at *
              have d0 := hb2.c0
              have d1 := hb2.c1
              have d2 := hb2.c2
              have d3 := hb2.c3
              clear hb2
              go_wp2_with fail
              refine bodyPost_ret (v := .agg #[.int .i64 x.f, .slice a5 x.t.length c5, .slice a9 x.l.length c9, .slice a13 x.r.length c13]) (by simp [results, Try.results90, go_sem, d0, d1, d2, d3]) rfl ?_
              exact ⟨_, _, _, rfl, HIN.out, hx2⟩
        · refine wpOp_of_list rfl rfl (fun K hK => ?_)
          go_wp2_with fail
          refine ⟨KeepE.of (fun h => h.trans (Ext.alloc _ _)) (fun _ => trivial), ?_⟩
          have hx4 : Hid (Ext W3 (W3.alloc (.cells #[] 3))) := Lib.hid (Ext.alloc _ _)
          generalize W3.alloc (.cells #[] 3) = W4 at *
          have H4 : Hid (Ext w1 W4) := Lib.hid (H3.out.trans hx4.out)
          refine wpAnyE_each (i := 9) (is := []) (by kernel_rfl) ⟨?_, trivial⟩
          · refine wpOp_of_list rfl rfl (fun K hK => ?_)
            refine wpList_appendFresh elInts rfl _ _ rfl rfl rfl (HR.out.l.ext (hX1.trans H4.out)).raw (by omega) (by omega) ?_
            intro v9 W5 hx5 ho9
            go_wp2_with fail
            refine ⟨KeepE.of (fun h => h.trans hx5) (fun _ => trivial), ?_⟩
            replace hx5 := Lib.hid hx5
            have hi9_ := Lib.hid (FInts.new ho9); clear ho9
            have H5 : Hid (Ext w1 W5) := Lib.hid (H4.out.trans hx5.out)
            refine wpAnyE_each (i := 13) (is := []) (by kernel_rfl) ⟨?_, trivial⟩
            · refine wpOp_of_list rfl rfl (fun K hK => ?_)
              refine wpList_appendFresh elInts rfl _ _ rfl rfl rfl (HR.out.r.ext (hX1.trans H5.out)).raw (by omega) (by omega) ?_
              intro v13 W6 hx6 ho13
              go_wp2_with fail
              refine ⟨KeepE.of (fun h => h.trans hx6) (fun _ => trivial), ?_⟩
              replace hx6 := Lib.hid hx6
              have hi13_ := Lib.hid (FInts.new ho13); clear ho13
              have H6 : Hid (Ext w1 W6) := Lib.hid (H5.out.trans hx6.out)
              obtain ⟨a5, c5, rfl, _⟩ := hi5_.out.ints.open_
              obtain ⟨a9, c9, rfl, _⟩ := hi9_.out.ints.open_
              obtain ⟨a13, c13, rfl, _⟩ := hi13_.out.ints.open_
              refine wpAnyE_each (i := 14) (is := []) (by kernel_rfl) ⟨?_, trivial⟩
              refine wpOp_of_list rfl rfl (fun K hK => ?_)
              go_wp2_with fail
              refine ⟨KeepE.of id id, ?_⟩
              have hbx4 := hbx.ext H6.out
              have HIN := Lib.hid (FRul.kept (x := x) ⟨((((hi5_.out.ext hx4.out).ext hx5.out).ext hx6.out)).low (hE0.trans (hX1.trans H2.out)).size, ((hi9_.out.ext hx6.out)).low (hE0.trans (hX1.trans H4.out)).size, (hi13_.out).low (hE0.trans (hX1.trans H5.out)).size⟩ hbx4 (.int .i64 x.f) (.slice a5 x.t.length c5) (.slice a9 x.l.length c9) (.slice a13 x.r.length c13))
              have hXW := hE0.trans (hX1.trans H6.out)
              clear hbx
              have z0 := hbx4.c0
              have z1 := hbx4.c1
              have z2 := hbx4.c2
              have z3 := hbx4.c3
              have f0 := hbx4.frozen 0
              have f1 := hbx4.frozen 1
              have f2 := hbx4.frozen 2
              have f3 := hbx4.frozen 3
              refine wpAnyE_each (i := 15) (is := []) (by kernel_rfl) ⟨?_, trivial⟩
              refine wpOp_of_list rfl rfl (fun K hK => ?_)
              go_wp2_with fail
              refine ⟨⟨.inl (by simp), fun _ => trivial⟩, ?_⟩
              refine wpAnyE_done (by kernel_rfl) ?_
              have hb2 := hbx4.set (.int .i64 x.f) (.slice a5 x.t.length c5) (.slice a9 x.l.length c9) (.slice a13 x.r.length c13)
              have hx2 := BoxR.set_ext hXW (show w.heap.size ≤ w.heap.size + 1 by omega) (.int .i64 x.f) (.slice a5 x.t.length c5) (.slice a9 x.l.length c9) (.slice a13 x.r.length c13)
              clear hbx4 z0 z1 z2 z3 f0 f1 f2 f3
              generalize ((((W6.setCell ⟨w.heap.size + 1, 0, none⟩ (.int .i64 x.f)).setCell ⟨w.heap.size + 1, 1, none⟩ (.slice a5 x.t.length c5)).setCell ⟨w.heap.size + 1, 2, none⟩ (.slice a9 x.l.length c9)).setCell ⟨w.heap.size + 1, 3, none⟩ (.slice a13 x.r.length c13)) = w2 at *
              have d0 := hb2.c0
              have d1 := hb2.c1
              have d2 := hb2.c2
              have d3 := hb2.c3
              clear hb2
              go_wp2_with fail
              refine bodyPost_ret (v := .agg #[.int .i64 x.f, .slice a5 x.t.length c5, .slice a9 x.l.length c9, .slice a13 x.r.length c13]) (by simp [results, Try.results90, go_sem, d0, d1, d2, d3]) rfl ?_
              exact ⟨_, _, _, rfl, HIN.out, hx2⟩
      · refine wpOp_of_list rfl rfl (fun K hK => ?_)
        go_wp2_with fail
        refine ⟨KeepE.of (fun h => h.trans (Ext.alloc _ _)) (fun _ => trivial), ?_⟩
        have hx3 : Hid (Ext W2 (W2.alloc (.cells #[] 3))) := Lib.hid (Ext.alloc _ _)
        generalize W2.alloc (.cells #[] 3) = W3 at *
        have H3 : Hid (Ext w1 W3) := Lib.hid (H2.out.trans hx3.out)
        refine wpAnyE_each (i := 5) (is := []) (by kernel_rfl) ⟨?_, trivial⟩
        · refine wpOp_of_list rfl rfl (fun K hK => ?_)
          refine wpList_appendFresh elInts rfl _ _ rfl rfl rfl (HR.out.t.ext (hX1.trans H3.out)).raw (by omega) (by omega) ?_
          intro v5 W4 hx4 ho5
          go_wp2_with fail
          refine ⟨KeepE.of (fun h => h.trans hx4) (fun _ => trivial), ?_⟩
          replace hx4 := Lib.hid hx4
          have hi5_ := Lib.hid (FInts.new ho5); clear ho5
          have H4 : Hid (Ext w1 W4) := Lib.hid (H3.out.trans hx4.out)
          refine wpAnyE_each (i := 9) (is := []) (by kernel_rfl) ⟨?_, trivial⟩
          · refine wpOp_of_list rfl rfl (fun K hK => ?_)
            refine wpList_appendFresh elInts rfl _ _ rfl rfl rfl (HR.out.l.ext (hX1.trans H4.out)).raw (by omega) (by omega) ?_
            intro v9 W5 hx5 ho9
            go_wp2_with fail
            refine ⟨KeepE.of (fun h => h.trans hx5) (fun _ => trivial), ?_⟩
            replace hx5 := Lib.hid hx5
            have hi9_ := Lib.hid (FInts.new ho9); clear ho9
            have H5 : Hid (Ext w1 W5) := Lib.hid (H4.out.trans hx5.out)
            refine wpAnyE_each (i := 13) (is := []) (by kernel_rfl) ⟨?_, trivial⟩
            · refine wpOp_of_list rfl rfl (fun K hK => ?_)
              refine wpList_appendFresh elInts rfl _ _ rfl rfl rfl (HR.out.r.ext (hX1.trans H5.out)).raw (by omega) (by omega) ?_
              intro v13 W6 hx6 ho13
              go_wp2_with fail
              refine ⟨KeepE.of (fun h => h.trans hx6) (fun _ => trivial), ?_⟩
              replace hx6 := Lib.hid hx6
              have hi13_ := Lib.hid (FInts.new ho13); clear ho13
              have H6 : Hid (Ext w1 W6) := Lib.hid (H5.out.trans hx6.out)
              obtain ⟨a5, c5, rfl, _⟩ := hi5_.out.ints.open_
              obtain ⟨a9, c9, rfl, _⟩ := hi9_.out.ints.open_
              obtain ⟨a13, c13, rfl, _⟩ := hi13_.out.ints.open_
              refine wpAnyE_each (i := 14) (is := []) (by kernel_rfl) ⟨?_, trivial⟩
              refine wpOp_of_list rfl rfl (fun K hK => ?_)
              go_wp2_with fail
              refine ⟨KeepE.of id id, ?_⟩
              have hbx4 := hbx.ext H6.out
              have HIN := Lib.hid (FRul.kept (x := x) ⟨(((hi5_.out.ext hx5.out).ext hx6.out)).low (hE0.trans (hX1.trans H3.out)).size, ((hi9_.out.ext hx6.out)).low (hE0.trans (hX1.trans H4.out)).size, (hi13_.out).low (hE0.trans (hX1.trans H5.out)).size⟩ hbx4 (.int .i64 x.f) (.slice a5 x.t.length c5) (.slice a9 x.l.length c9) (.slice a13 x.r.length c13))
              have hXW := hE0.trans (hX1.trans H6.out)
              clear hbx
              have z0 := hbx4.c0
              have z1 := hbx4.c1
              have z2 := hbx4.c2
              have z3 := hbx4.c3
              have f0 := hbx4.frozen 0
              have f1 := hbx4.frozen 1
              have f2 := hbx4.frozen 2
              have f3 := hbx4.frozen 3
              refine wpAnyE_each (i := 15) (is := []) (by kernel_rfl) ⟨?_, trivial⟩
              refine wpOp_of_list rfl rfl (fun K hK => ?_)
              go_wp2_with fail
              refine ⟨⟨.inl (by simp), fun _ => trivial⟩, ?_⟩
              refine wpAnyE_done (by kernel_rfl) ?_
              have hb2 := hbx4.set (.int .i64 x.f) (.slice a5 x.t.length c5) (.slice a9 x.l.length c9) (.slice a13 x.r.length c13)
              have hx2 := BoxR.set_ext hXW (show w.heap.size ≤ w.heap.size + 1 by omega) (.int .i64 x.f) (.slice a5 x.t.length c5) (.slice a9 x.l.length c9) (.slice a13 x.r.length c13)
              clear hbx4 z0 z1 z2 z3 f0 f1 f2 f3
              generalize ((((W6.setCell ⟨w.heap.size + 1, 0, none⟩ (.int .i64 x.f)).setCell ⟨w.heap.size + 1, 1, none⟩ (.slice a5 x.t.length c5)).setCell ⟨w.heap.size + 1, 2, none⟩ (.slice a9 x.l.length c9)).setCell ⟨w.heap.size + 1, 3, none⟩ (.slice a13 x.r.length c13)) = w2 at *
              have d0 := hb2.c0
              have d1 := hb2.c1
              have d2 := hb2.c2
              have d3 := hb2.c3
              clear hb2
              go_wp2_with fail
              refine bodyPost_ret (v := .agg #[.int .i64 x.f, .slice a5 x.t.length c5, .slice a9 x.l.length c9, .slice a13 x.r.length c13]) (by simp [results, Try.results90, go_sem, d0, d1, d2, d3]) rfl ?_
              exact ⟨_, _, _, rfl, HIN.out, hx2⟩
    · refine wpOp_of_list rfl rfl (fun K hK => ?_)
      go_wp2_with fail
      refine ⟨KeepE.of (fun h => h.trans (Ext.alloc _ _)) (fun _ => trivial), ?_⟩
      have hx2 : Hid (Ext W1 (W1.alloc (.cells #[] 3))) := Lib.hid (Ext.alloc _ _)
      generalize W1.alloc (.cells #[] 3) = W2 at *
      have H2 : Hid (Ext w1 W2) := Lib.hid (H1.out.trans hx2.out)
      refine wpAnyE_each (i := 2) (is := []) (by kernel_rfl) ⟨?_, trivial⟩
      · refine wpOp_of_list rfl rfl (fun K hK => ?_)
        go_wp2_with fail
        refine ⟨KeepE.of (fun h => h.trans (Ext.alloc _ _)) (fun _ => trivial), ?_⟩
        have hx3 : Hid (Ext W2 (W2.alloc (.cells #[] 3))) := Lib.hid (Ext.alloc _ _)
        generalize W2.alloc (.cells #[] 3) = W3 at *
        have H3 : Hid (Ext w1 W3) := Lib.hid (H2.out.trans hx3.out)
        refine wpAnyE_each (i := 5) (is := []) (by kernel_rfl) ⟨?_, trivial⟩
        · refine wpOp_of_list rfl rfl (fun K hK => ?_)
          refine wpList_appendFresh elInts rfl _ _ rfl rfl rfl (HR.out.t.ext (hX1.trans H3.out)).raw (by omega) (by omega) ?_
          intro v5 W4 hx4 ho5
          go_wp2_with fail
          refine ⟨KeepE.of (fun h => h.trans hx4) (fun _ => trivial), ?_⟩
          replace hx4 := Lib.hid hx4
          have hi5_ := Lib.hid (FInts.new ho5); clear ho5
          have H4 : Hid (Ext w1 W4) := Lib.hid (H3.out.trans hx4.out)
          refine wpAnyE_each (i := 9) (is := []) (by kernel_rfl) ⟨?_, trivial⟩
          · refine wpOp_of_list rfl rfl (fun K hK => ?_)
            refine wpList_appendFresh elInts rfl _ _ rfl rfl rfl (HR.out.l.ext (hX1.trans H4.out)).raw (by omega) (by omega) ?_
            intro v9 W5 hx5 ho9
            go_wp2_with fail
            refine ⟨KeepE.of (fun h => h.trans hx5) (fun _ => trivial), ?_⟩
            replace hx5 := Lib.hid hx5
            have hi9_ := Lib.hid (FInts.new ho9); clear ho9
            have H5 : Hid (Ext w1 W5) := Lib.hid (H4.out.trans hx5.out)
            refine wpAnyE_each (i := 13) (is := []) (by kernel_rfl) ⟨?_, trivial⟩
            · refine wpOp_of_list rfl rfl (fun K hK => ?_)
              refine wpList_appendFresh elInts rfl _ _ rfl rfl rfl (HR.out.r.ext (hX1.trans H5.out)).raw (by omega) (by omega) ?_
              intro v13 W6 hx6 ho13
              go_wp2_with fail
              refine ⟨KeepE.of (fun h => h.trans hx6) (fun _ => trivial), ?_⟩
              replace hx6 := Lib.hid hx6
              have hi13_ := Lib.hid (FInts.new ho13); clear ho13
              have H6 : Hid (Ext w1 W6) := Lib.hid (H5.out.trans hx6.out)
              obtain ⟨a5, c5, rfl, _⟩ := hi5_.out.ints.open_
              obtain ⟨a9, c9, rfl, _⟩ := hi9_.out.ints.open_
              obtain ⟨a13, c13, rfl, _⟩ := hi13_.out.ints.open_
              refine wpAnyE_each (i := 14) (is := []) (by kernel_rfl) ⟨?_, trivial⟩
              refine wpOp_of_list rfl rfl (fun K hK => ?_)
              go_wp2_with fail
              refine ⟨KeepE.of id id, ?_⟩
              have hbx4 := hbx.ext H6.out
              have HIN := Lib.hid (FRul.kept (x := x) ⟨(((hi5_.out.ext hx5.out).ext hx6.out)).low (hE0.trans (hX1.trans H3.out)).size, ((hi9_.out.ext hx6.out)).low (hE0.trans (hX1.trans H4.out)).size, (hi13_.out).low (hE0.trans (hX1.trans H5.out)).size⟩ hbx4 (.int .i64 x.f) (.slice a5 x.t.length c5) (.slice a9 x.l.length c9) (.slice a13 x.r.length c13))
              have hXW := hE0.trans (hX1.trans H6.out)
              clear hbx
              have z0 := hbx4.c0
              have z1 := hbx4.c1
              have z2 := hbx4.c2
              have z3 := hbx4.c3
              have f0 := hbx4.frozen 0
              have f1 := hbx4.frozen 1
              have f2 := hbx4.frozen 2
              have f3 := hbx4.frozen 3
              refine wpAnyE_each (i := 15) (is := []) (by kernel_rfl) ⟨?_, trivial⟩
              refine wpOp_of_list rfl rfl (fun K hK => ?_)
              go_wp2_with fail
              refine ⟨⟨.inl (by simp), fun _ => trivial⟩, ?_⟩
              refine wpAnyE_done (by kernel_rfl) ?_
              have hb2 := hbx4.set (.int .i64 x.f) (.slice a5 x.t.length c5) (.slice a9 x.l.length c9) (.slice a13 x.r.length c13)
              have hx2 := BoxR.set_ext hXW (show w.heap.size ≤ w.heap.size + 1 by omega) (.int .i64 x.f) (.slice a5 x.t.length c5) (.slice a9 x.l.length c9) (.slice a13 x.r.length c13)
              clear hbx4 z0 z1 z2 z3 f0 f1 f2 f3
              generalize ((((W6.setCell ⟨w.heap.size + 1, 0, none⟩ (.int .i64 x.f)).setCell ⟨w.heap.size + 1, 1, none⟩ (.slice a5 x.t.length c5)).setCell ⟨w.heap.size + 1, 2, none⟩ (.slice a9 x.l.length c9)).setCell ⟨w.heap.size + 1, 3, none⟩ (.slice a13 x.r.length c13)) = w2 at *
              have d0 := hb2.c0
              have d1 := hb2.c1
              have d2 := hb2.c2
              have d3 := hb2.c3
              clear hb2
              go_wp2_with fail
              refine bodyPost_ret (v := .agg #[.int .i64 x.f, .slice a5 x.t.length c5, .slice a9 x.l.length c9, .slice a13 x.r.length c13]) (by simp [results, Try.results90, go_sem, d0, d1, d2, d3]) rfl ?_
              exact ⟨_, _, _, rfl, HIN.out, hx2⟩
  · refine wpOp_of_list rfl rfl (fun K hK => ?_)
    go_wp2_with fail
    refine ⟨KeepE.of (fun h => h.trans (Ext.alloc _ _)) (fun _ => trivial), ?_⟩
    have hx1 : Hid (Ext W0 (W0.alloc (.cells #[] 3))) := Lib.hid (Ext.alloc _ _)
    generalize W0.alloc (.cells #[] 3) = W1 at *
    have H1 : Hid (Ext w1 W1) := Lib.hid (H0.out.trans hx1.out)
    refine wpAnyE_each (i := 2) (is := [6]) (by kernel_rfl) ⟨?_, ?_, trivial⟩
    · refine wpOp_of_list rfl rfl (fun K hK => ?_)
      go_wp2_with fail
      refine ⟨KeepE.of (fun h => h.trans (Ext.alloc _ _)) (fun _ => trivial), ?_⟩
      have hx2 : Hid (Ext W1 (W1.alloc (.cells #[] 3))) := Lib.hid (Ext.alloc _ _)
      generalize W1.alloc (.cells #[] 3) = W2 at *
      have H2 : Hid (Ext w1 W2) := Lib.hid (H1.out.trans hx2.out)
      refine wpAnyE_each (i := 5) (is := [6]) (by kernel_rfl) ⟨?_, ?_, trivial⟩
      · refine wpOp_of_list rfl rfl (fun K hK => ?_)
        refine wpList_appendFresh elInts rfl _ _ rfl rfl rfl (HR.out.t.ext (hX1.trans H2.out)).raw (by omega) (by omega) ?_
        intro v5 W3 hx3 ho5
        go_wp2_with fail
        refine ⟨KeepE.of (fun h => h.trans hx3) (fun _ => trivial), ?_⟩
        replace hx3 := Lib.hid hx3
        have hi5_ := Lib.hid (FInts.new ho5); clear ho5
        have H3 : Hid (Ext w1 W3) := Lib.hid (H2.out.trans hx3.out)
        refine wpAnyE_each (i := 6) (is := []) (by kernel_rfl) ⟨?_, trivial⟩
        · refine wpOp_of_list rfl rfl (fun K hK => ?_)
          go_wp2_with fail
          refine ⟨KeepE.of (fun h => h.trans (Ext.alloc _ _)) (fun _ => trivial), ?_⟩
          have hx4 : Hid (Ext W3 (W3.alloc (.cells #[] 3))) := Lib.hid (Ext.alloc _ _)
          generalize W3.alloc (.cells #[] 3) = W4 at *
          have H4 : Hid (Ext w1 W4) := Lib.hid (H3.out.trans hx4.out)
          refine wpAnyE_each (i := 9) (is := []) (by kernel_rfl) ⟨?_, trivial⟩
          · refine wpOp_of_list rfl rfl (fun K hK => ?_)
            refine wpList_appendFresh elInts rfl _ _ rfl rfl rfl (HR.out.l.ext (hX1.trans H4.out)).raw (by omega) (by omega) ?_
            intro v9 W5 hx5 ho9
            go_wp2_with fail
            refine ⟨KeepE.of (fun h => h.trans hx5) (fun _ => trivial), ?_⟩
            replace hx5 := Lib.hid hx5
            have hi9_ := Lib.hid (FInts.new ho9); clear ho9
            have H5 : Hid (Ext w1 W5) := Lib.hid (H4.out.trans hx5.out)
            refine wpAnyE_each (i := 13) (is := []) (by kernel_rfl) ⟨?_, trivial⟩
            · refine wpOp_of_list rfl rfl (fun K hK => ?_)
              refine wpList_appendFresh elInts rfl _ _ rfl rfl rfl (HR.out.r.ext (hX1.trans H5.out)).raw (by omega) (by omega) ?_
              intro v13 W6 hx6 ho13
              go_wp2_with fail
              refine ⟨KeepE.of (fun h => h.trans hx6) (fun _ => trivial), ?_⟩
              replace hx6 := Lib.hid hx6
              have hi13_ := Lib.hid (FInts.new ho13); clear ho13
              have H6 : Hid (Ext w1 W6) := Lib.hid (H5.out.trans hx6.out)
              obtain ⟨a5, c5, rfl, _⟩ := hi5_.out.ints.open_
              obtain ⟨a9, c9, rfl, _⟩ := hi9_.out.ints.open_
              obtain ⟨a13, c13, rfl, _⟩ := hi13_.out.ints.open_
              refine wpAnyE_each (i := 14) (is := []) (by kernel_rfl) ⟨?_, trivial⟩
              refine wpOp_of_list rfl rfl (fun K hK => ?_)
              go_wp2_with fail
              refine ⟨KeepE.of id id, ?_⟩
              have hbx4 := hbx.ext H6.out
              have HIN := Lib.hid (FRul.kept (x := x) ⟨((((hi5_.out.ext hx4.out).ext hx5.out).ext hx6.out)).low (hE0.trans (hX1.trans H2.out)).size, ((hi9_.out.ext hx6.out)).low (hE0.trans (hX1.trans H4.out)).size, (hi13_.out).low (hE0.trans (hX1.trans H5.out)).size⟩ hbx4 (.int .i64 x.f) (.slice a5 x.t.length c5) (.slice a9 x.l.length c9) (.slice a13 x.r.length c13))
              have hXW := hE0.trans (hX1.trans H6.out)
              clear hbx
              have z0 := hbx4.c0
              have z1 := hbx4.c1
              have z2 := hbx4.c2
              have z3 := hbx4.c3
              have f0 := hbx4.frozen 0
              have f1 := hbx4.frozen 1
              have f2 := hbx4.frozen 2
              have f3 := hbx4.frozen 3
              refine wpAnyE_each (i := 15) (is := []) (by kernel_rfl) ⟨?_, trivial⟩
              refine wpOp_of_list rfl rfl (fun K hK => ?_)
              go_wp2_with fail
              refine ⟨⟨.inl (by simp), fun _ => trivial⟩, ?_⟩
              refine wpAnyE_done (by kernel_rfl) ?_
              have hb2 := hbx4.set (.int .i64 x.f) (.slice a5 x.t.length c5) (.slice a9 x.l.length c9) (.slice a13 x.r.length c13)
              have hx2 := BoxR.set_ext hXW (show w.heap.size ≤ w.heap.size + 1 by omega) (.int .i64 x.f) (.slice a5 x.t.length c5) (.slice a9 x.l.length c9) (.slice a13 x.r.length c13)
              clear hbx4 z0 z1 z2 z3 f0 f1 f2 f3
              generalize ((((W6.setCell ⟨w.heap.size + 1, 0, none⟩ (.int .i64 x.f)).setCell ⟨w.heap.size + 1, 1, none⟩ (.slice a5 x.t.length c5)).setCell ⟨w.heap.size + 1, 2, none⟩ (.slice a9 x.l.length c9)).setCell ⟨w.heap.size + 1, 3, none⟩ (.slice a13 x.r.length c13)) = w2 at *
              have d0 := hb2.c0
              have d1 := hb2.c1
              have d2 := hb2.c2
              have d3 := hb2.c3
              clear hb2
              go_wp2_with fail
              refine bodyPost_ret (v := .agg #[.int .i64 x.f, .slice a5 x.t.length c5, .slice a9 x.l.length c9, .slice a13 x.r.length c13]) (by simp [results, Try.results90, go_sem, d0, d1, d2, d3]) rfl ?_
              exact ⟨_, _, _, rfl, HIN.out, hx2⟩
      · refine wpOp_of_list rfl rfl (fun K hK => ?_)
        go_wp2_with fail
        refine ⟨KeepE.of (fun h => h.trans (Ext.alloc _ _)) (fun _ => trivial), ?_⟩
        have hx3 : Hid (Ext W2 (W2.alloc (.cells #[] 3))) := Lib.hid (Ext.alloc _ _)
        generalize W2.alloc (.cells #[] 3) = W3 at *
        have H3 : Hid (Ext w1 W3) := Lib.hid (H2.out.trans hx3.out)
        refine wpAnyE_each (i := 5) (is := []) (by kernel_rfl) ⟨?_, trivial⟩
        · refine wpOp_of_list rfl rfl (fun K hK => ?_)
          refine wpList_appendFresh elInts rfl _ _ rfl rfl rfl (HR.out.t.ext (hX1.trans H3.out)).raw (by omega) (by omega) ?_
          intro v5 W4 hx4 ho5
          go_wp2_with fail
          refine ⟨KeepE.of (fun h => h.trans hx4) (fun _ => trivial), ?_⟩
          replace hx4 := Lib.hid hx4
          have hi5_ := Lib.hid (FInts.new ho5); clear ho5
          have H4 : Hid (Ext w1 W4) := Lib.hid (H3.out.trans hx4.out)
          refine wpAnyE_each (i := 9) (is := []) (by kernel_rfl) ⟨?_, trivial⟩
          · refine wpOp_of_list rfl rfl (fun K hK => ?_)
            refine wpList_appendFresh elInts rfl _ _ rfl rfl rfl (HR.out.l.ext (hX1.trans H4.out)).raw (by omega) (by omega) ?_
            intro v9 W5 hx5 ho9
            go_wp2_with fail
            refine ⟨KeepE.of (fun h => h.trans hx5) (fun _ => trivial), ?_⟩
            replace hx5 := Lib.hid hx5
            have hi9_ := Lib.hid (FInts.new ho9); clear ho9
            have H5 : Hid (Ext w1 W5) := Lib.hid (H4.out.trans hx5.out)
            refine wpAnyE_each (i := 13) (is := []) (by kernel_rfl) ⟨?_, trivial⟩
            · refine wpOp_of_list rfl rfl (fun K hK => ?_)
              refine wpList_appendFresh elInts rfl _ _ rfl rfl rfl (HR.out.r.ext (hX1.trans H5.out)).raw (by omega) (by omega) ?_
              intro v13 W6 hx6 ho13
              go_wp2_with fail
              refine ⟨KeepE.of (fun h => h.trans hx6) (fun _ => trivial), ?_⟩
              replace hx6 := Lib.hid hx6
              have hi13_ := Lib.hid (FInts.new ho13); clear ho13
              have H6 : Hid (Ext w1 W6) := Lib.hid (H5.out.trans hx6.out)
              obtain ⟨a5, c5, rfl, _⟩ := hi5_.out.ints.open_
              obtain ⟨a9, c9, rfl, _⟩ := hi9_.out.ints.open_
              obtain ⟨a13, c13, rfl, _⟩ := hi13_.out.ints.open_
              refine wpAnyE_each (i := 14) (is := []) (by kernel_rfl) ⟨?_, trivial⟩
              refine wpOp_of_list rfl rfl (fun K hK => ?_)
              go_wp2_with fail
              refine ⟨KeepE.of id id, ?_⟩
              have hbx4 := hbx.ext H6.out
              have HIN := Lib.hid (FRul.kept (x := x) ⟨(((hi5_.out.ext hx5.out).ext hx6.out)).low (hE0.trans (hX1.trans H3.out)).size, ((hi9_.out.ext hx6.out)).low (hE0.trans (hX1.trans H4.out)).size, (hi13_.out).low (hE0.trans (hX1.trans H5.out)).size⟩ hbx4 (.int .i64 x.f) (.slice a5 x.t.length c5) (.slice a9 x.l.length c9) (.slice a13 x.r.length c13))
              have hXW := hE0.trans (hX1.trans H6.out)
              clear hbx
              have z0 := hbx4.c0
              have z1 := hbx4.c1
              have z2 := hbx4.c2
              have z3 := hbx4.c3
              have f0 := hbx4.frozen 0
              have f1 := hbx4.frozen 1
              have f2 := hbx4.frozen 2
              have f3 := hbx4.frozen 3
              refine wpAnyE_each (i := 15) (is := []) (by kernel_rfl) ⟨?_, trivial⟩
              refine wpOp_of_list rfl rfl (fun K hK => ?_)
              go_wp2_with fail
              refine ⟨⟨.inl (by simp), fun _ => trivial⟩, ?_⟩
              refine wpAnyE_done (by kernel_rfl) ?_
              have hb2 := hbx4.set (.int .i64 x.f) (.slice a5 x.t.length c5) (.slice a9 x.l.length c9) (.slice a13 x.r.length c13)
              have hx2 := BoxR.set_ext hXW (show w.heap.size ≤ w.heap.size + 1 by omega) (.int .i64 x.f) (.slice a5 x.t.length c5) (.slice a9 x.l.length c9) (.slice a13 x.r.length c13)
              clear hbx4 z0 z1 z2 z3 f0 f1 f2 f3
              generalize ((((W6.setCell ⟨w.heap.size + 1, 0, none⟩ (.int .i64 x.f)).setCell ⟨w.heap.size + 1, 1, none⟩ (.slice a5 x.t.length c5)).setCell ⟨w.heap.size + 1, 2, none⟩ (.slice a9 x.l.length c9)).setCell ⟨w.heap.size + 1, 3, none⟩ (.slice a13 x.r.length c13)) = w2 at *
              have d0 := hb2.c0
              have d1 := hb2.c1
              have d2 := hb2.c2
              have d3 := hb2.c3
              clear hb2
              go_wp2_with fail
              refine bodyPost_ret (v := .agg #[.int .i64 x.f, .slice a5 x.t.length c5, .slice a9 x.l.length c9, .slice a13 x.r.length c13]) (by simp [results, Try.results90, go_sem, d0, d1, d2, d3]) rfl ?_
              exact ⟨_, _, _, rfl, HIN.out, hx2⟩
    · refine wpOp_of_list rfl rfl (fun K hK => ?_)
      go_wp2_with fail
      refine ⟨KeepE.of (fun h => h.trans (Ext.alloc _ _)) (fun _ => trivial), ?_⟩
      have hx2 : Hid (Ext W1 (W1.alloc (.cells #[] 3))) := Lib.hid (Ext.alloc _ _)
      generalize W1.alloc (.cells #[] 3) = W2 at *
      have H2 : Hid (Ext w1 W2) := Lib.hid (H1.out.trans hx2.out)
      refine wpAnyE_each (i := 2) (is := []) (by kernel_rfl) ⟨?_, trivial⟩
      · refine wpOp_of_list rfl rfl (fun K hK => ?_)
        go_wp2_with fail
        refine ⟨KeepE.of (fun h => h.trans (Ext.alloc _ _)) (fun _ => trivial), ?_⟩
        have hx3 : Hid (Ext W2 (W2.alloc (.cells #[] 3))) := Lib.hid (Ext.alloc _ _)
        generalize W2.alloc (.cells #[] 3) = W3 at *
        have H3 : Hid (Ext w1 W3) := Lib.hid (H2.out.trans hx3.out)
        refine wpAnyE_each (i := 5) (is := []) (by kernel_rfl) ⟨?_, trivial⟩
        · refine wpOp_of_list rfl rfl (fun K hK => ?_)
          refine wpList_appendFresh elInts rfl _ _ rfl rfl rfl (HR.out.t.ext (hX1.trans H3.out)).raw (by omega) (by omega) ?_
          intro v5 W4 hx4 ho5
          go_wp2_with fail
          refine ⟨KeepE.of (fun h => h.trans hx4) (fun _ => trivial), ?_⟩
          replace hx4 := Lib.hid hx4
          have hi5_ := Lib.hid (FInts.new ho5); clear ho5
          have H4 : Hid (Ext w1 W4) := Lib.hid (H3.out.trans hx4.out)
          refine wpAnyE_each (i := 9) (is := []) (by kernel_rfl) ⟨?_, trivial⟩
          · refine wpOp_of_list rfl rfl (fun K hK => ?_)
            refine wpList_appendFresh elInts rfl _ _ rfl rfl rfl (HR.out.l.ext (hX1.trans H4.out)).raw (by omega) (by omega) ?_
            intro v9 W5 hx5 ho9
            go_wp2_with fail
            refine ⟨KeepE.of (fun h => h.trans hx5) (fun _ => trivial), ?_⟩
            replace hx5 := Lib.hid hx5
            have hi9_ := Lib.hid (FInts.new ho9); clear ho9
            have H5 : Hid (Ext w1 W5) := Lib.hid (H4.out.trans hx5.out)
            refine wpAnyE_each (i := 13) (is := []) (by kernel_rfl) ⟨?_, trivial⟩
            · refine wpOp_of_list rfl rfl (fun K hK => ?_)
              refine wpList_appendFresh elInts rfl _ _ rfl rfl rfl (HR.out.r.ext (hX1.trans H5.out)).raw (by omega) (by omega) ?_
              intro v13 W6 hx6 ho13
              go_wp2_with fail
              refine ⟨KeepE.of (fun h => h.trans hx6) (fun _ => trivial), ?_⟩
              replace hx6 := Lib.hid hx6
              have hi13_ := Lib.hid (FInts.new ho13); clear ho13
              have H6 : Hid (Ext w1 W6) := Lib.hid (H5.out.trans hx6.out)
              obtain ⟨a5, c5, rfl, _⟩ := hi5_.out.ints.open_
              obtain ⟨a9, c9, rfl, _⟩ := hi9_.out.ints.open_
              obtain ⟨a13, c13, rfl, _⟩ := hi13_.out.ints.open_
              refine wpAnyE_each (i := 14) (is := []) (by kernel_rfl) ⟨?_, trivial⟩
              refine wpOp_of_list rfl rfl (fun K hK => ?_)
              go_wp2_with fail
              refine ⟨KeepE.of id id, ?_⟩
              have hbx4 := hbx.ext H6.out
              have HIN := Lib.hid (FRul.kept (x := x) ⟨(((hi5_.out.ext hx5.out).ext hx6.out)).low (hE0.trans (hX1.trans H3.out)).size, ((hi9_.out.ext hx6.out)).low (hE0.trans (hX1.trans H4.out)).size, (hi13_.out).low (hE0.trans (hX1.trans H5.out)).size⟩ hbx4 (.int .i64 x.f) (.slice a5 x.t.length c5) (.slice a9 x.l.length c9) (.slice a13 x.r.length c13))
              have hXW := hE0.trans (hX1.trans H6.out)
              clear hbx
              have z0 := hbx4.c0
              have z1 := hbx4.c1
              have z2 := hbx4.c2
              have z3 := hbx4.c3
              have f0 := hbx4.frozen 0
              have f1 := hbx4.frozen 1
              have f2 := hbx4.frozen 2
              have f3 := hbx4.frozen 3
              refine wpAnyE_each (i := 15) (is := []) (by kernel_rfl) ⟨?_, trivial⟩
              refine wpOp_of_list rfl rfl (fun K hK => ?_)
              go_wp2_with fail
              refine ⟨⟨.inl (by simp), fun _ => trivial⟩, ?_⟩
              refine wpAnyE_done (by kernel_rfl) ?_
              have hb2 := hbx4.set (.int .i64 x.f) (.slice a5 x.t.length c5) (.slice a9 x.l.length c9) (.slice a13 x.r.length c13)
              have hx2 := BoxR.set_ext hXW (show w.heap.size ≤ w.heap.size + 1 by omega) (.int .i64 x.f) (.slice a5 x.t.length c5) (.slice a9 x.l.length c9) (.slice a13 x.r.length c13)
              clear hbx4 z0 z1 z2 z3 f0 f1 f2 f3
              generalize ((((W6.setCell ⟨w.heap.size + 1, 0, none⟩ (.int .i64 x.f)).setCell ⟨w.heap.size + 1, 1, none⟩ (.slice a5 x.t.length c5)).setCell ⟨w.heap.size + 1, 2, none⟩ (.slice a9 x.l.length c9)).setCell ⟨w.heap.size + 1, 3, none⟩ (.slice a13 x.r.length c13)) = w2 at *
              have d0 := hb2.c0
              have d1 := hb2.c1
              have d2 := hb2.c2
              have d3 := hb2.c3
              clear hb2
              go_wp2_with fail
              refine bodyPost_ret (v := .agg #[.int .i64 x.f, .slice a5 x.t.length c5, .slice a9 x.l.length c9, .slice a13 x.r.length c13]) (by simp [results, Try.results90, go_sem, d0, d1, d2, d3]) rfl ?_
              exact ⟨_, _, _, rfl, HIN.out, hx2⟩
end Go.Proofs.Ytojbamejhlaahaa

