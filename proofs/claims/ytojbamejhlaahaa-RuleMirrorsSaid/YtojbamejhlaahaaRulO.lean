/- The mirrored rule of the program. -/
import Derived.Test.YtojbamejhlaahaaRulN
namespace Go.Proofs.Ytojbamejhlaahaa
open Go.RowKit Go.Shelf
set_option linter.unusedVariables false

/-- a block that holds a rule, whole -/
def BoxR (W : World) (g : Nat) (a b c d : Value) : Prop := W.heap[g]? = some (.cells #[a, b, c, d] 24 (0, 0))
theorem BoxR.new (W : World) (a b c d : Value) {g : Nat} (hg : W.heap.size = g) : BoxR (W.alloc (.cells #[a, b, c, d] 24)) g a b c d := by subst hg; exact World.alloc_heap_new W _
theorem BoxR.lt {W : World} {g : Nat} {a b c d : Value} (h : BoxR W g a b c d) : g < W.heap.size := (Array.getElem?_eq_some_iff.1 h).1
theorem BoxR.ext {W W' : World} {g : Nat} {a b c d : Value} (h : BoxR W g a b c d) (hx : Ext W W') : BoxR W' g a b c d := (hx.block g h.lt).trans h
theorem BoxR.c0 {W : World} {g : Nat} {a b c d : Value} (h : BoxR W g a b c d) : W.cell? ⟨g, 0, none⟩ = some a := by unfold BoxR at h; simp [World.cell?, h]
theorem BoxR.c1 {W : World} {g : Nat} {a b c d : Value} (h : BoxR W g a b c d) : W.cell? ⟨g, 1, none⟩ = some b := by unfold BoxR at h; simp [World.cell?, h]
theorem BoxR.c2 {W : World} {g : Nat} {a b c d : Value} (h : BoxR W g a b c d) : W.cell? ⟨g, 2, none⟩ = some c := by unfold BoxR at h; simp [World.cell?, h]
theorem BoxR.c3 {W : World} {g : Nat} {a b c d : Value} (h : BoxR W g a b c d) : W.cell? ⟨g, 3, none⟩ = some d := by unfold BoxR at h; simp [World.cell?, h]
theorem BoxR.frozen {W : World} {g : Nat} {a b c d : Value} (h : BoxR W g a b c d) (i : Nat) : W.frozen? ⟨g, i, none⟩ = false := by unfold BoxR at h; simp [World.frozen?, h]
theorem BoxR.set {W : World} {g : Nat} {a b c d : Value} (h : BoxR W g a b c d) (a' b' c' d' : Value) :
    BoxR ((((W.setCell ⟨g, 0, none⟩ a').setCell ⟨g, 1, none⟩ b').setCell ⟨g, 2, none⟩ c').setCell ⟨g, 3, none⟩ d') g a' b' c' d' := by
  unfold BoxR at *
  simp [World.setCell, Array.getElem?_modify, h]
theorem BoxR.set_ext {W w : World} (hx : Ext w W) {g : Nat} (hg : w.heap.size ≤ g) (a' b' c' d' : Value) :
    Ext w ((((W.setCell ⟨g, 0, none⟩ a').setCell ⟨g, 1, none⟩ b').setCell ⟨g, 2, none⟩ c').setCell ⟨g, 3, none⟩ d') :=
  (((hx.setCell hg 0 a').setCell hg 1 b').setCell hg 2 c').setCell hg 3 d'
theorem BoxR.kept {W : World} {g : Nat} {a b c d : Value} (h : BoxR W g a b c d) {B : Nat} {u : Value} {l : List Int} (ho : OInts 3 W B u l) (a' b' c' d' : Value) :
    OInts 3 ((((W.setCell ⟨g, 0, none⟩ a').setCell ⟨g, 1, none⟩ b').setCell ⟨g, 2, none⟩ c').setCell ⟨g, 3, none⟩ d') B u l := by
  refine OInts.kept (row := some g) ho (grownBy_trans_new (grownBy_trans_new (grownBy_trans_new (grownBy_set W g 0 a') (grownBy_set _ g 1 b') (fun r e => .inr e)) (grownBy_set _ g 2 c') (fun r e => .inr e)) (grownBy_set _ g 3 d') (fun r e => .inr e)) (fun r hr => ?_)
  cases hr
  exact ⟨_, h, fun cur he => by injection he with _ he; exact absurd he (by decide)⟩
theorem BoxR.kept3 {W : World} {g : Nat} {a b c d : Value} (h : BoxR W g a b c d) {B1 B2 B3 : Nat} {u1 u2 u3 : Value} {f : Int} {l1 l2 l3 : List Int} (h1 : OInts 3 W B1 u1 l1) (h2 : OInts 3 W B2 u2 l2) (h3 : OInts 3 W B3 u3 l3) (a' b' c' d' : Value) :
    RulR ((((W.setCell ⟨g, 0, none⟩ a').setCell ⟨g, 1, none⟩ b').setCell ⟨g, 2, none⟩ c').setCell ⟨g, 3, none⟩ d') u1 u2 u3 ⟨f, l1, l2, l3⟩ :=
  ⟨(h.kept h1 a' b' c' d').ints, (h.kept h2 a' b' c' d').ints, (h.kept h3 a' b' c' d').ints⟩
def mirX (x : Rul) : Rul := if validR x = 0 then ⟨x.f, x.t.reverse, x.r, x.l⟩ else ⟨0, [], [], []⟩
/-- a rule in memory and an error code -/
def RRul (x : Rul) (k : Int) (w : World) (e : Ending) (w' : World) : Prop := ∃ tv lv rv, e = .returned (.tuple #[.agg #[.int .i64 x.f, tv, lv, rv], .int .i64 k]) ∧ RulR w' tv lv rv x ∧ Ext w w'

set_option maxHeartbeats 2000000 in
set_option maxRecDepth 100000 in
theorem Mirror_c (tv lv rv : Value) (x : Rul) (w : World) (h : RulR w tv lv rv x) (hb : longR x = false) : Calls Try.prog 37 #[.agg #[.int .i64 x.f, tv, lv, rv]] w (RRul (mirX x) (validR x) w) := by
  obtain ⟨wA, hwA⟩ : ∃ wA, wA = w.alloc (.cells #[.int .i64 x.f, tv, lv, rv] 24) := ⟨_, rfl⟩
  have hE0 : Ext w wA := by rw [hwA]; exact Ext.alloc _ _
  have k0 : ∀ W, Ext wA W → W.cell? ⟨w.heap.size, 0, none⟩ = some (.int .i64 x.f) := by rw [hwA]; exact kept_alloc w _ _ rfl
  have k1 : ∀ W, Ext wA W → W.cell? ⟨w.heap.size, 1, none⟩ = some tv := by rw [hwA]; exact kept_alloc w _ _ rfl
  have k2 : ∀ W, Ext wA W → W.cell? ⟨w.heap.size, 2, none⟩ = some lv := by rw [hwA]; exact kept_alloc w _ _ rfl
  have k3 : ∀ W, Ext wA W → W.cell? ⟨w.heap.size, 3, none⟩ = some rv := by rw [hwA]; exact kept_alloc w _ _ rfl
  have H0 : Ext wA wA := Ext.refl _
  have HR := Lib.hid (h.ext hE0)
  have HV := Lib.hid (fun W (hW : Ext wA W) => Validate_c tv lv rv x W ((h.ext hE0).ext hW))
  obtain ⟨hbt, hbl, hbr⟩ := longR_le hb
  have HW := Lib.hid hwA; clear hwA h hb
  unfold mirX
  by_cases h0 : validR x = 0
  · rw [if_pos h0]
    rw [h0] at HV ⊢
    clear h0
    go_enter Try.func37, Try.ntmps37
    go_wp2_with fail
    rw [← HW.out]
    obtain ⟨wB, hwB⟩ : ∃ wB, wB = wA.alloc (.cells #[.int .i64 0, .slice none 0 0, .slice none 0 0, .slice none 0 0] 24) := ⟨_, rfl⟩
    have hEB : Ext wA wB := by rw [hwB]; exact Ext.alloc _ _
    rw [← hwB]
    refine (HV.out wB hEB).mono ?_; rintro e w1 ⟨rfl, hx1⟩
    have hX1 := hEB.trans hx1
    have hsA : wA.heap.size = w.heap.size + 1 := by rw [HW.out]; simp
    have hbx : BoxR w1 (w.heap.size + 1) (.int .i64 0) (.slice none 0 0) (.slice none 0 0) (.slice none 0 0) := (by rw [hwB]; exact BoxR.new wA _ _ _ _ hsA : BoxR wB _ _ _ _ _).ext hx1
    have z0 := hbx.c0
    have z1 := hbx.c1
    have z2 := hbx.c2
    have z3 := hbx.c3
    have f0 := hbx.frozen 0
    have f1 := hbx.frozen 1
    have f2 := hbx.frozen 2
    have f3 := hbx.frozen 3
    go_wp2_with fail
    refine wp_region_peek (Ext w1) (fun _ => True) [12] [.look 0, .look 1, .look 2, .look 3, .look 5, .look 6, .look 8, .look 9, .go 4, .go 7, .go 10, .look 11, .go 12, .peek 13] (by kernel_rfl) (by kernel_rfl) (by intro c a d v w h; cases d <;> exact h) ?_
    have hd : Ext w1 { w1 with drawn := w1.drawn + 1 } := drawn_ext w1
    have hs : ∀ s : InC (Ext w1), Ext wA s.w := fun s => hX1.trans s.h
    generalize { w1 with drawn := w1.drawn + 1 } = W1 at *
    iterate 8 (refine wpPeek_look rfl ‹_› (fun K hK => ?_); go_simp; first | (refine hK _ ?_; clear hK K) | (refine ⟨_, fun _ => rfl, hK _ ?_⟩; clear hK K))
    refine wpPeek_go rfl rfl (fun K hK => ?_)
    go_wp2_with fail
    refine (back_c _ x.t W1 (HR.out.t.ext (hX1.trans hd)) (by omega)).mono ?_; rintro e W2 ⟨v2, rfl, ho2, hy2⟩
    obtain ⟨a2, c2, rfl, _⟩ := ho2.ints.open_
    have HO2 := Lib.hid ho2; clear ho2
    go_wp2_with fail
    refine ⟨KeepE.of (fun h => h.trans hy2) (fun _ => trivial), ?_⟩
    have hd2 := hd.trans hy2
    clear hd
    refine wpPeek_go rfl rfl (fun K hK => ?_)
    go_wp2_with fail
    refine (cloneInts_c _ x.r W2 (HR.out.r.ext (hX1.trans hd2)) (by omega)).mono ?_; rintro e W3 ⟨v3, rfl, ho3, hy3⟩
    obtain ⟨a3, c3, rfl, _⟩ := ho3.ints.open_
    have HO3 := Lib.hid ho3; clear ho3
    go_wp2_with fail
    refine ⟨KeepE.of (fun h => h.trans hy3) (fun _ => trivial), ?_⟩
    have hd3 := hd2.trans hy3
    clear hd2
    refine wpPeek_go rfl rfl (fun K hK => ?_)
    go_wp2_with fail
    refine (cloneInts_c _ x.l W3 (HR.out.l.ext (hX1.trans hd3)) (by omega)).mono ?_; rintro e W4 ⟨v4, rfl, ho4, hy4⟩
    obtain ⟨a4, c4, rfl, _⟩ := ho4.ints.open_
    have HO4 := Lib.hid ho4; clear ho4
    go_wp2_with fail
    refine ⟨KeepE.of (fun h => h.trans hy4) (fun _ => trivial), ?_⟩
    have hd4 := hd3.trans hy4
    clear hd3
    (refine wpPeek_look rfl ‹_› (fun K hK => ?_); go_simp; first | (refine hK _ ?_; clear hK K) | (refine ⟨_, fun _ => rfl, hK _ ?_⟩; clear hK K))
    have hbx4 := hbx.ext hd4
    have hin0 := (hbx4.kept3 (f := x.f) (HO2.out.ext (hy3.trans hy4)) (HO3.out.ext hy4) HO4.out (.int .i64 x.f) (.slice a2 x.t.length c2) (.slice a3 x.r.length c3) (.slice a4 x.l.length c4))
    rw [List.length_reverse] at hin0
    have HIN := Lib.hid hin0; clear hin0
    clear hbx z0 z1 z2 z3 f0 f1 f2 f3
    have z0 := hbx4.c0
    have z1 := hbx4.c1
    have z2 := hbx4.c2
    have z3 := hbx4.c3
    have f0 := hbx4.frozen 0
    have f1 := hbx4.frozen 1
    have f2 := hbx4.frozen 2
    have f3 := hbx4.frozen 3
    refine wpPeek_go rfl rfl (fun K hK => ?_)
    go_wp2_with fail
    refine ⟨⟨.inl (by simp), fun _ => trivial⟩, ?_⟩
    have hb2 := hbx4.set (.int .i64 x.f) (.slice a2 x.t.length c2) (.slice a3 x.r.length c3) (.slice a4 x.l.length c4)
    have hx2 := BoxR.set_ext (hE0.trans (hX1.trans hd4)) (show w.heap.size ≤ w.heap.size + 1 by omega) (.int .i64 x.f) (.slice a2 x.t.length c2) (.slice a3 x.r.length c3) (.slice a4 x.l.length c4)
    clear hbx4 z0 z1 z2 z3 f0 f1 f2 f3
    generalize ((((W4.setCell ⟨w.heap.size + 1, 0, none⟩ (.int .i64 x.f)).setCell ⟨w.heap.size + 1, 1, none⟩ (.slice a2 x.t.length c2)).setCell ⟨w.heap.size + 1, 2, none⟩ (.slice a3 x.r.length c3)).setCell ⟨w.heap.size + 1, 3, none⟩ (.slice a4 x.l.length c4)) = w2 at *
    have htr : (fun _ : World => True) w2 := trivial
    (refine wpPeek_peek rfl ‹_› (fun K hK => ?_); go_simp; first | (refine hK _ ?_; clear hK K) | (refine ⟨_, fun _ => rfl, hK _ ?_⟩; clear hK K))
    refine wpPeek_nil ?_
    clear hs
    have d0 := hb2.c0
    have d1 := hb2.c1
    have d2 := hb2.c2
    have d3 := hb2.c3
    clear hb2
    go_wp2_with fail
    refine bodyPost_ret (v := .tuple #[.agg #[.int .i64 x.f, .slice a2 x.t.length c2, .slice a3 x.r.length c3, .slice a4 x.l.length c4], .int .i64 0]) (by simp [results, Try.results37, go_sem, d0, d1, d2, d3]) rfl ?_
    exact ⟨_, _, _, rfl, HIN.out, hx2⟩
  · rw [if_neg h0]
    have hk : (validR x != 0) = true := by simp [h0]
    generalize validR x = k at *
    clear h0
    go_enter Try.func37, Try.ntmps37
    go_wp2_with fail
    rw [← HW.out]
    obtain ⟨wB, hwB⟩ : ∃ wB, wB = wA.alloc (.cells #[.int .i64 0, .slice none 0 0, .slice none 0 0, .slice none 0 0] 24) := ⟨_, rfl⟩
    have hEB : Ext wA wB := by rw [hwB]; exact Ext.alloc _ _
    rw [← hwB]
    refine (HV.out wB hEB).mono ?_; rintro e w1 ⟨rfl, hx1⟩
    have hX1 := hEB.trans hx1
    have hsA : wA.heap.size = w.heap.size + 1 := by rw [HW.out]; simp
    have hbx : BoxR w1 (w.heap.size + 1) (.int .i64 0) (.slice none 0 0) (.slice none 0 0) (.slice none 0 0) := (by rw [hwB]; exact BoxR.new wA _ _ _ _ hsA : BoxR wB _ _ _ _ _).ext hx1
    have z0 := hbx.c0
    have z1 := hbx.c1
    have z2 := hbx.c2
    have z3 := hbx.c3
    have f0 := hbx.frozen 0
    have f1 := hbx.frozen 1
    have f2 := hbx.frozen 2
    have f3 := hbx.frozen 3
    go_wp2_with fail
    have hb2 := hbx.set (.int .i64 0) (.slice none 0 0) (.slice none 0 0) (.slice none 0 0)
    have hx2 := BoxR.set_ext (hE0.trans hX1) (show w.heap.size ≤ w.heap.size + 1 by omega) (.int .i64 0) (.slice none 0 0) (.slice none 0 0) (.slice none 0 0)
    clear hbx z0 z1 z2 z3 f0 f1 f2 f3
    generalize ((((w1.setCell ⟨w.heap.size + 1, 0, none⟩ (.int .i64 0)).setCell ⟨w.heap.size + 1, 1, none⟩ (.slice none 0 0)).setCell ⟨w.heap.size + 1, 2, none⟩ (.slice none 0 0)).setCell ⟨w.heap.size + 1, 3, none⟩ (.slice none 0 0)) = w2 at *
    have d0 := hb2.c0
    have d1 := hb2.c1
    have d2 := hb2.c2
    have d3 := hb2.c3
    clear hb2
    refine bodyPost_ret (v := .tuple #[.agg #[.int .i64 0, .slice none 0 0, .slice none 0 0, .slice none 0 0], .int .i64 k]) (by simp [results, Try.results37, go_sem, d0, d1, d2, d3]) rfl ?_
    exact ⟨_, _, _, rfl, ⟨ints_nil_c _, ints_nil_c _, ints_nil_c _⟩, hx2⟩
end Go.Proofs.Ytojbamejhlaahaa

