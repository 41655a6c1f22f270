/- Grounds between two candidates: the program's way. -/
import Derived.Test.YtpmlcfgbfhgpgaaGreatDoorJoinA
namespace Go.Proofs.YtpmlcfgbfhgpgaaGreatDoor
open Go.RowKit Go.Shelf
set_option linter.unusedVariables false
def canV (c : Can) : Value := .agg #[.int .i64 c.k, .int .i64 c.p, .int .i64 c.f, c.t, c.l, c.r]
structure CanG (w : World) (s : List Rul) (c : Can) : Prop where
 f : c.f = (rulAt s c.k).f
 r : RulR w c.t c.l c.r (rulAt s c.k)
 p0 : 0 ≤ c.p
 p1 : c.p ≤ 100
 t2 : (rulAt s c.k).t.length ≤ 100
 k1 : c.k ≤ 100
theorem CanG.ext {w w' : World} {s : List Rul} {c : Can} (h : CanG w s c) (hx : Ext w w') : CanG w' s c := ⟨h.f, h.r.ext hx, h.p0, h.p1, h.t2, h.k1⟩
theorem CanG.lit {w : World} {s : List Rul} {c : Can} (h : CanG w s c) : ∃ (k : Nat) (p : Int) (x : Rul) (ta : Option Addr) (tc : Nat) (la : Option Addr) (lc : Nat) (ra : Option Addr) (rc : Nat),
  c = ⟨k, p, x.f, .slice ta x.t.length tc, .slice la x.l.length lc, .slice ra x.r.length rc⟩ ∧ Hid (rulAt s k = x) ∧ Hid (RulR w (.slice ta x.t.length tc) (.slice la x.l.length lc) (.slice ra x.r.length rc) x) ∧ 0 ≤ p ∧ p ≤ 100 ∧ x.t.length ≤ 100 ∧ k ≤ 100 := by
 obtain ⟨k, p, f, t, l, r⟩ := c
 obtain ⟨hf, hr, h0, h1, h2, h3⟩ := h
 dsimp only at hf hr h0 h1 h2 h3
 subst hf
 have hr' := hr
 obtain ⟨ta, tc, rfl, _⟩ := hr.t.open_
 obtain ⟨la, lc, rfl, _⟩ := hr.l.open_
 obtain ⟨ra, rc, rfl, _⟩ := hr.r.open_
 exact ⟨k, p, rulAt s k, ta, tc, la, lc, ra, rc, rfl, Lib.hid rfl, Lib.hid hr', h0, h1, h2, h3⟩
theorem keptA (w : World) (cs : Array Value) (t : TypeId) (cs2 : Array Value) (t2 : TypeId) {i : Nat} {v : Value} (h : cs[i]? = some v) : ∀ W, Ext ((w.alloc (.cells cs t)).alloc (.cells cs2 t2)) W → W.cell? ⟨w.heap.size, i, none⟩ = some v :=
 fun W hW => kept_alloc w cs t h W ((Ext.alloc _ _).trans hW)
theorem keptB (w : World) (cs : Array Value) (t : TypeId) (cs2 : Array Value) (t2 : TypeId) {i : Nat} {v : Value} (h : cs2[i]? = some v) : ∀ W, Ext ((w.alloc (.cells cs t)).alloc (.cells cs2 t2)) W → W.cell? ⟨w.heap.size + 1, i, none⟩ = some v :=
 fun W hW => by have := kept_alloc (w.alloc (.cells cs t)) cs2 t2 h W hW; simpa using this
set_option maxHeartbeats 2000000 in
set_option maxRecDepth 100000 in
theorem oSpecial_c (s : List Rul) (a b : Can) (w : World) (ha : CanG w s a) (hb : CanG w s b) : Calls Tryz.prog 223 #[canV a, canV b] w (RV (.bool (spec (rulAt s a.k) (rulAt s b.k) && !spec (rulAt s b.k) (rulAt s a.k))) w) := by
 obtain ⟨ka, pa, xa, aa0, aa1, aa2, aa3, aa4, aa5, rfl, HXA, HRA, ha0, ha1, ha2, ha3⟩ := ha.lit
 obtain ⟨kb, pb, xb, ab0, ab1, ab2, ab3, ab4, ab5, rfl, HXB, HRB, hb0, hb1, hb2, hb3⟩ := hb.lit
 clear ha hb
 unfold canV
 dsimp only
 obtain ⟨wA, hwA⟩ : ∃ wA, wA = (w.alloc (.cells #[.int .i64 ka, .int .i64 pa, .int .i64 xa.f, .slice aa0 xa.t.length aa1, .slice aa2 xa.l.length aa3, .slice aa4 xa.r.length aa5] 165)).alloc (.cells #[.int .i64 kb, .int .i64 pb, .int .i64 xb.f, .slice ab0 xb.t.length ab1, .slice ab2 xb.l.length ab3, .slice ab4 xb.r.length ab5] 165) := ⟨_, rfl⟩
 have hE0 : Ext w wA := by rw [hwA]; exact (Ext.alloc _ _).trans (Ext.alloc _ _)
 have ka0 : ∀ W, Ext wA W → W.cell? ⟨w.heap.size, 0, none⟩ = some (.int .i64 ka) := by rw [hwA]; exact keptA w _ _ _ _ rfl
 have ka1 : ∀ W, Ext wA W → W.cell? ⟨w.heap.size, 1, none⟩ = some (.int .i64 pa) := by rw [hwA]; exact keptA w _ _ _ _ rfl
 have ka2 : ∀ W, Ext wA W → W.cell? ⟨w.heap.size, 2, none⟩ = some (.int .i64 xa.f) := by rw [hwA]; exact keptA w _ _ _ _ rfl
 have ka3 : ∀ W, Ext wA W → W.cell? ⟨w.heap.size, 3, none⟩ = some (.slice aa0 xa.t.length aa1) := by rw [hwA]; exact keptA w _ _ _ _ rfl
 have ka4 : ∀ W, Ext wA W → W.cell? ⟨w.heap.size, 4, none⟩ = some (.slice aa2 xa.l.length aa3) := by rw [hwA]; exact keptA w _ _ _ _ rfl
 have ka5 : ∀ W, Ext wA W → W.cell? ⟨w.heap.size, 5, none⟩ = some (.slice aa4 xa.r.length aa5) := by rw [hwA]; exact keptA w _ _ _ _ rfl
 have kb0 : ∀ W, Ext wA W → W.cell? ⟨w.heap.size + 1, 0, none⟩ = some (.int .i64 kb) := by rw [hwA]; exact keptB w _ _ _ _ rfl
 have kb1 : ∀ W, Ext wA W → W.cell? ⟨w.heap.size + 1, 1, none⟩ = some (.int .i64 pb) := by rw [hwA]; exact keptB w _ _ _ _ rfl
 have kb2 : ∀ W, Ext wA W → W.cell? ⟨w.heap.size + 1, 2, none⟩ = some (.int .i64 xb.f) := by rw [hwA]; exact keptB w _ _ _ _ rfl
 have kb3 : ∀ W, Ext wA W → W.cell? ⟨w.heap.size + 1, 3, none⟩ = some (.slice ab0 xb.t.length ab1) := by rw [hwA]; exact keptB w _ _ _ _ rfl
 have kb4 : ∀ W, Ext wA W → W.cell? ⟨w.heap.size + 1, 4, none⟩ = some (.slice ab2 xb.l.length ab3) := by rw [hwA]; exact keptB w _ _ _ _ rfl
 have kb5 : ∀ W, Ext wA W → W.cell? ⟨w.heap.size + 1, 5, none⟩ = some (.slice ab4 xb.r.length ab5) := by rw [hwA]; exact keptB w _ _ _ _ rfl
 have H0 : Ext wA wA := Ext.refl _
 have HWA := Lib.hid hwA; clear hwA
 rw [HXA.out, HXB.out]
 have H1 := Lib.hid (fun W (h : Ext w W) => IsSpecial_c _ _ _ _ _ _ xa xb W (HRA.out.ext h) (HRB.out.ext h))
 have H2 := Lib.hid (fun W (h : Ext w W) => IsSpecial_c _ _ _ _ _ _ xb xa W (HRB.out.ext h) (HRA.out.ext h))
 generalize twoK xa xb = K1 at *
 generalize twoK xb xa = K2 at *
 generalize spec xa xb = S1 at *
 generalize spec xb xa = S2 at *
 cases S1
 ·go_enter Tryz.func223, Tryz.ntmps223
  go_wp2_with fail
  rw [← HWA.out]
  refine (H1.out _ hE0).mono ?_; rintro e w1 ⟨rfl, hx1⟩
  go_wp2_with fail
  refine (H2.out _ (hE0.trans hx1)).mono ?_; rintro e w2 ⟨rfl, hx2⟩
  go_wp2_with fail
  go_ret
  exact RV.bool (by simp) (hE0.trans (hx1.trans hx2))
 ·go_enter Tryz.func223, Tryz.ntmps223
  go_wp2_with fail
  rw [← HWA.out]
  refine (H1.out _ hE0).mono ?_; rintro e w1 ⟨rfl, hx1⟩
  go_wp2_with fail
  refine (H2.out _ (hE0.trans hx1)).mono ?_; rintro e w2 ⟨rfl, hx2⟩
  go_wp2_with fail
  go_ret
  exact RV.bool (by simp) (hE0.trans (hx1.trans hx2))
set_option maxHeartbeats 2000000 in
set_option maxRecDepth 100000 in
theorem oLasts_c (s : List Rul) (wv : Value) (l : List Int) (a b : Can) (w : World) (hw : Ints w wv l) (ha : CanG w s a) (hb : CanG w s b) : Calls Tryz.prog 225 #[wv, canV a, canV b] w (RV (.bool (lastsB s l a.stp b.stp)) w) := by
 obtain ⟨ka, pa, xa, aa0, aa1, aa2, aa3, aa4, aa5, rfl, HXA, HRA, ha0, ha1, ha2, ha3⟩ := ha.lit
 obtain ⟨kb, pb, xb, ab0, ab1, ab2, ab3, ab4, ab5, rfl, HXB, HRB, hb0, hb1, hb2, hb3⟩ := hb.lit
 clear ha hb
 obtain ⟨aw, cw, rfl, _⟩ := hw.open_
 have HI := Lib.hid hw; clear hw
 have HL : Hid (lastsB s l (ka, pa) (kb, pb) = (applyK xa (applyL xb l pb) (if pb < pa then (if 0 ≤ xb.f then pa + xb.t.length - 1 else pa + xb.t.length) else pa) == 0)) := Lib.hid (by
  unfold lastsB shiftP; dsimp only; rw [HXA.out, HXB.out])
 unfold canV Can.stp
 dsimp only
 obtain ⟨wA, hwA⟩ : ∃ wA, wA = (w.alloc (.cells #[.int .i64 ka, .int .i64 pa, .int .i64 xa.f, .slice aa0 xa.t.length aa1, .slice aa2 xa.l.length aa3, .slice aa4 xa.r.length aa5] 165)).alloc (.cells #[.int .i64 kb, .int .i64 pb, .int .i64 xb.f, .slice ab0 xb.t.length ab1, .slice ab2 xb.l.length ab3, .slice ab4 xb.r.length ab5] 165) := ⟨_, rfl⟩
 have hE0 : Ext w wA := by rw [hwA]; exact (Ext.alloc _ _).trans (Ext.alloc _ _)
 have ka0 : ∀ W, Ext wA W → W.cell? ⟨w.heap.size, 0, none⟩ = some (.int .i64 ka) := by rw [hwA]; exact keptA w _ _ _ _ rfl
 have ka1 : ∀ W, Ext wA W → W.cell? ⟨w.heap.size, 1, none⟩ = some (.int .i64 pa) := by rw [hwA]; exact keptA w _ _ _ _ rfl
 have ka2 : ∀ W, Ext wA W → W.cell? ⟨w.heap.size, 2, none⟩ = some (.int .i64 xa.f) := by rw [hwA]; exact keptA w _ _ _ _ rfl
 have ka3 : ∀ W, Ext wA W → W.cell? ⟨w.heap.size, 3, none⟩ = some (.slice aa0 xa.t.length aa1) := by rw [hwA]; exact keptA w _ _ _ _ rfl
 have ka4 : ∀ W, Ext wA W → W.cell? ⟨w.heap.size, 4, none⟩ = some (.slice aa2 xa.l.length aa3) := by rw [hwA]; exact keptA w _ _ _ _ rfl
 have ka5 : ∀ W, Ext wA W → W.cell? ⟨w.heap.size, 5, none⟩ = some (.slice aa4 xa.r.length aa5) := by rw [hwA]; exact keptA w _ _ _ _ rfl
 have kb0 : ∀ W, Ext wA W → W.cell? ⟨w.heap.size + 1, 0, none⟩ = some (.int .i64 kb) := by rw [hwA]; exact keptB w _ _ _ _ rfl
 have kb1 : ∀ W, Ext wA W → W.cell? ⟨w.heap.size + 1, 1, none⟩ = some (.int .i64 pb) := by rw [hwA]; exact keptB w _ _ _ _ rfl
 have kb2 : ∀ W, Ext wA W → W.cell? ⟨w.heap.size + 1, 2, none⟩ = some (.int .i64 xb.f) := by rw [hwA]; exact keptB w _ _ _ _ rfl
 have kb3 : ∀ W, Ext wA W → W.cell? ⟨w.heap.size + 1, 3, none⟩ = some (.slice ab0 xb.t.length ab1) := by rw [hwA]; exact keptB w _ _ _ _ rfl
 have kb4 : ∀ W, Ext wA W → W.cell? ⟨w.heap.size + 1, 4, none⟩ = some (.slice ab2 xb.l.length ab3) := by rw [hwA]; exact keptB w _ _ _ _ rfl
 have kb5 : ∀ W, Ext wA W → W.cell? ⟨w.heap.size + 1, 5, none⟩ = some (.slice ab4 xb.r.length ab5) := by rw [hwA]; exact keptB w _ _ _ _ rfl
 have H0 : Ext wA wA := Ext.refl _
 have HWA := Lib.hid hwA; clear hwA
 have H1 := Lib.hid (fun W (h : Ext w W) => Apply_c _ _ _ _ xb l pb W (HRB.out.ext h) (HI.out.ext h))
 have H2 := Lib.hid (fun W (h : Ext w W) v i (hv : Ints W v (applyL xb l pb)) => Apply_c _ _ _ v xa (applyL xb l pb) i W (HRA.out.ext h) hv)
 generalize lastsB s l (ka, pa) (kb, pb) = R at *
 generalize applyK xb l pb = K1 at *
 generalize applyL xb l pb = L1 at *
 have hw1 : IntKind.i64.wrap (pa + (xb.t.length : Int)) = pa + (xb.t.length : Int) := IntWalk.i64_in _ (by omega)
 have hw2 : IntKind.i64.wrap (pa + (xb.t.length : Int) - 1) = pa + (xb.t.length : Int) - 1 := IntWalk.i64_in _ (by omega)
 by_cases hlt : pb < pa
 ·have HLT := Lib.hid hlt
  by_cases hf : 0 ≤ xb.f
  ·have HF := Lib.hid hf
   go_enter Tryz.func225, Tryz.ntmps225
   go_wp2_with fail
   rw [← HWA.out]
   refine (H1.out _ hE0).mono ?_; rintro e w1 ⟨v1, rfl, ho1, hx1⟩
   obtain ⟨a1, c1, rfl, _⟩ := ho1.ints.open_
   have HO1 := Lib.hid ho1.ints; clear ho1
   go_wp2_with fail
   refine (H2.out _ (hE0.trans hx1) _ (pa + (xb.t.length : Int) - 1) HO1.out).mono ?_; rintro e w2 ⟨v2, rfl, ho2, hx2⟩
   clear ho2
   go_wp2_with fail
   go_ret
   exact RV.bool (by rw [HL.out, if_pos HLT.out, if_pos HF.out]) (hE0.trans (hx1.trans hx2))
  ·have HF := Lib.hid hf
   go_enter Tryz.func225, Tryz.ntmps225
   go_wp2_with fail
   rw [← HWA.out]
   refine (H1.out _ hE0).mono ?_; rintro e w1 ⟨v1, rfl, ho1, hx1⟩
   obtain ⟨a1, c1, rfl, _⟩ := ho1.ints.open_
   have HO1 := Lib.hid ho1.ints; clear ho1
   go_wp2_with fail
   refine (H2.out _ (hE0.trans hx1) _ (pa + (xb.t.length : Int)) HO1.out).mono ?_; rintro e w2 ⟨v2, rfl, ho2, hx2⟩
   clear ho2
   go_wp2_with fail
   go_ret
   exact RV.bool (by rw [HL.out, if_pos HLT.out, if_neg (by have := HF.out; omega)]) (hE0.trans (hx1.trans hx2))
 ·have HLT := Lib.hid hlt
  go_enter Tryz.func225, Tryz.ntmps225
  go_wp2_with fail
  rw [← HWA.out]
  refine (H1.out _ hE0).mono ?_; rintro e w1 ⟨v1, rfl, ho1, hx1⟩
  obtain ⟨a1, c1, rfl, _⟩ := ho1.ints.open_
  have HO1 := Lib.hid ho1.ints; clear ho1
  go_wp2_with fail
  refine (H2.out _ (hE0.trans hx1) _ pa HO1.out).mono ?_; rintro e w2 ⟨v2, rfl, ho2, hx2⟩
  clear ho2
  go_wp2_with fail
  go_ret
  exact RV.bool (by rw [HL.out, if_neg (by have := HLT.out; omega)]) (hE0.trans (hx1.trans hx2))
set_option maxHeartbeats 2000000 in
set_option maxRecDepth 100000 in
theorem og1_c (s : List Rul) (wv : Value) (l : List Int) (a b : Can) (w : World) (hw : Ints w wv l) (ha : CanG w s a) (hb : CanG w s b) : Calls Tryz.prog 222 #[wv, canV a, canV b] w (RV (.bool (proB s l 1 a.stp b.stp)) w) := by
 have HS := Lib.hid (fun W (h : Ext w W) => oSpecial_c s a b W (ha.ext h) (hb.ext h))
 have HP : Hid (proB s l 1 a.stp b.stp = (a.p == b.p && (spec (rulAt s a.k) (rulAt s b.k) && !spec (rulAt s b.k) (rulAt s a.k)))) := Lib.hid rfl
 generalize (spec (rulAt s a.k) (rulAt s b.k) && !spec (rulAt s b.k) (rulAt s a.k)) = S at *
 generalize proB s l 1 a.stp b.stp = R at *
 obtain ⟨ka, pa, xa, aa0, aa1, aa2, aa3, aa4, aa5, rfl, HXA, HRA, ha0, ha1, ha2, ha3⟩ := ha.lit
 obtain ⟨kb, pb, xb, ab0, ab1, ab2, ab3, ab4, ab5, rfl, HXB, HRB, hb0, hb1, hb2, hb3⟩ := hb.lit
 clear ha hb
 obtain ⟨aw, cw, rfl, _⟩ := hw.open_
 clear hw
 unfold canV at *
 dsimp only at *
 obtain ⟨wA, hwA⟩ : ∃ wA, wA = (w.alloc (.cells #[.int .i64 ka, .int .i64 pa, .int .i64 xa.f, .slice aa0 xa.t.length aa1, .slice aa2 xa.l.length aa3, .slice aa4 xa.r.length aa5] 165)).alloc (.cells #[.int .i64 kb, .int .i64 pb, .int .i64 xb.f, .slice ab0 xb.t.length ab1, .slice ab2 xb.l.length ab3, .slice ab4 xb.r.length ab5] 165) := ⟨_, rfl⟩
 have hE0 : Ext w wA := by rw [hwA]; exact (Ext.alloc _ _).trans (Ext.alloc _ _)
 have ka0 : ∀ W, Ext wA W → W.cell? ⟨w.heap.size, 0, none⟩ = some (.int .i64 ka) := by rw [hwA]; exact keptA w _ _ _ _ rfl
 have ka1 : ∀ W, Ext wA W → W.cell? ⟨w.heap.size, 1, none⟩ = some (.int .i64 pa) := by rw [hwA]; exact keptA w _ _ _ _ rfl
 have ka2 : ∀ W, Ext wA W → W.cell? ⟨w.heap.size, 2, none⟩ = some (.int .i64 xa.f) := by rw [hwA]; exact keptA w _ _ _ _ rfl
 have ka3 : ∀ W, Ext wA W → W.cell? ⟨w.heap.size, 3, none⟩ = some (.slice aa0 xa.t.length aa1) := by rw [hwA]; exact keptA w _ _ _ _ rfl
 have ka4 : ∀ W, Ext wA W → W.cell? ⟨w.heap.size, 4, none⟩ = some (.slice aa2 xa.l.length aa3) := by rw [hwA]; exact keptA w _ _ _ _ rfl
 have ka5 : ∀ W, Ext wA W → W.cell? ⟨w.heap.size, 5, none⟩ = some (.slice aa4 xa.r.length aa5) := by rw [hwA]; exact keptA w _ _ _ _ rfl
 have kb0 : ∀ W, Ext wA W → W.cell? ⟨w.heap.size + 1, 0, none⟩ = some (.int .i64 kb) := by rw [hwA]; exact keptB w _ _ _ _ rfl
 have kb1 : ∀ W, Ext wA W → W.cell? ⟨w.heap.size + 1, 1, none⟩ = some (.int .i64 pb) := by rw [hwA]; exact keptB w _ _ _ _ rfl
 have kb2 : ∀ W, Ext wA W → W.cell? ⟨w.heap.size + 1, 2, none⟩ = some (.int .i64 xb.f) := by rw [hwA]; exact keptB w _ _ _ _ rfl
 have kb3 : ∀ W, Ext wA W → W.cell? ⟨w.heap.size + 1, 3, none⟩ = some (.slice ab0 xb.t.length ab1) := by rw [hwA]; exact keptB w _ _ _ _ rfl
 have kb4 : ∀ W, Ext wA W → W.cell? ⟨w.heap.size + 1, 4, none⟩ = some (.slice ab2 xb.l.length ab3) := by rw [hwA]; exact keptB w _ _ _ _ rfl
 have kb5 : ∀ W, Ext wA W → W.cell? ⟨w.heap.size + 1, 5, none⟩ = some (.slice ab4 xb.r.length ab5) := by rw [hwA]; exact keptB w _ _ _ _ rfl
 have H0 : Ext wA wA := Ext.refl _
 have HWA := Lib.hid hwA; clear hwA
 by_cases hpe : pa = pb
 ·subst hpe
  go_enter Tryz.func222, Tryz.ntmps222
  go_wp2_with fail
  rw [← HWA.out]
  refine (HS.out _ hE0).mono ?_; rintro e w1 ⟨rfl, hx1⟩
  go_wp2_with fail
  go_ret
  exact RV.bool (by rw [HP.out]; simp) (hE0.trans hx1)
 ·have hd : (pa == pb) = false := by simpa using hpe
  have HN := Lib.hid hpe; clear hpe
  go_enter Tryz.func222, Tryz.ntmps222
  go_wp2_with fail
  rw [← HWA.out]
  go_ret
  exact RV.bool (by rw [HP.out, hd]; simp) hE0
set_option maxHeartbeats 2000000 in
set_option maxRecDepth 100000 in
theorem og2_c (s : List Rul) (wv : Value) (l : List Int) (a b : Can) (w : World) (hw : Ints w wv l) (ha : CanG w s a) (hb : CanG w s b) : Calls Tryz.prog 224 #[wv, canV a, canV b] w (RV (.bool (proB s l 2 a.stp b.stp)) w) := by
 have HS := Lib.hid (fun W (h : Ext w W) => oLasts_c s wv l a b W (hw.ext h) (ha.ext h) (hb.ext h))
 have HS2 := Lib.hid (fun W (h : Ext w W) => oLasts_c s wv l b a W (hw.ext h) (hb.ext h) (ha.ext h))
 have HP : Hid (proB s l 2 a.stp b.stp = (lastsB s l a.stp b.stp && !lastsB s l b.stp a.stp)) := Lib.hid rfl
 generalize lastsB s l a.stp b.stp = S at *
 generalize lastsB s l b.stp a.stp = S2 at *
 generalize proB s l 2 a.stp b.stp = R at *
 obtain ⟨ka, pa, xa, aa0, aa1, aa2, aa3, aa4, aa5, rfl, HXA, HRA, ha0, ha1, ha2, ha3⟩ := ha.lit
 obtain ⟨kb, pb, xb, ab0, ab1, ab2, ab3, ab4, ab5, rfl, HXB, HRB, hb0, hb1, hb2, hb3⟩ := hb.lit
 clear ha hb
 obtain ⟨aw, cw, rfl, _⟩ := hw.open_
 clear hw
 unfold canV at *
 dsimp only at *
 obtain ⟨wA, hwA⟩ : ∃ wA, wA = (w.alloc (.cells #[.int .i64 ka, .int .i64 pa, .int .i64 xa.f, .slice aa0 xa.t.length aa1, .slice aa2 xa.l.length aa3, .slice aa4 xa.r.length aa5] 165)).alloc (.cells #[.int .i64 kb, .int .i64 pb, .int .i64 xb.f, .slice ab0 xb.t.length ab1, .slice ab2 xb.l.length ab3, .slice ab4 xb.r.length ab5] 165) := ⟨_, rfl⟩
 have hE0 : Ext w wA := by rw [hwA]; exact (Ext.alloc _ _).trans (Ext.alloc _ _)
 have ka0 : ∀ W, Ext wA W → W.cell? ⟨w.heap.size, 0, none⟩ = some (.int .i64 ka) := by rw [hwA]; exact keptA w _ _ _ _ rfl
 have ka1 : ∀ W, Ext wA W → W.cell? ⟨w.heap.size, 1, none⟩ = some (.int .i64 pa) := by rw [hwA]; exact keptA w _ _ _ _ rfl
 have ka2 : ∀ W, Ext wA W → W.cell? ⟨w.heap.size, 2, none⟩ = some (.int .i64 xa.f) := by rw [hwA]; exact keptA w _ _ _ _ rfl
 have ka3 : ∀ W, Ext wA W → W.cell? ⟨w.heap.size, 3, none⟩ = some (.slice aa0 xa.t.length aa1) := by rw [hwA]; exact keptA w _ _ _ _ rfl
 have ka4 : ∀ W, Ext wA W → W.cell? ⟨w.heap.size, 4, none⟩ = some (.slice aa2 xa.l.length aa3) := by rw [hwA]; exact keptA w _ _ _ _ rfl
 have ka5 : ∀ W, Ext wA W → W.cell? ⟨w.heap.size, 5, none⟩ = some (.slice aa4 xa.r.length aa5) := by rw [hwA]; exact keptA w _ _ _ _ rfl
 have kb0 : ∀ W, Ext wA W → W.cell? ⟨w.heap.size + 1, 0, none⟩ = some (.int .i64 kb) := by rw [hwA]; exact keptB w _ _ _ _ rfl
 have kb1 : ∀ W, Ext wA W → W.cell? ⟨w.heap.size + 1, 1, none⟩ = some (.int .i64 pb) := by rw [hwA]; exact keptB w _ _ _ _ rfl
 have kb2 : ∀ W, Ext wA W → W.cell? ⟨w.heap.size + 1, 2, none⟩ = some (.int .i64 xb.f) := by rw [hwA]; exact keptB w _ _ _ _ rfl
 have kb3 : ∀ W, Ext wA W → W.cell? ⟨w.heap.size + 1, 3, none⟩ = some (.slice ab0 xb.t.length ab1) := by rw [hwA]; exact keptB w _ _ _ _ rfl
 have kb4 : ∀ W, Ext wA W → W.cell? ⟨w.heap.size + 1, 4, none⟩ = some (.slice ab2 xb.l.length ab3) := by rw [hwA]; exact keptB w _ _ _ _ rfl
 have kb5 : ∀ W, Ext wA W → W.cell? ⟨w.heap.size + 1, 5, none⟩ = some (.slice ab4 xb.r.length ab5) := by rw [hwA]; exact keptB w _ _ _ _ rfl
 have H0 : Ext wA wA := Ext.refl _
 have HWA := Lib.hid hwA; clear hwA
 cases S
 ·go_enter Tryz.func224, Tryz.ntmps224
  go_wp2_with fail
  rw [← HWA.out]
  refine (HS.out _ hE0).mono ?_; rintro e w1 ⟨rfl, hx1⟩
  go_wp2_with fail
  go_ret
  exact RV.bool (by rw [HP.out]; simp) (hE0.trans hx1)
 ·go_enter Tryz.func224, Tryz.ntmps224
  go_wp2_with fail
  rw [← HWA.out]
  refine (HS.out _ hE0).mono ?_; rintro e w1 ⟨rfl, hx1⟩
  go_wp2_with fail
  refine (HS2.out _ (hE0.trans hx1)).mono ?_; rintro e w2 ⟨rfl, hx2⟩
  go_wp2_with fail
  go_ret
  exact RV.bool (by rw [HP.out]; simp) (hE0.trans (hx1.trans hx2))
set_option maxHeartbeats 2000000 in
set_option maxRecDepth 100000 in
theorem og3_c (s : List Rul) (wv : Value) (l : List Int) (a b : Can) (w : World) (hw : Ints w wv l) (ha : CanG w s a) (hb : CanG w s b) : Calls Tryz.prog 226 #[wv, canV a, canV b] w (RV (.bool (proB s l 3 a.stp b.stp)) w) := by
 have HP : Hid (proB s l 3 a.stp b.stp = decide (a.p < b.p)) := Lib.hid rfl
 generalize proB s l 3 a.stp b.stp = R at *
 obtain ⟨ka, pa, xa, aa0, aa1, aa2, aa3, aa4, aa5, rfl, HXA, HRA, ha0, ha1, ha2, ha3⟩ := ha.lit
 obtain ⟨kb, pb, xb, ab0, ab1, ab2, ab3, ab4, ab5, rfl, HXB, HRB, hb0, hb1, hb2, hb3⟩ := hb.lit
 clear ha hb
 obtain ⟨aw, cw, rfl, _⟩ := hw.open_
 clear hw
 unfold canV at *
 dsimp only at *
 obtain ⟨wA, hwA⟩ : ∃ wA, wA = (w.alloc (.cells #[.int .i64 ka, .int .i64 pa, .int .i64 xa.f, .slice aa0 xa.t.length aa1, .slice aa2 xa.l.length aa3, .slice aa4 xa.r.length aa5] 165)).alloc (.cells #[.int .i64 kb, .int .i64 pb, .int .i64 xb.f, .slice ab0 xb.t.length ab1, .slice ab2 xb.l.length ab3, .slice ab4 xb.r.length ab5] 165) := ⟨_, rfl⟩
 have hE0 : Ext w wA := by rw [hwA]; exact (Ext.alloc _ _).trans (Ext.alloc _ _)
 have ka0 : ∀ W, Ext wA W → W.cell? ⟨w.heap.size, 0, none⟩ = some (.int .i64 ka) := by rw [hwA]; exact keptA w _ _ _ _ rfl
 have ka1 : ∀ W, Ext wA W → W.cell? ⟨w.heap.size, 1, none⟩ = some (.int .i64 pa) := by rw [hwA]; exact keptA w _ _ _ _ rfl
 have ka2 : ∀ W, Ext wA W → W.cell? ⟨w.heap.size, 2, none⟩ = some (.int .i64 xa.f) := by rw [hwA]; exact keptA w _ _ _ _ rfl
 have ka3 : ∀ W, Ext wA W → W.cell? ⟨w.heap.size, 3, none⟩ = some (.slice aa0 xa.t.length aa1) := by rw [hwA]; exact keptA w _ _ _ _ rfl
 have ka4 : ∀ W, Ext wA W → W.cell? ⟨w.heap.size, 4, none⟩ = some (.slice aa2 xa.l.length aa3) := by rw [hwA]; exact keptA w _ _ _ _ rfl
 have ka5 : ∀ W, Ext wA W → W.cell? ⟨w.heap.size, 5, none⟩ = some (.slice aa4 xa.r.length aa5) := by rw [hwA]; exact keptA w _ _ _ _ rfl
 have kb0 : ∀ W, Ext wA W → W.cell? ⟨w.heap.size + 1, 0, none⟩ = some (.int .i64 kb) := by rw [hwA]; exact keptB w _ _ _ _ rfl
 have kb1 : ∀ W, Ext wA W → W.cell? ⟨w.heap.size + 1, 1, none⟩ = some (.int .i64 pb) := by rw [hwA]; exact keptB w _ _ _ _ rfl
 have kb2 : ∀ W, Ext wA W → W.cell? ⟨w.heap.size + 1, 2, none⟩ = some (.int .i64 xb.f) := by rw [hwA]; exact keptB w _ _ _ _ rfl
 have kb3 : ∀ W, Ext wA W → W.cell? ⟨w.heap.size + 1, 3, none⟩ = some (.slice ab0 xb.t.length ab1) := by rw [hwA]; exact keptB w _ _ _ _ rfl
 have kb4 : ∀ W, Ext wA W → W.cell? ⟨w.heap.size + 1, 4, none⟩ = some (.slice ab2 xb.l.length ab3) := by rw [hwA]; exact keptB w _ _ _ _ rfl
 have kb5 : ∀ W, Ext wA W → W.cell? ⟨w.heap.size + 1, 5, none⟩ = some (.slice ab4 xb.r.length ab5) := by rw [hwA]; exact keptB w _ _ _ _ rfl
 have H0 : Ext wA wA := Ext.refl _
 have HWA := Lib.hid hwA; clear hwA
 go_enter Tryz.func226, Tryz.ntmps226
 go_wp2_with fail
 rw [← HWA.out]
 go_ret
 exact RV.bool (by rw [HP.out]) hE0
set_option maxHeartbeats 2000000 in
set_option maxRecDepth 100000 in
theorem og4_c (s : List Rul) (wv : Value) (l : List Int) (a b : Can) (w : World) (hw : Ints w wv l) (ha : CanG w s a) (hb : CanG w s b) : Calls Tryz.prog 227 #[wv, canV a, canV b] w (RV (.bool (proB s l 4 a.stp b.stp)) w) := by
 have HP : Hid (proB s l 4 a.stp b.stp = decide (b.k < a.k)) := Lib.hid rfl
 generalize proB s l 4 a.stp b.stp = R at *
 obtain ⟨ka, pa, xa, aa0, aa1, aa2, aa3, aa4, aa5, rfl, HXA, HRA, ha0, ha1, ha2, ha3⟩ := ha.lit
 obtain ⟨kb, pb, xb, ab0, ab1, ab2, ab3, ab4, ab5, rfl, HXB, HRB, hb0, hb1, hb2, hb3⟩ := hb.lit
 clear ha hb
 obtain ⟨aw, cw, rfl, _⟩ := hw.open_
 clear hw
 unfold canV at *
 dsimp only at *
 obtain ⟨wA, hwA⟩ : ∃ wA, wA = (w.alloc (.cells #[.int .i64 ka, .int .i64 pa, .int .i64 xa.f, .slice aa0 xa.t.length aa1, .slice aa2 xa.l.length aa3, .slice aa4 xa.r.length aa5] 165)).alloc (.cells #[.int .i64 kb, .int .i64 pb, .int .i64 xb.f, .slice ab0 xb.t.length ab1, .slice ab2 xb.l.length ab3, .slice ab4 xb.r.length ab5] 165) := ⟨_, rfl⟩
 have hE0 : Ext w wA := by rw [hwA]; exact (Ext.alloc _ _).trans (Ext.alloc _ _)
 have ka0 : ∀ W, Ext wA W → W.cell? ⟨w.heap.size, 0, none⟩ = some (.int .i64 ka) := by rw [hwA]; exact keptA w _ _ _ _ rfl
 have ka1 : ∀ W, Ext wA W → W.cell? ⟨w.heap.size, 1, none⟩ = some (.int .i64 pa) := by rw [hwA]; exact keptA w _ _ _ _ rfl
 have ka2 : ∀ W, Ext wA W → W.cell? ⟨w.heap.size, 2, none⟩ = some (.int .i64 xa.f) := by rw [hwA]; exact keptA w _ _ _ _ rfl
 have ka3 : ∀ W, Ext wA W → W.cell? ⟨w.heap.size, 3, none⟩ = some (.slice aa0 xa.t.length aa1) := by rw [hwA]; exact keptA w _ _ _ _ rfl
 have ka4 : ∀ W, Ext wA W → W.cell? ⟨w.heap.size, 4, none⟩ = some (.slice aa2 xa.l.length aa3) := by rw [hwA]; exact keptA w _ _ _ _ rfl
 have ka5 : ∀ W, Ext wA W → W.cell? ⟨w.heap.size, 5, none⟩ = some (.slice aa4 xa.r.length aa5) := by rw [hwA]; exact keptA w _ _ _ _ rfl
 have kb0 : ∀ W, Ext wA W → W.cell? ⟨w.heap.size + 1, 0, none⟩ = some (.int .i64 kb) := by rw [hwA]; exact keptB w _ _ _ _ rfl
 have kb1 : ∀ W, Ext wA W → W.cell? ⟨w.heap.size + 1, 1, none⟩ = some (.int .i64 pb) := by rw [hwA]; exact keptB w _ _ _ _ rfl
 have kb2 : ∀ W, Ext wA W → W.cell? ⟨w.heap.size + 1, 2, none⟩ = some (.int .i64 xb.f) := by rw [hwA]; exact keptB w _ _ _ _ rfl
 have kb3 : ∀ W, Ext wA W → W.cell? ⟨w.heap.size + 1, 3, none⟩ = some (.slice ab0 xb.t.length ab1) := by rw [hwA]; exact keptB w _ _ _ _ rfl
 have kb4 : ∀ W, Ext wA W → W.cell? ⟨w.heap.size + 1, 4, none⟩ = some (.slice ab2 xb.l.length ab3) := by rw [hwA]; exact keptB w _ _ _ _ rfl
 have kb5 : ∀ W, Ext wA W → W.cell? ⟨w.heap.size + 1, 5, none⟩ = some (.slice ab4 xb.r.length ab5) := by rw [hwA]; exact keptB w _ _ _ _ rfl
 have H0 : Ext wA wA := Ext.refl _
 have HWA := Lib.hid hwA; clear hwA
 go_enter Tryz.func227, Tryz.ntmps227
 go_wp2_with fail
 rw [← HWA.out]
 go_ret
 exact RV.bool (by rw [HP.out, Bool.eq_iff_iff] <;> simp) hE0
end Go.Proofs.YtpmlcfgbfhgpgaaGreatDoor
