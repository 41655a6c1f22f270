/- Equal states of a school are found equal. -/
import Derived.Test.YtpmlcfgbfhgpgaaGreatDoorLaw9H
namespace Go.Proofs.YtpmlcfgbfhgpgaaGreatDoor
open Go.RowKit Go.Shelf
set_option linter.unusedVariables false
set_option maxHeartbeats 1000000 in
theorem equalTexts_c (va vb : Value) (L : List ByteArray) (w : World) (ha : Strs w va L) (hb : Strs w vb L) :
    Calls Tryz.prog 135 #[va, vb] w (RV (.bool true) w) := by
  obtain ⟨aa, ca, rfl, hla, hma, Hca⟩ := ha.at_
  obtain ⟨ab, cb, rfl, hlb, hmb, Hcb⟩ := hb.at_
  clear ha hb
  go_enter Tryz.func135, Tryz.ntmps135
  go_wp2_with fail
  go_loopg [13] L.length (fun m i wr => ∃ k : Nat, k ≤ L.length ∧ L.length ≤ k + m ∧ i = .int .i64 k ∧ Ext w wr)
  case atStart => exact ⟨0, by omega, by omega, rfl, Ext.refl _⟩
  case round =>
    obtain ⟨k, hk, hk2, rfl, hwx⟩ := hrel
    by_cases hlt : k < L.length
    · obtain ⟨ba, oa, rfl, hc1⟩ := Hca.out k hlt
      obtain ⟨bb, ob, rfl, hc2⟩ := Hcb.out k hlt
      replace hc1 := hwx.keep hc1
      replace hc2 := hwx.keep hc2
      generalize L[k] = x at *
      have hn : (x.toList != x.toList) = false := by simp
      have hn2 : (x.toList == x.toList) = true := by simp
      go_wp2_with fail
      go_quiet (fail)
      go_wp2_with fail
      go_roundg (gk-1)
      case measure => omega
      case rel => exact ⟨k+1, by omega, by omega, by go_num, hwx.trans (Ext.drewN _ _)⟩
    · go_wp2_with fail
      go_ret
      exact ⟨rfl, hwx⟩
set_option maxHeartbeats 2000000 in
theorem equalChs_c (va vb : Value) (L : List Ch) (w : World) (ha : Chs w va L) (hb : Chs w vb L) :
    Calls Tryz.prog 134 #[va, vb] w (RV (.bool true) w) := by
  obtain ⟨aa, ca, rfl, hla, hma, Hca⟩ := ha.open_
  obtain ⟨ab, cb, rfl, hlb, hmb, Hcb⟩ := hb.open_
  clear ha hb
  go_enter Tryz.func134, Tryz.ntmps134
  go_wp2_with fail
  go_loopg [13] L.length (fun m i wr => ∃ k : Nat, k ≤ L.length ∧ L.length ≤ k + m ∧ i = .int .i64 k ∧ Ext w wr)
  case atStart => exact ⟨0, by omega, by omega, rfl, Ext.refl _⟩
  case round =>
    obtain ⟨k, hk, hk2, rfl, hwx⟩ := hrel
    by_cases hlt : k < L.length
    · obtain ⟨ba, oa, rfl, hc1⟩ := Hca.out k _ (List.getElem?_eq_getElem hlt)
      obtain ⟨bb, ob, rfl, hc2⟩ := Hcb.out k _ (List.getElem?_eq_getElem hlt)
      generalize L[k] = x at *
      obtain ⟨x1, x2, x3⟩ := x
      have p0 := hwx.keep (hc1 0 _ rfl)
      have p1 := hwx.keep (hc1 1 _ rfl)
      have p2 := hwx.keep (hc1 2 _ rfl)
      have q0 := hwx.keep (hc2 0 _ rfl)
      have q1 := hwx.keep (hc2 1 _ rfl)
      have q2 := hwx.keep (hc2 2 _ rfl)
      rw [Nat.add_zero] at p0 q0
      clear hc1 hc2
      go_wp2_with fail
      go_quiet (fail)
      go_wp2_with fail
      go_roundg (gk-1)
      case measure => omega
      case rel => exact ⟨k+1, by omega, by omega, by go_num, hwx.trans (Ext.drewN _ _)⟩
    · go_wp2_with fail
      go_ret
      exact ⟨rfl, hwx⟩
set_option maxHeartbeats 2000000 in
set_option maxRecDepth 100000 in
theorem equalRows_c (va vb : Value) (l : List (List Int)) (w : World) (ha : Rows w va l) (hb : Rows w vb l) :
    Calls Tryz.prog 178 #[va, vb, .func (.func 92) #[] #[]] w (RV (.bool true) w) := by
  obtain ⟨aa, ca, rfl, hla, hma, Ha⟩ := Sl.open_ ha
  obtain ⟨ab, cb, rfl, hlb, hmb, Hb⟩ := Sl.open_ hb
  clear ha hb
  go_enter Tryz.func178, Tryz.ntmps178
  go_wp2_with fail
  go_loopg [17] l.length (fun m i wr => ∃ k : Nat, k ≤ l.length ∧ l.length ≤ k + m ∧ i = .int .i64 k ∧ Ext w wr)
  case atStart => exact ⟨0, by omega, by omega, rfl, Ext.refl _⟩
  case round =>
    obtain ⟨k, hk, hk2, rfl, hB⟩ := hrel
    by_cases hlt : k < l.length
    · obtain ⟨ba, oa, rfl, ua, hc1, hi⟩ := Ha.out k hlt
      obtain ⟨bb, ob, rfl, ub, hc2, hj⟩ := Hb.out k hlt
      replace hc1 := hB.keep hc1
      replace hc2 := hB.keep hc2
      have HQ := Lib.hid (equalInts_c ua ub (l[k]?.getD []) (l[k]?.getD []) wr (hi.ext hB) (hj.ext hB))
      rw [sameIntsB_refl] at HQ
      obtain ⟨a1, c1, hu1, _⟩ := hi.open_
      subst hu1
      obtain ⟨a2, c2, hu2, _⟩ := hj.open_
      subst hu2
      clear hi hj
      generalize l[k]?.getD [] = x at *
      go_wp2_with fail
      refine HQ.out.mono ?_; rintro e w1 ⟨rfl, n1, hw1⟩
      have hx1 : Ext wr w1 := by rw [hw1]; exact Ext.drewN _ _
      clear hw1
      go_wp2_with fail
      go_roundg (gk-1)
      case measure => omega
      case rel => exact ⟨k+1, by omega, by omega, by go_num, hB.trans hx1⟩
    · go_wp2_with fail
      go_ret
      exact ⟨rfl, hB⟩
set_option maxRecDepth 100000 in
theorem lists_c (va vb : Value) (l : List (List Int)) (w : World) (ha : Rows w va l) (hb : Rows w vb l) : Calls Tryz.prog 133 #[va, vb] w (RV (.bool true) w) := by
  have HE := Lib.hid (equalRows_c va vb l w ha hb)
  obtain ⟨aa, ca, rfl, _⟩ := Sl.open_ ha
  obtain ⟨ab, cb, rfl, _⟩ := Sl.open_ hb
  clear ha hb
  go_enter Tryz.func133, Tryz.ntmps133
  go_wp2_with fail
  refine HE.out.mono ?_; rintro e w1 ⟨rfl, hx1⟩
  go_wp2_with fail
  go_ret
  exact ⟨rfl, hx1⟩
set_option maxRecDepth 100000 in
theorem auditF_c (va vb : Value) (g : Nat) (a b : List Int) (w : World) (ha : Ints w va a) (hb : Ints w vb b) (hg : w.cell? ⟨g, 0, none⟩ = some vb) :
    Calls Tryz.prog 94 #[va, .pointer (some ⟨g, 0, none⟩)] w (RV (.bool (sameIntsB a b)) w) := by
  have HQ := Lib.hid (equalInts_c va vb a b w ha hb)
  obtain ⟨aa, ca, rfl, _⟩ := ha.open_
  obtain ⟨ab, cb, rfl, _⟩ := hb.open_
  clear ha hb
  go_enter Tryz.func94, Tryz.ntmps94
  go_wp2_with fail
  refine HQ.out.mono ?_; rintro e w1 ⟨rfl, n1, hw1⟩
  have hx1 : Ext w w1 := by rw [hw1]; exact Ext.drewN _ _
  clear hw1
  go_wp2_with fail
  go_ret
  exact ⟨rfl, hx1⟩
set_option maxHeartbeats 8000000 in
set_option maxRecDepth 100000 in
theorem same_c (v1 v2 : SV) (x : St) (w : World) (h1 : StR w v1 x) (h2 : StR w v2 x) : Calls Tryz.prog 95 #[.agg (v1.cells x).toArray, .agg (v2.cells x).toArray] w (RV (.bool true) w) := by
  have E0 := Lib.hid (fun W (q : Ext w W) => equalInts_c v1.kn v2.kn x.kn x.kn W (h1.kn.ext q) (h2.kn.ext q))
  have E1 := Lib.hid (fun W (q : Ext w W) => equalInts_c v1.gr v2.gr x.gr x.gr W (h1.gr.ext q) (h2.gr.ext q))
  have E3 := Lib.hid (fun W (q : Ext w W) => equalInts_c v1.base v2.base x.base x.base W (h1.base.ext q) (h2.base.ext q))
  have E4 := Lib.hid (fun W (q : Ext w W) => lists_c v1.words v2.words x.words W (h1.words.ext q) (h2.words.ext q))
  have E5 := Lib.hid (fun W (q : Ext w W) => equalChs_c v1.slate v2.slate x.slate W (h1.slate.ext q) (h2.slate.ext q))
  have E6 := Lib.hid (fun W (q : Ext w W) => lists_c v1.forms v2.forms x.forms W (h1.forms.ext q) (h2.forms.ext q))
  have E7 := Lib.hid (fun W (q : Ext w W) => equalTexts_c v1.orders v2.orders x.orders W (h1.orders.ext q) (h2.orders.ext q))
  rw [sameIntsB_refl] at E0 E1 E3
  obtain ⟨b0, d0, b1, d1, b2, d2, b3, d3, b4, d4, b5, d5, b6, d6, hv1⟩ := SV.lit h1
  obtain ⟨c0, f0, c1, f1, c2, f2, c3, f3, c4, f4, c5, f5, c6, f6, hv2⟩ := SV.lit h2
  clear h1 h2
  subst hv1 hv2
  simp only [SV.cells]
  go_enter Tryz.func95, Tryz.ntmps95
  go_upto_region 1 with fail
  have hg := Blk.alloc w #[.slice b0 x.kn.length d0, .slice b1 x.gr.length d1, .bool x.has, .slice b2 x.base.length d2, .slice b3 x.words.length d3, .slice b4 x.slate.length d4, .slice b5 x.forms.length d5, .slice b6 x.orders.length d6] 106
  have hx1 := Ext.alloc w (.cells #[.slice b0 x.kn.length d0, .slice b1 x.gr.length d1, .bool x.has, .slice b2 x.base.length d2, .slice b3 x.words.length d3, .slice b4 x.slate.length d4, .slice b5 x.forms.length d5, .slice b6 x.orders.length d6] 106)
  have hsz : (w.alloc (.cells #[.slice b0 x.kn.length d0, .slice b1 x.gr.length d1, .bool x.has, .slice b2 x.base.length d2, .slice b3 x.words.length d3, .slice b4 x.slate.length d4, .slice b5 x.forms.length d5, .slice b6 x.orders.length d6] 106)).heap.size = w.heap.size + 1 := by simp
  generalize w.alloc (.cells #[.slice b0 x.kn.length d0, .slice b1 x.gr.length d1, .bool x.has, .slice b2 x.base.length d2, .slice b3 x.words.length d3, .slice b4 x.slate.length d4, .slice b5 x.forms.length d5, .slice b6 x.orders.length d6] 106) = wA at *
  have hh := Blk.alloc wA #[.slice c0 x.kn.length f0, .slice c1 x.gr.length f1, .bool x.has, .slice c2 x.base.length f2, .slice c3 x.words.length f3, .slice c4 x.slate.length f4, .slice c5 x.forms.length f5, .slice c6 x.orders.length f6] 106
  have hx2 := Ext.alloc wA (.cells #[.slice c0 x.kn.length f0, .slice c1 x.gr.length f1, .bool x.has, .slice c2 x.base.length f2, .slice c3 x.words.length f3, .slice c4 x.slate.length f4, .slice c5 x.forms.length f5, .slice c6 x.orders.length f6] 106)
  generalize wA.alloc (.cells #[.slice c0 x.kn.length f0, .slice c1 x.gr.length f1, .bool x.has, .slice c2 x.base.length f2, .slice c3 x.words.length f3, .slice c4 x.slate.length f4, .slice c5 x.forms.length f5, .slice c6 x.orders.length f6] 106) = w0 at *
  rw [hsz] at hh
  clear hsz
  have hX0 := hx1.trans hx2
  replace hg := hg.ext hx2
  clear hx1 hx2
  generalize w.heap.size + 1 = gH at *
  generalize w.heap.size = gG at *
  have hEE := Ext.refl w0
  have kg0 : ∀ W, Ext w0 W → W.cell? ⟨gG, 0, none⟩ = some (.slice b0 x.kn.length d0) := fun W q => (hg.ext q).cell rfl
  have kh0 : ∀ W, Ext w0 W → W.cell? ⟨gH, 0, none⟩ = some (.slice c0 x.kn.length f0) := fun W q => (hh.ext q).cell rfl
  have kg1 : ∀ W, Ext w0 W → W.cell? ⟨gG, 1, none⟩ = some (.slice b1 x.gr.length d1) := fun W q => (hg.ext q).cell rfl
  have kh1 : ∀ W, Ext w0 W → W.cell? ⟨gH, 1, none⟩ = some (.slice c1 x.gr.length f1) := fun W q => (hh.ext q).cell rfl
  have kg2 : ∀ W, Ext w0 W → W.cell? ⟨gG, 2, none⟩ = some (.bool x.has) := fun W q => (hg.ext q).cell rfl
  have kh2 : ∀ W, Ext w0 W → W.cell? ⟨gH, 2, none⟩ = some (.bool x.has) := fun W q => (hh.ext q).cell rfl
  have kg3 : ∀ W, Ext w0 W → W.cell? ⟨gG, 3, none⟩ = some (.slice b2 x.base.length d2) := fun W q => (hg.ext q).cell rfl
  have kh3 : ∀ W, Ext w0 W → W.cell? ⟨gH, 3, none⟩ = some (.slice c2 x.base.length f2) := fun W q => (hh.ext q).cell rfl
  have kg4 : ∀ W, Ext w0 W → W.cell? ⟨gG, 4, none⟩ = some (.slice b3 x.words.length d3) := fun W q => (hg.ext q).cell rfl
  have kh4 : ∀ W, Ext w0 W → W.cell? ⟨gH, 4, none⟩ = some (.slice c3 x.words.length f3) := fun W q => (hh.ext q).cell rfl
  have kg5 : ∀ W, Ext w0 W → W.cell? ⟨gG, 5, none⟩ = some (.slice b4 x.slate.length d4) := fun W q => (hg.ext q).cell rfl
  have kh5 : ∀ W, Ext w0 W → W.cell? ⟨gH, 5, none⟩ = some (.slice c4 x.slate.length f4) := fun W q => (hh.ext q).cell rfl
  have kg6 : ∀ W, Ext w0 W → W.cell? ⟨gG, 6, none⟩ = some (.slice b5 x.forms.length d5) := fun W q => (hg.ext q).cell rfl
  have kh6 : ∀ W, Ext w0 W → W.cell? ⟨gH, 6, none⟩ = some (.slice c5 x.forms.length f5) := fun W q => (hh.ext q).cell rfl
  have kg7 : ∀ W, Ext w0 W → W.cell? ⟨gG, 7, none⟩ = some (.slice b6 x.orders.length d6) := fun W q => (hg.ext q).cell rfl
  have kh7 : ∀ W, Ext w0 W → W.cell? ⟨gH, 7, none⟩ = some (.slice c6 x.orders.length f6) := fun W q => (hh.ext q).cell rfl
  have hbb : (x.has == x.has) = true := by simp
  go_wp2_with fail
  refine (E0.out w0 (hX0.trans hEE)).mono ?_; rintro e w1 ⟨rfl, n1, hw1⟩
  have hE1 : Ext w0 w1 := by rw [hw1]; exact (hEE).trans (Ext.drewN _ _)
  clear hw1
  go_wp2_with fail
  refine (E1.out w1 (hX0.trans hE1)).mono ?_; rintro e w2 ⟨rfl, n2, hw2⟩
  have hE2 : Ext w0 w2 := by rw [hw2]; exact (hE1).trans (Ext.drewN _ _)
  clear hw2
  go_wp2_with fail
  refine (E3.out w2 (hX0.trans hE2)).mono ?_; rintro e w3 ⟨rfl, n3, hw3⟩
  have hE3 : Ext w0 w3 := by rw [hw3]; exact (hE2).trans (Ext.drewN _ _)
  clear hw3
  go_wp2_with fail
  refine (E4.out w3 (hX0.trans hE3)).mono ?_; rintro e w4 ⟨rfl, hx4⟩
  have hE4 : Ext w0 w4 := (hE3).trans hx4
  go_wp2_with fail
  refine (E5.out w4 (hX0.trans hE4)).mono ?_; rintro e w5 ⟨rfl, hx5⟩
  have hE5 : Ext w0 w5 := (hE4).trans hx5
  go_wp2_with fail
  refine (E6.out w5 (hX0.trans hE5)).mono ?_; rintro e w6 ⟨rfl, hx6⟩
  have hE6 : Ext w0 w6 := (hE5).trans hx6
  go_wp2_with fail
  refine (E7.out w6 (hX0.trans hE6)).mono ?_; rintro e w7 ⟨rfl, hx7⟩
  have hE7 : Ext w0 w7 := (hE6).trans hx7
  go_wp2_with fail
  go_ret
  exact ⟨rfl, hX0.trans hE7⟩
end Go.Proofs.YtpmlcfgbfhgpgaaGreatDoor
