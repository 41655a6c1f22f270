/- Machines: a machine with different arcs in ascending order; ErrLarge if it is too large. -/
import Derived.Test.YtpbflkbelhlogaaArcW
import Derived.Test.YtpbflkbelhlogaaArcT
import Derived.Test.YtpbflkbelhlogaaMacO
namespace Go.Proofs.Ytpbflkbelhlogaa
open Go.RowKit Go.Shelf
set_option linter.unusedVariables false
def madeK (s : Int) (l : List Arc) : Int := if 9 < s then 3 else if 60 < (arcsU l).length then 3 else 0
def madeM (s : Int) (l : List Arc) (e : List Int) : Mac := if madeK s l = 0 then ⟨s, arcsU l, e⟩ else ⟨0, [], []⟩
/-- a machine in memory of one's own and an error come back -/
def RMacO (m : Mac) (k : Int) (w : World) (e : Ending) (w' : World) : Prop := ∃ av ev, e = .returned (.tuple #[.agg #[.int .i64 m.s, av, ev], .int .i64 k]) ∧ OMac w' w.heap.size av ev m ∧ Ext w w'
theorem RMacO.mk {m m2 : Mac} {k k2 : Int} {w w' : World} {av ev : Value} (hm : m = m2) (hk : k = k2) (h : OMac w' w.heap.size av ev m2) (hx : Ext w w') : RMacO m k w (.returned (.tuple #[.agg #[.int .i64 m2.s, av, ev], .int .i64 k2])) w' := by
  subst hm hk; exact ⟨_, _, rfl, h, hx⟩
theorem RMacO.r2 {m : Mac} {k : Int} {w w' : World} {e : Ending} (h : RMacO m k w e w') : RMac2 m k w e w' := by
  obtain ⟨a, b, h1, h2, h3⟩ := h
  exact ⟨a, b, h1, h2.mac, h3⟩
set_option maxHeartbeats 2000000 in
set_option maxRecDepth 100000 in
theorem made_c (s : Int) (av ev : Value) (l : List Arc) (e : List Int) (w0 w : World) (hx0 : Ext w0 w) (ha : OArcs w w0.heap.size av l) (he : OInts 3 w w0.heap.size ev e) (hl : l.length ≤ 100000) :
    Calls Try.prog 87 #[.int .i64 s, av, ev] w (RMacO (madeM s l e) (madeK s l) w0) := by
  obtain ⟨wR, hwR⟩ : ∃ wR, wR = w.alloc (.cells #[.int .i64 0, .slice none 0 0, .slice none 0 0] 25) := ⟨_, rfl⟩
  have hxR : Ext w wR := by rw [hwR]; exact Ext.alloc _ _
  have hbR : Blk wR w.heap.size 25 [.int .i64 0, .slice none 0 0, .slice none 0 0] := by rw [hwR]; exact Blk.alloc w _ _
  have HA := Lib.hid (ha.ext hxR)
  have HE := Lib.hid (he.ext hxR)
  have HB := Lib.hid hbR
  have HX := Lib.hid (hx0.trans hxR)
  have hsz0 : w0.heap.size ≤ w.heap.size := hx0.size
  have hszR : w0.heap.size ≤ wR.heap.size := (hx0.trans hxR).size
  have HSO := Lib.hid (sortA_c av l wR _ HA.out hl)
  have HW := Lib.hid hwR
  obtain ⟨aa, ca, rfl⟩ := row_open ha
  obtain ⟨ae, ce, rfl⟩ := row_open he
  clear hwR hxR hbR ha he
  obtain ⟨U, hU⟩ : ∃ U, arcsU l = U := ⟨_, rfl⟩
  have HU := Lib.hid hU; clear hU
  go_enter Try.func87, Try.ntmps87
  go_wp2_with fail
  rw [← HW.out]
  refine HSO.out.mono ?_; rintro en w2 ⟨rfl, S, hperm, hasc, ho2, hg2⟩
  have HX2 := Lib.hid (HX.out.upto (Below.of_grownBy hg2 HA.out hszR) (Nat.le_refl _))
  have HB2 := Lib.hid (HB.out.keptR (by decide) HA.out hg2)
  have HE2 := Lib.hid (row_keptR HE.out (by decide) HA.out hg2)
  have HSU : Hid (ddTo S S.length = U) := Lib.hid (by rw [← HU.out]; exact dd_arcsU hperm hasc)
  have hSl : S.length = l.length := hperm.length_eq
  have HO2 := Lib.hid ho2
  have HCO := Lib.hid (compact_c _ S w2 _ ho2 (by rw [hSl]; exact hl))
  rw [HSU.out] at HCO
  clear hperm hasc ho2 hg2
  have HSL := Lib.hid hSl; clear hSl
  have hsz2 := HX2.out.size
  go_wp2_with fail
  refine HCO.out.mono ?_; rintro en w3 ⟨v3, rfl, ho3, hg3⟩
  have HX3 := Lib.hid (HX2.out.upto (Below.of_grownBy hg3 HO2.out hsz2) (Nat.le_refl _))
  have HB3 := Lib.hid (HB2.out.keptR (by decide) HO2.out hg3)
  have HE3 := Lib.hid (row_keptR HE2.out (by decide) HO2.out hg3)
  have HA3 := Lib.hid ho3
  obtain ⟨a3, c3, rfl⟩ := row_open ho3
  clear ho3 hg3
  by_cases h9 : 9 < s
  · have hd1 : decide (s > 9) = true := by simpa using h9
    have hd2 : decide (9 < s) = true := by simpa using h9
    have HK0 : madeK s l = 3 := by rw [madeK, if_pos h9]
    have HK : Hid (madeM s l e = ⟨0, [], []⟩ ∧ madeK s l = 3) := Lib.hid ⟨by rw [madeM, HK0, if_neg (by decide)], HK0⟩
    clear HK0 h9
    have hb := HB3.out
    have z0 := hb.cell (i := 0) rfl
    have z1 := hb.cell (i := 1) rfl
    have z2 := hb.cell (i := 2) rfl
    have f0 := hb.frozen 0
    have f1 := hb.frozen 1
    have f2 := hb.frozen 2
    have HB := Lib.hid (And.intro (hb.store3 (.int .i64 0) (.slice none 0 0) (.slice none 0 0)) (Ext.store3 HX3.out hsz0 (.int .i64 0) (.slice none 0 0) (.slice none 0 0)))
    clear hb
    go_wp2_with fail
    obtain ⟨hb2, hx2'⟩ := HB.out
    clear z0 z1 z2 f0 f1 f2 HB
    have d0 := hb2.cell (i := 0) rfl
    have d1 := hb2.cell (i := 1) rfl
    have d2 := hb2.cell (i := 2) rfl
    generalize (((w3.setCell ⟨w.heap.size, 0, none⟩ (.int .i64 0)).setCell ⟨w.heap.size, 1, none⟩ (.slice none 0 0)).setCell ⟨w.heap.size, 2, none⟩ (.slice none 0 0)) = w4 at *
    refine bodyPost_ret (v := .tuple #[.agg #[.int .i64 0, .slice none 0 0, .slice none 0 0], .int .i64 3]) (by simp [results, Try.results87, go_sem, d0, d1, d2]) rfl ?_
    exact RMacO.mk HK.out.1 HK.out.2 (OMac.nil _ _) hx2'
  · have hd1 : decide (s > 9) = false := by simp; omega
    have hd2 : decide (9 < s) = false := by simp; omega
    by_cases h60 : 60 < U.length
    · have hd3 : decide ((U.length : Int) > 60) = true := by simp; omega
      have hd4 : decide ((60 : Int) < (U.length : Int)) = true := by simp; omega
      have HK0 : madeK s l = 3 := by rw [madeK, if_neg h9, HU.out, if_pos h60]
      have HK : Hid (madeM s l e = ⟨0, [], []⟩ ∧ madeK s l = 3) := Lib.hid ⟨by rw [madeM, HK0, if_neg (by decide)], HK0⟩
      clear HK0 h9
      have hb := HB3.out
      have z0 := hb.cell (i := 0) rfl
      have z1 := hb.cell (i := 1) rfl
      have z2 := hb.cell (i := 2) rfl
      have f0 := hb.frozen 0
      have f1 := hb.frozen 1
      have f2 := hb.frozen 2
      have HB := Lib.hid (And.intro (hb.store3 (.int .i64 0) (.slice none 0 0) (.slice none 0 0)) (Ext.store3 HX3.out hsz0 (.int .i64 0) (.slice none 0 0) (.slice none 0 0)))
      clear hb
      go_wp2_with fail
      obtain ⟨hb2, hx2'⟩ := HB.out
      clear z0 z1 z2 f0 f1 f2 HB
      have d0 := hb2.cell (i := 0) rfl
      have d1 := hb2.cell (i := 1) rfl
      have d2 := hb2.cell (i := 2) rfl
      generalize (((w3.setCell ⟨w.heap.size, 0, none⟩ (.int .i64 0)).setCell ⟨w.heap.size, 1, none⟩ (.slice none 0 0)).setCell ⟨w.heap.size, 2, none⟩ (.slice none 0 0)) = w4 at *
      refine bodyPost_ret (v := .tuple #[.agg #[.int .i64 0, .slice none 0 0, .slice none 0 0], .int .i64 3]) (by simp [results, Try.results87, go_sem, d0, d1, d2]) rfl ?_
      exact RMacO.mk HK.out.1 HK.out.2 (OMac.nil _ _) hx2'
    · have hd3 : decide ((U.length : Int) > 60) = false := by simp; omega
      have hd4 : decide ((60 : Int) < (U.length : Int)) = false := by simp; omega
      have HK0 : madeK s l = 0 := by rw [madeK, if_neg h9, HU.out, if_neg h60]
      have HK : Hid (madeM s l e = ⟨s, U, e⟩ ∧ madeK s l = 0) := Lib.hid ⟨by rw [madeM, if_pos HK0, HU.out], HK0⟩
      clear HK0 h9
      have hb := HB3.out
      have z0 := hb.cell (i := 0) rfl
      have z1 := hb.cell (i := 1) rfl
      have z2 := hb.cell (i := 2) rfl
      have f0 := hb.frozen 0
      have f1 := hb.frozen 1
      have f2 := hb.frozen 2
      have HB := Lib.hid (And.intro (hb.store3 (.int .i64 s) (.slice a3 U.length c3) (.slice ae e.length ce)) (And.intro (Ext.store3 HX3.out hsz0 (.int .i64 s) (.slice a3 U.length c3) (.slice ae e.length ce))
        (And.intro (row_store3 HA3.out hb (by decide) (.int .i64 s) (.slice a3 U.length c3) (.slice ae e.length ce)) (row_store3 HE3.out hb (by decide) (.int .i64 s) (.slice a3 U.length c3) (.slice ae e.length ce)))))
      clear hb
      go_wp2_with fail
      obtain ⟨hb2, hx2', hA4, hE4⟩ := HB.out
      clear z0 z1 z2 f0 f1 f2 HB
      have d0 := hb2.cell (i := 0) rfl
      have d1 := hb2.cell (i := 1) rfl
      have d2 := hb2.cell (i := 2) rfl
      generalize (((w3.setCell ⟨w.heap.size, 0, none⟩ (.int .i64 s)).setCell ⟨w.heap.size, 1, none⟩ (.slice a3 U.length c3)).setCell ⟨w.heap.size, 2, none⟩ (.slice ae e.length ce)) = w4 at *
      refine bodyPost_ret (v := .tuple #[.agg #[.int .i64 s, .slice a3 U.length c3, .slice ae e.length ce], .int .i64 0]) (by simp [results, Try.results87, go_sem, d0, d1, d2]) rfl ?_
      exact RMacO.mk HK.out.1 HK.out.2 ⟨hA4, hE4⟩ hx2'
end Go.Proofs.Ytpbflkbelhlogaa
