/- The machine that reads back, both packages; whether two machines are equal. -/
import Derived.Test.YtpbflkbelhlogaaMacN
namespace Go.Proofs.Ytpbflkbelhlogaa
open Go.RowKit Go.Shelf
set_option linter.unusedVariables false

theorem run_neq_arc (W : World) (x y : Arc) : (binOp .neq 50 (.agg #[.int .i64 x.f, .int .i64 x.t, .int .i64 x.i, .int .i64 x.o]) (.agg #[.int .i64 y.f, .int .i64 y.t, .int .i64 y.i, .int .i64 y.o])).run Try.prog W = .ok (.bool (x != y)) W := by
  have u3 : Try.prog.underlying 3 = some (.int .i64) := Try.underlying3
  have hS : Try.prog.underlying 50 = some (.struct (Try.prog.fieldsOf 50)) := by kernel_rfl
  have hp : Try.prog.stoodInHeld 50 = false := by kernel_rfl
  rw [run_neq_struct, show (10000 : Nat) = 9999 + 1 from rfl, run_equalIn_agg W 9999 50 _ _ hS hp]
  simp only [Program.fieldsOf, Try.underlying50]
  go_simp
  obtain ⟨a, b, c, d⟩ := x
  obtain ⟨a', b', c', d'⟩ := y
  by_cases h1 : a = a' <;> by_cases h2 : b = b' <;> by_cases h3 : c = c' <;> by_cases h4 : d = d' <;> simp [h1, h2, h3, h4]
def turnX (m : Mac) : Mac := if validM m = 0 then turnM m else ⟨0, [], []⟩
/-- a machine in new memory and an error code -/
def ROMac2 (m : Mac) (k : Int) (w : World) (e : Ending) (w' : World) : Prop := ∃ av ev, e = .returned (.tuple #[.agg #[.int .i64 m.s, av, ev], .int .i64 k]) ∧ OMac w' w.heap.size av ev m ∧ Ext w w'
def RMac2 (m : Mac) (k : Int) (w : World) (e : Ending) (w' : World) : Prop := ∃ av ev, e = .returned (.tuple #[.agg #[.int .i64 m.s, av, ev], .int .i64 k]) ∧ MacR w' av ev m ∧ Ext w w'
theorem OMac.low {w : World} {B B' : Nat} {av ev : Value} {m : Mac} (h : OMac w B av ev m) (hB : B' ≤ B) : OMac w B' av ev m := ⟨row_low h.a hB, OInts.low h.e hB⟩
theorem OMac.store3 {w : World} {B g : Nat} {av ev a0 a1 a2 : Value} {m : Mac} (h : OMac w B av ev m) (hb : Blk w g 25 [a0, a1, a2]) (b0 b1 b2 : Value) : OMac (((w.setCell ⟨g, 0, none⟩ b0).setCell ⟨g, 1, none⟩ b1).setCell ⟨g, 2, none⟩ b2) B av ev m :=
  ⟨row_store3 h.a hb (by decide) b0 b1 b2, row_store3 h.e hb (by decide) b0 b1 b2⟩
theorem FMac.store3 {w : World} {B g : Nat} {av ev a0 a1 a2 : Value} {m : Mac} (h : FMac w B av ev m) (hb : Blk w g 25 [a0, a1, a2]) (b0 b1 b2 : Value) : FMac (((w.setCell ⟨g, 0, none⟩ b0).setCell ⟨g, 1, none⟩ b1).setCell ⟨g, 2, none⟩ b2) B av ev m :=
  ⟨h.a.store3 hb (by decide) b0 b1 b2, h.e.store3 hb (by decide) b0 b1 b2⟩
theorem OMac.nil (w : World) (B : Nat) : OMac w B (.slice none 0 0) (.slice none 0 0) ⟨0, [], []⟩ := ⟨World.ownsRow_nil _ _ _ _, OInts.nil _ _ _⟩
theorem OMac.open_ {w : World} {B : Nat} {av ev : Value} {m : Mac} (h : OMac w B av ev m) : (∃ a c, av = .slice a m.a.length c) ∧ ∃ a c, ev = .slice a m.e.length c := ⟨row_open h.a, row_open h.e⟩
theorem FMac.open_ {w : World} {B : Nat} {av ev : Value} {m : Mac} (h : FMac w B av ev m) : (∃ a c, av = .slice a m.a.length c) ∧ ∃ a c, ev = .slice a m.e.length c := ⟨h.a.open_, h.e.open_⟩

set_option maxHeartbeats 2000000 in
set_option maxRecDepth 100000 in
theorem Turn_c (av ev : Value) (m : Mac) (w : World) (h : MacR w av ev m) (hal : m.a.length ≤ 100000) (hel : m.e.length ≤ 100000) : Calls Try.prog 36 #[.agg #[.int .i64 m.s, av, ev]] w (ROMac2 (turnX m) (validM m) w) := by
  obtain ⟨wA, hwA⟩ : ∃ wA, wA = w.alloc (.cells #[.int .i64 m.s, av, ev] 25) := ⟨_, rfl⟩
  have hE0 : Ext w wA := by rw [hwA]; exact Ext.alloc _ _
  have k0 : ∀ W, Ext wA W → W.cell? ⟨w.heap.size, 0, none⟩ = some (.int .i64 m.s) := by rw [hwA]; exact kept_alloc w _ _ rfl
  have k1 : ∀ W, Ext wA W → W.cell? ⟨w.heap.size, 1, none⟩ = some av := by rw [hwA]; exact kept_alloc w _ _ rfl
  have k2 : ∀ W, Ext wA W → W.cell? ⟨w.heap.size, 2, none⟩ = some ev := by rw [hwA]; exact kept_alloc w _ _ rfl
  have H0 : Ext wA wA := Ext.refl _
  have HV := Lib.hid (fun W (hW : Ext wA W) => Validate_c av ev m W ((h.ext hE0).ext hW))
  have HT := Lib.hid (fun W (hW : Ext wA W) => turned_c av ev m W ((h.ext hE0).ext hW) hal hel)
  obtain ⟨aa, ca, rfl, hla, hma, HA⟩ := (h.ext hE0).a.open_
  obtain ⟨ae, ce, rfl, hle, hme, HE⟩ := (h.ext hE0).e.open_
  have hsA : wA.heap.size = w.heap.size + 1 := by rw [hwA]; simp
  have HSA := Lib.hid hsA; clear hsA
  have HW := Lib.hid hwA; clear hwA h
  obtain ⟨wB, hwB⟩ : ∃ wB, wB = wA.alloc (.cells #[.int .i64 0, .slice none 0 0, .slice none 0 0] 25) := ⟨_, rfl⟩
  have hEB : Ext wA wB := by rw [hwB]; exact Ext.alloc _ _
  have HR2 : Hid (Blk wB (w.heap.size + 1) 25 [.int .i64 0, .slice none 0 0, .slice none 0 0]) := Lib.hid (by rw [hwB, ← HSA.out]; exact Blk.alloc wA _ _)
  have HWB := Lib.hid hwB; clear hwB
  have HV2 := Lib.hid (HV.out wB hEB)
  clear HV
  by_cases h0 : validM m = 0
  · rw [show turnX m = turnM m by rw [turnX, if_pos h0]]
    rw [h0] at HV2 ⊢
    clear h0
    go_enter Try.func36, Try.ntmps36
    go_wp2_with fail
    rw [← HW.out, ← HWB.out]
    refine HV2.out.mono ?_; rintro e w1 ⟨rfl, hx1⟩
    have hX1 := hEB.trans hx1
    go_wp2_with fail
    refine (HT.out w1 hX1).mono ?_; rintro e w2 ⟨av2, ev2, rfl, hM2, hx2⟩
    obtain ⟨⟨a1, c1, rfl⟩, a2, c2, rfl⟩ := hM2.open_
    have hX2 := hX1.trans hx2
    have hb := HR2.out.ext (hx1.trans hx2)
    have z0 := hb.cell (i := 0) rfl
    have z1 := hb.cell (i := 1) rfl
    have z2 := hb.cell (i := 2) rfl
    have f0 := hb.frozen 0
    have f1 := hb.frozen 1
    have f2 := hb.frozen 2
    have HB := Lib.hid (And.intro (hb.store3 (.int .i64 (turnM m).s) (.slice a1 (turnM m).a.length c1) (.slice a2 (turnM m).e.length c2)) (And.intro (Ext.store3 (hE0.trans hX2) (show w.heap.size ≤ w.heap.size + 1 by omega) (.int .i64 (turnM m).s) (.slice a1 (turnM m).a.length c1) (.slice a2 (turnM m).e.length c2))
      ((hM2.low (Nat.le_trans hE0.size hX1.size)).store3 hb (.int .i64 (turnM m).s) (.slice a1 (turnM m).a.length c1) (.slice a2 (turnM m).e.length c2))))
    clear hb hM2
    generalize turnM m = mt at *
    go_wp2_with fail
    obtain ⟨hb2, hx2', hM⟩ := HB.out
    clear z0 z1 z2 f0 f1 f2 HB
    have d0 := hb2.cell (i := 0) rfl
    have d1 := hb2.cell (i := 1) rfl
    have d2 := hb2.cell (i := 2) rfl
    generalize (((w2.setCell ⟨w.heap.size + 1, 0, none⟩ (.int .i64 mt.s)).setCell ⟨w.heap.size + 1, 1, none⟩ (.slice a1 mt.a.length c1)).setCell ⟨w.heap.size + 1, 2, none⟩ (.slice a2 mt.e.length c2)) = w3 at *
    refine bodyPost_ret (v := .tuple #[.agg #[.int .i64 mt.s, .slice a1 mt.a.length c1, .slice a2 mt.e.length c2], .int .i64 0]) (by simp [results, Try.results36, go_sem, d0, d1, d2]) rfl ?_
    exact ⟨_, _, rfl, hM, hx2'⟩
  · rw [show turnX m = ⟨0, [], []⟩ by rw [turnX, if_neg h0]]
    have hk : (validM m != 0) = true := by simp [h0]
    generalize validM m = k at *
    clear h0 HT
    go_enter Try.func36, Try.ntmps36
    go_wp2_with fail
    rw [← HW.out, ← HWB.out]
    refine HV2.out.mono ?_; rintro e w1 ⟨rfl, hx1⟩
    have hX1 := hEB.trans hx1
    have hb := HR2.out.ext hx1
    have z0 := hb.cell (i := 0) rfl
    have z1 := hb.cell (i := 1) rfl
    have z2 := hb.cell (i := 2) rfl
    have f0 := hb.frozen 0
    have f1 := hb.frozen 1
    have f2 := hb.frozen 2
    have HB := Lib.hid (And.intro (hb.store3 (.int .i64 0) (.slice none 0 0) (.slice none 0 0)) (Ext.store3 (hE0.trans hX1) (show w.heap.size ≤ w.heap.size + 1 by omega) (.int .i64 0) (.slice none 0 0) (.slice none 0 0)))
    clear hb
    go_wp2_with fail
    obtain ⟨hb2, hx2'⟩ := HB.out
    clear z0 z1 z2 f0 f1 f2 HB
    have d0 := hb2.cell (i := 0) rfl
    have d1 := hb2.cell (i := 1) rfl
    have d2 := hb2.cell (i := 2) rfl
    generalize (((w1.setCell ⟨w.heap.size + 1, 0, none⟩ (.int .i64 0)).setCell ⟨w.heap.size + 1, 1, none⟩ (.slice none 0 0)).setCell ⟨w.heap.size + 1, 2, none⟩ (.slice none 0 0)) = w3 at *
    refine bodyPost_ret (v := .tuple #[.agg #[.int .i64 0, .slice none 0 0, .slice none 0 0], .int .i64 k]) (by simp [results, Try.results36, go_sem, d0, d1, d2]) rfl ?_
    exact ⟨_, _, rfl, OMac.nil _ _, hx2'⟩

set_option maxHeartbeats 2000000 in
set_option maxRecDepth 100000 in
theorem rTurn_c (av ev : Value) (m : Mac) (w : World) (h : MacR w av ev m) (hal : m.a.length ≤ 100000) (hel : m.e.length ≤ 100000) : Calls Try.prog 37 #[.agg #[.int .i64 m.s, av, ev]] w (RMac2 (turnX m) (validM m) w) := by
  obtain ⟨wA, hwA⟩ : ∃ wA, wA = w.alloc (.cells #[.int .i64 m.s, av, ev] 25) := ⟨_, rfl⟩
  have hE0 : Ext w wA := by rw [hwA]; exact Ext.alloc _ _
  have k0 : ∀ W, Ext wA W → W.cell? ⟨w.heap.size, 0, none⟩ = some (.int .i64 m.s) := by rw [hwA]; exact kept_alloc w _ _ rfl
  have k1 : ∀ W, Ext wA W → W.cell? ⟨w.heap.size, 1, none⟩ = some av := by rw [hwA]; exact kept_alloc w _ _ rfl
  have k2 : ∀ W, Ext wA W → W.cell? ⟨w.heap.size, 2, none⟩ = some ev := by rw [hwA]; exact kept_alloc w _ _ rfl
  have H0 : Ext wA wA := Ext.refl _
  have HV := Lib.hid (fun W (hW : Ext wA W) => rValidate_c av ev m W ((h.ext hE0).ext hW))
  have HT := Lib.hid (fun W (hW : Ext wA W) => rturn_c av ev m W ((h.ext hE0).ext hW) hal hel)
  obtain ⟨aa, ca, rfl, hla, hma, HA⟩ := (h.ext hE0).a.open_
  obtain ⟨ae, ce, rfl, hle, hme, HE⟩ := (h.ext hE0).e.open_
  have hsA : wA.heap.size = w.heap.size + 1 := by rw [hwA]; simp
  have HSA := Lib.hid hsA; clear hsA
  have HW := Lib.hid hwA; clear hwA h
  obtain ⟨wB, hwB⟩ : ∃ wB, wB = wA.alloc (.cells #[.int .i64 0, .slice none 0 0, .slice none 0 0] 25) := ⟨_, rfl⟩
  have hEB : Ext wA wB := by rw [hwB]; exact Ext.alloc _ _
  have HR2 : Hid (Blk wB (w.heap.size + 1) 25 [.int .i64 0, .slice none 0 0, .slice none 0 0]) := Lib.hid (by rw [hwB, ← HSA.out]; exact Blk.alloc wA _ _)
  have HWB := Lib.hid hwB; clear hwB
  have HV2 := Lib.hid (HV.out wB hEB)
  clear HV
  by_cases h0 : validM m = 0
  · rw [show turnX m = turnM m by rw [turnX, if_pos h0]]
    rw [h0] at HV2 ⊢
    clear h0
    go_enter Try.func37, Try.ntmps37
    go_wp2_with fail
    rw [← HW.out, ← HWB.out]
    refine HV2.out.mono ?_; rintro e w1 ⟨rfl, hx1⟩
    have hX1 := hEB.trans hx1
    go_wp2_with fail
    refine (HT.out w1 hX1).mono ?_; rintro e w2 ⟨av2, ev2, rfl, hM2, hx2⟩
    obtain ⟨⟨a1, c1, rfl⟩, a2, c2, rfl⟩ := hM2.open_
    have hX2 := hX1.trans hx2
    have hb := HR2.out.ext (hx1.trans hx2)
    have z0 := hb.cell (i := 0) rfl
    have z1 := hb.cell (i := 1) rfl
    have z2 := hb.cell (i := 2) rfl
    have f0 := hb.frozen 0
    have f1 := hb.frozen 1
    have f2 := hb.frozen 2
    have HB := Lib.hid (And.intro (hb.store3 (.int .i64 (turnM m).s) (.slice a1 (turnM m).a.length c1) (.slice a2 (turnM m).e.length c2)) (And.intro (Ext.store3 (hE0.trans hX2) (show w.heap.size ≤ w.heap.size + 1 by omega) (.int .i64 (turnM m).s) (.slice a1 (turnM m).a.length c1) (.slice a2 (turnM m).e.length c2))
      (hM2.store3 hb (.int .i64 (turnM m).s) (.slice a1 (turnM m).a.length c1) (.slice a2 (turnM m).e.length c2))))
    clear hb hM2
    generalize turnM m = mt at *
    go_wp2_with fail
    obtain ⟨hb2, hx2', hM⟩ := HB.out
    clear z0 z1 z2 f0 f1 f2 HB
    have d0 := hb2.cell (i := 0) rfl
    have d1 := hb2.cell (i := 1) rfl
    have d2 := hb2.cell (i := 2) rfl
    generalize (((w2.setCell ⟨w.heap.size + 1, 0, none⟩ (.int .i64 mt.s)).setCell ⟨w.heap.size + 1, 1, none⟩ (.slice a1 mt.a.length c1)).setCell ⟨w.heap.size + 1, 2, none⟩ (.slice a2 mt.e.length c2)) = w3 at *
    refine bodyPost_ret (v := .tuple #[.agg #[.int .i64 mt.s, .slice a1 mt.a.length c1, .slice a2 mt.e.length c2], .int .i64 0]) (by simp [results, Try.results37, go_sem, d0, d1, d2]) rfl ?_
    exact ⟨_, _, rfl, hM.mac, hx2'⟩
  · rw [show turnX m = ⟨0, [], []⟩ by rw [turnX, if_neg h0]]
    have hk : (validM m != 0) = true := by simp [h0]
    generalize validM m = k at *
    clear h0 HT
    go_enter Try.func37, Try.ntmps37
    go_wp2_with fail
    rw [← HW.out, ← HWB.out]
    refine HV2.out.mono ?_; rintro e w1 ⟨rfl, hx1⟩
    have hX1 := hEB.trans hx1
    have hb := HR2.out.ext hx1
    have z0 := hb.cell (i := 0) rfl
    have z1 := hb.cell (i := 1) rfl
    have z2 := hb.cell (i := 2) rfl
    have f0 := hb.frozen 0
    have f1 := hb.frozen 1
    have f2 := hb.frozen 2
    have HB := Lib.hid (And.intro (hb.store3 (.int .i64 0) (.slice none 0 0) (.slice none 0 0)) (Ext.store3 (hE0.trans hX1) (show w.heap.size ≤ w.heap.size + 1 by omega) (.int .i64 0) (.slice none 0 0) (.slice none 0 0)))
    clear hb
    go_wp2_with fail
    obtain ⟨hb2, hx2'⟩ := HB.out
    clear z0 z1 z2 f0 f1 f2 HB
    have d0 := hb2.cell (i := 0) rfl
    have d1 := hb2.cell (i := 1) rfl
    have d2 := hb2.cell (i := 2) rfl
    generalize (((w1.setCell ⟨w.heap.size + 1, 0, none⟩ (.int .i64 0)).setCell ⟨w.heap.size + 1, 1, none⟩ (.slice none 0 0)).setCell ⟨w.heap.size + 1, 2, none⟩ (.slice none 0 0)) = w3 at *
    refine bodyPost_ret (v := .tuple #[.agg #[.int .i64 0, .slice none 0 0, .slice none 0 0], .int .i64 k]) (by simp [results, Try.results37, go_sem, d0, d1, d2]) rfl ?_
    exact ⟨_, _, rfl, (OMac.nil _ 0).mac, hx2'⟩

set_option maxHeartbeats 2000000 in
set_option maxRecDepth 100000 in
theorem same_c (av ev bv fv : Value) (m : Mac) (w : World) (h : MacR w av ev m) (k : MacR w bv fv m) : Calls Try.prog 38 #[.agg #[.int .i64 m.s, av, ev], .agg #[.int .i64 m.s, bv, fv]] w (RV (.bool true) w) := by
  obtain ⟨aa, ca, rfl, hla, hma, HA⟩ := h.a.open_
  obtain ⟨ae, ce, rfl, hle, hme, HE⟩ := h.e.open_
  obtain ⟨ba, da, rfl, hlb, hmb, HB⟩ := k.a.open_
  obtain ⟨be, de, rfl, hlf, hmf, HF⟩ := k.e.open_
  obtain ⟨wA, hwA⟩ : ∃ wA, wA = (w.alloc (.cells #[.int .i64 m.s, .slice aa m.a.length ca, .slice ae m.e.length ce] 25)).alloc (.cells #[.int .i64 m.s, .slice ba m.a.length da, .slice be m.e.length de] 25) := ⟨_, rfl⟩
  have hE0 : Ext w wA := by rw [hwA]; exact (Ext.alloc _ _).trans (Ext.alloc _ _)
  have hb1 : Blk wA w.heap.size 25 [.int .i64 m.s, .slice aa m.a.length ca, .slice ae m.e.length ce] := by rw [hwA]; exact (Blk.alloc w _ _).ext (Ext.alloc _ _)
  have hb2 : Blk wA (w.heap.size + 1) 25 [.int .i64 m.s, .slice ba m.a.length da, .slice be m.e.length de] := by
    rw [hwA]
    have := Blk.alloc (w.alloc (.cells #[.int .i64 m.s, .slice aa m.a.length ca, .slice ae m.e.length ce] 25)) #[.int .i64 m.s, .slice ba m.a.length da, .slice be m.e.length de] 25
    simpa using this
  have k0 : ∀ W, Ext wA W → W.cell? ⟨w.heap.size, 0, none⟩ = some (.int .i64 m.s) := fun W hW => hW.keep (hb1.cell (i := 0) rfl)
  have k1 : ∀ W, Ext wA W → W.cell? ⟨w.heap.size, 1, none⟩ = some (.slice aa m.a.length ca) := fun W hW => hW.keep (hb1.cell (i := 1) rfl)
  have k2 : ∀ W, Ext wA W → W.cell? ⟨w.heap.size, 2, none⟩ = some (.slice ae m.e.length ce) := fun W hW => hW.keep (hb1.cell (i := 2) rfl)
  have j0 : ∀ W, Ext wA W → W.cell? ⟨w.heap.size + 1, 0, none⟩ = some (.int .i64 m.s) := fun W hW => hW.keep (hb2.cell (i := 0) rfl)
  have j1 : ∀ W, Ext wA W → W.cell? ⟨w.heap.size + 1, 1, none⟩ = some (.slice ba m.a.length da) := fun W hW => hW.keep (hb2.cell (i := 1) rfl)
  have j2 : ∀ W, Ext wA W → W.cell? ⟨w.heap.size + 1, 2, none⟩ = some (.slice be m.e.length de) := fun W hW => hW.keep (hb2.cell (i := 2) rfl)
  have H0 := Ext.refl wA
  have HS := Lib.hid (fun W (hW : Ext wA W) => by have := sameInts_c _ _ m.e m.e W (h.e.ext (hE0.trans hW)) (k.e.ext (hE0.trans hW)); rwa [show sameIntsB m.e m.e = true by rw [sameIntsB_iff]; simp] at this)
  have HW := Lib.hid hwA; clear hwA h k hb1 hb2
  have hn1 : (m.s != m.s) = false := by simp
  have hn2 : ((m.a.length : Int) != (m.a.length : Int)) = false := by simp
  go_enter Try.func38, Try.ntmps38
  go_wp2_with fail
  rw [← HW.out]
  go_loopg [5] m.a.length (fun z i wr => ∃ t : Nat, t ≤ m.a.length ∧ m.a.length ≤ t + z ∧ i = .int .i64 t ∧ Ext wA wr)
  case atStart => exact ⟨0, by omega, by omega, rfl, H0⟩
  case round =>
    obtain ⟨t, ht, htz, rfl, hEr⟩ := hrel
    by_cases hlt : t < m.a.length
    · obtain ⟨b1, o1, rfl, hc0, hc1, hc2, hc3⟩ := HA.out t hlt
      obtain ⟨b2, o2, rfl, hd0, hd1, hd2, hd3⟩ := HB.out t hlt
      generalize arcA m.a t = x at *
      have hneq := fun W => run_neq_arc W x x
      have hxx : (x != x) = false := by simp
      rw [hxx] at hneq
      clear hxx
      have hs : ∀ s : Later wr, Ext wA s.w := fun s => hEr.trans s.ext
      have q0 := fun s : Later wr => (hE0.trans (hEr.trans s.ext)).keep hc0
      have q1 := fun s : Later wr => (hE0.trans (hEr.trans s.ext)).keep hc1
      have q2 := fun s : Later wr => (hE0.trans (hEr.trans s.ext)).keep hc2
      have q3 := fun s : Later wr => (hE0.trans (hEr.trans s.ext)).keep hc3
      have q4 := fun s : Later wr => (hE0.trans (hEr.trans s.ext)).keep hd0
      have q5 := fun s : Later wr => (hE0.trans (hEr.trans s.ext)).keep hd1
      have q6 := fun s : Later wr => (hE0.trans (hEr.trans s.ext)).keep hd2
      have q7 := fun s : Later wr => (hE0.trans (hEr.trans s.ext)).keep hd3
      go_wp2_with fail
      refine wp_region_later (by kernel_rfl) (by kernel_rfl) ?_
      repeat (go_big_quiet_step (fail))
      refine wpQuiet_nil ?_
      intro w5 hw'
      obtain ⟨⟨_, hx5⟩, rfl⟩ := hw'
      clear hs q0 q1 q2 q3 q4 q5 q6 q7 hneq
      go_wp2_with fail
      go_roundg (gk-1)
      case measure => omega
      case rel => exact ⟨t+1, by omega, by omega, by go_num, hEr.trans hx5⟩
    · go_wp2_with fail
      refine (HS.out wr hEr).mono ?_; rintro e w4 ⟨rfl, n4, hw4⟩
      have hx4 : Ext wr w4 := by rw [hw4]; exact Ext.drewN _ _
      clear hw4
      go_wp2_with fail
      go_ret
      exact RV.bool rfl (hE0.trans (hEr.trans hx4))
end Go.Proofs.Ytpbflkbelhlogaa
