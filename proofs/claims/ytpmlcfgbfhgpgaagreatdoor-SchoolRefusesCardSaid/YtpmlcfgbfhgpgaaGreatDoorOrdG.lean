/- Which ground decides between two candidates: the program's way. -/
import Derived.Test.YtpmlcfgbfhgpgaaGreatDoorOrdF
import Derived.Laws.EntriesVeiled
namespace Go.Proofs.YtpmlcfgbfhgpgaaGreatDoor
open Go.RowKit Go.Shelf
set_option linter.unusedVariables false
set_option maxHeartbeats 1000000 in
theorem reasons_c (w : World) : Calls Tryz.prog 199 #[] w (RV (.agg #[.func (.func 222) #[] #[], .func (.func 224) #[] #[], .func (.func 226) #[] #[], .func (.func 227) #[] #[]]) w) := by
 go_enter Tryz.func199, Tryz.ntmps199
 go_wp2_with fail
 refine bodyPost_ret (v := .agg #[.func (.func 222) #[] #[], .func (.func 224) #[] #[], .func (.func 226) #[] #[], .func (.func 227) #[] #[]]) (by simp [results, Tryz.results199, go_sem]) rfl ⟨rfl, ?_⟩
 exact Ext.alloc _ _
theorem run_index_rsn (w : World) (xs : Array Value) (k : Nat) (hk : k < 4) : (Instr.index 261 (.agg xs) (.int .i64 (k : Int))).run Tryz.prog w = .ok (.agg (xs.extract k (k + 1))) w := by
 have hi : (Tryz.prog.info? 260).isSome = true := by kernel_rfl
 obtain ⟨i, hi⟩ := Option.isSome_iff_exists.1 hi
 have hc : Tryz.prog.cellsOf 260 = 1 := by kernel_rfl
 have h1 : (0 : Int) ≤ (k : Int) ∧ (k : Int) < ((4 : Nat) : Int) := by omega
 simp [Instr.index, run_underlying Tryz.underlying261, asIntOf, h1, run_sizeOf w hi, hc, part]
 try omega
theorem dec_cases (s : List Rul) (l : List Int) (g : Int) (a b : Stp) : (proB s l g a b = true ∧ decZ s l g a b = 1) ∨ (proB s l g a b = false ∧ proB s l g b a = true ∧ decZ s l g a b = -1) ∨ (proB s l g a b = false ∧ proB s l g b a = false ∧ decZ s l g a b = 0) := by
 unfold decZ
 cases h : proB s l g a b
 ·cases h2 : proB s l g b a
  ·right; right; simp
  ·right; left; simp
 ·left; simp
set_option maxHeartbeats 2000000 in
set_option maxRecDepth 100000 in
theorem decide1_c (s : List Rul) (wv : Value) (l : List Int) (a b : Can) (w : World) (hw : Ints w wv l) (ha : CanG w s a) (hb : CanG w s b) : Calls Tryz.prog 165 #[wv, .int .i64 1, canV a, canV b] w (RV (.int .i64 (decZ s l 1 a.stp b.stp)) w) := by
 have H1 := Lib.hid (fun W (h : Ext w W) => og1_c s wv l a b W (hw.ext h) (ha.ext h) (hb.ext h))
 have H2 := Lib.hid (fun W (h : Ext w W) => og1_c s wv l b a W (hw.ext h) (hb.ext h) (ha.ext h))
 have HC := dec_cases s l 1 a.stp b.stp
 generalize proB s l 1 a.stp b.stp = P1 at *
 generalize proB s l 1 b.stp a.stp = P2 at *
 generalize decZ s l 1 a.stp b.stp = D at *
 have eg : Enters Tryz.prog 222 := enters_of Tryz.func222 (by kernel_rfl) rfl
 unfold Enters at eg
 have hix : ∀ W, (Instr.index 261 (.agg #[.func (.func 222) #[] #[], .func (.func 224) #[] #[], .func (.func 226) #[] #[], .func (.func 227) #[] #[]]) (.int .i64 0)).run Tryz.prog W = .ok (.agg #[.func (.func 222) #[] #[]]) W := fun W => run_index_rsn W #[.func (.func 222) #[] #[], .func (.func 224) #[] #[], .func (.func 226) #[] #[], .func (.func 227) #[] #[]] 0 (by omega)
 obtain ⟨ka, pa, xa, aa0, aa1, aa2, aa3, aa4, aa5, rfl, HXA, HRA, ha0, ha1, ha2, ha3⟩ := ha.lit
 obtain ⟨kb, pb, xb, ab0, ab1, ab2, ab3, ab4, ab5, rfl, HXB, HRB, hb0, hb1, hb2, hb3⟩ := hb.lit
 clear ha hb
 obtain ⟨aw, cw, rfl, _⟩ := hw.open_
 clear hw
 unfold canV at *
 dsimp only at *
 obtain ⟨wA, hwA⟩ : ∃ wA, wA = (w.alloc (.cells #[.int .i64 ka, .int .i64 pa, .int .i64 xa.f, .slice aa0 xa.t.length aa1, .slice aa2 xa.l.length aa3, .slice aa4 xa.r.length aa5] 165)).alloc (.cells #[.int .i64 kb, .int .i64 pb, .int .i64 xb.f, .slice ab0 xb.t.length ab1, .slice ab2 xb.l.length ab3, .slice ab4 xb.r.length ab5] 165) := ⟨_, rfl⟩
 have hE0 : Ext w wA := by rw [hwA]; exact (Ext.alloc _ _).trans (Ext.alloc _ _)
 have ka0 : ∀ W, Ext wA W → W.cell? ⟨w.heap.size, 0, none⟩ = some (.int .i64 ka) := by rw [hwA]; exact keptA w _ _ _ _ rfl
 have ka1 : ∀ W, Ext wA W → W.cell? ⟨w.heap.size, 1, none⟩ = some (.int .i64 pa) := by rw [hwA]; exact keptA w _ _ _ _ rfl
 have ka2 : ∀ W, Ext wA W → W.cell? ⟨w.heap.size, 2, none⟩ = some (.int .i64 xa.f) := by rw [hwA]; exact keptA w _ _ _ _ rfl
 have ka3 : ∀ W, Ext wA W → W.cell? ⟨w.heap.size, 3, none⟩ = some (.slice aa0 xa.t.length aa1) := by rw [hwA]; exact keptA w _ _ _ _ rfl
 have ka4 : ∀ W, Ext wA W → W.cell? ⟨w.heap.size, 4, none⟩ = some (.slice aa2 xa.l.length aa3) := by rw [hwA]; exact keptA w _ _ _ _ rfl
 have ka5 : ∀ W, Ext wA W → W.cell? ⟨w.heap.size, 5, none⟩ = some (.slice aa4 xa.r.length aa5) := by rw [hwA]; exact keptA w _ _ _ _ rfl
 have kb0 : ∀ W, Ext wA W → W.cell? ⟨w.heap.size + 1, 0, none⟩ = some (.int .i64 kb) := by rw [hwA]; exact keptB w _ _ _ _ rfl
 have kb1 : ∀ W, Ext wA W → W.cell? ⟨w.heap.size + 1, 1, none⟩ = some (.int .i64 pb) := by rw [hwA]; exact keptB w _ _ _ _ rfl
 have kb2 : ∀ W, Ext wA W → W.cell? ⟨w.heap.size + 1, 2, none⟩ = some (.int .i64 xb.f) := by rw [hwA]; exact keptB w _ _ _ _ rfl
 have kb3 : ∀ W, Ext wA W → W.cell? ⟨w.heap.size + 1, 3, none⟩ = some (.slice ab0 xb.t.length ab1) := by rw [hwA]; exact keptB w _ _ _ _ rfl
 have kb4 : ∀ W, Ext wA W → W.cell? ⟨w.heap.size + 1, 4, none⟩ = some (.slice ab2 xb.l.length ab3) := by rw [hwA]; exact keptB w _ _ _ _ rfl
 have kb5 : ∀ W, Ext wA W → W.cell? ⟨w.heap.size + 1, 5, none⟩ = some (.slice ab4 xb.r.length ab5) := by rw [hwA]; exact keptB w _ _ _ _ rfl
 have H0 : Ext wA wA := Ext.refl _
 have HWA := Lib.hid hwA; clear hwA
 rcases HC with ⟨rfl, rfl⟩ | ⟨rfl, rfl, rfl⟩ | ⟨rfl, rfl, rfl⟩
 ·go_enter Tryz.func165, Tryz.ntmps165
  go_wp2_with fail
  rw [← HWA.out]
  refine (reasons_c wA).mono ?_; rintro e w1 ⟨rfl, hx1⟩
  have hX1 := hE0.trans hx1
  have hx1a : Ext wA (w1.alloc (.cells #[.func (.func 222) #[] #[]] 260)) := hx1.trans (Ext.alloc _ _)
  go_wp2_with fail
  refine (H1.out _ (hX1.trans (Ext.alloc _ _))).mono ?_; rintro e w2 ⟨rfl, hx2⟩
  have hX2 := hx1.trans ((Ext.alloc _ _).trans hx2)
  have g0 : w2.cell? ⟨w1.heap.size, 0, none⟩ = some (.func (.func 222) #[] #[]) := hx2.keep (alloc_cell w1 _ _ rfl)
  go_wp2_with fail
  go_ret
  exact RV.int rfl (hE0.trans hX2)
 ·go_enter Tryz.func165, Tryz.ntmps165
  go_wp2_with fail
  rw [← HWA.out]
  refine (reasons_c wA).mono ?_; rintro e w1 ⟨rfl, hx1⟩
  have hX1 := hE0.trans hx1
  have hx1a : Ext wA (w1.alloc (.cells #[.func (.func 222) #[] #[]] 260)) := hx1.trans (Ext.alloc _ _)
  go_wp2_with fail
  refine (H1.out _ (hX1.trans (Ext.alloc _ _))).mono ?_; rintro e w2 ⟨rfl, hx2⟩
  have hX2 := hx1.trans ((Ext.alloc _ _).trans hx2)
  have g0 : w2.cell? ⟨w1.heap.size, 0, none⟩ = some (.func (.func 222) #[] #[]) := hx2.keep (alloc_cell w1 _ _ rfl)
  go_wp2_with fail
  refine (H2.out _ (hE0.trans hX2)).mono ?_; rintro e w3 ⟨rfl, hx3⟩
  have hX3 := hX2.trans hx3
  go_wp2_with fail
  go_ret
  exact RV.int rfl (hE0.trans hX3)
 ·go_enter Tryz.func165, Tryz.ntmps165
  go_wp2_with fail
  rw [← HWA.out]
  refine (reasons_c wA).mono ?_; rintro e w1 ⟨rfl, hx1⟩
  have hX1 := hE0.trans hx1
  have hx1a : Ext wA (w1.alloc (.cells #[.func (.func 222) #[] #[]] 260)) := hx1.trans (Ext.alloc _ _)
  go_wp2_with fail
  refine (H1.out _ (hX1.trans (Ext.alloc _ _))).mono ?_; rintro e w2 ⟨rfl, hx2⟩
  have hX2 := hx1.trans ((Ext.alloc _ _).trans hx2)
  have g0 : w2.cell? ⟨w1.heap.size, 0, none⟩ = some (.func (.func 222) #[] #[]) := hx2.keep (alloc_cell w1 _ _ rfl)
  go_wp2_with fail
  refine (H2.out _ (hE0.trans hX2)).mono ?_; rintro e w3 ⟨rfl, hx3⟩
  have hX3 := hX2.trans hx3
  go_wp2_with fail
  go_ret
  exact RV.int rfl (hE0.trans hX3)
set_option maxHeartbeats 2000000 in
set_option maxRecDepth 100000 in
theorem decide2_c (s : List Rul) (wv : Value) (l : List Int) (a b : Can) (w : World) (hw : Ints w wv l) (ha : CanG w s a) (hb : CanG w s b) : Calls Tryz.prog 165 #[wv, .int .i64 2, canV a, canV b] w (RV (.int .i64 (decZ s l 2 a.stp b.stp)) w) := by
 have H1 := Lib.hid (fun W (h : Ext w W) => og2_c s wv l a b W (hw.ext h) (ha.ext h) (hb.ext h))
 have H2 := Lib.hid (fun W (h : Ext w W) => og2_c s wv l b a W (hw.ext h) (hb.ext h) (ha.ext h))
 have HC := dec_cases s l 2 a.stp b.stp
 generalize proB s l 2 a.stp b.stp = P1 at *
 generalize proB s l 2 b.stp a.stp = P2 at *
 generalize decZ s l 2 a.stp b.stp = D at *
 have eg : Enters Tryz.prog 224 := enters_of Tryz.func224 (by kernel_rfl) rfl
 unfold Enters at eg
 have hix : ∀ W, (Instr.index 261 (.agg #[.func (.func 222) #[] #[], .func (.func 224) #[] #[], .func (.func 226) #[] #[], .func (.func 227) #[] #[]]) (.int .i64 1)).run Tryz.prog W = .ok (.agg #[.func (.func 224) #[] #[]]) W := fun W => run_index_rsn W #[.func (.func 222) #[] #[], .func (.func 224) #[] #[], .func (.func 226) #[] #[], .func (.func 227) #[] #[]] 1 (by omega)
 obtain ⟨ka, pa, xa, aa0, aa1, aa2, aa3, aa4, aa5, rfl, HXA, HRA, ha0, ha1, ha2, ha3⟩ := ha.lit
 obtain ⟨kb, pb, xb, ab0, ab1, ab2, ab3, ab4, ab5, rfl, HXB, HRB, hb0, hb1, hb2, hb3⟩ := hb.lit
 clear ha hb
 obtain ⟨aw, cw, rfl, _⟩ := hw.open_
 clear hw
 unfold canV at *
 dsimp only at *
 obtain ⟨wA, hwA⟩ : ∃ wA, wA = (w.alloc (.cells #[.int .i64 ka, .int .i64 pa, .int .i64 xa.f, .slice aa0 xa.t.length aa1, .slice aa2 xa.l.length aa3, .slice aa4 xa.r.length aa5] 165)).alloc (.cells #[.int .i64 kb, .int .i64 pb, .int .i64 xb.f, .slice ab0 xb.t.length ab1, .slice ab2 xb.l.length ab3, .slice ab4 xb.r.length ab5] 165) := ⟨_, rfl⟩
 have hE0 : Ext w wA := by rw [hwA]; exact (Ext.alloc _ _).trans (Ext.alloc _ _)
 have ka0 : ∀ W, Ext wA W → W.cell? ⟨w.heap.size, 0, none⟩ = some (.int .i64 ka) := by rw [hwA]; exact keptA w _ _ _ _ rfl
 have ka1 : ∀ W, Ext wA W → W.cell? ⟨w.heap.size, 1, none⟩ = some (.int .i64 pa) := by rw [hwA]; exact keptA w _ _ _ _ rfl
 have ka2 : ∀ W, Ext wA W → W.cell? ⟨w.heap.size, 2, none⟩ = some (.int .i64 xa.f) := by rw [hwA]; exact keptA w _ _ _ _ rfl
 have ka3 : ∀ W, Ext wA W → W.cell? ⟨w.heap.size, 3, none⟩ = some (.slice aa0 xa.t.length aa1) := by rw [hwA]; exact keptA w _ _ _ _ rfl
 have ka4 : ∀ W, Ext wA W → W.cell? ⟨w.heap.size, 4, none⟩ = some (.slice aa2 xa.l.length aa3) := by rw [hwA]; exact keptA w _ _ _ _ rfl
 have ka5 : ∀ W, Ext wA W → W.cell? ⟨w.heap.size, 5, none⟩ = some (.slice aa4 xa.r.length aa5) := by rw [hwA]; exact keptA w _ _ _ _ rfl
 have kb0 : ∀ W, Ext wA W → W.cell? ⟨w.heap.size + 1, 0, none⟩ = some (.int .i64 kb) := by rw [hwA]; exact keptB w _ _ _ _ rfl
 have kb1 : ∀ W, Ext wA W → W.cell? ⟨w.heap.size + 1, 1, none⟩ = some (.int .i64 pb) := by rw [hwA]; exact keptB w _ _ _ _ rfl
 have kb2 : ∀ W, Ext wA W → W.cell? ⟨w.heap.size + 1, 2, none⟩ = some (.int .i64 xb.f) := by rw [hwA]; exact keptB w _ _ _ _ rfl
 have kb3 : ∀ W, Ext wA W → W.cell? ⟨w.heap.size + 1, 3, none⟩ = some (.slice ab0 xb.t.length ab1) := by rw [hwA]; exact keptB w _ _ _ _ rfl
 have kb4 : ∀ W, Ext wA W → W.cell? ⟨w.heap.size + 1, 4, none⟩ = some (.slice ab2 xb.l.length ab3) := by rw [hwA]; exact keptB w _ _ _ _ rfl
 have kb5 : ∀ W, Ext wA W → W.cell? ⟨w.heap.size + 1, 5, none⟩ = some (.slice ab4 xb.r.length ab5) := by rw [hwA]; exact keptB w _ _ _ _ rfl
 have H0 : Ext wA wA := Ext.refl _
 have HWA := Lib.hid hwA; clear hwA
 rcases HC with ⟨rfl, rfl⟩ | ⟨rfl, rfl, rfl⟩ | ⟨rfl, rfl, rfl⟩
 ·go_enter Tryz.func165, Tryz.ntmps165
  go_wp2_with fail
  rw [← HWA.out]
  refine (reasons_c wA).mono ?_; rintro e w1 ⟨rfl, hx1⟩
  have hX1 := hE0.trans hx1
  have hx1a : Ext wA (w1.alloc (.cells #[.func (.func 224) #[] #[]] 260)) := hx1.trans (Ext.alloc _ _)
  go_wp2_with fail
  refine (H1.out _ (hX1.trans (Ext.alloc _ _))).mono ?_; rintro e w2 ⟨rfl, hx2⟩
  have hX2 := hx1.trans ((Ext.alloc _ _).trans hx2)
  have g0 : w2.cell? ⟨w1.heap.size, 0, none⟩ = some (.func (.func 224) #[] #[]) := hx2.keep (alloc_cell w1 _ _ rfl)
  go_wp2_with fail
  go_ret
  exact RV.int rfl (hE0.trans hX2)
 ·go_enter Tryz.func165, Tryz.ntmps165
  go_wp2_with fail
  rw [← HWA.out]
  refine (reasons_c wA).mono ?_; rintro e w1 ⟨rfl, hx1⟩
  have hX1 := hE0.trans hx1
  have hx1a : Ext wA (w1.alloc (.cells #[.func (.func 224) #[] #[]] 260)) := hx1.trans (Ext.alloc _ _)
  go_wp2_with fail
  refine (H1.out _ (hX1.trans (Ext.alloc _ _))).mono ?_; rintro e w2 ⟨rfl, hx2⟩
  have hX2 := hx1.trans ((Ext.alloc _ _).trans hx2)
  have g0 : w2.cell? ⟨w1.heap.size, 0, none⟩ = some (.func (.func 224) #[] #[]) := hx2.keep (alloc_cell w1 _ _ rfl)
  go_wp2_with fail
  refine (H2.out _ (hE0.trans hX2)).mono ?_; rintro e w3 ⟨rfl, hx3⟩
  have hX3 := hX2.trans hx3
  go_wp2_with fail
  go_ret
  exact RV.int rfl (hE0.trans hX3)
 ·go_enter Tryz.func165, Tryz.ntmps165
  go_wp2_with fail
  rw [← HWA.out]
  refine (reasons_c wA).mono ?_; rintro e w1 ⟨rfl, hx1⟩
  have hX1 := hE0.trans hx1
  have hx1a : Ext wA (w1.alloc (.cells #[.func (.func 224) #[] #[]] 260)) := hx1.trans (Ext.alloc _ _)
  go_wp2_with fail
  refine (H1.out _ (hX1.trans (Ext.alloc _ _))).mono ?_; rintro e w2 ⟨rfl, hx2⟩
  have hX2 := hx1.trans ((Ext.alloc _ _).trans hx2)
  have g0 : w2.cell? ⟨w1.heap.size, 0, none⟩ = some (.func (.func 224) #[] #[]) := hx2.keep (alloc_cell w1 _ _ rfl)
  go_wp2_with fail
  refine (H2.out _ (hE0.trans hX2)).mono ?_; rintro e w3 ⟨rfl, hx3⟩
  have hX3 := hX2.trans hx3
  go_wp2_with fail
  go_ret
  exact RV.int rfl (hE0.trans hX3)
set_option maxHeartbeats 2000000 in
set_option maxRecDepth 100000 in
theorem decide3_c (s : List Rul) (wv : Value) (l : List Int) (a b : Can) (w : World) (hw : Ints w wv l) (ha : CanG w s a) (hb : CanG w s b) : Calls Tryz.prog 165 #[wv, .int .i64 3, canV a, canV b] w (RV (.int .i64 (decZ s l 3 a.stp b.stp)) w) := by
 have H1 := Lib.hid (fun W (h : Ext w W) => og3_c s wv l a b W (hw.ext h) (ha.ext h) (hb.ext h))
 have H2 := Lib.hid (fun W (h : Ext w W) => og3_c s wv l b a W (hw.ext h) (hb.ext h) (ha.ext h))
 have HC := dec_cases s l 3 a.stp b.stp
 generalize proB s l 3 a.stp b.stp = P1 at *
 generalize proB s l 3 b.stp a.stp = P2 at *
 generalize decZ s l 3 a.stp b.stp = D at *
 have eg : Enters Tryz.prog 226 := enters_of Tryz.func226 (by kernel_rfl) rfl
 unfold Enters at eg
 have hix : ∀ W, (Instr.index 261 (.agg #[.func (.func 222) #[] #[], .func (.func 224) #[] #[], .func (.func 226) #[] #[], .func (.func 227) #[] #[]]) (.int .i64 2)).run Tryz.prog W = .ok (.agg #[.func (.func 226) #[] #[]]) W := fun W => run_index_rsn W #[.func (.func 222) #[] #[], .func (.func 224) #[] #[], .func (.func 226) #[] #[], .func (.func 227) #[] #[]] 2 (by omega)
 obtain ⟨ka, pa, xa, aa0, aa1, aa2, aa3, aa4, aa5, rfl, HXA, HRA, ha0, ha1, ha2, ha3⟩ := ha.lit
 obtain ⟨kb, pb, xb, ab0, ab1, ab2, ab3, ab4, ab5, rfl, HXB, HRB, hb0, hb1, hb2, hb3⟩ := hb.lit
 clear ha hb
 obtain ⟨aw, cw, rfl, _⟩ := hw.open_
 clear hw
 unfold canV at *
 dsimp only at *
 obtain ⟨wA, hwA⟩ : ∃ wA, wA = (w.alloc (.cells #[.int .i64 ka, .int .i64 pa, .int .i64 xa.f, .slice aa0 xa.t.length aa1, .slice aa2 xa.l.length aa3, .slice aa4 xa.r.length aa5] 165)).alloc (.cells #[.int .i64 kb, .int .i64 pb, .int .i64 xb.f, .slice ab0 xb.t.length ab1, .slice ab2 xb.l.length ab3, .slice ab4 xb.r.length ab5] 165) := ⟨_, rfl⟩
 have hE0 : Ext w wA := by rw [hwA]; exact (Ext.alloc _ _).trans (Ext.alloc _ _)
 have ka0 : ∀ W, Ext wA W → W.cell? ⟨w.heap.size, 0, none⟩ = some (.int .i64 ka) := by rw [hwA]; exact keptA w _ _ _ _ rfl
 have ka1 : ∀ W, Ext wA W → W.cell? ⟨w.heap.size, 1, none⟩ = some (.int .i64 pa) := by rw [hwA]; exact keptA w _ _ _ _ rfl
 have ka2 : ∀ W, Ext wA W → W.cell? ⟨w.heap.size, 2, none⟩ = some (.int .i64 xa.f) := by rw [hwA]; exact keptA w _ _ _ _ rfl
 have ka3 : ∀ W, Ext wA W → W.cell? ⟨w.heap.size, 3, none⟩ = some (.slice aa0 xa.t.length aa1) := by rw [hwA]; exact keptA w _ _ _ _ rfl
 have ka4 : ∀ W, Ext wA W → W.cell? ⟨w.heap.size, 4, none⟩ = some (.slice aa2 xa.l.length aa3) := by rw [hwA]; exact keptA w _ _ _ _ rfl
 have ka5 : ∀ W, Ext wA W → W.cell? ⟨w.heap.size, 5, none⟩ = some (.slice aa4 xa.r.length aa5) := by rw [hwA]; exact keptA w _ _ _ _ rfl
 have kb0 : ∀ W, Ext wA W → W.cell? ⟨w.heap.size + 1, 0, none⟩ = some (.int .i64 kb) := by rw [hwA]; exact keptB w _ _ _ _ rfl
 have kb1 : ∀ W, Ext wA W → W.cell? ⟨w.heap.size + 1, 1, none⟩ = some (.int .i64 pb) := by rw [hwA]; exact keptB w _ _ _ _ rfl
 have kb2 : ∀ W, Ext wA W → W.cell? ⟨w.heap.size + 1, 2, none⟩ = some (.int .i64 xb.f) := by rw [hwA]; exact keptB w _ _ _ _ rfl
 have kb3 : ∀ W, Ext wA W → W.cell? ⟨w.heap.size + 1, 3, none⟩ = some (.slice ab0 xb.t.length ab1) := by rw [hwA]; exact keptB w _ _ _ _ rfl
 have kb4 : ∀ W, Ext wA W → W.cell? ⟨w.heap.size + 1, 4, none⟩ = some (.slice ab2 xb.l.length ab3) := by rw [hwA]; exact keptB w _ _ _ _ rfl
 have kb5 : ∀ W, Ext wA W → W.cell? ⟨w.heap.size + 1, 5, none⟩ = some (.slice ab4 xb.r.length ab5) := by rw [hwA]; exact keptB w _ _ _ _ rfl
 have H0 : Ext wA wA := Ext.refl _
 have HWA := Lib.hid hwA; clear hwA
 rcases HC with ⟨rfl, rfl⟩ | ⟨rfl, rfl, rfl⟩ | ⟨rfl, rfl, rfl⟩
 ·go_enter Tryz.func165, Tryz.ntmps165
  go_wp2_with fail
  rw [← HWA.out]
  refine (reasons_c wA).mono ?_; rintro e w1 ⟨rfl, hx1⟩
  have hX1 := hE0.trans hx1
  have hx1a : Ext wA (w1.alloc (.cells #[.func (.func 226) #[] #[]] 260)) := hx1.trans (Ext.alloc _ _)
  go_wp2_with fail
  refine (H1.out _ (hX1.trans (Ext.alloc _ _))).mono ?_; rintro e w2 ⟨rfl, hx2⟩
  have hX2 := hx1.trans ((Ext.alloc _ _).trans hx2)
  have g0 : w2.cell? ⟨w1.heap.size, 0, none⟩ = some (.func (.func 226) #[] #[]) := hx2.keep (alloc_cell w1 _ _ rfl)
  go_wp2_with fail
  go_ret
  exact RV.int rfl (hE0.trans hX2)
 ·go_enter Tryz.func165, Tryz.ntmps165
  go_wp2_with fail
  rw [← HWA.out]
  refine (reasons_c wA).mono ?_; rintro e w1 ⟨rfl, hx1⟩
  have hX1 := hE0.trans hx1
  have hx1a : Ext wA (w1.alloc (.cells #[.func (.func 226) #[] #[]] 260)) := hx1.trans (Ext.alloc _ _)
  go_wp2_with fail
  refine (H1.out _ (hX1.trans (Ext.alloc _ _))).mono ?_; rintro e w2 ⟨rfl, hx2⟩
  have hX2 := hx1.trans ((Ext.alloc _ _).trans hx2)
  have g0 : w2.cell? ⟨w1.heap.size, 0, none⟩ = some (.func (.func 226) #[] #[]) := hx2.keep (alloc_cell w1 _ _ rfl)
  go_wp2_with fail
  refine (H2.out _ (hE0.trans hX2)).mono ?_; rintro e w3 ⟨rfl, hx3⟩
  have hX3 := hX2.trans hx3
  go_wp2_with fail
  go_ret
  exact RV.int rfl (hE0.trans hX3)
 ·go_enter Tryz.func165, Tryz.ntmps165
  go_wp2_with fail
  rw [← HWA.out]
  refine (reasons_c wA).mono ?_; rintro e w1 ⟨rfl, hx1⟩
  have hX1 := hE0.trans hx1
  have hx1a : Ext wA (w1.alloc (.cells #[.func (.func 226) #[] #[]] 260)) := hx1.trans (Ext.alloc _ _)
  go_wp2_with fail
  refine (H1.out _ (hX1.trans (Ext.alloc _ _))).mono ?_; rintro e w2 ⟨rfl, hx2⟩
  have hX2 := hx1.trans ((Ext.alloc _ _).trans hx2)
  have g0 : w2.cell? ⟨w1.heap.size, 0, none⟩ = some (.func (.func 226) #[] #[]) := hx2.keep (alloc_cell w1 _ _ rfl)
  go_wp2_with fail
  refine (H2.out _ (hE0.trans hX2)).mono ?_; rintro e w3 ⟨rfl, hx3⟩
  have hX3 := hX2.trans hx3
  go_wp2_with fail
  go_ret
  exact RV.int rfl (hE0.trans hX3)
set_option maxHeartbeats 2000000 in
set_option maxRecDepth 100000 in
theorem decide4_c (s : List Rul) (wv : Value) (l : List Int) (a b : Can) (w : World) (hw : Ints w wv l) (ha : CanG w s a) (hb : CanG w s b) : Calls Tryz.prog 165 #[wv, .int .i64 4, canV a, canV b] w (RV (.int .i64 (decZ s l 4 a.stp b.stp)) w) := by
 have H1 := Lib.hid (fun W (h : Ext w W) => og4_c s wv l a b W (hw.ext h) (ha.ext h) (hb.ext h))
 have H2 := Lib.hid (fun W (h : Ext w W) => og4_c s wv l b a W (hw.ext h) (hb.ext h) (ha.ext h))
 have HC := dec_cases s l 4 a.stp b.stp
 generalize proB s l 4 a.stp b.stp = P1 at *
 generalize proB s l 4 b.stp a.stp = P2 at *
 generalize decZ s l 4 a.stp b.stp = D at *
 have eg : Enters Tryz.prog 227 := enters_of Tryz.func227 (by kernel_rfl) rfl
 unfold Enters at eg
 have hix : ∀ W, (Instr.index 261 (.agg #[.func (.func 222) #[] #[], .func (.func 224) #[] #[], .func (.func 226) #[] #[], .func (.func 227) #[] #[]]) (.int .i64 3)).run Tryz.prog W = .ok (.agg #[.func (.func 227) #[] #[]]) W := fun W => run_index_rsn W #[.func (.func 222) #[] #[], .func (.func 224) #[] #[], .func (.func 226) #[] #[], .func (.func 227) #[] #[]] 3 (by omega)
 obtain ⟨ka, pa, xa, aa0, aa1, aa2, aa3, aa4, aa5, rfl, HXA, HRA, ha0, ha1, ha2, ha3⟩ := ha.lit
 obtain ⟨kb, pb, xb, ab0, ab1, ab2, ab3, ab4, ab5, rfl, HXB, HRB, hb0, hb1, hb2, hb3⟩ := hb.lit
 clear ha hb
 obtain ⟨aw, cw, rfl, _⟩ := hw.open_
 clear hw
 unfold canV at *
 dsimp only at *
 obtain ⟨wA, hwA⟩ : ∃ wA, wA = (w.alloc (.cells #[.int .i64 ka, .int .i64 pa, .int .i64 xa.f, .slice aa0 xa.t.length aa1, .slice aa2 xa.l.length aa3, .slice aa4 xa.r.length aa5] 165)).alloc (.cells #[.int .i64 kb, .int .i64 pb, .int .i64 xb.f, .slice ab0 xb.t.length ab1, .slice ab2 xb.l.length ab3, .slice ab4 xb.r.length ab5] 165) := ⟨_, rfl⟩
 have hE0 : Ext w wA := by rw [hwA]; exact (Ext.alloc _ _).trans (Ext.alloc _ _)
 have ka0 : ∀ W, Ext wA W → W.cell? ⟨w.heap.size, 0, none⟩ = some (.int .i64 ka) := by rw [hwA]; exact keptA w _ _ _ _ rfl
 have ka1 : ∀ W, Ext wA W → W.cell? ⟨w.heap.size, 1, none⟩ = some (.int .i64 pa) := by rw [hwA]; exact keptA w _ _ _ _ rfl
 have ka2 : ∀ W, Ext wA W → W.cell? ⟨w.heap.size, 2, none⟩ = some (.int .i64 xa.f) := by rw [hwA]; exact keptA w _ _ _ _ rfl
 have ka3 : ∀ W, Ext wA W → W.cell? ⟨w.heap.size, 3, none⟩ = some (.slice aa0 xa.t.length aa1) := by rw [hwA]; exact keptA w _ _ _ _ rfl
 have ka4 : ∀ W, Ext wA W → W.cell? ⟨w.heap.size, 4, none⟩ = some (.slice aa2 xa.l.length aa3) := by rw [hwA]; exact keptA w _ _ _ _ rfl
 have ka5 : ∀ W, Ext wA W → W.cell? ⟨w.heap.size, 5, none⟩ = some (.slice aa4 xa.r.length aa5) := by rw [hwA]; exact keptA w _ _ _ _ rfl
 have kb0 : ∀ W, Ext wA W → W.cell? ⟨w.heap.size + 1, 0, none⟩ = some (.int .i64 kb) := by rw [hwA]; exact keptB w _ _ _ _ rfl
 have kb1 : ∀ W, Ext wA W → W.cell? ⟨w.heap.size + 1, 1, none⟩ = some (.int .i64 pb) := by rw [hwA]; exact keptB w _ _ _ _ rfl
 have kb2 : ∀ W, Ext wA W → W.cell? ⟨w.heap.size + 1, 2, none⟩ = some (.int .i64 xb.f) := by rw [hwA]; exact keptB w _ _ _ _ rfl
 have kb3 : ∀ W, Ext wA W → W.cell? ⟨w.heap.size + 1, 3, none⟩ = some (.slice ab0 xb.t.length ab1) := by rw [hwA]; exact keptB w _ _ _ _ rfl
 have kb4 : ∀ W, Ext wA W → W.cell? ⟨w.heap.size + 1, 4, none⟩ = some (.slice ab2 xb.l.length ab3) := by rw [hwA]; exact keptB w _ _ _ _ rfl
 have kb5 : ∀ W, Ext wA W → W.cell? ⟨w.heap.size + 1, 5, none⟩ = some (.slice ab4 xb.r.length ab5) := by rw [hwA]; exact keptB w _ _ _ _ rfl
 have H0 : Ext wA wA := Ext.refl _
 have HWA := Lib.hid hwA; clear hwA
 rcases HC with ⟨rfl, rfl⟩ | ⟨rfl, rfl, rfl⟩ | ⟨rfl, rfl, rfl⟩
 ·go_enter Tryz.func165, Tryz.ntmps165
  go_wp2_with fail
  rw [← HWA.out]
  refine (reasons_c wA).mono ?_; rintro e w1 ⟨rfl, hx1⟩
  have hX1 := hE0.trans hx1
  have hx1a : Ext wA (w1.alloc (.cells #[.func (.func 227) #[] #[]] 260)) := hx1.trans (Ext.alloc _ _)
  go_wp2_with fail
  refine (H1.out _ (hX1.trans (Ext.alloc _ _))).mono ?_; rintro e w2 ⟨rfl, hx2⟩
  have hX2 := hx1.trans ((Ext.alloc _ _).trans hx2)
  have g0 : w2.cell? ⟨w1.heap.size, 0, none⟩ = some (.func (.func 227) #[] #[]) := hx2.keep (alloc_cell w1 _ _ rfl)
  go_wp2_with fail
  go_ret
  exact RV.int rfl (hE0.trans hX2)
 ·go_enter Tryz.func165, Tryz.ntmps165
  go_wp2_with fail
  rw [← HWA.out]
  refine (reasons_c wA).mono ?_; rintro e w1 ⟨rfl, hx1⟩
  have hX1 := hE0.trans hx1
  have hx1a : Ext wA (w1.alloc (.cells #[.func (.func 227) #[] #[]] 260)) := hx1.trans (Ext.alloc _ _)
  go_wp2_with fail
  refine (H1.out _ (hX1.trans (Ext.alloc _ _))).mono ?_; rintro e w2 ⟨rfl, hx2⟩
  have hX2 := hx1.trans ((Ext.alloc _ _).trans hx2)
  have g0 : w2.cell? ⟨w1.heap.size, 0, none⟩ = some (.func (.func 227) #[] #[]) := hx2.keep (alloc_cell w1 _ _ rfl)
  go_wp2_with fail
  refine (H2.out _ (hE0.trans hX2)).mono ?_; rintro e w3 ⟨rfl, hx3⟩
  have hX3 := hX2.trans hx3
  go_wp2_with fail
  go_ret
  exact RV.int rfl (hE0.trans hX3)
 ·go_enter Tryz.func165, Tryz.ntmps165
  go_wp2_with fail
  rw [← HWA.out]
  refine (reasons_c wA).mono ?_; rintro e w1 ⟨rfl, hx1⟩
  have hX1 := hE0.trans hx1
  have hx1a : Ext wA (w1.alloc (.cells #[.func (.func 227) #[] #[]] 260)) := hx1.trans (Ext.alloc _ _)
  go_wp2_with fail
  refine (H1.out _ (hX1.trans (Ext.alloc _ _))).mono ?_; rintro e w2 ⟨rfl, hx2⟩
  have hX2 := hx1.trans ((Ext.alloc _ _).trans hx2)
  have g0 : w2.cell? ⟨w1.heap.size, 0, none⟩ = some (.func (.func 227) #[] #[]) := hx2.keep (alloc_cell w1 _ _ rfl)
  go_wp2_with fail
  refine (H2.out _ (hE0.trans hX2)).mono ?_; rintro e w3 ⟨rfl, hx3⟩
  have hX3 := hX2.trans hx3
  go_wp2_with fail
  go_ret
  exact RV.int rfl (hE0.trans hX3)
theorem oDecide_c (s : List Rul) (wv : Value) (l : List Int) (g : Int) (a b : Can) (w : World) (hw : Ints w wv l) (ha : CanG w s a) (hb : CanG w s b) (h1 : 1 ≤ g) (h2 : g ≤ 4) : Calls Tryz.prog 165 #[wv, .int .i64 g, canV a, canV b] w (RV (.int .i64 (decZ s l g a.stp b.stp)) w) := by
 have : g = 1 ∨ g = 2 ∨ g = 3 ∨ g = 4 := by omega
 rcases this with rfl | rfl | rfl | rfl
 ·exact decide1_c s wv l a b w hw ha hb
 ·exact decide2_c s wv l a b w hw ha hb
 ·exact decide3_c s wv l a b w hw ha hb
 ·exact decide4_c s wv l a b w hw ha hb
theorem beats_skip (s : List Rul) (w : List Int) (a b : Stp) : ∀ (gs : List Int) (k : Nat), k ≤ gs.length → (∀ j, j < k → decZ s w (gs[j]?.getD 0) a b = 0) → beatsZ s w gs a b = beatsZ s w (gs.drop k) a b := by
 intro gs
 induction gs with
 | nil => intro k hk _; simp at hk; subst hk; rfl
 | cons g gs ih =>
  intro k hk h
  cases k with
  | zero => rfl
  | succ k =>
   have h0 := h 0 (by omega)
   rw [show ((g :: gs)[0]?.getD 0) = g from rfl] at h0
   rw [beatsZ, if_pos h0, List.drop_succ_cons]
   exact ih k (by simpa using hk) (fun j hj => h (j + 1) (by omega))
theorem beats_at {s : List Rul} {w : List Int} {a b : Stp} {gs : List Int} {k : Nat} (hk : k < gs.length) (h : ∀ j, j < k → decZ s w (gs[j]?.getD 0) a b = 0) (hn : decZ s w (gs[k]?.getD 0) a b ≠ 0) : beatsZ s w gs a b = decZ s w (gs[k]?.getD 0) a b * (gs[k]?.getD 0) := by
 rw [beats_skip s w a b gs k (by omega) h, List.drop_eq_getElem_cons hk, beatsZ]
 rw [List.getElem?_eq_getElem hk] at hn ⊢
 rw [Option.getD_some] at hn ⊢
 rw [if_neg hn]
theorem beats_none {s : List Rul} {w : List Int} {a b : Stp} {gs : List Int} (h : ∀ j, j < gs.length → decZ s w (gs[j]?.getD 0) a b = 0) : beatsZ s w gs a b = 0 := by
 rw [beats_skip s w a b gs gs.length (Nat.le_refl _) h, List.drop_length]; rfl
theorem dec_range (s : List Rul) (w : List Int) (g : Int) (a b : Stp) : decZ s w g a b = 1 ∨ decZ s w g a b = -1 ∨ decZ s w g a b = 0 := by
 rcases dec_cases s w g a b with ⟨_, h⟩ | ⟨_, _, h⟩ | ⟨_, _, h⟩ <;> simp [h]
def GrOk (gs : List Int) : Prop := ∀ j, j < gs.length → 1 ≤ gs[j]?.getD 0 ∧ gs[j]?.getD 0 ≤ 4
theorem validG_gr {gs : List Int} (h : validG gs = 0) : GrOk gs := by
 intro j hj
 unfold validG at h
 split at h
 ·cases h
 ·split at h
  ·cases h
  ·rename_i ho
   unfold outG at ho
   have ho : allB gs.length (fun i => inB (gs[i]?.getD 0) 1 4) = true := by simpa using ho
   unfold allB at ho
   rw [List.all_eq_true] at ho
   have := ho j (by simpa using hj)
   simpa [inB] using this
set_option maxHeartbeats 2000000 in
set_option maxRecDepth 100000 in
theorem oBeats_c (s : List Rul) (wv gv : Value) (l gs : List Int) (a b : Can) (w : World) (hw : Ints w wv l) (hg : Ints w gv gs) (hgr : GrOk gs) (ha : CanG w s a) (hb : CanG w s b) :
  Calls Tryz.prog 116 #[wv, gv, canV a, canV b] w (RV (.int .i64 (beatsZ s l gs a.stp b.stp)) w) := by
 have HD := Lib.hid (fun g (h1 : 1 ≤ g) (h2 : g ≤ 4) W (h : Ext w W) => oDecide_c s wv l g a b W (hw.ext h) (ha.ext h) (hb.ext h) h1 h2)
 have HGR := Lib.hid hgr; clear hgr
 have HBZ : Hid (∀ k, k < gs.length → (∀ j, j < k → decZ s l (gs[j]?.getD 0) a.stp b.stp = 0) → decZ s l (gs[k]?.getD 0) a.stp b.stp ≠ 0 → beatsZ s l gs a.stp b.stp = decZ s l (gs[k]?.getD 0) a.stp b.stp * (gs[k]?.getD 0)) := Lib.hid fun k hk h hn => beats_at hk h hn
 have HBN : Hid ((∀ j, j < gs.length → decZ s l (gs[j]?.getD 0) a.stp b.stp = 0) → beatsZ s l gs a.stp b.stp = 0) := Lib.hid beats_none
 have HDR := Lib.hid (fun g => dec_range s l g a.stp b.stp)
 generalize beatsZ s l gs a.stp b.stp = Z at *
 obtain ⟨dz, hdz2⟩ : ∃ dz : Int → Int, ∀ g, decZ s l g a.stp b.stp = dz g := ⟨_, fun _ => rfl⟩
 simp only [hdz2] at HD HBZ HBN HDR
 clear hdz2
 obtain ⟨ka, pa, xa, aa0, aa1, aa2, aa3, aa4, aa5, rfl, HXA, HRA, ha0, ha1, ha2, ha3⟩ := ha.lit
 obtain ⟨kb, pb, xb, ab0, ab1, ab2, ab3, ab4, ab5, rfl, HXB, HRB, hb0, hb1, hb2, hb3⟩ := hb.lit
 clear ha hb
 obtain ⟨aw, cw, rfl, _⟩ := hw.open_
 obtain ⟨ag, cg, rfl, _, _, HG⟩ := hg.open_
 clear hw hg
 unfold canV at *
 dsimp only at *
 obtain ⟨wA, hwA⟩ : ∃ wA, wA = (w.alloc (.cells #[.int .i64 ka, .int .i64 pa, .int .i64 xa.f, .slice aa0 xa.t.length aa1, .slice aa2 xa.l.length aa3, .slice aa4 xa.r.length aa5] 165)).alloc (.cells #[.int .i64 kb, .int .i64 pb, .int .i64 xb.f, .slice ab0 xb.t.length ab1, .slice ab2 xb.l.length ab3, .slice ab4 xb.r.length ab5] 165) := ⟨_, rfl⟩
 have hE0 : Ext w wA := by rw [hwA]; exact (Ext.alloc _ _).trans (Ext.alloc _ _)
 have ka0 : ∀ W, Ext wA W → W.cell? ⟨w.heap.size, 0, none⟩ = some (.int .i64 ka) := by rw [hwA]; exact keptA w _ _ _ _ rfl
 have ka1 : ∀ W, Ext wA W → W.cell? ⟨w.heap.size, 1, none⟩ = some (.int .i64 pa) := by rw [hwA]; exact keptA w _ _ _ _ rfl
 have ka2 : ∀ W, Ext wA W → W.cell? ⟨w.heap.size, 2, none⟩ = some (.int .i64 xa.f) := by rw [hwA]; exact keptA w _ _ _ _ rfl
 have ka3 : ∀ W, Ext wA W → W.cell? ⟨w.heap.size, 3, none⟩ = some (.slice aa0 xa.t.length aa1) := by rw [hwA]; exact keptA w _ _ _ _ rfl
 have ka4 : ∀ W, Ext wA W → W.cell? ⟨w.heap.size, 4, none⟩ = some (.slice aa2 xa.l.length aa3) := by rw [hwA]; exact keptA w _ _ _ _ rfl
 have ka5 : ∀ W, Ext wA W → W.cell? ⟨w.heap.size, 5, none⟩ = some (.slice aa4 xa.r.length aa5) := by rw [hwA]; exact keptA w _ _ _ _ rfl
 have kb0 : ∀ W, Ext wA W → W.cell? ⟨w.heap.size + 1, 0, none⟩ = some (.int .i64 kb) := by rw [hwA]; exact keptB w _ _ _ _ rfl
 have kb1 : ∀ W, Ext wA W → W.cell? ⟨w.heap.size + 1, 1, none⟩ = some (.int .i64 pb) := by rw [hwA]; exact keptB w _ _ _ _ rfl
 have kb2 : ∀ W, Ext wA W → W.cell? ⟨w.heap.size + 1, 2, none⟩ = some (.int .i64 xb.f) := by rw [hwA]; exact keptB w _ _ _ _ rfl
 have kb3 : ∀ W, Ext wA W → W.cell? ⟨w.heap.size + 1, 3, none⟩ = some (.slice ab0 xb.t.length ab1) := by rw [hwA]; exact keptB w _ _ _ _ rfl
 have kb4 : ∀ W, Ext wA W → W.cell? ⟨w.heap.size + 1, 4, none⟩ = some (.slice ab2 xb.l.length ab3) := by rw [hwA]; exact keptB w _ _ _ _ rfl
 have kb5 : ∀ W, Ext wA W → W.cell? ⟨w.heap.size + 1, 5, none⟩ = some (.slice ab4 xb.r.length ab5) := by rw [hwA]; exact keptB w _ _ _ _ rfl
 have H0 : Ext wA wA := Ext.refl _
 have HWA := Lib.hid hwA; clear hwA
 go_enter Tryz.func116, Tryz.ntmps116
 go_wp2_with fail
 rw [← HWA.out]
 go_loopg [14] gs.length (fun m i wr => ∃ k : Nat, k ≤ gs.length ∧ gs.length ≤ k + m ∧ i = .int .i64 k ∧ Ext wA wr ∧ Hid (∀ j, j < k → dz (gs[j]?.getD 0) = 0))
 case atStart => exact ⟨0, by omega, by omega, rfl, Ext.refl _, fun j hj => by omega⟩
 case round =>
  obtain ⟨k, hk, hk2, rfl, hB, hE⟩ := hrel
  by_cases hlt : k < gs.length
  ·obtain ⟨gb, go, rfl, hc⟩ := HG.out k hlt
   replace hc := (hE0.trans hB).keep hc
   obtain ⟨hg1, hg2⟩ := HGR.out k hlt
   have HDK := Lib.hid (HD.out (gs[k]?.getD 0) hg1 hg2)
   have HZK := Lib.hid (HBZ.out k hlt hE.out)
   have hdr := HDR.out (gs[k]?.getD 0)
   generalize hge : gs[k]?.getD 0 = g at *
   have HGE := Lib.hid hge; clear hge
   generalize hdg : dz g = d at *
   have HDG := Lib.hid hdg; clear hdg
   by_cases h0 : d = 0
   ·subst h0
    clear hdr
    go_wp2_with fail
    refine (HDK.out _ (hE0.trans hB)).mono ?_; rintro e w1 ⟨rfl, hx1⟩
    go_wp2_with fail
    go_roundg (gk-1)
    case measure => omega
    case rel => exact ⟨k+1, by omega, by omega, by go_num, hB.trans hx1, fun j hj => by
     by_cases e : j = k
     ·subst e; rw [HGE.out]; exact HDG.out
     ·exact hE.out j (by omega)⟩
   ·have HZ := Lib.hid (HZK.out h0)
    have hd : (d != 0) = true := by simpa using h0
    clear h0
    have hwr : IntKind.i64.wrap (d * g) = d * g := IntWalk.i64_in _ (by rcases hdr with h | h | h <;> subst h <;> omega)
    clear hdr
    go_wp2_with fail
    refine (HDK.out _ (hE0.trans hB)).mono ?_; rintro e w1 ⟨rfl, hx1⟩
    go_wp2_with fail
    go_ret
    exact RV.int HZ.out.symm (hE0.trans (hB.trans hx1))
  ·have HZ := Lib.hid (HBN.out fun j hj => hE.out j (by omega))
   go_wp2_with fail
   go_ret
   exact RV.int HZ.out.symm (hE0.trans hB)
end Go.Proofs.YtpmlcfgbfhgpgaaGreatDoor
