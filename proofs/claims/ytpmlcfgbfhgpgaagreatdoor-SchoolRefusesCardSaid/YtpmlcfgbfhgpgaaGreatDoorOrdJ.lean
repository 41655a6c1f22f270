/- The winner: the program. -/
import Derived.Test.YtpmlcfgbfhgpgaaGreatDoorOrdI
namespace Go.Proofs.YtpmlcfgbfhgpgaaGreatDoor
open Go.RowKit Go.Shelf
set_option linter.unusedVariables false
def winK (s : List Rul) (l gs : List Int) : Option Ch := if checkK s l gs = 0 then winS s l gs else none
theorem checkK_zero {s : List Rul} {l gs : List Int} (h : checkK s l gs = 0) : checkW s l = 0 ∧ validG gs = 0 := by
 unfold checkK at h; split at h
 ·rename_i h0; exact ⟨h0, h⟩
 ·rename_i h0; exact absurd h h0
set_option maxHeartbeats 4000000 in
set_option maxRecDepth 100000 in
theorem Winner_c (v wv gv : Value) (s : List Rul) (l gs : List Int) (w : World) (h : Ruls w v s) (hw : Ints w wv l) (hg : Ints w gv gs) :
  Calls Tryz.prog 34 #[v, wv, gv] w (RV (.tuple #[chV (winK s l gs), .bool (winK s l gs).isSome, .int .i64 (checkK s l gs)]) w) := by
 obtain ⟨wA, hwA⟩ : ∃ wA, wA = w.alloc (.cells #[.int .i64 0, .int .i64 0, .int .i64 0] 46) := ⟨_, rfl⟩
 have hEA : Ext w wA := by rw [hwA]; exact Ext.alloc _ _
 have hbA : Blk wA w.heap.size 46 [.int .i64 0, .int .i64 0, .int .i64 0] := by rw [hwA]; exact Blk.alloc _ _ _
 have hsz : wA.heap.size = w.heap.size + 1 := by rw [hwA]; simp
 have HWA := Lib.hid hwA; clear hwA
 have hgA := hg.ext hEA
 obtain ⟨a, c, rfl, _⟩ := h.open_
 obtain ⟨aw, cw, rfl, _⟩ := hw.open_
 obtain ⟨ag, cg, rfl, _⟩ := hg.open_
 obtain ⟨wB, hwB⟩ : ∃ wB, wB = wA.alloc (.cells #[.slice ag gs.length cg] 34) := ⟨_, rfl⟩
 have hEB : Ext wA wB := by rw [hwB]; exact Ext.alloc _ _
 have HCK := Lib.hid (ocheck_c _ _ _ s l gs wB (h.ext (hEA.trans hEB)) (hw.ext (hEA.trans hEB)) (by rw [hwB]; exact OneW.new wA _ gs 34 hgA))
 rw [hsz] at HCK
 clear hsz
 have HWB := Lib.hid hwB; clear hwB hgA
 have hX := hEA.trans hEB
 have hb6 := hbA.ext hEB
 have HI := Lib.hid hw
 have HG := Lib.hid hg
 have HR := Lib.hid h
 clear h hw hg
 have HS6 := Lib.hid (fun (W : World) (i : Nat) (v : Value) (h : Ext w W) => h.setCell (c := w.heap.size) (Nat.le_refl _) i v)
 by_cases h0 : checkK s l gs = 0
 ·obtain ⟨hcw, hvg⟩ := checkK_zero h0
  have HCC := Lib.hid (fun W (hW : Ext w W) => choice_c _ _ _ s l gs W (HR.out.ext hW) (HI.out.ext hW) (HG.out.ext hW) (validG_gr hvg))
  rw [show stpsL s l = movesL s l by rw [stpsL, if_pos hcw]] at HCC
  rw [h0] at HCK
  rw [h0, winK, if_pos h0]
  clear h0 hcw hvg
  have HCH : Hid (∃ x y z, chV (winS s l gs) = .agg #[.int .i64 x, .int .i64 y, .int .i64 z]) := Lib.hid (by
   cases winS s l gs with
   | none => exact ⟨0, 0, 0, rfl⟩
   | some c => exact ⟨c.1, c.2.1, c.2.2, rfl⟩)
  rw [show winL s l gs (movesL s l) = winS s l gs from rfl] at HCC
  generalize winS s l gs = R at *
  obtain ⟨x, y, z, hxyz⟩ := HCH.out
  rw [hxyz] at HCC ⊢
  generalize R.isSome = B at *
  clear hxyz HCH
  go_enter Tryz.func34, Tryz.ntmps34
  go_wp2_with fail
  rw [← HWA.out, ← HWB.out]
  generalize w.heap.size = g6 at *
  refine HCK.out.mono ?_; rintro e w1 ⟨rfl, hx1⟩
  go_wp2_with fail
  refine (HCC.out w1 (hX.trans hx1)).mono ?_; rintro e w2 ⟨rfl, hx2⟩
  have hX2 := hX.trans (hx1.trans hx2)
  have hb62 := ((hb6.ext hx1).ext hx2)
  obtain ⟨wC, hwC⟩ : ∃ wC, wC = w2.alloc (.cells #[.int .i64 x, .int .i64 y, .int .i64 z] 46) := ⟨_, rfl⟩
  have hEC : Ext w2 wC := by rw [hwC]; exact Ext.alloc _ _
  have hb10 : Blk wC w2.heap.size 46 [.int .i64 x, .int .i64 y, .int .i64 z] := by rw [hwC]; exact Blk.alloc _ _ _
  have HWC := Lib.hid hwC; clear hwC
  go_upto_region 5 with fail
  rw [← HWC.out]
  have hb63 := hb62.ext hEC
  have hX3 := hX2.trans hEC
  have x0 := hb10.cell (i := 0) rfl
  have x1 := hb10.cell (i := 1) rfl
  have x2 := hb10.cell (i := 2) rfl
  have y0 := hb63.cell (i := 0) rfl
  have y1 := hb63.cell (i := 1) rfl
  have y2 := hb63.cell (i := 2) rfl
  have z0 := hb63.frozen 0
  have z1 := hb63.frozen 1
  have z2 := hb63.frozen 2
  go_wp2_with fail
  have hfin := HS6.out _ 2 (.int .i64 z) (HS6.out _ 1 (.int .i64 y) (HS6.out _ 0 (.int .i64 x) hX3))
  have hbf := ((hb63.set 0 (.int .i64 x)).set 1 (.int .i64 y)).set 2 (.int .i64 z)
  have r0 := hbf.cell (i := 0) (v := .int .i64 x) rfl
  have r1 := hbf.cell (i := 1) (v := .int .i64 y) rfl
  have r2 := hbf.cell (i := 2) (v := .int .i64 z) rfl
  generalize World.setCell _ ⟨g6, 2, none⟩ _ = wF at *
  refine bodyPost_ret (v := .tuple #[.agg #[.int .i64 x, .int .i64 y, .int .i64 z], .bool B, .int .i64 0]) (by simp [results, Tryz.results34, go_sem, r0, r1, r2]) rfl ⟨rfl, hfin⟩
 ·rw [show winK s l gs = none by rw [winK, if_neg h0]]
  have hd : (checkK s l gs != 0) = true := by simp [h0]
  generalize checkK s l gs = K at *
  clear h0
  unfold chV
  dsimp only [Option.isSome]
  go_enter Tryz.func34, Tryz.ntmps34
  go_wp2_with fail
  rw [← HWA.out, ← HWB.out]
  generalize w.heap.size = g6 at *
  refine HCK.out.mono ?_; rintro e w1 ⟨rfl, hx1⟩
  have hb61 := hb6.ext hx1
  have hX1 := hX.trans hx1
  have y0 := hb61.cell (i := 0) rfl
  have y1 := hb61.cell (i := 1) rfl
  have y2 := hb61.cell (i := 2) rfl
  have z0 := hb61.frozen 0
  have z1 := hb61.frozen 1
  have z2 := hb61.frozen 2
  go_wp2_with fail
  have hfin := HS6.out _ 2 (.int .i64 0) (HS6.out _ 1 (.int .i64 0) (HS6.out _ 0 (.int .i64 0) hX1))
  have hbf := ((hb61.set 0 (.int .i64 0)).set 1 (.int .i64 0)).set 2 (.int .i64 0)
  have r0 := hbf.cell (i := 0) (v := .int .i64 0) rfl
  have r1 := hbf.cell (i := 1) (v := .int .i64 0) rfl
  have r2 := hbf.cell (i := 2) (v := .int .i64 0) rfl
  generalize World.setCell _ ⟨g6, 2, none⟩ _ = wF at *
  refine bodyPost_ret (v := .tuple #[.agg #[.int .i64 0, .int .i64 0, .int .i64 0], .bool false, .int .i64 K]) (by simp [results, Tryz.results34, go_sem, r0, r1, r2]) rfl ⟨rfl, hfin⟩
end Go.Proofs.YtpmlcfgbfhgpgaaGreatDoor
