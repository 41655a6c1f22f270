/- All splits: All of the program. -/
import Derived.Test.YtgpggmcjggpmpaaTagAl
import Derived.Laws.EntriesVeiled
namespace Go.Proofs.Ytgpggmcjggpmpaa
open Go.RowKit Go.Shelf
set_option linter.unusedVariables false

def allK (l : Lex) (t : List Int) : Int := if textK l t = 0 then (if 50 < cntR l t (-1) then 3 else 0) else textK l t
def allL (l : Lex) (t : List Int) : List (List Int) := if allK l t = 0 then spl l t (-1) else []
theorem all_a {l : Lex} {t : List Int} (h : textK l t ≠ 0) : allK l t = textK l t ∧ allL l t = [] := by
  have e : allK l t = textK l t := by unfold allK; rw [if_neg h]
  exact ⟨e, by unfold allL; rw [if_neg (by rw [e]; exact h)]⟩
theorem all_b {l : Lex} {t : List Int} (h : textK l t = 0) (h2 : 50 < cntR l t (-1)) : allK l t = 3 ∧ allL l t = [] := by
  have e : allK l t = 3 := by unfold allK; rw [if_pos h, if_pos h2]
  exact ⟨e, by unfold allL; rw [if_neg (by omega)]⟩
theorem all_c {l : Lex} {t : List Int} (h : textK l t = 0) (h2 : ¬ 50 < cntR l t (-1)) : allK l t = 0 ∧ allL l t = spl l t (-1) := by
  have e : allK l t = 0 := by unfold allK; rw [if_pos h, if_neg h2]
  exact ⟨e, by unfold allL; rw [if_pos e]⟩
set_option maxHeartbeats 4000000 in
set_option maxRecDepth 100000 in
theorem All_c (iv fv tv : Value) (l : Lex) (t : List Int) (w : World) (h : LexR w iv fv l) (ht : Ints w tv t) : Calls Try.prog 18 #[.agg #[iv, fv], tv] w (R2 (isRowsT (allL l t)) (allK l t) w) := by
  obtain ⟨at_, ct, htv, hlt0, hmt0, _⟩ := ht.open_
  obtain ⟨w0, hw0⟩ : ∃ w0, w0 = w.alloc (.cells #[iv, fv] 25) := ⟨_, rfl⟩
  have hE00 : Ext w w0 := by rw [hw0]; exact Ext.alloc _ _
  have hz0 : w0.heap.size = w.heap.size + 1 := by rw [hw0]; simp
  obtain ⟨wA, hwA⟩ : ∃ wA, wA = w0.alloc (.cells #[tv] 26) := ⟨_, rfl⟩
  have hE01 : Ext w0 wA := by rw [hwA]; exact Ext.alloc _ _
  have hE0 : Ext w wA := hE00.trans hE01
  have k0 : ∀ W, Ext wA W → W.cell? ⟨w.heap.size, 0, none⟩ = some iv := by rw [hw0] at hE01; exact fun W hW => kept_alloc w _ _ rfl W (hE01.trans hW)
  have k1 : ∀ W, Ext wA W → W.cell? ⟨w.heap.size, 1, none⟩ = some fv := by rw [hw0] at hE01; exact fun W hW => kept_alloc w _ _ rfl W (hE01.trans hW)
  have k2 : ∀ W, Ext wA W → W.cell? ⟨w.heap.size + 1, 0, none⟩ = some tv := by rw [← hz0, hwA]; exact kept_alloc w0 _ _ rfl
  have H0 : Ext wA wA := Ext.refl _
  have HWW : Hid (wA = (w.alloc (.cells #[iv, fv] 25)).alloc (.cells #[tv] 26)) := Lib.hid (by rw [hwA, hw0])
  have HR := Lib.hid (h.ext hE0)
  obtain ⟨ai, ci, rfl, hli, hmi, HI⟩ := (h.ext hE0).i.open_
  obtain ⟨af, cf, rfl, hlf, hmf, HF⟩ := Rows.open_ (h.ext hE0).f
  have HT := Lib.hid (ht.ext hE0)
  subst htv
  have HC1 := Lib.hid (check_c _ _ _ l t wA HR.out HT.out)
  clear hw0 hwA hz0 hE00 hE01 w0 h ht
  by_cases h0 : textK l t = 0
  · obtain ⟨hl, h12, _⟩ := textK_ok h0
    rw [h0] at HC1
    have HL := Lib.hid hl
    have hRS := Lib.hid (fun W (hW : Ext wA W) => rests_c _ _ _ l t W (HR.out.ext hW) hl (HT.out.ext hW) h12)
    have hn8 : l.i.length ≤ 8 := hl.n8
    have HCR : Hid (cntR l t (-1) = ((spl l t (-1)).length : Int)) := Lib.hid rfl
    by_cases hbig : 50 < cntR l t (-1)
    · obtain ⟨e1, e2⟩ := all_b h0 hbig
      rw [e1, e2]
      have hdb : decide (50 < cntR l t (-1)) = true := decide_eq_true hbig
      clear h0 e1 e2 hl
      go_enter Try.func18, Try.ntmps18
      go_wp2_with fail
      rw [← HWW.out]
      refine HC1.out.mono ?_; rintro e w1 ⟨rfl, hx1⟩
      go_wp2_with fail
      refine (hRS.out w1 hx1).mono ?_; rintro e w2 ⟨A, vs, rfl, hgd, hx2⟩
      have hX2 := hx1.trans hx2
      have hA3 := Ext.alloc w2 (.cells #[.slice (some ⟨A, 0, none⟩) (t.length + 1) (t.length + 1)] 23)
      have hX3 := hX2.trans hA3
      have m0 : ∀ W, Ext (w2.alloc (.cells #[.slice (some ⟨A, 0, none⟩) (t.length + 1) (t.length + 1)] 23)) W → W.cell? ⟨w2.heap.size, 0, none⟩ = some (.slice (some ⟨A, 0, none⟩) (t.length + 1) (t.length + 1)) := kept_alloc w2 _ _ rfl
      obtain ⟨g, hv, hbv⟩ := hgd.row 0 (by omega) trivial
      have hcA := hA3.keep (hgd.blk.cell hv)
      rw [show (gridI (restRow l t) 0).length = l.i.length + 1 by unfold gridI; rw [List.length_map, restRow_len]] at hcA
      have hbi : BInts w2 g (restRow l t 0) := hbv
      have hcx := hA3.keep (hbi.cell (i := l.i.length) (by rw [restRow_len]; omega))
      rw [show (restRow l t 0)[l.i.length]?.getD 0 = cntR l t (-1) by rw [restRow_at (by omega), befI, if_pos rfl, List.drop_zero]] at hcx
      have HGD := Lib.hid (hgd.ext hA3)
      have hlI : (l.i.length : Int) < (l.i.length : Int) + 1 := by omega
      clear hbi hbv hv hgd
      go_wp2_with fail
      generalize hW3 : w2.alloc (.cells #[.slice (some ⟨A, 0, none⟩) (t.length + 1) (t.length + 1)] 23) = W3 at *
      have HW3 := Lib.hid hW3; clear hW3
      have hs5 : ∀ s : Later W3, Ext wA s.w := fun s => hX3.trans s.ext
      have hs6 : ∀ s : Later W3, Ext W3 s.w := fun s => s.ext
      have q0 := fun s : Later W3 => s.ext.keep hcA
      have q1 := fun s : Later W3 => s.ext.keep hcx
      have hpos : (0 : Int) < (t.length : Int) + 1 := by omega
      generalize cntR l t (-1) = cn at *
      refine wp_region_later (by kernel_rfl) (by kernel_rfl) ?_
      repeat (go_big_quiet_step (fail))
      refine wpQuiet_nil ?_
      intro w5 hw'
      obtain ⟨⟨_, hx5⟩, rfl⟩ := hw'
      clear hs5 hs6 q0 q1 hcA hcx
      have hX5 := hX3.trans hx5
      go_wp2_with fail
      go_ret2
      exact R2.mk (rows_nil_t _) (hE0.trans hX5)
    · obtain ⟨e1, e2⟩ := all_c h0 hbig
      rw [e1, e2]
      have hdb : decide (50 < cntR l t (-1)) = false := decide_eq_false hbig
      have hln : (spl l t (-1)).length ≤ 50 := by rw [HCR.out] at hbig; omega
      clear h0 e1 e2 hl hbig
      go_enter Try.func18, Try.ntmps18
      go_wp2_with fail
      rw [← HWW.out]
      refine HC1.out.mono ?_; rintro e w1 ⟨rfl, hx1⟩
      go_wp2_with fail
      refine (hRS.out w1 hx1).mono ?_; rintro e w2 ⟨A, vs, rfl, hgd, hx2⟩
      have hX2 := hx1.trans hx2
      have hA3 := Ext.alloc w2 (.cells #[.slice (some ⟨A, 0, none⟩) (t.length + 1) (t.length + 1)] 23)
      have hX3 := hX2.trans hA3
      have m0 : ∀ W, Ext (w2.alloc (.cells #[.slice (some ⟨A, 0, none⟩) (t.length + 1) (t.length + 1)] 23)) W → W.cell? ⟨w2.heap.size, 0, none⟩ = some (.slice (some ⟨A, 0, none⟩) (t.length + 1) (t.length + 1)) := kept_alloc w2 _ _ rfl
      obtain ⟨g, hv, hbv⟩ := hgd.row 0 (by omega) trivial
      have hcA := hA3.keep (hgd.blk.cell hv)
      rw [show (gridI (restRow l t) 0).length = l.i.length + 1 by unfold gridI; rw [List.length_map, restRow_len]] at hcA
      have hbi : BInts w2 g (restRow l t 0) := hbv
      have hcx := hA3.keep (hbi.cell (i := l.i.length) (by rw [restRow_len]; omega))
      rw [show (restRow l t 0)[l.i.length]?.getD 0 = cntR l t (-1) by rw [restRow_at (by omega), befI, if_pos rfl, List.drop_zero]] at hcx
      have HGD := Lib.hid (hgd.ext hA3)
      have hlI : (l.i.length : Int) < (l.i.length : Int) + 1 := by omega
      clear hbi hbv hv hgd
      go_wp2_with fail
      generalize hW3 : w2.alloc (.cells #[.slice (some ⟨A, 0, none⟩) (t.length + 1) (t.length + 1)] 23) = W3 at *
      have HW3 := Lib.hid hW3; clear hW3
      have hs5 : ∀ s : Later W3, Ext wA s.w := fun s => hX3.trans s.ext
      have hs6 : ∀ s : Later W3, Ext W3 s.w := fun s => s.ext
      have q0 := fun s : Later W3 => s.ext.keep hcA
      have q1 := fun s : Later W3 => s.ext.keep hcx
      have hpos : (0 : Int) < (t.length : Int) + 1 := by omega
      generalize cntR l t (-1) = cn at *
      refine wp_region_later (by kernel_rfl) (by kernel_rfl) ?_
      repeat (go_big_quiet_step (fail))
      refine wpQuiet_nil ?_
      intro w5 hw'
      obtain ⟨⟨_, hx5⟩, rfl⟩ := hw'
      clear hs5 hs6 q0 q1 hcA hcx
      have hX5 := hX3.trans hx5
      obtain ⟨FV, hFV⟩ : ∃ FV : Value, FV = growF (w.heap.size + 1) w5.heap.size w.heap.size w2.heap.size (w5.heap.size + 1) := ⟨_, rfl⟩
      have HFV := Lib.hid hFV
      unfold growF at hFV
      have ho6 : Blk (w5.alloc (.cells #[.slice none 0 0] 23)) w5.heap.size 23 [.slice none 0 0] := Blk.alloc w5 _ _
      have hz6 : (w5.alloc (.cells #[.slice none 0 0] 23)).heap.size = w5.heap.size + 1 := by simp
      have hg6 : Blk ((w5.alloc (.cells #[.slice none 0 0] 23)).alloc (.cells #[FV] 71)) (w5.heap.size + 1) 71 [FV] := by rw [← hz6]; exact Blk.alloc _ _ _
      have hE7 : Ext w5 ((w5.alloc (.cells #[.slice none 0 0] 23)).alloc (.cells #[FV] 71)) := (Ext.alloc _ _).trans (Ext.alloc _ _)
      have ho7 := ho6.ext (Ext.alloc (w5.alloc (.cells #[.slice none 0 0] 23)) (.cells #[FV] 71))
      have HGI : Hid (GInv w5 ((w5.alloc (.cells #[.slice none 0 0] 23)).alloc (.cells #[FV] 71)) FV (.slice none 0 0) []) := Lib.hid ⟨hE7, ho7, hg6, SR.nil _ _⟩
      have HGC := Lib.hid (grow_c w5 (w.heap.size + 1) w.heap.size w2.heap.size A _ _ _ vs l t (HR.out.ext hX5) HL.out (HT.out.ext hX5) h12 (k0 w5 hX5) (k1 w5 hX5) (k2 w5 hX5) (m0 w5 hx5) (HGD.out.ext hx5) FV HFV.out t.length [] 0 (.slice none 0 0) (.slice none 0 0) [] _ (by omega) (by omega) HGI.out (SInts.nil _ _) (fun x hx => by simp at hx) (by rw [List.drop_zero, show befS [] = -1 from rfl]; simp; exact hln) (by simp))
      rw [show t.drop 0 = t from List.drop_zero, show befS [] = -1 from rfl, show (fun x : List Int => [] ++ x) = id from by funext x; rfl, List.map_id, List.nil_append, show ((0 : Nat) : Int) = (0 : Int) from rfl] at HGC
      subst hFV
      clear ho6 hz6 hg6 hE7 ho7 HGI
      go_wp2_with fail
      refine HGC.out.mono ?_; rintro e w8 ⟨rfl, ov8, hg8, _⟩
      have hX8 := hX5.trans hg8.x
      have d8 := hg8.o.cell (i := 0) rfl
      have HRW := Lib.hid hg8.s.rows
      clear hg8 HGC
      go_wp2_with fail
      go_ret2
      exact R2.mk HRW.out (hE0.trans hX8)
  · obtain ⟨e1, e2⟩ := all_a (t := t) h0
    rw [e1, e2]
    generalize textK l t = k at *
    have hk : (k != 0) = true := by simpa using h0
    clear h0 e1 e2
    go_enter Try.func18, Try.ntmps18
    go_wp2_with fail
    rw [← HWW.out]
    refine HC1.out.mono ?_; rintro e w1 ⟨rfl, hx1⟩
    go_wp2_with fail
    go_ret2
    exact R2.mk (rows_nil_t _) (hE0.trans hx1)
end Go.Proofs.Ytgpggmcjggpmpaa
