/- The lexicon with a dearer item: item and Dearer of both packages. -/
import Derived.Test.YtgpggmcjggpmpaaTagCf
namespace Go.Proofs.Ytgpggmcjggpmpaa
open Go.RowKit Go.Shelf
set_option linter.unusedVariables false

/-- is it the number of an item -/
def itemK (l : Lex) (n : Int) : Int := if validL l = 0 then (if inB n 0 ((l.n : Int) - 1) then 0 else 4) else validL l
theorem item_ok {l : Lex} {n : Int} (h : itemK l n = 0) : LexOk l ∧ ∃ j : Nat, n = (j : Int) ∧ j < l.i.length := by
  unfold itemK at h
  split at h
  · rename_i hv
    split at h
    · rename_i hb
      have hb2 := inB_iff.1 hb
      refine ⟨validL_ok hv, n.toNat, by omega, ?_⟩
      have e : (l.n : Int) = (l.i.length : Int) := rfl
      omega
    · cases h
  · rename_i hv; exact absurd h hv
theorem areB_one (l : Lex) (n : Int) : areB l [n] = inB n 0 ((l.n : Int) - 1) := by simp [areB, allB]
set_option maxHeartbeats 1000000 in
theorem item_c (iv fv : Value) (l : Lex) (n : Int) (w : World) (h : LexR w iv fv l) : Calls Try.prog 89 #[.agg #[iv, fv], .int .i64 n] w (RV (.int .i64 (itemK l n)) w) := by
  obtain ⟨wA, hwA⟩ : ∃ wA, wA = w.alloc (.cells #[iv, fv] 25) := ⟨_, rfl⟩
  have hE0 : Ext w wA := by rw [hwA]; exact Ext.alloc _ _
  have k0 : ∀ W, Ext wA W → W.cell? ⟨w.heap.size, 0, none⟩ = some iv := by rw [hwA]; exact kept_alloc w _ _ rfl
  have k1 : ∀ W, Ext wA W → W.cell? ⟨w.heap.size, 1, none⟩ = some fv := by rw [hwA]; exact kept_alloc w _ _ rfl
  have H0 : Ext wA wA := Ext.refl _
  have HR := Lib.hid (h.ext hE0)
  obtain ⟨ai, ci, rfl, hli, hmi, HI⟩ := (h.ext hE0).i.open_
  obtain ⟨af, cf, rfl, hlf, hmf, HF⟩ := Rows.open_ (h.ext hE0).f
  have HV := Lib.hid (Validate_c _ _ l wA HR.out)
  have HW := Lib.hid hwA; clear hwA h
  have HIK : Hid (itemK l n = if validL l = 0 then (if inB n 0 ((l.n : Int) - 1) then 0 else 4) else validL l) := Lib.hid rfl
  by_cases h0 : validL l = 0
  · rw [if_pos h0] at HIK
    rw [h0] at HV
    have hl := validL_ok h0
    have hln : l.i.length ≤ 8 := hl.n8
    clear hl h0
    have HAR := Lib.hid (fun W (hW : Ext wA W) => areItems_c _ _ _ l [n] (W.alloc (.cells #[.int .i64 n] 3)) (HR.out.ext (hW.trans (Ext.alloc _ _))) (ints_new W [n] 1 rfl (by omega)))
    rw [areB_one] at HAR
    rw [HIK.out]
    generalize inB n 0 ((l.n : Int) - 1) = b at *
    cases b with
    | true =>
      go_enter Try.func89, Try.ntmps89
      go_wp2_with fail
      rw [← HW.out]
      refine HV.out.mono ?_; rintro e w1 ⟨rfl, hx1⟩
      go_wp2_with fail
      refine (HAR.out w1 hx1).mono ?_; rintro e w2 ⟨rfl, hx2⟩
      have hX2 := (hx1.trans (Ext.alloc _ _)).trans hx2
      go_wp2_with fail
      go_ret
      exact ⟨rfl, hE0.trans hX2⟩
    | false =>
      go_enter Try.func89, Try.ntmps89
      go_wp2_with fail
      rw [← HW.out]
      refine HV.out.mono ?_; rintro e w1 ⟨rfl, hx1⟩
      go_wp2_with fail
      refine (HAR.out w1 hx1).mono ?_; rintro e w2 ⟨rfl, hx2⟩
      have hX2 := (hx1.trans (Ext.alloc _ _)).trans hx2
      go_wp2_with fail
      go_ret
      exact ⟨rfl, hE0.trans hX2⟩
  · rw [if_neg h0] at HIK
    rw [HIK.out]
    generalize validL l = k at *
    have hk : (k != 0) = true := by simpa using h0
    clear h0
    go_enter Try.func89, Try.ntmps89
    go_wp2_with fail
    rw [← HW.out]
    refine HV.out.mono ?_; rintro e w1 ⟨rfl, hx1⟩
    go_wp2_with fail
    go_ret
    exact ⟨rfl, hE0.trans hx1⟩
set_option maxHeartbeats 1000000 in
theorem ritem_c (iv fv : Value) (l : Lex) (n : Int) (w : World) (h : LexR w iv fv l) : Calls Try.prog 90 #[.agg #[iv, fv], .int .i64 n] w (RV (.int .i64 (itemK l n)) w) := by
  obtain ⟨wA, hwA⟩ : ∃ wA, wA = w.alloc (.cells #[iv, fv] 25) := ⟨_, rfl⟩
  have hE0 : Ext w wA := by rw [hwA]; exact Ext.alloc _ _
  have k0 : ∀ W, Ext wA W → W.cell? ⟨w.heap.size, 0, none⟩ = some iv := by rw [hwA]; exact kept_alloc w _ _ rfl
  have k1 : ∀ W, Ext wA W → W.cell? ⟨w.heap.size, 1, none⟩ = some fv := by rw [hwA]; exact kept_alloc w _ _ rfl
  have H0 : Ext wA wA := Ext.refl _
  have HR := Lib.hid (h.ext hE0)
  obtain ⟨ai, ci, rfl, hli, hmi, HI⟩ := (h.ext hE0).i.open_
  obtain ⟨af, cf, rfl, hlf, hmf, HF⟩ := Rows.open_ (h.ext hE0).f
  have HV := Lib.hid (rValidate_c _ _ l wA HR.out)
  have HW := Lib.hid hwA; clear hwA h
  have HIK : Hid (itemK l n = if validL l = 0 then (if inB n 0 ((l.n : Int) - 1) then 0 else 4) else validL l) := Lib.hid rfl
  by_cases h0 : validL l = 0
  · rw [if_pos h0] at HIK
    rw [h0] at HV
    have hl := validL_ok h0
    have hln : l.i.length ≤ 8 := hl.n8
    clear hl h0
    have HAR := Lib.hid (fun W => rwithin_c n 0 ((l.n : Int) - 1) W)
    have hwn : IntKind.i64.wrap ((l.i.length : Int) - 1) = (l.n : Int) - 1 := by rw [IntWalk.i64_in _ (by omega)]
    rw [HIK.out]
    generalize inB n 0 ((l.n : Int) - 1) = b at *
    cases b with
    | true =>
      go_enter Try.func90, Try.ntmps90
      go_wp2_with fail
      rw [← HW.out]
      refine HV.out.mono ?_; rintro e w1 ⟨rfl, hx1⟩
      go_wp2_with fail
      refine (HAR.out w1).mono ?_; rintro e w2 ⟨rfl, rfl⟩
      have hX2 := hx1
      go_wp2_with fail
      go_ret
      exact ⟨rfl, hE0.trans hX2⟩
    | false =>
      go_enter Try.func90, Try.ntmps90
      go_wp2_with fail
      rw [← HW.out]
      refine HV.out.mono ?_; rintro e w1 ⟨rfl, hx1⟩
      go_wp2_with fail
      refine (HAR.out w1).mono ?_; rintro e w2 ⟨rfl, rfl⟩
      have hX2 := hx1
      go_wp2_with fail
      go_ret
      exact ⟨rfl, hE0.trans hX2⟩
  · rw [if_neg h0] at HIK
    rw [HIK.out]
    generalize validL l = k at *
    have hk : (k != 0) = true := by simpa using h0
    clear h0
    go_enter Try.func90, Try.ntmps90
    go_wp2_with fail
    rw [← HW.out]
    refine HV.out.mono ?_; rintro e w1 ⟨rfl, hx1⟩
    go_wp2_with fail
    go_ret
    exact ⟨rfl, hE0.trans hx1⟩
/-- a lexicon and an error code come back -/
def RLexQ (l : Lex) (k : Int) (w : World) (e : Ending) (w' : World) : Prop := ∃ iv fv, e = .returned (.tuple #[.agg #[iv, fv], .int .i64 k]) ∧ LexR w' iv fv l ∧ Ext w w'
theorem RLexE.q {l : Lex} {k : Int} {w : World} {e : Ending} {w' : World} (h : RLexE l k w e w') : RLexQ l k w e w' := by
  obtain ⟨iv, fv, h1, h2, h3⟩ := h; exact ⟨iv, fv, h1, h2.lexR, h3⟩
/-- what Dearer answers -/
def dearK (l : Lex) (n b : Int) : Int := if itemK l n = 0 then (if inB b (-99) 99 && inB (cst l n + b) 0 99 then 0 else 1) else itemK l n
def dearL (l : Lex) (n b : Int) : Lex := if dearK l n b = 0 then dearX l n.toNat b else ⟨[], []⟩
theorem FSt.setC {wA w : World} {G j gi ci : Nat} {fv : Value} {l : Lex} {us vs : List Value} (h : FSt wA w G (.slice (some ⟨gi, 0, none⟩) l.i.length ci) fv l us vs) (hj : j < l.i.length) (hg : wA.heap.size ≤ gi) (c : Int) :
    FSt wA (w.setCell ⟨gi, j * 3 + 2, none⟩ (.int .i64 c)) G (.slice (some ⟨gi, 0, none⟩) l.i.length ci) fv ⟨l.i.set j ⟨(itm l.i j).w, (itm l.i j).k, c⟩, l.f⟩ us vs := by
  obtain ⟨cur, h1, _⟩ := ownBlock_cells h.l.i gi rfl
  refine ⟨h.x.setCell hg _ _, h.o.other ?_ _ _, h.l.setC hj c⟩
  rintro rfl
  have h2 : w.heap[gi]? = _ := h.o
  rw [h1] at h2; injection h2 with h2; injection h2 with _ h2 _; exact absurd h2 (by decide)
theorem OLexP.spotI2 {w : World} {B j gi ci n : Nat} {fv : Value} {l : Lex} {us vs : List Value} (h : OLexP w B (.slice (some ⟨gi, 0, none⟩) n ci) fv l us vs) (hj : j < l.i.length) :
    ∃ u, us[j]? = some u ∧ OInts 3 w B u (itm l.i j).w ∧ w.cell? ⟨gi, j * 3, none⟩ = some u ∧ w.cell? ⟨gi, j * 3 + 1, none⟩ = some (.int .i64 (itm l.i j).k) ∧ w.cell? ⟨gi, j * 3 + 2, none⟩ = some (.int .i64 (itm l.i j).c) ∧ ∀ i, w.frozen? ⟨gi, i, none⟩ = false := by
  obtain ⟨gi', ci', u, hv, _, _, _, h1, h2, h3, h4, h5, h6⟩ := h.spotI hj
  injection hv with hv1 _ _; injection hv1 with hv1; injection hv1 with hv1 _ _; subst hv1
  exact ⟨u, h1, h2, h3, h4, h5, h6⟩
set_option maxHeartbeats 4000000 in
set_option maxRecDepth 100000 in
theorem Dearer_c (iv fv : Value) (l : Lex) (n b : Int) (w : World) (h : LexR w iv fv l) : Calls Try.prog 49 #[.agg #[iv, fv], .int .i64 n, .int .i64 b] w (RLexE (dearL l n b) (dearK l n b) w) := by
  obtain ⟨wL, hwL⟩ : ∃ wL, wL = w.alloc (.cells #[iv, fv] 25) := ⟨_, rfl⟩
  have hEL : Ext w wL := by rw [hwL]; exact Ext.alloc _ _
  have hzL : wL.heap.size = w.heap.size + 1 := by rw [hwL]; simp
  obtain ⟨wA, hwA⟩ : ∃ wA, wA = wL.alloc (.cells #[.slice none 0 0, .slice none 0 0] 25) := ⟨_, rfl⟩
  have hEA : Ext wL wA := by rw [hwA]; exact Ext.alloc _ _
  have hE0 : Ext w wA := hEL.trans hEA
  have k0 : ∀ W, Ext wA W → W.cell? ⟨w.heap.size, 0, none⟩ = some iv := by rw [hwL] at hEA; exact fun W hW => kept_alloc w _ _ rfl W (hEA.trans hW)
  have k1 : ∀ W, Ext wA W → W.cell? ⟨w.heap.size, 1, none⟩ = some fv := by rw [hwL] at hEA; exact fun W hW => kept_alloc w _ _ rfl W (hEA.trans hW)
  have HB0 : Hid (Blk wA (w.heap.size + 1) 25 [.slice none 0 0, .slice none 0 0]) := Lib.hid (by rw [hwA, ← hzL]; exact Blk.alloc _ _ _)
  have H0 : Ext wA wA := Ext.refl _
  have HWW : Hid (wA = (w.alloc (.cells #[iv, fv] 25)).alloc (.cells #[.slice none 0 0, .slice none 0 0] 25)) := Lib.hid (by rw [hwA, hwL])
  have hzA : wA.heap.size = w.heap.size + 1 + 1 := by rw [hwA]; simp [hzL]
  have HR := Lib.hid (h.ext hE0)
  obtain ⟨ai, ci, rfl, hli, hmi, HI⟩ := (h.ext hE0).i.open_
  obtain ⟨af, cf, rfl, hlf, hmf, HF⟩ := Rows.open_ (h.ext hE0).f
  have HZA := Lib.hid hzA
  clear hwL hwA hzL hEA hEL wL h hzA
  have HV := Lib.hid (item_c _ _ l n wA HR.out)
  have HDK : Hid (dearK l n b = if itemK l n = 0 then (if inB b (-99) 99 && inB (cst l n + b) 0 99 then 0 else 1) else itemK l n) := Lib.hid rfl
  have HDL : Hid (dearL l n b = if dearK l n b = 0 then dearX l n.toNat b else ⟨[], []⟩) := Lib.hid rfl
  by_cases h0 : itemK l n = 0
  · rw [if_pos h0] at HDK
    rw [h0] at HV
    obtain ⟨hl, j, hj, hjl⟩ := item_ok h0
    have HL := Lib.hid hl
    have HNJ := Lib.hid hj
    have hcst : cst l n = (itm l.i j).c := by rw [hj]; rfl
    rw [hcst] at HDK
    have HCB := hl.co j hjl
    subst hj
    obtain ⟨bi, oi, rfl, u, hc0, hu, hc1, hc2⟩ := HI.out j hjl
    have hjI : (j : Int) < (l.i.length : Int) := by omega
    clear h0 hcst hu hc0 hc1
    obtain ⟨hc98, hc99⟩ := HCB
    have HW1 := Lib.hid (fun W => within_c b (-99) 99 W)
    have HW2 := Lib.hid (fun W => within_c ((itm l.i j).c + b) 0 99 W)
    have HXC : Hid ((itm l.i j).c = (itm l.i j).c) := Lib.hid rfl
    cases hb1 : inB b (-99) 99 with
    | false =>
      rw [hb1] at HW1 HDK
      have HK : Hid (dearK l (j : Int) b = 1) := Lib.hid (by rw [HDK.out]; rfl)
      have HLL : Hid (dearL l (j : Int) b = ⟨[], []⟩) := Lib.hid (by rw [HDL.out, HK.out]; rfl)
      rw [HK.out, HLL.out]
      clear hb1
      go_enter Try.func49, Try.ntmps49
      go_wp2_with fail
      rw [← HWW.out]
      refine HV.out.mono ?_; rintro e w1 ⟨rfl, hx1⟩
      go_wp2_with fail
      refine (HW1.out w1).mono ?_; rintro e w2 ⟨rfl, rfl⟩
      have hrb := HB0.out.ext (hx1)
      have hrz : w.heap.size ≤ wA.heap.size := hE0.size
      have r0 := hrb.cell (i := 0) rfl
      have r1 := hrb.cell (i := 1) rfl
      have rf0 := hrb.frozen 0
      have rf1 := hrb.frozen 1
      have hr2 : Blk ((w1.setCell ⟨w.heap.size + 1, 0, none⟩ (.slice none 0 0)).setCell ⟨w.heap.size + 1, 1, none⟩ (.slice none 0 0)) (w.heap.size + 1) 25 [(.slice none 0 0), (.slice none 0 0)] := by have := (hrb.set 0 (.slice none 0 0)).set 1 (.slice none 0 0); exact this
      have e0 := hr2.cell (i := 0) rfl
      have e1 := hr2.cell (i := 1) rfl
      have hO1 := (OLexP.nil w1 wA.heap.size).keptN (grownBy_set w1 (w.heap.size + 1) 0 (.slice none 0 0)) hrb ⟨by decide, by decide, by decide⟩
      have hO2 := hO1.keptN (grownBy_set _ (w.heap.size + 1) 1 (.slice none 0 0)) (by have := hrb.set 0 (.slice none 0 0); exact this) ⟨by decide, by decide, by decide⟩
      have HOL := Lib.hid (OLex.low ⟨_, _, hO2⟩ hrz)
      have HXE := Lib.hid (((hE0.trans (hx1)).setCell (by omega : w.heap.size ≤ w.heap.size + 1) 0 (.slice none 0 0)).setCell (by omega : w.heap.size ≤ w.heap.size + 1) 1 (.slice none 0 0))
      clear hr2 hO1 hO2 hrb
      go_wp2_with fail
      refine bodyPost_ret (v := .tuple #[.agg #[(.slice none 0 0), (.slice none 0 0)], .int .i64 1]) (by simp [results, Try.results49, go_sem, e0, e1]) rfl ?_
      exact ⟨_, _, rfl, HOL.out, HXE.out⟩
    | true =>
      rw [hb1] at HW1 HDK
      obtain ⟨hb8, hb9⟩ := inB_iff.1 hb1
      have hw : IntKind.i64.wrap ((itm l.i j).c + b) = (itm l.i j).c + b := IntWalk.i64_in _ (by omega)
      have HNT : Hid (((j : Int)).toNat = j) := Lib.hid (by omega)
      cases hb2 : inB ((itm l.i j).c + b) 0 99 with
      | false =>
        rw [hb2] at HW2 HDK
        have HK : Hid (dearK l (j : Int) b = 1) := Lib.hid (by rw [HDK.out]; rfl)
        have HLL : Hid (dearL l (j : Int) b = ⟨[], []⟩) := Lib.hid (by rw [HDL.out, HK.out]; rfl)
        rw [HK.out, HLL.out]
        clear hb1 hb2
        generalize (itm l.i j).c = xc at *
        go_enter Try.func49, Try.ntmps49
        go_wp2_with fail
        rw [← HWW.out]
        refine HV.out.mono ?_; rintro e w1 ⟨rfl, hx1⟩
        go_wp2_with fail
        have hc2k := hx1.keep hc2
        refine (HW1.out w1).mono ?_; rintro e w2 ⟨rfl, rfl⟩
        go_wp2_with fail
        refine (HW2.out w1).mono ?_; rintro e w2 ⟨rfl, rfl⟩
        have hrb := HB0.out.ext (hx1)
        have hrz : w.heap.size ≤ wA.heap.size := hE0.size
        have r0 := hrb.cell (i := 0) rfl
        have r1 := hrb.cell (i := 1) rfl
        have rf0 := hrb.frozen 0
        have rf1 := hrb.frozen 1
        have hr2 : Blk ((w1.setCell ⟨w.heap.size + 1, 0, none⟩ (.slice none 0 0)).setCell ⟨w.heap.size + 1, 1, none⟩ (.slice none 0 0)) (w.heap.size + 1) 25 [(.slice none 0 0), (.slice none 0 0)] := by have := (hrb.set 0 (.slice none 0 0)).set 1 (.slice none 0 0); exact this
        have e0 := hr2.cell (i := 0) rfl
        have e1 := hr2.cell (i := 1) rfl
        have hO1 := (OLexP.nil w1 wA.heap.size).keptN (grownBy_set w1 (w.heap.size + 1) 0 (.slice none 0 0)) hrb ⟨by decide, by decide, by decide⟩
        have hO2 := hO1.keptN (grownBy_set _ (w.heap.size + 1) 1 (.slice none 0 0)) (by have := hrb.set 0 (.slice none 0 0); exact this) ⟨by decide, by decide, by decide⟩
        have HOL := Lib.hid (OLex.low ⟨_, _, hO2⟩ hrz)
        have HXE := Lib.hid (((hE0.trans (hx1)).setCell (by omega : w.heap.size ≤ w.heap.size + 1) 0 (.slice none 0 0)).setCell (by omega : w.heap.size ≤ w.heap.size + 1) 1 (.slice none 0 0))
        clear hr2 hO1 hO2 hrb
        go_wp2_with fail
        refine bodyPost_ret (v := .tuple #[.agg #[(.slice none 0 0), (.slice none 0 0)], .int .i64 1]) (by simp [results, Try.results49, go_sem, e0, e1]) rfl ?_
        exact ⟨_, _, rfl, HOL.out, HXE.out⟩
      | true =>
        rw [hb2] at HW2 HDK
        have HK : Hid (dearK l (j : Int) b = 0) := Lib.hid (by rw [HDK.out]; rfl)
        have HLL : Hid (dearL l (j : Int) b = ⟨l.i.set j ⟨(itm l.i j).w, (itm l.i j).k, (itm l.i j).c + b⟩, l.f⟩) := Lib.hid (by rw [HDL.out, HK.out, if_pos rfl, HNT.out]; rfl)
        rw [HK.out, HLL.out]
        have HCP := Lib.hid (fun W (hW : Ext wA W) => copied_c _ _ l W (HR.out.ext hW) (copy_bounds HL.out))
        have hn1 : 0 < l.i.length := HL.out.n1
        have hf4 : l.f.length = 4 := HL.out.f4
        have hf0 : 0 < l.f.length := by omega
        have hr0 : 0 < (l.f[0]?.getD []).length := by rw [(HL.out.ff 0 (by omega)).1]; omega
        clear hb1 hb2 hf4
        obtain ⟨xc, hxc⟩ : ∃ xc, xc = (itm l.i j).c := ⟨_, rfl⟩
        rw [← hxc] at hc2 hw HW2 hc98 hc99
        have HXX := Lib.hid hxc; clear hxc
        go_enter Try.func49, Try.ntmps49
        go_wp2_with fail
        rw [← HWW.out]
        refine HV.out.mono ?_; rintro e w1 ⟨rfl, hx1⟩
        go_wp2_with fail
        have hc2k := hx1.keep hc2
        refine (HW1.out w1).mono ?_; rintro e w2 ⟨rfl, rfl⟩
        go_wp2_with fail
        refine (HW2.out w1).mono ?_; rintro e w2 ⟨rfl, rfl⟩
        go_wp2_with fail
        refine (HCP.out w1 hx1).mono ?_; rintro e w2 ⟨iv, fv, rfl, ho2, hx2⟩
        obtain ⟨us, vs, hF⟩ := FSt.begin hx1 hx2 ho2
        clear ho2
        obtain ⟨gi, ci2, u0, rfl, _, hmi2, hgi, _⟩ := hF.l.spotI (j := 0) hn1
        obtain ⟨gf, cf2, g0, cg0, rfl, _, hmf2, _⟩ := hF.l.spotF (a := 0) hf0 hr0
        have HG := Lib.hid hF.o.lt
        have hX3 := hF.x
        have HFS := Lib.hid hF; clear hF hx2
        have hb0 := HFS.out.o
        have p0 := hb0.cell (i := 0) rfl
        obtain ⟨u1, _, _, _, _, hq2, hfz⟩ := HFS.out.l.spotI2 (j := j) hjl
        rw [← HXX.out] at hq2
        have hfz2 := hfz (j * 3 + 2)
        have hst := HFS.out.setC hjl hgi (xc + b)
        rw [HXX.out] at hst
        have d0 := hst.o.cell (i := 0) rfl
        have d1 := hst.o.cell (i := 1) rfl
        have hX9 := hst.x
        have HO := Lib.hid hst.l
        rw [← HXX.out] at d0 d1 hX9 HO
        clear hst hfz hc2 hc2k hb0
        obtain ⟨W9, hW9⟩ : ∃ W9, W9 = (w2.alloc (.cells #[(.slice (some ⟨gi, 0, none⟩) l.i.length ci2), (.slice (some ⟨gf, 0, none⟩) l.f.length cf2)] 25)).setCell ⟨gi, j * 3 + 2, none⟩ (.int .i64 (xc + b)) := ⟨_, rfl⟩
        have HOW := HO
        have HW9 := Lib.hid hW9; clear hW9
        rw [← HW9.out] at HOW
        have hX99 := hX9
        rw [← HW9.out] at hX99
        have hrb := HB0.out.ext (hX9)
        have hrz : w.heap.size ≤ wA.heap.size := hE0.size
        have r0 := hrb.cell (i := 0) rfl
        have r1 := hrb.cell (i := 1) rfl
        have rf0 := hrb.frozen 0
        have rf1 := hrb.frozen 1
        have hr2 : Blk ((((w2.alloc (.cells #[(.slice (some ⟨gi, 0, none⟩) l.i.length ci2), (.slice (some ⟨gf, 0, none⟩) l.f.length cf2)] 25)).setCell ⟨gi, j * 3 + 2, none⟩ (.int .i64 (xc + b))).setCell ⟨w.heap.size + 1, 0, none⟩ (.slice (some ⟨gi, 0, none⟩) l.i.length ci2)).setCell ⟨w.heap.size + 1, 1, none⟩ (.slice (some ⟨gf, 0, none⟩) l.f.length cf2)) (w.heap.size + 1) 25 [(.slice (some ⟨gi, 0, none⟩) l.i.length ci2), (.slice (some ⟨gf, 0, none⟩) l.f.length cf2)] := by have := (hrb.set 0 (.slice (some ⟨gi, 0, none⟩) l.i.length ci2)).set 1 (.slice (some ⟨gf, 0, none⟩) l.f.length cf2); exact this
        have e0 := hr2.cell (i := 0) rfl
        have e1 := hr2.cell (i := 1) rfl
        have hO1 := (HO.out).keptN (grownBy_set ((w2.alloc (.cells #[(.slice (some ⟨gi, 0, none⟩) l.i.length ci2), (.slice (some ⟨gf, 0, none⟩) l.f.length cf2)] 25)).setCell ⟨gi, j * 3 + 2, none⟩ (.int .i64 (xc + b))) (w.heap.size + 1) 0 (.slice (some ⟨gi, 0, none⟩) l.i.length ci2)) hrb ⟨by decide, by decide, by decide⟩
        have hO2 := hO1.keptN (grownBy_set _ (w.heap.size + 1) 1 (.slice (some ⟨gf, 0, none⟩) l.f.length cf2)) (by have := hrb.set 0 (.slice (some ⟨gi, 0, none⟩) l.i.length ci2); exact this) ⟨by decide, by decide, by decide⟩
        have HOL := Lib.hid (OLex.low ⟨_, _, hO2⟩ hrz)
        have HXE := Lib.hid (((hE0.trans (hX9)).setCell (by omega : w.heap.size ≤ w.heap.size + 1) 0 (.slice (some ⟨gi, 0, none⟩) l.i.length ci2)).setCell (by omega : w.heap.size ≤ w.heap.size + 1) 1 (.slice (some ⟨gf, 0, none⟩) l.f.length cf2))
        clear hr2 hO1 hO2 hrb
        go_wp2_with fail
        refine bodyPost_ret (v := .tuple #[.agg #[(.slice (some ⟨gi, 0, none⟩) l.i.length ci2), (.slice (some ⟨gf, 0, none⟩) l.f.length cf2)], .int .i64 0]) (by simp [results, Try.results49, go_sem, e0, e1]) rfl ?_
        exact ⟨_, _, rfl, by rw [← HXX.out]; exact HOL.out, HXE.out⟩
  · rw [if_neg h0] at HDK
    have HLL : Hid (dearL l n b = ⟨[], []⟩) := Lib.hid (by rw [HDL.out, HDK.out, if_neg h0])
    rw [HLL.out, HDK.out]
    generalize itemK l n = k at *
    have hk : (k != 0) = true := by simpa using h0
    clear h0
    go_enter Try.func49, Try.ntmps49
    go_wp2_with fail
    rw [← HWW.out]
    refine HV.out.mono ?_; rintro e w1 ⟨rfl, hx1⟩
    have hrb := HB0.out.ext (hx1)
    have hrz : w.heap.size ≤ wA.heap.size := hE0.size
    have r0 := hrb.cell (i := 0) rfl
    have r1 := hrb.cell (i := 1) rfl
    have rf0 := hrb.frozen 0
    have rf1 := hrb.frozen 1
    have hr2 : Blk ((w1.setCell ⟨w.heap.size + 1, 0, none⟩ (.slice none 0 0)).setCell ⟨w.heap.size + 1, 1, none⟩ (.slice none 0 0)) (w.heap.size + 1) 25 [(.slice none 0 0), (.slice none 0 0)] := by have := (hrb.set 0 (.slice none 0 0)).set 1 (.slice none 0 0); exact this
    have e0 := hr2.cell (i := 0) rfl
    have e1 := hr2.cell (i := 1) rfl
    have hO1 := (OLexP.nil w1 wA.heap.size).keptN (grownBy_set w1 (w.heap.size + 1) 0 (.slice none 0 0)) hrb ⟨by decide, by decide, by decide⟩
    have hO2 := hO1.keptN (grownBy_set _ (w.heap.size + 1) 1 (.slice none 0 0)) (by have := hrb.set 0 (.slice none 0 0); exact this) ⟨by decide, by decide, by decide⟩
    have HOL := Lib.hid (OLex.low ⟨_, _, hO2⟩ hrz)
    have HXE := Lib.hid (((hE0.trans (hx1)).setCell (by omega : w.heap.size ≤ w.heap.size + 1) 0 (.slice none 0 0)).setCell (by omega : w.heap.size ≤ w.heap.size + 1) 1 (.slice none 0 0))
    clear hr2 hO1 hO2 hrb
    go_wp2_with fail
    refine bodyPost_ret (v := .tuple #[.agg #[(.slice none 0 0), (.slice none 0 0)], .int .i64 k]) (by simp [results, Try.results49, go_sem, e0, e1]) rfl ?_
    exact ⟨_, _, rfl, HOL.out, HXE.out⟩
set_option maxHeartbeats 4000000 in
set_option maxRecDepth 100000 in
theorem rDearer_c (iv fv : Value) (l : Lex) (n b : Int) (w : World) (h : LexR w iv fv l) : Calls Try.prog 50 #[.agg #[iv, fv], .int .i64 n, .int .i64 b] w (RLexE (dearL l n b) (dearK l n b) w) := by
  obtain ⟨wL, hwL⟩ : ∃ wL, wL = w.alloc (.cells #[iv, fv] 25) := ⟨_, rfl⟩
  have hEL : Ext w wL := by rw [hwL]; exact Ext.alloc _ _
  have hzL : wL.heap.size = w.heap.size + 1 := by rw [hwL]; simp
  obtain ⟨wA, hwA⟩ : ∃ wA, wA = wL.alloc (.cells #[.slice none 0 0, .slice none 0 0] 25) := ⟨_, rfl⟩
  have hEA : Ext wL wA := by rw [hwA]; exact Ext.alloc _ _
  have hE0 : Ext w wA := hEL.trans hEA
  have k0 : ∀ W, Ext wA W → W.cell? ⟨w.heap.size, 0, none⟩ = some iv := by rw [hwL] at hEA; exact fun W hW => kept_alloc w _ _ rfl W (hEA.trans hW)
  have k1 : ∀ W, Ext wA W → W.cell? ⟨w.heap.size, 1, none⟩ = some fv := by rw [hwL] at hEA; exact fun W hW => kept_alloc w _ _ rfl W (hEA.trans hW)
  have HB0 : Hid (Blk wA (w.heap.size + 1) 25 [.slice none 0 0, .slice none 0 0]) := Lib.hid (by rw [hwA, ← hzL]; exact Blk.alloc _ _ _)
  have H0 : Ext wA wA := Ext.refl _
  have HWW : Hid (wA = (w.alloc (.cells #[iv, fv] 25)).alloc (.cells #[.slice none 0 0, .slice none 0 0] 25)) := Lib.hid (by rw [hwA, hwL])
  have hzA : wA.heap.size = w.heap.size + 1 + 1 := by rw [hwA]; simp [hzL]
  have HR := Lib.hid (h.ext hE0)
  obtain ⟨ai, ci, rfl, hli, hmi, HI⟩ := (h.ext hE0).i.open_
  obtain ⟨af, cf, rfl, hlf, hmf, HF⟩ := Rows.open_ (h.ext hE0).f
  have HZA := Lib.hid hzA
  clear hwL hwA hzL hEA hEL wL h hzA
  have HV := Lib.hid (ritem_c _ _ l n wA HR.out)
  have HDK : Hid (dearK l n b = if itemK l n = 0 then (if inB b (-99) 99 && inB (cst l n + b) 0 99 then 0 else 1) else itemK l n) := Lib.hid rfl
  have HDL : Hid (dearL l n b = if dearK l n b = 0 then dearX l n.toNat b else ⟨[], []⟩) := Lib.hid rfl
  by_cases h0 : itemK l n = 0
  · rw [if_pos h0] at HDK
    rw [h0] at HV
    obtain ⟨hl, j, hj, hjl⟩ := item_ok h0
    have HL := Lib.hid hl
    have HNJ := Lib.hid hj
    have hcst : cst l n = (itm l.i j).c := by rw [hj]; rfl
    rw [hcst] at HDK
    have HCB := hl.co j hjl
    subst hj
    obtain ⟨bi, oi, rfl, u, hc0, hu, hc1, hc2⟩ := HI.out j hjl
    have hjI : (j : Int) < (l.i.length : Int) := by omega
    clear h0 hcst hu hc0 hc1
    obtain ⟨hc98, hc99⟩ := HCB
    have HW1 := Lib.hid (fun W => rwithin_c b (-99) 99 W)
    have HW2 := Lib.hid (fun W => rwithin_c ((itm l.i j).c + b) 0 99 W)
    have HXC : Hid ((itm l.i j).c = (itm l.i j).c) := Lib.hid rfl
    cases hb1 : inB b (-99) 99 with
    | false =>
      rw [hb1] at HW1 HDK
      have HK : Hid (dearK l (j : Int) b = 1) := Lib.hid (by rw [HDK.out]; rfl)
      have HLL : Hid (dearL l (j : Int) b = ⟨[], []⟩) := Lib.hid (by rw [HDL.out, HK.out]; rfl)
      rw [HK.out, HLL.out]
      clear hb1
      go_enter Try.func50, Try.ntmps50
      go_wp2_with fail
      rw [← HWW.out]
      refine HV.out.mono ?_; rintro e w1 ⟨rfl, hx1⟩
      go_wp2_with fail
      refine (HW1.out w1).mono ?_; rintro e w2 ⟨rfl, rfl⟩
      have hrb := HB0.out.ext (hx1)
      have hrz : w.heap.size ≤ wA.heap.size := hE0.size
      have r0 := hrb.cell (i := 0) rfl
      have r1 := hrb.cell (i := 1) rfl
      have rf0 := hrb.frozen 0
      have rf1 := hrb.frozen 1
      have hr2 : Blk ((w1.setCell ⟨w.heap.size + 1, 0, none⟩ (.slice none 0 0)).setCell ⟨w.heap.size + 1, 1, none⟩ (.slice none 0 0)) (w.heap.size + 1) 25 [(.slice none 0 0), (.slice none 0 0)] := by have := (hrb.set 0 (.slice none 0 0)).set 1 (.slice none 0 0); exact this
      have e0 := hr2.cell (i := 0) rfl
      have e1 := hr2.cell (i := 1) rfl
      have hO1 := (OLexP.nil w1 wA.heap.size).keptN (grownBy_set w1 (w.heap.size + 1) 0 (.slice none 0 0)) hrb ⟨by decide, by decide, by decide⟩
      have hO2 := hO1.keptN (grownBy_set _ (w.heap.size + 1) 1 (.slice none 0 0)) (by have := hrb.set 0 (.slice none 0 0); exact this) ⟨by decide, by decide, by decide⟩
      have HOL := Lib.hid (OLex.low ⟨_, _, hO2⟩ hrz)
      have HXE := Lib.hid (((hE0.trans (hx1)).setCell (by omega : w.heap.size ≤ w.heap.size + 1) 0 (.slice none 0 0)).setCell (by omega : w.heap.size ≤ w.heap.size + 1) 1 (.slice none 0 0))
      clear hr2 hO1 hO2 hrb
      go_wp2_with fail
      refine bodyPost_ret (v := .tuple #[.agg #[(.slice none 0 0), (.slice none 0 0)], .int .i64 1]) (by simp [results, Try.results50, go_sem, e0, e1]) rfl ?_
      exact ⟨_, _, rfl, HOL.out, HXE.out⟩
    | true =>
      rw [hb1] at HW1 HDK
      obtain ⟨hb8, hb9⟩ := inB_iff.1 hb1
      have hw : IntKind.i64.wrap ((itm l.i j).c + b) = (itm l.i j).c + b := IntWalk.i64_in _ (by omega)
      have HNT : Hid (((j : Int)).toNat = j) := Lib.hid (by omega)
      cases hb2 : inB ((itm l.i j).c + b) 0 99 with
      | false =>
        rw [hb2] at HW2 HDK
        have HK : Hid (dearK l (j : Int) b = 1) := Lib.hid (by rw [HDK.out]; rfl)
        have HLL : Hid (dearL l (j : Int) b = ⟨[], []⟩) := Lib.hid (by rw [HDL.out, HK.out]; rfl)
        rw [HK.out, HLL.out]
        clear hb1 hb2
        generalize (itm l.i j).c = xc at *
        go_enter Try.func50, Try.ntmps50
        go_wp2_with fail
        rw [← HWW.out]
        refine HV.out.mono ?_; rintro e w1 ⟨rfl, hx1⟩
        go_wp2_with fail
        have hc2k := hx1.keep hc2
        refine (HW1.out w1).mono ?_; rintro e w2 ⟨rfl, rfl⟩
        go_wp2_with fail
        refine (HW2.out w1).mono ?_; rintro e w2 ⟨rfl, rfl⟩
        have hrb := HB0.out.ext (hx1)
        have hrz : w.heap.size ≤ wA.heap.size := hE0.size
        have r0 := hrb.cell (i := 0) rfl
        have r1 := hrb.cell (i := 1) rfl
        have rf0 := hrb.frozen 0
        have rf1 := hrb.frozen 1
        have hr2 : Blk ((w1.setCell ⟨w.heap.size + 1, 0, none⟩ (.slice none 0 0)).setCell ⟨w.heap.size + 1, 1, none⟩ (.slice none 0 0)) (w.heap.size + 1) 25 [(.slice none 0 0), (.slice none 0 0)] := by have := (hrb.set 0 (.slice none 0 0)).set 1 (.slice none 0 0); exact this
        have e0 := hr2.cell (i := 0) rfl
        have e1 := hr2.cell (i := 1) rfl
        have hO1 := (OLexP.nil w1 wA.heap.size).keptN (grownBy_set w1 (w.heap.size + 1) 0 (.slice none 0 0)) hrb ⟨by decide, by decide, by decide⟩
        have hO2 := hO1.keptN (grownBy_set _ (w.heap.size + 1) 1 (.slice none 0 0)) (by have := hrb.set 0 (.slice none 0 0); exact this) ⟨by decide, by decide, by decide⟩
        have HOL := Lib.hid (OLex.low ⟨_, _, hO2⟩ hrz)
        have HXE := Lib.hid (((hE0.trans (hx1)).setCell (by omega : w.heap.size ≤ w.heap.size + 1) 0 (.slice none 0 0)).setCell (by omega : w.heap.size ≤ w.heap.size + 1) 1 (.slice none 0 0))
        clear hr2 hO1 hO2 hrb
        go_wp2_with fail
        refine bodyPost_ret (v := .tuple #[.agg #[(.slice none 0 0), (.slice none 0 0)], .int .i64 1]) (by simp [results, Try.results50, go_sem, e0, e1]) rfl ?_
        exact ⟨_, _, rfl, HOL.out, HXE.out⟩
      | true =>
        rw [hb2] at HW2 HDK
        have HK : Hid (dearK l (j : Int) b = 0) := Lib.hid (by rw [HDK.out]; rfl)
        have HLL : Hid (dearL l (j : Int) b = ⟨l.i.set j ⟨(itm l.i j).w, (itm l.i j).k, (itm l.i j).c + b⟩, l.f⟩) := Lib.hid (by rw [HDL.out, HK.out, if_pos rfl, HNT.out]; rfl)
        rw [HK.out, HLL.out]
        have HCP := Lib.hid (fun W (hW : Ext wA W) => rCopy_c _ _ l W (HR.out.ext hW) (copy_bounds HL.out))
        have hn1 : 0 < l.i.length := HL.out.n1
        have hf4 : l.f.length = 4 := HL.out.f4
        have hf0 : 0 < l.f.length := by omega
        have hr0 : 0 < (l.f[0]?.getD []).length := by rw [(HL.out.ff 0 (by omega)).1]; omega
        clear hb1 hb2 hf4
        obtain ⟨xc, hxc⟩ : ∃ xc, xc = (itm l.i j).c := ⟨_, rfl⟩
        rw [← hxc] at hc2 hw HW2 hc98 hc99
        have HXX := Lib.hid hxc; clear hxc
        go_enter Try.func50, Try.ntmps50
        go_wp2_with fail
        rw [← HWW.out]
        refine HV.out.mono ?_; rintro e w1 ⟨rfl, hx1⟩
        go_wp2_with fail
        have hc2k := hx1.keep hc2
        refine (HW1.out w1).mono ?_; rintro e w2 ⟨rfl, rfl⟩
        go_wp2_with fail
        refine (HW2.out w1).mono ?_; rintro e w2 ⟨rfl, rfl⟩
        go_wp2_with fail
        refine (HCP.out w1 hx1).mono ?_; rintro e w2 ⟨iv, fv, rfl, ho2, hx2⟩
        obtain ⟨us, vs, hF⟩ := FSt.begin hx1 hx2 ho2
        clear ho2
        obtain ⟨gi, ci2, u0, rfl, _, hmi2, hgi, _⟩ := hF.l.spotI (j := 0) hn1
        obtain ⟨gf, cf2, g0, cg0, rfl, _, hmf2, _⟩ := hF.l.spotF (a := 0) hf0 hr0
        have HG := Lib.hid hF.o.lt
        have hX3 := hF.x
        have HFS := Lib.hid hF; clear hF hx2
        have hb0 := HFS.out.o
        have p0 := hb0.cell (i := 0) rfl
        obtain ⟨u1, _, _, _, _, hq2, hfz⟩ := HFS.out.l.spotI2 (j := j) hjl
        rw [← HXX.out] at hq2
        have hfz2 := hfz (j * 3 + 2)
        have hst := HFS.out.setC hjl hgi (xc + b)
        rw [HXX.out] at hst
        have d0 := hst.o.cell (i := 0) rfl
        have d1 := hst.o.cell (i := 1) rfl
        have hX9 := hst.x
        have HO := Lib.hid hst.l
        rw [← HXX.out] at d0 d1 hX9 HO
        clear hst hfz hc2 hc2k hb0
        obtain ⟨W9, hW9⟩ : ∃ W9, W9 = (w2.alloc (.cells #[(.slice (some ⟨gi, 0, none⟩) l.i.length ci2), (.slice (some ⟨gf, 0, none⟩) l.f.length cf2)] 25)).setCell ⟨gi, j * 3 + 2, none⟩ (.int .i64 (xc + b)) := ⟨_, rfl⟩
        have HOW := HO
        have HW9 := Lib.hid hW9; clear hW9
        rw [← HW9.out] at HOW
        have hX99 := hX9
        rw [← HW9.out] at hX99
        have hrb := HB0.out.ext (hX9)
        have hrz : w.heap.size ≤ wA.heap.size := hE0.size
        have r0 := hrb.cell (i := 0) rfl
        have r1 := hrb.cell (i := 1) rfl
        have rf0 := hrb.frozen 0
        have rf1 := hrb.frozen 1
        have hr2 : Blk ((((w2.alloc (.cells #[(.slice (some ⟨gi, 0, none⟩) l.i.length ci2), (.slice (some ⟨gf, 0, none⟩) l.f.length cf2)] 25)).setCell ⟨gi, j * 3 + 2, none⟩ (.int .i64 (xc + b))).setCell ⟨w.heap.size + 1, 0, none⟩ (.slice (some ⟨gi, 0, none⟩) l.i.length ci2)).setCell ⟨w.heap.size + 1, 1, none⟩ (.slice (some ⟨gf, 0, none⟩) l.f.length cf2)) (w.heap.size + 1) 25 [(.slice (some ⟨gi, 0, none⟩) l.i.length ci2), (.slice (some ⟨gf, 0, none⟩) l.f.length cf2)] := by have := (hrb.set 0 (.slice (some ⟨gi, 0, none⟩) l.i.length ci2)).set 1 (.slice (some ⟨gf, 0, none⟩) l.f.length cf2); exact this
        have e0 := hr2.cell (i := 0) rfl
        have e1 := hr2.cell (i := 1) rfl
        have hO1 := (HO.out).keptN (grownBy_set ((w2.alloc (.cells #[(.slice (some ⟨gi, 0, none⟩) l.i.length ci2), (.slice (some ⟨gf, 0, none⟩) l.f.length cf2)] 25)).setCell ⟨gi, j * 3 + 2, none⟩ (.int .i64 (xc + b))) (w.heap.size + 1) 0 (.slice (some ⟨gi, 0, none⟩) l.i.length ci2)) hrb ⟨by decide, by decide, by decide⟩
        have hO2 := hO1.keptN (grownBy_set _ (w.heap.size + 1) 1 (.slice (some ⟨gf, 0, none⟩) l.f.length cf2)) (by have := hrb.set 0 (.slice (some ⟨gi, 0, none⟩) l.i.length ci2); exact this) ⟨by decide, by decide, by decide⟩
        have HOL := Lib.hid (OLex.low ⟨_, _, hO2⟩ hrz)
        have HXE := Lib.hid (((hE0.trans (hX9)).setCell (by omega : w.heap.size ≤ w.heap.size + 1) 0 (.slice (some ⟨gi, 0, none⟩) l.i.length ci2)).setCell (by omega : w.heap.size ≤ w.heap.size + 1) 1 (.slice (some ⟨gf, 0, none⟩) l.f.length cf2))
        clear hr2 hO1 hO2 hrb
        go_wp2_with fail
        refine bodyPost_ret (v := .tuple #[.agg #[(.slice (some ⟨gi, 0, none⟩) l.i.length ci2), (.slice (some ⟨gf, 0, none⟩) l.f.length cf2)], .int .i64 0]) (by simp [results, Try.results50, go_sem, e0, e1]) rfl ?_
        exact ⟨_, _, rfl, by rw [← HXX.out]; exact HOL.out, HXE.out⟩
  · rw [if_neg h0] at HDK
    have HLL : Hid (dearL l n b = ⟨[], []⟩) := Lib.hid (by rw [HDL.out, HDK.out, if_neg h0])
    rw [HLL.out, HDK.out]
    generalize itemK l n = k at *
    have hk : (k != 0) = true := by simpa using h0
    clear h0
    go_enter Try.func50, Try.ntmps50
    go_wp2_with fail
    rw [← HWW.out]
    refine HV.out.mono ?_; rintro e w1 ⟨rfl, hx1⟩
    have hrb := HB0.out.ext (hx1)
    have hrz : w.heap.size ≤ wA.heap.size := hE0.size
    have r0 := hrb.cell (i := 0) rfl
    have r1 := hrb.cell (i := 1) rfl
    have rf0 := hrb.frozen 0
    have rf1 := hrb.frozen 1
    have hr2 : Blk ((w1.setCell ⟨w.heap.size + 1, 0, none⟩ (.slice none 0 0)).setCell ⟨w.heap.size + 1, 1, none⟩ (.slice none 0 0)) (w.heap.size + 1) 25 [(.slice none 0 0), (.slice none 0 0)] := by have := (hrb.set 0 (.slice none 0 0)).set 1 (.slice none 0 0); exact this
    have e0 := hr2.cell (i := 0) rfl
    have e1 := hr2.cell (i := 1) rfl
    have hO1 := (OLexP.nil w1 wA.heap.size).keptN (grownBy_set w1 (w.heap.size + 1) 0 (.slice none 0 0)) hrb ⟨by decide, by decide, by decide⟩
    have hO2 := hO1.keptN (grownBy_set _ (w.heap.size + 1) 1 (.slice none 0 0)) (by have := hrb.set 0 (.slice none 0 0); exact this) ⟨by decide, by decide, by decide⟩
    have HOL := Lib.hid (OLex.low ⟨_, _, hO2⟩ hrz)
    have HXE := Lib.hid (((hE0.trans (hx1)).setCell (by omega : w.heap.size ≤ w.heap.size + 1) 0 (.slice none 0 0)).setCell (by omega : w.heap.size ≤ w.heap.size + 1) 1 (.slice none 0 0))
    clear hr2 hO1 hO2 hrb
    go_wp2_with fail
    refine bodyPost_ret (v := .tuple #[.agg #[(.slice none 0 0), (.slice none 0 0)], .int .i64 k]) (by simp [results, Try.results50, go_sem, e0, e1]) rfl ?_
    exact ⟨_, _, rfl, HOL.out, HXE.out⟩
end Go.Proofs.Ytgpggmcjggpmpaa
