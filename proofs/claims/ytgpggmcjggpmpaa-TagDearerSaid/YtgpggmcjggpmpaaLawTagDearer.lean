/- TagDearer: for every input the call returns true. No condition. -/
import Derived.Test.YtgpggmcjggpmpaaTagY
import Derived.Test.YtgpggmcjggpmpaaTagDe
import Derived.Test.YtgpggmcjggpmpaaTagSe
import Derived.Test.YtgpggmcjggpmpaaTagI
namespace Go.Proofs.Ytgpggmcjggpmpaa
open Go.RowKit Go.Shelf
set_option linter.unusedVariables false
theorem dear_law {l : Lex} {n b : Int} {t : List Int} (h1 : dearK l n b = 0) (h2 : 0 ≤ b) : textK l t = textK (dearL l n b) t ∧ (leastO l t).2 = (leastO (dearL l n b) t).2 ∧ (leastO l t).1 ≤ (leastO (dearL l n b) t).1 := by
  have e : dearL l n b = dearX l n.toNat b := by unfold dearL; rw [if_pos h1]
  have hi : itemK l n = 0 := by
    by_cases hi : itemK l n = 0
    · exact hi
    · unfold dearK at h1; rw [if_neg hi] at h1; exact absurd h1 hi
  obtain ⟨hl, j, hj, hjl⟩ := item_ok hi
  unfold dearK at h1
  rw [if_pos hi] at h1
  have hin : inB b (-99) 99 = true ∧ inB (cst l n + b) 0 99 = true := by
    by_cases hc : (inB b (-99) 99 && inB (cst l n + b) 0 99) = true
    · rwa [Bool.and_eq_true] at hc
    · rw [if_neg hc] at h1; cases h1
  obtain ⟨h3, h4⟩ := inB_iff.1 hin.2
  have hnj : n.toNat = j := by omega
  rw [e, hnj]
  rw [hj] at h3 h4
  have hok := dear_ok hl hjl (by_ := b) ⟨h3, h4⟩
  have ht : textK (dearX l j b) t = textK l t := by
    rw [textK_valid (ok_validL hok), textK_valid (ok_validL hl)]
  refine ⟨ht.symm, ?_⟩
  by_cases h0 : textK l t = 0
  · have := dear_least hl hjl h2 h4 h0 (by rw [ht]; exact h0)
    exact ⟨this.1.symm, this.2⟩
  · have e1 : leastO l t = (0, false) := by unfold leastO; rw [if_neg h0]
    have e2 : leastO (dearX l j b) t = (0, false) := by unfold leastO; rw [if_neg (by rw [ht]; exact h0)]
    rw [e1, e2]; exact ⟨rfl, Int.le_refl _⟩

set_option maxHeartbeats 4000000 in
set_option maxRecDepth 100000 in
theorem tagDearer_c (iv fv : Value) (l : Lex) (textv : Value) (text : List Int) (n b : Int) (w : World) (h : LexR w iv fv l) (htext : Ints w textv text) (_ : (Lit.int .i64 n).wf = true) (_ : (Lit.int .i64 b).wf = true) :
    Calls Try.prog 12 #[.agg #[iv, fv], textv, .agg #[.int .i64 n, .int .i64 b]] w (RV (.bool true) w) := by
  obtain ⟨wA, hwA⟩ : ∃ wA, wA = (w.alloc (.cells #[iv, fv] 25)).alloc (.cells #[.int .i64 n, .int .i64 b] 63) := ⟨_, rfl⟩
  have hE0 : Ext w wA := by rw [hwA]; exact (Ext.alloc _ _).trans (Ext.alloc _ _)
  have k0 : ∀ W, Ext wA W → W.cell? ⟨w.heap.size, 0, none⟩ = some iv := by rw [hwA]; exact fun W hW => kept_alloc w _ _ rfl W ((Ext.alloc _ _).trans hW)
  have k1 : ∀ W, Ext wA W → W.cell? ⟨w.heap.size, 1, none⟩ = some fv := by rw [hwA]; exact fun W hW => kept_alloc w _ _ rfl W ((Ext.alloc _ _).trans hW)
  have H0 : Ext wA wA := Ext.refl _
  have m0 : ∀ W, Ext wA W → W.cell? ⟨w.heap.size + 1, 0, none⟩ = some (.int .i64 n) := by
    have := kept_alloc (w.alloc (.cells #[iv, fv] 25)) #[.int .i64 n, .int .i64 b] 63 (i := 0) (v := .int .i64 n) rfl
    rw [show (w.alloc (.cells #[iv, fv] 25)).heap.size = w.heap.size + 1 by simp, ← hwA] at this; exact this
  have m1 : ∀ W, Ext wA W → W.cell? ⟨w.heap.size + 1, 1, none⟩ = some (.int .i64 b) := by
    have := kept_alloc (w.alloc (.cells #[iv, fv] 25)) #[.int .i64 n, .int .i64 b] 63 (i := 1) (v := .int .i64 b) rfl
    rw [show (w.alloc (.cells #[iv, fv] 25)).heap.size = w.heap.size + 1 by simp, ← hwA] at this; exact this
  have HR := Lib.hid (h.ext hE0)
  obtain ⟨ai, ci, rfl, hli, hmi, HI⟩ := (h.ext hE0).i.open_
  obtain ⟨af, cf, rfl, hlf, hmf, HF⟩ := Rows.open_ (h.ext hE0).f
  have HI_text := Lib.hid (htext.ext hE0)
  obtain ⟨a_text, c_text, rfl, hl_text, hm_text, HU_text⟩ := (htext.ext hE0).open_
  have hxL := Ext.alloc wA (.cells #[.slice a_text text.length c_text] 26)
  have HLG := Lib.hid (by have := Long_c _ _ _ l [text] _ (HR.out.ext hxL) (rows_new wA [.slice a_text text.length c_text] [text] (AllInts.cons HI_text.out (AllInts.nil _)) (by simp)); rw [show wA.heap.size = w.heap.size + 1 + 1 by rw [hwA]; simp] at this; exact this)
  have HW := Lib.hid hwA; clear hwA h htext
  have HLB := Lib.hid (longX_lists (l := l) (ls := [text]))
  have HLF := Lib.hid (longX_fol (l := l) (ls := [text]))
  generalize longX l [text] = b1 at *
  cases b1
  · have HLB2 := HLB.out rfl
    have HLF2 := Lib.hid (HLF.out rfl)
    clear HLB HLF
    have hl3_text : text.length ≤ 300 := HLB2 text (by simp)
    clear HLB2
    go_enter Try.func12, Try.ntmps12
    go_wp2_with fail
    rw [← HW.out]
    refine HLG.out.mono ?_; rintro e w2 ⟨rfl, hx2⟩
    have hX := hxL.trans hx2
    clear hx2 hxL
    clear HLG
    go_wp2_with fail
    have HFA := Lib.hid (fun W (hW : Ext wA W) => (Dearer_c _ _ l n b W (HR.out.ext hW)).mono fun _ _ h => h.q)
    have HFB := Lib.hid (fun W (hW : Ext wA W) => (rDearer_c _ _ l n b W (HR.out.ext hW)).mono fun _ _ h => h.q)
    have HPL := Lib.hid (fun h1 h2 => dear_law (l := l) (n := n) (b := b) (t := text) h1 h2)
    have HLA := Lib.hid (fun W (hW : Ext wA W) => Least_c _ _ _ l text W (HR.out.ext hW) (HI_text.out.ext hW))
    refine (HFA.out w2 hX).mono ?_; rintro e w3 ⟨iv3, fv3, rfl, ho3, hx3⟩
    have hX3 := hX.trans hx3
    have HL3 := Lib.hid ho3
    obtain ⟨a3, c3, rfl, _, _, _⟩ := ho3.i.open_
    obtain ⟨b3, d3, rfl, _, _, _⟩ := Rows.open_ ho3.f
    have hA3 := Ext.alloc w3 (.cells #[.slice a3 (dearL l n b).i.length c3, .slice b3 (dearL l n b).f.length d3] 25)
    have f0 : ∀ W, Ext (w3.alloc (.cells #[.slice a3 (dearL l n b).i.length c3, .slice b3 (dearL l n b).f.length d3] 25)) W → W.cell? ⟨w3.heap.size, 0, none⟩ = some (.slice a3 (dearL l n b).i.length c3) := kept_alloc w3 _ _ rfl
    have f1 : ∀ W, Ext (w3.alloc (.cells #[.slice a3 (dearL l n b).i.length c3, .slice b3 (dearL l n b).f.length d3] 25)) W → W.cell? ⟨w3.heap.size, 1, none⟩ = some (.slice b3 (dearL l n b).f.length d3) := kept_alloc w3 _ _ rfl
    have HL4 := Lib.hid (HL3.out.ext hA3)
    have hX4 := hX3.trans hA3
    have hX4r := hX3.trans hA3
    have hA3r := hA3
    obtain ⟨W4, hW4⟩ : ∃ W4, W4 = w3.alloc (.cells #[.slice a3 (dearL l n b).i.length c3, .slice b3 (dearL l n b).f.length d3] 25) := ⟨_, rfl⟩
    rw [← hW4] at f0 f1 HL4 hX4 hA3
    have HW4 := Lib.hid hW4; clear hW4 ho3
    have HLB := Lib.hid (fun W (hW : Ext W4 W) => Least_c _ _ _ (dearL l n b) text W (HL4.out.ext hW) (HI_text.out.ext (hX4.trans hW)))
    go_wp2_with fail
    rw [← HW4.out]
    clear hX4r hA3r
    refine (HFB.out W4 hX4).mono ?_; rintro e w5 ⟨iv5, fv5, rfl, ho5, hx5⟩
    have HL5 := Lib.hid ho5
    obtain ⟨a5, c5, rfl, _, _, _⟩ := ho5.i.open_
    obtain ⟨b5, d5, rfl, _, _, _⟩ := Rows.open_ ho5.f
    clear ho5
    have hA5 := Ext.alloc w5 (.cells #[.slice a5 (dearL l n b).i.length c5, .slice b5 (dearL l n b).f.length d5] 25)
    have g0 : ∀ W, Ext (w5.alloc (.cells #[.slice a5 (dearL l n b).i.length c5, .slice b5 (dearL l n b).f.length d5] 25)) W → W.cell? ⟨w5.heap.size, 0, none⟩ = some (.slice a5 (dearL l n b).i.length c5) := kept_alloc w5 _ _ rfl
    have g1 : ∀ W, Ext (w5.alloc (.cells #[.slice a5 (dearL l n b).i.length c5, .slice b5 (dearL l n b).f.length d5] 25)) W → W.cell? ⟨w5.heap.size, 1, none⟩ = some (.slice b5 (dearL l n b).f.length d5) := kept_alloc w5 _ _ rfl
    have HL6 := Lib.hid (HL5.out.ext hA5)
    have hX46 := hx5.trans hA5
    have hX6 := hX4.trans hX46
    have hX46r := hX46
    have hX6r := hX6
    have H66r := Ext.refl (w5.alloc (.cells #[.slice a5 (dearL l n b).i.length c5, .slice b5 (dearL l n b).f.length d5] 25))
    obtain ⟨W6, hW6⟩ : ∃ W6, W6 = w5.alloc (.cells #[.slice a5 (dearL l n b).i.length c5, .slice b5 (dearL l n b).f.length d5] 25) := ⟨_, rfl⟩
    rw [← hW6] at g0 g1 HL6 hX6 hX46
    have HW6 := Lib.hid hW6; clear hW6 hA5
    have HSM := Lib.hid (same_c _ _ _ _ (dearL l n b) W6 (HL4.out.ext hX46) HL6.out)
    have H66 := Ext.refl W6
    generalize dearK l n b = k at *
    have hkk : (k != k) = false := by simp
    generalize leastO (dearL l n b) text = o2 at *
    generalize leastO l text = o1 at *
    generalize textK (dearL l n b) text = t2 at *
    generalize textK l text = t1 at *
    generalize hnL : (dearL l n b).i.length = nL at *
    generalize hnF : (dearL l n b).f.length = nF at *
    have HnL := Lib.hid hnL; have HnF := Lib.hid hnF
    clear hnL hnF
    by_cases hk : k = 0
    · have hd : (k != 0) = false := by simp [hk]
      by_cases hb : b < 0
      · have hdb : decide (b < 0) = true := decide_eq_true hb
        clear hk hb
        go_wp2_with fail
        rw [← HW6.out]
        clear hX46r H66r hX6r
        refine HSM.out.mono ?_; rintro e w7 ⟨rfl, hx7⟩
        have hX47 := hX46.trans hx7
        have hX7 := hX4.trans hX47
        go_wp2_with fail
        refine (sane_c _).mono ?_; rintro e wK ⟨rfl, hxK⟩
        go_wp2_with fail
        go_ret
        exact RV.bool rfl (hE0.trans (hX7.trans hxK))
      · have hdb : decide (b < 0) = false := decide_eq_false hb
        obtain ⟨e1, e2, e3⟩ := HPL.out hk (by omega)
        have hd1 : (t1 == t2) = true := by simp [e1]
        have hd2 : (o1.2 == o2.2) = true := by simp [e2]
        have hd3 : decide (o1.1 ≤ o2.1) = true := decide_eq_true e3
        clear hk hb e1 e2 e3 HPL
        generalize o1.1 = p1 at *
        generalize o1.2 = q1 at *
        generalize o2.1 = p2 at *
        generalize o2.2 = q2 at *
        go_wp2_with fail
        rw [← HW6.out]
        clear hX46r H66r hX6r
        refine HSM.out.mono ?_; rintro e w7 ⟨rfl, hx7⟩
        have hX47 := hX46.trans hx7
        have hX7 := hX4.trans hX47
        go_wp2_with fail
        refine (HLA.out w7 hX7).mono ?_; rintro e w8 ⟨rfl, hx8⟩
        have hX48 := hX47.trans hx8
        have hX8 := hX4.trans hX48
        go_wp2_with fail
        refine (HLB.out w8 hX48).mono ?_; rintro e w9 ⟨rfl, hx9⟩
        have hX9 := hX8.trans hx9
        go_wp2_with fail
        refine (sane_c _).mono ?_; rintro e wK ⟨rfl, hxK⟩
        go_wp2_with fail
        go_ret
        exact RV.bool rfl (hE0.trans (hX9.trans hxK))
    · have hd : (k != 0) = true := by simpa using hk
      clear hk
      go_wp2_with fail
      rw [← HW6.out]
      clear hX46r H66r hX6r
      refine HSM.out.mono ?_; rintro e w7 ⟨rfl, hx7⟩
      have hX47 := hX46.trans hx7
      have hX7 := hX4.trans hX47
      go_wp2_with fail
      refine (sane_c _).mono ?_; rintro e wK ⟨rfl, hxK⟩
      go_wp2_with fail
      go_ret
      exact RV.bool rfl (hE0.trans (hX7.trans hxK))
  · go_enter Try.func12, Try.ntmps12
    go_wp2_with fail
    rw [← HW.out]
    refine HLG.out.mono ?_; rintro e w2 ⟨rfl, hx2⟩
    have hX := hxL.trans hx2
    clear hx2 hxL
    go_wp2_with fail
    refine (sane_c _).mono ?_; rintro e wK ⟨rfl, hxK⟩
    go_wp2_with fail
    go_ret
    exact RV.bool rfl (hE0.trans (hX.trans hxK))
end Go.Proofs.Ytgpggmcjggpmpaa
