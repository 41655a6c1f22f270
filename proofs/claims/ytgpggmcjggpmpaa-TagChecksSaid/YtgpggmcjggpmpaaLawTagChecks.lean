/- TagChecks: for every input the call returns true. No condition. -/
import Derived.Test.YtgpggmcjggpmpaaTagY
import Derived.Test.YtgpggmcjggpmpaaTagNc
namespace Go.Proofs.Ytgpggmcjggpmpaa
open Go.RowKit Go.Shelf
set_option linter.unusedVariables false

set_option maxHeartbeats 4000000 in
set_option maxRecDepth 100000 in
theorem tagChecks_c (iv fv : Value) (l : Lex) (textv : Value) (text : List Int) (pv : Value) (p : List (List Int)) (w : World) (h : LexR w iv fv l) (htext : Ints w textv text) (hp : Rows w pv p) :
    Calls Try.prog 15 #[.agg #[iv, fv], textv, pv] w (RV (.bool true) w) := by
  obtain ⟨wA, hwA⟩ : ∃ wA, wA = w.alloc (.cells #[iv, fv] 25) := ⟨_, rfl⟩
  have hE0 : Ext w wA := by rw [hwA]; exact Ext.alloc _ _
  have k0 : ∀ W, Ext wA W → W.cell? ⟨w.heap.size, 0, none⟩ = some iv := by rw [hwA]; exact kept_alloc w _ _ rfl
  have k1 : ∀ W, Ext wA W → W.cell? ⟨w.heap.size, 1, none⟩ = some fv := by rw [hwA]; exact kept_alloc w _ _ rfl
  have H0 : Ext wA wA := Ext.refl _
  have HR := Lib.hid (h.ext hE0)
  obtain ⟨ai, ci, rfl, hli, hmi, HI⟩ := (h.ext hE0).i.open_
  obtain ⟨af, cf, rfl, hlf, hmf, HF⟩ := Rows.open_ (h.ext hE0).f
  have HI_text := Lib.hid (htext.ext hE0)
  obtain ⟨a_text, c_text, rfl, hl_text, hm_text, HU_text⟩ := (htext.ext hE0).open_
  have hxL := Ext.alloc wA (.cells #[.slice a_text text.length c_text] 26)
  have HLG := Lib.hid (by have := Long_c _ _ _ l [text] _ (HR.out.ext hxL) (rows_new wA [.slice a_text text.length c_text] [text] (AllInts.cons HI_text.out (AllInts.nil _)) (by simp)); rw [show wA.heap.size = w.heap.size + 1 by rw [hwA]; simp] at this; exact this)
  have HPR := Lib.hid (hp.ext hE0)
  obtain ⟨ap, cp, rfl, hlp, hmp, HP⟩ := Rows.open_ (hp.ext hE0)
  clear hp
  have HW := Lib.hid hwA; clear hwA h htext
  have HLB := Lib.hid (longX_lists (l := l) (ls := [text]))
  have HLF := Lib.hid (longX_fol (l := l) (ls := [text]))
  generalize longX l [text] = b1 at *
  cases b1
  · have HLB2 := HLB.out rfl
    have HLF2 := Lib.hid (HLF.out rfl)
    clear HLB HLF
    have hl3_text : text.length ≤ 300 := HLB2 text (by simp)
    clear HLB2
    go_enter Try.func15, Try.ntmps15
    go_wp2_with fail
    rw [← HW.out]
    refine HLG.out.mono ?_; rintro e w2 ⟨rfl, hx2⟩
    have hX := hxL.trans hx2
    clear hx2 hxL
    clear HLG
    by_cases hp50 : 50 < p.length
    · have hd : decide ((50 : Int) < (p.length : Int)) = true := by simp; omega
      have hdn : decide (50 < p.length) = true := decide_eq_true hp50
      go_wp2_with fail
      refine (sane_c _).mono ?_; rintro e wK ⟨rfl, hxK⟩
      go_wp2_with fail
      go_ret
      exact RV.bool rfl (hE0.trans (hX.trans hxK))
    · have hd : decide ((50 : Int) < (p.length : Int)) = false := by simp; omega
      have hdn : decide (50 < p.length) = false := decide_eq_false hp50
      go_wp2_with fail
      go_loopg [7] p.length (fun z kk wr => ∃ k : Nat, k ≤ p.length ∧ p.length ≤ k + z ∧ kk = .int .i64 k ∧ Ext wA wr)
      case atStart => exact ⟨0, by omega, by omega, rfl, hX⟩
      case round =>
        clear hX hd hdn
        obtain ⟨k, hk, hkz, rfl, hX⟩ := hrel
        by_cases hlt : k < p.length
        · obtain ⟨bp, op, rfl, ur, hcr, hur⟩ := HP.out k hlt
          obtain ⟨ar, cr, rfl, _⟩ := hur.open_
          clear hur
          replace hcr := hX.keep hcr
          generalize (p[k]?.getD []).length = L at *
          by_cases h50 : 50 < L
          · have hd : decide ((50 : Int) < (L : Int)) = true := by simp; omega
            have hdn : decide (50 < L) = true := decide_eq_true h50
            go_wp2_with fail
            refine (sane_c _).mono ?_; rintro e wK ⟨rfl, hxK⟩
            go_wp2_with fail
            go_ret
            exact RV.bool rfl (hE0.trans (hX.trans hxK))
          · have hd : decide ((50 : Int) < (L : Int)) = false := by simp; omega
            have hdn : decide (50 < L) = false := decide_eq_false h50
            go_wp2_with fail
            go_roundg (gk-1)
            case measure => omega
            case rel => exact ⟨k+1, by omega, by omega, by go_num, hX⟩
        · have HC1 := Lib.hid (fun W (hW : Ext wA W) => CheckProof_c _ _ _ _ l text p W (HR.out.ext hW) (HI_text.out.ext hW) (HPR.out.ext hW))
          have HC2 := Lib.hid (fun W (hW : Ext wA W) => rCheckProof_c _ _ _ _ l text p W (HR.out.ext hW) (HI_text.out.ext hW) (HPR.out.ext hW))
          have HLS := Lib.hid (fun W (hW : Ext wA W) => Least_c _ _ _ l text W (HR.out.ext hW) (HI_text.out.ext hW))
          have HPW := Lib.hid (proof_worth (l := l) (t := text) (p := p))
          generalize (proofW l text p).1 = a at *
          generalize (proofW l text p).2 = b at *
          generalize proofK l text p = q at *
          generalize (leastO l text).1 = n at *
          generalize (leastO l text).2 = s at *
          generalize textK l text = tk at *
          have h1 : (a != a) = false := by simp
          have h2 : (b != b) = false := by simp
          have h3 : (q != q) = false := by simp
          clear hp50
          go_wp2_with fail
          refine (HC1.out wr hX).mono ?_; rintro e w3 ⟨rfl, hx3⟩
          have hX3 := hX.trans hx3
          go_wp2_with fail
          refine (HC2.out w3 hX3).mono ?_; rintro e w4 ⟨rfl, hx4⟩
          have hX4 := hX3.trans hx4
          go_wp2_with fail
          refine (HLS.out w4 hX4).mono ?_; rintro e w5 ⟨rfl, hx5⟩
          have hX5 := hX4.trans hx5
          cases b with
          | false =>
            go_wp2_with fail
            refine (sane_c _).mono ?_; rintro e wK ⟨rfl, hxK⟩
            go_wp2_with fail
            go_ret
            exact RV.bool rfl (hE0.trans (hX5.trans hxK))
          | true =>
            obtain ⟨e1, e2⟩ := HPW.out rfl
            have hd4 : (tk == 0) = true := by simp [e1]
            clear e1
            cases s with
            | false =>
              go_wp2_with fail
              refine (sane_c _).mono ?_; rintro e wK ⟨rfl, hxK⟩
              go_wp2_with fail
              go_ret
              exact RV.bool rfl (hE0.trans (hX5.trans hxK))
            | true =>
              have hd5 : decide (a ≤ n) = true := decide_eq_true (e2 rfl)
              clear e2
              go_wp2_with fail
              refine (sane_c _).mono ?_; rintro e wK ⟨rfl, hxK⟩
              go_wp2_with fail
              go_ret
              exact RV.bool rfl (hE0.trans (hX5.trans hxK))
  · go_enter Try.func15, Try.ntmps15
    go_wp2_with fail
    rw [← HW.out]
    refine HLG.out.mono ?_; rintro e w2 ⟨rfl, hx2⟩
    have hX := hxL.trans hx2
    clear hx2 hxL
    go_wp2_with fail
    refine (sane_c _).mono ?_; rintro e wK ⟨rfl, hxK⟩
    go_wp2_with fail
    go_ret
    exact RV.bool rfl (hE0.trans (hX.trans hxK))
end Go.Proofs.Ytgpggmcjggpmpaa
