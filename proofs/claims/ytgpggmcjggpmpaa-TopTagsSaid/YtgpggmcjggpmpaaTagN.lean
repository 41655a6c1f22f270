/- Proofs that nothing is cheaper: CheckProof, both packages. -/
import Derived.Test.YtgpggmcjggpmpaaTagR
import Derived.Test.YtgpggmcjggpmpaaTagI
namespace Go.Proofs.Ytgpggmcjggpmpaa
open Go.RowKit Go.Shelf
set_option linter.unusedVariables false

def lowN (l : Lex) (p : List (List Int)) (n : Int) (j b : Nat) : Bool := if b = 0 then decide (n ≤ cst l j) else allB l.n fun k => decide (fol l k j < 0) || decide (n ≤ prfAt p b k + fol l k j + cst l j)
theorem lowN_eq (l : Lex) (p : List (List Int)) (i j b : Nat) : lowB l p i j b = lowN l p (prfAt p i j) j b := rfl
/-- the shape in numbers -/
theorem shapeB_iff {l : Lex} {t : List Int} {p : List (List Int)} (h : shapeB l t p = true) : p.length = t.length + 1 ∧ ∀ i, i < p.length → (p[i]?.getD []).length = l.i.length ∧ ∀ k, k < l.i.length → -100000 ≤ prfAt p i k ∧ prfAt p i k ≤ 100000 := by
  unfold shapeB at h
  rw [Bool.and_eq_true, decide_eq_true_eq, allB_iff] at h
  refine ⟨h.1, fun i hi => ?_⟩
  have h2 := h.2 i hi
  unfold rowIn at h2
  rw [Bool.and_eq_true, decide_eq_true_eq, allB_iff] at h2
  exact ⟨h2.1, fun k hk => inB_iff.1 (h2.2 k (by rw [h2.1]; exact hk))⟩
set_option maxHeartbeats 2000000 in
theorem isBound_c (iv fv pv : Value) (l : Lex) (p : List (List Int)) (b j : Nat) (n : Int) (w : World) (h : LexR w iv fv l) (hl : LexOk l) (hp : Rows w pv p) (hj : j < l.i.length) (hb : b < p.length) (hpl : ∀ i, i < p.length → (p[i]?.getD []).length = l.i.length ∧ ∀ k, k < l.i.length → -100000 ≤ prfAt p i k ∧ prfAt p i k ≤ 100000) :
    Calls Try.prog 72 #[.agg #[iv, fv], pv, .int .i64 (b : Int), .int .i64 (j : Int), .int .i64 n] w (RV (.bool (lowN l p n j b)) w) := by
  obtain ⟨wA, hwA⟩ : ∃ wA, wA = w.alloc (.cells #[iv, fv] 25) := ⟨_, rfl⟩
  have hE0 : Ext w wA := by rw [hwA]; exact Ext.alloc _ _
  have k0 : ∀ W, Ext wA W → W.cell? ⟨w.heap.size, 0, none⟩ = some iv := by rw [hwA]; exact kept_alloc w _ _ rfl
  have k1 : ∀ W, Ext wA W → W.cell? ⟨w.heap.size, 1, none⟩ = some fv := by rw [hwA]; exact kept_alloc w _ _ rfl
  have H0 : Ext wA wA := Ext.refl _
  have HR := Lib.hid (h.ext hE0)
  obtain ⟨ai, ci, rfl, hli, hmi, HI⟩ := (h.ext hE0).i.open_
  obtain ⟨af, cf, rfl, hlf, hmf, HF⟩ := Rows.open_ (h.ext hE0).f
  obtain ⟨ap, cp, rfl, hlp, hmp, HP⟩ := Rows.open_ (hp.ext hE0)
  have HW := Lib.hid hwA; clear hwA h hp
  have HL := Lib.hid hl; clear hl
  have HPL := Lib.hid hpl; clear hpl
  obtain ⟨bi, oi, rfl, u, hc0, hu, hc1, hc2⟩ := HI.out j hj
  clear hu hc0 hc1
  have HC2 := Lib.hid hc2
  have hjI : (j : Int) < (l.i.length : Int) := by omega
  have hbI : (b : Int) < (p.length : Int) := by omega
  have HCX : Hid (cst l (j : Int) = (itm l.i j).c) := Lib.hid rfl
  have hxc := HL.out.cst (a := j) hj
  have HLN : Hid (lowN l p n j b = if b = 0 then decide (n ≤ cst l j) else allB l.n fun k => decide (fol l k j < 0) || decide (n ≤ prfAt p b k + fol l k j + cst l j)) := Lib.hid rfl
  rw [HCX.out] at hxc HLN
  generalize (itm l.i j).c = xc at *
  have hc2' : (w.alloc (.cells #[.slice (some ⟨bi, oi, none⟩) l.i.length ci, .slice af l.f.length cf] 25)).cell? ⟨bi, oi + j * 3 + 2, none⟩ = some (.int .i64 xc) := by rw [← HW.out]; exact hc2
  clear hc2
  by_cases h0 : b = 0
  · have hd : ((b : Int) == 0) = true := by simp [h0]
    rw [HLN.out, if_pos h0]
    clear h0
    go_enter Try.func72, Try.ntmps72
    go_wp2_with fail
    rw [← HW.out]
    go_ret
    exact RV.bool rfl hE0
  · have hd : ((b : Int) == 0) = false := by simp; omega
    rw [if_neg h0] at HLN
    obtain ⟨hbl, hbv⟩ := HPL.out b hb
    obtain ⟨bp, op, rfl, ur, hcr, hur⟩ := HP.out b hb
    have HBV := Lib.hid hbv; clear hbv
    obtain ⟨ar, cr, rfl, _, _, HUR⟩ := hur.open_
    clear hur
    rw [hbl] at hcr HUR
    have hcr' : (w.alloc (.cells #[.slice (some ⟨bi, oi, none⟩) l.i.length ci, .slice af l.f.length cf] 25)).cell? ⟨bp, op + b, none⟩ = some (.slice ar l.i.length cr) := by rw [← HW.out]; exact hcr
    clear h0 hcr hbl
    go_enter Try.func72, Try.ntmps72
    go_wp2_with fail
    rw [← HW.out]
    clear hcr' hc2'
    go_loopg [31] l.i.length (fun z kk wr => ∃ k : Nat, k ≤ l.i.length ∧ l.i.length ≤ k + z ∧ kk = .int .i64 k ∧ Ext wA wr ∧ Hid (∀ x, x < k → (decide (fol l x j < 0) || decide (n ≤ prfAt p b x + fol l x j + xc)) = true))
    case atStart => exact ⟨0, by omega, by omega, rfl, Ext.refl _, Lib.hid (fun x hx => by omega)⟩
    case round =>
      obtain ⟨k, hk, hkz, rfl, hX, hE⟩ := hrel
      by_cases hlt : k < l.i.length
      · obtain ⟨br, or_, rfl, hck⟩ := HUR.out k hlt
        replace hck := hX.keep hck
        have hpv : ((p[b]?.getD [])[k]?.getD 0) = prfAt p b k := rfl
        rw [hpv] at hck
        have hvb := HBV.out k hlt
        have HFC := Lib.hid (follows_c _ _ l k j wr (HR.out.ext hX) HL.out hlt hj)
        have hfb := HL.out.fol (a := k) (b := j) hlt hj
        have HQ : Hid ((decide (fol l k j < 0) || decide (n ≤ prfAt p b k + fol l k j + xc)) = (decide (fol l k j < 0) || decide (n ≤ prfAt p b k + fol l k j + xc))) := Lib.hid rfl
        have HNX := Lib.hid (fun h => range_step (f := fun x => decide (fol l x j < 0) || decide (n ≤ prfAt p b x + fol l x j + xc)) (b := true) (k := k) hE.out h)
        have HNO := Lib.hid (fun h => allB_false (n := l.n) (f := fun x => decide (fol l x j < 0) || decide (n ≤ prfAt p b x + fol l x j + xc)) (j := k) hlt h)
        clear hpv HQ
        generalize prfAt p b k = m at *
        generalize fol l (k : Int) (j : Int) = f at *
        obtain ⟨hf0, hf1⟩ := hfb
        obtain ⟨hv0, hv1⟩ := hvb
        obtain ⟨hx0, hx1⟩ := hxc
        have hw1 : IntKind.i64.wrap (m + f) = m + f := IntWalk.i64_in _ (by omega)
        have hw2 : IntKind.i64.wrap (m + f + xc) = m + f + xc := IntWalk.i64_in _ (by omega)
        by_cases hff : f < 0
        · have HN := Lib.hid (HNX.out (by rw [decide_eq_true hff]; rfl))
          have hd1 : decide (0 ≤ f) = false := by simp; omega
          go_wp2_with fail
          refine HFC.out.mono ?_; rintro e w7 ⟨rfl, hx7⟩
          go_wp2_with fail
          go_roundg (gk-1)
          case measure => omega
          case rel => exact ⟨k+1, by omega, by omega, by go_num, hX.trans hx7, HN⟩
        · have hd1 : decide (0 ≤ f) = true := by simp; omega
          by_cases hn : n ≤ m + f + xc
          · have HN := Lib.hid (HNX.out (by rw [decide_eq_true hn, Bool.or_true]))
            have hd2 : decide (m + f + xc < n) = false := by simp; omega
            clear hff
            go_wp2_with fail
            refine HFC.out.mono ?_; rintro e w7 ⟨rfl, hx7⟩
            go_wp2_with fail
            go_roundg (gk-1)
            case measure => omega
            case rel => exact ⟨k+1, by omega, by omega, by go_num, hX.trans hx7, HN⟩
          · have HN := Lib.hid (HNO.out (by rw [decide_eq_false hff, decide_eq_false hn]; rfl))
            have hd2 : decide (m + f + xc < n) = true := by simp; omega
            clear hff hn
            go_wp2_with fail
            refine HFC.out.mono ?_; rintro e w7 ⟨rfl, hx7⟩
            go_wp2_with fail
            go_ret
            exact RV.bool (by rw [HLN.out, HN.out]) (hE0.trans (hX.trans hx7))
      · go_wp2_with fail
        go_ret
        exact RV.bool (by rw [HLN.out, allB_true (fun x hx => hE.out x (by have : x < l.i.length := hx; omega))]) (hE0.trans hX)
theorem prf1_c (n : Int) (w : World) : Calls Try.prog 69 #[.int .i64 n] w (RP (.bool (!inB n (-100000) 100000)) w) := by
  have HC := Lib.hid (within_c n (-100000) 100000 w)
  generalize inB n (-100000) 100000 = b at *
  go_enter Try.func69, Try.ntmps69
  go_wp2_with fail
  refine HC.out.mono ?_; rintro e w1 ⟨rfl, rfl⟩
  go_wp2_with fail
  go_ret
  exact RP.bool rfl
theorem notPrf_c (v : Value) (l : List Int) (w : World) (h : Ints w v l) : Calls Try.prog 68 #[v, .func (.func 69) #[] #[]] w (RV (.bool (!allB l.length fun i => inB (l[i]?.getD 0) (-100000) 100000)) w) := by
  have HC := containsFunc_c v l 69 #[] (fun n => !inB n (-100000) 100000) w (enters_of Try.func69 (by kernel_rfl) rfl) (fun W i _ _ => (prf1_c _ W).mono fun _ _ h => h.rv) h
  rw [any_not l (fun x => inB x (-100000) 100000)] at HC; exact HC
end Go.Proofs.Ytgpggmcjggpmpaa
