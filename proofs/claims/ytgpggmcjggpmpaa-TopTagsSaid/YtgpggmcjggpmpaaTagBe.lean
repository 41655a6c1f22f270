/- A split with the smallest cost: Best of the program. -/
import Derived.Test.YtgpggmcjggpmpaaTagI
import Derived.Test.YtgpggmcjggpmpaaTagL
import Derived.Test.YtgpggmcjggpmpaaRev
namespace Go.Proofs.Ytgpggmcjggpmpaa
open Go.RowKit Go.Shelf
set_option linter.unusedVariables false

/-- may item j stand before the rest -/
def standB (l : Lex) (sfx : List Int) (j : Nat) : Bool := decide (sfx = []) || decide (0 ≤ fol l j (sfx[0]?.getD 0))
theorem standB_iff {l : Lex} {sfx : List Int} {j : Nat} : standB l sfx j = true ↔ mayStand l sfx j := by simp [standB, mayStand]
/-- the first cheapest one of the first n items that may stand there, and what it costs -/
def pickTo (l : Lex) (t : List Int) (i : Nat) (sfx : List Int) : Nat → Int × Int
  | 0 => (-1, big)
  | j + 1 => if standB l sfx j && decide (beforeC l t i sfx j < (pickTo l t i sfx j).2) then ((j : Int), beforeC l t i sfx j) else pickTo l t i sfx j
theorem pickTo_next (l : Lex) (t : List Int) (i : Nat) (sfx : List Int) (j : Nat) : pickTo l t i sfx (j + 1) = if standB l sfx j && decide (beforeC l t i sfx j < (pickTo l t i sfx j).2) then ((j : Int), beforeC l t i sfx j) else pickTo l t i sfx j := rfl
theorem pickTo_is (l : Lex) (t : List Int) (i : Nat) (sfx : List Int) : ∀ n, (pickTo l t i sfx n = (-1, big) ∧ ∀ k, k < n → mayStand l sfx k → big ≤ beforeC l t i sfx k) ∨
    (∃ j : Nat, j < n ∧ pickTo l t i sfx n = ((j : Int), beforeC l t i sfx j) ∧ mayStand l sfx j ∧ beforeC l t i sfx j < big ∧ ∀ k, k < n → mayStand l sfx k → beforeC l t i sfx j ≤ beforeC l t i sfx k)
  | 0 => .inl ⟨rfl, fun k hk => by omega⟩
  | n + 1 => by
    rw [pickTo_next]
    by_cases hc : standB l sfx n = true ∧ beforeC l t i sfx n < (pickTo l t i sfx n).2
    · rw [if_pos (by rw [hc.1, decide_eq_true hc.2]; rfl)]
      have hm := standB_iff.1 hc.1
      refine .inr ⟨n, by omega, rfl, hm, ?_, fun k hk hk2 => ?_⟩
      · rcases pickTo_is l t i sfx n with ⟨e, _⟩ | ⟨j, _, e, _, h3, _⟩
        · have := hc.2; rw [e] at this; exact this
        · have := hc.2; rw [e] at this; simp only at this; omega
      · by_cases e : k = n
        · subst e; omega
        · rcases pickTo_is l t i sfx n with ⟨e2, h2⟩ | ⟨j, _, e2, _, h3, h4⟩
          · have h5 := h2 k (by omega) hk2
            have := hc.2; rw [e2] at this; simp only at this; omega
          · have h5 := h4 k (by omega) hk2
            have := hc.2; rw [e2] at this; simp only at this; omega
    · rw [if_neg (by
        intro h
        rw [Bool.and_eq_true, decide_eq_true_eq] at h
        exact hc h)]
      rcases pickTo_is l t i sfx n with ⟨e, h2⟩ | ⟨j, h1, e, h2, h3, h4⟩
      · refine .inl ⟨e, fun k hk hk2 => ?_⟩
        by_cases e2 : k = n
        · subst e2
          rw [e] at hc
          exact Int.not_lt.1 (fun h => hc ⟨standB_iff.2 hk2, h⟩)
        · exact h2 k (by omega) hk2
      · refine .inr ⟨j, by omega, e, h2, h3, fun k hk hk2 => ?_⟩
        by_cases e2 : k = n
        · subst e2
          rw [e] at hc
          exact Int.not_lt.1 (fun h => hc ⟨standB_iff.2 hk2, h⟩)
        · exact h4 k (by omega) hk2
theorem before_row {l : Lex} {t : List Int} {i j : Nat} : (tR l t i)[j]?.getD 0 + 0 = beforeC l t i [] j := by unfold beforeC tR; rw [if_pos rfl]
theorem before_cons {l : Lex} {t : List Int} {i j : Nat} {x : Int} {s : List Int} : (tR l t i)[j]?.getD 0 + fol l j x = beforeC l t i (x :: s) j := by unfold beforeC tR; rw [if_neg (by simp)]; rfl
/-- what Best answers -/
def RBest (l : Lex) (t : List Int) (w : World) (e : Ending) (w' : World) : Prop := ∃ v s, e = .returned (.tuple #[v, .bool (leastO l t).2, .int .i64 (textK l t)]) ∧ Ints w' v s ∧ Ext w w' ∧ ((leastO l t).2 = true → IsSp l (-1) t s ∧ costL l s = (leastO l t).1) ∧ ((leastO l t).2 = false → s = [])
theorem best_end {l : Lex} (hl : LexOk l) {t sfx : List Int} (h0 : textK l t = 0) (hB : BestS l t 0 sfx) : (leastO l t).2 = true ∧ IsSp l (-1) t sfx ∧ costL l sfx = (leastO l t).1 := by
  obtain ⟨_, h12, _⟩ := textK_ok h0
  have e : leastO l t = if t = [] then (0, true) else if leastT l t = big then (0, false) else (leastT l t, true) := by unfold leastO; rw [if_pos h0]
  by_cases ht : t = []
  · subst ht
    have hs : sfx = [] := words_nil hl.noE hB.inn (by rw [hB.wo]; rfl)
    subst hs
    rw [e, if_pos rfl]
    exact ⟨rfl, ⟨hB.inn, by simp [wordsL], rfl⟩, rfl⟩
  · obtain ⟨h1, h2⟩ := hB.done hl.noE ht
    rw [if_neg ht] at e
    rcases leastT_is hl h12 ht with ⟨_, hno⟩ | ⟨hlt, _, _⟩
    · exact absurd h1 (hno _)
    · rw [if_neg (by omega)] at e
      rw [e]; exact ⟨rfl, h1, h2⟩
theorem best_stop {l : Lex} {t : List Int} (h0 : textK l t = 0) (ht : t ≠ []) (hb : leastT l t = big) : (leastO l t).2 = false := by
  unfold leastO; rw [if_pos h0, if_neg ht, if_pos hb]
theorem tR_bd {l : Lex} (h : LexOk l) {t : List Int} (ht : t.length ≤ 12) {i j : Nat} (hi : i ≤ t.length) (hj : j < l.i.length) : 0 ≤ (tR l t i)[j]?.getD 0 ∧ (tR l t i)[j]?.getD 0 ≤ 100000 := by
  unfold tR; rw [tabRow_at hj]; exact tabAt_bd h ht hi hj
theorem ints_nil_b (w : World) : Ints w (.slice none 0 0) [] := ⟨none, 0, rfl, Nat.zero_le _, by unfold maxLen; omega, fun i hi => by simp at hi⟩
set_option maxHeartbeats 4000000 in
set_option maxRecDepth 100000 in
theorem Best_c (iv fv tv : Value) (l : Lex) (t : List Int) (w : World) (h : LexR w iv fv l) (ht : Ints w tv t) : Calls Try.prog 23 #[.agg #[iv, fv], tv] w (RBest l t w) := by
  obtain ⟨wA, hwA⟩ : ∃ wA, wA = w.alloc (.cells #[iv, fv] 25) := ⟨_, rfl⟩
  have hE0 : Ext w wA := by rw [hwA]; exact Ext.alloc _ _
  have k0 : ∀ W, Ext wA W → W.cell? ⟨w.heap.size, 0, none⟩ = some iv := by rw [hwA]; exact kept_alloc w _ _ rfl
  have k1 : ∀ W, Ext wA W → W.cell? ⟨w.heap.size, 1, none⟩ = some fv := by rw [hwA]; exact kept_alloc w _ _ rfl
  have H0 : Ext wA wA := Ext.refl _
  have HR := Lib.hid (h.ext hE0)
  obtain ⟨ai, ci, rfl, hli, hmi, HI⟩ := (h.ext hE0).i.open_
  obtain ⟨af, cf, rfl, hlf, hmf, HF⟩ := Rows.open_ (h.ext hE0).f
  have HT := Lib.hid (ht.ext hE0)
  obtain ⟨at_, ct, rfl, hlt0, hmt0, HTO⟩ := (ht.ext hE0).open_
  have HC1 := Lib.hid (check_c _ _ _ l t wA HR.out HT.out)
  have HW := Lib.hid hwA; clear hwA h ht
  by_cases h0 : textK l t = 0
  · obtain ⟨hl, h12, _⟩ := textK_ok h0
    have H00 := Lib.hid h0
    have HL := Lib.hid hl
    rw [h0] at HC1
    have hTC := Lib.hid (fun W (hW : Ext wA W) => table_c _ _ _ l t W (HR.out.ext hW) hl (HT.out.ext hW) h12)
    have HEND := Lib.hid (fun sfx => best_end (sfx := sfx) hl h0)
    have HBD := Lib.hid (fun i j hi hj => tR_bd (l := l) (i := i) (j := j) hl h12 hi hj)
    have hn8 : l.i.length ≤ 8 := hl.n8
    have HB0 := Lib.hid (BestS.start l t)
    have HST0 := Lib.hid (fun (h1 : t ≠ []) (h2 : leastT l t = big) => best_stop h0 h1 h2)
    clear h0 hl
    go_enter Try.func23, Try.ntmps23
    go_wp2_with fail
    rw [← HW.out]
    refine HC1.out.mono ?_; rintro e w1 ⟨rfl, hx1⟩
    go_wp2_with fail
    refine (hTC.out w1 hx1).mono ?_; rintro e W2 ⟨A, vs, rfl, hgd, hx2⟩
    have hX2 := hx1.trans hx2
    have HGD := Lib.hid hgd; clear hgd hx1 hx2
    go_wp2_with fail
    go_loopg [9, 10] t.length (fun z ov ii wr => ∃ (i : Nat) (sfx : List Int) (v : Value), v = ov ∧ i ≤ z ∧ ii = .int .i64 (i : Int) ∧ Ext W2 wr ∧ OInts 3 wr W2.heap.size v sfx.reverse ∧ Hid (BestS l t i sfx))
    case atStart => exact ⟨t.length, [], _, rfl, by omega, rfl, Ext.refl _, OInts.nil _ _ _, HB0⟩
    case round =>
      obtain ⟨i, sfx, ov, rfl, hiz, rfl, hW23, hown, hBS⟩ := hrel
      obtain ⟨g1, rfl⟩ : ∃ g : Nat, g = gk := ⟨_, rfl⟩
      obtain ⟨W3, rfl⟩ : ∃ W : World, W = wr := ⟨_, rfl⟩
      have hi : i ≤ t.length := hBS.out.ile
      have hX3 := hX2.trans hW23
      have HOW := Lib.hid hown; clear hown
      by_cases hip : 0 < i
      · have hd1 : decide (0 < (i : Int)) = true := by simp; omega
        have hd2 : decide (0 < i) = true := decide_eq_true hip
        obtain ⟨g, hv, hbv⟩ := HGD.out.row i (by omega) trivial
        have hcA := hW23.keep (HGD.out.blk.cell hv)
        rw [gridI_len (tR_len l t i)] at hcA
        have hbi : BInts W3 g (tR l t i) := Blk.ext hbv hW23
        have HBV := Lib.hid (fun j (hj : j < l.i.length) => hbi.cell (i := j) (by rw [tR_len]; exact hj))
        have hiI : (i : Int) < (t.length : Int) + 1 := by omega
        clear hbi hbv hv
        have HPK := Lib.hid (pickTo_is l t i sfx l.i.length)
        have htne : t ≠ [] := by rintro rfl; simp at hi; omega
        have HSTOP := Lib.hid (fun hno => HST0.out htne (hBS.out.stop HL.out h12 hip hno))
        have HSTEP := Lib.hid (fun (j : Nat) (hj : j < l.i.length) hm hlt hmin => hBS.out.step (j := j) HL.out h12 hip hj hm hlt hmin)
        have hsl : sfx.length ≤ 12 := by
          have h1 := words_len HL.out.noE hBS.out.inn
          rw [hBS.out.wo, List.length_drop] at h1; omega
        have HIN : Hid (∀ x rest, sfx = x :: rest → ∃ a : Nat, x = (a : Int) ∧ a < l.i.length) := Lib.hid (fun x rest he => by
          have := hBS.out.inn x (by rw [he]; simp)
          exact ⟨x.toNat, by have := this.1; omega, by have h1 := this.1; have h2 : x < (l.i.length : Int) := this.2; omega⟩)
        have hio := HOW.out.ints
        obtain ⟨ao, co, hvo, hlo, hmo, HOO⟩ := hio.open_
        rw [List.length_reverse] at hvo hlo
        have HLAST : Hid (∀ (xn : Nat) rest, sfx = (xn : Int) :: rest → W3.cell? ⟨(ao.getD ⟨0, 0, none⟩).block, (ao.getD ⟨0, 0, none⟩).off + rest.length, none⟩ = some (.int .i64 (xn : Int))) := Lib.hid (fun xn rest he => by
          obtain ⟨b, o, e1, e2⟩ := HOO.out rest.length (by rw [List.length_reverse, he]; simp)
          rw [e1]
          show W3.cell? ⟨b, o + rest.length, none⟩ = _
          rw [e2, he]; simp)
        have HNIL : Hid (sfx ≠ [] → ∃ b o, ao = some ⟨b, o, none⟩) := Lib.hid (fun hne => by
          obtain ⟨b, o, e1, _⟩ := HOO.out 0 (by rw [List.length_reverse]; exact List.length_pos_iff.2 hne)
          exact ⟨b, o, e1⟩)
        clear hio HOO hBS
        subst hvo
        clear hip htne
        obtain hsn | ⟨x, rest, hsn⟩ : sfx = [] ∨ ∃ x rest, sfx = x :: rest := by
          cases sfx with
          | nil => exact .inl rfl
          | cons a b => exact .inr ⟨_, _, rfl⟩
        · clear HNIL
          have HSS := Lib.hid hsn; clear hsn
          go_wp2_with fail
          go_loopg [34, 11, 12] l.i.length (fun z jj bb ll wr => ∃ j : Nat, j ≤ l.i.length ∧ l.i.length ≤ j + z ∧ jj = .int .i64 j ∧ bb = .int .i64 (pickTo l t i sfx j).1 ∧ ll = .int .i64 (pickTo l t i sfx j).2 ∧ Ext W3 wr)
          case atStart => exact ⟨0, by omega, by omega, rfl, rfl, rfl, Ext.refl _⟩
          case round =>
            obtain ⟨j, hj, hjz, rfl, rfl, rfl, hE⟩ := hrel
            have hX := hX3.trans hE
            by_cases hlt : j < l.i.length
            · have hcc := hE.keep (HBV.out j hlt)
              have hbd := HBD.out i j hi hlt
              have hjI : (j : Int) < (l.i.length : Int) := by omega
              have HNX := Lib.hid (pickTo_next l t i sfx j)
              obtain ⟨p1, p2, hp⟩ : ∃ a b, pickTo l t i sfx j = (a, b) := ⟨_, _, rfl⟩
              rw [hp] at HNX ⊢
              simp only
              have HPP := Lib.hid hp; clear hp
              rw [HSS.out] at HNX
              have HBR := Lib.hid (before_row (l := l) (t := t) (i := i) (j := j))
              rw [show standB l [] j = true from rfl, Bool.true_and, ← HBR.out, Int.add_zero] at HNX
              clear HBR
              generalize (tR l t i)[j]?.getD 0 = c at *
              have hdl : decide (0 < (sfx.length : Int)) = false := by rw [HSS.out]; rfl
              have hdn : decide (0 < sfx.length) = false := by rw [HSS.out]; rfl
              by_cases hc : c < p2
              · have HSM : Hid (pickTo l t i sfx (j + 1) = ((j : Int), c)) := Lib.hid (by rw [HSS.out, HNX.out, decide_eq_true hc]; rfl)
                have hdc : decide (c < p2) = true := decide_eq_true hc
                clear HNX
                go_wp2_with fail
                go_roundg (gk-1)
                case measure => omega
                case rel => exact ⟨j+1, by omega, by omega, by go_num, by rw [HSM.out], by rw [HSM.out], hE⟩
              · have HSM : Hid (pickTo l t i sfx (j + 1) = (p1, p2)) := Lib.hid (by rw [HSS.out, HNX.out, decide_eq_false hc]; rfl)
                have hdc : decide (c < p2) = false := decide_eq_false hc
                clear HNX
                go_wp2_with fail
                go_roundg (gk-1)
                case measure => omega
                case rel => exact ⟨j+1, by omega, by omega, by go_num, by rw [HSM.out], by rw [HSM.out], hE⟩
            · have hjl : j = l.i.length := by omega
              subst hjl
              rcases HPK.out with ⟨hp, hno⟩ | ⟨b, hbn, hp, hm, hbig, hmin⟩
              · have HNO := Lib.hid (HSTOP.out hno)
                rw [hp]
                simp only
                clear hp hno
                go_wp2_with fail
                go_ret3
                exact ⟨_, [], by rw [HNO.out, H00.out]; rfl, ints_nil_b _, hE0.trans hX, (fun h => by rw [HNO.out] at h; cases h), fun _ => rfl⟩
              · obtain ⟨hL1, hL2, hBS⟩ := HSTEP.out b hbn hm hbig hmin
                have HBS := Lib.hid hBS; clear hBS
                rw [hp]
                simp only
                clear hp hm hbig hmin
                obtain ⟨bi, oi, rfl, u, hc0, hu, _⟩ := HI.out b hbn
                have HWD : Hid (wrd l (b : Int) = (itm l.i b).w) := Lib.hid rfl
                rw [← HWD.out] at hu
                obtain ⟨au, cu, rfl, _⟩ := hu.open_
                clear hu
                have hbI : (b : Int) < (l.i.length : Int) := by omega
                have hdb : decide ((b : Int) < 0) = false := by simp
                have hwS : IntKind.i64.wrap ((i : Int) - ((wrd l (b : Int)).length : Int)) = ((i - (wrd l (b : Int)).length : Nat) : Int) := by rw [IntWalk.i64_in _ (by omega)]; omega
                generalize (wrd l (b : Int)).length = L at *
                have HO9 := Lib.hid (HOW.out.ext hE)
                have hsz := hE.size
                have hEE := hW23.trans hE
                have hsz2 := hEE.size
                go_wp2_with (at_builtin; refine wpList_appendInt elInts rfl _ _ rfl rfl rfl HO9.out rfl hsz2 (by simp; omega) ?_; intro v' w' ho2 hb2; have hX9 : Ext W2 w' := hEE.upto hb2 (Nat.le_refl _); have hXA : Ext wA w' := hX2.trans hX9; have hc02 := hXA.keep hc0)
                go_roundg (g1-1)
                case measure => omega
                case rel => exact ⟨i - L, (b : Int) :: sfx, _, rfl, by omega, by go_num, hX9, by rw [List.reverse_cons]; exact ho2, HBS⟩

        · obtain ⟨bo, oo, rfl⟩ := HNIL.out (by rw [hsn]; simp)
          obtain ⟨xn, hxn, hxl⟩ : ∃ a : Nat, x = (a : Int) ∧ a < l.i.length := HIN.out x rest hsn
          subst hxn
          have HSS := Lib.hid hsn
          clear HNIL hsn
          go_wp2_with fail
          go_loopg [34, 11, 12] l.i.length (fun z jj bb ll wr => ∃ j : Nat, j ≤ l.i.length ∧ l.i.length ≤ j + z ∧ jj = .int .i64 j ∧ bb = .int .i64 (pickTo l t i sfx j).1 ∧ ll = .int .i64 (pickTo l t i sfx j).2 ∧ Ext W3 wr)
          case atStart => exact ⟨0, by omega, by omega, rfl, rfl, rfl, Ext.refl _⟩
          case round =>
            obtain ⟨j, hj, hjz, rfl, rfl, rfl, hE⟩ := hrel
            have hX := hX3.trans hE
            by_cases hlt : j < l.i.length
            · have hcc := hE.keep (HBV.out j hlt)
              have hbd := HBD.out i j hi hlt
              have hjI : (j : Int) < (l.i.length : Int) := by omega
              have HNX := Lib.hid (pickTo_next l t i sfx j)
              obtain ⟨p1, p2, hp⟩ : ∃ a b, pickTo l t i sfx j = (a, b) := ⟨_, _, rfl⟩
              rw [hp] at HNX ⊢
              simp only
              have HPP := Lib.hid hp; clear hp
              rw [HSS.out] at HNX
              have HBC := Lib.hid (before_cons (l := l) (t := t) (i := i) (j := j) (x := (xn : Int)) (s := rest))
              have HST : Hid (standB l ((xn : Int) :: rest) j = decide (0 ≤ fol l j (xn : Int))) := Lib.hid rfl
              rw [HST.out, ← HBC.out] at HNX
              clear HBC HST
              have hlen : sfx.length = rest.length + 1 := by rw [HSS.out]; rfl
              have hcl : W3.cell? ⟨bo, oo + rest.length, none⟩ = some (.int .i64 (xn : Int)) := HLAST.out xn rest HSS.out
              have q0 := fun s : Later wr => (hE.trans s.ext).keep hcl
              have hs5 : ∀ s : Later wr, Ext wA s.w := fun s => hX.trans s.ext
              have HFC := Lib.hid (fun s : Later wr => follows_c _ _ l j xn s.w (HR.out.ext (hX.trans s.ext)) HL.out hlt hxl)
              have hfb := HL.out.fol (a := j) (b := xn) hlt hxl
              have hls : (sfx.length : Int) = (rest.length : Int) + 1 := by omega
              have HLS := Lib.hid hls; clear hls
              have hdl : decide (0 < (sfx.length : Int)) = true := by rw [HLS.out]; simp
              have hdn : decide (0 < sfx.length) = true := by rw [hlen]; simp
              have hws : IntKind.i64.wrap ((sfx.length : Int) - 1) = (rest.length : Int) := by rw [IntWalk.i64_in _ (by omega)]; omega
              have hri : (rest.length : Int) < (sfx.length : Int) := by omega
              clear hlen
              generalize (tR l t i)[j]?.getD 0 = c at *
              generalize fol l (j : Int) (xn : Int) = f at *
              obtain ⟨hb0, hb1⟩ := hbd
              obtain ⟨hf0, hf1⟩ := hfb
              by_cases hf : f < 0
              · have hdf : decide (f < 0) = true := decide_eq_true hf
                have HSM : Hid (pickTo l t i sfx (j + 1) = (p1, p2)) := Lib.hid (by rw [HSS.out, HNX.out, decide_eq_false (by omega : ¬ 0 ≤ f), Bool.false_and]; rfl)
                clear HNX
                go_wp2_with fail
                refine wp_region_later (by kernel_rfl) (by kernel_rfl) ?_
                repeat (go_big_quiet_step ((first | (go_at_call 60; first | with_reducible exact Later.call (HFC.out _)))))
                refine wpQuiet_nil ?_
                intro w5 hw'
                obtain ⟨⟨_, hx5⟩, rfl⟩ := hw'
                go_wp2_with fail
                go_roundg (gk-1)
                case measure => omega
                case rel => exact ⟨j+1, by omega, by omega, by go_num, by rw [HSM.out], by rw [HSM.out], hE.trans hx5⟩
              · have hdf : decide (f < 0) = false := decide_eq_false hf
                have hwc : IntKind.i64.wrap (c + f) = c + f := IntWalk.i64_in _ (by omega)
                rw [decide_eq_true (by omega : 0 ≤ f), Bool.true_and] at HNX
                by_cases hc : c + f < p2
                · have HSM : Hid (pickTo l t i sfx (j + 1) = ((j : Int), c + f)) := Lib.hid (by rw [HSS.out, HNX.out, decide_eq_true hc]; rfl)
                  have hdc : decide (c + f < p2) = true := decide_eq_true hc
                  clear HNX
                  go_wp2_with fail
                  refine wp_region_later (by kernel_rfl) (by kernel_rfl) ?_
                  repeat (go_big_quiet_step ((first | (go_at_call 60; first | with_reducible exact Later.call (HFC.out _)))))
                  refine wpQuiet_nil ?_
                  intro w5 hw'
                  obtain ⟨⟨_, hx5⟩, rfl⟩ := hw'
                  go_wp2_with fail
                  go_roundg (gk-1)
                  case measure => omega
                  case rel => exact ⟨j+1, by omega, by omega, by go_num, by rw [HSM.out], by rw [HSM.out], hE.trans hx5⟩
                · have HSM : Hid (pickTo l t i sfx (j + 1) = (p1, p2)) := Lib.hid (by rw [HSS.out, HNX.out, decide_eq_false hc]; rfl)
                  have hdc : decide (c + f < p2) = false := decide_eq_false hc
                  clear HNX
                  go_wp2_with fail
                  refine wp_region_later (by kernel_rfl) (by kernel_rfl) ?_
                  repeat (go_big_quiet_step ((first | (go_at_call 60; first | with_reducible exact Later.call (HFC.out _)))))
                  refine wpQuiet_nil ?_
                  intro w5 hw'
                  obtain ⟨⟨_, hx5⟩, rfl⟩ := hw'
                  go_wp2_with fail
                  go_roundg (gk-1)
                  case measure => omega
                  case rel => exact ⟨j+1, by omega, by omega, by go_num, by rw [HSM.out], by rw [HSM.out], hE.trans hx5⟩
            · have hjl : j = l.i.length := by omega
              subst hjl
              rcases HPK.out with ⟨hp, hno⟩ | ⟨b, hbn, hp, hm, hbig, hmin⟩
              · have HNO := Lib.hid (HSTOP.out hno)
                rw [hp]
                simp only
                clear hp hno
                go_wp2_with fail
                go_ret3
                exact ⟨_, [], by rw [HNO.out, H00.out]; rfl, ints_nil_b _, hE0.trans hX, (fun h => by rw [HNO.out] at h; cases h), fun _ => rfl⟩
              · obtain ⟨hL1, hL2, hBS⟩ := HSTEP.out b hbn hm hbig hmin
                have HBS := Lib.hid hBS; clear hBS
                rw [hp]
                simp only
                clear hp hm hbig hmin
                obtain ⟨bi, oi, rfl, u, hc0, hu, _⟩ := HI.out b hbn
                have HWD : Hid (wrd l (b : Int) = (itm l.i b).w) := Lib.hid rfl
                rw [← HWD.out] at hu
                obtain ⟨au, cu, rfl, _⟩ := hu.open_
                clear hu
                have hbI : (b : Int) < (l.i.length : Int) := by omega
                have hdb : decide ((b : Int) < 0) = false := by simp
                have hwS : IntKind.i64.wrap ((i : Int) - ((wrd l (b : Int)).length : Int)) = ((i - (wrd l (b : Int)).length : Nat) : Int) := by rw [IntWalk.i64_in _ (by omega)]; omega
                generalize (wrd l (b : Int)).length = L at *
                have HO9 := Lib.hid (HOW.out.ext hE)
                have hsz := hE.size
                have hEE := hW23.trans hE
                have hsz2 := hEE.size
                go_wp2_with (at_builtin; refine wpList_appendInt elInts rfl _ _ rfl rfl rfl HO9.out rfl hsz2 (by simp; omega) ?_; intro v' w' ho2 hb2; have hX9 : Ext W2 w' := hEE.upto hb2 (Nat.le_refl _); have hXA : Ext wA w' := hX2.trans hX9; have hc02 := hXA.keep hc0)
                go_roundg (g1-1)
                case measure => omega
                case rel => exact ⟨i - L, (b : Int) :: sfx, _, rfl, by omega, by go_num, hX9, by rw [List.reverse_cons]; exact ho2, HBS⟩

      · have hd1 : decide (0 < (i : Int)) = false := by simp; omega
        have hd2 : decide (0 < i) = false := decide_eq_false hip
        have hi0 : i = 0 := by omega
        subst hi0
        obtain ⟨e1, e2, e3⟩ := HEND.out _ hBS.out
        have HE1 := Lib.hid e1; have HE2 := Lib.hid e2; have HE3 := Lib.hid e3
        clear e1 e2 e3 hBS hip
        go_wp2_with fail
        refine (reverse_c _ _ _ _ HOW.out).mono ?_; rintro e w5 ⟨rfl, ho5, hx5⟩
        have hX5 := hX2.trans (hx5 W2 hW23 (Nat.le_refl _))
        have HI5 := Lib.hid ho5.ints
        clear ho5 hx5
        go_wp2_with fail
        go_ret3
        refine ⟨_, sfx, by rw [HE1.out, H00.out]; rfl, ?_, hE0.trans hX5, fun _ => ⟨HE2.out, HE3.out⟩, fun h => by rw [HE1.out] at h; cases h⟩
        have := HI5.out
        rwa [List.reverse_reverse] at this
  · have HN0 : Hid (leastO l t = (0, false)) := Lib.hid (by unfold leastO; rw [if_neg h0])
    generalize hkk : textK l t = k at *
    have HKK := Lib.hid hkk; clear hkk
    have hk : (k != 0) = true := by simpa using h0
    clear h0
    go_enter Try.func23, Try.ntmps23
    go_wp2_with fail
    rw [← HW.out]
    refine HC1.out.mono ?_; rintro e w1 ⟨rfl, hx1⟩
    go_wp2_with fail
    go_ret3
    exact ⟨_, [], by rw [HN0.out, HKK.out]; rfl, ints_nil_b _, hE0.trans hx1, (fun h => by rw [HN0.out] at h; cases h), fun _ => rfl⟩
end Go.Proofs.Ytgpggmcjggpmpaa
