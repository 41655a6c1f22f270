/- SchoolRefuses: the walk. -/
import Derived.Test.YtpmlcfgbfhgpgaaGreatDoorFarC
namespace Go.Proofs.YtpmlcfgbfhgpgaaGreatDoor
open Go.RowKit Go.Shelf
set_option linter.unusedVariables false
theorem wpList_unguard {P : Program} {ops : Array Oper} {Q : Exit → Act → World → Prop} {rest : List Oper} {o : Oper} {a : Act} {w : World} (hg : Region.wanted o (yielded ops a.tmps) = true) (h : wpList P ops Q ({ o with guard := none } :: rest) a w) : wpList P ops Q (o :: rest) a w := by
 unfold wpList at h ⊢
 rw [if_pos hg]
 rw [if_pos (by simp [Region.wanted])] at h
 cases o
 exact h
theorem sameTexts9_t (va vb : Value) (L : List ByteArray) (w : World) (ha : Strs w va L) (hb : Strs w vb L) : Calls Tryz.prog 41 #[va, vb] w (RV (.bool true) w) := by
 refine (sameTexts_c va vb L w ha hb).mono ?_; rintro e w' ⟨rfl, n, rfl⟩
 exact ⟨rfl, Ext.drewN _ _⟩
theorem ChsAt.of {w : World} {B : Nat} {a : Option Addr} {n c : Nat} {L : List Ch} (h : OCel encCh 3 46 w B (.slice a n c) L) : ∀ k, k < n → ∃ q o cur z, a = some ⟨q, o, none⟩ ∧ w.heap[q]? = some (.cells cur 46 (0, 0)) ∧ between B w.heap.size q = true ∧ w.cell? ⟨q, o + k * 3, none⟩ = some (.int .i64 z) := by
 intro k hk
 obtain ⟨a', c', hv, _, _, H⟩ := (Cel.own encCh_len h).open_
 injection hv with e1 e2 e3
 subst e1
 have hk2 : k < L.length := by omega
 obtain ⟨g, o, ha, hc⟩ := H.out k L[k] (List.getElem?_eq_getElem hk2)
 have hb : (Value.slice a n c).ownBlock = some g := by rw [ha]; rfl
 obtain ⟨cur, h1, _⟩ := ownBlock_cells h g hb
 exact ⟨g, o, cur, _, ha, h1, between_iff.2 (ownsRow_lt h hb), hc 0 _ rfl⟩
set_option maxHeartbeats 8000000 in
set_option maxRecDepth 100000 in
theorem schoolRefuses_c (v u : Value) (text : ByteArray) (s : List Rul) (l : List ByteArray) (w : World) (h : Ruls w v s) (hl : Strs w u l) (htx : text.size ≤ maxLen) (hE : Env w) (hT : ErrT w) (h7 : 7 ≤ w.heap.size) :
  Calls Tryz.prog 11 #[v, u, .string text] w (RV (.bool true) w) := by
 have HLG := Lib.hid (Large9_c v s w h)
 have HLO := Lib.hid (fun W (q : Ext w W) => Long9_c u l W (hl.ext q))
 have HSA := Lib.hid (fun W (q : Ext w W) => sane_c W (hE.ext q) (hT.ext q) (Nat.le_trans h7 q.size))
 have HBE := Lib.hid (fun W (q : Ext w W) => Begin_c (fun _ => false) v s W (fun k hk => by cases hk) (h.ext q))
 have HFA := Lib.hid (fun W (q : Ext w W) (hv : validS s ≠ 0) => failed_c v s W (h.ext q) hv (hE.ext q) (hT.ext q) (Nat.le_trans h7 q.size))
 have HR := Lib.hid h
 have HL := Lib.hid hl
 have HE := Lib.hid hE
 have HT := Lib.hid hT
 obtain ⟨av, cv, rfl, _⟩ := h.open_
 obtain ⟨au, cu, rfl, _⟩ := hl.open_
 clear h hl hE hT
 cases hb1 : largeB s with
 | true =>
  rw [hb1] at HLG
  clear hb1
  go_enter Tryz.func11, Tryz.ntmps11
  go_wp2_with fail
  refine HLG.out.mono ?_; rintro e w1 ⟨rfl, hx1⟩
  go_wp2_with fail
  refine (HSA.out w1 hx1).mono ?_; rintro e w2 ⟨rfl, hx2⟩
  go_wp2_with fail
  go_ret
  exact ⟨rfl, hx1.trans hx2⟩
 | false =>
  rw [hb1] at HLG
  cases hb2 : longT l with
  | true =>
   rw [hb2] at HLO
   clear hb1 hb2
   go_enter Tryz.func11, Tryz.ntmps11
   go_wp2_with fail
   refine HLG.out.mono ?_; rintro e w1 ⟨rfl, hx1⟩
   go_wp2_with fail
   refine (HLO.out w1 hx1).mono ?_; rintro e w2 ⟨rfl, hx2⟩
   go_wp2_with fail
   refine (HSA.out w2 (hx1.trans hx2)).mono ?_; rintro e w3 ⟨rfl, hx3⟩
   go_wp2_with fail
   go_ret
   exact ⟨rfl, (hx1.trans hx2).trans hx3⟩
  | false =>
   rw [hb2] at HLO
   have HLT := Lib.hid (longT_ok hb2)
   clear hb1 hb2
   by_cases hbig : 400 < text.size
   ·have hbig' : (400 : Int) < (text.size : Int) := by omega
    go_enter Tryz.func11, Tryz.ntmps11
    go_wp2_with fail
    refine HLG.out.mono ?_; rintro e w1 ⟨rfl, hx1⟩
    go_wp2_with fail
    refine (HLO.out w1 hx1).mono ?_; rintro e w2 ⟨rfl, hx2⟩
    go_wp2_with fail
    refine (HSA.out w2 (hx1.trans hx2)).mono ?_; rintro e w3 ⟨rfl, hx3⟩
    go_wp2_with fail
    go_ret
    exact ⟨rfl, (hx1.trans hx2).trans hx3⟩
   have hsml : ¬ (400 : Int) < (text.size : Int) := by omega
   by_cases hv : validS s = 0
   ·have HV := Lib.hid hv; clear hv
    go_enter Tryz.func11, Tryz.ntmps11
    go_wp2_with fail
    refine HLG.out.mono ?_; rintro e w1 ⟨rfl, hx1⟩
    go_wp2_with fail
    refine (HLO.out w1 hx1).mono ?_; rintro e w2 ⟨rfl, hx2⟩
    go_wp2_with fail
    refine (HBE.out w2 (hx1.trans hx2)).mono ?_; rintro e w3 ⟨hx3, ⟨h0, _⟩ | ⟨_, b, m1, rv, v0, gh, gq, uq, he, hbz, hgz1, hgz2, hSc, hNr⟩⟩
    ·exact absurd HV.out h0
    subst he
    have hX3 := (hx1.trans hx2).trans hx3
    have HX3 := Lib.hid hX3
    have hbw : w.heap.size ≤ b := Nat.le_trans (hx1.trans hx2).size hbz
    have hb7 : 7 ≤ b := Nat.le_trans h7 hbw
    have HSS : Hid (∀ k, more (more (more (fun _ => false) b) gh) gq k = true → w.heap.size ≤ k) := Lib.hid (fun k hk => by
     rcases more_or hk with hk | hk
     ·rcases more_or hk with hk | hk
      ·rcases more_or hk with hk | hk
       ·cases hk
       ·omega
      ·omega
     ·omega)
    generalize hSS : more (more (more (fun _ => false) b) gh) gq = S at *
    have HSE := Lib.hid hSS; clear hSS
    have HFW := Lib.hid (few_c S _ l w3 hSc.hSl (HL.out.ext (hole_new hX3 HSS.out)))
    have HE3 := Lib.hid (HE.out.ext hX3)
    have HT3 := Lib.hid (HT.out.ext hX3)
    have hghL : gh < w3.heap.size := hNr.hh.lt
    have hgqL : gq < w3.heap.size := hNr.hq.lt
    have HNR := Lib.hid (show NewR (beg9 b gh gq) gh gq uq s w3 from by rw [show beg9 b gh gq = S from HSE.out]; exact hNr)
    have HX3' := Lib.hid hX3
    have HLEN : Hid (∀ k, k < s.length → (rulAt s k).t.length ≤ 2 ∧ (rulAt s k).l.length ≤ 7 ∧ (rulAt s k).r.length ≤ 7) := Lib.hid fun k hk => rule_lens ((validS_zero.1 HV.out).2 _ (rulAt_mem hk))
    have HS6 : Hid (s.length ≤ 6) := Lib.hid (validS_zero.1 HV.out).1
    obtain ⟨av', cv', hrv', _, _, HRL⟩ := (HR.out.ext hX3).lit
    injection hrv' with y1 y2 y3
    subst y1 y3
    have HB2 := Lib.hid hbw
    clear hSc hX3 hNr y2 HFW
    go_wp2_with fail
    go_loopg [11, 10] s.length (fun m i u10 wr => ∃ (k : Nat) (RS : List RlC), k ≤ s.length ∧ s.length ≤ k + m ∧ i = .int .i64 k ∧ Ext w3 wr ∧ OCel encR 4 70 wr w3.heap.size u10 RS ∧ Hid (RsO wr w3.heap.size RS (s.take k)))
    case atStart => exact ⟨0, [], by omega, by omega, rfl, Ext.refl _, OCel.nil _ _ _ _ _, Lib.hid ⟨rfl, fun i x h => by cases h⟩⟩
    case round =>
     obtain ⟨k, RS, hk1, hk2, rfl, hXr, hown, hRO⟩ := hrel
     by_cases hlt : k < s.length
     ·obtain ⟨b1, o1, rfl, ta, tc, la, lc, ra, rc, d0, d1, d2, d3, hrr0⟩ := HRL.out k hlt
      replace d0 := hXr.keep d0
      replace d1 := hXr.keep d1
      replace d2 := hXr.keep d2
      replace d3 := hXr.keep d3
      have HRLk := Lib.hid (HLEN.out k hlt)
      have hrr := Lib.hid (hrr0.ext hXr); clear hrr0
      have hXr0 := Lib.hid hXr.size
      generalize hy : rulAt s k = y at *
      have HY := Lib.hid hy; clear hy
      have hRSl : RS.length ≤ 6 := by rw [hRO.out.1, List.length_take]; have := HS6.out; omega
      obtain ⟨hl1, hl2, hl3⟩ := HRLk.out
      obtain ⟨ua, uc, hul, _⟩ := (Cel.own encR_len hown).open_
      subst hul
      go_upto_region 11 with fail
      have hb7 := Blk.alloc wr #[.int .i64 y.f, .slice ta y.t.length tc, .slice la y.l.length lc, .slice ra y.r.length rc] 70
      have hx7 := Ext.alloc wr (.cells #[.int .i64 y.f, .slice ta y.t.length tc, .slice la y.l.length lc, .slice ra y.r.length rc] 70)
      have hg7 : wr.heap.size ≤ wr.heap.size := Nat.le_refl _
      obtain ⟨g7, hg7e⟩ : ∃ g, g = wr.heap.size := ⟨_, rfl⟩
      rw [← hg7e] at hb7
      replace hg7 : wr.heap.size ≤ g7 := by omega
      have hG7 := Lib.hid hg7e
      rw [← hG7.out]
      clear hg7e
      generalize wr.alloc (.cells #[.int .i64 y.f, .slice ta y.t.length tc, .slice la y.l.length lc, .slice ra y.r.length rc] 70) = w7 at *
      have hE1 := Ext.alloc w7 (.cells #[] 3)
      have hown1 : (w7.alloc (.cells #[] 3)).ownsRow w7.heap.size 3 1 (.slice (some ⟨w7.heap.size, 0, none⟩) 0 0) 0 [] := World.ownsRow_lit (size := 1) w7 #[] 0 (Nat.le_refl _) (by unfold maxLen; omega) rfl
      have q1 := (hb7.ext hE1).cell (i := 1) rfl
      have raw1 := Lib.hid (((hrr.out.t.ext hx7).ext hE1).raw)
      go_upto_region 12 with (at_builtin; refine wpList_appendAll elInts rfl _ _ rfl rfl rfl hown1 raw1.out (ints_one _) (by simp) (by omega) (by omega) ?_; intro v1 x1 hoT hb1; rw [Nat.zero_add, List.nil_append] at hoT; replace hoT : OInts 3 x1 w7.heap.size v1 y.t := hoT; obtain ⟨aT, cT, huT, _⟩ := hoT.ints.open_; subst huT; have hx1 : Ext w7 x1 := hE1.upto hb1 (Nat.le_refl _); have z1 := (hb7.ext hx1).frozen 1; have y1 := (hb7.ext hx1).cell (i := 1) rfl)
      have hx1 : Ext w7 x1 := hE1.upto hb1 (Nat.le_refl _)
      have hbb1 := (hb7.ext hx1)
      have hbs1 := hbb1.set 1 (.slice aT y.t.length cT)
      have hXs1 := ((hx7).trans hx1)
      replace hoT := (hoT.low (B' := w3.heap.size) (Nat.le_trans hXr0.out (hx7.size))).setB (g := g7) (i := 1) (v := .slice aT y.t.length cT) hbb1 (by decide)
      have hY1 : Ext wr _ := hXs1.setCell (c := g7) hg7 1 (.slice aT y.t.length cT)
      generalize World.setCell x1 ⟨g7, 1, none⟩ _ = t1 at *
      clear z1 y1 q1
      have hE2 := Ext.alloc t1 (.cells #[] 3)
      have hown2 : (t1.alloc (.cells #[] 3)).ownsRow t1.heap.size 3 1 (.slice (some ⟨t1.heap.size, 0, none⟩) 0 0) 0 [] := World.ownsRow_lit (size := 1) t1 #[] 0 (Nat.le_refl _) (by unfold maxLen; omega) rfl
      have q2 := (hbs1.ext hE2).cell (i := 2) rfl
      have raw2 := Lib.hid (((hrr.out.l.ext hY1).ext hE2).raw)
      go_upto_region 13 with (at_builtin; refine wpList_appendAll elInts rfl _ _ rfl rfl rfl hown2 raw2.out (ints_one _) (by simp) (by omega) (by omega) ?_; intro v2 x2 hoL hb2; rw [Nat.zero_add, List.nil_append] at hoL; replace hoL : OInts 3 x2 t1.heap.size v2 y.l := hoL; obtain ⟨aL, cL, huL, _⟩ := hoL.ints.open_; subst huL; have hx2 : Ext t1 x2 := hE2.upto hb2 (Nat.le_refl _); have z2 := (hbs1.ext hx2).frozen 2; have y2 := (hbs1.ext hx2).cell (i := 2) rfl)
      have hx2 : Ext t1 x2 := hE2.upto hb2 (Nat.le_refl _)
      have hbb2 := (hbs1.ext hx2)
      have hbs2 := hbb2.set 2 (.slice aL y.l.length cL)
      have hXs2 := ((hY1).trans hx2)
      replace hoL := (hoL.low (B' := w3.heap.size) (Nat.le_trans hXr0.out (hY1.size))).setB (g := g7) (i := 2) (v := .slice aL y.l.length cL) hbb2 (by decide)
      replace hoT := (hoT.ext hx2).setB (g := g7) (i := 2) (v := .slice aL y.l.length cL) hbb2 (by decide)
      have hY2 : Ext wr _ := hXs2.setCell (c := g7) hg7 2 (.slice aL y.l.length cL)
      generalize World.setCell x2 ⟨g7, 2, none⟩ _ = t2 at *
      clear z2 y2 q2
      have hE3 := Ext.alloc t2 (.cells #[] 3)
      have hown3 : (t2.alloc (.cells #[] 3)).ownsRow t2.heap.size 3 1 (.slice (some ⟨t2.heap.size, 0, none⟩) 0 0) 0 [] := World.ownsRow_lit (size := 1) t2 #[] 0 (Nat.le_refl _) (by unfold maxLen; omega) rfl
      have q3 := (hbs2.ext hE3).cell (i := 3) rfl
      have raw3 := Lib.hid (((hrr.out.r.ext hY2).ext hE3).raw)
      go_upto_region 14 with (at_builtin; refine wpList_appendAll elInts rfl _ _ rfl rfl rfl hown3 raw3.out (ints_one _) (by simp) (by omega) (by omega) ?_; intro v3 x3 hoR hb3; rw [Nat.zero_add, List.nil_append] at hoR; replace hoR : OInts 3 x3 t2.heap.size v3 y.r := hoR; obtain ⟨aR, cR, huR, _⟩ := hoR.ints.open_; subst huR; have hx3 : Ext t2 x3 := hE3.upto hb3 (Nat.le_refl _); have z3 := (hbs2.ext hx3).frozen 3; have y3 := (hbs2.ext hx3).cell (i := 3) rfl)
      have hx3 : Ext t2 x3 := hE3.upto hb3 (Nat.le_refl _)
      have hbb3 := (hbs2.ext hx3)
      have hbs3 := hbb3.set 3 (.slice aR y.r.length cR)
      have hXs3 := ((hY2).trans hx3)
      replace hoR := (hoR.low (B' := w3.heap.size) (Nat.le_trans hXr0.out (hY2.size))).setB (g := g7) (i := 3) (v := .slice aR y.r.length cR) hbb3 (by decide)
      replace hoT := (hoT.ext hx3).setB (g := g7) (i := 3) (v := .slice aR y.r.length cR) hbb3 (by decide)
      replace hoL := (hoL.ext hx3).setB (g := g7) (i := 3) (v := .slice aR y.r.length cR) hbb3 (by decide)
      have hY3 : Ext wr _ := hXs3.setCell (c := g7) hg7 3 (.slice aR y.r.length cR)
      generalize World.setCell x3 ⟨g7, 3, none⟩ _ = t3 at *
      clear z3 y3 q3
      have hbn := Blk.alloc t3 #[.int .i64 y.f, .slice aT y.t.length cT, .slice aL y.l.length cL, .slice aR y.r.length cR] 70
      have hxn := Ext.alloc t3 (.cells #[.int .i64 y.f, .slice aT y.t.length cT, .slice aL y.l.length cL, .slice aR y.r.length cR] 70)
      have hXn := hY3.trans hxn
      replace hoT := hoT.ext hxn
      replace hoL := hoL.ext hxn
      replace hoR := hoR.ext hxn
      have hown2 := OCel.ext hown hXn
      have hRO2 := Lib.hid (hRO.out.ext hXn)
      have n0 := hbs3.cell (i := 0) rfl
      have n1 := hbs3.cell (i := 1) rfl
      have n2 := hbs3.cell (i := 2) rfl
      have n3 := hbs3.cell (i := 3) rfl
      have hzn := Nat.le_trans hXr.size hXn.size
      go_wp2_with (at_builtin; refine wpList_appendG (v := .slice ua RS.length uc) (g := t3.heap.size) (us := [.int .i64 y.f, .slice aT y.t.length cT, .slice aL y.l.length cL, .slice aR y.r.length cR]) elRul rfl _ _ rfl rfl rfl hown2 hbn rfl (by intro u hu; simp only [List.mem_cons, List.not_mem_nil, or_false] at hu; rcases hu with rfl | rfl | rfl | rfl <;> rfl) hzn (by omega) (by omega) ?_; intro v2 w2' ho2 hb2 hg2)
      go_roundg (gk-1)
      case measure => omega
      case rel =>
       have hT2 := OInts.rowKept hoT hown2 hg2 (by decide)
       have hL2 := OInts.rowKept hoL hown2 hg2 (by decide)
       have hR2 := OInts.rowKept hoR hown2 hg2 (by decide)
       have hXw := (hXr.trans hXn).rowGrown hown2 hg2
       refine ⟨k + 1, RS ++ [⟨y.f, .slice aT y.t.length cT, .slice aL y.l.length cL, .slice aR y.r.length cR⟩], by omega, by omega, by go_num, hXw, ocel_snoc (x := (⟨y.f, .slice aT y.t.length cT, .slice aL y.l.length cL, .slice aR y.r.length cR⟩ : RlC)) ho2, Lib.hid ?_⟩
       rw [List.take_add_one, List.getElem?_eq_getElem hlt, Option.toList_some, show s[k] = rulAt s k by unfold rulAt; rw [List.getElem?_eq_getElem hlt]; rfl, HY.out]
       exact (hRO2.out.rowKept hown2 hg2).snoc rfl hT2 hL2 hR2
     ·obtain rfl : k = s.length := by omega
      rw [List.take_length] at hRO
      obtain ⟨ua, uc, hul, _⟩ := (Cel.own encR_len hown).open_
      subst hul
      obtain ⟨SS, hSS2⟩ : ∃ SS : Nat → Bool, SS = fun k => k == gh || k == gq || between w3.heap.size wr.heap.size k := ⟨_, rfl⟩
      have HSS2 := Lib.hid hSS2
      have hSSl : ∀ k, SS k = true → k < wr.heap.size := fun k hk => by
       rw [HSS2.out] at hk
       simp only [Bool.or_eq_true, beq_iff_eq] at hk
       have := hXr.size
       rcases hk with (hk | hk) | hk
       ·omega
       ·omega
       ·exact (between_iff.1 hk).2
      have HNW := Lib.hid (New_c SS (.slice ua RS.length uc) s wr hSSl (Ruls.of_cel (Cel.own encR_len hown) hRO.out.ok))
      have HRA0 := Lib.hid (RulesAt.of hown hRO.out (fun k hk => by have := HLEN.out k hk; omega))
      have HRSL : Hid (RS.length ≤ 6) := Lib.hid (by rw [hRO.out.1]; exact HS6.out)
      have HX3r := Lib.hid hXr
      have hz3r := hXr.size
      clear hown hRO hSS2 hSSl hXr
      generalize RS.length = N at *
      go_wp2_with fail
      refine HNW.out.mono ?_; rintro e w5 ⟨hx5, ⟨h0, _⟩ | ⟨_, b2, m2, rv2, v2, he, hbz2, hSc2⟩⟩
      ·exact absurd HV.out h0
      subst he
      have HRA := Lib.hid (HRA0.out.ext hx5)
      have HSC2 := Lib.hid hSc2
      have HX35 := Lib.hid (HX3r.out.trans hx5)
      obtain ⟨QQ, hQQ⟩ : ∃ QQ, QQ = between w3.heap.size wr.heap.size := ⟨_, rfl⟩
      rw [← hQQ] at HRA
      have HQ : Hid (∀ k, QQ k = true → w3.heap.size ≤ k ∧ k < wr.heap.size) := Lib.hid (fun k hk => by rw [hQQ] at hk; exact between_iff.1 hk)
      have HQS : Hid (∀ k, QQ k = true → SS k = true) := Lib.hid (fun k hk => by rw [HSS2.out]; rw [hQQ] at hk; simp [hk])
      clear hQQ hSc2
      have hb23 : w3.heap.size ≤ b2 := by omega
      go_wp2_with fail
      go_loopg [15] N (fun m i wm => ∃ k : Nat, k ≤ N ∧ N ≤ k + m ∧ i = .int .i64 k ∧ IntX w5 wm ∧ ExtX QQ w5 wm)
      case atStart => exact ⟨0, by omega, by omega, rfl, IntX.refl _, ExtX.refl _ _⟩
      case round =>
       obtain ⟨k, hk1, hk2, rfl, hI, hX⟩ := hrel
       obtain ⟨wm, rfl⟩ : ∃ W : World, W = wr := ⟨_, rfl⟩
       by_cases hlt : k < N
       ·obtain ⟨g, o, cur, z, ta, tn, tc, la, ln, lc, rfl, hblk, hQg, e0, e1, e2, hNT, hNL, htn, hln⟩ := HRA.out k hlt
        have HBLK := Lib.hid hblk
        have HE0 := Lib.hid e0
        have HE1 := Lib.hid e1
        have HE2 := Lib.hid e2
        have HNT := Lib.hid hNT
        have HNL := Lib.hid hNL
        have hN6 := HRSL.out
        obtain ⟨g1, rfl⟩ : ∃ g : Nat, g = gk := ⟨_, rfl⟩
        clear hblk e0 e1 e2 hNT hNL
        go_wp2_with fail
        go_loopg [16] tn (fun m i wm => ∃ j : Nat, j ≤ tn ∧ tn ≤ j + m ∧ i = .int .i64 j ∧ IntX w5 wm ∧ ExtX QQ w5 wm)
        case atStart => exact ⟨0, by omega, by omega, rfl, hI, hX⟩
        case round =>
         clear hI hX
         obtain ⟨j, hj1, hj2, rfl, hI, hX⟩ := hrel
         obtain ⟨wm, rfl⟩ : ∃ W : World, W = wr := ⟨_, rfl⟩
         have d1 := hI.slice HBLK.out HE1.out
         by_cases hjt : j < tn
         ·obtain ⟨q, oq, curq, zq, rfl, hq, hQq, hcq⟩ := HNT.out j hjt
          have HQ1 := Lib.hid hq
          have HQ2 := Lib.hid hcq
          clear hq hcq
          obtain ⟨⟨zj, hzj⟩, hfj⟩ := hI.int HQ1.out HQ2.out
          go_upto_region 24 with fail
          refine wp_region_treeR (fun a b => Ext a b) [17] (.look 0 (.look 1 (.look 2 (.look 3 (.look 4 (.look 5 (.look 6 (.look 7 (.look 8 (.look 9 (.look 10 (.look 11 (.look 12 (.look 13 (.look 14 (.look 15 (.look 16 (.one 17 .done)))))))))))))))))) (fun w => Ext.refl w) (fun a b c h k => Ext.trans h k) (by kernel_rfl) (by kernel_rfl) (by intro c a d v w h; cases d <;> exact h) ?_
          have hd := drawnP_ext wm
          replace hI := hI.ext hd
          replace hX := hX.trans (hd.toX _)
          clear d1 hzj hfj
          generalize { wm with drawn := wm.drawn + 1 } = W0 at *
          clear hd
          obtain ⟨⟨zj, hzj⟩, hfj⟩ := hI.int HQ1.out HQ2.out
          have d1 := hI.slice HBLK.out HE1.out
          have q1 : ∀ q' : InC (fun c => Ext W0 c), q'.w.cell? ⟨g, o + k * 4 + 1, none⟩ = some (.slice (some ⟨q, oq, none⟩) tn tc) := fun q' => q'.h.keep d1
          have q2 : ∀ q' : InC (fun c => Ext W0 c), q'.w.cell? ⟨q, oq + j, none⟩ = some (.int .i64 zj) := fun q' => q'.h.keep hzj
          have HW := Lib.hid (write_num hI hX HQ1.out hQq HQ2.out)
          iterate 17 (refine wpTreeR_look rfl (fun K hK => ?_); go_simp; first | (refine hK _ ?_; clear hK K) | (refine ⟨_, fun _ => rfl, hK _ ?_⟩; clear hK K))
          refine wpTreeR_one rfl rfl (fun K hK => ?_)
          go_wp2_with fail
          refine ⟨.inl (by simp), ?_⟩
          refine wpTreeR_done ?_
          go_wp2_with fail
          go_roundg (gk-1)
          case measure => omega
          case rel => exact ⟨j + 1, by omega, by omega, by go_num, (HW.out _).1, (HW.out _).2⟩
         ·obtain rfl : j = tn := by omega
          go_wp2_with fail
          go_loopg [17] ln (fun m i wm => ∃ j : Nat, j ≤ ln ∧ ln ≤ j + m ∧ i = .int .i64 j ∧ IntX w5 wm ∧ ExtX QQ w5 wm)
          case atStart => exact ⟨0, by omega, by omega, rfl, hI, hX⟩
          case round =>
           clear hI hX d1
           obtain ⟨j2, hj21, hj22, rfl, hI, hX⟩ := hrel
           obtain ⟨wm, rfl⟩ : ∃ W : World, W = wr := ⟨_, rfl⟩
           have d2 := hI.slice HBLK.out HE2.out
           by_cases hjt2 : j2 < ln
           ·obtain ⟨q, oq, curq, zq, rfl, hq, hQq, hcq⟩ := HNL.out j2 hjt2
            obtain ⟨⟨zj, hzj⟩, hfj⟩ := hI.int hq hcq
            have HW := Lib.hid (write_num hI hX hq hQq hcq)
            clear hq hcq
            go_wp2_with fail
            go_roundg (gk-1)
            case measure => omega
            case rel => exact ⟨j2 + 1, by omega, by omega, by go_num, (HW.out _).1, (HW.out _).2⟩
           ·obtain rfl : j2 = ln := by omega
            obtain ⟨⟨z0, d0⟩, f0⟩ := hI.int HBLK.out HE0.out
            have HW := Lib.hid (write_num hI hX HBLK.out hQg HE0.out)
            go_wp2_with fail
            go_roundg (g1-1)
            case measure => omega
            case rel => exact ⟨k + 1, by omega, by omega, by go_num, (HW.out _).1, (HW.out _).2⟩
       ·obtain rfl : k = N := by omega
        have HXQ := Lib.hid hX
        have HX3m : Hid (Ext w3 wm) := Lib.hid (((HX35.out.toX QQ).trans hX).ext (fun i hi => by
         cases e : QQ i with
         | false => rfl
         | true => have := (HQ.out i e).1; omega))
        have hSm := HSC2.out.far hX (fun i hi => more_in (HQS.out i hi)) (by
         cases e : QQ b2 with
         | false => rfl
         | true => have := (HQ.out b2 e).2; omega)
        have HSM := Lib.hid hSm
        have HXM : Hid (Ext w wm) := Lib.hid (HX3'.out.trans HX3m.out)
        have HBE2 : Hid (∀ k, beg9 b2 gh gq k = true → w.heap.size ≤ k ∧ k < wm.heap.size) := Lib.hid (fun k hk => by
         have h1 := HX3'.out.size
         have h2 := HX3m.out.size
         have h3 : b2 < wm.heap.size := HSM.out.hb.lt
         rcases beg9_or hk with rfl | rfl | rfl
         ·omega
         ·omega
         ·omega)
        have HS7 : Hid (∀ k, beg9 b2 gh gq k = true → 7 ≤ k) := Lib.hid (fun k hk => Nat.le_trans h7 (HBE2.out k hk).1)
        have HFW2 := Lib.hid (few_c (beg9 b2 gh gq) _ l wm (fun k hk => (HBE2.out k hk).2) (HL.out.ext (hole_new HXM.out (fun k hk => (HBE2.out k hk).1))))
        clear hX hI hSm
        go_wp2_with fail
        refine HFW2.out.mono ?_; rintro e w6 ⟨u6, rfl, hu6, hx6⟩
        have HX6 := Lib.hid (HXM.out.trans hx6)
        have hp6 : Pair (beg9 b2 gh gq) w6 b2 gh m2 rv2 uq st0 s w6 := pair_of (HSM.out.ext hx6) (HNR.out.move (HX3m.out.trans hx6) hb23) (by omega) (by omega) (more_in (by rw [HSS2.out]; simp)) (more_in (by rw [HSS2.out]; simp))
        have hb27 : 7 ≤ b2 := by have := HX3'.out.size; omega
        have HAL := Lib.hid (all_c hp6 (HE.out.ext HX6.out) (HT.out.ext HX6.out) hb27 HS7.out u6 (l.take 30) hu6)
        clear hp6 hu6
        obtain ⟨x, hx⟩ : ∃ x, x = runS s st0 (l.take 30) := ⟨_, rfl⟩
        rw [← hx] at HAL
        clear hx
        go_wp2_with fail
        refine HAL.out.mono ?_; rintro e w7' ⟨rfl, hP7⟩
        have HFF : Hid (∀ W, ExtX (beg9 b2 gh gq) w6 W → Ext w W) := Lib.hid (fun W hW => ((HX6.out.toX (beg9 b2 gh gq)).trans hW).ext (fun i hi => by
         cases e : beg9 b2 gh gq i with
         | false => rfl
         | true => have := (HBE2.out i e).1; omega))
        have HP7 := Lib.hid hP7
        obtain ⟨S7, R7, v7, r7, hS7, hR7, _⟩ := hP7.both
        have HSL := Lib.hid (Slate_c hS7)
        clear hP7 hS7 hR7
        go_wp2_with fail
        refine HSL.out.mono ?_; rintro e w8 ⟨vs, rfl, hos, hx8⟩
        obtain ⟨sa, sc, hvs, _⟩ := (Cel.own encCh_len hos).open_
        subst hvs
        have HNS := Lib.hid (ChsAt.of hos)
        have hsl60 : x.slate.length ≤ 60 := HP7.out.inv.slen
        obtain ⟨Q8, hQ8⟩ : ∃ Q8, Q8 = between w7'.heap.size w8.heap.size := ⟨_, rfl⟩
        rw [← hQ8] at HNS
        have HQ8 : Hid (∀ k, Q8 k = true → w7'.heap.size ≤ k) := Lib.hid (fun k hk => by rw [hQ8] at hk; exact (between_iff.1 hk).1)
        have HX8 := Lib.hid hx8
        clear hos hx8 hQ8
        go_wp2_with fail
        go_loopg [19] x.slate.length (fun m i wm => ∃ k : Nat, k ≤ x.slate.length ∧ x.slate.length ≤ k + m ∧ i = .int .i64 k ∧ IntX w8 wm ∧ ExtX Q8 w8 wm)
        case atStart => exact ⟨0, by omega, by omega, rfl, IntX.refl _, ExtX.refl _ _⟩
        case round =>
         obtain ⟨k, hk1, hk2, rfl, hI, hX⟩ := hrel
         obtain ⟨wm, rfl⟩ : ∃ W : World, W = wr := ⟨_, rfl⟩
         by_cases hlt : k < x.slate.length
         ·obtain ⟨q, oq, curq, zq, rfl, hq, hQq, hcq⟩ := HNS.out k hlt
          obtain ⟨⟨zj, hzj⟩, hfj⟩ := hI.int hq hcq
          have HW := Lib.hid (write_num hI hX hq hQq hcq)
          clear hq hcq
          go_wp2_with fail
          go_roundg (gk-1)
          case measure => omega
          case rel => exact ⟨k + 1, by omega, by omega, by go_num, (HW.out _).1, (HW.out _).2⟩
         ·obtain rfl : k = x.slate.length := by omega
          have hx9 : Ext w7' wm := ((HX8.out.toX Q8).trans hX).ext (fun i hi => by
           cases e : Q8 i with
           | false => rfl
           | true => have := HQ8.out i e; omega)
          have HP9 := Lib.hid (HP7.out.ext hx9)
          obtain ⟨S9, R9, v9, r9, hS9, hR9, _⟩ := HP9.out.both
          have HWC := Lib.hid (Word_c hS9)
          clear hI hX hx9 hS9 hR9
          obtain ⟨lw, hlw⟩ : ∃ lw, lw = lastW x := ⟨_, rfl⟩
          have hlw8 : lw.length ≤ 1000000 := by
           have := HP7.out.inv.last
           rw [← hlw] at this
           unfold validW at this
           split at this
           ·cases this
           ·omega
          rw [← hlw] at HWC
          clear hlw
          go_wp2_with fail
          refine HWC.out.mono ?_; rintro e w10 ⟨vw, rfl, how, hx10⟩
          obtain ⟨wa, wc, hvw, _⟩ := how.ints.open_
          subst hvw
          have HNW2 := Lib.hid (NumsAt.of how)
          obtain ⟨Q10, hQ10⟩ : ∃ Q10, Q10 = between wm.heap.size w10.heap.size := ⟨_, rfl⟩
          rw [← hQ10] at HNW2
          have HQ10 : Hid (∀ k, Q10 k = true → wm.heap.size ≤ k) := Lib.hid (fun k hk => by rw [hQ10] at hk; exact (between_iff.1 hk).1)
          have HX10 := Lib.hid hx10
          clear how hx10 hQ10
          go_wp2_with fail
          go_loopg [22] lw.length (fun m i wn => ∃ k : Nat, k ≤ lw.length ∧ lw.length ≤ k + m ∧ i = .int .i64 k ∧ IntX w10 wn ∧ ExtX Q10 w10 wn)
          case atStart => exact ⟨0, by omega, by omega, rfl, IntX.refl _, ExtX.refl _ _⟩
          case round =>
           obtain ⟨k, hk1, hk2, rfl, hI, hX⟩ := hrel
           obtain ⟨wn, rfl⟩ : ∃ W : World, W = wr := ⟨_, rfl⟩
           by_cases hlt : k < lw.length
           ·obtain ⟨q, oq, curq, zq, rfl, hq, hQq, hcq⟩ := HNW2.out k hlt
            obtain ⟨⟨zj, hzj⟩, hfj⟩ := hI.int hq hcq
            have HW := Lib.hid (write_num hI hX hq hQq hcq)
            clear hq hcq
            go_wp2_with fail
            go_roundg (gk-1)
            case measure => omega
            case rel => exact ⟨k + 1, by omega, by omega, by go_num, (HW.out _).1, (HW.out _).2⟩
           ·obtain rfl : k = lw.length := by omega
            have hx11 : Ext wm wn := ((HX10.out.toX Q10).trans hX).ext (fun i hi => by
             cases e : Q10 i with
             | false => rfl
             | true => have := HQ10.out i e; omega)
            have hP11 := HP9.out.ext hx11
            clear hI hX hx11
            have HP11 := Lib.hid hP11
            have HEQ := Lib.hid (pair_equal hP11 (HE.out.ext (HFF.out _ hP11.far)))
            clear hP11
            go_wp2_with fail
            refine HEQ.out.mono ?_; rintro e w12 ⟨rfl, hx12⟩
            have hP12 := HP11.out.ext hx12
            have hE12 := HE.out.ext (HFF.out _ hP12.far)
            have hT12 := HT.out.ext (HFF.out _ hP12.far)
            have HDO := Lib.hid (pair_last hP12 hE12 hT12 hb27 text)
            have HFA := Lib.hid hP12.far
            have HORD := Lib.hid (fun (hz : (doS s x text).2 = 0) => do_orders hz)
            have HIN := Lib.hid (do_inv hP12.inv text)
            have HOL := Lib.hid hP12.inv.olen
            clear hP12 hE12 hT12 hx12
            by_cases hz : (doS s x text).2 = 0
            ·have HOR := Lib.hid (HORD.out hz)
             generalize doS s x text = DD at *
             obtain ⟨D1, D2⟩ := DD
             dsimp only at hz
             subst hz
             dsimp only at HDO HOR HIN
             go_wp2_with fail
             refine HDO.out.mono ?_; rintro e w13 ⟨rfl, hX13, _, S13, v13, r13, R13, hS13, hR13⟩
             have HX13 : Hid (Ext w w13) := Lib.hid (HFF.out _ (HFA.out.transN hX13 (fun i hi => by
              have : i = b2 := by simpa [one] using hi
              subst this; exact .inl (more_in (more_in (more_self _ _))))))
             have HBK := Lib.hid (Book_c hS13 (HE.out.ext HX13.out))
             obtain ⟨q1, q2, q3⟩ := book_read HIN.out
             have hra0 : ((readRest (bookB D1.orders)).toList == []) = decide ((readB (bookB D1.orders)).2 = []) := rest_empty _
             have hra : ((readRest (bookB D1.orders)).toList == []) = true := hra0.trans (decide_eq_true q2)
             clear hra0
             have HRD := Lib.hid (fun W (q : Ext w13 W) => Read_c ⟨(bookB D1.orders).toArray⟩ W (HE.out.ext (HX13.out.trans q)) (by rw [show (⟨(bookB D1.orders).toArray⟩ : ByteArray).size = (bookB D1.orders).length from ofBs_size _]; omega))
             rw [show txt (⟨(bookB D1.orders).toArray⟩ : ByteArray) = bookB D1.orders from txt_of _, q1, HOR.out.1] at HRD
             obtain ⟨oa, oc, hov, _⟩ := (hR13.orders.cel encT_len).open_
             have hcel := hR13.orders.cel encT_len
             have c8 := hR13.hb.cell (i := 8) rfl
             rw [hov] at c8 hcel
             have HCEL := Lib.hid hcel
             rw [HOR.out.1] at HBK hra
             generalize readRest _ = rr at *
             clear hS13 hR13 hov hcel q1 q2 q3
             go_wp2_with fail
             refine HBK.out.mono ?_; rintro e w14 ⟨rfl, hx14⟩
             go_wp2_with fail
             refine (HRD.out w14 hx14).mono ?_; rintro e w15 ⟨vo, rfl, hoo, hx15⟩
             have hx15' := hx14.trans hx15
             replace c8 := hx15'.keep c8
             have HX15 := Lib.hid hx15'
             have HOO := Lib.hid hoo
             obtain ⟨ra9, rc9, hvo, _⟩ := (Cel.own encT_len hoo).open_
             rw [List.length_append, List.length_singleton] at hvo
             subst hvo
             have hE0 := Ext.alloc w15 (.cells #[] 9)
             have hown0 : (w15.alloc (.cells #[] 9)).ownsRow w15.heap.size 9 1 (.slice (some ⟨w15.heap.size, 0, none⟩) 0 0) 0 [] := World.ownsRow_lit (size := 1) w15 #[] 0 (Nat.le_refl _) (by unfold maxLen; omega) rfl
             have hraw := Lib.hid (Cel.raw encT_len (by omega) (HCEL.out.ext (hx15'.trans hE0)))
             have c8' := hE0.keep c8
             have hz0 : w15.heap.size ≤ (w15.alloc (.cells #[] 9)).heap.size := hE0.size
             have hol := HOL.out
             clear hoo hx15' hx14 hx15
             have HOW : Hid (∀ (v' : Value) (W : World), W.ownsRow w15.heap.size 9 1 v' (0 + x.orders.length) ([] ++ x.orders.flatMap encT) → OCel encT 1 9 W w15.heap.size v' x.orders) := Lib.hid (fun v' W h => by unfold OCel; simpa using h)
             have HXF := Lib.hid (HX13.out.trans HX15.out)
             go_wp2_with (at_builtin; first
              | (refine wpList_unguard rfl ?_; refine wpList_appendAll elStr rfl _ _ rfl rfl rfl hown0 hraw.out (flat_one encT_one) hz0 (by omega) (by omega) ?_; intro v16 w16 ho16 hb16; replace ho16 := HOW.out v16 w16 ho16; obtain ⟨a16, c16, hv16, _⟩ := (Cel.own encT_len ho16).open_; subst hv16; have hx16 := hE0.upto hb16 (Nat.le_refl _); have hz16 := hx16.size)
              | (refine wpList_unguard rfl ?_; refine wpList_appendS (enc := encT) (L := x.orders) (v := .slice a16 x.orders.length c16) text elStr rfl _ _ rfl rfl rfl ho16 rfl rfl rfl (fun u hu => encT_one text u hu) hz16 (by omega) (by omega) ?_; intro v17 w17 ho17 hb17 hg17 hn17; have hx17 := hx16.upto hb17 (Nat.le_refl _)))
             refine (sameTexts9_t _ _ (x.orders ++ [text]) w17 (Cel.own encT_len (HOO.out.ext hx17)) (Cel.own encT_len ho17)).mono ?_; rintro e w18 ⟨rfl, hx18⟩
             have hXe := (HXF.out.trans hx17).trans hx18
             clear hn17 hg17 hb17 ho17 hb16 ho16 hx16 hz16 hx17 hx18 hE0 hown0 hz0 c8'
             go_wp2_with fail
             refine (HSA.out w18 hXe).mono ?_; rintro e w19 ⟨rfl, hx19⟩
             go_wp2_with fail
             go_ret
             exact ⟨rfl, hXe.trans hx19⟩
            ·have hzn : ((doS s x text).2 != 0) = true := by simpa using hz
             generalize hdd : (doS s x text).2 = D2 at *
             go_wp2_with fail
             refine HDO.out.mono ?_; rintro e w13 ⟨rfl, hX13, hPn, _⟩
             have hP13 := hPn hz
             have HX13 : Hid (Ext w w13) := Lib.hid (HFF.out _ hP13.far)
             have HEQ2 := Lib.hid (pair_equal hP13 (HE.out.ext HX13.out))
             clear hP13 hPn hX13
             go_wp2_with fail
             refine HEQ2.out.mono ?_; rintro e w14 ⟨rfl, hx14⟩
             go_wp2_with fail
             refine (HSA.out w14 (HX13.out.trans hx14)).mono ?_; rintro e w15 ⟨rfl, hx15⟩
             go_wp2_with fail
             go_ret
             exact ⟨rfl, (HX13.out.trans hx14).trans hx15⟩
   ·have HV := Lib.hid hv; clear hv
    go_enter Tryz.func11, Tryz.ntmps11
    go_wp2_with fail
    refine HLG.out.mono ?_; rintro e w1 ⟨rfl, hx1⟩
    go_wp2_with fail
    refine (HLO.out w1 hx1).mono ?_; rintro e w2 ⟨rfl, hx2⟩
    go_wp2_with fail
    refine (HBE.out w2 (hx1.trans hx2)).mono ?_; rintro e w3 ⟨hx3, ⟨h0, he⟩ | ⟨h0, _⟩⟩
    rotate_left
    ·exact absurd h0 HV.out
    clear h0
    subst he
    have hX3 := (hx1.trans hx2).trans hx3
    go_wp2_with fail
    refine (HFA.out w3 hX3 HV.out).mono ?_; rintro e w4 ⟨rfl, hx4⟩
    go_wp2_with fail
    go_ret
    exact ⟨rfl, hX3.trans hx4⟩
end Go.Proofs.YtpmlcfgbfhgpgaaGreatDoor
