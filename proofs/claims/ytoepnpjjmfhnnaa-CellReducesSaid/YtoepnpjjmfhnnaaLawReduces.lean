/- CellReduces: which entries are needless, and the paradigm without those that are, in new memory, agree with the reference; its forms are the same. No condition. -/
import Derived.Test.YtoepnpjjmfhnnaaLawWithout
namespace Go.Proofs.Ytoepnpjjmfhnnaa
open Go.RowKit Go.Shelf
set_option linter.unusedVariables false

theorem ite_isInts {c : Prop} [Decidable c] (a b : List Int) : (if c then isInts a else isInts b) = isInts (if c then a else b) := by split <;> rfl
theorem long_no {sizes : List Int} {es : List Ent} (h : longB sizes es = false) : es.length ≤ 1000 ∧ sizes.length ≤ 1000 ∧ ∀ i, i < es.length → (ent es i).1.length ≤ 1000 := by
  simp only [longB, Bool.or_eq_false_iff, decide_eq_false_iff_not, Bool.not_eq_false'] at h
  obtain ⟨h1, h2, h3⟩ := h
  refine ⟨by omega, by omega, fun i hi => ?_⟩
  rw [allB, List.all_eq_true] at h3
  have := h3 i (by simpa using hi)
  simp at this; omega
/-- rows of ints of one's own, of such lengths -/
def LenO (w : World) (B : Nat) (us : List Value) (ns : List (List Int)) : Prop := us.length = ns.length ∧ ∀ (i : Nat) (u : Value), us[i]? = some u → ∃ l : List Int, l.length = (ns[i]?.getD []).length ∧ OInts 3 w B u l
theorem AllO.lenO {w : World} {B : Nat} {us : List Value} {ls : List (List Int)} (h : AllO w B us ls) : LenO w B us ls := ⟨h.1, fun i u hu => ⟨_, rfl, h.2 i u hu⟩⟩
theorem OInts.write {w : World} {B r i : Nat} {u : Value} {l : List Int} {x : Int} (h : OInts 3 w B u l) : ∃ l', l'.length = l.length ∧ OInts 3 (w.setCell ⟨r, i, none⟩ (.int .i64 x)) B u l' := by
  by_cases hr : u.ownBlock = some r
  · rcases h.2 with ⟨rfl, _⟩ | ⟨g, cap, cur, rfl, hg, hh, hnc, hm, hcs, ht⟩
    · cases hr
    · simp only [Value.ownBlock, Option.some.injEq] at hr; subst hr
      by_cases hi : i < l.length
      · refine ⟨l.set i x, by simp, ?_⟩
        have := ownsRow_set (i := i) h (by simpa using hi) (.int .i64 x)
        unfold OInts
        rw [List.length_set, show Go.Proofs.Ytoepnpjjmfhnnaa.ints (l.set i x) = (Go.Proofs.Ytoepnpjjmfhnnaa.ints l).set i (.int .i64 x) from by simp [Go.Proofs.Ytoepnpjjmfhnnaa.ints, List.map_set]]; exact this
      · refine ⟨l, rfl, h.1, .inr ⟨g, cap, cur.setIfInBounds i (.int .i64 x), rfl, hg, ?_, hnc, hm, by simpa using hcs, ?_⟩⟩
        · simp [World.setCell, Array.getElem?_modify, hh]
        · rw [Array.toList_setIfInBounds, List.take_set_of_le (by omega), ht]
  · exact ⟨l, rfl, World.ownsRow.kept h (grownBy_set w r i _) (.inr hr)⟩
structure SpW (B g : Nat) (sv ev : Value) (us : List Value) (es : List Ent) (wc wr : World) : Prop where
  box : BoxP wr g sv ev
  row : wr.ownsRow B 54 2 ev es.length (eCells us es)
  len : LenO wr B us (es.map Prod.fst)
  ext : Ext wc wr
theorem SpW.at_ {B g : Nat} {sv ev : Value} {us : List Value} {es : List Ent} {wc wr : World} (h : SpW B g sv ev us es wc wr) {k : Nat} (hk : k < es.length) :
    ∃ ge cap u, ∃ l : List Int, ev = .slice (some ⟨ge, 0, none⟩) es.length cap ∧ es.length ≤ cap ∧ cap ≤ 9223372036854775807 ∧ wr.cell? ⟨ge, k * 2, none⟩ = some u ∧ us[k]? = some u ∧ l.length = (ent es k).1.length ∧ OInts 3 wr B u l := by
  have hul : us.length = es.length := by rw [h.len.1]; simp
  have hl := h.row.1
  rcases h.row.2 with ⟨_, h0⟩ | ⟨ge, cap, cur, rfl, hg, hh, hnc, hm, hcs, ht⟩
  · omega
  · obtain ⟨l, h1, h2⟩ := h.len.2 k us[k] (List.getElem?_eq_getElem (by omega))
    refine ⟨ge, cap, us[k], l, rfl, hnc, hm, ?_, List.getElem?_eq_getElem (by omega), by rw [h1, map_fst_get], h2⟩
    rw [h.row.cellAt (k * 2) (by omega), eCells_spec us es k hul, List.getElem?_eq_getElem (by omega)]
theorem SpW.write {B g r i : Nat} {sv ev : Value} {us : List Value} {es : List Ent} {wc wr : World} (h : SpW B g sv ev us es wc wr) (hB : wc.heap.size ≤ r) (hr : ∀ x, some r = some x → ∃ cur, wr.heap[x]? = some (.cells cur 3 (0, 0))) (x : Int) :
    SpW B g sv ev us es wc (wr.setCell ⟨r, i, none⟩ (.int .i64 x)) := by
  obtain ⟨cur, hh⟩ := hr r rfl
  refine ⟨h.box.kept (grownBy_set wr r i _) (fun e => ?_), World.ownsRow.kept h.row (grownBy_set wr r i _) ?_, ⟨h.len.1, fun k u hu => ?_⟩, h.ext.setCell hB i _⟩
  · injection e with e; subst e
    have := h.box; rw [BoxP, hh] at this; injection this with this; injection this with _ this; exact absurd this (by decide)
  · rcases h.row.2 with ⟨rfl, _⟩ | ⟨g', cap, cur', rfl, _, hgb, _⟩
    · exact .inl rfl
    · refine .inr fun he => ?_
      simp only [Value.ownBlock, Option.some.injEq] at he; subst he
      rw [hh] at hgb; injection hgb with hgb; injection hgb with _ hgb; exact absurd hgb (by decide)
  · obtain ⟨l, h1, h2⟩ := h.len.2 k u hu
    obtain ⟨l', h3, h4⟩ := h2.write (r := r) (i := i) (x := x)
    exact ⟨l', h3.trans h1, h4⟩
theorem OInts.spot {w : World} {B : Nat} {u : Value} {l : List Int} (h : OInts 3 w B u l) {i : Nat} (hi : i < l.length) : ∃ r cap, u = .slice (some ⟨r, 0, none⟩) l.length cap ∧ l.length ≤ cap ∧ cap ≤ 9223372036854775807 ∧ B ≤ r ∧ (∃ cur, w.heap[r]? = some (.cells cur 3 (0, 0))) ∧
    w.cell? ⟨r, i, none⟩ = some (.int .i64 (l[i]?.getD 0)) ∧ w.frozen? ⟨r, i, none⟩ = false := by
  rcases h.2 with ⟨_, h0⟩ | ⟨g, cap, cur, rfl, hg, hh, hnc, hm, hcs, ht⟩
  · omega
  · refine ⟨g, cap, rfl, hnc, hm, hg, ⟨cur, hh⟩, ?_, ?_⟩
    · rw [World.ownsRow.cellAt (show w.ownsRow B 3 1 (.slice (some ⟨g, 0, none⟩) l.length cap) l.length (Go.Proofs.Ytoepnpjjmfhnnaa.ints l) from ⟨by simp, .inr ⟨g, cap, cur, rfl, hg, hh, hnc, hm, hcs, ht⟩⟩) i (by simpa using hi), ints_get l i hi]
    · simp [World.frozen?, hh]

set_option maxHeartbeats 4000000 in
set_option maxRecDepth 100000 in
theorem cellReduces_c (sv ev : Value) (sizes : List Int) (es : List Ent) (w : World) (hp : Par w sv ev sizes es) :
    Calls Try.prog 12 #[.agg #[sv, ev]] w (RV (.bool true) w) := by
  have HP := Lib.hid hp
  obtain ⟨wA, hwA⟩ : ∃ wA, wA = w.alloc (.cells #[sv, ev] 25) := ⟨_, rfl⟩
  have hE0 : Ext w wA := by rw [hwA]; exact Ext.alloc _ _
  have hz1 : BoxP wA w.heap.size sv ev := by rw [hwA]; exact BoxP.new w _ _ rfl
  have hb0 := hz1.c0
  have hb1 := hz1.c1
  have HL := Lib.hid (long_c sv ev sizes es wA (hp.ext hE0))
  have HW := Lib.hid hwA; clear hwA hz1 hp
  cases hl : longB sizes es
  · rw [hl] at HL
    have HLO := Lib.hid (long_no hl)
    clear hl
    have HN := Lib.hid (fun W (h : Ext w W) => Needless_c sv ev sizes es W (HP.out.ext h))
    have HRN := Lib.hid (fun W (h : Ext w W) => rNeedless_c sv ev sizes es W (HP.out.ext h))
    simp only [ite_isInts] at HN HRN
    have HCP := Lib.hid (fun W (h : Ext w W) => rCopy_c sv ev sizes es W (HP.out.ext h) HLO.out.1 HLO.out.2.1 HLO.out.2.2)
    have HRD := Lib.hid (fun W s e (h : Par W s e sizes es) => Reduce_c s e sizes es W h)
    have HRR := Lib.hid (fun W (h : Ext w W) => rReduce_c sv ev sizes es W (HP.out.ext h))
    have HSM := Lib.hid (fun W s e (h : Par W s e (redS sizes es) (redE sizes es)) (hx : Ext w W) => Same_c s e sv ev (redS sizes es) (redE sizes es) sizes es W h (HP.out.ext hx))
    have HZ : validI sizes es = 0 → sameK (redS sizes es) (redE sizes es) sizes es = 0 ∧ sameV (redS sizes es) (redE sizes es) sizes es = true := fun h => by
      have V := validI_zero h
      rw [redS, if_pos h, redE, if_pos h]
      obtain ⟨V2, hf⟩ := red_fill sizes (fillL sizes es) es.length es (Nat.le_refl _) V rfl
      exact ⟨sameK_ok V2 V, by rw [sameV_ok V2 V, hf, sameIntsB_refl]⟩
    replace HZ := Lib.hid HZ
    generalize (if validI sizes es = 0 then needL sizes es else []) = NL at *
    generalize sameK (redS sizes es) (redE sizes es) sizes es = sk at *
    generalize sameV (redS sizes es) (redE sizes es) sizes es = sb at *
    generalize redS sizes es = S at *
    generalize redE sizes es = E at *
    generalize validI sizes es = k at *
    have hkk : (k != k) = false := by simp
    go_enter Try.func12, Try.ntmps12
    go_wp2_with fail
    rw [← HW.out]
    refine HL.out.mono ?_; rintro e w1 ⟨rfl, hB1⟩
    have hb0 := hB1.keep hb0
    have hb1 := hB1.keep hb1
    have hX1 := hE0.trans hB1
    go_wp2_with fail
    refine (HN.out w1 hX1).mono ?_; rintro e w2 ⟨v2, rfl, hi2, hx2⟩
    have HI2 := Lib.hid hi2; clear hi2
    have hb0 := hx2.keep hb0
    have hb1 := hx2.keep hb1
    have hX2 := hX1.trans hx2
    go_wp2_with fail
    refine (HRN.out w2 hX2).mono ?_; rintro e w3 ⟨v3, rfl, hi3, hx3⟩
    have HI3 := Lib.hid hi3; clear hi3
    have hb0 := hx3.keep hb0
    have hb1 := hx3.keep hb1
    have hX3 := hX2.trans hx3
    go_wp2_with fail
    refine (HCP.out w3 hX3).mono ?_; rintro e w4 ⟨s4, e4, rfl, hov, hoe, hx4⟩
    obtain ⟨a4, c4, rfl, _⟩ := hov.ints.open_
    obtain ⟨b4, d4, rfl, _⟩ := hoe.ents.open_
    have hA4 := Ext.alloc w4 (.cells #[.slice a4 sizes.length c4, .slice b4 es.length d4] 25)
    have hbo := BoxP.new w4 (.slice a4 sizes.length c4) (.slice b4 es.length d4) rfl
    have HPO := Lib.hid (show Par _ _ _ sizes es from ⟨hov.ints.ext hA4, hoe.ents.ext hA4⟩)
    clear hov hoe
    have hy4 := hx4.trans hA4
    have hb0 := hy4.keep hb0
    have hb1 := hy4.keep hb1
    have hX4 := hX3.trans hy4
    have ho0 := hbo.c0
    have ho1 := hbo.c1
    go_wp2_with fail
    refine (HRD.out _ _ _ HPO.out).mono ?_; rintro e w5 ⟨s5, e5, rfl, hov, hoe, hx5⟩
    have hwc : ∃ wc, wc = w4.alloc (.cells #[.slice a4 sizes.length c4, .slice b4 es.length d4] 25) := ⟨_, rfl⟩
    obtain ⟨wc, hwc⟩ := hwc
    rw [← hwc] at hx5 hX4 hbo HPO hov hoe
    obtain ⟨a5, c5, rfl, _⟩ := hov.ints.open_
    obtain ⟨b5, d5, rfl, _⟩ := hoe.ents.open_
    have hA5 := Ext.alloc w5 (.cells #[.slice a5 S.length c5, .slice b5 E.length d5] 25)
    have hbc := BoxP.new w5 (.slice a5 S.length c5) (.slice b5 E.length d5) rfl
    have HOV := Lib.hid (OInts.ext hov hA5)
    have HOE := Lib.hid (OEnts.ext hoe hA5)
    clear hov hoe
    have HY4 : Hid (Ext w3 wc) := Lib.hid (by rw [hwc]; exact hy4)
    have hy5 := hx5.trans hA5
    have hX5 := hX4.trans hy5
    have hpb0 : wc.cell? ⟨w.heap.size, 0, none⟩ = some sv := by rw [hwc]; exact hb0
    have hpb1 : wc.cell? ⟨w.heap.size, 1, none⟩ = some ev := by rw [hwc]; exact hb1
    have HXC := Lib.hid hX4
    have hb0 := hy5.keep hpb0
    have hb1 := hy5.keep hpb1
    have HPB := Lib.hid (And.intro hpb0 hpb1); clear hpb0 hpb1
    clear ho0 ho1
    go_wp2_with fail
    refine (HRR.out _ hX5).mono ?_; rintro e w6 ⟨s6, e6, rfl, hov, hoe, hx6⟩
    obtain ⟨a6, c6, rfl, _⟩ := hov.ints.open_
    obtain ⟨b6, d6, rfl, _⟩ := hoe.ents.open_
    have hA6 := Ext.alloc w6 (.cells #[.slice a6 S.length c6, .slice b6 E.length d6] 25)
    have hbd := BoxP.new w6 (.slice a6 S.length c6) (.slice b6 E.length d6) rfl
    have HPD := Lib.hid (show Par _ _ _ S E from ⟨hov.ints.ext hA6, hoe.ents.ext hA6⟩)
    clear hov hoe
    have hy6 := hx6.trans hA6
    have hX6 := hX5.trans hy6
    have hb0 := hy6.keep hb0
    have hb1 := hy6.keep hb1
    have hbc := hbc.ext hy6
    have hC6 := hy5.trans hy6
    have HSI := Lib.hid (sameInts_c v2 v3 NL NL _ (HI2.out.ext (hx3.trans (HY4.out.trans hC6))) (HI3.out.ext (HY4.out.trans hC6)))
    rw [sameIntsB_refl] at HSI
    have m0 := hbc.c0
    have m1 := hbc.c1
    have n0 := hbd.c0
    have n1 := hbd.c1
    go_wp2_with fail
    generalize hw7 : w6.alloc (.cells #[.slice a6 S.length c6, .slice b6 E.length d6] 25) = w7 at *
    refine HSI.out.mono ?_; rintro e w8 ⟨rfl, n8, hw8⟩
    have hx8 : Ext w7 w8 := by rw [hw8]; exact Ext.drewN _ _
    clear hw8 hw7
    have m0 := hx8.keep m0
    have m1 := hx8.keep m1
    have n0 := hx8.keep n0
    have n1 := hx8.keep n1
    have HPC := Lib.hid (show Par w8 _ _ S E from ⟨(HOV.out.ints.ext hy6).ext hx8, (HOE.out.ents.ext hy6).ext hx8⟩)
    have HEQ := Lib.hid (Equal_c _ _ _ _ _ _ _ _ _ HPC.out (HPD.out.ext hx8))
    rw [eqP_refl] at HEQ
    go_wp2_with fail
    refine HEQ.out.mono ?_; rintro e w9 ⟨rfl, hx9⟩
    have hx89 := hx8.trans hx9
    have hb0 := hx89.keep hb0
    have hb1 := hx89.keep hb1
    have m0 := hx9.keep m0
    have m1 := hx9.keep m1
    have hX9 := hX6.trans hx89
    have hC9 := hC6.trans hx89
    clear n0 n1
    go_wp2_with fail
    refine (HSM.out w9 _ _ (HPC.out.ext hx9) hX9).mono ?_; rintro e w10 ⟨v10, rfl, hvv, hx10⟩
    have hvv : v10 = .bool sb := hvv
    subst hvv
    have hb0 := hx10.keep hb0
    have hb1 := hx10.keep hb1
    have hX10 := hX9.trans hx10
    have hC10 := hC9.trans hx10
    have hbc := (hbc.ext hx89).ext hx10
    have hy10 := (hy6.trans hx89).trans hx10
    have hoe := HOE.out.ext hy10
    have hbo0 := hbo.c0
    have hbo1 := hbo.c1
    clear m0 m1
    have hsc : wc.heap.size ≤ w5.heap.size := hx5.size
    clear hx2 hx3 hx4 hx5 hx6 hx8 hx9 hx10 hA4 hA5 hA6 hy4 hy5 hy6 hC6 hC9 hx89 hX9 hX1 hX2 hX3 hX4 hX5 hX6 hB1 hbd HSI HEQ HN HRN HCP HRD HRR HSM hy10 HPC HPD HI2 HI3 hwc
    obtain ⟨us, hrow, hal⟩ := hoe
    have HSP := Lib.hid (SpW.mk (B := wc.heap.size) hbc hrow hal.lenO hC10)
    clear hrow hal hbc
    by_cases hk0 : k = 0
    · subst hk0
      obtain ⟨hz1, hz2⟩ := HZ.out rfl
      subst hz1 hz2
      go_wp2_with fail
      go_loopg [15] E.length (fun m i wr => ∃ q : Nat, q ≤ E.length ∧ E.length ≤ q + m ∧ i = .int .i64 q ∧ SpW wc.heap.size w5.heap.size (.slice a5 S.length c5) (.slice b5 E.length d5) us E wc wr)
      case atStart => exact ⟨0, by omega, by omega, rfl, HSP.out⟩
      case round =>
        obtain ⟨g1, rfl⟩ : ∃ g : Nat, g = gk := ⟨_, rfl⟩
        obtain ⟨q, hq, hq2, rfl, hsp⟩ := hrel
        have c0 := hsp.box.c0
        have c1 := hsp.box.c1
        by_cases hlt : q < E.length
        · have hsp0 := Lib.hid hsp
          obtain ⟨wo, hwo⟩ : ∃ wo, wo = wr := ⟨_, rfl⟩
          subst hwo
          go_wp2_with fail
          go_loopg [16] (ent E q).1.length (fun m i wr => ∃ j : Nat, j ≤ (ent E q).1.length ∧ (ent E q).1.length ≤ j + m ∧ i = .int .i64 j ∧ SpW wc.heap.size w5.heap.size (.slice a5 S.length c5) (.slice b5 E.length d5) us E wc wr)
          case atStart => exact ⟨0, by omega, by omega, rfl, hsp0.out⟩
          case round =>
            obtain ⟨j, hj, hj2, rfl, hsp⟩ := hrel
            have HS := Lib.hid hsp
            obtain ⟨ge, cap, u, l, hev, hec, hem, hcu, _, hll, hou⟩ := hsp.at_ hlt
            injection hev with hev _ hev2; subst hev hev2
            have c0 := hsp.box.c0
            have c1 := hsp.box.c1
            clear hsp
            by_cases hjl : j < (ent E q).1.length
            · obtain ⟨r, rc, rfl, hrc, hrm, hBr, hcur, hcell, hfr⟩ := hou.spot (i := j) (by omega)
              have HN := Lib.hid (HS.out.write (r := r) (i := j) hBr (fun x hx => by injection hx with hx; subst hx; exact hcur) (-9))
              have HLL := Lib.hid hll
              generalize l[j]?.getD 0 = y at *
              have hjl2 : j < l.length := by omega
              clear hou hcur hll
              go_wp2_with fail
              go_roundg (gk-1)
              case measure => omega
              case rel => exact ⟨j+1, by omega, by omega, by go_num, HN.out⟩
            · obtain ⟨au, cu, rfl, _⟩ := hou.ints.open_
              have hjl2 : ¬ j < l.length := by omega
              clear hou hll
              go_wp2_with fail
              go_roundg (g1-1)
              case measure => omega
              case rel => exact ⟨q+1, by omega, by omega, by go_num, HS.out⟩
        · have hx := hsp.ext
          have hxx := hsp.ext
          have HXX := Lib.hid hsp.ext
          clear hsp
          have ho0 := hx.keep hbo0
          have ho1 := hx.keep hbo1
          have hpx : Ext w wr := HXC.out.trans HXX.out
          have p0 := HXX.out.keep HPB.out.1
          have p1 := HXX.out.keep HPB.out.2
          have HE2 := Lib.hid (Equal_c _ _ _ _ _ _ _ _ _ (HPO.out.ext hx) (HP.out.ext hpx))
          rw [eqP_refl] at HE2
          clear hx hxx
          go_wp2_with fail
          refine HE2.out.mono ?_; rintro e w11 ⟨rfl, hx11⟩
          go_wp2_with fail
          refine (known_c _).mono ?_; rintro e w12 ⟨rfl, hx12⟩
          go_wp2_with fail
          go_ret
          exact RV.bool rfl ((hpx.trans hx11).trans hx12)
    · have hkn : (k != 0) = true := by simp [hk0]
      clear hk0
      go_wp2_with fail
      go_loopg [15] E.length (fun m i wr => ∃ q : Nat, q ≤ E.length ∧ E.length ≤ q + m ∧ i = .int .i64 q ∧ SpW wc.heap.size w5.heap.size (.slice a5 S.length c5) (.slice b5 E.length d5) us E wc wr)
      case atStart => exact ⟨0, by omega, by omega, rfl, HSP.out⟩
      case round =>
        obtain ⟨g1, rfl⟩ : ∃ g : Nat, g = gk := ⟨_, rfl⟩
        obtain ⟨q, hq, hq2, rfl, hsp⟩ := hrel
        have c0 := hsp.box.c0
        have c1 := hsp.box.c1
        by_cases hlt : q < E.length
        · have hsp0 := Lib.hid hsp
          obtain ⟨wo, hwo⟩ : ∃ wo, wo = wr := ⟨_, rfl⟩
          subst hwo
          go_wp2_with fail
          go_loopg [16] (ent E q).1.length (fun m i wr => ∃ j : Nat, j ≤ (ent E q).1.length ∧ (ent E q).1.length ≤ j + m ∧ i = .int .i64 j ∧ SpW wc.heap.size w5.heap.size (.slice a5 S.length c5) (.slice b5 E.length d5) us E wc wr)
          case atStart => exact ⟨0, by omega, by omega, rfl, hsp0.out⟩
          case round =>
            obtain ⟨j, hj, hj2, rfl, hsp⟩ := hrel
            have HS := Lib.hid hsp
            obtain ⟨ge, cap, u, l, hev, hec, hem, hcu, _, hll, hou⟩ := hsp.at_ hlt
            injection hev with hev _ hev2; subst hev hev2
            have c0 := hsp.box.c0
            have c1 := hsp.box.c1
            clear hsp
            by_cases hjl : j < (ent E q).1.length
            · obtain ⟨r, rc, rfl, hrc, hrm, hBr, hcur, hcell, hfr⟩ := hou.spot (i := j) (by omega)
              have HN := Lib.hid (HS.out.write (r := r) (i := j) hBr (fun x hx => by injection hx with hx; subst hx; exact hcur) (-9))
              have HLL := Lib.hid hll
              generalize l[j]?.getD 0 = y at *
              have hjl2 : j < l.length := by omega
              clear hou hcur hll
              go_wp2_with fail
              go_roundg (gk-1)
              case measure => omega
              case rel => exact ⟨j+1, by omega, by omega, by go_num, HN.out⟩
            · obtain ⟨au, cu, rfl, _⟩ := hou.ints.open_
              have hjl2 : ¬ j < l.length := by omega
              clear hou hll
              go_wp2_with fail
              go_roundg (g1-1)
              case measure => omega
              case rel => exact ⟨q+1, by omega, by omega, by go_num, HS.out⟩
        · have hx := hsp.ext
          have hxx := hsp.ext
          have HXX := Lib.hid hsp.ext
          clear hsp
          have ho0 := hx.keep hbo0
          have ho1 := hx.keep hbo1
          have hpx : Ext w wr := HXC.out.trans HXX.out
          have p0 := HXX.out.keep HPB.out.1
          have p1 := HXX.out.keep HPB.out.2
          have HE2 := Lib.hid (Equal_c _ _ _ _ _ _ _ _ _ (HPO.out.ext hx) (HP.out.ext hpx))
          rw [eqP_refl] at HE2
          clear hx hxx
          go_wp2_with fail
          refine HE2.out.mono ?_; rintro e w11 ⟨rfl, hx11⟩
          go_wp2_with fail
          refine (known_c _).mono ?_; rintro e w12 ⟨rfl, hx12⟩
          go_wp2_with fail
          go_ret
          exact RV.bool rfl ((hpx.trans hx11).trans hx12)
  · rw [hl] at HL
    clear hl
    go_enter Try.func12, Try.ntmps12
    go_wp2_with fail
    rw [← HW.out]
    refine HL.out.mono ?_; rintro e w1 ⟨rfl, hB1⟩
    have hX1 := hE0.trans hB1
    go_wp2_with fail
    refine (known_c _).mono ?_; rintro e w2 ⟨rfl, hB2⟩
    go_wp2_with fail
    go_ret
    exact RV.bool rfl (hX1.trans hB2)
end Go.Proofs.Ytoepnpjjmfhnnaa

