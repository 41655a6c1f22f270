/- Rename of both packages. -/
import Derived.Test.YthmdecgkbjdabaaRenA
import Derived.Test.YthmdecgkbjdabaaRulO
import Derived.Deep.CutRange
import Derived.Deep.CutBlock
namespace Go.Proofs.Ythmdecgkbjdabaa
open Go.RowKit Go.Shelf
set_option linter.unusedVariables false
theorem own_lt {e : TypeId} {W : World} {B : Nat} {v : Value} {l : List Int} (h : OInts e W B v l) {b : Nat} (hb : v.ownBlock = some b) : B ≤ b ∧ b < W.heap.size ∧ ∃ cur, W.heap[b]? = some (.cells cur e (0, 0)) := by
  rcases h.2 with ⟨rfl, _⟩ | ⟨g, cap, cur, rfl, hg, hh, _⟩
  · cases hb
  · injection hb with hb
    subst hb
    exact ⟨hg, (Array.getElem?_eq_some_iff.1 hh).1, cur, hh⟩
def ApartV (u v : Value) : Prop := ∀ b, u.ownBlock = some b → v.ownBlock ≠ some b
/-- the new rule, before it is handed back: its block, its three lists, apart from each other -/
structure RenMid (w0 wx : World) (g : Nat) (f : Int) (tv lv rv : Value) (T L R : List Int) : Prop where
  x : Ext w0 wx
  hg : w0.heap.size ≤ g
  b : BoxR wx g (.int .i64 f) tv lv rv
  t : OInts 3 wx w0.heap.size tv T
  l : OInts 3 wx w0.heap.size lv L
  r : OInts 3 wx w0.heap.size rv R
  lt : ApartV lv tv
  lr : ApartV lv rv
  rt : ApartV rv tv
theorem renmid_make {w0 Wn Wt Wl Wr : World} {g Bt Bl Br : Nat} {f : Int} {tv lv rv a b c d : Value} {T L R : List Int} (hx : Ext w0 Wn) (hg : w0.heap.size ≤ g) (hb : BoxR Wn g a b c d)
    (ht : OInts 3 Wt Bt tv T) (xt : Ext Wt Wn) (hl : OInts 3 Wl Bl lv L) (xl : Ext Wl Wn) (hr : OInts 3 Wr Br rv R) (xr : Ext Wr Wn) (o1 : w0.heap.size ≤ Bt) (o2 : Wt.heap.size ≤ Bl) (o3 : Wl.heap.size ≤ Br) (o4 : w0.heap.size ≤ Wt.heap.size) (o5 : Wt.heap.size ≤ Wl.heap.size) :
    RenMid w0 ((((Wn.setCell ⟨g, 0, none⟩ (.int .i64 f)).setCell ⟨g, 1, none⟩ tv).setCell ⟨g, 2, none⟩ lv).setCell ⟨g, 3, none⟩ rv) g f tv lv rv T L R where
  x := BoxR.set_ext hx hg _ _ _ _
  hg := hg
  b := hb.set _ _ _ _
  t := hb.kept ((ht.ext xt).low o1) _ _ _ _
  l := hb.kept ((hl.ext xl).low (by omega)) _ _ _ _
  r := hb.kept ((hr.ext xr).low (by omega)) _ _ _ _
  lt := fun b h h2 => by have := (own_lt hl h).1; have := (own_lt ht h2).2.1; omega
  lr := fun b h h2 => by have := (own_lt hl h).2.1; have := (own_lt hr h2).1; omega
  rt := fun b h h2 => by have := (own_lt hr h).1; have := (own_lt ht h2).2.1; omega
theorem grown_own {w0 wx w1 : World} {v : Value} {l : List Int} (hx : Ext w0 wx) (h : OInts 3 wx w0.heap.size v l) (hg : wx.grownBy w1 v.ownBlock) : Ext w0 w1 :=
  ⟨hg.os.trans hx.os, hg.tape.trans hx.tape, hg.output.trans hx.output, Nat.le_trans hx.size hg.size, fun k hk => (hg.block k (Nat.lt_of_lt_of_le hk hx.size) (fun e => by have := (own_lt h e.symm).1; omega)).trans (hx.block k hk)⟩
theorem grown_box {wx w1 : World} {B g : Nat} {v a b c d : Value} {l : List Int} (hb : BoxR wx g a b c d) (h : OInts 3 wx B v l) (hg : wx.grownBy w1 v.ownBlock) : BoxR w1 g a b c d :=
  (hg.block g hb.lt (fun e => by
    obtain ⟨cur, hh⟩ := (own_lt h e.symm).2.2
    rw [show wx.heap[g]? = _ from hb] at hh
    injection hh with hh; injection hh with _ h2; exact absurd h2 (by decide))).trans hb
theorem grown_ints {wx w1 : World} {B : Nat} {v u : Value} {l : List Int} (h : OInts 3 wx B u l) (hg : wx.grownBy w1 v.ownBlock) (ha : ApartV v u) : OInts 3 w1 B u l := by
  refine World.ownsRow.kept h hg ?_
  rcases h.2 with ⟨rfl, _⟩ | ⟨g, cap, cur, rfl, _⟩
  · exact .inl rfl
  · exact .inr (fun e => ha g e.symm (by simp [Value.ownBlock]))
theorem RenMid.sortL {w0 wx w1 : World} {g : Nat} {f : Int} {tv lv rv : Value} {T L L' R : List Int} (h : RenMid w0 wx g f tv lv rv T L R) (hl : OInts 3 w1 w0.heap.size lv L') (hg : wx.grownBy w1 lv.ownBlock) : RenMid w0 w1 g f tv lv rv T L' R where
  x := grown_own h.x h.l hg
  hg := h.hg
  b := grown_box h.b h.l hg
  t := grown_ints h.t hg h.lt
  l := hl
  r := grown_ints h.r hg h.lr
  lt := h.lt
  lr := h.lr
  rt := h.rt
theorem RenMid.sortR {w0 wx w1 : World} {g : Nat} {f : Int} {tv lv rv : Value} {T L R R' : List Int} (h : RenMid w0 wx g f tv lv rv T L R) (hr : OInts 3 w1 w0.heap.size rv R') (hg : wx.grownBy w1 rv.ownBlock) : RenMid w0 w1 g f tv lv rv T L R' where
  x := grown_own h.x h.r hg
  hg := h.hg
  b := grown_box h.b h.r hg
  t := grown_ints h.t hg h.rt
  l := grown_ints h.l hg (fun b h1 h2 => h.lr b h2 h1)
  r := hr
  lt := h.lt
  lr := h.lr
  rt := h.rt
theorem nb_one {x : Rul} (h : validR x = 0) : ∀ y ∈ [x.f], -1 ≤ y ∧ y ≤ 5 := fun y hy => by
  have := nbB_rng (validR_zero h).nb
  simp at hy; subst hy; exact this
theorem nb_t {x : Rul} (h : validR x = 0) : ∀ y ∈ x.t, -1 ≤ y ∧ y ≤ 5 := fun y hy => by have := snd_mem (validR_zero h).snd y hy; omega
theorem nb_l {x : Rul} (h : validR x = 0) : ∀ y ∈ x.l, -1 ≤ y ∧ y ≤ 5 := (setB_on (validR_zero h).l).1
theorem nb_r {x : Rul} (h : validR x = 0) : ∀ y ∈ x.r, -1 ≤ y ∧ y ≤ 5 := (setB_on (validR_zero h).r).1

set_option maxHeartbeats 4000000 in
set_option maxRecDepth 100000 in
theorem Rename_c (tv lv rv tov : Value) (x : Rul) (tt : List Int) (w : World) (h : RulR w tv lv rv x) (ht : Ints w tov tt) (hb : longR x = false) : Calls Try.prog 7 #[.agg #[.int .i64 x.f, tv, lv, rv], tov] w (RRul (renX x tt) (renK (validR x) tt) w) := by
  obtain ⟨wA, hwA⟩ : ∃ wA, wA = w.alloc (.cells #[.int .i64 x.f, tv, lv, rv] 24) := ⟨_, rfl⟩
  have hE0 : Ext w wA := by rw [hwA]; exact Ext.alloc _ _
  have k0 : ∀ W, Ext wA W → W.cell? ⟨w.heap.size, 0, none⟩ = some (.int .i64 x.f) := by rw [hwA]; exact kept_alloc w _ _ rfl
  have k1 : ∀ W, Ext wA W → W.cell? ⟨w.heap.size, 1, none⟩ = some tv := by rw [hwA]; exact kept_alloc w _ _ rfl
  have k2 : ∀ W, Ext wA W → W.cell? ⟨w.heap.size, 2, none⟩ = some lv := by rw [hwA]; exact kept_alloc w _ _ rfl
  have k3 : ∀ W, Ext wA W → W.cell? ⟨w.heap.size, 3, none⟩ = some rv := by rw [hwA]; exact kept_alloc w _ _ rfl
  have H0 : Ext wA wA := Ext.refl _
  have HR := Lib.hid (h.ext hE0)
  have HTI := Lib.hid (ht.ext hE0)
  have HV := Lib.hid (fun W (hW : Ext wA W) => Validate_c tv lv rv x W ((h.ext hE0).ext hW))
  have HO := Lib.hid (fun W (hW : Ext wA W) => isOrder_c _ tt W ((ht.ext hE0).ext hW))
  obtain ⟨ao_, co_, rfl, _⟩ := ht.open_
  obtain ⟨hbt, hbl, hbr⟩ := longR_le hb
  have HW := Lib.hid hwA; clear hwA h hb ht
  have HRX : Hid (validR x = 0 → ordB tt = true → renX x tt = ⟨nmI tt x.f, nmL x.t tt, sidL x.l tt, sidL x.r tt⟩) := Lib.hid (fun a b => by rw [renX, if_pos ⟨a, b⟩])
  by_cases h0 : validR x = 0
  · have HNF := Lib.hid (nb_one h0)
    have HNt := Lib.hid (nb_t h0)
    have HNl := Lib.hid (nb_l h0)
    have HNr := Lib.hid (nb_r h0)
    have HVZ := Lib.hid h0
    rw [renK, if_pos h0]
    rw [h0] at HV
    cases hb : ordB tt
    · rw [hb] at HO
      rw [renX, if_neg (fun h => by rw [hb] at h; cases h.2), if_neg (by decide)]
      clear h0 hb HRX
      go_enter Try.func7, Try.ntmps7
      go_wp2_with fail
      rw [← HW.out]
      obtain ⟨wB, hwB⟩ : ∃ wB, wB = wA.alloc (.cells #[.int .i64 0, .slice none 0 0, .slice none 0 0, .slice none 0 0] 24) := ⟨_, rfl⟩
      have hEB : Ext wA wB := by rw [hwB]; exact Ext.alloc _ _
      rw [← hwB]
      refine (HV.out wB hEB).mono ?_; rintro e w1 ⟨rfl, hx1⟩
      have hX1 := hEB.trans hx1
      have hsA : wA.heap.size = w.heap.size + 1 := by rw [HW.out]; simp
      have hbx : BoxR w1 (w.heap.size + 1) (.int .i64 0) (.slice none 0 0) (.slice none 0 0) (.slice none 0 0) := (by rw [hwB]; exact BoxR.new wA _ _ _ _ hsA : BoxR wB _ _ _ _ _).ext hx1
      clear hwB hsA hx1 hEB
      have z0 := hbx.c0
      have z1 := hbx.c1
      have z2 := hbx.c2
      have z3 := hbx.c3
      have f0 := hbx.frozen 0
      have f1 := hbx.frozen 1
      have f2 := hbx.frozen 2
      have f3 := hbx.frozen 3
      go_wp2_with fail
      refine (HO.out w1 hX1).mono ?_; rintro e w2 ⟨rfl, hx2⟩
      replace hbx := hbx.ext hx2
      have hX2 := hX1.trans hx2
      clear z0 z1 z2 z3 f0 f1 f2 f3
      have z0 := hbx.c0
      have z1 := hbx.c1
      have z2 := hbx.c2
      have z3 := hbx.c3
      have f0 := hbx.frozen 0
      have f1 := hbx.frozen 1
      have f2 := hbx.frozen 2
      have f3 := hbx.frozen 3
      go_wp2_with fail
      have hb2 := hbx.set (.int .i64 0) (.slice none 0 0) (.slice none 0 0) (.slice none 0 0)
      have hy2 := BoxR.set_ext (hE0.trans hX2) (show w.heap.size ≤ w.heap.size + 1 by omega) (.int .i64 0) (.slice none 0 0) (.slice none 0 0) (.slice none 0 0)
      clear hbx z0 z1 z2 z3 f0 f1 f2 f3
      generalize ((((w2.setCell ⟨w.heap.size + 1, 0, none⟩ (.int .i64 0)).setCell ⟨w.heap.size + 1, 1, none⟩ (.slice none 0 0)).setCell ⟨w.heap.size + 1, 2, none⟩ (.slice none 0 0)).setCell ⟨w.heap.size + 1, 3, none⟩ (.slice none 0 0)) = wz at *
      have d0 := hb2.c0
      have d1 := hb2.c1
      have d2 := hb2.c2
      have d3 := hb2.c3
      clear hb2
      (try simp only [Exit.inBlock, Exit.then])
      refine bodyPost_ret (v := .tuple #[.agg #[(.int .i64 0), (.slice none 0 0), (.slice none 0 0), (.slice none 0 0)], .int .i64 1]) (by simp [results, Try.results7, go_sem, d0, d1, d2, d3]) rfl ?_
      exact ⟨_, _, _, rfl, ⟨ints_nil_c _, ints_nil_c _, ints_nil_c _⟩, hy2⟩
    · have HSRT : Hid (sortZ (nmL x.l tt) = sidL x.l tt ∧ sortZ (nmL x.r tt) = sidL x.r tt) := Lib.hid ⟨sid_sort hb (validR_zero h0).l, sid_sort hb (validR_zero h0).r⟩
      have H6 := Lib.hid (ord_len hb)
      rw [HRX.out h0 hb, if_pos rfl]
      rw [hb] at HO
      clear h0 hb HRX
      go_enter Try.func7, Try.ntmps7
      go_wp2_with fail
      rw [← HW.out]
      obtain ⟨wB, hwB⟩ : ∃ wB, wB = wA.alloc (.cells #[.int .i64 0, .slice none 0 0, .slice none 0 0, .slice none 0 0] 24) := ⟨_, rfl⟩
      have hEB : Ext wA wB := by rw [hwB]; exact Ext.alloc _ _
      rw [← hwB]
      refine (HV.out wB hEB).mono ?_; rintro e w1 ⟨rfl, hx1⟩
      have hX1 := hEB.trans hx1
      have hsA : wA.heap.size = w.heap.size + 1 := by rw [HW.out]; simp
      have hbx : BoxR w1 (w.heap.size + 1) (.int .i64 0) (.slice none 0 0) (.slice none 0 0) (.slice none 0 0) := (by rw [hwB]; exact BoxR.new wA _ _ _ _ hsA : BoxR wB _ _ _ _ _).ext hx1
      clear hwB hsA hx1 hEB
      have z0 := hbx.c0
      have z1 := hbx.c1
      have z2 := hbx.c2
      have z3 := hbx.c3
      have f0 := hbx.frozen 0
      have f1 := hbx.frozen 1
      have f2 := hbx.frozen 2
      have f3 := hbx.frozen 3
      go_wp2_with fail
      refine (HO.out w1 hX1).mono ?_; rintro e w2 ⟨rfl, hx2⟩
      replace hbx := hbx.ext hx2
      have hX2 := hX1.trans hx2
      clear z0 z1 z2 z3 f0 f1 f2 f3 hX1 hx2
      have HBX := Lib.hid hbx
      clear hbx
      go_upto_region 6 with fail
      go_cut [7] from 7 to 37 (fun s7 wx => ∃ g tv' lv' rv', s7 = .pointer (some ⟨g, 0, none⟩) ∧ RenMid w2 wx g (nmI tt x.f) tv' lv' rv' (nmL x.t tt) (nmL x.l tt) (nmL x.r tt))
      case first =>
        refine wp_region_treeR Ext [21] (.look 0 (.look 1 (.look 3 (.look 7 (.look 8 (.look 9 (.look 11 (.look 12 (.look 13 (.look 15 (.look 16 (.look 17 (.two 2 (.two 4 (.look 5 (.look 6 (.two 10 (.two 14 (.two 18 (.look 19 (.one 20 (.one 21 .done))) 20 (.one 18 (.look 19 (.one 21 .done)))) 20 (.one 14 (.one 18 (.look 19 (.one 21 .done))))) 20 (.one 10 (.one 14 (.one 18 (.look 19 (.one 21 .done)))))))) 20 (.one 4 (.look 5 (.look 6 (.one 10 (.one 14 (.one 18 (.look 19 (.one 21 .done))))))))) 20 (.one 2 (.one 4 (.look 5 (.look 6 (.one 10 (.one 14 (.one 18 (.look 19 (.one 21 .done)))))))))))))))))))))) Ext.refl (fun _ _ _ h k => h.trans k) (by kernel_rfl) (by kernel_rfl) (by intro c a d v w h; cases d <;> exact h) ?_
        have hd : Ext w2 { w2 with drawn := w2.drawn + 1 } := drawn_ext w2
        generalize { w2 with drawn := w2.drawn + 1 } = W0 at *
        have hX0 : Ext wA W0 := hX2.trans hd
        have HD0 := Lib.hid hd
        have hY0 : Ext W0 W0 := Ext.refl _
        have hs : ∀ s : InC (Ext W0), Ext wA s.w := fun s => hX0.trans s.h
        iterate 12 (refine wpTreeR_look rfl (fun K hK => ?_); go_simp; first | (refine hK _ ?_; clear hK K) | (refine ⟨_, fun _ => rfl, hK _ ?_⟩; clear hK K))
        clear hs
        refine wpTreeR_two rfl rfl rfl rfl (fun K hK => ?_) (fun K hK => ?_)
        · go_wp2_with fail
          refine ⟨.inr (Ext.alloc _ _), ?_⟩
          have hz1 : Ext W0 (W0.alloc (.cells #[.int .i64 x.f] 3)) := Ext.alloc _ _
          have HQ := Lib.hid (show Ints (W0.alloc (.cells #[.int .i64 x.f] 3)) (.slice (some ⟨W0.heap.size, 0, none⟩) 1 1) [x.f] from ints_lit rfl (by omega) fun i hi => alloc_cell W0 _ 3 (by obtain rfl : i = 0 := (by simp at hi; omega); rfl))
          generalize W0.heap.size = gq at *
          generalize W0.alloc (.cells #[.int .i64 x.f] 3) = W1 at *
          have hY1 := hY0.trans hz1
          refine wpTreeR_two rfl rfl rfl rfl (fun K hK => ?_) (fun K hK => ?_)
          · go_wp2_with fail
            refine (named_c _ _ [x.f] tt W1 (HQ.out) (HTI.out.ext (hX0.trans hY1)) HNF.out H6.out (by simp)).mono ?_; rintro e W2 ⟨vq, rfl, hoq, hz2⟩
            obtain ⟨aq, cq, rfl, _, _, HLQ⟩ := hoq.ints.open_
            obtain ⟨bq, oq, rfl, hcq⟩ := HLQ.out 0 (by simp [nmL])
            have hcq2 : W2.cell? ⟨bq, oq, none⟩ = some (.int .i64 (nmI tt x.f)) := hcq
            have hlq : (nmL [x.f] tt).length = 1 := rfl
            clear hcq HLQ hoq
            go_wp2_with fail
            refine ⟨.inr hz2, ?_⟩
            have hY2 := hY1.trans hz2
            have kq : ∀ W, Ext W2 W → W.cell? ⟨bq, oq, none⟩ = some (.int .i64 (nmI tt x.f)) := fun W hW => hW.keep hcq2
            have kq2 := fun s : InC (Ext W2) => kq s.w s.h
            iterate 2 (refine wpTreeR_look rfl (fun K hK => ?_); go_simp; first | (refine hK _ ?_; clear hK K) | (refine ⟨_, fun _ => rfl, hK _ ?_⟩; clear hK K))
            clear kq kq2 hlq hcq2
            refine wpTreeR_two rfl rfl rfl rfl (fun K hK => ?_) (fun K hK => ?_)
            · go_wp2_with fail
              refine (named_c _ _ x.t tt W2 (HR.out.t.ext (hX0.trans hY2)) (HTI.out.ext (hX0.trans hY2)) HNt.out H6.out (by omega)).mono ?_; rintro e W3 ⟨vt, rfl, hot, hz3⟩
              obtain ⟨st, ct, rfl, _⟩ := hot.ints.open_
              have HOt := Lib.hid hot; clear hot
              go_wp2_with fail
              refine ⟨.inr hz3, ?_⟩
              have hY3 := hY2.trans hz3
              refine wpTreeR_two rfl rfl rfl rfl (fun K hK => ?_) (fun K hK => ?_)
              · go_wp2_with fail
                refine (named_c _ _ x.l tt W3 (HR.out.l.ext (hX0.trans hY3)) (HTI.out.ext (hX0.trans hY3)) HNl.out H6.out (by omega)).mono ?_; rintro e W4 ⟨vl, rfl, hol, hz4⟩
                obtain ⟨sl, cl, rfl, _⟩ := hol.ints.open_
                have HOl := Lib.hid hol; clear hol
                go_wp2_with fail
                refine ⟨.inr hz4, ?_⟩
                have hY4 := hY3.trans hz4
                refine wpTreeR_two rfl rfl rfl rfl (fun K hK => ?_) (fun K hK => ?_)
                · go_wp2_with fail
                  refine (named_c _ _ x.r tt W4 (HR.out.r.ext (hX0.trans hY4)) (HTI.out.ext (hX0.trans hY4)) HNr.out H6.out (by omega)).mono ?_; rintro e W5 ⟨vr, rfl, hor, hz5⟩
                  obtain ⟨sr, cr, rfl, _⟩ := hor.ints.open_
                  have HOr := Lib.hid hor; clear hor
                  go_wp2_with fail
                  refine ⟨.inr hz5, ?_⟩
                  have hY5 := hY4.trans hz5
                  (refine wpTreeR_look rfl (fun K hK => ?_); go_simp; first | (refine hK _ ?_; clear hK K) | (refine ⟨_, fun _ => rfl, hK _ ?_⟩; clear hK K))
                  refine wpTreeR_one rfl rfl (fun K hK => ?_)
                  go_wp2_with fail
                  refine ⟨.inr (Ext.alloc _ _), ?_⟩
                  have hz6 : Ext W5 (W5.alloc (.cells #[.int .i64 0, .slice none 0 0, .slice none 0 0, .slice none 0 0] 24)) := Ext.alloc _ _
                  obtain ⟨g, hg⟩ : ∃ g, W5.heap.size = g := ⟨_, rfl⟩
                  have HBG := Lib.hid (BoxR.new W5 (.int .i64 0) (.slice none 0 0) (.slice none 0 0) (.slice none 0 0) hg)
                  have HGG : Hid (w2.heap.size ≤ g) := Lib.hid (by have := (hd.trans hY5).size; omega)
                  rw [hg]
                  clear hg
                  generalize W5.alloc (.cells #[.int .i64 0, .slice none 0 0, .slice none 0 0, .slice none 0 0] 24) = W6 at *
                  have hY6 := hY5.trans hz6
                  have hbg := HBG.out
                  have hmid := renmid_make (f := nmI tt x.f) (hd.trans hY6) HGG.out hbg HOt.out ((hz4.trans hz5).trans hz6) HOl.out (hz5.trans hz6) HOr.out hz6 (hd.trans hY2).size ((Ext.refl _)).size ((Ext.refl _)).size (hd.trans hY3).size (hz4).size
                  have HM := Lib.hid hmid
                  clear hmid
                  have z0 := hbg.c0
                  have z1 := hbg.c1
                  have z2 := hbg.c2
                  have z3 := hbg.c3
                  have f0 := hbg.frozen 0
                  have f1 := hbg.frozen 1
                  have f2 := hbg.frozen 2
                  have f3 := hbg.frozen 3
                  refine wpTreeR_one rfl rfl (fun K hK => ?_)
                  go_wp2_with fail
                  refine ⟨.inl (by simp), ?_⟩
                  clear z0 z1 z2 z3 f0 f1 f2 f3 hbg HBG
                  refine wpTreeR_done ?_
                  go_wp2_with fail
                  go_meet
                  case rel => exact ⟨g, _, _, _, rfl, HM.out⟩
                · go_wp2_with fail
                  refine ⟨.inr (Ext.alloc _ _), ?_⟩
                  have hz5 : Ext W4 (W4.alloc (.cells #[.int .i64 0, .slice none 0 0, .slice none 0 0, .slice none 0 0] 24)) := Ext.alloc _ _
                  obtain ⟨g, hg⟩ : ∃ g, W4.heap.size = g := ⟨_, rfl⟩
                  have HBG := Lib.hid (BoxR.new W4 (.int .i64 0) (.slice none 0 0) (.slice none 0 0) (.slice none 0 0) hg)
                  have HGG : Hid (w2.heap.size ≤ g) := Lib.hid (by have := (hd.trans hY4).size; omega)
                  rw [hg]
                  clear hg
                  generalize W4.alloc (.cells #[.int .i64 0, .slice none 0 0, .slice none 0 0, .slice none 0 0] 24) = W5 at *
                  have hY5 := hY4.trans hz5
                  refine wpTreeR_one rfl rfl (fun K hK => ?_)
                  go_wp2_with fail
                  refine (named_c _ _ x.r tt W5 (HR.out.r.ext (hX0.trans hY5)) (HTI.out.ext (hX0.trans hY5)) HNr.out H6.out (by omega)).mono ?_; rintro e W6 ⟨vr, rfl, hor, hz6⟩
                  obtain ⟨sr, cr, rfl, _⟩ := hor.ints.open_
                  have HOr := Lib.hid hor; clear hor
                  go_wp2_with fail
                  refine ⟨.inr hz6, ?_⟩
                  have hY6 := hY5.trans hz6
                  (refine wpTreeR_look rfl (fun K hK => ?_); go_simp; first | (refine hK _ ?_; clear hK K) | (refine ⟨_, fun _ => rfl, hK _ ?_⟩; clear hK K))
                  have hbg := HBG.out.ext hz6
                  have hmid := renmid_make (f := nmI tt x.f) (hd.trans hY6) HGG.out hbg HOt.out ((hz4.trans hz5).trans hz6) HOl.out (hz5.trans hz6) HOr.out (Ext.refl _) (hd.trans hY2).size ((Ext.refl _)).size (hz5).size (hd.trans hY3).size (hz4).size
                  have HM := Lib.hid hmid
                  clear hmid
                  have z0 := hbg.c0
                  have z1 := hbg.c1
                  have z2 := hbg.c2
                  have z3 := hbg.c3
                  have f0 := hbg.frozen 0
                  have f1 := hbg.frozen 1
                  have f2 := hbg.frozen 2
                  have f3 := hbg.frozen 3
                  refine wpTreeR_one rfl rfl (fun K hK => ?_)
                  go_wp2_with fail
                  refine ⟨.inl (by simp), ?_⟩
                  clear z0 z1 z2 z3 f0 f1 f2 f3 hbg HBG
                  refine wpTreeR_done ?_
                  go_wp2_with fail
                  go_meet
                  case rel => exact ⟨g, _, _, _, rfl, HM.out⟩
              · go_wp2_with fail
                refine ⟨.inr (Ext.alloc _ _), ?_⟩
                have hz4 : Ext W3 (W3.alloc (.cells #[.int .i64 0, .slice none 0 0, .slice none 0 0, .slice none 0 0] 24)) := Ext.alloc _ _
                obtain ⟨g, hg⟩ : ∃ g, W3.heap.size = g := ⟨_, rfl⟩
                have HBG := Lib.hid (BoxR.new W3 (.int .i64 0) (.slice none 0 0) (.slice none 0 0) (.slice none 0 0) hg)
                have HGG : Hid (w2.heap.size ≤ g) := Lib.hid (by have := (hd.trans hY3).size; omega)
                rw [hg]
                clear hg
                generalize W3.alloc (.cells #[.int .i64 0, .slice none 0 0, .slice none 0 0, .slice none 0 0] 24) = W4 at *
                have hY4 := hY3.trans hz4
                refine wpTreeR_one rfl rfl (fun K hK => ?_)
                go_wp2_with fail
                refine (named_c _ _ x.l tt W4 (HR.out.l.ext (hX0.trans hY4)) (HTI.out.ext (hX0.trans hY4)) HNl.out H6.out (by omega)).mono ?_; rintro e W5 ⟨vl, rfl, hol, hz5⟩
                obtain ⟨sl, cl, rfl, _⟩ := hol.ints.open_
                have HOl := Lib.hid hol; clear hol
                go_wp2_with fail
                refine ⟨.inr hz5, ?_⟩
                have hY5 := hY4.trans hz5
                refine wpTreeR_one rfl rfl (fun K hK => ?_)
                go_wp2_with fail
                refine (named_c _ _ x.r tt W5 (HR.out.r.ext (hX0.trans hY5)) (HTI.out.ext (hX0.trans hY5)) HNr.out H6.out (by omega)).mono ?_; rintro e W6 ⟨vr, rfl, hor, hz6⟩
                obtain ⟨sr, cr, rfl, _⟩ := hor.ints.open_
                have HOr := Lib.hid hor; clear hor
                go_wp2_with fail
                refine ⟨.inr hz6, ?_⟩
                have hY6 := hY5.trans hz6
                (refine wpTreeR_look rfl (fun K hK => ?_); go_simp; first | (refine hK _ ?_; clear hK K) | (refine ⟨_, fun _ => rfl, hK _ ?_⟩; clear hK K))
                have hbg := HBG.out.ext (hz5.trans hz6)
                have hmid := renmid_make (f := nmI tt x.f) (hd.trans hY6) HGG.out hbg HOt.out ((hz4.trans hz5).trans hz6) HOl.out hz6 HOr.out (Ext.refl _) (hd.trans hY2).size (hz4).size ((Ext.refl _)).size (hd.trans hY3).size ((hz4.trans hz5)).size
                have HM := Lib.hid hmid
                clear hmid
                have z0 := hbg.c0
                have z1 := hbg.c1
                have z2 := hbg.c2
                have z3 := hbg.c3
                have f0 := hbg.frozen 0
                have f1 := hbg.frozen 1
                have f2 := hbg.frozen 2
                have f3 := hbg.frozen 3
                refine wpTreeR_one rfl rfl (fun K hK => ?_)
                go_wp2_with fail
                refine ⟨.inl (by simp), ?_⟩
                clear z0 z1 z2 z3 f0 f1 f2 f3 hbg HBG
                refine wpTreeR_done ?_
                go_wp2_with fail
                go_meet
                case rel => exact ⟨g, _, _, _, rfl, HM.out⟩
            · go_wp2_with fail
              refine ⟨.inr (Ext.alloc _ _), ?_⟩
              have hz3 : Ext W2 (W2.alloc (.cells #[.int .i64 0, .slice none 0 0, .slice none 0 0, .slice none 0 0] 24)) := Ext.alloc _ _
              obtain ⟨g, hg⟩ : ∃ g, W2.heap.size = g := ⟨_, rfl⟩
              have HBG := Lib.hid (BoxR.new W2 (.int .i64 0) (.slice none 0 0) (.slice none 0 0) (.slice none 0 0) hg)
              have HGG : Hid (w2.heap.size ≤ g) := Lib.hid (by have := (hd.trans hY2).size; omega)
              rw [hg]
              clear hg
              generalize W2.alloc (.cells #[.int .i64 0, .slice none 0 0, .slice none 0 0, .slice none 0 0] 24) = W3 at *
              have hY3 := hY2.trans hz3
              refine wpTreeR_one rfl rfl (fun K hK => ?_)
              go_wp2_with fail
              refine (named_c _ _ x.t tt W3 (HR.out.t.ext (hX0.trans hY3)) (HTI.out.ext (hX0.trans hY3)) HNt.out H6.out (by omega)).mono ?_; rintro e W4 ⟨vt, rfl, hot, hz4⟩
              obtain ⟨st, ct, rfl, _⟩ := hot.ints.open_
              have HOt := Lib.hid hot; clear hot
              go_wp2_with fail
              refine ⟨.inr hz4, ?_⟩
              have hY4 := hY3.trans hz4
              refine wpTreeR_one rfl rfl (fun K hK => ?_)
              go_wp2_with fail
              refine (named_c _ _ x.l tt W4 (HR.out.l.ext (hX0.trans hY4)) (HTI.out.ext (hX0.trans hY4)) HNl.out H6.out (by omega)).mono ?_; rintro e W5 ⟨vl, rfl, hol, hz5⟩
              obtain ⟨sl, cl, rfl, _⟩ := hol.ints.open_
              have HOl := Lib.hid hol; clear hol
              go_wp2_with fail
              refine ⟨.inr hz5, ?_⟩
              have hY5 := hY4.trans hz5
              refine wpTreeR_one rfl rfl (fun K hK => ?_)
              go_wp2_with fail
              refine (named_c _ _ x.r tt W5 (HR.out.r.ext (hX0.trans hY5)) (HTI.out.ext (hX0.trans hY5)) HNr.out H6.out (by omega)).mono ?_; rintro e W6 ⟨vr, rfl, hor, hz6⟩
              obtain ⟨sr, cr, rfl, _⟩ := hor.ints.open_
              have HOr := Lib.hid hor; clear hor
              go_wp2_with fail
              refine ⟨.inr hz6, ?_⟩
              have hY6 := hY5.trans hz6
              (refine wpTreeR_look rfl (fun K hK => ?_); go_simp; first | (refine hK _ ?_; clear hK K) | (refine ⟨_, fun _ => rfl, hK _ ?_⟩; clear hK K))
              have hbg := HBG.out.ext ((hz4.trans hz5).trans hz6)
              have hmid := renmid_make (f := nmI tt x.f) (hd.trans hY6) HGG.out hbg HOt.out (hz5.trans hz6) HOl.out hz6 HOr.out (Ext.refl _) (hd.trans hY3).size ((Ext.refl _)).size ((Ext.refl _)).size (hd.trans hY4).size (hz5).size
              have HM := Lib.hid hmid
              clear hmid
              have z0 := hbg.c0
              have z1 := hbg.c1
              have z2 := hbg.c2
              have z3 := hbg.c3
              have f0 := hbg.frozen 0
              have f1 := hbg.frozen 1
              have f2 := hbg.frozen 2
              have f3 := hbg.frozen 3
              refine wpTreeR_one rfl rfl (fun K hK => ?_)
              go_wp2_with fail
              refine ⟨.inl (by simp), ?_⟩
              clear z0 z1 z2 z3 f0 f1 f2 f3 hbg HBG
              refine wpTreeR_done ?_
              go_wp2_with fail
              go_meet
              case rel => exact ⟨g, _, _, _, rfl, HM.out⟩
          · go_wp2_with fail
            refine ⟨.inr (Ext.alloc _ _), ?_⟩
            have hz2 : Ext W1 (W1.alloc (.cells #[.int .i64 0, .slice none 0 0, .slice none 0 0, .slice none 0 0] 24)) := Ext.alloc _ _
            obtain ⟨g, hg⟩ : ∃ g, W1.heap.size = g := ⟨_, rfl⟩
            have HBG := Lib.hid (BoxR.new W1 (.int .i64 0) (.slice none 0 0) (.slice none 0 0) (.slice none 0 0) hg)
            have HGG : Hid (w2.heap.size ≤ g) := Lib.hid (by have := (hd.trans hY1).size; omega)
            rw [hg]
            clear hg
            generalize W1.alloc (.cells #[.int .i64 0, .slice none 0 0, .slice none 0 0, .slice none 0 0] 24) = W2 at *
            have hY2 := hY1.trans hz2
            refine wpTreeR_one rfl rfl (fun K hK => ?_)
            go_wp2_with fail
            refine (named_c _ _ [x.f] tt W2 (HQ.out.ext hz2) (HTI.out.ext (hX0.trans hY2)) HNF.out H6.out (by simp)).mono ?_; rintro e W3 ⟨vq, rfl, hoq, hz3⟩
            obtain ⟨aq, cq, rfl, _, _, HLQ⟩ := hoq.ints.open_
            obtain ⟨bq, oq, rfl, hcq⟩ := HLQ.out 0 (by simp [nmL])
            have hcq2 : W3.cell? ⟨bq, oq, none⟩ = some (.int .i64 (nmI tt x.f)) := hcq
            have hlq : (nmL [x.f] tt).length = 1 := rfl
            clear hcq HLQ hoq
            go_wp2_with fail
            refine ⟨.inr hz3, ?_⟩
            have hY3 := hY2.trans hz3
            have kq : ∀ W, Ext W3 W → W.cell? ⟨bq, oq, none⟩ = some (.int .i64 (nmI tt x.f)) := fun W hW => hW.keep hcq2
            have kq2 := fun s : InC (Ext W3) => kq s.w s.h
            iterate 2 (refine wpTreeR_look rfl (fun K hK => ?_); go_simp; first | (refine hK _ ?_; clear hK K) | (refine ⟨_, fun _ => rfl, hK _ ?_⟩; clear hK K))
            clear kq kq2 hlq hcq2
            refine wpTreeR_one rfl rfl (fun K hK => ?_)
            go_wp2_with fail
            refine (named_c _ _ x.t tt W3 (HR.out.t.ext (hX0.trans hY3)) (HTI.out.ext (hX0.trans hY3)) HNt.out H6.out (by omega)).mono ?_; rintro e W4 ⟨vt, rfl, hot, hz4⟩
            obtain ⟨st, ct, rfl, _⟩ := hot.ints.open_
            have HOt := Lib.hid hot; clear hot
            go_wp2_with fail
            refine ⟨.inr hz4, ?_⟩
            have hY4 := hY3.trans hz4
            refine wpTreeR_one rfl rfl (fun K hK => ?_)
            go_wp2_with fail
            refine (named_c _ _ x.l tt W4 (HR.out.l.ext (hX0.trans hY4)) (HTI.out.ext (hX0.trans hY4)) HNl.out H6.out (by omega)).mono ?_; rintro e W5 ⟨vl, rfl, hol, hz5⟩
            obtain ⟨sl, cl, rfl, _⟩ := hol.ints.open_
            have HOl := Lib.hid hol; clear hol
            go_wp2_with fail
            refine ⟨.inr hz5, ?_⟩
            have hY5 := hY4.trans hz5
            refine wpTreeR_one rfl rfl (fun K hK => ?_)
            go_wp2_with fail
            refine (named_c _ _ x.r tt W5 (HR.out.r.ext (hX0.trans hY5)) (HTI.out.ext (hX0.trans hY5)) HNr.out H6.out (by omega)).mono ?_; rintro e W6 ⟨vr, rfl, hor, hz6⟩
            obtain ⟨sr, cr, rfl, _⟩ := hor.ints.open_
            have HOr := Lib.hid hor; clear hor
            go_wp2_with fail
            refine ⟨.inr hz6, ?_⟩
            have hY6 := hY5.trans hz6
            (refine wpTreeR_look rfl (fun K hK => ?_); go_simp; first | (refine hK _ ?_; clear hK K) | (refine ⟨_, fun _ => rfl, hK _ ?_⟩; clear hK K))
            have hbg := HBG.out.ext (((hz3.trans hz4).trans hz5).trans hz6)
            have hmid := renmid_make (f := nmI tt x.f) (hd.trans hY6) HGG.out hbg HOt.out (hz5.trans hz6) HOl.out hz6 HOr.out (Ext.refl _) (hd.trans hY3).size ((Ext.refl _)).size ((Ext.refl _)).size (hd.trans hY4).size (hz5).size
            have HM := Lib.hid hmid
            clear hmid
            have z0 := hbg.c0
            have z1 := hbg.c1
            have z2 := hbg.c2
            have z3 := hbg.c3
            have f0 := hbg.frozen 0
            have f1 := hbg.frozen 1
            have f2 := hbg.frozen 2
            have f3 := hbg.frozen 3
            refine wpTreeR_one rfl rfl (fun K hK => ?_)
            go_wp2_with fail
            refine ⟨.inl (by simp), ?_⟩
            clear z0 z1 z2 z3 f0 f1 f2 f3 hbg HBG
            refine wpTreeR_done ?_
            go_wp2_with fail
            go_meet
            case rel => exact ⟨g, _, _, _, rfl, HM.out⟩
        · go_wp2_with fail
          refine ⟨.inr (Ext.alloc _ _), ?_⟩
          have hz1 : Ext W0 (W0.alloc (.cells #[.int .i64 0, .slice none 0 0, .slice none 0 0, .slice none 0 0] 24)) := Ext.alloc _ _
          obtain ⟨g, hg⟩ : ∃ g, W0.heap.size = g := ⟨_, rfl⟩
          have HBG := Lib.hid (BoxR.new W0 (.int .i64 0) (.slice none 0 0) (.slice none 0 0) (.slice none 0 0) hg)
          have HGG : Hid (w2.heap.size ≤ g) := Lib.hid (by have := (hd.trans hY0).size; omega)
          rw [hg]
          clear hg
          generalize W0.alloc (.cells #[.int .i64 0, .slice none 0 0, .slice none 0 0, .slice none 0 0] 24) = W1 at *
          have hY1 := hY0.trans hz1
          refine wpTreeR_one rfl rfl (fun K hK => ?_)
          go_wp2_with fail
          refine ⟨.inr (Ext.alloc _ _), ?_⟩
          have hz2 : Ext W1 (W1.alloc (.cells #[.int .i64 x.f] 3)) := Ext.alloc _ _
          have HQ := Lib.hid (show Ints (W1.alloc (.cells #[.int .i64 x.f] 3)) (.slice (some ⟨W1.heap.size, 0, none⟩) 1 1) [x.f] from ints_lit rfl (by omega) fun i hi => alloc_cell W1 _ 3 (by obtain rfl : i = 0 := (by simp at hi; omega); rfl))
          generalize W1.heap.size = gq at *
          generalize W1.alloc (.cells #[.int .i64 x.f] 3) = W2 at *
          have hY2 := hY1.trans hz2
          refine wpTreeR_one rfl rfl (fun K hK => ?_)
          go_wp2_with fail
          refine (named_c _ _ [x.f] tt W2 (HQ.out) (HTI.out.ext (hX0.trans hY2)) HNF.out H6.out (by simp)).mono ?_; rintro e W3 ⟨vq, rfl, hoq, hz3⟩
          obtain ⟨aq, cq, rfl, _, _, HLQ⟩ := hoq.ints.open_
          obtain ⟨bq, oq, rfl, hcq⟩ := HLQ.out 0 (by simp [nmL])
          have hcq2 : W3.cell? ⟨bq, oq, none⟩ = some (.int .i64 (nmI tt x.f)) := hcq
          have hlq : (nmL [x.f] tt).length = 1 := rfl
          clear hcq HLQ hoq
          go_wp2_with fail
          refine ⟨.inr hz3, ?_⟩
          have hY3 := hY2.trans hz3
          have kq : ∀ W, Ext W3 W → W.cell? ⟨bq, oq, none⟩ = some (.int .i64 (nmI tt x.f)) := fun W hW => hW.keep hcq2
          have kq2 := fun s : InC (Ext W3) => kq s.w s.h
          iterate 2 (refine wpTreeR_look rfl (fun K hK => ?_); go_simp; first | (refine hK _ ?_; clear hK K) | (refine ⟨_, fun _ => rfl, hK _ ?_⟩; clear hK K))
          clear kq kq2 hlq hcq2
          refine wpTreeR_one rfl rfl (fun K hK => ?_)
          go_wp2_with fail
          refine (named_c _ _ x.t tt W3 (HR.out.t.ext (hX0.trans hY3)) (HTI.out.ext (hX0.trans hY3)) HNt.out H6.out (by omega)).mono ?_; rintro e W4 ⟨vt, rfl, hot, hz4⟩
          obtain ⟨st, ct, rfl, _⟩ := hot.ints.open_
          have HOt := Lib.hid hot; clear hot
          go_wp2_with fail
          refine ⟨.inr hz4, ?_⟩
          have hY4 := hY3.trans hz4
          refine wpTreeR_one rfl rfl (fun K hK => ?_)
          go_wp2_with fail
          refine (named_c _ _ x.l tt W4 (HR.out.l.ext (hX0.trans hY4)) (HTI.out.ext (hX0.trans hY4)) HNl.out H6.out (by omega)).mono ?_; rintro e W5 ⟨vl, rfl, hol, hz5⟩
          obtain ⟨sl, cl, rfl, _⟩ := hol.ints.open_
          have HOl := Lib.hid hol; clear hol
          go_wp2_with fail
          refine ⟨.inr hz5, ?_⟩
          have hY5 := hY4.trans hz5
          refine wpTreeR_one rfl rfl (fun K hK => ?_)
          go_wp2_with fail
          refine (named_c _ _ x.r tt W5 (HR.out.r.ext (hX0.trans hY5)) (HTI.out.ext (hX0.trans hY5)) HNr.out H6.out (by omega)).mono ?_; rintro e W6 ⟨vr, rfl, hor, hz6⟩
          obtain ⟨sr, cr, rfl, _⟩ := hor.ints.open_
          have HOr := Lib.hid hor; clear hor
          go_wp2_with fail
          refine ⟨.inr hz6, ?_⟩
          have hY6 := hY5.trans hz6
          (refine wpTreeR_look rfl (fun K hK => ?_); go_simp; first | (refine hK _ ?_; clear hK K) | (refine ⟨_, fun _ => rfl, hK _ ?_⟩; clear hK K))
          have hbg := HBG.out.ext ((((hz2.trans hz3).trans hz4).trans hz5).trans hz6)
          have hmid := renmid_make (f := nmI tt x.f) (hd.trans hY6) HGG.out hbg HOt.out (hz5.trans hz6) HOl.out hz6 HOr.out (Ext.refl _) (hd.trans hY3).size ((Ext.refl _)).size ((Ext.refl _)).size (hd.trans hY4).size (hz5).size
          have HM := Lib.hid hmid
          clear hmid
          have z0 := hbg.c0
          have z1 := hbg.c1
          have z2 := hbg.c2
          have z3 := hbg.c3
          have f0 := hbg.frozen 0
          have f1 := hbg.frozen 1
          have f2 := hbg.frozen 2
          have f3 := hbg.frozen 3
          refine wpTreeR_one rfl rfl (fun K hK => ?_)
          go_wp2_with fail
          refine ⟨.inl (by simp), ?_⟩
          clear z0 z1 z2 z3 f0 f1 f2 f3 hbg HBG
          refine wpTreeR_done ?_
          go_wp2_with fail
          go_meet
          case rel => exact ⟨g, _, _, _, rfl, HM.out⟩
      case rest =>
        obtain ⟨g, tv', lv', rv', rfl, hm⟩ := hcut
        obtain ⟨st, ct, rfl, _⟩ := hm.t.ints.open_
        obtain ⟨sl, cl, rfl, _⟩ := hm.l.ints.open_
        obtain ⟨sr, cr, rfl, _⟩ := hm.r.ints.open_
        have HM := Lib.hid hm
        obtain ⟨wP, rfl⟩ : ∃ W : World, W = wc := ⟨_, rfl⟩
        have q0 := hm.b.c0
        have q1 := hm.b.c1
        have q2 := hm.b.c2
        have q3 := hm.b.c3
        have hX3 := hX2.trans hm.x
        clear hm
        go_wp2_with fail
        refine (sortI_c _ _ wP _ HM.out.l (by simp [nmL]; omega)).mono ?_; rintro e w4 ⟨rfl, ho4, hg4⟩
        have hm4 := HM.out.sortL ho4 hg4
        have HM4 := Lib.hid hm4
        clear q0 q1 q2 q3 ho4 hg4 HM
        have q0 := hm4.b.c0
        have q1 := hm4.b.c1
        have q2 := hm4.b.c2
        have q3 := hm4.b.c3
        have hX4 := hX2.trans hm4.x
        clear hm4
        go_wp2_with fail
        refine (sortI_c _ _ w4 _ HM4.out.r (by simp [nmL]; omega)).mono ?_; rintro e w5 ⟨rfl, ho5, hg5⟩
        have hm5 := HM4.out.sortR ho5 hg5
        rw [HSRT.out.1, HSRT.out.2] at hm5
        have HM5 := Lib.hid hm5
        clear q0 q1 q2 q3 ho5 hg5 HM4
        have q0 := hm5.b.c0
        have q1 := hm5.b.c1
        have q2 := hm5.b.c2
        have q3 := hm5.b.c3
        have hX5 := hX2.trans hm5.x
        have hbx := HBX.out.ext hm5.x
        clear hm5
        have z0 := hbx.c0
        have z1 := hbx.c1
        have z2 := hbx.c2
        have z3 := hbx.c3
        have f0 := hbx.frozen 0
        have f1 := hbx.frozen 1
        have f2 := hbx.frozen 2
        have f3 := hbx.frozen 3
        have HIN := Lib.hid (hbx.kept3 (f := nmI tt x.f) HM5.out.t HM5.out.l HM5.out.r (.int .i64 (nmI tt x.f)) (.slice st (nmL x.t tt).length ct) (.slice sl (nmL x.l tt).length cl) (.slice sr (nmL x.r tt).length cr))
        go_wp2_with fail
        have hb2 := hbx.set (.int .i64 (nmI tt x.f)) (.slice st (nmL x.t tt).length ct) (.slice sl (nmL x.l tt).length cl) (.slice sr (nmL x.r tt).length cr)
        have hy2 := BoxR.set_ext (hE0.trans hX5) (show w.heap.size ≤ w.heap.size + 1 by omega) (.int .i64 (nmI tt x.f)) (.slice st (nmL x.t tt).length ct) (.slice sl (nmL x.l tt).length cl) (.slice sr (nmL x.r tt).length cr)
        clear hbx z0 z1 z2 z3 f0 f1 f2 f3
        generalize ((((w5.setCell ⟨w.heap.size + 1, 0, none⟩ (.int .i64 (nmI tt x.f))).setCell ⟨w.heap.size + 1, 1, none⟩ (.slice st (nmL x.t tt).length ct)).setCell ⟨w.heap.size + 1, 2, none⟩ (.slice sl (nmL x.l tt).length cl)).setCell ⟨w.heap.size + 1, 3, none⟩ (.slice sr (nmL x.r tt).length cr)) = wz at *
        have d0 := hb2.c0
        have d1 := hb2.c1
        have d2 := hb2.c2
        have d3 := hb2.c3
        clear hb2
        (try simp only [Exit.inBlock, Exit.then])
        refine bodyPost_ret (v := .tuple #[.agg #[(.int .i64 (nmI tt x.f)), (.slice st (nmL x.t tt).length ct), (.slice sl (nmL x.l tt).length cl), (.slice sr (nmL x.r tt).length cr)], .int .i64 0]) (by simp [results, Try.results7, go_sem, d0, d1, d2, d3]) rfl ?_
        exact ⟨_, _, _, rfl, HIN.out, hy2⟩
  · rw [renX, if_neg (fun h => h0 h.1), renK, if_neg h0]
    have hk : (validR x != 0) = true := by simp [h0]
    generalize validR x = k at *
    clear h0 HO HRX
    go_enter Try.func7, Try.ntmps7
    go_wp2_with fail
    rw [← HW.out]
    obtain ⟨wB, hwB⟩ : ∃ wB, wB = wA.alloc (.cells #[.int .i64 0, .slice none 0 0, .slice none 0 0, .slice none 0 0] 24) := ⟨_, rfl⟩
    have hEB : Ext wA wB := by rw [hwB]; exact Ext.alloc _ _
    rw [← hwB]
    refine (HV.out wB hEB).mono ?_; rintro e w1 ⟨rfl, hx1⟩
    have hX1 := hEB.trans hx1
    have hsA : wA.heap.size = w.heap.size + 1 := by rw [HW.out]; simp
    have hbx : BoxR w1 (w.heap.size + 1) (.int .i64 0) (.slice none 0 0) (.slice none 0 0) (.slice none 0 0) := (by rw [hwB]; exact BoxR.new wA _ _ _ _ hsA : BoxR wB _ _ _ _ _).ext hx1
    clear hwB hsA hx1 hEB
    have z0 := hbx.c0
    have z1 := hbx.c1
    have z2 := hbx.c2
    have z3 := hbx.c3
    have f0 := hbx.frozen 0
    have f1 := hbx.frozen 1
    have f2 := hbx.frozen 2
    have f3 := hbx.frozen 3
    go_wp2_with fail
    have hb2 := hbx.set (.int .i64 0) (.slice none 0 0) (.slice none 0 0) (.slice none 0 0)
    have hx2 := BoxR.set_ext (hE0.trans hX1) (show w.heap.size ≤ w.heap.size + 1 by omega) (.int .i64 0) (.slice none 0 0) (.slice none 0 0) (.slice none 0 0)
    clear hbx z0 z1 z2 z3 f0 f1 f2 f3
    generalize ((((w1.setCell ⟨w.heap.size + 1, 0, none⟩ (.int .i64 0)).setCell ⟨w.heap.size + 1, 1, none⟩ (.slice none 0 0)).setCell ⟨w.heap.size + 1, 2, none⟩ (.slice none 0 0)).setCell ⟨w.heap.size + 1, 3, none⟩ (.slice none 0 0)) = wz at *
    have d0 := hb2.c0
    have d1 := hb2.c1
    have d2 := hb2.c2
    have d3 := hb2.c3
    clear hb2
    (try simp only [Exit.inBlock, Exit.then])
    refine bodyPost_ret (v := .tuple #[.agg #[(.int .i64 0), (.slice none 0 0), (.slice none 0 0), (.slice none 0 0)], .int .i64 k]) (by simp [results, Try.results7, go_sem, d0, d1, d2, d3]) rfl ?_
    exact ⟨_, _, _, rfl, ⟨ints_nil_c _, ints_nil_c _, ints_nil_c _⟩, hx2⟩

set_option maxHeartbeats 4000000 in
set_option maxRecDepth 100000 in
theorem rRename_c (tv lv rv tov : Value) (x : Rul) (tt : List Int) (w : World) (h : RulR w tv lv rv x) (ht : Ints w tov tt) (hb : longR x = false) : Calls Try.prog 8 #[.agg #[.int .i64 x.f, tv, lv, rv], tov] w (RRul (renX x tt) (renK (validR x) tt) w) := by
  obtain ⟨wA, hwA⟩ : ∃ wA, wA = w.alloc (.cells #[.int .i64 x.f, tv, lv, rv] 24) := ⟨_, rfl⟩
  have hE0 : Ext w wA := by rw [hwA]; exact Ext.alloc _ _
  have k0 : ∀ W, Ext wA W → W.cell? ⟨w.heap.size, 0, none⟩ = some (.int .i64 x.f) := by rw [hwA]; exact kept_alloc w _ _ rfl
  have k1 : ∀ W, Ext wA W → W.cell? ⟨w.heap.size, 1, none⟩ = some tv := by rw [hwA]; exact kept_alloc w _ _ rfl
  have k2 : ∀ W, Ext wA W → W.cell? ⟨w.heap.size, 2, none⟩ = some lv := by rw [hwA]; exact kept_alloc w _ _ rfl
  have k3 : ∀ W, Ext wA W → W.cell? ⟨w.heap.size, 3, none⟩ = some rv := by rw [hwA]; exact kept_alloc w _ _ rfl
  have H0 : Ext wA wA := Ext.refl _
  have HR := Lib.hid (h.ext hE0)
  have HTI := Lib.hid (ht.ext hE0)
  have HV := Lib.hid (fun W (hW : Ext wA W) => rValidate_c tv lv rv x W ((h.ext hE0).ext hW))
  have HO := Lib.hid (fun W (hW : Ext wA W) => rIsOrder_c _ tt W ((ht.ext hE0).ext hW))
  obtain ⟨ao_, co_, rfl, _⟩ := ht.open_
  obtain ⟨hbt, hbl, hbr⟩ := longR_le hb
  have HW := Lib.hid hwA; clear hwA h hb ht
  have HRX : Hid (validR x = 0 → ordB tt = true → renX x tt = ⟨nmI tt x.f, nmL x.t tt, sidL x.l tt, sidL x.r tt⟩) := Lib.hid (fun a b => by rw [renX, if_pos ⟨a, b⟩])
  by_cases h0 : validR x = 0
  · have HNF := Lib.hid (nb_one h0)
    have HNt := Lib.hid (nb_t h0)
    have HNl := Lib.hid (nb_l h0)
    have HNr := Lib.hid (nb_r h0)
    have HVZ := Lib.hid h0
    rw [renK, if_pos h0]
    rw [h0] at HV
    cases hb : ordB tt
    · rw [hb] at HO
      rw [renX, if_neg (fun h => by rw [hb] at h; cases h.2), if_neg (by decide)]
      clear h0 hb HRX
      go_enter Try.func8, Try.ntmps8
      go_wp2_with fail
      rw [← HW.out]
      obtain ⟨wB, hwB⟩ : ∃ wB, wB = wA.alloc (.cells #[.int .i64 0, .slice none 0 0, .slice none 0 0, .slice none 0 0] 24) := ⟨_, rfl⟩
      have hEB : Ext wA wB := by rw [hwB]; exact Ext.alloc _ _
      rw [← hwB]
      refine (HV.out wB hEB).mono ?_; rintro e w1 ⟨rfl, hx1⟩
      have hX1 := hEB.trans hx1
      have hsA : wA.heap.size = w.heap.size + 1 := by rw [HW.out]; simp
      have hbx : BoxR w1 (w.heap.size + 1) (.int .i64 0) (.slice none 0 0) (.slice none 0 0) (.slice none 0 0) := (by rw [hwB]; exact BoxR.new wA _ _ _ _ hsA : BoxR wB _ _ _ _ _).ext hx1
      clear hwB hsA hx1 hEB
      have z0 := hbx.c0
      have z1 := hbx.c1
      have z2 := hbx.c2
      have z3 := hbx.c3
      have f0 := hbx.frozen 0
      have f1 := hbx.frozen 1
      have f2 := hbx.frozen 2
      have f3 := hbx.frozen 3
      go_wp2_with fail
      refine (HO.out w1 hX1).mono ?_; rintro e w2 ⟨rfl, hx2⟩
      replace hbx := hbx.ext hx2
      have hX2 := hX1.trans hx2
      clear z0 z1 z2 z3 f0 f1 f2 f3
      have z0 := hbx.c0
      have z1 := hbx.c1
      have z2 := hbx.c2
      have z3 := hbx.c3
      have f0 := hbx.frozen 0
      have f1 := hbx.frozen 1
      have f2 := hbx.frozen 2
      have f3 := hbx.frozen 3
      go_wp2_with fail
      have hb2 := hbx.set (.int .i64 0) (.slice none 0 0) (.slice none 0 0) (.slice none 0 0)
      have hy2 := BoxR.set_ext (hE0.trans hX2) (show w.heap.size ≤ w.heap.size + 1 by omega) (.int .i64 0) (.slice none 0 0) (.slice none 0 0) (.slice none 0 0)
      clear hbx z0 z1 z2 z3 f0 f1 f2 f3
      generalize ((((w2.setCell ⟨w.heap.size + 1, 0, none⟩ (.int .i64 0)).setCell ⟨w.heap.size + 1, 1, none⟩ (.slice none 0 0)).setCell ⟨w.heap.size + 1, 2, none⟩ (.slice none 0 0)).setCell ⟨w.heap.size + 1, 3, none⟩ (.slice none 0 0)) = wz at *
      have d0 := hb2.c0
      have d1 := hb2.c1
      have d2 := hb2.c2
      have d3 := hb2.c3
      clear hb2
      (try simp only [Exit.inBlock, Exit.then])
      refine bodyPost_ret (v := .tuple #[.agg #[(.int .i64 0), (.slice none 0 0), (.slice none 0 0), (.slice none 0 0)], .int .i64 1]) (by simp [results, Try.results8, go_sem, d0, d1, d2, d3]) rfl ?_
      exact ⟨_, _, _, rfl, ⟨ints_nil_c _, ints_nil_c _, ints_nil_c _⟩, hy2⟩
    · have HSRT : Hid (sortZ (nmL x.l tt) = sidL x.l tt ∧ sortZ (nmL x.r tt) = sidL x.r tt) := Lib.hid ⟨sid_sort hb (validR_zero h0).l, sid_sort hb (validR_zero h0).r⟩
      have H6 := Lib.hid (ord_len hb)
      rw [HRX.out h0 hb, if_pos rfl]
      rw [hb] at HO
      clear h0 hb HRX
      go_enter Try.func8, Try.ntmps8
      go_wp2_with fail
      rw [← HW.out]
      obtain ⟨wB, hwB⟩ : ∃ wB, wB = wA.alloc (.cells #[.int .i64 0, .slice none 0 0, .slice none 0 0, .slice none 0 0] 24) := ⟨_, rfl⟩
      have hEB : Ext wA wB := by rw [hwB]; exact Ext.alloc _ _
      rw [← hwB]
      refine (HV.out wB hEB).mono ?_; rintro e w1 ⟨rfl, hx1⟩
      have hX1 := hEB.trans hx1
      have hsA : wA.heap.size = w.heap.size + 1 := by rw [HW.out]; simp
      have hbx : BoxR w1 (w.heap.size + 1) (.int .i64 0) (.slice none 0 0) (.slice none 0 0) (.slice none 0 0) := (by rw [hwB]; exact BoxR.new wA _ _ _ _ hsA : BoxR wB _ _ _ _ _).ext hx1
      clear hwB hsA hx1 hEB
      have z0 := hbx.c0
      have z1 := hbx.c1
      have z2 := hbx.c2
      have z3 := hbx.c3
      have f0 := hbx.frozen 0
      have f1 := hbx.frozen 1
      have f2 := hbx.frozen 2
      have f3 := hbx.frozen 3
      go_wp2_with fail
      refine (HO.out w1 hX1).mono ?_; rintro e w2 ⟨rfl, hx2⟩
      replace hbx := hbx.ext hx2
      have hX2 := hX1.trans hx2
      clear z0 z1 z2 z3 f0 f1 f2 f3 hX1 hx2
      have HBX := Lib.hid hbx
      clear hbx
      go_wp2_with fail
      refine wp_region_treeR Ext [20] (.look 0 (.look 1 (.look 3 (.look 7 (.look 8 (.look 9 (.look 11 (.look 12 (.look 13 (.look 15 (.look 16 (.look 17 (.one 2 (.one 4 (.look 5 (.look 6 (.one 10 (.one 14 (.one 18 (.look 19 (.one 20 (.one 21 .done)))))))))))))))))))))) Ext.refl (fun _ _ _ h k => h.trans k) (by kernel_rfl) (by kernel_rfl) (by intro c a d v w h; cases d <;> exact h) ?_
      have hd : Ext w2 { w2 with drawn := w2.drawn + 1 } := drawn_ext w2
      generalize { w2 with drawn := w2.drawn + 1 } = W0 at *
      have hX0 : Ext wA W0 := hX2.trans hd
      have HD0 := Lib.hid hd
      have hY0 : Ext W0 W0 := Ext.refl _
      have hs : ∀ s : InC (Ext W0), Ext wA s.w := fun s => hX0.trans s.h
      iterate 12 (refine wpTreeR_look rfl (fun K hK => ?_); go_simp; first | (refine hK _ ?_; clear hK K) | (refine ⟨_, fun _ => rfl, hK _ ?_⟩; clear hK K))
      clear hs
      refine wpTreeR_one rfl rfl (fun K hK => ?_)
      go_wp2_with fail
      refine ⟨.inr (Ext.alloc _ _), ?_⟩
      have hz1 : Ext W0 (W0.alloc (.cells #[.int .i64 x.f] 3)) := Ext.alloc _ _
      have HQ := Lib.hid (show Ints (W0.alloc (.cells #[.int .i64 x.f] 3)) (.slice (some ⟨W0.heap.size, 0, none⟩) 1 1) [x.f] from ints_lit rfl (by omega) fun i hi => alloc_cell W0 _ 3 (by obtain rfl : i = 0 := (by simp at hi; omega); rfl))
      generalize W0.heap.size = gq at *
      generalize W0.alloc (.cells #[.int .i64 x.f] 3) = W1 at *
      have hY1 := hY0.trans hz1
      refine wpTreeR_one rfl rfl (fun K hK => ?_)
      go_wp2_with fail
      refine (spell_c _ _ [x.f] tt W1 (HQ.out) (HTI.out.ext (hX0.trans hY1)) HNF.out H6.out (by simp)).mono ?_; rintro e W2 ⟨vq, rfl, hoq, hz2⟩
      obtain ⟨aq, cq, rfl, _, _, HLQ⟩ := hoq.ints.open_
      obtain ⟨bq, oq, rfl, hcq⟩ := HLQ.out 0 (by simp [nmL])
      have hcq2 : W2.cell? ⟨bq, oq, none⟩ = some (.int .i64 (nmI tt x.f)) := hcq
      have hlq : (nmL [x.f] tt).length = 1 := rfl
      clear hcq HLQ hoq
      go_wp2_with fail
      refine ⟨.inr hz2, ?_⟩
      have hY2 := hY1.trans hz2
      have kq : ∀ W, Ext W2 W → W.cell? ⟨bq, oq, none⟩ = some (.int .i64 (nmI tt x.f)) := fun W hW => hW.keep hcq2
      have kq2 := fun s : InC (Ext W2) => kq s.w s.h
      iterate 2 (refine wpTreeR_look rfl (fun K hK => ?_); go_simp; first | (refine hK _ ?_; clear hK K) | (refine ⟨_, fun _ => rfl, hK _ ?_⟩; clear hK K))
      clear kq kq2 hlq hcq2
      refine wpTreeR_one rfl rfl (fun K hK => ?_)
      go_wp2_with fail
      refine (spell_c _ _ x.t tt W2 (HR.out.t.ext (hX0.trans hY2)) (HTI.out.ext (hX0.trans hY2)) HNt.out H6.out (by omega)).mono ?_; rintro e W3 ⟨vt, rfl, hot, hz3⟩
      obtain ⟨st, ct, rfl, _⟩ := hot.ints.open_
      have HOt := Lib.hid hot; clear hot
      go_wp2_with fail
      refine ⟨.inr hz3, ?_⟩
      have hY3 := hY2.trans hz3
      refine wpTreeR_one rfl rfl (fun K hK => ?_)
      go_wp2_with fail
      refine (sides_c _ _ x.l tt W3 (HR.out.l.ext (hX0.trans hY3)) (HTI.out.ext (hX0.trans hY3)) HNl.out H6.out (by omega)).mono ?_; rintro e W4 ⟨vl, rfl, hol, hz4⟩
      obtain ⟨sl, cl, rfl, _⟩ := hol.ints.open_
      have HOl := Lib.hid hol; clear hol
      go_wp2_with fail
      refine ⟨.inr hz4, ?_⟩
      have hY4 := hY3.trans hz4
      refine wpTreeR_one rfl rfl (fun K hK => ?_)
      go_wp2_with fail
      refine (sides_c _ _ x.r tt W4 (HR.out.r.ext (hX0.trans hY4)) (HTI.out.ext (hX0.trans hY4)) HNr.out H6.out (by omega)).mono ?_; rintro e W5 ⟨vr, rfl, hor, hz5⟩
      obtain ⟨sr, cr, rfl, _⟩ := hor.ints.open_
      have HOr := Lib.hid hor; clear hor
      go_wp2_with fail
      refine ⟨.inr hz5, ?_⟩
      have hY5 := hY4.trans hz5
      (refine wpTreeR_look rfl (fun K hK => ?_); go_simp; first | (refine hK _ ?_; clear hK K) | (refine ⟨_, fun _ => rfl, hK _ ?_⟩; clear hK K))
      have hbx := HBX.out.ext (hd.trans hY5)
      have HIN := Lib.hid (hbx.kept3 (f := nmI tt x.f) (HOt.out.ext (hz4.trans hz5)) (HOl.out.ext hz5) HOr.out (.int .i64 (nmI tt x.f)) (.slice st (nmL x.t tt).length ct) (.slice sl (sidL x.l tt).length cl) (.slice sr (sidL x.r tt).length cr))
      have hX5 := hX0.trans hY5
      have z0 := hbx.c0
      have z1 := hbx.c1
      have z2 := hbx.c2
      have z3 := hbx.c3
      have f0 := hbx.frozen 0
      have f1 := hbx.frozen 1
      have f2 := hbx.frozen 2
      have f3 := hbx.frozen 3
      refine wpTreeR_one rfl rfl (fun K hK => ?_)
      go_wp2_with fail
      refine ⟨.inl (by simp), ?_⟩
      have hb2 := hbx.set (.int .i64 (nmI tt x.f)) (.slice st (nmL x.t tt).length ct) (.slice sl (sidL x.l tt).length cl) (.slice sr (sidL x.r tt).length cr)
      have hy2 := BoxR.set_ext (hE0.trans hX5) (show w.heap.size ≤ w.heap.size + 1 by omega) (.int .i64 (nmI tt x.f)) (.slice st (nmL x.t tt).length ct) (.slice sl (sidL x.l tt).length cl) (.slice sr (sidL x.r tt).length cr)
      clear hbx z0 z1 z2 z3 f0 f1 f2 f3
      generalize ((((W5.setCell ⟨w.heap.size + 1, 0, none⟩ (.int .i64 (nmI tt x.f))).setCell ⟨w.heap.size + 1, 1, none⟩ (.slice st (nmL x.t tt).length ct)).setCell ⟨w.heap.size + 1, 2, none⟩ (.slice sl (sidL x.l tt).length cl)).setCell ⟨w.heap.size + 1, 3, none⟩ (.slice sr (sidL x.r tt).length cr)) = wz at *
      have d0 := hb2.c0
      have d1 := hb2.c1
      have d2 := hb2.c2
      have d3 := hb2.c3
      clear hb2
      refine wpTreeR_one rfl rfl (fun K hK => ?_)
      go_wp2_with fail
      refine ⟨.inr (Ext.refl _), ?_⟩
      refine wpTreeR_done ?_
      go_wp2_with fail
      (try simp only [Exit.inBlock, Exit.then])
      refine bodyPost_ret (v := .tuple #[.agg #[(.int .i64 (nmI tt x.f)), (.slice st (nmL x.t tt).length ct), (.slice sl (sidL x.l tt).length cl), (.slice sr (sidL x.r tt).length cr)], .int .i64 0]) (by simp [results, Try.results8, go_sem, d0, d1, d2, d3]) rfl ?_
      exact ⟨_, _, _, rfl, HIN.out, hy2⟩
  · rw [renX, if_neg (fun h => h0 h.1), renK, if_neg h0]
    have hk : (validR x != 0) = true := by simp [h0]
    generalize validR x = k at *
    clear h0 HO HRX
    go_enter Try.func8, Try.ntmps8
    go_wp2_with fail
    rw [← HW.out]
    obtain ⟨wB, hwB⟩ : ∃ wB, wB = wA.alloc (.cells #[.int .i64 0, .slice none 0 0, .slice none 0 0, .slice none 0 0] 24) := ⟨_, rfl⟩
    have hEB : Ext wA wB := by rw [hwB]; exact Ext.alloc _ _
    rw [← hwB]
    refine (HV.out wB hEB).mono ?_; rintro e w1 ⟨rfl, hx1⟩
    have hX1 := hEB.trans hx1
    have hsA : wA.heap.size = w.heap.size + 1 := by rw [HW.out]; simp
    have hbx : BoxR w1 (w.heap.size + 1) (.int .i64 0) (.slice none 0 0) (.slice none 0 0) (.slice none 0 0) := (by rw [hwB]; exact BoxR.new wA _ _ _ _ hsA : BoxR wB _ _ _ _ _).ext hx1
    clear hwB hsA hx1 hEB
    have z0 := hbx.c0
    have z1 := hbx.c1
    have z2 := hbx.c2
    have z3 := hbx.c3
    have f0 := hbx.frozen 0
    have f1 := hbx.frozen 1
    have f2 := hbx.frozen 2
    have f3 := hbx.frozen 3
    go_wp2_with fail
    have hb2 := hbx.set (.int .i64 0) (.slice none 0 0) (.slice none 0 0) (.slice none 0 0)
    have hx2 := BoxR.set_ext (hE0.trans hX1) (show w.heap.size ≤ w.heap.size + 1 by omega) (.int .i64 0) (.slice none 0 0) (.slice none 0 0) (.slice none 0 0)
    clear hbx z0 z1 z2 z3 f0 f1 f2 f3
    generalize ((((w1.setCell ⟨w.heap.size + 1, 0, none⟩ (.int .i64 0)).setCell ⟨w.heap.size + 1, 1, none⟩ (.slice none 0 0)).setCell ⟨w.heap.size + 1, 2, none⟩ (.slice none 0 0)).setCell ⟨w.heap.size + 1, 3, none⟩ (.slice none 0 0)) = wz at *
    have d0 := hb2.c0
    have d1 := hb2.c1
    have d2 := hb2.c2
    have d3 := hb2.c3
    clear hb2
    (try simp only [Exit.inBlock, Exit.then])
    refine bodyPost_ret (v := .tuple #[.agg #[(.int .i64 0), (.slice none 0 0), (.slice none 0 0), (.slice none 0 0)], .int .i64 k]) (by simp [results, Try.results8, go_sem, d0, d1, d2, d3]) rfl ?_
    exact ⟨_, _, _, rfl, ⟨ints_nil_c _, ints_nil_c _, ints_nil_c _⟩, hx2⟩
end Go.Proofs.Ythmdecgkbjdabaa
