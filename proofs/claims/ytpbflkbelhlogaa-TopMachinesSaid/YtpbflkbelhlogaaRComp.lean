/- Machines: Compose of the reference. -/
import Derived.Test.YtpbflkbelhlogaaPut
import Derived.Test.YtpbflkbelhlogaaCompP
namespace Go.Proofs.Ytpbflkbelhlogaa
open Go.RowKit Go.Shelf
set_option linter.unusedVariables false
theorem Blk.store4b {w : World} {g : Nat} {ty : TypeId} {a0 a1 a2 a3 : Value} (h : Blk w g ty [a0, a1, a2, a3]) (b0 b1 b2 b3 : Value) :
    Blk ((((w.setCell ⟨g, 0, none⟩ b0).setCell ⟨g, 1, none⟩ b1).setCell ⟨g, 2, none⟩ b2).setCell ⟨g, 3, none⟩ b3) g ty [b0, b1, b2, b3] := by
  have := (((h.set 0 b0).set 1 b1).set 2 b2).set 3 b3
  simpa using this
theorem Blk.other4b {w : World} {g c : Nat} {ty : TypeId} {l : List Value} (h : Blk w g ty l) (hne : c ≠ g) (b0 b1 b2 b3 : Value) :
    Blk ((((w.setCell ⟨c, 0, none⟩ b0).setCell ⟨c, 1, none⟩ b1).setCell ⟨c, 2, none⟩ b2).setCell ⟨c, 3, none⟩ b3) g ty l :=
  (((h.other hne 0 b0).other hne 1 b1).other hne 2 b2).other hne 3 b3
theorem Ext.store4b {w W : World} (h : Ext w W) {g : Nat} (hg : w.heap.size ≤ g) (b0 b1 b2 b3 : Value) :
    Ext w ((((W.setCell ⟨g, 0, none⟩ b0).setCell ⟨g, 1, none⟩ b1).setCell ⟨g, 2, none⟩ b2).setCell ⟨g, 3, none⟩ b3) :=
  (((h.setCell hg 0 b0).setCell hg 1 b1).setCell hg 2 b2).setCell hg 3 b3
theorem arcsU_snoc (l : List Arc) (a : Arc) : arcsU (l ++ [a]) = putA (arcsU l) a := by unfold arcsU; rw [List.foldl_append]; rfl
theorem putA_len (l : List Arc) (a : Arc) : (putA l a).length ≤ l.length + 1 := by
  unfold putA
  split
  · omega
  · have key : ∀ (ar : List Arc) (p : List Arc × Bool), (if (ar.foldl (insS a) p).2 then (ar.foldl (insS a) p).1 else (ar.foldl (insS a) p).1 ++ [a]).length ≤ (if p.2 then p.1 else p.1 ++ [a]).length + ar.length := fun ar => by
      induction ar with
      | nil => intro p; exact Nat.le_refl _
      | cons x ar ih =>
        intro p
        have h1 := ih (insS a p x)
        have h2 : (if (insS a p x).2 then (insS a p x).1 else (insS a p x).1 ++ [a]).length ≤ (if p.2 then p.1 else p.1 ++ [a]).length + 1 := by
          obtain ⟨o, d⟩ := p
          unfold insS
          cases d <;> by_cases h : LtA a x <;> simp [h]
        rw [List.foldl_cons, List.length_cons]; omega
    have := key l ([], false)
    unfold insA insTo
    rw [List.take_length]
    simp at this ⊢
    omega
theorem arcsU_len : ∀ l : List Arc, (arcsU l).length ≤ l.length := fun l => by
  have key : ∀ (l U : List Arc), (l.foldl putA U).length ≤ U.length + l.length := fun l => by
    induction l with
    | nil => intro U; simp
    | cons a l ih =>
      intro U
      have h1 := ih (putA U a)
      have h2 := putA_len U a
      rw [List.foldl_cons, List.length_cons]; omega
  have := key l []
  unfold arcsU; simpa using this
/-- an arc laid in, and stored -/
theorem TurnS.lay {wA w w' : World} {g2 g3 : Nat} {s : Int} {vo vo' ve : Value} {ar ar' : List Arc} {es : List Int} (h : TurnS wA w g2 g3 s vo ve ar es) (hn : g2 ≠ g3) (hg3 : wA.heap.size ≤ g3)
    (hx : Ext w w') (ho : OArcs w' wA.heap.size vo' ar') : TurnS wA (w'.setCell ⟨g3, 1, none⟩ vo') g2 g3 s vo' ve ar' es := by
  have h' := h.later hx
  refine ⟨h'.ext.setCell hg3 _ _, row_setR ho h'.box (by decide) 1 vo', row_setR h'.ends h'.box (by decide) 1 vo', ?_, h'.res.other (fun e => hn e.symm) 1 vo'⟩
  have := h'.box.set 1 vo'
  simpa using this
theorem TurnS.pushE {wA w w' : World} {g2 g3 : Nat} {s : Int} {vo ve ve' : Value} {ar : List Arc} {es es' : List Int} (h : TurnS wA w g2 g3 s vo ve ar es) (hn : g2 ≠ g3) (hg3 : wA.heap.size ≤ g3)
    (hr : OInts 3 w' wA.heap.size ve' es') (hb : Below wA.heap.size w w') (hg : w.grownBy w' ve.ownBlock) : TurnS wA (w'.setCell ⟨g3, 2, none⟩ ve') g2 g3 s vo ve' ar es' := by
  have hb3 := h.box.keptR (by decide) h.ends hg
  have hb2 := h.res.keptR (by decide) h.ends hg
  have ha := row_keptR h.arcs (by decide) h.ends hg
  refine ⟨(h.ext.upto hb (Nat.le_refl _)).setCell hg3 _ _, row_setR ha hb3 (by decide) 2 ve', row_setR hr hb3 (by decide) 2 ve', ?_, hb2.other (fun e => hn e.symm) 2 ve'⟩
  have := hb3.set 2 ve'
  simpa using this
def KeepO (wR : World) (g : Nat) (us : List Value) (w : World) : Prop := Ext wR w ∧ Blk w g 25 us
theorem TurnS.omac {wA w : World} {g2 g3 : Nat} {s : Int} {vo ve : Value} {ar : List Arc} {es : List Int} (h : TurnS wA w g2 g3 s vo ve ar es) : OMac w wA.heap.size vo ve ⟨s, ar, es⟩ := ⟨h.arcs, h.ends⟩
set_option maxHeartbeats 8000000 in
set_option maxRecDepth 100000 in
theorem rCompose_c (av ev bv fv : Value) (m n : Mac) (w : World) (h : MacR w av ev m) (k : MacR w bv fv n) : Calls Try.prog 56 #[.agg #[.int .i64 m.s, av, ev], .agg #[.int .i64 n.s, bv, fv]] w (RMac2 (composeM m n) (composeK m n) w) := by
  obtain ⟨w1_, hw1_⟩ : ∃ W, W = w.alloc (.cells #[.int .i64 m.s, av, ev] 25) := ⟨_, rfl⟩
  obtain ⟨w2_, hw2_⟩ : ∃ W, W = w1_.alloc (.cells #[.int .i64 n.s, bv, fv] 25) := ⟨_, rfl⟩
  obtain ⟨wR, hwR⟩ : ∃ W, W = w2_.alloc (.cells #[.int .i64 0, .slice none 0 0, .slice none 0 0] 25) := ⟨_, rfl⟩
  have hz1_ : w1_.heap.size = w.heap.size + 1 := by rw [hw1_]; simp
  have hz2_ : w2_.heap.size = w.heap.size + 2 := by rw [hw2_]; simp [hz1_]
  have x1_ : Ext w w1_ := by rw [hw1_]; exact Ext.alloc _ _
  have x2_ : Ext w1_ w2_ := by rw [hw2_]; exact Ext.alloc _ _
  have x3_ : Ext w2_ wR := by rw [hwR]; exact Ext.alloc _ _
  have hER : Ext w wR := x1_.trans (x2_.trans x3_)
  have kk : ∀ i v, #[Value.int .i64 m.s, av, ev][i]? = some v → ∀ W, Ext wR W → W.cell? ⟨w.heap.size, i, none⟩ = some v := fun i v h W hW => kept_alloc w _ _ h W (by rw [← hw1_]; exact x2_.trans (x3_.trans hW))
  have ll : ∀ i v, #[Value.int .i64 n.s, bv, fv][i]? = some v → ∀ W, Ext wR W → W.cell? ⟨w.heap.size + 1, i, none⟩ = some v := fun i v h W hW => by
    have := kept_alloc w1_ _ _ h W (by rw [← hw2_]; exact x3_.trans hW)
    rwa [hz1_] at this
  have k0 := kk 0 _ rfl
  have k1 := kk 1 _ rfl
  have k2 := kk 2 _ rfl
  have l0 := ll 0 _ rfl
  have l1 := ll 1 _ rfl
  have l2 := ll 2 _ rfl
  have HBX : Hid (Blk wR (w.heap.size + 2) 25 [.int .i64 0, .slice none 0 0, .slice none 0 0]) := Lib.hid (by rw [hwR, ← hz2_]; exact Blk.alloc w2_ _ _)
  have H0 : Ext wR wR := Ext.refl _
  have HRM := Lib.hid (h.ext hER)
  have HRN := Lib.hid (k.ext hER)
  obtain ⟨aa, ca, rfl, hla, hma, HA⟩ := (h.ext hER).a.open_
  obtain ⟨ae, ce, rfl, hle, hme, HE⟩ := (h.ext hER).e.open_
  obtain ⟨ba, da, rfl, hlb, hmb, HB⟩ := (k.ext hER).a.open_
  obtain ⟨be, de, rfl, hlf, hmf, HF⟩ := (k.ext hER).e.open_
  have HW := Lib.hid (show wR = ((w.alloc (.cells #[.int .i64 m.s, .slice aa m.a.length ca, .slice ae m.e.length ce] 25)).alloc (.cells #[.int .i64 n.s, .slice ba n.a.length da, .slice be n.e.length de] 25)).alloc (.cells #[.int .i64 0, .slice none 0 0, .slice none 0 0] 25) by rw [hwR, hw2_, hw1_])
  clear hwR hw2_ hw1_ hz1_ hz2_ x1_ x2_ x3_ kk ll h k
  have HBO := Lib.hid (rtwo_c _ _ _ _ m n wR HRM.out HRN.out)
  by_cases hv : bothK m n = 0
  · obtain ⟨hMm, hMn⟩ := both_ok hv
    have HM := Lib.hid hMm
    have HN := Lib.hid hMn
    have HKD : Hid (composeM m n = madeM (m.s * n.s) (compA m n) (compE m n) ∧ composeK m n = madeK (m.s * n.s) (compA m n)) := Lib.hid ⟨by rw [composeM, if_pos hv], by rw [composeK, if_pos hv]⟩
    have hma60 := hMm.a
    have hna60 := hMn.a
    have hms1 := hMm.s1
    have hms2 := hMm.s2
    have hns1 := hMn.s1
    have hns2 := hMn.s2
    have hem := end_bd hMm
    have hen := end_bd hMn
    have hm0 := mul_bd (a := m.s) (b := n.s) ⟨by omega, by omega⟩ ⟨by omega, by omega⟩
    have hw0 : IntKind.i64.wrap (m.s * n.s) = m.s * n.s := IntWalk.i64_in _ (by omega)
    rw [hv] at HBO
    clear hv hMm hMn
    go_enter Try.func56, Try.ntmps56
    go_wp2_with fail
    rw [← HW.out]
    refine HBO.out.mono ?_; rintro e w1 ⟨rfl, hx1⟩
    have HX1 := Lib.hid hx1; clear hx1
    have hE1 : Ext wR w1 := HX1.out
    by_cases h9 : 9 < m.s * n.s
    · have hd1 : decide (m.s * n.s > 9) = true := by simpa using h9
      have hd2 : decide (9 < m.s * n.s) = true := by simpa using h9
      have HK : Hid (composeM m n = ⟨0, [], []⟩ ∧ composeK m n = 3) := Lib.hid (by
        have h0 : madeK (m.s * n.s) (compA m n) = 3 := by rw [madeK, if_pos h9]
        exact ⟨by rw [HKD.out.1, madeM, h0, if_neg (by decide)], by rw [HKD.out.2, h0]⟩)
      clear h9 hm0
      have HXX := Lib.hid hE1
      have hM0 : OMac w1 wR.heap.size (.slice none 0 0) (.slice none 0 0) ⟨0, [], []⟩ := OMac.nil _ _

      have hb := HBX.out.ext HXX.out
      have z0 := hb.cell (i := 0) rfl
      have z1 := hb.cell (i := 1) rfl
      have z2 := hb.cell (i := 2) rfl
      have f0 := hb.frozen 0
      have f1 := hb.frozen 1
      have f2 := hb.frozen 2
      have HBE := Lib.hid (And.intro (hb.store3 (.int .i64 ((⟨0, [], []⟩ : Mac)).s) (.slice none 0 0) (.slice none 0 0)) (And.intro (Ext.store3 (hER.trans HXX.out) (show w.heap.size ≤ w.heap.size + 2 by omega) (.int .i64 ((⟨0, [], []⟩ : Mac)).s) (.slice none 0 0) (.slice none 0 0))
        (hM0.store3 hb (.int .i64 ((⟨0, [], []⟩ : Mac)).s) (.slice none 0 0) (.slice none 0 0))))
      clear hb
      go_wp2_with fail
      obtain ⟨hb2, hx2', hM2⟩ := HBE.out
      clear z0 z1 z2 f0 f1 f2 HBE
      have d0 := hb2.cell (i := 0) rfl
      have d1 := hb2.cell (i := 1) rfl
      have d2 := hb2.cell (i := 2) rfl
      generalize (((w1.setCell ⟨w.heap.size + 2, 0, none⟩ (.int .i64 ((⟨0, [], []⟩ : Mac)).s)).setCell ⟨w.heap.size + 2, 1, none⟩ (.slice none 0 0)).setCell ⟨w.heap.size + 2, 2, none⟩ (.slice none 0 0)) = w4 at *
      refine bodyPost_ret (v := .tuple #[.agg #[.int .i64 ((⟨0, [], []⟩ : Mac)).s, .slice none 0 0, .slice none 0 0], .int .i64 (3)]) (by simp [results, Try.results56, go_sem, d0, d1, d2]) rfl ?_

      exact RMac2.mk HK.out.1 HK.out.2 hM2.mac hx2'
    · have hd1 : decide (m.s * n.s > 9) = false := by simp; omega
      have hd2 : decide (9 < m.s * n.s) = false := by simp; omega
      have HK9 : Hid (madeK (m.s * n.s) (compA m n) = if 60 < (arcsU (compA m n)).length then 3 else 0) := Lib.hid (by rw [madeK, if_neg h9])
      clear h9 hm0
      have hgO : wR.heap.size ≤ w1.heap.size := hE1.size
      have hgR : w.heap.size + 2 < wR.heap.size := HBX.out.lt
      have HT0 : Hid (TurnS wR (w1.alloc (.cells #[.int .i64 (m.s * n.s), .slice none 0 0, .slice none 0 0] 25)) (w.heap.size + 2) w1.heap.size (m.s * n.s) (.slice none 0 0) (.slice none 0 0) [] []) := Lib.hid ⟨hE1.trans (Ext.alloc _ _), World.ownsRow_nil _ _ _ _, OInts.nil _ _ _, Blk.alloc w1 _ _, (HBX.out.ext hE1).ext (Ext.alloc _ _)⟩
      obtain ⟨gR, hgRe⟩ : ∃ g, w.heap.size + 2 = g := ⟨_, rfl⟩
      obtain ⟨gO, hgOe⟩ : ∃ g, w1.heap.size = g := ⟨_, rfl⟩
      rw [hgRe, hgOe] at HT0
      rw [hgOe] at hgO
      rw [hgRe] at hgR
      go_wp2_with fail
      go_loopg [8] m.a.length (fun z i wr => ∃ (j : Nat) (v1 : Value), j ≤ m.a.length ∧ m.a.length ≤ j + z ∧ i = .int .i64 j ∧ TurnS wR wr gR gO (m.s * n.s) v1 (.slice none 0 0) (arcsU ((m.a.take j).flatMap fun x => compX n x n.a)) [])
      case atStart => exact ⟨0, _, by omega, by omega, rfl, HT0.out⟩
      case round =>
        clear HT0
        obtain ⟨j, v1, hj, hjz, rfl, hT⟩ := hrel
        obtain ⟨g1, rfl⟩ : ∃ g : Nat, g = gk := ⟨_, rfl⟩
        have hEr : Ext wR wr := hT.ext
        have hfl := flat_leA (fun x => compX n x n.a) 60 (m.a.take j) (fun x => Nat.le_trans (compX_len n x n.a) hna60)
        have hfl2 : (m.a.take j).length ≤ 60 := by rw [List.length_take]; omega
        by_cases hlj : j < m.a.length
        · have HFN := Lib.hid (flat_next hlj ⟨0, 0, 0, 0⟩ (fun x => compX n x n.a))
          obtain ⟨x, hx⟩ : ∃ x, x = arcA m.a j := ⟨_, rfl⟩
          have HXD := Lib.hid hx
          have HFN2 : Hid ((m.a.take (j + 1)).flatMap (fun x => compX n x n.a) = (m.a.take j).flatMap (fun x => compX n x n.a) ++ compX n x n.a) := Lib.hid (by rw [hx]; exact HFN.out)
          clear HFN hx
          generalize (m.a.take j).flatMap (fun x => compX n x n.a) = LL at *
          have hLL : LL.length ≤ 3600 := by have := Nat.mul_le_mul_right 60 hfl2; omega
          clear hfl hfl2
          have HT := Lib.hid hT; clear hT
          go_wp2_with fail
          go_loopg [9] n.a.length (fun z i wr => ∃ (k : Nat) (v1 : Value), k ≤ n.a.length ∧ n.a.length ≤ k + z ∧ i = .int .i64 k ∧ TurnS wR wr gR gO (m.s * n.s) v1 (.slice none 0 0) (arcsU (LL ++ compX n x (n.a.take k))) [])
          case atStart => exact ⟨0, _, by omega, by omega, rfl, by rw [List.take_zero]; have := HT.out; simpa [compX] using this⟩
          case round =>
            obtain ⟨k, v1, hk, hkz, rfl, hT⟩ := hrel
            have hEr : Ext wR wr := hT.ext
            have hcl := compX_len n x (n.a.take k)
            have hcl2 : (n.a.take k).length ≤ 60 := by rw [List.length_take]; omega
            by_cases hlk : k < n.a.length
            · obtain ⟨W2, rfl⟩ : ∃ W : World, W = wr := ⟨_, rfl⟩
              obtain ⟨b9, o9, rfl, hc0, hc1, hc2, hc3⟩ := HA.out j hlj
              obtain ⟨b8, o8, rfl, hy0, hy1, hy2, hy3⟩ := HB.out k hlk
              rw [← HXD.out] at hc0 hc1 hc2 hc3
              have hst := HM.out.arc hlj
              rw [← HXD.out] at hst
              have hsy := HN.out.arc hlk
              have HST := Lib.hid (compX_next n x hlk)
              generalize arcA n.a k = y at *
              generalize compX n x (n.a.take k) = CX at *
              have HT := Lib.hid hT; clear hT
              go_upto_region 13 with fail
              go_cut [10, 11] from 48 to 87 (fun s11 s12 wx => ∃ bx by_ : Nat, s11 = .pointer (some ⟨bx, 0, none⟩) ∧ s12 = .pointer (some ⟨by_, 0, none⟩) ∧ W2.heap.size ≤ bx ∧ W2.heap.size ≤ by_ ∧ Blk wx bx 50 [.int .i64 x.f, .int .i64 x.t, .int .i64 x.i, .int .i64 x.o] ∧ Blk wx by_ 50 [.int .i64 y.f, .int .i64 y.t, .int .i64 y.i, .int .i64 y.o] ∧ Ext W2 wx)
              case first =>
                refine wp_region_free (Ext W2) (fun _ => True) [] [0, 1, 2, 3, 4, 5, 6, 7, 8, 9] 4 (by kernel_rfl) (by kernel_rfl) (by intro c a d v w h; cases d <;> exact h) ?_
                have hd : Ext W2 { W2 with drawn := W2.drawn + 1 } := drawn_ext W2
                have hs : ∀ s : InC (Ext W2), Ext wR s.w := fun s => hEr.trans s.h
                have q0 := fun s : InC (Ext W2) => (hEr.trans s.h).keep hc0
                have q1 := fun s : InC (Ext W2) => (hEr.trans s.h).keep hc1
                have q2 := fun s : InC (Ext W2) => (hEr.trans s.h).keep hc2
                have q3 := fun s : InC (Ext W2) => (hEr.trans s.h).keep hc3
                have q4 := fun s : InC (Ext W2) => (hEr.trans s.h).keep hy0
                have q5 := fun s : InC (Ext W2) => (hEr.trans s.h).keep hy1
                have q6 := fun s : InC (Ext W2) => (hEr.trans s.h).keep hy2
                have q7 := fun s : InC (Ext W2) => (hEr.trans s.h).keep hy3
                generalize { W2 with drawn := W2.drawn + 1 } = V0 at *
                iterate 10 (refine wpPeek_look rfl ‹_› (fun K hK => ?_); go_simp; first | (refine hK _ ?_; clear hK K) | (refine ⟨_, fun _ => rfl, hK _ ?_⟩; clear hK K))
                have HV0 := Lib.hid hd
                clear hd hs q0 q1 q2 q3 q4 q5 q6 q7 hc0 hc1 hc2 hc3 hy0 hy1 hy2 hy3
                refine wpPeek_nilK ?_
                refine wpAnyE_each (i := 10) (is := [11]) (by kernel_rfl) ⟨?_, ?_, trivial⟩
                · refine wpOp_of_list rfl rfl (fun K hK => ?_)
                  go_wp2_with fail
                  refine ⟨KeepE.of (fun h => h.trans (Ext.alloc _ _)) (fun _ => trivial), ?_⟩
                  have zx := Blk.alloc V0 #[.int .i64 0, .int .i64 0, .int .i64 0, .int .i64 0] 50
                  have hv1 : Ext W2 (V0.alloc (.cells #[.int .i64 0, .int .i64 0, .int .i64 0, .int .i64 0] 50)) := HV0.out.trans (Ext.alloc _ _)
                  have hlx : W2.heap.size ≤ V0.heap.size := HV0.out.size
                  have hz1 : V0.heap.size < (V0.alloc (.cells #[.int .i64 0, .int .i64 0, .int .i64 0, .int .i64 0] 50)).heap.size := by simp
                  generalize V0.alloc (.cells #[.int .i64 0, .int .i64 0, .int .i64 0, .int .i64 0] 50) = V1 at *
                  generalize V0.heap.size = bx at *
                  refine wpAnyE_each (i := 11) (is := []) (by kernel_rfl) ⟨?_, trivial⟩
                  refine wpOp_of_list rfl rfl (fun K hK => ?_)
                  go_wp2_with fail
                  refine ⟨KeepE.of (fun h => h.trans (Ext.alloc _ _)) (fun _ => trivial), ?_⟩
                  have zy := Blk.alloc V1 #[.int .i64 0, .int .i64 0, .int .i64 0, .int .i64 0] 50
                  replace zx := zx.ext (Ext.alloc V1 (.cells #[.int .i64 0, .int .i64 0, .int .i64 0, .int .i64 0] 50))
                  have hv2 : Ext W2 (V1.alloc (.cells #[.int .i64 0, .int .i64 0, .int .i64 0, .int .i64 0] 50)) := hv1.trans (Ext.alloc _ _)
                  have hly : W2.heap.size ≤ V1.heap.size := hv1.size
                  generalize V1.alloc (.cells #[.int .i64 0, .int .i64 0, .int .i64 0, .int .i64 0] 50) = V2 at *
                  generalize V1.heap.size = by_ at *
                  clear hv1
                  refine wpAnyE_each (i := 12) (is := []) (by kernel_rfl) ⟨?_, trivial⟩
                  refine wpOp_of_list rfl rfl (fun K hK => ?_)
                  have c0 := zx.cell (i := 0) rfl
                  have c1 := zx.cell (i := 1) rfl
                  have c2 := zx.cell (i := 2) rfl
                  have c3 := zx.cell (i := 3) rfl
                  have f0 := zx.frozen 0
                  have f1 := zx.frozen 1
                  have f2 := zx.frozen 2
                  have f3 := zx.frozen 3
                  have zn := zx.store4b (.int .i64 x.f) (.int .i64 x.t) (.int .i64 x.i) (.int .i64 x.o)
                  have zo := zy.other4b (c := bx) (by omega) (.int .i64 x.f) (.int .i64 x.t) (.int .i64 x.i) (.int .i64 x.o)
                  have hvn := Ext.store4b hv2 hlx (.int .i64 x.f) (.int .i64 x.t) (.int .i64 x.i) (.int .i64 x.o)
                  have HZ := Lib.hid (And.intro zn (And.intro zo hvn))
                  clear zn zo hvn zx zy
                  go_wp2_with fail
                  refine ⟨KeepE.of (fun h => Ext.store4b h hlx _ _ _ _) (fun _ => trivial), ?_⟩
                  obtain ⟨zx, zy, hv3⟩ := HZ.out
                  clear c0 c1 c2 c3 f0 f1 f2 f3 HZ
                  generalize ((((V2.setCell ⟨bx, 0, none⟩ (.int .i64 x.f)).setCell ⟨bx, 1, none⟩ (.int .i64 x.t)).setCell ⟨bx, 2, none⟩ (.int .i64 x.i)).setCell ⟨bx, 3, none⟩ (.int .i64 x.o)) = V3 at *
                  refine wpAnyE_each (i := 13) (is := []) (by kernel_rfl) ⟨?_, trivial⟩
                  refine wpOp_of_list rfl rfl (fun K hK => ?_)
                  have c0 := zy.cell (i := 0) rfl
                  have c1 := zy.cell (i := 1) rfl
                  have c2 := zy.cell (i := 2) rfl
                  have c3 := zy.cell (i := 3) rfl
                  have f0 := zy.frozen 0
                  have f1 := zy.frozen 1
                  have f2 := zy.frozen 2
                  have f3 := zy.frozen 3
                  have zn := zy.store4b (.int .i64 y.f) (.int .i64 y.t) (.int .i64 y.i) (.int .i64 y.o)
                  have zo := zx.other4b (c := by_) (by omega) (.int .i64 y.f) (.int .i64 y.t) (.int .i64 y.i) (.int .i64 y.o)
                  have hvn := Ext.store4b hv3 hly (.int .i64 y.f) (.int .i64 y.t) (.int .i64 y.i) (.int .i64 y.o)
                  have HZ := Lib.hid (And.intro zn (And.intro zo hvn))
                  clear zn zo hvn zy zx
                  go_wp2_with fail
                  refine ⟨KeepE.of (fun h => Ext.store4b h hly _ _ _ _) (fun _ => trivial), ?_⟩
                  obtain ⟨zy, zx, hv4⟩ := HZ.out
                  clear c0 c1 c2 c3 f0 f1 f2 f3 HZ
                  generalize ((((V3.setCell ⟨by_, 0, none⟩ (.int .i64 y.f)).setCell ⟨by_, 1, none⟩ (.int .i64 y.t)).setCell ⟨by_, 2, none⟩ (.int .i64 y.i)).setCell ⟨by_, 3, none⟩ (.int .i64 y.o)) = V4 at *
                  refine wpAnyE_done (by kernel_rfl) ?_
                  go_wp2_with fail
                  go_meet
                  case rel => exact ⟨bx, by_, rfl, rfl, hlx, hly, zx, zy, hv4⟩
                · refine wpOp_of_list rfl rfl (fun K hK => ?_)
                  go_wp2_with fail
                  refine ⟨KeepE.of (fun h => h.trans (Ext.alloc _ _)) (fun _ => trivial), ?_⟩
                  have zy := Blk.alloc V0 #[.int .i64 0, .int .i64 0, .int .i64 0, .int .i64 0] 50
                  have hv1 : Ext W2 (V0.alloc (.cells #[.int .i64 0, .int .i64 0, .int .i64 0, .int .i64 0] 50)) := HV0.out.trans (Ext.alloc _ _)
                  have hly : W2.heap.size ≤ V0.heap.size := HV0.out.size
                  have hz1 : V0.heap.size < (V0.alloc (.cells #[.int .i64 0, .int .i64 0, .int .i64 0, .int .i64 0] 50)).heap.size := by simp
                  generalize V0.alloc (.cells #[.int .i64 0, .int .i64 0, .int .i64 0, .int .i64 0] 50) = V1 at *
                  generalize V0.heap.size = by_ at *
                  refine wpAnyE_each (i := 10) (is := []) (by kernel_rfl) ⟨?_, trivial⟩
                  refine wpOp_of_list rfl rfl (fun K hK => ?_)
                  go_wp2_with fail
                  refine ⟨KeepE.of (fun h => h.trans (Ext.alloc _ _)) (fun _ => trivial), ?_⟩
                  have zx := Blk.alloc V1 #[.int .i64 0, .int .i64 0, .int .i64 0, .int .i64 0] 50
                  replace zy := zy.ext (Ext.alloc V1 (.cells #[.int .i64 0, .int .i64 0, .int .i64 0, .int .i64 0] 50))
                  have hv2 : Ext W2 (V1.alloc (.cells #[.int .i64 0, .int .i64 0, .int .i64 0, .int .i64 0] 50)) := hv1.trans (Ext.alloc _ _)
                  have hlx : W2.heap.size ≤ V1.heap.size := hv1.size
                  generalize V1.alloc (.cells #[.int .i64 0, .int .i64 0, .int .i64 0, .int .i64 0] 50) = V2 at *
                  generalize V1.heap.size = bx at *
                  clear hv1
                  refine wpAnyE_each (i := 12) (is := []) (by kernel_rfl) ⟨?_, trivial⟩
                  refine wpOp_of_list rfl rfl (fun K hK => ?_)
                  have c0 := zx.cell (i := 0) rfl
                  have c1 := zx.cell (i := 1) rfl
                  have c2 := zx.cell (i := 2) rfl
                  have c3 := zx.cell (i := 3) rfl
                  have f0 := zx.frozen 0
                  have f1 := zx.frozen 1
                  have f2 := zx.frozen 2
                  have f3 := zx.frozen 3
                  have zn := zx.store4b (.int .i64 x.f) (.int .i64 x.t) (.int .i64 x.i) (.int .i64 x.o)
                  have zo := zy.other4b (c := bx) (by omega) (.int .i64 x.f) (.int .i64 x.t) (.int .i64 x.i) (.int .i64 x.o)
                  have hvn := Ext.store4b hv2 hlx (.int .i64 x.f) (.int .i64 x.t) (.int .i64 x.i) (.int .i64 x.o)
                  have HZ := Lib.hid (And.intro zn (And.intro zo hvn))
                  clear zn zo hvn zx zy
                  go_wp2_with fail
                  refine ⟨KeepE.of (fun h => Ext.store4b h hlx _ _ _ _) (fun _ => trivial), ?_⟩
                  obtain ⟨zx, zy, hv3⟩ := HZ.out
                  clear c0 c1 c2 c3 f0 f1 f2 f3 HZ
                  generalize ((((V2.setCell ⟨bx, 0, none⟩ (.int .i64 x.f)).setCell ⟨bx, 1, none⟩ (.int .i64 x.t)).setCell ⟨bx, 2, none⟩ (.int .i64 x.i)).setCell ⟨bx, 3, none⟩ (.int .i64 x.o)) = V3 at *
                  refine wpAnyE_each (i := 13) (is := []) (by kernel_rfl) ⟨?_, trivial⟩
                  refine wpOp_of_list rfl rfl (fun K hK => ?_)
                  have c0 := zy.cell (i := 0) rfl
                  have c1 := zy.cell (i := 1) rfl
                  have c2 := zy.cell (i := 2) rfl
                  have c3 := zy.cell (i := 3) rfl
                  have f0 := zy.frozen 0
                  have f1 := zy.frozen 1
                  have f2 := zy.frozen 2
                  have f3 := zy.frozen 3
                  have zn := zy.store4b (.int .i64 y.f) (.int .i64 y.t) (.int .i64 y.i) (.int .i64 y.o)
                  have zo := zx.other4b (c := by_) (by omega) (.int .i64 y.f) (.int .i64 y.t) (.int .i64 y.i) (.int .i64 y.o)
                  have hvn := Ext.store4b hv3 hly (.int .i64 y.f) (.int .i64 y.t) (.int .i64 y.i) (.int .i64 y.o)
                  have HZ := Lib.hid (And.intro zn (And.intro zo hvn))
                  clear zn zo hvn zy zx
                  go_wp2_with fail
                  refine ⟨KeepE.of (fun h => Ext.store4b h hly _ _ _ _) (fun _ => trivial), ?_⟩
                  obtain ⟨zy, zx, hv4⟩ := HZ.out
                  clear c0 c1 c2 c3 f0 f1 f2 f3 HZ
                  generalize ((((V3.setCell ⟨by_, 0, none⟩ (.int .i64 y.f)).setCell ⟨by_, 1, none⟩ (.int .i64 y.t)).setCell ⟨by_, 2, none⟩ (.int .i64 y.i)).setCell ⟨by_, 3, none⟩ (.int .i64 y.o)) = V4 at *
                  refine wpAnyE_done (by kernel_rfl) ?_
                  go_wp2_with fail
                  go_meet
                  case rel => exact ⟨bx, by_, rfl, rfl, hlx, hly, zx, zy, hv4⟩
              case rest =>
                obtain ⟨bx, by_, rfl, rfl, hbx, hby, hKX, hKY, hXc⟩ := hcut
                have hTc := HT.out.later hXc
                have hEc : Ext wR wc := hTc.ext
                have x0 := hKX.cell (i := 0) rfl
                have x1 := hKX.cell (i := 1) rfl
                have x2 := hKX.cell (i := 2) rfl
                have x3 := hKX.cell (i := 3) rfl
                have y0 := hKY.cell (i := 0) rfl
                have y1 := hKY.cell (i := 1) rfl
                have y2 := hKY.cell (i := 2) rfl
                have y3 := hKY.cell (i := 3) rfl
                have HTc := Lib.hid hTc
                obtain ⟨a1, c1, rfl⟩ := row_open hTc.arcs
                have p1 := hTc.box.cell (i := 1) rfl
                clear hTc hKX hKY
                by_cases hxy : x.o = y.i
                · have hd : (x.o == y.i) = true := by simp [hxy]
                  have hm1 := mul_bd (a := x.f) (b := n.s) ⟨by omega, by omega⟩ ⟨by omega, by omega⟩
                  have hm2 := mul_bd (a := x.t) (b := n.s) ⟨by omega, by omega⟩ ⟨by omega, by omega⟩
                  have hw1 : IntKind.i64.wrap (x.f * n.s) = x.f * n.s := IntWalk.i64_in _ (by omega)
                  have hw2 : IntKind.i64.wrap (x.f * n.s + y.f) = x.f * n.s + y.f := IntWalk.i64_in _ (by omega)
                  have hw3 : IntKind.i64.wrap (x.t * n.s) = x.t * n.s := IntWalk.i64_in _ (by omega)
                  have hw4 : IntKind.i64.wrap (x.t * n.s + y.t) = x.t * n.s + y.t := IntWalk.i64_in _ (by omega)
                  have HST2 : Hid (arcsU (LL ++ compX n x (n.a.take (k + 1))) = putA (arcsU (LL ++ CX)) (compOf n x y)) := Lib.hid (by rw [HST.out, if_pos (by simpa using hxy), ← List.append_assoc, arcsU_snoc])
                  have hlen : (arcsU (LL ++ CX)).length ≤ 100000 := by have := arcsU_len (LL ++ CX); rw [List.length_append] at this; omega
                  have HPU : Hid (Calls Try.prog 94 #[.slice a1 (arcsU (LL ++ CX)).length c1, .agg #[.int .i64 (x.f * n.s + y.f), .int .i64 (x.t * n.s + y.t), .int .i64 x.i, .int .i64 y.o]] wc (RArcsO wR.heap.size (putA (arcsU (LL ++ CX)) (compOf n x y)) wc)) := Lib.hid (put_c _ _ (compOf n x y) wc _ HTc.out.arcs hEc.size hlen)
                  generalize putA (arcsU (LL ++ CX)) (compOf n x y) = PA at *
                  generalize arcsU (LL ++ CX) = AL at *
                  have HXY := Lib.hid hxy; clear hxy hm1 hm2 hlen
                  go_wp2_with fail
                  refine HPU.out.mono ?_; rintro e w7 ⟨v7, rfl, ho7, hx7⟩
                  have hb7 := HTc.out.box.ext hx7
                  have z1 := hb7.cell (i := 1) rfl
                  have f1 := hb7.frozen 1
                  have HT7 := Lib.hid (HTc.out.lay (by omega) hgO hx7 ho7)
                  obtain ⟨a7, c7, rfl⟩ := row_open ho7
                  clear hb7 ho7 x0 x1 x2 x3 y0 y1 y2 y3 p1
                  go_wp2_with fail
                  go_roundg (gk-1)
                  case measure => omega
                  case rel => exact ⟨k+1, _, by omega, by omega, by go_num, by rw [HST2.out]; exact HT7.out⟩
                · have hd : (x.o == y.i) = false := by simp [hxy]
                  have HST2 : Hid (LL ++ compX n x (n.a.take (k + 1)) = LL ++ CX) := Lib.hid (by rw [HST.out, if_neg (by simpa using hxy)])
                  clear hxy
                  go_wp2_with fail
                  go_roundg (gk-1)
                  case measure => omega
                  case rel => exact ⟨k+1, _, by omega, by omega, by go_num, by rw [HST2.out]; exact HTc.out⟩
            · have HTK : Hid (LL ++ compX n x (n.a.take k) = (m.a.take (j + 1)).flatMap fun x => compX n x n.a) := Lib.hid (by rw [HFN2.out, List.take_of_length_le (by omega)])
              rw [HTK.out] at hT
              have HT2 := Lib.hid hT; clear hT
              go_wp2_with fail
              go_roundg (g1-1)
              case measure => omega
              case rel => exact ⟨j+1, _, by omega, by omega, by go_num, HT2.out⟩
        · have HAL : Hid ((m.a.take j).flatMap (fun x => compX n x n.a) = compA m n) := Lib.hid (by rw [List.take_of_length_le (by omega)]; rfl)
          rw [HAL.out] at hT
          clear hfl hfl2
          generalize hUU : arcsU (compA m n) = U at *
          have HUU := Lib.hid hUU; clear hUU
          have hT' := hT
          obtain ⟨a1, c1, rfl⟩ := row_open hT.arcs
          have p1 := hT.box.cell (i := 1) rfl
          have p0 := hT.box.cell (i := 0) rfl
          have p2 := hT.box.cell (i := 2) rfl
          have HT := Lib.hid hT; clear hT hT'
          by_cases h60 : 60 < U.length
          · have hd3 : decide ((U.length : Int) > 60) = true := by simp; omega
            have hd4 : decide ((60 : Int) < (U.length : Int)) = true := by simp; omega
            have HK : Hid (composeM m n = ⟨0, [], []⟩ ∧ composeK m n = 3) := Lib.hid (by
              have h0 : madeK (m.s * n.s) (compA m n) = 3 := by rw [HK9.out, if_pos h60]
              exact ⟨by rw [HKD.out.1, madeM, h0, if_neg (by decide)], by rw [HKD.out.2, h0]⟩)
            rw [← hgRe] at *
            have HXX := Lib.hid hEr
            have hM0 : OMac wr wR.heap.size (.slice none 0 0) (.slice none 0 0) ⟨0, [], []⟩ := OMac.nil _ _

            have hb := HBX.out.ext HXX.out
            have z0 := hb.cell (i := 0) rfl
            have z1 := hb.cell (i := 1) rfl
            have z2 := hb.cell (i := 2) rfl
            have f0 := hb.frozen 0
            have f1 := hb.frozen 1
            have f2 := hb.frozen 2
            have HBE := Lib.hid (And.intro (hb.store3 (.int .i64 ((⟨0, [], []⟩ : Mac)).s) (.slice none 0 0) (.slice none 0 0)) (And.intro (Ext.store3 (hER.trans HXX.out) (show w.heap.size ≤ w.heap.size + 2 by omega) (.int .i64 ((⟨0, [], []⟩ : Mac)).s) (.slice none 0 0) (.slice none 0 0))
              (hM0.store3 hb (.int .i64 ((⟨0, [], []⟩ : Mac)).s) (.slice none 0 0) (.slice none 0 0))))
            clear hb
            go_wp2_with fail
            obtain ⟨hb2, hx2', hM2⟩ := HBE.out
            clear z0 z1 z2 f0 f1 f2 HBE
            have d0 := hb2.cell (i := 0) rfl
            have d1 := hb2.cell (i := 1) rfl
            have d2 := hb2.cell (i := 2) rfl
            generalize (((wr.setCell ⟨w.heap.size + 2, 0, none⟩ (.int .i64 ((⟨0, [], []⟩ : Mac)).s)).setCell ⟨w.heap.size + 2, 1, none⟩ (.slice none 0 0)).setCell ⟨w.heap.size + 2, 2, none⟩ (.slice none 0 0)) = w4 at *
            refine bodyPost_ret (v := .tuple #[.agg #[.int .i64 ((⟨0, [], []⟩ : Mac)).s, .slice none 0 0, .slice none 0 0], .int .i64 (3)]) (by simp [results, Try.results56, go_sem, d0, d1, d2]) rfl ?_

            exact RMac2.mk HK.out.1 HK.out.2 hM2.mac hx2'
          · have hd3 : decide ((U.length : Int) > 60) = false := by simp; omega
            have hd4 : decide ((60 : Int) < (U.length : Int)) = false := by simp; omega
            have HK : Hid (composeM m n = ⟨m.s * n.s, U, compE m n⟩ ∧ composeK m n = 0) := Lib.hid (by
              have h0 : madeK (m.s * n.s) (compA m n) = 0 := by rw [HK9.out, if_neg h60]
              exact ⟨by rw [HKD.out.1, madeM, if_pos h0, HUU.out], by rw [HKD.out.2, h0]⟩)
            have hU60 : U.length ≤ 60 := by omega
            clear h60 HKD HK9
            obtain ⟨W0, rfl⟩ : ∃ W : World, W = wr := ⟨_, rfl⟩
            go_wp2_with fail
            go_loopg [12] m.e.length (fun z i wr => ∃ (j : Nat) (v2 : Value), j ≤ m.e.length ∧ m.e.length ≤ j + z ∧ i = .int .i64 j ∧ TurnS wR wr gR gO (m.s * n.s) (.slice a1 U.length c1) v2 U ((m.e.take j).flatMap fun a => n.e.map fun b => a * n.s + b))
            case atStart => exact ⟨0, _, by omega, by omega, rfl, HT.out⟩
            case round =>
              clear HT p0 p1 p2 hEr hjz hj hlj
              obtain ⟨j, v2, hj, hjz, rfl, hT⟩ := hrel
              obtain ⟨g2, rfl⟩ : ∃ g : Nat, g = gk := ⟨_, rfl⟩
              have hEr : Ext wR wr := hT.ext
              have hfl := flat_leA (fun a : Int => n.e.map fun b => a * n.s + b) 9 (m.e.take j) (fun x => by rw [List.length_map]; exact hen)
              have hfl2 : (m.e.take j).length ≤ 9 := by rw [List.length_take]; omega
              by_cases hlj : j < m.e.length
              · have HFN := Lib.hid (flat_next hlj 0 (fun a : Int => n.e.map fun b => a * n.s + b))
                have hx := HM.out.ends (m.e[j]?.getD 0) (by rw [List.getElem?_eq_getElem hlj]; exact List.getElem_mem hlj)
                have hcx : ∃ x, x = m.e[j]?.getD 0 := ⟨_, rfl⟩
                obtain ⟨x, hxe⟩ := hcx
                rw [← hxe] at HFN hx
                have HXE := Lib.hid hxe; clear hxe
                generalize (m.e.take j).flatMap (fun a : Int => n.e.map fun b => a * n.s + b) = LE at *
                have hLE : LE.length ≤ 81 := by have := Nat.mul_le_mul_right 9 hfl2; omega
                clear hfl hfl2
                have HT := Lib.hid hT; clear hT
                go_wp2_with fail
                go_loopg [13] n.e.length (fun z i wr => ∃ (k : Nat) (v2 : Value), k ≤ n.e.length ∧ n.e.length ≤ k + z ∧ i = .int .i64 k ∧ TurnS wR wr gR gO (m.s * n.s) (.slice a1 U.length c1) v2 U (LE ++ (n.e.take k).map fun b => x * n.s + b))
                case atStart => exact ⟨0, _, by omega, by omega, rfl, by rw [List.take_zero]; have := HT.out; simpa using this⟩
                case round =>
                  clear HT hEr
                  obtain ⟨k, v2, hk, hkz, rfl, hT⟩ := hrel
                  have hEr : Ext wR wr := hT.ext
                  by_cases hlk : k < n.e.length
                  · obtain ⟨b9, o9, rfl, hc0⟩ := HE.out j hlj
                    obtain ⟨b8, o8, rfl, hc1⟩ := HF.out k hlk
                    rw [← HXE.out] at hc0
                    have hy := HN.out.ends (n.e[k]?.getD 0) (by rw [List.getElem?_eq_getElem hlk]; exact List.getElem_mem hlk)
                    have HST : Hid (LE ++ (n.e.take (k + 1)).map (fun b => x * n.s + b) = (LE ++ (n.e.take k).map (fun b => x * n.s + b)) ++ [x * n.s + n.e[k]?.getD 0]) := Lib.hid (by rw [take_next hlk 0, List.map_append, List.append_assoc]; rfl)
                    have hml : ((n.e.take k).map (fun b => x * n.s + b)).length ≤ 9 := by rw [List.length_map, List.length_take]; omega
                    generalize n.e[k]?.getD 0 = y at *
                    have hlen : (LE ++ (n.e.take k).map (fun b => x * n.s + b)).length ≤ 1000000000 := by rw [List.length_append]; omega
                    generalize LE ++ (n.e.take k).map (fun b => x * n.s + b) = LC at *
                    have hm1 := mul_bd (a := x) (b := n.s) ⟨by omega, by omega⟩ ⟨by omega, by omega⟩
                    have hw1 : IntKind.i64.wrap (x * n.s) = x * n.s := IntWalk.i64_in _ (by omega)
                    have hw2 : IntKind.i64.wrap (x * n.s + y) = x * n.s + y := IntWalk.i64_in _ (by omega)
                    obtain ⟨a2, c2, rfl⟩ := row_open hT.ends
                    have HT := Lib.hid hT; clear hT
                    go_wp2_with fail
                    refine wp_region_peek (KeepO wR gO [.int .i64 (m.s * n.s), .slice a1 U.length c1, .slice a2 LC.length c2]) (fun _ => True) [19] [.look 0, .look 1, .look 2, .look 3, .look 4, .look 5, .look 6, .look 7, .look 8, .look 9, .look 10, .look 11, .look 12, .look 13, .look 14, .look 15, .go 16, .go 17, .go 18, .go 19] (by kernel_rfl) (by kernel_rfl) (by intro c a d v w h; cases d <;> exact h) ?_
                    have HT1 := Lib.hid (HT.out.later (drawn_ext wr))
                    have hK1 : KeepO wR gO [.int .i64 (m.s * n.s), .slice a1 U.length c1, .slice a2 LC.length c2] { wr with drawn := wr.drawn + 1 } := ⟨HT1.out.ext, HT1.out.box⟩
                    have hs : ∀ s : InC (KeepO wR gO [.int .i64 (m.s * n.s), .slice a1 U.length c1, .slice a2 LC.length c2]), Ext wR s.w := fun s => s.h.1
                    have q0 := fun s : InC (KeepO wR gO [.int .i64 (m.s * n.s), .slice a1 U.length c1, .slice a2 LC.length c2]) => s.h.1.keep hc0
                    have q1 := fun s : InC (KeepO wR gO [.int .i64 (m.s * n.s), .slice a1 U.length c1, .slice a2 LC.length c2]) => s.h.1.keep hc1
                    have q2 := fun s : InC (KeepO wR gO [.int .i64 (m.s * n.s), .slice a1 U.length c1, .slice a2 LC.length c2]) => s.h.2.cell (i := 2) rfl
                    generalize { wr with drawn := wr.drawn + 1 } = W1 at *
                    iterate 16 (refine wpPeek_look rfl ‹_› (fun K hK => ?_); go_simp; first | (refine hK _ ?_; clear hK K) | (refine ⟨_, fun _ => rfl, hK _ ?_⟩; clear hK K))
                    clear hs q0 q1 q2
                    have hE1' : Ext wR W1 := HT1.out.ext
                    have hszW : wR.heap.size ≤ W1.heap.size := hE1'.size
                    refine wpPeek_go rfl rfl (fun K hK => ?_)
                    go_wp2_with fail
                    refine ⟨KeepE.of (fun h => ⟨h.1.trans (Ext.alloc _ _), h.2.ext (Ext.alloc _ _)⟩) (fun _ => trivial), ?_⟩
                    refine wpPeek_go rfl rfl (fun K hK => ?_)
                    refine wpList_append1G elInts rfl _ _ rfl rfl rfl HT1.out.ends rfl rfl hszW (by omega) (by omega) ?_
                    intro g6 cap6 w6 ho6 hg6 hq6
                    have hb6 : Below wR.heap.size W1 w6 := Below.of_grownBy hg6 HT1.out.ends hszW
                    have ho6' : OInts 3 w6 wR.heap.size (.slice (some ⟨g6, 0, none⟩) (LC.length + 1) cap6) (LC ++ [x * n.s + y]) := by unfold OInts; rw [ints_append, List.length_append]; simpa [ints] using ho6
                    have HT6 := Lib.hid (HT1.out.pushE (by omega) hgO ho6' hb6 hg6)
                    have HK6 : Hid (KeepO wR gO [.int .i64 (m.s * n.s), .slice a1 U.length c1, .slice a2 LC.length c2] w6) := Lib.hid ⟨hE1'.upto hb6 (Nat.le_refl _), HT1.out.box.keptR (by decide) HT1.out.ends hg6⟩
                    clear ho6 hg6 hq6 hb6 ho6'
                    go_wp2_with fail
                    refine ⟨KeepE.of (fun _ => HK6.out) (fun _ => trivial), ?_⟩
                    refine wpPeek_go rfl rfl (fun K hK => ?_)
                    go_wp2_with fail
                    refine ⟨KeepE.refl, ?_⟩
                    have z2 := HK6.out.2.cell (i := 2) rfl
                    have f2 := HK6.out.2.frozen 2
                    refine wpPeek_go rfl rfl (fun K hK => ?_)
                    go_wp2_with fail
                    refine ⟨⟨.inl (by simp), fun _ => trivial⟩, ?_⟩
                    clear z2 f2
                    refine wpPeek_nil ?_
                    go_wp2_with fail
                    go_roundg (gk-1)
                    case measure => omega
                    case rel => exact ⟨k+1, _, by omega, by omega, by go_num, by rw [HST.out]; exact HT6.out⟩
                  · have HTK : Hid (LE ++ (n.e.take k).map (fun b => x * n.s + b) = (m.e.take (j + 1)).flatMap fun a => n.e.map fun b => a * n.s + b) := Lib.hid (by rw [HFN.out, List.take_of_length_le (by omega)])
                    rw [HTK.out] at hT
                    have HT2 := Lib.hid hT; clear hT
                    go_wp2_with fail
                    go_roundg (g2-1)
                    case measure => omega
                    case rel => exact ⟨j+1, _, by omega, by omega, by go_num, HT2.out⟩
              · have HEL : Hid ((m.e.take j).flatMap (fun a : Int => n.e.map fun b => a * n.s + b) = compE m n) := Lib.hid (by rw [List.take_of_length_le (by omega)]; rfl)
                rw [HEL.out] at hT
                clear hfl hfl2
                generalize compE m n = CE at *
                obtain ⟨a2, c2, rfl⟩ := row_open hT.ends
                have q0 := hT.box.cell (i := 0) rfl
                have q1 := hT.box.cell (i := 1) rfl
                have q2 := hT.box.cell (i := 2) rfl
                have hb := hT.res
                have z0 := hb.cell (i := 0) rfl
                have z1 := hb.cell (i := 1) rfl
                have z2 := hb.cell (i := 2) rfl
                have f0 := hb.frozen 0
                have f1 := hb.frozen 1
                have f2 := hb.frozen 2
                have hgw : w.heap.size ≤ gR := by omega
                have HBE := Lib.hid (And.intro (hb.store3 (.int .i64 (m.s * n.s)) (.slice a1 U.length c1) (.slice a2 CE.length c2)) (And.intro (Ext.store3 (hER.trans hEr) hgw (.int .i64 (m.s * n.s)) (.slice a1 U.length c1) (.slice a2 CE.length c2))
                  (hT.omac.store3 hb (.int .i64 (m.s * n.s)) (.slice a1 U.length c1) (.slice a2 CE.length c2))))
                clear hb hT
                go_wp2_with fail
                obtain ⟨hb2, hx2', hM2⟩ := HBE.out
                clear z0 z1 z2 f0 f1 f2 q0 q1 q2 HBE
                have d0 := hb2.cell (i := 0) rfl
                have d1 := hb2.cell (i := 1) rfl
                have d2 := hb2.cell (i := 2) rfl
                generalize (((wr.setCell ⟨gR, 0, none⟩ (.int .i64 (m.s * n.s))).setCell ⟨gR, 1, none⟩ (.slice a1 U.length c1)).setCell ⟨gR, 2, none⟩ (.slice a2 CE.length c2)) = w4 at *
                refine bodyPost_ret (v := .tuple #[.agg #[.int .i64 (m.s * n.s), .slice a1 U.length c1, .slice a2 CE.length c2], .int .i64 0]) (by simp [results, Try.results56, go_sem, d0, d1, d2]) rfl ?_
                exact RMac2.mk HK.out.1 HK.out.2 hM2.mac hx2'
  · rw [show composeM m n = ⟨0, [], []⟩ by rw [composeM, if_neg hv], show composeK m n = bothK m n by rw [composeK, if_neg hv]]
    have hk : (bothK m n != 0) = true := by simp [hv]
    generalize bothK m n = kb at *
    clear hv
    have hxx : ∀ W, Ext wR W → OMac W W.heap.size (.slice none 0 0) (.slice none 0 0) ⟨0, [], []⟩ := fun W _ => OMac.nil _ _
    go_enter Try.func56, Try.ntmps56
    go_wp2_with fail
    rw [← HW.out]
    refine HBO.out.mono ?_; rintro e w1 ⟨rfl, hx1⟩
    have hM0 := hxx w1 hx1

    have hb := HBX.out.ext hx1
    have z0 := hb.cell (i := 0) rfl
    have z1 := hb.cell (i := 1) rfl
    have z2 := hb.cell (i := 2) rfl
    have f0 := hb.frozen 0
    have f1 := hb.frozen 1
    have f2 := hb.frozen 2
    have HBE := Lib.hid (And.intro (hb.store3 (.int .i64 ((⟨0, [], []⟩ : Mac)).s) (.slice none 0 0) (.slice none 0 0)) (And.intro (Ext.store3 (hER.trans hx1) (show w.heap.size ≤ w.heap.size + 2 by omega) (.int .i64 ((⟨0, [], []⟩ : Mac)).s) (.slice none 0 0) (.slice none 0 0))
      (hM0.store3 hb (.int .i64 ((⟨0, [], []⟩ : Mac)).s) (.slice none 0 0) (.slice none 0 0))))
    clear hb
    go_wp2_with fail
    obtain ⟨hb2, hx2', hM2⟩ := HBE.out
    clear z0 z1 z2 f0 f1 f2 HBE
    have d0 := hb2.cell (i := 0) rfl
    have d1 := hb2.cell (i := 1) rfl
    have d2 := hb2.cell (i := 2) rfl
    generalize (((w1.setCell ⟨w.heap.size + 2, 0, none⟩ (.int .i64 ((⟨0, [], []⟩ : Mac)).s)).setCell ⟨w.heap.size + 2, 1, none⟩ (.slice none 0 0)).setCell ⟨w.heap.size + 2, 2, none⟩ (.slice none 0 0)) = w4 at *
    refine bodyPost_ret (v := .tuple #[.agg #[.int .i64 ((⟨0, [], []⟩ : Mac)).s, .slice none 0 0, .slice none 0 0], .int .i64 (kb)]) (by simp [results, Try.results56, go_sem, d0, d1, d2]) rfl ?_

    exact RMac2.mk rfl rfl hM2.mac hx2'
end Go.Proofs.Ytpbflkbelhlogaa
