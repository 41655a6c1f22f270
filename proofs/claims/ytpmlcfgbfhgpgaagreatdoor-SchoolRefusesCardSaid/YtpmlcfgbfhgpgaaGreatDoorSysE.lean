/- choose of a school. -/
import Derived.Test.YtpmlcfgbfhgpgaaGreatDoorSysD
import Derived.Test.YtpmlcfgbfhgpgaaGreatDoorTreeR
import Derived.Test.YtpmlcfgbfhgpgaaGreatDoorSchQ
namespace Go.Proofs.YtpmlcfgbfhgpgaaGreatDoor
open Go.RowKit Go.Shelf
set_option linter.unusedVariables false
theorem below_set {B g : Nat} {W W' : World} (h : Below B W W') (hg : B ≤ g) (i : Nat) (v : Value) : Below B W (W'.setCell ⟨g, i, none⟩ v) :=
 ⟨h.os, h.tape, h.output, by simpa [World.setCell] using h.size, fun k hk => (Below.heap_setCell _ _ _ k (fun e => by dsimp only at e; omega)).trans (h.block k hk)⟩
theorem chV_none {A1 A2 A3 : Int} (h : chV none = .agg #[.int .i64 A1, .int .i64 A2, .int .i64 A3]) : A1 = 0 ∧ A2 = 0 ∧ A3 = 0 := by
 unfold chV at h; simp at h; omega
theorem chV_some {n : Nat} {p k A1 A2 A3 : Int} (h : chV (some (n, p, k)) = .agg #[.int .i64 A1, .int .i64 A2, .int .i64 A3]) : A1 = n ∧ A2 = p ∧ A3 = k := by
 unfold chV at h; simp at h; omega
theorem chV_ret {k p g : Int} (h : 0 ≤ k) : Ending.returned (.tuple #[.agg #[.int .i64 k, .int .i64 p, .int .i64 g], .bool true]) = .returned (.tuple #[chV (some (k.toNat, p, g)), .bool (some (k.toNat, p, g)).isSome]) := by
 show Ending.returned (.tuple #[.agg #[.int .i64 k, .int .i64 p, .int .i64 g], .bool true]) = .returned (.tuple #[.agg #[.int .i64 ((k.toNat : Nat) : Int), .int .i64 p, .int .i64 g], .bool true])
 rw [show ((k.toNat : Nat) : Int) = k by omega]
set_option maxHeartbeats 8000000 in
set_option maxRecDepth 100000 in
theorem choose_c (b : Nat) (rv : Value) (v : SV) (x : St) (s : List Rul) (w : World) (hb : w.cell? ⟨b, 2, none⟩ = some rv) (hr : Ruls w rv s) (hs : StR w v x) (hI : InvE s x) (hh : x.has = true) :
  Calls Tryz.prog 73 #[.pointer (some ⟨b, 0, none⟩), .agg (v.cells x).toArray] w (RV (.tuple #[chV (chooseS s x), .bool (chooseS s x).isSome]) w) := by
 have hk : ∀ k ∈ x.kn, 0 ≤ k ∧ k < s.length := hI.knR
 have hkl : x.kn.length ≤ 100 := by have := hI.kl; have := hI.s6; omega
 have hw : 1 ≤ x.words.length := by have := hI.wlen hh; omega
 have hc : checkK (sysL s x) (lastW x) x.gr = 0 := hI.check
 have HK0 : Hid (∀ n, n < x.kn.length → 0 ≤ x.kn[n]?.getD 0) := Lib.hid fun n hn => by rw [List.getElem?_eq_getElem hn]; exact (hk _ (List.getElem_mem hn)).1
 have HR1 : Hid (∀ c, winS (sysL s x) (lastW x) x.gr = some c → c.1 < x.kn.length) := Lib.hid fun c h => by have := (win_some h hI.gOk).1; rwa [sysL_len] at this
 clear hI hh
 obtain ⟨u, hu, HWD⟩ := word_c v x w hs hw
 have HWD := Lib.hid HWD
 have HSY := Lib.hid (fun W (h : Ext w W) => system_c b rv v x s W (h.keep hb) (hr.ext h) (hs.ext h) hk hkl)
 have HWI := Lib.hid (fun (q : Value) W (hq : Ruls W q (sysL s x)) (h : Ext w W) => Winner_c q u v.gr (sysL s x) (lastW x) x.gr W hq (hu.ext h) (hs.gr.ext h))
 have hwk : winK (sysL s x) (lastW x) x.gr = winS (sysL s x) (lastW x) x.gr := by unfold winK; rw [if_pos hc]
 simp only [hwk, hc] at HWI
 have HCS : Hid (chooseS s x = (winS (sysL s x) (lastW x) x.gr).map fun c => ((x.kn[c.1]?.getD 0).toNat, c.2.1, c.2.2)) := Lib.hid rfl
 generalize winS (sysL s x) (lastW x) x.gr = R at *
 generalize chooseS s x = RC at *
 obtain ⟨A1, A2, A3, hA⟩ : ∃ A1 A2 A3 : Int, chV R = .agg #[.int .i64 A1, .int .i64 A2, .int .i64 A3] := by cases R <;> exact ⟨_, _, _, rfl⟩
 have HA := Lib.hid hA
 simp only [hA] at HWI
 clear hA hwk hc
 obtain ⟨wB, hwB⟩ : ∃ wB, wB = (w.alloc (.cells (v.cells x).toArray 106)).alloc (.cells #[.int .i64 0, .int .i64 0, .int .i64 0] 46) := ⟨_, rfl⟩
 have hX0 : Ext w wB := by rw [hwB]; exact (Ext.alloc _ _).trans (Ext.alloc _ _)
 have hbox3 : Blk wB w.heap.size 106 (v.cells x) := by rw [hwB]; exact (Blk.alloc w _ _).ext (Ext.alloc _ _)
 have hbox4 : Blk wB (w.heap.size + 1) 46 [.int .i64 0, .int .i64 0, .int .i64 0] := by
  have := Blk.alloc (w.alloc (.cells (v.cells x).toArray 106)) #[.int .i64 0, .int .i64 0, .int .i64 0] 46
  rw [hwB]; simpa using this
 have HWB := Lib.hid hwB; clear hwB
 have HS6 := Lib.hid (fun (W : World) (i : Nat) (v : Value) (h : Ext w W) => h.setCell (c := w.heap.size + 1) (by omega) i v)
 obtain ⟨ak, ck, hkn, hk1, hk2, HK⟩ := hs.kn.open_
 obtain ⟨vkn, vgr, vb, vw, vs, vf, vo⟩ := v
 simp only at hkn
 subst hkn
 clear hs
 simp only [SV.cells] at HWD HSY HWI HWB hbox3 ⊢
 go_enter Tryz.func73, Tryz.ntmps73
 go_upto_region 1 with fail
 rw [← HWB.out]
 have hbg : w.heap.size + 1 = w.heap.size + 1 := rfl
 generalize w.heap.size = g3 at *
 refine wp_region_treeR (fun a b => Below wB.heap.size a b) [] (.look 0 (.look 1 (.look 3 (.look 5 (.look 6 (.two 2 (.two 4 (.two 7 (.look 8 (.look 9 (.look 10 (.look 11 (.one 12 (.one 13 (.look 14 (.look 15 .done)))))))) 12 (.one 7 (.look 8 (.look 9 (.look 10 (.look 11 (.one 13 (.look 14 (.look 15 .done))))))))) 12 (.one 4 (.one 7 (.look 8 (.look 9 (.look 10 (.look 11 (.one 13 (.look 14 (.look 15 .done)))))))))) 12 (.one 2 (.one 4 (.one 7 (.look 8 (.look 9 (.look 10 (.look 11 (.one 13 (.look 14 (.look 15 .done)))))))))))))))) (fun w => Below.refl _ w) (fun a b c h k => Below.trans h k) (by kernel_rfl) (by kernel_rfl) (by intro c a d v w h; cases d <;> exact h) ?_
 have hd : Ext wB { wB with drawn := wB.drawn + 1 } := drawnP_ext wB
 generalize { wB with drawn := wB.drawn + 1 } = W0 at *
 have hB0 : ∀ q : InC (fun c => Below wB.heap.size W0 c), Blk q.w g3 106 [.slice ak x.kn.length ck, vgr, .bool x.has, vb, vw, vs, vf, vo] := fun q => (q.h.block g3 hbox3.lt).trans (hbox3.ext hd)
 have k0 : ∀ q : InC (fun c => Below wB.heap.size W0 c), q.w.cell? ⟨g3, 0, none⟩ = some (.slice ak x.kn.length ck) := fun q => (hB0 q).cell rfl
 have k1 : ∀ q : InC (fun c => Below wB.heap.size W0 c), q.w.cell? ⟨g3, 1, none⟩ = some vgr := fun q => (hB0 q).cell rfl
 have k2 : ∀ q : InC (fun c => Below wB.heap.size W0 c), q.w.cell? ⟨g3, 2, none⟩ = some (.bool x.has) := fun q => (hB0 q).cell rfl
 have k3 : ∀ q : InC (fun c => Below wB.heap.size W0 c), q.w.cell? ⟨g3, 3, none⟩ = some vb := fun q => (hB0 q).cell rfl
 have k4 : ∀ q : InC (fun c => Below wB.heap.size W0 c), q.w.cell? ⟨g3, 4, none⟩ = some vw := fun q => (hB0 q).cell rfl
 have k5 : ∀ q : InC (fun c => Below wB.heap.size W0 c), q.w.cell? ⟨g3, 5, none⟩ = some vs := fun q => (hB0 q).cell rfl
 have k6 : ∀ q : InC (fun c => Below wB.heap.size W0 c), q.w.cell? ⟨g3, 6, none⟩ = some vf := fun q => (hB0 q).cell rfl
 have k7 : ∀ q : InC (fun c => Below wB.heap.size W0 c), q.w.cell? ⟨g3, 7, none⟩ = some vo := fun q => (hB0 q).cell rfl
 iterate 5 (refine wpTreeR_look rfl (fun K hK => ?_); go_simp; first | (refine hK _ ?_; clear hK K) | (refine ⟨_, fun _ => rfl, hK _ ?_⟩; clear hK K))
 refine wpTreeR_two rfl rfl rfl rfl (fun K hK => ?_) (fun K hK => ?_)
 ·go_wp2_with fail
  refine (HSY.out W0 (hX0.trans hd)).mono ?_; rintro e w1 ⟨u1, rfl, hq1, hx1⟩
  go_wp2_with fail
  have hX1 := ((hX0.trans hd)).trans hx1
  have hz1 := Nat.le_trans (hd.size) hx1.size
  have hY1 := Below.trans (hd) (hx1.mono (by first | omega | exact hd.size))
  refine ⟨.inr (hx1.mono (hd.size)), ?_⟩
  refine wpTreeR_two rfl rfl rfl rfl (fun K hK => ?_) (fun K hK => ?_)
  ·go_wp2_with fail
   refine (HWD.out w1 hX1).mono ?_; rintro e w2 ⟨rfl, hx2⟩
   go_wp2_with fail
   have hX2 := (hX1).trans hx2
   have hz2 := Nat.le_trans (hz1) hx2.size
   have hq2 := hq1.ext hx2
   have hY2 := Below.trans (hY1) (hx2.mono (by first | omega | exact hz1))
   refine ⟨.inr (hx2.mono (hz1)), ?_⟩
   refine wpTreeR_two rfl rfl rfl rfl (fun K hK => ?_) (fun K hK => ?_)
   ·go_wp2_with fail
    refine (HWI.out u1 w2 hq2 hX2).mono ?_; rintro e w3 ⟨rfl, hx3⟩
    go_wp2_with fail
    have hX3 := (hX2).trans hx3
    have hz3 := Nat.le_trans (hz2) hx3.size
    have hq3 := hq2.ext hx3
    have hY3 := Below.trans (hY2) (hx3.mono (by first | omega | exact hz2))
    refine ⟨.inr (hx3.mono (hz2)), ?_⟩
    iterate 4 (refine wpTreeR_look rfl (fun K hK => ?_); go_simp; first | (refine hK _ ?_; clear hK K) | (refine ⟨_, fun _ => rfl, hK _ ?_⟩; clear hK K))
    refine wpTreeR_one rfl rfl (fun K hK => ?_)
    go_wp2_with fail
    have hb4 := Blk.alloc w3 #[.int .i64 0, .int .i64 0, .int .i64 0] 46
    have hx4 := Ext.alloc w3 (.cells #[.int .i64 0, .int .i64 0, .int .i64 0] 46)
    have hzg4 := hz3
    have hz4 := Nat.le_trans (hz3) hx4.size
    generalize w3.alloc (.cells #[.int .i64 0, .int .i64 0, .int .i64 0] 46) = w4 at *
    generalize hgg4 : w3.heap.size = g4 at *
    have hX4 := (hX3).trans hx4
    have hq4 := hq3.ext hx4
    have hY4 := Below.trans (hY3) (hx4.mono (by first | omega | exact hz3))
    refine ⟨.inr (hx4.mono (by omega)), ?_⟩
    have c0 := hb4.cell (i := 0) rfl
    have c1 := hb4.cell (i := 1) rfl
    have c2 := hb4.cell (i := 2) rfl
    have d0 := hb4.frozen 0
    have d1 := hb4.frozen 1
    have d2 := hb4.frozen 2
    refine wpTreeR_one rfl rfl (fun K hK => ?_)
    go_wp2_with fail
    have hg0 : wB.heap.size ≤ g4 := by first | omega | (have := hzg4; omega)
    refine ⟨.inr (below_set (below_set (below_set (Below.refl _ _) hg0 _ _) hg0 _ _) hg0 _ _), ?_⟩
    have HW3 := ((hX4.setCell (c := g4) (Nat.le_trans hX0.size hg0) 0 (.int .i64 A1)).setCell (c := g4) (Nat.le_trans hX0.size hg0) 1 (.int .i64 A2)).setCell (c := g4) (Nat.le_trans hX0.size hg0) 2 (.int .i64 A3)
    have hbg := ((hb4.set 0 (.int .i64 A1)).set 1 (.int .i64 A2)).set 2 (.int .i64 A3)
    have hbz : Below wB.heap.size w4 ((((w4).setCell ⟨g4, 0, none⟩ (.int .i64 A1)).setCell ⟨g4, 1, none⟩ (.int .i64 A2)).setCell ⟨g4, 2, none⟩ (.int .i64 A3)) := below_set (below_set (below_set (Below.refl _ _) hg0 _ _) hg0 _ _) hg0 _ _
    have hbW : Below wB.heap.size wB w4 := hY4
    have hb4z := ((Below.trans hbW hbz).block (g3 + 1) hbox4.lt).trans hbox4
    have hb3z := ((Below.trans hbW hbz).block g3 hbox3.lt).trans hbox3
    generalize World.setCell _ ⟨g4, 2, none⟩ _ = wZ at *
    iterate 2 (refine wpTreeR_look rfl (fun K hK => ?_); go_simp; first | (refine hK _ ?_; clear hK K) | (refine ⟨_, fun _ => rfl, hK _ ?_⟩; clear hK K))
    refine wpTreeR_done ?_
    have hb4 : Blk wZ (g3 + 1) 46 [.int .i64 0, .int .i64 0, .int .i64 0] := hb4z
    have hb3 : Blk wZ g3 106 [.slice ak x.kn.length ck, vgr, .bool x.has, vb, vw, vs, vf, vo] := hb3z
    have hne : g4 ≠ g3 + 1 := by have := hbox4.lt; omega
    have e0 := hbg.cell (i := 0) (v := .int .i64 A1) rfl
    have e1 := hbg.cell (i := 1) (v := .int .i64 A2) rfl
    have e2 := hbg.cell (i := 2) (v := .int .i64 A3) rfl
    have q0 := hbg.frozen 0
    have y0 := hb4.frozen 0
    have y1 := hb4.frozen 1
    have y2 := hb4.frozen 2
    have x0 := hb4.cell (i := 0) rfl
    have x1 := hb4.cell (i := 1) rfl
    have x2 := hb4.cell (i := 2) rfl
    have t0 := hb3.cell (i := 0) rfl
    clear hbz hbW hb4z hb3z
    cases R with
    | none =>
     obtain ⟨rfl, rfl, rfl⟩ := chV_none HA.out
     try simp only [Option.isSome_none]
     go_wp2_with fail
     have hfin := HS6.out _ 2 (.int .i64 0) (HS6.out _ 1 (.int .i64 0) (HS6.out _ 0 (.int .i64 0) HW3))
     have hbf := ((hb4.set 0 (.int .i64 0)).set 1 (.int .i64 0)).set 2 (.int .i64 0)
     have r0 := hbf.cell (i := 0) (v := .int .i64 0) rfl
     have r1 := hbf.cell (i := 1) (v := .int .i64 0) rfl
     have r2 := hbf.cell (i := 2) (v := .int .i64 0) rfl
     generalize World.setCell _ ⟨g3 + 1, 2, none⟩ _ = wF at *
     refine bodyPost_ret (v := .tuple #[.agg #[.int .i64 0, .int .i64 0, .int .i64 0], .bool false]) (by simp [results, Tryz.results73, go_sem, r0, r1, r2]) rfl ?_
     exact ⟨by rw [HCS.out]; rfl, hfin⟩
    | some c =>
     have hc1 := HR1.out c rfl
     obtain ⟨n1, p1, k1'⟩ := c
     obtain ⟨rfl, rfl, rfl⟩ := chV_some HA.out
     dsimp only at hc1
     try simp only [Option.isSome_some]
     obtain ⟨bk, ok, rfl, hck⟩ := HK.out n1 hc1
     replace hck := HW3.keep hck
     have HKV : Hid (RC = some ((x.kn[n1]?.getD 0).toNat, A2, A3) ∧ 0 ≤ x.kn[n1]?.getD 0) := Lib.hid ⟨HCS.out, HK0.out n1 hc1⟩
     generalize x.kn[n1]?.getD 0 = kv at *
     generalize x.kn.length = KL at *
     go_wp2_with fail
     have HW4 := HW3.setCell (c := g4) (Nat.le_trans hX0.size hg0) 0 (.int .i64 kv)
     have hbg5 := hbg.set 0 (.int .i64 kv)
     have hb45 := hb4.other hne 0 (.int .i64 kv)
     generalize World.setCell wZ ⟨g4, 0, none⟩ _ = wY at *
     have e0 := hbg5.cell (i := 0) (v := .int .i64 kv) rfl
     have e1 := hbg5.cell (i := 1) (v := .int .i64 A2) rfl
     have e2 := hbg5.cell (i := 2) (v := .int .i64 A3) rfl
     have y0 := hb45.frozen 0
     have y1 := hb45.frozen 1
     have y2 := hb45.frozen 2
     have x0 := hb45.cell (i := 0) rfl
     have x1 := hb45.cell (i := 1) rfl
     have x2 := hb45.cell (i := 2) rfl
     go_wp2_with fail
     have hfin := HS6.out _ 2 (.int .i64 A3) (HS6.out _ 1 (.int .i64 A2) (HS6.out _ 0 (.int .i64 kv) HW4))
     have hbf := ((hb45.set 0 (.int .i64 kv)).set 1 (.int .i64 A2)).set 2 (.int .i64 A3)
     have r0 := hbf.cell (i := 0) (v := .int .i64 kv) rfl
     have r1 := hbf.cell (i := 1) (v := .int .i64 A2) rfl
     have r2 := hbf.cell (i := 2) (v := .int .i64 A3) rfl
     generalize World.setCell _ ⟨g3 + 1, 2, none⟩ _ = wF at *
     refine bodyPost_ret (v := .tuple #[.agg #[.int .i64 kv, .int .i64 A2, .int .i64 A3], .bool true]) (by simp [results, Tryz.results73, go_sem, r0, r1, r2]) rfl ?_
     exact ⟨by rw [HKV.out.1]; exact chV_ret HKV.out.2, hfin⟩
   ·go_wp2_with fail
    have hb5 := Blk.alloc w2 #[.int .i64 0, .int .i64 0, .int .i64 0] 46
    have hx5 := Ext.alloc w2 (.cells #[.int .i64 0, .int .i64 0, .int .i64 0] 46)
    have hzg5 := hz2
    have hz5 := Nat.le_trans (hz2) hx5.size
    generalize w2.alloc (.cells #[.int .i64 0, .int .i64 0, .int .i64 0] 46) = w5 at *
    generalize hgg5 : w2.heap.size = g5 at *
    have hX5 := (hX2).trans hx5
    have hq5 := hq2.ext hx5
    have hY5 := Below.trans (hY2) (hx5.mono (by first | omega | exact hz2))
    refine ⟨.inr (hx5.mono (by omega)), ?_⟩
    refine wpTreeR_one rfl rfl (fun K hK => ?_)
    go_wp2_with fail
    refine (HWI.out u1 w5 hq5 hX5).mono ?_; rintro e w6 ⟨rfl, hx6⟩
    go_wp2_with fail
    have hX6 := (hX5).trans hx6
    have hz6 := Nat.le_trans (hz5) hx6.size
    have hq6 := hq5.ext hx6
    have hb6 := hb5.ext hx6
    have hY6 := Below.trans (hY5) (hx6.mono (by first | omega | exact hz5))
    refine ⟨.inr (hx6.mono (hz5)), ?_⟩
    iterate 4 (refine wpTreeR_look rfl (fun K hK => ?_); go_simp; first | (refine hK _ ?_; clear hK K) | (refine ⟨_, fun _ => rfl, hK _ ?_⟩; clear hK K))
    have c0 := hb6.cell (i := 0) rfl
    have c1 := hb6.cell (i := 1) rfl
    have c2 := hb6.cell (i := 2) rfl
    have d0 := hb6.frozen 0
    have d1 := hb6.frozen 1
    have d2 := hb6.frozen 2
    refine wpTreeR_one rfl rfl (fun K hK => ?_)
    go_wp2_with fail
    have hg0 : wB.heap.size ≤ g5 := by first | omega | (have := hzg5; omega)
    refine ⟨.inr (below_set (below_set (below_set (Below.refl _ _) hg0 _ _) hg0 _ _) hg0 _ _), ?_⟩
    have HW3 := ((hX6.setCell (c := g5) (Nat.le_trans hX0.size hg0) 0 (.int .i64 A1)).setCell (c := g5) (Nat.le_trans hX0.size hg0) 1 (.int .i64 A2)).setCell (c := g5) (Nat.le_trans hX0.size hg0) 2 (.int .i64 A3)
    have hbg := ((hb6.set 0 (.int .i64 A1)).set 1 (.int .i64 A2)).set 2 (.int .i64 A3)
    have hbz : Below wB.heap.size w6 ((((w6).setCell ⟨g5, 0, none⟩ (.int .i64 A1)).setCell ⟨g5, 1, none⟩ (.int .i64 A2)).setCell ⟨g5, 2, none⟩ (.int .i64 A3)) := below_set (below_set (below_set (Below.refl _ _) hg0 _ _) hg0 _ _) hg0 _ _
    have hbW : Below wB.heap.size wB w6 := hY6
    have hb4z := ((Below.trans hbW hbz).block (g3 + 1) hbox4.lt).trans hbox4
    have hb3z := ((Below.trans hbW hbz).block g3 hbox3.lt).trans hbox3
    generalize World.setCell _ ⟨g5, 2, none⟩ _ = wZ at *
    iterate 2 (refine wpTreeR_look rfl (fun K hK => ?_); go_simp; first | (refine hK _ ?_; clear hK K) | (refine ⟨_, fun _ => rfl, hK _ ?_⟩; clear hK K))
    refine wpTreeR_done ?_
    have hb4 : Blk wZ (g3 + 1) 46 [.int .i64 0, .int .i64 0, .int .i64 0] := hb4z
    have hb3 : Blk wZ g3 106 [.slice ak x.kn.length ck, vgr, .bool x.has, vb, vw, vs, vf, vo] := hb3z
    have hne : g5 ≠ g3 + 1 := by have := hbox4.lt; omega
    have e0 := hbg.cell (i := 0) (v := .int .i64 A1) rfl
    have e1 := hbg.cell (i := 1) (v := .int .i64 A2) rfl
    have e2 := hbg.cell (i := 2) (v := .int .i64 A3) rfl
    have q0 := hbg.frozen 0
    have y0 := hb4.frozen 0
    have y1 := hb4.frozen 1
    have y2 := hb4.frozen 2
    have x0 := hb4.cell (i := 0) rfl
    have x1 := hb4.cell (i := 1) rfl
    have x2 := hb4.cell (i := 2) rfl
    have t0 := hb3.cell (i := 0) rfl
    clear hbz hbW hb4z hb3z
    cases R with
    | none =>
     obtain ⟨rfl, rfl, rfl⟩ := chV_none HA.out
     try simp only [Option.isSome_none]
     go_wp2_with fail
     have hfin := HS6.out _ 2 (.int .i64 0) (HS6.out _ 1 (.int .i64 0) (HS6.out _ 0 (.int .i64 0) HW3))
     have hbf := ((hb4.set 0 (.int .i64 0)).set 1 (.int .i64 0)).set 2 (.int .i64 0)
     have r0 := hbf.cell (i := 0) (v := .int .i64 0) rfl
     have r1 := hbf.cell (i := 1) (v := .int .i64 0) rfl
     have r2 := hbf.cell (i := 2) (v := .int .i64 0) rfl
     generalize World.setCell _ ⟨g3 + 1, 2, none⟩ _ = wF at *
     refine bodyPost_ret (v := .tuple #[.agg #[.int .i64 0, .int .i64 0, .int .i64 0], .bool false]) (by simp [results, Tryz.results73, go_sem, r0, r1, r2]) rfl ?_
     exact ⟨by rw [HCS.out]; rfl, hfin⟩
    | some c =>
     have hc1 := HR1.out c rfl
     obtain ⟨n1, p1, k1'⟩ := c
     obtain ⟨rfl, rfl, rfl⟩ := chV_some HA.out
     dsimp only at hc1
     try simp only [Option.isSome_some]
     obtain ⟨bk, ok, rfl, hck⟩ := HK.out n1 hc1
     replace hck := HW3.keep hck
     have HKV : Hid (RC = some ((x.kn[n1]?.getD 0).toNat, A2, A3) ∧ 0 ≤ x.kn[n1]?.getD 0) := Lib.hid ⟨HCS.out, HK0.out n1 hc1⟩
     generalize x.kn[n1]?.getD 0 = kv at *
     generalize x.kn.length = KL at *
     go_wp2_with fail
     have HW4 := HW3.setCell (c := g5) (Nat.le_trans hX0.size hg0) 0 (.int .i64 kv)
     have hbg5 := hbg.set 0 (.int .i64 kv)
     have hb45 := hb4.other hne 0 (.int .i64 kv)
     generalize World.setCell wZ ⟨g5, 0, none⟩ _ = wY at *
     have e0 := hbg5.cell (i := 0) (v := .int .i64 kv) rfl
     have e1 := hbg5.cell (i := 1) (v := .int .i64 A2) rfl
     have e2 := hbg5.cell (i := 2) (v := .int .i64 A3) rfl
     have y0 := hb45.frozen 0
     have y1 := hb45.frozen 1
     have y2 := hb45.frozen 2
     have x0 := hb45.cell (i := 0) rfl
     have x1 := hb45.cell (i := 1) rfl
     have x2 := hb45.cell (i := 2) rfl
     go_wp2_with fail
     have hfin := HS6.out _ 2 (.int .i64 A3) (HS6.out _ 1 (.int .i64 A2) (HS6.out _ 0 (.int .i64 kv) HW4))
     have hbf := ((hb45.set 0 (.int .i64 kv)).set 1 (.int .i64 A2)).set 2 (.int .i64 A3)
     have r0 := hbf.cell (i := 0) (v := .int .i64 kv) rfl
     have r1 := hbf.cell (i := 1) (v := .int .i64 A2) rfl
     have r2 := hbf.cell (i := 2) (v := .int .i64 A3) rfl
     generalize World.setCell _ ⟨g3 + 1, 2, none⟩ _ = wF at *
     refine bodyPost_ret (v := .tuple #[.agg #[.int .i64 kv, .int .i64 A2, .int .i64 A3], .bool true]) (by simp [results, Tryz.results73, go_sem, r0, r1, r2]) rfl ?_
     exact ⟨by rw [HKV.out.1]; exact chV_ret HKV.out.2, hfin⟩
  ·go_wp2_with fail
   have hb7 := Blk.alloc w1 #[.int .i64 0, .int .i64 0, .int .i64 0] 46
   have hx7 := Ext.alloc w1 (.cells #[.int .i64 0, .int .i64 0, .int .i64 0] 46)
   have hzg7 := hz1
   have hz7 := Nat.le_trans (hz1) hx7.size
   generalize w1.alloc (.cells #[.int .i64 0, .int .i64 0, .int .i64 0] 46) = w7 at *
   generalize hgg7 : w1.heap.size = g7 at *
   have hX7 := (hX1).trans hx7
   have hq7 := hq1.ext hx7
   have hY7 := Below.trans (hY1) (hx7.mono (by first | omega | exact hz1))
   refine ⟨.inr (hx7.mono (by omega)), ?_⟩
   refine wpTreeR_one rfl rfl (fun K hK => ?_)
   go_wp2_with fail
   refine (HWD.out w7 hX7).mono ?_; rintro e w8 ⟨rfl, hx8⟩
   go_wp2_with fail
   have hX8 := (hX7).trans hx8
   have hz8 := Nat.le_trans (hz7) hx8.size
   have hq8 := hq7.ext hx8
   have hb8 := hb7.ext hx8
   have hY8 := Below.trans (hY7) (hx8.mono (by first | omega | exact hz7))
   refine ⟨.inr (hx8.mono (hz7)), ?_⟩
   refine wpTreeR_one rfl rfl (fun K hK => ?_)
   go_wp2_with fail
   refine (HWI.out u1 w8 hq8 hX8).mono ?_; rintro e w9 ⟨rfl, hx9⟩
   go_wp2_with fail
   have hX9 := (hX8).trans hx9
   have hz9 := Nat.le_trans (hz8) hx9.size
   have hq9 := hq8.ext hx9
   have hb9 := hb8.ext hx9
   have hY9 := Below.trans (hY8) (hx9.mono (by first | omega | exact hz8))
   refine ⟨.inr (hx9.mono (hz8)), ?_⟩
   iterate 4 (refine wpTreeR_look rfl (fun K hK => ?_); go_simp; first | (refine hK _ ?_; clear hK K) | (refine ⟨_, fun _ => rfl, hK _ ?_⟩; clear hK K))
   have c0 := hb9.cell (i := 0) rfl
   have c1 := hb9.cell (i := 1) rfl
   have c2 := hb9.cell (i := 2) rfl
   have d0 := hb9.frozen 0
   have d1 := hb9.frozen 1
   have d2 := hb9.frozen 2
   refine wpTreeR_one rfl rfl (fun K hK => ?_)
   go_wp2_with fail
   have hg0 : wB.heap.size ≤ g7 := by first | omega | (have := hzg7; omega)
   refine ⟨.inr (below_set (below_set (below_set (Below.refl _ _) hg0 _ _) hg0 _ _) hg0 _ _), ?_⟩
   have HW3 := ((hX9.setCell (c := g7) (Nat.le_trans hX0.size hg0) 0 (.int .i64 A1)).setCell (c := g7) (Nat.le_trans hX0.size hg0) 1 (.int .i64 A2)).setCell (c := g7) (Nat.le_trans hX0.size hg0) 2 (.int .i64 A3)
   have hbg := ((hb9.set 0 (.int .i64 A1)).set 1 (.int .i64 A2)).set 2 (.int .i64 A3)
   have hbz : Below wB.heap.size w9 ((((w9).setCell ⟨g7, 0, none⟩ (.int .i64 A1)).setCell ⟨g7, 1, none⟩ (.int .i64 A2)).setCell ⟨g7, 2, none⟩ (.int .i64 A3)) := below_set (below_set (below_set (Below.refl _ _) hg0 _ _) hg0 _ _) hg0 _ _
   have hbW : Below wB.heap.size wB w9 := hY9
   have hb4z := ((Below.trans hbW hbz).block (g3 + 1) hbox4.lt).trans hbox4
   have hb3z := ((Below.trans hbW hbz).block g3 hbox3.lt).trans hbox3
   generalize World.setCell _ ⟨g7, 2, none⟩ _ = wZ at *
   iterate 2 (refine wpTreeR_look rfl (fun K hK => ?_); go_simp; first | (refine hK _ ?_; clear hK K) | (refine ⟨_, fun _ => rfl, hK _ ?_⟩; clear hK K))
   refine wpTreeR_done ?_
   have hb4 : Blk wZ (g3 + 1) 46 [.int .i64 0, .int .i64 0, .int .i64 0] := hb4z
   have hb3 : Blk wZ g3 106 [.slice ak x.kn.length ck, vgr, .bool x.has, vb, vw, vs, vf, vo] := hb3z
   have hne : g7 ≠ g3 + 1 := by have := hbox4.lt; omega
   have e0 := hbg.cell (i := 0) (v := .int .i64 A1) rfl
   have e1 := hbg.cell (i := 1) (v := .int .i64 A2) rfl
   have e2 := hbg.cell (i := 2) (v := .int .i64 A3) rfl
   have q0 := hbg.frozen 0
   have y0 := hb4.frozen 0
   have y1 := hb4.frozen 1
   have y2 := hb4.frozen 2
   have x0 := hb4.cell (i := 0) rfl
   have x1 := hb4.cell (i := 1) rfl
   have x2 := hb4.cell (i := 2) rfl
   have t0 := hb3.cell (i := 0) rfl
   clear hbz hbW hb4z hb3z
   cases R with
   | none =>
    obtain ⟨rfl, rfl, rfl⟩ := chV_none HA.out
    try simp only [Option.isSome_none]
    go_wp2_with fail
    have hfin := HS6.out _ 2 (.int .i64 0) (HS6.out _ 1 (.int .i64 0) (HS6.out _ 0 (.int .i64 0) HW3))
    have hbf := ((hb4.set 0 (.int .i64 0)).set 1 (.int .i64 0)).set 2 (.int .i64 0)
    have r0 := hbf.cell (i := 0) (v := .int .i64 0) rfl
    have r1 := hbf.cell (i := 1) (v := .int .i64 0) rfl
    have r2 := hbf.cell (i := 2) (v := .int .i64 0) rfl
    generalize World.setCell _ ⟨g3 + 1, 2, none⟩ _ = wF at *
    refine bodyPost_ret (v := .tuple #[.agg #[.int .i64 0, .int .i64 0, .int .i64 0], .bool false]) (by simp [results, Tryz.results73, go_sem, r0, r1, r2]) rfl ?_
    exact ⟨by rw [HCS.out]; rfl, hfin⟩
   | some c =>
    have hc1 := HR1.out c rfl
    obtain ⟨n1, p1, k1'⟩ := c
    obtain ⟨rfl, rfl, rfl⟩ := chV_some HA.out
    dsimp only at hc1
    try simp only [Option.isSome_some]
    obtain ⟨bk, ok, rfl, hck⟩ := HK.out n1 hc1
    replace hck := HW3.keep hck
    have HKV : Hid (RC = some ((x.kn[n1]?.getD 0).toNat, A2, A3) ∧ 0 ≤ x.kn[n1]?.getD 0) := Lib.hid ⟨HCS.out, HK0.out n1 hc1⟩
    generalize x.kn[n1]?.getD 0 = kv at *
    generalize x.kn.length = KL at *
    go_wp2_with fail
    have HW4 := HW3.setCell (c := g7) (Nat.le_trans hX0.size hg0) 0 (.int .i64 kv)
    have hbg5 := hbg.set 0 (.int .i64 kv)
    have hb45 := hb4.other hne 0 (.int .i64 kv)
    generalize World.setCell wZ ⟨g7, 0, none⟩ _ = wY at *
    have e0 := hbg5.cell (i := 0) (v := .int .i64 kv) rfl
    have e1 := hbg5.cell (i := 1) (v := .int .i64 A2) rfl
    have e2 := hbg5.cell (i := 2) (v := .int .i64 A3) rfl
    have y0 := hb45.frozen 0
    have y1 := hb45.frozen 1
    have y2 := hb45.frozen 2
    have x0 := hb45.cell (i := 0) rfl
    have x1 := hb45.cell (i := 1) rfl
    have x2 := hb45.cell (i := 2) rfl
    go_wp2_with fail
    have hfin := HS6.out _ 2 (.int .i64 A3) (HS6.out _ 1 (.int .i64 A2) (HS6.out _ 0 (.int .i64 kv) HW4))
    have hbf := ((hb45.set 0 (.int .i64 kv)).set 1 (.int .i64 A2)).set 2 (.int .i64 A3)
    have r0 := hbf.cell (i := 0) (v := .int .i64 kv) rfl
    have r1 := hbf.cell (i := 1) (v := .int .i64 A2) rfl
    have r2 := hbf.cell (i := 2) (v := .int .i64 A3) rfl
    generalize World.setCell _ ⟨g3 + 1, 2, none⟩ _ = wF at *
    refine bodyPost_ret (v := .tuple #[.agg #[.int .i64 kv, .int .i64 A2, .int .i64 A3], .bool true]) (by simp [results, Tryz.results73, go_sem, r0, r1, r2]) rfl ?_
    exact ⟨by rw [HKV.out.1]; exact chV_ret HKV.out.2, hfin⟩
 ·go_wp2_with fail
  have hb10 := Blk.alloc W0 #[.int .i64 0, .int .i64 0, .int .i64 0] 46
  have hx10 := Ext.alloc W0 (.cells #[.int .i64 0, .int .i64 0, .int .i64 0] 46)
  have hzg10 := hd.size
  have hz10 := Nat.le_trans (hd.size) hx10.size
  generalize W0.alloc (.cells #[.int .i64 0, .int .i64 0, .int .i64 0] 46) = w10 at *
  generalize hgg10 : W0.heap.size = g10 at *
  have hX10 := ((hX0.trans hd)).trans hx10
  have hY10 := Below.trans (hd) (hx10.mono (by first | omega | exact hd.size))
  refine ⟨.inr (hx10.mono (by omega)), ?_⟩
  refine wpTreeR_one rfl rfl (fun K hK => ?_)
  go_wp2_with fail
  refine (HSY.out w10 hX10).mono ?_; rintro e w11 ⟨u11, rfl, hq11, hx11⟩
  go_wp2_with fail
  have hX11 := (hX10).trans hx11
  have hz11 := Nat.le_trans (hz10) hx11.size
  have hb11 := hb10.ext hx11
  have hY11 := Below.trans (hY10) (hx11.mono (by first | omega | exact hz10))
  refine ⟨.inr (hx11.mono (hz10)), ?_⟩
  refine wpTreeR_one rfl rfl (fun K hK => ?_)
  go_wp2_with fail
  refine (HWD.out w11 hX11).mono ?_; rintro e w12 ⟨rfl, hx12⟩
  go_wp2_with fail
  have hX12 := (hX11).trans hx12
  have hz12 := Nat.le_trans (hz11) hx12.size
  have hq12 := hq11.ext hx12
  have hb12 := hb11.ext hx12
  have hY12 := Below.trans (hY11) (hx12.mono (by first | omega | exact hz11))
  refine ⟨.inr (hx12.mono (hz11)), ?_⟩
  refine wpTreeR_one rfl rfl (fun K hK => ?_)
  go_wp2_with fail
  refine (HWI.out u11 w12 hq12 hX12).mono ?_; rintro e w13 ⟨rfl, hx13⟩
  go_wp2_with fail
  have hX13 := (hX12).trans hx13
  have hz13 := Nat.le_trans (hz12) hx13.size
  have hq13 := hq12.ext hx13
  have hb13 := hb12.ext hx13
  have hY13 := Below.trans (hY12) (hx13.mono (by first | omega | exact hz12))
  refine ⟨.inr (hx13.mono (hz12)), ?_⟩
  iterate 4 (refine wpTreeR_look rfl (fun K hK => ?_); go_simp; first | (refine hK _ ?_; clear hK K) | (refine ⟨_, fun _ => rfl, hK _ ?_⟩; clear hK K))
  have c0 := hb13.cell (i := 0) rfl
  have c1 := hb13.cell (i := 1) rfl
  have c2 := hb13.cell (i := 2) rfl
  have d0 := hb13.frozen 0
  have d1 := hb13.frozen 1
  have d2 := hb13.frozen 2
  refine wpTreeR_one rfl rfl (fun K hK => ?_)
  go_wp2_with fail
  have hg0 : wB.heap.size ≤ g10 := by first | omega | (have := hzg10; omega)
  refine ⟨.inr (below_set (below_set (below_set (Below.refl _ _) hg0 _ _) hg0 _ _) hg0 _ _), ?_⟩
  have HW3 := ((hX13.setCell (c := g10) (Nat.le_trans hX0.size hg0) 0 (.int .i64 A1)).setCell (c := g10) (Nat.le_trans hX0.size hg0) 1 (.int .i64 A2)).setCell (c := g10) (Nat.le_trans hX0.size hg0) 2 (.int .i64 A3)
  have hbg := ((hb13.set 0 (.int .i64 A1)).set 1 (.int .i64 A2)).set 2 (.int .i64 A3)
  have hbz : Below wB.heap.size w13 ((((w13).setCell ⟨g10, 0, none⟩ (.int .i64 A1)).setCell ⟨g10, 1, none⟩ (.int .i64 A2)).setCell ⟨g10, 2, none⟩ (.int .i64 A3)) := below_set (below_set (below_set (Below.refl _ _) hg0 _ _) hg0 _ _) hg0 _ _
  have hbW : Below wB.heap.size wB w13 := hY13
  have hb4z := ((Below.trans hbW hbz).block (g3 + 1) hbox4.lt).trans hbox4
  have hb3z := ((Below.trans hbW hbz).block g3 hbox3.lt).trans hbox3
  generalize World.setCell _ ⟨g10, 2, none⟩ _ = wZ at *
  iterate 2 (refine wpTreeR_look rfl (fun K hK => ?_); go_simp; first | (refine hK _ ?_; clear hK K) | (refine ⟨_, fun _ => rfl, hK _ ?_⟩; clear hK K))
  refine wpTreeR_done ?_
  have hb4 : Blk wZ (g3 + 1) 46 [.int .i64 0, .int .i64 0, .int .i64 0] := hb4z
  have hb3 : Blk wZ g3 106 [.slice ak x.kn.length ck, vgr, .bool x.has, vb, vw, vs, vf, vo] := hb3z
  have hne : g10 ≠ g3 + 1 := by have := hbox4.lt; omega
  have e0 := hbg.cell (i := 0) (v := .int .i64 A1) rfl
  have e1 := hbg.cell (i := 1) (v := .int .i64 A2) rfl
  have e2 := hbg.cell (i := 2) (v := .int .i64 A3) rfl
  have q0 := hbg.frozen 0
  have y0 := hb4.frozen 0
  have y1 := hb4.frozen 1
  have y2 := hb4.frozen 2
  have x0 := hb4.cell (i := 0) rfl
  have x1 := hb4.cell (i := 1) rfl
  have x2 := hb4.cell (i := 2) rfl
  have t0 := hb3.cell (i := 0) rfl
  clear hbz hbW hb4z hb3z
  cases R with
  | none =>
   obtain ⟨rfl, rfl, rfl⟩ := chV_none HA.out
   try simp only [Option.isSome_none]
   go_wp2_with fail
   have hfin := HS6.out _ 2 (.int .i64 0) (HS6.out _ 1 (.int .i64 0) (HS6.out _ 0 (.int .i64 0) HW3))
   have hbf := ((hb4.set 0 (.int .i64 0)).set 1 (.int .i64 0)).set 2 (.int .i64 0)
   have r0 := hbf.cell (i := 0) (v := .int .i64 0) rfl
   have r1 := hbf.cell (i := 1) (v := .int .i64 0) rfl
   have r2 := hbf.cell (i := 2) (v := .int .i64 0) rfl
   generalize World.setCell _ ⟨g3 + 1, 2, none⟩ _ = wF at *
   refine bodyPost_ret (v := .tuple #[.agg #[.int .i64 0, .int .i64 0, .int .i64 0], .bool false]) (by simp [results, Tryz.results73, go_sem, r0, r1, r2]) rfl ?_
   exact ⟨by rw [HCS.out]; rfl, hfin⟩
  | some c =>
   have hc1 := HR1.out c rfl
   obtain ⟨n1, p1, k1'⟩ := c
   obtain ⟨rfl, rfl, rfl⟩ := chV_some HA.out
   dsimp only at hc1
   try simp only [Option.isSome_some]
   obtain ⟨bk, ok, rfl, hck⟩ := HK.out n1 hc1
   replace hck := HW3.keep hck
   have HKV : Hid (RC = some ((x.kn[n1]?.getD 0).toNat, A2, A3) ∧ 0 ≤ x.kn[n1]?.getD 0) := Lib.hid ⟨HCS.out, HK0.out n1 hc1⟩
   generalize x.kn[n1]?.getD 0 = kv at *
   generalize x.kn.length = KL at *
   go_wp2_with fail
   have HW4 := HW3.setCell (c := g10) (Nat.le_trans hX0.size hg0) 0 (.int .i64 kv)
   have hbg5 := hbg.set 0 (.int .i64 kv)
   have hb45 := hb4.other hne 0 (.int .i64 kv)
   generalize World.setCell wZ ⟨g10, 0, none⟩ _ = wY at *
   have e0 := hbg5.cell (i := 0) (v := .int .i64 kv) rfl
   have e1 := hbg5.cell (i := 1) (v := .int .i64 A2) rfl
   have e2 := hbg5.cell (i := 2) (v := .int .i64 A3) rfl
   have y0 := hb45.frozen 0
   have y1 := hb45.frozen 1
   have y2 := hb45.frozen 2
   have x0 := hb45.cell (i := 0) rfl
   have x1 := hb45.cell (i := 1) rfl
   have x2 := hb45.cell (i := 2) rfl
   go_wp2_with fail
   have hfin := HS6.out _ 2 (.int .i64 A3) (HS6.out _ 1 (.int .i64 A2) (HS6.out _ 0 (.int .i64 kv) HW4))
   have hbf := ((hb45.set 0 (.int .i64 kv)).set 1 (.int .i64 A2)).set 2 (.int .i64 A3)
   have r0 := hbf.cell (i := 0) (v := .int .i64 kv) rfl
   have r1 := hbf.cell (i := 1) (v := .int .i64 A2) rfl
   have r2 := hbf.cell (i := 2) (v := .int .i64 A3) rfl
   generalize World.setCell _ ⟨g3 + 1, 2, none⟩ _ = wF at *
   refine bodyPost_ret (v := .tuple #[.agg #[.int .i64 kv, .int .i64 A2, .int .i64 A3], .bool true]) (by simp [results, Tryz.results73, go_sem, r0, r1, r2]) rfl ?_
   exact ⟨by rw [HKV.out.1]; exact chV_ret HKV.out.2, hfin⟩
end Go.Proofs.YtpmlcfgbfhgpgaaGreatDoor
