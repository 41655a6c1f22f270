/- Orders of a school: learn, forget, switch, read, step. -/
import Derived.Test.YtpmlcfgbfhgpgaaGreatDoorSysG
namespace Go.Proofs.YtpmlcfgbfhgpgaaGreatDoor
open Go.RowKit Go.Shelf
set_option linter.unusedVariables false
structure Sch (S : Nat → Bool) (b g : Nat) (rv : Value) (v : SV) (x : St) (s : List Rul) (w : World) : Prop where
 hSg : S g = true
 hSl : ∀ k, S k = true → k < w.heap.size
 hb : w.cell? ⟨b, 2, none⟩ = some rv
 hbg : b ≠ g
 hr : Ruls (hole S w) rv s
 hg : Blk w g 106 (v.cells x)
 hs : StR (hole S w) v x
 hI : InvE s x
theorem Sch.ext {S : Nat → Bool} {b g : Nat} {rv : Value} {v : SV} {x : St} {s : List Rul} {w W : World} (h : Sch S b g rv v x s w) (hx : Ext w W) : Sch S b g rv v x s W :=
 ⟨h.hSg, fun k hk => Nat.lt_of_lt_of_le (h.hSl k hk) hx.size, hx.keep h.hb, h.hbg, h.hr.ext (hx.hole S), h.hg.ext hx, h.hs.ext (hx.hole S), h.hI⟩
theorem ExtX.cell {g : Nat} {w w' : World} (h : ExtX (one g) w w') {a : Addr} {v : Value} (hv : w.cell? a = some v) (hne : a.block ≠ g) : w'.cell? a = some v := by
 have hl := cell_lt hv
 have := h.block a.block hl (by simp [one]; exact hne)
 unfold World.cell? at hv ⊢
 rw [this]; exact hv
theorem Sch.adv {S : Nat → Bool} {b g : Nat} {rv : Value} {v : SV} {x : St} {s : List Rul} {w w' : World} {r : St × Int} {e : Ending} (h : Sch S b g rv v x s w) (k : RAdv S g r w e w') (hI : InvE s r.1) : ∃ v', Sch S b g rv v' r.1 s w' := by
 obtain ⟨_, hx, v', h1, h2⟩ := k
 exact ⟨v', h.hSg, fun k hk => Nat.lt_of_lt_of_le (h.hSl k hk) hx.size, hx.cell h.hb h.hbg, h.hbg, h.hr.sub (hole_keep h.hSg hx), h1, h2, hI⟩
theorem Blk.extX {g k : Nat} {ty : TypeId} {l : List Value} {w w' : World} (h : Blk w k ty l) (hx : ExtX (one g) w w') (hne : k ≠ g) : Blk w' k ty l :=
 (hx.block k h.lt (by simp [one]; exact hne)).trans h
theorem exec_boxes (w : World) (g : Nat) (k n : Int) (wv : Value) : ∃ wB, wB = (w.alloc (.cells #[.pointer (some ⟨g, 0, none⟩)] 152)).alloc (.cells #[.int .i64 k, .int .i64 n, wv] 148) ∧ Ext w wB ∧
  Blk wB w.heap.size 152 [.pointer (some ⟨g, 0, none⟩)] ∧ Blk wB (w.heap.size + 1) 148 [.int .i64 k, .int .i64 n, wv] := by
 refine ⟨_, rfl, (Ext.alloc _ _).trans (Ext.alloc _ _), (Blk.alloc w #[.pointer (some ⟨g, 0, none⟩)] 152).ext (Ext.alloc _ _), ?_⟩
 have := Blk.alloc (w.alloc (.cells #[.pointer (some ⟨g, 0, none⟩)] 152)) #[.int .i64 k, .int .i64 n, wv] 148
 simpa using this
theorem RAdv.from {S : Nat → Bool} {g : Nat} {r : St × Int} {w W w' : World} {e : Ending} (hx : Ext w W) (h : RAdv S g r W e w') : RAdv S g r w e w' :=
 ⟨h.1, (hx.toX _).trans h.2.1, h.2.2⟩
set_option maxHeartbeats 4000000 in
set_option maxRecDepth 100000 in
theorem exec_learn_c {S : Nat → Bool} {b g : Nat} {rv : Value} {v : SV} {x : St} {s : List Rul} {w : World} (h : Sch S b g rv v x s w) (n : Nat) (aw : Option Addr) (nw cw : Nat) :
  Calls Tryz.prog 102 #[.pointer (some ⟨b, 0, none⟩), .pointer (some ⟨g, 0, none⟩), .agg #[.int .i64 0, .int .i64 n, .slice aw nw cw]] w (RAdv S g (execS s x (.learn n)) w) := by
 obtain ⟨wB, hwB, hX, hb4, hb5⟩ := exec_boxes w g 0 n (.slice aw nw cw)
 have H := h.ext hX
 have HT := Lib.hid (learn_c b rv g v x s S wB H.hSg H.hSl H.hb H.hr H.hg H.hs H.hI n aw nw cw)
 have HWB := Lib.hid hwB; clear hwB h
 show Calls _ _ _ _ (RAdv S g (teachS s x (.learn n)) w)
 generalize teachS s x (.learn n) = R at *
 go_enter Tryz.func102, Tryz.ntmps102
 go_upto_region 1 with fail
 rw [← HWB.out]
 have k4 := hb4.cell (i := 0) rfl
 have k50 := hb5.cell (i := 0) rfl
 have k51 := hb5.cell (i := 1) rfl
 have k52 := hb5.cell (i := 2) rfl
 generalize w.heap.size = g4 at *
 go_wp2_with fail
 refine HT.out.mono ?_; rintro e w1 h1
 have he := h1.1
 subst he
 go_wp2_with fail
 go_ret
 exact h1.from hX
set_option maxHeartbeats 4000000 in
set_option maxRecDepth 100000 in
theorem exec_forget_c {S : Nat → Bool} {b g : Nat} {rv : Value} {v : SV} {x : St} {s : List Rul} {w : World} (h : Sch S b g rv v x s w) (n : Nat) (aw : Option Addr) (nw cw : Nat) :
  Calls Tryz.prog 102 #[.pointer (some ⟨b, 0, none⟩), .pointer (some ⟨g, 0, none⟩), .agg #[.int .i64 1, .int .i64 n, .slice aw nw cw]] w (RAdv S g (execS s x (.forget n)) w) := by
 obtain ⟨wB, hwB, hX, hb4, hb5⟩ := exec_boxes w g 1 n (.slice aw nw cw)
 have H := h.ext hX
 have HT := Lib.hid (forget_c b rv g v x s S wB H.hSg H.hSl H.hb H.hr H.hg H.hs H.hI n aw nw cw)
 have HWB := Lib.hid hwB; clear hwB h
 show Calls _ _ _ _ (RAdv S g (teachS s x (.forget n)) w)
 generalize teachS s x (.forget n) = R at *
 go_enter Tryz.func102, Tryz.ntmps102
 go_upto_region 1 with fail
 rw [← HWB.out]
 have k4 := hb4.cell (i := 0) rfl
 have k50 := hb5.cell (i := 0) rfl
 have k51 := hb5.cell (i := 1) rfl
 have k52 := hb5.cell (i := 2) rfl
 generalize w.heap.size = g4 at *
 go_wp2_with fail
 refine HT.out.mono ?_; rintro e w1 h1
 have he := h1.1
 subst he
 go_wp2_with fail
 go_ret
 exact h1.from hX
set_option maxHeartbeats 4000000 in
set_option maxRecDepth 100000 in
theorem exec_change_c {S : Nat → Bool} {b g : Nat} {rv : Value} {v : SV} {x : St} {s : List Rul} {w : World} (h : Sch S b g rv v x s w) (n : Nat) (aw : Option Addr) (nw cw : Nat) :
  Calls Tryz.prog 102 #[.pointer (some ⟨b, 0, none⟩), .pointer (some ⟨g, 0, none⟩), .agg #[.int .i64 2, .int .i64 n, .slice aw nw cw]] w (RAdv S g (execS s x (.change n)) w) := by
 obtain ⟨wB, hwB, hX, hb4, hb5⟩ := exec_boxes w g 2 n (.slice aw nw cw)
 have H := h.ext hX
 have HT := Lib.hid (change_c b g v x s S wB H.hSg H.hSl H.hg H.hs H.hI n aw nw cw)
 have HWB := Lib.hid hwB; clear hwB h
 show Calls _ _ _ _ (RAdv S g (teachS s x (.change n)) w)
 generalize teachS s x (.change n) = R at *
 go_enter Tryz.func102, Tryz.ntmps102
 go_upto_region 1 with fail
 rw [← HWB.out]
 have k4 := hb4.cell (i := 0) rfl
 have k50 := hb5.cell (i := 0) rfl
 have k51 := hb5.cell (i := 1) rfl
 have k52 := hb5.cell (i := 2) rfl
 generalize w.heap.size = g4 at *
 go_wp2_with fail
 refine HT.out.mono ?_; rintro e w1 h1
 have he := h1.1
 subst he
 go_wp2_with fail
 go_ret
 exact h1.from hX
theorem S_new {S : Nat → Bool} {w : World} {k : Nat} (h : ∀ k, S k = true → k < w.heap.size) (hk : w.heap.size ≤ k) : S k = false := by
 cases e : S k
 ·rfl
 ·have := h k e; omega
theorem rows_single {S : Nat → Bool} {w : World} {k : Nat} {wv : Value} {l : List Int} (hb : Blk w k 34 [wv]) (hS : S k = false) (hi : Ints (hole S w) wv l) : Rows (hole S w) (.slice (some ⟨k, 0, none⟩) 1 1) [l] := by
 refine ⟨some ⟨k, 0, none⟩, 1, rfl, Nat.le_refl _, by unfold maxLen; omega, fun i hi' => ⟨k, 0, rfl, wv, ?_, ?_⟩⟩
 ·have hb' : Blk (hole S w) k 34 [wv] := (hole_block S w hS).trans hb
  obtain rfl : i = 0 := by simp at hi'; omega
  exact hb'.cell rfl
 ·obtain rfl : i = 0 := by simp at hi'; omega
  exact hi
set_option maxHeartbeats 4000000 in
set_option maxRecDepth 100000 in
theorem exec_read_c {S : Nat → Bool} {b g : Nat} {rv : Value} {v : SV} {x : St} {s : List Rul} {w : World} (h : Sch S b g rv v x s w) (l : List Int) (aw : Option Addr) (nw cw : Nat) (hw : Ints (hole S w) (.slice aw nw cw) l) :
  Calls Tryz.prog 102 #[.pointer (some ⟨b, 0, none⟩), .pointer (some ⟨g, 0, none⟩), .agg #[.int .i64 3, .int .i64 0, .slice aw nw cw]] w (RAdv S g (execS s x (.read l)) w) := by
 obtain ⟨wB, hwB, hX, hb4, hb5⟩ := exec_boxes w g 3 0 (.slice aw nw cw)
 have hgB := h.hg.ext hX
 have hn4 : w.heap.size ≠ g := fun e => by have := h.hg.lt; omega
 have hn5 : w.heap.size + 1 ≠ g := fun e => by have := h.hg.lt; omega
 have HWB := Lib.hid hwB; clear hwB
 obtain ⟨vkn, vgr, vb, vw, vs, vf, vo⟩ := v
 simp only [SV.cells] at hgB
 go_enter Tryz.func102, Tryz.ntmps102
 go_upto_region 1 with fail
 rw [← HWB.out]
 have k4 := hb4.cell (i := 0) rfl
 have k50 := hb5.cell (i := 0) rfl
 have k51 := hb5.cell (i := 1) rfl
 have k52 := hb5.cell (i := 2) rfl
 generalize w.heap.size = g4 at *
 go_upto_region 7 with fail
 refine wp_region_treeR (fun a b => ExtX (one g) a b) [] (.look 0 (.look 1 (.look 2 (.look 3 (.look 4 (.look 5 (.look 6 (.look 7 (.look 9 (.look 10 (.two 8 (.one 11 (.look 12 (.look 13 (.one 14 (.look 15 (.look 16 (.one 17 (.look 18 (.look 19 (.one 20 .done)))))))))) 11 (.look 12 (.look 13 (.two 8 (.one 14 (.look 15 (.look 16 (.one 17 (.look 18 (.look 19 (.one 20 .done))))))) 14 (.one 8 (.look 15 (.look 16 (.one 17 (.look 18 (.look 19 (.one 20 .done))))))))))))))))))))) (fun w => ExtX.refl _ w) (fun a b c h k => h.trans k) (by kernel_rfl) (by kernel_rfl) (by intro c a d v w h; cases d <;> exact h) ?_
 have hd := drawnP_ext wB
 have hX0 := hX.trans hd
 replace hb4 := hb4.ext hd
 replace hb5 := hb5.ext hd
 have hg0 := hgB.ext hd
 generalize { wB with drawn := wB.drawn + 1 } = W0 at *
 have q4 : ∀ q : InC (fun c => ExtX (one g) W0 c), q.w.cell? ⟨g4, 0, none⟩ = some (.pointer (some ⟨g, 0, none⟩)) := fun q => (hb4.extX q.h hn4).cell rfl
 have q52 : ∀ q : InC (fun c => ExtX (one g) W0 c), q.w.cell? ⟨g4 + 1, 2, none⟩ = some (.slice aw nw cw) := fun q => (hb5.extX q.h hn5).cell rfl
 clear k4 k50 k51 k52
 iterate 10 (refine wpTreeR_look rfl (fun K hK => ?_); go_simp; first | (refine hK _ ?_; clear hK K) | (refine ⟨_, fun _ => rfl, hK _ ?_⟩; clear hK K))
 refine wpTreeR_two rfl rfl rfl rfl (fun K hK => ?_) (fun K hK => ?_)
 ·go_wp2_with fail
  have hn1 := Blk.alloc W0 #[.slice aw nw cw] 34
  have hs1 := Ext.alloc W0 (.cells #[.slice aw nw cw] 34)
  have hg1 := hg0.ext hs1
  have hnG : W0.heap.size ≠ g := fun e => by have := hg0.lt; omega
  have hnZ : w.heap.size ≤ W0.heap.size := Nat.le_trans hX0.size ((ExtX.refl (one g) W0)).size
  refine ⟨.inr (hs1.toX _), ?_⟩
  have hE1 := ((ExtX.refl (one g) W0)).trans (hs1.toX _)
  generalize W0.alloc (.cells #[.slice aw nw cw] 34) = v1 at *
  generalize W0.heap.size = gn at *
  refine wpTreeR_one rfl rfl (fun K hK => ?_)
  have z2 := hg1.frozen 2
  have y2 := hg1.cell (i := 2) rfl
  go_wp2_with fail
  have hg2 := hg1.set 2 (.bool true)
  have hs2 := ExtX.set v1 g 2 (.bool true)
  refine ⟨.inr hs2, ?_⟩
  have hE2 := (hE1).trans hs2
  have hn2 := hn1.extX hs2 hnG
  generalize World.setCell v1 ⟨g, 2, none⟩ _ = v2 at *
  clear z2 y2
  iterate 2 (refine wpTreeR_look rfl (fun K hK => ?_); go_simp; first | (refine hK _ ?_; clear hK K) | (refine ⟨_, fun _ => rfl, hK _ ?_⟩; clear hK K))
  refine wpTreeR_one rfl rfl (fun K hK => ?_)
  have z3 := hg2.frozen 3
  have y3 := hg2.cell (i := 3) rfl
  go_wp2_with fail
  have hg3 := hg2.set 3 (.slice aw nw cw)
  have hs3 := ExtX.set v2 g 3 (.slice aw nw cw)
  refine ⟨.inr hs3, ?_⟩
  have hE3 := (hE2).trans hs3
  have hn3 := hn2.extX hs3 hnG
  generalize World.setCell v2 ⟨g, 3, none⟩ _ = v3 at *
  clear z3 y3
  iterate 2 (refine wpTreeR_look rfl (fun K hK => ?_); go_simp; first | (refine hK _ ?_; clear hK K) | (refine ⟨_, fun _ => rfl, hK _ ?_⟩; clear hK K))
  refine wpTreeR_one rfl rfl (fun K hK => ?_)
  have z4 := hg3.frozen 4
  have y4 := hg3.cell (i := 4) rfl
  go_wp2_with fail
  have hg4 := hg3.set 4 (.slice (some ⟨gn, 0, none⟩) 1 1)
  have hs4 := ExtX.set v3 g 4 (.slice (some ⟨gn, 0, none⟩) 1 1)
  refine ⟨.inr hs4, ?_⟩
  have hE4 := (hE3).trans hs4
  have hn4 := hn3.extX hs4 hnG
  generalize World.setCell v3 ⟨g, 4, none⟩ _ = v4 at *
  clear z4 y4
  iterate 2 (refine wpTreeR_look rfl (fun K hK => ?_); go_simp; first | (refine hK _ ?_; clear hK K) | (refine ⟨_, fun _ => rfl, hK _ ?_⟩; clear hK K))
  refine wpTreeR_one rfl rfl (fun K hK => ?_)
  have z5 := hg4.frozen 5
  have y5 := hg4.cell (i := 5) rfl
  go_wp2_with fail
  have hg5 := hg4.set 5 (.slice none 0 0)
  have hs5 := ExtX.set v4 g 5 (.slice none 0 0)
  refine ⟨.inr hs5, ?_⟩
  have hE5 := (hE4).trans hs5
  have hn5 := hn4.extX hs5 hnG
  generalize World.setCell v4 ⟨g, 5, none⟩ _ = v5 at *
  clear z5 y5
  refine wpTreeR_done ?_
  have hEw : ExtX (one g) w v5 := (hX0.toX _).trans hE5
  go_wp2_with fail
  go_ret
  have hk := hole_keep h.hSg hEw
  exact ⟨rfl, hEw, ⟨vkn, vgr, .slice aw nw cw, .slice (some ⟨gn, 0, none⟩) 1 1, .slice none 0 0, vf, vo⟩, hg5, h.hs.kn.sub hk, h.hs.gr.sub hk, hw.sub hk, rows_single hn5 (S_new h.hSl hnZ) (hw.sub hk), Cel.nil _ _ _, h.hs.forms.sub hk, h.hs.orders.sub hk⟩
 ·have z2 := hg0.frozen 2
  have y2 := hg0.cell (i := 2) rfl
  go_wp2_with fail
  have hg1 := hg0.set 2 (.bool true)
  have hs1 := ExtX.set W0 g 2 (.bool true)
  refine ⟨.inr hs1, ?_⟩
  have hE1 := ((ExtX.refl (one g) W0)).trans hs1
  generalize World.setCell W0 ⟨g, 2, none⟩ _ = v1 at *
  clear z2 y2
  iterate 2 (refine wpTreeR_look rfl (fun K hK => ?_); go_simp; first | (refine hK _ ?_; clear hK K) | (refine ⟨_, fun _ => rfl, hK _ ?_⟩; clear hK K))
  refine wpTreeR_two rfl rfl rfl rfl (fun K hK => ?_) (fun K hK => ?_)
  ·go_wp2_with fail
   have hn2 := Blk.alloc v1 #[.slice aw nw cw] 34
   have hs2 := Ext.alloc v1 (.cells #[.slice aw nw cw] 34)
   have hg2 := hg1.ext hs2
   have hnG : v1.heap.size ≠ g := fun e => by have := hg1.lt; omega
   have hnZ : w.heap.size ≤ v1.heap.size := Nat.le_trans hX0.size (hE1).size
   refine ⟨.inr (hs2.toX _), ?_⟩
   have hE2 := (hE1).trans (hs2.toX _)
   generalize v1.alloc (.cells #[.slice aw nw cw] 34) = v2 at *
   generalize v1.heap.size = gn at *
   refine wpTreeR_one rfl rfl (fun K hK => ?_)
   have z3 := hg2.frozen 3
   have y3 := hg2.cell (i := 3) rfl
   go_wp2_with fail
   have hg3 := hg2.set 3 (.slice aw nw cw)
   have hs3 := ExtX.set v2 g 3 (.slice aw nw cw)
   refine ⟨.inr hs3, ?_⟩
   have hE3 := (hE2).trans hs3
   have hn3 := hn2.extX hs3 hnG
   generalize World.setCell v2 ⟨g, 3, none⟩ _ = v3 at *
   clear z3 y3
   iterate 2 (refine wpTreeR_look rfl (fun K hK => ?_); go_simp; first | (refine hK _ ?_; clear hK K) | (refine ⟨_, fun _ => rfl, hK _ ?_⟩; clear hK K))
   refine wpTreeR_one rfl rfl (fun K hK => ?_)
   have z4 := hg3.frozen 4
   have y4 := hg3.cell (i := 4) rfl
   go_wp2_with fail
   have hg4 := hg3.set 4 (.slice (some ⟨gn, 0, none⟩) 1 1)
   have hs4 := ExtX.set v3 g 4 (.slice (some ⟨gn, 0, none⟩) 1 1)
   refine ⟨.inr hs4, ?_⟩
   have hE4 := (hE3).trans hs4
   have hn4 := hn3.extX hs4 hnG
   generalize World.setCell v3 ⟨g, 4, none⟩ _ = v4 at *
   clear z4 y4
   iterate 2 (refine wpTreeR_look rfl (fun K hK => ?_); go_simp; first | (refine hK _ ?_; clear hK K) | (refine ⟨_, fun _ => rfl, hK _ ?_⟩; clear hK K))
   refine wpTreeR_one rfl rfl (fun K hK => ?_)
   have z5 := hg4.frozen 5
   have y5 := hg4.cell (i := 5) rfl
   go_wp2_with fail
   have hg5 := hg4.set 5 (.slice none 0 0)
   have hs5 := ExtX.set v4 g 5 (.slice none 0 0)
   refine ⟨.inr hs5, ?_⟩
   have hE5 := (hE4).trans hs5
   have hn5 := hn4.extX hs5 hnG
   generalize World.setCell v4 ⟨g, 5, none⟩ _ = v5 at *
   clear z5 y5
   refine wpTreeR_done ?_
   have hEw : ExtX (one g) w v5 := (hX0.toX _).trans hE5
   go_wp2_with fail
   go_ret
   have hk := hole_keep h.hSg hEw
   exact ⟨rfl, hEw, ⟨vkn, vgr, .slice aw nw cw, .slice (some ⟨gn, 0, none⟩) 1 1, .slice none 0 0, vf, vo⟩, hg5, h.hs.kn.sub hk, h.hs.gr.sub hk, hw.sub hk, rows_single hn5 (S_new h.hSl hnZ) (hw.sub hk), Cel.nil _ _ _, h.hs.forms.sub hk, h.hs.orders.sub hk⟩
  ·have z3 := hg1.frozen 3
   have y3 := hg1.cell (i := 3) rfl
   go_wp2_with fail
   have hg2 := hg1.set 3 (.slice aw nw cw)
   have hs2 := ExtX.set v1 g 3 (.slice aw nw cw)
   refine ⟨.inr hs2, ?_⟩
   have hE2 := (hE1).trans hs2
   generalize World.setCell v1 ⟨g, 3, none⟩ _ = v2 at *
   clear z3 y3
   refine wpTreeR_one rfl rfl (fun K hK => ?_)
   go_wp2_with fail
   have hn3 := Blk.alloc v2 #[.slice aw nw cw] 34
   have hs3 := Ext.alloc v2 (.cells #[.slice aw nw cw] 34)
   have hg3 := hg2.ext hs3
   have hnG : v2.heap.size ≠ g := fun e => by have := hg2.lt; omega
   have hnZ : w.heap.size ≤ v2.heap.size := Nat.le_trans hX0.size (hE2).size
   refine ⟨.inr (hs3.toX _), ?_⟩
   have hE3 := (hE2).trans (hs3.toX _)
   generalize v2.alloc (.cells #[.slice aw nw cw] 34) = v3 at *
   generalize v2.heap.size = gn at *
   iterate 2 (refine wpTreeR_look rfl (fun K hK => ?_); go_simp; first | (refine hK _ ?_; clear hK K) | (refine ⟨_, fun _ => rfl, hK _ ?_⟩; clear hK K))
   refine wpTreeR_one rfl rfl (fun K hK => ?_)
   have z4 := hg3.frozen 4
   have y4 := hg3.cell (i := 4) rfl
   go_wp2_with fail
   have hg4 := hg3.set 4 (.slice (some ⟨gn, 0, none⟩) 1 1)
   have hs4 := ExtX.set v3 g 4 (.slice (some ⟨gn, 0, none⟩) 1 1)
   refine ⟨.inr hs4, ?_⟩
   have hE4 := (hE3).trans hs4
   have hn4 := hn3.extX hs4 hnG
   generalize World.setCell v3 ⟨g, 4, none⟩ _ = v4 at *
   clear z4 y4
   iterate 2 (refine wpTreeR_look rfl (fun K hK => ?_); go_simp; first | (refine hK _ ?_; clear hK K) | (refine ⟨_, fun _ => rfl, hK _ ?_⟩; clear hK K))
   refine wpTreeR_one rfl rfl (fun K hK => ?_)
   have z5 := hg4.frozen 5
   have y5 := hg4.cell (i := 5) rfl
   go_wp2_with fail
   have hg5 := hg4.set 5 (.slice none 0 0)
   have hs5 := ExtX.set v4 g 5 (.slice none 0 0)
   refine ⟨.inr hs5, ?_⟩
   have hE5 := (hE4).trans hs5
   have hn5 := hn4.extX hs5 hnG
   generalize World.setCell v4 ⟨g, 5, none⟩ _ = v5 at *
   clear z5 y5
   refine wpTreeR_done ?_
   have hEw : ExtX (one g) w v5 := (hX0.toX _).trans hE5
   go_wp2_with fail
   go_ret
   have hk := hole_keep h.hSg hEw
   exact ⟨rfl, hEw, ⟨vkn, vgr, .slice aw nw cw, .slice (some ⟨gn, 0, none⟩) 1 1, .slice none 0 0, vf, vo⟩, hg5, h.hs.kn.sub hk, h.hs.gr.sub hk, hw.sub hk, rows_single hn5 (S_new h.hSl hnZ) (hw.sub hk), Cel.nil _ _ _, h.hs.forms.sub hk, h.hs.orders.sub hk⟩
set_option maxHeartbeats 4000000 in
set_option maxRecDepth 100000 in
theorem exec_not_c {S : Nat → Bool} {b g : Nat} {rv : Value} {v : SV} {x : St} {s : List Rul} {w : World} (h : Sch S b g rv v x s w) (hh : x.has = false) (k : Int) (hk : k = 4 ∨ k = 5 ∨ k = 6 ∨ k = 7) (aw : Option Addr) (nw cw : Nat) :
  Calls Tryz.prog 102 #[.pointer (some ⟨b, 0, none⟩), .pointer (some ⟨g, 0, none⟩), .agg #[.int .i64 k, .int .i64 0, .slice aw nw cw]] w (RAdv S g (x, 8) w) := by
 obtain ⟨wB, hwB, hX, hb4, hb5⟩ := exec_boxes w g k 0 (.slice aw nw cw)
 have H := h.ext hX
 have HWB := Lib.hid hwB; clear hwB
 have HG := Lib.hid h.hg
 have HS := Lib.hid h.hs
 have g2 := H.hg.cell (i := 2) rfl
 rw [hh] at g2
 clear h H hh
 go_enter Tryz.func102, Tryz.ntmps102
 go_upto_region 1 with fail
 rw [← HWB.out]
 have k4 := hb4.cell (i := 0) rfl
 have k50 := hb5.cell (i := 0) rfl
 have k51 := hb5.cell (i := 1) rfl
 have k52 := hb5.cell (i := 2) rfl
 generalize w.heap.size = g4 at *
 rcases hk with rfl | rfl | rfl | rfl
 all_goals
  go_wp2_with fail
  go_ret
  exact RAdv.same (errV_ret (by decide)) hX HG.out HS.out
set_option maxHeartbeats 4000000 in
set_option maxRecDepth 100000 in
theorem exec_step_c {S : Nat → Bool} {b g : Nat} {rv : Value} {v : SV} {x : St} {s : List Rul} {w : World} (h : Sch S b g rv v x s w) (hh : x.has = true) (aw : Option Addr) (nw cw : Nat) :
  Calls Tryz.prog 102 #[.pointer (some ⟨b, 0, none⟩), .pointer (some ⟨g, 0, none⟩), .agg #[.int .i64 4, .int .i64 0, .slice aw nw cw]] w (RAdv S g (advS s x) w) := by
 obtain ⟨wB, hwB, hX, hb4, hb5⟩ := exec_boxes w g 4 0 (.slice aw nw cw)
 have H := h.ext hX
 have HWB := Lib.hid hwB; clear hwB
 have HT := Lib.hid (advance_c b rv g v x s S wB H.hSg H.hSl H.hb H.hbg H.hr H.hg H.hs H.hI hh)
 have g2 := H.hg.cell (i := 2) rfl
 rw [hh] at g2
 clear h H hh
 generalize advS s x = R at *
 go_enter Tryz.func102, Tryz.ntmps102
 go_upto_region 1 with fail
 rw [← HWB.out]
 have k4 := hb4.cell (i := 0) rfl
 have k50 := hb5.cell (i := 0) rfl
 have k51 := hb5.cell (i := 1) rfl
 have k52 := hb5.cell (i := 2) rfl
 generalize w.heap.size = g4 at *
 go_wp2_with fail
 refine HT.out.mono ?_; rintro e w1 h1
 have he := h1.1
 subst he
 go_wp2_with fail
 go_ret
 exact h1.from hX
end Go.Proofs.YtpmlcfgbfhgpgaaGreatDoor
