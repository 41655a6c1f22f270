/- advance of a school. -/
import Derived.Test.YtpmlcfgbfhgpgaaGreatDoorSysE
import Derived.Test.YtpmlcfgbfhgpgaaGreatDoorLstA
namespace Go.Proofs.YtpmlcfgbfhgpgaaGreatDoor
open Go.RowKit Go.Shelf
set_option linter.unusedVariables false
theorem errV_zero : errV 0 = .nilIface := rfl
theorem errV_pos {k : Int} (h : k ≠ 0) : errV k = .iface 143 (.agg #[.int .i64 k]) := if_neg h
theorem errV_ret {k : Int} (h : k ≠ 0) : Ending.returned (.iface 143 (.agg #[.int .i64 k])) = .returned (errV k) := by rw [errV_pos h]
theorem hole_keep {S : Nat → Bool} {g : Nat} {w w' : World} (hS : S g = true) (h : ExtX (one g) w w') : Sub (hole S w) (hole S w') :=
 (h.hole1 (fun k hk => by simp [one] at hk; subst hk; exact hS)).sub
theorem raw_one {w : World} {g k : Nat} {e : TypeId} {l : List Value} (hk : l.length = k) (h : Blk w g e l) : Raw w k (.slice (some ⟨g, 0, none⟩) 1 1) 1 l :=
 ⟨_, _, rfl, by rw [Nat.one_mul]; exact hk, fun _ => ⟨⟨g, 0, none⟩, rfl, fun j u hu => by rw [addr_add, Nat.zero_add]; exact h.cell hu⟩⟩
theorem ocel_snoc {α : Type} {enc : α → List Value} {k : Nat} {e : TypeId} {w : World} {B : Nat} {v : Value} {L : List α} {x : α} (h : w.ownsRow B e k v (L.length + 1) (L.flatMap enc ++ enc x)) : OCel enc k e w B v (L ++ [x]) := by
 unfold OCel; rw [flat_snoc, List.length_append]; exact h
def RAdv (S : Nat → Bool) (g : Nat) (r : St × Int) (w : World) (e : Ending) (w' : World) : Prop :=
 e = .returned (errV r.2) ∧ ExtX (one g) w w' ∧ ∃ v', Blk w' g 106 (v'.cells r.1) ∧ StR (hole S w') v' r.1
theorem RAdv.same {S : Nat → Bool} {g : Nat} {x : St} {k : Int} {w w' : World} {v : SV} {e : Ending} (he : e = .returned (errV k)) (hx : Ext w w') (hg : Blk w g 106 (v.cells x)) (hs : StR (hole S w) v x) : RAdv S g (x, k) w e w' :=
 ⟨he, hx.toX _, v, hg.ext hx, hs.ext (hx.hole S)⟩
set_option maxHeartbeats 8000000 in
set_option maxRecDepth 100000 in
theorem advance_c (b : Nat) (rv : Value) (g : Nat) (v : SV) (x : St) (s : List Rul) (S : Nat → Bool) (w : World) (hSg : S g = true) (hSl : ∀ k, S k = true → k < w.heap.size)
  (hb : w.cell? ⟨b, 2, none⟩ = some rv) (hbg : b ≠ g) (hr : Ruls (hole S w) rv s) (hg : Blk w g 106 (v.cells x)) (hs : StR (hole S w) v x) (hI : InvE s x) (hh : x.has = true) :
  Calls Tryz.prog 152 #[.pointer (some ⟨b, 0, none⟩), .pointer (some ⟨g, 0, none⟩)] w (RAdv S g (advS s x) w) := by
 have HS := Lib.hid hs
 have HG := Lib.hid hg
 have hw1 : 1 ≤ x.words.length := by have := hI.wlen hh; omega
 have hsF := hs.sub (hole_sub S w)
 have HCH := Lib.hid (fun W (h : Ext w W) => choose_c b rv v x s W (h.keep hb) ((hr.sub (hole_sub S w)).ext h) (hsF.ext h) hI hh)
 obtain ⟨uW, huW, HWD⟩ := word_c v x w hsF hw1
 replace HWD := Lib.hid HWD
 obtain ⟨us, hus, hUs⟩ := hs.words.cel
 have HU := Lib.hid hUs
 have HCW := Lib.hid (fun W (h : Ext w W) => cloneRows_c v.words us x.words W ((hus.sub (hole_sub S w)).ext h) ((hUs.sub (hole_sub S w)).ext h) (by rw [hUs.1, hI.wlen hh]; have := hI.slen; omega))
 have HCC := Lib.hid (fun W (h : ∃ W', Ext w W' ∧ ExtX (one g) W' W) => cloneChs_c v.slate x.slate W (by
  obtain ⟨W', h1, h2⟩ := h
  exact ((hs.slate.sub (h1.hole S).sub).sub (hole_keep hSg h2)).sub (hole_sub S W)) (by have := hI.slen; omega))
 obtain ⟨ar, cr, hrv, _, _, HRL⟩ := hr.lit
 subst hrv
 have HSL : Hid ((x.slate.length + 1) * 24 ≤ 140737488355328 ∧ x.slate.length + 1 ≤ 9223372036854775807) := Lib.hid (by have := hI.slen; omega)
 have HWL : Hid ((us.length + 1) * 24 ≤ 140737488355328 ∧ us.length + 1 ≤ 9223372036854775807) := Lib.hid (by rw [hUs.1, hI.wlen hh]; have := hI.slen; omega)
 obtain ⟨aS, cs, hsl, _⟩ := hs.slate.open_
 obtain ⟨vkn, vgr, vb, vw, vs, vf, vo⟩ := v
 simp only at hsl
 subst hsl
 simp only [SV.cells] at HCH HWD HCW HCC hg
 have HH := Lib.hid hh
 simp only [hh] at HCH HWD hg
 clear hh
 have g0 := hg.cell (i := 0) rfl
 have g1 := hg.cell (i := 1) rfl
 have g2 := hg.cell (i := 2) rfl
 have g3 := hg.cell (i := 3) rfl
 have g4 := hg.cell (i := 4) rfl
 have g5 := hg.cell (i := 5) rfl
 have g6 := hg.cell (i := 6) rfl
 have g7 := hg.cell (i := 7) rfl
 clear hs hsF hus hr
 rcases adv_cases s x with ⟨hc, e⟩ | ⟨⟨c1, c2, c3⟩, hc, h60, e⟩ | ⟨⟨c1, c2, c3⟩, hc, h60, e⟩
 ·rw [e]
  rw [hc] at HCH
  clear e hc hI hUs hg
  simp only [chV, Option.isSome_none] at HCH
  go_enter Tryz.func152, Tryz.ntmps152
  go_wp2_with fail
  refine (HCH.out w (Ext.refl w)).mono ?_; rintro e w1 ⟨rfl, hx1⟩
  go_wp2_with fail
  go_ret
  exact RAdv.same (errV_ret (by decide)) (hx1.trans (Ext.alloc _ _)) HG.out HS.out
 ·rw [e]
  rw [hc] at HCH
  clear e hc hI hUs hg
  simp only [chV, Option.isSome_some] at HCH
  have hn1 : ((x.slate.length : Int) == 60) = true := by simp; omega
  have hn2 : decide ((x.slate.length : Int) = 60) = true := by simp; omega
  have hn3 : (x.slate.length : Int) = 60 := by omega
  clear h60
  go_enter Tryz.func152, Tryz.ntmps152
  go_wp2_with fail
  refine (HCH.out w (Ext.refl w)).mono ?_; rintro e w1 ⟨rfl, hx1⟩
  go_upto_region 4 with fail
  have hXC := hx1.trans (Ext.alloc w1 (.cells #[.int .i64 c1, .int .i64 c2, .int .i64 c3] 46))
  generalize w1.alloc (.cells #[.int .i64 c1, .int .i64 c2, .int .i64 c3] 46) = wC at *
  have g5 := hXC.keep g5
  go_wp2_with fail
  go_ret
  exact RAdv.same (errV_ret (by decide)) hXC HG.out HS.out
 ·rw [e]
  rw [hc] at HCH
  obtain ⟨hc1, hk0, _⟩ := choose_some hI hc
  clear e hc hI hUs
  simp only [chV, Option.isSome_some] at HCH
  dsimp only at hc1 hk0
  have hn1 : ((x.slate.length : Int) == 60) = false := by simp; omega
  have hn2 : decide ((x.slate.length : Int) = 60) = false := by simp; omega
  have hn3 : ¬ ((x.slate.length : Int) = 60) := by omega
  clear h60
  obtain ⟨b1, o1, har, ta, tc, la, lc, ra, rc, d0, d1, d2, d3, hrr⟩ := HRL.out c1 hc1
  subst har
  replace d0 := hole_sub S w _ _ d0
  replace d1 := hole_sub S w _ _ d1
  replace d2 := hole_sub S w _ _ d2
  replace d3 := hole_sub S w _ _ d3
  have HAP := Lib.hid (fun W (h : Ext w W) => Apply_c _ _ _ uW (rulAt s c1) (lastW x) c2 W ((hrr.sub (hole_sub S w)).ext h) (huW.ext h))
  rw [hk0] at HAP
  clear hrr hk0 HRL
  generalize hy : rulAt s c1 = y at *
  have HY := Lib.hid hy; clear hy
  go_enter Tryz.func152, Tryz.ntmps152
  go_wp2_with fail
  refine (HCH.out w (Ext.refl w)).mono ?_; rintro e w1 ⟨rfl, hx1⟩
  go_upto_region 4 with fail
  have hbc := Blk.alloc w1 #[.int .i64 c1, .int .i64 c2, .int .i64 c3] 46
  have hXC := hx1.trans (Ext.alloc w1 (.cells #[.int .i64 c1, .int .i64 c2, .int .i64 c3] 46))
  generalize w1.alloc (.cells #[.int .i64 c1, .int .i64 c2, .int .i64 c3] 46) = wC at *
  have hsz1 := hx1.size
  generalize w1.heap.size = gc at *
  have g5' := hXC.keep g5
  go_upto_region 6 with fail
  refine wp_region_treeR (fun a b => Ext a b) [] (.look 0 (.look 1 (.look 2 (.look 3 (.look 4 (.look 5 (.look 6 (.look 7 (.look 8 (.look 9 (.look 10 (.look 12 (.look 13 (.one 11 (.one 14 (.look 15 (.look 16 (.look 17 (.look 18 (.look 19 .done)))))))))))))))))))) (fun w => Ext.refl w) (fun a b c h k => Ext.trans h k) (by kernel_rfl) (by kernel_rfl) (by intro c a d v w h; cases d <;> exact h) ?_
  have hX0 := hXC.trans (drawnP_ext wC)
  replace hbc := hbc.ext (drawnP_ext wC)
  generalize { wC with drawn := wC.drawn + 1 } = W0 at *
  have kb : ∀ q : InC (fun c => Ext W0 c), q.w.cell? ⟨b, 2, none⟩ = some (.slice (some ⟨b1, o1, none⟩) s.length cr) := fun q => (hX0.trans q.h).keep hb
  have kc0 : ∀ q : InC (fun c => Ext W0 c), q.w.cell? ⟨gc, 0, none⟩ = some (.int .i64 c1) := fun q => (hbc.ext q.h).cell rfl
  have kc1 : ∀ q : InC (fun c => Ext W0 c), q.w.cell? ⟨gc, 1, none⟩ = some (.int .i64 c2) := fun q => (hbc.ext q.h).cell rfl
  have kd0 : ∀ q : InC (fun c => Ext W0 c), q.w.cell? _ = some _ := fun q => (hX0.trans q.h).keep d0
  have kd1 : ∀ q : InC (fun c => Ext W0 c), q.w.cell? _ = some _ := fun q => (hX0.trans q.h).keep d1
  have kd2 : ∀ q : InC (fun c => Ext W0 c), q.w.cell? _ = some _ := fun q => (hX0.trans q.h).keep d2
  have kd3 : ∀ q : InC (fun c => Ext W0 c), q.w.cell? _ = some _ := fun q => (hX0.trans q.h).keep d3
  have kg0 : ∀ q : InC (fun c => Ext W0 c), q.w.cell? _ = some _ := fun q => (hX0.trans q.h).keep g0
  have kg1 : ∀ q : InC (fun c => Ext W0 c), q.w.cell? _ = some _ := fun q => (hX0.trans q.h).keep g1
  have kg2 : ∀ q : InC (fun c => Ext W0 c), q.w.cell? _ = some _ := fun q => (hX0.trans q.h).keep g2
  have kg3 : ∀ q : InC (fun c => Ext W0 c), q.w.cell? _ = some _ := fun q => (hX0.trans q.h).keep g3
  have kg4 : ∀ q : InC (fun c => Ext W0 c), q.w.cell? _ = some _ := fun q => (hX0.trans q.h).keep g4
  have kg5 : ∀ q : InC (fun c => Ext W0 c), q.w.cell? _ = some _ := fun q => (hX0.trans q.h).keep g5
  have kg6 : ∀ q : InC (fun c => Ext W0 c), q.w.cell? _ = some _ := fun q => (hX0.trans q.h).keep g6
  have kg7 : ∀ q : InC (fun c => Ext W0 c), q.w.cell? _ = some _ := fun q => (hX0.trans q.h).keep g7
  iterate 13 (refine wpTreeR_look rfl (fun K hK => ?_); go_simp; first | (refine hK _ ?_; clear hK K) | (refine ⟨_, fun _ => rfl, hK _ ?_⟩; clear hK K))
  refine wpTreeR_one rfl rfl (fun K hK => ?_)
  go_wp2_with fail
  refine (HWD.out W0 hX0).mono ?_; rintro e w6 ⟨rfl, hx6⟩
  go_wp2_with fail
  refine ⟨.inr hx6, ?_⟩
  have hX6 := hX0.trans hx6
  refine wpTreeR_one rfl rfl (fun K hK => ?_)
  go_wp2_with fail
  refine (HAP.out w6 hX6).mono ?_; rintro e w7 ⟨u7, rfl, ho7, hx7⟩
  obtain ⟨a7, c7, hu7, _⟩ := ho7.ints.open_
  subst hu7
  go_wp2_with fail
  refine ⟨.inr hx7, ?_⟩
  have hX7 := hX6.trans hx7
  iterate 5 (refine wpTreeR_look rfl (fun K hK => ?_); go_simp; first | (refine hK _ ?_; clear hK K) | (refine ⟨_, fun _ => rfl, hK _ ?_⟩; clear hK K))
  refine wpTreeR_done ?_
  have hgX := fun W (h : Ext w W) => hg.ext h
  have HO7 := Lib.hid ((OInts.hole ho7 (S := S) (fun k hk => by have := hSl k hk; have := hX6.size; omega)).ints)
  have h71 := ho7.ints.one'
  clear ho7 kb kc0 kc1 kd0 kd1 kd2 kd3 kg0 kg1 kg2 kg3 kg4 kg5 kg6 kg7
  have g0 := hX7.keep g0
  have g1 := hX7.keep g1
  have g4 := hX7.keep g4
  go_wp2_with fail
  refine (HCW.out w7 hX7).mono ?_; rintro e w8 ⟨u8, rfl, ho8, hx8⟩
  have hs8 := hx8.size
  go_wp2_with (at_builtin; refine wpList_appendS (enc := encV) (L := us) (Value.slice a7 (applyL y (lastW x) c2).length c7) elRows rfl _ _ rfl rfl rfl ho8 rfl rfl rfl (by intro u hu; simp only [encV, List.mem_cons, List.not_mem_nil, or_false] at hu; subst hu; rfl) hs8 HWL.out.1 HWL.out.2 ?_; intro u9 w9 ho9 hb9 hg9 hn9; obtain ⟨a9, n9, hv9, _⟩ := (Cel.own encV_len ho9).open_; rw [List.length_append, List.length_singleton] at hv9; subst hv9; have hx9 : Ext w7 w9 := hx8.upto hb9 (Nat.le_refl _); have hgw9 := (hgX w9 (hX7.trans hx9)); have f4 := hgw9.frozen 4; have e4 := hgw9.cell (i := 4) rfl)
  go_upto_region 10 with fail
  have hgw9 := hg.ext (hX7.trans hx9)
  have hgD := hgw9.set 4 (.slice a9 (us.length + 1) n9)
  have hE9' := ExtX.set w9 g 4 (.slice a9 (us.length + 1) n9)
  have HR9 := Lib.hid (Cel.own encV_len (OCel.hole ho9 (S := S) (fun k hk => by have := hSl k hk; have := hX7.size; omega)))
  have hcD : Ext W0 w9 := (hx6.trans hx7).trans hx9
  have hbD := (hbc.ext hcD).other (c := g) (fun e => by have := hg.lt; omega) 4 (.slice a9 (us.length + 1) n9)
  generalize World.setCell w9 ⟨g, 4, none⟩ _ = wD at *
  have HE9 := Lib.hid hE9'
  have HE7 := Lib.hid ((hx9.toX (one g)).trans hE9')
  have hXD := Lib.hid (fun W (h : Ext wD W) => (⟨w9, hX7.trans hx9, hE9'.trans (h.toX _)⟩ : ∃ W', Ext w W' ∧ ExtX (one g) W' W))
  refine wp_region_treeR (fun a b => Below wD.heap.size a b) [11] (.look 0 (.look 1 (.look 2 (.look 3 (.look 4 (.look 6 (.two 5 (.one 7 (.one 8 (.look 9 (.look 10 (.one 11 .done))))) 7 (.one 5 (.one 8 (.look 9 (.look 10 (.one 11 .done)))))))))))) (fun w => Below.refl _ w) (fun a b c h k => Below.trans h k) (by kernel_rfl) (by kernel_rfl) (by intro c a d v w h; cases d <;> exact h) ?_
  have hd1 := drawnP_ext wD
  generalize { wD with drawn := wD.drawn + 1 } = W1 at *
  have kg5 : ∀ q : InC (fun c => Below wD.heap.size W1 c), q.w.cell? ⟨g, 5, none⟩ = some (.slice aS x.slate.length cs) := fun q => (hgD.ext (Below.trans hd1 q.h)).cell rfl
  have kc0 : ∀ q : InC (fun c => Below wD.heap.size W1 c), q.w.cell? ⟨gc, 0, none⟩ = some (.int .i64 c1) := fun q => (hbD.ext (Below.trans hd1 q.h)).cell rfl
  have kc1 : ∀ q : InC (fun c => Below wD.heap.size W1 c), q.w.cell? ⟨gc, 1, none⟩ = some (.int .i64 c2) := fun q => (hbD.ext (Below.trans hd1 q.h)).cell rfl
  have kc2 : ∀ q : InC (fun c => Below wD.heap.size W1 c), q.w.cell? ⟨gc, 2, none⟩ = some (.int .i64 c3) := fun q => (hbD.ext (Below.trans hd1 q.h)).cell rfl
  iterate 6 (refine wpTreeR_look rfl (fun K hK => ?_); go_simp; first | (refine hK _ ?_; clear hK K) | (refine ⟨_, fun _ => rfl, hK _ ?_⟩; clear hK K))
  refine wpTreeR_two rfl rfl rfl rfl (fun K hK => ?_) (fun K hK => ?_)
  ·go_wp2_with fail
   refine (HCC.out W1 (hXD.out W1 hd1)).mono ?_; rintro e v11 ⟨u11, rfl, ho11, hx11⟩
   go_wp2_with fail
   refine ⟨.inr (hx11.mono hd1.size), ?_⟩
   have hX11 := (hd1).trans hx11
   have hz11 := Nat.le_trans (hd1.size) hx11.size
   have hs11 := hx11.size
   have hrb := hd1.size
   refine wpTreeR_one rfl rfl (fun K hK => ?_)
   go_wp2_with fail
   have hbn := Blk.alloc v11 #[.int .i64 c1, .int .i64 c2, .int .i64 c3] 46
   have hx12 := Ext.alloc v11 (.cells #[.int .i64 c1, .int .i64 c2, .int .i64 c3] 46)
   have hs12 := hx12.size
   have hz12 := Nat.le_trans (hz11) hx12.size
   refine ⟨.inr (hx12.mono hz11), ?_⟩
   have hX12 := (hX11).trans hx12
   generalize v11.alloc (.cells #[.int .i64 c1, .int .i64 c2, .int .i64 c3] 46) = v12 at *
   generalize v11.heap.size = gn at *
   replace ho11 := ho11.ext hx12
   refine wpTreeR_one rfl rfl (fun K hK => ?_)
   refine wpList_appendAll (v := u11) (vx := .slice (some ⟨gn, 0, none⟩) 1 1) elCh rfl _ _ rfl rfl rfl ho11 (raw_one rfl hbn) (fun u hu => encCh_one (c1, c2, c3) u hu) (by omega) HSL.out.1 HSL.out.2 ?_; intro vs' v13 ho8 hb8; replace ho8 := ocel_snoc (x := ((c1, c2, c3) : Ch)) ho8; obtain ⟨a8, n8, hv8, _⟩ := (Cel.own encCh_len ho8).open_; rw [List.length_append, List.length_singleton] at hv8; subst hv8
   go_wp2_with fail
   have hx13 : Below wD.heap.size v12 v13 := hb8.mono hrb
   refine ⟨.inr hx13, ?_⟩
   have hY : Ext wD v13 := Below.trans hX12 hx13
   have hg8 := hgD.ext hY
   have f5 := hg8.frozen 5
   have e5 := hg8.cell (i := 5) rfl
   iterate 2 (refine wpTreeR_look rfl (fun K hK => ?_); go_simp; first | (refine hK _ ?_; clear hK K) | (refine ⟨_, fun _ => rfl, hK _ ?_⟩; clear hK K))
   refine wpTreeR_one rfl rfl (fun K hK => ?_)
   go_wp2_with fail
   refine ⟨.inl (by simp), ?_⟩
   refine wpTreeR_done ?_
   have hgF := hg8.set 5 (.slice a8 (x.slate.length + 1) n8)
   have hEF := ExtX.set v13 g 5 (.slice a8 (x.slate.length + 1) n8)
   generalize World.setCell v13 ⟨g, 5, none⟩ _ = wF at *
   have hE7 : ExtX (one g) w7 wF := HE7.out.trans ((hY.toX _).trans hEF)
   have hE9 : ExtX (one g) w9 wF := HE9.out.trans ((hY.toX _).trans hEF)
   have hEw : ExtX (one g) w wF := (hX7.toX _).trans hE7
   go_wp2_with fail
   go_ret
   have hk0 := hole_keep hSg hEw
   have hk7 := hole_keep hSg hE7
   have hk9 := hole_keep hSg hE9
   have hk8 := hole_keep hSg hEF
   refine ⟨rfl, hEw, ⟨vkn, vgr, vb, .slice a9 (us.length + 1) n9, .slice a8 (x.slate.length + 1) n8, vf, vo⟩, ?_, ?_⟩
   ·show Blk _ g _ [vkn, vgr, .bool x.has, vb, _, _, vf, vo]
    rw [HH.out]; exact hgF
   ·refine ⟨HS.out.kn.sub hk0, HS.out.gr.sub hk0, HS.out.base.sub hk0, Rows.of_cel ((HR9.out).sub hk9) ?_, (Cel.own encCh_len (OCel.hole ho8 (fun k hk => by have := hSl k hk; have := hX7.size; have := HE7.out.size; omega))).sub hk8, HS.out.forms.sub hk0, HS.out.orders.sub hk0⟩
    show AllInts _ _ (x.words ++ [applyL (rulAt s c1) (lastW x) c2])
    rw [HY.out]
    exact AllInts.snoc (HU.out.sub hk0) ((HO7.out).sub hk7)
  ·go_wp2_with fail
   have hbn := Blk.alloc W1 #[.int .i64 c1, .int .i64 c2, .int .i64 c3] 46
   have hx11 := Ext.alloc W1 (.cells #[.int .i64 c1, .int .i64 c2, .int .i64 c3] 46)
   have hs11 := hx11.size
   have hz11 := Nat.le_trans (hd1.size) hx11.size
   refine ⟨.inr (hx11.mono hd1.size), ?_⟩
   have hX11 := (hd1).trans hx11
   generalize W1.alloc (.cells #[.int .i64 c1, .int .i64 c2, .int .i64 c3] 46) = v11 at *
   generalize W1.heap.size = gn at *
   refine wpTreeR_one rfl rfl (fun K hK => ?_)
   go_wp2_with fail
   refine (HCC.out v11 (hXD.out v11 hX11)).mono ?_; rintro e v12 ⟨u12, rfl, ho12, hx12⟩
   go_wp2_with fail
   refine ⟨.inr (hx12.mono hz11), ?_⟩
   have hX12 := (hX11).trans hx12
   have hz12 := Nat.le_trans (hz11) hx12.size
   have hs12 := hx12.size
   have hrb := hz11
   replace hbn := hbn.ext hx12
   refine wpTreeR_one rfl rfl (fun K hK => ?_)
   refine wpList_appendAll (v := u12) (vx := .slice (some ⟨gn, 0, none⟩) 1 1) elCh rfl _ _ rfl rfl rfl ho12 (raw_one rfl hbn) (fun u hu => encCh_one (c1, c2, c3) u hu) (by omega) HSL.out.1 HSL.out.2 ?_; intro vs' v13 ho8 hb8; replace ho8 := ocel_snoc (x := ((c1, c2, c3) : Ch)) ho8; obtain ⟨a8, n8, hv8, _⟩ := (Cel.own encCh_len ho8).open_; rw [List.length_append, List.length_singleton] at hv8; subst hv8
   go_wp2_with fail
   have hx13 : Below wD.heap.size v12 v13 := hb8.mono hrb
   refine ⟨.inr hx13, ?_⟩
   have hY : Ext wD v13 := Below.trans hX12 hx13
   have hg8 := hgD.ext hY
   have f5 := hg8.frozen 5
   have e5 := hg8.cell (i := 5) rfl
   iterate 2 (refine wpTreeR_look rfl (fun K hK => ?_); go_simp; first | (refine hK _ ?_; clear hK K) | (refine ⟨_, fun _ => rfl, hK _ ?_⟩; clear hK K))
   refine wpTreeR_one rfl rfl (fun K hK => ?_)
   go_wp2_with fail
   refine ⟨.inl (by simp), ?_⟩
   refine wpTreeR_done ?_
   have hgF := hg8.set 5 (.slice a8 (x.slate.length + 1) n8)
   have hEF := ExtX.set v13 g 5 (.slice a8 (x.slate.length + 1) n8)
   generalize World.setCell v13 ⟨g, 5, none⟩ _ = wF at *
   have hE7 : ExtX (one g) w7 wF := HE7.out.trans ((hY.toX _).trans hEF)
   have hE9 : ExtX (one g) w9 wF := HE9.out.trans ((hY.toX _).trans hEF)
   have hEw : ExtX (one g) w wF := (hX7.toX _).trans hE7
   go_wp2_with fail
   go_ret
   have hk0 := hole_keep hSg hEw
   have hk7 := hole_keep hSg hE7
   have hk9 := hole_keep hSg hE9
   have hk8 := hole_keep hSg hEF
   refine ⟨rfl, hEw, ⟨vkn, vgr, vb, .slice a9 (us.length + 1) n9, .slice a8 (x.slate.length + 1) n8, vf, vo⟩, ?_, ?_⟩
   ·show Blk _ g _ [vkn, vgr, .bool x.has, vb, _, _, vf, vo]
    rw [HH.out]; exact hgF
   ·refine ⟨HS.out.kn.sub hk0, HS.out.gr.sub hk0, HS.out.base.sub hk0, Rows.of_cel ((HR9.out).sub hk9) ?_, (Cel.own encCh_len (OCel.hole ho8 (fun k hk => by have := hSl k hk; have := hX7.size; have := HE7.out.size; omega))).sub hk8, HS.out.forms.sub hk0, HS.out.orders.sub hk0⟩
    show AllInts _ _ (x.words ++ [applyL (rulAt s c1) (lastW x) c2])
    rw [HY.out]
    exact AllInts.snoc (HU.out.sub hk0) ((HO7.out).sub hk7)
end Go.Proofs.YtpmlcfgbfhgpgaaGreatDoor
