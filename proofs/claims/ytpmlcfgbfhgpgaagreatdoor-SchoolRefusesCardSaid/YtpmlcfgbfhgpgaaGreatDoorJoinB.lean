/- Several texts in one: LstB, SysJ, SysK, SysL, Mu, SysM, SysN, NewA, NewB, Law9A, Law9B, Law9C, Law9D, Law9E, Law9F, Law9G, Open, OpenR. -/
import Derived.Test.YtpmlcfgbfhgpgaaGreatDoorLstA
import Derived.Test.YtpmlcfgbfhgpgaaGreatDoorSysI
import Derived.Test.YtpmlcfgbfhgpgaaGreatDoorProg
import Derived.Conc.MuLone
import Derived.Conc.MuData
import Derived.KernelRfl
import Derived.Test.YtpmlcfgbfhgpgaaGreatDoorOwn
import Derived.ProofKit
import Derived.OpenShut
import Derived.ShutString
import Derived.ChangeOld
import Derived.Deep.Slices
import Derived.Lib.SmallJoins
import Derived.Test.YtpmlcfgbfhgpgaaGreatDoorJoinA
import Derived.Test.YtpmlcfgbfhgpgaaGreatDoorJoinC
import Derived.SliceStrings
import Derived.ChangeMaps5
/- Lists of a school: lists of words searched, lists compared; the program's package slices. -/
namespace Go.Proofs.YtpmlcfgbfhgpgaaGreatDoor
open Go.RowKit Go.Shelf
set_option linter.unusedVariables false
set_option maxHeartbeats 400000 in
theorem indexFuncR_c (va : Value) (l : List (List Int)) (g : Nat) (lb : Array Value) (p : List Int → Bool) (w : World) (eg : Enters Tryz.prog g)
  (hg : ∀ W (x : List Int) (xv : Value), Ext w W → Ints W xv x → Calls Tryz.prog g (#[xv] ++ lb) W (RV (.bool (p x)) W)) (ha : Rows w va l) :
  Calls Tryz.prog 132 #[va, .func (.func g) #[] lb] w (RV (.int .i64 (firstIdx l.length fun i => p (l[i]?.getD []))) w) := by
 obtain ⟨aa, ca, rfl, hla, hma, Ha⟩ := Sl.open_ ha
 clear ha
 unfold Enters at eg
 have Hg := Lib.hid hg; clear hg
 go_enter Tryz.func132, Tryz.ntmps132
 go_wp2_with fail
 go_loopg [8] l.length (fun m i wr => ∃ k : Nat, k ≤ l.length ∧ l.length ≤ k + m ∧ i = .int .i64 k ∧ Ext w wr ∧ Hid (∀ j, j < k → p (l[j]?.getD []) = false))
 case atStart => exact ⟨0, by omega, by omega, rfl, Ext.refl _, fun j hj => by omega⟩
 case round =>
  obtain ⟨k, hk, hk2, rfl, hB, hE⟩ := hrel
  by_cases hlt : k < l.length
  ·obtain ⟨ba, oa, rfl, u, hc1, hi⟩ := Ha.out k hlt
   replace hc1 := hB.keep hc1
   have HG := Lib.hid (Hg.out wr _ u hB (hi.ext hB))
   clear hi
   generalize hx : l[k]?.getD [] = x at *
   have Hx := Lib.hid hx; clear hx
   cases hxy : p x
   ·have HX := Lib.hid hxy; clear hxy
    go_wp2_with (go_at_fn g; refine (HG.out).mono ?_; rw [HX.out]; rintro e w' ⟨rfl, hB2⟩)
    go_roundg (gk-1)
    case measure => omega
    case rel => exact ⟨k+1, by omega, by omega, by go_num, hB.trans hB2, range_step hE.out (by rw [Hx.out]; exact HX.out)⟩
   ·have HX := Lib.hid hxy; clear hxy
    go_wp2_with (go_at_fn g; refine (HG.out).mono ?_; rw [HX.out]; rintro e w' ⟨rfl, hB2⟩)
    go_ret
    exact RV.int (by rw [firstIdx_at hlt (by rw [Hx.out]; exact HX.out) hE.out]) (hB.trans hB2)
  ·go_wp2_with fail
   go_ret
   exact RV.int (by rw [firstIdx_none (fun j hj => hE.out j (by omega))]) hB
set_option maxHeartbeats 400000 in
theorem containsFuncR_c (va : Value) (l : List (List Int)) (g : Nat) (lb : Array Value) (p : List Int → Bool) (w : World) (eg : Enters Tryz.prog g)
  (hg : ∀ W (x : List Int) (xv : Value), Ext w W → Ints W xv x → Calls Tryz.prog g (#[xv] ++ lb) W (RV (.bool (p x)) W)) (ha : Rows w va l) :
  Calls Tryz.prog 93 #[va, .func (.func g) #[] lb] w (RV (.bool ((List.range l.length).any fun i => p (l[i]?.getD []))) w) := by
 have HH := Lib.hid (indexFuncR_c va l g lb p w eg hg ha); clear hg
 rw [← firstIdx_ge]
 generalize firstIdx l.length (fun i => p (l[i]?.getD [])) = n at *
 go_enter Tryz.func93, Tryz.ntmps93
 go_wp2_with (go_at_call 132; refine HH.out.mono ?_; rintro e w' ⟨rfl, hB2⟩)
 go_ret
 exact RV.bool rfl hB2
theorem any_same (l : List (List Int)) (u : List Int) : ((List.range l.length).any fun i => sameIntsB (l[i]?.getD []) u) = l.contains u := by
 rw [Bool.eq_iff_iff, List.any_eq_true, List.contains_iff_mem]
 constructor
 ·rintro ⟨i, hi, h⟩
  have hi : i < l.length := by simpa using hi
  rw [List.getElem?_eq_getElem hi, Option.getD_some, sameIntsB_iff] at h
  have h : l[i] = u := by simpa using h
  rw [← h]; exact List.getElem_mem hi
 ·intro h
  obtain ⟨i, hi, e⟩ := List.mem_iff_getElem.1 h
  refine ⟨i, by simpa using hi, ?_⟩
  rw [List.getElem?_eq_getElem hi, Option.getD_some, e]; exact sameIntsB_refl u
end Go.Proofs.YtpmlcfgbfhgpgaaGreatDoor
/- say of a school. -/
namespace Go.Proofs.YtpmlcfgbfhgpgaaGreatDoor
open Go.RowKit Go.Shelf
set_option linter.unusedVariables false
set_option maxHeartbeats 2000000 in
set_option maxRecDepth 100000 in
theorem say1_c {g4 g : Nat} {v : SV} {x : St} {w W : World} {u xv : Value} {l lw : List Int} (hX : Ext w W) (hb4 : Blk w g4 152 [.pointer (some ⟨g, 0, none⟩)]) (hg : Blk w g 106 (v.cells x))
  (HWD : Hid (∀ W, Ext w W → Calls Tryz.prog 70 #[.agg (v.cells x).toArray] W (RV u W))) (hu : Ints w u lw) (hx : Ints W xv l) :
  Calls Tryz.prog 154 #[xv, .pointer (some ⟨g4, 0, none⟩)] W (RV (.bool (sameIntsB l lw)) W) := by
 have HE := Lib.hid (fun W2 (h : Ext W W2) => equalInts_c xv u l lw W2 (hx.ext h) ((hu.ext hX).ext h))
 obtain ⟨vkn, vgr, vb, vw, vs, vf, vo⟩ := v
 simp only [SV.cells] at hg HWD
 have k4 := (hb4.ext hX).cell (i := 0) rfl
 have g0 := (hg.ext hX).cell (i := 0) rfl
 have g1 := (hg.ext hX).cell (i := 1) rfl
 have g2 := (hg.ext hX).cell (i := 2) rfl
 have g3 := (hg.ext hX).cell (i := 3) rfl
 have g4' := (hg.ext hX).cell (i := 4) rfl
 have g5 := (hg.ext hX).cell (i := 5) rfl
 have g6 := (hg.ext hX).cell (i := 6) rfl
 have g7 := (hg.ext hX).cell (i := 7) rfl
 obtain ⟨ax, cx, hxv, _⟩ := hx.open_
 subst hxv
 generalize sameIntsB l lw = R at *
 clear hx
 go_enter Tryz.func154, Tryz.ntmps154
 go_wp2_with fail
 refine (HWD.out W hX).mono ?_; rintro e w1 ⟨rfl, hx1⟩
 go_wp2_with fail
 refine (HE.out w1 hx1).mono ?_; rintro e w2 ⟨rfl, n, rfl⟩
 go_wp2_with fail
 go_ret
 exact ⟨rfl, hx1.trans (Ext.drewN _ _)⟩
set_option maxHeartbeats 2000000 in
set_option maxRecDepth 100000 in
theorem word_hole {S : Nat → Bool} {v : SV} {x : St} {w : World} (hs : StR (hole S w) v x) (hw : 1 ≤ x.words.length) :
  ∃ u, Ints (hole S w) u (lastW x) ∧ ∀ W, Ext w W → Calls Tryz.prog 70 #[.agg (v.cells x).toArray] W (RV u W) := by
 obtain ⟨a, c, hv, h1, h2, H⟩ := Sl.open_ hs.words
 obtain ⟨b, o, ha, u, hc, hu⟩ := H.out (x.words.length - 1) (by omega)
 refine ⟨u, hu, fun W hx => ?_⟩
 obtain ⟨vkn, vgr, vb, vw, vs, vf, vo⟩ := v
 simp only at hv
 subst hv ha
 replace hc := hx.keep (hole_sub S w _ _ hc)
 clear hs H hu
 generalize x.words.length = N at *
 obtain ⟨n, rfl⟩ : ∃ n, N = n + 1 := ⟨N - 1, by omega⟩
 rw [show n + 1 - 1 = n from rfl] at hc
 have hbox := Blk.alloc W #[vkn, vgr, .bool x.has, vb, .slice (some ⟨b, o, none⟩) (n + 1) c, vs, vf, vo] 106
 have hX0 := Ext.alloc W (.cells #[vkn, vgr, .bool x.has, vb, .slice (some ⟨b, o, none⟩) (n + 1) c, vs, vf, vo] 106)
 replace hc := hX0.keep hc
 simp only [SV.cells]
 go_enter Tryz.func70, Tryz.ntmps70
 go_upto_region 1 with fail
 generalize W.alloc (.cells #[vkn, vgr, .bool x.has, vb, .slice (some ⟨b, o, none⟩) (n + 1) c, vs, vf, vo] 106) = w0 at *
 have c0 := hbox.cell (i := 4) rfl
 go_wp2_with fail
 go_ret
 exact ⟨rfl, hX0⟩
set_option maxHeartbeats 8000000 in
set_option maxRecDepth 100000 in
theorem exec_say_c {S : Nat → Bool} {b g : Nat} {rv : Value} {v : SV} {x : St} {s : List Rul} {w : World} (h : Sch S b g rv v x s w) (hh : x.has = true) (hf : x.forms.length ≤ 1000) (aw : Option Addr) (nw cw : Nat) :
  Calls Tryz.prog 102 #[.pointer (some ⟨b, 0, none⟩), .pointer (some ⟨g, 0, none⟩), .agg #[.int .i64 7, .int .i64 0, .slice aw nw cw]] w (RAdv S g (execS s x .say) w) := by
 obtain ⟨wB, hwB, hX, hb4, hb5⟩ := exec_boxes w g 7 0 (.slice aw nw cw)
 have hw1 : 1 ≤ x.words.length := by have := h.hI.wlen hh; omega
 have h0 := h
 have hHB := h.ext hX
 have hgB := hHB.hg
 have hsF := h.hs.sub (hole_sub S w)
 have HCH := Lib.hid (fun W (k : Ext w W) => choose_c b rv v x s W (k.keep h.hb) ((h.hr.sub (hole_sub S w)).ext k) (hsF.ext k) h.hI hh)
 obtain ⟨uW, hLU, HWD0⟩ := word_hole h.hs hw1
 obtain ⟨aU, cU, huU, _⟩ := hLU.open_
 subst huU
 have hlU : (lastW x).length = (lastW x).length := rfl
 have huW := hLU.sub (hole_sub S w)
 have HWD := Lib.hid HWD0
 have HLU := Lib.hid hLU
 obtain ⟨us, hus, hUs⟩ := h.hs.forms.cel
 have HU := Lib.hid hUs
 have hul : us.length ≤ 1000 := by rw [hUs.1]; exact hf
 have HCR := Lib.hid (fun W (k : Ext w W) => cloneRows_c v.forms us x.forms W ((hus.sub (hole_sub S w)).ext k) ((hUs.sub (hole_sub S w)).ext k) (by omega))
 have HLN : Hid ((us.length + 1) * 24 ≤ 140737488355328 ∧ us.length + 1 ≤ 9223372036854775807) := Lib.hid (by omega)
 have HWDB : Hid (∀ W, Ext wB W → Calls Tryz.prog 70 #[.agg (v.cells x).toArray] W (RV (.slice aU (lastW x).length cU) W)) := Lib.hid fun W k => HWD0 W (hX.trans k)
 have HCF := Lib.hid (fun W (k : Ext wB W) => containsFuncR_c v.forms x.forms 154 #[.pointer (some ⟨w.heap.size, 0, none⟩)] (fun l => sameIntsB l (lastW x)) W (enters_of Tryz.func154 (by kernel_rfl) rfl)
  (fun W2 l xv k2 hx => say1_c (k.trans k2) hb4 hgB HWDB (huW.ext hX) hx) ((hsF.forms.ext hX).ext k))
 simp only [any_same] at HCF
 have HS1 : Hid (∀ c, chooseS s x = some c → execS s x .say = (x, 6)) := Lib.hid fun c hc => by simp only [execS]; rw [if_pos hh, hc]
 have HS2 : Hid (chooseS s x = none → x.forms.contains (lastW x) = true → execS s x .say = (x, 5)) := Lib.hid fun hc h2 => by simp only [execS]; rw [if_pos hh, hc]; simp only; rw [if_pos h2]
 have HS3 : Hid (chooseS s x = none → x.forms.contains (lastW x) = false → execS s x .say = ({ x with forms := x.forms ++ [lastW x] }, 0)) := Lib.hid fun hc h2 => by simp only [execS]; rw [if_pos hh, hc]; simp only; rw [if_neg (by rw [h2]; decide)]
 have HG := Lib.hid h.hg
 have HS := Lib.hid h.hs
 have HWB := Lib.hid hwB; clear hwB
 obtain ⟨vkn, vgr, vb, vw, vs, vf, vo⟩ := v
 simp only [SV.cells] at hgB HWD HCH
 simp only at HCR HCF
 clear HWDB HWD0 huW hLU hus hUs hsF hHB h
 have g0 := hgB.cell (i := 0) rfl
 have g1 := hgB.cell (i := 1) rfl
 have g2 := hgB.cell (i := 2) rfl
 rw [hh] at g2
 have g3 := hgB.cell (i := 3) rfl
 have g4' := hgB.cell (i := 4) rfl
 have g5 := hgB.cell (i := 5) rfl
 have g6 := hgB.cell (i := 6) rfl
 have g7 := hgB.cell (i := 7) rfl
 rw [hh] at HCH HWD
 have k4 := hb4.cell (i := 0) rfl
 have k50 := hb5.cell (i := 0) rfl
 have k51 := hb5.cell (i := 1) rfl
 have k52 := hb5.cell (i := 2) rfl
 clear hh
 generalize lastW x = lw at *
 generalize lw.length = lU at *
 generalize x.forms.contains lw = CF at *
 cases hc : chooseS s x with
 | some c =>
  rw [HS1.out c hc]
  rw [hc] at HCH
  clear hc
  obtain ⟨c1, c2, c3⟩ := c
  simp only [chV, Option.isSome_some] at HCH
  go_enter Tryz.func102, Tryz.ntmps102
  go_upto_region 1 with fail
  rw [← HWB.out]
  generalize w.heap.size = g4 at *
  go_wp2_with fail
  refine (HCH.out wB hX).mono ?_; rintro e w1 ⟨rfl, hx1⟩
  go_wp2_with fail
  go_ret
  exact RAdv.same (errV_ret (by decide)) (hX.trans (hx1.trans (Ext.alloc _ _))) HG.out HS.out
 | none =>
  rw [hc] at HCH
  have HC := Lib.hid hc
  clear hc
  simp only [chV, Option.isSome_none] at HCH
  cases CF with
  | true =>
   rw [HS2.out HC.out rfl]
   go_enter Tryz.func102, Tryz.ntmps102
   go_upto_region 1 with fail
   rw [← HWB.out]
   generalize w.heap.size = g4 at *
   go_wp2_with fail
   refine (HCH.out wB hX).mono ?_; rintro e w1 ⟨rfl, hx1⟩
   go_upto_region 30 with fail
   have hB2 := hx1.trans (Ext.alloc w1 (.cells #[.int .i64 0, .int .i64 0, .int .i64 0] 46))
   generalize w1.alloc (.cells #[.int .i64 0, .int .i64 0, .int .i64 0] 46) = W2 at *
   have m4 := hB2.keep k4
   have m6 := hB2.keep g6
   go_wp2_with fail
   refine (HCF.out W2 hB2).mono ?_; rintro e w3 ⟨rfl, hx3⟩
   go_wp2_with fail
   go_ret
   exact RAdv.same (errV_ret (by decide)) (hX.trans (hB2.trans hx3)) HG.out HS.out
  | false =>
   rw [HS3.out HC.out rfl]
   go_enter Tryz.func102, Tryz.ntmps102
   go_upto_region 1 with fail
   rw [← HWB.out]
   generalize w.heap.size = g4 at *
   go_wp2_with fail
   refine (HCH.out wB hX).mono ?_; rintro e w1 ⟨rfl, hx1⟩
   go_upto_region 30 with fail
   have hB2' := hx1.trans (Ext.alloc w1 (.cells #[.int .i64 0, .int .i64 0, .int .i64 0] 46))
   generalize w1.alloc (.cells #[.int .i64 0, .int .i64 0, .int .i64 0] 46) = W1 at *
   have m4 := hB2'.keep k4
   have m6 := hB2'.keep g6
   go_wp2_with fail
   refine (HCF.out W1 hB2').mono ?_; rintro e W2 ⟨rfl, hx3⟩
   have hB2 := hB2'.trans hx3
   go_upto_region 32 with fail
   refine wp_region_treeR (fun a b => Below W2.heap.size a b) [14] (.look 0 (.look 1 (.look 2 (.look 3 (.look 4 (.look 6 (.look 7 (.look 8 (.one 5 (.one 9 (.one 10 (.one 11 (.look 12 (.look 13 (.one 14 .done))))))))))))))) (fun w => Below.refl _ w) (fun a b c h k => Below.trans h k) (by kernel_rfl) (by kernel_rfl) (by intro c a d v w h; cases d <;> exact h) ?_
   have hd := drawnP_ext W2
   have hz0 := hd.size
   have hBW0 : Ext wB _ := hB2.trans hd
   have hwW0 : Ext w _ := hX.trans hBW0
   generalize { W2 with drawn := W2.drawn + 1 } = W0 at *
   have q4 : ∀ q : InC (fun c => Below W2.heap.size W0 c), q.w.cell? ⟨g4, 0, none⟩ = some (.pointer (some ⟨g, 0, none⟩)) := fun q => ((hb4.ext hB2).ext (Below.trans hd q.h)).cell rfl
   have qg0 : ∀ q : InC (fun c => Below W2.heap.size W0 c), q.w.cell? ⟨g, 0, none⟩ = some vkn := fun q => Ext.keep (w := W2) (Below.trans hd q.h) (hB2.keep g0)
   have qg1 : ∀ q : InC (fun c => Below W2.heap.size W0 c), q.w.cell? ⟨g, 1, none⟩ = some vgr := fun q => Ext.keep (w := W2) (Below.trans hd q.h) (hB2.keep g1)
   have qg2 : ∀ q : InC (fun c => Below W2.heap.size W0 c), q.w.cell? ⟨g, 2, none⟩ = some (.bool true) := fun q => Ext.keep (w := W2) (Below.trans hd q.h) (hB2.keep g2)
   have qg3 : ∀ q : InC (fun c => Below W2.heap.size W0 c), q.w.cell? ⟨g, 3, none⟩ = some vb := fun q => Ext.keep (w := W2) (Below.trans hd q.h) (hB2.keep g3)
   have qg4 : ∀ q : InC (fun c => Below W2.heap.size W0 c), q.w.cell? ⟨g, 4, none⟩ = some vw := fun q => Ext.keep (w := W2) (Below.trans hd q.h) (hB2.keep g4')
   have qg5 : ∀ q : InC (fun c => Below W2.heap.size W0 c), q.w.cell? ⟨g, 5, none⟩ = some vs := fun q => Ext.keep (w := W2) (Below.trans hd q.h) (hB2.keep g5)
   have qg6 : ∀ q : InC (fun c => Below W2.heap.size W0 c), q.w.cell? ⟨g, 6, none⟩ = some vf := fun q => Ext.keep (w := W2) (Below.trans hd q.h) (hB2.keep g6)
   have qg7 : ∀ q : InC (fun c => Below W2.heap.size W0 c), q.w.cell? ⟨g, 7, none⟩ = some vo := fun q => Ext.keep (w := W2) (Below.trans hd q.h) (hB2.keep g7)
   iterate 8 (refine wpTreeR_look rfl (fun K hK => ?_); go_simp; first | (refine hK _ ?_; clear hK K) | (refine ⟨_, fun _ => rfl, hK _ ?_⟩; clear hK K))
   refine wpTreeR_one rfl rfl (fun K hK => ?_)
   go_wp2_with fail
   refine (HCR.out W0 hwW0).mono ?_; rintro e v5 ⟨u5, rfl, ho5, hx5⟩
   go_wp2_with fail
   refine ⟨.inr (hx5.mono hz0), ?_⟩
   have hB5 : Ext wB v5 := hBW0.trans hx5
   have hs5 := hx5.size
   refine wpTreeR_one rfl rfl (fun K hK => ?_)
   go_wp2_with fail
   refine (HWD.out v5 (hX.trans hB5)).mono ?_; rintro e v9 ⟨rfl, hx9⟩
   go_wp2_with fail
   refine ⟨.inr (hx9.mono (Nat.le_trans hz0 hs5)), ?_⟩
   have hB9 : Ext wB v9 := hB5.trans hx9
   replace ho5 := ho5.ext hx9
   have hs9 := hx9.size
   refine wpTreeR_one rfl rfl (fun K hK => ?_)
   go_wp2_with fail
   have hbn := Blk.alloc v9 #[.slice aU lU cU] 34
   have hx10 := Ext.alloc v9 (.cells #[.slice aU lU cU] 34)
   have hs10 := hx10.size
   refine ⟨.inr (hx10.mono (Nat.le_trans hz0 (Nat.le_trans hs5 hs9))), ?_⟩
   have hB10 : Ext wB _ := hB9.trans hx10
   generalize v9.alloc (.cells #[.slice aU lU cU] 34) = v10 at *
   generalize v9.heap.size = gn at *
   replace ho5 := ho5.ext hx10
   refine wpTreeR_one rfl rfl (fun K hK => ?_)
   refine wpList_appendAll (v := u5) (vx := .slice (some ⟨gn, 0, none⟩) 1 1) elRows rfl _ _ rfl rfl rfl ho5 (raw_one rfl hbn) (by intro u hu; simp only [List.mem_cons, List.not_mem_nil, or_false] at hu; subst hu; rfl) (by omega) HLN.out.1 HLN.out.2 ?_; intro u11 v11 ho11 hb11; replace ho11 := ocel_snoc (enc := encV) (x := Value.slice aU lU cU) ho11; obtain ⟨a11, c11, hv11, _⟩ := (Cel.own encV_len ho11).open_; rw [List.length_append, List.length_singleton] at hv11; subst hv11
   go_wp2_with fail
   have hx11 : Below W2.heap.size v10 v11 := hb11.mono hz0
   refine ⟨.inr hx11, ?_⟩
   have hB11 : Ext wB v11 := Below.trans hB10 (hb11.mono hBW0.size)
   have hg11 := hgB.ext hB11
   have z6 := hg11.frozen 6
   have y6 := hg11.cell (i := 6) rfl
   iterate 2 (refine wpTreeR_look rfl (fun K hK => ?_); go_simp; first | (refine hK _ ?_; clear hK K) | (refine ⟨_, fun _ => rfl, hK _ ?_⟩; clear hK K))
   refine wpTreeR_one rfl rfl (fun K hK => ?_)
   go_wp2_with fail
   refine ⟨.inl (by simp), ?_⟩
   refine wpTreeR_done ?_
   have hgF := hg11.set 6 (.slice a11 (us.length + 1) c11)
   have hEF := ExtX.set v11 g 6 (.slice a11 (us.length + 1) c11)
   generalize World.setCell v11 ⟨g, 6, none⟩ _ = wF at *
   have hEw : ExtX (one g) w wF := ((hX.trans hB11).toX _).trans hEF
   go_wp2_with fail
   go_ret
   have hk := hole_keep h0.hSg hEw
   have hk2 := hole_keep h0.hSg hEF
   refine ⟨rfl, hEw, ⟨vkn, vgr, vb, vw, vs, .slice a11 (us.length + 1) c11, vo⟩, hgF, h0.hs.kn.sub hk, h0.hs.gr.sub hk, h0.hs.base.sub hk, h0.hs.words.sub hk, h0.hs.slate.sub hk, Rows.of_cel ((Cel.own encV_len (OCel.hole ho11 (S := S) (fun k hk => by have := h0.hSl k hk; have := hwW0.size; omega))).sub hk2) (AllInts.snoc (HU.out.sub hk) (HLU.out.sub hk)), h0.hs.orders.sub hk⟩
end Go.Proofs.YtpmlcfgbfhgpgaaGreatDoor
/- end of a school: steps till there is none. -/
namespace Go.Proofs.YtpmlcfgbfhgpgaaGreatDoor
open Go.RowKit Go.Shelf
set_option linter.unusedVariables false
theorem RAdv.more {S : Nat → Bool} {g : Nat} {y : St} {k k' : Int} {w w1 w2 : World} {e e' : Ending} (h : RAdv S g (y, k) w e w1) (hx : Ext w1 w2) (he : e' = .returned (errV k')) : RAdv S g (y, k') w e' w2 := by
 obtain ⟨_, h2, v', h3, h4⟩ := h
 exact ⟨he, h2.trans (hx.toX _), v', h3.ext hx, h4.ext (hx.hole S)⟩
theorem RAdv.fromX {S : Nat → Bool} {g : Nat} {r : St × Int} {w W w' : World} {e : Ending} (hx : ExtX (one g) w W) (h : RAdv S g r W e w') : RAdv S g r w e w' := ⟨h.1, hx.trans h.2.1, h.2.2⟩
theorem endS_succ (s : List Rul) (n : Nat) (x : St) : endS s (n + 1) x = if (advS s x).2 = 0 then endS s n (advS s x).1 else if (advS s x).2 = 6 then (x, 0) else (x, (advS s x).2) := rfl
set_option maxHeartbeats 8000000 in
set_option maxRecDepth 100000 in
theorem exec_end_c {S : Nat → Bool} {b g : Nat} {rv : Value} {v : SV} {x : St} {s : List Rul} {w : World} (h : Sch S b g rv v x s w) (hT : ErrT w) (h0g : g ≠ 0) (hh : x.has = true) (aw : Option Addr) (nw cw : Nat) :
  Calls Tryz.prog 102 #[.pointer (some ⟨b, 0, none⟩), .pointer (some ⟨g, 0, none⟩), .agg #[.int .i64 5, .int .i64 0, .slice aw nw cw]] w (RAdv S g (endS s 61 x) w) := by
 obtain ⟨wB, hwB, hX, hb4, hb5⟩ := exec_boxes w g 5 0 (.slice aw nw cw)
 have H := h.ext hX
 have HWB := Lib.hid hwB; clear hwB
 have HT := Lib.hid (hT.ext hX)
 have hn4 : w.heap.size ≠ g := fun e => by have := h.hg.lt; omega
 have HH := Lib.hid hh
 have g2 := H.hg.cell (i := 2) rfl
 rw [hh] at g2
 clear h hh hT
 go_enter Tryz.func102, Tryz.ntmps102
 go_upto_region 1 with fail
 rw [← HWB.out]
 have k4 := hb4.cell (i := 0) rfl
 have k50 := hb5.cell (i := 0) rfl
 have k51 := hb5.cell (i := 1) rfl
 have k52 := hb5.cell (i := 2) rfl
 generalize w.heap.size = g4 at *
 go_wp2_with fail
 go_loopg [7] 61 (fun m p wr => ∃ (y : St) (vy : SV), Sch S b g rv vy y s wr ∧ ExtX (one g) wB wr ∧ Hid (y.has = true ∧ endS s m y = endS s 61 x ∧ 61 ≤ y.slate.length + m))
 case atStart => exact ⟨x, v, H, ExtX.refl _ _, Lib.hid ⟨HH.out, rfl, by omega⟩⟩
 case round =>
  obtain ⟨y, vy, hY, hE, hH⟩ := hrel
  have hsl := hY.hI.slen
  obtain ⟨m, rfl⟩ : ∃ m, gk = m + 1 := ⟨gk - 1, by have := hH.out.2.2; omega⟩
  have HAD := Lib.hid (advance_c b rv g vy y s S wr hY.hSg hY.hSl hY.hb hY.hbg hY.hr hY.hg hY.hs hY.hI hH.out.1)
  have kk4 := (hb4.extX hE hn4).cell (i := 0) rfl
  have HET := Lib.hid (hE.cell HT.out (fun e => h0g e.symm))
  have HY := Lib.hid hY; clear hY hsl
  rcases adv_cases s y with ⟨hc, e⟩ | ⟨c, hc, h60, e⟩ | ⟨c, hc, h60, e⟩
  ·have HR : Hid (endS s 61 x = (y, 0)) := Lib.hid (by rw [← hH.out.2.1, endS_succ, e]; rfl)
   rw [e] at HAD
   clear e hc
   go_wp2_with fail
   refine HAD.out.mono ?_; rintro e w1 h1
   have he := h1.1
   subst he
   have hT1 : ErrT w1 := h1.2.1.cell HET.out (fun e => h0g e.symm)
   go_wp2_with fail
   refine (reason_c 6 w1 hT1).mono ?_; rintro e w2 ⟨rfl, hx2⟩
   go_wp2_with fail
   go_ret
   rw [HR.out]
   exact ((h1.more hx2 rfl).fromX hE).from hX
  ·have HR : Hid (endS s 61 x = (y, 3)) := Lib.hid (by rw [← hH.out.2.1, endS_succ, e]; rfl)
   rw [e] at HAD
   clear e hc h60
   go_wp2_with fail
   refine HAD.out.mono ?_; rintro e w1 h1
   have he := h1.1
   subst he
   have hT1 : ErrT w1 := h1.2.1.cell HET.out (fun e => h0g e.symm)
   go_wp2_with fail
   refine (reason_c 3 w1 hT1).mono ?_; rintro e w2 ⟨rfl, hx2⟩
   go_wp2_with fail
   go_ret
   rw [HR.out]
   exact ((h1.more hx2 rfl).fromX hE).from hX
  ·have hI2 := HY.out.hI.stepTo hH.out.1 hc h60
   have HR : Hid (endS s m (stepTo s y c) = endS s 61 x) := Lib.hid (by rw [← hH.out.2.1, endS_succ, e]; rfl)
   rw [e] at HAD
   have HI2 := Lib.hid hI2
   clear e hc h60 hI2
   go_wp2_with fail
   refine HAD.out.mono ?_; rintro e w1 h1
   have he := h1.1
   subst he
   have hT1 : ErrT w1 := h1.2.1.cell HET.out (fun e => h0g e.symm)
   go_wp2_with fail
   refine (reason_c 0 w1 hT1).mono ?_; rintro e w2 ⟨rfl, hx2⟩
   go_wp2_with fail
   go_roundg m
   case measure => omega
   case rel =>
    obtain ⟨v', hv'⟩ := HY.out.adv h1 HI2.out
    refine ⟨stepTo s y c, v', hv'.ext hx2, hE.trans (h1.2.1.trans (hx2.toX _)), Lib.hid ⟨hH.out.1, HR.out, ?_⟩⟩
    have := hH.out.2.2
    show 61 ≤ (y.slate ++ [c]).length + m
    simp; omega
end Go.Proofs.YtpmlcfgbfhgpgaaGreatDoor
/- An order of a school: do. -/
namespace Go.Proofs.YtpmlcfgbfhgpgaaGreatDoor
open Go.RowKit Go.Shelf
set_option linter.unusedVariables false
theorem exec_c {S : Nat → Bool} {b g : Nat} {rv : Value} {v : SV} {x : St} {s : List Rul} {w : World} (h : Sch S b g rv v x s w) (hT : ErrT w) (h0g : g ≠ 0) (hf : x.forms.length ≤ 1000) (c : Cmd) (aw : Option Addr) (nw cw : Nat) (hw : Ints (hole S w) (.slice aw nw cw) (wordC c)) :
  Calls Tryz.prog 102 #[.pointer (some ⟨b, 0, none⟩), .pointer (some ⟨g, 0, none⟩), .agg #[.int .i64 (kindC c), .int .i64 (numC c), .slice aw nw cw]] w (RAdv S g (execS s x c) w) := by
 cases c with
 | learn n => exact exec_learn_c h n aw nw cw
 | forget n => exact exec_forget_c h n aw nw cw
 | change n => exact exec_change_c h n aw nw cw
 | read l => exact exec_read_c h l aw nw cw hw
 | step =>
  by_cases hh : x.has = true
  ·rw [show execS s x .step = advS s x by simp only [execS]; rw [if_pos hh]]; exact exec_step_c h hh aw nw cw
  ·rw [show execS s x .step = (x, 8) by simp only [execS]; rw [if_neg hh]]; exact exec_not_c h (by simpa using hh) 4 (.inl rfl) aw nw cw
 | fin =>
  by_cases hh : x.has = true
  ·rw [show execS s x .fin = endS s 61 x by simp only [execS]; rw [if_pos hh]]; exact exec_end_c h hT h0g hh aw nw cw
  ·rw [show execS s x .fin = (x, 8) by simp only [execS]; rw [if_neg hh]]; exact exec_not_c h (by simpa using hh) 5 (.inr (.inl rfl)) aw nw cw
 | undo =>
  by_cases hh : x.has = true
  ·exact exec_undo_c h hh aw nw cw
  ·rw [show execS s x .undo = (x, 8) by simp only [execS]; rw [if_neg hh]]; exact exec_not_c h (by simpa using hh) 6 (.inr (.inr (.inl rfl))) aw nw cw
 | say =>
  by_cases hh : x.has = true
  ·exact exec_say_c h hh hf aw nw cw
  ·rw [show execS s x .say = (x, 8) by simp only [execS]; rw [if_neg hh]]; exact exec_not_c h (by simpa using hh) 7 (.inr (.inr (.inr rfl))) aw nw cw
theorem pow_at : Tryz.prog.globalNamed "internal/strconv.uint64pow10" = some 2 := by kernel_rfl
theorem Env.extX {w w' : World} {b : Nat} (h : Env w) (hx : ExtX (one b) w w') (hb : 7 ≤ b) : Env w' := by
 obtain ⟨h1, ⟨t, p, h2⟩, ⟨t2, p2, h3⟩⟩ := h
 refine ⟨?_, ⟨t, p, hx.cell h2 (by dsimp only; omega)⟩, ⟨t2, p2, hx.cell h3 (by dsimp only; omega)⟩⟩
 unfold Lib.TabIs World.var? at *
 rw [pow_at] at h1 ⊢
 simp only [Option.bind_some] at h1 ⊢
 rcases Nat.lt_or_ge 2 w.heap.size with hl | hl
 ·rw [hx.block 2 hl (by simp [one]; omega)]; exact h1
 ·rw [Array.getElem?_eq_none hl] at h1; cases h1
theorem ErrT.extX {w w' : World} {b : Nat} (h : ErrT w) (hx : ExtX (one b) w w') (hb : 7 ≤ b) : ErrT w' := hx.cell h (by dsimp only; omega)
structure SchB (S : Nat → Bool) (b : Nat) (m0 m1 rv : Value) (v : SV) (x : St) (s : List Rul) (w : World) : Prop where
 hSb : S b = true
 hSl : ∀ k, S k = true → k < w.heap.size
 hb : Blk w b 108 (m0 :: m1 :: rv :: v.cells x)
 hr : Ruls (hole S w) rv s
 hs : StR (hole S w) v x
 hI : Inv s x
theorem SchB.ext {S : Nat → Bool} {b : Nat} {m0 m1 rv : Value} {v : SV} {x : St} {s : List Rul} {w w' : World} (h : SchB S b m0 m1 rv v x s w) (hx : Ext w w') : SchB S b m0 m1 rv v x s w' :=
 ⟨h.hSb, fun k hk => Nat.lt_of_lt_of_le (h.hSl k hk) hx.size, h.hb.ext hx, h.hr.ext (hx.hole S), h.hs.ext (hx.hole S), h.hI⟩
def RDo (S : Nat → Bool) (b : Nat) (m0 m1 rv : Value) (s : List Rul) (r : St × Int) (w : World) (e : Ending) (w' : World) : Prop :=
 e = .returned (errV r.2) ∧ ExtX (one b) w w' ∧ ∃ v', SchB S b m0 m1 rv v' r.1 s w'
def more (S : Nat → Bool) (g k : Nat) : Bool := S k || k == g
theorem more_self (S : Nat → Bool) (g : Nat) : more S g g = true := by simp [more]
theorem more_in {S : Nat → Bool} {g k : Nat} (h : S k = true) : more S g k = true := by simp [more, h]
theorem more_or {S : Nat → Bool} {g k : Nat} (h : more S g k = true) : S k = true ∨ k = g := by simpa [more] using h
theorem hole_mono {S S2 : Nat → Bool} (h : ∀ k, S k = true → S2 k = true) (w : World) : Sub (hole S2 w) (hole S w) := by
 intro a v hv
 obtain ⟨h1, h2⟩ := hole_cell hv
 have hs : S a.block = false := by
  cases e : S a.block
  ·rfl
  ·rw [h _ e] at h2; cases h2
 unfold World.cell? at h1 ⊢
 rw [hole_block S w hs]; exact h1
theorem hole_more {S : Nat → Bool} {g : Nat} {w w' : World} (hx : Ext w w') (hg : w.heap.size ≤ g) : Ext (hole S w) (hole (more S g) w') :=
 (hx.toX (fun _ => false)).hole (fun k hk => by cases hk) (fun k hk => more_in hk) (fun k hk => by
  rcases more_or hk with h | h
  ·exact .inl h
  ·exact .inr (by omega))
theorem SV.lit {w : World} {v : SV} {x : St} (h : StR w v x) : ∃ a0 c0 a1 c1 a2 c2 a3 c3 a4 c4 a5 c5 a6 c6, v = ⟨.slice a0 x.kn.length c0, .slice a1 x.gr.length c1, .slice a2 x.base.length c2, .slice a3 x.words.length c3, .slice a4 x.slate.length c4, .slice a5 x.forms.length c5, .slice a6 x.orders.length c6⟩ := by
 obtain ⟨a0, c0, h0, _⟩ := h.kn.open_
 obtain ⟨a1, c1, h1, _⟩ := h.gr.open_
 obtain ⟨a2, c2, h2, _⟩ := h.base.open_
 obtain ⟨a3, c3, h3, _⟩ := Sl.open_ h.words
 obtain ⟨a4, c4, h4, _⟩ := h.slate.open_
 obtain ⟨a5, c5, h5, _⟩ := Sl.open_ h.forms
 obtain ⟨a6, c6, h6, _⟩ := h.orders.open_
 refine ⟨a0, c0, a1, c1, a2, c2, a3, c3, a4, c4, a5, c5, a6, c6, ?_⟩
 cases v
 simp only at h0 h1 h2 h3 h4 h5 h6
 rw [h0, h1, h2, h3, h4, h5, h6]
theorem store_state {w : World} {b : Nat} {m0 m1 rv o0 o1 o2 o3 o4 o5 o6 o7 : Value} (h : Blk w b 108 [m0, m1, rv, o0, o1, o2, o3, o4, o5, o6, o7]) (a0 a1 a2 a3 a4 a5 a6 a7 : Value) :
  Blk ((((((((w.setCell ⟨b, 3, none⟩ a0).setCell ⟨b, 4, none⟩ a1).setCell ⟨b, 5, none⟩ a2).setCell ⟨b, 6, none⟩ a3).setCell ⟨b, 7, none⟩ a4).setCell ⟨b, 8, none⟩ a5).setCell ⟨b, 9, none⟩ a6).setCell ⟨b, 10, none⟩ a7) b 108 [m0, m1, rv, a0, a1, a2, a3, a4, a5, a6, a7] ∧
  ExtX (one b) w ((((((((w.setCell ⟨b, 3, none⟩ a0).setCell ⟨b, 4, none⟩ a1).setCell ⟨b, 5, none⟩ a2).setCell ⟨b, 6, none⟩ a3).setCell ⟨b, 7, none⟩ a4).setCell ⟨b, 8, none⟩ a5).setCell ⟨b, 9, none⟩ a6).setCell ⟨b, 10, none⟩ a7) :=
 ⟨(((((((h.set 3 a0).set 4 a1).set 5 a2).set 6 a3).set 7 a4).set 8 a5).set 9 a6).set 10 a7,
  (((((((ExtX.set w b 3 a0).trans (ExtX.set _ b 4 a1)).trans (ExtX.set _ b 5 a2)).trans (ExtX.set _ b 6 a3)).trans (ExtX.set _ b 7 a4)).trans (ExtX.set _ b 8 a5)).trans (ExtX.set _ b 9 a6)).trans (ExtX.set _ b 10 a7)⟩
theorem do_none {s : List Rul} {x : St} {t : ByteArray} (h : parseB t.data.toList = none) : doS s x t = (x, 2) := by unfold doS; rw [h]
theorem do_large {s : List Rul} {x : St} {t : ByteArray} {c : Cmd} (h : parseB t.data.toList = some c) (h1 : 100 ≤ x.orders.length) : doS s x t = (x, 3) := by unfold doS; rw [h]; simp only; rw [if_pos h1]
theorem do_fail {s : List Rul} {x : St} {t : ByteArray} {c : Cmd} (h : parseB t.data.toList = some c) (h1 : ¬ 100 ≤ x.orders.length) (h2 : (execS s x c).2 ≠ 0) : doS s x t = (x, (execS s x c).2) := by unfold doS; rw [h]; simp only; rw [if_neg h1, if_neg h2]
theorem do_good {s : List Rul} {x : St} {t : ByteArray} {c : Cmd} (h : parseB t.data.toList = some c) (h1 : ¬ 100 ≤ x.orders.length) (h2 : (execS s x c).2 = 0) : doS s x t = ({ (execS s x c).1 with orders := x.orders ++ [t] }, 0) := by unfold doS; rw [h]; simp only; rw [if_neg h1, if_pos h2]
set_option maxHeartbeats 8000000 in
set_option maxRecDepth 100000 in
theorem do_c {S : Nat → Bool} {b : Nat} {m0 m1 rv : Value} {v : SV} {x : St} {s : List Rul} {w : World} (h : SchB S b m0 m1 rv v x s w) (hE : Env w) (hT : ErrT w) (hb7 : 7 ≤ b) (t : ByteArray) :
  Calls Tryz.prog 67 #[.pointer (some ⟨b, 0, none⟩), .string t] w (RDo S b m0 m1 rv s (doS s x t) w) := by
 have HP := Lib.hid (parse_c t w hE)
 have H := Lib.hid h
 cases hp : parseB (txt t) with
 | none =>
  rw [do_none hp]
  rw [hp] at HP
  clear hp h hE hT
  go_enter Tryz.func67, Tryz.ntmps67
  go_wp2_with fail
  refine HP.out.mono ?_; rintro e w1 ⟨hx1, he⟩
  simp only at he
  subst he
  go_wp2_with fail
  go_ret
  have hX := hx1.trans (Ext.alloc w1 (.cells #[.int .i64 0, .int .i64 0, .slice none 0 0] 148))
  exact ⟨errV_ret (by decide), hX.toX _, v, H.out.ext hX⟩
 | some c =>
  rw [hp] at HP
  obtain ⟨ao, co, hvo, _⟩ := h.hs.orders.open_
  by_cases h100 : 100 ≤ x.orders.length
  ·rw [do_large hp h100]
   have hl1 : (100 : Int) ≤ (x.orders.length : Int) := by omega
   have hbo := h.hb
   clear hp h hE hT h100
   go_enter Tryz.func67, Tryz.ntmps67
   go_wp2_with fail
   refine HP.out.mono ?_; rintro e w1 ⟨hx1, u1, he, ho1⟩
   obtain ⟨a1, c1, hu1, _⟩ := ho1.ints.open_
   subst hu1
   subst he
   go_upto_region 4 with fail
   have hX := hx1.trans (Ext.alloc w1 (.cells #[.int .i64 (kindC c), .int .i64 (numC c), .slice a1 (wordC c).length c1] 148))
   generalize w1.alloc (.cells #[.int .i64 (kindC c), .int .i64 (numC c), .slice a1 (wordC c).length c1] 148) = wC at *
   have b10 := (hbo.ext hX).cell (i := 10) (v := v.orders) rfl
   rw [hvo] at b10
   go_wp2_with fail
   go_ret
   exact ⟨errV_ret (by decide), hX.toX _, v, H.out.ext hX⟩
  ·clear hvo
   have hl1 : ¬ (100 : Int) ≤ (x.orders.length : Int) := by omega
   obtain ⟨hi1, hi2, hi3⟩ := exec_inv h.hI.toInvE c (parse_ok hp)
   have HI1 := Lib.hid hi1
   have HI2 := Lib.hid hi2
   have HOL : Hid (x.orders.length ≤ 100) := Lib.hid (by omega)
   have HFL : Hid (x.forms.length ≤ 1000) := Lib.hid (by have := h.hI.formsL; omega)
   have HDI := Lib.hid (do_inv h.hI t)
   have hbo := h.hb
   have HT := Lib.hid hT
   obtain ⟨b0, d0, b1, d1, b2, d2, b3, d3, b4, d4, b5, d5, b6, d6, hvl⟩ := SV.lit h.hs
   by_cases hk : (execS s x c).2 = 0
   ·rw [do_good hp h100 hk] at HDI ⊢
    have HEX : Hid (∀ (g : Nat) (wG : World) (aw : Option Addr) (nw cw : Nat), Sch (more S g) b g rv v x s wG → ErrT wG → g ≠ 0 → Ints (hole (more S g) wG) (.slice aw nw cw) (wordC c) →
     Calls Tryz.prog 102 #[.pointer (some ⟨b, 0, none⟩), .pointer (some ⟨g, 0, none⟩), .agg #[.int .i64 (kindC c), .int .i64 (numC c), .slice aw nw cw]] wG (RAdv (more S g) g ((execS s x c).1, 0) wG)) :=
     Lib.hid fun g wG aw nw cw h1 h2 h3 h4 => by
      have := exec_c h1 h2 h3 HFL.out c aw nw cw h4
      rwa [show execS s x c = ((execS s x c).1, 0) by rw [← hk]] at this
    have HYO : Hid ((execS s x c).1.orders = x.orders) := Lib.hid hi2
    have hIE := h.hI.toInvE
    clear hp h hE hT h100 hi1 hi2 hi3 hk HI1 HI2
    generalize (execS s x c).1 = y at *
    subst hvl
    simp only [SV.cells] at hbo
    go_enter Tryz.func67, Tryz.ntmps67
    go_wp2_with fail
    refine HP.out.mono ?_; rintro e w1 ⟨hx1, u1, he, ho1⟩
    obtain ⟨a1, c1, hu1, _⟩ := ho1.ints.open_
    subst hu1
    subst he
    go_upto_region 4 with fail
    have hbC := Blk.alloc w1 #[.int .i64 (kindC c), .int .i64 (numC c), .slice a1 (wordC c).length c1] 148
    have hX := hx1.trans (Ext.alloc w1 (.cells #[.int .i64 (kindC c), .int .i64 (numC c), .slice a1 (wordC c).length c1] 148))
    have hx1C := Ext.alloc w1 (.cells #[.int .i64 (kindC c), .int .i64 (numC c), .slice a1 (wordC c).length c1] 148)
    generalize w1.alloc (.cells #[.int .i64 (kindC c), .int .i64 (numC c), .slice a1 (wordC c).length c1] 148) = wC at *
    have hbo2 := hbo.ext hX
    have q3 := hbo2.cell (i := 3) rfl
    have q4 := hbo2.cell (i := 4) rfl
    have q5 := hbo2.cell (i := 5) rfl
    have q6 := hbo2.cell (i := 6) rfl
    have q7 := hbo2.cell (i := 7) rfl
    have q8 := hbo2.cell (i := 8) rfl
    have q9 := hbo2.cell (i := 9) rfl
    have q10 := hbo2.cell (i := 10) rfl
    go_upto_region 7 with fail
    have hbG := Blk.alloc wC #[.slice b0 x.kn.length d0, .slice b1 x.gr.length d1, .bool x.has, .slice b2 x.base.length d2, .slice b3 x.words.length d3, .slice b4 x.slate.length d4, .slice b5 x.forms.length d5, .slice b6 x.orders.length d6] 106
    have hxG := Ext.alloc wC (.cells #[.slice b0 x.kn.length d0, .slice b1 x.gr.length d1, .bool x.has, .slice b2 x.base.length d2, .slice b3 x.words.length d3, .slice b4 x.slate.length d4, .slice b5 x.forms.length d5, .slice b6 x.orders.length d6] 106)
    generalize wC.alloc (.cells #[.slice b0 x.kn.length d0, .slice b1 x.gr.length d1, .bool x.has, .slice b2 x.base.length d2, .slice b3 x.words.length d3, .slice b4 x.slate.length d4, .slice b5 x.forms.length d5, .slice b6 x.orders.length d6] 106) = wG at *
    have hX2 := hX.trans hxG
    have hgS := hX.size
    have hg1 := hx1C.size
    have hgG := hbG.lt
    generalize wC.heap.size = g at *
    have hbg : b ≠ g := fun e => by have := hbo.lt; omega
    have hSch : Sch (more S g) b g rv ⟨.slice b0 x.kn.length d0, .slice b1 x.gr.length d1, .slice b2 x.base.length d2, .slice b3 x.words.length d3, .slice b4 x.slate.length d4, .slice b5 x.forms.length d5, .slice b6 x.orders.length d6⟩ x s wG := ⟨more_self S g, fun k hk => by
      rcases more_or hk with hk | hk
      ·exact Nat.lt_of_lt_of_le (H.out.hSl k hk) hX2.size
      ·omega, (hbo2.ext hxG).cell (i := 2) rfl, hbg, H.out.hr.ext (hole_more hX2 hgS), hbG, H.out.hs.ext (hole_more hX2 hgS), hIE⟩
    have hwI : Ints (hole (more S g) wG) (.slice a1 (wordC c).length c1) (wordC c) := ((OInts.hole ho1 (S := S) (fun k hk => H.out.hSl k hk)).ints).ext (hole_more (hx1C.trans hxG) hg1)
    have HCALL := Lib.hid (HEX.out g wG a1 _ c1 hSch (HT.out.ext hX2) (by have := hbo.lt; omega) hwI)
    have kC0 := (hbC.ext hxG).cell (i := 0) rfl
    have kC1 := (hbC.ext hxG).cell (i := 1) rfl
    have kC2 := (hbC.ext hxG).cell (i := 2) rfl
    clear hwI
    go_wp2_with fail
    refine HCALL.out.mono ?_; rintro e w4 ⟨he, hE4, v4, hb4, hs4⟩
    simp only [errV_zero] at he
    subst he
    obtain ⟨e0, f0, e1, f1, e2, f2, e3, f3, e4, f4, e5, f5, e6, f6, hvl4⟩ := SV.lit hs4
    subst hvl4
    simp only [SV.cells] at hb4
    have r7 := hb4.cell (i := 7) rfl
    have HCO := Lib.hid (cloneStrs_c _ y.orders w4 (hs4.orders.sub (hole_sub _ _)) (by rw [HYO.out]; have := HOL.out; omega))
    have HLN : Hid ((y.orders.length + 1) * 16 ≤ 140737488355328 ∧ y.orders.length + 1 ≤ 9223372036854775807) := Lib.hid (by rw [HYO.out]; have := HOL.out; omega)
    go_wp2_with fail
    refine HCO.out.mono ?_; rintro e w5 ⟨u5, rfl, ho5, hx5⟩
    have hs5 := hx5.size
    go_upto_region 11 with (at_builtin; refine wpList_appendS (enc := encT) (L := y.orders) t elStr rfl _ _ rfl rfl rfl ho5 rfl rfl rfl (by intro u hu; simp only [encT, List.mem_cons, List.not_mem_nil, or_false] at hu; subst hu; rfl) hs5 HLN.out.1 HLN.out.2 ?_; intro u6 w6 ho6 hb6 _ _; obtain ⟨a6, c6, hu6, _⟩ := (Cel.own encT_len ho6).open_; rw [List.length_append, List.length_singleton] at hu6; subst hu6; have hx6 : Ext w4 w6 := hx5.upto hb6 (Nat.le_refl _); have hg6 := hb4.ext hx6; have z7 := hg6.frozen 7; have y7 := hg6.cell (i := 7) rfl)
    have hx6 : Ext w4 w6 := hx5.upto hb6 (Nat.le_refl _)
    have hg6 := hb4.ext hx6
    have hg7 := hg6.set 7 (.slice a6 (y.orders.length + 1) c6)
    have hE7 := ExtX.set w6 g 7 (.slice a6 (y.orders.length + 1) c6)
    generalize World.setCell w6 ⟨g, 7, none⟩ _ = w7 at *
    have hEg : ExtX (one g) wG w7 := hE4.trans ((hx6.toX _).trans hE7)
    have hbo7 := (hbo2.ext hxG).extX hEg hbg
    have p0 := hg7.cell (i := 0) rfl
    have p1 := hg7.cell (i := 1) rfl
    have p2 := hg7.cell (i := 2) rfl
    have p3 := hg7.cell (i := 3) rfl
    have p4 := hg7.cell (i := 4) rfl
    have p5 := hg7.cell (i := 5) rfl
    have p6 := hg7.cell (i := 6) rfl
    have p7 := hg7.cell (i := 7) rfl
    have y3 := hbo7.cell (i := 3) rfl
    have z3 := hbo7.frozen 3
    have y4 := hbo7.cell (i := 4) rfl
    have z4 := hbo7.frozen 4
    have y5 := hbo7.cell (i := 5) rfl
    have z5 := hbo7.frozen 5
    have y6 := hbo7.cell (i := 6) rfl
    have z6 := hbo7.frozen 6
    have y7 := hbo7.cell (i := 7) rfl
    have z7 := hbo7.frozen 7
    have y8 := hbo7.cell (i := 8) rfl
    have z8 := hbo7.frozen 8
    have y9 := hbo7.cell (i := 9) rfl
    have z9 := hbo7.frozen 9
    have y10 := hbo7.cell (i := 10) rfl
    have z10 := hbo7.frozen 10
    go_wp2_with fail
    go_ret
    obtain ⟨hB8, hE8⟩ := store_state hbo7 (.slice e0 y.kn.length f0) (.slice e1 y.gr.length f1) (.bool y.has) (.slice e2 y.base.length f2) (.slice e3 y.words.length f3) (.slice e4 y.slate.length f4) (.slice e5 y.forms.length f5) (.slice a6 (y.orders.length + 1) c6)
    have hXw7 : Ext w w7 := ((hX2.toX (one g)).trans hEg).ext (fun k hk => by simp [one]; omega)
    have hEw := (hXw7.toX (one b)).trans hE8
    have k1 := ((hole_keep (more_self S g) ((hx6.toX _).trans hE7)).trans (hole_mono (fun k hk => more_in hk) w7)).trans (hole_keep H.out.hSb hE8)
    have k2 := ((hole_keep (more_self S g) hE7).trans (hole_mono (fun k hk => more_in hk) w7)).trans (hole_keep H.out.hSb hE8)
    refine ⟨rfl, hEw, ⟨.slice e0 y.kn.length f0, .slice e1 y.gr.length f1, .slice e2 y.base.length f2, .slice e3 y.words.length f3, .slice e4 y.slate.length f4, .slice e5 y.forms.length f5, .slice a6 (y.orders.length + 1) c6⟩, H.out.hSb, fun k hk => Nat.lt_of_lt_of_le (H.out.hSl k hk) hEw.size, hB8, H.out.hr.sub (hole_keep H.out.hSb hEw), ?_, HDI.out⟩
    refine ⟨hs4.kn.sub k1, hs4.gr.sub k1, hs4.base.sub k1, hs4.words.sub k1, hs4.slate.sub k1, hs4.forms.sub k1, ?_⟩
    show Strs _ _ (x.orders ++ [t])
    rw [← HYO.out]
    exact (Cel.own encT_len (OCel.hole ho6 (S := more S g) (fun k hk => by
     have hz4 := hE4.size
     rcases more_or hk with hk | hk
     ·have := H.out.hSl k hk; have := hX2.size; omega
     ·omega))).sub k2
   ·rw [do_fail hp h100 hk] at HDI ⊢
    have HEX : Hid (∀ (g : Nat) (wG : World) (aw : Option Addr) (nw cw : Nat), Sch (more S g) b g rv v x s wG → ErrT wG → g ≠ 0 → Ints (hole (more S g) wG) (.slice aw nw cw) (wordC c) →
     Calls Tryz.prog 102 #[.pointer (some ⟨b, 0, none⟩), .pointer (some ⟨g, 0, none⟩), .agg #[.int .i64 (kindC c), .int .i64 (numC c), .slice aw nw cw]] wG (RAdv (more S g) g (execS s x c) wG)) :=
     Lib.hid fun g wG aw nw cw h1 h2 h3 h4 => exec_c h1 h2 h3 HFL.out c aw nw cw h4
    have hIE := h.hI.toInvE
    clear hp h hE hT h100 hi1 hi2 hi3 HI1 HI2
    generalize execS s x c = R at *
    have HK := Lib.hid hk; clear hk
    subst hvl
    simp only [SV.cells] at hbo
    go_enter Tryz.func67, Tryz.ntmps67
    go_wp2_with fail
    refine HP.out.mono ?_; rintro e w1 ⟨hx1, u1, he, ho1⟩
    obtain ⟨a1, c1, hu1, _⟩ := ho1.ints.open_
    subst hu1
    subst he
    go_upto_region 4 with fail
    have hbC := Blk.alloc w1 #[.int .i64 (kindC c), .int .i64 (numC c), .slice a1 (wordC c).length c1] 148
    have hX := hx1.trans (Ext.alloc w1 (.cells #[.int .i64 (kindC c), .int .i64 (numC c), .slice a1 (wordC c).length c1] 148))
    have hx1C := Ext.alloc w1 (.cells #[.int .i64 (kindC c), .int .i64 (numC c), .slice a1 (wordC c).length c1] 148)
    generalize w1.alloc (.cells #[.int .i64 (kindC c), .int .i64 (numC c), .slice a1 (wordC c).length c1] 148) = wC at *
    have hbo2 := hbo.ext hX
    have q3 := hbo2.cell (i := 3) rfl
    have q4 := hbo2.cell (i := 4) rfl
    have q5 := hbo2.cell (i := 5) rfl
    have q6 := hbo2.cell (i := 6) rfl
    have q7 := hbo2.cell (i := 7) rfl
    have q8 := hbo2.cell (i := 8) rfl
    have q9 := hbo2.cell (i := 9) rfl
    have q10 := hbo2.cell (i := 10) rfl
    go_upto_region 7 with fail
    have hbG := Blk.alloc wC #[.slice b0 x.kn.length d0, .slice b1 x.gr.length d1, .bool x.has, .slice b2 x.base.length d2, .slice b3 x.words.length d3, .slice b4 x.slate.length d4, .slice b5 x.forms.length d5, .slice b6 x.orders.length d6] 106
    have hxG := Ext.alloc wC (.cells #[.slice b0 x.kn.length d0, .slice b1 x.gr.length d1, .bool x.has, .slice b2 x.base.length d2, .slice b3 x.words.length d3, .slice b4 x.slate.length d4, .slice b5 x.forms.length d5, .slice b6 x.orders.length d6] 106)
    generalize wC.alloc (.cells #[.slice b0 x.kn.length d0, .slice b1 x.gr.length d1, .bool x.has, .slice b2 x.base.length d2, .slice b3 x.words.length d3, .slice b4 x.slate.length d4, .slice b5 x.forms.length d5, .slice b6 x.orders.length d6] 106) = wG at *
    have hX2 := hX.trans hxG
    have hgS := hX.size
    have hg1 := hx1C.size
    have hgG := hbG.lt
    generalize wC.heap.size = g at *
    have hbg : b ≠ g := fun e => by have := hbo.lt; omega
    have hSch : Sch (more S g) b g rv ⟨.slice b0 x.kn.length d0, .slice b1 x.gr.length d1, .slice b2 x.base.length d2, .slice b3 x.words.length d3, .slice b4 x.slate.length d4, .slice b5 x.forms.length d5, .slice b6 x.orders.length d6⟩ x s wG := ⟨more_self S g, fun k hk => by
      rcases more_or hk with hk | hk
      ·exact Nat.lt_of_lt_of_le (H.out.hSl k hk) hX2.size
      ·omega, (hbo2.ext hxG).cell (i := 2) rfl, hbg, H.out.hr.ext (hole_more hX2 hgS), hbG, H.out.hs.ext (hole_more hX2 hgS), hIE⟩
    have hwI : Ints (hole (more S g) wG) (.slice a1 (wordC c).length c1) (wordC c) := ((OInts.hole ho1 (S := S) (fun k hk => H.out.hSl k hk)).ints).ext (hole_more (hx1C.trans hxG) hg1)
    have HCALL := Lib.hid (HEX.out g wG a1 _ c1 hSch (HT.out.ext hX2) (by have := hbo.lt; omega) hwI)
    have kC0 := (hbC.ext hxG).cell (i := 0) rfl
    have kC1 := (hbC.ext hxG).cell (i := 1) rfl
    have kC2 := (hbC.ext hxG).cell (i := 2) rfl
    clear hwI
    go_wp2_with fail
    refine HCALL.out.mono ?_; rintro e w4 ⟨he, hE4, v4, hb4, hs4⟩
    rw [errV_pos HK.out] at he
    subst he
    go_wp2_with fail
    go_ret
    have hXw4 : Ext w w4 := ((hX2.toX (one g)).trans hE4).ext (fun k hk => by simp [one]; omega)
    exact ⟨errV_ret HK.out, hXw4.toX _, _, H.out.ext hXw4⟩
end Go.Proofs.YtpmlcfgbfhgpgaaGreatDoor
/- The numbers under which this program holds package sync's Mutex, and that it holds it. -/
namespace Go.Proofs.YtpmlcfgbfhgpgaaGreatDoor
open Go
abbrev muLink : Go.Conc.Locks.MuLink := { lock := 64, unlock := 65, ilock := 98, iunlock := 99, lockSlow := 140, unlockSlow := 143, disable := 136, enable := 138, acquire := 139, relMerge := 141, cas32 := 137, add32 := 142, tMutex := 104, tIMutex := 102, tPMutex := 141, tPIMutex := 186, tPI32 := 188, tUP := 190, tNoCopy := 99, tU32 := 100 }
theorem muLib : Go.Conc.Locks.MuLib Tryz.prog muLink :=
 ⟨Tryz.func64, Tryz.func65, Tryz.func98, Tryz.func99, Tryz.func136, Tryz.func138, Tryz.func139, Tryz.func141, Tryz.func137, Tryz.func142, Tryz.underlying102, Tryz.runUnderlying102, Tryz.sizeOf102, Tryz.isAgg102, Tryz.zeroValue102, Tryz.underlying104, Tryz.runUnderlying104, Tryz.sizeOf104, Tryz.isAgg104, Tryz.zeroValue104, Tryz.underlying141, Tryz.runUnderlying141, Tryz.sizeOf141, Tryz.isAgg141, Tryz.zeroValue141, Tryz.underlying186, Tryz.runUnderlying186, Tryz.sizeOf186, Tryz.isAgg186, Tryz.zeroValue186, Tryz.underlying188, Tryz.runUnderlying188, Tryz.sizeOf188, Tryz.isAgg188, Tryz.zeroValue188, Tryz.underlying190, Tryz.runUnderlying190, Tryz.sizeOf190, Tryz.isAgg190, Tryz.zeroValue190, Tryz.underlying99, Tryz.runUnderlying99, Tryz.sizeOf99, Tryz.isAgg99, Tryz.zeroValue99, Tryz.underlying21, Tryz.runUnderlying21, Tryz.sizeOf21, Tryz.isAgg21, Tryz.zeroValue21, (by kernel_rfl)⟩
end Go.Proofs.YtpmlcfgbfhgpgaaGreatDoor
/- An order of a school under its mutex; looking at it. -/
namespace Go.Proofs.YtpmlcfgbfhgpgaaGreatDoor
open Go.RowKit Go.Shelf Go.MuLone
set_option linter.unusedVariables false
abbrev SchF (S : Nat → Bool) (b : Nat) (m1 rv : Value) (v : SV) (x : St) (s : List Rul) (w : World) : Prop := SchB S b (.int .i32 0) m1 rv v x s w
theorem SchB.lock {S : Nat → Bool} {b : Nat} {m0 m1 rv : Value} {v : SV} {x : St} {s : List Rul} {w : World} (h : SchB S b m0 m1 rv v x s w) (m : Value) : SchB S b m m1 rv v x s (w.setCell ⟨b, 0, none⟩ m) :=
 have hk := hole_keep (w := w) h.hSb (ExtX.set w b 0 m)
 ⟨h.hSb, fun k hk => Nat.lt_of_lt_of_le (h.hSl k hk) (ExtX.set w b 0 m).size, h.hb.set 0 m, h.hr.sub hk, h.hs.sub hk, h.hI⟩
def RDoF (S : Nat → Bool) (b : Nat) (m1 rv : Value) (s : List Rul) (r : St × Int) (w : World) (e : Ending) (w' : World) : Prop :=
 e = .returned (.int .i64 r.2) ∧ ExtX (one b) w w' ∧ ∃ v', SchF S b m1 rv v' r.1 s w'
set_option maxHeartbeats 4000000 in
set_option maxRecDepth 100000 in
theorem DoL_c {S : Nat → Bool} {b : Nat} {m1 rv : Value} {v : SV} {x : St} {s : List Rul} {w : World} (h : SchF S b m1 rv v x s w) (hE : Env w) (hT : ErrT w) (hb7 : 7 ≤ b) (t : ByteArray) :
  Calls Tryz.prog 26 #[.pointer (some ⟨b, 0, none⟩), .string t] w (RDoF S b m1 rv s (doS s x t) w) := by
 have h0 := h.hb.cell (i := 0) rfl
 have f0 := h.hb.frozen 0
 have hx1 := ExtX.set w b 0 (.int .i32 1)
 have HD := Lib.hid (do_c (h.lock (.int .i32 1)) (hE.extX hx1 hb7) (hT.extX hx1 hb7) hb7 t)
 have HX := Lib.hid hx1
 have HT := Lib.hid (hT.extX hx1 hb7)
 generalize doS s x t = R at *
 clear h hE hT hx1
 go_enter_defers Tryz.func26, Tryz.ntmps26
 go_wp2_with fail
 refine (lock_free muLib ⟨b, 0, none⟩ _ h0 f0).mono ?_
 rintro e w1 ⟨rfl, rfl⟩
 go_wp2_with fail
 refine HD.out.mono ?_; rintro e w2 ⟨he, hX2, v', hB⟩
 subst he
 go_wp2_with fail
 refine (reason_c R.2 w2 (HT.out.extX hX2 hb7)).mono ?_; rintro e w3 ⟨rfl, hx3⟩
 go_wp2_with fail
 have hB3 := hB.ext hx3
 refine leaves_cons (f := 65) (args := #[.pointer (some ⟨b, 0, none⟩)]) (by simp) (by simp [go_sem]) ?_
 refine (unlock_deferred muLib ⟨b, 0, none⟩ .returning _ (hB3.hb.cell (i := 0) rfl) (hB3.hb.frozen 0)).mono ?_
 rintro e u' w'' ⟨rfl, rfl, rfl⟩
 exact ⟨_, results_tmp rfl _ _ _, rfl, HX.out.trans (hX2.trans ((hx3.toX _).trans (ExtX.set _ b 0 _))), v', hB3.lock _⟩
theorem Do_c {S : Nat → Bool} {b : Nat} {m1 rv : Value} {v : SV} {x : St} {s : List Rul} {w : World} (h : SchF S b m1 rv v x s w) (hE : Env w) (hT : ErrT w) (hb7 : 7 ≤ b) (t : ByteArray) (ht : t.size ≤ 100000) :
  Calls Tryz.prog 26 #[.pointer (some ⟨b, 0, none⟩), .string t] w (RDoF S b m1 rv s (doS s x t) w) := DoL_c h hE hT hb7 t
theorem ExtX.back {b : Nat} {w w' : World} {ty : TypeId} {l : List Value} (h : ExtX (one b) w w') (h1 : Blk w b ty l) (h2 : Blk w' b ty l) : Ext w w' :=
 ⟨h.os, h.tape, h.output, h.size, fun k hk => by
  by_cases e : k = b
  ·subst e; rw [h2, h1]
  ·exact h.block k hk (by simp [one]; exact e)⟩
theorem store_box {w : World} {g : Nat} {ty : TypeId} {o0 o1 o2 o3 o4 o5 o6 o7 : Value} (h : Blk w g ty [o0, o1, o2, o3, o4, o5, o6, o7]) (a0 a1 a2 a3 a4 a5 a6 a7 : Value) :
  Blk ((((((((w.setCell ⟨g, 0, none⟩ a0).setCell ⟨g, 1, none⟩ a1).setCell ⟨g, 2, none⟩ a2).setCell ⟨g, 3, none⟩ a3).setCell ⟨g, 4, none⟩ a4).setCell ⟨g, 5, none⟩ a5).setCell ⟨g, 6, none⟩ a6).setCell ⟨g, 7, none⟩ a7) g ty [a0, a1, a2, a3, a4, a5, a6, a7] ∧
  ExtX (one g) w ((((((((w.setCell ⟨g, 0, none⟩ a0).setCell ⟨g, 1, none⟩ a1).setCell ⟨g, 2, none⟩ a2).setCell ⟨g, 3, none⟩ a3).setCell ⟨g, 4, none⟩ a4).setCell ⟨g, 5, none⟩ a5).setCell ⟨g, 6, none⟩ a6).setCell ⟨g, 7, none⟩ a7) :=
 ⟨(((((((h.set 0 a0).set 1 a1).set 2 a2).set 3 a3).set 4 a4).set 5 a5).set 6 a6).set 7 a7,
  (((((((ExtX.set w g 0 a0).trans (ExtX.set _ g 1 a1)).trans (ExtX.set _ g 2 a2)).trans (ExtX.set _ g 3 a3)).trans (ExtX.set _ g 4 a4)).trans (ExtX.set _ g 5 a5)).trans (ExtX.set _ g 6 a6)).trans (ExtX.set _ g 7 a7)⟩
set_option maxHeartbeats 4000000 in
set_option maxRecDepth 100000 in
theorem look_c {S : Nat → Bool} {b : Nat} {m1 rv : Value} {v : SV} {x : St} {s : List Rul} {w : World} (h : SchF S b m1 rv v x s w) :
  Calls Tryz.prog 68 #[.pointer (some ⟨b, 0, none⟩)] w (RV (.agg (v.cells x).toArray) w) := by
 obtain ⟨wA, hwA⟩ : ∃ wA, wA = w.alloc (.cells #[.slice none 0 0, .slice none 0 0, .bool false, .slice none 0 0, .slice none 0 0, .slice none 0 0, .slice none 0 0, .slice none 0 0] 106) := ⟨_, rfl⟩
 have hXA : Ext w wA := by rw [hwA]; exact Ext.alloc _ _
 have hbA : Blk wA w.heap.size 106 [.slice none 0 0, .slice none 0 0, .bool false, .slice none 0 0, .slice none 0 0, .slice none 0 0, .slice none 0 0, .slice none 0 0] := by rw [hwA]; exact Blk.alloc _ _ _
 have HWA := Lib.hid hwA; clear hwA
 have hA := h.ext hXA
 obtain ⟨b0, d0, b1, d1, b2, d2, b3, d3, b4, d4, b5, d5, b6, d6, hvl⟩ := SV.lit h.hs
 subst hvl
 have h0 := hA.hb.cell (i := 0) rfl
 have f0 := hA.hb.frozen 0
 have hne : w.heap.size ≠ b := fun e => by have := h.hb.lt; omega
 have hx1 := ExtX.set wA b 0 (.int .i32 1)
 have hB1 := (hA.lock (.int .i32 1)).hb
 have hG1 := hbA.extX hx1 hne
 simp only [SV.cells] at hB1 ⊢
 have HH := Lib.hid h
 clear h hA
 go_enter_defers Tryz.func68, Tryz.ntmps68
 go_wp2_with fail
 rw [← HWA.out]
 refine (lock_free muLib ⟨b, 0, none⟩ _ h0 f0).mono ?_
 rintro e w1 ⟨rfl, rfl⟩
 generalize World.setCell wA ⟨b, 0, none⟩ (.int .i32 1) = w1 at *
 clear h0 f0
 generalize hgz : w.heap.size = g at *
 have HGZ := Lib.hid hgz; clear hgz
 have q0 := hB1.cell (i := 3) rfl
 have q1 := hB1.cell (i := 4) rfl
 have q2 := hB1.cell (i := 5) rfl
 have q3 := hB1.cell (i := 6) rfl
 have q4 := hB1.cell (i := 7) rfl
 have q5 := hB1.cell (i := 8) rfl
 have q6 := hB1.cell (i := 9) rfl
 have q7 := hB1.cell (i := 10) rfl
 have y0 := hG1.cell (i := 0) rfl
 have z0 := hG1.frozen 0
 have y1 := hG1.cell (i := 1) rfl
 have z1 := hG1.frozen 1
 have y2 := hG1.cell (i := 2) rfl
 have z2 := hG1.frozen 2
 have y3 := hG1.cell (i := 3) rfl
 have z3 := hG1.frozen 3
 have y4 := hG1.cell (i := 4) rfl
 have z4 := hG1.frozen 4
 have y5 := hG1.cell (i := 5) rfl
 have z5 := hG1.frozen 5
 have y6 := hG1.cell (i := 6) rfl
 have z6 := hG1.frozen 6
 have y7 := hG1.cell (i := 7) rfl
 have z7 := hG1.frozen 7
 go_wp2_with fail
 obtain ⟨hG2, hE2⟩ := store_box hG1 (.slice b0 x.kn.length d0) (.slice b1 x.gr.length d1) (.bool x.has) (.slice b2 x.base.length d2) (.slice b3 x.words.length d3) (.slice b4 x.slate.length d4) (.slice b5 x.forms.length d5) (.slice b6 x.orders.length d6)
 have hB2 := hB1.extX hE2 (Ne.symm hne)
 generalize World.setCell _ ⟨g, 7, none⟩ _ = w2 at *
 refine leaves_cons (f := 65) (args := #[.pointer (some ⟨b, 0, none⟩)]) (by simp) (by simp [go_sem]) ?_
 refine (unlock_deferred muLib ⟨b, 0, none⟩ .returning _ (hB2.cell (i := 0) rfl) (hB2.frozen 0)).mono ?_
 rintro e u' w'' ⟨rfl, rfl, rfl⟩
 have hB3 := hB2.set 0 (.int .i32 0)
 have hG3 := hG2.extX (ExtX.set w2 b 0 (.int .i32 0)) hne
 have hE3 := ExtX.set w2 b 0 (.int .i32 0)
 generalize World.setCell w2 ⟨b, 0, none⟩ _ = wF at *
 have r0 := hG3.cell (i := 0) rfl
 have r1 := hG3.cell (i := 1) rfl
 have r2 := hG3.cell (i := 2) rfl
 have r3 := hG3.cell (i := 3) rfl
 have r4 := hG3.cell (i := 4) rfl
 have r5 := hG3.cell (i := 5) rfl
 have r6 := hG3.cell (i := 6) rfl
 have r7 := hG3.cell (i := 7) rfl
 have hXF : Ext w wF := by
  refine ExtX.back (b := b) ?_ HH.out.hb hB3
  refine (((hXA.toX (one b)).trans hx1).transN hE2 (fun i hi => .inr ?_)).trans hE3
  simp only [one, beq_iff_eq] at hi
  have := HGZ.out; omega
 exact ⟨_, (by simp [results, Tryz.results68, go_sem, r0, r1, r2, r3, r4, r5, r6, r7]), rfl, hXF⟩
end Go.Proofs.YtpmlcfgbfhgpgaaGreatDoor
/- What a school tells: rules, grounds, base, word, slate, forms, book. -/
namespace Go.Proofs.YtpmlcfgbfhgpgaaGreatDoor
open Go.RowKit Go.Shelf
set_option linter.unusedVariables false
def ROB (l : List Int) (b : Bool) (w : World) (e : Ending) (w' : World) : Prop := ∃ u, e = .returned (.tuple #[u, .bool b]) ∧ OInts 3 w' w.heap.size u l ∧ Ext w w'
theorem OInts.up {e : TypeId} {w : World} {B B' : Nat} {v : Value} {l : List Int} (h : OInts e w B v l) (hB : B' ≤ B) : OInts e w B' v l := OInts.low h hB
theorem fld_kn (k1 k2 k3 k4 k5 k6 k7 : Value) (a : Option Addr) (n c : Nat) (W : World) : (Instr.field 106 (.agg #[.slice a n c, k1, k2, k3, k4, k5, k6, k7]) 0).run Tryz.prog W = .ok (.slice a n c) W := by kernel_rfl
theorem fld_gr (k0 k2 k3 k4 k5 k6 k7 : Value) (a : Option Addr) (n c : Nat) (W : World) : (Instr.field 106 (.agg #[k0, .slice a n c, k2, k3, k4, k5, k6, k7]) 1).run Tryz.prog W = .ok (.slice a n c) W := by kernel_rfl
theorem fld_slate (k0 k1 k2 k3 k4 k6 k7 : Value) (a : Option Addr) (n c : Nat) (W : World) : (Instr.field 106 (.agg #[k0, k1, k2, k3, k4, .slice a n c, k6, k7]) 5).run Tryz.prog W = .ok (.slice a n c) W := by kernel_rfl
theorem fld_forms (k0 k1 k2 k3 k4 k5 k7 : Value) (a : Option Addr) (n c : Nat) (W : World) : (Instr.field 106 (.agg #[k0, k1, k2, k3, k4, k5, .slice a n c, k7]) 6).run Tryz.prog W = .ok (.slice a n c) W := by kernel_rfl
theorem fld_orders (k0 k1 k2 k3 k4 k5 k6 : Value) (a : Option Addr) (n c : Nat) (W : World) : (Instr.field 106 (.agg #[k0, k1, k2, k3, k4, k5, k6, .slice a n c]) 7).run Tryz.prog W = .ok (.slice a n c) W := by kernel_rfl
set_option maxHeartbeats 2000000 in
set_option maxRecDepth 100000 in
theorem Learned_c {S : Nat → Bool} {b : Nat} {m1 rv : Value} {v : SV} {x : St} {s : List Rul} {w : World} (h : SchF S b m1 rv v x s w) :
  Calls Tryz.prog 59 #[.pointer (some ⟨b, 0, none⟩)] w (ROInts 3 x.kn w) := by
 have HL := Lib.hid (look_c h)
 have HC := Lib.hid (fun W (k : Ext w W) => cloneInts_c v.kn x.kn W (((h.hs.sub (hole_sub S w)).kn).ext k) (by have := h.hI.kl; have := h.hI.s6; omega))
 obtain ⟨b0, d0, b1, d1, b2, d2, b3, d3, b4, d4, b5, d5, b6, d6, hvl⟩ := SV.lit h.hs
 subst hvl
 simp only [SV.cells] at HL
 simp only at HC
 clear h
 have hfl := fld_kn
 go_enter Tryz.func59, Tryz.ntmps59
 go_wp2_with fail
 refine HL.out.mono ?_; rintro e w1 ⟨rfl, hx1⟩
 go_wp2_with fail
 refine (HC.out w1 hx1).mono ?_; rintro e w2 ⟨u2, rfl, ho2, hx2⟩
 go_wp2_with fail
 go_ret
 exact ⟨_, rfl, ho2.low hx1.size, hx1.trans hx2⟩
set_option maxHeartbeats 2000000 in
set_option maxRecDepth 100000 in
theorem Grounds_c {S : Nat → Bool} {b : Nat} {m1 rv : Value} {v : SV} {x : St} {s : List Rul} {w : World} (h : SchF S b m1 rv v x s w) :
  Calls Tryz.prog 35 #[.pointer (some ⟨b, 0, none⟩)] w (ROInts 3 x.gr w) := by
 have HL := Lib.hid (look_c h)
 have HC := Lib.hid (fun W (k : Ext w W) => cloneInts_c v.gr x.gr W (((h.hs.sub (hole_sub S w)).gr).ext k) (by have := (validG_zero.1 h.hI.gr).1; omega))
 obtain ⟨b0, d0, b1, d1, b2, d2, b3, d3, b4, d4, b5, d5, b6, d6, hvl⟩ := SV.lit h.hs
 subst hvl
 simp only [SV.cells] at HL
 simp only at HC
 clear h
 have hfl := fld_gr
 go_enter Tryz.func35, Tryz.ntmps35
 go_wp2_with fail
 refine HL.out.mono ?_; rintro e w1 ⟨rfl, hx1⟩
 go_wp2_with fail
 refine (HC.out w1 hx1).mono ?_; rintro e w2 ⟨u2, rfl, ho2, hx2⟩
 go_wp2_with fail
 go_ret
 exact ⟨_, rfl, ho2.low hx1.size, hx1.trans hx2⟩
set_option maxHeartbeats 2000000 in
set_option maxRecDepth 100000 in
theorem Slate_c {S : Nat → Bool} {b : Nat} {m1 rv : Value} {v : SV} {x : St} {s : List Rul} {w : World} (h : SchF S b m1 rv v x s w) :
  Calls Tryz.prog 28 #[.pointer (some ⟨b, 0, none⟩)] w (ROCel encCh 3 46 x.slate w) := by
 have HL := Lib.hid (look_c h)
 have HC := Lib.hid (fun W (k : Ext w W) => cloneChs_c v.slate x.slate W (((h.hs.sub (hole_sub S w)).slate).ext k) (by have := h.hI.slen; omega))
 obtain ⟨b0, d0, b1, d1, b2, d2, b3, d3, b4, d4, b5, d5, b6, d6, hvl⟩ := SV.lit h.hs
 subst hvl
 simp only [SV.cells] at HL
 simp only at HC
 clear h
 have hfl := fld_slate
 go_enter Tryz.func28, Tryz.ntmps28
 go_wp2_with fail
 refine HL.out.mono ?_; rintro e w1 ⟨rfl, hx1⟩
 go_wp2_with fail
 refine (HC.out w1 hx1).mono ?_; rintro e w2 ⟨u2, rfl, ho2, hx2⟩
 go_wp2_with fail
 go_ret
 exact ⟨_, rfl, OCel.low ho2 hx1.size, hx1.trans hx2⟩
theorem validW_len {l : List Int} (h : validW l = 0) : l.length ≤ 8 := by
 unfold validW at h
 split at h
 ·cases h
 ·omega
theorem Inv.bookOk {s : List Rul} {x : St} (h : Inv s x) : (∀ t ∈ x.orders, t.size ≤ 30) ∧ x.orders.length ≤ 100 := by
 refine ⟨fun t ht => ?_, h.olen⟩
 have := (rightB_iff.1 (h.right t ht)).2.1
 rw [← txt_size]; exact this
set_option maxHeartbeats 2000000 in
set_option maxRecDepth 100000 in
theorem Book_c {S : Nat → Bool} {b : Nat} {m1 rv : Value} {v : SV} {x : St} {s : List Rul} {w : World} (h : SchF S b m1 rv v x s w) (hE : Env w) :
  Calls Tryz.prog 38 #[.pointer (some ⟨b, 0, none⟩)] w (RV (.string ⟨(bookB x.orders).toArray⟩) w) := by
 have HL := Lib.hid (look_c h)
 have HC := Lib.hid (fun W (k : Ext w W) => write_c v.orders x.orders W (((h.hs.sub (hole_sub S w)).orders).ext k) (hE.ext k) (fun t ht => by have := h.hI.bookOk.1 t ht; omega) (by have := h.hI.olen; omega))
 obtain ⟨b0, d0, b1, d1, b2, d2, b3, d3, b4, d4, b5, d5, b6, d6, hvl⟩ := SV.lit h.hs
 subst hvl
 simp only [SV.cells] at HL
 simp only at HC
 clear h hE
 have hfl := fld_orders
 go_enter Tryz.func38, Tryz.ntmps38
 go_wp2_with fail
 refine HL.out.mono ?_; rintro e w1 ⟨rfl, hx1⟩
 go_wp2_with fail
 refine (HC.out w1 hx1).mono ?_; rintro e w2 ⟨rfl, hx2⟩
 go_wp2_with fail
 go_ret
 exact ⟨rfl, hx1.trans hx2⟩
theorem InvE.last_none {s : List Rul} {x : St} (h : InvE s x) (hh : x.has = false) : lastW x = [] := by
 unfold lastW; rw [(h.none_ hh).1]; rfl
set_option maxHeartbeats 4000000 in
set_option maxRecDepth 100000 in
theorem Word_c {S : Nat → Bool} {b : Nat} {m1 rv : Value} {v : SV} {x : St} {s : List Rul} {w : World} (h : SchF S b m1 rv v x s w) :
  Calls Tryz.prog 27 #[.pointer (some ⟨b, 0, none⟩)] w (ROB (lastW x) x.has w) := by
 have HL := Lib.hid (look_c h)
 obtain ⟨b0, d0, b1, d1, b2, d2, b3, d3, b4, d4, b5, d5, b6, d6, hvl⟩ := SV.lit h.hs
 cases hh : x.has with
 | false =>
  rw [h.hI.last_none hh]
  subst hvl
  simp only [SV.cells, hh] at HL
  clear h hh
  go_enter Tryz.func27, Tryz.ntmps27
  go_wp2_with fail
  refine HL.out.mono ?_; rintro e w1 ⟨rfl, hx1⟩
  go_upto_region 2 with fail
  have hb4 := Blk.alloc w1 #[.slice b0 x.kn.length d0, .slice b1 x.gr.length d1, .bool false, .slice b2 x.base.length d2, .slice b3 x.words.length d3, .slice b4 x.slate.length d4, .slice b5 x.forms.length d5, .slice b6 x.orders.length d6] 106
  have hx4 := Ext.alloc w1 (.cells #[.slice b0 x.kn.length d0, .slice b1 x.gr.length d1, .bool false, .slice b2 x.base.length d2, .slice b3 x.words.length d3, .slice b4 x.slate.length d4, .slice b5 x.forms.length d5, .slice b6 x.orders.length d6] 106)
  generalize w1.alloc (.cells #[.slice b0 x.kn.length d0, .slice b1 x.gr.length d1, .bool false, .slice b2 x.base.length d2, .slice b3 x.words.length d3, .slice b4 x.slate.length d4, .slice b5 x.forms.length d5, .slice b6 x.orders.length d6] 106) = w4 at *
  have k2 := hb4.cell (i := 2) rfl
  go_wp2_with fail
  go_ret2
  exact ⟨_, rfl, OInts.nil _ _ _, hx1.trans hx4⟩
 | true =>
  obtain ⟨u, hu, HW0⟩ := word_c v x w (h.hs.sub (hole_sub S w)) (by have := h.hI.wlen hh; omega)
  have HW := Lib.hid HW0
  have HC := Lib.hid (fun W (k : Ext w W) => cloneInts_c u (lastW x) W (hu.ext k) (by have := validW_len h.hI.last; omega))
  subst hvl
  simp only [SV.cells, hh] at HL HW
  clear h hh HW0 hu
  generalize lastW x = lw at *
  go_enter Tryz.func27, Tryz.ntmps27
  go_wp2_with fail
  refine HL.out.mono ?_; rintro e w1 ⟨rfl, hx1⟩
  go_upto_region 2 with fail
  have hb4 := Blk.alloc w1 #[.slice b0 x.kn.length d0, .slice b1 x.gr.length d1, .bool true, .slice b2 x.base.length d2, .slice b3 x.words.length d3, .slice b4 x.slate.length d4, .slice b5 x.forms.length d5, .slice b6 x.orders.length d6] 106
  have hx4 := Ext.alloc w1 (.cells #[.slice b0 x.kn.length d0, .slice b1 x.gr.length d1, .bool true, .slice b2 x.base.length d2, .slice b3 x.words.length d3, .slice b4 x.slate.length d4, .slice b5 x.forms.length d5, .slice b6 x.orders.length d6] 106)
  generalize w1.alloc (.cells #[.slice b0 x.kn.length d0, .slice b1 x.gr.length d1, .bool true, .slice b2 x.base.length d2, .slice b3 x.words.length d3, .slice b4 x.slate.length d4, .slice b5 x.forms.length d5, .slice b6 x.orders.length d6] 106) = w4 at *
  have k0 := hb4.cell (i := 0) rfl
  have k1 := hb4.cell (i := 1) rfl
  have k2 := hb4.cell (i := 2) rfl
  have k3 := hb4.cell (i := 3) rfl
  have k4 := hb4.cell (i := 4) rfl
  have k5 := hb4.cell (i := 5) rfl
  have k6 := hb4.cell (i := 6) rfl
  have k7 := hb4.cell (i := 7) rfl
  have hX4 := hx1.trans hx4
  go_wp2_with fail
  refine (HW.out w4 hX4).mono ?_; rintro e w5 ⟨rfl, hx5⟩
  go_wp2_with fail
  refine (HC.out w5 (hX4.trans hx5)).mono ?_; rintro e w6 ⟨u6, rfl, ho6, hx6⟩
  go_wp2_with fail
  go_ret2
  exact ⟨_, rfl, ho6.low (hX4.trans hx5).size, hX4.trans (hx5.trans hx6)⟩
set_option maxHeartbeats 4000000 in
set_option maxRecDepth 100000 in
theorem Base_c {S : Nat → Bool} {b : Nat} {m1 rv : Value} {v : SV} {x : St} {s : List Rul} {w : World} (h : SchF S b m1 rv v x s w) :
  Calls Tryz.prog 52 #[.pointer (some ⟨b, 0, none⟩)] w (ROB x.base x.has w) := by
 have HL := Lib.hid (look_c h)
 have hbl : x.base.length ≤ 8 := by
  cases hh : x.has
  ·rw [(h.hI.none_ hh).2.2]; simp
  ·exact validW_len (h.hI.wv _ (List.mem_of_getElem? (h.hI.w0 hh)))
 have HC := Lib.hid (fun W (k : Ext w W) => cloneInts_c v.base x.base W (((h.hs.sub (hole_sub S w)).base).ext k) (by omega))
 obtain ⟨b0, d0, b1, d1, b2, d2, b3, d3, b4, d4, b5, d5, b6, d6, hvl⟩ := SV.lit h.hs
 subst hvl
 simp only [SV.cells] at HL
 simp only at HC
 clear h hbl
 go_enter Tryz.func52, Tryz.ntmps52
 go_wp2_with fail
 refine HL.out.mono ?_; rintro e w1 ⟨rfl, hx1⟩
 go_upto_region 2 with fail
 have hb4 := Blk.alloc w1 #[.slice b0 x.kn.length d0, .slice b1 x.gr.length d1, .bool x.has, .slice b2 x.base.length d2, .slice b3 x.words.length d3, .slice b4 x.slate.length d4, .slice b5 x.forms.length d5, .slice b6 x.orders.length d6] 106
 have hx4 := Ext.alloc w1 (.cells #[.slice b0 x.kn.length d0, .slice b1 x.gr.length d1, .bool x.has, .slice b2 x.base.length d2, .slice b3 x.words.length d3, .slice b4 x.slate.length d4, .slice b5 x.forms.length d5, .slice b6 x.orders.length d6] 106)
 generalize w1.alloc (.cells #[.slice b0 x.kn.length d0, .slice b1 x.gr.length d1, .bool x.has, .slice b2 x.base.length d2, .slice b3 x.words.length d3, .slice b4 x.slate.length d4, .slice b5 x.forms.length d5, .slice b6 x.orders.length d6] 106) = w4 at *
 generalize w1.heap.size = g at *
 have hX4 := hx1.trans hx4
 refine wp_region_treeR (fun a b => Ext a b) [] (.look 0 (.look 1 (.look 3 (.look 4 (.one 2 (.look 5 (.look 6 .done))))))) (fun w => Ext.refl w) (fun a b c h k => Ext.trans h k) (by kernel_rfl) (by kernel_rfl) (by intro c a d v w h; cases d <;> exact h) ?_
 have hX0 := hX4.trans (drawnP_ext w4)
 replace hb4 := hb4.ext (drawnP_ext w4)
 generalize { w4 with drawn := w4.drawn + 1 } = W0 at *
 have k3 : ∀ q : InC (fun c => Ext W0 c), q.w.cell? ⟨g, 3, none⟩ = some (.slice b2 x.base.length d2) := fun q => (hb4.ext q.h).cell rfl
 have k2 : ∀ q : InC (fun c => Ext W0 c), q.w.cell? ⟨g, 2, none⟩ = some (.bool x.has) := fun q => (hb4.ext q.h).cell rfl
 iterate 4 (refine wpTreeR_look rfl (fun K hK => ?_); go_simp; first | (refine hK _ ?_; clear hK K) | (refine ⟨_, fun _ => rfl, hK _ ?_⟩; clear hK K))
 refine wpTreeR_one rfl rfl (fun K hK => ?_)
 go_wp2_with fail
 refine (HC.out W0 hX0).mono ?_; rintro e w5 ⟨u5, rfl, ho5, hx5⟩
 go_wp2_with fail
 refine ⟨.inr hx5, ?_⟩
 iterate 2 (refine wpTreeR_look rfl (fun K hK => ?_); go_simp; first | (refine hK _ ?_; clear hK K) | (refine ⟨_, fun _ => rfl, hK _ ?_⟩; clear hK K))
 refine wpTreeR_done ?_
 go_wp2_with fail
 go_ret2
 exact ⟨_, rfl, ho5.low hX0.size, hX0.trans hx5⟩
set_option maxHeartbeats 4000000 in
set_option maxRecDepth 100000 in
theorem Ended_c {S : Nat → Bool} {b : Nat} {m1 rv : Value} {v : SV} {x : St} {s : List Rul} {w : World} (h : SchF S b m1 rv v x s w) :
  Calls Tryz.prog 33 #[.pointer (some ⟨b, 0, none⟩)] w (RV (.bool (endedS s x)) w) := by
 have HL := Lib.hid (look_c h)
 obtain ⟨b0, d0, b1, d1, b2, d2, b3, d3, b4, d4, b5, d5, b6, d6, hvl⟩ := SV.lit h.hs
 cases hh : x.has with
 | false =>
  rw [show endedS s x = false by unfold endedS; rw [hh]; rfl]
  subst hvl
  simp only [SV.cells, hh] at HL
  clear h hh
  go_enter Tryz.func33, Tryz.ntmps33
  go_wp2_with fail
  refine HL.out.mono ?_; rintro e w1 ⟨rfl, hx1⟩
  go_upto_region 2 with fail
  have hb4 := Blk.alloc w1 #[.slice b0 x.kn.length d0, .slice b1 x.gr.length d1, .bool false, .slice b2 x.base.length d2, .slice b3 x.words.length d3, .slice b4 x.slate.length d4, .slice b5 x.forms.length d5, .slice b6 x.orders.length d6] 106
  have hx4 := Ext.alloc w1 (.cells #[.slice b0 x.kn.length d0, .slice b1 x.gr.length d1, .bool false, .slice b2 x.base.length d2, .slice b3 x.words.length d3, .slice b4 x.slate.length d4, .slice b5 x.forms.length d5, .slice b6 x.orders.length d6] 106)
  generalize w1.alloc (.cells #[.slice b0 x.kn.length d0, .slice b1 x.gr.length d1, .bool false, .slice b2 x.base.length d2, .slice b3 x.words.length d3, .slice b4 x.slate.length d4, .slice b5 x.forms.length d5, .slice b6 x.orders.length d6] 106) = w4 at *
  have k2 := hb4.cell (i := 2) rfl
  go_wp2_with fail
  go_ret
  exact ⟨rfl, hx1.trans hx4⟩
 | true =>
  have HCH := Lib.hid (fun W (k : Ext w W) => choose_c b rv v x s W (k.keep (h.hb.cell (i := 2) rfl)) ((h.hr.sub (hole_sub S w)).ext k) ((h.hs.sub (hole_sub S w)).ext k) h.hI.toInvE hh)
  rw [show endedS s x = !(chooseS s x).isSome by unfold endedS; rw [hh]; cases chooseS s x <;> rfl]
  subst hvl
  simp only [SV.cells, hh] at HL HCH
  clear h hh
  obtain ⟨A1, A2, A3, hA⟩ : ∃ A1 A2 A3 : Int, chV (chooseS s x) = .agg #[.int .i64 A1, .int .i64 A2, .int .i64 A3] := by cases chooseS s x <;> exact ⟨_, _, _, rfl⟩
  simp only [hA] at HCH
  clear hA
  generalize (chooseS s x).isSome = R at *
  go_enter Tryz.func33, Tryz.ntmps33
  go_wp2_with fail
  refine HL.out.mono ?_; rintro e w1 ⟨rfl, hx1⟩
  go_upto_region 2 with fail
  have hb4 := Blk.alloc w1 #[.slice b0 x.kn.length d0, .slice b1 x.gr.length d1, .bool true, .slice b2 x.base.length d2, .slice b3 x.words.length d3, .slice b4 x.slate.length d4, .slice b5 x.forms.length d5, .slice b6 x.orders.length d6] 106
  have hx4 := Ext.alloc w1 (.cells #[.slice b0 x.kn.length d0, .slice b1 x.gr.length d1, .bool true, .slice b2 x.base.length d2, .slice b3 x.words.length d3, .slice b4 x.slate.length d4, .slice b5 x.forms.length d5, .slice b6 x.orders.length d6] 106)
  generalize w1.alloc (.cells #[.slice b0 x.kn.length d0, .slice b1 x.gr.length d1, .bool true, .slice b2 x.base.length d2, .slice b3 x.words.length d3, .slice b4 x.slate.length d4, .slice b5 x.forms.length d5, .slice b6 x.orders.length d6] 106) = w4 at *
  have k0 := hb4.cell (i := 0) rfl
  have k1 := hb4.cell (i := 1) rfl
  have k2 := hb4.cell (i := 2) rfl
  have k3 := hb4.cell (i := 3) rfl
  have k4 := hb4.cell (i := 4) rfl
  have k5 := hb4.cell (i := 5) rfl
  have k6 := hb4.cell (i := 6) rfl
  have k7 := hb4.cell (i := 7) rfl
  have hX4 := hx1.trans hx4
  go_wp2_with fail
  refine (HCH.out w4 hX4).mono ?_; rintro e w5 ⟨rfl, hx5⟩
  go_wp2_with fail
  go_ret
  exact ⟨rfl, hX4.trans (hx5.trans (Ext.alloc _ _))⟩
end Go.Proofs.YtpmlcfgbfhgpgaaGreatDoor
/- A new school of the program. -/
namespace Go.Proofs.YtpmlcfgbfhgpgaaGreatDoor
open Go.RowKit Go.Shelf
set_option linter.unusedVariables false
def RsO (w : World) (B : Nat) (RS : List RlC) (s : List Rul) : Prop := RS.length = s.length ∧ ∀ (i : Nat) (x : RlC), RS[i]? = some x → x.f = (rulAt s i).f ∧ OInts 3 w B x.t (rulAt s i).t ∧ OInts 3 w B x.l (rulAt s i).l ∧ OInts 3 w B x.r (rulAt s i).r
theorem RsO.ok {w : World} {B : Nat} {RS : List RlC} {s : List Rul} (h : RsO w B RS s) : RsOk w RS s := ⟨h.1, fun i x hi => ⟨(h.2 i x hi).1, (h.2 i x hi).2.1.ints, (h.2 i x hi).2.2.1.ints, (h.2 i x hi).2.2.2.ints⟩⟩
theorem RsO.ext {w w' : World} {B : Nat} {RS : List RlC} {s : List Rul} (h : RsO w B RS s) (hx : Ext w w') : RsO w' B RS s := ⟨h.1, fun i x hi => ⟨(h.2 i x hi).1, (h.2 i x hi).2.1.ext hx, (h.2 i x hi).2.2.1.ext hx, (h.2 i x hi).2.2.2.ext hx⟩⟩
theorem RsO.hole {S : Nat → Bool} {w : World} {B : Nat} {RS : List RlC} {s : List Rul} (h : RsO w B RS s) (hS : ∀ k, S k = true → k < B) : RsO (Go.Proofs.YtpmlcfgbfhgpgaaGreatDoor.hole S w) B RS s := ⟨h.1, fun i x hi => ⟨(h.2 i x hi).1, (h.2 i x hi).2.1.hole hS, (h.2 i x hi).2.2.1.hole hS, (h.2 i x hi).2.2.2.hole hS⟩⟩
theorem RsO.rowKept {w w' : World} {B : Nat} {RS : List RlC} {s : List Rul} (h : RsO w B RS s) {B2 n2 size2 : Nat} {v2 : Value} {xs2 : List Value} (hr : w.ownsRow B2 70 size2 v2 n2 xs2) (hg : w.grownBy w' v2.ownBlock) : RsO w' B RS s :=
 ⟨h.1, fun i x hi => ⟨(h.2 i x hi).1, OInts.rowKept (h.2 i x hi).2.1 hr hg (by decide), OInts.rowKept (h.2 i x hi).2.2.1 hr hg (by decide), OInts.rowKept (h.2 i x hi).2.2.2 hr hg (by decide)⟩⟩
theorem RsO.snoc {w : World} {B : Nat} {RS : List RlC} {s : List Rul} {y : RlC} {z : Rul} (h : RsO w B RS s) (hf : y.f = z.f) (h1 : OInts 3 w B y.t z.t) (h2 : OInts 3 w B y.l z.l) (h3 : OInts 3 w B y.r z.r) : RsO w B (RS ++ [y]) (s ++ [z]) := by
 refine ⟨by simp [h.1], fun i x hi => ?_⟩
 unfold rulAt
 rcases Nat.lt_trichotomy i RS.length with hl | hl | hl
 ·rw [List.getElem?_append_left hl] at hi
  rw [List.getElem?_append_left (by rw [← h.1]; exact hl)]
  exact h.2 i x hi
 ·rw [hl, List.getElem?_append_right (Nat.le_refl _), Nat.sub_self] at hi
  injection hi with hi; subst hi
  rw [hl, h.1, List.getElem?_append_right (Nat.le_refl _), Nat.sub_self]
  exact ⟨hf, h1, h2, h3⟩
 ·rw [List.getElem?_eq_none (by simp; omega)] at hi; cases hi
theorem wpList_appendG {P : Program} {ops : Array Oper} {rest : List Oper} {o : Oper} {a : Act} {Q : Exit → Act → World → Prop} {W : World} {B : Nat} {t e : TypeId} {size bytes : Nat} {z : Value} {v : Value} {us : List Value} {n g : Nat} {xs : List Value}
  (hT : ElTy P t e size bytes z) (hgd : o.guard = none) (s x : Operand) (ho : o.op = .call { callee := .builtin .append, args := #[s, x], argTypes := #[t, t] })
  (hs : a.eval s = v) (hx : a.eval x = .slice (some ⟨g, 0, none⟩) 1 1) (hown : W.ownsRow B e size v n xs) (hb : Blk W g e us) (hus : us.length = size) (h1 : ∀ u ∈ us, u.oneCell' = true) (hB : B ≤ W.heap.size)
  (hlen : (n + 1) * bytes ≤ 140737488355328) (hn : n + 1 ≤ 9223372036854775807)
  (h : ∀ v' w', w'.ownsRow B e size v' (n + 1) (xs ++ us) → Below B W w' → W.grownBy w' v.ownBlock → wpList P ops Q rest (a.put o.dst v') w') :
  wpList P ops Q (o :: rest) a W := by
 obtain ⟨i0, hi, hz0, hz1, hz2⟩ := info_parts hT.info
 refine wpList_plain hgd fun _ hK => ?_
 obtain ⟨v', w', hrun, h2, h3, _, h6⟩ := run_append_own_at (P := P) W B t o.type e i0 z size bytes hT.ht hi hz0 hz1 hz2 hT.zc hT.pos v n xs hown
  ⟨g, 0, none⟩ 1 1 us (by omega) (by
   intro j z hz
   rw [addr_add, Nat.zero_add]
   exact hb.cell hz) h1 (by unfold maxLen; omega) hlen hB
 unfold Oper.wp execOp
 simp only [ho, resolve, invoke, builtin, Sem.run_bind, Sem.run_pure, Result.andThen_ok, List.map_toArray, List.map_cons, List.map_nil, hs, hx, hrun]
 exact hK _ _ (h v' w' h2 (Below.of_grownBy h3 hown hB) h3)
theorem setB_len {l : List Int} (h : setB l = true) : l.length ≤ 7 := by
 unfold setB at h
 rw [allB_iff] at h
 have key : ∀ i, i < l.length → (i : Int) - 1 ≤ l[i]?.getD 0 ∧ l[i]?.getD 0 ≤ 5 := by
  intro i
  induction i with
  | zero =>
   intro hi
   have := h 0 hi
   simp only [setAt, nbB, inB, Bool.and_eq_true, Bool.or_eq_true, beq_iff_eq, decide_eq_true_eq] at this
   omega
  | succ i ih =>
   intro hi
   have h1 := ih (by omega)
   have := h (i + 1) hi
   simp only [setAt, nbB, inB, Bool.and_eq_true, Bool.or_eq_true, beq_iff_eq, decide_eq_true_eq, Bool.not_eq_true', Bool.and_eq_false_iff, decide_eq_false_iff_not, Nat.add_sub_cancel] at this
   omega
 rcases Nat.lt_or_ge 7 l.length with hl | hl
 ·have := key 7 hl; omega
 ·exact hl
theorem rule_lens {x : Rul} (h : validR x = 0) : x.t.length ≤ 2 ∧ x.l.length ≤ 7 ∧ x.r.length ≤ 7 := by
 unfold validR at h
 split at h
 ·split at h
  ·cases h
  ·split at h
   ·rename_i h2 h3
    rw [Bool.and_eq_true, Bool.and_eq_true] at h3
    exact ⟨by omega, setB_len h3.1.2, setB_len h3.2⟩
   ·cases h
 ·cases h
def RNew (S : Nat → Bool) (s : List Rul) (w : World) (e : Ending) (w' : World) : Prop :=
 Ext w w' ∧ ((validS s ≠ 0 ∧ e = .returned (.tuple #[.pointer none, .int .i64 (validS s)])) ∨
  (validS s = 0 ∧ ∃ b m1 rv v, e = .returned (.tuple #[.pointer (some ⟨b, 0, none⟩), .int .i64 0]) ∧ w.heap.size ≤ b ∧ SchF (more S b) b m1 rv v st0 s w'))
def sv0 : SV := ⟨.slice none 0 0, .slice none 0 0, .slice none 0 0, .slice none 0 0, .slice none 0 0, .slice none 0 0, .slice none 0 0⟩
theorem ints_nilS (w : World) : Ints w (.slice none 0 0) [] := ⟨none, 0, rfl, Nat.zero_le _, by unfold maxLen; omega, fun i hi => by simp at hi⟩
theorem rows_nilS (w : World) : Rows w (.slice none 0 0) [] := ⟨none, 0, rfl, Nat.zero_le _, by unfold maxLen; omega, fun i hi => by simp at hi⟩
theorem str_new (w : World) : StR w sv0 st0 := ⟨ints_nilS w, ints_nilS w, ints_nilS w, rows_nilS w, Cel.nil _ _ _, rows_nilS w, Cel.nil _ _ _⟩
set_option maxHeartbeats 8000000 in
set_option maxRecDepth 100000 in
theorem New_c (S : Nat → Bool) (v : Value) (s : List Rul) (w : World) (hS : ∀ k, S k = true → k < w.heap.size) (h : Ruls w v s) : Calls Tryz.prog 50 #[v] w (RNew S s w) := by
 have HV := Lib.hid (fValidate_c v s w h)
 obtain ⟨a, c, rfl, h1, h2, H⟩ := h.lit
 clear h
 by_cases hv : validS s = 0
 ·rw [hv] at HV
  have hs6 := (validS_zero.1 hv).1
  have HSL : Hid (s.length ≤ 6) := Lib.hid hs6
  have HRL : Hid (∀ k, k < s.length → (rulAt s k).t.length ≤ 2 ∧ (rulAt s k).l.length ≤ 7 ∧ (rulAt s k).r.length ≤ 7) := Lib.hid fun k hk => rule_lens ((validS_zero.1 hv).2 _ (rulAt_mem hk))
  have HVV := Lib.hid hv
  clear hv hs6
  go_enter Tryz.func50, Tryz.ntmps50
  go_wp2_with fail
  refine HV.out.mono ?_; rintro e w0 ⟨rfl, hx0⟩
  go_wp2_with fail
  go_loopg [15, 5] s.length (fun m i u wr => ∃ (k : Nat) (RS : List RlC), k ≤ s.length ∧ s.length ≤ k + m ∧ i = .int .i64 k ∧ Ext w wr ∧ OCel encR 4 70 wr w.heap.size u RS ∧ Hid (RsO wr w.heap.size RS (s.take k)))
  case atStart => exact ⟨0, [], by omega, by omega, rfl, hx0, OCel.nil _ _ _ _ _, Lib.hid ⟨rfl, fun i x h => by cases h⟩⟩
  case round =>
   obtain ⟨k, RS, hk1, hk2, rfl, hXr, hown, hRO⟩ := hrel
   by_cases hlt : k < s.length
   ·obtain ⟨b1, o1, rfl, ta, tc, la, lc, ra, rc, d0, d1, d2, d3, hrr⟩ := H.out k hlt
    replace d0 := hXr.keep d0
    replace d1 := hXr.keep d1
    replace d2 := hXr.keep d2
    replace d3 := hXr.keep d3
    obtain ⟨hl1, hl2, hl3⟩ := HRL.out k hlt
    have HCT := Lib.hid (fun W (q : Ext w W) => cloneInts_c _ (rulAt s k).t W (hrr.t.ext q) (by omega))
    have HCL := Lib.hid (fun W (q : Ext w W) => cloneInts_c _ (rulAt s k).l W (hrr.l.ext q) (by omega))
    have HCR := Lib.hid (fun W (q : Ext w W) => cloneInts_c _ (rulAt s k).r W (hrr.r.ext q) (by omega))
    clear hrr hl1 hl2 hl3
    generalize hy : rulAt s k = y at *
    have HY := Lib.hid hy; clear hy
    have hRSl : RS.length ≤ 6 := by rw [hRO.out.1, List.length_take]; have := HSL.out; omega
    obtain ⟨ua, uc, hul, _⟩ := (Cel.own encR_len hown).open_
    subst hul
    go_upto_region 8 with fail
    have hb7 := Blk.alloc wr #[.int .i64 y.f, .slice ta y.t.length tc, .slice la y.l.length lc, .slice ra y.r.length rc] 70
    have hx7 := Ext.alloc wr (.cells #[.int .i64 y.f, .slice ta y.t.length tc, .slice la y.l.length lc, .slice ra y.r.length rc] 70)
    generalize wr.alloc (.cells #[.int .i64 y.f, .slice ta y.t.length tc, .slice la y.l.length lc, .slice ra y.r.length rc] 70) = w7 at *
    generalize wr.heap.size = g7 at *
    refine wp_region_treeR (fun a b => Ext a b) [14] (.look 0 (.look 1 (.look 2 (.look 3 (.look 4 (.look 6 (.look 7 (.look 9 (.look 10 (.one 5 (.one 8 (.one 11 (.look 12 (.one 13 (.one 14 (.one 15 .done)))))))))))))))) (fun w => Ext.refl w) (fun a b c h k => Ext.trans h k) (by kernel_rfl) (by kernel_rfl) (by intro c a d v w h; cases d <;> exact h) ?_
    have hX0 : Ext wr _ := hx7.trans (drawnP_ext w7)
    replace hb7 := hb7.ext (drawnP_ext w7)
    generalize { w7 with drawn := w7.drawn + 1 } = W0 at *
    have k0 : ∀ q : InC (fun c => Ext W0 c), q.w.cell? ⟨g7, 0, none⟩ = some (.int .i64 y.f) := fun q => (hb7.ext q.h).cell rfl
    have k1 : ∀ q : InC (fun c => Ext W0 c), q.w.cell? ⟨g7, 1, none⟩ = some (.slice ta y.t.length tc) := fun q => (hb7.ext q.h).cell rfl
    have k2 : ∀ q : InC (fun c => Ext W0 c), q.w.cell? ⟨g7, 2, none⟩ = some (.slice la y.l.length lc) := fun q => (hb7.ext q.h).cell rfl
    have k3 : ∀ q : InC (fun c => Ext W0 c), q.w.cell? ⟨g7, 3, none⟩ = some (.slice ra y.r.length rc) := fun q => (hb7.ext q.h).cell rfl
    iterate 9 (refine wpTreeR_look rfl (fun K hK => ?_); go_simp; first | (refine hK _ ?_; clear hK K) | (refine ⟨_, fun _ => rfl, hK _ ?_⟩; clear hK K))
    refine wpTreeR_one rfl rfl (fun K hK => ?_)
    go_wp2_with fail
    refine (HCT.out W0 (hXr.trans (hX0))).mono ?_; rintro e v1 ⟨u1, rfl, hoT, hx1⟩
    obtain ⟨aT, cT, huT, _⟩ := hoT.ints.open_
    subst huT
    go_wp2_with fail
    refine ⟨.inr hx1, ?_⟩
    have hX1 := (hX0).trans hx1
    replace hoT := hoT.low (B' := w.heap.size) (Nat.le_trans hXr.size (hX0).size)
    refine wpTreeR_one rfl rfl (fun K hK => ?_)
    go_wp2_with fail
    refine (HCL.out v1 (hXr.trans (hX1))).mono ?_; rintro e v2 ⟨u2, rfl, hoL, hx2⟩
    obtain ⟨aL, cL, huL, _⟩ := hoL.ints.open_
    subst huL
    go_wp2_with fail
    refine ⟨.inr hx2, ?_⟩
    have hX2 := (hX1).trans hx2
    replace hoL := hoL.low (B' := w.heap.size) (Nat.le_trans hXr.size (hX1).size)
    replace hoT := hoT.ext hx2
    refine wpTreeR_one rfl rfl (fun K hK => ?_)
    go_wp2_with fail
    refine (HCR.out v2 (hXr.trans (hX2))).mono ?_; rintro e v3 ⟨u3, rfl, hoR, hx3⟩
    obtain ⟨aR, cR, huR, _⟩ := hoR.ints.open_
    subst huR
    go_wp2_with fail
    refine ⟨.inr hx3, ?_⟩
    have hX3 := (hX2).trans hx3
    replace hoR := hoR.low (B' := w.heap.size) (Nat.le_trans hXr.size (hX2).size)
    replace hoT := hoT.ext hx3
    replace hoL := hoL.ext hx3
    iterate 1 (refine wpTreeR_look rfl (fun K hK => ?_); go_simp; first | (refine hK _ ?_; clear hK K) | (refine ⟨_, fun _ => rfl, hK _ ?_⟩; clear hK K))
    refine wpTreeR_one rfl rfl (fun K hK => ?_)
    go_wp2_with fail
    have hbn := Blk.alloc v3 #[.int .i64 y.f, .slice aT y.t.length cT, .slice aL y.l.length cL, .slice aR y.r.length cR] 70
    have hxn := Ext.alloc v3 (.cells #[.int .i64 y.f, .slice aT y.t.length cT, .slice aL y.l.length cL, .slice aR y.r.length cR] 70)
    refine ⟨.inr hxn, ?_⟩
    have hXn := (hX3).trans hxn
    generalize v3.alloc (.cells #[.int .i64 y.f, .slice aT y.t.length cT, .slice aL y.l.length cL, .slice aR y.r.length cR] 70) = vn at *
    generalize v3.heap.size = gn at *
    replace hoT := hoT.ext hxn
    replace hoL := hoL.ext hxn
    replace hoR := hoR.ext hxn
    have hown2 := OCel.ext hown hXn
    have hRO2 := Lib.hid (hRO.out.ext hXn)
    refine wpTreeR_one rfl rfl (fun K hK => ?_)
    refine wpList_appendG (v := .slice ua RS.length uc) (g := gn) (us := [.int .i64 y.f, .slice aT y.t.length cT, .slice aL y.l.length cL, .slice aR y.r.length cR]) elRul rfl _ _ rfl rfl rfl hown2 hbn rfl (by intro u hu; simp only [List.mem_cons, List.not_mem_nil, or_false] at hu; rcases hu with rfl | rfl | rfl | rfl <;> rfl) (Nat.le_trans hXr.size hXn.size) (by omega) (by omega) ?_
    intro v2 w2 ho2 hb2 hg2
    go_wp2_with fail
    refine ⟨.inl (by simp), ?_⟩
    refine wpTreeR_one rfl rfl (fun K hK => ?_)
    go_wp2_with fail
    refine ⟨.inr (Ext.refl _), ?_⟩
    refine wpTreeR_done ?_
    go_wp2_with fail
    go_roundg (gk-1)
    case measure => omega
    case rel =>
     have hT2 := OInts.rowKept hoT hown2 hg2 (by decide)
     have hL2 := OInts.rowKept hoL hown2 hg2 (by decide)
     have hR2 := OInts.rowKept hoR hown2 hg2 (by decide)
     have hXw := (hXr.trans hXn).rowGrown hown2 hg2
     refine ⟨k + 1, RS ++ [⟨y.f, .slice aT y.t.length cT, .slice aL y.l.length cL, .slice aR y.r.length cR⟩], by omega, by omega, by go_num, hXw, ocel_snoc (x := (⟨y.f, .slice aT y.t.length cT, .slice aL y.l.length cL, .slice aR y.r.length cR⟩ : RlC)) ho2, Lib.hid ?_⟩
     rw [List.take_add_one, List.getElem?_eq_getElem hlt, Option.toList_some, show s[k] = rulAt s k by unfold rulAt; rw [List.getElem?_eq_getElem hlt]; rfl, HY.out]
     exact (hRO2.out.rowKept hown2 hg2).snoc rfl hT2 hL2 hR2
   ·obtain rfl : k = s.length := by omega
    rw [List.take_length] at hRO
    obtain ⟨ua, uc, hul, _⟩ := (Cel.own encR_len hown).open_
    subst hul
    have HC1 := Lib.hid (Cel.own encR_len (OCel.hole hown hS))
    have HR1 := Lib.hid ((hRO.out.hole hS).ok)
    go_wp2_with fail
    go_ret2
    have hbn := Blk.alloc wr #[.int .i32 0, .int .u32 0, .slice ua RS.length uc, .slice none 0 0, .slice none 0 0, .bool false, .slice none 0 0, .slice none 0 0, .slice none 0 0, .slice none 0 0, .slice none 0 0] 108
    have hxn := Ext.alloc wr (.cells #[.int .i32 0, .int .u32 0, .slice ua RS.length uc, .slice none 0 0, .slice none 0 0, .bool false, .slice none 0 0, .slice none 0 0, .slice none 0 0, .slice none 0 0, .slice none 0 0] 108)
    refine ⟨hXr.trans hxn, .inr ⟨HVV.out, wr.heap.size, .int .u32 0, .slice ua RS.length uc, sv0, rfl, hXr.size, more_self _ _, fun k hk => ?_, hbn, (Ruls.of_cel HC1.out HR1.out).ext (hole_more hxn (Nat.le_refl _)), str_new _, inv_new HVV.out⟩⟩
    rcases more_or hk with hk | hk
    ·exact Nat.lt_of_lt_of_le (hS k hk) (hXr.trans hxn).size
    ·rw [hk]; exact hbn.lt
 ·have hd : (validS s != 0) = true := by simp [hv]
  have HVV := Lib.hid hv
  clear hv
  generalize hke : validS s = K at *
  have HKE := Lib.hid hke; clear hke
  go_enter Tryz.func50, Tryz.ntmps50
  go_wp2_with fail
  refine HV.out.mono ?_; rintro e w0 ⟨rfl, hx0⟩
  go_wp2_with fail
  go_ret2
  exact ⟨hx0, .inl ⟨by rw [HKE.out]; exact HVV.out, by rw [HKE.out]; rfl⟩⟩
end Go.Proofs.YtpmlcfgbfhgpgaaGreatDoor
/- A new school of the reference. -/
namespace Go.Proofs.YtpmlcfgbfhgpgaaGreatDoor
open Go.RowKit Go.Shelf
set_option linter.unusedVariables false
theorem row_setS {w : World} {B n size g : Nat} {e ty : TypeId} {xs us : List Value} {v : Value} (h : w.ownsRow B e size v n xs) (hb : Blk w g ty us) (hne : e ≠ ty) (i : Nat) (x : Value) : (w.setCell ⟨g, i, none⟩ x).ownsRow B e size v n xs := by
 refine World.ownsRow.kept h (grownBy_set w g i x) ?_
 cases hv : v.ownBlock with
 | none => exact .inl rfl
 | some r =>
  refine .inr fun he => ?_
  injection he with he
  subst he
  obtain ⟨cur, h1, _⟩ := ownBlock_cells h r hv
  unfold Blk at hb
  rw [hb] at h1
  injection h1 with h1
  injection h1 with _ h3 _
  exact hne h3.symm
theorem RsO.setB {w : World} {B g : Nat} {RS : List RlC} {s : List Rul} {ty : TypeId} {cs : List Value} (h : RsO w B RS s) (hb : Blk w g ty cs) (hne : ty ≠ 3) (i : Nat) (v : Value) : RsO (w.setCell ⟨g, i, none⟩ v) B RS s :=
 ⟨h.1, fun j x hj => ⟨(h.2 j x hj).1, (h.2 j x hj).2.1.setB hb hne, (h.2 j x hj).2.2.1.setB hb hne, (h.2 j x hj).2.2.2.setB hb hne⟩⟩
theorem ownsRow_holeN {S : Nat → Bool} {w : World} {B size n : Nat} {e : TypeId} {v : Value} {xs : List Value} (h : w.ownsRow B e size v n xs) (hn : ∀ r, v.ownBlock = some r → S r = false) : (hole S w).ownsRow B e size v n xs := by
 obtain ⟨h0, h | ⟨g, cap, cur, h1, h2, h3, h4⟩⟩ := h
 ·exact ⟨h0, .inl h⟩
 ·refine ⟨h0, .inr ⟨g, cap, cur, h1, h2, ?_, h4⟩⟩
  rw [hole_block S w (hn g (by rw [h1]; rfl))]
  exact h3
theorem row_notBlk {w : World} {B n size g : Nat} {e ty : TypeId} {xs us : List Value} {v : Value} (h : w.ownsRow B e size v n xs) (hb : Blk w g ty us) (hne : e ≠ ty) {r : Nat} (hr : v.ownBlock = some r) : r ≠ g := by
 intro e'
 subst e'
 obtain ⟨cur, h1, _⟩ := ownBlock_cells h r hr
 unfold Blk at hb
 rw [hb] at h1
 injection h1 with h1
 injection h1 with _ h3 _
 exact hne h3.symm
theorem RsO.holeN {S : Nat → Bool} {w : World} {B : Nat} {RS : List RlC} {s : List Rul} (h : RsO w B RS s) (hn : ∀ (v : Value) (l : List Int), OInts 3 w B v l → ∀ r, v.ownBlock = some r → S r = false) : RsO (Go.Proofs.YtpmlcfgbfhgpgaaGreatDoor.hole S w) B RS s :=
 ⟨h.1, fun i x hi => ⟨(h.2 i x hi).1, ownsRow_holeN (h.2 i x hi).2.1 (hn _ _ (h.2 i x hi).2.1), ownsRow_holeN (h.2 i x hi).2.2.1 (hn _ _ (h.2 i x hi).2.2.1), ownsRow_holeN (h.2 i x hi).2.2.2 (hn _ _ (h.2 i x hi).2.2.2)⟩⟩
def RNewR (S : Nat → Bool) (s : List Rul) (w : World) (e : Ending) (w' : World) : Prop :=
 Ext w w' ∧ ((validS s ≠ 0 ∧ e = .returned (.tuple #[.pointer none, .int .i64 (validS s)])) ∨
  (validS s = 0 ∧ ∃ gh gq u, e = .returned (.tuple #[.pointer (some ⟨gh, 0, none⟩), .int .i64 0]) ∧ w.heap.size ≤ gh ∧ w.heap.size ≤ gq ∧ gh ≠ gq ∧
   Blk w' gh 77 [u, .slice (some ⟨gq, 0, none⟩) s.length s.length, .slice none 0 0, .bool false, .slice none 0 0, .slice none 0 0, .slice none 0 0, .slice none 0 0, .slice none 0 0] ∧ Blk w' gq 4 (List.replicate s.length (.bool false)) ∧ Ruls (hole (more (more S gh) gq) w') u s))
set_option maxHeartbeats 8000000 in
set_option maxRecDepth 100000 in
theorem rNew_c (S : Nat → Bool) (v : Value) (s : List Rul) (w : World) (hS : ∀ k, S k = true → k < w.heap.size) (h : Ruls w v s) : Calls Tryz.prog 37 #[v] w (RNewR S s w) := by
 have HV := Lib.hid (rfValidate_c v s w h)
 obtain ⟨a, c, rfl, h1, h2, H⟩ := h.lit
 clear h
 by_cases hv : validS s = 0
 ·rw [hv] at HV
  have hs6 := (validS_zero.1 hv).1
  have HSL : Hid (s.length ≤ 6) := Lib.hid hs6
  have HRL : Hid (∀ k, k < s.length → (rulAt s k).t.length ≤ 2 ∧ (rulAt s k).l.length ≤ 7 ∧ (rulAt s k).r.length ≤ 7) := Lib.hid fun k hk => rule_lens ((validS_zero.1 hv).2 _ (rulAt_mem hk))
  have HVV := Lib.hid hv
  clear hv hs6
  go_enter Tryz.func37, Tryz.ntmps37
  go_wp2_with fail
  refine HV.out.mono ?_; rintro e w0 ⟨rfl, hx0⟩
  go_upto_region 5 with (at_make; refine wpList_make_blk s.length elBools rfl rfl _ _ rfl rfl rfl (by have := HSL.out; omega) (by omega) ?_; intro gq wk hgkz hgk hXk hgkl)
  have hgh := Blk.alloc wk #[.slice none 0 0, .slice (some ⟨gq, 0, none⟩) s.length s.length, .slice none 0 0, .bool false, .slice none 0 0, .slice none 0 0, .slice none 0 0, .slice none 0 0, .slice none 0 0] 77
  have hxh := Ext.alloc wk (.cells #[.slice none 0 0, .slice (some ⟨gq, 0, none⟩) s.length s.length, .slice none 0 0, .bool false, .slice none 0 0, .slice none 0 0, .slice none 0 0, .slice none 0 0, .slice none 0 0] 77)
  have hghz : w.heap.size ≤ wk.heap.size := Nat.le_trans hx0.size hXk.size
  replace hgkz := Nat.le_trans hx0.size hgkz
  have hgk1 := Blk.ext hgk hxh
  have hXh := (hx0.trans hXk).trans hxh
  have hne : wk.heap.size ≠ gq := by omega
  generalize wk.alloc (.cells #[.slice none 0 0, .slice (some ⟨gq, 0, none⟩) s.length s.length, .slice none 0 0, .bool false, .slice none 0 0, .slice none 0 0, .slice none 0 0, .slice none 0 0, .slice none 0 0] 77) = wh at *
  generalize wk.heap.size = gh at *
  clear hgk hXk hgkl hxh
  go_wp2_with fail
  go_loopg [6] s.length (fun m i wr => ∃ (k : Nat) (u : Value) (RS : List RlC), k ≤ s.length ∧ s.length ≤ k + m ∧ i = .int .i64 k ∧ Ext w wr ∧ Blk wr gh 77 [u, .slice (some ⟨gq, 0, none⟩) s.length s.length, .slice none 0 0, .bool false, .slice none 0 0, .slice none 0 0, .slice none 0 0, .slice none 0 0, .slice none 0 0] ∧ Blk wr gq 4 (List.replicate s.length (.bool false)) ∧ OCel encR 4 70 wr w.heap.size u RS ∧ Hid (RsO wr w.heap.size RS (s.take k)))
  case atStart => exact ⟨0, _, [], by omega, by omega, rfl, hXh, hgh, hgk1, OCel.nil _ _ _ _ _, Lib.hid ⟨rfl, fun i x h => by cases h⟩⟩
  case round =>
   clear hgh hgk1
   obtain ⟨k, u, RS, hk1, hk2, rfl, hXr, hgh, hgk, hown, hRO⟩ := hrel
   by_cases hlt : k < s.length
   ·obtain ⟨b1, o1, rfl, ta, tc, la, lc, ra, rc, d0, d1, d2, d3, hrr0⟩ := H.out k hlt
    replace d0 := hXr.keep d0
    replace d1 := hXr.keep d1
    replace d2 := hXr.keep d2
    replace d3 := hXr.keep d3
    have HRLk := Lib.hid (HRL.out k hlt)
    have hrr := Lib.hid (hrr0.ext hXr); clear hrr0
    have hXr0 := Lib.hid hXr.size
    generalize hy : rulAt s k = y at *
    have HY := Lib.hid hy; clear hy
    have hRSl : RS.length ≤ 6 := by rw [hRO.out.1, List.length_take]; have := HSL.out; omega
    obtain ⟨hl1, hl2, hl3⟩ := HRLk.out
    obtain ⟨ua, uc, hul, _⟩ := (Cel.own encR_len hown).open_
    subst hul
    go_upto_region 9 with fail
    have hb7 := Blk.alloc wr #[.int .i64 y.f, .slice ta y.t.length tc, .slice la y.l.length lc, .slice ra y.r.length rc] 70
    have hx7 := Ext.alloc wr (.cells #[.int .i64 y.f, .slice ta y.t.length tc, .slice la y.l.length lc, .slice ra y.r.length rc] 70)
    have hg7 : wr.heap.size ≤ wr.heap.size := Nat.le_refl _
    obtain ⟨g7, hg7e⟩ : ∃ g, g = wr.heap.size := ⟨_, rfl⟩
    rw [← hg7e] at hb7
    replace hg7 : wr.heap.size ≤ g7 := by omega
    have hG7 := Lib.hid hg7e
    rw [← hG7.out]
    clear hg7e
    generalize wr.alloc (.cells #[.int .i64 y.f, .slice ta y.t.length tc, .slice la y.l.length lc, .slice ra y.r.length rc] 70) = w7 at *
    have hE1 := Ext.alloc w7 (.cells #[] 3)
    have hown1 : (w7.alloc (.cells #[] 3)).ownsRow w7.heap.size 3 1 (.slice (some ⟨w7.heap.size, 0, none⟩) 0 0) 0 [] := World.ownsRow_lit (size := 1) w7 #[] 0 (Nat.le_refl _) (by unfold maxLen; omega) rfl
    have q1 := (hb7.ext hE1).cell (i := 1) rfl
    have raw1 := Lib.hid (((hrr.out.t.ext hx7).ext hE1).raw)
    go_upto_region 10 with (at_builtin; refine wpList_appendAll elInts rfl _ _ rfl rfl rfl hown1 raw1.out (ints_one _) (by simp) (by omega) (by omega) ?_; intro v1 x1 hoT hb1; rw [Nat.zero_add, List.nil_append] at hoT; replace hoT : OInts 3 x1 w7.heap.size v1 y.t := hoT; obtain ⟨aT, cT, huT, _⟩ := hoT.ints.open_; subst huT; have hx1 : Ext w7 x1 := hE1.upto hb1 (Nat.le_refl _); have z1 := (hb7.ext hx1).frozen 1; have y1 := (hb7.ext hx1).cell (i := 1) rfl)
    have hx1 : Ext w7 x1 := hE1.upto hb1 (Nat.le_refl _)
    have hbb1 := (hb7.ext hx1)
    have hbs1 := hbb1.set 1 (.slice aT y.t.length cT)
    have hXs1 := ((hx7).trans hx1)
    replace hoT := (hoT.low (B' := w.heap.size) (Nat.le_trans hXr0.out (hx7.size))).setB (g := g7) (i := 1) (v := .slice aT y.t.length cT) hbb1 (by decide)
    have hX1 : Ext wr _ := hXs1.setCell (c := g7) hg7 1 (.slice aT y.t.length cT)
    generalize World.setCell x1 ⟨g7, 1, none⟩ _ = t1 at *
    clear z1 y1 q1
    have hE2 := Ext.alloc t1 (.cells #[] 3)
    have hown2 : (t1.alloc (.cells #[] 3)).ownsRow t1.heap.size 3 1 (.slice (some ⟨t1.heap.size, 0, none⟩) 0 0) 0 [] := World.ownsRow_lit (size := 1) t1 #[] 0 (Nat.le_refl _) (by unfold maxLen; omega) rfl
    have q2 := (hbs1.ext hE2).cell (i := 2) rfl
    have raw2 := Lib.hid (((hrr.out.l.ext hX1).ext hE2).raw)
    go_upto_region 11 with (at_builtin; refine wpList_appendAll elInts rfl _ _ rfl rfl rfl hown2 raw2.out (ints_one _) (by simp) (by omega) (by omega) ?_; intro v2 x2 hoL hb2; rw [Nat.zero_add, List.nil_append] at hoL; replace hoL : OInts 3 x2 t1.heap.size v2 y.l := hoL; obtain ⟨aL, cL, huL, _⟩ := hoL.ints.open_; subst huL; have hx2 : Ext t1 x2 := hE2.upto hb2 (Nat.le_refl _); have z2 := (hbs1.ext hx2).frozen 2; have y2 := (hbs1.ext hx2).cell (i := 2) rfl)
    have hx2 : Ext t1 x2 := hE2.upto hb2 (Nat.le_refl _)
    have hbb2 := (hbs1.ext hx2)
    have hbs2 := hbb2.set 2 (.slice aL y.l.length cL)
    have hXs2 := ((hX1).trans hx2)
    replace hoL := (hoL.low (B' := w.heap.size) (Nat.le_trans hXr0.out (hX1.size))).setB (g := g7) (i := 2) (v := .slice aL y.l.length cL) hbb2 (by decide)
    replace hoT := (hoT.ext hx2).setB (g := g7) (i := 2) (v := .slice aL y.l.length cL) hbb2 (by decide)
    have hX2 : Ext wr _ := hXs2.setCell (c := g7) hg7 2 (.slice aL y.l.length cL)
    generalize World.setCell x2 ⟨g7, 2, none⟩ _ = t2 at *
    clear z2 y2 q2
    have hE3 := Ext.alloc t2 (.cells #[] 3)
    have hown3 : (t2.alloc (.cells #[] 3)).ownsRow t2.heap.size 3 1 (.slice (some ⟨t2.heap.size, 0, none⟩) 0 0) 0 [] := World.ownsRow_lit (size := 1) t2 #[] 0 (Nat.le_refl _) (by unfold maxLen; omega) rfl
    have q3 := (hbs2.ext hE3).cell (i := 3) rfl
    have raw3 := Lib.hid (((hrr.out.r.ext hX2).ext hE3).raw)
    go_upto_region 12 with (at_builtin; refine wpList_appendAll elInts rfl _ _ rfl rfl rfl hown3 raw3.out (ints_one _) (by simp) (by omega) (by omega) ?_; intro v3 x3 hoR hb3; rw [Nat.zero_add, List.nil_append] at hoR; replace hoR : OInts 3 x3 t2.heap.size v3 y.r := hoR; obtain ⟨aR, cR, huR, _⟩ := hoR.ints.open_; subst huR; have hx3 : Ext t2 x3 := hE3.upto hb3 (Nat.le_refl _); have z3 := (hbs2.ext hx3).frozen 3; have y3 := (hbs2.ext hx3).cell (i := 3) rfl)
    have hx3 : Ext t2 x3 := hE3.upto hb3 (Nat.le_refl _)
    have hbb3 := (hbs2.ext hx3)
    have hbs3 := hbb3.set 3 (.slice aR y.r.length cR)
    have hXs3 := ((hX2).trans hx3)
    replace hoR := (hoR.low (B' := w.heap.size) (Nat.le_trans hXr0.out (hX2.size))).setB (g := g7) (i := 3) (v := .slice aR y.r.length cR) hbb3 (by decide)
    replace hoT := (hoT.ext hx3).setB (g := g7) (i := 3) (v := .slice aR y.r.length cR) hbb3 (by decide)
    replace hoL := (hoL.ext hx3).setB (g := g7) (i := 3) (v := .slice aR y.r.length cR) hbb3 (by decide)
    have hX3 : Ext wr _ := hXs3.setCell (c := g7) hg7 3 (.slice aR y.r.length cR)
    generalize World.setCell x3 ⟨g7, 3, none⟩ _ = t3 at *
    clear z3 y3 q3
    refine wp_region_treeR (fun a b => a.heap[gh]? = b.heap[gh]? ∧ a.heap[g7]? = b.heap[g7]?) [10] (.look 0 (.look 1 (.look 2 (.look 3 (.look 4 (.look 5 (.one 6 (.one 7 (.look 8 (.look 9 (.one 10 .done))))))))))) (fun w => ⟨rfl, rfl⟩) (fun a b c h k => ⟨h.1.trans k.1, h.2.trans k.2⟩) (by kernel_rfl) (by kernel_rfl) (by intro c a d v w h; cases d <;> exact h) ?_
    have hX0 : Ext wr _ := hX3.trans (drawnP_ext t3)
    have hbt := hbs3.ext (drawnP_ext t3)
    replace hoT := hoT.ext (drawnP_ext t3)
    replace hoL := hoL.ext (drawnP_ext t3)
    replace hoR := hoR.ext (drawnP_ext t3)
    have hgh0 := hgh.ext hX0
    generalize { t3 with drawn := t3.drawn + 1 } = W0 at *
    have k0 : ∀ q : InC (fun c => W0.heap[gh]? = c.heap[gh]? ∧ W0.heap[g7]? = c.heap[g7]?), q.w.cell? ⟨g7, 0, none⟩ = some (.int .i64 y.f) := fun q => Blk.cell (q.h.2.symm.trans hbt) rfl
    have k1 : ∀ q : InC (fun c => W0.heap[gh]? = c.heap[gh]? ∧ W0.heap[g7]? = c.heap[g7]?), q.w.cell? ⟨g7, 1, none⟩ = some (.slice aT y.t.length cT) := fun q => Blk.cell (q.h.2.symm.trans hbt) rfl
    have k2 : ∀ q : InC (fun c => W0.heap[gh]? = c.heap[gh]? ∧ W0.heap[g7]? = c.heap[g7]?), q.w.cell? ⟨g7, 2, none⟩ = some (.slice aL y.l.length cL) := fun q => Blk.cell (q.h.2.symm.trans hbt) rfl
    have k3 : ∀ q : InC (fun c => W0.heap[gh]? = c.heap[gh]? ∧ W0.heap[g7]? = c.heap[g7]?), q.w.cell? ⟨g7, 3, none⟩ = some (.slice aR y.r.length cR) := fun q => Blk.cell (q.h.2.symm.trans hbt) rfl
    have kh : ∀ q : InC (fun c => W0.heap[gh]? = c.heap[gh]? ∧ W0.heap[g7]? = c.heap[g7]?), q.w.cell? ⟨gh, 0, none⟩ = some (.slice ua RS.length uc) := fun q => Blk.cell (q.h.1.symm.trans hgh0) rfl
    iterate 6 (refine wpTreeR_look rfl (fun K hK => ?_); go_simp; first | (refine hK _ ?_; clear hK K) | (refine ⟨_, fun _ => rfl, hK _ ?_⟩; clear hK K))
    refine wpTreeR_one rfl rfl (fun K hK => ?_)
    go_wp2_with fail
    have hbn := Blk.alloc W0 #[.int .i64 y.f, .slice aT y.t.length cT, .slice aL y.l.length cL, .slice aR y.r.length cR] 70
    have hxn := Ext.alloc W0 (.cells #[.int .i64 y.f, .slice aT y.t.length cT, .slice aL y.l.length cL, .slice aR y.r.length cR] 70)
    refine ⟨.inr ⟨(hxn.block gh hgh0.lt).symm, (hxn.block g7 hbt.lt).symm⟩, ?_⟩
    have hbt2 := hbt.ext hxn
    have hXn := hX0.trans hxn
    generalize W0.alloc (.cells #[.int .i64 y.f, .slice aT y.t.length cT, .slice aL y.l.length cL, .slice aR y.r.length cR] 70) = vn at *
    generalize W0.heap.size = gn at *
    replace hoT := hoT.ext hxn
    replace hoL := hoL.ext hxn
    replace hoR := hoR.ext hxn
    have hown2 := OCel.ext hown hXn
    have hRO2 := Lib.hid (hRO.out.ext hXn)
    have hgh2 := hgh.ext hXn
    have hgk2 := Blk.ext hgk hXn
    refine wpTreeR_one rfl rfl (fun K hK => ?_)
    refine wpList_appendG (v := .slice ua RS.length uc) (g := gn) (us := [.int .i64 y.f, .slice aT y.t.length cT, .slice aL y.l.length cL, .slice aR y.r.length cR]) elRul rfl _ _ rfl rfl rfl hown2 hbn rfl (by intro u hu; simp only [List.mem_cons, List.not_mem_nil, or_false] at hu; rcases hu with rfl | rfl | rfl | rfl <;> rfl) (Nat.le_trans hXr.size hXn.size) (by omega) (by omega) ?_
    intro v2 w2 ho2 hb2 hg2
    replace ho2 := ocel_snoc (x := (⟨y.f, .slice aT y.t.length cT, .slice aL y.l.length cL, .slice aR y.r.length cR⟩ : RlC)) ho2
    obtain ⟨a2, c2, hv2, _⟩ := (Cel.own encR_len ho2).open_
    rw [List.length_append, List.length_singleton] at hv2
    subst hv2
    go_wp2_with fail
    have hgh3 := hgh2.rowKept hown2 hg2 (by decide)
    refine ⟨.inr ⟨hgh2.trans hgh3.symm, (hg2.block g7 hbt2.lt (fun e => by have := row_ltS hown e.symm; omega)).symm⟩, ?_⟩
    have hgk3 := Blk.rowKept hgk2 hown2 hg2 (by decide)
    have hXw := (hXr.trans hXn).rowGrown hown2 hg2
    have hT2 := OInts.rowKept hoT hown2 hg2 (by decide)
    have hL2 := OInts.rowKept hoL hown2 hg2 (by decide)
    have hR2 := OInts.rowKept hoR hown2 hg2 (by decide)
    have hRO3 := Lib.hid ((hRO2.out.rowKept hown2 hg2).snoc (y := ⟨y.f, .slice aT y.t.length cT, .slice aL y.l.length cL, .slice aR y.r.length cR⟩) (z := y) rfl hT2 hL2 hR2)
    have z0 := hgh3.frozen 0
    have y0 := hgh3.cell (i := 0) rfl
    iterate 2 (refine wpTreeR_look rfl (fun K hK => ?_); go_simp; first | (refine hK _ ?_; clear hK K) | (refine ⟨_, fun _ => rfl, hK _ ?_⟩; clear hK K))
    refine wpTreeR_one rfl rfl (fun K hK => ?_)
    go_wp2_with fail
    refine ⟨.inl (by simp), ?_⟩
    have hgh4 := hgh3.set 0 (.slice a2 (RS.length + 1) c2)
    have hgk4 := Blk.other hgk3 (c := gh) hne 0 (.slice a2 (RS.length + 1) c2)
    have ho4 : OCel _ _ _ _ _ _ _ := row_setS ho2 hgh3 (by decide) 0 (.slice a2 (RS.length + 1) c2)
    have hRO4 := Lib.hid (hRO3.out.setB hgh3 (by decide) 0 (.slice a2 (RS.length + 1) c2))
    have hXw4 := hXw.setCell (c := gh) hghz 0 (.slice a2 (RS.length + 1) c2)
    generalize World.setCell w2 ⟨gh, 0, none⟩ _ = w3 at *
    refine wpTreeR_done ?_
    go_wp2_with fail
    go_roundg (gk-1)
    case measure => omega
    case rel =>
     refine ⟨k + 1, .slice a2 (RS.length + 1) c2, _, by omega, by omega, by go_num, hXw4, hgh4, hgk4, ho4, Lib.hid ?_⟩
     rw [List.take_add_one, List.getElem?_eq_getElem hlt, Option.toList_some, show s[k] = rulAt s k by unfold rulAt; rw [List.getElem?_eq_getElem hlt]; rfl, HY.out]
     exact hRO4.out
   ·obtain rfl : k = s.length := by omega
    rw [List.take_length] at hRO
    obtain ⟨ua, uc, hul, _⟩ := (Cel.own encR_len hown).open_
    subst hul
    have hM : ∀ j, more (more S gh) gq j = true → j < w.heap.size ∨ j = gh ∨ j = gq := fun j hj => by
     rcases more_or hj with hj | hj
     ·rcases more_or hj with hj | hj
      ·exact .inl (hS j hj)
      ·exact .inr (.inl hj)
     ·exact .inr (.inr hj)
    have hN : ∀ (r : Nat), w.heap.size ≤ r → r ≠ gh → r ≠ gq → more (more S gh) gq r = false := fun r h1 h2 h3 => by
     cases e : more (more S gh) gq r
     ·rfl
     ·rcases hM r e with h | h | h
      ·omega
      ·exact absurd h h2
      ·exact absurd h h3
    have HC1 := Lib.hid (Ruls.of_cel (w := hole (more (more S gh) gq) wr) (Cel.own encR_len (ownsRow_holeN hown (fun r hr => hN r (ownBlock_cells hown r hr).choose_spec.2 (row_notBlk hown hgh (by decide) hr) (row_notBlk hown hgk (by decide) hr))))
     ((hRO.out.holeN (fun v l ho r hr => hN r (ownBlock_cells ho r hr).choose_spec.2 (row_notBlk ho hgh (by decide) hr) (row_notBlk ho hgk (by decide) hr))).ok))
    go_wp2_with fail
    go_ret2
    exact ⟨hXr, .inr ⟨HVV.out, gh, gq, _, rfl, hghz, hgkz, hne, hgh, hgk, HC1.out⟩⟩
 ·have hd : (validS s != 0) = true := by simp [hv]
  have HVV := Lib.hid hv
  clear hv
  generalize hke : validS s = K at *
  have HKE := Lib.hid hke; clear hke
  go_enter Tryz.func37, Tryz.ntmps37
  go_wp2_with fail
  refine HV.out.mono ?_; rintro e w0 ⟨rfl, hx0⟩
  go_wp2_with fail
  go_ret2
  exact ⟨hx0, .inl ⟨by rw [HKE.out]; exact HVV.out, by rw [HKE.out]; rfl⟩⟩
end Go.Proofs.YtpmlcfgbfhgpgaaGreatDoor
/- Words of the statements of chapter 09: equal lists, large, Long, few. -/
namespace Go.Proofs.YtpmlcfgbfhgpgaaGreatDoor
open Go.RowKit Go.Shelf
set_option linter.unusedVariables false
set_option maxHeartbeats 400000 in
theorem sameInts4_c (va vb : Value) (a b : List Int) (w : World) (ha : Ints w va a) (hb : Ints w vb b) :
  Calls Tryz.prog 30 #[va, vb] w (RQ (sameIntsB a b) w) := by
 obtain ⟨aa, ca, rfl, hla, hma, Hca⟩ := ha.open_
 obtain ⟨ab, cb, rfl, hlb, hmb, Hcb⟩ := hb.open_
 clear ha hb
 by_cases hl : a.length = b.length
 ·have H1 : ((a.length : Int) != (b.length : Int)) = false := by simp [hl]
  have hl1 : b.length ≤ a.length := by omega
  have hl2 : a.length ≤ b.length := by omega
  have HL := Lib.hid hl; clear hl
  go_enter Tryz.func30, Tryz.ntmps30
  go_wp2_with fail
  go_loopg [5] a.length (fun m i wr => ∃ k : Nat, k ≤ a.length ∧ a.length ≤ k + m ∧ i = .int .i64 k ∧ (∃ n, wr = w.drewN n) ∧ Hid (∀ j, j < k → (a[j]?.getD 0 == b[j]?.getD 0) = true))
  case atStart => exact ⟨0, by omega, by omega, rfl, ⟨0, rfl⟩, fun j hj => by omega⟩
  case round =>
   obtain ⟨k, hk, hk2, rfl, ⟨nd, hwr⟩, hE⟩ := hrel
   have hwx : Ext w wr := by rw [hwr]; exact Ext.drewN _ _
   have HW := Lib.hid hwr; clear hwr
   by_cases hlt : k < a.length
   ·obtain ⟨ba, oa, rfl, hc1⟩ := Hca.out k hlt
    obtain ⟨bb, ob, rfl, hc2⟩ := Hcb.out k (by omega)
    replace hc1 := hwx.keep hc1
    replace hc2 := hwx.keep hc2
    generalize hx : a[k]?.getD 0 = x at *
    generalize hy : b[k]?.getD 0 = y at *
    have Hx := Lib.hid hx; have Hy := Lib.hid hy; clear hx hy
    by_cases hxy : x = y
    ·subst hxy
     have hn : (x != x) = false := by simp
     go_wp2_with fail
     go_quiet (fail)
     go_wp2_with fail
     go_roundg (gk-1)
     case measure => omega
     case rel => exact ⟨k+1, by omega, by omega, by go_num, ⟨_, by rw [HW.out, World.drewN_drewN]⟩, range_step hE.out (by rw [Hx.out, Hy.out]; simp)⟩
    ·have hn : (x != y) = true := by simp [hxy]
     have HX := Lib.hid hxy; clear hxy
     go_wp2_with fail
     go_quiet (fail)
     go_wp2_with fail
     go_ret
     exact RQ.mkW (n := nd) (by rw [sameIntsB, allB_false hlt (by rw [Hx.out, Hy.out]; simpa using HX.out)]; simp) HW.out _
   ·go_wp2_with fail
    go_ret
    exact RQ.mkV (n := nd) (by rw [sameIntsB, allB_true (fun j hj => hE.out j (by omega))]; simp [HL.out]) HW.out
 ·have H1 : ((a.length : Int) != (b.length : Int)) = true := by simp; omega
  have HL := Lib.hid hl; clear hl
  go_enter Tryz.func30, Tryz.ntmps30
  go_wp2_with fail
  go_ret
  exact RQ.mk0 (by have := HL.out; simp [sameIntsB, this])
set_option maxHeartbeats 2000000 in
set_option maxRecDepth 100000 in
theorem sameChs4_c (va vb : Value) (a b : List Ch) (w : World) (ha : Chs w va a) (hb : Chs w vb b) :
  Calls Tryz.prog 29 #[va, vb] w (RV (.bool (decide (a = b))) w) := by
 obtain ⟨aa, ca, rfl, hla, hma, Hca⟩ := ha.open_
 obtain ⟨ab, cb, rfl, hlb, hmb, Hcb⟩ := hb.open_
 clear ha hb
 by_cases hl : a.length = b.length
 ·have H1 : ((a.length : Int) != (b.length : Int)) = false := by simp [hl]
  have hl1 : b.length ≤ a.length := by omega
  have hl2 : a.length ≤ b.length := by omega
  have HL := Lib.hid hl; clear hl
  go_enter Tryz.func29, Tryz.ntmps29
  go_wp2_with fail
  go_loopg [5] a.length (fun m i wr => ∃ k : Nat, k ≤ a.length ∧ a.length ≤ k + m ∧ i = .int .i64 k ∧ Ext w wr ∧ Hid (∀ j, j < k → a[j]? = b[j]?))
  case atStart => exact ⟨0, by omega, by omega, rfl, Ext.refl _, fun j hj => by omega⟩
  case round =>
   obtain ⟨k, hk, hk2, rfl, hwx, hE⟩ := hrel
   by_cases hlt : k < a.length
   ·have hltb : k < b.length := by omega
    obtain ⟨ba, oa, rfl, hc1⟩ := Hca.out k _ (List.getElem?_eq_getElem hlt)
    obtain ⟨bb, ob, rfl, hc2⟩ := Hcb.out k _ (List.getElem?_eq_getElem (show k < b.length by omega))
    have Hx := Lib.hid (List.getElem?_eq_getElem hlt)
    have Hy := Lib.hid (List.getElem?_eq_getElem (show k < b.length by omega))
    generalize a[k] = x at *
    generalize b[k] = y at *
    obtain ⟨x1, x2, x3⟩ := x
    obtain ⟨y1, y2, y3⟩ := y
    have p0 := hwx.keep (hc1 0 _ rfl)
    have p1 := hwx.keep (hc1 1 _ rfl)
    have p2 := hwx.keep (hc1 2 _ rfl)
    have q0 := hwx.keep (hc2 0 _ rfl)
    have q1 := hwx.keep (hc2 1 _ rfl)
    have q2 := hwx.keep (hc2 2 _ rfl)
    rw [Nat.add_zero] at p0 q0
    clear hc1 hc2
    by_cases h1 : x1 = y1
    ·subst h1
     by_cases h2 : x2 = y2
     ·subst h2
      by_cases h3 : x3 = y3
      ·subst h3
       go_wp2_with fail
       go_quiet (fail)
       go_wp2_with fail
       go_roundg (gk-1)
       case measure => omega
       case rel => exact ⟨k+1, by omega, by omega, by go_num, hwx.trans (Ext.drewN _ _), fun j hj => by
        by_cases e : j = k
        ·subst e; rw [Hx.out, Hy.out]
        ·exact hE.out j (by omega)⟩
      ·have HX := Lib.hid h3
       go_wp2_with fail
       go_quiet (fail)
       go_wp2_with fail
       go_ret
       exact RV.bool (by rw [decide_eq_false]; intro h; subst h; have h2 := Hx.out.symm.trans Hy.out; simp at h2; exact HX.out (by first | exact h2.1 | exact h2)) (hwx.trans (Ext.drewN _ _))
     ·have HX := Lib.hid h2
      go_wp2_with fail
      go_quiet (fail)
      go_wp2_with fail
      go_ret
      exact RV.bool (by rw [decide_eq_false]; intro h; subst h; have h2 := Hx.out.symm.trans Hy.out; simp at h2; exact HX.out (by first | exact h2.1 | exact h2)) (hwx.trans (Ext.drewN _ _))
    ·have HX := Lib.hid h1
     go_wp2_with fail
     go_quiet (fail)
     go_wp2_with fail
     go_ret
     exact RV.bool (by rw [decide_eq_false]; intro h; subst h; have h2 := Hx.out.symm.trans Hy.out; simp at h2; exact HX.out (by first | exact h2.1 | exact h2)) (hwx.trans (Ext.drewN _ _))
   ·go_wp2_with fail
    go_ret
    exact RV.bool (by
     rw [decide_eq_true]
     refine List.ext_getElem? fun j => ?_
     rcases Nat.lt_or_ge j k with hj | hj
     ·exact hE.out j hj
     ·rw [List.getElem?_eq_none (by omega), List.getElem?_eq_none (by have := HL.out; omega)]) hwx
 ·have H1 : ((a.length : Int) != (b.length : Int)) = true := by simp; omega
  have HL := Lib.hid hl; clear hl
  go_enter Tryz.func29, Tryz.ntmps29
  go_wp2_with fail
  go_ret
  exact RV.bool (by rw [decide_eq_false]; intro h; exact HL.out (by rw [h])) (Ext.refl _)
end Go.Proofs.YtpmlcfgbfhgpgaaGreatDoor
/- Words of the statements of chapter 09: large, Long, few. -/
namespace Go.Proofs.YtpmlcfgbfhgpgaaGreatDoor
open Go.RowKit Go.Shelf
set_option linter.unusedVariables false
def bigR (x : Rul) : Bool := decide (50 < x.t.length) || (decide (50 < x.l.length) || decide (50 < x.r.length))
def largeB (s : List Rul) : Bool := !allB s.length (fun i => !bigR (rulAt s i)) || decide (50 < s.length)
theorem largeB_no {s : List Rul} (h : ∀ j, j < s.length → bigR (rulAt s j) = false) : largeB s = decide (50 < s.length) := by
 unfold largeB; rw [allB_true (fun j hj => by rw [h j hj]; rfl)]; simp
theorem largeB_yes {s : List Rul} {k : Nat} (hk : k < s.length) (h : bigR (rulAt s k) = true) : largeB s = true := by
 unfold largeB; rw [allB_false hk (by rw [h]; rfl)]; simp
set_option maxHeartbeats 2000000 in
set_option maxRecDepth 100000 in
theorem Large9_c (v : Value) (s : List Rul) (w : World) (h : Ruls w v s) : Calls Tryz.prog 20 #[v] w (RV (.bool (largeB s)) w) := by
 obtain ⟨a, c, rfl, h1, h2, H⟩ := h.lit
 clear h
 go_enter Tryz.func20, Tryz.ntmps20
 go_wp2_with fail
 go_loopg [3] s.length (fun m i wr => ∃ k : Nat, k ≤ s.length ∧ s.length ≤ k + m ∧ i = .int .i64 k ∧ w = wr ∧ Hid (∀ j, j < k → bigR (rulAt s j) = false))
 case atStart => exact ⟨0, by omega, by omega, rfl, rfl, fun j hj => by omega⟩
 case round =>
  obtain ⟨k, hk, hk2, rfl, rfl, hE⟩ := hrel
  by_cases hlt : k < s.length
  ·obtain ⟨b, o, rfl, ta, tc, la, lc, ra, rc, d0, d1, d2, d3, hr⟩ := H.out k hlt
   clear hr
   generalize hy : rulAt s k = y at *
   have HY := Lib.hid hy; clear hy
   by_cases q1 : 50 < y.t.length
   ·have q1' : (50 : Int) < (y.t.length : Int) := by omega
    have HQ : Hid (bigR y = true) := Lib.hid (by unfold bigR; simp [q1])
    go_wp2_with fail
    go_ret
    exact RV.bool (by rw [largeB_yes hlt (by rw [HY.out]; exact HQ.out)]) (Ext.refl _)
   ·have q1' : ¬ (50 : Int) < (y.t.length : Int) := by omega
    by_cases q2 : 50 < y.l.length
    ·have q2' : (50 : Int) < (y.l.length : Int) := by omega
     have HQ : Hid (bigR y = true) := Lib.hid (by unfold bigR; simp [q2])
     go_wp2_with fail
     go_ret
     exact RV.bool (by rw [largeB_yes hlt (by rw [HY.out]; exact HQ.out)]) (Ext.refl _)
    ·have q2' : ¬ (50 : Int) < (y.l.length : Int) := by omega
     by_cases q3 : 50 < y.r.length
     ·have q3' : (50 : Int) < (y.r.length : Int) := by omega
      have HQ : Hid (bigR y = true) := Lib.hid (by unfold bigR; simp [q3])
      go_wp2_with fail
      go_ret
      exact RV.bool (by rw [largeB_yes hlt (by rw [HY.out]; exact HQ.out)]) (Ext.refl _)
     ·have q3' : ¬ (50 : Int) < (y.r.length : Int) := by omega
      have HQ : Hid (bigR y = false) := Lib.hid (by unfold bigR; simp [q1, q2, q3])
      go_wp2_with fail
      go_roundg (gk-1)
      case measure => omega
      case rel => exact ⟨k+1, by omega, by omega, by go_num, rfl, range_step hE.out (by rw [HY.out]; exact HQ.out)⟩
  ·have HF := Lib.hid (largeB_no (fun j hj => hE.out j (by omega)))
   by_cases q : 50 < s.length
   ·have q' : (50 : Int) < (s.length : Int) := by omega
    go_wp2_with fail
    go_ret
    exact RV.bool (by rw [HF.out]; simp; omega) (Ext.refl _)
   ·have q' : ¬ (50 : Int) < (s.length : Int) := by omega
    go_wp2_with fail
    go_ret
    exact RV.bool (by rw [HF.out]; simp; omega) (Ext.refl _)
def longT (l : List ByteArray) : Bool := !allB l.length (fun i => !decide (400 < (l[i]?.getD ByteArray.empty).size)) || decide (300 < l.length)
theorem longT_no {s : List ByteArray} (h : ∀ j, j < s.length → decide (400 < (s[j]?.getD ByteArray.empty).size) = false) : longT s = decide (300 < s.length) := by
 unfold longT; rw [allB_true (fun j hj => by rw [h j hj]; rfl)]; simp
theorem longT_yes {s : List ByteArray} {k : Nat} (hk : k < s.length) (h : decide (400 < (s[k]?.getD ByteArray.empty).size) = true) : longT s = true := by
 unfold longT; rw [allB_false hk (by rw [h]; rfl)]; simp
theorem longT_ok {l : List ByteArray} (h : longT l = false) : l.length ≤ 300 ∧ ∀ t ∈ l, t.size ≤ 400 := by
 unfold longT at h
 rw [Bool.or_eq_false_iff, Bool.not_eq_false', allB_iff] at h
 refine ⟨by simpa using h.2, fun t ht => ?_⟩
 obtain ⟨i, hi, rfl⟩ := List.mem_iff_getElem.1 ht
 have := h.1 i hi
 rw [List.getElem?_eq_getElem hi, Option.getD_some] at this
 simpa using this
set_option maxHeartbeats 1000000 in
set_option maxRecDepth 100000 in
theorem Long9_c (v : Value) (l : List ByteArray) (w : World) (h : Strs w v l) : Calls Tryz.prog 21 #[v] w (RV (.bool (longT l)) w) := by
 obtain ⟨a, c, rfl, h1, h2, H⟩ := h.at_
 clear h
 go_enter Tryz.func21, Tryz.ntmps21
 go_wp2_with fail
 go_loopg [3] l.length (fun m i wr => ∃ k : Nat, k ≤ l.length ∧ l.length ≤ k + m ∧ i = .int .i64 k ∧ w = wr ∧ Hid (∀ j, j < k → decide (400 < (l[j]?.getD ByteArray.empty).size) = false))
 case atStart => exact ⟨0, by omega, by omega, rfl, rfl, fun j hj => by omega⟩
 case round =>
  obtain ⟨k, hk, hk2, rfl, rfl, hE⟩ := hrel
  by_cases hlt : k < l.length
  ·obtain ⟨b, o, rfl, d0⟩ := H.out k hlt
   have HY : Hid (l[k]?.getD ByteArray.empty = l[k]) := Lib.hid (by rw [List.getElem?_eq_getElem hlt]; rfl)
   generalize l[k] = y at *
   by_cases q1 : 400 < y.size
   ·have q1' : (400 : Int) < (y.size : Int) := by omega
    have HQ : Hid (decide (400 < y.size) = true) := Lib.hid (by simp [q1])
    go_wp2_with fail
    go_ret
    exact RV.bool (by rw [longT_yes hlt (by rw [HY.out]; exact HQ.out)]) (Ext.refl _)
   ·have q1' : ¬ (400 : Int) < (y.size : Int) := by omega
    have HQ : Hid (decide (400 < y.size) = false) := Lib.hid (by simp; omega)
    go_wp2_with fail
    go_roundg (gk-1)
    case measure => omega
    case rel => exact ⟨k+1, by omega, by omega, by go_num, rfl, range_step hE.out (by rw [HY.out]; exact HQ.out)⟩
  ·have HF := Lib.hid (longT_no (fun j hj => hE.out j (by omega)))
   by_cases q : 300 < l.length
   ·have q' : (300 : Int) < (l.length : Int) := by omega
    go_wp2_with fail
    go_ret
    exact RV.bool (by rw [HF.out]; simp; omega) (Ext.refl _)
   ·have q' : ¬ (300 : Int) < (l.length : Int) := by omega
    go_wp2_with fail
    go_ret
    exact RV.bool (by rw [HF.out]; simp; omega) (Ext.refl _)
set_option maxHeartbeats 1000000 in
set_option maxRecDepth 100000 in
theorem few_c (S : Nat → Bool) (v : Value) (l : List ByteArray) (w : World) (hS : ∀ k, S k = true → k < w.heap.size) (h : Strs (hole S w) v l) : Calls Tryz.prog 25 #[v] w fun e w' => ∃ u, e = .returned u ∧ Strs (hole S w') u (l.take 30) ∧ Ext w w' := by
 have HH := Lib.hid h
 obtain ⟨a, c, rfl, h1, h2, H⟩ := h.open_
 clear h
 by_cases hl : 30 < l.length
 ·have hl' : (30 : Int) < (l.length : Int) := by omega
  have hc : 30 ≤ c := by omega
  have hc' : (30 : Int) ≤ (c : Int) := by omega
  have HT := Lib.hid (Cel.takeS (HH.out.sub (hole_sub S w)) (m := 30) (by omega))
  have HTL : Hid ((l.take 30).length = 30) := Lib.hid (by simp; omega)
  have hown : (w.alloc (.cells #[] 9)).ownsRow w.heap.size 9 1 (.slice (some ⟨w.heap.size, 0, none⟩) 0 0) 0 [] :=
   World.ownsRow_lit (size := 1) w #[] 0 (Nat.le_refl _) (by unfold maxLen; omega) rfl
  have HR : Hid (Raw (w.alloc (.cells #[] 9)) 1 (.slice a 30 c) 30 ((l.take 30).flatMap encT)) := Lib.hid (by
   have := Cel.raw encT_len (by omega) (HT.out.ext (Ext.alloc w (.cells #[] 9)))
   rwa [HTL.out] at this)
  go_enter Tryz.func25, Tryz.ntmps25
  go_wp2_with (at_builtin; refine wpList_appendAll elStr rfl _ _ rfl rfl rfl hown HR.out (flat_one encT_one) (by simp) (by omega) (by omega) ?_; intro v' w' hown2 hb2)
  go_ret
  refine ⟨_, rfl, ?_, (Ext.alloc _ _).upto hb2 (by simp)⟩
  rw [Nat.zero_add, List.nil_append] at hown2
  have ho : OCel encT 1 9 w' w.heap.size v' (l.take 30) := by
   unfold OCel; rw [HTL.out]; exact hown2
  exact Cel.own encT_len (OCel.hole ho hS)
 ·have hl' : ¬ (30 : Int) < (l.length : Int) := by omega
  go_enter Tryz.func25, Tryz.ntmps25
  go_wp2_with fail
  go_ret
  exact ⟨_, rfl, by rw [List.take_of_length_le (by omega)]; exact HH.out, Ext.refl _⟩
end Go.Proofs.YtpmlcfgbfhgpgaaGreatDoor
/- The chapter's examples: plain. -/
namespace Go.Proofs.YtpmlcfgbfhgpgaaGreatDoor
open Go.RowKit Go.Shelf
set_option linter.unusedVariables false
def kS : List Rul := [⟨0, [1], [], []⟩, ⟨1, [2], [], []⟩]
def L8 : List ByteArray := [⟨#[108, 101, 97, 114, 110, 32, 48]⟩, ⟨#[114, 101, 97, 100, 32, 48, 48]⟩, ⟨#[115, 116, 101, 112]⟩, ⟨#[115, 97, 121]⟩, ⟨#[101, 110, 100]⟩, ⟨#[115, 97, 121]⟩, ⟨#[108, 101, 97, 114, 110, 32, 49]⟩, ⟨#[101, 110, 100]⟩]
def W8 : List Int := [0, 0, 0, 6, 0, 0, 0, 0]
theorem kS_ok : validS kS = 0 := by decide +kernel
theorem k8_do : ((List.range 8).all fun k => (doS kS (runS kS st0 (L8.take k)) (L8[k]?.getD ByteArray.empty)).2 == W8[k]?.getD 0) = true := by decide +kernel
theorem k8_last : lastW (runS kS st0 L8) = [2, 2] := by decide +kernel
theorem k8_has : (runS kS st0 L8).has = true := by decide +kernel
theorem k8_slate : (runS kS st0 L8).slate.length = 4 := by decide +kernel
theorem k8_write : writeB [⟨#[115, 97, 121]⟩] = [54, 56, 54, 57, 55, 49, 32, 115, 97, 121, 10] := by decide +kernel
theorem k8_writeK : writeK [⟨#[115, 97, 121]⟩] = 0 := by decide +kernel
end Go.Proofs.YtpmlcfgbfhgpgaaGreatDoor
/- The chapter's examples: the walk. -/
namespace Go.Proofs.YtpmlcfgbfhgpgaaGreatDoor
open Go.RowKit Go.Shelf
set_option linter.unusedVariables false
theorem kS_ruls {W : World} {a b c : Nat} (hA : Blk W a 3 [.int .i64 1]) (hB : Blk W b 3 [.int .i64 2]) (hC : Blk W c 70 [.int .i64 0, .slice (some ⟨a, 0, none⟩) 1 1, .slice none 0 0, .slice none 0 0, .int .i64 1, .slice (some ⟨b, 0, none⟩) 1 1, .slice none 0 0, .slice none 0 0]) : Ruls W (.slice (some ⟨c, 0, none⟩) 2 2) kS := by
 have h1 : Ints W (.slice (some ⟨a, 0, none⟩) 1 1) [1] := BInts.ints (l := [1]) hA (by simp)
 have h2 : Ints W (.slice (some ⟨b, 0, none⟩) 1 1) [2] := BInts.ints (l := [2]) hB (by simp)
 refine ⟨some ⟨c, 0, none⟩, 2, rfl, Nat.le_refl _, by unfold maxLen; omega, fun i hi => ⟨c, 0, rfl, ?_⟩⟩
 have hi2 : i < 2 := hi
 obtain rfl | rfl : i = 0 ∨ i = 1 := by omega
 ·exact ⟨_, _, _, hC.cell (i := 0) rfl, hC.cell (i := 1) rfl, hC.cell (i := 2) rfl, hC.cell (i := 3) rfl, ⟨h1, ints_nilS W, ints_nilS W⟩⟩
 ·exact ⟨_, _, _, hC.cell (i := 4) rfl, hC.cell (i := 5) rfl, hC.cell (i := 6) rfl, hC.cell (i := 7) rfl, ⟨h2, ints_nilS W, ints_nilS W⟩⟩
theorem strs_one {W : World} {g : Nat} {t : ByteArray} (h : Blk W g 9 [.string t]) : Strs W (.slice (some ⟨g, 0, none⟩) 1 1) [t] := by
 refine ⟨some ⟨g, 0, none⟩, 1, rfl, Nat.le_refl _, by unfold maxLen; omega, fun i hi => ⟨g, 0, rfl, fun j x u hx hu => ?_⟩⟩
 have hi0 : i = 0 := by simp at hi; omega
 subst hi0
 simp only [List.getElem?_cons_zero, Option.some.injEq] at hx
 subst hx
 have hj : j = 0 := by have := (List.getElem?_eq_some_iff.1 hu).1; simp [encT] at this; omega
 subst hj
 simp only [encT, List.getElem?_cons_zero, Option.some.injEq] at hu
 subst hu
 exact h.cell rfl
theorem k8_at {k : Nat} (hk : k < L8.length) : (doS kS (runS kS st0 (L8.take k)) L8[k]).2 = W8[k]?.getD 0 := by
 have := k8_do
 rw [List.all_eq_true] at this
 have := this k (by simpa [L8] using hk)
 rw [List.getElem?_eq_getElem hk, Option.getD_some] at this
 simpa using this
theorem L8_size : ∀ t ∈ L8, t.size ≤ 400 := by decide +kernel
set_option maxHeartbeats 8000000 in
set_option maxRecDepth 100000 in
theorem sane_c (w : World) (hE : Env w) (hT : ErrT w) (h7 : 7 ≤ w.heap.size) : Calls Tryz.prog 22 #[] w (RV (.bool true) w) := by
 obtain ⟨wR, hwR⟩ : ∃ wR, wR = ((w.alloc (.cells #[.int .i64 1] 3)).alloc (.cells #[.int .i64 2] 3)).alloc (.cells #[.int .i64 0, .slice (some ⟨w.heap.size, 0, none⟩) 1 1, .slice none 0 0, .slice none 0 0, .int .i64 1, .slice (some ⟨w.heap.size + 1, 0, none⟩) 1 1, .slice none 0 0, .slice none 0 0] 70) := ⟨_, rfl⟩
 have hXR : Ext w wR := by rw [hwR]; exact ((Ext.alloc _ _).trans (Ext.alloc _ _)).trans (Ext.alloc _ _)
 have hA : Blk wR w.heap.size 3 [.int .i64 1] := by rw [hwR]; exact ((Blk.alloc w _ _).ext (Ext.alloc _ _)).ext (Ext.alloc _ _)
 have hB : Blk wR (w.heap.size + 1) 3 [.int .i64 2] := by
  have := (Blk.alloc (w.alloc (.cells #[.int .i64 1] 3)) #[.int .i64 2] 3).ext (Ext.alloc _ (.cells #[.int .i64 0, .slice (some ⟨w.heap.size, 0, none⟩) 1 1, .slice none 0 0, .slice none 0 0, .int .i64 1, .slice (some ⟨w.heap.size + 1, 0, none⟩) 1 1, .slice none 0 0, .slice none 0 0] 70))
  rw [hwR]; simpa using this
 have hC : Blk wR (w.heap.size + 2) 70 [.int .i64 0, .slice (some ⟨w.heap.size, 0, none⟩) 1 1, .slice none 0 0, .slice none 0 0, .int .i64 1, .slice (some ⟨w.heap.size + 1, 0, none⟩) 1 1, .slice none 0 0, .slice none 0 0] := by
  have := Blk.alloc ((w.alloc (.cells #[.int .i64 1] 3)).alloc (.cells #[.int .i64 2] 3)) #[.int .i64 0, .slice (some ⟨w.heap.size, 0, none⟩) 1 1, .slice none 0 0, .slice none 0 0, .int .i64 1, .slice (some ⟨w.heap.size + 1, 0, none⟩) 1 1, .slice none 0 0, .slice none 0 0] 70
  rw [hwR]; simpa using this
 have HN := Lib.hid (New_c (fun _ => false) _ kS wR (fun k hk => by cases hk) (kS_ruls hA hB hC))
 have HWR := Lib.hid hwR; clear hwR hA hB hC
 have HE := Lib.hid (hE.ext hXR)
 have HT := Lib.hid (hT.ext hXR)
 have h7R := Nat.le_trans h7 hXR.size
 go_enter Tryz.func22, Tryz.ntmps22
 go_wp2_with fail
 rw [← HWR.out]
 refine HN.out.mono ?_; rintro e w1 ⟨hx1, ⟨h0, _⟩ | ⟨_, b, m1, rv, v, he, hbz, hSc⟩⟩
 ·exact absurd kS_ok h0
 subst he
 have hb7 : 7 ≤ b := Nat.le_trans h7R hbz
 generalize more (fun _ => false) b = S at *
 go_upto_region 6 with fail
 have hbS := Blk.alloc w1 #[.string ⟨#[108, 101, 97, 114, 110, 32, 48]⟩, .string ⟨#[114, 101, 97, 100, 32, 48, 48]⟩, .string ⟨#[115, 116, 101, 112]⟩, .string ⟨#[115, 97, 121]⟩, .string ⟨#[101, 110, 100]⟩, .string ⟨#[115, 97, 121]⟩, .string ⟨#[108, 101, 97, 114, 110, 32, 49]⟩, .string ⟨#[101, 110, 100]⟩] 9
 have hxS := Ext.alloc w1 (.cells #[.string ⟨#[108, 101, 97, 114, 110, 32, 48]⟩, .string ⟨#[114, 101, 97, 100, 32, 48, 48]⟩, .string ⟨#[115, 116, 101, 112]⟩, .string ⟨#[115, 97, 121]⟩, .string ⟨#[101, 110, 100]⟩, .string ⟨#[115, 97, 121]⟩, .string ⟨#[108, 101, 97, 114, 110, 32, 49]⟩, .string ⟨#[101, 110, 100]⟩] 9)
 have hz2 : (w1.alloc (.cells #[.string ⟨#[108, 101, 97, 114, 110, 32, 48]⟩, .string ⟨#[114, 101, 97, 100, 32, 48, 48]⟩, .string ⟨#[115, 116, 101, 112]⟩, .string ⟨#[115, 97, 121]⟩, .string ⟨#[101, 110, 100]⟩, .string ⟨#[115, 97, 121]⟩, .string ⟨#[108, 101, 97, 114, 110, 32, 49]⟩, .string ⟨#[101, 110, 100]⟩] 9)).heap.size = w1.heap.size + 1 := by simp
 generalize w1.alloc (.cells #[.string ⟨#[108, 101, 97, 114, 110, 32, 48]⟩, .string ⟨#[114, 101, 97, 100, 32, 48, 48]⟩, .string ⟨#[115, 116, 101, 112]⟩, .string ⟨#[115, 97, 121]⟩, .string ⟨#[101, 110, 100]⟩, .string ⟨#[115, 97, 121]⟩, .string ⟨#[108, 101, 97, 114, 110, 32, 49]⟩, .string ⟨#[101, 110, 100]⟩] 9) = w2 at *
 have hbW := Blk.alloc w2 #[.int .i64 0, .int .i64 0, .int .i64 0, .int .i64 6, .int .i64 0, .int .i64 0, .int .i64 0, .int .i64 0] 32
 have hxW := Ext.alloc w2 (.cells #[.int .i64 0, .int .i64 0, .int .i64 0, .int .i64 6, .int .i64 0, .int .i64 0, .int .i64 0, .int .i64 0] 32)
 generalize w2.alloc (.cells #[.int .i64 0, .int .i64 0, .int .i64 0, .int .i64 6, .int .i64 0, .int .i64 0, .int .i64 0, .int .i64 0] 32) = w3 at *
 have hbS3 := hbS.ext hxW
 have hX3 := (hx1.trans hxS).trans hxW
 have hSc3 := (hSc.ext hxS).ext hxW
 have HE3 := Lib.hid (HE.out.ext hX3)
 have HT3 := Lib.hid (HT.out.ext hX3)
 have hne1 : w1.heap.size ≠ b := fun e => by have := hSc.hb.lt; omega
 have hne2 : w2.heap.size ≠ b := fun e => by have := hSc.hb.lt; have := hxS.size; omega
 rw [hz2] at hbW hne2
 clear hz2
 generalize w1.heap.size = g1 at *
 clear hbS hSc hxS hxW
 go_wp2_with fail
 go_loopg [5] 8 (fun m i wr => ∃ (k : Nat) (v' : SV), k ≤ 8 ∧ 8 ≤ k + m ∧ i = .int .i64 k ∧ ExtX (one b) w3 wr ∧ SchF S b m1 rv v' (runS kS st0 (L8.take k)) kS wr)
 case atStart => exact ⟨0, v, by omega, by omega, rfl, ExtX.refl _ _, hSc3⟩
 case round =>
  obtain ⟨k, v', hk1, hk2, rfl, hEr, hSr⟩ := hrel
  have hbSr := hbS3.extX hEr hne1
  have hbWr := hbW.extX hEr hne2
  by_cases hlt : k < 8
  ·have hlt' : (k : Int) < 8 := by omega
   have hltL : k < L8.length := hlt
   have HKk := Lib.hid (k8_at hltL)
   have HDO := Lib.hid (fun W (h : ExtX (one b) w3 W) (h2 : SchF S b m1 rv v' (runS kS st0 (L8.take k)) kS W) => Do_c h2 (HE3.out.extX h hb7) (HT3.out.extX h hb7) hb7 (L8[k]'hltL) (by have := L8_size _ (List.getElem_mem hltL); omega))
   have hsk : ([.string ⟨#[108, 101, 97, 114, 110, 32, 48]⟩, .string ⟨#[114, 101, 97, 100, 32, 48, 48]⟩, .string ⟨#[115, 116, 101, 112]⟩, .string ⟨#[115, 97, 121]⟩, .string ⟨#[101, 110, 100]⟩, .string ⟨#[115, 97, 121]⟩, .string ⟨#[108, 101, 97, 114, 110, 32, 49]⟩, .string ⟨#[101, 110, 100]⟩] : List Value)[k]? = some (.string (L8[k]'hltL)) := by
    rw [show ([.string ⟨#[108, 101, 97, 114, 110, 32, 48]⟩, .string ⟨#[114, 101, 97, 100, 32, 48, 48]⟩, .string ⟨#[115, 116, 101, 112]⟩, .string ⟨#[115, 97, 121]⟩, .string ⟨#[101, 110, 100]⟩, .string ⟨#[115, 97, 121]⟩, .string ⟨#[108, 101, 97, 114, 110, 32, 49]⟩, .string ⟨#[101, 110, 100]⟩] : List Value) = L8.map Value.string from rfl, List.getElem?_map, List.getElem?_eq_getElem hltL]; rfl
   have hwk : ([.int .i64 0, .int .i64 0, .int .i64 0, .int .i64 6, .int .i64 0, .int .i64 0, .int .i64 0, .int .i64 0] : List Value)[k]? = some (.int .i64 (W8[k]?.getD 0)) := by
    rw [show ([.int .i64 0, .int .i64 0, .int .i64 0, .int .i64 6, .int .i64 0, .int .i64 0, .int .i64 0, .int .i64 0] : List Value) = W8.map (Value.int .i64) from rfl, List.getElem?_map, List.getElem?_eq_getElem (show k < W8.length from hlt)]; rfl
   have ts := hbSr.cell hsk
   have tw := hbWr.cell hwk
   have hnn : ∀ z : Int, (z != z) = false := fun z => by simp
   generalize W8[k]?.getD 0 = wk at *
   generalize hTK : L8[k]'hltL = tk at *
   have HTK := Lib.hid hTK; clear hTK
   clear hsk hwk
   go_upto_region 9 with fail
   refine wp_region_treeR (fun a c => ExtX (one b) a c) [] (.look 0 (.look 1 (.look 2 (.look 3 (.look 4 (.look 6 (.look 7 (.look 8 (.look 9 (.one 5 (.look 10 .done))))))))))) (fun w => ExtX.refl _ w) (fun a b c h k => h.trans k) (by kernel_rfl) (by kernel_rfl) (by intro c a d v w h; cases d <;> exact h) ?_
   have hE0 := hEr.trans ((drawnP_ext wr).toX (one b))
   have hS0 := hSr.ext (drawnP_ext wr)
   replace hbSr := hbSr.ext (drawnP_ext wr)
   replace hbWr := hbWr.ext (drawnP_ext wr)
   replace ts := (drawnP_ext wr).keep ts
   replace tw := (drawnP_ext wr).keep tw
   generalize { wr with drawn := wr.drawn + 1 } = W0 at *
   have qs : ∀ q : InC (fun c => ExtX (one b) W0 c), q.w.cell? ⟨g1, k, none⟩ = some (.string tk) := fun q => q.h.cell ts hne1
   have qw : ∀ q : InC (fun c => ExtX (one b) W0 c), q.w.cell? ⟨g1 + 1, k, none⟩ = some (.int .i64 wk) := fun q => q.h.cell tw hne2
   iterate 9 (refine wpTreeR_look rfl (fun K hK => ?_); go_simp; first | (refine hK _ ?_; clear hK K) | (refine ⟨_, fun _ => rfl, hK _ ?_⟩; clear hK K))
   refine wpTreeR_one rfl rfl (fun K hK => ?_)
   go_wp2_with fail
   refine (HDO.out W0 hE0 hS0).mono ?_; rintro e w5 ⟨he, hE5, v5, hB5⟩
   rw [HKk.out] at he
   subst he
   go_wp2_with fail
   refine ⟨.inr hE5, ?_⟩
   iterate 1 (refine wpTreeR_look rfl (fun K hK => ?_); go_simp; first | (refine hK _ ?_; clear hK K) | (refine ⟨_, fun _ => rfl, hK _ ?_⟩; clear hK K))
   refine wpTreeR_done ?_
   go_wp2_with fail
   go_roundg (gk-1)
   case measure => omega
   case rel =>
    refine ⟨k + 1, v5, by omega, by omega, by go_num, hE0.trans hE5, ?_⟩
    rw [List.take_add_one, List.getElem?_eq_getElem hltL, Option.toList_some, runS_append, HTK.out]
    exact hB5
  ·obtain rfl : k = 8 := by omega
   rw [show L8.take 8 = L8 from rfl] at hSr
   have HW := Lib.hid (fun W (h : Ext wr W) => Word_c (hSr.ext h))
   have HSL := Lib.hid (fun W (h : Ext wr W) => Slate_c (hSr.ext h))
   simp only [k8_last, k8_has] at HW
   have HLEN := Lib.hid k8_slate
   generalize runS kS st0 L8 = x8 at *
   have HEr := Lib.hid (HE3.out.extX hEr hb7)
   have HXr : Hid (ExtX (one b) w3 wr) := Lib.hid hEr
   clear hSr hEr hbSr hbWr
   go_wp2_with fail
   refine (HW.out wr (Ext.refl _)).mono ?_; rintro e w5 ⟨u5, rfl, ho5, hx5⟩
   obtain ⟨a5, c5, hu5, _⟩ := ho5.ints.open_
   subst hu5
   have hb6 := Blk.alloc w5 #[.string ⟨#[115, 97, 121]⟩] 9
   have hx6 := Ext.alloc w5 (.cells #[.string ⟨#[115, 97, 121]⟩] 9)
   have HWT := Lib.hid (Write_c _ [⟨#[115, 97, 121]⟩] _ (strs_one hb6) (HEr.out.ext (hx5.trans hx6)))
   simp only [k8_write, k8_writeK] at HWT
   go_wp2_with fail
   refine HWT.out.mono ?_; rintro e w7 ⟨rfl, hx7⟩
   have hb8 := Blk.alloc w7 #[.int .i64 2, .int .i64 2] 3
   have hx8 := Ext.alloc w7 (.cells #[.int .i64 2, .int .i64 2] 3)
   have HSI := Lib.hid (sameInts4_c (.slice a5 [(2 : Int), 2].length c5) (.slice (some ⟨w7.heap.size, 0, none⟩) 2 2) [2, 2] [2, 2] _ (ho5.ints.ext ((hx6.trans hx7).trans hx8)) (BInts.ints (l := [2, 2]) hb8 (by simp)))
   simp only [show sameIntsB [2, 2] [2, 2] = true from by decide] at HSI
   have hX8 := (hx5.trans hx6).trans (hx7.trans hx8)
   go_wp2_with fail
   refine HSI.out.mono ?_; rintro e w9 ⟨rfl, n9, hw9⟩
   have hX9 : Ext wr w9 := by rw [hw9]; exact hX8.trans (Ext.drewN _ _)
   clear hw9
   go_wp2_with fail
   refine (HSL.out w9 hX9).mono ?_; rintro e w10 ⟨u10, rfl, ho10, hx10⟩
   obtain ⟨a10, c10, hu10, _⟩ := (Cel.own encCh_len ho10).open_
   rw [HLEN.out] at hu10
   subst hu10
   go_wp2_with fail
   go_ret
   exact ⟨rfl, ((((hXR.trans hX3).toX (one b)).trans HXr.out).ext (fun k hk => by have := hXR.size; simp [one]; omega)).trans (hX9.trans hx10)⟩
end Go.Proofs.YtpmlcfgbfhgpgaaGreatDoor
/- Words of the statements of chapter 09: schools of both, and those that can't be made. -/
namespace Go.Proofs.YtpmlcfgbfhgpgaaGreatDoor
open Go.RowKit Go.Shelf
set_option linter.unusedVariables false
theorem SchB.more {S : Nat → Bool} {b g : Nat} {m0 m1 rv : Value} {v : SV} {x : St} {s : List Rul} {w w' : World} (h : SchB S b m0 m1 rv v x s w) (hx : Ext w w') (hg : w.heap.size ≤ g) (hg2 : g < w'.heap.size) : SchB (Go.Proofs.YtpmlcfgbfhgpgaaGreatDoor.more S g) b m0 m1 rv v x s w' :=
 ⟨more_in h.hSb, fun k hk => by
  rcases more_or hk with hk | hk
  ·exact Nat.lt_of_lt_of_le (h.hSl k hk) hx.size
  ·rw [hk]; exact hg2, h.hb.ext hx, h.hr.ext (hole_more hx hg), h.hs.ext (hole_more hx hg), h.hI⟩
theorem hole_more2 {S : Nat → Bool} {g g2 : Nat} {w w' : World} (hx : Ext w w') (hg : w.heap.size ≤ g) (hg2 : w.heap.size ≤ g2) : Ext (hole S w) (hole (more (more S g) g2) w') :=
 (hx.toX (fun _ => false)).hole (fun k hk => by cases hk) (fun k hk => more_in (more_in hk)) (fun k hk => by
  rcases more_or hk with h | h
  ·rcases more_or h with h | h
   ·exact .inl h
   ·exact .inr (by omega)
  ·exact .inr (by omega))
theorem SchB.more2 {S : Nat → Bool} {b g g2 : Nat} {m0 m1 rv : Value} {v : SV} {x : St} {s : List Rul} {w w' : World} (h : SchB S b m0 m1 rv v x s w) (hx : Ext w w') (hg : w.heap.size ≤ g) (hg' : g < w'.heap.size) (hg2 : w.heap.size ≤ g2) (hg2' : g2 < w'.heap.size) : SchB (Go.Proofs.YtpmlcfgbfhgpgaaGreatDoor.more (Go.Proofs.YtpmlcfgbfhgpgaaGreatDoor.more S g) g2) b m0 m1 rv v x s w' :=
 ⟨more_in (more_in h.hSb), fun k hk => by
  rcases more_or hk with hk | hk
  ·rcases more_or hk with hk | hk
   ·exact Nat.lt_of_lt_of_le (h.hSl k hk) hx.size
   ·rw [hk]; exact hg'
  ·rw [hk]; exact hg2', h.hb.ext hx, h.hr.ext (hole_more2 hx hg hg2), h.hs.ext (hole_more2 hx hg hg2), h.hI⟩
structure NewR (S : Nat → Bool) (gh gq : Nat) (u : Value) (s : List Rul) (w : World) : Prop where
 hne : gh ≠ gq
 hh : Blk w gh 77 [u, .slice (some ⟨gq, 0, none⟩) s.length s.length, .slice none 0 0, .bool false, .slice none 0 0, .slice none 0 0, .slice none 0 0, .slice none 0 0, .slice none 0 0]
 hq : Blk w gq 4 (List.replicate s.length (.bool false))
 hr : Ruls (hole S w) u s
def RBegin (S : Nat → Bool) (s : List Rul) (w : World) (e : Ending) (w' : World) : Prop :=
 Ext w w' ∧ ((validS s ≠ 0 ∧ e = .returned (.tuple #[.pointer none, .pointer none, .bool false])) ∨
  (validS s = 0 ∧ ∃ b m1 rv v gh gq u, e = .returned (.tuple #[.pointer (some ⟨b, 0, none⟩), .pointer (some ⟨gh, 0, none⟩), .bool true]) ∧ w.heap.size ≤ b ∧ b < gh ∧ b < gq ∧
   SchF (more (more (more S b) gh) gq) b m1 rv v st0 s w' ∧ NewR (more (more (more S b) gh) gq) gh gq u s w'))
set_option maxHeartbeats 4000000 in
set_option maxRecDepth 100000 in
theorem Begin_c (S : Nat → Bool) (v : Value) (s : List Rul) (w : World) (hS : ∀ k, S k = true → k < w.heap.size) (h : Ruls w v s) : Calls Tryz.prog 23 #[v] w (RBegin S s w) := by
 have HN := Lib.hid (New_c S v s w hS h)
 have HR0 := Lib.hid (fun W (q : Ext w W) => rNew_c (fun _ => false) v s W (fun k hk => by cases hk) (h.ext q))
 have HR := Lib.hid (fun W b (q : Ext w W) (hS2 : ∀ k, more S b k = true → k < W.heap.size) => rNew_c (more S b) v s W hS2 (h.ext q))
 obtain ⟨a, c, rfl, _⟩ := h.open_
 clear h
 by_cases hv : validS s = 0
 ·have HV := Lib.hid hv; clear hv
  go_enter Tryz.func23, Tryz.ntmps23
  go_wp2_with fail
  refine HN.out.mono ?_; rintro e w1 ⟨hx1, ⟨h0, _⟩ | ⟨_, b, m1, rv, v, he, hbz, hSc⟩⟩
  ·exact absurd HV.out h0
  subst he
  go_wp2_with fail
  refine (HR.out w1 b hx1 hSc.hSl).mono ?_; rintro e w2 ⟨hx2, ⟨h0, _⟩ | ⟨_, gh, gq, u, he, hz1, hz2, hne, hgh, hgq, hru⟩⟩
  ·exact absurd HV.out h0
  subst he
  have hb1 := hSc.hb.lt
  have HSC := Lib.hid hSc; clear hSc
  go_wp2_with fail
  go_ret3
  exact ⟨hx1.trans hx2, .inr ⟨HV.out, b, m1, rv, v, gh, gq, u, rfl, hbz, by omega, by omega, HSC.out.more2 hx2 hz1 hgh.lt hz2 (Blk.lt hgq), hne, hgh, hgq, hru⟩⟩
 ·have hd : (validS s != 0) = true := by simp [hv]
  have hd2 : (validS s == 0) = false := by simp [hv]
  have HV := Lib.hid hv
  clear hv
  go_enter Tryz.func23, Tryz.ntmps23
  go_wp2_with fail
  refine HN.out.mono ?_; rintro e w1 ⟨hx1, ⟨h0, he⟩ | ⟨h0, _⟩⟩
  rotate_left
  ·exact absurd h0 HV.out
  clear h0
  subst he
  go_wp2_with fail
  refine (HR0.out w1 hx1).mono ?_; rintro e w2 ⟨hx2, ⟨h0, he⟩ | ⟨h0, _⟩⟩
  rotate_left
  ·exact absurd h0 HV.out
  clear h0
  subst he
  generalize hke : validS s = K at *
  have HKE := Lib.hid hke; clear hke
  go_wp2_with fail
  go_ret3
  exact ⟨hx1.trans hx2, .inl ⟨by rw [HKE.out]; exact HV.out, rfl⟩⟩
set_option maxHeartbeats 4000000 in
set_option maxRecDepth 100000 in
theorem failed_c (v : Value) (s : List Rul) (w : World) (h : Ruls w v s) (hv : validS s ≠ 0) (hE : Env w) (hT : ErrT w) (h7 : 7 ≤ w.heap.size) : Calls Tryz.prog 24 #[v] w (RV (.bool true) w) := by
 have HN := Lib.hid (New_c (fun _ => false) v s w (fun k hk => by cases hk) h)
 have HR := Lib.hid (fun W (q : Ext w W) => rNew_c (fun _ => false) v s W (fun k hk => by cases hk) (h.ext q))
 have HS := Lib.hid (fun W (q : Ext w W) => sane_c W (hE.ext q) (hT.ext q) (Nat.le_trans h7 q.size))
 obtain ⟨a, c, rfl, _⟩ := h.open_
 clear h hE hT
 have hd : (validS s != 0) = true := by simp [hv]
 have hd3 : (validS s == validS s) = true := by simp
 have HV := Lib.hid hv
 clear hv
 go_enter Tryz.func24, Tryz.ntmps24
 go_wp2_with fail
 refine HN.out.mono ?_; rintro e w1 ⟨hx1, ⟨h0, he⟩ | ⟨h0, _⟩⟩
 rotate_left
 ·exact absurd h0 HV.out
 clear h0
 subst he
 go_wp2_with fail
 refine (HR.out w1 hx1).mono ?_; rintro e w2 ⟨hx2, ⟨h0, he⟩ | ⟨h0, _⟩⟩
 rotate_left
 ·exact absurd h0 HV.out
 clear h0
 subst he
 generalize hke : validS s = K at *
 clear hke
 go_wp2_with fail
 refine (HS.out w2 (hx1.trans hx2)).mono ?_; rintro e w3 ⟨rfl, hx3⟩
 go_wp2_with fail
 go_ret
 exact ⟨rfl, (hx1.trans hx2).trans hx3⟩
end Go.Proofs.YtpmlcfgbfhgpgaaGreatDoor
/- Statements of chapter 09: plain facts of schools. -/
namespace Go.Proofs.YtpmlcfgbfhgpgaaGreatDoor
open Go.RowKit Go.Shelf
set_option linter.unusedVariables false
end Go.Proofs.YtpmlcfgbfhgpgaaGreatDoor
/- Made: the slate makes the word of the base. -/
namespace Go.Proofs.YtpmlcfgbfhgpgaaGreatDoor
open Go.RowKit Go.Shelf
set_option linter.unusedVariables false
end Go.Proofs.YtpmlcfgbfhgpgaaGreatDoor
/- Arguments that came in, opened into what the walks read. Over any program. -/
namespace Go.Proofs.YtpmlcfgbfhgpgaaGreatDoor
open Go.ChangeShapes Go.WideShapes Go.RowKit
set_option linter.unusedVariables false
section
variable {H : Type} {enc : TypeId × Value → H} {P : Program} {w : World} {base : Nat} {held : Bool}
theorem addr_head {a : Addr} {v : Value} (h : w.cell? (a.add 0) = some v) : ∃ b o, a = ⟨b, o, none⟩ := by
 obtain ⟨b, o, sp⟩ := a
 have hspot : sp = none := by simpa [Addr.add] using World.cell?_spot h
 exact ⟨b, o, by rw [hspot]⟩
def Wf64 (l : List Int) : Prop := ∀ n ∈ l, (Lit.int .i64 n).wf = true
theorem open_Ints {t e : TypeId} {fuel : Nat} {cs : List Value} {x : DataW H × List MemPlace} (ht : P.underlying t = some (.slice e)) (he : P.underlying e = some (.int .i64)) (hc : P.cellsOf e = 1)
  (h : DataW.trod enc P w base (fun _ => true) held fuel t cs = some x) : ∃ v l, cs = [v] ∧ Ints w v l ∧ Wf64 l := by
 rcases open_ints ht he hc h with ⟨rfl, _⟩ | ⟨a, len, cap, zs, rfl, _, hl, hm, hz, _, hcell, hwz⟩
 ·exact ⟨_, [], rfl, ⟨none, 0, rfl, Nat.le_refl _, by unfold maxLen; omega, fun i hi => by simp at hi⟩, fun n hn => by simp at hn⟩
 ·have hz' : zs.length = cap := by simpa using hz
  have hlt : (zs.take len).length = len := by simp; omega
  refine ⟨_, zs.take len, rfl, ⟨some a, cap, by rw [hlt], by rw [hlt]; exact hl, hm, fun i hi => ?_⟩, fun n hn => hwz n (List.mem_of_mem_take hn)⟩
  rw [hlt] at hi
  obtain ⟨b, o, rfl⟩ := addr_head (hcell 0 (by omega))
  refine ⟨b, o, rfl, ?_⟩
  have := hcell i (by omega)
  rw [addr_add] at this
  show w.cell? ⟨b, o + i, none⟩ = _
  rw [this, List.getElem?_take_of_lt hi]
  simp [List.getD]
end
end Go.Proofs.YtpmlcfgbfhgpgaaGreatDoor
/- Lists of rules and of texts that came in, opened into what the walks read. -/
namespace Go.Proofs.YtpmlcfgbfhgpgaaGreatDoor
open Go.ChangeShapes Go.WideShapes Go.ChangeAt Go.RowKit
instance : Inhabited Rul := ⟨⟨0, [], [], []⟩⟩
set_option linter.unusedVariables false
section
variable {H : Type} {enc : TypeId × Value → H} {P : Program} {w : World} {base : Nat} {held : Bool}
theorem open_Ruls {t e s i : TypeId} {f0 f1 f2 f3 : Field} {fuel : Nat} {cs : List Value} {x : DataW H × List MemPlace} (ht : P.underlying t = some (.slice e)) (he : P.underlying e = some (.struct #[f0, f1, f2, f3])) (hc : P.cellsOf e = 4)
  (h0 : f0.type = i) (o0 : f0.offset = 0) (h1 : f1.type = s) (o1 : f1.offset = 1) (h2 : f2.type = s) (o2 : f2.offset = 2) (h3 : f3.type = s) (o3 : f3.offset = 3)
  (cs1 : P.cellsOf s = 1) (hs : P.underlying s = some (.slice i)) (ci : P.cellsOf i = 1) (hi : P.underlying i = some (.int .i64))
  (h : DataW.trod enc P w base (fun _ => true) held fuel t cs = some x) : ∃ v l, cs = [v] ∧ Ruls w v l := by
 rcases Go.Deep.open_slice ht h with ⟨rfl, _⟩ | ⟨a, len, cap, m, n, D, Pl, rfl, _, hl, hm, hmm, _, hx⟩
 ·exact ⟨_, [], rfl, none, 0, rfl, Nat.le_refl _, by unfold maxLen; omega, fun i hi => by simp at hi⟩
 ·have hmm' : m = cap := by simpa using hmm
  rw [hc] at hx
  have key : ∀ k, k < len → ∃ r : Rul, ∃ b o, a = ⟨b, o, none⟩ ∧ ∃ tv lv rv, w.cell? ⟨b, o + k * 4, none⟩ = some (.int .i64 r.f) ∧ w.cell? ⟨b, o + k * 4 + 1, none⟩ = some tv ∧ w.cell? ⟨b, o + k * 4 + 2, none⟩ = some lv ∧ w.cell? ⟨b, o + k * 4 + 3, none⟩ = some rv ∧ RulR w tv lv rv r := by
   intro k hk
   have h00 : ∃ v, w.cell? (a.add 0) = some v := by
    obtain ⟨cs', hcs, _⟩ := hx 0 (by omega)
    obtain ⟨hlen, hcell⟩ := (World.cells?_some hcs).2
    have := hcell 0 (by omega)
    rw [Nat.zero_mul] at this
    have h2 : (a.add 0).add 0 = a.add 0 := by simp [Addr.add]
    rw [h2] at this
    exact ⟨_, this.trans (List.getElem?_eq_getElem (by omega))⟩
   obtain ⟨v00, h00⟩ := h00
   obtain ⟨b, o, rfl⟩ := addr_head h00
   obtain ⟨cs', hcs, htr⟩ := hx k (by omega)
   obtain ⟨hlen, hcell⟩ := (World.cells?_some hcs).2
   obtain ⟨ys, n', _, _, _, hyl, hf⟩ := DataW.trod_struct he htr
   have hyl4 : ys.length = 4 := by simpa using hyl
   match cs', hlen, ys, hyl4 with
   | [u0, u1, u2, u3], _, [y0, y1, y2, y3], _ =>
    have t0 := hf 0 f0 rfl
    have t1 := hf 1 f1 rfl
    have t2 := hf 2 f2 rfl
    have t3 := hf 3 f3 rfl
    rw [h0, o0, ci] at t0
    rw [h1, o1, cs1] at t1
    rw [h2, o2, cs1] at t2
    rw [h3, o3, cs1] at t3
    obtain ⟨q0, hq0, _, _⟩ := DataW.trod_int hi (t0 : DataW.trod enc P w base (fun _ => true) held n' i [u0] = some y0)
    obtain ⟨q1, l1, hq1, i1, _⟩ := open_Ints hs hi ci (t1 : DataW.trod enc P w base (fun _ => true) held n' s [u1] = some y1)
    obtain ⟨q2, l2, hq2, i2, _⟩ := open_Ints hs hi ci (t2 : DataW.trod enc P w base (fun _ => true) held n' s [u2] = some y2)
    obtain ⟨q3, l3, hq3, i3, _⟩ := open_Ints hs hi ci (t3 : DataW.trod enc P w base (fun _ => true) held n' s [u3] = some y3)
    injection hq0 with hq0; injection hq1 with hq1; injection hq2 with hq2; injection hq3 with hq3
    subst hq0 hq1 hq2 hq3
    have e0 := hcell 0 (by omega)
    have e1 := hcell 1 (by omega)
    have e2 := hcell 2 (by omega)
    have e3 := hcell 3 (by omega)
    rw [addr_add, addr_add] at e0 e1 e2 e3
    exact ⟨⟨q0, l1, l2, l3⟩, b, o, rfl, u1, u2, u3, by simpa using e0, by simpa using e1, by simpa using e2, by simpa using e3, ⟨i1, i2, i3⟩⟩
  obtain ⟨F, hF⟩ := Go.Deep.choose_lt (α := Rul) (n := len) key
  refine ⟨_, (List.range len).map F, rfl, some a, cap, by simp, by simpa using hl, hm, fun k hk => ?_⟩
  simp only [List.length_map, List.length_range] at hk
  obtain ⟨b, o, rfl, u⟩ := hF k hk
  have hik : rulAt ((List.range len).map F) k = F k := by simp [rulAt, hk]
  refine ⟨b, o, rfl, ?_⟩
  dsimp only
  rw [hik]
  exact u
theorem open_Strs {t e : TypeId} {fuel : Nat} {cs : List Value} {x : DataW H × List MemPlace} (ht : P.underlying t = some (.slice e)) (he : P.underlying e = some .string) (hc : P.cellsOf e = 1)
  (h : DataW.trod enc P w base (fun _ => true) held fuel t cs = some x) : ∃ v l, cs = [v] ∧ Strs w v l := by
 rcases open_strings ht he hc h with ⟨rfl, _⟩ | ⟨a, len, cap, ss, rfl, _, hl, hm, hz, _, hcell, _⟩
 ·exact ⟨_, [], rfl, none, 0, rfl, Nat.le_refl _, by unfold maxLen; omega, fun i hi => by simp at hi⟩
 ·have hz' : ss.length = cap := by simpa using hz
  have hlt : (ss.take len).length = len := by simp; omega
  refine ⟨_, ss.take len, rfl, some a, cap, by rw [hlt], by rw [hlt]; exact hl, hm, fun i hi => ?_⟩
  rw [hlt] at hi
  obtain ⟨b, o, rfl⟩ := addr_head (hcell 0 (by omega))
  refine ⟨b, o, rfl, fun j x u hx hu => ?_⟩
  match j, hu with
  | 0, hu =>
   have hu' : u = .string x := (Option.some.inj hu).symm
   subst hu'
   have := hcell i (by omega)
   rw [addr_add] at this
   rw [List.getElem?_take_of_lt hi] at hx
   have e : ss.getD i ByteArray.empty = x := by simp [List.getD, hx]
   rw [e] at this
   simpa using this
end
end Go.Proofs.YtpmlcfgbfhgpgaaGreatDoor
