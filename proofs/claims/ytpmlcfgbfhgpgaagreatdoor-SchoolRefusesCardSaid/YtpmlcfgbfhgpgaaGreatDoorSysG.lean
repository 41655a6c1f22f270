/- learn, forget, switch of a school. -/
import Derived.Test.YtpmlcfgbfhgpgaaGreatDoorSysF
namespace Go.Proofs.YtpmlcfgbfhgpgaaGreatDoor
open Go.RowKit Go.Shelf
set_option linter.unusedVariables false
theorem set_kn {S : Nat → Bool} {g B : Nat} {w W : World} {v : SV} {x : St} {l : List Int} {u : Value} (hSg : S g = true) (hSl : ∀ k, S k = true → k < w.heap.size) (hX : Ext w W) (hB : w.heap.size ≤ B) (ho : OInts 3 W B u l)
  (hg : Blk w g 106 (v.cells x)) (hs : StR (hole S w) v x) : RAdv S g ({ x with kn := l }, 0) w (.returned .nilIface) (W.setCell ⟨g, 0, none⟩ u) := by
 have hE : ExtX (one g) w (W.setCell ⟨g, 0, none⟩ u) := (hX.toX _).trans (ExtX.set W g 0 u)
 have hk := hole_keep hSg hE
 have hk2 := hole_keep (w := W) hSg (ExtX.set W g 0 u)
 exact ⟨rfl, hE, { v with kn := u }, (hg.ext hX).set 0 u, (OInts.hole ho (fun k h => by have := hSl k h; omega)).ints.sub hk2, hs.gr.sub hk, hs.base.sub hk, hs.words.sub hk, hs.slate.sub hk, hs.forms.sub hk, hs.orders.sub hk⟩
theorem set_gr {S : Nat → Bool} {g B : Nat} {w W : World} {v : SV} {x : St} {l : List Int} {u : Value} (hSg : S g = true) (hSl : ∀ k, S k = true → k < w.heap.size) (hX : Ext w W) (hB : w.heap.size ≤ B) (ho : OInts 3 W B u l)
  (hg : Blk w g 106 (v.cells x)) (hs : StR (hole S w) v x) : RAdv S g ({ x with gr := l }, 0) w (.returned .nilIface) (W.setCell ⟨g, 1, none⟩ u) := by
 have hE : ExtX (one g) w (W.setCell ⟨g, 1, none⟩ u) := (hX.toX _).trans (ExtX.set W g 1 u)
 have hk := hole_keep hSg hE
 have hk2 := hole_keep (w := W) hSg (ExtX.set W g 1 u)
 exact ⟨rfl, hE, { v with gr := u }, (hg.ext hX).set 1 u, hs.kn.sub hk, (OInts.hole ho (fun k h => by have := hSl k h; omega)).ints.sub hk2, hs.base.sub hk, hs.words.sub hk, hs.slate.sub hk, hs.forms.sub hk, hs.orders.sub hk⟩
theorem hasB_mem {l : List Int} {n : Int} : hasB l n = true ↔ n ∈ l := by rw [hasB_eq]; simp
theorem learn_eq {s : List Rul} {x : St} {n : Nat} (hI : InvE s x) (h1 : n < s.length) (h2 : (n : Int) ∉ x.kn) : teachS s x (.learn n) = ({ x with kn := x.kn.take (x.kn.countP (· < (n : Int))) ++ (n : Int) :: x.kn.drop (x.kn.countP (· < (n : Int))) }, 0) := by
 simp only [teachS]
 rw [if_neg (by omega), if_neg (by rw [hasB_mem]; exact h2), srt_take _ hI.knS, srt_drop _ hI.knS h2]
theorem forget_eq {s : List Rul} {x : St} {n : Nat} (hI : InvE s x) (h1 : n < s.length) (h2 : (n : Int) ∈ x.kn) : teachS s x (.forget n) = ({ x with kn := x.kn.take (x.kn.countP (· < (n : Int))) ++ x.kn.drop (x.kn.countP (· < (n : Int)) + 1) }, 0) := by
 simp only [teachS]
 rw [if_neg (by omega), if_pos (hasB_mem.2 h2), (srt_ne _ hI.knS h2).1]
set_option maxHeartbeats 8000000 in
set_option maxRecDepth 100000 in
theorem learn_c (b : Nat) (rv : Value) (g : Nat) (v : SV) (x : St) (s : List Rul) (S : Nat → Bool) (w : World) (hSg : S g = true) (hSl : ∀ k, S k = true → k < w.heap.size)
  (hb : w.cell? ⟨b, 2, none⟩ = some rv) (hr : Ruls (hole S w) rv s) (hg : Blk w g 106 (v.cells x)) (hs : StR (hole S w) v x) (hI : InvE s x) (n : Nat) (aw : Option Addr) (nw cw : Nat) :
  Calls Tryz.prog 151 #[.pointer (some ⟨b, 0, none⟩), .pointer (some ⟨g, 0, none⟩), .agg #[.int .i64 0, .int .i64 n, .slice aw nw cw]] w (RAdv S g (teachS s x (.learn n)) w) := by
 have HS := Lib.hid hs
 have HG := Lib.hid hg
 obtain ⟨ar, cr, hrv, _, _, _⟩ := hr.lit
 subst hrv
 have hsF := hs.sub (hole_sub S w)
 have hkl : x.kn.length ≤ 6 := by have := hI.kl; have := hI.s6; omega
 have HBS := Lib.hid (fun W (h : Ext w W) => bsearch_c v.kn x.kn n W (hsF.kn.ext h) hI.knS (by omega))
 have HCL := Lib.hid (fun W (h : Ext w W) => cloneInts_c v.kn x.kn W (hsF.kn.ext h) (by omega))
 have HKL := Lib.hid hkl; clear hkl
 obtain ⟨vkn, vgr, vb, vw, vs, vf, vo⟩ := v
 simp only [SV.cells] at hg
 simp only at HBS HCL
 have hbx := Blk.alloc w #[.int .i64 0, .int .i64 n, .slice aw nw cw] 148
 have hX0 := Ext.alloc w (.cells #[.int .i64 0, .int .i64 n, .slice aw nw cw] 148)
 have hsz : w.heap.size ≤ w.heap.size := Nat.le_refl _
 clear hs hsF hr
 by_cases hle : s.length ≤ n
 ·have hle' : (s.length : Int) ≤ (n : Int) := by omega
  rw [show teachS s x (.learn n) = (x, 4) by simp only [teachS]; rw [if_pos hle]]
  clear hI
  go_enter Tryz.func151, Tryz.ntmps151
  go_upto_region 1 with fail
  generalize w.alloc (.cells #[.int .i64 0, .int .i64 n, .slice aw nw cw] 148) = w0 at *
  have k0 := hbx.cell (i := 0) rfl
  have k1 := hbx.cell (i := 1) rfl
  have rb := hX0.keep hb
  go_wp2_with fail
  go_ret
  exact RAdv.same (errV_ret (by decide)) hX0 HG.out HS.out
 ·have hlt : n < s.length := by omega
  have hle' : ¬ (s.length : Int) ≤ (n : Int) := by omega
  have hlt' : (n : Int) < (s.length : Int) := by omega
  by_cases hm : (n : Int) ∈ x.kn
  ·rw [show teachS s x (.learn n) = (x, 5) by simp only [teachS]; rw [if_neg (by omega), if_pos (hasB_mem.2 hm)]]
   rw [show x.kn.contains (n : Int) = true by simpa using hm] at HBS
   clear hI hm
   go_enter Tryz.func151, Tryz.ntmps151
   go_upto_region 1 with fail
   generalize w.alloc (.cells #[.int .i64 0, .int .i64 n, .slice aw nw cw] 148) = w0 at *
   have k0 := hbx.cell (i := 0) rfl
   have k1 := hbx.cell (i := 1) rfl
   have rb := hX0.keep hb
   have g0 := (hg.ext hX0).cell (i := 0) rfl
   go_wp2_with fail
   refine (HBS.out w0 hX0).mono ?_; rintro e w1 ⟨rfl, hx1⟩
   have k0 := (hbx.ext hx1).cell (i := 0) rfl
   go_wp2_with fail
   go_ret
   exact RAdv.same (errV_ret (by decide)) (hX0.trans hx1) HG.out HS.out
  ·rw [learn_eq hI hlt hm]
   rw [show x.kn.contains (n : Int) = false by simpa using hm] at HBS
   have HCP : Hid (x.kn.countP (· < (n : Int)) ≤ x.kn.length) := Lib.hid (List.countP_le_length)
   clear hI hm
   generalize x.kn.countP (· < (n : Int)) = i at *
   go_enter Tryz.func151, Tryz.ntmps151
   go_upto_region 1 with fail
   generalize w.alloc (.cells #[.int .i64 0, .int .i64 n, .slice aw nw cw] 148) = w0 at *
   have k0 := hbx.cell (i := 0) rfl
   have k1 := hbx.cell (i := 1) rfl
   have rb := hX0.keep hb
   have g0 := (hg.ext hX0).cell (i := 0) rfl
   go_wp2_with fail
   refine (HBS.out w0 hX0).mono ?_; rintro e w1 ⟨rfl, hx1⟩
   have hX1 := hX0.trans hx1
   have k0 := (hbx.ext hx1).cell (i := 0) rfl
   have g0 := (hg.ext hX1).cell (i := 0) rfl
   go_wp2_with fail
   refine (HCL.out w1 hX1).mono ?_; rintro e w2 ⟨v2, rfl, ho2, hx2⟩
   have hX2 := hX1.trans hx2
   have hbn := Blk.alloc w2 #[.int .i64 n] 3
   have hxn := Ext.alloc w2 (.cells #[.int .i64 n] 3)
   have HIN := Lib.hid (insert_c w1.heap.size v2 x.kn i n w2.heap.size _ (ho2.ext hxn) hbn (fun e => by have := (ownBlock_cells ho2 w2.heap.size e); obtain ⟨_, h, _⟩ := this; rw [Array.getElem?_eq_none (Nat.le_refl _)] at h; cases h) HCP.out (by have := hx2.size; have := hxn.size; omega) (by have := HKL.out; omega))
   go_wp2_with fail
   refine HIN.out.mono ?_; rintro e w3 ⟨u3, rfl, ho3, hb3⟩
   have hX3 : Ext w w3 := Below.trans (hX2.trans hxn) (hb3.mono hX1.size)
   obtain ⟨a3, c3, hu3, _⟩ := ho3.ints.open_
   generalize List.length _ = L3 at hu3
   subst hu3
   have z0 := (hg.ext hX3).frozen 0
   have y0 := (hg.ext hX3).cell (i := 0) rfl
   go_wp2_with fail
   go_ret
   exact set_kn hSg hSl hX3 hX1.size ho3 HG.out HS.out
set_option maxHeartbeats 8000000 in
set_option maxRecDepth 100000 in
theorem forget_c (b : Nat) (rv : Value) (g : Nat) (v : SV) (x : St) (s : List Rul) (S : Nat → Bool) (w : World) (hSg : S g = true) (hSl : ∀ k, S k = true → k < w.heap.size)
  (hb : w.cell? ⟨b, 2, none⟩ = some rv) (hr : Ruls (hole S w) rv s) (hg : Blk w g 106 (v.cells x)) (hs : StR (hole S w) v x) (hI : InvE s x) (n : Nat) (aw : Option Addr) (nw cw : Nat) :
  Calls Tryz.prog 151 #[.pointer (some ⟨b, 0, none⟩), .pointer (some ⟨g, 0, none⟩), .agg #[.int .i64 1, .int .i64 n, .slice aw nw cw]] w (RAdv S g (teachS s x (.forget n)) w) := by
 have HS := Lib.hid hs
 have HG := Lib.hid hg
 obtain ⟨ar, cr, hrv, _, _, _⟩ := hr.lit
 subst hrv
 have hsF := hs.sub (hole_sub S w)
 have hkl : x.kn.length ≤ 6 := by have := hI.kl; have := hI.s6; omega
 have HBS := Lib.hid (fun W (h : Ext w W) => bsearch_c v.kn x.kn n W (hsF.kn.ext h) hI.knS (by omega))
 have HCL := Lib.hid (fun W (h : Ext w W) => cloneInts_c v.kn x.kn W (hsF.kn.ext h) (by omega))
 have HKL := Lib.hid hkl; clear hkl
 obtain ⟨vkn, vgr, vb, vw, vs, vf, vo⟩ := v
 simp only [SV.cells] at hg
 simp only at HBS HCL
 have hbx := Blk.alloc w #[.int .i64 1, .int .i64 n, .slice aw nw cw] 148
 have hX0 := Ext.alloc w (.cells #[.int .i64 1, .int .i64 n, .slice aw nw cw] 148)
 clear hs hsF hr
 by_cases hle : s.length ≤ n
 ·have hle' : (s.length : Int) ≤ (n : Int) := by omega
  rw [show teachS s x (.forget n) = (x, 4) by simp only [teachS]; rw [if_pos hle]]
  clear hI
  go_enter Tryz.func151, Tryz.ntmps151
  go_upto_region 1 with fail
  generalize w.alloc (.cells #[.int .i64 1, .int .i64 n, .slice aw nw cw] 148) = w0 at *
  have k0 := hbx.cell (i := 0) rfl
  have k1 := hbx.cell (i := 1) rfl
  have rb := hX0.keep hb
  go_wp2_with fail
  go_ret
  exact RAdv.same (errV_ret (by decide)) hX0 HG.out HS.out
 ·have hlt : n < s.length := by omega
  have hle' : ¬ (s.length : Int) ≤ (n : Int) := by omega
  have hlt' : (n : Int) < (s.length : Int) := by omega
  by_cases hm : (n : Int) ∈ x.kn
  ·rw [forget_eq hI hlt hm]
   rw [show x.kn.contains (n : Int) = true by simpa using hm] at HBS
   have HCP := Lib.hid (srt_ne (n : Int) hI.knS hm).2
   clear hI hm
   generalize x.kn.countP (· < (n : Int)) = i at *
   have hwr : IntKind.i64.wrap ((i : Int) + 1) = (i : Int) + 1 := IntWalk.i64_in _ (by have := HCP.out; have := HKL.out; omega)
   go_enter Tryz.func151, Tryz.ntmps151
   go_upto_region 1 with fail
   generalize w.alloc (.cells #[.int .i64 1, .int .i64 n, .slice aw nw cw] 148) = w0 at *
   have k0 := hbx.cell (i := 0) rfl
   have k1 := hbx.cell (i := 1) rfl
   have rb := hX0.keep hb
   have g0 := (hg.ext hX0).cell (i := 0) rfl
   go_wp2_with fail
   refine (HBS.out w0 hX0).mono ?_; rintro e w1 ⟨rfl, hx1⟩
   have hX1 := hX0.trans hx1
   have k0 := (hbx.ext hx1).cell (i := 0) rfl
   have g0 := (hg.ext hX1).cell (i := 0) rfl
   go_wp2_with fail
   refine (HCL.out w1 hX1).mono ?_; rintro e w2 ⟨v2, rfl, ho2, hx2⟩
   have hX2 := hX1.trans hx2
   have HDE := Lib.hid (delete_c w1.heap.size v2 x.kn i w2 ho2 HCP.out (by have := HKL.out; omega))
   go_wp2_with fail
   refine HDE.out.mono ?_; rintro e w3 ⟨u3, rfl, ho3, hb3⟩
   have hX3 : Ext w w3 := Below.trans hX2 (hb3.mono hX1.size)
   obtain ⟨a3, c3, hu3, _⟩ := ho3.ints.open_
   generalize List.length _ = L3 at hu3
   subst hu3
   have z0 := (hg.ext hX3).frozen 0
   have y0 := (hg.ext hX3).cell (i := 0) rfl
   go_wp2_with fail
   go_ret
   exact set_kn hSg hSl hX3 hX1.size ho3 HG.out HS.out
  ·rw [show teachS s x (.forget n) = (x, 8) by simp only [teachS]; rw [if_neg (by omega), if_neg (by rw [hasB_mem]; exact hm)]]
   rw [show x.kn.contains (n : Int) = false by simpa using hm] at HBS
   clear hI hm
   go_enter Tryz.func151, Tryz.ntmps151
   go_upto_region 1 with fail
   generalize w.alloc (.cells #[.int .i64 1, .int .i64 n, .slice aw nw cw] 148) = w0 at *
   have k0 := hbx.cell (i := 0) rfl
   have k1 := hbx.cell (i := 1) rfl
   have rb := hX0.keep hb
   have g0 := (hg.ext hX0).cell (i := 0) rfl
   go_wp2_with fail
   refine (HBS.out w0 hX0).mono ?_; rintro e w1 ⟨rfl, hx1⟩
   have k0 := (hbx.ext hx1).cell (i := 0) rfl
   go_wp2_with fail
   go_ret
   exact RAdv.same (errV_ret (by decide)) (hX0.trans hx1) HG.out HS.out
theorem change_in {s : List Rul} {x : St} {n : Nat} {j : Nat} (hI : InvE s x) (h1 : 1 ≤ n) (h4 : n ≤ 4) (hj : j < x.gr.length) (he : ((n : Int) == x.gr[j]?.getD 0) = true) : teachS s x (.change n) = ({ x with gr := x.gr.take j ++ x.gr.drop (j + 1) }, 0) := by
 have he' : x.gr[j]?.getD 0 = (n : Int) := by have := beq_iff_eq.1 he; exact this.symm
 have hm : (n : Int) ∈ x.gr := by rw [← he', List.getElem?_eq_getElem hj]; exact List.getElem_mem hj
 simp only [teachS]
 rw [if_neg (by omega), if_pos (hasB_mem.2 hm), nodup_ne (n : Int) (validG_zero.1 hI.gr).2.2 hj he']
theorem change_out {s : List Rul} {x : St} {n : Nat} (h1 : 1 ≤ n) (h4 : n ≤ 4) (hn : ∀ i, i < x.gr.length → ((n : Int) == x.gr[i]?.getD 0) = false) : teachS s x (.change n) = ({ x with gr := x.gr ++ [(n : Int)] }, 0) := by
 have hm : ¬ hasB x.gr (n : Int) = true := by
  rw [hasB_mem]; intro hm
  obtain ⟨i, hi, e⟩ := List.mem_iff_getElem.1 hm
  have := hn i hi
  rw [List.getElem?_eq_getElem hi, Option.getD_some, e] at this
  simp at this
 simp only [teachS]
 rw [if_neg (by omega), if_neg hm]
set_option maxHeartbeats 8000000 in
set_option maxRecDepth 100000 in
theorem change_c (b : Nat) (g : Nat) (v : SV) (x : St) (s : List Rul) (S : Nat → Bool) (w : World) (hSg : S g = true) (hSl : ∀ k, S k = true → k < w.heap.size)
  (hg : Blk w g 106 (v.cells x)) (hs : StR (hole S w) v x) (hI : InvE s x) (n : Nat) (aw : Option Addr) (nw cw : Nat) :
  Calls Tryz.prog 151 #[.pointer (some ⟨b, 0, none⟩), .pointer (some ⟨g, 0, none⟩), .agg #[.int .i64 2, .int .i64 n, .slice aw nw cw]] w (RAdv S g (teachS s x (.change n)) w) := by
 have HS := Lib.hid hs
 have HG := Lib.hid hg
 have hsF := hs.sub (hole_sub S w)
 have hgl : x.gr.length ≤ 4 := (validG_zero.1 hI.gr).1
 have HIX := Lib.hid (fun W (h : Ext w W) => index_c v.gr x.gr n W (hsF.gr.ext h))
 have HCL := Lib.hid (fun W (h : Ext w W) => cloneInts_c v.gr x.gr W (hsF.gr.ext h) (by omega))
 have HGL := Lib.hid hgl; clear hgl
 obtain ⟨vkn, vgr, vb, vw, vs, vf, vo⟩ := v
 simp only [SV.cells] at hg
 simp only at HIX HCL
 have hbx := Blk.alloc w #[.int .i64 2, .int .i64 n, .slice aw nw cw] 148
 have hX0 := Ext.alloc w (.cells #[.int .i64 2, .int .i64 n, .slice aw nw cw] 148)
 clear hs hsF
 by_cases hlo : n < 1
 ·have hlo' : (n : Int) < 1 := by omega
  rw [show teachS s x (.change n) = (x, 4) by simp only [teachS]; rw [if_pos (by omega)]]
  clear hI
  go_enter Tryz.func151, Tryz.ntmps151
  go_upto_region 1 with fail
  generalize w.alloc (.cells #[.int .i64 2, .int .i64 n, .slice aw nw cw] 148) = w0 at *
  have k0 := hbx.cell (i := 0) rfl
  have k1 := hbx.cell (i := 1) rfl
  go_wp2_with fail
  go_ret
  exact RAdv.same (errV_ret (by decide)) hX0 HG.out HS.out
 ·have hlo' : ¬ (n : Int) < 1 := by omega
  by_cases hhi : 4 < n
  ·have hhi' : (4 : Int) < (n : Int) := by omega
   rw [show teachS s x (.change n) = (x, 4) by simp only [teachS]; rw [if_pos (by omega)]]
   clear hI
   go_enter Tryz.func151, Tryz.ntmps151
   go_upto_region 1 with fail
   generalize w.alloc (.cells #[.int .i64 2, .int .i64 n, .slice aw nw cw] 148) = w0 at *
   have k0 := hbx.cell (i := 0) rfl
   have k1 := hbx.cell (i := 1) rfl
   go_wp2_with fail
   go_ret
   exact RAdv.same (errV_ret (by decide)) hX0 HG.out HS.out
  ·have hhi' : ¬ (4 : Int) < (n : Int) := by omega
   rcases firstIdx_cases x.gr.length (fun i => (n : Int) == x.gr[i]?.getD 0) with ⟨j, hj, ht, _, he⟩ | ⟨hn, he⟩
   ·rw [change_in hI (by omega) (by omega) hj ht]
    rw [he] at HIX
    have HJ := Lib.hid hj
    clear hI he ht hj
    have hwr : IntKind.i64.wrap ((j : Int) + 1) = (j : Int) + 1 := IntWalk.i64_in _ (by have := HJ.out; have := HGL.out; omega)
    go_enter Tryz.func151, Tryz.ntmps151
    go_upto_region 1 with fail
    generalize w.alloc (.cells #[.int .i64 2, .int .i64 n, .slice aw nw cw] 148) = w0 at *
    have k0 := hbx.cell (i := 0) rfl
    have k1 := hbx.cell (i := 1) rfl
    have g1 := (hg.ext hX0).cell (i := 1) rfl
    go_wp2_with fail
    refine (HIX.out w0 hX0).mono ?_; rintro e w1 ⟨rfl, rfl⟩
    go_wp2_with fail
    refine (HCL.out w0 hX0).mono ?_; rintro e w2 ⟨v2, rfl, ho2, hx2⟩
    have hX2 := hX0.trans hx2
    have HDE := Lib.hid (delete_c w0.heap.size v2 x.gr j w2 ho2 HJ.out (by have := HGL.out; omega))
    go_wp2_with fail
    refine HDE.out.mono ?_; rintro e w3 ⟨u3, rfl, ho3, hb3⟩
    have hX3 : Ext w w3 := Below.trans hX2 (hb3.mono hX0.size)
    obtain ⟨a3, c3, hu3, _⟩ := ho3.ints.open_
    generalize List.length _ = L3 at hu3
    subst hu3
    have z0 := (hg.ext hX3).frozen 1
    have y0 := (hg.ext hX3).cell (i := 1) rfl
    go_wp2_with fail
    go_ret
    exact set_gr hSg hSl hX3 hX0.size ho3 HG.out HS.out
   ·rw [change_out (by omega) (by omega) hn]
    rw [he] at HIX
    clear hI he hn
    go_enter Tryz.func151, Tryz.ntmps151
    go_upto_region 1 with fail
    generalize w.alloc (.cells #[.int .i64 2, .int .i64 n, .slice aw nw cw] 148) = w0 at *
    have k0 := hbx.cell (i := 0) rfl
    have k1 := hbx.cell (i := 1) rfl
    have g1 := (hg.ext hX0).cell (i := 1) rfl
    go_wp2_with fail
    refine (HIX.out w0 hX0).mono ?_; rintro e w1 ⟨rfl, rfl⟩
    go_wp2_with fail
    refine (HCL.out w0 hX0).mono ?_; rintro e w2 ⟨v2, rfl, ho2, hx2⟩
    have hX2 := hX0.trans hx2
    have hs2 := hx2.size
    go_wp2_with (at_builtin; refine wpList_appendInt elInts rfl _ _ rfl rfl rfl ho2 rfl hs2 (by have := HGL.out; omega) ?_; intro u3 w3 ho3 hb3; obtain ⟨a3, c3, hu3, _⟩ := ho3.ints.open_; generalize List.length _ = L3 at hu3; subst hu3; have hX3 : Ext w w3 := Below.trans hX2 (hb3.mono hX0.size); have z0 := (hg.ext hX3).frozen 1; have y0 := (hg.ext hX3).cell (i := 1) rfl)
    go_ret
    exact set_gr hSg hSl hX3 hX0.size ho3 HG.out HS.out
end Go.Proofs.YtpmlcfgbfhgpgaaGreatDoor
