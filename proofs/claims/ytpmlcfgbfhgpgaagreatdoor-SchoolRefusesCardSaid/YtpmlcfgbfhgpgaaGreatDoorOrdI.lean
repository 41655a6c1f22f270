/- The choice for a word, and the winner: the program's way. -/
import Derived.Test.YtpmlcfgbfhgpgaaGreatDoorOrdH
namespace Go.Proofs.YtpmlcfgbfhgpgaaGreatDoor
open Go.RowKit Go.Shelf
set_option linter.unusedVariables false
set_option maxHeartbeats 1000000 in
theorem choice1_c (c d : Can) (g : Nat) (w : World) (ct : ∃ a n m, c.t = .slice a n m) (cl : ∃ a n m, c.l = .slice a n m) (cr : ∃ a n m, c.r = .slice a n m) (hb : Blk w g 165 (encC d)) :
  Calls Tryz.prog 115 (#[canV c] ++ #[.pointer (some ⟨g, 0, none⟩)]) w (RV (.bool (!decide (c.stp = d.stp))) w) := by
 obtain ⟨ck, cp, cf, c1, c2, c3⟩ := c
 obtain ⟨dk, dp, df, d1, d2, d3⟩ := d
 dsimp only at ct cl cr
 obtain ⟨a1, n1, m1, rfl⟩ := ct
 obtain ⟨a2, n2, m2, rfl⟩ := cl
 obtain ⟨a3, n3, m3, rfl⟩ := cr
 unfold encC at hb
 unfold canV Can.stp
 dsimp only at hb ⊢
 have hEA := Ext.alloc w (.cells #[.int .i64 ck, .int .i64 cp, .int .i64 cf, .slice a1 n1 m1, .slice a2 n2 m2, .slice a3 n3 m3] 165)
 have q0 := hEA.keep (hb.cell (i := 0) rfl)
 have q1 := hEA.keep (hb.cell (i := 1) rfl)
 clear hb
 have hq : (!decide ((ck, cp) = (dk, dp))) = !(decide (ck = dk) && decide (cp = dp)) := by
  congr 1; rw [Bool.eq_iff_iff]; simp
 rw [hq]
 clear hq
 by_cases h1 : ck = dk
 ·subst h1
  by_cases h2 : cp = dp
  ·subst h2
   go_enter Tryz.func115, Tryz.ntmps115
   go_wp2_with fail
   go_ret
   exact RV.bool (by simp) hEA
  ·have H2 := Lib.hid h2
   go_enter Tryz.func115, Tryz.ntmps115
   go_wp2_with fail
   go_ret
   exact RV.bool (by simp [H2.out]) hEA
 ·have H1 := Lib.hid h1
  go_enter Tryz.func115, Tryz.ntmps115
  go_wp2_with fail
  go_ret
  exact RV.bool (by simp [H1.out]) hEA
set_option maxHeartbeats 1000000 in
theorem cIndexFunc_c (s : List Rul) (v : Value) (C : List Can) (ST : List Stp) (g : Nat) (lb : Array Value) (p : Nat → Bool) (w : World) (eg : Enters Tryz.prog g) (hC : Cans w s v C ST)
  (hg : ∀ W i, Ext w W → i < C.length → Calls Tryz.prog g (#[canV (canAt C i)] ++ lb) W (RV (.bool (p i)) W)) :
  Calls Tryz.prog 114 #[v, .func (.func g) #[] lb] w (RV (.int .i64 (firstIdx C.length p)) w) := by
 have HOK := Lib.hid hC.ok
 obtain ⟨aa, ca, rfl, hla, hma, H⟩ := hC.cells
 clear hC
 unfold Enters at eg
 have Hg := Lib.hid hg; clear hg
 go_enter Tryz.func114, Tryz.ntmps114
 go_wp2_with fail
 go_loopg [8] C.length (fun m i wr => ∃ k : Nat, k ≤ C.length ∧ C.length ≤ k + m ∧ i = .int .i64 k ∧ Ext w wr ∧ Hid (∀ j, j < k → p j = false))
 case atStart => exact ⟨0, by omega, by omega, rfl, Ext.refl _, fun j hj => by omega⟩
 case round =>
  obtain ⟨k, hk, hk2, rfl, hB, hE⟩ := hrel
  by_cases hlt : k < C.length
  ·obtain ⟨b, o, rfl, c0, c1, c2, c3, c4, c5⟩ := H.out k hlt
   obtain ⟨kn, pn, xn, tan, tcn, lan, lcn, ran, rcn, en, _⟩ := (HOK.out k hlt).lit
   have HG := Lib.hid (Hg.out wr k hB hlt)
   rw [en] at c0 c1 c2 c3 c4 c5 HG
   unfold canV at HG
   dsimp only at c0 c1 c2 c3 c4 c5 HG
   clear en
   replace c0 := hB.keep c0
   replace c1 := hB.keep c1
   replace c2 := hB.keep c2
   replace c3 := hB.keep c3
   replace c4 := hB.keep c4
   replace c5 := hB.keep c5
   generalize hp : p k = b at *
   have HP := Lib.hid hp; clear hp
   cases b
   ·go_wp2_with (go_at_fn g; refine (HG.out).mono ?_; rintro e w' ⟨rfl, hB2⟩)
    go_roundg (gk-1)
    case measure => omega
    case rel => exact ⟨k+1, by omega, by omega, by go_num, hB.trans hB2, range_step hE.out HP.out⟩
   ·go_wp2_with (go_at_fn g; refine (HG.out).mono ?_; rintro e w' ⟨rfl, hB2⟩)
    go_ret
    exact RV.int (by rw [firstIdx_at hlt HP.out hE.out]) (hB.trans hB2)
  ·go_wp2_with fail
   go_ret
   exact RV.int (by rw [firstIdx_none (fun j hj => hE.out j (by omega))]) hB
theorem firstIdx_ne {n I : Nat} (hI : I < n) : firstIdx n (fun i => !decide (i = I)) = if 1 < n then (if I = 0 then 1 else 0) else -1 := by
 by_cases h1 : 1 < n
 ·rw [if_pos h1]
  by_cases h0 : I = 0
  ·rw [if_pos h0]
   have := firstIdx_at (n := n) (f := fun i => !decide (i = I)) (j := 1) h1 (by simp [h0]) (fun i hi => by simp; omega)
   simpa using this
  ·rw [if_neg h0]
   have := firstIdx_at (n := n) (f := fun i => !decide (i = I)) (j := 0) (by omega) (by simp; omega) (fun i hi => by omega)
   simpa using this
 ·rw [if_neg h1]
  exact firstIdx_none fun i hi => by simp; omega
def chV (c : Option Ch) : Value := match c with | some c => .agg #[.int .i64 c.1, .int .i64 c.2.1, .int .i64 c.2.2] | none => .agg #[.int .i64 0, .int .i64 0, .int .i64 0]
theorem validS_rule {s : List Rul} (h : validS s = 0) {k : Nat} (hk : k < s.length) : validR (rulAt s k) = 0 := by
 unfold validS at h; split at h
 ·cases h
 ·exact errS_ok h k hk
theorem validR_t {x : Rul} (h : validR x = 0) : x.t.length ≤ 2 := by
 unfold validR at h
 split at h
 ·split at h
  ·cases h
  ·omega
 ·cases h
theorem cans_of {w w' : World} {s : List Rul} {l : List Int} {v : Value} {C : List Can} (hx : Ext w w') (ho : OCel encC 6 165 w' w.heap.size v C) (hC : CansIs w s C (stpsL s l)) : Cans w' s v C (stpsL s l) := by
 refine ⟨Cel.own encC_len ho, hC.is, fun i hi => ?_, fun i k hi hk => ?_⟩
 ·have hm : C[i] ∈ C := List.getElem_mem hi
  have e : canAt C i = C[i] := by unfold canAt; rw [List.getElem?_eq_getElem hi]; rfl
  have hst : C[i].stp ∈ stpsL s l := by rw [← hC.is]; exact List.mem_map_of_mem hm
  have hat := stpsL_at hst
  rw [e]
  have hok := (hC.ok _ hm).ext hx
  by_cases h0 : checkW s l = 0
  ·obtain ⟨hs6, hl8, hv, _⟩ := checkW_len h0
   unfold Can.stp at hat
   dsimp only at hat
   refine ⟨hok.f, hok.r, hat.2.1, by omega, ?_, by omega⟩
   have := validR_t (validS_rule hv hat.1)
   omega
  ·rw [stpsL, if_neg h0] at hst; cases hst
 ·have hlen : (stpsL s l).length = C.length := by rw [← hC.is]; simp
  by_cases h0 : checkW s l = 0
  ·rw [stpsL, if_pos h0] at hlen ⊢
   exact moves_inj (by omega) (by omega)
  ·rw [stpsL, if_neg h0] at hlen
   simp at hlen; omega
theorem winL_none {s : List Rul} {w gs : List Int} {l : List Stp} (h : l.length = 0) : winL s w gs l = none := by rw [winL, if_pos h]
theorem winL_last {s : List Rul} {w gs : List Int} {l : List Stp} (h : l.length ≠ 0) (hok : scanOk s w gs l = false) : winL s w gs l = some ((stpAt l (l.length - 1)).1, (stpAt l (l.length - 1)).2, 0) := by
 rw [winL, if_neg h, if_pos (by rw [scan_bestI h, hok]; simp)]
theorem winL_best {s : List Rul} {w gs : List Int} {l : List Stp} (h : l.length ≠ 0) (hok : scanOk s w gs l = true) : winL s w gs l = some ((stpAt l (scanI s w gs l)).1, (stpAt l (scanI s w gs l)).2, groundI s w gs l (scanI s w gs l)) := by
 have e : bestI s w gs l = (scanI s w gs l : Int) := by rw [scan_bestI h, hok]; simp
 rw [winL, if_neg h, if_neg (by rw [e]; omega), e]; rfl
set_option maxHeartbeats 4000000 in
set_option maxRecDepth 100000 in
theorem choice_c (v wv gv : Value) (s : List Rul) (l gs : List Int) (w : World) (h : Ruls w v s) (hw : Ints w wv l) (hg : Ints w gv gs) (hgr : GrOk gs) :
  Calls Tryz.prog 75 #[v, wv, gv] w (RV (.tuple #[chV (winL s l gs (stpsL s l)), .bool (winL s l gs (stpsL s l)).isSome]) w) := by
 have hmf : ∀ (fn : Fn) (first cap : Array Value) (w : World), (Instr.makeFunc fn first cap).run Tryz.prog w = .ok (.func fn first cap) w := fun _ _ _ _ => rfl
 have HGR := Lib.hid hgr; clear hgr
 have hsl := stpsL_len s l
 obtain ⟨wA, hwA⟩ : ∃ wA, wA = w.alloc (.cells #[.int .i64 0, .int .i64 0, .int .i64 0] 46) := ⟨_, rfl⟩
 have hEA : Ext w wA := by rw [hwA]; exact Ext.alloc _ _
 have hbA : Blk wA w.heap.size 46 [.int .i64 0, .int .i64 0, .int .i64 0] := by rw [hwA]; exact Blk.alloc _ _ _
 have HWA := Lib.hid hwA; clear hwA
 have HCA := Lib.hid (candidates_c v wv s l wA (h.ext hEA) (hw.ext hEA))
 have HI := Lib.hid hw
 have HG := Lib.hid hg
 obtain ⟨a, c, rfl, _⟩ := h.open_
 obtain ⟨aw, cw, rfl, _⟩ := hw.open_
 obtain ⟨ag, cg, rfl, _⟩ := hg.open_
 clear h hw hg
 have HS6 := Lib.hid (fun (W : World) (i : Nat) (v : Value) (h : Ext w W) => h.setCell (c := w.heap.size) (Nat.le_refl _) i v)
 go_enter Tryz.func75, Tryz.ntmps75
 go_wp2_with fail
 rw [← HWA.out]
 generalize w.heap.size = g6 at *
 refine HCA.out.mono ?_; rintro e w1 ⟨v8, C, rfl, ho, hC, hx1⟩
 have HC := Lib.hid (cans_of hx1 ho hC)
 have hlen := HC.out.len
 obtain ⟨a8, c8, rfl, hc1, hc2, H⟩ := HC.out.cells
 clear ho hC
 have hb6 := hbA.ext hx1
 have hX1 := hEA.trans hx1
 clear hbA hEA hx1
 generalize stpsL s l = ST at *
 by_cases h0 : C.length = 0
 ·have HN := Lib.hid (winL_none (s := s) (w := l) (gs := gs) (l := ST) (by omega))
  generalize winL s l gs ST = R at *
  have y0 := hb6.cell (i := 0) rfl
  have y1 := hb6.cell (i := 1) rfl
  have y2 := hb6.cell (i := 2) rfl
  have z0 := hb6.frozen 0
  have z1 := hb6.frozen 1
  have z2 := hb6.frozen 2
  go_wp2_with fail
  have hfin := HS6.out _ 2 (.int .i64 0) (HS6.out _ 1 (.int .i64 0) (HS6.out _ 0 (.int .i64 0) hX1))
  have hbf := ((hb6.set 0 (.int .i64 0)).set 1 (.int .i64 0)).set 2 (.int .i64 0)
  have r0 := hbf.cell (i := 0) (v := .int .i64 0) rfl
  have r1 := hbf.cell (i := 1) (v := .int .i64 0) rfl
  have r2 := hbf.cell (i := 2) (v := .int .i64 0) rfl
  generalize World.setCell _ ⟨g6, 2, none⟩ _ = wF at *
  refine bodyPost_ret (v := .tuple #[.agg #[.int .i64 0, .int .i64 0, .int .i64 0], .bool false]) (by simp [results, Tryz.results75, go_sem, r0, r1, r2]) rfl ⟨by rw [HN.out]; rfl, hfin⟩
 ·have HCH := Lib.hid (champion_c s _ _ _ l gs C ST w1 (HI.out.ext hX1) (HG.out.ext hX1) HGR.out HC.out h0 (by omega))
  have hne : ((C.length : Int) == 0) = false := by simpa using h0
  cases hok : scanOk s l gs ST
  ·have HR := Lib.hid (winL_last (s := s) (w := l) (gs := gs) (l := ST) (by omega) hok)
   rw [hok, if_neg (by decide)] at HCH
   clear hok
   obtain ⟨b, o, rfl, c0, c1, c2, c3, c4, c5⟩ := H.out (C.length - 1) (by omega)
   have hstp := HC.out.stp (i := C.length - 1) (by omega)
   obtain ⟨kb, pb, xb, ab0, ab1, ab2, ab3, ab4, ab5, eb, _⟩ := (HC.out.ok (C.length - 1) (by omega)).lit
   rw [eb] at c0 c1 c2 c3 c4 c5 hstp
   unfold Can.stp at hstp
   dsimp only at c0 c1 c2 c3 c4 c5 hstp
   rw [← hlen] at hstp
   have HR2 : Hid (winL s l gs ST = some (kb, pb, 0)) := Lib.hid (by rw [HR.out, ← hstp])
   clear eb hstp HR
   have hw1 : IntKind.i64.wrap ((C.length : Int) - 1) = (C.length : Int) - 1 := IntWalk.i64_in _ (by omega)
   have hix : (C.length : Int) - 1 = ((C.length - 1 : Nat) : Int) := by omega
   rw [hix] at hw1
   have hix2 : IntKind.i64.wrap (((C.length - 1 : Nat) : Int)) = ((C.length - 1 : Nat) : Int) := by rw [← hix]; exact IntWalk.i64_in _ (by omega)
   generalize winL s l gs ST = R at *
   go_wp2_with fail
   refine HCH.out.mono ?_; rintro e w2 ⟨rfl, hx2⟩
   replace c0 := hx2.keep c0
   replace c1 := hx2.keep c1
   replace c2 := hx2.keep c2
   replace c3 := hx2.keep c3
   replace c4 := hx2.keep c4
   replace c5 := hx2.keep c5
   obtain ⟨wB, hwB⟩ : ∃ wB, wB = w2.alloc (.cells #[.int .i64 0, .int .i64 0, .int .i64 0, .slice none 0 0, .slice none 0 0, .slice none 0 0] 165) := ⟨_, rfl⟩
   have hEB : Ext w2 wB := by rw [hwB]; exact Ext.alloc _ _
   have hb9 : Blk wB w2.heap.size 165 [.int .i64 0, .int .i64 0, .int .i64 0, .slice none 0 0, .slice none 0 0, .slice none 0 0] := by rw [hwB]; exact Blk.alloc _ _ _
   have hs9 : g6 ≠ w2.heap.size := by have := (hb6.ext hx2).lt; omega
   have HWB := Lib.hid hwB; clear hwB
   have HS9 := Lib.hid (fun (W : World) (i : Nat) (v : Value) (h : Ext w W) => h.setCell (c := w2.heap.size) (hX1.trans hx2).size i v)
   go_upto_region 5 with fail
   rw [← HWB.out]
   generalize w2.heap.size = g9 at *
   replace c0 := hEB.keep c0
   replace c1 := hEB.keep c1
   replace c2 := hEB.keep c2
   replace c3 := hEB.keep c3
   replace c4 := hEB.keep c4
   replace c5 := hEB.keep c5
   have z0 := hb9.frozen 0
   have v0 := hb9.cell (i := 0) rfl
   have z1 := hb9.frozen 1
   have v1 := hb9.cell (i := 1) rfl
   have z2 := hb9.frozen 2
   have v2 := hb9.cell (i := 2) rfl
   have z3 := hb9.frozen 3
   have v3 := hb9.cell (i := 3) rfl
   have z4 := hb9.frozen 4
   have v4 := hb9.cell (i := 4) rfl
   have z5 := hb9.frozen 5
   have v5 := hb9.cell (i := 5) rfl
   go_upto_region 11 with fail
   have hb9' := (((((hb9.set 0 (.int .i64 kb)).set 1 (.int .i64 pb)).set 2 (.int .i64 xb.f)).set 3 (.slice ab0 xb.t.length ab1)).set 4 (.slice ab2 xb.l.length ab3)).set 5 (.slice ab4 xb.r.length ab5)
   have hEF := HS9.out _ 5 (.slice ab4 xb.r.length ab5) (HS9.out _ 4 (.slice ab2 xb.l.length ab3) (HS9.out _ 3 (.slice ab0 xb.t.length ab1) (HS9.out _ 2 (.int .i64 xb.f) (HS9.out _ 1 (.int .i64 pb) (HS9.out _ 0 (.int .i64 kb) (hX1.trans (hx2.trans hEB)))))))
   have hb6' := (((((((hb6.ext hx2).ext hEB).other (Ne.symm hs9) 0 (.int .i64 kb)).other (Ne.symm hs9) 1 (.int .i64 pb)).other (Ne.symm hs9) 2 (.int .i64 xb.f)).other (Ne.symm hs9) 3 (.slice ab0 xb.t.length ab1)).other (Ne.symm hs9) 4 (.slice ab2 xb.l.length ab3)).other (Ne.symm hs9) 5 (.slice ab4 xb.r.length ab5)
   generalize World.setCell _ ⟨g9, 5, none⟩ _ = wG at *
   clear c0 c1 c2 c3 c4 c5 z0 z1 z2 z3 z4 z5 v0 v1 v2 v3 v4 v5
   have x0 := hb9'.cell (i := 0) (v := .int .i64 kb) rfl
   have x1 := hb9'.cell (i := 1) (v := .int .i64 pb) rfl
   have y0 := hb6'.cell (i := 0) rfl
   have y1 := hb6'.cell (i := 1) rfl
   have y2 := hb6'.cell (i := 2) rfl
   have z0 := hb6'.frozen 0
   have z1 := hb6'.frozen 1
   have z2 := hb6'.frozen 2
   go_wp2_with fail
   have hfin := HS6.out _ 2 (.int .i64 0) (HS6.out _ 1 (.int .i64 pb) (HS6.out _ 0 (.int .i64 kb) hEF))
   have hbf := ((hb6'.set 0 (.int .i64 kb)).set 1 (.int .i64 pb)).set 2 (.int .i64 0)
   have r0 := hbf.cell (i := 0) (v := .int .i64 kb) rfl
   have r1 := hbf.cell (i := 1) (v := .int .i64 pb) rfl
   have r2 := hbf.cell (i := 2) (v := .int .i64 0) rfl
   generalize World.setCell _ ⟨g6, 2, none⟩ _ = wF at *
   refine bodyPost_ret (v := .tuple #[.agg #[.int .i64 kb, .int .i64 pb, .int .i64 0], .bool true]) (by simp [results, Tryz.results75, go_sem, r0, r1, r2]) rfl ⟨by rw [HR2.out]; rfl, hfin⟩
  ·have HR := Lib.hid (winL_best (s := s) (w := l) (gs := gs) (l := ST) (by omega) hok)
   rw [hok, if_pos rfl] at HCH
   clear hok
   have hI := scanI_lt (s := s) (w := l) (gs := gs) (l := ST) (by omega)
   rw [hlen] at hI
   generalize scanI s l gs ST = I at *
   have hstp := HC.out.stp (i := I) (by omega)
   obtain ⟨kb, pb, xb, ab0, ab1, ab2, ab3, ab4, ab5, eb, _⟩ := (HC.out.ok I (by omega)).lit
   have HEB := Lib.hid eb
   have HBT := Lib.hid (fun k (hk : k < C.length) W (h : Ext w1 W) => oBeats_c s _ _ l gs (canAt C I) (canAt C k) W (HI.out.ext (hX1.trans h)) (HG.out.ext (hX1.trans h)) HGR.out ((HC.out.ok I hI).ext h) ((HC.out.ok k hk).ext h))
   rw [eb] at hstp HCH
   unfold canV at HCH
   unfold Can.stp at hstp
   dsimp only at hstp HCH
   have HR2 : Hid (winL s l gs ST = some (kb, pb, groundI s l gs ST I)) := Lib.hid (by rw [HR.out, ← hstp])
   have HST := Lib.hid hstp
   clear eb hstp HR
   generalize winL s l gs ST = R at *
   have eg : Enters Tryz.prog 115 := enters_of Tryz.func115 (by kernel_rfl) rfl
   go_wp2_with fail
   refine HCH.out.mono ?_; rintro e w2 ⟨rfl, hx2⟩
   obtain ⟨wB, hwB⟩ : ∃ wB, wB = w2.alloc (.cells #[.int .i64 kb, .int .i64 pb, .int .i64 xb.f, .slice ab0 xb.t.length ab1, .slice ab2 xb.l.length ab3, .slice ab4 xb.r.length ab5] 165) := ⟨_, rfl⟩
   have hEB : Ext w2 wB := by rw [hwB]; exact Ext.alloc _ _
   have hb9 : Blk wB w2.heap.size 165 [.int .i64 kb, .int .i64 pb, .int .i64 xb.f, .slice ab0 xb.t.length ab1, .slice ab2 xb.l.length ab3, .slice ab4 xb.r.length ab5] := by rw [hwB]; exact Blk.alloc _ _ _
   have hs9 : g6 ≠ w2.heap.size := by have := (hb6.ext hx2).lt; omega
   have HWB := Lib.hid hwB; clear hwB
   have HS9 := Lib.hid (fun (W : World) (i : Nat) (v : Value) (h : Ext w W) => h.setCell (c := w2.heap.size) (hX1.trans hx2).size i v)
   go_upto_region 5 with fail
   rw [← HWB.out]
   generalize w2.heap.size = g9 at *
   have HIX := Lib.hid (cIndexFunc_c s _ C ST 115 #[.pointer (some ⟨g9, 0, none⟩)] (fun i => !decide (i = I)) wB eg ((HC.out.ext hx2).ext hEB) (fun W i hW hi => by
    obtain ⟨kn, pn, xn, tan, tcn, lan, lcn, ran, rcn, en, _⟩ := (HC.out.ok i hi).lit
    have := choice1_c (canAt C i) (canAt C I) g9 W (by rw [en]; exact ⟨_, _, _, rfl⟩) (by rw [en]; exact ⟨_, _, _, rfl⟩) (by rw [en]; exact ⟨_, _, _, rfl⟩) (by rw [HEB.out]; exact hb9.ext hW)
    rw [show (!decide ((canAt C i).stp = (canAt C I).stp)) = !decide (i = I) from by congr 1; rw [Bool.eq_iff_iff, decide_eq_true_eq, decide_eq_true_eq, HC.out.stp hi, HC.out.stp hI]; exact HC.out.inj i I hi hI] at this
    exact this))
   rw [firstIdx_ne hI] at HIX
   have hX2 := hX1.trans (hx2.trans hEB)
   by_cases h1 : 1 < C.length
   ·rw [if_pos h1] at HIX
    have HGI : Hid (groundI s l gs ST I = beatsZ s l gs (stpAt ST I) (stpAt ST (if I = 0 then 1 else 0))) := Lib.hid (by rw [groundI, if_pos (by omega)])
    obtain ⟨J, hJ, hJl, hJe⟩ : ∃ J : Nat, (if I = 0 then (1 : Int) else 0) = (J : Int) ∧ J < C.length ∧ (if I = 0 then 1 else 0) = J := by
     by_cases hi0 : I = 0
     ·exact ⟨1, by rw [if_pos hi0]; rfl, by omega, by rw [if_pos hi0]⟩
     ·exact ⟨0, by rw [if_neg hi0]; rfl, by omega, by rw [if_neg hi0]⟩
    rw [hJ] at HIX
    rw [hJe] at HGI
    clear hJ hJe
    obtain ⟨b, o, rfl, c0, c1, c2, c3, c4, c5⟩ := H.out J hJl
    obtain ⟨kn, pn, xn, tan, tcn, lan, lcn, ran, rcn, en, _⟩ := (HC.out.ok J hJl).lit
    have HBC := Lib.hid (HBT.out J hJl)
    rw [HC.out.stp hI, HC.out.stp hJl, en, HEB.out] at HBC
    rw [en] at c0 c1 c2 c3 c4 c5
    unfold canV at HBC
    dsimp only at c0 c1 c2 c3 c4 c5 HBC
    clear en
    generalize beatsZ s l gs (stpAt ST I) (stpAt ST J) = Z at *
    go_wp2_with fail
    refine HIX.out.mono ?_; rintro e w3 ⟨rfl, hx3⟩
    have hX3 := hX2.trans hx3
    have h13 : Ext w1 w3 := hx2.trans (hEB.trans hx3)
    have hb9' := hb9.ext hx3
    have hc0 : ∀ q : Later w3, q.w.cell? ⟨b, o + J * 6, none⟩ = _ := fun q => (h13.trans q.ext).keep c0
    have hc1 : ∀ q : Later w3, q.w.cell? ⟨b, o + J * 6 + 1, none⟩ = _ := fun q => (h13.trans q.ext).keep c1
    have hc2 : ∀ q : Later w3, q.w.cell? ⟨b, o + J * 6 + 2, none⟩ = _ := fun q => (h13.trans q.ext).keep c2
    have hc3 : ∀ q : Later w3, q.w.cell? ⟨b, o + J * 6 + 3, none⟩ = _ := fun q => (h13.trans q.ext).keep c3
    have hc4 : ∀ q : Later w3, q.w.cell? ⟨b, o + J * 6 + 4, none⟩ = _ := fun q => (h13.trans q.ext).keep c4
    have hc5 : ∀ q : Later w3, q.w.cell? ⟨b, o + J * 6 + 5, none⟩ = _ := fun q => (h13.trans q.ext).keep c5
    have hd0 : ∀ q : Later w3, q.w.cell? ⟨g9, 0, none⟩ = _ := fun q => (hb9'.ext q.ext).cell (i := 0) (v := .int .i64 kb) rfl
    have hd1 : ∀ q : Later w3, q.w.cell? ⟨g9, 1, none⟩ = _ := fun q => (hb9'.ext q.ext).cell (i := 1) (v := .int .i64 pb) rfl
    have hd2 : ∀ q : Later w3, q.w.cell? ⟨g9, 2, none⟩ = _ := fun q => (hb9'.ext q.ext).cell (i := 2) (v := .int .i64 xb.f) rfl
    have hd3 : ∀ q : Later w3, q.w.cell? ⟨g9, 3, none⟩ = _ := fun q => (hb9'.ext q.ext).cell (i := 3) (v := .slice ab0 xb.t.length ab1) rfl
    have hd4 : ∀ q : Later w3, q.w.cell? ⟨g9, 4, none⟩ = _ := fun q => (hb9'.ext q.ext).cell (i := 4) (v := .slice ab2 xb.l.length ab3) rfl
    have hd5 : ∀ q : Later w3, q.w.cell? ⟨g9, 5, none⟩ = _ := fun q => (hb9'.ext q.ext).cell (i := 5) (v := .slice ab4 xb.r.length ab5) rfl
    have HBQ := Lib.hid (fun q : Later w3 => HBC.out q.w (h13.trans q.ext))
    clear c0 c1 c2 c3 c4 c5
    go_wp2_with fail
    refine wp_region_later (by kernel_rfl) (by kernel_rfl) ?_
    repeat (go_big_quiet_step (first | (go_at_call 116; first | with_reducible exact Later.call (HBQ.out _))))
    refine wpQuiet_nil ?_
    intro w5 hw'
    obtain ⟨⟨_, hx5⟩, rfl⟩ := hw'
    clear hc0 hc1 hc2 hc3 hc4 hc5 hd0 hd1 hd2 hd3 hd4 hd5
    have hb9f := hb9'.ext hx5
    have x0 := hb9f.cell (i := 0) (v := .int .i64 kb) rfl
    have x1 := hb9f.cell (i := 1) (v := .int .i64 pb) rfl
    have hb6' := (((hb6.ext hx2).ext hEB).ext hx3).ext hx5
    have hEF := hX3.trans hx5
    have y0 := hb6'.cell (i := 0) rfl
    have y1 := hb6'.cell (i := 1) rfl
    have y2 := hb6'.cell (i := 2) rfl
    have z0 := hb6'.frozen 0
    have z1 := hb6'.frozen 1
    have z2 := hb6'.frozen 2
    go_wp2_with fail
    have hfin := HS6.out _ 2 (.int .i64 Z) (HS6.out _ 1 (.int .i64 pb) (HS6.out _ 0 (.int .i64 kb) hEF))
    have hbf := ((hb6'.set 0 (.int .i64 kb)).set 1 (.int .i64 pb)).set 2 (.int .i64 Z)
    have r0 := hbf.cell (i := 0) (v := .int .i64 kb) rfl
    have r1 := hbf.cell (i := 1) (v := .int .i64 pb) rfl
    have r2 := hbf.cell (i := 2) (v := .int .i64 Z) rfl
    generalize World.setCell _ ⟨g6, 2, none⟩ _ = wF at *
    refine bodyPost_ret (v := .tuple #[.agg #[.int .i64 kb, .int .i64 pb, .int .i64 Z], .bool true]) (by simp [results, Tryz.results75, go_sem, r0, r1, r2]) rfl ⟨by rw [HR2.out, HGI.out]; rfl, hfin⟩
   ·rw [if_neg h1] at HIX
    have HGI : Hid (groundI s l gs ST I = 0) := Lib.hid (by rw [groundI, if_neg (by omega)])
    go_wp2_with fail
    refine HIX.out.mono ?_; rintro e w3 ⟨rfl, hx3⟩
    have hX3 := hX2.trans hx3
    have hb9' := hb9.ext hx3
    have x0 := hb9'.cell (i := 0) (v := .int .i64 kb) rfl
    have x1 := hb9'.cell (i := 1) (v := .int .i64 pb) rfl
    have hb6' := ((hb6.ext hx2).ext hEB).ext hx3
    have y0 := hb6'.cell (i := 0) rfl
    have y1 := hb6'.cell (i := 1) rfl
    have y2 := hb6'.cell (i := 2) rfl
    have z0 := hb6'.frozen 0
    have z1 := hb6'.frozen 1
    have z2 := hb6'.frozen 2
    go_wp2_with fail
    have hfin := HS6.out _ 2 (.int .i64 0) (HS6.out _ 1 (.int .i64 pb) (HS6.out _ 0 (.int .i64 kb) hX3))
    have hbf := ((hb6'.set 0 (.int .i64 kb)).set 1 (.int .i64 pb)).set 2 (.int .i64 0)
    have r0 := hbf.cell (i := 0) (v := .int .i64 kb) rfl
    have r1 := hbf.cell (i := 1) (v := .int .i64 pb) rfl
    have r2 := hbf.cell (i := 2) (v := .int .i64 0) rfl
    generalize World.setCell _ ⟨g6, 2, none⟩ _ = wF at *
    refine bodyPost_ret (v := .tuple #[.agg #[.int .i64 kb, .int .i64 pb, .int .i64 0], .bool true]) (by simp [results, Tryz.results75, go_sem, r0, r1, r2]) rfl ⟨by rw [HR2.out, HGI.out]; rfl, hfin⟩
end Go.Proofs.YtpmlcfgbfhgpgaaGreatDoor
