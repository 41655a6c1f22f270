/- SchoolReplays: the walk. -/
import Derived.Test.YtpmlcfgbfhgpgaaGreatDoorJoinF
namespace Go.Proofs.YtpmlcfgbfhgpgaaGreatDoor
open Go.RowKit Go.Shelf
set_option linter.unusedVariables false
theorem uint_mod9 (z : Int) (n : Nat) (hn : n < 1000000) : ∃ kk : Nat, kk ≤ n ∧ wrap64 ((IntKind.u64.wrap z).tmod ((n : Int) + 1)) = (kk : Int) := by
 have h0 : 0 ≤ IntKind.u64.wrap z := by
  unfold IntKind.wrap; simp [IntKind.bits, IntKind.signed]; omega
 have h1 := Int.tmod_lt_of_pos (IntKind.u64.wrap z) (show (0 : Int) < (n : Int) + 1 by omega)
 have h2 := Int.tmod_nonneg ((n : Int) + 1) h0
 generalize (IntKind.u64.wrap z).tmod ((n : Int) + 1) = r at *
 exact ⟨r.toNat, by omega, by rw [Go.IntWalk.wrap64_in _ (by omega)]; omega⟩
theorem strs_cut9 {w : World} {a : Option Addr} {n c m : Nat} {L : List ByteArray} (h : Strs w (.slice a n c) L) (hm : m ≤ L.length) : Strs w (.slice a m m) (L.take m) := by
 obtain ⟨a', c', hv, h1, h2, H⟩ := h
 injection hv with e1 e2 e3
 subst e1 e2 e3
 have hl : (L.take m).length = m := by rw [List.length_take]; omega
 refine ⟨a, m, by rw [hl], by rw [hl]; omega, by omega, fun i hi => ?_⟩
 rw [hl] at hi
 obtain ⟨b, o, ha, hc⟩ := H i (by omega)
 exact ⟨b, o, ha, fun j x u hx hu => hc j x u (by rwa [List.getElem?_take_of_lt hi] at hx) hu⟩
theorem rep_done {S : Nat → Bool} {s : List Rul} {L : List ByteArray} {w w' : World} {e : Ending} (hv : validS s = 0) (hok : okS s st0 L = true) (h : RRepL S s L [] w e w') : Ext w w' ∧ ∃ g m rv v, w.heap.size ≤ g ∧ e = .returned (.tuple #[.pointer (some ⟨g, 0, none⟩), .int .i64 L.length, .int .i64 0]) ∧ SchF (more S g) g m rv v (runS s st0 L) s w' := by
 obtain ⟨hx, hres⟩ := h
 refine ⟨hx, ?_⟩
 rcases hres with ⟨h0, _⟩ | ⟨_, h0, _⟩ | ⟨_, _, k, t, h1, _, h2, _⟩ | ⟨_, _, _, g, m, rv, v, h1, h2, h3⟩
 ·exact absurd hv h0
 ·exact absurd rfl h0
 ·exact absurd (ok_at hok h1) h2
 ·exact ⟨g, m, rv, v, h1, h2, h3⟩
theorem rrep_done {b : Nat} {s : List Rul} {L : List ByteArray} {w w' : World} {e : Ending} (hv : validS s = 0) (hok : okS s st0 L = true) (h : RRepR b s L [] w e w') : Ext w w' ∧ ∃ rb rv v R, e = .returned (.tuple #[.pointer (some ⟨rb, 0, none⟩), .int .i64 L.length, .int .i64 0]) ∧ RefR R b rb rv v (runS s st0 L) s w' := by
 obtain ⟨hx, hres⟩ := h
 refine ⟨hx, ?_⟩
 rcases hres with ⟨h0, _⟩ | ⟨_, h0, _⟩ | ⟨_, _, k, t, h1, _, h2, _⟩ | ⟨_, _, _, rb, rv, v, R, h2, h3⟩
 ·exact absurd hv h0
 ·exact absurd rfl h0
 ·exact absurd (ok_at hok h1) h2
 ·exact ⟨rb, rv, v, R, h2, h3⟩
set_option maxHeartbeats 8000000 in
set_option maxRecDepth 100000 in
theorem schoolReplays_c (v u : Value) (z : Int) (s : List Rul) (l : List ByteArray) (w : World) (h : Ruls w v s) (hl : Strs w u l) (hzz : (Lit.int .i64 z).wf = true) (hE : Env w) (hT : ErrT w) (h7 : 7 ≤ w.heap.size) :
  Calls Tryz.prog 13 #[v, u, .int .i64 z] w (RV (.bool true) w) := by
 have HLG := Lib.hid (Large9_c v s w h)
 have HLO := Lib.hid (fun W (q : Ext w W) => Long9_c u l W (hl.ext q))
 have HSA := Lib.hid (fun W (q : Ext w W) => sane_c W (hE.ext q) (hT.ext q) (Nat.le_trans h7 q.size))
 have HBE := Lib.hid (fun W (q : Ext w W) => Begin_c (fun _ => false) v s W (fun k hk => by cases hk) (h.ext q))
 have HFA := Lib.hid (fun W (q : Ext w W) (hv : validS s ≠ 0) => failed_c v s W (h.ext q) hv (hE.ext q) (hT.ext q) (Nat.le_trans h7 q.size))
 have HR := Lib.hid h
 have HL := Lib.hid hl
 have HE := Lib.hid hE
 have HT := Lib.hid hT
 obtain ⟨av, cv, rfl, _⟩ := h.open_
 obtain ⟨au, cu, rfl, _⟩ := hl.open_
 clear h hl hE hT
 cases hb1 : largeB s with
 | true =>
  rw [hb1] at HLG
  clear hb1
  go_enter Tryz.func13, Tryz.ntmps13
  go_wp2_with fail
  refine HLG.out.mono ?_; rintro e w1 ⟨rfl, hx1⟩
  go_wp2_with fail
  refine (HSA.out w1 hx1).mono ?_; rintro e w2 ⟨rfl, hx2⟩
  go_wp2_with fail
  go_ret
  exact ⟨rfl, hx1.trans hx2⟩
 | false =>
  rw [hb1] at HLG
  cases hb2 : longT l with
  | true =>
   rw [hb2] at HLO
   clear hb1 hb2
   go_enter Tryz.func13, Tryz.ntmps13
   go_wp2_with fail
   refine HLG.out.mono ?_; rintro e w1 ⟨rfl, hx1⟩
   go_wp2_with fail
   refine (HLO.out w1 hx1).mono ?_; rintro e w2 ⟨rfl, hx2⟩
   go_wp2_with fail
   refine (HSA.out w2 (hx1.trans hx2)).mono ?_; rintro e w3 ⟨rfl, hx3⟩
   go_wp2_with fail
   go_ret
   exact ⟨rfl, (hx1.trans hx2).trans hx3⟩
  | false =>
   rw [hb2] at HLO
   have HLT := Lib.hid (longT_ok hb2)
   clear hb1 hb2
   by_cases hv : validS s = 0
   ·have HV := Lib.hid hv; clear hv
    go_enter Tryz.func13, Tryz.ntmps13
    go_wp2_with fail
    refine HLG.out.mono ?_; rintro e w1 ⟨rfl, hx1⟩
    go_wp2_with fail
    refine (HLO.out w1 hx1).mono ?_; rintro e w2 ⟨rfl, hx2⟩
    go_wp2_with fail
    refine (HBE.out w2 (hx1.trans hx2)).mono ?_; rintro e w3 ⟨hx3, ⟨h0, _⟩ | ⟨_, b, m1, rv, v0, gh, gq, uq, he, hbz, hgz1, hgz2, hSc, hNr⟩⟩
    ·exact absurd HV.out h0
    subst he
    have hX3 := (hx1.trans hx2).trans hx3
    have HX3 := Lib.hid hX3
    have hbw : w.heap.size ≤ b := Nat.le_trans (hx1.trans hx2).size hbz
    have hb7 : 7 ≤ b := Nat.le_trans h7 hbw
    have HSS : Hid (∀ k, more (more (more (fun _ => false) b) gh) gq k = true → w.heap.size ≤ k) := Lib.hid (fun k hk => by
     rcases more_or hk with hk | hk
     ·rcases more_or hk with hk | hk
      ·rcases more_or hk with hk | hk
       ·cases hk
       ·omega
      ·omega
     ·omega)
    generalize hSS : more (more (more (fun _ => false) b) gh) gq = S at *
    have HSE := Lib.hid hSS; clear hSS
    have HFW := Lib.hid (few_c S _ l w3 hSc.hSl (HL.out.ext (hole_new hX3 HSS.out)))
    have HE3 := Lib.hid (HE.out.ext hX3)
    have HT3 := Lib.hid (HT.out.ext hX3)
    go_wp2_with fail
    refine HFW.out.mono ?_; rintro e w4 ⟨u4, rfl, hu4, hx4⟩
    have HPN : Hid (Pair S w4 b gh m1 rv uq st0 s w4) := Lib.hid (by
     have e : beg9 b gh gq = S := HSE.out
     clear hu4 HSS HFW
     subst e
     exact Pair.new hSc hNr hx4 (by omega) (by omega))
    have HE4 := Lib.hid (HE3.out.ext hx4)
    have HT4 := Lib.hid (HT3.out.ext hx4)
    have HX4 := Lib.hid (hX3.trans hx4)
    have HS7 : Hid (∀ k, S k = true → 7 ≤ k) := Lib.hid (fun k hk => Nat.le_trans h7 (HSS.out k hk))
    have HAL := Lib.hid (all_c HPN.out HE4.out HT4.out hb7 HS7.out u4 (l.take 30) hu4)
    have HRU : Hid (Ruls (hole S w4) (.slice av s.length cv) s) := Lib.hid (HR.out.ext (hole_new HX4.out HSS.out))
    clear hSc hX3 hNr hu4
    generalize l.take 30 = L at *
    go_wp2_with fail
    refine HAL.out.mono ?_; rintro e w5 ⟨rfl, hP5⟩
    have HXX : Hid (∀ W, ExtX S w4 W → Ext w W) := Lib.hid (fun W hW => ((HX4.out.toX S).trans hW).ext (fun i hi => by
     cases e : S i with
     | false => rfl
     | true => have := HSS.out i e; omega))
    have hF5 := hP5.far
    have hX5 := HXX.out w5 hF5
    have HMA := Lib.hid (run_inv (s := s) L (inv_new HV.out) (made_new s))
    generalize hrun : runS s st0 L = x at *
    have HRUN := Lib.hid hrun
    clear hrun
    obtain ⟨S5, R5, v5, r5, hS5, hR5, _⟩ := hP5.both
    have HBK := Lib.hid (Book_c hS5 (HE.out.ext hX5))
    obtain ⟨q1, q2, q3⟩ := book_read HMA.out.1
    have HRP := Lib.hid (fun W (q : Ext w5 W) => Replay_c (fun _ => false) (.slice av s.length cv) s ⟨(bookB x.orders).toArray⟩ W (fun k hk => by cases hk) ((HRU.out.ext (hF5.hole1 (fun _ h => h))).sub (hole_sub _ _) |>.ext q) (HE.out.ext (hX5.trans q)) (HT.out.ext (hX5.trans q)) (Nat.le_trans h7 (hX5.trans q).size) (by rw [show (⟨(bookB x.orders).toArray⟩ : ByteArray).size = (bookB x.orders).length from ofBs_size _]; omega))
    rw [show txt (⟨(bookB x.orders).toArray⟩ : ByteArray) = bookB x.orders from txt_of _, q1, q2] at HRP
    have HD1 := Lib.hid (fun e w0 w' (h : RRepL (fun _ => false) s x.orders [] w0 e w') => rep_done HV.out HMA.out.2.ok h)
    obtain ⟨oa, oc, hov, hoc1, hoc2, hocH⟩ := (hR5.orders.cel encT_len).open_
    have hstr : Strs w5 (.slice oa x.orders.length oc) x.orders := by
     have := hR5.orders.cel encT_len
     rw [hov] at this
     exact this
    have c8 := hR5.hb.cell (i := 8) rfl
    rw [hov] at c8
    have HS5 := Lib.hid hS5
    have HR5 := Lib.hid hR5
    have hol := HMA.out.1.olen
    obtain ⟨kk, hkk, hke⟩ := uint_mod9 z x.orders.length (by omega)
    have hN1 : IntKind.i64.wrap ((x.orders.length : Int) + 1) = (x.orders.length : Int) + 1 := IntWalk.i64_in _ (by omega)
    have hN2 : IntKind.u64.wrap ((x.orders.length : Int) + 1) = (x.orders.length : Int) + 1 := by unfold IntKind.wrap; simp [IntKind.bits, IntKind.signed]; omega
    have hkc : decide ((kk : Int) ≤ (oc : Int)) = true := decide_eq_true (by omega)
    have hTL : (x.orders.take kk).length = kk := by rw [List.length_take]; omega
    obtain ⟨t1, t2, _, _⟩ := made_take HMA.out.2 kk
    have HI2 := (run_inv (s := s) (x.orders.take kk) (inv_new HV.out) (made_new s)).1
    obtain ⟨p1, p2, p3⟩ := book_read HI2
    rw [t2] at p1 p2 p3
    have HSZ : ∀ t ∈ x.orders.take kk, t.size ≤ 100000 := fun t ht => by have := HMA.out.1.bookOk.1 t (List.mem_of_mem_take ht); omega
    have hct := strs_cut9 hstr hkk
    generalize hT : x.orders.take kk = T at *
    have hTsz : (⟨(bookB T).toArray⟩ : ByteArray).size = (bookB T).length := ofBs_size _
    have HTX := Lib.hid (fun W (q : Ext w5 W) => rText_c (.slice oa kk kk) T W (hct.ext q) (HE.out.ext (hX5.trans q)) HSZ (by omega))
    have hRU5 : Ruls w5 (.slice av s.length cv) s := ((HRU.out.ext (hF5.hole1 (fun _ h => h))).sub (hole_sub _ _))
    have HRP2 := Lib.hid (fun W (q : Ext w5 W) => Replay_c (fun _ => false) (.slice av s.length cv) s ⟨(bookB T).toArray⟩ W (fun k hk => by cases hk) (hRU5.ext q) (HE.out.ext (hX5.trans q)) (HT.out.ext (hX5.trans q)) (Nat.le_trans h7 (hX5.trans q).size) (by omega))
    have HRR2 := Lib.hid (fun W b (q : Ext w5 W) (hb : b < W.heap.size) => rReplay_c b (.slice av s.length cv) s ⟨(bookB T).toArray⟩ W hb (hRU5.ext q) (HE.out.ext (hX5.trans q)) (by omega))
    rw [show txt (⟨(bookB T).toArray⟩ : ByteArray) = bookB T from txt_of _, p1, p2] at HRP2 HRR2
    have HD2 := Lib.hid (fun e w0 w' (h : RRepL (fun _ => false) s T [] w0 e w') => rep_done HV.out t1 h)
    have HD3 := Lib.hid (fun b e w0 w' (h : RRepR b s T [] w0 e w') => rrep_done HV.out t1 h)
    rw [hTL] at HD2 HD3
    have HX5 := Lib.hid hX5
    clear hS5 hR5 hov hocH hstr hct HI2 p1 p2 p3 t1 t2 HSZ hRU5 hP5 hF5 q1 q2 q3 hT hTsz hTL
    go_wp2_with fail
    refine HBK.out.mono ?_; rintro e w6 ⟨rfl, hx6⟩
    go_wp2_with fail
    refine (HRP.out w6 hx6).mono ?_; rintro e w7 hres7
    obtain ⟨hx7', g2, m2, rw2, v2, hgz2, he, hS7s⟩ := HD1.out _ _ _ hres7
    subst he
    clear hres7
    have hx7 := hx6.trans hx7'
    have c87 := hx7.keep c8
    have HEQ1 := Lib.hid (Equal_c (by rw [HMA.out.2.run] at hS7s; exact hS7s) (HR5.out.ext hx7) (HE.out.ext (HX5.out.trans hx7)))
    clear hS7s
    go_wp2_with fail
    refine HEQ1.out.mono ?_; rintro e w8 ⟨rfl, hx8'⟩
    have hx8 := hx7.trans hx8'
    have c88 := hx8.keep c8
    clear c87 c8
    go_wp2_with fail
    refine (HTX.out w8 hx8).mono ?_; rintro e w9 ⟨rfl, hx9'⟩
    have hx9 := hx8.trans hx9'
    go_wp2_with fail
    refine (HRP2.out w9 hx9).mono ?_; rintro e w10 hres10
    obtain ⟨hx10', g3, m3, rw3, v3, hgz3, he, hS10⟩ := HD2.out _ _ _ hres10
    subst he
    clear hres10
    have hx10 := hx9.trans hx10'
    have HS10 := Lib.hid hS10
    have hg3 : g3 < w10.heap.size := hS10.hb.lt
    clear hS10
    go_wp2_with fail
    refine (HRR2.out w10 g3 hx10 hg3).mono ?_; rintro e w11 hres11
    obtain ⟨hx11', rb3, uq3, v4, R4, he, hR11⟩ := HD3.out _ _ _ _ hres11
    subst he
    clear hres11
    have hx11 := hx10.trans hx11'
    have HEQ2 := Lib.hid (Equal_c (HS10.out.ext hx11') hR11 (HE.out.ext (HX5.out.trans hx11)))
    clear hR11
    go_wp2_with fail
    refine HEQ2.out.mono ?_; rintro e w12 ⟨rfl, hx12'⟩
    have hx12 := hx11.trans hx12'
    go_wp2_with fail
    refine (HSA.out w12 (HX5.out.trans hx12)).mono ?_; rintro e w13 ⟨rfl, hx13⟩
    go_wp2_with fail
    go_ret
    exact ⟨rfl, (HX5.out.trans hx12).trans hx13⟩
   ·have HV := Lib.hid hv; clear hv
    go_enter Tryz.func13, Tryz.ntmps13
    go_wp2_with fail
    refine HLG.out.mono ?_; rintro e w1 ⟨rfl, hx1⟩
    go_wp2_with fail
    refine (HLO.out w1 hx1).mono ?_; rintro e w2 ⟨rfl, hx2⟩
    go_wp2_with fail
    refine (HBE.out w2 (hx1.trans hx2)).mono ?_; rintro e w3 ⟨hx3, ⟨h0, he⟩ | ⟨h0, _⟩⟩
    rotate_left
    ·exact absurd h0 HV.out
    clear h0
    subst he
    have hX3 := (hx1.trans hx2).trans hx3
    go_wp2_with fail
    refine (HFA.out w3 hX3 HV.out).mono ?_; rintro e w4 ⟨rfl, hx4⟩
    go_wp2_with fail
    go_ret
    exact ⟨rfl, hX3.trans hx4⟩
end Go.Proofs.YtpmlcfgbfhgpgaaGreatDoor
