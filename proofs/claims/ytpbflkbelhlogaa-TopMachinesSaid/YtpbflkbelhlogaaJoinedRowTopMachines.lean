/- Several texts in one: RPlain, PlnP, ShoL, EithP, MacZ, EithL, FeedAll, TrimP, TrimQ, TrimL, TrimR, Sub, Rep, ShoA, Trim, MacP, MacCl, MacY. -/
import Derived.Test.YtpbflkbelhlogaaRComp
import Derived.Test.YtpbflkbelhlogaaShoP
import Derived.Test.YtpbflkbelhlogaaOSet
import Derived.Deep.CutRange
import Derived.Deep.CutBlock
import Derived.Test.YtpbflkbelhlogaaMacB
import Derived.Test.YtpbflkbelhlogaaMacI
import Derived.Test.YtpbflkbelhlogaaMacF
import Derived.Test.YtpbflkbelhlogaaMacS
import Derived.Test.YtpbflkbelhlogaaMade
import Derived.Test.YtpbflkbelhlogaaSl
import Derived.Test.YtpbflkbelhlogaaBlk
import Derived.Shelf.Bits.Mul64
import Derived.Laws.CopyOwn
import Derived.Test.YtpbflkbelhlogaaCompA
import Derived.Test.YtpbflkbelhlogaaFree
import Derived.Test.YtpbflkbelhlogaaMacH
import Derived.Test.YtpbflkbelhlogaaMacX
import Derived.Test.YtpbflkbelhlogaaMacV
import Derived.Test.YtpbflkbelhlogaaMacE
/- Machines: Plain of the reference. -/
namespace Go.Proofs.Ytpbflkbelhlogaa
open Go.RowKit Go.Shelf
set_option linter.unusedVariables false
theorem TurnS.pushA {wA w w' : World} {g2 g3 : Nat} {s : Int} {vo vo' ve : Value} {ar ar' : List Arc} {es : List Int} (h : TurnS wA w g2 g3 s vo ve ar es) (hn : g2 ≠ g3) (hg3 : wA.heap.size ≤ g3)
    (hr : OArcs w' wA.heap.size vo' ar') (hb : Below wA.heap.size w w') (hg : w.grownBy w' vo.ownBlock) : TurnS wA (w'.setCell ⟨g3, 1, none⟩ vo') g2 g3 s vo' ve ar' es := by
  have hb3 := h.box.keptR (by decide) h.arcs hg
  have hb2 := h.res.keptR (by decide) h.arcs hg
  have he := row_keptR h.ends (by decide) h.arcs hg
  refine ⟨(h.ext.upto hb (Nat.le_refl _)).setCell hg3 _ _, row_setR hr hb3 (by decide) 1 vo', row_setR he hb3 (by decide) 1 vo', ?_, hb2.other (fun e => hn e.symm) 1 vo'⟩
  have := hb3.set 1 vo'
  simpa using this
set_option maxHeartbeats 2000000 in
set_option maxRecDepth 100000 in
theorem rPlain_c (n : Int) (w : World) : Calls Try.prog 55 #[.int .i64 n] w (RMac2 (plainM n) (plainK n) w) := by
  obtain ⟨wR, hwR⟩ : ∃ wR, wR = w.alloc (.cells #[.int .i64 0, .slice none 0 0, .slice none 0 0] 25) := ⟨_, rfl⟩
  have hER : Ext w wR := by rw [hwR]; exact Ext.alloc _ _
  have HBX : Hid (Blk wR w.heap.size 25 [.int .i64 0, .slice none 0 0, .slice none 0 0]) := Lib.hid (by rw [hwR]; exact Blk.alloc w _ _)
  have HW := Lib.hid hwR; clear hwR
  have HIN := Lib.hid (rwithin_c n 1 6 wR)
  cases hb : inB n 1 6
  · have HK : Hid (plainM n = ⟨0, [], []⟩ ∧ plainK n = 1) := Lib.hid ⟨by rw [plainM, hb]; rfl, by rw [plainK, hb]; rfl⟩
    rw [hb] at HIN
    clear hb
    have hxx : Ext wR wR := Ext.refl _
    have hM0 : OMac wR wR.heap.size (.slice none 0 0) (.slice none 0 0) ⟨0, [], []⟩ := OMac.nil _ _
    go_enter Try.func55, Try.ntmps55
    go_wp2_with fail
    rw [← HW.out]
    refine HIN.out.mono ?_; rintro e w1 ⟨rfl, rfl⟩
    have hb := HBX.out.ext hxx
    have z0 := hb.cell (i := 0) rfl
    have z1 := hb.cell (i := 1) rfl
    have z2 := hb.cell (i := 2) rfl
    have f0 := hb.frozen 0
    have f1 := hb.frozen 1
    have f2 := hb.frozen 2
    have HBE := Lib.hid (And.intro (hb.store3 (.int .i64 ((⟨0, [], []⟩ : Mac)).s) (.slice none 0 0) (.slice none 0 0)) (And.intro (Ext.store3 (hER.trans hxx) (show w.heap.size ≤ w.heap.size by omega) (.int .i64 ((⟨0, [], []⟩ : Mac)).s) (.slice none 0 0) (.slice none 0 0))
      (hM0.store3 hb (.int .i64 ((⟨0, [], []⟩ : Mac)).s) (.slice none 0 0) (.slice none 0 0))))
    clear hb
    go_wp2_with fail
    obtain ⟨hb2, hx2', hM2⟩ := HBE.out
    clear z0 z1 z2 f0 f1 f2 HBE
    have d0 := hb2.cell (i := 0) rfl
    have d1 := hb2.cell (i := 1) rfl
    have d2 := hb2.cell (i := 2) rfl
    generalize (((wR.setCell ⟨w.heap.size, 0, none⟩ (.int .i64 ((⟨0, [], []⟩ : Mac)).s)).setCell ⟨w.heap.size, 1, none⟩ (.slice none 0 0)).setCell ⟨w.heap.size, 2, none⟩ (.slice none 0 0)) = w4 at *
    refine bodyPost_ret (v := .tuple #[.agg #[.int .i64 ((⟨0, [], []⟩ : Mac)).s, .slice none 0 0, .slice none 0 0], .int .i64 (1)]) (by simp [results, Try.results55, go_sem, d0, d1, d2]) rfl ?_
    exact RMac2.mk HK.out.1 HK.out.2 hM2.mac hx2'
  · obtain ⟨hn1, hn2⟩ := inB_bd hb
    obtain ⟨N, rfl⟩ : ∃ N : Nat, n = N := ⟨n.toNat, by omega⟩
    have HK : Hid (plainM N = ⟨1, plainA N, [0]⟩ ∧ plainK N = 0) := Lib.hid ⟨by rw [plainM, hb, if_pos rfl, Int.toNat_natCast], by rw [plainK, hb]; rfl⟩
    rw [hb] at HIN
    clear hb
    have hgR : w.heap.size < wR.heap.size := HBX.out.lt
    have hq0 := Ext.alloc wR (.cells #[.int .i64 0] 3)
    have hown : OInts 3 (wR.alloc (.cells #[.int .i64 0] 3)) wR.heap.size (.slice (some ⟨wR.heap.size, 0, none⟩) 1 1) [0] := World.ownsRow_lit (size := 1) (e := 3) (base := wR.heap.size) wR #[.int .i64 0] 1 (Nat.le_refl _) (by unfold maxLen; omega) rfl
    have hz1 : (wR.alloc (.cells #[.int .i64 0] 3)).heap.size = wR.heap.size + 1 := by simp
    have HT0 : Hid (TurnS wR ((wR.alloc (.cells #[.int .i64 0] 3)).alloc (.cells #[.int .i64 1, .slice none 0 0, .slice (some ⟨wR.heap.size, 0, none⟩) 1 1] 25)) w.heap.size (wR.heap.size + 1) 1 (.slice none 0 0) (.slice (some ⟨wR.heap.size, 0, none⟩) 1 1) [] [0]) :=
      Lib.hid ⟨hq0.trans (Ext.alloc _ _), World.ownsRow_nil _ _ _ _, hown.ext (Ext.alloc _ _), by rw [← hz1]; exact Blk.alloc _ _ _, (HBX.out.ext hq0).ext (Ext.alloc _ _)⟩
    clear hown hq0 hz1
    go_enter Try.func55, Try.ntmps55
    go_wp2_with fail
    rw [← HW.out]
    refine HIN.out.mono ?_; rintro e w1 ⟨rfl, rfl⟩
    go_wp2_with fail
    go_loopg [5] N (fun z i wr => ∃ (k : Nat) (v1 : Value), k ≤ N ∧ N ≤ k + z ∧ i = .int .i64 k ∧ TurnS wR wr w.heap.size (wR.heap.size + 1) 1 v1 (.slice (some ⟨wR.heap.size, 0, none⟩) 1 1) (plainA k) [0])
    case atStart => exact ⟨0, _, by omega, by omega, rfl, HT0.out⟩
    case round =>
      clear HT0
      obtain ⟨k, v1, hk, hkz, rfl, hT⟩ := hrel
      have hEr : Ext wR wr := hT.ext
      obtain ⟨a1, c1, rfl⟩ := row_open hT.arcs
      by_cases hlt : k < N
      · have hltI : (k : Int) < (N : Int) := by omega
        have HNX := Lib.hid (plainA_next k)
        have hk1 := plainA_len k
        have hlen : (plainA k).length ≤ 1000000 := by omega
        clear hk1
        generalize plainA k = PA at *
        have q1 := hT.box.cell (i := 1) rfl
        have HT := Lib.hid hT; clear hT
        have hszr : wR.heap.size ≤ wr.heap.size := hEr.size
        go_wp2_with (at_builtin; refine wpList_appendArc elArc rfl _ _ rfl rfl rfl HT.out.arcs rfl hszr hlen ?_; intro v6 w6 ho6 hb6 hg6 _; obtain ⟨a6, c6, rfl⟩ := row_open ho6; have HT6 := Lib.hid (HT.out.pushA (by omega) (by omega) ho6 hb6 hg6); have hbk := HT.out.box.keptR (by decide) HT.out.arcs hg6; have z1 := hbk.cell (i := 1) rfl; have f1 := hbk.frozen 1; clear hbk ho6 hb6 hg6 q1)
        go_roundg (gk-1)
        case measure => omega
        case rel => exact ⟨k+1, _, by omega, by omega, by go_num, by rw [HNX.out]; have := HT6.out; rw [List.length_append] at this; exact this⟩
      · obtain rfl : k = N := by omega
        have hltI : ¬ (k : Int) < (k : Int) := by omega
        generalize plainA k = U at *
        have q0 := hT.box.cell (i := 0) rfl
        have q1 := hT.box.cell (i := 1) rfl
        have q2 := hT.box.cell (i := 2) rfl
        have hb := hT.res
        have z0 := hb.cell (i := 0) rfl
        have z1 := hb.cell (i := 1) rfl
        have z2 := hb.cell (i := 2) rfl
        have f0 := hb.frozen 0
        have f1 := hb.frozen 1
        have f2 := hb.frozen 2
        have hgw : w.heap.size ≤ w.heap.size := by omega
        have HBE := Lib.hid (And.intro (hb.store3 (.int .i64 1) (.slice a1 U.length c1) (.slice (some ⟨wR.heap.size, 0, none⟩) 1 1)) (And.intro (Ext.store3 (hER.trans hEr) hgw (.int .i64 1) (.slice a1 U.length c1) (.slice (some ⟨wR.heap.size, 0, none⟩) 1 1))
          (hT.omac.store3 hb (.int .i64 1) (.slice a1 U.length c1) (.slice (some ⟨wR.heap.size, 0, none⟩) 1 1))))
        clear hb hT
        go_wp2_with fail
        obtain ⟨hb2, hx2', hM2⟩ := HBE.out
        clear z0 z1 z2 f0 f1 f2 q0 q1 q2 HBE
        have d0 := hb2.cell (i := 0) rfl
        have d1 := hb2.cell (i := 1) rfl
        have d2 := hb2.cell (i := 2) rfl
        generalize (((wr.setCell ⟨w.heap.size, 0, none⟩ (.int .i64 1)).setCell ⟨w.heap.size, 1, none⟩ (.slice a1 U.length c1)).setCell ⟨w.heap.size, 2, none⟩ (.slice (some ⟨wR.heap.size, 0, none⟩) 1 1)) = w4 at *
        refine bodyPost_ret (v := .tuple #[.agg #[.int .i64 1, .slice a1 U.length c1, .slice (some ⟨wR.heap.size, 0, none⟩) 1 1], .int .i64 0]) (by simp [results, Try.results55, go_sem, d0, d1, d2]) rfl ?_
        exact RMac2.mk HK.out.1 HK.out.2 hM2.mac hx2'
end Go.Proofs.Ytpbflkbelhlogaa
/- Machines: a machine with Plain 6 behind it; machines with the same arcs in another order. Plain laws. -/
namespace Go.Proofs.Ytpbflkbelhlogaa
open Go.RowKit Go.Shelf
set_option linter.unusedVariables false
theorem plain6 : plainM 6 = ⟨1, plainA 6, [0]⟩ := by decide +kernel
theorem plain6_valid : validM (plainM 6) = 0 := by decide +kernel
theorem plain6_K : plainK 6 = 0 := by decide +kernel
theorem compX_plain {x : Arc} (h0 : 0 ≤ x.o) (h5 : x.o ≤ 5) : compX (plainM 6) x (plainM 6).a = [x] := by
  obtain ⟨f, t, i, o⟩ := x
  have h : o = 0 ∨ o = 1 ∨ o = 2 ∨ o = 3 ∨ o = 4 ∨ o = 5 := by simp only at h0 h5; omega
  rw [plain6]
  rcases h with rfl | rfl | rfl | rfl | rfl | rfl <;> simp [compX, compOf, plainA, List.range, List.range.loop]
theorem flat_self : ∀ l : List Arc, (∀ x ∈ l, 0 ≤ x.o ∧ x.o ≤ 5) → (l.flatMap fun x => compX (plainM 6) x (plainM 6).a) = l
  | [], _ => rfl
  | x :: l, h => by
    rw [List.flatMap_cons, compX_plain (h x (by simp)).1 (h x (by simp)).2, flat_self l fun y hy => h y (by simp [hy])]; rfl
theorem flat_end (l : List Int) : (l.flatMap fun a => (plainM 6).e.map fun b => a * (plainM 6).s + b) = l := by
  rw [plain6]
  induction l with
  | nil => rfl
  | cons a l ih => rw [List.flatMap_cons, ih]; simp
theorem compose_plain {m : Mac} (h : validM m = 0) : composeM m (plainM 6) = ⟨m.s, arcsU m.a, m.e⟩ ∧ composeK m (plainM 6) = 0 := by
  have hm := validM_mac h
  have hb : bothK m (plainM 6) = 0 := by rw [bothK, if_pos h, plain6_valid]
  have hA : compA m (plainM 6) = m.a := by
    unfold compA
    exact flat_self m.a fun x hx => hm.outIn x hx
  have hE : compE m (plainM 6) = m.e := flat_end m.e
  have hs : m.s * (plainM 6).s = m.s := by rw [plain6]; exact Int.mul_one _
  have h9 := hm.s2
  have hl : (arcsU m.a).length ≤ 60 := Nat.le_trans (arcsU_len m.a) hm.a
  have hK : madeK m.s m.a = 0 := by rw [madeK, if_neg (by omega), if_neg (by omega)]
  rw [composeM, composeK, if_pos hb, if_pos hb, hA, hE, hs, madeM, if_pos hK]
  exact ⟨rfl, hK⟩
theorem compose_bad {m n : Mac} (h : validM m ≠ 0) : composeM m n = ⟨0, [], []⟩ ∧ composeK m n = validM m := by
  have hb : bothK m n = validM m := by rw [bothK, if_neg h]
  rw [composeM, composeK, hb, if_neg h, if_neg h]
  exact ⟨rfl, rfl⟩
theorem allB_iff2 {n : Nat} {f : Nat → Bool} : allB n f = true ↔ ∀ j, j < n → f j = true := by simp [allB]
theorem once_nodup {l : List Arc} : onceB l = true ↔ l.Nodup := by
  unfold onceB List.Nodup
  rw [allB_iff2, List.pairwise_iff_getElem]
  constructor
  · intro h i j hi hj hij he
    have := h j hj
    unfold hasA at this
    simp only [Bool.not_eq_true', List.any_eq_false, List.mem_range] at this
    have := this i hij
    unfold arcA at this
    rw [List.getElem?_eq_getElem hi, List.getElem?_eq_getElem hj] at this
    simp [he] at this
  · intro h j hj
    unfold hasA
    simp only [Bool.not_eq_true', List.any_eq_false, List.mem_range]
    intro i hij
    unfold arcA
    rw [List.getElem?_eq_getElem (by omega), List.getElem?_eq_getElem hj]
    simpa using h i j (by omega) hj hij
theorem arcsU_perm {l : List Arc} (h : l.Nodup) : (arcsU l).Perm l := by
  refine (List.perm_ext_iff_of_nodup ?_ h).2 fun x => arcsU_mem l x
  exact List.Pairwise.imp (fun {a b : Arc} (hab : LtA a b) (he : a = b) => by subst he; exact LtA.irrefl _ hab) (arcsU_asc l)
theorem onsB_perm {n : Nat} {a b : List Arc} (p : a.Perm b) (c : Arc → Bool) (tgt : Arc → Int) : onsB n a c tgt = onsB n b c tgt := by
  unfold onsB
  refine p.foldl_eq' (fun x _ y _ z => ?_) _
  unfold onB
  by_cases h1 : c x = true <;> by_cases h2 : c y = true <;> simp only [h1, h2, if_true, if_false, Bool.false_eq_true]
  by_cases he : (tgt x).toNat = (tgt y).toNat
  · rw [he]
  · rw [List.set_comm _ _ he]
theorem any_perm {a b : List Arc} (p : a.Perm b) (c : Arc → Bool) : a.any c = b.any c := by
  rw [Bool.eq_iff_iff, List.any_eq_true, List.any_eq_true]
  constructor
  · rintro ⟨x, hx, h⟩; exact ⟨x, p.mem_iff.1 hx, h⟩
  · rintro ⟨x, hx, h⟩; exact ⟨x, p.mem_iff.2 hx, h⟩
theorem canL_perm {n : Nat} {m c : Mac} (p : c.a.Perm m.a) (he : c.e = m.e) : ∀ u, canL n c u = canL n m u
  | [] => by rw [canL, canL, he]
  | s :: u => by rw [canL, canL, canL_perm p he u, onsB_perm p]
theorem nextL_perm {n : Nat} {a b : List Arc} (p : a.Perm b) (s : Int) (nx : List Bool) (hs : List Hd) : nextL n a s nx hs = nextL n b s nx hs := by
  have h : nextH n a s nx = nextH n b s nx := by
    funext h
    unfold nextH
    congr 1
    funext o
    unfold nextO
    rw [any_perm p, onsB_perm p]
  unfold nextL
  rw [h]
theorem imgGo_perm {n : Nat} {m c : Mac} (p : c.a.Perm m.a) (he : c.e = m.e) : ∀ u hs, imgGo n c u hs = imgGo n m u hs
  | [], hs => rfl
  | s :: u, hs => by rw [imgGo, imgGo, canL_perm p he, nextL_perm p, imgGo_perm p he u]
theorem images_perm {n : Nat} {m c : Mac} (p : c.a.Perm m.a) (he : c.e = m.e) (u : List Int) : imagesO n c u = imagesO n m u := by
  unfold imagesO
  rw [canL_perm p he, imgGo_perm p he]
theorem valid_perm {m : Mac} {U : List Arc} (p : U.Perm m.a) (h : validM m = 0) : validM ⟨m.s, U, m.e⟩ = 0 := by
  have hm := validM_mac h
  have h1 : inB m.s 1 9 = true := by have := hm.s1; have := hm.s2; simp [inB]; omega
  have h2 : ¬ 60 < U.length := by rw [p.length_eq]; have := hm.a; omega
  have h3 : allB U.length (fun k => arcOk m.s (arcA U k)) = true := allB_true fun j hj => by
    have hx : arcA U j ∈ m.a := p.mem_iff.1 (by unfold arcA; rw [List.getElem?_eq_getElem hj]; exact List.getElem_mem hj)
    obtain ⟨i, hi, he⟩ := List.mem_iff_getElem.1 hx
    have := hm.ok i hi
    unfold arcA at this
    rw [List.getElem?_eq_getElem hi] at this
    rw [← he]; exact this
  have h5 : onceB U = true := once_nodup.2 (p.nodup_iff.2 (once_nodup.1 hm.once))
  unfold validM
  rw [if_pos h1, if_neg h2, if_pos h3, if_pos hm.e, if_pos h5]
theorem images_same {m : Mac} (h : validM m = 0) (u : List Int) : imagesL (composeM m (plainM 6)) u = imagesL m u ∧ imagesK (composeM m (plainM 6)) u = imagesK m u := by
  have p := arcsU_perm (once_nodup.1 (validM_mac h).once)
  rw [(compose_plain h).1]
  have hv := valid_perm p h
  have hc : checkK ⟨m.s, arcsU m.a, m.e⟩ [u] = checkK m [u] := by rw [checkK, checkK, if_pos hv, if_pos h]
  have hi : imagesO m.s.toNat ⟨m.s, arcsU m.a, m.e⟩ u = imagesO m.s.toNat m u := images_perm (m := m) (c := ⟨m.s, arcsU m.a, m.e⟩) p rfl u
  unfold imagesL imagesK
  rw [hc]
  constructor
  · split
    · rw [show (⟨m.s, arcsU m.a, m.e⟩ : Mac).s = m.s from rfl, hi]
    · rfl
  · split
    · rw [show (⟨m.s, arcsU m.a, m.e⟩ : Mac).s = m.s from rfl, hi]
    · rfl
end Go.Proofs.Ytpbflkbelhlogaa
/- Machines: whether some run from a state reads a word, of the program. -/
namespace Go.Proofs.Ytpbflkbelhlogaa
open Go.RowKit Go.Shelf
set_option linter.unusedVariables false
theorem endsL_c (av ev : Value) (m : Mac) (s : Int) (w : World) (h : MacR w av ev m) : Calls Try.prog 73 #[.agg #[.int .i64 m.s, av, ev], .int .i64 s] w (RV (.bool (hasB m.e s)) w) := by
  obtain ⟨wA, hwA⟩ : ∃ wA, wA = w.alloc (.cells #[.int .i64 m.s, av, ev] 25) := ⟨_, rfl⟩
  have hE0 : Ext w wA := by rw [hwA]; exact Ext.alloc _ _
  have k0 : ∀ W, Ext wA W → W.cell? ⟨w.heap.size, 0, none⟩ = some (.int .i64 m.s) := by rw [hwA]; exact kept_alloc w _ _ rfl
  have k1 : ∀ W, Ext wA W → W.cell? ⟨w.heap.size, 1, none⟩ = some av := by rw [hwA]; exact kept_alloc w _ _ rfl
  have k2 : ∀ W, Ext wA W → W.cell? ⟨w.heap.size, 2, none⟩ = some ev := by rw [hwA]; exact kept_alloc w _ _ rfl
  have H0 : Ext wA wA := Ext.refl _
  have HC := Lib.hid (fun W (hW : Ext wA W) => contains_c ev m.e s W (h.e.ext (hE0.trans hW)))
  have HW := Lib.hid hwA; clear hwA h
  generalize hasB m.e s = b at *
  go_enter Try.func73, Try.ntmps73
  go_wp2_with fail
  rw [← HW.out]
  refine (HC.out wA H0).mono ?_; rintro e w1 ⟨rfl, rfl⟩
  go_wp2_with fail
  go_ret
  exact RV.bool rfl hE0
theorem leads1_c (av ev : Value) (m : Mac) (s : Int) (g : Nat) (w : World) (h : MacR w av ev m) (k0 : w.cell? ⟨g, 0, none⟩ = some (.int .i64 m.s)) (k1 : w.cell? ⟨g, 1, none⟩ = some av) (k2 : w.cell? ⟨g, 2, none⟩ = some ev) :
    Calls Try.prog 116 #[.int .i64 s, .pointer (some ⟨g, 0, none⟩)] w (RV (.bool (hasB m.e s)) w) := by
  have HEC := Lib.hid (endsL_c av ev m s w h)
  obtain ⟨aa, ca, rfl, hla, hma, HA⟩ := h.a.open_
  obtain ⟨ae, ce, rfl, hle, hme, HE⟩ := h.e.open_
  clear h
  go_enter Try.func116, Try.ntmps116
  go_wp2_with fail
  refine HEC.out.mono ?_; rintro e w1 ⟨rfl, hx1⟩
  go_wp2_with fail
  go_ret
  exact RV.bool rfl hx1
theorem hasB_contains (l : List Int) (x : Int) : hasB l x = l.contains x := by rw [hasB_eq, Bool.eq_iff_iff, List.contains_iff_mem]
theorem leadNext_eq (ar : List Arc) (s : Int) (now : List Int) : leadNext ar s now = (ar.filter fun a => hasB now a.f && a.i == s).map Arc.t := by
  unfold leadNext; simp only [hasB_contains]
theorem pick_next {ar : List Arc} {k : Nat} (h : k < ar.length) (c : Arc → Bool) (f : Arc → Int) : ((ar.take (k + 1)).filter c).map f = if c (arcA ar k) then ((ar.take k).filter c).map f ++ [f (arcA ar k)] else ((ar.take k).filter c).map f := by
  rw [take_next h ⟨0, 0, 0, 0⟩, List.filter_append, List.map_append]
  show _ ++ List.map f (List.filter c [arcA ar k]) = _
  cases hc : c (arcA ar k) <;> simp [hc]
theorem pick_len (ar : List Arc) (c : Arc → Bool) (f : Arc → Int) : ((ar.filter c).map f).length ≤ ar.length := by rw [List.length_map]; exact List.length_filter_le _ _
set_option maxHeartbeats 4000000 in
set_option maxRecDepth 100000 in
theorem leads_c (av ev uv : Value) (m : Mac) (s : Int) (u : List Int) (w : World) (h : MacR w av ev m) (hu : Ints w uv u) (hal : m.a.length ≤ 100000) :
    Calls Try.prog 108 #[.agg #[.int .i64 m.s, av, ev], .int .i64 s, uv] w (RV (.bool ((leadGo m.a u [s]).any (fun x => m.e.contains x))) w) := by
  obtain ⟨wA, hwA⟩ : ∃ wA, wA = w.alloc (.cells #[.int .i64 m.s, av, ev] 25) := ⟨_, rfl⟩
  have hE0 : Ext w wA := by rw [hwA]; exact Ext.alloc _ _
  have k0 : ∀ W, Ext wA W → W.cell? ⟨w.heap.size, 0, none⟩ = some (.int .i64 m.s) := by rw [hwA]; exact kept_alloc w _ _ rfl
  have k1 : ∀ W, Ext wA W → W.cell? ⟨w.heap.size, 1, none⟩ = some av := by rw [hwA]; exact kept_alloc w _ _ rfl
  have k2 : ∀ W, Ext wA W → W.cell? ⟨w.heap.size, 2, none⟩ = some ev := by rw [hwA]; exact kept_alloc w _ _ rfl
  have H0 : Ext wA wA := Ext.refl _
  have HR := Lib.hid (h.ext hE0)
  obtain ⟨aa, ca, rfl, hla, hma, HA⟩ := (h.ext hE0).a.open_
  obtain ⟨ae, ce, rfl, hle, hme, HE⟩ := (h.ext hE0).e.open_
  obtain ⟨au, cu, rfl, hlu, hmu, HU⟩ := (hu.ext hE0).open_
  have HW := Lib.hid hwA; clear hwA h hu
  have hx0 := Ext.alloc wA (.cells #[.int .i64 s] 3)
  have hI0 : Ints (wA.alloc (.cells #[.int .i64 s] 3)) (.slice (some ⟨wA.heap.size, 0, none⟩) 1 1) [s] := by
    have := BInts.ints (W := wA.alloc (.cells #[.int .i64 s] 3)) (g := wA.heap.size) (l := [s]) (Blk.alloc wA _ _) (by simp)
    exact this
  rw [show wA.heap.size = w.heap.size + 1 by rw [HW.out]; simp] at hI0
  have HI0 := Lib.hid hI0; clear hI0
  obtain ⟨S0, hS0⟩ : ∃ S0, S0 = [s] := ⟨_, rfl⟩
  rw [← hS0] at HI0
  rw [← hS0]
  clear hS0
  go_enter Try.func108, Try.ntmps108
  go_wp2_with fail
  rw [← HW.out]
  go_loopg [17, 7] u.length (fun z i v7 wr => ∃ (k : Nat) (t7 : Value) (S : List Int), k ≤ u.length ∧ u.length ≤ k + z ∧ i = .int .i64 k ∧ t7 = v7 ∧ Ext wA wr ∧ Ints wr t7 S ∧ Hid (leadGo m.a (u.drop k) S = leadGo m.a u S0))
  case atStart => exact ⟨0, _, S0, by omega, by omega, rfl, rfl, hx0, HI0.out, Lib.hid rfl⟩
  case round =>
    clear hx0 HI0
    obtain ⟨k, t7, S, hk, hkz, rfl, rfl, hEr, hI7, HGO⟩ := hrel
    obtain ⟨g1, rfl⟩ : ∃ g : Nat, g = gk := ⟨_, rfl⟩
    have HI7 := Lib.hid hI7
    obtain ⟨a7, c7, rfl, _, _, _⟩ := hI7.open_
    clear hI7
    by_cases hltk : k < u.length
    · obtain ⟨bu, ou, rfl, hcu⟩ := HU.out k hltk
      have HNX : Hid (leadGo m.a (u.drop (k + 1)) (leadNext m.a (u[k]?.getD 0) S) = leadGo m.a u S0) := Lib.hid (by rw [← HGO.out, drop_one hltk]; rfl)
      generalize u[k]?.getD 0 = us at *
      obtain ⟨W1, rfl⟩ : ∃ W : World, W = wr := ⟨_, rfl⟩
      replace hcu := hEr.keep hcu
      rw [leadNext_eq] at HNX
      generalize hc_ : (fun a : Arc => hasB S a.f && a.i == us) = c at HNX
      have HC_ := Lib.hid hc_; clear hc_
      go_wp2_with fail
      go_loopg [24, 10] m.a.length (fun z i v9 wr => ∃ (t : Nat) (t9 : Value), t ≤ m.a.length ∧ m.a.length ≤ t + z ∧ i = .int .i64 t ∧ t9 = v9 ∧ Ext W1 wr ∧ OInts 3 wr W1.heap.size t9 (((m.a.take t).filter c).map Arc.t))
      case atStart => exact ⟨0, _, by omega, by omega, rfl, rfl, Ext.refl _, OInts.nil _ _ _⟩
      case round =>
        obtain ⟨t, t9, ht, htz, rfl, rfl, hX1, ho9⟩ := hrel
        have hEr2 : Ext wA wr := hEr.trans hX1
        obtain ⟨a9, c9, rfl, _, _, _⟩ := ho9.ints.open_
        by_cases hlt : t < m.a.length
        · obtain ⟨ba, oa, rfl, hc0, hc1, hc2, hc3⟩ := HA.out t hlt
          replace hc0 := hEr2.keep hc0
          replace hc1 := hEr2.keep hc1
          replace hc2 := hEr2.keep hc2
          replace hc3 := hEr2.keep hc3
          have HST := Lib.hid (pick_next hlt c Arc.t)
          have hlen := pick_len (m.a.take t) c Arc.t
          have hlt9 : (m.a.take t).length ≤ m.a.length := by simp; omega
          generalize arcA m.a t = y at *
          generalize ((m.a.take t).filter c).map Arc.t = N at *
          have hlN : N.length ≤ 1000000 := by omega
          clear hlen hlt9
          obtain ⟨yf, yt, yi, yo⟩ := y
          simp only at hc0 hc1 hc2 hc3
          obtain ⟨wB, hwB⟩ : ∃ wB, wB = wr.alloc (.cells #[.int .i64 yf, .int .i64 yt, .int .i64 yi, .int .i64 yo] 50) := ⟨_, rfl⟩
          have hEB : Ext wr wB := by rw [hwB]; exact Ext.alloc _ _
          have b0 : ∀ W, Ext wB W → W.cell? ⟨wr.heap.size, 0, none⟩ = some (.int .i64 yf) := by rw [hwB]; exact kept_alloc wr _ _ rfl
          have b1 : ∀ W, Ext wB W → W.cell? ⟨wr.heap.size, 1, none⟩ = some (.int .i64 yt) := by rw [hwB]; exact kept_alloc wr _ _ rfl
          have b2 : ∀ W, Ext wB W → W.cell? ⟨wr.heap.size, 2, none⟩ = some (.int .i64 yi) := by rw [hwB]; exact kept_alloc wr _ _ rfl
          have HWB := Lib.hid hwB; clear hwB
          have hsB : Ext wB wB := Ext.refl _
          have HC1 := Lib.hid (contains_c _ S yf wB (HI7.out.ext (hX1.trans hEB)))
          have HCC : Hid (c ⟨yf, yt, yi, yo⟩ = (hasB S yf && yi == us)) := Lib.hid (by rw [← HC_.out])
          generalize hasB S yf = b1_ at *
          have HO9 := Lib.hid (ho9.ext hEB)
          have hX5 : Ext W1 wB := hX1.trans hEB
          clear ho9
          cases b1_
          · go_upto_region 9 with fail
            rw [← HWB.out]
            clear hc0 hc1 hc2 hc3
            go_wp2_with (go_at_call 90; refine HC1.out.mono ?_; rintro e w5 ⟨rfl, rfl⟩)
            go_roundg (gk-1)
            case measure => omega
            case rel => exact ⟨t+1, _, by omega, by omega, by go_num, rfl, hX5, by rw [HST.out, if_neg (by rw [HCC.out]; simp)]; exact HO9.out⟩
          · by_cases hi : yi = us
            · subst hi
              have hi1 : (yi == yi) = true := by simp
              have hB5 : W1.heap.size ≤ wB.heap.size := hX5.size
              go_upto_region 9 with fail
              rw [← HWB.out]
              clear hc0 hc1 hc2 hc3
              go_wp2_with (first
                | (go_at_call 90; refine HC1.out.mono ?_; rintro e w5 ⟨rfl, rfl⟩)
                | (at_builtin; refine wpList_appendInt elInts rfl _ _ rfl rfl rfl HO9.out rfl hB5 (by omega) ?_; intro v6 w6 ho6 hb6))
              go_roundg (gk-1)
              case measure => omega
              case rel => exact ⟨t+1, _, by omega, by omega, by go_num, rfl, hX5.upto hb6 (Nat.le_refl _), by rw [HST.out, if_pos (by rw [HCC.out]; simp)]; exact ho6⟩
            · have hi1 : (yi == us) = false := by simp [hi]
              have HI := Lib.hid hi; clear hi
              go_upto_region 9 with fail
              rw [← HWB.out]
              clear hc0 hc1 hc2 hc3
              go_wp2_with (go_at_call 90; refine HC1.out.mono ?_; rintro e w5 ⟨rfl, rfl⟩)
              go_roundg (gk-1)
              case measure => omega
              case rel => exact ⟨t+1, _, by omega, by omega, by go_num, rfl, hX5, by rw [HST.out, if_neg (by rw [HCC.out]; simp [HI.out])]; exact HO9.out⟩
        · have HI9 : Hid (∃ N, N = (m.a.filter c).map Arc.t ∧ Ints wr (.slice a9 (((m.a.take t).filter c).map Arc.t).length c9) N) := by
            refine Lib.hid ⟨_, rfl, ?_⟩
            have := ho9.ints; rwa [List.take_of_length_le (by omega)] at this ⊢
          clear ho9
          generalize (((m.a.take t).filter c).map Arc.t).length = nl at *
          go_wp2_with fail
          go_roundg (g1-1)
          case measure => omega
          case rel =>
            obtain ⟨N, hN, hI⟩ := HI9.out
            exact ⟨k+1, _, N, by omega, by omega, by go_num, rfl, hEr2, hI, Lib.hid (by rw [hN]; exact HNX.out)⟩
    · have hku : k = u.length := by omega
      subst hku
      have HCF := Lib.hid (containsFunc_c _ S 116 #[.pointer (some ⟨w.heap.size, 0, none⟩)] (fun s => hasB m.e s) wr (enters_of Try.func116 (by kernel_rfl) rfl)
        (fun W i hW _ => leads1_c _ _ m _ w.heap.size W (HR.out.ext (hEr.trans hW)) (k0 W (hEr.trans hW)) (k1 W (hEr.trans hW)) (k2 W (hEr.trans hW))) HI7.out)
      have HIB : Hid (((List.range S.length).any fun i => (fun s => hasB m.e s) (S[i]?.getD 0)) = (leadGo m.a u S0).any (fun x => m.e.contains x)) := Lib.hid (by
        rw [any_range S (fun s => hasB m.e s), ← HGO.out, List.drop_length]
        simp only [hasB_contains]; rfl)
      rw [HIB.out] at HCF
      generalize hBq : (leadGo m.a u S0).any (fun x => m.e.contains x) = B at HCF
      have HBQ := Lib.hid hBq; clear hBq HIB
      go_wp2_with fail
      refine HCF.out.mono ?_; rintro e w5 ⟨rfl, hx5⟩
      go_wp2_with fail
      go_ret
      exact RV.bool HBQ.out.symm (hE0.trans (hEr.trans hx5))
end Go.Proofs.Ytpbflkbelhlogaa
/- Machines: Either of the program. -/
namespace Go.Proofs.Ytpbflkbelhlogaa
open Go.RowKit Go.Shelf
set_option linter.unusedVariables false

def mov1 (f : Int) (a : Arc) : Arc := ⟨a.f + f, a.t + f, a.i, a.o⟩
def mov0 (f : Int) (a : Arc) : Arc := ⟨0, a.t + f, a.i, a.o⟩
def eith1 (f : Int) (a : Arc) : List Arc := if a.f = 0 then [mov1 f a, mov0 f a] else [mov1 f a]
def eithX (f : Int) (l : List Arc) : List Arc := l.flatMap (eith1 f)
def eithE (f : Int) (l : List Int) : List Int := l.map fun e => e + f
def eithA (m n : Mac) : List Arc := eithX 1 m.a ++ eithX (1 + m.s) n.a
def eith0 (m n : Mac) : List Int := if hasB m.e 0 then [0] else if hasB n.e 0 then [0] else []
def eithEs (m n : Mac) : List Int := eith0 m n ++ (eithE 1 m.e ++ eithE (1 + m.s) n.e)
def eitherK (m n : Mac) : Int := if bothK m n = 0 then madeK (1 + m.s + n.s) (eithA m n) else bothK m n
def eitherM (m n : Mac) : Mac := if bothK m n = 0 then madeM (1 + m.s + n.s) (eithA m n) (eithEs m n) else ⟨0, [], []⟩
def frN (m n : Mac) (j : Nat) : Int := if j = 0 then 1 else if j = 1 then 1 + m.s else 1 + m.s + n.s
def eaN (m n : Mac) (j : Nat) : List Arc := if j = 0 then [] else if j = 1 then eithX 1 m.a else eithA m n
def eeN (m n : Mac) (j : Nat) : List Int := if j = 0 then eith0 m n else if j = 1 then eith0 m n ++ eithE 1 m.e else eithEs m n
theorem eith1_len (f : Int) (a : Arc) : (eith1 f a).length ≤ 2 := by unfold eith1; split <;> simp
theorem eithX_len (f : Int) (l : List Arc) : (eithX f l).length ≤ l.length * 2 := flat_leA (eith1 f) 2 l (eith1_len f)
theorem eith0_len (m n : Mac) : (eith0 m n).length ≤ 1 := by unfold eith0; by_cases h1 : hasB m.e 0 = true <;> by_cases h2 : hasB n.e 0 = true <;> simp [h1, h2]
theorem eithA_len {m n : Mac} (hm : MacOk m) (hn : MacOk n) : (eithA m n).length ≤ 240 := by
  have h1 := eithX_len 1 m.a
  have h2 := eithX_len (1 + m.s) n.a
  have h3 := hm.a
  have h4 := hn.a
  unfold eithA; rw [List.length_append]; omega
/-- the J-th machine of two -/
theorem eith_step {m n : Mac} (hm : MacOk m) (hn : MacOk n) {w : World} {av ev bv fv : Value} (h : MacR w av ev m) (k : MacR w bv fv n) {j : Nat} (hj : j < 2) :
    ∃ (x : Mac) (xv yv : Value) (fr : Int), MacR w xv yv x ∧ MacOk x ∧ [.int .i64 m.s, av, ev, .int .i64 n.s, bv, fv][j * 3]? = some (.int .i64 x.s) ∧ [.int .i64 m.s, av, ev, .int .i64 n.s, bv, fv][j * 3 + 1]? = some xv ∧ [.int .i64 m.s, av, ev, .int .i64 n.s, bv, fv][j * 3 + 2]? = some yv ∧
      frN m n j = fr ∧ frN m n (j + 1) = fr + x.s ∧ eaN m n (j + 1) = eaN m n j ++ eithX fr x.a ∧ eeN m n (j + 1) = eeN m n j ++ eithE fr x.e ∧ 1 ≤ fr ∧ fr ≤ 10 ∧ (eaN m n j).length ≤ 120 ∧ (eeN m n j).length ≤ 10 := by
  have h1 := hm.s1
  have h2 := hm.s2
  have h0 := eith0_len m n
  have hA := eithX_len 1 m.a
  have ha := hm.a
  have he := end_bd hm
  obtain rfl | rfl : j = 0 ∨ j = 1 := by omega
  · exact ⟨m, av, ev, 1, h, hm, rfl, rfl, rfl, rfl, rfl, by simp [eaN], rfl, by omega, by omega, by simp [eaN], by show (eith0 m n).length ≤ 10; omega⟩
  · exact ⟨n, bv, fv, 1 + m.s, k, hn, rfl, rfl, rfl, rfl, rfl, rfl, by show eithEs m n = (eith0 m n ++ eithE 1 m.e) ++ _; rw [eithEs, List.append_assoc], by omega, by omega, by show (eithX 1 m.a).length ≤ 120; omega, by show (eith0 m n ++ eithE 1 m.e).length ≤ 10; rw [List.length_append]; unfold eithE; rw [List.length_map]; omega⟩
theorem row_setN {w : World} {B n size g : Nat} {e : TypeId} {xs : List Value} {v : Value} (h : w.ownsRow B e size v n xs) (hn : v.ownBlock ≠ some g) (i : Nat) (x : Value) : (w.setCell ⟨g, i, none⟩ x).ownsRow B e size v n xs :=
  World.ownsRow.kept h (grownBy_set w g i x) (.inr hn)
structure EI (w1 w : World) (gL : Nat) (us : List Value) (gB : Nat) (vs : List Value) (t7 t8 : Value) (A : List Arc) (E : List Int) : Prop where
  ext : Ext w1 w
  lit : Blk w gL 25 us
  box : Blk w gB 25 vs
  arcs : OArcs w w1.heap.size t7 A
  all : OInts 3 w w1.heap.size t8 E
theorem EI.later {w1 w w' : World} {gL gB : Nat} {us vs : List Value} {t7 t8 : Value} {A : List Arc} {E : List Int} (h : EI w1 w gL us gB vs t7 t8 A E) (hx : Ext w w') : EI w1 w' gL us gB vs t7 t8 A E :=
  ⟨h.ext.trans hx, h.lit.ext hx, h.box.ext hx, h.arcs.ext hx, h.all.ext hx⟩
theorem EI.pushA {w1 w w' : World} {gL gB : Nat} {us vs : List Value} {t7 t7' t8 : Value} {A A' : List Arc} {E : List Int} (h : EI w1 w gL us gB vs t7 t8 A E) (hr : OArcs w' w1.heap.size t7' A') (hb : Below w1.heap.size w w') (hg : w.grownBy w' t7.ownBlock) : EI w1 w' gL us gB vs t7' t8 A' E :=
  ⟨h.ext.upto hb (Nat.le_refl _), h.lit.keptR (by decide) h.arcs hg, h.box.keptR (by decide) h.arcs hg, hr, row_keptR h.all (by decide) h.arcs hg⟩
theorem EI.pushE {w1 w w' : World} {gL gB : Nat} {us vs : List Value} {t7 t8 t8' : Value} {A : List Arc} {E E' : List Int} (h : EI w1 w gL us gB vs t7 t8 A E) (hr : OInts 3 w' w1.heap.size t8' E') (hb : Below w1.heap.size w w') (hg : w.grownBy w' t8.ownBlock) : EI w1 w' gL us gB vs t7 t8' A E' :=
  ⟨h.ext.upto hb (Nat.le_refl _), h.lit.keptR (by decide) h.all hg, h.box.keptR (by decide) h.all hg, row_keptR h.arcs (by decide) h.all hg, hr⟩
theorem blk_ne {w : World} {a b : Nat} {us vs : List Value} (h : Blk w a 25 us) (k : Blk w b 50 vs) : a ≠ b := fun e => by
  subst e
  unfold Blk at h k
  rw [h] at k
  injection k with k
  injection k with _ k
  exact absurd k (by decide)
theorem EI.set {w1 w : World} {gL gB b : Nat} {us vs ys : List Value} {t7 t8 : Value} {A : List Arc} {E : List Int} (h : EI w1 w gL us gB vs t7 t8 A E) (hb : Blk w b 50 ys) (hge : w1.heap.size ≤ b) (hn : t7.ownBlock ≠ some b) (i : Nat) (x : Value) : EI w1 (w.setCell ⟨b, i, none⟩ x) gL us gB vs t7 t8 A E :=
  ⟨h.ext.setCell hge _ _, h.lit.other (fun e => blk_ne h.lit hb e.symm) i x, h.box.other (fun e => blk_ne h.box hb e.symm) i x, row_setN h.arcs hn i x, row_setR h.all hb (by decide) i x⟩

end Go.Proofs.Ytpbflkbelhlogaa
/- How many runs read a word and write another one, and whether some does: the program. -/
namespace Go.Proofs.Ytpbflkbelhlogaa
open Go.RowKit Go.Shelf
set_option linter.unusedVariables false

/-! ## plain -/
def uvC (i o : Int) (a : Arc) : Bool := a.i == i && a.o == o
def condUV : List Int → List Int → List (Arc → Bool)
  | i :: u, o :: v => uvC i o :: condUV u v
  | _, _ => []
theorem condUV_nil (v : List Int) : condUV [] v = [] := by cases v <;> rfl
def cntN (n : Nat) (m : Mac) (u v : List Int) : List Int := bwLs n m.a (endsL n m.e) (condUV u v)
def cntUV (m : Mac) (u v : List Int) : Int := if u.length = v.length then (cntN m.s.toNat m u v)[0]?.getD 0 else 0
def relatesB (m : Mac) (u v : List Int) : Bool := if checkK m [u, v] = 0 then decide (0 < cntUV m u v) else false
theorem cntN_len (n : Nat) (m : Mac) (u v : List Int) : (cntN n m u v).length = n := bwLs_len (endsL_len _ _) _
theorem cntN_drop {n : Nat} {m : Mac} {u v : List Int} {k : Nat} (h : k < u.length) (h2 : k < v.length) : cntN n m (u.drop k) (v.drop k) = bwL n m.a (uvC (u[k]?.getD 0) (v[k]?.getD 0)) (cntN n m (u.drop (k + 1)) (v.drop (k + 1))) := by
  rw [drop_one (l := u) h, drop_one (l := v) h2]; rfl
theorem sumL_pos {α : Type} {f : α → Int} : ∀ {l : List α}, (∀ x ∈ l, 0 ≤ f x) → (0 < sumL f l ↔ ∃ x ∈ l, 0 < f x)
  | [], _ => by simp [sumL]
  | y :: l, h => by
    have h1 := h y (by simp)
    have h2 := sumL_nonneg (f := f) (l := l) (fun x hx => h x (by simp [hx]))
    have ih := sumL_pos (f := f) (l := l) (fun x hx => h x (by simp [hx]))
    show 0 < f y + sumL f l ↔ _
    constructor
    · intro hp
      by_cases hy : 0 < f y
      · exact ⟨y, by simp, hy⟩
      · obtain ⟨x, hx, hfx⟩ := ih.1 (by omega)
        exact ⟨x, by simp [hx], hfx⟩
    · rintro ⟨x, hx, hfx⟩
      rcases List.mem_cons.1 hx with rfl | hx
      · omega
      · have := ih.2 ⟨x, hx, hfx⟩
        omega
theorem sumL_le {α : Type} {f : α → Int} {B : Int} : ∀ {l : List α}, (∀ x ∈ l, f x ≤ B) → sumL f l ≤ l.length * B
  | [], _ => by simp [sumL]
  | y :: l, h => by
    have h1 := h y (by simp)
    have ih := sumL_le (f := f) (B := B) (l := l) (fun x hx => h x (by simp [hx]))
    show f y + sumL f l ≤ _
    rw [List.length_cons, Int.natCast_add, Int.add_mul]
    omega
theorem bws_iff {m : Mac} (h : MacOk m) : ∀ (u v : List Int), u.length = v.length → ∀ s : Nat, 0 ≤ bwsE m.a (endE m.e) (condUV u v) s ∧ bwsE m.a (endE m.e) (condUV u v) s ≤ 60 ^ u.length ∧ (0 < bwsE m.a (endE m.e) (condUV u v) s ↔ relP m u v s)
  | [], [], _, s => by
    show 0 ≤ endE m.e s ∧ endE m.e s ≤ 1 ∧ (0 < endE m.e s ↔ (s : Int) ∈ m.e)
    unfold endE
    by_cases hs : (s : Int) ∈ m.e
    · rw [if_pos (List.contains_iff_mem.2 hs)]; simp [hs]
    · rw [if_neg (fun hc => hs (List.contains_iff_mem.1 hc))]; simp [hs]
  | i :: u, o :: v, hl, s => by
    have ih := bws_iff h u v (by simpa using hl)
    have hnn : ∀ a ∈ m.a, 0 ≤ (if (uvC i o a && a.f.toNat == s) = true then bwsE m.a (endE m.e) (condUV u v) a.t.toNat else 0) := fun a _ => by
      split
      · exact (ih _).1
      · omega
    have hle : ∀ a ∈ m.a, (if (uvC i o a && a.f.toNat == s) = true then bwsE m.a (endE m.e) (condUV u v) a.t.toNat else 0) ≤ 60 ^ u.length := fun a _ => by
      split
      · exact (ih _).2.1
      · exact Int.le_of_lt (Int.pow_pos (by decide))
    refine ⟨sumL_nonneg hnn, ?_, ?_⟩
    · have h1 := sumL_le hle
      have h2 : (m.a.length : Int) * 60 ^ u.length ≤ 60 * 60 ^ u.length := Int.mul_le_mul_of_nonneg_right (by have := h.a; omega) (Int.le_of_lt (Int.pow_pos (by decide)))
      show sumL _ _ ≤ (60 : Int) ^ (u.length + 1)
      rw [Int.pow_succ, Int.mul_comm]
      exact Int.le_trans h1 h2
    · show 0 < sumL _ _ ↔ _
      rw [sumL_pos hnn]
      constructor
      · rintro ⟨a, ha, hp⟩
        split at hp
        · rename_i hc
          simp only [uvC, Bool.and_eq_true, beq_iff_eq] at hc
          have hm := h.mem ha
          have hr := (ih a.t.toNat).2.2.1 hp
          rw [Int.toNat_of_nonneg hm.2.1.1] at hr
          exact ⟨a, ha, by omega, hc.1.1, hc.1.2, hr⟩
        · omega
      · rintro ⟨a, ha, h1, h2, h3, hr⟩
        have hm := h.mem ha
        refine ⟨a, ha, ?_⟩
        rw [if_pos (by simp only [uvC, Bool.and_eq_true, beq_iff_eq]; exact ⟨⟨h2, h3⟩, by omega⟩)]
        refine (ih a.t.toNat).2.2.2 ?_
        rw [Int.toNat_of_nonneg hm.2.1.1]; exact hr
theorem cntUV_iff {m : Mac} (h : MacOk m) {u v : List Int} (hu : u.length ≤ 8) : 0 < cntUV m u v ↔ relP m u v 0 := by
  unfold cntUV
  split
  · rename_i hl
    obtain ⟨h1, h2, h3⟩ := bws_iff h u v hl 0
    have hV := (Vec.bwLs h.states (Vec.ends h.ends) (condUV u v)).2 0 (by have := h.s1; omega)
    have hp : (60 : Int) ^ u.length ≤ 60 ^ 8 := by
      have := Nat.pow_le_pow_right (n := 60) (by omega) hu
      exact_mod_cast this
    have hw : wr64 (bwsE m.a (endE m.e) (condUV u v) 0) = bwsE m.a (endE m.e) (condUV u v) 0 := by
      unfold wr64
      exact IntWalk.i64_in _ (by omega)
    unfold cntN
    rw [hV, hw, h3]; rfl
  · rename_i hl
    constructor
    · intro h; omega
    · intro hr; exact absurd (relP_len hr) hl
/-- a row of ints in a new block comes back -/
def RNew (l : List Int) (w : World) (e : Ending) (w' : World) : Prop := ∃ g, e = .returned (.slice (some ⟨g, 0, none⟩) l.length l.length) ∧ BInts w' g l ∧ Ext w w'

set_option maxHeartbeats 8000000 in
set_option maxRecDepth 100000 in
theorem runs_c (av ev uv vv : Value) (m : Mac) (n : Nat) (u v : List Int) (w : World) (h : MacR w av ev m) (hM : MacIn m n) (hu : Ints w uv u) (hv : Ints w vv v) (hul : u.length = v.length) (hu8 : u.length ≤ 1000) :
    Calls Try.prog 98 #[.agg #[.int .i64 m.s, av, ev], uv, vv] w (RNew (cntN n m u v) w) := by
  rw [hM.s]
  obtain ⟨wA, hwA⟩ : ∃ wA, wA = w.alloc (.cells #[.int .i64 (n : Int), av, ev] 25) := ⟨_, rfl⟩
  have hE0 : Ext w wA := by rw [hwA]; exact Ext.alloc _ _
  have k0 : ∀ W, Ext wA W → W.cell? ⟨w.heap.size, 0, none⟩ = some (.int .i64 (n : Int)) := by rw [hwA]; exact kept_alloc w _ _ rfl
  have k1 : ∀ W, Ext wA W → W.cell? ⟨w.heap.size, 1, none⟩ = some av := by rw [hwA]; exact kept_alloc w _ _ rfl
  have k2 : ∀ W, Ext wA W → W.cell? ⟨w.heap.size, 2, none⟩ = some ev := by rw [hwA]; exact kept_alloc w _ _ rfl
  have H0 : Ext wA wA := Ext.refl _
  obtain ⟨aa, ca, rfl, hla, hma, HA⟩ := (h.ext hE0).a.open_
  obtain ⟨ae, ce, rfl, hle, hme, HE⟩ := (h.ext hE0).e.open_
  obtain ⟨au, cu, rfl, hlu, hmu, HU⟩ := (hu.ext hE0).open_
  obtain ⟨av2, cv, rfl, hlv, hmv, HV⟩ := (hv.ext hE0).open_
  have HW := Lib.hid hwA; clear hwA h hu hv
  have hn1 := hM.n1
  have hn9 := hM.n9
  have HM := Lib.hid hM; clear hM
  have HL := Lib.hid hul; clear hul
  have hw1 : IntKind.i64.wrap ((u.length : Int) - 1) = (u.length : Int) - 1 := IntWalk.i64_in _ (by omega)
  go_enter Try.func98, Try.ntmps98
  go_wp2_with (at_make; refine wpList_make_blk n elInts rfl rfl _ _ rfl rfl rfl (by omega) (by omega) ?_; intro g w2 hg hblk hx2 hg2; rw [← HW.out] at hg hx2)
  have hbk : BInts w2 g (onesL (m.e.take 0) (List.replicate n 0)) := by unfold BInts; rw [List.take_zero]; simpa [onesL] using hblk
  clear hblk hg2
  go_loopg [20] m.e.length (fun z i wr => ∃ k : Nat, k ≤ m.e.length ∧ m.e.length ≤ k + z ∧ i = .int .i64 k ∧ Ext wA wr ∧ BInts wr g (onesL (m.e.take k) (List.replicate n 0)))
  case atStart => exact ⟨0, by omega, by omega, rfl, hx2, hbk⟩
  case round =>
    clear hx2 hbk
    obtain ⟨k, hk, hk2, rfl, hEr, hbk⟩ := hrel
    by_cases hlt : k < m.e.length
    · obtain ⟨be, oe, rfl, hc⟩ := HE.out k hlt
      replace hc := hEr.keep hc
      have hx := HM.out.ends k hlt
      have hN := Lib.hid (onesL_next hlt (List.replicate n 0))
      generalize m.e[k]?.getD 0 = x at *
      obtain ⟨j, rfl⟩ : ∃ j : Nat, x = j := ⟨x.toNat, by omega⟩
      have hj : j < n := by omega
      have hjl : j < (onesL (m.e.take k) (List.replicate n 0)).length := by rw [onesL_len]; simpa using hj
      have hbc := hbk.cell hjl
      have hbf := Blk.frozen hbk j
      have hset := Lib.hid (hbk.set j 1)
      rw [Int.toNat_natCast] at hN
      generalize onesL (m.e.take k) (List.replicate n 0) = O at *
      clear hx hjl hbk
      go_wp2_with fail
      go_roundg (gk-1)
      case measure => omega
      case rel => exact ⟨k+1, by omega, by omega, by go_num, hEr.setCell hg _ _, by rw [hN.out]; exact hset.out⟩
    · have hbE : BInts wr g (cntN n m (u.drop u.length) (v.drop u.length)) := by
        rw [List.take_of_length_le (by omega)] at hbk; rw [List.drop_length, cntN, condUV_nil]; exact hbk
      clear hbk
      obtain ⟨W0, rfl⟩ : ∃ W : World, W = wr := ⟨_, rfl⟩
      go_wp2_with fail
      clear hk hk2 hlt
      go_loopg [10, 7] u.length (fun z i v7 wr => ∃ (k gn : Nat) (x : Int), k ≤ u.length ∧ k ≤ z ∧ x = (k : Int) - 1 ∧ i = .int .i64 x ∧ v7 = .slice (some ⟨gn, 0, none⟩) n n ∧ Ext wA wr ∧ BInts wr gn (cntN n m (u.drop k) (v.drop k)))
      case atStart => exact ⟨u.length, g, _, by omega, by omega, rfl, rfl, rfl, hEr, hbE⟩
      case round =>
        clear hEr hbE hg
        obtain ⟨k, gn, x, hk, hkz, hxk, rfl, rfl, hEr, hbn⟩ := hrel
        by_cases hk0 : k = 0
        · subst hk0
          obtain rfl : x = -1 := by omega
          clear hxk
          have hb0 : BInts wr gn (cntN n m u v) := by simpa using hbn
          have HB0 := Lib.hid hb0
          have HLN := Lib.hid (cntN_len n m u v)
          clear hbn hb0
          go_wp2_with fail
          go_ret
          exact ⟨gn, by rw [HLN.out]; rfl, HB0.out, hE0.trans hEr⟩
        · obtain ⟨j, rfl⟩ : ∃ j, k = j + 1 := ⟨k - 1, by omega⟩
          obtain rfl : x = (j : Int) := by omega
          clear hxk hk0
          obtain ⟨g1, rfl⟩ : ∃ g : Nat, g = gk := ⟨_, rfl⟩
          obtain ⟨bu, ou, rfl, hcu⟩ := HU.out j (by omega)
          obtain ⟨bv, ov, rfl, hcv⟩ := HV.out j (by rw [← HL.out]; omega)
          have hjv : j < v.length := by rw [← HL.out]; omega
          have HNX := Lib.hid (cntN_drop (n := n) (m := m) (u := u) (v := v) (k := j) (by omega) hjv)
          have hln := cntN_len n m (u.drop (j + 1)) (v.drop (j + 1))
          generalize cntN n m (u.drop (j + 1)) (v.drop (j + 1)) = now at *
          generalize u[j]?.getD 0 = us at *
          generalize v[j]?.getD 0 = vs at *
          have HLN := Lib.hid hln; clear hln
          obtain ⟨W1, rfl⟩ : ∃ W : World, W = wr := ⟨_, rfl⟩
          replace hcu := hEr.keep hcu
          replace hcv := hEr.keep hcv
          go_wp2_with (at_make; refine wpList_make_blk n elInts rfl rfl _ _ rfl rfl rfl (by omega) (by omega) ?_; intro gb w2 hgb hblk hx2 hg2; have hE2 := hEr.trans hx2)
          have hbb : BInts w2 gb ((m.a.take 0).foldl (bwStep (uvC us vs) now) (List.replicate n 0)) := by unfold BInts; rw [List.take_zero]; simpa using hblk
          clear hblk hg2 hE2
          go_loopg [41] m.a.length (fun z i wr => ∃ t : Nat, t ≤ m.a.length ∧ m.a.length ≤ t + z ∧ i = .int .i64 t ∧ Ext W1 wr ∧ BInts wr gb ((m.a.take t).foldl (bwStep (uvC us vs) now) (List.replicate n 0)))
          case atStart => exact ⟨0, by omega, by omega, rfl, hx2, hbb⟩
          case round =>
            clear hx2 hbb
            obtain ⟨t, ht, htz, rfl, hX1, hbb⟩ := hrel
            have hEr2 : Ext wA wr := hEr.trans hX1
            by_cases hlt : t < m.a.length
            · obtain ⟨ba, oa, rfl, hc0, hc1, hc2, hc3⟩ := HA.out t hlt
              replace hc0 := hEr2.keep hc0
              replace hc1 := hEr2.keep hc1
              replace hc2 := hEr2.keep hc2
              replace hc3 := hEr2.keep hc3
              have hst := HM.out.arc t hlt
              have HST := Lib.hid (fold_next hlt (bwStep (uvC us vs) now) (List.replicate n 0))
              have hol : ((m.a.take t).foldl (bwStep (uvC us vs) now) (List.replicate n 0)).length = n := by rw [bwF_len]; simp
              generalize arcA m.a t = y at *
              generalize (m.a.take t).foldl (bwStep (uvC us vs) now) (List.replicate n 0) = O at *
              have HOL := Lib.hid hol; clear hol
              obtain ⟨yf, yt, yi, yo⟩ := y
              simp only at hc0 hc1 hc2 hc3 hst
              obtain ⟨p, rfl⟩ : ∃ p : Nat, yf = p := ⟨yf.toNat, by omega⟩
              obtain ⟨q, rfl⟩ : ∃ q : Nat, yt = q := ⟨yt.toNat, by omega⟩
              have hp : p < n := by omega
              have hq : q < n := by omega
              clear hst
              obtain ⟨wB, hwB⟩ : ∃ wB, wB = wr.alloc (.cells #[.int .i64 (p : Int), .int .i64 (q : Int), .int .i64 yi, .int .i64 yo] 50) := ⟨_, rfl⟩
              have hEB : Ext wr wB := by rw [hwB]; exact Ext.alloc _ _
              have b0 : ∀ W, Ext wB W → W.cell? ⟨wr.heap.size, 0, none⟩ = some (.int .i64 p) := by rw [hwB]; exact kept_alloc wr _ _ rfl
              have b1 : ∀ W, Ext wB W → W.cell? ⟨wr.heap.size, 1, none⟩ = some (.int .i64 q) := by rw [hwB]; exact kept_alloc wr _ _ rfl
              have b2 : ∀ W, Ext wB W → W.cell? ⟨wr.heap.size, 2, none⟩ = some (.int .i64 yi) := by rw [hwB]; exact kept_alloc wr _ _ rfl
              have b3 : ∀ W, Ext wB W → W.cell? ⟨wr.heap.size, 3, none⟩ = some (.int .i64 yo) := by rw [hwB]; exact kept_alloc wr _ _ rfl
              have HWB := Lib.hid hwB; clear hwB
              have HNO : Hid (bwStep (uvC us vs) now O ⟨(p : Int), (q : Int), yi, yo⟩ = if (yi == us && yo == vs) = true then O.set p (wrap64 (O[p]?.getD 0 + now[q]?.getD 0)) else O) := by
                rw [← wr64_eq]; exact Lib.hid rfl
              have hs : ∀ s : Later wB, Ext wB s.w := fun s => s.ext
              have q0 := fun s : Later wB => (hX1.trans (hEB.trans s.ext)).keep hcu
              have q1 := fun s : Later wB => (hX1.trans (hEB.trans s.ext)).keep hcv
              by_cases hi : yi = us
              · by_cases ho : yo = vs
                · subst hi ho
                  have hi1 : (yi == yi) = true := by simp
                  have ho1 : (yo == yo) = true := by simp
                  go_wp2_with fail
                  rw [← HWB.out]
                  clear hc0 hc1 hc2 hc3
                  refine wp_region_later (by kernel_rfl) (by kernel_rfl) ?_
                  repeat (go_big_quiet_step (fail))
                  refine wpQuiet_nil ?_
                  intro w5 hw'
                  obtain ⟨⟨_, hx5⟩, rfl⟩ := hw'
                  clear hs q0 q1
                  have hX5 : Ext W1 w5 := hX1.trans (hEB.trans hx5)
                  have hbb5 : BInts w5 gb O := Blk.ext hbb (hEB.trans hx5)
                  clear hbb
                  have hs : ∀ s : Later w5, Ext wB s.w := fun s => hx5.trans s.ext
                  have hbn5 : BInts w5 gn now := Blk.ext hbn hX5
                  have q0 := fun s : Later w5 => s.ext.keep (hbn5.cell (i := q) (by rw [HLN.out]; exact hq))
                  have q1 := fun s : Later w5 => s.ext.keep (hbb5.cell (i := p) (by rw [HOL.out]; exact hp))
                  generalize now[q]?.getD 0 = xq at *
                  generalize O[p]?.getD 0 = xp at *
                  go_wp2_with fail
                  refine wp_region_later_tail 12 (by kernel_rfl) (by kernel_rfl) ?_
                  simp only [List.take_succ_cons, List.take_zero, List.drop_succ_cons, List.drop_zero]
                  repeat (go_big_quiet_step (fail))
                  refine wpQuiet_nil ?_
                  intro w6 hw'
                  obtain ⟨⟨_, hx6⟩, rfl⟩ := hw'
                  clear hs q0 q1
                  have hbb6 : BInts w6 gb O := Blk.ext hbb5 hx6
                  have hn2 := hbb6.cell (i := p) (by rw [HOL.out]; exact hp)
                  have hf2 := Blk.frozen hbb6 p
                  have HSET := Lib.hid (hbb6.set p (wrap64 (xp + xq)))
                  have hX6 := hX5.trans hx6
                  clear hbb5 hbb6 hbn5
                  go_wp2_with fail
                  go_roundg (gk-1)
                  case measure => omega
                  case rel => exact ⟨t+1, by omega, by omega, by go_num, hX6.setCell hgb _ _, by rw [HST.out, HNO.out, if_pos (by simp)]; exact HSET.out⟩
                · subst hi
                  have hi1 : (yi == yi) = true := by simp
                  have ho1 : (yo == vs) = false := by simp [ho]
                  have HO := Lib.hid ho; clear ho
                  go_wp2_with fail
                  rw [← HWB.out]
                  clear hc0 hc1 hc2 hc3
                  refine wp_region_later (by kernel_rfl) (by kernel_rfl) ?_
                  repeat (go_big_quiet_step (fail))
                  refine wpQuiet_nil ?_
                  intro w5 hw'
                  obtain ⟨⟨_, hx5⟩, rfl⟩ := hw'
                  clear hs q0 q1
                  have hX5 : Ext W1 w5 := hX1.trans (hEB.trans hx5)
                  have hbb5 : BInts w5 gb O := Blk.ext hbb (hEB.trans hx5)
                  clear hbb
                  go_wp2_with fail
                  go_roundg (gk-1)
                  case measure => omega
                  case rel => exact ⟨t+1, by omega, by omega, by go_num, hX5, by rw [HST.out, HNO.out, if_neg (by simp [HO.out])]; exact hbb5⟩
              · have hi1 : (yi == us) = false := by simp [hi]
                have HI := Lib.hid hi; clear hi
                go_wp2_with fail
                rw [← HWB.out]
                clear hc0 hc1 hc2 hc3
                refine wp_region_later (by kernel_rfl) (by kernel_rfl) ?_
                repeat (go_big_quiet_step (fail))
                refine wpQuiet_nil ?_
                intro w5 hw'
                obtain ⟨⟨_, hx5⟩, rfl⟩ := hw'
                clear hs q0 q1
                have hX5 : Ext W1 w5 := hX1.trans (hEB.trans hx5)
                have hbb5 : BInts w5 gb O := Blk.ext hbb (hEB.trans hx5)
                clear hbb
                go_wp2_with fail
                go_roundg (gk-1)
                case measure => omega
                case rel => exact ⟨t+1, by omega, by omega, by go_num, hX5, by rw [HST.out, HNO.out, if_neg (by simp [HI.out])]; exact hbb5⟩
            · have hbN : BInts wr gb (cntN n m (u.drop j) (v.drop j)) := by rw [HNX.out, bwL]; rw [List.take_of_length_le (by omega)] at hbb; exact hbb
              clear hbb
              go_wp2_with fail
              go_roundg (g1-1)
              case measure => omega
              case rel => exact ⟨j, gb, _, by omega, by omega, rfl, by go_num, rfl, hEr2, hbN⟩

set_option maxHeartbeats 2000000 in
theorem count_c (av ev uv vv : Value) (m : Mac) (u v : List Int) (w : World) (h : MacR w av ev m) (hM : MacIn m m.s.toNat) (hu : Ints w uv u) (hv : Ints w vv v) (hu8 : u.length ≤ 1000) :
    Calls Try.prog 78 #[.agg #[.int .i64 m.s, av, ev], uv, vv] w (RV (.int .i64 (cntUV m u v)) w) := by
  obtain ⟨wA, hwA⟩ : ∃ wA, wA = w.alloc (.cells #[.int .i64 m.s, av, ev] 25) := ⟨_, rfl⟩
  have hE0 : Ext w wA := by rw [hwA]; exact Ext.alloc _ _
  have k0 : ∀ W, Ext wA W → W.cell? ⟨w.heap.size, 0, none⟩ = some (.int .i64 m.s) := by rw [hwA]; exact kept_alloc w _ _ rfl
  have k1 : ∀ W, Ext wA W → W.cell? ⟨w.heap.size, 1, none⟩ = some av := by rw [hwA]; exact kept_alloc w _ _ rfl
  have k2 : ∀ W, Ext wA W → W.cell? ⟨w.heap.size, 2, none⟩ = some ev := by rw [hwA]; exact kept_alloc w _ _ rfl
  have H0 : Ext wA wA := Ext.refl _
  have HR := Lib.hid (h.ext hE0)
  have HIU := Lib.hid (hu.ext hE0)
  have HIV := Lib.hid (hv.ext hE0)
  obtain ⟨aa, ca, rfl, hla, hma, HA⟩ := (h.ext hE0).a.open_
  obtain ⟨ae, ce, rfl, hle, hme, HE⟩ := (h.ext hE0).e.open_
  obtain ⟨au, cu, rfl, hlu, hmu, HU⟩ := (hu.ext hE0).open_
  obtain ⟨av2, cv, rfl, hlv, hmv, HV⟩ := (hv.ext hE0).open_
  have HW := Lib.hid hwA; clear hwA h hu hv
  by_cases hl : u.length = v.length
  · have hd : ((u.length : Int) != (v.length : Int)) = false := by simp [hl]
    have HC : Hid (cntUV m u v = (cntN m.s.toNat m u v)[0]?.getD 0) := Lib.hid (by rw [cntUV, if_pos hl])
    have HRU := Lib.hid (runs_c _ _ _ _ m m.s.toNat u v wA HR.out hM HIU.out HIV.out hl hu8)
    have HLN := Lib.hid (cntN_len m.s.toNat m u v)
    have hn1 := hM.n1
    clear hl hM
    generalize cntN m.s.toNat m u v = L at *
    have hL0 : 0 < L.length := by rw [HLN.out]; exact hn1
    go_enter Try.func78, Try.ntmps78
    go_wp2_with fail
    rw [← HW.out]
    refine HRU.out.mono ?_; rintro e w1 ⟨g, rfl, hb, hx1⟩
    have c0 := hb.cell (i := 0) hL0
    rw [← HC.out] at c0
    clear hb
    go_wp2_with fail
    go_ret
    exact RV.int rfl (hE0.trans hx1)
  · have hd : ((u.length : Int) != (v.length : Int)) = true := by simp; omega
    have HC : Hid (cntUV m u v = 0) := Lib.hid (by rw [cntUV, if_neg hl])
    clear hl
    go_enter Try.func78, Try.ntmps78
    go_wp2_with fail
    rw [← HW.out]
    go_ret
    exact RV.int (by rw [HC.out]) hE0

theorem checkK_ok2 {m : Mac} {u v : List Int} (h : checkK m [u, v] = 0) : checkK m [u] = 0 ∧ checkK m [v] = 0 := by
  rw [checkK_two] at h
  rw [checkK_one, checkK_one]
  split at h
  · rename_i h1
    split at h
    · rename_i h2; exact ⟨by rw [if_pos h1]; exact h2, by rw [if_pos h1]; exact h⟩
    · rename_i h2; exact absurd h h2
  · rename_i h1; exact absurd h h1
set_option maxHeartbeats 2000000 in
theorem Relates_c (av ev uv vv : Value) (m : Mac) (u v : List Int) (w : World) (h : MacR w av ev m) (hu : Ints w uv u) (hv : Ints w vv v) :
    Calls Try.prog 44 #[.agg #[.int .i64 m.s, av, ev], uv, vv] w (RV (.tuple #[.bool (relatesB m u v), .int .i64 (checkK m [u, v])]) w) := by
  obtain ⟨wA, hwA⟩ : ∃ wA, wA = w.alloc (.cells #[.int .i64 m.s, av, ev] 25) := ⟨_, rfl⟩
  have hE0 : Ext w wA := by rw [hwA]; exact Ext.alloc _ _
  have k0 : ∀ W, Ext wA W → W.cell? ⟨w.heap.size, 0, none⟩ = some (.int .i64 m.s) := by rw [hwA]; exact kept_alloc w _ _ rfl
  have k1 : ∀ W, Ext wA W → W.cell? ⟨w.heap.size, 1, none⟩ = some av := by rw [hwA]; exact kept_alloc w _ _ rfl
  have k2 : ∀ W, Ext wA W → W.cell? ⟨w.heap.size, 2, none⟩ = some ev := by rw [hwA]; exact kept_alloc w _ _ rfl
  have H0 : Ext wA wA := Ext.refl _
  have HR := Lib.hid (h.ext hE0)
  have HIU := Lib.hid (hu.ext hE0)
  have HIV := Lib.hid (hv.ext hE0)
  obtain ⟨aa, ca, rfl, hla, hma, HA⟩ := (h.ext hE0).a.open_
  obtain ⟨ae, ce, rfl, hle, hme, HE⟩ := (h.ext hE0).e.open_
  obtain ⟨au, cu, rfl, hlu, hmu, HU⟩ := (hu.ext hE0).open_
  obtain ⟨av2, cv, rfl, hlv, hmv, HV⟩ := (hv.ext hE0).open_
  have hxL := Ext.alloc wA (.cells #[.slice au u.length cu, .slice av2 v.length cv] 23)
  have HC := Lib.hid (by have := check_c _ _ _ m [u, v] _ (HR.out.ext hxL) (rows_new wA [.slice au u.length cu, .slice av2 v.length cv] [u, v] (AllInts.cons HIU.out (AllInts.cons HIV.out (AllInts.nil _))) (by simp)); rw [show wA.heap.size = w.heap.size + 1 by rw [hwA]; simp] at this; exact this)
  have HW := Lib.hid hwA; clear hwA h hu hv
  by_cases h0 : checkK m [u, v] = 0
  · obtain ⟨hm, hul, _⟩ := checkK_ok (checkK_ok2 h0).1
    have HCN := Lib.hid (fun W (hW : Ext wA W) => count_c _ _ _ _ m u v W (HR.out.ext hW) hm.in_ (HIU.out.ext hW) (HIV.out.ext hW) (by omega))
    have HB : Hid (relatesB m u v = decide (0 < cntUV m u v)) := Lib.hid (by rw [relatesB, if_pos h0])
    rw [h0] at HC ⊢
    clear h0 hm
    generalize cntUV m u v = c at *
    go_enter Try.func44, Try.ntmps44
    go_wp2_with fail
    rw [← HW.out]
    refine HC.out.mono ?_; rintro e w1 ⟨rfl, hx1⟩
    have hx1 := hxL.trans hx1
    go_wp2_with fail
    refine (HCN.out w1 hx1).mono ?_; rintro e w2 ⟨rfl, hx2⟩
    go_wp2_with fail
    go_ret2
    exact ⟨by rw [HB.out]; rfl, hE0.trans (hx1.trans hx2)⟩
  · rw [show relatesB m u v = false by rw [relatesB, if_neg h0]]
    have hk : (checkK m [u, v] != 0) = true := by simp [h0]
    generalize checkK m [u, v] = k at *
    clear h0
    go_enter Try.func44, Try.ntmps44
    go_wp2_with fail
    rw [← HW.out]
    refine HC.out.mono ?_; rintro e w1 ⟨rfl, hx1⟩
    have hx1 := hxL.trans hx1
    go_wp2_with fail
    go_ret2
    exact ⟨rfl, hE0.trans hx1⟩
end Go.Proofs.Ytpbflkbelhlogaa
/- Machines: what either of two relates. Plain laws. -/
namespace Go.Proofs.Ytpbflkbelhlogaa
open Go.RowKit Go.Shelf
set_option linter.unusedVariables false
theorem setB_pair {l : List Int} {n : Int} (h : setB l n = true) : l.Pairwise (· < ·) := by
  rw [List.pairwise_iff_getElem]
  intro i j hi hj hij
  have := setB_lt h hj i hij
  simpa only [hi, hj, List.getElem?_eq_getElem, Option.getD_some] using this
theorem setB_of {l : List Int} {n : Int} (h : ∀ x ∈ l, 0 ≤ x ∧ x < n) (hp : l.Pairwise (· < ·)) : setB l n = true := by
  unfold setB
  refine allB_true fun i hi => ?_
  have h1 := h l[i] (List.getElem_mem hi)
  unfold setAt inB
  rw [List.getElem?_eq_getElem hi]
  simp only [Option.getD_some, Bool.and_eq_true, decide_eq_true_eq, Bool.not_eq_true', Bool.and_eq_false_iff, decide_eq_false_iff_not]
  refine ⟨by omega, ?_⟩
  by_cases h0 : 0 < i
  · right
    rw [List.getElem?_eq_getElem (by omega), Option.getD_some]
    have := (List.pairwise_iff_getElem.1 hp) (i - 1) i (by omega) hi (by omega)
    omega
  · exact .inl h0
theorem mem_eith1 {f : Int} {a b : Arc} : a ∈ eith1 f b ↔ a = mov1 f b ∨ (b.f = 0 ∧ a = mov0 f b) := by
  unfold eith1
  split <;> rename_i h <;> simp [h]
theorem mem_eithA {m n : Mac} {a : Arc} : a ∈ eithA m n ↔ (∃ b ∈ m.a, a = mov1 1 b ∨ (b.f = 0 ∧ a = mov0 1 b)) ∨ (∃ b ∈ n.a, a = mov1 (1 + m.s) b ∨ (b.f = 0 ∧ a = mov0 (1 + m.s) b)) := by
  unfold eithA eithX
  rw [List.mem_append, List.mem_flatMap, List.mem_flatMap]
  simp only [mem_eith1]
theorem mem_eith0 {m n : Mac} {s : Int} : s ∈ eith0 m n ↔ s = 0 ∧ (0 ∈ m.e ∨ 0 ∈ n.e) := by
  unfold eith0
  rw [hasB_eq, hasB_eq]
  by_cases h1 : (0 : Int) ∈ m.e <;> by_cases h2 : (0 : Int) ∈ n.e <;> simp [h1, h2]
theorem mem_eithEs {m n : Mac} {s : Int} : s ∈ eithEs m n ↔ (s = 0 ∧ (0 ∈ m.e ∨ 0 ∈ n.e)) ∨ (∃ e ∈ m.e, e + 1 = s) ∨ (∃ e ∈ n.e, e + (1 + m.s) = s) := by
  unfold eithEs eithE
  rw [List.mem_append, List.mem_append, mem_eith0, List.mem_map, List.mem_map]
/-- either of two, as the list of its arcs lies in order -/
structure IsE (m n c : Mac) : Prop where
  s : c.s = 1 + m.s + n.s
  a : ∀ a, a ∈ c.a ↔ a ∈ eithA m n
  e : c.e = eithEs m n
theorem eith_pair {m n : Mac} (hm : MacOk m) (hn : MacOk n) : (eithEs m n).Pairwise (· < ·) := by
  unfold eithEs eithE
  have h1 := setB_in hm.e
  have h2 := setB_in hn.e
  have h3 := hm.s1
  have h4 := hn.s1
  have h0 : (eith0 m n).Pairwise (· < ·) := by
    unfold eith0
    by_cases h1 : hasB m.e 0 = true <;> by_cases h2 : hasB n.e 0 = true <;> simp [h1, h2]
  rw [List.pairwise_append]
  refine ⟨h0, ?_, fun x hx y hy => ?_⟩
  · rw [List.pairwise_append]
    refine ⟨List.pairwise_map.2 ((setB_pair hm.e).imp fun {a b} h => by omega), List.pairwise_map.2 ((setB_pair hn.e).imp fun {a b} h => by omega), fun x hx y hy => ?_⟩
    obtain ⟨p, hp, rfl⟩ := List.mem_map.1 hx
    obtain ⟨q, hq, rfl⟩ := List.mem_map.1 hy
    have := h1 p hp
    have := h2 q hq
    omega
  · obtain ⟨rfl, _⟩ := mem_eith0.1 hx
    rw [List.mem_append, List.mem_map, List.mem_map] at hy
    rcases hy with ⟨q, hq, rfl⟩ | ⟨q, hq, rfl⟩
    · have := h1 q hq; omega
    · have := h2 q hq; omega
theorem arcOk_of {s : Int} {a : Arc} (h : (0 ≤ a.f ∧ a.f < s) ∧ (0 ≤ a.t ∧ a.t < s) ∧ (0 ≤ a.i ∧ a.i ≤ 5) ∧ (0 ≤ a.o ∧ a.o ≤ 5)) : arcOk s a = true := by
  simp only [arcOk, Bool.and_eq_true, inB, decide_eq_true_eq]
  omega
theorem either_ok {m n : Mac} (h : eitherK m n = 0) : MacOk m ∧ MacOk n ∧ validM m = 0 ∧ validM n = 0 ∧ validM (eitherM m n) = 0 ∧ IsE m n (eitherM m n) := by
  unfold eitherK at h
  by_cases hb : bothK m n = 0
  · rw [if_pos hb] at h
    obtain ⟨hm, hn⟩ := both_ok hb
    have hv : validM m = 0 := by
      unfold bothK at hb
      split at hb
      · assumption
      · rename_i h0; exact absurd hb h0
    have hv2 : validM n = 0 := by rw [bothK, if_pos hv] at hb; exact hb
    have hk := h
    unfold madeK at h
    split at h
    · omega
    · rename_i h9
      split at h
      · omega
      · rename_i h60
        have hC : eitherM m n = ⟨1 + m.s + n.s, arcsU (eithA m n), eithEs m n⟩ := by rw [eitherM, if_pos hb, madeM, if_pos hk]
        have hm1 := hm.s1
        have hn1 := hn.s1
        refine ⟨hm, hn, hv, hv2, ?_, by rw [hC], fun a => by rw [hC]; exact arcsU_mem _ _, by rw [hC]⟩
        rw [hC]
        have g1 : inB (1 + m.s + n.s) 1 9 = true := by simp [inB]; omega
        have g3 : allB (arcsU (eithA m n)).length (fun k => arcOk (1 + m.s + n.s) (arcA (arcsU (eithA m n)) k)) = true := allB_true fun j hj => by
          have hx : arcA (arcsU (eithA m n)) j ∈ eithA m n := (arcsU_mem _ _).1 (by unfold arcA; rw [List.getElem?_eq_getElem hj]; exact List.getElem_mem hj)
          refine arcOk_of ?_
          rcases mem_eithA.1 hx with ⟨b, hb, he | ⟨h0, he⟩⟩ | ⟨b, hb, he | ⟨h0, he⟩⟩ <;> rw [he]
          · have := hm.mem hb; simp only [mov1]; omega
          · have := hm.mem hb; simp only [mov0]; omega
          · have := hn.mem hb; simp only [mov1]; omega
          · have := hn.mem hb; simp only [mov0]; omega
        have g4 : setB (eithEs m n) (1 + m.s + n.s) = true := setB_of (fun x hx => by
          rcases mem_eithEs.1 hx with ⟨rfl, _⟩ | ⟨e, he, rfl⟩ | ⟨e, he, rfl⟩
          · omega
          · have := setB_in hm.e e he; omega
          · have := setB_in hn.e e he; omega) (eith_pair hm hn)
        have g5 : onceB (arcsU (eithA m n)) = true := once_nodup.2 (List.Pairwise.imp (fun {a b : Arc} (hab : LtA a b) (he : a = b) => by subst he; exact LtA.irrefl _ hab) (arcsU_asc (eithA m n)))
        unfold validM
        rw [if_pos g1, if_neg h60, if_pos g3, if_pos g4, if_pos g5]
  · rw [if_neg hb] at h; exact absurd h hb
theorem either_in1 {m n c : Mac} (hm : MacOk m) (hn : MacOk n) (hc : IsE m n c) : ∀ (u v : List Int) (s : Int), 0 ≤ s → s < m.s → (relP c u v (s + 1) ↔ relP m u v s)
  | [], [], s, h0, h1 => by
    show s + 1 ∈ c.e ↔ s ∈ m.e
    rw [hc.e, mem_eithEs]
    constructor
    · rintro (⟨h, _⟩ | ⟨e, he, h⟩ | ⟨e, he, h⟩)
      · omega
      · obtain rfl : e = s := by omega
        exact he
      · have := setB_in hn.e e he; omega
    · intro h; exact .inr (.inl ⟨s, h, rfl⟩)
  | i :: u, o :: v, s, h0, h1 => by
    show (∃ a ∈ c.a, a.f = s + 1 ∧ a.i = i ∧ a.o = o ∧ relP c u v a.t) ↔ ∃ a ∈ m.a, a.f = s ∧ a.i = i ∧ a.o = o ∧ relP m u v a.t
    constructor
    · rintro ⟨a, ha, h2, h3, h4, h5⟩
      rcases mem_eithA.1 ((hc.a a).1 ha) with ⟨b, hb, rfl | ⟨hf, rfl⟩⟩ | ⟨b, hb, rfl | ⟨hf, rfl⟩⟩
      · have hbm := hm.mem hb
        simp only [mov1] at h2 h3 h4 h5
        exact ⟨b, hb, by omega, h3, h4, (either_in1 hm hn hc u v b.t hbm.2.1.1 hbm.2.1.2).1 h5⟩
      · simp only [mov0] at h2; omega
      · have := hn.mem hb; simp only [mov1] at h2; omega
      · simp only [mov0] at h2; omega
    · rintro ⟨b, hb, h2, h3, h4, h5⟩
      have hbm := hm.mem hb
      exact ⟨mov1 1 b, (hc.a _).2 (mem_eithA.2 (.inl ⟨b, hb, .inl rfl⟩)), by simp only [mov1]; omega, h3, h4, (either_in1 hm hn hc u v b.t hbm.2.1.1 hbm.2.1.2).2 h5⟩
  | [], _ :: _, _, _, _ => Iff.rfl
  | _ :: _, [], _, _, _ => Iff.rfl
theorem either_in2 {m n c : Mac} (hm : MacOk m) (hn : MacOk n) (hc : IsE m n c) : ∀ (u v : List Int) (s : Int), 0 ≤ s → s < n.s → (relP c u v (s + (1 + m.s)) ↔ relP n u v s)
  | [], [], s, h0, h1 => by
    show s + (1 + m.s) ∈ c.e ↔ s ∈ n.e
    have hm1 := hm.s1
    rw [hc.e, mem_eithEs]
    constructor
    · rintro (⟨h, _⟩ | ⟨e, he, h⟩ | ⟨e, he, h⟩)
      · omega
      · have := setB_in hm.e e he; omega
      · obtain rfl : e = s := by omega
        exact he
    · intro h; exact .inr (.inr ⟨s, h, rfl⟩)
  | i :: u, o :: v, s, h0, h1 => by
    have hm1 := hm.s1
    show (∃ a ∈ c.a, a.f = s + (1 + m.s) ∧ a.i = i ∧ a.o = o ∧ relP c u v a.t) ↔ ∃ a ∈ n.a, a.f = s ∧ a.i = i ∧ a.o = o ∧ relP n u v a.t
    constructor
    · rintro ⟨a, ha, h2, h3, h4, h5⟩
      rcases mem_eithA.1 ((hc.a a).1 ha) with ⟨b, hb, rfl | ⟨hf, rfl⟩⟩ | ⟨b, hb, rfl | ⟨hf, rfl⟩⟩
      · have := hm.mem hb; simp only [mov1] at h2; omega
      · simp only [mov0] at h2; omega
      · have hbm := hn.mem hb
        simp only [mov1] at h2 h3 h4 h5
        exact ⟨b, hb, by omega, h3, h4, (either_in2 hm hn hc u v b.t hbm.2.1.1 hbm.2.1.2).1 h5⟩
      · simp only [mov0] at h2; omega
    · rintro ⟨b, hb, h2, h3, h4, h5⟩
      have hbm := hn.mem hb
      exact ⟨mov1 (1 + m.s) b, (hc.a _).2 (mem_eithA.2 (.inr ⟨b, hb, .inl rfl⟩)), by simp only [mov1]; omega, h3, h4, (either_in2 hm hn hc u v b.t hbm.2.1.1 hbm.2.1.2).2 h5⟩
  | [], _ :: _, _, _, _ => Iff.rfl
  | _ :: _, [], _, _, _ => Iff.rfl
theorem either_rel {m n c : Mac} (hm : MacOk m) (hn : MacOk n) (hc : IsE m n c) : ∀ (u v : List Int), relP c u v 0 ↔ relP m u v 0 ∨ relP n u v 0
  | [], [] => by
    have hm1 := hm.s1
    show 0 ∈ c.e ↔ 0 ∈ m.e ∨ 0 ∈ n.e
    rw [hc.e, mem_eithEs]
    constructor
    · rintro (⟨_, h⟩ | ⟨e, he, h⟩ | ⟨e, he, h⟩)
      · exact h
      · have := setB_in hm.e e he; omega
      · have := setB_in hn.e e he; omega
    · intro h; exact .inl ⟨rfl, h⟩
  | i :: u, o :: v => by
    have hm1 := hm.s1
    show (∃ a ∈ c.a, a.f = 0 ∧ a.i = i ∧ a.o = o ∧ relP c u v a.t) ↔ (∃ a ∈ m.a, a.f = 0 ∧ a.i = i ∧ a.o = o ∧ relP m u v a.t) ∨ ∃ a ∈ n.a, a.f = 0 ∧ a.i = i ∧ a.o = o ∧ relP n u v a.t
    constructor
    · rintro ⟨a, ha, h2, h3, h4, h5⟩
      rcases mem_eithA.1 ((hc.a a).1 ha) with ⟨b, hb, rfl | ⟨hf, rfl⟩⟩ | ⟨b, hb, rfl | ⟨hf, rfl⟩⟩
      · have := hm.mem hb; simp only [mov1] at h2; omega
      · have hbm := hm.mem hb
        exact .inl ⟨b, hb, hf, h3, h4, (either_in1 hm hn hc u v b.t hbm.2.1.1 hbm.2.1.2).1 h5⟩
      · have := hn.mem hb; simp only [mov1] at h2; omega
      · have hbm := hn.mem hb
        exact .inr ⟨b, hb, hf, h3, h4, (either_in2 hm hn hc u v b.t hbm.2.1.1 hbm.2.1.2).1 h5⟩
    · rintro (⟨b, hb, h2, h3, h4, h5⟩ | ⟨b, hb, h2, h3, h4, h5⟩)
      · have hbm := hm.mem hb
        exact ⟨mov0 1 b, (hc.a _).2 (mem_eithA.2 (.inl ⟨b, hb, .inr ⟨h2, rfl⟩⟩)), rfl, h3, h4, (either_in1 hm hn hc u v b.t hbm.2.1.1 hbm.2.1.2).2 h5⟩
      · have hbm := hn.mem hb
        exact ⟨mov0 (1 + m.s) b, (hc.a _).2 (mem_eithA.2 (.inr ⟨b, hb, .inr ⟨h2, rfl⟩⟩)), rfl, h3, h4, (either_in2 hm hn hc u v b.t hbm.2.1.1 hbm.2.1.2).2 h5⟩
  | [], _ :: _ => ⟨fun h => h.elim, fun h => h.elim id id⟩
  | _ :: _, [] => ⟨fun h => h.elim, fun h => h.elim id id⟩
theorem relatesB_iff {m : Mac} {u v : List Int} (h : checkK m [u, v] = 0) : relatesB m u v = true ↔ relP m u v 0 := by
  obtain ⟨hm, hu, _⟩ := checkK_ok (checkK_ok2 h).1
  rw [relatesB, if_pos h, decide_eq_true_iff]
  exact cntUV_iff hm hu
theorem either_law {m n : Mac} (h : eitherK m n = 0) (u v : List Int) : checkK n [u, v] = checkK m [u, v] ∧ checkK (eitherM m n) [u, v] = checkK m [u, v] ∧
    (checkK m [u, v] = 0 → relatesB (eitherM m n) u v = (relatesB m u v || relatesB n u v)) := by
  obtain ⟨hm, hn, h1, h2, h3, hc⟩ := either_ok h
  have e1 : checkK n [u, v] = checkK m [u, v] := by rw [checkK, checkK, if_pos h1, if_pos h2]
  have e2 : checkK (eitherM m n) [u, v] = checkK m [u, v] := by rw [checkK, checkK, if_pos h1, if_pos h3]
  refine ⟨e1, e2, fun h0 => ?_⟩
  rw [Bool.eq_iff_iff, Bool.or_eq_true, relatesB_iff (m := m) h0, relatesB_iff (m := n) (by rw [e1]; exact h0), relatesB_iff (m := eitherM m n) (by rw [e2]; exact h0)]
  exact either_rel hm hn hc u v
end Go.Proofs.Ytpbflkbelhlogaa
/- Several texts in one: FeedL, FeedH, FeedP. -/
/- Machines: what two one after another relate. Plain laws. -/
namespace Go.Proofs.Ytpbflkbelhlogaa
open Go.RowKit Go.Shelf
set_option linter.unusedVariables false
theorem pair_inj {p q p' q' N : Int} (h0 : 0 ≤ q) (h1 : q < N) (h2 : 0 ≤ q') (h3 : q' < N) (h : p * N + q = p' * N + q') : p = p' ∧ q = q' := by
  have key : ∀ a b : Int, a < b → a * N + N ≤ b * N := fun a b hab => by
    have := Int.mul_le_mul_of_nonneg_right (show a + 1 ≤ b by omega) (show 0 ≤ N by omega)
    rw [Int.add_mul, Int.one_mul] at this
    exact this
  have hp : p = p' := by
    rcases Int.lt_trichotomy p p' with hlt | heq | hgt
    · have := key p p' hlt; omega
    · exact heq
    · have := key p' p hgt; omega
  subst hp
  exact ⟨rfl, by omega⟩
theorem pair_bd {p q M N : Int} (h0 : 0 ≤ p) (h1 : p < M) (h2 : 0 ≤ q) (h3 : q < N) : 0 ≤ p * N + q ∧ p * N + q < M * N := by
  have h4 := Int.mul_nonneg h0 (show 0 ≤ N by omega)
  have h5 := Int.mul_le_mul_of_nonneg_right (show p + 1 ≤ M by omega) (show 0 ≤ N by omega)
  rw [Int.add_mul, Int.one_mul] at h5
  omega
structure IsC (m n c : Mac) : Prop where
  s : c.s = m.s * n.s
  a : ∀ a, a ∈ c.a ↔ ∃ x ∈ m.a, ∃ y ∈ n.a, x.o = y.i ∧ a = compOf n x y
  e : ∀ s, s ∈ c.e ↔ ∃ a ∈ m.e, ∃ b ∈ n.e, s = a * n.s + b
theorem mem_compA {m n : Mac} {a : Arc} : a ∈ compA m n ↔ ∃ x ∈ m.a, ∃ y ∈ n.a, x.o = y.i ∧ a = compOf n x y := by
  unfold compA compX
  rw [List.mem_flatMap]
  constructor
  · rintro ⟨x, hx, h⟩
    obtain ⟨y, hy, rfl⟩ := List.mem_map.1 h
    rw [List.mem_filter] at hy
    exact ⟨x, hx, y, hy.1, by simpa using hy.2, rfl⟩
  · rintro ⟨x, hx, y, hy, he, rfl⟩
    exact ⟨x, hx, List.mem_map.2 ⟨y, List.mem_filter.2 ⟨hy, by simpa using he⟩, rfl⟩⟩
theorem mem_compE {m n : Mac} {s : Int} : s ∈ compE m n ↔ ∃ a ∈ m.e, ∃ b ∈ n.e, s = a * n.s + b := by
  unfold compE
  rw [List.mem_flatMap]
  constructor
  · rintro ⟨a, ha, h⟩
    obtain ⟨b, hb, rfl⟩ := List.mem_map.1 h
    exact ⟨a, ha, b, hb, rfl⟩
  · rintro ⟨a, ha, b, hb, rfl⟩
    exact ⟨a, ha, List.mem_map.2 ⟨b, hb, rfl⟩⟩
theorem comp_pair {N : Int} {eb : List Int} (hb : ∀ b ∈ eb, 0 ≤ b ∧ b < N) (hp : eb.Pairwise (· < ·)) : ∀ {ea : List Int}, (∀ a ∈ ea, 0 ≤ a) → ea.Pairwise (· < ·) → (ea.flatMap fun a => eb.map fun b => a * N + b).Pairwise (· < ·)
  | [], _, _ => List.Pairwise.nil
  | a :: ea, h, hpa => by
    rw [List.flatMap_cons, List.pairwise_append]
    rw [List.pairwise_cons] at hpa
    refine ⟨List.pairwise_map.2 (hp.imp fun {x y} h => by omega), comp_pair hb hp (fun x hx => h x (by simp [hx])) hpa.2, fun x hx y hy => ?_⟩
    obtain ⟨b, hb1, rfl⟩ := List.mem_map.1 hx
    obtain ⟨a2, ha2, hy⟩ := List.mem_flatMap.1 hy
    obtain ⟨b2, hb2, rfl⟩ := List.mem_map.1 hy
    have h1 := hb b hb1
    have h2 := hb b2 hb2
    have h3 := Int.mul_le_mul_of_nonneg_right (show a + 1 ≤ a2 by have := hpa.1 a2 ha2; omega) (show 0 ≤ N by omega)
    rw [Int.add_mul, Int.one_mul] at h3
    omega
theorem compose_ok {m n : Mac} (h : composeK m n = 0) : MacOk m ∧ MacOk n ∧ validM m = 0 ∧ validM n = 0 ∧ validM (composeM m n) = 0 ∧ IsC m n (composeM m n) := by
  unfold composeK at h
  by_cases hb : bothK m n = 0
  · rw [if_pos hb] at h
    obtain ⟨hm, hn⟩ := both_ok hb
    have hv : validM m = 0 := by
      unfold bothK at hb
      split at hb
      · assumption
      · rename_i h0; exact absurd hb h0
    have hv2 : validM n = 0 := by rw [bothK, if_pos hv] at hb; exact hb
    have hk := h
    unfold madeK at h
    split at h
    · omega
    · rename_i h9
      split at h
      · omega
      · rename_i h60
        have hC : composeM m n = ⟨m.s * n.s, arcsU (compA m n), compE m n⟩ := by rw [composeM, if_pos hb, madeM, if_pos hk]
        have hm1 := hm.s1
        have hn1 := hn.s1
        refine ⟨hm, hn, hv, hv2, ?_, by rw [hC], fun a => by rw [hC]; exact (arcsU_mem _ _).trans mem_compA, fun s => by rw [hC]; exact mem_compE⟩
        rw [hC]
        have hpos : 1 ≤ m.s * n.s := by
          have := Int.mul_le_mul_of_nonneg_right hm1 (show 0 ≤ n.s by omega)
          rw [Int.one_mul] at this; omega
        have g1 : inB (m.s * n.s) 1 9 = true := by simp [inB]; omega
        have g3 : allB (arcsU (compA m n)).length (fun k => arcOk (m.s * n.s) (arcA (arcsU (compA m n)) k)) = true := allB_true fun j hj => by
          have hx : arcA (arcsU (compA m n)) j ∈ compA m n := (arcsU_mem _ _).1 (by unfold arcA; rw [List.getElem?_eq_getElem hj]; exact List.getElem_mem hj)
          refine arcOk_of ?_
          obtain ⟨x, hx, y, hy, he, hxy⟩ := mem_compA.1 hx
          rw [hxy]
          have h1 := hm.mem hx
          have h2 := hn.mem hy
          exact ⟨pair_bd h1.1.1 h1.1.2 h2.1.1 h2.1.2, pair_bd h1.2.1.1 h1.2.1.2 h2.2.1.1 h2.2.1.2, h1.2.2.1, h2.2.2.2⟩
        have g4 : setB (compE m n) (m.s * n.s) = true := setB_of (fun x hx => by
          obtain ⟨a, ha, b, hb, rfl⟩ := mem_compE.1 hx
          have h1 := setB_in hm.e a ha
          have h2 := setB_in hn.e b hb
          exact pair_bd h1.1 h1.2 h2.1 h2.2) (comp_pair (fun b hb => setB_in hn.e b hb) (setB_pair hn.e) (fun a ha => (setB_in hm.e a ha).1) (setB_pair hm.e))
        have g5 : onceB (arcsU (compA m n)) = true := once_nodup.2 (List.Pairwise.imp (fun {a b : Arc} (hab : LtA a b) (he : a = b) => by subst he; exact LtA.irrefl _ hab) (arcsU_asc (compA m n)))
        unfold validM
        rw [if_pos g1, if_neg h60, if_pos g3, if_pos g4, if_pos g5]
  · rw [if_neg hb] at h; exact absurd h hb
theorem compose_rel {m n c : Mac} (hm : MacOk m) (hn : MacOk n) (hc : IsC m n c) : ∀ (u v : List Int) (p q : Int), 0 ≤ p → p < m.s → 0 ≤ q → q < n.s → (relP c u v (p * n.s + q) ↔ ∃ w, relP m u w p ∧ relP n w v q)
  | [], [], p, q, h0, h1, h2, h3 => by
    show p * n.s + q ∈ c.e ↔ _
    rw [hc.e]
    constructor
    · rintro ⟨a, ha, b, hb, he⟩
      have := setB_in hn.e b hb
      obtain ⟨rfl, rfl⟩ := pair_inj h2 h3 this.1 this.2 he
      exact ⟨[], ha, hb⟩
    · rintro ⟨w, hw1, hw2⟩
      cases w with
      | nil => exact ⟨p, hw1, q, hw2, rfl⟩
      | cons _ _ => exact hw1.elim
  | i :: u, o :: v, p, q, h0, h1, h2, h3 => by
    show (∃ a ∈ c.a, a.f = p * n.s + q ∧ a.i = i ∧ a.o = o ∧ relP c u v a.t) ↔ _
    constructor
    · rintro ⟨a, ha, g1, g2, g3, g4⟩
      obtain ⟨x, hx, y, hy, he, rfl⟩ := (hc.a a).1 ha
      have bx := hm.mem hx
      have by_ := hn.mem hy
      obtain ⟨e1, e2⟩ := pair_inj by_.1.1 by_.1.2 h2 h3 g1
      obtain ⟨w, w1, w2⟩ := (compose_rel hm hn hc u v x.t y.t bx.2.1.1 bx.2.1.2 by_.2.1.1 by_.2.1.2).1 g4
      exact ⟨x.o :: w, ⟨x, hx, e1, g2, rfl, w1⟩, ⟨y, hy, e2, he.symm, g3, w2⟩⟩
    · rintro ⟨w, hw1, hw2⟩
      cases w with
      | nil => exact hw1.elim
      | cons z w =>
        obtain ⟨x, hx, e1, e2, e3, e4⟩ := hw1
        obtain ⟨y, hy, f1, f2, f3, f4⟩ := hw2
        have bx := hm.mem hx
        have by_ := hn.mem hy
        exact ⟨compOf n x y, (hc.a _).2 ⟨x, hx, y, hy, by rw [e3, f2], rfl⟩, by show x.f * n.s + y.f = _; rw [e1, f1], e2, f3, (compose_rel hm hn hc u v x.t y.t bx.2.1.1 bx.2.1.2 by_.2.1.1 by_.2.1.2).2 ⟨w, e4, f4⟩⟩
  | [], o :: v, p, q, _, _, _, _ => by
    constructor
    · exact fun h => h.elim
    · rintro ⟨w, hw1, hw2⟩
      cases w with
      | nil => exact hw2.elim
      | cons _ _ => exact hw1.elim
  | i :: u, [], p, q, _, _, _, _ => by
    constructor
    · exact fun h => h.elim
    · rintro ⟨w, hw1, hw2⟩
      cases w with
      | nil => exact hw1.elim
      | cons _ _ => exact hw2.elim
theorem compose_rel0 {m n : Mac} (h : composeK m n = 0) (u v : List Int) : relP (composeM m n) u v 0 ↔ ∃ w, relP m u w 0 ∧ relP n w v 0 := by
  obtain ⟨hm, hn, _, _, _, hc⟩ := compose_ok h
  have := compose_rel hm hn hc u v 0 0 (by omega) (by have := hm.s1; omega) (by omega) (by have := hn.s1; omega)
  rwa [show (0 : Int) * n.s + 0 = 0 by simp] at this
end Go.Proofs.Ytpbflkbelhlogaa
/- Machines: the second of two has no more heads than the composed one. Plain. -/
namespace Go.Proofs.Ytpbflkbelhlogaa
open Go.RowKit Go.Shelf
set_option linter.unusedVariables false
theorem nodup_sub_len {α : Type} [DecidableEq α] : ∀ {l k : List α}, l.Nodup → (∀ x ∈ l, x ∈ k) → l.length ≤ k.length
  | [], _, _, _ => Nat.zero_le _
  | x :: l, k, hd, hs => by
    have hx := hs x (by simp)
    have h1 := List.length_erase_of_mem hx
    have h2 : 0 < k.length := List.length_pos_of_mem hx
    have h3 := nodup_sub_len (l := l) (k := k.erase x) (List.nodup_cons.1 hd).2 fun y hy => by
      have hne : y ≠ x := fun e => (List.nodup_cons.1 hd).1 (e ▸ hy)
      exact (List.mem_erase_of_ne hne).2 (hs y (by simp [hy]))
    rw [List.length_cons]; omega
def HApart (hs : List Hd) : Prop := hs.Pairwise fun x y => x.1 ≠ y.1
theorem HApart.next {n : Nat} {ar : List Arc} {s : Int} {nx : List Bool} {hs : List Hd} (h : HApart hs) : HApart (nextL n ar s nx hs) := by
  have hO : ∀ (g : Hd) (o : Nat) (x : Hd), x ∈ nextO n ar s nx g o → x.1 = g.1 ++ [(o : Int)] := fun g o x hx => by
    unfold nextO at hx
    split at hx
    · rw [List.mem_singleton] at hx; rw [hx]
    · cases hx
  have hH : ∀ (g : Hd) (x : Hd), x ∈ nextH n ar s nx g → ∃ o : Nat, x.1 = g.1 ++ [(o : Int)] := fun g x hx => by
    unfold nextH at hx
    obtain ⟨o, _, hx⟩ := List.mem_flatMap.1 hx
    exact ⟨o, hO g o x hx⟩
  unfold HApart nextL
  rw [List.pairwise_flatMap]
  refine ⟨fun g hg => ?_, h.imp fun {g g'} hne x hx y hy e => ?_⟩
  · unfold nextH
    rw [List.pairwise_flatMap]
    refine ⟨fun o _ => ?_, (List.pairwise_lt_range (n := 6)).imp fun {o o'} hlt x hx y hy e => ?_⟩
    · unfold nextO
      split
      · exact List.pairwise_singleton _ _
      · exact List.Pairwise.nil
    · rw [hO g o x hx, hO g o' y hy] at e
      have := List.append_cancel_left e
      injection this with this
      omega
  · obtain ⟨o, ho⟩ := hH g x hx
    obtain ⟨o', ho'⟩ := hH g' y hy
    rw [ho, ho'] at e
    exact hne (List.append_inj_left' e rfl)
theorem HApart.len {ks hs : List Hd} (h : HApart ks) (hs' : ∀ x ∈ ks, ∃ y ∈ hs, y.1 = x.1) : ks.length ≤ hs.length := by
  have h1 : (ks.map Prod.fst).Nodup := by unfold List.Nodup; rw [List.pairwise_map]; exact h
  have h2 := nodup_sub_len (k := hs.map Prod.fst) h1 fun v hv => by
    obtain ⟨x, hx, rfl⟩ := List.mem_map.1 hv
    obtain ⟨y, hy, he⟩ := hs' x hx
    rw [← he]; exact List.mem_map_of_mem hy
  rwa [List.length_map, List.length_map] at h2
/-- each head of the second is a head of the composed machine, whose states hold those of the second beside the first's -/
def Sim (n : Mac) (p : Int) (hs ks : List Hd) : Prop := ∀ x ∈ ks, ∃ y ∈ hs, y.1 = x.1 ∧ ∀ q, 0 ≤ q → q < n.s → getB x.2 q = true → getB y.2 (p * n.s + q) = true
theorem sim_go {m n c : Mac} (hm : MacOk m) (hn : MacOk n) (hcm : MacOk c) (hc : IsC m n c) : ∀ (u w : List Int) (p : Int) (hs ks : List Hd), 0 ≤ p → p < m.s → relP m u w p → HApart ks → Sim n p hs ks → (imgGo c.s.toNat c u hs).isSome = true → (imgGo n.s.toNat n w ks).isSome = true
  | [], w, p, hs, ks, _, _, hr, _, _, _ => by
    cases w with
    | nil => rfl
    | cons _ _ => exact hr.elim
  | i :: u, w, p, hs, ks, h0, h1, hr, ha, hsim, hgo => by
    cases w with
    | nil => exact hr.elim
    | cons o w =>
      obtain ⟨x, hx, e1, e2, e3, e4⟩ := hr
      have bx := hm.mem hx
      have hn0 : n.s.toNat = n.s := by have := hn.s1; omega
      have hc0 : (c.s.toNat : Int) = c.s := by have := hcm.s1; omega
      have hsim2 : Sim n x.t (nextL c.s.toNat c.a i (canL c.s.toNat c u) hs) (nextL n.s.toNat n.a o (canL n.s.toNat n w) ks) := fun z hz => by
        obtain ⟨g, hg, ov, hov, hany, rfl⟩ := mem_nextL.1 hz
        obtain ⟨g2, hg2, hw2, hst⟩ := hsim g hg
        have key : ∀ y ∈ n.a, goC o ov g.2 (canL n.s.toNat n w) y = true → compOf n x y ∈ c.a ∧ goC i ov g2.2 (canL c.s.toNat c u) (compOf n x y) = true := fun y hy hgy => by
          have by_ := hn.mem hy
          obtain ⟨f1, f2, f3, f4⟩ := goC_iff.1 hgy
          refine ⟨(hc.a _).2 ⟨x, hx, y, hy, by rw [e3, f2], rfl⟩, goC_iff.2 ⟨?_, e2, f3, ?_⟩⟩
          · show getB g2.2 (x.f * n.s + y.f) = true
            rw [e1]; exact hst y.f by_.1.1 by_.1.2 f1
          · show getB _ (x.t * n.s + y.t) = true
            have hcan := (getB_can hn.in_ w by_.2.1.1).1 f4
            obtain ⟨v', hv'⟩ := canP_rel hcan
            exact (getB_can hcm.in_ u (pair_bd bx.2.1.1 bx.2.1.2 by_.2.1.1 by_.2.1.2).1).2 (relP_can ((compose_rel hm hn hc u v' x.t y.t bx.2.1.1 bx.2.1.2 by_.2.1.1 by_.2.1.2).2 ⟨w, e4, hv'⟩))
        refine ⟨_, mem_nextL.2 ⟨g2, hg2, ov, hov, ?_, rfl⟩, by simp only [hw2], fun q hq0 hq1 hq => ?_⟩
        · obtain ⟨y, hy, hgy⟩ := List.any_eq_true.1 hany
          exact List.any_eq_true.2 ⟨_, (key y hy hgy).1, (key y hy hgy).2⟩
        · obtain ⟨y, hy, hgy, hyt⟩ := (getB_ons _ (fun a : Arc => a.t) (fun a ha => by have := (hn.mem ha).2.1; omega) hq0).1 hq
          have by_ := hn.mem hy
          refine (getB_ons _ (fun a : Arc => a.t) (fun a ha => by have := (hcm.mem ha).2.1; omega) (pair_bd bx.2.1.1 bx.2.1.2 hq0 hq1).1).2 ⟨_, (key y hy hgy).1, (key y hy hgy).2, ?_⟩
          show x.t * n.s + y.t = x.t * n.s + q
          rw [hyt]
      have hap := ha.next (n := n.s.toNat) (ar := n.a) (s := o) (nx := canL n.s.toNat n w)
      have hlen := hap.len fun z hz => by
        obtain ⟨y, hy, he, _⟩ := hsim2 z hz
        exact ⟨y, hy, he⟩
      rw [imgGo] at hgo ⊢
      split at hgo
      · cases hgo
      · rename_i hle
        rw [if_neg (by omega)]
        exact sim_go hm hn hcm hc u w x.t _ _ bx.2.1.1 bx.2.1.2 e4 hap hsim2 hgo
end Go.Proofs.Ytpbflkbelhlogaa
/- MachineFeeds: the plain law. -/
namespace Go.Proofs.Ytpbflkbelhlogaa
open Go.RowKit Go.Shelf
set_option linter.unusedVariables false
theorem relP_out {m : Mac} (hm : MacOk m) : ∀ {u v : List Int} {s : Int}, relP m u v s → ∀ x ∈ v, 0 ≤ x ∧ x ≤ 5
  | [], [], _, _, x, hx => by simp at hx
  | i :: u, o :: v, s, ⟨a, ha, h1, h2, h3, h4⟩, x, hx => by
    rcases List.mem_cons.1 hx with rfl | hx
    · have := hm.mem ha
      omega
    · exact relP_out hm h4 x hx
  | [], _ :: _, _, h, _, _ => h.elim
  | _ :: _, [], _, h, _, _ => h.elim
theorem wordK_of8 {w : List Int} (h : w.length ≤ 8) (hs : ∀ x ∈ w, 0 ≤ x ∧ x ≤ 5) : wordK 8 w = 0 := by
  have h1 : sndB w = true := by
    unfold sndB
    refine allB_true fun j hj => ?_
    rw [List.getElem?_eq_getElem hj]
    have := hs w[j] (List.getElem_mem hj)
    simp [inB]; omega
  rw [wordK, if_neg (by omega), if_pos h1]
theorem imagesK_ok {m : Mac} {u : List Int} (h : imagesK m u = 0) : checkK m [u] = 0 ∧ ∃ L, imagesO m.s.toNat m u = some L ∧ imagesL m u = L := by
  unfold imagesK at h
  split at h
  · rename_i h0
    refine ⟨h0, ?_⟩
    cases ho : imagesO m.s.toNat m u with
    | none => rw [ho] at h; simp at h
    | some L => exact ⟨L, rfl, by rw [imagesL, if_pos h0, ho]; rfl⟩
  · rename_i h0; exact absurd h h0
theorem images_iff {m : Mac} {u : List Int} (h : imagesK m u = 0) (v : List Int) : v ∈ imagesL m u ↔ relP m u v 0 := by
  obtain ⟨h0, L, ho, hL⟩ := imagesK_ok h
  obtain ⟨hm, _, _⟩ := checkK_ok h0
  rw [hL]
  exact images_mem hm.in_ hm.outIn ho v
theorem sim_begin {n : Mac} {M N : Nat} (hM : 0 < M) (hN : 0 < N) : Sim n 0 [([], beginB M)] [([], beginB N)] := fun x hx => by
  rw [List.mem_singleton] at hx
  subst hx
  refine ⟨_, List.mem_singleton.2 rfl, rfl, fun q h0 _ hq => ?_⟩
  have := (getB_begin hN h0).1 hq
  subst this
  rw [Int.zero_mul, Int.add_zero]
  exact (getB_begin hM (Int.le_refl 0)).2 rfl
structure Feeds (m n : Mac) (u : List Int) : Prop where
  check : ∀ w ∈ imagesL m u, ∀ v ∈ imagesL (composeM m n) u, checkK n [w, v] = 0
  some_ : ∀ v ∈ imagesL (composeM m n) u, ∃ w ∈ imagesL m u, relatesB n w v = true
  ok : ∀ w ∈ imagesL m u, imagesK n w = 0
  back : ∀ w ∈ imagesL m u, ∀ v ∈ imagesL n w, v ∈ imagesL (composeM m n) u
  found : imagesL (composeM m n) u ≠ [] → ∃ w ∈ imagesL m u, imagesL n w ≠ []
theorem feeds {m n : Mac} {u : List Int} (h : composeK m n = 0) (h1 : imagesK (composeM m n) u = 0) (h2 : imagesK m u = 0) : Feeds m n u := by
  obtain ⟨hm, hn, v1, v2, v3, hc⟩ := compose_ok h
  obtain ⟨k1, L, ho, hL⟩ := imagesK_ok h1
  obtain ⟨hcm, hu8, _⟩ := checkK_ok k1
  have hw : ∀ w, relP m u w 0 → w.length ≤ 8 ∧ ∀ x ∈ w, 0 ≤ x ∧ x ≤ 5 := fun w hr => ⟨by rw [← relP_len hr]; exact hu8, relP_out hm hr⟩
  have hv : ∀ v, relP (composeM m n) u v 0 → v.length ≤ 8 ∧ ∀ x ∈ v, 0 ≤ x ∧ x ≤ 5 := fun v hr => ⟨by rw [← relP_len hr]; exact hu8, relP_out hcm hr⟩
  have hcheck : ∀ w, relP m u w 0 → ∀ v, relP (composeM m n) u v 0 → checkK n [w, v] = 0 := fun w hw1 v hv1 => by
    have a1 := wordK_of8 (hw w hw1).1 (hw w hw1).2
    have a2 := wordK_of8 (hv v hv1).1 (hv v hv1).2
    rw [checkK, if_pos v2, wordsK, if_pos a1, wordsK, if_pos a2]; rfl
  have hok : ∀ w, relP m u w 0 → imagesK n w = 0 := fun w hw1 => by
    have a1 := wordK_of8 (hw w hw1).1 (hw w hw1).2
    have a2 : checkK n [w] = 0 := by rw [checkK, if_pos v2, wordsK, if_pos a1]; rfl
    have a3 : (imagesO n.s.toNat n w).isSome = true := by
      unfold imagesO
      split
      · have hc1 : getB (canL (composeM m n).s.toNat (composeM m n) u) 0 = true := by
          rename_i hcan
          obtain ⟨v', hv'⟩ := canP_rel ((getB_can hn.in_ w (Int.le_refl 0)).1 hcan)
          exact (getB_can hcm.in_ u (Int.le_refl 0)).2 (relP_can ((compose_rel0 h u v').2 ⟨w, hw1, hv'⟩))
        have hgo : (imgGo (composeM m n).s.toNat (composeM m n) u [([], beginB (composeM m n).s.toNat)]).isSome = true := by
          unfold imagesO at ho
          rw [if_pos hc1] at ho
          cases hg : imgGo (composeM m n).s.toNat (composeM m n) u [([], beginB (composeM m n).s.toNat)] with
          | none => rw [hg] at ho; cases ho
          | some _ => rfl
        have := sim_go hm hn hcm hc u w 0 _ [([], beginB n.s.toNat)] (Int.le_refl 0) (by have := hm.s1; omega) hw1 (List.pairwise_singleton _ _) (sim_begin (by have := hcm.s1; omega) (by have := hn.s1; omega)) hgo
        simpa using this
      · rfl
    rw [imagesK, if_pos a2, if_pos a3]
  refine ⟨fun w hw1 v hv1 => hcheck w ((images_iff h2 w).1 hw1) v ((images_iff h1 v).1 hv1), fun v hv1 => ?_, fun w hw1 => hok w ((images_iff h2 w).1 hw1), fun w hw1 v hv1 => ?_, fun hne => ?_⟩
  · have hr := (images_iff h1 v).1 hv1
    obtain ⟨w, hw1, hw2⟩ := (compose_rel0 h u v).1 hr
    exact ⟨w, (images_iff h2 w).2 hw1, (relatesB_iff (hcheck w hw1 v hr)).2 hw2⟩
  · have hr := (images_iff h2 w).1 hw1
    exact (images_iff h1 v).2 ((compose_rel0 h u v).2 ⟨w, hr, (images_iff (hok w hr) v).1 hv1⟩)
  · obtain ⟨v, hv1⟩ := List.exists_mem_of_ne_nil _ hne
    obtain ⟨w, hw1, hw2⟩ := (compose_rel0 h u v).1 ((images_iff h1 v).1 hv1)
    exact ⟨w, (images_iff h2 w).2 hw1, List.ne_nil_of_mem ((images_iff (hok w hw1) v).2 hw2)⟩
end Go.Proofs.Ytpbflkbelhlogaa
/- Machines: Trim, plain: which states are reached, which are of use, their numbers. -/
namespace Go.Proofs.Ytpbflkbelhlogaa
open Go.RowKit Go.Shelf
set_option linter.unusedVariables false
def tS (l : List Bool) (a : Arc) : List Bool := if getB l a.f = true then l.set a.t.toNat true else l
def thR (ar : List Arc) (l : List Bool) : Nat → List Bool
  | 0 => l
  | r + 1 => ar.foldl tS (thR ar l r)
def thL (m : Mac) : List Bool := thR m.a (beginB m.s.toNat) m.s.toNat
theorem tS_len (l : List Bool) (a : Arc) : (tS l a).length = l.length := by unfold tS; split <;> simp
theorem tSF_len : ∀ (ar : List Arc) (l : List Bool), (ar.foldl tS l).length = l.length
  | [], _ => rfl
  | a :: ar, l => by rw [List.foldl_cons, tSF_len ar, tS_len]
theorem thR_len (ar : List Arc) (l : List Bool) : ∀ r, (thR ar l r).length = l.length
  | 0 => rfl
  | r + 1 => by rw [thR, tSF_len, thR_len ar l r]
theorem thL_len (m : Mac) : (thL m).length = m.s.toNat := by unfold thL; rw [thR_len, beginB_len]
/-- from 0, in so many arcs -/
def Frm (ar : List Arc) (k s : Nat) : Prop := Rch tN fN ar (fun s => s = 0) k s
def FrmP (ar : List Arc) (s : Nat) : Prop := ∃ k, Frm ar k s
theorem FrmP.step {ar : List Arc} {a : Arc} (ha : a ∈ ar) (h : FrmP ar (fN a)) : FrmP ar (tN a) := by
  obtain ⟨k, hk⟩ := h
  exact ⟨k + 1, a, ha, rfl, hk⟩
theorem tS_mono {l : List Bool} {a : Arc} {k : Int} (h : getB l k = true) : getB (tS l a) k = true := by
  unfold tS
  split
  · unfold getB at *
    rw [List.getElem?_set]
    split
    · rename_i e
      split
      · rfl
      · rename_i hlt
        rw [List.getElem?_eq_none (by omega)] at h
        exact h
    · exact h
  · exact h
theorem tSF_mono {k : Int} : ∀ (ar : List Arc) (l : List Bool), getB l k = true → getB (ar.foldl tS l) k = true
  | [], _, h => h
  | a :: ar, l, h => tSF_mono ar _ (tS_mono h)
theorem tSF_hit : ∀ (br : List Arc) (l : List Bool) {a : Arc}, a ∈ br → a.t.toNat < l.length → 0 ≤ a.t → getB l a.f = true → getB (br.foldl tS l) a.t = true
  | b :: br, l, a, ha, ht, h0, hf => by
    rw [List.foldl_cons]
    rcases List.mem_cons.1 ha with rfl | ha
    · refine tSF_mono br _ ?_
      unfold tS
      rw [if_pos hf]
      unfold getB
      rw [List.getElem?_set_self ht]; rfl
    · exact tSF_hit br _ ha (by rw [tS_len]; exact ht) h0 (tS_mono hf)
theorem tSF_sound {ar : List Arc} {n : Nat} (hr : ∀ a ∈ ar, 0 ≤ a.f ∧ 0 ≤ a.t) : ∀ (br : List Arc) (l : List Bool), (∀ a ∈ br, a ∈ ar) → (∀ s : Nat, getB l s = true → FrmP ar s) → ∀ s : Nat, getB (br.foldl tS l) s = true → FrmP ar s
  | [], l, _, h => h
  | a :: br, l, hb, h => by
    rw [List.foldl_cons]
    refine tSF_sound (n := n) hr br _ (fun x hx => hb x (by simp [hx])) fun s hs => ?_
    have ha := hb a (by simp)
    have h0 := hr a ha
    unfold tS at hs
    split at hs
    · rename_i hf
      by_cases e : a.t.toNat = s
      · subst e
        have hf' : getB l ((a.f.toNat : Nat) : Int) = true := by rwa [Int.toNat_of_nonneg h0.1]
        exact FrmP.step ha (h _ hf')
      · refine h s ?_
        unfold getB at hs ⊢
        rwa [List.getElem?_set_ne (by simpa using e)] at hs
    · exact h s hs
theorem thR_sound {m : Mac} (hm : MacOk m) : ∀ (r s : Nat), getB (thR m.a (beginB m.s.toNat) r) s = true → FrmP m.a s
  | 0, s, h => by
    have := (getB_begin (by have := hm.s1; omega) (by omega)).1 h
    exact ⟨0, by show s = 0; omega⟩
  | r + 1, s, h => tSF_sound (n := m.s.toNat) (fun a ha => by have := hm.mem ha; omega) m.a _ (fun _ h => h) (thR_sound hm r) s h
theorem thR_full {m : Mac} (hm : MacOk m) : ∀ (r k s : Nat), k ≤ r → Frm m.a k s → getB (thR m.a (beginB m.s.toNat) r) s = true
  | 0, k, s, hk, h => by
    obtain rfl : k = 0 := by omega
    have e : s = 0 := h
    subst e
    exact (getB_begin (by have := hm.s1; omega) (by omega)).2 rfl
  | r + 1, k, s, hk, h => by
    rw [thR]
    cases k with
    | zero => exact tSF_mono _ _ (thR_full hm r 0 s (by omega) h)
    | succ k =>
      obtain ⟨a, ha, rfl, h2⟩ := h
      have hb := hm.mem ha
      have h3 := thR_full hm r k (fN a) (by omega) h2
      have h4 : ((fN a : Nat) : Int) = a.f := by unfold fN; omega
      have h5 : ((tN a : Nat) : Int) = a.t := by unfold tN; omega
      rw [h5]
      rw [h4] at h3
      exact tSF_hit m.a _ ha (by rw [thR_len, beginB_len]; omega) hb.2.1.1 h3
theorem thL_iff {m : Mac} (hm : MacOk m) {s : Nat} (hs : s < m.s.toNat) : getB (thL m) s = true ↔ FrmP m.a s := by
  constructor
  · exact thR_sound hm _ s
  · rintro ⟨k, hk⟩
    obtain ⟨d, _, hd⟩ := Dst.least k s hk
    have hlt := Dst.lt (f := tN) (t := fN) (n := m.s.toNat) (fun a ha => (hm.states a ha).symm) hs hd
    exact thR_full hm _ d s (by omega) hd.1
end Go.Proofs.Ytpbflkbelhlogaa
/- Machines: Trim, plain: the states that are of use, and their numbers. -/
namespace Go.Proofs.Ytpbflkbelhlogaa
open Go.RowKit Go.Shelf
set_option linter.unusedVariables false
def useB (m : Mac) (s : Nat) : Bool := getB (thL m) s && decide (0 ≤ at0 (farL m) s)
def cntU (m : Mac) (k : Nat) : Nat := ((List.range k).filter (useB m)).length
def numN (m : Mac) (s : Nat) : Int := if useB m s then (cntU m s : Int) else -1
def numsL (m : Mac) (k : Nat) : List Int := (List.range k).map (numN m) ++ List.replicate (m.s.toNat - k) 0
def renum (m : Mac) (a : Arc) : Arc := ⟨numN m (fN a), numN m (tN a), a.i, a.o⟩
def trimA (m : Mac) : List Arc := (m.a.filter fun a => decide (0 ≤ numN m (fN a)) && decide (0 ≤ numN m (tN a))).map (renum m)
def trimE (m : Mac) : List Int := (m.e.filter fun s => decide (0 ≤ numN m s.toNat)).map fun s => numN m s.toNat
def trimM (m : Mac) : Mac := if validM m = 0 then (if at0 (farL m) 0 < 0 then ⟨1, [], []⟩ else ⟨cntU m m.s.toNat, arcsU (trimA m), trimE m⟩) else ⟨0, [], []⟩
theorem cntU_next (m : Mac) (k : Nat) : cntU m (k + 1) = cntU m k + if useB m k then 1 else 0 := by
  unfold cntU
  rw [List.range_succ, List.filter_append, List.length_append]
  congr 1
  cases h : useB m k <;> simp [h]
theorem cntU_le (m : Mac) : ∀ k, cntU m k ≤ k
  | 0 => Nat.le_refl _
  | k + 1 => by rw [cntU_next]; have := cntU_le m k; split <;> omega
theorem cntU_mono (m : Mac) {j k : Nat} (h : j ≤ k) : cntU m j ≤ cntU m k := by
  induction k with
  | zero => obtain rfl : j = 0 := by omega
            exact Nat.le_refl _
  | succ k ih =>
    by_cases e : j = k + 1
    · subst e; exact Nat.le_refl _
    · have := ih (by omega); rw [cntU_next]; omega
theorem cntU_lt (m : Mac) {j k : Nat} (h : j < k) (hu : useB m j = true) : cntU m j < cntU m k := by
  have h1 := cntU_mono m (show j + 1 ≤ k by omega)
  rw [cntU_next, if_pos hu] at h1; omega
theorem numN_ge (m : Mac) (s : Nat) : -1 ≤ numN m s := by unfold numN; split <;> omega
theorem numN_pos {m : Mac} {s : Nat} : 0 ≤ numN m s ↔ useB m s = true := by
  unfold numN
  cases h : useB m s
  · simp
  · simp
theorem numN_lt {m : Mac} {s k : Nat} (h : s < k) : numN m s < (cntU m k : Int) ∨ useB m s = false := by
  cases hu : useB m s
  · exact .inr rfl
  · left
    have := cntU_lt m h hu
    rw [numN, if_pos hu]; omega
theorem numN_inj {m : Mac} {s t : Nat} (hs : useB m s = true) (ht : useB m t = true) (h : numN m s = numN m t) : s = t := by
  rw [numN, numN, if_pos hs, if_pos ht] at h
  rcases Nat.lt_trichotomy s t with h1 | h1 | h1
  · have := cntU_lt m h1 hs; omega
  · exact h1
  · have := cntU_lt m h1 ht; omega
theorem numN_mono {m : Mac} {s t : Nat} (hs : useB m s = true) (ht : useB m t = true) (h : s < t) : numN m s < numN m t := by
  rw [numN, numN, if_pos hs, if_pos ht]
  have := cntU_lt m h hs; omega
/-- of use: reached from 0, and an end is reached from it -/
theorem useB_iff {m : Mac} (hm : MacOk m) {s : Nat} (hs : s < m.s.toNat) : useB m s = true ↔ FrmP m.a s ∧ ∃ k, Rch fN tN m.a (endP m) k s := by
  unfold useB
  rw [Bool.and_eq_true, thL_iff hm hs, decide_eq_true_eq]
  refine and_congr_right fun _ => ?_
  rcases (far_is hm).2 s hs with ⟨h1, h2⟩ | ⟨d, h1, h2⟩
  · rw [h1]
    exact ⟨fun h => by omega, fun ⟨k, hk⟩ => absurd hk (h2 k)⟩
  · rw [h1]
    exact ⟨fun _ => ⟨d, h2.1⟩, fun _ => by omega⟩
theorem useB_zero {m : Mac} (hm : MacOk m) : useB m 0 = decide (0 ≤ at0 (farL m) 0) := by
  have h : getB (thL m) (0 : Nat) = true := (thL_iff hm (by have := hm.s1; omega)).2 ⟨0, rfl⟩
  rw [useB, h]; rfl
theorem numN_zero {m : Mac} (h : useB m 0 = true) : numN m 0 = 0 := by rw [numN, if_pos h]; rfl
theorem numsL_len (m : Mac) {k : Nat} (hk : k ≤ m.s.toNat) : (numsL m k).length = m.s.toNat := by unfold numsL; simp; omega
theorem numsL_zero (m : Mac) : numsL m 0 = List.replicate m.s.toNat 0 := by simp [numsL]
theorem numsL_next (m : Mac) {k : Nat} (hk : k < m.s.toNat) : (numsL m k).set k (numN m k) = numsL m (k + 1) := by
  unfold numsL
  rw [List.set_append_right _ _ (by simp), List.length_map, List.length_range, Nat.sub_self, List.range_succ, List.map_append, List.append_assoc]
  congr 1
  rw [show m.s.toNat - k = (m.s.toNat - (k + 1)) + 1 by omega, List.replicate_succ, List.set_cons_zero]
  rfl
theorem numsL_at (m : Mac) {s : Nat} (hs : s < m.s.toNat) : at0 (numsL m m.s.toNat) s = numN m s := by
  unfold at0 numsL
  rw [Nat.sub_self, List.replicate_zero, List.append_nil, List.getElem?_map, List.getElem?_range hs]; rfl
end Go.Proofs.Ytpbflkbelhlogaa
/- Machines: Trim, plain laws: the trimmed machine is one, has the same images, and is trimmed. -/
namespace Go.Proofs.Ytpbflkbelhlogaa
open Go.RowKit Go.Shelf
set_option linter.unusedVariables false
/-- the trimmed machine, when an end is reached -/
def trimC (m : Mac) : Mac := ⟨cntU m m.s.toNat, arcsU (trimA m), trimE m⟩
theorem mem_trimC {m : Mac} {a : Arc} : a ∈ (trimC m).a ↔ ∃ b ∈ m.a, useB m (fN b) = true ∧ useB m (tN b) = true ∧ a = renum m b := by
  show a ∈ arcsU (trimA m) ↔ _
  rw [arcsU_mem, trimA, List.mem_map]
  constructor
  · rintro ⟨b, hb, rfl⟩
    rw [List.mem_filter, Bool.and_eq_true, decide_eq_true_eq, decide_eq_true_eq] at hb
    exact ⟨b, hb.1, numN_pos.1 hb.2.1, numN_pos.1 hb.2.2, rfl⟩
  · rintro ⟨b, hb, h1, h2, rfl⟩
    refine ⟨b, ?_, rfl⟩
    rw [List.mem_filter, Bool.and_eq_true, decide_eq_true_eq, decide_eq_true_eq]
    exact ⟨hb, numN_pos.2 h1, numN_pos.2 h2⟩
theorem mem_trimE {m : Mac} {x : Int} : x ∈ (trimC m).e ↔ ∃ s ∈ m.e, useB m s.toNat = true ∧ x = numN m s.toNat := by
  show x ∈ trimE m ↔ _
  rw [trimE, List.mem_map]
  constructor
  · rintro ⟨s, hs, rfl⟩
    rw [List.mem_filter, decide_eq_true_eq] at hs
    exact ⟨s, hs.1, numN_pos.1 hs.2, rfl⟩
  · rintro ⟨s, hs, h1, rfl⟩
    refine ⟨s, ?_, rfl⟩
    rw [List.mem_filter, decide_eq_true_eq]
    exact ⟨hs, numN_pos.2 h1⟩
theorem numN_in {m : Mac} {s n : Nat} (h : useB m s = true) (hs : s < n) : 0 ≤ numN m s ∧ numN m s < (cntU m n : Int) := by
  refine ⟨numN_pos.2 h, ?_⟩
  rcases numN_lt (m := m) hs with h1 | h1
  · exact h1
  · rw [h] at h1; cases h1
theorem arcsU_nodup (l : List Arc) : (arcsU l).Nodup := List.Pairwise.imp (fun {a b : Arc} (hab : LtA a b) (he : a = b) => by subst he; exact LtA.irrefl _ hab) (arcsU_asc l)
theorem arcsU_le (l : List Arc) : (arcsU l).length ≤ l.length := nodup_sub_len (arcsU_nodup l) fun x hx => (arcsU_mem l x).1 hx
theorem trimA_len (m : Mac) : (trimA m).length ≤ m.a.length := by rw [trimA, List.length_map]; exact List.length_filter_le _ _
theorem trimC_valid {m : Mac} (hm : MacOk m) (h0 : useB m 0 = true) : validM (trimC m) = 0 := by
  have h1 := hm.s1
  have h2 := hm.s2
  have hle := cntU_le m m.s.toNat
  have hpos := cntU_lt m (show 0 < m.s.toNat by omega) h0
  have g1 : inB (trimC m).s 1 9 = true := by
    show inB (cntU m m.s.toNat : Int) 1 9 = true
    simp only [inB, Bool.and_eq_true, decide_eq_true_eq]
    omega
  have g2 : ¬ 60 < (trimC m).a.length := by
    have : (trimC m).a.length ≤ (trimA m).length := arcsU_le _
    have := trimA_len m
    have := hm.a
    omega
  have g3 : allB (trimC m).a.length (fun k => arcOk (trimC m).s (arcA (trimC m).a k)) = true := allB_true fun j hj => by
    have hx : arcA (trimC m).a j ∈ (trimC m).a := by unfold arcA; rw [List.getElem?_eq_getElem hj]; exact List.getElem_mem hj
    obtain ⟨b, hb, hf, ht, he⟩ := mem_trimC.1 hx
    rw [he]
    have hbm := hm.mem hb
    have hst := hm.states b hb
    refine arcOk_of ⟨numN_in hf hst.1, numN_in ht hst.2, hbm.2.2.1, hbm.2.2.2⟩
  have g4 : setB (trimC m).e (trimC m).s = true := setB_of (fun x hx => by
    obtain ⟨s, hs, hu, rfl⟩ := mem_trimE.1 hx
    have := setB_in hm.e s hs
    exact numN_in hu (by omega)) (by
    show (trimE m).Pairwise (· < ·)
    rw [trimE, List.pairwise_map, List.pairwise_filter]
    refine List.Pairwise.imp_of_mem (fun {a b} ha hb hab h3 h4 => ?_) (setB_pair hm.e)
    rw [decide_eq_true_eq] at h3 h4
    have := setB_in hm.e a ha
    have := setB_in hm.e b hb
    exact numN_mono (numN_pos.1 h3) (numN_pos.1 h4) (by omega))
  have g5 : onceB (trimC m).a = true := once_nodup.2 (arcsU_nodup _)
  unfold validM
  rw [if_pos g1, if_neg g2, if_pos g3, if_pos g4, if_pos g5]
/-- from there an end is reached -/
abbrev ToEnd (m : Mac) (s : Nat) : Prop := ∃ k, Rch fN tN m.a (endP m) k s
theorem ToEnd.step {m : Mac} {a : Arc} (ha : a ∈ m.a) (h : ToEnd m (tN a)) : ToEnd m (fN a) := by
  obtain ⟨k, hk⟩ := h
  exact ⟨k + 1, a, ha, rfl, hk⟩
theorem canP_toEnd {m : Mac} (hm : MacOk m) : ∀ (u : List Int) (s : Nat), canP m u s → ToEnd m s
  | [], s, h => ⟨0, h⟩
  | x :: u, s, h => by
    obtain ⟨a, ha, hf, _, hr⟩ := h
    have hb := hm.mem ha
    have h1 : fN a = s := by unfold fN; omega
    have h2 : ((tN a : Nat) : Int) = a.t := by unfold tN; omega
    rw [← h1]
    exact ToEnd.step ha (canP_toEnd hm u (tN a) (by rw [h2]; exact hr))
theorem use_of {m : Mac} (hm : MacOk m) {s : Nat} (hs : s < m.s.toNat) (h1 : FrmP m.a s) (h2 : ToEnd m s) : useB m s = true := (useB_iff hm hs).2 ⟨h1, h2⟩
/-- what a useful state reads -/
theorem trim_can {m : Mac} (hm : MacOk m) : ∀ (u : List Int) (s : Nat), s < m.s.toNat → useB m s = true → (canP (trimC m) u (numN m s) ↔ canP m u s)
  | [], s, hs, hu => by
    show numN m s ∈ (trimC m).e ↔ (s : Int) ∈ m.e
    rw [mem_trimE]
    constructor
    · rintro ⟨t, ht, htu, he⟩
      have h1 := numN_inj hu htu he
      have h2 := setB_in hm.e t ht
      have : (s : Int) = t := by omega
      rw [this]; exact ht
    · intro h
      exact ⟨s, h, by simpa using hu, by simp⟩
  | x :: u, s, hs, hu => by
    constructor
    · rintro ⟨a, ha, hf, hi, hr⟩
      obtain ⟨b, hb, h1, h2, rfl⟩ := mem_trimC.1 ha
      have hbm := hm.mem hb
      have hst := hm.states b hb
      have h3 : fN b = s := numN_inj h1 hu hf
      have h4 := (trim_can hm u (tN b) hst.2 h2).1 hr
      refine ⟨b, hb, by unfold fN at h3; omega, hi, ?_⟩
      have : ((tN b : Nat) : Int) = b.t := by unfold tN; omega
      rwa [this] at h4
    · rintro ⟨b, hb, hf, hi, hr⟩
      have hbm := hm.mem hb
      have hst := hm.states b hb
      have h3 : fN b = s := by unfold fN; omega
      have h4 : ((tN b : Nat) : Int) = b.t := by unfold tN; omega
      have hr' : canP m u (tN b : Nat) := by rw [h4]; exact hr
      have h2 : useB m (tN b) = true := use_of hm hst.2 (FrmP.step hb (by rw [h3]; exact ((useB_iff hm hs).1 hu).1)) (canP_toEnd hm u _ hr')
      refine ⟨renum m b, mem_trimC.2 ⟨b, hb, by rw [h3]; exact hu, h2, rfl⟩, by show numN m (fN b) = _; rw [h3], hi, ?_⟩
      exact (trim_can hm u (tN b) hst.2 h2).2 hr'
theorem trim_getB {m : Mac} (hm : MacOk m) (h0 : useB m 0 = true) (u : List Int) {s : Nat} (hs : s < m.s.toNat) (hu : useB m s = true) :
    getB (canL (trimC m).s.toNat (trimC m) u) (numN m s) = getB (canL m.s.toNat m u) s := by
  have hc := validM_mac (trimC_valid hm h0)
  rw [Bool.eq_iff_iff, getB_can hc.in_ u (numN_pos.2 hu), getB_can hm.in_ u (by omega)]
  exact trim_can hm u s hs hu
/-! ## the same images -/
inductive F2 {α β : Type} (R : α → β → Prop) : List α → List β → Prop
  | nil : F2 R [] []
  | cons {x y l k} : R x y → F2 R l k → F2 R (x :: l) (y :: k)
theorem F2.append {α β : Type} {R : α → β → Prop} {a : List α} {b : List β} {c : List α} {d : List β} (h : F2 R a b) (k : F2 R c d) : F2 R (a ++ c) (b ++ d) := by
  induction h with
  | nil => exact k
  | cons h _ ih => exact F2.cons h ih
theorem F2.flat {α β γ δ : Type} {R : α → β → Prop} {S : γ → δ → Prop} {f : α → List γ} {g : β → List δ} (hf : ∀ x y, R x y → F2 S (f x) (g y)) {a : List α} {b : List β} (h : F2 R a b) : F2 S (a.flatMap f) (b.flatMap g) := by
  induction h with
  | nil => exact F2.nil
  | cons h _ ih => rw [List.flatMap_cons, List.flatMap_cons]; exact F2.append (hf _ _ h) ih
theorem F2.len {α β : Type} {R : α → β → Prop} {a : List α} {b : List β} (h : F2 R a b) : a.length = b.length := by
  induction h with
  | nil => rfl
  | cons _ _ ih => simp [ih]
theorem F2.flat_same {α γ δ : Type} {S : γ → δ → Prop} {f : α → List γ} {g : α → List δ} : ∀ l : List α, (∀ x ∈ l, F2 S (f x) (g x)) → F2 S (l.flatMap f) (l.flatMap g)
  | [], _ => F2.nil
  | x :: l, h => by
    rw [List.flatMap_cons, List.flatMap_cons]
    exact F2.append (h x (by simp)) (F2.flat_same l fun y hy => h y (by simp [hy]))
/-- a head of the trimmed machine, and one of the machine -/
structure HdT (m : Mac) (y x : Hd) : Prop where
  w : y.1 = x.1
  b : ∀ s : Nat, s < m.s.toNat → useB m s = true → getB y.2 (numN m s) = getB x.2 s
  from_ : ∀ s : Nat, getB x.2 s = true → FrmP m.a s
theorem trim_goC {m : Mac} (hm : MacOk m) (h0 : useB m 0 = true) {u : List Int} {s o : Int} {y x : Hd} (h : HdT m y x) {a : Arc} :
    (a ∈ (trimC m).a ∧ goC s o y.2 (canL (trimC m).s.toNat (trimC m) u) a = true) ↔ ∃ b ∈ m.a, useB m (fN b) = true ∧ useB m (tN b) = true ∧ a = renum m b ∧ goC s o x.2 (canL m.s.toNat m u) b = true := by
  constructor
  · rintro ⟨ha, hg⟩
    obtain ⟨b, hb, h1, h2, rfl⟩ := mem_trimC.1 ha
    have hbm := hm.mem hb
    have hst := hm.states b hb
    have h4 : ((tN b : Nat) : Int) = b.t := by unfold tN; omega
    have h5 : ((fN b : Nat) : Int) = b.f := by unfold fN; omega
    obtain ⟨g1, g2, g3, g4⟩ := goC_iff.1 hg
    refine ⟨b, hb, h1, h2, rfl, goC_iff.2 ⟨?_, g2, g3, ?_⟩⟩
    · rw [← h5, ← h.b (fN b) hst.1 h1]; exact g1
    · rw [← h4, ← trim_getB hm h0 u (s := tN b) hst.2 h2]; exact g4
  · rintro ⟨b, hb, h1, h2, rfl, hg⟩
    have hbm := hm.mem hb
    have hst := hm.states b hb
    have h4 : ((tN b : Nat) : Int) = b.t := by unfold tN; omega
    have h5 : ((fN b : Nat) : Int) = b.f := by unfold fN; omega
    obtain ⟨g1, g2, g3, g4⟩ := goC_iff.1 hg
    refine ⟨mem_trimC.2 ⟨b, hb, h1, h2, rfl⟩, goC_iff.2 ⟨?_, g2, g3, ?_⟩⟩
    · show getB y.2 (numN m (fN b)) = true
      rw [h.b (fN b) hst.1 h1, h5]; exact g1
    · show getB _ (numN m (tN b)) = true
      rw [trim_getB hm h0 u (s := tN b) hst.2 h2, h4]; exact g4
theorem go_use {m : Mac} (hm : MacOk m) {u : List Int} {s o : Int} {y x : Hd} (h : HdT m y x) {b : Arc} (hb : b ∈ m.a) (hg : goC s o x.2 (canL m.s.toNat m u) b = true) : useB m (fN b) = true ∧ useB m (tN b) = true := by
  have hbm := hm.mem hb
  have hst := hm.states b hb
  have h4 : ((tN b : Nat) : Int) = b.t := by unfold tN; omega
  have h5 : ((fN b : Nat) : Int) = b.f := by unfold fN; omega
  obtain ⟨g1, g2, g3, g4⟩ := goC_iff.1 hg
  have k1 : FrmP m.a (fN b) := h.from_ _ (by rw [h5]; exact g1)
  have k2 : ToEnd m (tN b) := canP_toEnd hm u _ (by rw [h4]; exact (getB_can hm.in_ u hbm.2.1.1).1 g4)
  exact ⟨use_of hm hst.1 k1 (ToEnd.step hb k2), use_of hm hst.2 (FrmP.step hb k1) k2⟩
theorem trim_next {m : Mac} (hm : MacOk m) (h0 : useB m 0 = true) {u : List Int} {s : Int} {hs' hs : List Hd} (h : F2 (HdT m) hs' hs) :
    F2 (HdT m) (nextL (trimC m).s.toNat (trimC m).a s (canL (trimC m).s.toNat (trimC m) u) hs') (nextL m.s.toNat m.a s (canL m.s.toNat m u) hs) := by
  have hc := validM_mac (trimC_valid hm h0)
  refine F2.flat (fun y x hyx => F2.flat_same _ fun o _ => ?_) h
  have hany : (trimC m).a.any (goC s o y.2 (canL (trimC m).s.toNat (trimC m) u)) = m.a.any (goC s o x.2 (canL m.s.toNat m u)) := by
    rw [Bool.eq_iff_iff, List.any_eq_true, List.any_eq_true]
    constructor
    · rintro ⟨a, ha, hg⟩
      obtain ⟨b, hb, _, _, _, hg2⟩ := (trim_goC hm h0 hyx).1 ⟨ha, hg⟩
      exact ⟨b, hb, hg2⟩
    · rintro ⟨b, hb, hg⟩
      obtain ⟨k1, k2⟩ := go_use hm hyx hb hg
      obtain ⟨ha, hg2⟩ := (trim_goC hm h0 hyx).2 ⟨b, hb, k1, k2, rfl, hg⟩
      exact ⟨_, ha, hg2⟩
  unfold nextO
  rw [hany]
  split
  · refine F2.cons ⟨?_, fun t ht hu => ?_, fun t ht => ?_⟩ F2.nil
    · show y.1 ++ _ = x.1 ++ _
      rw [hyx.w]
    · show getB (onsB _ _ _ _) (numN m t) = getB (onsB _ _ _ _) t
      rw [Bool.eq_iff_iff, getB_ons _ _ (fun a ha => (hc.in_.arcs a ha).2) (numN_pos.2 hu), getB_ons _ _ (fun a ha => (hm.in_.arcs a ha).2) (by omega)]
      constructor
      · rintro ⟨a, ha, hg, hat⟩
        obtain ⟨b, hb, k1, k2, rfl, hg2⟩ := (trim_goC hm h0 hyx).1 ⟨ha, hg⟩
        refine ⟨b, hb, hg2, ?_⟩
        have hbm := hm.mem hb
        have := numN_inj k2 hu hat
        unfold tN at this; omega
      · rintro ⟨b, hb, hg, hbt⟩
        obtain ⟨k1, k2⟩ := go_use hm hyx hb hg
        obtain ⟨ha, hg2⟩ := (trim_goC hm h0 hyx).2 ⟨b, hb, k1, k2, rfl, hg⟩
        refine ⟨_, ha, hg2, ?_⟩
        show numN m (tN b) = numN m t
        congr 1
        unfold tN; omega
    · obtain ⟨b, hb, hg, hbt⟩ := (getB_ons _ _ (fun a ha => (hm.in_.arcs a ha).2) (by omega)).1 ht
      have hbm := hm.mem hb
      have e : tN b = t := by unfold tN; omega
      have h5 : ((fN b : Nat) : Int) = b.f := by unfold fN; omega
      rw [← e]
      exact FrmP.step hb (hyx.from_ _ (by rw [h5]; exact (goC_iff.1 hg).1))
  · exact F2.nil
def O2 {α β : Type} (R : α → β → Prop) : Option α → Option β → Prop
  | none, none => True
  | some a, some b => R a b
  | _, _ => False
theorem trim_go {m : Mac} (hm : MacOk m) (h0 : useB m 0 = true) : ∀ (u : List Int) (hs' hs : List Hd), F2 (HdT m) hs' hs → O2 (F2 (HdT m)) (imgGo (trimC m).s.toNat (trimC m) u hs') (imgGo m.s.toNat m u hs)
  | [], _, _, h => h
  | s :: u, hs', hs, h => by
    have hn := trim_next hm h0 (u := u) (s := s) h
    rw [imgGo, imgGo, hn.len]
    split
    · trivial
    · exact trim_go hm h0 u _ _ hn
theorem F2.words {m : Mac} {a b : List Hd} (h : F2 (HdT m) a b) : a.map Prod.fst = b.map Prod.fst := by
  induction h with
  | nil => rfl
  | cons h _ ih => rw [List.map_cons, List.map_cons, h.w, ih]
theorem trim_images {m : Mac} (hm : MacOk m) (h0 : useB m 0 = true) (u : List Int) : imagesO (trimC m).s.toNat (trimC m) u = imagesO m.s.toNat m u := by
  have h1 := hm.s1
  have hc := validM_mac (trimC_valid hm h0)
  have h2 := hc.s1
  have hz := numN_zero h0
  have hg : getB (canL (trimC m).s.toNat (trimC m) u) 0 = getB (canL m.s.toNat m u) 0 := by
    have := trim_getB hm h0 u (show 0 < m.s.toNat by omega) h0
    rwa [hz] at this
  unfold imagesO
  rw [hg]
  split
  · have h := trim_go hm h0 u [([], beginB (trimC m).s.toNat)] [([], beginB m.s.toNat)] (F2.cons ⟨rfl, fun s hs hu => ?_, fun s hs => ?_⟩ F2.nil)
    · generalize imgGo (trimC m).s.toNat (trimC m) u _ = A at h ⊢
      generalize imgGo m.s.toNat m u _ = B at h ⊢
      cases A <;> cases B
      · rfl
      · exact h.elim
      · exact h.elim
      · exact congrArg some (F2.words h)
    · rw [Bool.eq_iff_iff, getB_begin (by omega) (numN_pos.2 hu), getB_begin (by omega) (by omega)]
      constructor
      · intro h
        have := numN_inj hu h0 (by rw [h, hz])
        omega
      · intro h
        obtain rfl : s = 0 := by omega
        exact hz
    · have := (getB_begin (by omega) (by omega)).1 hs
      exact ⟨0, by show s = 0; omega⟩
  · rfl
/-! ## a trimmed machine is trimmed -/
theorem cntU_onto (m : Mac) : ∀ (n t : Nat), t < cntU m n → ∃ s, s < n ∧ useB m s = true ∧ numN m s = t
  | 0, t, h => absurd h (by show ¬ t < 0; omega)
  | n + 1, t, h => by
    rw [cntU_next] at h
    by_cases e : t < cntU m n
    · obtain ⟨s, h1, h2, h3⟩ := cntU_onto m n t e
      exact ⟨s, by omega, h2, h3⟩
    · split at h
      · rename_i hu
        exact ⟨n, by omega, hu, by rw [numN, if_pos hu]; omega⟩
      · omega
theorem num_ren {m : Mac} {b : Arc} (hu : useB m (fN b) = true) : ((fN (renum m b) : Nat) : Int) = numN m (fN b) := by
  have := numN_pos.2 hu
  show (((numN m (fN b)).toNat : Nat) : Int) = _
  omega
theorem num_ren2 {m : Mac} {b : Arc} (hu : useB m (tN b) = true) : ((tN (renum m b) : Nat) : Int) = numN m (tN b) := by
  have := numN_pos.2 hu
  show (((numN m (tN b)).toNat : Nat) : Int) = _
  omega
theorem trim_from {m : Mac} (hm : MacOk m) (h0 : useB m 0 = true) : ∀ (k s : Nat), s < m.s.toNat → useB m s = true → Frm m.a k s → Frm (trimC m).a k (numN m s).toNat
  | 0, s, hs, hu, h => by
    have e : s = 0 := h
    subst e
    show (numN m 0).toNat = 0
    rw [numN_zero h0]; rfl
  | k + 1, s, hs, hu, h => by
    obtain ⟨b, hb, rfl, hr⟩ := h
    have hst := hm.states b hb
    have h1 : useB m (fN b) = true := use_of hm hst.1 ⟨k, hr⟩ (ToEnd.step hb ((useB_iff hm hs).1 hu).2)
    refine ⟨renum m b, mem_trimC.2 ⟨b, hb, h1, hu, rfl⟩, rfl, ?_⟩
    exact trim_from hm h0 k (fN b) hst.1 h1 hr
theorem trim_to {m : Mac} (hm : MacOk m) : ∀ (k s : Nat), s < m.s.toNat → useB m s = true → Rch fN tN m.a (endP m) k s → Rch fN tN (trimC m).a (endP (trimC m)) k (numN m s).toNat
  | 0, s, hs, hu, h => by
    have h' : (s : Int) ∈ m.e := h
    show ((numN m s).toNat : Int) ∈ (trimC m).e
    have := numN_pos.2 hu
    rw [Int.toNat_of_nonneg this]
    exact mem_trimE.2 ⟨s, h', by simpa using hu, by simp⟩
  | k + 1, s, hs, hu, h => by
    obtain ⟨b, hb, rfl, hr⟩ := h
    have hst := hm.states b hb
    have h1 : useB m (tN b) = true := use_of hm hst.2 (FrmP.step hb ((useB_iff hm hs).1 hu).1) ⟨k, hr⟩
    refine ⟨renum m b, mem_trimC.2 ⟨b, hb, hu, h1, rfl⟩, rfl, ?_⟩
    exact trim_to hm k (tN b) hst.2 h1 hr
theorem trim_use {m : Mac} (hm : MacOk m) (h0 : useB m 0 = true) {t : Nat} (ht : t < (trimC m).s.toNat) : useB (trimC m) t = true := by
  obtain ⟨s, h1, h2, h3⟩ := cntU_onto m m.s.toNat t (by simpa [trimC] using ht)
  have e : (numN m s).toNat = t := by omega
  have hc := validM_mac (trimC_valid hm h0)
  obtain ⟨⟨k, hk⟩, ⟨j, hj⟩⟩ := (useB_iff hm h1).1 h2
  refine use_of hc ht ?_ ?_
  · rw [← e]; exact ⟨k, trim_from hm h0 k s h1 h2 hk⟩
  · rw [← e]; exact ⟨j, trim_to hm j s h1 h2 hj⟩
theorem cntU_all (m : Mac) : ∀ n, (∀ s, s < n → useB m s = true) → cntU m n = n
  | 0, _ => rfl
  | n + 1, h => by rw [cntU_next, cntU_all m n fun s hs => h s (by omega), if_pos (h n (by omega))]
theorem numN_all {m : Mac} {n : Nat} (h : ∀ s, s < n → useB m s = true) {s : Nat} (hs : s < n) : numN m s = s := by
  rw [numN, if_pos (h s hs), cntU_all m s fun t ht => h t (by omega)]
theorem trimC_idem {c : Mac} (hc : MacOk c) (hall : ∀ s, s < c.s.toNat → useB c s = true) (hasc : c.a.Pairwise LtA) : trimC c = c := by
  have h1 := hc.s1
  have e1 : ((cntU c c.s.toNat : Nat) : Int) = c.s := by rw [cntU_all c _ hall]; omega
  have e2 : trimA c = c.a := by
    unfold trimA
    rw [List.filter_eq_self.2 fun a ha => ?_]
    · refine (List.map_congr_left fun a ha => ?_).trans (List.map_id _)
      have hst := hc.states a ha
      have hb := hc.mem ha
      unfold renum
      rw [numN_all (s := fN a) hall hst.1, numN_all (s := tN a) hall hst.2]
      unfold fN tN
      rw [Int.toNat_of_nonneg hb.1.1, Int.toNat_of_nonneg hb.2.1.1]; rfl
    · have hst := hc.states a ha
      rw [Bool.and_eq_true, decide_eq_true_eq, decide_eq_true_eq]
      exact ⟨numN_pos.2 (hall _ hst.1), numN_pos.2 (hall _ hst.2)⟩
  have e3 : trimE c = c.e := by
    unfold trimE
    rw [List.filter_eq_self.2 fun a ha => ?_]
    · refine (List.map_congr_left fun a ha => ?_).trans (List.map_id _)
      have hb := hc.ends a ha
      rw [numN_all hall (by omega), Int.toNat_of_nonneg hb.1]; rfl
    · have hb := hc.ends a ha
      rw [decide_eq_true_eq]
      exact numN_pos.2 (hall _ (by omega))
  have e4 : arcsU c.a = c.a := asc_uniq (arcsU_asc _) hasc fun x => arcsU_mem _ x
  unfold trimC
  rw [e1, e2, e3, e4]
theorem trimM_good {m : Mac} (h : validM m = 0) (h0 : useB m 0 = true) : trimM m = trimC m := by
  have h2 := useB_zero (validM_mac h)
  rw [h0] at h2
  have := of_decide_eq_true h2.symm
  rw [trimM, if_pos h, if_neg (by omega)]; rfl
theorem trimM_none {m : Mac} (h : validM m = 0) (h0 : ¬ useB m 0 = true) : trimM m = ⟨1, [], []⟩ := by
  have h2 := useB_zero (validM_mac h)
  rw [Bool.not_eq_true] at h0
  rw [h0] at h2
  have := of_decide_eq_false h2.symm
  rw [trimM, if_pos h, if_pos (by omega)]
theorem none_valid : validM ⟨1, [], []⟩ = 0 := by decide +kernel
theorem none_can : ∀ u, getB (canL 1 ⟨1, [], []⟩ u) 0 = false
  | [] => rfl
  | s :: u => rfl
theorem trimM_valid {m : Mac} (h : validM m = 0) : validM (trimM m) = 0 := by
  by_cases h0 : useB m 0 = true
  · rw [trimM_good h h0]; exact trimC_valid (validM_mac h) h0
  · rw [trimM_none h h0]; exact none_valid
theorem trimM_images {m : Mac} (h : validM m = 0) (u : List Int) : imagesO (trimM m).s.toNat (trimM m) u = imagesO m.s.toNat m u := by
  have hm := validM_mac h
  have h1 := hm.s1
  by_cases h0 : useB m 0 = true
  · rw [trimM_good h h0]; exact trim_images hm h0 u
  · rw [trimM_none h h0]
    have e1 : getB (canL m.s.toNat m u) 0 = false := by
      rw [← Bool.not_eq_true]
      intro hg
      exact h0 (use_of hm (by omega) ⟨0, rfl⟩ (canP_toEnd hm u 0 ((getB_can hm.in_ u (by omega)).1 hg)))
    unfold imagesO
    rw [e1, show ((⟨1, [], []⟩ : Mac).s.toNat) = 1 from rfl, none_can]
    rfl
theorem trimM_idem {m : Mac} (h : validM m = 0) : trimM (trimM m) = trimM m := by
  have hm := validM_mac h
  by_cases h0 : useB m 0 = true
  · have hc := trimC_valid hm h0
    have hall : ∀ s, s < (trimC m).s.toNat → useB (trimC m) s = true := fun s hs => trim_use hm h0 hs
    rw [trimM_good h h0, trimM_good hc (hall 0 (by have := (validM_mac hc).s1; omega))]
    exact trimC_idem (validM_mac hc) hall (arcsU_asc _)
  · rw [trimM_none h h0]
    decide +kernel
theorem trims_same {m : Mac} (h : validM m = 0) (u : List Int) : imagesL (trimM m) u = imagesL m u ∧ imagesK (trimM m) u = imagesK m u := by
  have hc : checkK (trimM m) [u] = checkK m [u] := by rw [checkK, checkK, if_pos (trimM_valid h), if_pos h]
  unfold imagesL imagesK
  rw [hc, trimM_images h u]
  exact ⟨rfl, rfl⟩
end Go.Proofs.Ytpbflkbelhlogaa
/- Machines: Trim, plain: what its loops hold. -/
namespace Go.Proofs.Ytpbflkbelhlogaa
open Go.RowKit Go.Shelf
set_option linter.unusedVariables false
def thF (ar : List Arc) (l : List Bool) (k : Nat) : List Bool := (ar.take k).foldl tS l
theorem thF_next {ar : List Arc} {k : Nat} (h : k < ar.length) (l : List Bool) : thF ar l (k + 1) = tS (thF ar l k) (arcA ar k) := by
  unfold thF
  rw [take_next h ⟨0, 0, 0, 0⟩, List.foldl_append]; rfl
theorem thF_len (ar : List Arc) (l : List Bool) (k : Nat) : (thF ar l k).length = l.length := tSF_len _ _
theorem thF_all (ar : List Arc) (l : List Bool) : thF ar l ar.length = ar.foldl tS l := by unfold thF; rw [List.take_length]
theorem thR_next (ar : List Arc) (l : List Bool) (r : Nat) : thR ar l (r + 1) = thF ar (thR ar l r) ar.length := by rw [thF_all, thR]
theorem tS_or {l : List Bool} {a : Arc} (h : a.t.toNat < l.length) : l.set a.t.toNat (getB l a.t || getB l a.f) = tS l a := by
  unfold tS
  by_cases hf : getB l a.f = true
  · rw [if_pos hf, hf, Bool.or_true]
  · rw [if_neg hf]
    rw [Bool.not_eq_true] at hf
    rw [hf, Bool.or_false]
    unfold getB
    rw [List.getElem?_eq_getElem h, Option.getD_some, List.set_getElem_self]
theorem tS_yes {l : List Bool} {a : Arc} (h : getB l a.f = true) : tS l a = l.set a.t.toNat true := by unfold tS; rw [if_pos h]
theorem tS_no {l : List Bool} {a : Arc} (h : getB l a.f = false) : tS l a = l := by unfold tS; rw [h]; rfl
def tAT (m : Mac) (k : Nat) : List Arc := ((m.a.take k).filter fun a => decide (0 ≤ numN m (fN a)) && decide (0 ≤ numN m (tN a))).map (renum m)
def tET (m : Mac) (k : Nat) : List Int := ((m.e.take k).filter fun s => decide (0 ≤ numN m s.toNat)).map fun s => numN m s.toNat
theorem tAT_next {m : Mac} {k : Nat} (h : k < m.a.length) : tAT m (k + 1) = if 0 ≤ numN m (fN (arcA m.a k)) ∧ 0 ≤ numN m (tN (arcA m.a k)) then tAT m k ++ [renum m (arcA m.a k)] else tAT m k := by
  unfold tAT
  rw [take_next h ⟨0, 0, 0, 0⟩, List.filter_append, List.map_append]
  unfold arcA
  by_cases h1 : 0 ≤ numN m (fN (m.a[k]?.getD ⟨0, 0, 0, 0⟩)) <;> by_cases h2 : 0 ≤ numN m (tN (m.a[k]?.getD ⟨0, 0, 0, 0⟩)) <;> simp [h1, h2]
theorem tET_next {m : Mac} {k : Nat} (h : k < m.e.length) : tET m (k + 1) = if 0 ≤ numN m (m.e[k]?.getD 0).toNat then tET m k ++ [numN m (m.e[k]?.getD 0).toNat] else tET m k := by
  unfold tET
  rw [take_next h 0, List.filter_append, List.map_append]
  by_cases h1 : 0 ≤ numN m (m.e[k]?.getD 0).toNat <;> simp [h1]
theorem tAT_all (m : Mac) : tAT m m.a.length = trimA m := by unfold tAT trimA; rw [List.take_length]
theorem tET_all (m : Mac) : tET m m.e.length = trimE m := by unfold tET trimE; rw [List.take_length]
theorem tAT_len (m : Mac) (k : Nat) : (tAT m k).length ≤ m.a.length := by
  unfold tAT
  rw [List.length_map]
  refine Nat.le_trans (List.length_filter_le _ _) ?_
  rw [List.length_take]; omega
theorem tET_len (m : Mac) (k : Nat) : (tET m k).length ≤ m.e.length := by
  unfold tET
  rw [List.length_map]
  refine Nat.le_trans (List.length_filter_le _ _) ?_
  rw [List.length_take]; omega
theorem tAT_put {m : Mac} {k : Nat} (h : k < m.a.length) : arcsU (tAT m (k + 1)) = if 0 ≤ numN m (fN (arcA m.a k)) ∧ 0 ≤ numN m (tN (arcA m.a k)) then putA (arcsU (tAT m k)) (renum m (arcA m.a k)) else arcsU (tAT m k) := by
  rw [tAT_next h]
  split
  · unfold arcsU; rw [List.foldl_append]; rfl
  · rfl
theorem num_bd {m : Mac} {s n : Nat} (hs : s < n) : -1 ≤ numN m s ∧ numN m s < n := by
  have h1 := numN_ge m s
  refine ⟨h1, ?_⟩
  unfold numN
  split
  · have := cntU_le m s; omega
  · omega
theorem nums_use {m : Mac} {k : Nat} (hk : k < m.s.toNat) (hu : useB m k = true) : ((numsL m k).set k (-1)).set k (cntU m k : Int) = numsL m (k + 1) ∧ cntU m (k + 1) = cntU m k + 1 := by
  refine ⟨?_, by rw [cntU_next, if_pos hu]⟩
  rw [List.set_set, ← numsL_next m hk, numN, if_pos hu]
theorem nums_not {m : Mac} {k : Nat} (hk : k < m.s.toNat) (hu : useB m k = false) : (numsL m k).set k (-1) = numsL m (k + 1) ∧ cntU m (k + 1) = cntU m k := by
  refine ⟨?_, by rw [cntU_next, if_neg (by rw [hu]; decide)]; rfl⟩
  rw [← numsL_next m hk, numN, if_neg (by rw [hu]; decide)]
theorem use_parts (m : Mac) (k : Nat) : useB m k = (getB (thL m) k && decide (0 ≤ at0 (farL m) k)) := rfl
theorem trim_made {m : Mac} (hm : MacOk m) (h : validM m = 0) (h0 : ¬ at0 (farL m) 0 < 0) : madeM (cntU m m.s.toNat) (trimA m) (trimE m) = trimM m ∧ madeK (cntU m m.s.toNat) (trimA m) = 0 := by
  have h1 := hm.s1
  have h2 := hm.s2
  have h3 := cntU_le m m.s.toNat
  have h4 := arcsU_le (trimA m)
  have h5 := trimA_len m
  have h6 := hm.a
  have hk : madeK (cntU m m.s.toNat) (trimA m) = 0 := by rw [madeK, if_neg (by omega), if_neg (by omega)]
  exact ⟨by rw [madeM, if_pos hk, trimM, if_pos h, if_neg h0], hk⟩
end Go.Proofs.Ytpbflkbelhlogaa
/- Parts of a slice of ints: s[:i], s[k:]. -/
namespace Go.Proofs.Ytpbflkbelhlogaa
open Go.RowKit Go.Shelf
set_option linter.unusedVariables false
theorem ints_take {w : World} {a : Option Addr} {c n : Nat} {l : List Int} (h : Ints w (.slice a n c) l) {i : Nat} (hi : i ≤ l.length) : Ints w (.slice a i c) (l.take i) := by
  obtain ⟨a', c', hv, hl, hm, H⟩ := h
  injection hv with ha hn hc; subst ha hc
  refine ⟨a, c, by rw [List.length_take, Nat.min_eq_left hi], by rw [List.length_take]; omega, hm, fun j hj => ?_⟩
  rw [List.length_take] at hj
  obtain ⟨b, o, hb, hcell⟩ := H j (by omega)
  exact ⟨b, o, hb, by show w.cell? _ = some (.int .i64 ((l.take i)[j]?.getD 0)); rw [List.getElem?_take, if_pos (by omega)]; exact hcell⟩
theorem ints_drop {w : World} {b o c n : Nat} {l : List Int} (h : Ints w (.slice (some ⟨b, o, none⟩) n c) l) {k : Nat} (hk : k ≤ l.length) {A : Option Addr} (hA : (if c = k then some (⟨b, o, none⟩ : Addr) else some ⟨b, o + k, none⟩) = A) :
    Ints w (.slice A (l.length - k) (c - k)) (l.drop k) := by
  obtain ⟨a', c', hv, hl, hm, H⟩ := h
  injection hv with ha hn hc; subst ha hc
  refine ⟨A, c - k, by rw [List.length_drop], by rw [List.length_drop]; omega, by omega, fun j hj => ?_⟩
  rw [List.length_drop] at hj
  rw [if_neg (by omega)] at hA
  subst hA
  obtain ⟨b', o', hb, hcell⟩ := H (k + j) (by omega)
  injection hb with hb; injection hb with h1 h2 _; subst h1 h2
  exact ⟨b, o + k, rfl, by show w.cell? _ = some (.int .i64 ((l.drop k)[j]?.getD 0)); rw [List.getElem?_drop, Nat.add_assoc]; exact hcell⟩
theorem ints_none {w : World} {a : Option Addr} {c : Nat} (hc : c ≤ 9223372036854775807) : Ints w (.slice a 0 c) [] := ⟨a, c, rfl, Nat.zero_le _, by unfold maxLen; omega, fun i hi => by simp at hi⟩
end Go.Proofs.Ytpbflkbelhlogaa
/- slices.Repeat of one number. -/
namespace Go.Proofs.Ytpbflkbelhlogaa
open Go.RowKit Go.Shelf
set_option linter.unusedVariables false

def mulRen : Go.Shelf.Ren := ⟨fun | 212 => 115 | 263 => 128 | 264 => 129 | n => n, fun | 46 => 129 | 51 => 143 | 53 => 145 | 146 => 146 | 148 => 148 | n => n, fun n => n⟩
theorem mulLays : Lays.n212 Try.prog mulRen := { mixed := by kernel_rfl, f212 := by kernel_rfl, f263 := by kernel_rfl, f264 := by kernel_rfl, t46 := by kernel_rfl, a46 := fun _ => by kernel_rfl, z46 := fun _ => by kernel_rfl, v46 := fun _ => by kernel_rfl, t51 := by kernel_rfl, a51 := fun _ => by kernel_rfl, z51 := fun _ => by kernel_rfl, v51 := fun _ => by kernel_rfl, t53 := by kernel_rfl, a53 := fun _ => by kernel_rfl, z53 := fun _ => by kernel_rfl, v53 := fun _ => by kernel_rfl, t146 := by kernel_rfl, a146 := fun _ => by kernel_rfl, z146 := fun _ => by kernel_rfl, v146 := fun _ => by kernel_rfl, t148 := by kernel_rfl, a148 := fun _ => by kernel_rfl, z148 := fun _ => by kernel_rfl, v148 := fun _ => by kernel_rfl }
theorem mul1_c (n : Nat) (hn : n ≤ 1000) (w : World) : Calls Try.prog 115 #[.int .u64 1, .int .u64 (n : Int)] w (RP (.tuple #[.int .u64 0, .int .u64 (n : Int)]) w) := by
  have h := Any.bits_Mul mulLays 1 n (by omega) (by omega) w
  have e1 : 1 * n / 18446744073709551616 = 0 := by omega
  have e2 : 1 * n % 18446744073709551616 = n := by omega
  rw [e1, e2] at h
  exact h.mono fun e w' ⟨h1, h2⟩ => ⟨h1, h2.symm⟩
def fillTo (n k : Nat) (x : Int) : List Int := List.replicate k x ++ List.replicate (n - k) 0
theorem fillTo_len {n k : Nat} {x : Int} (h : k ≤ n) : (fillTo n k x).length = n := by simp [fillTo]; omega
theorem fillTo_all (n : Nat) (x : Int) : fillTo n n x = List.replicate n x := by simp [fillTo]
theorem fillTo_splice {n k m : Nat} {x : Int} (h : k + m ≤ n) : splice ((fillTo n k x).map (Value.int .i64)) k ((List.replicate m x).map (Value.int .i64)) = (fillTo n (k + m) x).map (Value.int .i64) := by
  unfold splice fillTo
  simp only [List.map_append, List.map_replicate, List.length_replicate, List.take_append, List.drop_append, List.take_replicate, List.drop_replicate]
  rw [show k - k = 0 by omega, show k - (k + m) = 0 by omega]
  simp only [Nat.min_self, Nat.zero_min, List.replicate_zero, List.append_nil, List.nil_append]
  rw [← List.append_assoc, List.replicate_append_replicate]
  congr 2
  omega
theorem one_src {w : World} {a : Addr} {u : Value} (h : w.cell? a = some u) : ∀ (j : Nat) (v : Value), [u][j]? = some v → w.cell? (a.add j) = some v := fun j v hv => by
  cases j with
  | zero => simp at hv; subst hv; exact h
  | succ j => simp at hv
/-- a new row of one number comes back -/
def RRep (n : Nat) (x : Int) (w : World) (e : Ending) (w' : World) : Prop := ∃ g, e = .returned (.slice (some ⟨g, 0, none⟩) n n) ∧ BInts w' g (List.replicate n x) ∧ w.heap.size ≤ g ∧ Ext w w'
set_option maxHeartbeats 1000000 in
set_option maxRecDepth 100000 in
theorem repeat_c (b : Nat) (n : Nat) (x : Int) (w : World) (hc : w.cell? ⟨b, 0, none⟩ = some (.int .i64 x)) (h1 : 1 ≤ n) (h9 : n ≤ 100) : Calls Try.prog 106 #[.slice (some ⟨b, 0, none⟩) 1 1, .int .i64 (n : Int)] w (RRep n x w) := by
  have hd0 : decide ((n : Int) < 0) = false := by simp
  have hb := cell_lt hc
  have hz1 : decide ((n : Int) > 9223372036854775807) = false := by simp; omega
  go_enter Try.func106, Try.ntmps106
  go_wp2_with fail
  refine (mul1_c n (by omega) w).mono ?_; rintro e w1 ⟨rfl, rfl⟩
  have HFZ : Hid (∀ (W : World) (g : Nat), Blk W g 3 (List.replicate n (.int .i64 0)) → Blk W g 3 ((fillTo n 0 0).map (Value.int .i64))) := Lib.hid (fun W g h => by unfold fillTo; simpa using h)
  have HS0 : Hid (∀ v ∈ [Value.int .i64 x], v.oneCell' = true) := Lib.hid (fun v hv => by rw [List.mem_singleton] at hv; subst hv; rfl)
  have HL0 : Hid (0 + [Value.int .i64 x].length ≤ ((fillTo n 0 0).map (Value.int .i64)).length) := Lib.hid (by rw [List.length_map, fillTo_len (by omega)]; show 0 + 1 ≤ n; omega)
  have HM0 : Hid ([Value.int .i64 x].length = Nat.min 1 n) := Lib.hid (by show 1 = Nat.min 1 n; exact (Nat.min_eq_left h1).symm)
  have HC := Lib.hid hc
  go_wp2_with (first
    | (at_make; refine wpList_make_blkL n elInts rfl rfl _ _ rfl rfl rfl (by simp) (by omega) (by omega) ?_; intro g w2 hg hblk hx2 hg2; have hbk := HFZ.out w2 g hblk)
    | (refine wpList_copy_splice rfl (.tmp 31) (.tmp 32) 23 23 rfl 3 Try.underlying23 (by kernel_rfl) (some ⟨g, 0, none⟩) (some ⟨b, 0, none⟩) n n 1 1 rfl rfl g 0 ((fillTo n 0 0).map (Value.int .i64)) 3 hbk [.int .i64 x] HM0.out (fun _ => ⟨rfl, _, rfl, one_src (hx2.keep HC.out)⟩) HL0.out HS0.out w.heap.size w hx2 hg ?_; intro w3 hb3 hx3))
  have hbk3 : Blk w3 g 3 ((fillTo n 1 x).map (Value.int .i64)) := by
    have := hb3.out
    rw [show splice ((fillTo n 0 0).map (Value.int .i64)) 0 [Value.int .i64 x] = (fillTo n 1 x).map (Value.int .i64) by
      have := fillTo_splice (n := n) (k := 0) (m := 1) (x := x) (by omega)
      rw [show fillTo n 0 0 = fillTo n 0 x by simp [fillTo]]; simpa using this] at this
    exact this
  clear hb3 hbk hblk hg2 hx2 hc HS0 HL0 HM0
  go_loopg [8] n (fun z i wr => ∃ k : Nat, 1 ≤ k ∧ k ≤ n ∧ n ≤ k + z ∧ i = .int .i64 k ∧ Ext w wr ∧ Blk wr g 3 ((fillTo n k x).map (Value.int .i64)))
  case atStart => exact ⟨1, by omega, by omega, by omega, rfl, hx3, hbk3⟩
  case round =>
    clear hx3 hbk3
    obtain ⟨k, hk1, hk, hkz, rfl, hX, hbk⟩ := hrel
    by_cases hlt : k < n
    · have hle : k ≤ n := by omega
      have hne : ¬ n = k := by omega
      have hm : ∃ m, m = Nat.min k (n - k) ∧ 1 ≤ m ∧ k + m ≤ n := ⟨Nat.min k (n - k), rfl, by show 1 ≤ min k (n - k); omega, by show k + min k (n - k) ≤ n; omega⟩
      obtain ⟨m, hm1, hm2, hm3⟩ := hm
      have hlen : ((fillTo n k x).map (Value.int .i64)).length = n := by rw [List.length_map, fillTo_len hle]
      have hsrc : Hid (∀ (W : World), Blk W g 3 ((fillTo n k x).map (Value.int .i64)) → ∀ (j : Nat) (v : Value), ((List.replicate m x).map (Value.int .i64))[j]? = some v → W.cell? ((⟨g, 0, none⟩ : Addr).add j) = some v) := Lib.hid (fun W hW j v hv => by
        rw [addr_add, Nat.zero_add]
        refine Blk.cell hW ?_
        rw [List.map_replicate, List.getElem?_replicate] at hv
        split at hv
        · injection hv with hv; subst hv
          have hmk : m ≤ k := by rw [hm1]; exact Nat.min_le_left _ _
          unfold fillTo
          rw [List.getElem?_map, List.getElem?_append_left (by rw [List.length_replicate]; omega), List.getElem?_replicate, if_pos (by omega)]; rfl
        · cases hv)
      have HN : Hid (((List.replicate m x).map (Value.int .i64)).length = Nat.min k (n - k)) := Lib.hid (by rw [List.length_map, List.length_replicate]; exact hm1)
      have HF : Hid (k + ((List.replicate m x).map (Value.int .i64)).length ≤ ((fillTo n k x).map (Value.int .i64)).length) := Lib.hid (by rw [hlen, List.length_map, List.length_replicate]; exact hm3)
      have H1 : Hid (∀ v ∈ (List.replicate m x).map (Value.int .i64), v.oneCell' = true) := Lib.hid (fun v hv => by obtain ⟨y, _, rfl⟩ := List.mem_map.1 hv; rfl)
      have HM := Lib.hid hm1
      have HLM : Hid (((List.replicate m x).map (Value.int .i64)).length = m) := Lib.hid (by rw [List.length_map, List.length_replicate])
      have HB := Lib.hid hbk
      clear hm1 hbk hlen
      have hkI : (k : Int) ≤ (n : Int) := by omega
      have hwk : IntKind.i64.wrap ((k : Int) + (m : Int)) = (k : Int) + (m : Int) := IntWalk.i64_in _ (by omega)
      go_wp2_with fail
      refine wp_region_peek (fun _ => True) (fun _ => True) [] [.look 0, .look 1, .look 2, .look 3, .look 4, .look 5, .look 6, .go 7, .look 8, .look 9] (by kernel_rfl) (by kernel_rfl) (by intro c a d v w h; cases d <;> exact h) ?_
      have hd : Ext wr { wr with drawn := wr.drawn + 1 } := drawn_ext wr
      have hX1 := hX.trans hd
      have HB1 := Lib.hid (Blk.ext HB.out hd)
      have htr : True := trivial
      generalize { wr with drawn := wr.drawn + 1 } = W1 at *
      iterate 7 (refine wpPeek_look rfl ‹_› (fun K hK => ?_); go_simp; first | (refine hK _ ?_; clear hK K) | (refine ⟨_, fun _ => rfl, hK _ ?_⟩; clear hK K))
      refine wpPeek_go rfl rfl (fun K hK => ?_)
      refine wpList_copy_splice rfl (.tmp 41) (.tmp 44) 23 23 rfl 3 Try.underlying23 (by kernel_rfl) (some ⟨g, k, none⟩) (some ⟨g, 0, none⟩) (n - k) (n - k) k n rfl rfl g k ((fillTo n k x).map (Value.int .i64)) 3 HB1.out ((List.replicate m x).map (Value.int .i64)) HN.out (fun _ => ⟨rfl, _, rfl, hsrc.out W1 HB1.out⟩) HF.out H1.out w.heap.size w hX1 hg ?_
      intro w4 hb4 hx4
      have hb5 : Blk w4 g 3 ((fillTo n (k + m) x).map (Value.int .i64)) := by rw [← fillTo_splice hm3]; exact hb4.out
      rw [HLM.out]
      have HB5 := Lib.hid hb5
      clear hb4 hb5 hd
      go_wp2_with fail
      refine ⟨KeepE.of (fun h => h) (fun h => h), ?_⟩
      iterate 2 (refine wpPeek_look rfl ‹_› (fun K hK => ?_); go_simp; first | (refine hK _ ?_; clear hK K) | (refine ⟨_, fun _ => rfl, hK _ ?_⟩; clear hK K))
      refine wpPeek_nil ?_
      go_wp2_with fail
      go_roundg (gk-1)
      case measure => omega
      case rel => exact ⟨k + m, by omega, hm3, by omega, by go_num, hx4, HB5.out⟩
    · have hkn : k = n := by omega
      subst hkn
      rw [fillTo_all] at hbk
      have HB := Lib.hid hbk; clear hbk
      go_wp2_with fail
      go_ret
      exact ⟨g, rfl, HB.out, hg, hX⟩
end Go.Proofs.Ytpbflkbelhlogaa
/- Machines: how far each state is from an end, of the program. -/
namespace Go.Proofs.Ytpbflkbelhlogaa
open Go.RowKit Go.Shelf
set_option linter.unusedVariables false
/-- a new row of ints comes back -/
def RRow (l : List Int) (w : World) (e : Ending) (w' : World) : Prop := ∃ g, e = .returned (.slice (some ⟨g, 0, none⟩) l.length l.length) ∧ BInts w' g l ∧ w.heap.size ≤ g ∧ Ext w w'
theorem far_in {m : Mac} (h : MacOk m) {j : Nat} (hj : j < m.a.length) : m.a[j] = arcA m.a j := by simp [arcA, hj]
theorem zeroAt_bd : ∀ (e l : List Int), (∀ i, -1 ≤ at0 l i ∧ at0 l i ≤ 0) → ∀ i, -1 ≤ at0 (zeroAt e l) i ∧ at0 (zeroAt e l) i ≤ 0
  | [], _, h => h
  | s :: e, l, h => by
    rw [show zeroAt (s :: e) l = zeroAt e (l.set s.toNat 0) from rfl]
    refine zeroAt_bd e _ fun i => ?_
    unfold at0
    rw [List.getElem?_set]
    split
    · split <;> simp
    · exact h i
theorem set_bd {l : List Int} {N x : Int} (h : ∀ i, -1 ≤ at0 l i ∧ at0 l i ≤ N) (hx : -1 ≤ x ∧ x ≤ N) (hN : 0 ≤ N) (j : Nat) : ∀ i, -1 ≤ at0 (l.set j x) i ∧ at0 (l.set j x) i ≤ N := fun i => by
  unfold at0
  rw [List.getElem?_set]
  split
  · split
    · exact hx
    · exact ⟨by simp, by simpa using hN⟩
  · exact h i
theorem pFold_bd {A : Type} {f t : A → Nat} : ∀ (ar : List A) (l : List Int) (N : Int), 0 ≤ N → (∀ i, -1 ≤ at0 l i ∧ at0 l i ≤ N) → ∀ i, -1 ≤ at0 (ar.foldl (pStep f t) l) i ∧ at0 (ar.foldl (pStep f t) l) i ≤ N + ar.length
  | [], _, N, _, h => fun i => by have := h i; simp only [List.foldl_nil, List.length_nil]; omega
  | a :: ar, l, N, hN, h => fun i => by
    have h1 : ∀ i, -1 ≤ at0 (pStep f t l a) i ∧ at0 (pStep f t l a) i ≤ N + 1 := by
      unfold pStep
      split
      · rename_i hc
        have := h (t a)
        exact set_bd (fun i => by have := h i; omega) (by omega) (by omega) _
      · exact fun i => by have := h i; omega
    have := pFold_bd (f := f) (t := t) ar (pStep f t l a) (N + 1) (by omega) h1 i
    rw [List.foldl_cons, List.length_cons]
    omega
theorem pRnd_bd {A : Type} {f t : A → Nat} (ar : List A) (l : List Int) (h : ∀ i, -1 ≤ at0 l i ∧ at0 l i ≤ 0) : ∀ (r : Nat) i, -1 ≤ at0 (pRnd f t ar l r) i ∧ at0 (pRnd f t ar l r) i ≤ (r : Int) * ar.length
  | 0, i => by have := h i; rw [pRnd]; omega
  | r + 1, i => by
    have := pFold_bd (f := f) (t := t) ar _ _ (by exact Int.mul_nonneg (by omega) (by omega)) (pRnd_bd (f := f) (t := t) ar l h r) i
    rw [pRnd, pTo_all]
    have e : ((r + 1 : Nat) : Int) * (ar.length : Int) = (r : Int) * ar.length + ar.length := by rw [Int.natCast_add, Int.add_mul]; simp
    omega
theorem pStep_yes {A : Type} {f t : A → Nat} {l : List Int} {a : A} (h1 : 0 ≤ at0 l (t a)) (h2 : at0 l (f a) < 0 ∨ at0 l (t a) + 1 < at0 l (f a)) : pStep f t l a = l.set (f a) (at0 l (t a) + 1) := by unfold pStep; rw [if_pos ⟨h1, h2⟩]
theorem pStep_no {A : Type} {f t : A → Nat} {l : List Int} {a : A} (h : ¬ (0 ≤ at0 l (t a) ∧ (at0 l (f a) < 0 ∨ at0 l (t a) + 1 < at0 l (f a)))) : pStep f t l a = l := by unfold pStep; rw [if_neg h]
theorem far_bd {m : Mac} (h : MacOk m) {n : Nat} (hn : n ≤ 9) {l : List Int} (hl : ∀ i, -1 ≤ at0 l i ∧ at0 l i ≤ 0) {r : Nat} (hr : r ≤ n) (k : Nat) : ∀ i, -1 ≤ at0 (pTo fN tN m.a (pRnd fN tN m.a l r) k) i ∧ at0 (pTo fN tN m.a (pRnd fN tN m.a l r) k) i ≤ 1000 := fun i => by
  have h1 := pRnd_bd (f := fN) (t := tN) m.a l hl r
  have ha := h.a
  have h2 : (r : Int) * (m.a.length : Int) ≤ 9 * 60 := by
    have : r * m.a.length ≤ 9 * 60 := Nat.mul_le_mul (by omega) ha
    exact_mod_cast this
  have h3 := pFold_bd (f := fN) (t := tN) (m.a.take k) _ _ (by exact Int.mul_nonneg (by omega) (by omega)) h1 i
  unfold pTo
  have h4 : (m.a.take k).length ≤ 60 := by rw [List.length_take]; omega
  omega
set_option maxHeartbeats 4000000 in
set_option maxRecDepth 100000 in
theorem far_c (av ev : Value) (m : Mac) (w : World) (h : MacR w av ev m) (hM : MacOk m) : Calls Try.prog 88 #[.agg #[.int .i64 m.s, av, ev]] w (RRow (farL m) w) := by
  obtain ⟨wA, hwA⟩ : ∃ wA, wA = w.alloc (.cells #[.int .i64 m.s, av, ev] 25) := ⟨_, rfl⟩
  have hE0 : Ext w wA := by rw [hwA]; exact Ext.alloc _ _
  have k0 : ∀ W, Ext wA W → W.cell? ⟨w.heap.size, 0, none⟩ = some (.int .i64 m.s) := by rw [hwA]; exact kept_alloc w _ _ rfl
  have k1 : ∀ W, Ext wA W → W.cell? ⟨w.heap.size, 1, none⟩ = some av := by rw [hwA]; exact kept_alloc w _ _ rfl
  have k2 : ∀ W, Ext wA W → W.cell? ⟨w.heap.size, 2, none⟩ = some ev := by rw [hwA]; exact kept_alloc w _ _ rfl
  have H0 : Ext wA wA := Ext.refl _
  have hzA : wA.heap.size = w.heap.size + 1 := by rw [hwA]; simp
  obtain ⟨aa, ca, rfl, hla, hma, HA⟩ := (h.ext hE0).a.open_
  obtain ⟨ae, ce, rfl, hle, hme, HE⟩ := (h.ext hE0).e.open_
  obtain ⟨n, hn⟩ : ∃ n : Nat, m.s = n := ⟨m.s.toNat, by have := hM.s1; omega⟩
  have hn1 : 1 ≤ n := by have := hM.s1; omega
  have hn9 : n ≤ 9 := by have := hM.s2; omega
  have hnt : m.s.toNat = n := by omega
  have HM := Lib.hid hM
  have HFL : Hid (farL m = pRnd fN tN m.a (zeroAt m.e (List.replicate n (-1))) n) := Lib.hid (by unfold farL far0; rw [hnt])
  have HLN : Hid ((farL m).length = n) := Lib.hid (by unfold farL; rw [pRnd_len, far0_len, hnt])
  have HN := Lib.hid hn
  rw [hn] at k0
  have HW := Lib.hid (show wA = w.alloc (.cells #[.int .i64 (n : Int), .slice aa m.a.length ca, .slice ae m.e.length ce] 25) by rw [hwA, hn])
  have hXo : Ext wA (wA.alloc (.cells #[.int .i64 (-1)] 3)) := Ext.alloc _ _
  have hco := kept_alloc wA #[.int .i64 (-1)] 3 (i := 0) (v := .int .i64 (-1)) rfl _ (Ext.refl _)
  have HRP := Lib.hid (repeat_c wA.heap.size n (-1) _ hco hn1 (by omega))
  rw [hzA] at HRP
  clear hwA h hM hnt hco
  rw [hn]
  go_enter Try.func88, Try.ntmps88
  go_wp2_with fail
  rw [← HW.out]
  refine HRP.out.mono ?_; rintro e w2 ⟨g, rfl, hbk, hg, hx2⟩
  have hXA : Ext wA w2 := hXo.trans hx2
  have hB0 : BInts w2 g (zeroAt (m.e.take 0) (List.replicate n (-1))) := by rw [List.take_zero]; exact hbk
  have hg1 : w.heap.size + 1 ≤ g := by have := hXo.size; rw [hzA] at this; omega
  clear hbk hx2 hXo HRP hg
  go_wp2_with fail
  go_loopg [15] m.e.length (fun z i wr => ∃ k : Nat, k ≤ m.e.length ∧ m.e.length ≤ k + z ∧ i = .int .i64 k ∧ Ext wA wr ∧ BInts wr g (zeroAt (m.e.take k) (List.replicate n (-1))))
  case atStart => exact ⟨0, by omega, by omega, rfl, hXA, hB0⟩
  case round =>
    clear hB0 hXA
    obtain ⟨k, hk, hk2, rfl, hEr, hbk⟩ := hrel
    by_cases hlt : k < m.e.length
    · obtain ⟨be, oe, rfl, hc⟩ := HE.out k hlt
      replace hc := hEr.keep hc
      have hx := HM.out.ends (m.e[k]?.getD 0) (by rw [List.getElem?_eq_getElem hlt]; exact List.getElem_mem hlt)
      have hN := Lib.hid (zeroAt_next hlt (List.replicate n (-1)))
      generalize m.e[k]?.getD 0 = x at *
      obtain ⟨j, rfl⟩ : ∃ j : Nat, x = j := ⟨x.toNat, by omega⟩
      have hj : j < n := by have := HN.out; omega
      have hjl : j < (zeroAt (m.e.take k) (List.replicate n (-1))).length := by rw [zeroAt_len]; simpa using hj
      have hbc := hbk.cell hjl
      have hbf := Blk.frozen hbk j
      have hset := Lib.hid (hbk.set j 0)
      rw [Int.toNat_natCast] at hN
      generalize zeroAt (m.e.take k) (List.replicate n (-1)) = O at *
      clear hx hjl hbk
      go_wp2_with fail
      go_roundg (gk-1)
      case measure => omega
      case rel => exact ⟨k+1, by omega, by omega, by go_num, hEr.setCell (by omega) _ _, by rw [hN.out]; exact hset.out⟩
    · have hbE : BInts wr g (pRnd fN tN m.a (zeroAt m.e (List.replicate n (-1))) 0) := by rw [List.take_of_length_le (by omega)] at hbk; exact hbk
      obtain ⟨w0, hw0⟩ : ∃ w0, w0 = wr := ⟨_, rfl⟩
      rw [← hw0] at hbE hEr ⊢
      clear hw0 hbk
      go_wp2_with fail
      go_loopg [25] n (fun z i wr => ∃ r : Nat, r ≤ n ∧ n ≤ r + z ∧ i = .int .i64 r ∧ Ext wA wr ∧ BInts wr g (pRnd fN tN m.a (zeroAt m.e (List.replicate n (-1))) r))
      case atStart => exact ⟨0, by omega, by omega, rfl, hEr, hbE⟩
      case round =>
        clear hbE hEr
        obtain ⟨r, hr, hrz, rfl, hEr, hbk⟩ := hrel
        obtain ⟨g1, rfl⟩ : ∃ g : Nat, g = gk := ⟨_, rfl⟩
        by_cases hlt2 : r < n
        · have hrI : (r : Int) < (n : Int) := by omega
          have HNX : Hid (pRnd fN tN m.a (zeroAt m.e (List.replicate n (-1))) (r + 1) = pTo fN tN m.a (pRnd fN tN m.a (zeroAt m.e (List.replicate n (-1))) r) m.a.length) := Lib.hid rfl
          have HRL : Hid ((pRnd fN tN m.a (zeroAt m.e (List.replicate n (-1))) r).length = n) := Lib.hid (by rw [pRnd_len, zeroAt_len]; simp)
          have hb0 : BInts wr g (pTo fN tN m.a (pRnd fN tN m.a (zeroAt m.e (List.replicate n (-1))) r) 0) := hbk
          have HBD := Lib.hid (far_bd HM.out hn9 (zeroAt_bd m.e (List.replicate n (-1)) (fun i => by unfold at0; rw [List.getElem?_replicate]; split <;> simp)) hr)
          generalize pRnd fN tN m.a (zeroAt m.e (List.replicate n (-1))) r = R at *
          obtain ⟨w0, hw0⟩ : ∃ w0, w0 = wr := ⟨_, rfl⟩
          rw [← hw0] at hb0 hEr ⊢
          clear hw0 hbk
          go_wp2_with fail
          go_loopg [30] m.a.length (fun z i wr => ∃ j : Nat, j ≤ m.a.length ∧ m.a.length ≤ j + z ∧ i = .int .i64 j ∧ Ext wA wr ∧ BInts wr g (pTo fN tN m.a R j))
          case atStart => exact ⟨0, by omega, by omega, rfl, hEr, hb0⟩
          case round =>
            clear hb0 hEr
            obtain ⟨j, hj, hj2, rfl, hEr, hbb⟩ := hrel
            by_cases hjl : j < m.a.length
            · obtain ⟨ba, oa, rfl, hc0, hc1, hc2, hc3⟩ := HA.out j hjl
              replace hc0 := hEr.keep hc0
              replace hc1 := hEr.keep hc1
              replace hc2 := hEr.keep hc2
              replace hc3 := hEr.keep hc3
              have hst := HM.out.arc hjl
              have hst1 := pTo_next (f := fN) (t := tN) (out := R) hjl
              rw [far_in HM.out hjl] at hst1
              have HST := Lib.hid hst1; clear hst1
              have hlb : (pTo fN tN m.a R j).length = n := by unfold pTo; rw [pTo_len]; exact HRL.out
              have hbd := HBD.out j
              generalize arcA m.a j = y at *
              generalize pTo fN tN m.a R j = bb at *
              obtain ⟨yf, yt, yi, yo⟩ := y
              simp only at hc0 hc1 hc2 hc3 hst
              obtain ⟨p, rfl⟩ : ∃ p : Nat, yf = p := ⟨yf.toNat, by omega⟩
              obtain ⟨q, rfl⟩ : ∃ q : Nat, yt = q := ⟨yt.toNat, by omega⟩
              have hp : p < n := by have := HN.out; omega
              have hq : q < n := by have := HN.out; omega
              have HLB := Lib.hid hlb; clear hlb
              obtain ⟨wB, hwB⟩ : ∃ wB, wB = wr.alloc (.cells #[.int .i64 (p : Int), .int .i64 (q : Int), .int .i64 yi, .int .i64 yo] 50) := ⟨_, rfl⟩
              have hEB : Ext wr wB := by rw [hwB]; exact Ext.alloc _ _
              have b0 : ∀ W, Ext wB W → W.cell? ⟨wr.heap.size, 0, none⟩ = some (.int .i64 p) := by rw [hwB]; exact kept_alloc wr _ _ rfl
              have b1 : ∀ W, Ext wB W → W.cell? ⟨wr.heap.size, 1, none⟩ = some (.int .i64 q) := by rw [hwB]; exact kept_alloc wr _ _ rfl
              have HWB := Lib.hid hwB; clear hwB
              have hs : ∀ s : Later wB, Ext wB s.w := fun s => s.ext
              have hb1 : BInts wB g bb := Blk.ext hbb hEB
              have q1 := fun s : Later wB => s.ext.keep (hb1.cell (i := q) (by rw [HLB.out]; exact hq))
              have q2 := fun s : Later wB => s.ext.keep (hb1.cell (i := p) (by rw [HLB.out]; exact hp))
              have hbq := hbd q
              have hbp := hbd p
              have HSY0 : Hid (0 ≤ at0 bb q → (at0 bb p < 0 ∨ at0 bb q + 1 < at0 bb p) → pStep fN tN bb ⟨(p : Int), (q : Int), yi, yo⟩ = bb.set p (at0 bb q + 1)) := Lib.hid fun h1 h2 => pStep_yes (f := fN) (t := tN) (a := ⟨(p : Int), (q : Int), yi, yo⟩) h1 h2
              have HSN0 : Hid (¬ (0 ≤ at0 bb q ∧ (at0 bb p < 0 ∨ at0 bb q + 1 < at0 bb p)) → pStep fN tN bb ⟨(p : Int), (q : Int), yi, yo⟩ = bb) := Lib.hid fun h => pStep_no (f := fN) (t := tN) (a := ⟨(p : Int), (q : Int), yi, yo⟩) h
              replace q1 : ∀ s : Later wB, s.w.cell? ⟨g, q, none⟩ = some (.int .i64 (at0 bb q)) := q1
              replace q2 : ∀ s : Later wB, s.w.cell? ⟨g, p, none⟩ = some (.int .i64 (at0 bb p)) := q2
              obtain ⟨xq, hxq⟩ : ∃ x, at0 bb q = x := ⟨_, rfl⟩
              obtain ⟨xp, hxp⟩ : ∃ x, at0 bb p = x := ⟨_, rfl⟩
              rw [hxq] at q1 hbq HSY0 HSN0
              rw [hxp] at q2 hbp HSY0 HSN0
              have HXQ : Hid (bb[q]?.getD 0 = xq) := Lib.hid hxq
              clear hst hbd hxq hxp
              have hwq : IntKind.i64.wrap (xq + 1) = xq + 1 := IntWalk.i64_in _ (by omega)
              by_cases hA : 0 ≤ xq
              · have hdA : decide (xq ≥ 0) = true := by simpa using hA
                have hdA2 : decide (0 ≤ xq) = true := by simpa using hA
                by_cases hB : xp < 0
                · have hdB : decide (xp < 0) = true := by simpa using hB
                  have HSY := Lib.hid (HSY0.out hA (.inl hB))
                  clear HSY0 HSN0
                  go_wp2_with fail
                  rw [← HWB.out]
                  clear hc0 hc1 hc2 hc3
                  refine wp_region_later (by kernel_rfl) (by kernel_rfl) ?_
                  repeat (go_big_quiet_step (fail))
                  refine wpQuiet_nil ?_
                  intro w5 hw'
                  obtain ⟨⟨_, hx5⟩, rfl⟩ := hw'
                  clear hs q1 q2
                  have hX : Ext wA w5 := hEr.trans (hEB.trans hx5)
                  have hb5 : BInts w5 g bb := Blk.ext hb1 hx5
                  clear hb1 hbb
                  have hs : ∀ s : Later w5, Ext wB s.w := fun s => hx5.trans s.ext
                  have q1 := fun s : Later w5 => s.ext.keep (hb5.cell (i := q) (by rw [HLB.out]; exact hq))
                  rw [HXQ.out] at q1
                  go_wp2_with fail
                  refine wp_region_later_tail 10 (by kernel_rfl) (by kernel_rfl) ?_
                  simp only [List.take_succ_cons, List.take_zero, List.drop_succ_cons, List.drop_zero]
                  repeat (go_big_quiet_step (fail))
                  refine wpQuiet_nil ?_
                  intro w6 hw'
                  obtain ⟨⟨_, hx6⟩, rfl⟩ := hw'
                  clear hs q1
                  have hb6 : BInts w6 g bb := Blk.ext hb5 hx6
                  have hX6 : Ext wA w6 := hX.trans hx6
                  have hn2 := hb6.cell (i := p) (by rw [HLB.out]; exact hp)
                  have hf2 := Blk.frozen hb6 p
                  have HB2 := Lib.hid (hb6.set p (xq + 1))
                  clear hb6 hb5
                  go_wp2_with fail
                  go_roundg (gk-1)
                  case measure => omega
                  case rel => exact ⟨j+1, by omega, by omega, by go_num, hX6.setCell (by omega) _ _, by rw [HST.out, HSY.out]; exact HB2.out⟩
                · have hdB : decide (xp < 0) = false := by simpa using hB
                  by_cases hC : xq + 1 < xp
                  · have hdC : decide (xp > xq + 1) = true := by simpa using hC
                    have hdC2 : decide (xq + 1 < xp) = true := by simpa using hC
                    have HSY := Lib.hid (HSY0.out hA (.inr hC))
                    clear HSY0 HSN0
                    go_wp2_with fail
                    rw [← HWB.out]
                    clear hc0 hc1 hc2 hc3
                    refine wp_region_later (by kernel_rfl) (by kernel_rfl) ?_
                    repeat (go_big_quiet_step (fail))
                    refine wpQuiet_nil ?_
                    intro w5 hw'
                    obtain ⟨⟨_, hx5⟩, rfl⟩ := hw'
                    clear hs q1 q2
                    have hX : Ext wA w5 := hEr.trans (hEB.trans hx5)
                    have hb5 : BInts w5 g bb := Blk.ext hb1 hx5
                    clear hb1 hbb
                    have hs : ∀ s : Later w5, Ext wB s.w := fun s => hx5.trans s.ext
                    have q1 := fun s : Later w5 => s.ext.keep (hb5.cell (i := q) (by rw [HLB.out]; exact hq))
                    rw [HXQ.out] at q1
                    go_wp2_with fail
                    refine wp_region_later_tail 10 (by kernel_rfl) (by kernel_rfl) ?_
                    simp only [List.take_succ_cons, List.take_zero, List.drop_succ_cons, List.drop_zero]
                    repeat (go_big_quiet_step (fail))
                    refine wpQuiet_nil ?_
                    intro w6 hw'
                    obtain ⟨⟨_, hx6⟩, rfl⟩ := hw'
                    clear hs q1
                    have hb6 : BInts w6 g bb := Blk.ext hb5 hx6
                    have hX6 : Ext wA w6 := hX.trans hx6
                    have hn2 := hb6.cell (i := p) (by rw [HLB.out]; exact hp)
                    have hf2 := Blk.frozen hb6 p
                    have HB2 := Lib.hid (hb6.set p (xq + 1))
                    clear hb6 hb5
                    go_wp2_with fail
                    go_roundg (gk-1)
                    case measure => omega
                    case rel => exact ⟨j+1, by omega, by omega, by go_num, hX6.setCell (by omega) _ _, by rw [HST.out, HSY.out]; exact HB2.out⟩
                  · have hdC : decide (xp > xq + 1) = false := by simp; omega
                    have hdC2 : decide (xq + 1 < xp) = false := by simp; omega
                    have HSN := Lib.hid (HSN0.out (by omega))
                    clear HSY0 HSN0
                    go_wp2_with fail
                    rw [← HWB.out]
                    clear hc0 hc1 hc2 hc3
                    refine wp_region_later (by kernel_rfl) (by kernel_rfl) ?_
                    repeat (go_big_quiet_step (fail))
                    refine wpQuiet_nil ?_
                    intro w5 hw'
                    obtain ⟨⟨_, hx5⟩, rfl⟩ := hw'
                    clear hs q1 q2
                    have hX : Ext wA w5 := hEr.trans (hEB.trans hx5)
                    have hb5 : BInts w5 g bb := Blk.ext hb1 hx5
                    clear hb1 hbb
                    go_wp2_with fail
                    go_roundg (gk-1)
                    case measure => omega
                    case rel => exact ⟨j+1, by omega, by omega, by go_num, hX, by rw [HST.out, HSN.out]; exact hb5⟩
              · have hdA : decide (xq ≥ 0) = false := by simp; omega
                have hdA2 : decide (0 ≤ xq) = false := by simp; omega
                have HSN := Lib.hid (HSN0.out (by omega))
                clear HSY0 HSN0
                go_wp2_with fail
                rw [← HWB.out]
                clear hc0 hc1 hc2 hc3
                refine wp_region_later (by kernel_rfl) (by kernel_rfl) ?_
                repeat (go_big_quiet_step (fail))
                refine wpQuiet_nil ?_
                intro w5 hw'
                obtain ⟨⟨_, hx5⟩, rfl⟩ := hw'
                clear hs q1 q2
                have hX : Ext wA w5 := hEr.trans (hEB.trans hx5)
                have hb5 : BInts w5 g bb := Blk.ext hb1 hx5
                clear hb1 hbb
                go_wp2_with fail
                go_roundg (gk-1)
                case measure => omega
                case rel => exact ⟨j+1, by omega, by omega, by go_num, hX, by rw [HST.out, HSN.out]; exact hb5⟩
            · have hjm : j = m.a.length := by omega
              subst hjm
              have HB := Lib.hid hbb
              clear hbb
              go_wp2_with fail
              go_roundg (g1-1)
              case measure => omega
              case rel => exact ⟨r+1, by omega, by omega, by go_num, hEr, by rw [HNX.out]; exact HB.out⟩
        · have hrn : r = n := by omega
          subst hrn
          rw [← HFL.out] at hbk
          have HB := Lib.hid hbk
          clear hbk
          go_wp2_with fail
          go_ret
          exact ⟨g, by rw [HLN.out]; rfl, HB.out, by omega, hE0.trans hEr⟩
end Go.Proofs.Ytpbflkbelhlogaa
/- Machines: Trim of the program. -/
namespace Go.Proofs.Ytpbflkbelhlogaa
open Go.RowKit Go.Shelf
set_option linter.unusedVariables false
theorem tS_t {l : List Bool} {p q : Nat} {i o : Int} (h : l[q]?.getD false = true) (ht : q < l.length) : l.set q true = tS l ⟨(p : Int), (q : Int), i, o⟩ := by
  have := tS_or (l := l) (a := ⟨(p : Int), (q : Int), i, o⟩) ht
  rw [← this]
  show l.set q true = l.set q (l[q]?.getD false || l[p]?.getD false)
  rw [h]; rfl
theorem tS_f {l : List Bool} {p q : Nat} {i o : Int} (h : l[q]?.getD false = false) (ht : q < l.length) : l.set q (l[p]?.getD false) = tS l ⟨(p : Int), (q : Int), i, o⟩ := by
  have := tS_or (l := l) (a := ⟨(p : Int), (q : Int), i, o⟩) ht
  rw [← this]
  show l.set q (l[p]?.getD false) = l.set q (l[q]?.getD false || l[p]?.getD false)
  rw [h]; rfl
theorem beginB_set {n : Nat} : (List.replicate n false).set 0 true = beginB n := rfl
set_option maxHeartbeats 8000000 in
set_option maxRecDepth 100000 in
theorem Trim_c (av ev : Value) (m : Mac) (w : World) (h : MacR w av ev m) : Calls Try.prog 51 #[.agg #[.int .i64 m.s, av, ev]] w (RMac2 (trimM m) (validM m) w) := by
  obtain ⟨w1_, hw1_⟩ : ∃ W, W = w.alloc (.cells #[.int .i64 m.s, av, ev] 25) := ⟨_, rfl⟩
  obtain ⟨wR, hwR⟩ : ∃ W, W = w1_.alloc (.cells #[.int .i64 0, .slice none 0 0, .slice none 0 0] 25) := ⟨_, rfl⟩
  have hz1_ : w1_.heap.size = w.heap.size + 1 := by rw [hw1_]; simp
  have x1_ : Ext w w1_ := by rw [hw1_]; exact Ext.alloc _ _
  have x2_ : Ext w1_ wR := by rw [hwR]; exact Ext.alloc _ _
  have hER : Ext w wR := x1_.trans x2_
  have kk : ∀ i v, #[Value.int .i64 m.s, av, ev][i]? = some v → ∀ W, Ext wR W → W.cell? ⟨w.heap.size, i, none⟩ = some v := fun i v h W hW => kept_alloc w _ _ h W (by rw [← hw1_]; exact x2_.trans hW)
  have k0 := kk 0 _ rfl
  have k1 := kk 1 _ rfl
  have k2 := kk 2 _ rfl
  have HBX : Hid (Blk wR (w.heap.size + 1) 25 [.int .i64 0, .slice none 0 0, .slice none 0 0]) := Lib.hid (by rw [hwR, ← hz1_]; exact Blk.alloc w1_ _ _)
  have hzR : wR.heap.size = w.heap.size + 2 := by rw [hwR]; simp [hz1_]
  have H0 : Ext wR wR := Ext.refl _
  have HRM := Lib.hid (h.ext hER)
  obtain ⟨aa, ca, rfl, hla, hma, HA⟩ := (h.ext hER).a.open_
  obtain ⟨ae, ce, rfl, hle, hme, HE⟩ := (h.ext hER).e.open_
  have HW := Lib.hid (show wR = (w.alloc (.cells #[.int .i64 m.s, .slice aa m.a.length ca, .slice ae m.e.length ce] 25)).alloc (.cells #[.int .i64 0, .slice none 0 0, .slice none 0 0] 25) by rw [hwR, hw1_])
  clear hwR hw1_ hz1_ x1_ x2_ kk h
  have HVA := Lib.hid (Validate_c _ _ m wR HRM.out)
  by_cases hv : validM m = 0
  · have hM := validM_mac hv
    have HM := Lib.hid hM
    obtain ⟨n, hn⟩ : ∃ n : Nat, m.s = n := ⟨m.s.toNat, by have := hM.s1; omega⟩
    have hn1 : 1 ≤ n := by have := hM.s1; omega
    have hn9 : n ≤ 9 := by have := hM.s2; omega
    have hnt : m.s.toNat = n := by omega
    have HNT := Lib.hid hnt
    have HN := Lib.hid hn
    have HFL : Hid ((farL m).length = n) := Lib.hid (by unfold farL; rw [pRnd_len, far0_len, hnt])
    have HTL : Hid (thL m = thR m.a (beginB n) n) := Lib.hid (by unfold thL; rw [hnt])
    have HMA : Hid (¬ at0 (farL m) 0 < 0 → madeM (cntU m n) (trimA m) (trimE m) = trimM m ∧ madeK (cntU m n) (trimA m) = 0) := Lib.hid (fun h0 => by rw [← hnt]; exact trim_made hM hv h0)
    have HMB : Hid (at0 (farL m) 0 < 0 → trimM m = ⟨1, [], []⟩) := Lib.hid (fun h0 => by rw [trimM, if_pos hv, if_pos h0])
    have HFA : Hid (∀ W, Ext wR W → Calls Try.prog 88 #[.agg #[.int .i64 (n : Int), .slice aa m.a.length ca, .slice ae m.e.length ce]] W (RRow (farL m) W)) := Lib.hid (fun W hW => by rw [← hn]; exact far_c _ _ m W (HRM.out.ext hW) hM)
    rw [hv] at HVA ⊢
    rw [hn] at HVA HW k0
    clear hv hM hnt
    rw [hn]
    clear hn
    go_enter Try.func51, Try.ntmps51
    go_wp2_with fail
    rw [← HW.out]
    refine HVA.out.mono ?_; rintro e w1 ⟨rfl, hx1⟩
    go_wp2_with fail
    refine (HFA.out w1 hx1).mono ?_; rintro e wA ⟨gL, rfl, hbL, hgL, hx2⟩
    replace hx2 := hx1.trans hx2
    rw [HFL.out]
    have hgL2 := Blk.lt hbL
    have hsR := hx2.size
    go_wp2_with (at_make; go_loud (refine wpList_make_blk n elBools rfl rfl _ _ rfl rfl rfl (by omega) (by omega) ?_; intro g w3 hg hblk hx3 hg3; have hbk : BBools w3 g (List.replicate n false) := (by unfold BBools; simpa using hblk); have hbc := hbk.cell (i := 0) (by rw [List.length_replicate]; omega); have hbf := Blk.frozen hbk 0; have HB0 := Lib.hid (hbk.set 0 true); have HX3 := Lib.hid hx3; have hRx := (hx2.trans hx3).setCell (c := g) (by omega) 0 (.bool true); clear hblk hbk))
    rw [beginB_set] at HB0
    have hxA : Ext wA (w3.setCell ⟨g, 0, none⟩ (.bool true)) := HX3.out.setCell hg _ _
    clear hbc hbf hg3
    generalize w3.setCell ⟨g, 0, none⟩ (.bool true) = w3' at *
    go_loopg [33] n (fun z i wr => ∃ r : Nat, r ≤ n ∧ n ≤ r + z ∧ i = .int .i64 r ∧ Ext wA wr ∧ BBools wr g (thR m.a (beginB n) r))
    case atStart => exact ⟨0, by omega, by omega, rfl, hxA, HB0.out⟩
    case round =>
      clear HB0 hxA hx3 HX3
      obtain ⟨r, hr, hrz, rfl, hEr, hbk⟩ := hrel
      obtain ⟨g1, rfl⟩ : ∃ g : Nat, g = gk := ⟨_, rfl⟩
      by_cases hlt2 : r < n
      · have hrI : (r : Int) < (n : Int) := by omega
        have HNX : Hid (thR m.a (beginB n) (r + 1) = thF m.a (thR m.a (beginB n) r) m.a.length) := Lib.hid (thR_next _ _ _)
        have HRL : Hid ((thR m.a (beginB n) r).length = n) := Lib.hid (by rw [thR_len, beginB_len])
        have hb0 : BBools wr g (thF m.a (thR m.a (beginB n) r) 0) := hbk
        generalize thR m.a (beginB n) r = R at *
        obtain ⟨w0, hw0⟩ : ∃ w0, w0 = wr := ⟨_, rfl⟩
        rw [← hw0] at hb0 hEr ⊢
        clear hw0 hbk
        have hRr := hx2.trans hEr
        go_wp2_with fail
        go_loopg [38] m.a.length (fun z i wr => ∃ j : Nat, j ≤ m.a.length ∧ m.a.length ≤ j + z ∧ i = .int .i64 j ∧ Ext wA wr ∧ BBools wr g (thF m.a R j))
        case atStart => exact ⟨0, by omega, by omega, rfl, hEr, hb0⟩
        case round =>
          clear hb0 hEr hRr
          obtain ⟨j, hj, hj2, rfl, hEr, hbb⟩ := hrel
          by_cases hjl : j < m.a.length
          · have hEr2 := hx2.trans hEr
            obtain ⟨ba, oa, rfl, hc0, hc1, hc2, hc3⟩ := HA.out j hjl
            replace hc0 := hEr2.keep hc0
            replace hc1 := hEr2.keep hc1
            replace hc2 := hEr2.keep hc2
            replace hc3 := hEr2.keep hc3
            have hst := HM.out.arc hjl
            have hst1 := thF_next hjl R
            have HST := Lib.hid hst1; clear hst1
            have hlb : (thF m.a R j).length = n := by rw [thF_len]; exact HRL.out
            generalize arcA m.a j = y at *
            generalize thF m.a R j = bb at *
            obtain ⟨yf, yt, yi, yo⟩ := y
            simp only at hc0 hc1 hc2 hc3 hst
            obtain ⟨p, rfl⟩ : ∃ p : Nat, yf = p := ⟨yf.toNat, by omega⟩
            obtain ⟨q, rfl⟩ : ∃ q : Nat, yt = q := ⟨yt.toNat, by omega⟩
            have hp : p < n := by have := HN.out; omega
            have hq : q < n := by have := HN.out; omega
            clear hst
            obtain ⟨wB, hwB⟩ : ∃ wB, wB = wr.alloc (.cells #[.int .i64 (p : Int), .int .i64 (q : Int), .int .i64 yi, .int .i64 yo] 50) := ⟨_, rfl⟩
            have hEB : Ext wr wB := by rw [hwB]; exact Ext.alloc _ _
            have b0 : ∀ W, Ext wB W → W.cell? ⟨wr.heap.size, 0, none⟩ = some (.int .i64 p) := by rw [hwB]; exact kept_alloc wr _ _ rfl
            have b1 : ∀ W, Ext wB W → W.cell? ⟨wr.heap.size, 1, none⟩ = some (.int .i64 q) := by rw [hwB]; exact kept_alloc wr _ _ rfl
            have b2 : ∀ W, Ext wB W → W.cell? ⟨wr.heap.size, 2, none⟩ = some (.int .i64 yi) := by rw [hwB]; exact kept_alloc wr _ _ rfl
            have b3 : ∀ W, Ext wB W → W.cell? ⟨wr.heap.size, 3, none⟩ = some (.int .i64 yo) := by rw [hwB]; exact kept_alloc wr _ _ rfl
            have HWB := Lib.hid hwB; clear hwB
            have hs : ∀ s : Later wB, Ext wB s.w := fun s => s.ext
            have hb1 : BBools wB g bb := Blk.ext hbb hEB
            have hqL : q < bb.length := by omega
            have q1 := fun s : Later wB => s.ext.keep (hb1.cell (i := q) hqL)
            have q2 := fun s : Later wB => s.ext.keep (hb1.cell (i := p) (by omega))
            cases hQ : bb[q]?.getD false
            · have HQ := Lib.hid hQ; clear hQ
              obtain ⟨bp, hbp⟩ : ∃ b, bb[p]?.getD false = b := ⟨_, rfl⟩
              have HSY := Lib.hid (tS_f (p := p) (i := yi) (o := yo) HQ.out hqL)
              rw [HQ.out] at q1
              rw [hbp] at q2 HSY
              clear hbp
              go_wp2_with fail
              rw [← HWB.out]
              clear hc0 hc1 hc2 hc3
              refine wp_region_later_tail 16 (by kernel_rfl) (by kernel_rfl) ?_
              simp only [List.take_succ_cons, List.take_zero, List.drop_succ_cons, List.drop_zero]
              repeat (go_big_quiet_step (fail))
              refine wpQuiet_nil ?_
              intro w6 hw'
              obtain ⟨⟨_, hx6⟩, rfl⟩ := hw'

              have hX6 : Ext wA w6 := hEr.trans (hEB.trans hx6)
              have hb6 : BBools w6 g bb := Blk.ext hb1 hx6
              have hn2 := hb6.cell (i := q) hqL
              have hf2 := Blk.frozen hb6 q
              have HB2 := Lib.hid (hb6.set q bp)
              clear hb6 hb1 hbb hs q1 q2 b0 b1 b2 b3
              go_wp2_with fail
              go_roundg (gk-1)
              case measure => omega
              case rel => exact ⟨j+1, by omega, by omega, by go_num, hX6.setCell (by omega) _ _, by rw [HST.out, ← HSY.out]; exact HB2.out⟩
            · have HQ := Lib.hid hQ; clear hQ
              have HSY := Lib.hid (tS_t (p := p) (i := yi) (o := yo) HQ.out hqL)
              rw [HQ.out] at q1
              go_wp2_with fail
              rw [← HWB.out]
              clear hc0 hc1 hc2 hc3
              refine wp_region_later_tail 16 (by kernel_rfl) (by kernel_rfl) ?_
              simp only [List.take_succ_cons, List.take_zero, List.drop_succ_cons, List.drop_zero]
              repeat (go_big_quiet_step (fail))
              refine wpQuiet_nil ?_
              intro w6 hw'
              obtain ⟨⟨_, hx6⟩, rfl⟩ := hw'

              have hX6 : Ext wA w6 := hEr.trans (hEB.trans hx6)
              have hb6 : BBools w6 g bb := Blk.ext hb1 hx6
              have hn2 := hb6.cell (i := q) hqL
              have hf2 := Blk.frozen hb6 q
              have HB2 := Lib.hid (hb6.set q true)
              clear hb6 hb1 hbb hs q1 q2 b0 b1 b2 b3
              go_wp2_with fail
              go_roundg (gk-1)
              case measure => omega
              case rel => exact ⟨j+1, by omega, by omega, by go_num, hX6.setCell (by omega) _ _, by rw [HST.out, ← HSY.out]; exact HB2.out⟩
          · have HB := Lib.hid hbb
            clear hbb
            have hjm : j = m.a.length := by omega
            subst hjm
            go_wp2_with fail
            go_roundg (g1-1)
            case measure => omega
            case rel => exact ⟨r+1, by omega, by omega, by go_num, hEr, by rw [HNX.out]; exact HB.out⟩
      · have hrn : r = n := by omega
        subst hrn
        rw [← HTL.out] at hbk
        obtain ⟨w4, rfl⟩ : ∃ W : World, W = wr := ⟨_, rfl⟩
        have hR4 := hx2.trans hEr
        have HBT := Lib.hid hbk; clear hbk
        have HBL := Lib.hid (show BInts w4 gL (farL m) from Blk.ext hbL hEr)
        have hl0 := HBL.out.cell (i := 0) (by rw [HFL.out]; omega)
        replace hl0 : w4.cell? ⟨gL, 0, none⟩ = some (.int .i64 (at0 (farL m) 0)) := hl0
        obtain ⟨x0, hx0⟩ : ∃ x, at0 (farL m) 0 = x := ⟨_, rfl⟩
        rw [hx0] at hl0 HMA HMB
        clear hx0
        by_cases hneg : x0 < 0
        · have hd0 : decide (x0 < 0) = true := by simpa using hneg
          have HK := Lib.hid (HMB.out (by omega))
          clear HMA
          have hM0 : OMac w4 w4.heap.size (.slice none 0 0) (.slice none 0 0) ⟨1, [], []⟩ := ⟨World.ownsRow_nil _ _ _ _, OInts.nil _ _ _⟩
          have hb := HBX.out.ext hR4
          have z0 := hb.cell (i := 0) rfl
          have z1 := hb.cell (i := 1) rfl
          have z2 := hb.cell (i := 2) rfl
          have f0 := hb.frozen 0
          have f1 := hb.frozen 1
          have f2 := hb.frozen 2
          have HBE := Lib.hid (And.intro (hb.store3 (.int .i64 ((⟨1, [], []⟩ : Mac)).s) (.slice none 0 0) (.slice none 0 0)) (And.intro (Ext.store3 (hER.trans hR4) (show w.heap.size ≤ w.heap.size + 1 by omega) (.int .i64 ((⟨1, [], []⟩ : Mac)).s) (.slice none 0 0) (.slice none 0 0))
            (hM0.store3 hb (.int .i64 ((⟨1, [], []⟩ : Mac)).s) (.slice none 0 0) (.slice none 0 0))))
          clear hb
          go_wp2_with fail
          obtain ⟨hb2, hx2', hM2⟩ := HBE.out
          clear z0 z1 z2 f0 f1 f2 HBE
          have d0 := hb2.cell (i := 0) rfl
          have d1 := hb2.cell (i := 1) rfl
          have d2 := hb2.cell (i := 2) rfl
          generalize (((w4.setCell ⟨w.heap.size + 1, 0, none⟩ (.int .i64 ((⟨1, [], []⟩ : Mac)).s)).setCell ⟨w.heap.size + 1, 1, none⟩ (.slice none 0 0)).setCell ⟨w.heap.size + 1, 2, none⟩ (.slice none 0 0)) = w4 at *
          refine bodyPost_ret (v := .tuple #[.agg #[.int .i64 ((⟨1, [], []⟩ : Mac)).s, .slice none 0 0, .slice none 0 0], .int .i64 (0)]) (by simp [results, Try.results51, go_sem, d0, d1, d2]) rfl ?_
          exact RMac2.mk HK.out rfl hM2.mac hx2'
        · have hd0 : decide (x0 < 0) = false := by simpa using hneg
          have HK := Lib.hid (HMA.out (by omega))
          clear HMA HMB hneg
          go_wp2_with (at_make; refine wpList_make_blk r elInts rfl rfl _ _ rfl rfl rfl (by omega) (by omega) ?_; intro g9 w5 hg9 hblk hx5 hg5; have HB9 : Hid (BInts w5 g9 (numsL m 0)) := Lib.hid (by rw [numsL_zero, HNT.out]; unfold BInts; simpa using hblk); have hR5 := hR4.trans hx5; clear hblk)
          go_loopg [70, 10] r (fun z i v wr => ∃ k : Nat, k ≤ r ∧ r ≤ k + z ∧ i = .int .i64 k ∧ v = .int .i64 (cntU m k : Nat) ∧ Ext w4 wr ∧ BInts wr g9 (numsL m k))
          case atStart => exact ⟨0, by omega, by omega, rfl, rfl, hx5, HB9.out⟩
          case round =>
            clear HB9 hl0 hd0
            obtain ⟨k, hk, hkz, rfl, rfl, hEk, hbn⟩ := hrel
            have hRk := hR4.trans hEk
            by_cases hlk : k < r
            · have hkI : (k : Int) < (r : Int) := by omega
              have hNl : k < (numsL m k).length := by rw [numsL_len m (by rw [HNT.out]; omega), HNT.out]; exact hlk
              have hnc := hbn.cell hNl
              have hnf := Blk.frozen hbn k
              have HS1 := Lib.hid (And.intro (hEk.setCell hg9 k (.int .i64 (-1))) (hbn.set k (-1)))
              have HUY : Hid (useB m k = true → ((numsL m k).set k (-1)).set k (cntU m k : Int) = numsL m (k + 1) ∧ cntU m (k + 1) = cntU m k + 1) := Lib.hid (fun h => nums_use (by rw [HNT.out]; exact hlk) h)
              have HUN : Hid (useB m k = false → (numsL m k).set k (-1) = numsL m (k + 1) ∧ cntU m (k + 1) = cntU m k) := Lib.hid (fun h => nums_not (by rw [HNT.out]; exact hlk) h)
              have HUP := Lib.hid (use_parts m k)
              have hcl := cntU_le m k
              have HNL : Hid (k < ((numsL m k).set k (-1)).length) := Lib.hid (by rw [List.length_set]; exact hNl)
              clear hbn hNl
              generalize numsL m k = NL at *
              generalize cntU m k = c at *
              go_upto_region 23 with fail
              clear hnc hnf
              generalize wr.setCell ⟨g9, k, none⟩ (.int .i64 (-1)) = wS at *
              obtain ⟨hES, hbS⟩ := HS1.out
              have hcT := hES.keep (HBT.out.cell (i := k) (by rw [thL_len, HNT.out]; exact hlk))
              have hcL := hES.keep (HBL.out.cell (i := k) (by rw [HFL.out]; exact hlk))
              replace hcT : wS.cell? ⟨g, k, none⟩ = some (.bool (getB (thL m) k)) := hcT
              replace hcL : wS.cell? ⟨gL, k, none⟩ = some (.int .i64 (at0 (farL m) k)) := hcL
              generalize getB (thL m) k = bt at *
              generalize at0 (farL m) k = xl at *
              have hnc := hbS.cell (i := k) HNL.out
              have hnf := Blk.frozen hbS k
              have HS2 := Lib.hid (And.intro (hES.setCell hg9 k (.int .i64 (c : Int))) (hbS.set k (c : Int)))
              have HSS := Lib.hid (And.intro hES hbS)
              clear HS1 hbS hES
              have hwc : IntKind.i64.wrap ((c : Int) + 1) = (c : Int) + 1 := IntWalk.i64_in _ (by omega)
              cases bt
              · have HU := Lib.hid (HUN.out (by rw [HUP.out]; rfl))
                clear HUY HUN HUP
                go_wp2_with fail
                go_roundg (gk-1)
                case measure => omega
                case rel => exact ⟨k+1, by omega, by omega, by go_num, by rw [HU.out.2], HSS.out.1, by rw [← HU.out.1]; exact HSS.out.2⟩
              · by_cases hxl : 0 ≤ xl
                · have hd1 : decide (xl ≥ 0) = true := by simpa using hxl
                  have hd2 : decide (0 ≤ xl) = true := by simpa using hxl
                  have HU := Lib.hid (HUY.out (by rw [HUP.out, hd2]; rfl))
                  clear HUY HUN HUP
                  go_wp2_with fail
                  go_roundg (gk-1)
                  case measure => omega
                  case rel => exact ⟨k+1, by omega, by omega, by go_num, by rw [HU.out.2]; go_num, HS2.out.1, by rw [← HU.out.1]; exact HS2.out.2⟩
                · have hd1 : decide (xl ≥ 0) = false := by simpa using hxl
                  have hd2 : decide (0 ≤ xl) = false := by simpa using hxl
                  have HU := Lib.hid (HUN.out (by rw [HUP.out, hd2]; rfl))
                  clear HUY HUN HUP
                  go_wp2_with fail
                  go_roundg (gk-1)
                  case measure => omega
                  case rel => exact ⟨k+1, by omega, by omega, by go_num, by rw [HU.out.2], HSS.out.1, by rw [← HU.out.1]; exact HSS.out.2⟩
            · have hkr : k = r := by omega
              subst hkr
              obtain ⟨w6, rfl⟩ : ∃ W : World, W = wr := ⟨_, rfl⟩
              have HNC : Hid (∀ W, Ext w6 W → ∀ s, s < k → W.cell? ⟨g9, s, none⟩ = some (.int .i64 (numN m s))) := Lib.hid (fun W hW s hs => by
                have h1 := hW.keep (hbn.cell (i := s) (by rw [numsL_len m (by rw [HNT.out]; omega), HNT.out]; exact hs))
                have h2 := numsL_at m (s := s) (by rw [HNT.out]; exact hs)
                rw [HNT.out] at h2
                rw [← h2]; exact h1)
              clear hbn
              have H6 : Ext w6 w6 := Ext.refl _
              have hcU := cntU_le m k
              go_wp2_with fail
              go_loopg [97, 12] m.a.length (fun z i v wr => ∃ (j : Nat) (t12 : Value), j ≤ m.a.length ∧ m.a.length ≤ j + z ∧ i = .int .i64 j ∧ t12 = v ∧ Ext w6 wr ∧ OArcs wr w6.heap.size t12 (tAT m j))
              case atStart => exact ⟨0, _, by omega, by omega, rfl, rfl, Ext.refl _, World.ownsRow_nil _ _ _ _⟩
              case round =>
                obtain ⟨j, t12, hj, hjz, rfl, rfl, hEr', ho⟩ := hrel
                have hEr : Ext wR wr := hRk.trans hEr'
                have HO := Lib.hid ho
                obtain ⟨a12, c12, rfl⟩ := row_open ho
                clear ho
                have hma60 := HM.out.a
                have htl := tAT_len m j
                by_cases hjl : j < m.a.length
                · obtain ⟨ba, oa, rfl, hc0, hc1, hc2, hc3⟩ := HA.out j hjl
                  replace hc0 := hEr.keep hc0
                  replace hc1 := hEr.keep hc1
                  replace hc2 := hEr.keep hc2
                  replace hc3 := hEr.keep hc3
                  have hst := HM.out.arc hjl
                  have HNX := Lib.hid (tAT_next hjl)
                  generalize arcA m.a j = y at *
                  generalize tAT m j = LL at *
                  obtain ⟨yf, yt, yi, yo⟩ := y
                  simp only at hc0 hc1 hc2 hc3 hst
                  obtain ⟨p, rfl⟩ : ∃ p : Nat, yf = p := ⟨yf.toNat, by omega⟩
                  obtain ⟨q, rfl⟩ : ∃ q : Nat, yt = q := ⟨yt.toNat, by omega⟩
                  have hp : p < k := by have := HN.out; omega
                  have hq : q < k := by have := HN.out; omega
                  clear hst
                  obtain ⟨wB, hwB⟩ : ∃ wB, wB = wr.alloc (.cells #[.int .i64 (p : Int), .int .i64 (q : Int), .int .i64 yi, .int .i64 yo] 50) := ⟨_, rfl⟩
                  have hEB : Ext wr wB := by rw [hwB]; exact Ext.alloc _ _
                  have b0 : ∀ W, Ext wB W → W.cell? ⟨wr.heap.size, 0, none⟩ = some (.int .i64 p) := by rw [hwB]; exact kept_alloc wr _ _ rfl
                  have b1 : ∀ W, Ext wB W → W.cell? ⟨wr.heap.size, 1, none⟩ = some (.int .i64 q) := by rw [hwB]; exact kept_alloc wr _ _ rfl
                  have b2 : ∀ W, Ext wB W → W.cell? ⟨wr.heap.size, 2, none⟩ = some (.int .i64 yi) := by rw [hwB]; exact kept_alloc wr _ _ rfl
                  have b3 : ∀ W, Ext wB W → W.cell? ⟨wr.heap.size, 3, none⟩ = some (.int .i64 yo) := by rw [hwB]; exact kept_alloc wr _ _ rfl
                  have HWB := Lib.hid hwB; clear hwB
                  have HO2 := Lib.hid (HO.out.ext hEB)
                  have h6B : Ext w6 wB := hEr'.trans hEB
                  have hsB : Ext wB wB := Ext.refl _
                  have q1 : ∀ W, Ext wB W → W.cell? ⟨g9, p, none⟩ = some (.int .i64 (numN m p)) := fun W hW => HNC.out W (h6B.trans hW) p hp
                  have q2 : ∀ W, Ext wB W → W.cell? ⟨g9, q, none⟩ = some (.int .i64 (numN m q)) := fun W hW => HNC.out W (h6B.trans hW) q hq
                  have hb1 := num_bd (m := m) hp
                  have hb2 := num_bd (m := m) hq
                  replace HNX : Hid (tAT m (j + 1) = if 0 ≤ numN m p ∧ 0 ≤ numN m q then LL ++ [⟨numN m p, numN m q, yi, yo⟩] else LL) := HNX
                  generalize numN m p = np at *
                  generalize numN m q = nq at *
                  have hszB := h6B.size
                  by_cases hnp : 0 ≤ np
                  · have hd1 : decide (np ≥ 0) = true := by simpa using hnp
                    have hd2 : decide (0 ≤ np) = true := by simpa using hnp
                    by_cases hnq : 0 ≤ nq
                    · have hd3 : decide (nq ≥ 0) = true := by simpa using hnq
                      have hd4 : decide (0 ≤ nq) = true := by simpa using hnq
                      have HL : Hid (tAT m (j + 1) = LL ++ [⟨np, nq, yi, yo⟩]) := Lib.hid (by rw [HNX.out, if_pos ⟨hnp, hnq⟩])
                      clear HNX
                      go_upto_region 31 with fail
                      rw [← HWB.out]
                      clear hc0 hc1 hc2 hc3
                      go_wp2_with fail
                      refine wp_region_peek (Ext wB) (fun _ => True) [17] [.look 0, .look 1, .look 2, .look 3, .look 4, .look 5, .look 6, .look 7, .look 8, .look 9, .look 10, .look 11, .look 12, .look 13, .look 14, .look 15, .go 16, .go 17, .go 18] (by kernel_rfl) (by kernel_rfl) (by intro c a d v w h; cases d <;> exact h) ?_
                      have hd : Ext wB { wB with drawn := wB.drawn + 1 } := drawn_ext wB
                      have hs : ∀ s : InC (Ext wB), Ext wB s.w := fun s => s.h
                      generalize { wB with drawn := wB.drawn + 1 } = W0 at *
                      iterate 16 (refine wpPeek_look rfl ‹_› (fun K hK => ?_); go_simp; first | (refine hK _ ?_; clear hK K) | (refine ⟨_, fun _ => rfl, hK _ ?_⟩; clear hK K))
                      clear hs b0 b1 b2 b3 q1 q2
                      have HO3 := Lib.hid (HO2.out.ext hd)
                      have h60 : Ext w6 W0 := h6B.trans hd
                      have hsz0 := h60.size
                      refine wpPeek_go rfl rfl (fun K hK => ?_)
                      go_wp2_with fail
                      refine ⟨KeepE.of (fun h => h.trans (Ext.alloc _ _)) (fun _ => trivial), ?_⟩
                      refine wpPeek_go rfl rfl (fun K hK => ?_)
                      refine wpList_appendArc elArc rfl (.tmp 115) (.tmp 131) rfl rfl rfl HO3.out rfl hsz0 (by omega) ?_; intro v6 w7 ho6 hb6 hg6 hq6
                      go_wp2_with fail
                      refine ⟨⟨.inl (by simp), fun _ => trivial⟩, ?_⟩
                      refine wpPeek_go rfl rfl (fun K hK => ?_)
                      go_wp2_with fail
                      refine ⟨KeepE.refl, ?_⟩
                      refine wpPeek_nil ?_
                      go_wp2_with fail
                      go_roundg (gk-1)
                      case measure => omega
                      case rel => exact ⟨j+1, _, by omega, by omega, by go_num, rfl, h60.upto hb6 (Nat.le_refl _), by rw [HL.out]; exact ho6⟩
                    · have hd3 : decide (nq ≥ 0) = false := by simpa using hnq
                      have hd4 : decide (0 ≤ nq) = false := by simpa using hnq
                      have HL : Hid (tAT m (j + 1) = LL) := Lib.hid (by rw [HNX.out, if_neg (fun h => hnq h.2)])
                      clear HNX
                      go_upto_region 31 with fail
                      rw [← HWB.out]
                      clear hc0 hc1 hc2 hc3
                      go_wp2_with fail
                      go_roundg (gk-1)
                      case measure => omega
                      case rel => exact ⟨j+1, _, by omega, by omega, by go_num, rfl, h6B, by rw [HL.out]; exact HO2.out⟩
                  · have hd1 : decide (np ≥ 0) = false := by simpa using hnp
                    have hd2 : decide (0 ≤ np) = false := by simpa using hnp
                    have HL : Hid (tAT m (j + 1) = LL) := Lib.hid (by rw [HNX.out, if_neg (fun h => hnp h.1)])
                    clear HNX
                    go_upto_region 31 with fail
                    rw [← HWB.out]
                    clear hc0 hc1 hc2 hc3
                    go_wp2_with fail
                    go_roundg (gk-1)
                    case measure => omega
                    case rel => exact ⟨j+1, _, by omega, by omega, by go_num, rfl, h6B, by rw [HL.out]; exact HO2.out⟩
                · have hjm : j = m.a.length := by omega
                  subst hjm
                  rw [tAT_all] at HO htl ⊢
                  generalize trimA m = TA at *
                  obtain ⟨w7, rfl⟩ : ∃ W : World, W = wr := ⟨_, rfl⟩
                  have hsz7 : w6.heap.size ≤ w7.heap.size := hEr'.size
                  go_wp2_with fail
                  go_loopg [137, 15] m.e.length (fun z i v wr => ∃ (j : Nat) (t15 : Value), j ≤ m.e.length ∧ m.e.length ≤ j + z ∧ i = .int .i64 j ∧ t15 = v ∧ Ext w7 wr ∧ OInts 3 wr w7.heap.size t15 (tET m j))
                  case atStart => exact ⟨0, _, by omega, by omega, rfl, rfl, Ext.refl _, OInts.nil _ _ _⟩
                  case round =>
                    obtain ⟨j, t15, hj', hjz', rfl, rfl, hE7, ho⟩ := hrel
                    have hEw : Ext wR wr := hEr.trans hE7
                    have hE6 : Ext w6 wr := hEr'.trans hE7
                    have HOE := Lib.hid ho
                    obtain ⟨a15, c15, rfl⟩ := row_open ho
                    clear ho
                    have hme9 := end_bd HM.out
                    have hte := tET_len m j
                    by_cases hje : j < m.e.length
                    · obtain ⟨be, oe, rfl, hc⟩ := HE.out j hje
                      replace hc := hEw.keep hc
                      have hx := HM.out.ends (m.e[j]?.getD 0) (by rw [List.getElem?_eq_getElem hje]; exact List.getElem_mem hje)
                      have HNX := Lib.hid (tET_next hje)
                      generalize m.e[j]?.getD 0 = x at *
                      obtain ⟨s, rfl⟩ : ∃ s : Nat, x = s := ⟨x.toNat, by omega⟩
                      have hsk : s < k := by have := HNT.out; omega
                      have q1 := HNC.out wr hE6 s hsk
                      have hb1 := num_bd (m := m) hsk
                      replace HNX : Hid (tET m (j + 1) = if 0 ≤ numN m s then tET m j ++ [numN m s] else tET m j) := HNX
                      generalize numN m s = ns at *
                      generalize tET m j = LE at *
                      clear hx
                      have hszk : w7.heap.size ≤ wr.heap.size := hE7.size
                      by_cases hns : 0 ≤ ns
                      · have hd1 : decide (ns ≥ 0) = true := by simpa using hns
                        have hd2 : decide (0 ≤ ns) = true := by simpa using hns
                        have HL : Hid (tET m (j + 1) = LE ++ [ns]) := Lib.hid (by rw [HNX.out, if_pos hns])
                        clear HNX
                        go_wp2_with (at_builtin; refine wpList_appendInt elInts rfl _ _ rfl rfl rfl HOE.out rfl hszk (by omega) ?_; intro v6 w8 ho6 hb6)
                        go_roundg (gk-1)
                        case measure => omega
                        case rel => exact ⟨j+1, _, by omega, by omega, by go_num, rfl, hE7.upto hb6 (Nat.le_refl _), by rw [HL.out]; exact ho6⟩
                      · have hd1 : decide (ns ≥ 0) = false := by simpa using hns
                        have hd2 : decide (0 ≤ ns) = false := by simpa using hns
                        have HL : Hid (tET m (j + 1) = LE) := Lib.hid (by rw [HNX.out, if_neg hns])
                        clear HNX
                        go_wp2_with fail
                        go_roundg (gk-1)
                        case measure => omega
                        case rel => exact ⟨j+1, _, by omega, by omega, by go_num, rfl, hE7, by rw [HL.out]; exact HOE.out⟩
                    · have hjm : j = m.e.length := by omega
                      subst hjm
                      rw [tET_all] at HOE hte ⊢
                      have HMD := Lib.hid (made_c (cntU m k) _ _ TA (trimE m) w6 wr hE6 (HO.out.ext hE7) (HOE.out.low hsz7) (by omega))
                      rw [HK.out.1, HK.out.2] at HMD
                      generalize trimE m = CE at *
                      generalize trimM m = MM at *
                      generalize cntU m k = c at *
                      go_wp2_with fail
                      refine HMD.out.mono ?_; rintro e w9 ⟨av7, ev7, rfl, hM7, hx7⟩
                      obtain ⟨⟨a1, c1, rfl⟩, a2, c2, rfl⟩ := hM7.open_
                      have hX7 := hRk.trans hx7
                      have hb := HBX.out.ext hX7
                      have z0 := hb.cell (i := 0) rfl
                      have z1 := hb.cell (i := 1) rfl
                      have z2 := hb.cell (i := 2) rfl
                      have f0 := hb.frozen 0
                      have f1 := hb.frozen 1
                      have f2 := hb.frozen 2
                      have HBE := Lib.hid (And.intro (hb.store3 (.int .i64 (MM).s) (.slice a1 MM.a.length c1) (.slice a2 MM.e.length c2)) (And.intro (Ext.store3 (hER.trans hX7) (show w.heap.size ≤ w.heap.size + 1 by omega) (.int .i64 (MM).s) (.slice a1 MM.a.length c1) (.slice a2 MM.e.length c2))
                        (hM7.store3 hb (.int .i64 (MM).s) (.slice a1 MM.a.length c1) (.slice a2 MM.e.length c2))))
                      clear hb
                      go_wp2_with fail
                      obtain ⟨hb2, hx2', hM2⟩ := HBE.out
                      clear z0 z1 z2 f0 f1 f2 HBE
                      have d0 := hb2.cell (i := 0) rfl
                      have d1 := hb2.cell (i := 1) rfl
                      have d2 := hb2.cell (i := 2) rfl
                      generalize (((w9.setCell ⟨w.heap.size + 1, 0, none⟩ (.int .i64 (MM).s)).setCell ⟨w.heap.size + 1, 1, none⟩ (.slice a1 MM.a.length c1)).setCell ⟨w.heap.size + 1, 2, none⟩ (.slice a2 MM.e.length c2)) = w4 at *
                      refine bodyPost_ret (v := .tuple #[.agg #[.int .i64 (MM).s, .slice a1 MM.a.length c1, .slice a2 MM.e.length c2], .int .i64 (0)]) (by simp [results, Try.results51, go_sem, d0, d1, d2]) rfl ?_
                      exact RMac2.mk rfl rfl hM2.mac hx2'
  · have ht0 : trimM m = ⟨0, [], []⟩ := by rw [trimM, if_neg hv]
    rw [ht0]
    have hk : (validM m != 0) = true := by simp [hv]
    generalize validM m = kb at *
    clear hv ht0
    go_enter Try.func51, Try.ntmps51
    go_wp2_with fail
    rw [← HW.out]
    refine HVA.out.mono ?_; rintro e w1 ⟨rfl, hx1⟩
    have hM0 : OMac w1 w1.heap.size (.slice none 0 0) (.slice none 0 0) ⟨0, [], []⟩ := OMac.nil _ _
    have hb := HBX.out.ext hx1
    have z0 := hb.cell (i := 0) rfl
    have z1 := hb.cell (i := 1) rfl
    have z2 := hb.cell (i := 2) rfl
    have f0 := hb.frozen 0
    have f1 := hb.frozen 1
    have f2 := hb.frozen 2
    have HBE := Lib.hid (And.intro (hb.store3 (.int .i64 ((⟨0, [], []⟩ : Mac)).s) (.slice none 0 0) (.slice none 0 0)) (And.intro (Ext.store3 (hER.trans hx1) (show w.heap.size ≤ w.heap.size + 1 by omega) (.int .i64 ((⟨0, [], []⟩ : Mac)).s) (.slice none 0 0) (.slice none 0 0))
      (hM0.store3 hb (.int .i64 ((⟨0, [], []⟩ : Mac)).s) (.slice none 0 0) (.slice none 0 0))))
    clear hb
    go_wp2_with fail
    obtain ⟨hb2, hx2', hM2⟩ := HBE.out
    clear z0 z1 z2 f0 f1 f2 HBE
    have d0 := hb2.cell (i := 0) rfl
    have d1 := hb2.cell (i := 1) rfl
    have d2 := hb2.cell (i := 2) rfl
    generalize (((w1.setCell ⟨w.heap.size + 1, 0, none⟩ (.int .i64 ((⟨0, [], []⟩ : Mac)).s)).setCell ⟨w.heap.size + 1, 1, none⟩ (.slice none 0 0)).setCell ⟨w.heap.size + 1, 2, none⟩ (.slice none 0 0)) = w4 at *
    refine bodyPost_ret (v := .tuple #[.agg #[.int .i64 ((⟨0, [], []⟩ : Mac)).s, .slice none 0 0, .slice none 0 0], .int .i64 (kb)]) (by simp [results, Try.results51, go_sem, d0, d1, d2]) rfl ?_
    exact RMac2.mk rfl rfl hM2.mac hx2'
end Go.Proofs.Ytpbflkbelhlogaa
/- What is found by the search shows that a machine is no function: plain. -/
namespace Go.Proofs.Ytpbflkbelhlogaa
open Go.RowKit Go.Shelf
set_option linter.unusedVariables false

/-- some run reads a word, writes another one and comes to a state of a kind -/
def relG (ar : List Arc) (E : Int → Prop) : List Int → List Int → Int → Prop
  | [], [], s => E s
  | i :: u, o :: v, s => ∃ a ∈ ar, a.f = s ∧ a.i = i ∧ a.o = o ∧ relG ar E u v a.t
  | _, _, _ => False
theorem relG_mono {ar : List Arc} {E F : Int → Prop} (h : ∀ s, E s → F s) : ∀ {u v : List Int} {s : Int}, relG ar E u v s → relG ar F u v s
  | [], [], s, hr => h s hr
  | i :: u, o :: v, s, ⟨a, ha, h1, h2, h3, hr⟩ => ⟨a, ha, h1, h2, h3, relG_mono h hr⟩
  | [], _ :: _, _, h => h.elim
  | _ :: _, [], _, h => h.elim
theorem relG_snoc {ar : List Arc} {E : Int → Prop} {i o : Int} : ∀ {u v : List Int} {s : Int}, relG ar (fun t => ∃ a ∈ ar, a.f = t ∧ a.i = i ∧ a.o = o ∧ E a.t) u v s → relG ar E (u ++ [i]) (v ++ [o]) s
  | [], [], s, hr => hr
  | i' :: u, o' :: v, s, ⟨a, ha, h1, h2, h3, hr⟩ => ⟨a, ha, h1, h2, h3, relG_snoc hr⟩
  | [], _ :: _, _, h => h.elim
  | _ :: _, [], _, h => h.elim
theorem relG_rel {m : Mac} : ∀ {u v : List Int} {s : Int}, relG m.a (fun t => t ∈ m.e) u v s → relP m u v s
  | [], [], s, hr => hr
  | i :: u, o :: v, s, ⟨a, ha, h1, h2, h3, hr⟩ => ⟨a, ha, h1, h2, h3, relG_rel hr⟩
  | [], _ :: _, _, h => h.elim
  | _ :: _, [], _, h => h.elim
structure ChainOk (ar : List Arc) (d : Dbl) (j : Nat) (c : List Lst) : Prop where
  u : relG ar (fun s => s = d.1) (c.reverse.map Lst.i) (c.reverse.map Lst.u) 0
  v : relG ar (fun s => s = d.2.1) (c.reverse.map Lst.i) (c.reverse.map Lst.v) 0
  ne : d.2.2 = true → c.reverse.map Lst.u ≠ c.reverse.map Lst.v
  len : c.length ≤ j
  from_ : ∀ l ∈ c, (∃ x ∈ ar, l.i = x.i ∧ l.u = x.o) ∧ ∃ y ∈ ar, l.v = y.o
theorem chain_ok {n : Nat} {ar : List Arc} {q : Que} (h : QOk n ar q) : ∀ (j : Nat) (p : Dbl × Lst) (f : Nat), q[j]? = some p → j < f → ChainOk ar p.1 j (chain q f p.1) := by
  intro j
  induction j using Nat.strongRecOn with
  | ind j ih =>
    intro p f hp hf
    obtain ⟨f, rfl⟩ : ∃ f', f = f' + 1 := ⟨f - 1, by omega⟩
    rw [chain, h.find hp]
    rcases Nat.eq_zero_or_pos j with rfl | hj
    · have h0 := h.h0
      rw [hp] at h0
      injection h0 with h0
      subst h0
      exact ⟨rfl, rfl, fun h => absurd h (by decide), by simp [first0], fun l hl => by simp [first0] at hl⟩
    · obtain ⟨h1, i, p', hi, hq, hfr, x, hx, y, hy, hxf, hyf, hxi, hyi, hxo, hyo, hd⟩ := h.ch j p hp hj
      have hr := ih i hi p' f hq (by omega)
      rw [h1]
      simp only [Bool.false_eq_true, if_false]
      rw [← hfr]
      rw [← hfr] at hxf hyf hd
      generalize chain q f p'.1 = c at *
      refine ⟨?_, ?_, ?_, ?_, ?_⟩
      · rw [List.reverse_cons, List.map_append, List.map_append]
        exact relG_snoc (relG_mono (fun s hs => ⟨x, hx, by rw [hxf, hs], hxi, hxo, by rw [hd]; rfl⟩) hr.u)
      · rw [List.reverse_cons, List.map_append, List.map_append]
        exact relG_snoc (relG_mono (fun s hs => ⟨y, hy, by rw [hyf, hs], hyi, hyo, by rw [hd]; rfl⟩) hr.v)
      · intro hdt he
        rw [List.reverse_cons, List.map_append, List.map_append] at he
        obtain ⟨he1, he2⟩ := List.append_inj he (by simp)
        rw [hd] at hdt
        simp only [nextD, Bool.or_eq_true, bne_iff_ne, ne_eq] at hdt
        rcases hdt with hdt | hdt
        · exact hr.ne hdt he1
        · apply hdt
          rw [hxo, hyo]
          simpa using he2
      · have := hr.len
        simp only [List.length_cons]; omega
      · intro l hl
        rcases List.mem_cons.1 hl with rfl | hl
        · exact ⟨⟨x, hx, hxi.symm, hxo.symm⟩, y, hy, hyo.symm⟩
        · exact hr.from_ l hl
theorem bfs_some {m : Mac} {n : Nat} (h : MacIn m n) : ∀ (f i : Nat) (q : Que) (d : Dbl) (q' : Que), QOk n m.a q → bfs m f i q = some (d, q') → QOk n m.a q' ∧ ∃ j, j < q'.length ∧ dAt q' j = d ∧ goalD m.e d = true
  | 0, i, q, d, q', _, he => by rw [bfs] at he; cases he
  | f + 1, i, q, d, q', hq, he => by
    rw [bfs] at he
    split at he
    · rename_i hi
      split at he
      · rename_i hg
        injection he with he
        injection he with h1 h2
        subst h1 h2
        exact ⟨hq, i, hi, rfl, hg⟩
      · exact bfs_some h f (i + 1) _ d q' (QOk.stepD h.arcs m.a q (fun _ h => h) hq (dAt_mem hi)) he
    · cases he
theorem sndB_of {l : List Int} (h : ∀ x ∈ l, 0 ≤ x ∧ x ≤ 5) : sndB l = true := by
  unfold sndB
  refine allB_true fun j hj => ?_
  have := h l[j] (List.getElem_mem hj)
  rw [List.getElem?_eq_getElem hj]
  show inB l[j] 0 5 = true
  unfold inB
  simp; omega
theorem wordK_of {l : List Int} (h : ∀ x ∈ l, 0 ≤ x ∧ x ≤ 5) (hl : l.length ≤ 200) : wordK 200 l = 0 := by
  unfold wordK
  rw [if_neg (by omega), if_pos (sndB_of h)]
theorem two_ok {m : Mac} (h : MacOk m) {d : Dbl} {q : Que} (he : bfsM m = some (d, q)) :
    checkTwoK m (((chain q 200 d).map Lst.i).reverse) (((chain q 200 d).map Lst.u).reverse) (((chain q 200 d).map Lst.v).reverse) = if validM m = 0 then 0 else validM m := by
  obtain ⟨hq, j, hj, hd, hg⟩ := bfs_some h.in_ 200 0 begin0 d q (QOk.begin m.a h.in_.n1) he
  have hp : q[j]? = some q[j] := List.getElem?_eq_getElem hj
  have hpd : (q[j]).1 = d := by rw [← hd]; unfold dAt; rw [hp]; rfl
  have hlen := hq.len h.in_.n9
  have hc := chain_ok hq j q[j] 200 hp (by omega)
  rw [hpd] at hc
  have hdi := hq.in_ q[j] (List.getElem_mem hj)
  rw [hpd] at hdi
  generalize chain q 200 d = c at *
  rw [← List.map_reverse, ← List.map_reverse, ← List.map_reverse]
  unfold goalD at hg
  rw [Bool.and_eq_true, Bool.and_eq_true, hasB_eq, hasB_eq] at hg
  have hru : relP m (c.reverse.map Lst.i) (c.reverse.map Lst.u) 0 := relG_rel (relG_mono (fun s hs => by rw [hs]; simpa using hg.2.1) hc.u)
  have hrv : relP m (c.reverse.map Lst.i) (c.reverse.map Lst.v) 0 := relG_rel (relG_mono (fun s hs => by rw [hs]; simpa using hg.2.2) hc.v)
  have hne := hc.ne hg.1
  have hl := hc.len
  have hin : ∀ l ∈ c, (0 ≤ l.i ∧ l.i ≤ 5) ∧ (0 ≤ l.u ∧ l.u ≤ 5) ∧ (0 ≤ l.v ∧ l.v ≤ 5) := by
    intro l hl
    obtain ⟨⟨x, hx, h1, h2⟩, y, hy, h3⟩ := hc.from_ l hl
    have hxm := h.mem hx
    have hym := h.mem hy
    rw [h1, h2, h3]
    exact ⟨hxm.2.2.1, hxm.2.2.2, hym.2.2.2⟩
  have w1 : wordK 200 (c.reverse.map Lst.i) = 0 := wordK_of (by intro x hx; obtain ⟨l, hl, rfl⟩ := List.mem_map.1 hx; exact (hin l (by simpa using hl)).1) (by simp; omega)
  have w2 : wordK 200 (c.reverse.map Lst.u) = 0 := wordK_of (by intro x hx; obtain ⟨l, hl, rfl⟩ := List.mem_map.1 hx; exact (hin l (by simpa using hl)).2.1) (by simp; omega)
  have w3 : wordK 200 (c.reverse.map Lst.v) = 0 := wordK_of (by intro x hx; obtain ⟨l, hl, rfl⟩ := List.mem_map.1 hx; exact (hin l (by simpa using hl)).2.2) (by simp; omega)
  have hs : sameIntsB (c.reverse.map Lst.u) (c.reverse.map Lst.v) = false := by
    rw [Bool.eq_false_iff]
    intro hs
    rw [sameIntsB_iff] at hs
    exact hne (by simpa using hs)
  have b1 : longs [c.reverse.map Lst.i, c.reverse.map Lst.u, c.reverse.map Lst.v] = false := by
    unfold longs
    simp; omega
  have b2 : bads [c.reverse.map Lst.i, c.reverse.map Lst.u, c.reverse.map Lst.v] = false := by
    unfold bads
    rw [List.any_eq_false]
    intro x hx
    simp only [List.mem_cons, List.not_mem_nil, or_false] at hx
    rcases hx with rfl | rfl | rfl
    · rw [w1]; decide
    · rw [w2]; decide
    · rw [w3]; decide
  have b3 : badTwo m (c.reverse.map Lst.i) (c.reverse.map Lst.u) (c.reverse.map Lst.v) = false := by
    unfold badTwo relB
    rw [hs, (relN_iff h.in_).2 hru, (relN_iff h.in_).2 hrv]; rfl
  unfold checkTwoK
  rw [b1, b2, b3]
  rfl
end Go.Proofs.Ytpbflkbelhlogaa
/- The search finds a word with two images if there is one: plain. -/
namespace Go.Proofs.Ytpbflkbelhlogaa
open Go.RowKit Go.Shelf
set_option linter.unusedVariables false

theorem stepY_mem {d : Dbl} {x : Arc} {q : Que} {y : Arc} (hf : fitD d x y = true) : nextD d x y ∈ (stepY d x q y).map Prod.fst := by
  unfold stepY
  rw [if_pos hf]
  split
  · rename_i h; exact hasD_iff.1 h
  · simp
theorem stepX_mem {d : Dbl} {x : Arc} : ∀ (br : List Arc) (q : Que) (y : Arc), y ∈ br → fitD d x y = true → nextD d x y ∈ (br.foldl (stepY d x) q).map Prod.fst
  | [], q, y, hy, _ => by simp at hy
  | z :: br, q, y, hy, hf => by
    rw [List.foldl_cons]
    rcases List.mem_cons.1 hy with rfl | hy
    · exact mem_pre (stepX_pre d x br _) (stepY_mem hf)
    · exact stepX_mem br _ y hy hf
theorem stepD_mem {ar : List Arc} {d : Dbl} : ∀ (br : List Arc) (q : Que) (x y : Arc), x ∈ br → y ∈ ar → fitD d x y = true → nextD d x y ∈ (br.foldl (stepX ar d) q).map Prod.fst
  | [], q, x, y, hx, _, _ => by simp at hx
  | z :: br, q, x, y, hx, hy, hf => by
    rw [List.foldl_cons]
    rcases List.mem_cons.1 hx with rfl | hx
    · exact mem_pre (stepD_pre ar d br _) (stepX_mem ar q y hy hf)
    · exact stepD_mem br _ x y hx hy hf
/-- nothing is left to be found from what is known -/
def Closed (m : Mac) (q : Que) : Prop := ∀ d ∈ q.map Prod.fst, goalD m.e d = false ∧ ∀ x ∈ m.a, ∀ y ∈ m.a, fitD d x y = true → nextD d x y ∈ q.map Prod.fst
theorem bfs_none {m : Mac} {n : Nat} (h : MacIn m n) : ∀ (f i : Nat) (q : Que), QOk n m.a q → 163 ≤ f + i →
    (∀ j, j < i → j < q.length → goalD m.e (dAt q j) = false ∧ ∀ x ∈ m.a, ∀ y ∈ m.a, fitD (dAt q j) x y = true → nextD (dAt q j) x y ∈ q.map Prod.fst) → bfs m f i q = none → ∃ q', q <+: q' ∧ Closed m q'
  | f, i, q, hq, hfi, hinv, he => by
    have hlen := hq.len h.n9
    by_cases hi : i < q.length
    · obtain ⟨f, rfl⟩ : ∃ f', f = f' + 1 := ⟨f - 1, by omega⟩
      rw [bfs, if_pos hi] at he
      split at he
      · cases he
      · rename_i hg
        have hg : goalD m.e (dAt q i) = false := by simpa using hg
        have hpre := stepD_pre m.a (dAt q i) m.a q
        have hpre : q <+: stepD m.a q (dAt q i) := hpre
        obtain ⟨q', h1, h2⟩ := bfs_none h f (i + 1) (stepD m.a q (dAt q i)) (QOk.stepD h.arcs m.a q (fun _ h => h) hq (dAt_mem hi)) (by omega) (fun j hj hjl => by
          rcases Nat.lt_or_ge j i with hji | hji
          · have hjq : j < q.length := by omega
            obtain ⟨h3, h4⟩ := hinv j hji hjq
            rw [dAt_pre hpre hjq]
            exact ⟨h3, fun x hx y hy hf => mem_pre hpre (h4 x hx y hy hf)⟩
          · obtain rfl : j = i := by omega
            rw [dAt_pre hpre hi]
            exact ⟨hg, fun x hx y hy hf => stepD_mem m.a q x y hx hy hf⟩) he
        exact ⟨q', hpre.trans h1, h2⟩
    · refine ⟨q, List.prefix_refl _, fun d hd => ?_⟩
      obtain ⟨p, hp, rfl⟩ := List.mem_map.1 hd
      obtain ⟨j, hj, rfl⟩ := List.mem_iff_getElem.1 hp
      have := hinv j (by omega) hj
      have hdj : dAt q j = (q[j]).1 := by unfold dAt; rw [List.getElem?_eq_getElem hj]; rfl
      rw [hdj] at this
      exact this
theorem closed_none {m : Mac} {q : Que} (hc : Closed m q) : ∀ (w u v : List Int) (s t : Int) (b : Bool), (s, t, b) ∈ q.map Prod.fst → relP m w u s → relP m w v t → b = true ∨ u ≠ v → False
  | [], [], [], s, t, b, hd, h1, h2, h3 => by
    have hb : b = true := by rcases h3 with h | h; exact h; exact absurd rfl h
    subst hb
    have hg := (hc _ hd).1
    have h1 : s ∈ m.e := h1
    have h2 : t ∈ m.e := h2
    have : goalD m.e (s, t, true) = true := by
      unfold goalD
      rw [hasB_eq, hasB_eq]
      simp [h1, h2]
    rw [this] at hg; cases hg
  | i :: w, o :: u, o' :: v, s, t, b, hd, ⟨x, hx, hxf, hxi, hxo, hr⟩, ⟨y, hy, hyf, hyi, hyo, hr'⟩, h3 => by
    have hf : fitD (s, t, b) x y = true := by simp [fitD, hxf, hyf, hxi, hyi]
    have hn := (hc _ hd).2 x hx y hy hf
    refine closed_none hc w u v x.t y.t _ hn hr hr' ?_
    by_cases hoo : o = o'
    · subst hoo
      rcases h3 with h | h
      · left; simp [h]
      · right; exact fun e => h (by rw [e])
    · left
      have : x.o ≠ y.o := by rw [hxo, hyo]; exact hoo
      simp [this]
  | [], [], _ :: _, _, _, _, _, _, h, _ => h.elim
  | [], _ :: _, _, _, _, _, _, h, _, _ => h.elim
  | _ :: _, [], _, _, _, _, _, h, _, _ => h.elim
  | _ :: _, _ :: _, [], _, _, _, _, _, h, _ => h.elim
theorem check_fun {m : Mac} {w u v : List Int} (h : checkTwoK m w u v = 0) : validM m = 0 ∧ isFunB m = false := by
  unfold checkTwoK at h
  split at h
  · rename_i h0
    refine ⟨h0, ?_⟩
    split at h
    · omega
    · split at h
      · omega
      · split at h
        · omega
        · rename_i hb
          have hm := validM_mac h0
          unfold badTwo at hb
          have hb : (sameIntsB u v = false ∧ relB m w u = true) ∧ relB m w v = true := by simpa using hb
          have h1 := (relN_iff hm.in_).1 hb.1.2
          have h2 := (relN_iff hm.in_).1 hb.2
          have hne : u ≠ v := fun e => by
            have := hb.1.1
            rw [e, sameIntsB_iff] at this
            simp at this
          unfold isFunB
          rw [if_pos h0]
          cases he : bfsM m with
          | some p => rfl
          | none =>
            exfalso
            obtain ⟨q', hp, hc⟩ := bfs_none hm.in_ 200 0 begin0 (QOk.begin m.a hm.in_.n1) (by omega) (fun j hj => by omega) he
            exact closed_none hc w u v 0 0 false (mem_pre hp (by simp [begin0])) h1 h2 (.inr hne)
  · rename_i h0; exact absurd h h0
end Go.Proofs.Ytpbflkbelhlogaa
/- What a run reads and writes: both packages. -/
namespace Go.Proofs.Ytpbflkbelhlogaa
open Go.RowKit Go.Shelf
set_option linter.unusedVariables false

/-! ## plain -/
def rAt (ar : List Arc) (run : List Int) : Nat → Int
  | 0 => 0
  | k + 1 => (arcA ar (run[k]?.getD 0).toNat).t
def rIn (ar : List Arc) (run : List Int) (k : Nat) : List Int := (run.take k).map fun x => (arcA ar x.toNat).i
def rOut (ar : List Arc) (run : List Int) (k : Nat) : List Int := (run.take k).map fun x => (arcA ar x.toNat).o
def inRun (m : Mac) (run : List Int) (k : Nat) : Bool := inB (run[k]?.getD 0) 0 ((m.a.length : Int) - 1)
def onRun (m : Mac) (run : List Int) (k : Nat) : Bool := (arcA m.a (run[k]?.getD 0).toNat).f == rAt m.a run k
def runK (m : Mac) (run : List Int) : Int := if validM m = 0 then (if 200 < (run.length : Int) then 3 else if allB run.length (inRun m run) then (if allB run.length (onRun m run) then (if hasB m.e (rAt m.a run run.length) then 0 else 7) else 7) else 4) else validM m
def runI (m : Mac) (run : List Int) : List Int := if runK m run = 0 then rIn m.a run run.length else []
def runO (m : Mac) (run : List Int) : List Int := if runK m run = 0 then rOut m.a run run.length else []
theorem rIn_next {ar : List Arc} {run : List Int} {k : Nat} (h : k < run.length) : rIn ar run (k + 1) = rIn ar run k ++ [(arcA ar (run[k]?.getD 0).toNat).i] := by
  rw [rIn, take_next h 0, List.map_append]; rfl
theorem rOut_next {ar : List Arc} {run : List Int} {k : Nat} (h : k < run.length) : rOut ar run (k + 1) = rOut ar run k ++ [(arcA ar (run[k]?.getD 0).toNat).o] := by
  rw [rOut, take_next h 0, List.map_append]; rfl
theorem rIn_len (ar : List Arc) (run : List Int) (k : Nat) : (rIn ar run k).length ≤ run.length := by simp [rIn]; omega
theorem rOut_len (ar : List Arc) (run : List Int) (k : Nat) : (rOut ar run k).length ≤ run.length := by simp [rOut]; omega
theorem rAt_in {m : Mac} {n : Nat} (h : MacIn m n) {run : List Int} (hr : ∀ j, j < run.length → inRun m run j = true) : ∀ k, k ≤ run.length → 0 ≤ rAt m.a run k ∧ rAt m.a run k < n
  | 0, _ => ⟨by simp [rAt], by have := h.n1; simp [rAt]; omega⟩
  | k + 1, hk => by
    have h1 := inB_bd (hr k (by omega))
    have := (h.arc (run[k]?.getD 0).toNat (by omega))
    rw [rAt]; omega
def RRun (m : Mac) (run : List Int) (w : World) (e : Ending) (w' : World) : Prop := ∃ v1 v2, e = .returned (.tuple #[v1, v2, .int .i64 (runK m run)]) ∧ Ints w' v1 (runI m run) ∧ Ints w' v2 (runO m run) ∧ Ext w w'
theorem RRun.bad {m : Mac} {run : List Int} {w w' : World} {k : Int} (h : runK m run = k) (hk : k ≠ 0) (hx : Ext w w') : RRun m run w (.returned (.tuple #[.slice none 0 0, .slice none 0 0, .int .i64 k])) w' := by
  have h0 : runK m run ≠ 0 := by rw [h]; exact hk
  refine ⟨_, _, by rw [h], ?_, ?_, hx⟩
  · rw [runI, if_neg h0]; exact ints_nil_c _
  · rw [runO, if_neg h0]; exact ints_nil_c _
theorem RRun.good {m : Mac} {run : List Int} {w w' : World} {v1 v2 : Value} (h : runK m run = 0) (h1 : Ints w' v1 (rIn m.a run run.length)) (h2 : Ints w' v2 (rOut m.a run run.length)) (hx : Ext w w') : RRun m run w (.returned (.tuple #[v1, v2, .int .i64 0])) w' := by
  refine ⟨_, _, by rw [h], ?_, ?_, hx⟩
  · rw [runI, if_pos h]; exact h1
  · rw [runO, if_pos h]; exact h2

/-! ## two lists that grow, and an arc -/
structure TS (wA w : World) (b : Nat) (lc : List Value) (rs : List (Value × List Int)) (cs : List (Nat × Int)) : Prop where
  ext : Ext wA w
  blk : Blk w b 50 lc
  set : OSet w wA.heap.size rs cs
section
variable {wA w w' : World} {b : Nat} {lc : List Value} {rs : List (Value × List Int)} {cs : List (Nat × Int)}
theorem TS.later (h : TS wA w b lc rs cs) (hx : Ext w w') : TS wA w' b lc rs cs := ⟨h.ext.trans hx, h.blk.ext hx, h.set.later hx⟩
theorem TS.drop (h : TS wA w b lc rs cs) : TS wA w b lc rs [] := ⟨h.ext, h.blk, h.set.drop⟩
theorem TS.build (h : TS wA w b lc rs cs) (x : Int) : TS wA (w.alloc (.cells #[.int .i64 x] 3)) b lc rs ((w.heap.size, x) :: cs) :=
  ⟨h.ext.trans (Ext.alloc _ _), h.blk.ext (Ext.alloc _ _), h.set.build x⟩
theorem TS.app {pre post : List (Value × List Int)} {v v' : Value} {l l' : List Int} (h : TS wA w b lc (pre ++ (v, l) :: post) cs) (hset : OSet w' wA.heap.size (pre ++ (v', l') :: post) cs) (ho : OInts 3 w wA.heap.size v l) (hg : w.grownBy w' v.ownBlock) : TS wA w' b lc (pre ++ (v', l') :: post) cs :=
  ⟨h.ext.grown hg h.ext.size (fun k hk => by obtain ⟨cur, _, h2⟩ := ownBlock_cells ho k hk; exact h2), h.blk.kept (by decide) ho hg, hset⟩
end
def KeepA (b : Nat) (lc : List Value) (w : World) : Prop := Blk w b 50 lc
theorem OSet.nil2 (w : World) (B : Nat) : OSet w B [(.slice none 0 0, []), (.slice none 0 0, [])] [] :=
  ⟨fun p hp => by simp at hp; subst hp; exact OInts.nil _ _ _, by simp [Apart, Value.ownBlock], fun c hc => by simp at hc⟩

set_option maxHeartbeats 4000000 in
set_option maxRecDepth 100000 in
theorem CheckRun_c (av ev rv : Value) (m : Mac) (run : List Int) (w : World) (h : MacR w av ev m) (hr : Ints w rv run) : Calls Try.prog 39 #[.agg #[.int .i64 m.s, av, ev], rv] w (RRun m run w) := by
  obtain ⟨wA, hwA⟩ : ∃ wA, wA = w.alloc (.cells #[.int .i64 m.s, av, ev] 25) := ⟨_, rfl⟩
  have hE0 : Ext w wA := by rw [hwA]; exact Ext.alloc _ _
  have k0 : ∀ W, Ext wA W → W.cell? ⟨w.heap.size, 0, none⟩ = some (.int .i64 m.s) := by rw [hwA]; exact kept_alloc w _ _ rfl
  have k1 : ∀ W, Ext wA W → W.cell? ⟨w.heap.size, 1, none⟩ = some av := by rw [hwA]; exact kept_alloc w _ _ rfl
  have k2 : ∀ W, Ext wA W → W.cell? ⟨w.heap.size, 2, none⟩ = some ev := by rw [hwA]; exact kept_alloc w _ _ rfl
  have H0 : Ext wA wA := Ext.refl _
  have HV := Lib.hid (Validate_c av ev m wA (h.ext hE0))
  have HR := Lib.hid (h.ext hE0)
  obtain ⟨aa, ca, rfl, hla, hma, HA⟩ := (h.ext hE0).a.open_
  obtain ⟨ae, ce, rfl, hle, hme, HE⟩ := (h.ext hE0).e.open_
  obtain ⟨au, cu, rfl, hlu, hmu, HU⟩ := (hr.ext hE0).open_
  have HW := Lib.hid hwA; clear hwA h hr
  have hw1 : IntKind.i64.wrap ((m.a.length : Int) - 1) = (m.a.length : Int) - 1 := IntWalk.i64_in _ (by omega)
  by_cases h0 : validM m = 0
  · have HMI := Lib.hid (validM_mac h0).in_
    have HRK : Hid (runK m run = if 200 < (run.length : Int) then 3 else if allB run.length (inRun m run) then (if allB run.length (onRun m run) then (if hasB m.e (rAt m.a run run.length) then 0 else 7) else 7) else 4) := Lib.hid (by rw [runK, if_pos h0])
    rw [h0] at HV
    clear h0
    by_cases h2 : 200 < (run.length : Int)
    · go_enter Try.func39, Try.ntmps39
      go_wp2_with fail
      rw [← HW.out]
      refine HV.out.mono ?_; rintro e w1 ⟨rfl, hx1⟩
      go_wp2_with fail
      go_ret3
      exact RRun.bad (by rw [HRK.out, if_pos h2]) (by decide) (hE0.trans hx1)
    · have HRK2 : Hid (runK m run = if allB run.length (inRun m run) then (if allB run.length (onRun m run) then (if hasB m.e (rAt m.a run run.length) then 0 else 7) else 7) else 4) := by rw [HRK.out, if_neg h2]; exact Lib.hid rfl
      clear HRK
      go_enter Try.func39, Try.ntmps39
      go_wp2_with fail
      rw [← HW.out]
      refine HV.out.mono ?_; rintro e w1 ⟨rfl, hx1⟩
      go_wp2_with fail
      go_loopg [26] run.length (fun z i wr => ∃ k : Nat, k ≤ run.length ∧ run.length ≤ k + z ∧ i = .int .i64 k ∧ Ext wA wr ∧ Hid (∀ j, j < k → inRun m run j = true))
      case atStart => exact ⟨0, by omega, by omega, rfl, hx1, Lib.hid (fun j hj => by omega)⟩
      case round =>
        clear hx1
        obtain ⟨k, hk, hkz, rfl, hEr, hall⟩ := hrel
        by_cases hlt : k < run.length
        · obtain ⟨bu, ou, rfl, hcu⟩ := HU.out k hlt
          replace hcu := hEr.keep hcu
          have HIR : Hid (inRun m run k = inB (run[k]?.getD 0) 0 ((m.a.length : Int) - 1)) := Lib.hid rfl
          have HNX := Lib.hid (fun h => range_step (f := inRun m run) hall.out h)
          have HBAD := Lib.hid (fun h => allB_false (f := inRun m run) hlt h)
          generalize run[k]?.getD 0 = x at *
          have HWI := Lib.hid (within_c x 0 ((m.a.length : Int) - 1) wr)
          cases hb : inB x 0 ((m.a.length : Int) - 1)
          · rw [hb] at HWI HIR
            clear hb
            have HKF : Hid (runK m run = 4) := by rw [HRK2.out, HBAD.out HIR.out]; exact Lib.hid rfl
            go_wp2_with fail
            refine HWI.out.mono ?_; rintro e w4 ⟨rfl, rfl⟩
            go_wp2_with fail
            go_ret3
            exact RRun.bad HKF.out (by decide) (hE0.trans hEr)
          · rw [hb] at HWI HIR
            clear hb
            go_wp2_with fail
            refine HWI.out.mono ?_; rintro e w4 ⟨rfl, rfl⟩
            go_wp2_with fail
            go_roundg (gk-1)
            case measure => omega
            case rel => exact ⟨k+1, by omega, by omega, by go_num, hEr, Lib.hid (HNX.out HIR.out)⟩
        · have HRK3 : Hid (runK m run = if allB run.length (onRun m run) then (if hasB m.e (rAt m.a run run.length) then 0 else 7) else 7) := by rw [HRK2.out, if_pos (allB_true (fun j hj => hall.out j (by omega)))]; exact Lib.hid rfl
          have HALL : Hid (∀ j, j < run.length → inRun m run j = true) := Lib.hid (fun j hj => hall.out j (by omega))
          have HAT := Lib.hid (rAt_in HMI.out HALL.out)
          clear hall
          obtain ⟨W0, rfl⟩ : ∃ W : World, W = wr := ⟨_, rfl⟩
          go_wp2_with fail
          clear hlt hk hkz
          go_loopg [40, 10, 11, 12] run.length (fun z i v1 v2 a wr => ∃ (k : Nat) (u1 u2 : Value), k ≤ run.length ∧ run.length ≤ k + z ∧ i = .int .i64 k ∧ a = .int .i64 (rAt m.a run k) ∧ u1 = v1 ∧ u2 = v2 ∧ Ext wA wr ∧ OSet wr wA.heap.size [(u1, rIn m.a run k), (u2, rOut m.a run k)] [] ∧ Hid (∀ j, j < k → onRun m run j = true))
          case atStart => exact ⟨0, _, _, by omega, by omega, rfl, rfl, rfl, rfl, hEr, OSet.nil2 _ _, Lib.hid (fun j hj => by omega)⟩
          case round =>
            clear hEr
            obtain ⟨k, v1, v2, hk, hkz, rfl, rfl, rfl, rfl, hEr, hset, hall⟩ := hrel
            by_cases hlt : k < run.length
            · obtain ⟨bu, ou, rfl, hcu⟩ := HU.out k hlt
              have hin := inB_bd (HALL.out k hlt)
              have HON : Hid (onRun m run k = ((arcA m.a (run[k]?.getD 0).toNat).f == rAt m.a run k)) := Lib.hid rfl
              have HNX := Lib.hid (fun h => range_step (f := onRun m run) hall.out h)
              have HBAD := Lib.hid (fun h => allB_false (f := onRun m run) hlt h)
              have HI := Lib.hid (rIn_next (ar := m.a) hlt)
              have HO := Lib.hid (rOut_next (ar := m.a) hlt)
              have HA2 : Hid (rAt m.a run (k + 1) = (arcA m.a (run[k]?.getD 0).toNat).t) := Lib.hid rfl
              have hil := rIn_len m.a run k
              have hol := rOut_len m.a run k
              generalize rAt m.a run k = at1 at *
              generalize rIn m.a run k = li at *
              generalize rOut m.a run k = lo at *
              generalize run[k]?.getD 0 = x at *
              obtain ⟨p, rfl⟩ : ∃ p : Nat, x = p := ⟨x.toNat, by omega⟩
              have hp : p < m.a.length := by omega
              clear hin
              rw [Int.toNat_natCast] at HON HI HO HA2
              obtain ⟨ba, oa, rfl, hc0, hc1, hc2, hc3⟩ := HA.out p hp
              generalize arcA m.a p = y at *
              replace hc0 := hEr.keep hc0
              replace hc1 := hEr.keep hc1
              replace hc2 := hEr.keep hc2
              replace hc3 := hEr.keep hc3
              replace hcu := hEr.keep hcu
              obtain ⟨wB, hwB⟩ : ∃ wB, wB = wr.alloc (.cells #[.int .i64 y.f, .int .i64 y.t, .int .i64 y.i, .int .i64 y.o] 50) := ⟨_, rfl⟩
              have hEB : Ext wr wB := by rw [hwB]; exact Ext.alloc _ _
              have hBB : Blk wB wr.heap.size 50 [.int .i64 y.f, .int .i64 y.t, .int .i64 y.i, .int .i64 y.o] := by rw [hwB]; exact Blk.alloc wr _ _
              have hTS : TS wA wB wr.heap.size [.int .i64 y.f, .int .i64 y.t, .int .i64 y.i, .int .i64 y.o] [(v1, li), (v2, lo)] [] := ⟨hEr.trans hEB, hBB, hset.later hEB⟩
              have b0 := hBB.cell (i := 0) rfl
              have b1 := hBB.cell (i := 1) rfl
              have HWB := Lib.hid hwB; clear hwB hset hBB
              have HTS := Lib.hid hTS; clear hTS
              have hgb : True := trivial
              by_cases hf : y.f = at1
              · have hfd : (y.f != at1) = false := by simp [hf]
                have HF : Hid (onRun m run k = true) := by rw [HON.out]; exact Lib.hid (by simp [hf])
                clear hf
                go_upto_region 21 with fail
                rw [← HWB.out]
                clear b0 b1 hc0 hc1 hc2 hc3 hcu
                refine wp_region_free (KeepA wr.heap.size [.int .i64 y.f, .int .i64 y.t, .int .i64 y.i, .int .i64 y.o]) (fun _ => True) [] [0, 1, 2, 5, 6, 7] 6 (by kernel_rfl) (by kernel_rfl) (by intro c a d v w h; cases d <;> exact h) ?_
                have S0 := Lib.hid (HTS.out.later (drawn_ext wB))
                have hd : KeepA wr.heap.size [.int .i64 y.f, .int .i64 y.t, .int .i64 y.i, .int .i64 y.o] { wB with drawn := wB.drawn + 1 } := S0.out.blk
                have q3 : ∀ s : InC (KeepA wr.heap.size [.int .i64 y.f, .int .i64 y.t, .int .i64 y.i, .int .i64 y.o]), s.w.cell? ⟨wr.heap.size, 2, none⟩ = some (.int .i64 y.i) := fun s => Blk.cell (i := 2) s.h rfl
                have q4 : ∀ s : InC (KeepA wr.heap.size [.int .i64 y.f, .int .i64 y.t, .int .i64 y.i, .int .i64 y.o]), s.w.cell? ⟨wr.heap.size, 3, none⟩ = some (.int .i64 y.o) := fun s => Blk.cell (i := 3) s.h rfl
                generalize { wB with drawn := wB.drawn + 1 } = W0 at *
                iterate 6 (refine wpPeek_look rfl ‹_› (fun K hK => ?_); go_simp; first | (refine hK _ ?_; clear hK K) | (refine ⟨_, fun _ => rfl, hK _ ?_⟩; clear hK K))
                clear hd q3 q4
                refine wpPeek_nilK ?_
                refine wpAnyE_each (i := 3) (is := [8]) (by kernel_rfl) ⟨?_, ?_, trivial⟩
                · refine wpOp_of_list rfl rfl (fun K hK => ?_)
                  go_wp2_with fail
                  refine ⟨KeepE.of (fun h => Blk.ext h (Ext.alloc _ _)) (fun _ => trivial), ?_⟩
                  have S1 := Lib.hid (S0.out.build y.i)
                  generalize hW1 : W0.alloc (.cells #[.int .i64 y.i] 3) = W1 at *
                  clear hW1
                  refine wpAnyE_each (i := 4) (is := [8]) (by kernel_rfl) ⟨?_, ?_, trivial⟩
                  · refine wpOp_of_list rfl rfl (fun K hK => ?_)
                    refine wpList_appendSet [] _ elInts rfl _ _ rfl rfl rfl S1.out.set List.mem_cons_self S1.out.ext.size (by omega) ?_
                    intro v4 W2 hs4 ho4 hg4 hb4
                    have S2 := Lib.hid (TS.app (pre := []) S1.out hs4 ho4 hg4)
                    clear hs4 ho4 hg4 hb4
                    go_wp2_with fail
                    refine ⟨KeepE.of (fun _ => S2.out.blk) (fun _ => trivial), ?_⟩
                    refine wpAnyE_each (i := 8) (is := []) (by kernel_rfl) ⟨?_, trivial⟩
                    · refine wpOp_of_list rfl rfl (fun K hK => ?_)
                      go_wp2_with fail
                      refine ⟨KeepE.of (fun h => Blk.ext h (Ext.alloc _ _)) (fun _ => trivial), ?_⟩
                      have S3 := Lib.hid (S2.out.build y.o)
                      generalize hW3 : W2.alloc (.cells #[.int .i64 y.o] 3) = W3 at *
                      clear hW3
                      refine wpAnyE_each (i := 9) (is := []) (by kernel_rfl) ⟨?_, trivial⟩
                      · refine wpOp_of_list rfl rfl (fun K hK => ?_)
                        refine wpList_appendSet [_] _ elInts rfl _ _ rfl rfl rfl S3.out.set List.mem_cons_self S3.out.ext.size (by omega) ?_
                        intro v9 W4 hs9 ho9 hg9 hb9
                        have S4 := Lib.hid (TS.app (pre := [_]) S3.out hs9 ho9 hg9)
                        clear hs9 ho9 hg9 hb9
                        go_wp2_with fail
                        refine ⟨KeepE.of (fun _ => S4.out.blk) (fun _ => trivial), ?_⟩
                        refine wpAnyE_each (i := 10) (is := []) (by kernel_rfl) ⟨?_, trivial⟩
                        refine wpOp_of_list rfl rfl (fun K hK => ?_)
                        go_wp2_with fail
                        refine ⟨KeepE.refl, ?_⟩
                        refine wpAnyE_each (i := 11) (is := []) (by kernel_rfl) ⟨?_, trivial⟩
                        refine wpOp_of_list rfl rfl (fun K hK => ?_)
                        go_wp2_with fail
                        refine ⟨KeepE.refl, ?_⟩
                        refine wpAnyE_done (by kernel_rfl) ?_
                        go_wp2_with fail
                        go_roundg (gk-1)
                        case measure => omega
                        case rel => exact ⟨k+1, _, _, by omega, by omega, by go_num, by rw [HA2.out], rfl, rfl, S4.out.ext, by rw [HI.out, HO.out]; exact S4.out.drop.set, Lib.hid (HNX.out HF.out)⟩
                  · refine wpOp_of_list rfl rfl (fun K hK => ?_)
                    go_wp2_with fail
                    refine ⟨KeepE.of (fun h => Blk.ext h (Ext.alloc _ _)) (fun _ => trivial), ?_⟩
                    have S2 := Lib.hid (S1.out.build y.o)
                    generalize hW2 : W1.alloc (.cells #[.int .i64 y.o] 3) = W2 at *
                    clear hW2
                    refine wpAnyE_each (i := 4) (is := []) (by kernel_rfl) ⟨?_, trivial⟩
                    · refine wpOp_of_list rfl rfl (fun K hK => ?_)
                      refine wpList_appendSet [] _ elInts rfl _ _ rfl rfl rfl S2.out.set (List.mem_cons_of_mem _ List.mem_cons_self) S2.out.ext.size (by omega) ?_
                      intro v4 W3 hs4 ho4 hg4 hb4
                      have S3 := Lib.hid (TS.app (pre := []) S2.out hs4 ho4 hg4)
                      clear hs4 ho4 hg4 hb4
                      go_wp2_with fail
                      refine ⟨KeepE.of (fun _ => S3.out.blk) (fun _ => trivial), ?_⟩
                      refine wpAnyE_each (i := 9) (is := []) (by kernel_rfl) ⟨?_, trivial⟩
                      · refine wpOp_of_list rfl rfl (fun K hK => ?_)
                        refine wpList_appendSet [_] _ elInts rfl _ _ rfl rfl rfl S3.out.set List.mem_cons_self S3.out.ext.size (by omega) ?_
                        intro v9 W4 hs9 ho9 hg9 hb9
                        have S4 := Lib.hid (TS.app (pre := [_]) S3.out hs9 ho9 hg9)
                        clear hs9 ho9 hg9 hb9
                        go_wp2_with fail
                        refine ⟨KeepE.of (fun _ => S4.out.blk) (fun _ => trivial), ?_⟩
                        refine wpAnyE_each (i := 10) (is := []) (by kernel_rfl) ⟨?_, trivial⟩
                        refine wpOp_of_list rfl rfl (fun K hK => ?_)
                        go_wp2_with fail
                        refine ⟨KeepE.refl, ?_⟩
                        refine wpAnyE_each (i := 11) (is := []) (by kernel_rfl) ⟨?_, trivial⟩
                        refine wpOp_of_list rfl rfl (fun K hK => ?_)
                        go_wp2_with fail
                        refine ⟨KeepE.refl, ?_⟩
                        refine wpAnyE_done (by kernel_rfl) ?_
                        go_wp2_with fail
                        go_roundg (gk-1)
                        case measure => omega
                        case rel => exact ⟨k+1, _, _, by omega, by omega, by go_num, by rw [HA2.out], rfl, rfl, S4.out.ext, by rw [HI.out, HO.out]; exact S4.out.drop.set, Lib.hid (HNX.out HF.out)⟩
                · refine wpOp_of_list rfl rfl (fun K hK => ?_)
                  go_wp2_with fail
                  refine ⟨KeepE.of (fun h => Blk.ext h (Ext.alloc _ _)) (fun _ => trivial), ?_⟩
                  have S1 := Lib.hid (S0.out.build y.o)
                  generalize hW1 : W0.alloc (.cells #[.int .i64 y.o] 3) = W1 at *
                  clear hW1
                  refine wpAnyE_each (i := 3) (is := []) (by kernel_rfl) ⟨?_, trivial⟩
                  · refine wpOp_of_list rfl rfl (fun K hK => ?_)
                    go_wp2_with fail
                    refine ⟨KeepE.of (fun h => Blk.ext h (Ext.alloc _ _)) (fun _ => trivial), ?_⟩
                    have S2 := Lib.hid (S1.out.build y.i)
                    generalize hW2 : W1.alloc (.cells #[.int .i64 y.i] 3) = W2 at *
                    clear hW2
                    refine wpAnyE_each (i := 4) (is := []) (by kernel_rfl) ⟨?_, trivial⟩
                    · refine wpOp_of_list rfl rfl (fun K hK => ?_)
                      refine wpList_appendSet [] _ elInts rfl _ _ rfl rfl rfl S2.out.set List.mem_cons_self S2.out.ext.size (by omega) ?_
                      intro v4 W3 hs4 ho4 hg4 hb4
                      have S3 := Lib.hid (TS.app (pre := []) S2.out hs4 ho4 hg4)
                      clear hs4 ho4 hg4 hb4
                      go_wp2_with fail
                      refine ⟨KeepE.of (fun _ => S3.out.blk) (fun _ => trivial), ?_⟩
                      refine wpAnyE_each (i := 9) (is := []) (by kernel_rfl) ⟨?_, trivial⟩
                      · refine wpOp_of_list rfl rfl (fun K hK => ?_)
                        refine wpList_appendSet [_] _ elInts rfl _ _ rfl rfl rfl S3.out.set (List.mem_cons_of_mem _ List.mem_cons_self) S3.out.ext.size (by omega) ?_
                        intro v9 W4 hs9 ho9 hg9 hb9
                        have S4 := Lib.hid (TS.app (pre := [_]) S3.out hs9 ho9 hg9)
                        clear hs9 ho9 hg9 hb9
                        go_wp2_with fail
                        refine ⟨KeepE.of (fun _ => S4.out.blk) (fun _ => trivial), ?_⟩
                        refine wpAnyE_each (i := 10) (is := []) (by kernel_rfl) ⟨?_, trivial⟩
                        refine wpOp_of_list rfl rfl (fun K hK => ?_)
                        go_wp2_with fail
                        refine ⟨KeepE.refl, ?_⟩
                        refine wpAnyE_each (i := 11) (is := []) (by kernel_rfl) ⟨?_, trivial⟩
                        refine wpOp_of_list rfl rfl (fun K hK => ?_)
                        go_wp2_with fail
                        refine ⟨KeepE.refl, ?_⟩
                        refine wpAnyE_done (by kernel_rfl) ?_
                        go_wp2_with fail
                        go_roundg (gk-1)
                        case measure => omega
                        case rel => exact ⟨k+1, _, _, by omega, by omega, by go_num, by rw [HA2.out], rfl, rfl, S4.out.ext, by rw [HI.out, HO.out]; exact S4.out.drop.set, Lib.hid (HNX.out HF.out)⟩
              · have hfd : (y.f != at1) = true := by simp [hf]
                have HF : Hid (onRun m run k = false) := by rw [HON.out]; exact Lib.hid (by simp [hf])
                have HKF : Hid (runK m run = 7) := by rw [HRK3.out, HBAD.out HF.out]; exact Lib.hid rfl
                clear hf
                go_upto_region 18 with fail
                rw [← HWB.out]
                go_wp2_with fail
                go_ret3
                exact RRun.bad HKF.out (by decide) (hE0.trans (hEr.trans hEB))
            · have hku : k = run.length := by omega
              subst hku
              have HRK4 : Hid (runK m run = if hasB m.e (rAt m.a run run.length) then 0 else 7) := by rw [HRK3.out, if_pos (allB_true (fun j hj => hall.out j hj))]; exact Lib.hid rfl
              have HSET := Lib.hid hset; clear hset
              have hat := HAT.out run.length (Nat.le_refl _)
              generalize hst : rAt m.a run run.length = st at *
              clear hst
              have HEC := Lib.hid (ends_c _ _ m st wr (HR.out.ext hEr))
              cases hb : hasB m.e st
              · rw [hb] at HEC HRK4
                clear hb
                go_wp2_with fail
                refine HEC.out.mono ?_; rintro e w5 ⟨rfl, hx5⟩
                have HXF := Lib.hid hx5
                go_wp2_with fail
                go_ret3
                exact RRun.bad (by rw [HRK4.out]; rfl) (by decide) (hE0.trans (hEr.trans HXF.out))
              · rw [hb] at HEC HRK4
                clear hb
                go_wp2_with fail
                refine HEC.out.mono ?_; rintro e w5 ⟨rfl, hx5⟩
                have HXF := Lib.hid hx5
                go_wp2_with fail
                go_ret3
                exact RRun.good (by rw [HRK4.out]; rfl) (HSET.out.rows (_, _) List.mem_cons_self |>.ext HXF.out).ints (HSET.out.rows (_, _) (List.mem_cons_of_mem _ List.mem_cons_self) |>.ext HXF.out).ints (hE0.trans (hEr.trans HXF.out))
  · have HRK : Hid (runK m run = validM m) := Lib.hid (by rw [runK, if_neg h0])
    have hk : (validM m != 0) = true := by simp [h0]
    generalize validM m = k at *
    go_enter Try.func39, Try.ntmps39
    go_wp2_with fail
    rw [← HW.out]
    refine HV.out.mono ?_; rintro e w1 ⟨rfl, hx1⟩
    go_wp2_with fail
    go_ret3
    exact RRun.bad HRK.out h0 (hE0.trans hx1)

set_option maxHeartbeats 4000000 in
set_option maxRecDepth 100000 in
theorem rCheckRun_c (av ev rv : Value) (m : Mac) (run : List Int) (w : World) (h : MacR w av ev m) (hr : Ints w rv run) : Calls Try.prog 40 #[.agg #[.int .i64 m.s, av, ev], rv] w (RRun m run w) := by
  obtain ⟨wA, hwA⟩ : ∃ wA, wA = w.alloc (.cells #[.int .i64 m.s, av, ev] 25) := ⟨_, rfl⟩
  have hE0 : Ext w wA := by rw [hwA]; exact Ext.alloc _ _
  have k0 : ∀ W, Ext wA W → W.cell? ⟨w.heap.size, 0, none⟩ = some (.int .i64 m.s) := by rw [hwA]; exact kept_alloc w _ _ rfl
  have k1 : ∀ W, Ext wA W → W.cell? ⟨w.heap.size, 1, none⟩ = some av := by rw [hwA]; exact kept_alloc w _ _ rfl
  have k2 : ∀ W, Ext wA W → W.cell? ⟨w.heap.size, 2, none⟩ = some ev := by rw [hwA]; exact kept_alloc w _ _ rfl
  have H0 : Ext wA wA := Ext.refl _
  have HV := Lib.hid (rValidate_c av ev m wA (h.ext hE0))
  have HR := Lib.hid (h.ext hE0)
  obtain ⟨aa, ca, rfl, hla, hma, HA⟩ := (h.ext hE0).a.open_
  obtain ⟨ae, ce, rfl, hle, hme, HE⟩ := (h.ext hE0).e.open_
  obtain ⟨au, cu, rfl, hlu, hmu, HU⟩ := (hr.ext hE0).open_
  have HW := Lib.hid hwA; clear hwA h hr
  have hw1 : IntKind.i64.wrap ((m.a.length : Int) - 1) = (m.a.length : Int) - 1 := IntWalk.i64_in _ (by omega)
  by_cases h0 : validM m = 0
  · have HMI := Lib.hid (validM_mac h0).in_
    have HRK : Hid (runK m run = if 200 < (run.length : Int) then 3 else if allB run.length (inRun m run) then (if allB run.length (onRun m run) then (if hasB m.e (rAt m.a run run.length) then 0 else 7) else 7) else 4) := Lib.hid (by rw [runK, if_pos h0])
    rw [h0] at HV
    clear h0
    by_cases h2 : 200 < (run.length : Int)
    · go_enter Try.func40, Try.ntmps40
      go_wp2_with fail
      rw [← HW.out]
      refine HV.out.mono ?_; rintro e w1 ⟨rfl, hx1⟩
      go_wp2_with fail
      go_ret3
      exact RRun.bad (by rw [HRK.out, if_pos h2]) (by decide) (hE0.trans hx1)
    · have HRK2 : Hid (runK m run = if allB run.length (inRun m run) then (if allB run.length (onRun m run) then (if hasB m.e (rAt m.a run run.length) then 0 else 7) else 7) else 4) := by rw [HRK.out, if_neg h2]; exact Lib.hid rfl
      clear HRK
      go_enter Try.func40, Try.ntmps40
      go_wp2_with fail
      rw [← HW.out]
      refine HV.out.mono ?_; rintro e w1 ⟨rfl, hx1⟩
      go_wp2_with fail
      go_loopg [8] run.length (fun z i wr => ∃ k : Nat, k ≤ run.length ∧ run.length ≤ k + z ∧ i = .int .i64 k ∧ Ext wA wr ∧ Hid (∀ j, j < k → inRun m run j = true))
      case atStart => exact ⟨0, by omega, by omega, rfl, hx1, Lib.hid (fun j hj => by omega)⟩
      case round =>
        clear hx1
        obtain ⟨k, hk, hkz, rfl, hEr, hall⟩ := hrel
        by_cases hlt : k < run.length
        · obtain ⟨bu, ou, rfl, hcu⟩ := HU.out k hlt
          replace hcu := hEr.keep hcu
          have HIR : Hid (inRun m run k = inB (run[k]?.getD 0) 0 ((m.a.length : Int) - 1)) := Lib.hid rfl
          have HNX := Lib.hid (fun h => range_step (f := inRun m run) hall.out h)
          have HBAD := Lib.hid (fun h => allB_false (f := inRun m run) hlt h)
          generalize run[k]?.getD 0 = x at *
          have HWI := Lib.hid (fun s : Later wr => rwithin_c x 0 ((m.a.length : Int) - 1) s.w)
          have hs : ∀ s : Later wr, Ext wA s.w := fun s => hEr.trans s.ext
          have q0 := fun s : Later wr => s.ext.keep hcu
          cases hb : inB x 0 ((m.a.length : Int) - 1)
          · rw [hb] at HWI HIR
            clear hb
            have HKF : Hid (runK m run = 4) := by rw [HRK2.out, HBAD.out HIR.out]; exact Lib.hid rfl
            go_wp2_with fail
            refine wp_region_later (by kernel_rfl) (by kernel_rfl) ?_
            repeat (go_big_quiet_step ((first | (go_at_call 61; first | with_reducible exact Later.callP (HWI.out _)))))
            refine wpQuiet_nil ?_
            intro w5 hw'
            obtain ⟨⟨_, hx5⟩, rfl⟩ := hw'
            go_wp2_with fail
            go_ret3
            exact RRun.bad HKF.out (by decide) (hE0.trans (hEr.trans hx5))
          · rw [hb] at HWI HIR
            clear hb
            go_wp2_with fail
            refine wp_region_later (by kernel_rfl) (by kernel_rfl) ?_
            repeat (go_big_quiet_step ((first | (go_at_call 61; first | with_reducible exact Later.callP (HWI.out _)))))
            refine wpQuiet_nil ?_
            intro w5 hw'
            obtain ⟨⟨_, hx5⟩, rfl⟩ := hw'
            go_wp2_with fail
            go_roundg (gk-1)
            case measure => omega
            case rel => exact ⟨k+1, by omega, by omega, by go_num, hEr.trans hx5, Lib.hid (HNX.out HIR.out)⟩
        · have HRK3 : Hid (runK m run = if allB run.length (onRun m run) then (if hasB m.e (rAt m.a run run.length) then 0 else 7) else 7) := by rw [HRK2.out, if_pos (allB_true (fun j hj => hall.out j (by omega)))]; exact Lib.hid rfl
          have HALL : Hid (∀ j, j < run.length → inRun m run j = true) := Lib.hid (fun j hj => hall.out j (by omega))
          have HAT := Lib.hid (rAt_in HMI.out HALL.out)
          clear hall
          obtain ⟨W0, rfl⟩ : ∃ W : World, W = wr := ⟨_, rfl⟩
          go_wp2_with fail
          clear hlt hk hkz
          go_loopg [12, 10, 11, 9] run.length (fun z i v1 v2 a wr => ∃ (k : Nat) (u1 u2 : Value), k ≤ run.length ∧ run.length ≤ k + z ∧ i = .int .i64 k ∧ a = .int .i64 (rAt m.a run k) ∧ u1 = v1 ∧ u2 = v2 ∧ Ext wA wr ∧ OSet wr wA.heap.size [(u1, rIn m.a run k), (u2, rOut m.a run k)] [] ∧ Hid (∀ j, j < k → onRun m run j = true))
          case atStart => exact ⟨0, _, _, by omega, by omega, rfl, rfl, rfl, rfl, hEr, OSet.nil2 _ _, Lib.hid (fun j hj => by omega)⟩
          case round =>
            clear hEr
            obtain ⟨k, v1, v2, hk, hkz, rfl, rfl, rfl, rfl, hEr, hset, hall⟩ := hrel
            by_cases hlt : k < run.length
            · obtain ⟨bu, ou, rfl, hcu⟩ := HU.out k hlt
              have hin := inB_bd (HALL.out k hlt)
              have HON : Hid (onRun m run k = ((arcA m.a (run[k]?.getD 0).toNat).f == rAt m.a run k)) := Lib.hid rfl
              have HNX := Lib.hid (fun h => range_step (f := onRun m run) hall.out h)
              have HBAD := Lib.hid (fun h => allB_false (f := onRun m run) hlt h)
              have HI := Lib.hid (rIn_next (ar := m.a) hlt)
              have HO := Lib.hid (rOut_next (ar := m.a) hlt)
              have HA2 : Hid (rAt m.a run (k + 1) = (arcA m.a (run[k]?.getD 0).toNat).t) := Lib.hid rfl
              have hil := rIn_len m.a run k
              have hol := rOut_len m.a run k
              generalize rAt m.a run k = at1 at *
              generalize rIn m.a run k = li at *
              generalize rOut m.a run k = lo at *
              generalize run[k]?.getD 0 = x at *
              obtain ⟨p, rfl⟩ : ∃ p : Nat, x = p := ⟨x.toNat, by omega⟩
              have hp : p < m.a.length := by omega
              clear hin
              rw [Int.toNat_natCast] at HON HI HO HA2
              obtain ⟨ba, oa, rfl, hc0, hc1, hc2, hc3⟩ := HA.out p hp
              generalize arcA m.a p = y at *
              replace hc0 := hEr.keep hc0
              replace hc1 := hEr.keep hc1
              replace hc2 := hEr.keep hc2
              replace hc3 := hEr.keep hc3
              replace hcu := hEr.keep hcu
              go_upto_region 16 with fail
              refine wp_region_free (Ext wr) (fun _ => True) [] [0, 1, 2, 3, 4, 5, 6, 7] 2 (by kernel_rfl) (by kernel_rfl) (by intro c a d v w h; cases d <;> exact h) ?_
              have hd : Ext wr { wr with drawn := wr.drawn + 1 } := drawn_ext wr
              have hs : ∀ s : InC (Ext wr), Ext wA s.w := fun s => hEr.trans s.h
              have q0 := fun s : InC (Ext wr) => s.h.keep hcu
              have q1 := fun s : InC (Ext wr) => s.h.keep hc0
              have q2 := fun s : InC (Ext wr) => s.h.keep hc1
              have q3 := fun s : InC (Ext wr) => s.h.keep hc2
              have q4 := fun s : InC (Ext wr) => s.h.keep hc3
              generalize { wr with drawn := wr.drawn + 1 } = V0 at *
              iterate 8 (refine wpPeek_look rfl ‹_› (fun K hK => ?_); go_simp; first | (refine hK _ ?_; clear hK K) | (refine ⟨_, fun _ => rfl, hK _ ?_⟩; clear hK K))
              clear hs q0 q1 q2 q3 q4 hc0 hc1 hc2 hc3 hcu
              refine wpPeek_nilK ?_
              refine wpAnyE_each (i := 8) (is := []) (by kernel_rfl) ⟨?_, trivial⟩
              refine wpOp_of_list rfl rfl (fun K hK => ?_)
              go_wp2_with fail
              have hxa := Ext.alloc V0 (.cells #[.int .i64 0, .int .i64 0, .int .i64 0, .int .i64 0] 50)
              refine ⟨KeepE.of (fun h => h.trans hxa) (fun _ => trivial), ?_⟩
              have hz := Blk.alloc V0 #[.int .i64 0, .int .i64 0, .int .i64 0, .int .i64 0] 50
              replace hz : Blk _ V0.heap.size 50 [.int .i64 0, .int .i64 0, .int .i64 0, .int .i64 0] := hz
              have hlb : wr.heap.size ≤ V0.heap.size := hd.size
              have hsz : V0.heap.size < (V0.alloc (.cells #[.int .i64 0, .int .i64 0, .int .i64 0, .int .i64 0] 50)).heap.size := by simp
              generalize V0.alloc (.cells #[.int .i64 0, .int .i64 0, .int .i64 0, .int .i64 0] 50) = V1 at *
              generalize V0.heap.size = gb at *
              replace hd := hd.trans hxa
              clear hxa
              have c0 := hz.cell (i := 0) rfl
              have c1 := hz.cell (i := 1) rfl
              have c2 := hz.cell (i := 2) rfl
              have c3 := hz.cell (i := 3) rfl
              have f0 := hz.frozen 0
              have f1 := hz.frozen 1
              have f2 := hz.frozen 2
              have f3 := hz.frozen 3
              have hst4 := ((((hz.set 0 (.int .i64 y.f)).set 1 (.int .i64 y.t)).set 2 (.int .i64 y.i)).set 3 (.int .i64 y.o))
              have hex4 : Ext wr ((((V1.setCell ⟨gb, 0, none⟩ (.int .i64 y.f)).setCell ⟨gb, 1, none⟩ (.int .i64 y.t)).setCell ⟨gb, 2, none⟩ (.int .i64 y.i)).setCell ⟨gb, 3, none⟩ (.int .i64 y.o)) := (((hd.setCell hlb _ _).setCell hlb _ _).setCell hlb _ _).setCell hlb _ _
              have HZ := Lib.hid (And.intro hst4 hex4)
              clear hst4 hex4 hz
              refine wpAnyE_each (i := 9) (is := []) (by kernel_rfl) ⟨?_, trivial⟩
              refine wpOp_of_list rfl rfl (fun K hK => ?_)
              go_wp2_with fail
              refine ⟨KeepE.of (fun _ => HZ.out.2) (fun _ => trivial), ?_⟩
              refine wpAnyE_done (by kernel_rfl) ?_
              obtain ⟨hz, hd2⟩ := HZ.out
              clear c0 c1 c2 c3 f0 f1 f2 f3 HZ hd
              generalize ((((V1.setCell ⟨gb, 0, none⟩ (.int .i64 y.f)).setCell ⟨gb, 1, none⟩ (.int .i64 y.t)).setCell ⟨gb, 2, none⟩ (.int .i64 y.i)).setCell ⟨gb, 3, none⟩ (.int .i64 y.o)) = wB at *
              have hBB : Blk wB gb 50 [.int .i64 y.f, .int .i64 y.t, .int .i64 y.i, .int .i64 y.o] := by simpa using hz
              have hTS : TS wA wB gb [.int .i64 y.f, .int .i64 y.t, .int .i64 y.i, .int .i64 y.o] [(v1, li), (v2, lo)] [] := ⟨hEr.trans hd2, hBB, hset.later hd2⟩
              have b0 := hBB.cell (i := 0) rfl
              have b1 := hBB.cell (i := 1) rfl
              have b2 := hBB.cell (i := 2) rfl
              clear hset hBB hz
              have HTS := Lib.hid hTS; clear hTS
              have HEr := Lib.hid (hEr.trans hd2)
              by_cases hf : y.f = at1
              · have hfd : (y.f != at1) = false := by simp [hf]
                have HF : Hid (onRun m run k = true) := by rw [HON.out]; exact Lib.hid (by simp [hf])
                clear hf
                go_wp2_with (first
                  | (at_builtin; refine wpList_appendSet [] _ elInts rfl _ _ rfl rfl rfl (HTS.out.build y.i).set List.mem_cons_self (HTS.out.build y.i).ext.size (by omega) ?_; intro v4 W4 hs4 ho4 hg4 hb4; have S4 := Lib.hid (TS.app (pre := []) (HTS.out.build y.i) hs4 ho4 hg4).drop; clear hs4 ho4 hg4 hb4; have b3 := S4.out.blk.cell (i := 3) rfl)
                  | (at_builtin; refine wpList_appendSet [_] _ elInts rfl _ _ rfl rfl rfl (S4.out.build y.o).set List.mem_cons_self (S4.out.build y.o).ext.size (by omega) ?_; intro v9 W9 hs9 ho9 hg9 hb9; have S9 := Lib.hid (TS.app (pre := [_]) (S4.out.build y.o) hs9 ho9 hg9).drop; clear hs9 ho9 hg9 hb9))
                go_roundg (gk-1)
                case measure => omega
                case rel => exact ⟨k+1, _, _, by omega, by omega, by go_num, by rw [HA2.out], rfl, rfl, S9.out.ext, by rw [HI.out, HO.out]; exact S9.out.set, Lib.hid (HNX.out HF.out)⟩
              · have hfd : (y.f != at1) = true := by simp [hf]
                have HF : Hid (onRun m run k = false) := by rw [HON.out]; exact Lib.hid (by simp [hf])
                have HKF : Hid (runK m run = 7) := by rw [HRK3.out, HBAD.out HF.out]; exact Lib.hid rfl
                clear hf
                go_wp2_with fail
                go_ret3
                exact RRun.bad HKF.out (by decide) (hE0.trans HEr.out)
            · have hku : k = run.length := by omega
              subst hku
              have HRK4 : Hid (runK m run = if hasB m.e (rAt m.a run run.length) then 0 else 7) := by rw [HRK3.out, if_pos (allB_true (fun j hj => hall.out j hj))]; exact Lib.hid rfl
              have HSET := Lib.hid hset; clear hset
              have hat := HAT.out run.length (Nat.le_refl _)
              generalize hst : rAt m.a run run.length = st at *
              clear hst
              obtain ⟨p, rfl⟩ : ∃ p : Nat, st = p := ⟨st.toNat, by omega⟩
              have hEB : Hid (hasB m.e (p : Int) = (endsB m.s.toNat m.e)[p]?.getD false) := Lib.hid (by
                rw [Bool.eq_iff_iff]
                have h1 := getB_ends HMI.out (k := (p : Int)) (by omega)
                unfold getB at h1
                rw [Int.toNat_natCast] at h1
                rw [h1, hasB_eq, List.contains_iff_mem])
              have HEC := Lib.hid (rends_c _ _ m _ wr (HR.out.ext hEr) HMI.out)
              have HEL := Lib.hid (endsB_len m.s.toNat m.e)
              generalize hasB m.e (p : Int) = hb at *
              generalize endsB m.s.toNat m.e = EB at *
              have hp : p < m.s.toNat := by omega
              have hpE : p < EB.length := by rw [HEL.out]; exact hp
              clear hat
              go_wp2_with fail
              refine HEC.out.mono ?_; rintro e w5 ⟨gE, rfl, hbE, hgE, hx5⟩
              have HXF := Lib.hid hx5
              have c0 := hbE.cell (i := p) hpE
              rw [← hEB.out] at c0
              clear hbE hgE hx5
              cases hb
              · go_wp2_with fail
                go_ret3
                exact RRun.bad (by rw [HRK4.out]; rfl) (by decide) (hE0.trans (hEr.trans HXF.out))
              · go_wp2_with fail
                go_ret3
                exact RRun.good (by rw [HRK4.out]; rfl) (HSET.out.rows (_, _) List.mem_cons_self |>.ext HXF.out).ints (HSET.out.rows (_, _) (List.mem_cons_of_mem _ List.mem_cons_self) |>.ext HXF.out).ints (hE0.trans (hEr.trans HXF.out))
  · have HRK : Hid (runK m run = validM m) := Lib.hid (by rw [runK, if_neg h0])
    have hk : (validM m != 0) = true := by simp [h0]
    generalize validM m = k at *
    go_enter Try.func40, Try.ntmps40
    go_wp2_with fail
    rw [← HW.out]
    refine HV.out.mono ?_; rintro e w1 ⟨rfl, hx1⟩
    go_wp2_with fail
    go_ret3
    exact RRun.bad HRK.out h0 (hE0.trans hx1)
end Go.Proofs.Ytpbflkbelhlogaa
