/- SchoolBooks: the walk. -/
import Derived.Test.YtpmlcfgbfhgpgaaGreatDoorJoinF
namespace Go.Proofs.YtpmlcfgbfhgpgaaGreatDoor
open Go.RowKit Go.Shelf
set_option linter.unusedVariables false
theorem okS_before {s : List Rul} {L : List ByteArray} {k n : Nat} {t : ByteArray} (h : okS s st0 (L.take n) = true) (hk : L[k]? = some t) (hlt : k < n) : (doS s (runS s st0 (L.take k)) t).2 = 0 := by
 have := ok_at h (k := k) (t := t) (by rw [List.getElem?_take_of_lt hlt]; exact hk)
 rwa [List.take_take, Nat.min_eq_left (by omega)] at this
theorem first_refused {s : List Rul} {L : List ByteArray} {k n : Nat} {t u : ByteArray} (h : okS s st0 (L.take k) = true) (hk : L[k]? = some t) (hz : (doS s (runS s st0 (L.take k)) t).2 ≠ 0)
  (h2 : okS s st0 (L.take n) = true) (hn : L[n]? = some u) (hz2 : (doS s (runS s st0 (L.take n)) u).2 ≠ 0) : k = n ∧ t = u := by
 rcases Nat.lt_trichotomy k n with e | e | e
 ·exact absurd (okS_before h2 hk e) hz
 ·subst e
  rw [hk] at hn; injection hn with hn
  exact ⟨rfl, hn⟩
 ·exact absurd (okS_before h hn e) hz2
set_option maxHeartbeats 8000000 in
set_option maxRecDepth 100000 in
theorem schoolBooks_c (v : Value) (text : ByteArray) (s : List Rul) (w : World) (h : Ruls w v s) (ht : text.size ≤ maxLen) (hE : Env w) (hT : ErrT w) (h7 : 7 ≤ w.heap.size) :
  Calls Tryz.prog 14 #[v, .string text] w (RV (.bool true) w) := by
 have HLG := Lib.hid (Large9_c v s w h)
 have HSA := Lib.hid (fun W (q : Ext w W) => sane_c W (hE.ext q) (hT.ext q) (Nat.le_trans h7 q.size))
 have HE := Lib.hid hE
 have HR := Lib.hid h
 have HT := Lib.hid hT
 obtain ⟨av, cv, rfl, _⟩ := h.open_
 clear h hE hT ht
 cases hb1 : largeB s with
 | true =>
  rw [hb1] at HLG
  clear hb1
  go_enter Tryz.func14, Tryz.ntmps14
  go_wp2_with fail
  refine HLG.out.mono ?_; rintro e w1 ⟨rfl, hx1⟩
  go_wp2_with fail
  refine (HSA.out w1 hx1).mono ?_; rintro e w2 ⟨rfl, hx2⟩
  go_wp2_with fail
  go_ret
  exact ⟨rfl, hx1.trans hx2⟩
 | false =>
  rw [hb1] at HLG
  clear hb1
  by_cases hz : 20000 < text.size
  ·have hz' : (20000 : Int) < (text.size : Int) := by omega
   go_enter Tryz.func14, Tryz.ntmps14
   go_wp2_with fail
   refine HLG.out.mono ?_; rintro e w1 ⟨rfl, hx1⟩
   go_wp2_with fail
   refine (HSA.out w1 hx1).mono ?_; rintro e w2 ⟨rfl, hx2⟩
   go_wp2_with fail
   go_ret
   exact ⟨rfl, hx1.trans hx2⟩
  ·have hz' : ¬ (20000 : Int) < (text.size : Int) := by omega
   have HRP := Lib.hid (fun W (q : Ext w W) => Replay_c (fun _ => false) _ s text W (fun k hk => by cases hk) (HR.out.ext q) (HE.out.ext q) (HT.out.ext q) (Nat.le_trans h7 q.size) (by omega))
   have HRR := Lib.hid (fun W b (q : Ext w W) (hb : b < W.heap.size) => rReplay_c b _ s text W hb (HR.out.ext q) (HE.out.ext q) (by omega))
   generalize readOrders (txt text) = L at *
   generalize (readB (txt text)).2 = q2 at *
   go_enter Tryz.func14, Tryz.ntmps14
   go_wp2_with fail
   refine HLG.out.mono ?_; rintro e w1 ⟨rfl, hx1⟩
   go_wp2_with fail
   refine (HRP.out w1 hx1).mono ?_
   rintro e w2 ⟨hx2', ⟨h0, he⟩ | ⟨h0, hq, he⟩ | ⟨h0, hq, k, t, a1, a2, a3, he⟩ | ⟨h0, hq, hok, b, m1, rv, v1, hbz, he, hSc⟩⟩
   ·subst he
    have hx2 := hx1.trans hx2'
    have hne : (validS s != 0) = true := by simpa using h0
    have HZ := Lib.hid h0
    go_wp2_with fail
    refine (HRR.out w2 0 hx2 (by have := hx2.size; omega)).mono ?_
    rintro e w3 ⟨hx3', ⟨_, he⟩ | ⟨g0, _⟩ | ⟨g0, _⟩ | ⟨g0, _⟩⟩
    rotate_left
    ·exact absurd g0 HZ.out
    ·exact absurd g0 HZ.out
    ·exact absurd g0 HZ.out
    subst he
    have hx3 := hx2.trans hx3'
    go_wp2_with fail
    refine (HSA.out w3 hx3).mono ?_; rintro e w4 ⟨rfl, hx4⟩
    go_wp2_with fail
    go_ret
    exact ⟨rfl, hx3.trans hx4⟩
   ·subst he
    have hx2 := hx1.trans hx2'
    have HZ := Lib.hid h0
    have HQ := Lib.hid hq
    clear hq
    go_wp2_with fail
    refine (HRR.out w2 0 hx2 (by have := hx2.size; omega)).mono ?_
    rintro e w3 ⟨hx3', ⟨g0, _⟩ | ⟨_, _, he⟩ | ⟨_, g0, _⟩ | ⟨_, g0, _⟩⟩
    ·exact absurd HZ.out g0
    rotate_left
    ·exact absurd g0 HQ.out
    ·exact absurd g0 HQ.out
    subst he
    have hx3 := hx2.trans hx3'
    go_wp2_with fail
    refine (HSA.out w3 hx3).mono ?_; rintro e w4 ⟨rfl, hx4⟩
    go_wp2_with fail
    go_ret
    exact ⟨rfl, hx3.trans hx4⟩
   ·have hx2 := hx1.trans hx2'
    have HZ := Lib.hid h0
    have HQ := Lib.hid hq
    have HA := Lib.hid (And.intro a1 (And.intro a2 a3))
    have hne : ((doS s (runS s st0 (L.take k)) t).2 != 0) = true := by simpa using a3
    clear hq a1 a2 a3 h0
    obtain ⟨KE, hKE⟩ : ∃ KE, KE = (doS s (runS s st0 (L.take k)) t).2 := ⟨_, rfl⟩
    rw [← hKE] at he hne
    have HKE := Lib.hid hKE
    clear hKE
    subst he
    go_wp2_with fail
    refine (HRR.out w2 0 hx2 (by have := hx2.size; omega)).mono ?_
    rintro e w3 ⟨hx3', ⟨g0, _⟩ | ⟨_, g0, _⟩ | ⟨_, _, k', t', c1, c2, c3, he⟩ | ⟨_, _, g0, _⟩⟩
    ·exact absurd HZ.out g0
    ·exact absurd HQ.out g0
    rotate_left
    ·exact absurd (ok_at g0 HA.out.1) HA.out.2.2
    obtain ⟨e1, e2⟩ := first_refused HA.out.2.1 HA.out.1 HA.out.2.2 c2 c1 c3
    subst e1 e2
    rw [← HKE.out] at he
    clear c1 c2 c3
    subst he
    have hx3 := hx2.trans hx3'
    go_wp2_with fail
    refine (HSA.out w3 hx3).mono ?_; rintro e w4 ⟨rfl, hx4⟩
    go_wp2_with fail
    go_ret
    exact ⟨rfl, hx3.trans hx4⟩
   ·subst he
    have hx2 := hx1.trans hx2'
    have HZ := Lib.hid h0
    have HQ := Lib.hid hq
    have HOK := Lib.hid hok
    have HSC := Lib.hid hSc
    have hb2 : b < w2.heap.size := hSc.hb.lt
    clear hq hok h0 hSc
    go_wp2_with fail
    refine (HRR.out w2 b hx2 hb2).mono ?_
    rintro e w3 ⟨hx3', ⟨g0, _⟩ | ⟨_, g0, _⟩ | ⟨_, _, k', t', c1, _, c3, _⟩ | ⟨_, _, _, rb, uq, v2, R, he, hRf⟩⟩
    ·exact absurd HZ.out g0
    ·exact absurd HQ.out g0
    ·exact absurd (ok_at HOK.out c1) c3
    subst he
    have hx3 := hx2.trans hx3'
    have HEQ := Lib.hid (Equal_c (HSC.out.ext hx3') hRf (HE.out.ext hx3))
    clear hRf
    go_wp2_with fail
    refine HEQ.out.mono ?_; rintro e w4 ⟨rfl, hx4'⟩
    have hx4 := hx3.trans hx4'
    go_wp2_with fail
    refine (HSA.out w4 hx4).mono ?_; rintro e w5 ⟨rfl, hx5⟩
    go_wp2_with fail
    go_ret
    exact ⟨rfl, hx4.trans hx5⟩
end Go.Proofs.YtpmlcfgbfhgpgaaGreatDoor
