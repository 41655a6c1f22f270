/- Replay of a school. -/
import Derived.Test.YtpmlcfgbfhgpgaaGreatDoorJoinB
namespace Go.Proofs.YtpmlcfgbfhgpgaaGreatDoor
open Go.RowKit Go.Shelf
set_option linter.unusedVariables false
theorem readOrders_size (bk : Bs) : ∀ t ∈ readOrders bk, t.size ≤ 30 := by
 intro t ht
 unfold readOrders readB at ht
 obtain ⟨o, ho, rfl⟩ := List.mem_map.1 ht
 rw [ofBs_size]
 exact (rightB_iff.1 ((readF_sound 100 0 bk).2.1 o ho)).2.1
theorem okS_snoc {s : List Rul} {x : St} {l : List ByteArray} {t : ByteArray} (h : okS s x l = true) (h2 : (doS s (runS s x l) t).2 = 0) : okS s x (l ++ [t]) = true := by
 rw [okS_append, h]; simp [okS, h2]
def RRepL (S : Nat → Bool) (s : List Rul) (L : List ByteArray) (q : Bs) (w : World) (e : Ending) (w' : World) : Prop :=
 Ext w w' ∧ ((validS s ≠ 0 ∧ e = .returned (.tuple #[.pointer none, .int .i64 0, .int .i64 (validS s)])) ∨
  (validS s = 0 ∧ q ≠ [] ∧ e = .returned (.tuple #[.pointer none, .int .i64 0, .int .i64 10])) ∨
  (validS s = 0 ∧ q = [] ∧ ∃ k t, L[k]? = some t ∧ okS s st0 (L.take k) = true ∧ (doS s (runS s st0 (L.take k)) t).2 ≠ 0 ∧ e = .returned (.tuple #[.pointer none, .int .i64 k, .int .i64 (doS s (runS s st0 (L.take k)) t).2])) ∨
  (validS s = 0 ∧ q = [] ∧ okS s st0 L = true ∧ ∃ b m1 rv v, w.heap.size ≤ b ∧ e = .returned (.tuple #[.pointer (some ⟨b, 0, none⟩), .int .i64 L.length, .int .i64 0]) ∧ SchF (more S b) b m1 rv v (runS s st0 L) s w'))
set_option maxHeartbeats 8000000 in
set_option maxRecDepth 100000 in
theorem Replay_c (S : Nat → Bool) (v : Value) (s : List Rul) (bk : ByteArray) (w : World) (hS : ∀ k, S k = true → k < w.heap.size) (h : Ruls w v s) (hE : Env w) (hT : ErrT w) (h7 : 7 ≤ w.heap.size) (hbk : bk.size ≤ 1000000) :
  Calls Tryz.prog 55 #[v, .string bk] w (RRepL S s (readOrders (txt bk)) (readB (txt bk)).2 w) := by
 have HN := Lib.hid (New_c S v s w hS h)
 have HR := Lib.hid (fun W (q : Ext w W) => Read_c bk W (hE.ext q) hbk)
 have HE := Lib.hid hE
 have HT := Lib.hid hT
 have HSZ := Lib.hid (readOrders_size (txt bk))
 have HLN := Lib.hid (readOrders_len (txt bk))
 have hra : ((readRest (txt bk)).toList == []) = decide ((readB (txt bk)).2 = []) := rest_empty _
 obtain ⟨av, cv, rfl, _⟩ := h.open_
 clear h hE hT hbk
 generalize readRest (txt bk) = rr at *
 generalize (readB (txt bk)).2 = q2 at *
 generalize readOrders (txt bk) = L at *
 by_cases hv : validS s = 0
 ·have HV := Lib.hid hv; clear hv
  by_cases hq : q2 = []
  ·have HQ := Lib.hid hq
   have hre : (rr.toList == []) = true := by rw [hra]; exact decide_eq_true hq
   have hrn : (rr.toList != []) = false := by unfold bne; rw [hre]; rfl
   clear hq hra
   go_enter Tryz.func55, Tryz.ntmps55
   go_wp2_with fail
   refine HN.out.mono ?_; rintro e w1 ⟨hx1, ⟨h0, _⟩ | ⟨_, b, m1, rv, v0, rfl, hbz, hSc⟩⟩
   ·exact absurd HV.out h0
   have hb7 : 7 ≤ b := Nat.le_trans h7 hbz
   go_wp2_with fail
   refine (HR.out w1 hx1).mono ?_; rintro e w2 ⟨u2, rfl, ho2, hx2⟩
   have hu2 := Cel.own encT_len (OCel.hole ho2 (S := more S b) hSc.hSl)
   obtain ⟨a2, c2, hul, _, _, HC2⟩ := Strs.at_ hu2
   subst hul
   have hS2 := hSc.ext hx2
   have hX2 := hx1.trans hx2
   have HE2 := Lib.hid (HE.out.ext hX2)
   have HT2 := Lib.hid (HT.out.ext hX2)
   clear hSc ho2 hu2
   go_wp2_with fail
   go_loopg [31] L.length (fun m i wr => ∃ (k : Nat) (v' : SV), k ≤ L.length ∧ L.length ≤ k + m ∧ i = .int .i64 k ∧ ExtX (one b) w2 wr ∧ SchF (more S b) b m1 rv v' (runS s st0 (L.take k)) s wr ∧ Hid (okS s st0 (L.take k) = true))
   case atStart => exact ⟨0, v0, by omega, by omega, rfl, ExtX.refl _ _, hS2, Lib.hid rfl⟩
   case round =>
    obtain ⟨k, v', hk1, hk2, rfl, hEr, hSr, hok⟩ := hrel
    by_cases hlt : k < L.length
    ·obtain ⟨bl, ol, ha2, hcl⟩ := HC2.out k hlt
     subst ha2
     have tl := hole_sub (more S b) wr _ _ (hole_keep hSr.hSb hEr _ _ hcl)
     have HDO := Lib.hid (Do_c hSr (HE2.out.extX hEr hb7) (HT2.out.extX hEr hb7) hb7 L[k] (by have := HSZ.out _ (List.getElem_mem hlt); omega))
     have HTK : Hid (L.take (k + 1) = L.take k ++ [L[k]]) := Lib.hid (by rw [List.take_add_one, List.getElem?_eq_getElem hlt]; rfl)
     have HGT : Hid (L[k]? = some L[k]) := Lib.hid (List.getElem?_eq_getElem hlt)
     generalize L[k] = tk at *
     by_cases hz : (doS s (runS s st0 (L.take k)) tk).2 = 0
     ·have HOK := Lib.hid (okS_snoc hok.out hz)
      have HRN : Hid (runS s st0 (L.take (k + 1)) = (doS s (runS s st0 (L.take k)) tk).1) := Lib.hid (by rw [HTK.out, runS_append]; rfl)
      generalize doS s (runS s st0 (L.take k)) tk = R at *
      obtain ⟨R1, R2⟩ := R
      dsimp only at hz
      subst hz
      go_wp2_with fail
      refine HDO.out.mono ?_; rintro e w5 ⟨he, hE5, v5, hB5⟩
      dsimp only at he
      subst he
      go_wp2_with fail
      go_roundg (gk-1)
      case measure => omega
      case rel => exact ⟨k + 1, v5, by omega, by omega, by go_num, hEr.trans hE5, by rw [HRN.out]; exact hB5, Lib.hid (by rw [HTK.out]; exact HOK.out)⟩
     ·have HZ := Lib.hid hz
      have hzn : ((doS s (runS s st0 (L.take k)) tk).2 != 0) = true := by simpa using hz
      clear hz
      generalize hR : (doS s (runS s st0 (L.take k)) tk).2 = R at *
      have HRR := Lib.hid hR; clear hR
      go_wp2_with fail
      refine HDO.out.mono ?_; rintro e w5 ⟨he, hE5, v5, hB5⟩
      rw [HRR.out] at he
      subst he
      go_wp2_with fail
      go_ret3
      exact ⟨(((hX2.toX (one b)).trans hEr).trans hE5).ext (fun k hk => by simp [one]; omega), .inr (.inr (.inl ⟨HV.out, HQ.out, k, tk, HGT.out, hok.out, by rw [HRR.out]; exact HZ.out, by rw [HRR.out]; rfl⟩))⟩
    ·obtain rfl : k = L.length := by omega
     rw [List.take_length] at hSr hok
     go_wp2_with fail
     go_ret3
     exact ⟨((hX2.toX (one b)).trans hEr).ext (fun k hk => by simp [one]; omega), .inr (.inr (.inr ⟨HV.out, HQ.out, hok.out, b, m1, rv, v', hbz, rfl, hSr⟩))⟩
  ·have HQ := Lib.hid hq
   have hre : (rr.toList == []) = false := by rw [hra]; exact decide_eq_false hq
   have hrn : (rr.toList != []) = true := by unfold bne; rw [hre]; rfl
   clear hq hra
   go_enter Tryz.func55, Tryz.ntmps55
   go_wp2_with fail
   refine HN.out.mono ?_; rintro e w1 ⟨hx1, ⟨h0, _⟩ | ⟨_, b, m1, rv, v0, rfl, hbz, hSc⟩⟩
   ·exact absurd HV.out h0
   go_wp2_with fail
   refine (HR.out w1 hx1).mono ?_; rintro e w2 ⟨u2, rfl, ho2, hx2⟩
   obtain ⟨a2, c2, hul, _⟩ := (Cel.own encT_len ho2).open_
   subst hul
   go_wp2_with fail
   go_ret3
   exact ⟨hx1.trans hx2, .inr (.inl ⟨HV.out, HQ.out, rfl⟩)⟩
 ·have HV := Lib.hid hv
  have hvn : (validS s != 0) = true := by simpa using hv
  clear hv
  go_enter Tryz.func55, Tryz.ntmps55
  go_wp2_with fail
  refine HN.out.mono ?_; rintro e w1 ⟨hx1, ⟨h0, rfl⟩ | ⟨h0, _⟩⟩
  rotate_left
  ·exact absurd h0 HV.out
  go_wp2_with fail
  go_ret3
  exact ⟨hx1, .inl ⟨HV.out, rfl⟩⟩
end Go.Proofs.YtpmlcfgbfhgpgaaGreatDoor
