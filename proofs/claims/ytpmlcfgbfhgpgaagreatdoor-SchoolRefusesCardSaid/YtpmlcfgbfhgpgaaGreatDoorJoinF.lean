/- Several texts in one: RefI, RefJ, RefK, RefL, RefN, RefO, RefR, RefS, RefT, RefU, RefV, RefX, RefY. -/
import Derived.Test.YtpmlcfgbfhgpgaaGreatDoorJoinE
import Derived.Test.YtpmlcfgbfhgpgaaGreatDoorJoinC
import Derived.Test.YtpmlcfgbfhgpgaaGreatDoorSysG
import Derived.Test.YtpmlcfgbfhgpgaaGreatDoorTreeT
set_option maxHeartbeats 16000000
set_option maxRecDepth 100000
namespace Go.Proofs.YtpmlcfgbfhgpgaaGreatDoor
open Go.RowKit Go.Shelf
set_option linter.unusedVariables false
variable {R : Nat → Bool} {b rb : Nat} {rv : Value} {v : SV} {x : St} {s : List Rul} {w : World}
theorem rdigits_c (t : ByteArray) (m z : Nat) (w : World) (ht : t.size ≤ 100000) (hm : m ≤ 1000) (hz : z ≤ 255) (h48 : 48 ≤ z) : Calls Tryz.prog 123 #[.string t, .int .i64 m, .int .u8 z] w (RP (.bool (digitsB t.data.toList m z)) w) := by
 have HL := Lib.hid (bs_size t)
 have HR : Hid ((digitsB t.data.toList m z = true ↔ (1 ≤ t.size ∧ t.size ≤ m ∧ ∀ j (h : j < t.size), 48 ≤ t[j].toNat ∧ t[j].toNat ≤ z))) := Lib.hid (by
  unfold digitsB
  rw [Bool.and_eq_true, Bool.and_eq_true, List.all_eq_true, decide_eq_true_eq, decide_eq_true_eq, ← HL.out]
  constructor
  ·rintro ⟨h1, h2, h3⟩
   refine ⟨h2, h3, fun j hj => ?_⟩
   have := h1 _ (List.getElem_mem (show j < t.data.toList.length by have := HL.out; omega))
   rw [bs_get t j hj (by have := HL.out; omega)] at this
   simpa using this
  ·rintro ⟨h2, h3, h1⟩
   refine ⟨fun b hb => ?_, h2, h3⟩
   obtain ⟨j, hj, rfl⟩ := List.mem_iff_getElem.1 hb
   have hj' : j < t.size := by have := HL.out; omega
   rw [bs_get t j hj' hj]
   simpa using h1 j hj')
 generalize digitsB t.data.toList m z = R at *
 go_enter Tryz.func123, Tryz.ntmps123
 go_wp2_with fail
 go_loopg [7] t.size (fun q i wr => ∃ k : Nat, k ≤ t.size ∧ t.size ≤ k + q ∧ i = .int .i64 k ∧ w = wr ∧ Hid (∀ j (h : j < t.size), j < k → 48 ≤ t[j].toNat ∧ t[j].toNat ≤ z))
 case atStart => exact ⟨0, by omega, by omega, rfl, rfl, fun j _ hj => by omega⟩
 case round =>
  obtain ⟨k, hk, hk2, rfl, rfl, hE⟩ := hrel
  by_cases hlt : k < t.size
  ·obtain ⟨b, hb⟩ : ∃ b : Nat, (t[k]'hlt).toNat = b := ⟨_, rfl⟩
   have HBB := Lib.hid hb
   by_cases hb1 : b < 48
   ·have HF := Lib.hid (show false = R by
     cases R
     ·rfl
     ·exact absurd ((HR.out.1 rfl).2.2 k hlt).1 (by rw [hb]; omega))
    have hd : decide ((b : Int) < 48) = true := decide_eq_true (by omega)
    go_wp2_with fail
    go_ret
    exact RP.bool HF.out
   ·have hd : decide ((b : Int) < 48) = false := decide_eq_false (by omega)
    by_cases hb2 : z < b
    ·have HF := Lib.hid (show false = R by
      cases R
      ·rfl
      ·exact absurd ((HR.out.1 rfl).2.2 k hlt).2 (by rw [hb]; omega))
     have hd2 : decide ((z : Int) < (b : Int)) = true := decide_eq_true (by omega)
     go_wp2_with fail
     go_ret
     exact RP.bool HF.out
    ·have hd2 : decide ((z : Int) < (b : Int)) = false := decide_eq_false (by omega)
     have HB1 := Lib.hid hb1
     have HB2 := Lib.hid hb2
     clear hb1 hb2
     go_wp2_with fail
     go_roundg (gk-1)
     case measure => omega
     case rel => exact ⟨k+1, by omega, by omega, by go_num, rfl, fun j h hj => by
      by_cases e : j = k
      ·subst e; rw [HBB.out]; have h1 : ¬ b < 48 := HB1.out; have h2 : ¬ z < b := HB2.out; exact ⟨by omega, by omega⟩
      ·exact hE.out j h (by omega)⟩
  ·have HT := Lib.hid (show (decide (1 ≤ t.size) && decide (t.size ≤ m)) = R by
    rw [Bool.eq_iff_iff, HR.out, Bool.and_eq_true, decide_eq_true_eq, decide_eq_true_eq]
    exact ⟨fun h => ⟨h.1, h.2, fun j hj => hE.out j hj (by omega)⟩, fun h => ⟨h.1, h.2.1⟩⟩)
   by_cases h1 : 1 ≤ t.size
   ·go_wp2_with fail
    go_ret
    exact RP.bool (by rw [← HT.out, Bool.eq_iff_iff]; simp [h1] <;> omega)
   ·go_wp2_with fail
    go_ret
    exact RP.bool (by rw [← HT.out, Bool.eq_iff_iff]; simp [h1] <;> omega)
def RPar (o : Option Cmd) (r : ByteArray) (w : World) (e : Ending) (w' : World) : Prop := Ext w w' ∧ match o with
 | none => ∃ h u n, e = .returned (.tuple #[.agg #[.string h, .string u, .int .i64 n], .bool false])
 | some c => e = .returned (.tuple #[.agg #[.string (ofBs (headC c)), .string r, .int .i64 (numC c)], .bool true])
theorem dig_at (l : Bs) (j : Nat) (h : j < (ofBs l).size) (h2 : j < l.length) : (ofBs l)[j]'h = l[j]'h2 := (bs_get (ofBs l) j h (by show j < (ofBs l).data.toList.length; rw [show (ofBs l).data.toList = l from txt_of l]; exact h2)).symm
def valD (l : Bs) (j : Nat) : Int := (l.take j).foldl (fun n b => 10 * n + ((b.toNat : Int) - 48)) 0
theorem valD_succ {l : Bs} {j : Nat} (h : j < l.length) : valD l (j + 1) = 10 * valD l j + (((l[j]).toNat : Int) - 48) := by
 unfold valD
 rw [List.take_add_one, List.getElem?_eq_getElem h, List.foldl_append]
 rfl
theorem valD_num {l : Bs} {n : Nat} (h : numOf l = some n) : valD l l.length = n ∧ (∀ j (h : j < l.length), 48 ≤ (l[j]).toNat ∧ (l[j]).toNat ≤ 57) ∧ (∀ j, j ≤ l.length → 0 ≤ valD l j ∧ valD l j ≤ 1000) := by
 rcases numOf_val h with ⟨a, rfl, h1, h2, rfl⟩ | ⟨a, b, rfl, h1, h2, h3, h4, rfl⟩
 ·refine ⟨by simp [valD]; omega, fun j hj => ?_, fun j hj => ?_⟩
  ·have : j = 0 := by simpa using hj
   subst this; exact ⟨h1, h2⟩
  ·have : j = 0 ∨ j = 1 := by simp at hj; omega
   rcases this with rfl | rfl
   ·simp [valD]
   ·simp [valD]; omega
 ·refine ⟨by simp [valD]; omega, fun j hj => ?_, fun j hj => ?_⟩
  ·have : j = 0 ∨ j = 1 := by simp at hj; omega
   rcases this with rfl | rfl
   ·exact ⟨h1, h2⟩
   ·exact ⟨h3, h4⟩
  ·have : j = 0 ∨ j = 1 ∨ j = 2 := by simp at hj; omega
   rcases this with rfl | rfl | rfl
   ·simp [valD]
   ·simp [valD]; omega
   ·simp [valD]; omega
theorem parse_bad {t : Bs} (h : t.length < 1 ∨ 30 < t.length) : parseB t = none := by
 rcases h with h | h
 ·have : t = [] := List.length_eq_zero_iff.1 (by omega)
  subst this; rfl
 ·unfold parseB; rw [if_pos h]
theorem Blk.setR {w : World} {g : Nat} {ty : TypeId} {cs : List Value} (h : Blk w g ty cs) (b i : Nat) (v : Value) (hne : b ≠ g) : Blk (w.setCell ⟨b, i, none⟩ v) g ty cs := by
 unfold Blk at h ⊢
 rw [(ExtX.set w b i v).block g (by
  rcases Nat.lt_or_ge g w.heap.size with hl | hl
  ·exact hl
  ·rw [Array.getElem?_eq_none hl] at h; cases h) (by simp [one]; omega)]
 exact h
theorem eq_list (A c : Bs) : ((ofBs A).toList == c) = decide (A = c) := by
 rw [byt, show (ofBs A).data.toList = A from txt_of A, Bool.eq_iff_iff]; simp
theorem rparse_c (t : ByteArray) (w : World) : Calls Tryz.prog 83 #[.string t] w (RPar (parseB (txt t)) (ofBs (restOf (txt t))) w) := by
 obtain ⟨wA, hwA⟩ : ∃ wA, wA = w.alloc (.cells #[.string ⟨#[]⟩, .string ⟨#[]⟩, .int .i64 0] 129) := ⟨_, rfl⟩
 have hEA : Ext w wA := by rw [hwA]; exact Ext.alloc _ _
 have hbA : Blk wA w.heap.size 129 [.string ⟨#[]⟩, .string ⟨#[]⟩, .int .i64 0] := by rw [hwA]; exact Blk.alloc _ _ _
 have HWA := Lib.hid hwA; clear hwA
 have HS6 := Lib.hid (fun (W : World) (i : Nat) (v : Value) (h : Ext w W) => h.setCell (c := w.heap.size) (Nat.le_refl _) i v)
 have htl : (txt t).length = t.size := txt_size t
 have HPB := Lib.hid (@parse_bad (txt t))
 have x0 := hbA.cell (i := 0) rfl
 have x1 := hbA.cell (i := 1) rfl
 have x2 := hbA.cell (i := 2) rfl
 have z0 := hbA.frozen 0
 have z1 := hbA.frozen 1
 have z2 := hbA.frozen 2
 by_cases hs1 : t.size < 1
 ·have HN := Lib.hid (HPB.out (.inl (by omega)))
  have hd1 : decide ((t.size : Int) < 1) = true := decide_eq_true (by omega)
  rw [HN.out]
  clear HPB HN
  go_enter Tryz.func83, Tryz.ntmps83
  go_upto_region 1 with fail
  rw [← HWA.out]
  generalize w.heap.size = g2 at *
  go_wp2_with fail
  have hfin := HS6.out _ 2 (.int .i64 0) (HS6.out _ 1 (.string ⟨#[]⟩) (HS6.out _ 0 (.string ⟨#[]⟩) hEA))
  have hbf := ((hbA.set 0 (.string ⟨#[]⟩)).set 1 (.string ⟨#[]⟩)).set 2 (.int .i64 0)
  have r0 := hbf.cell (i := 0) (v := .string ⟨#[]⟩) rfl
  have r1 := hbf.cell (i := 1) (v := .string ⟨#[]⟩) rfl
  have r2 := hbf.cell (i := 2) (v := .int .i64 0) rfl
  generalize World.setCell _ ⟨g2, 2, none⟩ _ = wF at *
  refine bodyPost_ret (v := .tuple #[.agg #[.string ⟨#[]⟩, .string ⟨#[]⟩, .int .i64 0], .bool false]) (by simp [results, Tryz.results83, go_sem, r0, r1, r2]) rfl ⟨hfin, _, _, _, rfl⟩
 ·have hd1 : decide ((t.size : Int) < 1) = false := decide_eq_false (by omega)
  by_cases hs2 : 30 < t.size
  ·have HN := Lib.hid (HPB.out (.inr (by omega)))
   have hd2 : decide ((30 : Int) < (t.size : Int)) = true := decide_eq_true (by omega)
   rw [HN.out]
   clear HPB HN
   go_enter Tryz.func83, Tryz.ntmps83
   go_upto_region 1 with fail
   rw [← HWA.out]
   generalize w.heap.size = g2 at *
   go_wp2_with fail
   have hfin := HS6.out _ 2 (.int .i64 0) (HS6.out _ 1 (.string ⟨#[]⟩) (HS6.out _ 0 (.string ⟨#[]⟩) hEA))
   have hbf := ((hbA.set 0 (.string ⟨#[]⟩)).set 1 (.string ⟨#[]⟩)).set 2 (.int .i64 0)
   have r0 := hbf.cell (i := 0) (v := .string ⟨#[]⟩) rfl
   have r1 := hbf.cell (i := 1) (v := .string ⟨#[]⟩) rfl
   have r2 := hbf.cell (i := 2) (v := .int .i64 0) rfl
   generalize World.setCell _ ⟨g2, 2, none⟩ _ = wF at *
   refine bodyPost_ret (v := .tuple #[.agg #[.string ⟨#[]⟩, .string ⟨#[]⟩, .int .i64 0], .bool false]) (by simp [results, Tryz.results83, go_sem, r0, r1, r2]) rfl ⟨hfin, _, _, _, rfl⟩
  ·have hd2 : decide ((30 : Int) < (t.size : Int)) = false := decide_eq_false (by omega)
   have HC1 := Lib.hid (fun j h h2 => cut_ne8 (b := t) (c := 32) (j := j) h h2)
   have HC2 := Lib.hid (fun h2 => cut_eq8 (b := t) (c := 32) h2)
   have hAl := cutA_le (txt t) 32
   rw [txt_size] at hAl
   have HXB : Hid (t.extract 0 (cutA (txt t) 32).length = ofBs (cutA (txt t) 32)) := Lib.hid (by
    rw [extract_take t _ hAl]
    conv => rhs; rw [cutA_take]
    rfl)
   have HXC : Hid ((cutA (txt t) 32).length < t.size → t.extract ((cutA (txt t) 32).length + 1) t.size = ofBs (restOf (txt t))) := Lib.hid (fun h => by
    rw [extract_line t _ _ (by omega) (Nat.le_refl _), List.take_of_length_le (by omega)]; rfl)
   have HXD : Hid (¬ (cutA (txt t) 32).length < t.size → restOf (txt t) = []) := Lib.hid (fun h => by
    unfold restOf
    exact List.drop_of_length_le (by show _ ≤ (cutA (txt t) 32).length + 1; omega))
   have HPF := Lib.hid (parseB.eq_1 (txt t))
   rw [if_neg (by omega)] at HPF
   have HMO : Hid (moreOf (txt t) = decide ((cutA (txt t) 32).length < t.size)) := Lib.hid (by unfold moreOf; rw [htl]; rfl)
   have HRL : Hid ((restOf (txt t)).length ≤ 30) := Lib.hid (by unfold restOf; rw [List.length_drop]; omega)
   rw [show wordOf (txt t) = cutA (txt t) 32 from rfl] at HPF
   clear HPB htl
   generalize parseB (txt t) = PB at *
   generalize moreOf (txt t) = MO at *
   generalize restOf (txt t) = RS at *
   generalize cutA (txt t) 32 = A at *
   go_enter Tryz.func83, Tryz.ntmps83
   go_upto_region 1 with fail
   rw [← HWA.out]
   generalize hg2 : w.heap.size = g2 at *
   have HG2 := Lib.hid hg2; clear hg2
   go_wp2_with fail
   go_loopg [4] A.length (fun m i wr => ∃ j : Nat, j ≤ A.length ∧ A.length ≤ j + m ∧ i = .int .i64 j ∧ wA = wr)
   case atStart => exact ⟨0, by omega, by omega, rfl, rfl⟩
   case round =>
    obtain ⟨j, hj, hj2, rfl, rfl⟩ := hrel
    by_cases hjl : j < A.length
    ·have hjb : j < t.size := by omega
     obtain ⟨x, hx⟩ : ∃ x : Nat, (t[j]'hjb).toNat = x := ⟨_, rfl⟩
     have hx10 : ((x : Int) != 32) = true := by have := HC1.out j hjl hjb; simp at this ⊢; omega
     go_wp2_with fail
     go_roundg (gk-1)
     case measure => omega
     case rel => exact ⟨j+1, by omega, by omega, by go_num, rfl⟩
    ·obtain rfl : j = A.length := by omega
     by_cases hM : A.length < t.size
     ·obtain ⟨x, hx⟩ : ∃ x : Nat, (t[A.length]'hM).toNat = x := ⟨_, rfl⟩
      have hx10 : ((x : Int) != 32) = false := by have := HC2.out hM; rw [hx] at this; rw [this]; rfl
      have hMO : MO = true := by rw [HMO.out]; simpa using hM
      subst hMO
      have hxb := HXB.out
      have hxc := HXC.out hM
      have hdm : decide ((A.length : Int) < (t.size : Int)) = true := decide_eq_true (by omega)
      have hde : ((A.length : Int) == (t.size : Int)) = false := by simp; omega
      go_upto_region 7 with fail
      have hb5 := Blk.alloc wA #[.string (ofBs A), .string ⟨#[]⟩, .int .i64 0] 129
      have hx5 := Ext.alloc wA (.cells #[.string (ofBs A), .string ⟨#[]⟩, .int .i64 0] 129)
      have hb25 := hbA.ext hx5
      have hX5 := hEA.trans hx5
      have hne : wA.heap.size ≠ g2 := by have := hbA.lt; omega
      have hgw : g2 ≤ wA.heap.size := by have := hbA.lt; omega
      generalize wA.alloc (.cells #[.string (ofBs A), .string ⟨#[]⟩, .int .i64 0] 129) = w5 at *
      generalize wA.heap.size = g5 at *
      have y0 := hb5.cell (i := 0) rfl
      have y1 := hb5.cell (i := 1) rfl
      have y2 := hb5.cell (i := 2) rfl
      have u0 := hb5.frozen 0
      have u1 := hb5.frozen 1
      have u2 := hb5.frozen 2
      go_upto_region 9 with fail
      have hb6 := hb5.set 1 (.string (ofBs RS))
      have hb26 : Blk _ g2 129 [.string ⟨#[]⟩, .string ⟨#[]⟩, .int .i64 0] := hb25.setR g5 1 (.string (ofBs RS)) hne
      have hX6 : Ext w _ := hX5.setCell (c := g5) (by have := HG2.out; omega) 1 (.string (ofBs RS))
      generalize World.setCell w5 ⟨g5, 1, none⟩ _ = w6 at *
      clear y0 y1 y2 u0 u1 u2 hb5 hb25 hX5
      have y0 := hb6.cell (i := 0) (v := .string (ofBs A)) rfl
      have hB := hb6
      have hB2 := hb26
      have hXc := hX6
      have hrz : (ofBs RS).size ≤ 100000 := by rw [ofBs_size]; have := HRL.out; omega
      have y1 := hb6.cell (i := 1) (v := .string (ofBs RS)) rfl
      have y2 := hb6.cell (i := 2) (v := .int .i64 0) rfl
      have x0 := hB2.cell (i := 0) rfl
      have x1 := hB2.cell (i := 1) rfl
      have x2 := hB2.cell (i := 2) rfl
      have z0 := hB2.frozen 0
      have z1 := hB2.frozen 1
      have z2 := hB2.frozen 2
      by_cases ha0 : A = wStep
      have q0 : ((ofBs A).toList == [115, 116, 101, 112]) = true := by rw [eq_list]; exact decide_eq_true ha0
      have hPB : PB = none := by have := HPF.out; rw [ha0] at this; exact this.trans rfl
      clear HPF ha0
      rotate_left
      by_cases ha1 : A = wEnd
      have q0 : ((ofBs A).toList == [115, 116, 101, 112]) = false := by rw [eq_list]; exact decide_eq_false ha0
      have q1 : ((ofBs A).toList == [101, 110, 100]) = true := by rw [eq_list]; exact decide_eq_true ha1
      have hPB : PB = none := by have := HPF.out; rw [ha1] at this; exact this.trans rfl
      clear HPF ha0 ha1
      rotate_left
      by_cases ha2 : A = wUndo
      have q0 : ((ofBs A).toList == [115, 116, 101, 112]) = false := by rw [eq_list]; exact decide_eq_false ha0
      have q1 : ((ofBs A).toList == [101, 110, 100]) = false := by rw [eq_list]; exact decide_eq_false ha1
      have q2 : ((ofBs A).toList == [117, 110, 100, 111]) = true := by rw [eq_list]; exact decide_eq_true ha2
      have hPB : PB = none := by have := HPF.out; rw [ha2] at this; exact this.trans rfl
      clear HPF ha0 ha1 ha2
      rotate_left
      by_cases ha3 : A = wSay
      have q0 : ((ofBs A).toList == [115, 116, 101, 112]) = false := by rw [eq_list]; exact decide_eq_false ha0
      have q1 : ((ofBs A).toList == [101, 110, 100]) = false := by rw [eq_list]; exact decide_eq_false ha1
      have q2 : ((ofBs A).toList == [117, 110, 100, 111]) = false := by rw [eq_list]; exact decide_eq_false ha2
      have q3 : ((ofBs A).toList == [115, 97, 121]) = true := by rw [eq_list]; exact decide_eq_true ha3
      have hPB : PB = none := by have := HPF.out; rw [ha3] at this; exact this.trans rfl
      clear HPF ha0 ha1 ha2 ha3
      rotate_left
      ·by_cases ha4 : A = wRead
       ·have q0 : ((ofBs A).toList == [115, 116, 101, 112]) = false := by rw [eq_list]; exact decide_eq_false ha0
        have q1 : ((ofBs A).toList == [101, 110, 100]) = false := by rw [eq_list]; exact decide_eq_false ha1
        have q2 : ((ofBs A).toList == [117, 110, 100, 111]) = false := by rw [eq_list]; exact decide_eq_false ha2
        have q3 : ((ofBs A).toList == [115, 97, 121]) = false := by rw [eq_list]; exact decide_eq_false ha3
        have q4 : ((ofBs A).toList == [114, 101, 97, 100]) = true := by rw [eq_list]; exact decide_eq_true ha4
        have hsd := sndOf_digitsB RS
        have HDI := Lib.hid (fun W => rdigits_c (ofBs RS) 8 53 W hrz (by omega) (by omega) (by omega))
        rw [show (ofBs RS).data.toList = RS from txt_of RS] at HDI
        cases hdg : digitsB RS 8 53 with
        | false =>
         rw [hdg] at hsd HDI
         have hso : sndOf RS = none := by cases e : sndOf RS with
          | none => rfl
          | some _ => rw [e] at hsd; cases hsd
         have hPB : PB = none := by have := HPF.out; rw [ha4] at this; exact this.trans (by show (sndOf RS).map Cmd.read = none; rw [hso]; rfl)
         clear hsd hdg hso
         clear HPF ha0 ha1 ha2 ha3
         have HA := Lib.hid ha4
         clear ha4
         have HPB := Lib.hid hPB
         clear hPB
         go_upto_region 16 with fail
         refine wp_region_treeR (fun a b => ExtX (one g2) a b) [] (.look 0 (.look 1 (.look 2 (.look 3 (.look 4 (.look 5 (.look 6 (.look 7 (.one 8 (.look 9 (.one 10 (.look 11 .done)))))))))))) (fun w => ExtX.refl _ w) (fun a b c h k => ExtX.trans h k) (by kernel_rfl) (by kernel_rfl) (by intro c a d v w h; cases d <;> exact h) ?_
         have hd := drawnP_ext w6
         replace hB := hB.ext hd
         replace hB2 := hB2.ext hd
         replace hXc := hXc.trans hd
         clear y0 y1 y2 x0 x1 x2 z0 z1 z2
         generalize { w6 with drawn := w6.drawn + 1 } = W0 at *
         have k0 : ∀ q : InC (fun c => ExtX (one g2) W0 c), q.w.cell? ⟨g5, 0, none⟩ = some (.string (ofBs A)) := fun q => (hB.extX q.h hne).cell rfl
         have k1 : ∀ q : InC (fun c => ExtX (one g2) W0 c), q.w.cell? ⟨g5, 1, none⟩ = some (.string (ofBs RS)) := fun q => (hB.extX q.h hne).cell rfl
         have k2 : ∀ q : InC (fun c => ExtX (one g2) W0 c), q.w.cell? ⟨g5, 2, none⟩ = some (.int .i64 0) := fun q => (hB.extX q.h hne).cell rfl
         iterate 8 (refine wpTreeR_look rfl fun K hK => ?_; go_simp; (first | refine hK _ ?_ | refine ⟨_, fun _ => rfl, hK _ ?_⟩); clear hK K)
         refine wpTreeR_one rfl rfl (fun K hK => ?_)
         go_wp2_with fail
         refine (HDI.out W0).mono ?_; rintro e w7 ⟨rfl, rfl⟩
         go_wp2_with fail
         refine ⟨.inr (ExtX.refl _ _), ?_⟩
         (refine wpTreeR_look rfl fun K hK => ?_; go_simp; (first | refine hK _ ?_ | refine ⟨_, fun _ => rfl, hK _ ?_⟩); clear hK K)
         have x0 := hB2.cell (i := 0) rfl
         have x1 := hB2.cell (i := 1) rfl
         have x2 := hB2.cell (i := 2) rfl
         have z0 := hB2.frozen 0
         have z1 := hB2.frozen 1
         have z2 := hB2.frozen 2
         refine wpTreeR_one rfl rfl (fun K hK => ?_)
         go_wp2_with fail
         refine ⟨.inr (((ExtX.set _ _ _ _).trans (ExtX.set _ _ _ _)).trans (ExtX.set _ _ _ _)), ?_⟩
         (refine wpTreeR_look rfl fun K hK => ?_; go_simp; (first | refine hK _ ?_ | refine ⟨_, fun _ => rfl, hK _ ?_⟩); clear hK K)
         refine wpTreeR_done ?_
         go_wp2_with fail
         have hfin := HS6.out _ 2 (.int .i64 0) (HS6.out _ 1 (.string (ofBs RS)) (HS6.out _ 0 (.string (ofBs A)) hXc))
         have hbf := ((hB2.set 0 (.string (ofBs A))).set 1 (.string (ofBs RS))).set 2 (.int .i64 0)
         have r0 := hbf.cell (i := 0) (v := .string (ofBs A)) rfl
         have r1 := hbf.cell (i := 1) (v := .string (ofBs RS)) rfl
         have r2 := hbf.cell (i := 2) (v := .int .i64 0) rfl
         generalize World.setCell _ ⟨g2, 2, none⟩ _ = wF at *
         refine bodyPost_ret (v := .tuple #[.agg #[.string (ofBs A), .string (ofBs RS), .int .i64 0], .bool false]) (by simp [results, Tryz.results83, go_sem, r0, r1, r2]) rfl ?_
         rw [HPB.out]
         exact ⟨hfin, _, _, _, rfl⟩
        | true =>
         rw [hdg] at hsd HDI
         obtain ⟨wd, hso⟩ : ∃ wd, sndOf RS = some wd := by cases e : sndOf RS with
          | none => rw [e] at hsd; cases hsd
          | some q => exact ⟨q, rfl⟩
         have hPB : PB = some (.read wd) := by have := HPF.out; rw [ha4] at this; exact this.trans (by show (sndOf RS).map Cmd.read = some (.read wd); rw [hso]; rfl)
         clear hsd hdg hso
         clear HPF ha0 ha1 ha2 ha3
         have HA := Lib.hid ha4
         clear ha4
         have HPB := Lib.hid hPB
         clear hPB
         go_upto_region 16 with fail
         refine wp_region_treeR (fun a b => ExtX (one g2) a b) [] (.look 0 (.look 1 (.look 2 (.look 3 (.look 4 (.look 5 (.look 6 (.look 7 (.one 8 (.look 9 (.one 10 (.look 11 .done)))))))))))) (fun w => ExtX.refl _ w) (fun a b c h k => ExtX.trans h k) (by kernel_rfl) (by kernel_rfl) (by intro c a d v w h; cases d <;> exact h) ?_
         have hd := drawnP_ext w6
         replace hB := hB.ext hd
         replace hB2 := hB2.ext hd
         replace hXc := hXc.trans hd
         clear y0 y1 y2 x0 x1 x2 z0 z1 z2
         generalize { w6 with drawn := w6.drawn + 1 } = W0 at *
         have k0 : ∀ q : InC (fun c => ExtX (one g2) W0 c), q.w.cell? ⟨g5, 0, none⟩ = some (.string (ofBs A)) := fun q => (hB.extX q.h hne).cell rfl
         have k1 : ∀ q : InC (fun c => ExtX (one g2) W0 c), q.w.cell? ⟨g5, 1, none⟩ = some (.string (ofBs RS)) := fun q => (hB.extX q.h hne).cell rfl
         have k2 : ∀ q : InC (fun c => ExtX (one g2) W0 c), q.w.cell? ⟨g5, 2, none⟩ = some (.int .i64 0) := fun q => (hB.extX q.h hne).cell rfl
         iterate 8 (refine wpTreeR_look rfl fun K hK => ?_; go_simp; (first | refine hK _ ?_ | refine ⟨_, fun _ => rfl, hK _ ?_⟩); clear hK K)
         refine wpTreeR_one rfl rfl (fun K hK => ?_)
         go_wp2_with fail
         refine (HDI.out W0).mono ?_; rintro e w7 ⟨rfl, rfl⟩
         go_wp2_with fail
         refine ⟨.inr (ExtX.refl _ _), ?_⟩
         (refine wpTreeR_look rfl fun K hK => ?_; go_simp; (first | refine hK _ ?_ | refine ⟨_, fun _ => rfl, hK _ ?_⟩); clear hK K)
         have x0 := hB2.cell (i := 0) rfl
         have x1 := hB2.cell (i := 1) rfl
         have x2 := hB2.cell (i := 2) rfl
         have z0 := hB2.frozen 0
         have z1 := hB2.frozen 1
         have z2 := hB2.frozen 2
         refine wpTreeR_one rfl rfl (fun K hK => ?_)
         go_wp2_with fail
         refine ⟨.inr (((ExtX.set _ _ _ _).trans (ExtX.set _ _ _ _)).trans (ExtX.set _ _ _ _)), ?_⟩
         (refine wpTreeR_look rfl fun K hK => ?_; go_simp; (first | refine hK _ ?_ | refine ⟨_, fun _ => rfl, hK _ ?_⟩); clear hK K)
         refine wpTreeR_done ?_
         go_wp2_with fail
         have hfin := HS6.out _ 2 (.int .i64 0) (HS6.out _ 1 (.string (ofBs RS)) (HS6.out _ 0 (.string (ofBs A)) hXc))
         have hbf := ((hB2.set 0 (.string (ofBs A))).set 1 (.string (ofBs RS))).set 2 (.int .i64 0)
         have r0 := hbf.cell (i := 0) (v := .string (ofBs A)) rfl
         have r1 := hbf.cell (i := 1) (v := .string (ofBs RS)) rfl
         have r2 := hbf.cell (i := 2) (v := .int .i64 0) rfl
         generalize World.setCell _ ⟨g2, 2, none⟩ _ = wF at *
         refine bodyPost_ret (v := .tuple #[.agg #[.string (ofBs A), .string (ofBs RS), .int .i64 0], .bool true]) (by simp [results, Tryz.results83, go_sem, r0, r1, r2]) rfl ?_
         rw [HPB.out]
         exact ⟨hfin, by rw [HA.out]; rfl⟩
       by_cases ha5 : A = wLearn
       have q0 : ((ofBs A).toList == [115, 116, 101, 112]) = false := by rw [eq_list]; exact decide_eq_false ha0
       have q1 : ((ofBs A).toList == [101, 110, 100]) = false := by rw [eq_list]; exact decide_eq_false ha1
       have q2 : ((ofBs A).toList == [117, 110, 100, 111]) = false := by rw [eq_list]; exact decide_eq_false ha2
       have q3 : ((ofBs A).toList == [115, 97, 121]) = false := by rw [eq_list]; exact decide_eq_false ha3
       have q4 : ((ofBs A).toList == [114, 101, 97, 100]) = false := by rw [eq_list]; exact decide_eq_false ha4
       have q5 : ((ofBs A).toList == [108, 101, 97, 114, 110]) = true := by rw [eq_list]; exact decide_eq_true ha5
       have HNW : Hid ((numOf RS = none → PB = none) ∧ ∀ n, numOf RS = some n → ∃ c, PB = some c ∧ ofBs (headC c) = ofBs A ∧ (numC c : Int) = n) := Lib.hid ⟨fun h => by have e := HPF.out; rw [ha5] at e; exact e.trans (by show (numOf RS).map Cmd.learn = none; rw [h]; rfl), fun n h => ⟨.learn n, by have e := HPF.out; rw [ha5] at e; exact e.trans (by show (numOf RS).map Cmd.learn = some (.learn n); rw [h]; rfl), by rw [ha5]; rfl, rfl⟩⟩
       clear HPF ha0 ha1 ha2 ha3 ha4 ha5
       rotate_left
       by_cases ha6 : A = wForget
       have q0 : ((ofBs A).toList == [115, 116, 101, 112]) = false := by rw [eq_list]; exact decide_eq_false ha0
       have q1 : ((ofBs A).toList == [101, 110, 100]) = false := by rw [eq_list]; exact decide_eq_false ha1
       have q2 : ((ofBs A).toList == [117, 110, 100, 111]) = false := by rw [eq_list]; exact decide_eq_false ha2
       have q3 : ((ofBs A).toList == [115, 97, 121]) = false := by rw [eq_list]; exact decide_eq_false ha3
       have q4 : ((ofBs A).toList == [114, 101, 97, 100]) = false := by rw [eq_list]; exact decide_eq_false ha4
       have q5 : ((ofBs A).toList == [108, 101, 97, 114, 110]) = false := by rw [eq_list]; exact decide_eq_false ha5
       have q6 : ((ofBs A).toList == [102, 111, 114, 103, 101, 116]) = true := by rw [eq_list]; exact decide_eq_true ha6
       have HNW : Hid ((numOf RS = none → PB = none) ∧ ∀ n, numOf RS = some n → ∃ c, PB = some c ∧ ofBs (headC c) = ofBs A ∧ (numC c : Int) = n) := Lib.hid ⟨fun h => by have e := HPF.out; rw [ha6] at e; exact e.trans (by show (numOf RS).map Cmd.forget = none; rw [h]; rfl), fun n h => ⟨.forget n, by have e := HPF.out; rw [ha6] at e; exact e.trans (by show (numOf RS).map Cmd.forget = some (.forget n); rw [h]; rfl), by rw [ha6]; rfl, rfl⟩⟩
       clear HPF ha0 ha1 ha2 ha3 ha4 ha5 ha6
       rotate_left
       by_cases ha7 : A = wSwitch
       have q0 : ((ofBs A).toList == [115, 116, 101, 112]) = false := by rw [eq_list]; exact decide_eq_false ha0
       have q1 : ((ofBs A).toList == [101, 110, 100]) = false := by rw [eq_list]; exact decide_eq_false ha1
       have q2 : ((ofBs A).toList == [117, 110, 100, 111]) = false := by rw [eq_list]; exact decide_eq_false ha2
       have q3 : ((ofBs A).toList == [115, 97, 121]) = false := by rw [eq_list]; exact decide_eq_false ha3
       have q4 : ((ofBs A).toList == [114, 101, 97, 100]) = false := by rw [eq_list]; exact decide_eq_false ha4
       have q5 : ((ofBs A).toList == [108, 101, 97, 114, 110]) = false := by rw [eq_list]; exact decide_eq_false ha5
       have q6 : ((ofBs A).toList == [102, 111, 114, 103, 101, 116]) = false := by rw [eq_list]; exact decide_eq_false ha6
       have q7 : ((ofBs A).toList == [115, 119, 105, 116, 99, 104]) = true := by rw [eq_list]; exact decide_eq_true ha7
       have HNW : Hid ((numOf RS = none → PB = none) ∧ ∀ n, numOf RS = some n → ∃ c, PB = some c ∧ ofBs (headC c) = ofBs A ∧ (numC c : Int) = n) := Lib.hid ⟨fun h => by have e := HPF.out; rw [ha7] at e; exact e.trans (by show (numOf RS).map Cmd.change = none; rw [h]; rfl), fun n h => ⟨.change n, by have e := HPF.out; rw [ha7] at e; exact e.trans (by show (numOf RS).map Cmd.change = some (.change n); rw [h]; rfl), by rw [ha7]; rfl, rfl⟩⟩
       clear HPF ha0 ha1 ha2 ha3 ha4 ha5 ha6 ha7
       rotate_left
       ·have q0 : ((ofBs A).toList == [115, 116, 101, 112]) = false := by rw [eq_list]; exact decide_eq_false ha0
        have q1 : ((ofBs A).toList == [101, 110, 100]) = false := by rw [eq_list]; exact decide_eq_false ha1
        have q2 : ((ofBs A).toList == [117, 110, 100, 111]) = false := by rw [eq_list]; exact decide_eq_false ha2
        have q3 : ((ofBs A).toList == [115, 97, 121]) = false := by rw [eq_list]; exact decide_eq_false ha3
        have q4 : ((ofBs A).toList == [114, 101, 97, 100]) = false := by rw [eq_list]; exact decide_eq_false ha4
        have q5 : ((ofBs A).toList == [108, 101, 97, 114, 110]) = false := by rw [eq_list]; exact decide_eq_false ha5
        have q6 : ((ofBs A).toList == [102, 111, 114, 103, 101, 116]) = false := by rw [eq_list]; exact decide_eq_false ha6
        have q7 : ((ofBs A).toList == [115, 119, 105, 116, 99, 104]) = false := by rw [eq_list]; exact decide_eq_false ha7
        have hPB : PB = none := by have := HPF.out; rw [if_neg ha5, if_neg ha6, if_neg ha7, if_neg ha4, if_neg ha0, if_neg ha1, if_neg ha2, if_neg ha3] at this; exact this
        clear HPF ha0 ha1 ha2 ha3 ha4 ha5 ha6 ha7
        have HPB := Lib.hid hPB
        clear hPB
        go_wp2_with fail
        have hfin := HS6.out _ 2 (.int .i64 0) (HS6.out _ 1 (.string ⟨#[]⟩) (HS6.out _ 0 (.string ⟨#[]⟩) hXc))
        have hbf := ((hB2.set 0 (.string ⟨#[]⟩)).set 1 (.string ⟨#[]⟩)).set 2 (.int .i64 0)
        have r0 := hbf.cell (i := 0) (v := .string ⟨#[]⟩) rfl
        have r1 := hbf.cell (i := 1) (v := .string ⟨#[]⟩) rfl
        have r2 := hbf.cell (i := 2) (v := .int .i64 0) rfl
        generalize World.setCell _ ⟨g2, 2, none⟩ _ = wF at *
        refine bodyPost_ret (v := .tuple #[.agg #[.string ⟨#[]⟩, .string ⟨#[]⟩, .int .i64 0], .bool false]) (by simp [results, Tryz.results83, go_sem, r0, r1, r2]) rfl ?_
        rw [HPB.out]
        exact ⟨hfin, _, _, _, rfl⟩
       all_goals
        have hnd := numOf_digitsB RS
        have HDI := Lib.hid (fun W => rdigits_c (ofBs RS) 2 57 W hrz (by omega) (by omega) (by omega))
        rw [show (ofBs RS).data.toList = RS from txt_of RS] at HDI
        cases hdg : digitsB RS 2 57 with
        | false =>
         rw [hdg] at hnd HDI
         rw [Bool.false_and] at hnd
         have hno : numOf RS = none := by cases e : numOf RS with
          | none => rfl
          | some _ => rw [e] at hnd; simp at hnd
         have hPB : PB = none := HNW.out.1 hno
         clear hnd hno
         have HPB := Lib.hid hPB
         clear hPB
         clear hdg
         go_wp2_with fail
         refine (HDI.out w6).mono ?_; rintro e w7 ⟨rfl, rfl⟩
         go_wp2_with fail
         have hfin := HS6.out _ 2 (.int .i64 0) (HS6.out _ 1 (.string ⟨#[]⟩) (HS6.out _ 0 (.string ⟨#[]⟩) hXc))
         have hbf := ((hB2.set 0 (.string ⟨#[]⟩)).set 1 (.string ⟨#[]⟩)).set 2 (.int .i64 0)
         have r0 := hbf.cell (i := 0) (v := .string ⟨#[]⟩) rfl
         have r1 := hbf.cell (i := 1) (v := .string ⟨#[]⟩) rfl
         have r2 := hbf.cell (i := 2) (v := .int .i64 0) rfl
         generalize World.setCell _ ⟨g2, 2, none⟩ _ = wF at *
         refine bodyPost_ret (v := .tuple #[.agg #[.string ⟨#[]⟩, .string ⟨#[]⟩, .int .i64 0], .bool false]) (by simp [results, Tryz.results83, go_sem, r0, r1, r2]) rfl ?_
         rw [HPB.out]
         exact ⟨hfin, _, _, _, rfl⟩
        | true =>
         rw [hdg] at hnd HDI
         rw [Bool.true_and] at hnd
         obtain ⟨hl1, hl2⟩ : 1 ≤ RS.length ∧ RS.length ≤ 2 := by unfold digitsB at hdg; simp at hdg; omega
         have hsz : (ofBs RS).size = RS.length := ofBs_size RS
         cases hno : noughtB RS with
         | true =>
          rw [hno] at hnd
          obtain ⟨hn1, hn2⟩ : 1 < RS.length ∧ RS[0]? = some 48 := by unfold noughtB at hno; simpa using hno
          have hz1 : decide ((1 : Int) < ((ofBs RS).size : Int)) = true := decide_eq_true (by omega)
          have h0 : 0 < (ofBs RS).size := by omega
          have h0i : (0 : Int) < ((ofBs RS).size : Int) := by omega
          have hx : ((ofBs RS)[0]'h0).toNat = 48 := by
           rw [dig_at RS 0 h0 (by omega)]
           rw [List.getElem?_eq_getElem (by omega)] at hn2
           injection hn2 with hn2
           rw [hn2]; rfl
          clear hno hn2
          have hno : numOf RS = none := by cases e : numOf RS with
           | none => rfl
           | some _ => rw [e] at hnd; simp at hnd
          have hPB : PB = none := HNW.out.1 hno
          clear hnd hno hdg
          have HPB := Lib.hid hPB
          clear hPB
          go_wp2_with fail
          refine (HDI.out w6).mono ?_; rintro e w7 ⟨rfl, rfl⟩
          go_wp2_with fail
          have hfin := HS6.out _ 2 (.int .i64 0) (HS6.out _ 1 (.string ⟨#[]⟩) (HS6.out _ 0 (.string ⟨#[]⟩) hXc))
          have hbf := ((hB2.set 0 (.string ⟨#[]⟩)).set 1 (.string ⟨#[]⟩)).set 2 (.int .i64 0)
          have r0 := hbf.cell (i := 0) (v := .string ⟨#[]⟩) rfl
          have r1 := hbf.cell (i := 1) (v := .string ⟨#[]⟩) rfl
          have r2 := hbf.cell (i := 2) (v := .int .i64 0) rfl
          generalize World.setCell _ ⟨g2, 2, none⟩ _ = wF at *
          refine bodyPost_ret (v := .tuple #[.agg #[.string ⟨#[]⟩, .string ⟨#[]⟩, .int .i64 0], .bool false]) (by simp [results, Tryz.results83, go_sem, r0, r1, r2]) rfl ?_
          rw [HPB.out]
          exact ⟨hfin, _, _, _, rfl⟩
         | false =>
          rw [hno] at hnd
          obtain ⟨n, hnn⟩ : ∃ n, numOf RS = some n := by cases e : numOf RS with
           | none => rw [e] at hnd; simp at hnd
           | some n => exact ⟨n, rfl⟩
          obtain ⟨cm, hPB, hcA, hcN⟩ := HNW.out.2 n hnn
          have HCA := Lib.hid hcA
          have HCN := Lib.hid hcN
          clear hcA hcN
          obtain ⟨hvn, hvd, hvb⟩ := valD_num hnn
          have HVN := Lib.hid hvn
          have HVB := Lib.hid hvb
          have HDG : Hid (∀ j (h : j < RS.length) (h2 : j < (ofBs RS).size), 48 ≤ ((ofBs RS)[j]'h2).toNat ∧ ((ofBs RS)[j]'h2).toNat ≤ 57 ∧ valD RS (j + 1) = 10 * valD RS j + ((((ofBs RS)[j]'h2).toNat : Int) - 48)) := Lib.hid (fun j h h2 => by rw [dig_at RS j h2 h]; exact ⟨(hvd j h).1, (hvd j h).2, valD_succ h⟩)
          have HV0 : Hid (valD RS 0 = 0) := Lib.hid rfl
          have HNO : Hid (noughtB RS = false) := Lib.hid hno
          clear hnd hnn hno hdg hvn hvd hvb
          have HPB := Lib.hid hPB
          clear hPB
          by_cases h12 : 1 < RS.length
          have hz1 : decide ((1 : Int) < ((ofBs RS).size : Int)) = true := decide_eq_true (by omega)
          have h0 : 0 < (ofBs RS).size := by omega
          have h0i : (0 : Int) < ((ofBs RS).size : Int) := by omega
          obtain ⟨xz, hxz⟩ : ∃ x : Nat, ((ofBs RS)[0]'h0).toNat = x := ⟨_, rfl⟩
          have hx48 : ((xz : Int) == 48) = false := by
           have h1 := HNO.out
           unfold noughtB at h1
           rw [List.getElem?_eq_getElem (show 0 < RS.length by omega)] at h1
           have h2 : RS[0]'(by omega) ≠ 48 := by simpa [h12] using h1
           rw [dig_at RS 0 h0 (by omega)] at hxz
           have h3 : xz ≠ 48 := fun e => h2 (UInt8.toNat_inj.1 (by rw [hxz, e]; rfl))
           simp; omega
          rotate_left
          have hz1 : decide ((1 : Int) < ((ofBs RS).size : Int)) = false := decide_eq_false (by omega)
          all_goals
           go_wp2_with fail
           refine (HDI.out w6).mono ?_; rintro e w7 ⟨rfl, rfl⟩
           go_wp2_with fail
           go_loopg [6] RS.length (fun m i wr => ∃ j : Nat, j ≤ RS.length ∧ RS.length ≤ j + m ∧ i = .int .i64 j ∧ Ext w wr ∧ Blk wr g2 129 [.string ⟨#[]⟩, .string ⟨#[]⟩, .int .i64 0] ∧ Blk wr g5 129 [.string (ofBs A), .string (ofBs RS), .int .i64 (valD RS j)])
           case atStart => exact ⟨0, by omega, by omega, rfl, hXc, hB2, by rw [HV0.out]; exact hB⟩
           case round =>
            obtain ⟨j, hj, hj2, rfl, hXr, hG2, hG5⟩ := hrel
            clear x0 x1 x2 z0 z1 z2 y0 y1 y2
            have y0 := hG5.cell (i := 0) (v := .string (ofBs A)) rfl
            have y1 := hG5.cell (i := 1) (v := .string (ofBs RS)) rfl
            have y2 := hG5.cell (i := 2) (v := .int .i64 (valD RS j)) rfl
            by_cases hjl : j < RS.length
            ·have hjb : j < (ofBs RS).size := by omega
             obtain ⟨x, hx⟩ : ∃ x : Nat, ((ofBs RS)[j]'hjb).toNat = x := ⟨_, rfl⟩
             obtain ⟨hd1, hd2, hd3⟩ := HDG.out j hjl hjb
             rw [hx] at hd1 hd2 hd3
             obtain ⟨hvb1, hvb2⟩ := HVB.out j (by omega)
             have HVS : Hid (valD RS (j + 1) = 10 * valD RS j + ((x : Int) - 48)) := Lib.hid hd3
             clear hd3
             generalize valD RS j = n0 at *
             have hw1 : IntKind.u8.wrap ((x : Int) - 48) = (x : Int) - 48 := by unfold IntKind.wrap; simp [IntKind.bits, IntKind.signed]; omega
             have hw2 : IntKind.i64.wrap ((x : Int) - 48) = (x : Int) - 48 := IntWalk.i64_in _ (by omega)
             have hw3 : IntKind.i64.wrap (10 * n0) = 10 * n0 := IntWalk.i64_in _ (by omega)
             have hw4 : IntKind.i64.wrap (10 * n0 + ((x : Int) - 48)) = 10 * n0 + ((x : Int) - 48) := IntWalk.i64_in _ (by omega)
             go_upto_region 25 with fail
             refine wp_region_treeR (fun a b => Ext a b) [11] (.look 0 (.look 1 (.look 2 (.look 3 (.look 4 (.look 5 (.look 6 (.look 7 (.look 8 (.look 9 (.look 10 (.one 11 .done)))))))))))) (fun w => Ext.refl w) (fun a b c h k => Ext.trans h k) (by kernel_rfl) (by kernel_rfl) (by intro c a d v w h; cases d <;> exact h) ?_
             have hd := drawnP_ext wr
             replace hXr := hXr.trans hd
             replace hG2 := hG2.ext hd
             replace hG5 := hG5.ext hd
             clear y0 y1 y2
             generalize { wr with drawn := wr.drawn + 1 } = W0 at *
             have k1 : ∀ q : InC (fun c => Ext W0 c), q.w.cell? ⟨g5, 1, none⟩ = some (.string (ofBs RS)) := fun q => (hG5.ext q.h).cell rfl
             have k2 : ∀ q : InC (fun c => Ext W0 c), q.w.cell? ⟨g5, 2, none⟩ = some (.int .i64 n0) := fun q => (hG5.ext q.h).cell rfl
             have y2 := hG5.cell (i := 2) (v := .int .i64 n0) rfl
             have f2 := hG5.frozen 2
             iterate 11 (refine wpTreeR_look rfl fun K hK => ?_; go_simp; (first | refine hK _ ?_ | refine ⟨_, fun _ => rfl, hK _ ?_⟩); clear hK K)
             refine wpTreeR_one rfl rfl (fun K hK => ?_)
             go_wp2_with fail
             refine ⟨.inl (by simp), ?_⟩
             refine wpTreeR_done ?_
             have hGn := hG5.set 2 (.int .i64 (10 * n0 + ((x : Int) - 48)))
             have hGm : Blk _ g2 129 [.string ⟨#[]⟩, .string ⟨#[]⟩, .int .i64 0] := hG2.setR g5 2 (.int .i64 (10 * n0 + ((x : Int) - 48))) hne
             have hXn : Ext w _ := hXr.setCell (c := g5) (by have := HG2.out; omega) 2 (.int .i64 (10 * n0 + ((x : Int) - 48)))
             generalize World.setCell W0 ⟨g5, 2, none⟩ _ = W2 at *
             go_wp2_with fail
             go_roundg (gk-1)
             case measure => omega
             case rel => exact ⟨j+1, by omega, by omega, by go_num, hXn, hGm, by rw [HVS.out]; exact hGn⟩
            ·obtain rfl : j = RS.length := by omega
             rw [HVN.out] at hG5 y2
             have x0 := hG2.cell (i := 0) rfl
             have x1 := hG2.cell (i := 1) rfl
             have x2 := hG2.cell (i := 2) rfl
             have z0 := hG2.frozen 0
             have z1 := hG2.frozen 1
             have z2 := hG2.frozen 2
             go_wp2_with fail
             have hfin := HS6.out _ 2 (.int .i64 (n : Int)) (HS6.out _ 1 (.string (ofBs RS)) (HS6.out _ 0 (.string (ofBs A)) hXr))
             have hbf := ((hG2.set 0 (.string (ofBs A))).set 1 (.string (ofBs RS))).set 2 (.int .i64 (n : Int))
             have r0 := hbf.cell (i := 0) (v := .string (ofBs A)) rfl
             have r1 := hbf.cell (i := 1) (v := .string (ofBs RS)) rfl
             have r2 := hbf.cell (i := 2) (v := .int .i64 (n : Int)) rfl
             generalize World.setCell _ ⟨g2, 2, none⟩ _ = wF at *
             refine bodyPost_ret (v := .tuple #[.agg #[.string (ofBs A), .string (ofBs RS), .int .i64 (n : Int)], .bool true]) (by simp [results, Tryz.results83, go_sem, r0, r1, r2]) rfl ?_
             rw [HPB.out]
             exact ⟨hfin, by dsimp only; rw [HCA.out, HCN.out]⟩
      all_goals
       have HPB := Lib.hid hPB
       clear hPB
       go_wp2_with fail
       have hfin := HS6.out _ 2 (.int .i64 0) (HS6.out _ 1 (.string (ofBs RS)) (HS6.out _ 0 (.string (ofBs A)) hXc))
       have hbf := ((hB2.set 0 (.string (ofBs A))).set 1 (.string (ofBs RS))).set 2 (.int .i64 0)
       have r0 := hbf.cell (i := 0) (v := .string (ofBs A)) rfl
       have r1 := hbf.cell (i := 1) (v := .string (ofBs RS)) rfl
       have r2 := hbf.cell (i := 2) (v := .int .i64 0) rfl
       generalize World.setCell _ ⟨g2, 2, none⟩ _ = wF at *
       refine bodyPost_ret (v := .tuple #[.agg #[.string (ofBs A), .string (ofBs RS), .int .i64 0], .bool false]) (by simp [results, Tryz.results83, go_sem, r0, r1, r2]) rfl ?_
       rw [HPB.out]
       exact ⟨hfin, _, _, _, rfl⟩
     ·have hMO : MO = false := by rw [HMO.out]; simpa using hM
      subst hMO
      have hdm : decide ((A.length : Int) < (t.size : Int)) = false := decide_eq_false (by omega)
      have hde : ((A.length : Int) == (t.size : Int)) = true := by simp; omega
      have hxb := HXB.out
      have hR0 := HXD.out hM
      subst hR0
      go_upto_region 7 with fail
      have hb5 := Blk.alloc wA #[.string (ofBs A), .string ⟨#[]⟩, .int .i64 0] 129
      have hx5 := Ext.alloc wA (.cells #[.string (ofBs A), .string ⟨#[]⟩, .int .i64 0] 129)
      have hb25 := hbA.ext hx5
      have hX5 := hEA.trans hx5
      have hne : wA.heap.size ≠ g2 := by have := hbA.lt; omega
      have hgw : g2 ≤ wA.heap.size := by have := hbA.lt; omega
      generalize wA.alloc (.cells #[.string (ofBs A), .string ⟨#[]⟩, .int .i64 0] 129) = w5 at *
      generalize wA.heap.size = g5 at *
      have y0 := hb5.cell (i := 0) rfl
      have y1 := hb5.cell (i := 1) rfl
      have y2 := hb5.cell (i := 2) rfl
      go_upto_region 9 with fail
      have hB := hb5
      have hB2 := hb25
      have hXc := hX5
      have x0 := hB2.cell (i := 0) rfl
      have x1 := hB2.cell (i := 1) rfl
      have x2 := hB2.cell (i := 2) rfl
      have z0 := hB2.frozen 0
      have z1 := hB2.frozen 1
      have z2 := hB2.frozen 2
      by_cases ha0 : A = wStep
      have q0 : ((ofBs A).toList == [115, 116, 101, 112]) = true := by rw [eq_list]; exact decide_eq_true ha0
      have hPB0 : PB = some .step := by have := HPF.out; rw [ha0] at this; exact this.trans rfl
      obtain ⟨cm, hPB, HCM⟩ : ∃ c, PB = some c ∧ Hid (ofBs (headC c) = ofBs A ∧ (numC c : Int) = 0) := ⟨_, hPB0, Lib.hid ⟨by rw [ha0]; rfl, rfl⟩⟩
      clear hPB0
      clear HPF ha0
      rotate_left
      by_cases ha1 : A = wEnd
      have q0 : ((ofBs A).toList == [115, 116, 101, 112]) = false := by rw [eq_list]; exact decide_eq_false ha0
      have q1 : ((ofBs A).toList == [101, 110, 100]) = true := by rw [eq_list]; exact decide_eq_true ha1
      have hPB0 : PB = some .fin := by have := HPF.out; rw [ha1] at this; exact this.trans rfl
      obtain ⟨cm, hPB, HCM⟩ : ∃ c, PB = some c ∧ Hid (ofBs (headC c) = ofBs A ∧ (numC c : Int) = 0) := ⟨_, hPB0, Lib.hid ⟨by rw [ha1]; rfl, rfl⟩⟩
      clear hPB0
      clear HPF ha0 ha1
      rotate_left
      by_cases ha2 : A = wUndo
      have q0 : ((ofBs A).toList == [115, 116, 101, 112]) = false := by rw [eq_list]; exact decide_eq_false ha0
      have q1 : ((ofBs A).toList == [101, 110, 100]) = false := by rw [eq_list]; exact decide_eq_false ha1
      have q2 : ((ofBs A).toList == [117, 110, 100, 111]) = true := by rw [eq_list]; exact decide_eq_true ha2
      have hPB0 : PB = some .undo := by have := HPF.out; rw [ha2] at this; exact this.trans rfl
      obtain ⟨cm, hPB, HCM⟩ : ∃ c, PB = some c ∧ Hid (ofBs (headC c) = ofBs A ∧ (numC c : Int) = 0) := ⟨_, hPB0, Lib.hid ⟨by rw [ha2]; rfl, rfl⟩⟩
      clear hPB0
      clear HPF ha0 ha1 ha2
      rotate_left
      by_cases ha3 : A = wSay
      have q0 : ((ofBs A).toList == [115, 116, 101, 112]) = false := by rw [eq_list]; exact decide_eq_false ha0
      have q1 : ((ofBs A).toList == [101, 110, 100]) = false := by rw [eq_list]; exact decide_eq_false ha1
      have q2 : ((ofBs A).toList == [117, 110, 100, 111]) = false := by rw [eq_list]; exact decide_eq_false ha2
      have q3 : ((ofBs A).toList == [115, 97, 121]) = true := by rw [eq_list]; exact decide_eq_true ha3
      have hPB0 : PB = some .say := by have := HPF.out; rw [ha3] at this; exact this.trans rfl
      obtain ⟨cm, hPB, HCM⟩ : ∃ c, PB = some c ∧ Hid (ofBs (headC c) = ofBs A ∧ (numC c : Int) = 0) := ⟨_, hPB0, Lib.hid ⟨by rw [ha3]; rfl, rfl⟩⟩
      clear hPB0
      clear HPF ha0 ha1 ha2 ha3
      rotate_left
      ·by_cases ha4 : A = wRead
       ·have q0 : ((ofBs A).toList == [115, 116, 101, 112]) = false := by rw [eq_list]; exact decide_eq_false ha0
        have q1 : ((ofBs A).toList == [101, 110, 100]) = false := by rw [eq_list]; exact decide_eq_false ha1
        have q2 : ((ofBs A).toList == [117, 110, 100, 111]) = false := by rw [eq_list]; exact decide_eq_false ha2
        have q3 : ((ofBs A).toList == [115, 97, 121]) = false := by rw [eq_list]; exact decide_eq_false ha3
        have q4 : ((ofBs A).toList == [114, 101, 97, 100]) = true := by rw [eq_list]; exact decide_eq_true ha4
        have hPB : PB = none := by have := HPF.out; rw [ha4] at this; exact this.trans rfl
        clear HPF ha0 ha1 ha2 ha3
        have HA := Lib.hid ha4
        clear ha4
        have HPB := Lib.hid hPB
        clear hPB
        go_upto_region 16 with fail
        refine wp_region_treeR (fun a b => ExtX (one g2) a b) [] (.look 0 (.look 1 (.look 2 (.look 3 (.look 4 (.look 5 (.look 6 (.look 7 (.look 8 (.look 9 (.one 10 (.look 11 .done)))))))))))) (fun w => ExtX.refl _ w) (fun a b c h k => ExtX.trans h k) (by kernel_rfl) (by kernel_rfl) (by intro c a d v w h; cases d <;> exact h) ?_
        have hd := drawnP_ext w5
        replace hB := hB.ext hd
        replace hB2 := hB2.ext hd
        replace hXc := hXc.trans hd
        clear y0 y1 y2 x0 x1 x2 z0 z1 z2
        generalize { w5 with drawn := w5.drawn + 1 } = W0 at *
        have k0 : ∀ q : InC (fun c => ExtX (one g2) W0 c), q.w.cell? ⟨g5, 0, none⟩ = some (.string (ofBs A)) := fun q => (hB.extX q.h hne).cell rfl
        have k1 : ∀ q : InC (fun c => ExtX (one g2) W0 c), q.w.cell? ⟨g5, 1, none⟩ = some (.string ⟨#[]⟩) := fun q => (hB.extX q.h hne).cell rfl
        have k2 : ∀ q : InC (fun c => ExtX (one g2) W0 c), q.w.cell? ⟨g5, 2, none⟩ = some (.int .i64 0) := fun q => (hB.extX q.h hne).cell rfl
        iterate 10 (refine wpTreeR_look rfl fun K hK => ?_; go_simp; (first | refine hK _ ?_ | refine ⟨_, fun _ => rfl, hK _ ?_⟩); clear hK K)
        have x0 := hB2.cell (i := 0) rfl
        have x1 := hB2.cell (i := 1) rfl
        have x2 := hB2.cell (i := 2) rfl
        have z0 := hB2.frozen 0
        have z1 := hB2.frozen 1
        have z2 := hB2.frozen 2
        refine wpTreeR_one rfl rfl (fun K hK => ?_)
        go_wp2_with fail
        refine ⟨.inr (((ExtX.set _ _ _ _).trans (ExtX.set _ _ _ _)).trans (ExtX.set _ _ _ _)), ?_⟩
        (refine wpTreeR_look rfl fun K hK => ?_; go_simp; (first | refine hK _ ?_ | refine ⟨_, fun _ => rfl, hK _ ?_⟩); clear hK K)
        refine wpTreeR_done ?_
        go_wp2_with fail
        have hfin := HS6.out _ 2 (.int .i64 0) (HS6.out _ 1 (.string ⟨#[]⟩) (HS6.out _ 0 (.string (ofBs A)) hXc))
        have hbf := ((hB2.set 0 (.string (ofBs A))).set 1 (.string ⟨#[]⟩)).set 2 (.int .i64 0)
        have r0 := hbf.cell (i := 0) (v := .string (ofBs A)) rfl
        have r1 := hbf.cell (i := 1) (v := .string ⟨#[]⟩) rfl
        have r2 := hbf.cell (i := 2) (v := .int .i64 0) rfl
        generalize World.setCell _ ⟨g2, 2, none⟩ _ = wF at *
        refine bodyPost_ret (v := .tuple #[.agg #[.string (ofBs A), .string ⟨#[]⟩, .int .i64 0], .bool false]) (by simp [results, Tryz.results83, go_sem, r0, r1, r2]) rfl ?_
        rw [HPB.out]
        exact ⟨hfin, _, _, _, rfl⟩
       by_cases ha5 : A = wLearn
       have q0 : ((ofBs A).toList == [115, 116, 101, 112]) = false := by rw [eq_list]; exact decide_eq_false ha0
       have q1 : ((ofBs A).toList == [101, 110, 100]) = false := by rw [eq_list]; exact decide_eq_false ha1
       have q2 : ((ofBs A).toList == [117, 110, 100, 111]) = false := by rw [eq_list]; exact decide_eq_false ha2
       have q3 : ((ofBs A).toList == [115, 97, 121]) = false := by rw [eq_list]; exact decide_eq_false ha3
       have q4 : ((ofBs A).toList == [114, 101, 97, 100]) = false := by rw [eq_list]; exact decide_eq_false ha4
       have q5 : ((ofBs A).toList == [108, 101, 97, 114, 110]) = true := by rw [eq_list]; exact decide_eq_true ha5
       have hPB : PB = none := by have := HPF.out; rw [ha5] at this; exact this.trans rfl
       clear HPF ha0 ha1 ha2 ha3 ha4 ha5
       rotate_left
       by_cases ha6 : A = wForget
       have q0 : ((ofBs A).toList == [115, 116, 101, 112]) = false := by rw [eq_list]; exact decide_eq_false ha0
       have q1 : ((ofBs A).toList == [101, 110, 100]) = false := by rw [eq_list]; exact decide_eq_false ha1
       have q2 : ((ofBs A).toList == [117, 110, 100, 111]) = false := by rw [eq_list]; exact decide_eq_false ha2
       have q3 : ((ofBs A).toList == [115, 97, 121]) = false := by rw [eq_list]; exact decide_eq_false ha3
       have q4 : ((ofBs A).toList == [114, 101, 97, 100]) = false := by rw [eq_list]; exact decide_eq_false ha4
       have q5 : ((ofBs A).toList == [108, 101, 97, 114, 110]) = false := by rw [eq_list]; exact decide_eq_false ha5
       have q6 : ((ofBs A).toList == [102, 111, 114, 103, 101, 116]) = true := by rw [eq_list]; exact decide_eq_true ha6
       have hPB : PB = none := by have := HPF.out; rw [ha6] at this; exact this.trans rfl
       clear HPF ha0 ha1 ha2 ha3 ha4 ha5 ha6
       rotate_left
       by_cases ha7 : A = wSwitch
       have q0 : ((ofBs A).toList == [115, 116, 101, 112]) = false := by rw [eq_list]; exact decide_eq_false ha0
       have q1 : ((ofBs A).toList == [101, 110, 100]) = false := by rw [eq_list]; exact decide_eq_false ha1
       have q2 : ((ofBs A).toList == [117, 110, 100, 111]) = false := by rw [eq_list]; exact decide_eq_false ha2
       have q3 : ((ofBs A).toList == [115, 97, 121]) = false := by rw [eq_list]; exact decide_eq_false ha3
       have q4 : ((ofBs A).toList == [114, 101, 97, 100]) = false := by rw [eq_list]; exact decide_eq_false ha4
       have q5 : ((ofBs A).toList == [108, 101, 97, 114, 110]) = false := by rw [eq_list]; exact decide_eq_false ha5
       have q6 : ((ofBs A).toList == [102, 111, 114, 103, 101, 116]) = false := by rw [eq_list]; exact decide_eq_false ha6
       have q7 : ((ofBs A).toList == [115, 119, 105, 116, 99, 104]) = true := by rw [eq_list]; exact decide_eq_true ha7
       have hPB : PB = none := by have := HPF.out; rw [ha7] at this; exact this.trans rfl
       clear HPF ha0 ha1 ha2 ha3 ha4 ha5 ha6 ha7
       rotate_left
       have q0 : ((ofBs A).toList == [115, 116, 101, 112]) = false := by rw [eq_list]; exact decide_eq_false ha0
       have q1 : ((ofBs A).toList == [101, 110, 100]) = false := by rw [eq_list]; exact decide_eq_false ha1
       have q2 : ((ofBs A).toList == [117, 110, 100, 111]) = false := by rw [eq_list]; exact decide_eq_false ha2
       have q3 : ((ofBs A).toList == [115, 97, 121]) = false := by rw [eq_list]; exact decide_eq_false ha3
       have q4 : ((ofBs A).toList == [114, 101, 97, 100]) = false := by rw [eq_list]; exact decide_eq_false ha4
       have q5 : ((ofBs A).toList == [108, 101, 97, 114, 110]) = false := by rw [eq_list]; exact decide_eq_false ha5
       have q6 : ((ofBs A).toList == [102, 111, 114, 103, 101, 116]) = false := by rw [eq_list]; exact decide_eq_false ha6
       have q7 : ((ofBs A).toList == [115, 119, 105, 116, 99, 104]) = false := by rw [eq_list]; exact decide_eq_false ha7
       have hPB : PB = none := by have := HPF.out; rw [if_neg ha5, if_neg ha6, if_neg ha7, if_neg ha4, if_neg ha0, if_neg ha1, if_neg ha2, if_neg ha3] at this; exact this
       clear HPF ha0 ha1 ha2 ha3 ha4 ha5 ha6 ha7
       all_goals
        have HPB := Lib.hid hPB
        clear hPB
        go_wp2_with fail
        have hfin := HS6.out _ 2 (.int .i64 0) (HS6.out _ 1 (.string ⟨#[]⟩) (HS6.out _ 0 (.string ⟨#[]⟩) hXc))
        have hbf := ((hB2.set 0 (.string ⟨#[]⟩)).set 1 (.string ⟨#[]⟩)).set 2 (.int .i64 0)
        have r0 := hbf.cell (i := 0) (v := .string ⟨#[]⟩) rfl
        have r1 := hbf.cell (i := 1) (v := .string ⟨#[]⟩) rfl
        have r2 := hbf.cell (i := 2) (v := .int .i64 0) rfl
        generalize World.setCell _ ⟨g2, 2, none⟩ _ = wF at *
        refine bodyPost_ret (v := .tuple #[.agg #[.string ⟨#[]⟩, .string ⟨#[]⟩, .int .i64 0], .bool false]) (by simp [results, Tryz.results83, go_sem, r0, r1, r2]) rfl ?_
        rw [HPB.out]
        exact ⟨hfin, _, _, _, rfl⟩
      all_goals
       have HPB := Lib.hid hPB
       clear hPB
       go_wp2_with fail
       have hfin := HS6.out _ 2 (.int .i64 0) (HS6.out _ 1 (.string ⟨#[]⟩) (HS6.out _ 0 (.string (ofBs A)) hXc))
       have hbf := ((hB2.set 0 (.string (ofBs A))).set 1 (.string ⟨#[]⟩)).set 2 (.int .i64 0)
       have r0 := hbf.cell (i := 0) (v := .string (ofBs A)) rfl
       have r1 := hbf.cell (i := 1) (v := .string ⟨#[]⟩) rfl
       have r2 := hbf.cell (i := 2) (v := .int .i64 0) rfl
       generalize World.setCell _ ⟨g2, 2, none⟩ _ = wF at *
       refine bodyPost_ret (v := .tuple #[.agg #[.string (ofBs A), .string ⟨#[]⟩, .int .i64 0], .bool true]) (by simp [results, Tryz.results83, go_sem, r0, r1, r2]) rfl ?_
       rw [HPB.out]
       exact ⟨hfin, by dsimp only; rw [HCM.out.1, HCM.out.2]; rfl⟩
structure Grow (R R' : Nat → Bool) (b : Nat) (w w' : World) : Prop where
 ext : ExtX R w w'
 up : ∀ k, R k = true → R' k = true
 new : ∀ k, R' k = true → R k = true ∨ w.heap.size ≤ k
 lt : ∀ k, R' k = true → k < w'.heap.size
 nb : R' b = false
theorem Grow.hole {R R' : Nat → Bool} {b : Nat} {w w' : World} (g : Grow R R' b w w') : Ext (Go.Proofs.YtpmlcfgbfhgpgaaGreatDoor.hole (more R b) w) (Go.Proofs.YtpmlcfgbfhgpgaaGreatDoor.hole (more R' b) w') :=
 g.ext.hole (fun k hk => more_in hk) (fun k hk => by
  rcases more_or hk with h | h
  ·exact more_in (g.up k h)
  ·subst h; exact more_self _ _) (fun k hk => by
  rcases more_or hk with h | h
  ·rcases g.new k h with h | h
   ·exact .inl (more_in h)
   ·exact .inr h
  ·subst h; exact .inl (more_self _ _))
theorem Grow.trans {R R1 R2 : Nat → Bool} {b : Nat} {w w1 w2 : World} (g : Grow R R1 b w w1) (k : Grow R1 R2 b w1 w2) : Grow R R2 b w w2 :=
 ⟨g.ext.transN k.ext (fun i hi => g.new i hi), fun i hi => k.up i (g.up i hi), fun i hi => by
  rcases k.new i hi with h | h
  ·exact g.new i h
  ·exact .inr (Nat.le_trans g.ext.size h), k.lt, k.nb⟩
theorem Grow.ofExt {R : Nat → Bool} {b : Nat} {w w' : World} (hx : Ext w w') (hl : ∀ k, R k = true → k < w.heap.size) (hb : R b = false) : Grow R R b w w' :=
 ⟨hx.toX R, fun _ h => h, fun _ h => .inl h, fun k hk => Nat.lt_of_lt_of_le (hl k hk) hx.size, hb⟩
theorem Grow.setC {R R' : Nat → Bool} {b : Nat} {w w' : World} (g : Grow R R' b w w') {q : Nat} (hq : R' q = true) (i : Nat) (v : Value) : Grow R R' b w (w'.setCell ⟨q, i, none⟩ v) :=
 ⟨g.ext.transN (ExtX.set w' q i v) (fun k hk => by
   have : k = q := by simpa [one] using hk
   subst this; exact g.new k hq), g.up, g.new, fun k hk => by
   have := g.lt k hk
   have h2 := (ExtX.set w' q i v).size
   omega, g.nb⟩
theorem Grow.row {R : Nat → Bool} {b : Nat} {w w1 : World} {o : Option Nat} {v' : Value} (hg : w.grownBy w1 o) (ho : ∀ r, o = some r → R r = true) (hl : ∀ k, R k = true → k < w.heap.size) (hb : R b = false) (hbw : b < w.heap.size)
  (hnew : ∀ r, v'.ownBlock = some r → o = some r ∨ w.heap.size ≤ r) (hlt : ∀ r, v'.ownBlock = some r → r < w1.heap.size) : ∃ R', Grow R R' b w w1 ∧ ∀ r, v'.ownBlock = some r → R' r = true := by
 have hX : ExtX R w w1 := ⟨hg.os, hg.tape, hg.output, hg.size, fun k hk hr => hg.block k hk (fun e => by rw [ho k e.symm] at hr; cases hr)⟩
 cases hv : v'.ownBlock with
 | none => exact ⟨R, ⟨hX, fun _ h => h, fun _ h => .inl h, fun k hk => Nat.lt_of_lt_of_le (hl k hk) hg.size, hb⟩, fun r hr => by cases hr⟩
 | some q =>
  refine ⟨fun k => R k || k == q, ⟨hX, fun k hk => by simp [hk], fun k hk => ?_, fun k hk => ?_, ?_⟩, fun r hr => by injection hr with hr; subst hr; simp⟩
  ·simp only [Bool.or_eq_true, beq_iff_eq] at hk
   rcases hk with hk | hk
   ·exact .inl hk
   ·subst hk
    rcases hnew k hv with h | h
    ·exact .inl (ho k h)
    ·exact .inr h
  ·simp only [Bool.or_eq_true, beq_iff_eq] at hk
   rcases hk with hk | hk
   ·exact Nat.lt_of_lt_of_le (hl k hk) hg.size
   ·subst hk; exact hlt k hv
  ·simp only [Bool.or_eq_false_iff, beq_eq_false_iff_ne, ne_eq]
   refine ⟨hb, fun e => ?_⟩
   subst e
   rcases hnew b hv with h | h
   ·rw [ho b h] at hb; cases hb
   ·omega
theorem Blk.stay {Q : Nat → Bool} {w w' : World} {g : Nat} {ty : TypeId} {l : List Value} (h : Blk w g ty l) (hx : ExtX Q w w') (hq : Q g = false) : Blk w' g ty l := (hx.block g h.lt hq).trans h
theorem GRow.stay {α : Type} {enc : α → List Value} {k : Nat} {e : TypeId} {Q : Nat → Bool} {w w' : World} {v : Value} {L : List α} (h : GRow enc k e w v L) (hx : ExtX Q w w') (hq : ∀ r, v.ownBlock = some r → Q r = false) : GRow enc k e w' v L := h.keep fun r hr => hx.block r (h.lt hr) (hq r hr)
theorem GRow.ne {α : Type} {enc : α → List Value} {k : Nat} {e ty : TypeId} {w : World} {v : Value} {L : List α} {g : Nat} {l : List Value} (h : GRow enc k e w v L) (hb : Blk w g ty l) (hne : ty ≠ e) : v.ownBlock ≠ some g := by
 intro hr
 obtain ⟨cur, hc⟩ := h.block g hr
 unfold Blk at hb
 rw [hb] at hc
 injection hc with hc
 injection hc with _ h2 _
 exact hne h2
theorem GRow.ne2 {α β : Type} {enc : α → List Value} {enc2 : β → List Value} {k k2 : Nat} {e e2 : TypeId} {w : World} {v v2 : Value} {L : List α} {L2 : List β} (h : GRow enc k e w v L) (h2 : GRow enc2 k2 e2 w v2 L2) (hne : e ≠ e2) : ∀ r, v.ownBlock = some r → v2.ownBlock ≠ some r := by
 intro r hr hr2
 obtain ⟨cur, hc⟩ := h.block r hr
 obtain ⟨cur2, hc2⟩ := h2.block r hr2
 rw [hc] at hc2
 injection hc2 with hc2
 injection hc2 with _ h3 _
 exact hne h3
theorem GRow.setB {α : Type} {enc : α → List Value} {k : Nat} {e ty : TypeId} {w : World} {v : Value} {L : List α} {g : Nat} {l : List Value} (h : GRow enc k e w v L) (hb : Blk w g ty l) (hne : ty ≠ e) (i : Nat) (u : Value) : GRow enc k e (w.setCell ⟨g, i, none⟩ u) v L :=
 h.stay (ExtX.set w g i u) (fun r hr => by
  cases e2 : one g r with
  | false => rfl
  | true => exfalso; have : r = g := by simpa [one] using e2
            subst this; exact h.ne hb hne hr)
theorem Blk.setN {w : World} {g q : Nat} {ty : TypeId} {l : List Value} (h : Blk w g ty l) (hne : q ≠ g) (i : Nat) (u : Value) : Blk (w.setCell ⟨q, i, none⟩ u) g ty l := h.stay (ExtX.set w q i u) (by simp [one]; omega)
theorem Blk.grown {w w1 : World} {o : Option Nat} {g : Nat} {ty : TypeId} {l : List Value} (h : Blk w g ty l) (hg : w.grownBy w1 o) (hne : o ≠ some g) : Blk w1 g ty l := (hg.block g h.lt (fun e => hne e.symm)).trans h
theorem GRow.grown {α : Type} {enc : α → List Value} {k : Nat} {e : TypeId} {w w1 : World} {o : Option Nat} {v : Value} {L : List α} (h : GRow enc k e w v L) (hg : w.grownBy w1 o) (hne : ∀ r, v.ownBlock = some r → o ≠ some r) : GRow enc k e w1 v L := h.keep fun r hr => hg.block r (h.lt hr) (fun e => hne r hr e.symm)
theorem blk_ne {w : World} {g q : Nat} {t1 t2 : TypeId} {l1 l2 : List Value} (h1 : Blk w g t1 l1) (h2 : Blk w q t2 l2) (hne : t1 ≠ t2) : g ≠ q := by
 intro e
 subst e
 unfold Blk at h1 h2
 rw [h1] at h2
 injection h2 with h2
 injection h2 with _ h3 _
 exact hne h3
theorem RefR.pushW (h : RefR R b rb rv v x s w) (hbw : b < w.heap.size) {us : List Value} (hrow : GRow encV 1 34 w v.words us) (hall : AllInts (hole (more R b) w) us x.words)
  {w1 : World} {v5 u : Value} {l : List Int} (hn : GRow encV 1 34 w1 v5 (us ++ [u])) (hg : w.grownBy w1 v.words.ownBlock) (hnew : ∀ r, v5.ownBlock = some r → v.words.ownBlock = some r ∨ w.heap.size ≤ r) (hu : Ints (hole (more R b) w) u l) :
  ∃ R', Grow R R' b w (w1.setCell ⟨rb, 5, none⟩ v5) ∧ RefR R' b rb rv { v with words := v5 } { x with words := x.words ++ [l] } s (w1.setCell ⟨rb, 5, none⟩ v5) := by
 obtain ⟨R', g1, hR5⟩ := Grow.row (v' := v5) hg h.words.inR h.Rl h.Rb hbw hnew (fun r hr => hn.lt hr)
 have g2 := g1.setC (g1.up rb h.Rrb) 5 v5
 have hh := g2.hole
 obtain ⟨kb, k1, k2, k3⟩ := h.kn
 have hb1 := h.hb.grown hg (hrow.ne h.hb (by decide))
 have hkr : kb ≠ rb := blk_ne k3 h.hb (by decide)
 obtain ⟨uf, f1, f2⟩ := h.forms.row
 refine ⟨R', g2, ⟨hb1.set 5 v5, g2.up rb h.Rrb, g2.nb, g2.lt, h.hr.ext hh, ⟨kb, k1, g2.up kb k2, (k3.grown hg (hrow.ne k3 (by decide))).setN (Ne.symm hkr) 5 v5⟩, h.gr.ext hh, h.base.ext hh,
  ⟨⟨us ++ [u], hn.setB hb1 (by decide) 5 v5, AllInts.snoc (hall.ext hh) (hu.ext hh)⟩, hR5⟩,
  ⟨⟨uf, (f1.grown hg (fun r hr e => h.apart r e hr)).setB hb1 (by decide) 5 v5, f2.ext hh⟩, fun r hr => g2.up r (h.forms.inR r hr)⟩,
  (h.slate.grown hg (h.slate.ne2 hrow (by decide))).setB hb1 (by decide) 5 v5, fun r hr => g2.up r (h.slateR r hr),
  (h.orders.grown hg (h.orders.ne2 hrow (by decide))).setB hb1 (by decide) 5 v5, fun r hr => g2.up r (h.ordersR r hr), fun r hr hf => ?_⟩⟩
 rcases hnew r hr with e | e
 ·exact h.apart r e hf
 ·have := f1.lt hf; omega
theorem RefR.pushS (h : RefR R b rb rv v x s w) (hbw : b < w.heap.size)
  {w1 : World} {v6 : Value} {c : Ch} (hn : GRow encCh 3 46 w1 v6 (x.slate ++ [c])) (hg : w.grownBy w1 v.slate.ownBlock) (hnew : ∀ r, v6.ownBlock = some r → v.slate.ownBlock = some r ∨ w.heap.size ≤ r) :
  ∃ R', Grow R R' b w (w1.setCell ⟨rb, 6, none⟩ v6) ∧ RefR R' b rb rv { v with slate := v6 } { x with slate := x.slate ++ [c] } s (w1.setCell ⟨rb, 6, none⟩ v6) := by
 obtain ⟨R', g1, hR6⟩ := Grow.row (v' := v6) hg h.slateR h.Rl h.Rb hbw hnew (fun r hr => hn.lt hr)
 have g2 := g1.setC (g1.up rb h.Rrb) 6 v6
 have hh := g2.hole
 obtain ⟨kb, k1, k2, k3⟩ := h.kn
 have hb1 := h.hb.grown hg (h.slate.ne h.hb (by decide))
 have hkr : kb ≠ rb := blk_ne k3 h.hb (by decide)
 obtain ⟨uf, f1, f2⟩ := h.forms.row
 obtain ⟨uw, w1', w2'⟩ := h.words.row
 refine ⟨R', g2, ⟨hb1.set 6 v6, g2.up rb h.Rrb, g2.nb, g2.lt, h.hr.ext hh, ⟨kb, k1, g2.up kb k2, (k3.grown hg (h.slate.ne k3 (by decide))).setN (Ne.symm hkr) 6 v6⟩, h.gr.ext hh, h.base.ext hh,
  ⟨⟨uw, (w1'.grown hg (w1'.ne2 h.slate (by decide))).setB hb1 (by decide) 6 v6, w2'.ext hh⟩, fun r hr => g2.up r (h.words.inR r hr)⟩,
  ⟨⟨uf, (f1.grown hg (f1.ne2 h.slate (by decide))).setB hb1 (by decide) 6 v6, f2.ext hh⟩, fun r hr => g2.up r (h.forms.inR r hr)⟩,
  hn.setB hb1 (by decide) 6 v6, hR6,
  (h.orders.grown hg (h.orders.ne2 h.slate (by decide))).setB hb1 (by decide) 6 v6, fun r hr => g2.up r (h.ordersR r hr), h.apart⟩⟩
theorem RefR.pushF (h : RefR R b rb rv v x s w) (hbw : b < w.heap.size) {us : List Value} (hrow : GRow encV 1 34 w v.forms us) (hall : AllInts (hole (more R b) w) us x.forms)
  {w1 : World} {v7 u : Value} {l : List Int} (hn : GRow encV 1 34 w1 v7 (us ++ [u])) (hg : w.grownBy w1 v.forms.ownBlock) (hnew : ∀ r, v7.ownBlock = some r → v.forms.ownBlock = some r ∨ w.heap.size ≤ r) (hu : Ints (hole (more R b) w) u l) :
  ∃ R', Grow R R' b w (w1.setCell ⟨rb, 7, none⟩ v7) ∧ RefR R' b rb rv { v with forms := v7 } { x with forms := x.forms ++ [l] } s (w1.setCell ⟨rb, 7, none⟩ v7) := by
 obtain ⟨R', g1, hR7⟩ := Grow.row (v' := v7) hg h.forms.inR h.Rl h.Rb hbw hnew (fun r hr => hn.lt hr)
 have g2 := g1.setC (g1.up rb h.Rrb) 7 v7
 have hh := g2.hole
 obtain ⟨kb, k1, k2, k3⟩ := h.kn
 have hb1 := h.hb.grown hg (hrow.ne h.hb (by decide))
 have hkr : kb ≠ rb := blk_ne k3 h.hb (by decide)
 obtain ⟨uw, w1', w2'⟩ := h.words.row
 refine ⟨R', g2, ⟨hb1.set 7 v7, g2.up rb h.Rrb, g2.nb, g2.lt, h.hr.ext hh, ⟨kb, k1, g2.up kb k2, (k3.grown hg (hrow.ne k3 (by decide))).setN (Ne.symm hkr) 7 v7⟩, h.gr.ext hh, h.base.ext hh,
  ⟨⟨uw, (w1'.grown hg (fun r hr e => h.apart r hr e)).setB hb1 (by decide) 7 v7, w2'.ext hh⟩, fun r hr => g2.up r (h.words.inR r hr)⟩,
  ⟨⟨us ++ [u], hn.setB hb1 (by decide) 7 v7, AllInts.snoc (hall.ext hh) (hu.ext hh)⟩, hR7⟩,
  (h.slate.grown hg (h.slate.ne2 hrow (by decide))).setB hb1 (by decide) 7 v7, fun r hr => g2.up r (h.slateR r hr),
  (h.orders.grown hg (h.orders.ne2 hrow (by decide))).setB hb1 (by decide) 7 v7, fun r hr => g2.up r (h.ordersR r hr), fun r hr hf => ?_⟩⟩
 rcases hnew r hf with e | e
 ·exact h.apart r hr e
 ·have := w1'.lt hr; omega
theorem RefR.pushO (h : RefR R b rb rv v x s w) (hbw : b < w.heap.size)
  {w1 : World} {v8 : Value} {t : ByteArray} (hn : GRow encT 1 9 w1 v8 (x.orders ++ [t])) (hg : w.grownBy w1 v.orders.ownBlock) (hnew : ∀ r, v8.ownBlock = some r → v.orders.ownBlock = some r ∨ w.heap.size ≤ r) :
  ∃ R', Grow R R' b w (w1.setCell ⟨rb, 8, none⟩ v8) ∧ RefR R' b rb rv { v with orders := v8 } { x with orders := x.orders ++ [t] } s (w1.setCell ⟨rb, 8, none⟩ v8) := by
 obtain ⟨R', g1, hR8⟩ := Grow.row (v' := v8) hg h.ordersR h.Rl h.Rb hbw hnew (fun r hr => hn.lt hr)
 have g2 := g1.setC (g1.up rb h.Rrb) 8 v8
 have hh := g2.hole
 obtain ⟨kb, k1, k2, k3⟩ := h.kn
 have hb1 := h.hb.grown hg (h.orders.ne h.hb (by decide))
 have hkr : kb ≠ rb := blk_ne k3 h.hb (by decide)
 obtain ⟨uf, f1, f2⟩ := h.forms.row
 obtain ⟨uw, w1', w2'⟩ := h.words.row
 exact ⟨R', g2, ⟨hb1.set 8 v8, g2.up rb h.Rrb, g2.nb, g2.lt, h.hr.ext hh, ⟨kb, k1, g2.up kb k2, (k3.grown hg (h.orders.ne k3 (by decide))).setN (Ne.symm hkr) 8 v8⟩, h.gr.ext hh, h.base.ext hh,
  ⟨⟨uw, (w1'.grown hg (w1'.ne2 h.orders (by decide))).setB hb1 (by decide) 8 v8, w2'.ext hh⟩, fun r hr => g2.up r (h.words.inR r hr)⟩,
  ⟨⟨uf, (f1.grown hg (f1.ne2 h.orders (by decide))).setB hb1 (by decide) 8 v8, f2.ext hh⟩, fun r hr => g2.up r (h.forms.inR r hr)⟩,
  (h.slate.grown hg (h.slate.ne2 h.orders (by decide))).setB hb1 (by decide) 8 v8, fun r hr => g2.up r (h.slateR r hr),
  hn.setB hb1 (by decide) 8 v8, hR8, h.apart⟩⟩
theorem wpList_appendGRx {α : Type} {P : Program} {ops : Array Oper} {rest : List Oper} {o : Oper} {a : Act} {Q : Exit → Act → World → Prop} {W : World} {t e ty : TypeId} {size bytes : Nat} {z : Value} {v : Value} {enc : α → List Value} {L : List α} (x : α) {gn : Nat}
  (hT : ElTy P t e size bytes z) (hgd : o.guard = none) (s y : Operand) (ho : o.op = .call { callee := .builtin .append, args := #[s, y], argTypes := #[t, t] })
  (hs : a.eval s = v) (hx : a.eval y = .slice (some ⟨gn, 0, none⟩) 1 1) (hown : GRow enc size e W v L) (hb : Blk W gn ty (enc x)) (hus : ∀ x, (enc x).length = size) (h1 : ∀ u ∈ enc x, u.oneCell' = true)
  (hlen : (L.length + 1) * bytes ≤ 140737488355328) (hn : L.length + 1 ≤ 9223372036854775807)
  (h : ∀ v' w', GRow enc size e w' v' (L ++ [x]) → W.grownBy w' v.ownBlock → (∀ r, v'.ownBlock = some r → v.ownBlock = some r ∨ W.heap.size ≤ r) → wpList P ops Q rest (a.put o.dst v') w') :
  wpList P ops Q (o :: rest) a W := by
 rcases hown with hown | ⟨g2, cur, hv, hh, h2, h3, h4⟩
 ·exact wpList_appendAllG hT hgd s y ho hs hx hown (raw_one (hus x) hb) h1 (Nat.zero_le _) hlen hn fun v' w' a1 _ a3 a4 => h v' w' (.inl (ocel_snoc a1)) a3 a4
 ·obtain ⟨i0, hi, hz0, hz1, hz2⟩ := info_parts hT.info
  refine wpList_plain hgd fun _ hK => ?_
  obtain ⟨v', w', hrun, k2, k3⟩ := run_append_arg_grows (P := P) W t o.type e i0 z size bytes hT.ht hi hz0 hz1 hz2 hT.zc hT.pos ⟨g2, 0, none⟩ L.length L.length (L.flatMap enc) (flat_len enc hus L)
   (by
    intro j u hu
    rw [addr_add]
    show W.cell? ⟨g2, 0 + j, none⟩ = some u
    rw [Nat.zero_add, cell_at hh]
    have hjl := (List.getElem?_eq_some_iff.1 hu).1
    rw [← h3] at hu
    rw [← h3, List.length_take] at hjl
    rw [List.getElem?_take_of_lt (by omega)] at hu
    simpa using hu)
   ⟨gn, 0, none⟩ 1 1 (enc x) (by rw [hus]; omega) (by
    intro j z hz
    rw [addr_add]
    show W.cell? ⟨gn, 0 + j, none⟩ = some z
    rw [Nat.zero_add]; exact hb.cell hz) (by omega) (by unfold maxLen; omega) hlen
  unfold Oper.wp execOp
  simp only [ho, resolve, invoke, builtin, Sem.run_bind, Sem.run_pure, Result.andThen_ok, List.map_toArray, List.map_cons, List.map_nil, hs, hx, hv, hrun]
  refine hK _ _ (h v' w' (.inl ?_) ?_ ?_)
  ·unfold OCel
   rw [flat_snoc, List.length_append]
   exact ⟨k2.1, by
    rcases k2.2 with k | ⟨g, cap, cur, e1, e2, e3⟩
    ·exact .inl k
    ·exact .inr ⟨g, cap, cur, e1, Nat.zero_le _, e3⟩⟩
  ·exact ⟨k3.os, k3.tape, k3.output, k3.size, fun k hk _ => k3.block k hk (by simp)⟩
  ·intro r hr
   right
   exact (k2.lt r hr).1
theorem ExtX.ofGrown {o : Option Nat} {w w' : World} (h : w.grownBy w' o) : ExtX (fun k => decide (o = some k)) w w' := ⟨h.os, h.tape, h.output, h.size, fun k hk hr => h.block k hk (by simpa [eq_comm] using hr)⟩
def RRef (R : Nat → Bool) (b rb : Nat) (rv : Value) (s : List Rul) (x' : St) (k : Int) (w : World) (e : Ending) (w' : World) : Prop :=
 e = .returned (.int .i64 k) ∧ ∃ R' v', Grow R R' b w w' ∧ RefR R' b rb rv v' x' s w'
theorem rapply9_c (h : RefR R b rb rv v x s w) (hI : InvE s x) (hh : x.has = true) (hbw : b < w.heap.size) (c : Ch) (hc : c.1 < s.length) (hp : (Lit.int .i64 c.2.1).wf = true) :
  Calls Tryz.prog 173 #[.pointer (some ⟨rb, 0, none⟩), .agg #[.int .i64 c.1, .int .i64 c.2.1, .int .i64 c.2.2]] w
   (fun e w' => e = .returned (.tuple #[]) ∧ ∃ R' v', Grow R R' b w w' ∧ RefR R' b rb rv v' (stepTo s x c) s w') := by
 obtain ⟨wA, hwA⟩ : ∃ wA, wA = w.alloc (.cells #[.int .i64 c.1, .int .i64 c.2.1, .int .i64 c.2.2] 46) := ⟨_, rfl⟩
 have hEA : Ext w wA := by rw [hwA]; exact Ext.alloc _ _
 have hbA : Blk wA w.heap.size 46 [.int .i64 c.1, .int .i64 c.2.1, .int .i64 c.2.2] := by rw [hwA]; exact Blk.alloc _ _ _
 have HWA := Lib.hid hwA; clear hwA
 obtain ⟨uw, hu0, HWD0⟩ := rWord_c h hI
 have HWD := Lib.hid HWD0
 obtain ⟨ar, cr, hrv, hr1, hr2, H⟩ := (h.hr).lit
 obtain ⟨b1, o1, har, ta, tc, la, lc, ra, rc, d0, d1, d2, d3, hrr⟩ := H.out c.1 hc
 have HAP := Lib.hid (fun (W : World) (q : Ext w W) => rApply_c _ _ _ uw (rulAt s c.1) (lastW x) c.2.1 W ((hrr.sub (hole_sub _ w)).ext q) ((hu0.sub (hole_sub _ w)).ext q) hp)
 replace d0 := hole_sub _ w _ _ d0
 replace d1 := hole_sub _ w _ _ d1
 replace d2 := hole_sub _ w _ _ d2
 replace d3 := hole_sub _ w _ _ d3
 have h0 := Lib.hid h
 have c0 := h.hb.cell (i := 0) rfl
 rw [hrv, har] at c0
 have HST : Hid (stepTo s x c = { ({ x with words := x.words ++ [applyL (rulAt s c.1) (lastW x) c.2.1] } : St) with slate := x.slate ++ [c] }) := Lib.hid rfl
 obtain ⟨au, cu, huv, _⟩ := hu0.open_
 subst huv
 have hsl : x.slate.length ≤ 1000 := by have := hI.slen; omega
 have hwl : x.words.length ≤ 1000 := by have := hI.wlen hh; have := hI.slen; omega
 have HSL := Lib.hid hsl
 have HWL := Lib.hid hwl
 have hg3 : Hid (w.heap.size = w.heap.size) := Lib.hid rfl
 clear h hI hh hu0 HWD0 H hrr hrv har hsl hwl
 generalize applyL (rulAt s c.1) (lastW x) c.2.1 = AL at *
 generalize applyK (rulAt s c.1) (lastW x) c.2.1 = AK at *
 generalize (lastW x).length = ul at *
 generalize rulAt s c.1 = y at *
 obtain ⟨ck, cp, cg⟩ := c
 dsimp only at *
 go_enter Tryz.func173, Tryz.ntmps173
 go_upto_region 1 with fail
 rw [← HWA.out]
 refine wp_region_treeR (fun a b => Ext a b) [] (.look 0 (.look 1 (.look 2 (.look 3 (.look 4 (.look 5 (.look 6 (.look 7 (.look 8 (.look 10 (.look 11 (.one 9 (.one 12 (.look 13 (.look 14 (.look 15 (.look 16 (.look 17 .done)))))))))))))))))) (fun w => Ext.refl w) (fun a b c h k => Ext.trans h k) (by kernel_rfl) (by kernel_rfl) (by intro c a d v w h; cases d <;> exact h) ?_
 have hd := drawnP_ext wA
 have hX0 := hEA.trans hd
 have hb0 := hbA.ext hd
 generalize { wA with drawn := wA.drawn + 1 } = W0 at *
 have q0 : ∀ q : InC (fun c => Ext W0 c), q.w.cell? ⟨rb, 0, none⟩ = some (.slice (some ⟨b1, o1, none⟩) s.length cr) := fun q => (hX0.trans q.h).keep c0
 have q1 : ∀ q : InC (fun c => Ext W0 c), q.w.cell? ⟨w.heap.size, 0, none⟩ = some (.int .i64 ck) := fun q => (hb0.ext q.h).cell rfl
 have q2 : ∀ q : InC (fun c => Ext W0 c), q.w.cell? ⟨w.heap.size, 1, none⟩ = some (.int .i64 cp) := fun q => (hb0.ext q.h).cell rfl
 have q3 : ∀ q : InC (fun c => Ext W0 c), q.w.cell? ⟨b1, o1 + ck * 4, none⟩ = some (.int .i64 y.f) := fun q => (hX0.trans q.h).keep d0
 have q4 : ∀ q : InC (fun c => Ext W0 c), q.w.cell? ⟨b1, o1 + ck * 4 + 1, none⟩ = some (.slice ta y.t.length tc) := fun q => (hX0.trans q.h).keep d1
 have q5 : ∀ q : InC (fun c => Ext W0 c), q.w.cell? ⟨b1, o1 + ck * 4 + 2, none⟩ = some (.slice la y.l.length lc) := fun q => (hX0.trans q.h).keep d2
 have q6 : ∀ q : InC (fun c => Ext W0 c), q.w.cell? ⟨b1, o1 + ck * 4 + 3, none⟩ = some (.slice ra y.r.length rc) := fun q => (hX0.trans q.h).keep d3
 iterate 11 (refine wpTreeR_look rfl fun K hK => ?_; go_simp; (first | refine hK _ ?_ | refine ⟨_, fun _ => rfl, hK _ ?_⟩); clear hK K)
 refine wpTreeR_one rfl rfl (fun K hK => ?_)
 go_wp2_with fail
 refine (HWD.out W0 hX0).mono ?_; rintro e w1 ⟨rfl, hx1⟩
 go_wp2_with fail
 refine ⟨.inr hx1, ?_⟩
 refine wpTreeR_one rfl rfl (fun K hK => ?_)
 go_wp2_with fail
 refine (HAP.out w1 (hX0.trans hx1)).mono ?_; rintro e w2 ⟨u2, rfl, ho2, hx2⟩
 obtain ⟨p2, r2, hu2, _⟩ := ho2.ints.open_
 go_wp2_with fail
 refine ⟨.inr hx2, ?_⟩
 iterate 5 (refine wpTreeR_look rfl fun K hK => ?_; go_simp; (first | refine hK _ ?_ | refine ⟨_, fun _ => rfl, hK _ ?_⟩); clear hK K)
 refine wpTreeR_done ?_
 have hX2 := (hX0.trans hx1).trans hx2
 have hb2 := (hb0.ext hx1).ext hx2
 have hR2 := h0.out.ext hX2
 have G2 := Lib.hid (Grow.ofExt hX2 h0.out.Rl h0.out.Rb)
 have HU2 : Hid (Ints (hole (more R b) w2) u2 AL) := Lib.hid (OInts.hole ho2 (fun k hk => by
  rcases more_or hk with hk | hk
  ·exact Nat.lt_of_lt_of_le (h0.out.Rl k hk) (hX0.trans hx1).size
  ·subst hk; exact Nat.lt_of_lt_of_le hbw (hX0.trans hx1).size)).ints
 have hbw2 : b < w2.heap.size := Nat.lt_of_lt_of_le hbw hX2.size
 have HR2 := Lib.hid hR2
 obtain ⟨us, hrow, hall⟩ := hR2.words.row
 have HROW := Lib.hid hrow
 have HALL := Lib.hid hall
 have hul : us.length ≤ 1000 := by have := hall.1; have := HWL.out; omega
 obtain ⟨wa, wc, hwv, _⟩ := (hrow.cel encV_len).open_
 have c5 := hR2.hb.cell (i := 5) rfl
 have f5 := hR2.hb.frozen 5
 rw [hwv] at c5 hrow
 subst hu2
 have hrow' := Lib.hid hrow
 clear hrow hall hR2 ho2 q0 q1 q2 q3 q4 q5 q6
 have HWV := Lib.hid hwv
 clear hwv
 go_upto_region 3 with (at_builtin; refine wpList_appendGR (enc := encV) (L := us) (.slice p2 AL.length r2) elRows rfl _ _ rfl rfl rfl hrow'.out rfl rfl encV_len (by intro u hu; simp only [encV, List.mem_cons, List.not_mem_nil, or_false] at hu; subst hu; rfl) (by omega) (by omega) ?_; intro v5 w5 hn5 hg5 hnew5; obtain ⟨a5, n5, hv5, _⟩ := (hn5.cel encV_len).open_; rw [List.length_append, List.length_singleton] at hv5; subst hv5; have c5' := Lib.hid (HR2.out.hb.grown hg5 (hrow'.out.ne HR2.out.hb (by decide))); have k5 := c5'.out.cell (i := 5) rfl; have f5' := c5'.out.frozen 5)
 rw [← HWV.out] at hg5 hnew5
 obtain ⟨R5, v5', G5, hR5⟩ : ∃ R5 v5', Grow R R5 b w2 (w5.setCell ⟨rb, 5, none⟩ (.slice a5 (us.length + 1) n5)) ∧ RefR R5 b rb rv v5' { x with words := x.words ++ [AL] } s (w5.setCell ⟨rb, 5, none⟩ (.slice a5 (us.length + 1) n5)) ∧ v5'.slate = v.slate := by
  obtain ⟨R5, g, hr⟩ := RefR.pushW HR2.out hbw2 HROW.out HALL.out hn5 hg5 hnew5 HU2.out
  exact ⟨R5, _, g, hr, rfl⟩
 have HG5 := Lib.hid G5
 obtain ⟨hR5, hvs⟩ := hR5
 have hbc := hb2.stay (ExtX.ofGrown hg5) (by
  have h3 := HROW.out.ne hb2 (by decide)
  exact decide_eq_false h3)
 have hbc2 : Blk _ w.heap.size 46 [.int .i64 ck, .int .i64 cp, .int .i64 cg] := hbc.setN (show rb ≠ w.heap.size by have := h0.out.hb.lt; omega) 5 (.slice a5 (us.length + 1) n5)
 clear k5 f5' c5' c5 f5 G5 hbc
 generalize World.setCell w5 ⟨rb, 5, none⟩ _ = w6 at *
 have HR5 := Lib.hid hR5
 obtain ⟨sa, sc, hsv, _⟩ := (hR5.slate.cel encCh_len).open_
 have hsN : ∀ r, v5'.slate.ownBlock = some r → r < w.heap.size := fun r hr => h0.out.Rl r (h0.out.slateR r (by rw [← hvs]; exact hr))
 have hQb : v5'.slate.ownBlock ≠ some rb := hR5.slate.ne hR5.hb (by decide)
 have hQc : v5'.slate.ownBlock ≠ some w.heap.size := fun e => by have := hsN _ e; omega
 have hsl6 := hR5.slate
 have hB6 := hR5.hb
 have hbw6 : b < w6.heap.size := Nat.lt_of_lt_of_le hbw2 HG5.out.ext.size
 have HSV := Lib.hid hsv
 rw [hsv] at hQb hQc
 try dsimp only at hB6
 rw [hsv] at hB6 hsl6
 clear hR5 hsv
 obtain ⟨QQ, hQQ⟩ : ∃ QQ : Nat → Bool, QQ = fun k => decide ((Value.slice sa x.slate.length sc).ownBlock = some k) := ⟨_, rfl⟩
 have hQ1 : QQ rb = false := by rw [hQQ]; exact decide_eq_false hQb
 have hQ2 : QQ w.heap.size = false := by rw [hQQ]; exact decide_eq_false hQc
 have HQQ := Lib.hid hQQ
 clear hQQ
 refine wp_region_treeR (fun a b => ExtX QQ a b) [10] (.look 0 (.look 1 (.look 2 (.look 3 (.look 4 (.look 5 (.one 6 (.one 7 (.look 8 (.look 9 (.one 10 .done))))))))))) (fun w => ExtX.refl _ w) (fun a b c h k => ExtX.trans h k) (by kernel_rfl) (by kernel_rfl) (by intro c a d v w h; cases d <;> exact h) ?_
 have hd6 := drawnP_ext w6
 replace hB6 := hB6.ext hd6
 replace hbc2 := hbc2.ext hd6
 replace hsl6 := hsl6.ext hd6
 generalize { w6 with drawn := w6.drawn + 1 } = W3 at *
 have k6 : ∀ q : InC (fun c => ExtX QQ W3 c), q.w.cell? ⟨rb, 6, none⟩ = some (.slice sa x.slate.length sc) := fun q => (hB6.stay q.h hQ1).cell rfl
 have m0 : ∀ q : InC (fun c => ExtX QQ W3 c), q.w.cell? ⟨w.heap.size, 0, none⟩ = some (.int .i64 ck) := fun q => (hbc2.stay q.h hQ2).cell rfl
 have m1 : ∀ q : InC (fun c => ExtX QQ W3 c), q.w.cell? ⟨w.heap.size, 1, none⟩ = some (.int .i64 cp) := fun q => (hbc2.stay q.h hQ2).cell rfl
 have m2 : ∀ q : InC (fun c => ExtX QQ W3 c), q.w.cell? ⟨w.heap.size, 2, none⟩ = some (.int .i64 cg) := fun q => (hbc2.stay q.h hQ2).cell rfl
 iterate 6 (refine wpTreeR_look rfl fun K hK => ?_; go_simp; (first | refine hK _ ?_ | refine ⟨_, fun _ => rfl, hK _ ?_⟩); clear hK K)
 refine wpTreeR_one rfl rfl (fun K hK => ?_)
 go_wp2_with fail
 have hbn := Blk.alloc W3 #[.int .i64 ck, .int .i64 cp, .int .i64 cg] 46
 have hx10 := Ext.alloc W3 (.cells #[.int .i64 ck, .int .i64 cp, .int .i64 cg] 46)
 refine ⟨.inr (hx10.toX _), ?_⟩
 have hsl7 := hsl6.ext hx10
 have hB7 := hB6.ext hx10
 have hX36 := hd6.trans hx10
 generalize W3.alloc (.cells #[.int .i64 ck, .int .i64 cp, .int .i64 cg] 46) = W4 at *
 generalize W3.heap.size = gn at *
 refine wpTreeR_one rfl rfl (fun K hK => ?_)
 refine wpList_appendGRx (enc := encCh) (L := x.slate) ((ck, cp, cg) : Ch) elCh rfl _ _ rfl rfl rfl hsl7 hbn encCh_len (fun u hu => encCh_one (ck, cp, cg) u hu) (by have := HSL.out; omega) (by have := HSL.out; omega) ?_
 intro v6 w7 hn6 hg6 hnew6
 obtain ⟨a6, n6, hv6, _⟩ := (hn6.cel encCh_len).open_
 rw [List.length_append, List.length_singleton] at hv6
 subst hv6
 have hB8 := hB7.grown hg6 hQb
 have k6' := hB8.cell (i := 6) rfl
 have f6' := hB8.frozen 6
 go_wp2_with fail
 refine ⟨.inr (by rw [HQQ.out]; exact ExtX.ofGrown hg6), ?_⟩
 iterate 2 (refine wpTreeR_look rfl fun K hK => ?_; go_simp; (first | refine hK _ ?_ | refine ⟨_, fun _ => rfl, hK _ ?_⟩); clear hK K)
 refine wpTreeR_one rfl rfl (fun K hK => ?_)
 go_wp2_with fail
 refine ⟨.inl (by simp), ?_⟩
 refine wpTreeR_done ?_
 rw [← HSV.out] at hg6 hnew6
 have hRW := HR5.out.ext hX36
 obtain ⟨R6, G6, hR6⟩ := RefR.pushS hRW (Nat.lt_of_lt_of_le hbw6 hX36.size) (c := (ck, cp, cg)) hn6 hg6 hnew6
 have HFIN : Hid (∃ R' v', Grow R R' b w (w7.setCell ⟨rb, 6, none⟩ (.slice a6 (x.slate.length + 1) n6)) ∧ RefR R' b rb rv v' (stepTo s x (ck, cp, cg)) s (w7.setCell ⟨rb, 6, none⟩ (.slice a6 (x.slate.length + 1) n6))) :=
  Lib.hid ⟨R6, _, ((G2.out.trans HG5.out).trans (Grow.ofExt hX36 HR5.out.Rl HR5.out.Rb)).trans G6, by rw [HST.out]; exact hR6⟩
 generalize World.setCell w7 ⟨rb, 6, none⟩ _ = wF at *
 clear hR6 G6
 go_wp2_with fail
 exact bodyPost_end (results_none rfl _ _ _) rfl ⟨rfl, HFIN.out⟩
theorem rstep9_c (h : RefR R b rb rv v x s w) (hI : InvE s x) (hbw : b < w.heap.size) :
  Calls Tryz.prog 125 #[.pointer (some ⟨rb, 0, none⟩)] w (RRef R b rb rv s (execS s x .step).1 (execS s x .step).2 w) := by
 have c3 := h.hb.cell (i := 3) rfl
 have c6 := h.hb.cell (i := 6) rfl
 obtain ⟨sa, sc, hsv, _⟩ := (h.slate.cel encCh_len).open_
 rw [hsv] at c6
 have HB := Lib.hid h
 have HIX : Hid (InvE s x) := Lib.hid hI
 clear hsv
 cases hh : x.has with
 | false =>
  rw [show execS s x .step = (x, 8) by simp only [execS]; rw [if_neg (by rw [hh]; decide)]]
  rw [hh] at c3
  clear h hI hh
  go_enter Tryz.func125, Tryz.ntmps125
  go_wp2_with fail
  go_ret
  exact ⟨rfl, R, v, Grow.ofExt (Ext.refl _) HB.out.Rl HB.out.Rb, HB.out⟩
 | true =>
  rw [hh] at c3
  rw [show execS s x .step = advS s x by simp only [execS]; rw [if_pos hh]]
  have HWI := Lib.hid (rwin_c h hI hh)
  have HAP := Lib.hid (fun (c : Ch) W (q : Ext w W) (hc : c.1 < s.length) (hp : (Lit.int .i64 c.2.1).wf = true) => rapply9_c (h.ext q) hI hh (Nat.lt_of_lt_of_le hbw q.size) c hc hp)
  rcases adv_cases s x with ⟨hc, ha⟩ | ⟨c, hc, h60, ha⟩ | ⟨c, hc, h60, ha⟩
  ·rw [ha]
   rw [hc] at HWI
   simp only [chV, Option.isSome_none] at HWI
   clear h hI hh hc ha
   go_enter Tryz.func125, Tryz.ntmps125
   go_wp2_with fail
   refine HWI.out.mono ?_; rintro e w1 ⟨rfl, hx1⟩
   go_wp2_with fail
   go_ret
   have hX := hx1.trans (Ext.alloc w1 (.cells #[.int .i64 0, .int .i64 0, .int .i64 0] 46))
   exact ⟨rfl, R, v, Grow.ofExt hX HB.out.Rl HB.out.Rb, HB.out.ext hX⟩
  ·rw [ha]
   rw [hc] at HWI
   have h6 : decide ((60 : Int) ≤ (x.slate.length : Int)) = true := decide_eq_true (by omega)
   obtain ⟨ck, cp, cg⟩ := c
   simp only [chV, Option.isSome_some] at HWI
   clear h hI hh hc ha h60
   generalize x.slate.length = SL at *
   go_enter Tryz.func125, Tryz.ntmps125
   go_wp2_with fail
   refine HWI.out.mono ?_; rintro e w1 ⟨rfl, hx1⟩
   have hX := hx1.trans (Ext.alloc w1 (.cells #[.int .i64 ck, .int .i64 cp, .int .i64 cg] 46))
   go_upto_region 4 with fail
   generalize w1.alloc (.cells #[.int .i64 ck, .int .i64 cp, .int .i64 cg] 46) = w2 at *
   replace c6 := hX.keep c6
   go_wp2_with fail
   go_ret
   exact ⟨rfl, R, v, Grow.ofExt hX HB.out.Rl HB.out.Rb, HB.out.ext hX⟩
  ·rw [ha]
   rw [hc] at HWI
   have hcs := choose_some hI hc
   have h6 : decide ((60 : Int) ≤ (x.slate.length : Int)) = false := decide_eq_false (by have := hI.slen; omega)
   have hc1 : c.1 < s.length := hcs.1
   have hcp : (Lit.int .i64 c.2.1).wf = true := wf_mk ⟨by have := hcs.2.2.1; omega, by have := hcs.2.2.2.1; omega⟩
   obtain ⟨ck, cp, cg⟩ := c
   have HAP2 := Lib.hid (fun W (q : Ext w W) => HAP.out (ck, cp, cg) W q hc1 hcp)
   simp only [chV, Option.isSome_some] at HWI
   clear h hI hh hc ha h60 hcs HAP
   generalize x.slate.length = SL at *
   go_enter Tryz.func125, Tryz.ntmps125
   go_wp2_with fail
   refine HWI.out.mono ?_; rintro e w1 ⟨rfl, hx1⟩
   have hbC := Blk.alloc w1 #[.int .i64 ck, .int .i64 cp, .int .i64 cg] 46
   have hX := hx1.trans (Ext.alloc w1 (.cells #[.int .i64 ck, .int .i64 cp, .int .i64 cg] 46))
   go_upto_region 4 with fail
   generalize w1.alloc (.cells #[.int .i64 ck, .int .i64 cp, .int .i64 cg] 46) = w2 at *
   generalize w1.heap.size = gc at *
   replace c6 := hX.keep c6
   have m0 := hbC.cell (i := 0) rfl
   have m1 := hbC.cell (i := 1) rfl
   have m2 := hbC.cell (i := 2) rfl
   go_wp2_with fail
   refine (HAP2.out w2 hX).mono ?_; rintro e w3 ⟨rfl, R3, v3, G3, hR3⟩
   have G := Lib.hid ((Grow.ofExt hX HB.out.Rl HB.out.Rb).trans G3)
   have HR3 := Lib.hid hR3
   clear G3 hR3
   go_wp2_with fail
   go_ret
   exact ⟨rfl, R3, v3, G.out, HR3.out⟩
def exS (s : List Rul) (x : St) (c : Cmd) : St := if (execS s x c).2 = 0 then (execS s x c).1 else x
theorem RefR.upE {R R' : Nat → Bool} {b rb : Nat} {rv : Value} {v : SV} {x : St} {s : List Rul} {w w1 : World} (h : RefR R b rb rv v x s w) (g : Grow R R' b w w1) (hx : Ext w w1) : RefR R' b rb rv v x s w1 := by
 have hh := g.hole
 obtain ⟨kb, k1, k2, k3⟩ := h.kn
 obtain ⟨uf, f1, f2⟩ := h.forms.row
 obtain ⟨uw, w1', w2'⟩ := h.words.row
 exact ⟨h.hb.ext hx, g.up rb h.Rrb, g.nb, g.lt, h.hr.ext hh, ⟨kb, k1, g.up kb k2, k3.ext hx⟩, h.gr.ext hh, h.base.ext hh,
  ⟨⟨uw, w1'.ext hx, w2'.ext hh⟩, fun r hr => g.up r (h.words.inR r hr)⟩,
  ⟨⟨uf, f1.ext hx, f2.ext hh⟩, fun r hr => g.up r (h.forms.inR r hr)⟩,
  h.slate.ext hx, fun r hr => g.up r (h.slateR r hr), h.orders.ext hx, fun r hr => g.up r (h.ordersR r hr), h.apart⟩
theorem RefR.grow0 (h : RefR R b rb rv v x s w) (i : Nat) (u : Value) : Grow R R b w (w.setCell ⟨rb, i, none⟩ u) :=
 (Grow.ofExt (Ext.refl w) h.Rl h.Rb).setC h.Rrb i u
theorem RefR.knNe (h : RefR R b rb rv v x s w) {kb : Nat} {l : List Bool} (hk : Blk w kb 4 (l.map .bool)) : rb ≠ kb := fun e => blk_ne hk h.hb (by decide) e.symm
theorem RefR.setS (h : RefR R b rb rv v x s w) {v6 : Value} {L : List Ch} (hr : GRow encCh 3 46 w v6 L) (hR : ∀ r, v6.ownBlock = some r → R r = true) :
  RefR R b rb rv { v with slate := v6 } { x with slate := L } s (w.setCell ⟨rb, 6, none⟩ v6) := by
 have g := h.grow0 6 v6
 have hh := g.hole
 obtain ⟨kb, k1, k2, k3⟩ := h.kn
 obtain ⟨uf, f1, f2⟩ := h.forms.row
 obtain ⟨uw, w1', w2'⟩ := h.words.row
 exact ⟨h.hb.set 6 v6, h.Rrb, h.Rb, g.lt, h.hr.ext hh, ⟨kb, k1, k2, k3.setN (h.knNe k3) 6 v6⟩, h.gr.ext hh, h.base.ext hh,
  ⟨⟨uw, w1'.setB h.hb (by decide) 6 v6, w2'.ext hh⟩, h.words.inR⟩, ⟨⟨uf, f1.setB h.hb (by decide) 6 v6, f2.ext hh⟩, h.forms.inR⟩,
  hr.setB h.hb (by decide) 6 v6, hR, h.orders.setB h.hb (by decide) 6 v6, h.ordersR, h.apart⟩
theorem RefR.setW (h : RefR R b rb rv v x s w) {v5 : Value} {us : List Value} {L : List (List Int)} (hr : GRow encV 1 34 w v5 us) (ha : AllInts (hole (more R b) w) us L) (hR : ∀ r, v5.ownBlock = some r → R r = true) (hf : ∀ r, v5.ownBlock = some r → v.forms.ownBlock ≠ some r) :
  RefR R b rb rv { v with words := v5 } { x with words := L } s (w.setCell ⟨rb, 5, none⟩ v5) := by
 have g := h.grow0 5 v5
 have hh := g.hole
 obtain ⟨kb, k1, k2, k3⟩ := h.kn
 obtain ⟨uf, f1, f2⟩ := h.forms.row
 exact ⟨h.hb.set 5 v5, h.Rrb, h.Rb, g.lt, h.hr.ext hh, ⟨kb, k1, k2, k3.setN (h.knNe k3) 5 v5⟩, h.gr.ext hh, h.base.ext hh,
  ⟨⟨us, hr.setB h.hb (by decide) 5 v5, ha.ext hh⟩, hR⟩, ⟨⟨uf, f1.setB h.hb (by decide) 5 v5, f2.ext hh⟩, h.forms.inR⟩,
  h.slate.setB h.hb (by decide) 5 v5, h.slateR, h.orders.setB h.hb (by decide) 5 v5, h.ordersR, hf⟩
theorem RefR.setG (h : RefR R b rb rv v x s w) {v2 : Value} {L : List Int} (hi : Ints (hole (more R b) w) v2 L) :
  RefR R b rb rv { v with gr := v2 } { x with gr := L } s (w.setCell ⟨rb, 2, none⟩ v2) := by
 have g := h.grow0 2 v2
 have hh := g.hole
 obtain ⟨kb, k1, k2, k3⟩ := h.kn
 obtain ⟨uf, f1, f2⟩ := h.forms.row
 obtain ⟨uw, w1', w2'⟩ := h.words.row
 exact ⟨h.hb.set 2 v2, h.Rrb, h.Rb, g.lt, h.hr.ext hh, ⟨kb, k1, k2, k3.setN (h.knNe k3) 2 v2⟩, hi.ext hh, h.base.ext hh,
  ⟨⟨uw, w1'.setB h.hb (by decide) 2 v2, w2'.ext hh⟩, h.words.inR⟩, ⟨⟨uf, f1.setB h.hb (by decide) 2 v2, f2.ext hh⟩, h.forms.inR⟩,
  h.slate.setB h.hb (by decide) 2 v2, h.slateR, h.orders.setB h.hb (by decide) 2 v2, h.ordersR, h.apart⟩
theorem RefR.setK (h : RefR R b rb rv v x s w) {kb : Nat} (hv : v.kn = .slice (some ⟨kb, 0, none⟩) s.length s.length) (hk : R kb = true) (hb : Blk w kb 4 ((knowsL s.length x.kn).map .bool)) (i : Nat) (u : Bool) {L : List Int} (hL : (knowsL s.length x.kn).set i u = knowsL s.length L) :
  Grow R R b w (w.setCell ⟨kb, i, none⟩ (.bool u)) ∧ RefR R b rb rv v { x with kn := L } s (w.setCell ⟨kb, i, none⟩ (.bool u)) := by
 have g : Grow R R b w (w.setCell ⟨kb, i, none⟩ (.bool u)) := (Grow.ofExt (Ext.refl w) h.Rl h.Rb).setC hk i (.bool u)
 have hh := g.hole
 obtain ⟨uf, f1, f2⟩ := h.forms.row
 obtain ⟨uw, w1', w2'⟩ := h.words.row
 have hset := hb.set i (.bool u)
 rw [show ((knowsL s.length x.kn).map Value.bool).set i (.bool u) = ((knowsL s.length x.kn).set i u).map .bool by rw [List.map_set], hL] at hset
 exact ⟨g, h.hb.setN (Ne.symm (h.knNe hb)) i (.bool u), h.Rrb, h.Rb, g.lt, h.hr.ext hh, ⟨kb, hv, hk, hset⟩, h.gr.ext hh, h.base.ext hh,
  ⟨⟨uw, w1'.setB hb (by decide) i (.bool u), w2'.ext hh⟩, h.words.inR⟩, ⟨⟨uf, f1.setB hb (by decide) i (.bool u), f2.ext hh⟩, h.forms.inR⟩,
  h.slate.setB hb (by decide) i (.bool u), h.slateR, h.orders.setB hb (by decide) i (.bool u), h.ordersR, h.apart⟩
structure Past (x y : St) : Prop where
 has : y.has = x.has
 kn : y.kn = x.kn
 gr : y.gr = x.gr
 base : y.base = x.base
 forms : y.forms = x.forms
 orders : y.orders = x.orders
 sl : y.slate.take x.slate.length = x.slate
 wd : y.words.take (x.slate.length + 1) = x.words
theorem Past.refl {x : St} (hw : x.words.length = x.slate.length + 1) : Past x x := ⟨rfl, rfl, rfl, rfl, rfl, rfl, List.take_of_length_le (Nat.le_refl _), List.take_of_length_le (by omega)⟩
theorem Past.le {x y : St} (h : Past x y) : x.slate.length ≤ y.slate.length := by have := congrArg List.length h.sl; rw [List.length_take] at this; omega
theorem Past.step {x y : St} (h : Past x y) (hw : y.words.length = y.slate.length + 1) (s : List Rul) (c : Ch) : Past x (stepTo s y c) := by
 have hl := h.le
 refine ⟨h.has, h.kn, h.gr, h.base, h.forms, h.orders, ?_, ?_⟩
 ·show (y.slate ++ [c]).take x.slate.length = x.slate
  rw [List.take_append_of_le_length hl]; exact h.sl
 ·show (y.words ++ [_]).take (x.slate.length + 1) = x.words
  rw [List.take_append_of_le_length (by omega)]; exact h.wd
theorem Past.back {x y : St} (h : Past x y) : ({ ({ y with slate := y.slate.take x.slate.length } : St) with words := y.words.take (x.slate.length + 1) } : St) = x := by
 obtain ⟨h1, h2, h3, h4, h5, h6, h7, h8⟩ := h
 cases x; cases y
 simp only at *
 subst h1 h2 h3 h4 h5 h6
 simp [h7, h8]
theorem rend9_c (h : RefR R b rb rv v x s w) (hI : InvE s x) (hbw : b < w.heap.size) :
  Calls Tryz.prog 126 #[.pointer (some ⟨rb, 0, none⟩)] w (RRef R b rb rv s (exS s x .fin) (execS s x .fin).2 w) := by
 have c3 := h.hb.cell (i := 3) rfl
 have c6 := h.hb.cell (i := 6) rfl
 obtain ⟨sa, sc, hsv, _⟩ := (h.slate.cel encCh_len).open_
 rw [hsv] at c6
 have HB := Lib.hid h
 have HIX : Hid (InvE s x) := Lib.hid hI
 clear hsv
 cases hh : x.has with
 | false =>
  rw [show exS s x .fin = x by unfold exS; simp only [execS, hh]; rfl, show (execS s x .fin).2 = 8 by simp only [execS]; rw [if_neg (by rw [hh]; decide)]]
  rw [hh] at c3
  clear h hI hh
  go_enter Tryz.func126, Tryz.ntmps126
  go_wp2_with fail
  go_ret
  exact ⟨rfl, R, v, Grow.ofExt (Ext.refl _) HB.out.Rl HB.out.Rb, HB.out⟩
 | true =>
  rw [hh] at c3
  have he : execS s x .fin = endS s 61 x := by simp only [execS]; rw [if_pos hh]
  have HEX : Hid (exS s x .fin = if (endS s 61 x).2 = 0 then (endS s 61 x).1 else x) := Lib.hid (by unfold exS; rw [he])
  rw [he]
  have HP : Hid (Past x x) := Lib.hid (Past.refl (hI.wlen hh))
  have HH := Lib.hid hh
  clear h hI hh he
  go_enter Tryz.func126, Tryz.ntmps126
  go_wp2_with fail
  have hsl0 := HIX.out.slen
  go_loopg [5, 4] 61 (fun m p4 p5 wr => ∃ (y : St) (vy : SV) (R' : Nat → Bool), RefR R' b rb rv vy y s wr ∧ Grow R R' b w wr ∧ InvE s y ∧ Hid (y.has = true ∧ endS s m y = endS s 61 x ∧ 61 ≤ y.slate.length + m ∧ Past x y))
  case atStart => exact ⟨x, v, R, HB.out, Grow.ofExt (Ext.refl _) HB.out.Rl HB.out.Rb, HIX.out, Lib.hid ⟨HH.out, rfl, by omega, HP.out⟩⟩
  case round =>
   obtain ⟨y, vy, R', hY, hG, hIy, hH⟩ := hrel
   have hsl := hIy.slen
   obtain ⟨m, rfl⟩ : ∃ m, gk = m + 1 := ⟨gk - 1, by have := hH.out.2.2.1; omega⟩
   have k6 := hY.hb.cell (i := 6) rfl
   have k5 := hY.hb.cell (i := 5) rfl
   obtain ⟨ya, yc, hyv, hyc, _⟩ := (hY.slate.cel encCh_len).open_
   obtain ⟨us, hrow, hall⟩ := hY.words.row
   obtain ⟨wa, wc, hwv, hwc, _⟩ := (hrow.cel encV_len).open_
   rw [hyv] at k6
   rw [hwv] at k5
   have hbw2 : b < wr.heap.size := Nat.lt_of_lt_of_le hbw hG.ext.size
   have HWI := Lib.hid (rwin_c hY hIy hH.out.1)
   have HAP := Lib.hid (fun (c : Ch) W (q : Ext wr W) (hc : c.1 < s.length) (hp : (Lit.int .i64 c.2.1).wf = true) => rapply9_c (hY.ext q) hIy hH.out.1 (Nat.lt_of_lt_of_le hbw2 q.size) c hc hp)
   have HY := Lib.hid hY
   have HIY := Lib.hid hIy
   rcases adv_cases s y with ⟨hc, ha⟩ | ⟨c, hc, h60, ha⟩ | ⟨c, hc, h60, ha⟩
   ·have HR : Hid (endS s 61 x = (y, 0)) := Lib.hid (by rw [← hH.out.2.1, endS_succ, ha]; rfl)
    rw [hc] at HWI
    simp only [chV, Option.isSome_none] at HWI
    clear hY hIy hc ha hyv hwv hrow hall
    go_wp2_with fail
    refine HWI.out.mono ?_; rintro e w1 ⟨rfl, hx1⟩
    go_wp2_with fail
    go_ret
    have hX := hx1.trans (Ext.alloc w1 (.cells #[.int .i64 0, .int .i64 0, .int .i64 0] 46))
    rw [HEX.out, HR.out]
    exact ⟨rfl, R', vy, hG.trans (Grow.ofExt hX HY.out.Rl HY.out.Rb), HY.out.ext hX⟩
   ·have HR : Hid (endS s 61 x = (y, 3)) := Lib.hid (by rw [← hH.out.2.1, endS_succ, ha]; rfl)
    have h6 : decide ((60 : Int) ≤ (y.slate.length : Int)) = true := decide_eq_true (by omega)
    have hle := hH.out.2.2.2.le
    have hus : us.length = 61 := by have := hall.1; have := hIy.wlen hH.out.1; omega
    rw [h60] at k6 h6 hyv
    rw [hus] at k5 hwv
    have HYV := Lib.hid hyv
    have HWV := Lib.hid hwv
    have HROW := Lib.hid hrow
    have HALL := Lib.hid hall
    have hHU := Lib.hid hus
    rw [hc] at HWI
    obtain ⟨ck, cp, cg⟩ := c
    simp only [chV, Option.isSome_some] at HWI
    have HBL : Hid (x.slate.length = x.slate.length) := Lib.hid rfl
    have hb1 : x.slate.length ≤ 60 := by omega
    have hc1 : x.slate.length ≤ yc := by omega
    have hc2 : x.slate.length + 1 ≤ wc := by omega
    clear hY hIy hc ha hyv hwv hrow hall h60 hus hle
    go_wp2_with fail
    refine HWI.out.mono ?_; rintro e w1 ⟨rfl, hx1⟩
    have hX := hx1.trans (Ext.alloc w1 (.cells #[.int .i64 ck, .int .i64 cp, .int .i64 cg] 46))
    go_upto_region 7 with fail
    generalize w1.alloc (.cells #[.int .i64 ck, .int .i64 cp, .int .i64 cg] 46) = w2 at *
    replace k6 := hX.keep k6
    replace k5 := hX.keep k5
    have hb2 := HY.out.hb.ext hX
    have f6 := hb2.frozen 6
    have f5 := hb2.frozen 5
    have d1 : decide ((x.slate.length : Int) ≤ (yc : Int)) = true := decide_eq_true (by omega)
    have d2 : decide ((x.slate.length : Int) + 1 ≤ (wc : Int)) = true := decide_eq_true (by omega)
    go_upto_region 9 with fail
    have hRF := HY.out.ext hX
    have hgs := hRF.slate
    have hRs := hRF.slateR
    rw [HYV.out] at hgs hRs
    have hR3 := hRF.setS (GRow.cut encCh_len hgs hH.out.2.2.2.le) (fun r hr => hRs r (by cases ya with | none => cases hr | some p => exact hr))
    have G3 := Lib.hid ((hG.trans (Grow.ofExt hX HY.out.Rl HY.out.Rb)).trans (hRF.grow0 6 (.slice ya x.slate.length x.slate.length)))
    have hro3 := ((HROW.out.ext hX).setB hb2 (by decide) 6 (.slice ya x.slate.length x.slate.length))
    have hal3 := HALL.out.ext ((Grow.ofExt hX HY.out.Rl HY.out.Rb).trans (hRF.grow0 6 (.slice ya x.slate.length x.slate.length))).hole
    have hb3 := hb2.set 6 (.slice ya x.slate.length x.slate.length)
    have f53 := hb3.frozen 5
    have k53 := hb3.cell (i := 5) rfl
    rw [HWV.out] at k53 hro3
    have HR3 := Lib.hid hR3
    have HO3 := Lib.hid hro3
    have HA3 := Lib.hid hal3
    have hx3 := (ExtX.set w2 rb 6 (.slice ya x.slate.length x.slate.length))
    clear hRF hgs hRs hR3 hro3 hal3 hb3 hb2 k5 k6 f6 f5 hx3
    generalize World.setCell w2 ⟨rb, 6, none⟩ _ = w3 at *
    go_wp2_with fail
    go_ret
    have hwo : ∀ r, (Value.slice wa (x.slate.length + 1) (x.slate.length + 1)).ownBlock = some r → vy.words.ownBlock = some r := fun r hr => by
     rw [HWV.out]
     cases wa with
     | none => cases hr
     | some p => exact hr
    have hR4 := HR3.out.setW (GRow.cut encV_len HO3.out (m := x.slate.length + 1) (by rw [hHU.out]; omega)) (HA3.out.take (x.slate.length + 1)) (fun r hr => HY.out.words.inR r (hwo r hr)) (fun r hr => HY.out.apart r (hwo r hr))
    have hbk := hH.out.2.2.2.back
    simp only at hR4 hbk
    rw [hbk] at hR4
    rw [HEX.out, HR.out]
    exact ⟨rfl, R', _, G3.out.trans (HR3.out.grow0 5 _), hR4⟩
   ·have hcs := choose_some hIy hc
    have h6 : decide ((60 : Int) ≤ (y.slate.length : Int)) = false := decide_eq_false (by omega)
    have hc1 : c.1 < s.length := hcs.1
    have hcp : (Lit.int .i64 c.2.1).wf = true := wf_mk ⟨by have := hcs.2.2.1; omega, by have := hcs.2.2.2.1; omega⟩
    have HI2 := Lib.hid (hIy.stepTo hH.out.1 hc h60)
    have HR : Hid (endS s m (stepTo s y c) = endS s 61 x) := Lib.hid (by rw [← hH.out.2.1, endS_succ, ha]; rfl)
    have HP2 := Lib.hid (hH.out.2.2.2.step (hIy.wlen hH.out.1) s c)
    have HLN : Hid (61 ≤ (stepTo s y c).slate.length + m) := Lib.hid (by
     have := hH.out.2.2.1
     show 61 ≤ (y.slate ++ [c]).length + m
     simp; omega)
    have HHS : Hid ((stepTo s y c).has = true) := Lib.hid hH.out.1
    rw [hc] at HWI
    obtain ⟨ck, cp, cg⟩ := c
    have HAP2 := Lib.hid (fun W (q : Ext wr W) => HAP.out (ck, cp, cg) W q hc1 hcp)
    simp only [chV, Option.isSome_some] at HWI
    have HG := Lib.hid hG
    generalize stepTo s y (ck, cp, cg) = z at *
    clear hY hIy hc ha hyv hwv hrow hall h60 hcs HAP hG
    generalize y.slate.length = SL at *
    go_wp2_with fail
    refine HWI.out.mono ?_; rintro e w1 ⟨rfl, hx1⟩
    have hbC := Blk.alloc w1 #[.int .i64 ck, .int .i64 cp, .int .i64 cg] 46
    have hX := hx1.trans (Ext.alloc w1 (.cells #[.int .i64 ck, .int .i64 cp, .int .i64 cg] 46))
    go_upto_region 7 with fail
    generalize w1.alloc (.cells #[.int .i64 ck, .int .i64 cp, .int .i64 cg] 46) = w2 at *
    generalize w1.heap.size = gc at *
    replace k6 := hX.keep k6
    have m0 := hbC.cell (i := 0) rfl
    have m1 := hbC.cell (i := 1) rfl
    have m2 := hbC.cell (i := 2) rfl
    go_wp2_with fail
    refine (HAP2.out w2 hX).mono ?_; rintro e w3 ⟨rfl, R3, v3, G3, hR3⟩
    have G := Lib.hid ((HG.out.trans (Grow.ofExt hX HY.out.Rl HY.out.Rb)).trans G3)
    have HR3 := Lib.hid hR3
    clear G3 hR3
    go_wp2_with fail
    go_roundg m
    case measure => omega
    case rel => exact ⟨z, v3, R3, HR3.out, G.out, HI2.out, Lib.hid ⟨HHS.out, HR.out, HLN.out, HP2.out⟩⟩
theorem gr_set {R : Nat → Bool} {b rb : Nat} {rv : Value} {v : SV} {x : St} {s : List Rul} {w w1 : World} (h : RefR R b rb rv v x s w) (hbw : b < w.heap.size) (hX : Ext w w1) {v2 : Value} {L : List Int} (ho : OInts 3 w1 w.heap.size v2 L) :
  ∃ R' v', Grow R R' b w (w1.setCell ⟨rb, 2, none⟩ v2) ∧ RefR R' b rb rv v' { x with gr := L } s (w1.setCell ⟨rb, 2, none⟩ v2) := by
 have h1 := h.ext hX
 have hi : Ints (hole (more R b) w1) v2 L := (OInts.hole ho (fun k hk => by
  rcases more_or hk with hk | hk
  ·exact h.Rl k hk
  ·subst hk; exact hbw)).ints
 exact ⟨R, _, (Grow.ofExt hX h.Rl h.Rb).trans (h1.grow0 2 v2), h1.setG hi⟩
theorem changeX (s : List Rul) (x : St) (n : Nat) (h : ¬ (n < 1 ∨ 4 < n)) : execS s x (.change n) = ({ x with gr := if (x.gr.filter (· != (n : Int))).length = x.gr.length then x.gr.filter (· != (n : Int)) ++ [(n : Int)] else x.gr.filter (· != (n : Int)) }, 0) := by
 simp only [execS, teachS]
 rw [if_neg h]
 cases hb : hasB x.gr (n : Int) with
 | true =>
  have := mt (without_len (l := x.gr) (g := (n : Int))).1 (by rw [hb]; decide)
  rw [if_pos rfl, if_neg this]
 | false =>
  have h2 := without_len.2 hb
  rw [if_neg (by decide), if_pos h2]
  have h3 : x.gr.filter (· != (n : Int)) = x.gr := List.filter_eq_self.2 (by
   have := List.length_filter_eq_length_iff.1 h2
   exact this)
  rw [h3]
theorem rchange9_c (h : RefR R b rb rv v x s w) (hI : InvE s x) (hbw : b < w.heap.size) (n : Nat) (hn : n ≤ 99) :
  Calls Tryz.prog 124 #[.pointer (some ⟨rb, 0, none⟩), .int .i64 n] w (RRef R b rb rv s (execS s x (.change n)).1 (execS s x (.change n)).2 w) := by
 have HB := Lib.hid h
 by_cases hng : n < 1 ∨ 4 < n
 ·rw [show execS s x (.change n) = (x, 4) by simp only [execS, teachS]; rw [if_pos hng]]
  clear h hI
  go_enter Tryz.func124, Tryz.ntmps124
  by_cases h1 : n < 1
  ·have h1' : (n : Int) < 1 := by omega
   go_wp2_with fail
   go_ret
   exact ⟨rfl, R, v, Grow.ofExt (Ext.refl _) HB.out.Rl HB.out.Rb, HB.out⟩
  ·have h1' : ¬ ((n : Int) < 1) := by omega
   have h2' : (4 : Int) < (n : Int) := by omega
   go_wp2_with fail
   go_ret
   exact ⟨rfl, R, v, Grow.ofExt (Ext.refl _) HB.out.Rl HB.out.Rb, HB.out⟩
 ·rw [changeX s x n hng]
  obtain ⟨G, hG⟩ : ∃ G, G = (if (x.gr.filter (· != (n : Int))).length = x.gr.length then x.gr.filter (· != (n : Int)) ++ [(n : Int)] else x.gr.filter (· != (n : Int))) := ⟨_, rfl⟩
  rw [← hG]
  have HG1 := Lib.hid hG
  clear hG
  have h1' : ¬ ((n : Int) < 1) := by omega
  have h2' : ¬ ((4 : Int) < (n : Int)) := by omega
  obtain ⟨ga, gc, hgv, _, _, H⟩ := (h.gr.sub (hole_sub _ w)).open_
  have c2 := h.hb.cell (i := 2) rfl
  rw [hgv] at c2
  have HGL : Hid (x.gr.length ≤ 4) := Lib.hid (by have := validG_zero.1 hI.gr; omega)
  have hfr := h.hb.frozen 2
  have HLE : Hid ((x.gr.filter (· != (n : Int))).length ≤ x.gr.length) := Lib.hid (List.length_filter_le _ _)
  generalize hL : x.gr = L at *
  have HLL := Lib.hid hL
  clear h hI hL hgv
  obtain ⟨N, hN⟩ : ∃ N, L.length = N := ⟨_, rfl⟩
  rw [hN] at c2
  have HN := Lib.hid hN
  clear hN
  go_enter Tryz.func124, Tryz.ntmps124
  go_wp2_with fail
  go_loopg [6, 5] N (fun m i t wr => ∃ k : Nat, k ≤ N ∧ N ≤ k + m ∧ i = .int .i64 k ∧ Ext w wr ∧ OInts 3 wr w.heap.size t ((L.take k).filter (· != (n : Int))))
  case atStart => exact ⟨0, by omega, by omega, rfl, Ext.refl _, OInts.nil _ _ _⟩
  case round =>
   obtain ⟨k, hk, hk2, rfl, hX, ho⟩ := hrel
   have HO := Lib.hid ho
   have k2 := hX.keep c2
   by_cases hlt : k < N
   ·have hkL : k < L.length := by rw [HN.out]; exact hlt
    obtain ⟨b2, o2, rfl, hcell⟩ := H.out k hkL
    have HG : Hid (L[k]? = some L[k]) := Lib.hid (List.getElem?_eq_getElem hkL)
    rw [HG.out] at hcell
    dsimp only [Option.getD_some] at hcell
    generalize L[k] = e at *
    replace hcell := hX.keep hcell
    have hz := hX.size
    have HS6 : ((L.take k).filter (· != (n : Int))).length ≤ 4 := by
     have h1 := List.length_filter_le (· != (n : Int)) (L.take k)
     rw [List.length_take] at h1
     have := HGL.out
     omega
    have HY := Lib.hid (fun hf => filter_take_yes (f := fun z => z != (n : Int)) HG.out hf)
    have HNO := Lib.hid (fun hf => filter_take_no (f := fun z => z != (n : Int)) HG.out hf)
    obtain ⟨ta, tc, htv, _⟩ := ho.ints.open_
    subst htv
    clear ho
    by_cases he : e = (n : Int)
    ·subst he
     have HF := Lib.hid (HNO.out (by simp))
     go_wp2_with fail
     go_roundg (gk-1)
     case measure => omega
     case rel => exact ⟨k+1, by omega, by omega, by go_num, hX, by rw [HF.out]; exact HO.out⟩
    ·have HF := Lib.hid (HY.out (by simp [he]))
     have he2 : ¬ (e = (n : Int)) := he
     generalize ((L.take k).filter (· != (n : Int))) = LF at *
     go_wp2_with (at_builtin; refine wpList_appendInt elInts rfl _ _ rfl rfl rfl HO.out rfl hz (by omega) ?_; intro v' w' ho' hb')
     go_roundg (gk-1)
     case measure => omega
     case rel => exact ⟨k+1, by omega, by omega, by go_num, hX.upto hb' (Nat.le_refl _), by rw [HF.out]; exact ho'⟩
   ·obtain rfl : k = N := by omega
    rw [List.take_of_length_le (by rw [HN.out]; omega)] at HO
    have hz := hX.size
    obtain ⟨ta, tc, htv, _⟩ := HO.out.ints.open_
    subst htv
    have HF4 : k ≤ 4 := by have := HGL.out; have := HN.out; omega
    have HLE2 : (L.filter (· != (n : Int))).length ≤ 4 := by have := HLE.out; have := HGL.out; omega
    by_cases he : (L.filter (· != (n : Int))).length = k
    ·have HGG : Hid (G = L.filter (· != (n : Int)) ++ [(n : Int)]) := Lib.hid (by rw [HG1.out, HN.out, if_pos he])
     have he2 : ((L.filter (· != (n : Int))).length : Int) = (k : Int) := by omega
     have HE := Lib.hid he
     clear he
     generalize hLF : L.filter (· != (n : Int)) = LF at *
     clear hLF
     go_upto_region 11 with (at_builtin; refine wpList_appendInt elInts rfl _ _ rfl rfl rfl HO.out rfl hz (by omega) ?_; intro v' w' ho' hb'; have hX2 := hX.upto hb' (Nat.le_refl _))
     obtain ⟨R', v2, G2, hR2⟩ := gr_set HB.out hbw hX2 ho'
     have hb1 := HB.out.hb.cell (i := 2) rfl
     obtain ⟨ua, uc, huv, _⟩ := ho'.ints.open_
     rw [List.length_append, List.length_singleton] at huv
     subst huv
     have hf2 := (HB.out.hb.ext hX2).frozen 2
     have kq := (HB.out.hb.ext hX2).cell (i := 2) rfl
     have HFIN := Lib.hid (show ∃ R' v', Grow R R' b w (w'.setCell ⟨rb, 2, none⟩ (.slice ua (LF.length + 1) uc)) ∧ RefR R' b rb rv v' { x with gr := G } s (w'.setCell ⟨rb, 2, none⟩ (.slice ua (LF.length + 1) uc)) from ⟨R', v2, G2, by rw [HGG.out]; exact hR2⟩)
     clear hR2 G2
     go_wp2_with fail
     go_ret
     exact ⟨rfl, HFIN.out⟩
    ·have HGG : Hid (G = L.filter (· != (n : Int))) := Lib.hid (by rw [HG1.out, HN.out, if_neg he])
     have he2 : ¬ (((L.filter (· != (n : Int))).length : Int) = (k : Int)) := by omega
     obtain ⟨R', v2, G2, hR2⟩ := gr_set HB.out hbw hX HO.out
     have hf2 := (HB.out.hb.ext hX).frozen 2
     generalize hLF : L.filter (· != (n : Int)) = LF at *
     have HFIN := Lib.hid (show ∃ R' v', Grow R R' b w (wr.setCell ⟨rb, 2, none⟩ (.slice ta LF.length tc)) ∧ RefR R' b rb rv v' { x with gr := G } s (wr.setCell ⟨rb, 2, none⟩ (.slice ta LF.length tc)) from ⟨R', v2, G2, by rw [HGG.out]; exact hR2⟩)
     clear hR2 G2 hLF he
     go_wp2_with fail
     go_ret
     exact ⟨rfl, HFIN.out⟩
theorem any_upto {f : Nat → Bool} {k : Nat} (h : ((List.range k).any f) = false) (hk : f k = false) : ((List.range (k + 1)).any f) = false := by rw [List.range_succ, List.any_append, h]; simp [hk]
theorem empty_own (V : World) : (V.alloc (.cells #[] 3)).ownsRow V.heap.size 3 1 (.slice (some ⟨V.heap.size, 0, none⟩) 0 0) 0 [] := World.ownsRow_lit (size := 1) V #[] 0 (Nat.le_refl _) (by unfold maxLen; omega) rfl
theorem rsay9_c (h : RefR R b rb rv v x s w) (hI : InvE s x) (hbw : b < w.heap.size) (hf : x.forms.length ≤ 1000) :
  Calls Tryz.prog 127 #[.pointer (some ⟨rb, 0, none⟩)] w (RRef R b rb rv s (exS s x .say) (execS s x .say).2 w) := by
 have c3 := h.hb.cell (i := 3) rfl
 have HB := Lib.hid h
 have HEN := Lib.hid (fun W (q : Ext w W) => rEnded_c (h.ext q) hI)
 cases hh : x.has with
 | false =>
  rw [show exS s x .say = x by unfold exS; simp only [execS, hh]; rfl, show (execS s x .say).2 = 8 by simp only [execS]; rw [if_neg (by rw [hh]; decide)]]
  rw [hh] at c3
  clear h hI hh HEN
  go_enter Tryz.func127, Tryz.ntmps127
  go_wp2_with fail
  go_ret
  exact ⟨rfl, R, v, Grow.ofExt (Ext.refl _) HB.out.Rl HB.out.Rb, HB.out⟩
 | true =>
  rw [hh] at c3
  cases hc : chooseS s x with
  | some c =>
   have hE : execS s x .say = (x, 6) := by simp only [execS]; rw [if_pos hh, hc]
   rw [show exS s x .say = x by unfold exS; rw [hE]; rfl, hE]
   rw [show endedS s x = false by unfold endedS; rw [hc]; simp] at HEN
   clear h hI hh hc hE
   go_enter Tryz.func127, Tryz.ntmps127
   go_wp2_with fail
   refine (HEN.out w (Ext.refl w)).mono ?_; rintro e w1 ⟨rfl, hx1⟩
   go_wp2_with fail
   go_ret
   exact ⟨rfl, R, v, Grow.ofExt hx1 HB.out.Rl HB.out.Rb, HB.out.ext hx1⟩
  | none =>
   rw [show endedS s x = true by unfold endedS; rw [hc, hh]; rfl] at HEN
   have HS2 : Hid (x.forms.contains (lastW x) = true → exS s x .say = x ∧ (execS s x .say).2 = 5) := Lib.hid fun h2 => by
    have hE : execS s x .say = (x, 5) := by simp only [execS]; rw [if_pos hh, hc]; simp only; rw [if_pos h2]
    exact ⟨by unfold exS; rw [hE]; rfl, by rw [hE]⟩
   have HS3 : Hid (x.forms.contains (lastW x) = false → exS s x .say = { x with forms := x.forms ++ [lastW x] } ∧ (execS s x .say).2 = 0) := Lib.hid fun h2 => by
    have hE : execS s x .say = ({ x with forms := x.forms ++ [lastW x] }, 0) := by simp only [execS]; rw [if_pos hh, hc]; simp only; rw [if_neg (by rw [h2]; decide)]
    exact ⟨by unfold exS; rw [hE]; rfl, by rw [hE]⟩
   obtain ⟨uw, hu0, HWD0⟩ := rWord_c h hI
   have HWD := Lib.hid HWD0
   have huF := hu0.sub (hole_sub _ w)
   have c7 := h.hb.cell (i := 7) rfl
   obtain ⟨us, hrow, hall⟩ := h.forms.row
   obtain ⟨fa, fc, hfv, hf1, hf2, HF⟩ := (hrow.cel encV_len).open_
   rw [hfv] at c7
   have HUL := Lib.hid hall.1
   have HAL := Lib.hid hall
   have HROW := Lib.hid hrow
   have HFV := Lib.hid hfv
   have HUW := Lib.hid hu0
   obtain ⟨N, hN⟩ : ∃ N, us.length = N := ⟨_, rfl⟩
   have hNf : x.forms.length = N := by rw [← hN]; exact HUL.out.symm
   have hN2 : N ≤ 1000 := by omega
   have HFC : Hid (∀ k, k < N → ∃ b2 o2 u, fa = some ⟨b2, o2, none⟩ ∧ w.cell? ⟨b2, o2 + k, none⟩ = some u ∧ Ints w u (x.forms[k]?.getD [])) := Lib.hid fun k hk => by
    have hk2 : k < us.length := by omega
    obtain ⟨b2, o2, ha, hc2⟩ := HF.out k us[k] (List.getElem?_eq_getElem hk2)
    have := hc2 0 us[k] rfl
    rw [Nat.mul_one, Nat.add_zero] at this
    exact ⟨b2, o2, us[k], ha, this, (hall.2 k _ (List.getElem?_eq_getElem hk2)).sub (hole_sub _ w)⟩
   have HAN := Lib.hid (any_same x.forms (lastW x))
   rw [hNf] at HAN
   rw [hN] at c7
   obtain ⟨lw, hlw⟩ : ∃ lw, lw = lastW x := ⟨_, rfl⟩
   have HLW : Hid (lw.length ≤ 1000000) := Lib.hid (by
    have := hI.last
    rw [← hlw] at this
    unfold validW at this
    split at this
    ·cases this
    ·omega)
   rw [← hlw] at HS2 HS3 HUW huF HAN
   obtain ⟨ua, uc, huv, _⟩ := huF.open_
   subst huv
   obtain ⟨E, hE⟩ : ∃ E, E = exS s x .say := ⟨_, rfl⟩
   obtain ⟨KE, hKE⟩ : ∃ KE, KE = (execS s x .say).2 := ⟨_, rfl⟩
   rw [← hE, ← hKE]
   rw [← hE, ← hKE] at HS2 HS3
   have HFN := Lib.hid hNf
   have HNU := Lib.hid hN
   have HIU := Lib.hid huF
   clear h hI hh hc hE hKE hu0 HWD0 hrow hall hfv hN hNf HF hlw huF
   go_enter Tryz.func127, Tryz.ntmps127
   go_wp2_with fail
   refine (HEN.out w (Ext.refl w)).mono ?_; rintro e w1 ⟨rfl, hx1⟩
   go_wp2_with fail
   replace c7 := hx1.keep c7
   go_loopg [3] N (fun m i wr => ∃ k : Nat, k ≤ N ∧ N ≤ k + m ∧ i = .int .i64 k ∧ Ext w wr ∧ Hid (((List.range k).any fun i => sameIntsB (x.forms[i]?.getD []) lw) = false))
   case atStart => exact ⟨0, by omega, by omega, rfl, hx1, Lib.hid rfl⟩
   case round =>
    obtain ⟨k, hk, hk2, rfl, hX, hA⟩ := hrel
    have d7 := hX.keep (HB.out.hb.cell (i := 7) rfl)
    rw [HFV.out, HNU.out] at d7
    by_cases hlt : k < N
    ·obtain ⟨b2, o2, u, rfl, hcell, hui⟩ := HFC.out k hlt
     have HSI := Lib.hid (fun W (q : Ext w W) => sameInts4_c u (.slice ua lw.length uc) (x.forms[k]?.getD []) lw W (hui.ext q) (HIU.out.ext q))
     have hYes : Hid (sameIntsB (x.forms[k]?.getD []) lw = true → x.forms.contains lw = true) := Lib.hid fun h => by
      rw [← HAN.out, List.any_eq_true]
      exact ⟨k, List.mem_range.2 hlt, h⟩
     have hNo : Hid (sameIntsB (x.forms[k]?.getD []) lw = false → ((List.range (k + 1)).any fun i => sameIntsB (x.forms[i]?.getD []) lw) = false) := Lib.hid fun h => any_upto hA.out h
     obtain ⟨pa, pc, hpv, _⟩ := hui.open_
     subst hpv
     generalize sameIntsB (x.forms[k]?.getD []) lw = SB at *
     generalize (x.forms[k]?.getD []).length = FL at *
     clear hui
     go_upto_region 8 with fail
     refine wp_region_treeR (fun a b => Ext a b) [] (.look 0 (.look 1 (.look 2 (.look 3 (.look 4 (.look 5 (.look 6 (.look 7 (.one 8 (.one 9 .done)))))))))) (fun w => Ext.refl w) (fun a b c h k => Ext.trans h k) (by kernel_rfl) (by kernel_rfl) (by intro c a d v w h; cases d <;> exact h) ?_
     have hd := drawnP_ext wr
     have hX0 := hX.trans hd
     generalize { wr with drawn := wr.drawn + 1 } = W0 at *
     have q7 : ∀ q : InC (fun c => Ext W0 c), q.w.cell? ⟨rb, 7, none⟩ = some (.slice (some ⟨b2, o2, none⟩) N fc) := fun q => (hd.trans q.h).keep d7
     have qc : ∀ q : InC (fun c => Ext W0 c), q.w.cell? ⟨b2, o2 + k, none⟩ = some (.slice pa FL pc) := fun q => (hX0.trans q.h).keep hcell
     iterate 8 (refine wpTreeR_look rfl fun K hK => ?_; go_simp; (first | refine hK _ ?_ | refine ⟨_, fun _ => rfl, hK _ ?_⟩); clear hK K)
     refine wpTreeR_one rfl rfl (fun K hK => ?_)
     go_wp2_with fail
     refine (HWD.out W0 hX0).mono ?_; rintro e w2 ⟨rfl, hx2⟩
     go_wp2_with fail
     refine ⟨.inr hx2, ?_⟩
     refine wpTreeR_one rfl rfl (fun K hK => ?_)
     go_wp2_with fail
     refine (HSI.out w2 (hX0.trans hx2)).mono ?_; rintro e w3 ⟨rfl, n3, rfl⟩
     go_wp2_with fail
     refine ⟨.inr (Ext.drewN _ _), ?_⟩
     refine wpTreeR_done ?_
     have hX3 := (hX0.trans hx2).trans (Ext.drewN w2 n3)
     generalize w2.drewN n3 = w4 at *
     cases SB with
     | true =>
      obtain ⟨e1, e2⟩ := HS2.out (hYes.out rfl)
      go_wp2_with fail
      go_ret
      exact ⟨rfl, R, v, Grow.ofExt hX3 HB.out.Rl HB.out.Rb, HB.out.ext hX3⟩
     | false =>
      have HN2 := Lib.hid (hNo.out rfl)
      go_wp2_with fail
      go_roundg (gk-1)
      case measure => omega
      case rel => exact ⟨k+1, by omega, by omega, by go_num, hX3, HN2⟩
    ·obtain rfl : k = N := by omega
     obtain ⟨e1, e2⟩ := HS3.out (by rw [← HAN.out]; exact hA.out)
     have HE1 := Lib.hid e1
     have HE2 := Lib.hid e2
     clear e1 e2
     go_upto_region 10 with fail
     have HRW := HB.out.ext hX
     have hQb0 := HRW.forms.row
     have hbR := HRW.hb
     have hfR := HROW.out.ext hX
     rw [HFV.out] at hbR hfR
     have hQb : (Value.slice fa k fc).ownBlock ≠ some rb := by rw [← HNU.out]; exact hfR.ne hbR (by decide)
     have hFl : ∀ r, (Value.slice fa k fc).ownBlock = some r → r < w.heap.size := fun r hr => HB.out.Rl r (HB.out.forms.inR r (by rw [HFV.out, HNU.out]; exact hr))
     rw [HNU.out] at hfR hbR
     obtain ⟨QQ, hQQ⟩ : ∃ QQ : Nat → Bool, QQ = fun j => decide ((Value.slice fa k fc).ownBlock = some j) || decide (w.heap.size ≤ j) := ⟨_, rfl⟩
     have hQ1 : QQ rb = false := by rw [hQQ]; simp only [Bool.or_eq_false_iff]; exact ⟨decide_eq_false hQb, decide_eq_false (by have := HB.out.hb.lt; omega)⟩
     have HQQ := Lib.hid hQQ
     have HHX := Lib.hid hX
     have hQX : Hid (∀ a b, Below w.heap.size a b → ExtX QQ a b) := Lib.hid fun a b h => ⟨h.os, h.tape, h.output, h.size, fun j hj hq => h.block j (by
      rw [HQQ.out] at hq
      simp only [Bool.or_eq_false_iff, decide_eq_false_iff_not] at hq
      omega)⟩
     have hQG : Hid (∀ a b, a.grownBy b (Value.slice fa k fc).ownBlock → ExtX QQ a b) := Lib.hid fun a b h => (ExtX.ofGrown h).mono fun j hj hq => by
      rw [HQQ.out] at hq
      simp only [Bool.or_eq_false_iff] at hq
      exact hq.1
     have HUSL := Lib.hid (show us.length ≤ 1000 by rw [HNU.out]; exact hN2)
     clear hQQ hQb0
     refine wp_region_treeR (fun a b => ExtX QQ a b) [13] (.look 0 (.look 1 (.look 2 (.look 3 (.look 4 (.look 6 (.two 5 (.one 7 (.one 8 (.one 9 (.one 10 (.look 11 (.look 12 (.one 13 .done))))))) 7 (.one 5 (.one 8 (.one 9 (.one 10 (.look 11 (.look 12 (.one 13 .done)))))))))))))) (fun w => ExtX.refl _ w) (fun a b c h k => ExtX.trans h k) (by kernel_rfl) (by kernel_rfl) (by intro c a d v w h; cases d <;> exact h) ?_
     have hd := drawnP_ext wr
     have hX0 := hX.trans hd
     replace hbR := hbR.ext hd
     replace hfR := hfR.ext hd
     generalize { wr with drawn := wr.drawn + 1 } = W0 at *
     have q7 : ∀ q : InC (fun c => ExtX QQ W0 c), q.w.cell? ⟨rb, 7, none⟩ = some (.slice fa k fc) := fun q => (hbR.stay q.h hQ1).cell rfl
     iterate 6 (refine wpTreeR_look rfl fun K hK => ?_; go_simp; (first | refine hK _ ?_ | refine ⟨_, fun _ => rfl, hK _ ?_⟩); clear hK K)
     refine wpTreeR_two rfl rfl rfl rfl (fun K hK => ?_) (fun K hK => ?_)
     ·go_wp2_with fail
      have hE1 := Ext.alloc W0 (.cells #[] 3)
      have hown : OInts 3 (W0.alloc (.cells #[] 3)) w.heap.size (.slice (some ⟨W0.heap.size, 0, none⟩) 0 0) [] := OInts.low (empty_own W0) hX0.size
      refine ⟨.inr (hE1.toX _), ?_⟩
      generalize W0.alloc (.cells #[] 3) = W1 at *
      generalize W0.heap.size = g1 at *
      refine wpTreeR_one rfl rfl (fun K hK => ?_)
      go_wp2_with fail
      refine (HWD.out W1 (hX0.trans hE1)).mono ?_; rintro e W2 ⟨rfl, hx2⟩
      go_wp2_with fail
      refine ⟨.inr (hx2.toX _), ?_⟩
      replace hown := hown.ext hx2
      have hE02 := hE1.trans hx2
      refine wpTreeR_one rfl rfl (fun K hK => ?_)
      have hX2 := hX0.trans hE02
      have hraw := Lib.hid ((HIU.out.ext hX2).raw)
      refine wpList_appendAll elInts rfl _ _ rfl rfl rfl hown hraw.out (ints_one _) hX2.size (by have := HLW.out; simp; omega) (by have := HLW.out; simp; omega) ?_
      intro v8 W3 ho8 hb8
      replace ho8 : OInts 3 W3 w.heap.size v8 lw := by
       unfold OInts
       simpa using ho8
      obtain ⟨a8, n8, hv8, _⟩ := ho8.ints.open_
      subst hv8
      go_wp2_with fail
      refine ⟨.inr (hQX.out _ _ hb8), ?_⟩
      have hX3 : Ext w W3 := hX2.upto hb8 (Nat.le_refl _)
      refine wpTreeR_one rfl rfl (fun K hK => ?_)
      go_wp2_with fail
      have hbn := Blk.alloc W3 #[.slice a8 lw.length n8] 34
      have hx4 := Ext.alloc W3 (.cells #[.slice a8 lw.length n8] 34)
      refine ⟨.inr (hx4.toX _), ?_⟩
      generalize W3.alloc (.cells #[.slice a8 lw.length n8] 34) = W4 at *
      generalize W3.heap.size = gn at *
      replace ho8 := ho8.ext hx4
      have hX4 := hX3.trans hx4
      refine wpTreeR_one rfl rfl (fun K hK => ?_)
      have hrow4 := HROW.out.ext hX4
      have hrow4' := hrow4
      rw [HFV.out, HNU.out] at hrow4'
      refine wpList_appendGRx (v := .slice fa k fc) (enc := encV) (L := us) (.slice a8 lw.length n8) elRows rfl _ _ rfl rfl rfl hrow4' hbn encV_len (by intro u hu; simp only [encV, List.mem_cons, List.not_mem_nil, or_false] at hu; subst hu; rfl) (by have := HUSL.out; omega) (by have := HUSL.out; omega) ?_
      intro v10 W5 hn5 hg5 hnew5
      obtain ⟨a5, n5, hv5, _⟩ := (hn5.cel encV_len).open_
      rw [List.length_append, List.length_singleton, HNU.out] at hv5
      subst hv5
      have hB5 := (HB.out.hb.ext hX4).grown hg5 hQb
      have k7' := hB5.cell (i := 7) rfl
      have f7' := hB5.frozen 7
      go_wp2_with fail
      refine ⟨.inr (hQG.out _ _ hg5), ?_⟩
      iterate 2 (refine wpTreeR_look rfl fun K hK => ?_; go_simp; (first | refine hK _ ?_ | refine ⟨_, fun _ => rfl, hK _ ?_⟩); clear hK K)
      refine wpTreeR_one rfl rfl (fun K hK => ?_)
      go_wp2_with fail
      refine ⟨.inl (by simp), ?_⟩
      refine wpTreeR_done ?_
      have hOB : (Value.slice fa k fc).ownBlock = v.forms.ownBlock := by rw [HFV.out, HNU.out]
      rw [hOB] at hg5 hnew5
      have hRW4 := HB.out.ext hX4
      have hu4 : Ints (hole (more R b) W4) (.slice a8 lw.length n8) lw := (OInts.hole ho8 (S := more R b) (fun j hj => by
       rcases more_or hj with hj | hj
       ·exact HB.out.Rl j hj
       ·rw [hj]; exact hbw)).ints
      obtain ⟨R6, G6, hR6⟩ := RefR.pushF hRW4 (Nat.lt_of_lt_of_le hbw hX4.size) hrow4 (HAL.out.ext (hX4.hole _)) hn5 hg5 hnew5 hu4
      have HFIN : Hid (∃ R' v', Grow R R' b w (W5.setCell ⟨rb, 7, none⟩ (.slice a5 (k + 1) n5)) ∧ RefR R' b rb rv v' E s (W5.setCell ⟨rb, 7, none⟩ (.slice a5 (k + 1) n5))) :=
       Lib.hid ⟨R6, _, (Grow.ofExt hX4 HB.out.Rl HB.out.Rb).trans G6, by rw [HE1.out]; exact hR6⟩
      clear hR6 G6
      generalize World.setCell W5 ⟨rb, 7, none⟩ _ = wF at *
      go_wp2_with fail
      go_ret
      exact ⟨by rw [HE2.out]; rfl, HFIN.out⟩
     ·go_wp2_with fail
      refine (HWD.out W0 hX0).mono ?_; rintro e W1 ⟨rfl, hx2⟩
      go_wp2_with fail
      refine ⟨.inr (hx2.toX _), ?_⟩
      refine wpTreeR_one rfl rfl (fun K hK => ?_)
      go_wp2_with fail
      have hE1 := Ext.alloc W1 (.cells #[] 3)
      have hown : OInts 3 (W1.alloc (.cells #[] 3)) w.heap.size (.slice (some ⟨W1.heap.size, 0, none⟩) 0 0) [] := OInts.low (empty_own W1) (hX0.trans hx2).size
      refine ⟨.inr (hE1.toX _), ?_⟩
      generalize W1.alloc (.cells #[] 3) = W2 at *
      generalize W1.heap.size = g1 at *
      have hE02 := hx2.trans hE1
      refine wpTreeR_one rfl rfl (fun K hK => ?_)
      have hX2 := hX0.trans hE02
      have hraw := Lib.hid ((HIU.out.ext hX2).raw)
      refine wpList_appendAll elInts rfl _ _ rfl rfl rfl hown hraw.out (ints_one _) hX2.size (by have := HLW.out; simp; omega) (by have := HLW.out; simp; omega) ?_
      intro v8 W3 ho8 hb8
      replace ho8 : OInts 3 W3 w.heap.size v8 lw := by
       unfold OInts
       simpa using ho8
      obtain ⟨a8, n8, hv8, _⟩ := ho8.ints.open_
      subst hv8
      go_wp2_with fail
      refine ⟨.inr (hQX.out _ _ hb8), ?_⟩
      have hX3 : Ext w W3 := hX2.upto hb8 (Nat.le_refl _)
      refine wpTreeR_one rfl rfl (fun K hK => ?_)
      go_wp2_with fail
      have hbn := Blk.alloc W3 #[.slice a8 lw.length n8] 34
      have hx4 := Ext.alloc W3 (.cells #[.slice a8 lw.length n8] 34)
      refine ⟨.inr (hx4.toX _), ?_⟩
      generalize W3.alloc (.cells #[.slice a8 lw.length n8] 34) = W4 at *
      generalize W3.heap.size = gn at *
      replace ho8 := ho8.ext hx4
      have hX4 := hX3.trans hx4
      refine wpTreeR_one rfl rfl (fun K hK => ?_)
      have hrow4 := HROW.out.ext hX4
      have hrow4' := hrow4
      rw [HFV.out, HNU.out] at hrow4'
      refine wpList_appendGRx (v := .slice fa k fc) (enc := encV) (L := us) (.slice a8 lw.length n8) elRows rfl _ _ rfl rfl rfl hrow4' hbn encV_len (by intro u hu; simp only [encV, List.mem_cons, List.not_mem_nil, or_false] at hu; subst hu; rfl) (by have := HUSL.out; omega) (by have := HUSL.out; omega) ?_
      intro v10 W5 hn5 hg5 hnew5
      obtain ⟨a5, n5, hv5, _⟩ := (hn5.cel encV_len).open_
      rw [List.length_append, List.length_singleton, HNU.out] at hv5
      subst hv5
      have hB5 := (HB.out.hb.ext hX4).grown hg5 hQb
      have k7' := hB5.cell (i := 7) rfl
      have f7' := hB5.frozen 7
      go_wp2_with fail
      refine ⟨.inr (hQG.out _ _ hg5), ?_⟩
      iterate 2 (refine wpTreeR_look rfl fun K hK => ?_; go_simp; (first | refine hK _ ?_ | refine ⟨_, fun _ => rfl, hK _ ?_⟩); clear hK K)
      refine wpTreeR_one rfl rfl (fun K hK => ?_)
      go_wp2_with fail
      refine ⟨.inl (by simp), ?_⟩
      refine wpTreeR_done ?_
      have hOB : (Value.slice fa k fc).ownBlock = v.forms.ownBlock := by rw [HFV.out, HNU.out]
      rw [hOB] at hg5 hnew5
      have hRW4 := HB.out.ext hX4
      have hu4 : Ints (hole (more R b) W4) (.slice a8 lw.length n8) lw := (OInts.hole ho8 (S := more R b) (fun j hj => by
       rcases more_or hj with hj | hj
       ·exact HB.out.Rl j hj
       ·rw [hj]; exact hbw)).ints
      obtain ⟨R6, G6, hR6⟩ := RefR.pushF hRW4 (Nat.lt_of_lt_of_le hbw hX4.size) hrow4 (HAL.out.ext (hX4.hole _)) hn5 hg5 hnew5 hu4
      have HFIN : Hid (∃ R' v', Grow R R' b w (W5.setCell ⟨rb, 7, none⟩ (.slice a5 (k + 1) n5)) ∧ RefR R' b rb rv v' E s (W5.setCell ⟨rb, 7, none⟩ (.slice a5 (k + 1) n5))) :=
       Lib.hid ⟨R6, _, (Grow.ofExt hX4 HB.out.Rl HB.out.Rb).trans G6, by rw [HE1.out]; exact hR6⟩
      clear hR6 G6
      generalize World.setCell W5 ⟨rb, 7, none⟩ _ = wF at *
      go_wp2_with fail
      go_ret
      exact ⟨by rw [HE2.out]; rfl, HFIN.out⟩
theorem exS_step (s : List Rul) (x : St) : exS s x .step = (execS s x .step).1 := by
 unfold exS
 split
 ·rfl
 ·rename_i h
  simp only [execS] at h ⊢
  split
  ·rename_i hh
   rcases adv_cases s x with ⟨_, e⟩ | ⟨c, _, _, e⟩ | ⟨c, _, _, e⟩
   ·rw [e]
   ·rw [e]
   ·rw [if_pos hh, e] at h; exact absurd rfl h
  ·rfl
theorem exS_change (s : List Rul) (x : St) (n : Nat) : exS s x (.change n) = (execS s x (.change n)).1 := by
 unfold exS
 split
 ·rfl
 ·rename_i h
  by_cases hn : n < 1 ∨ 4 < n
  ·simp only [execS, teachS]; rw [if_pos hn]
  ·rw [changeX s x n hn] at h; exact absurd rfl h
theorem RRef.from {R : Nat → Bool} {b rb : Nat} {rv : Value} {s : List Rul} {x' : St} {k : Int} {w w0 w1 : World} {e : Ending} {v : SV} {x : St} (h : RefR R b rb rv v x s w) (hX : Ext w w0) (hr : RRef R b rb rv s x' k w0 e w1) : RRef R b rb rv s x' k w e w1 := by
 obtain ⟨he, R1, v1, g, hR⟩ := hr
 exact ⟨he, R1, v1, (Grow.ofExt hX h.Rl h.Rb).trans g, hR⟩
theorem rexec9_four (h : RefR R b rb rv v x s w) (hI : InvE s x) (hbw : b < w.heap.size) (hf : x.forms.length ≤ 1000) (r : ByteArray) (n : Nat) (hn : n ≤ 99) :
  Calls Tryz.prog 84 #[.pointer (some ⟨rb, 0, none⟩), .agg #[.string ⟨#[115, 116, 101, 112]⟩, .string r, .int .i64 n]] w (RRef R b rb rv s (exS s x .step) (execS s x .step).2 w) ∧
  Calls Tryz.prog 84 #[.pointer (some ⟨rb, 0, none⟩), .agg #[.string ⟨#[101, 110, 100]⟩, .string r, .int .i64 n]] w (RRef R b rb rv s (exS s x .fin) (execS s x .fin).2 w) ∧
  Calls Tryz.prog 84 #[.pointer (some ⟨rb, 0, none⟩), .agg #[.string ⟨#[115, 97, 121]⟩, .string r, .int .i64 n]] w (RRef R b rb rv s (exS s x .say) (execS s x .say).2 w) ∧
  Calls Tryz.prog 84 #[.pointer (some ⟨rb, 0, none⟩), .agg #[.string ⟨#[115, 119, 105, 116, 99, 104]⟩, .string r, .int .i64 n]] w (RRef R b rb rv s (exS s x (.change n)) (execS s x (.change n)).2 w) := by
 have HB := Lib.hid h
 refine ⟨?_, ?_, ?_, ?_⟩
 have HS := Lib.hid (fun W (q : Ext w W) => rstep9_c (h.ext q) hI (Nat.lt_of_lt_of_le hbw q.size))
 rw [← exS_step] at HS
 generalize exS s x .step = E at *
 generalize (execS s x .step).2 = KE at *
 obtain ⟨ST, hST⟩ : ∃ ST : ByteArray, ST = ⟨#[115, 116, 101, 112]⟩ := ⟨_, rfl⟩
 rotate_left
 have HS := Lib.hid (fun W (q : Ext w W) => rend9_c (h.ext q) hI (Nat.lt_of_lt_of_le hbw q.size))
 generalize exS s x .fin = E at *
 generalize (execS s x .fin).2 = KE at *
 obtain ⟨ST, hST⟩ : ∃ ST : ByteArray, ST = ⟨#[101, 110, 100]⟩ := ⟨_, rfl⟩
 rotate_left
 have HS := Lib.hid (fun W (q : Ext w W) => rsay9_c (h.ext q) hI (Nat.lt_of_lt_of_le hbw q.size) hf)
 generalize exS s x .say = E at *
 generalize (execS s x .say).2 = KE at *
 obtain ⟨ST, hST⟩ : ∃ ST : ByteArray, ST = ⟨#[115, 97, 121]⟩ := ⟨_, rfl⟩
 rotate_left
 have HS := Lib.hid (fun W (q : Ext w W) => rchange9_c (h.ext q) hI (Nat.lt_of_lt_of_le hbw q.size) n hn)
 rw [← exS_change] at HS
 generalize exS s x (.change n) = E at *
 generalize (execS s x (.change n)).2 = KE at *
 obtain ⟨ST, hST⟩ : ∃ ST : ByteArray, ST = ⟨#[115, 119, 105, 116, 99, 104]⟩ := ⟨_, rfl⟩
 rotate_left
 all_goals
  rw [← hST]
  have hb := Blk.alloc w #[.string ST, .string r, .int .i64 n] 129
  have hX := Ext.alloc w (.cells #[.string ST, .string r, .int .i64 n] 129)
  subst hST
  clear h hI hn hf
  go_enter Tryz.func84, Tryz.ntmps84
  go_upto_region 1 with fail
  generalize w.alloc _ = w0 at *
  generalize w.heap.size = g0 at *
  have k0 := hb.cell (i := 0) rfl
  have k2 := hb.cell (i := 2) rfl
  go_wp2_with fail
  refine (HS.out w0 hX).mono ?_; rintro e w1 hr
  have he := hr.1
  subst he
  have HR := Lib.hid (RRef.from HB.out hX hr)
  clear hr
  go_wp2_with fail
  go_ret
  exact HR.out
theorem exS_bad {s : List Rul} {x : St} {c : Cmd} {k : Int} (h : execS s x c = (x, k)) : exS s x c = x ∧ (execS s x c).2 = k := by
 unfold exS
 rw [h]
 exact ⟨by split <;> rfl, rfl⟩
theorem exS_ok {s : List Rul} {x y : St} {c : Cmd} (h : execS s x c = (y, 0)) : exS s x c = y ∧ (execS s x c).2 = 0 := by
 unfold exS
 rw [h]
 exact ⟨rfl, rfl⟩
theorem rexec9_learn (h : RefR R b rb rv v x s w) (hI : InvE s x) (hbw : b < w.heap.size) (r : ByteArray) (n : Nat) (hn : n ≤ 99) :
  Calls Tryz.prog 84 #[.pointer (some ⟨rb, 0, none⟩), .agg #[.string ⟨#[108, 101, 97, 114, 110]⟩, .string r, .int .i64 n]] w (RRef R b rb rv s (exS s x (.learn n)) (execS s x (.learn n)).2 w) := by
 have HB := Lib.hid h
 have hb := Blk.alloc w #[.string ⟨#[108, 101, 97, 114, 110]⟩, .string r, .int .i64 n] 129
 have hX := Ext.alloc w (.cells #[.string ⟨#[108, 101, 97, 114, 110]⟩, .string r, .int .i64 n] 129)
 obtain ⟨kb, hkv, hkR, hkb⟩ := h.kn
 have HKV := Lib.hid hkv
 have HKR := Lib.hid hkR
 have HKB := Lib.hid hkb
 have c1 := h.hb.cell (i := 1) rfl
 rw [hkv] at c1
 have HS6 : s.length ≤ 6 := hI.s6
 have HBAD := Lib.hid (fun k (e : execS s x (.learn n) = (x, k)) => exS_bad e)
 have HOK := Lib.hid (fun y (e : execS s x (.learn n) = (y, 0)) => exS_ok e)
 obtain ⟨E, hE⟩ : ∃ E, E = exS s x (.learn n) := ⟨_, rfl⟩
 obtain ⟨KE, hKE⟩ : ∃ KE, KE = (execS s x (.learn n)).2 := ⟨_, rfl⟩
 rw [← hE, ← hKE]
 rw [← hE, ← hKE] at HBAD HOK
 obtain ⟨N, hN⟩ : ∃ N, s.length = N := ⟨_, rfl⟩
 have HNN := Lib.hid hN
 rw [hN] at c1 HS6
 clear h hI hE hKE hkv hkR hkb hN
 go_enter Tryz.func84, Tryz.ntmps84
 go_upto_region 1 with fail
 generalize w.alloc (.cells #[.string ⟨#[108, 101, 97, 114, 110]⟩, .string r, .int .i64 n] 129) = w0 at *
 generalize w.heap.size = g0 at *
 have k0 := hb.cell (i := 0) rfl
 have k2 := hb.cell (i := 2) rfl
 go_upto_region 4 with fail
 refine wp_region_treeR (fun a b => Ext a b) [] (.look 0 (.look 1 (.look 2 (.look 3 (.look 4 (.look 5 (.look 6 (.look 7 .done)))))))) (fun w => Ext.refl w) (fun a b c h k => Ext.trans h k) (by kernel_rfl) (by kernel_rfl) (by intro c a d v w h; cases d <;> exact h) ?_
 replace hX := hX.trans (drawnP_ext w0)
 replace hb := hb.ext (drawnP_ext w0)
 clear k0 k2
 generalize { w0 with drawn := w0.drawn + 1 } = w1 at *
 have q0 : ∀ q : InC (fun c => Ext w1 c), q.w.cell? ⟨g0, 2, none⟩ = some (.int .i64 n) := fun q => (hb.ext q.h).cell rfl
 have q1 : ∀ q : InC (fun c => Ext w1 c), q.w.cell? ⟨rb, 1, none⟩ = some (.slice (some ⟨kb, 0, none⟩) N N) := fun q => (hX.trans q.h).keep c1
 iterate 8 (refine wpTreeR_look rfl fun K hK => ?_; go_simp; (first | refine hK _ ?_ | refine ⟨_, fun _ => rfl, hK _ ?_⟩); clear hK K)
 refine wpTreeR_done ?_
 clear q0 q1
 have k0 := hb.cell (i := 0) rfl
 have k2 := hb.cell (i := 2) rfl
 by_cases hle : N ≤ n
 ·have hle' : (N : Int) ≤ (n : Int) := by omega
  obtain ⟨e1, e2⟩ := HBAD.out 4 (by simp only [execS, teachS]; rw [if_pos (by rw [HNN.out]; exact hle)])
  have HE1 := Lib.hid e1
  have HE2 := Lib.hid e2
  clear e1 e2 HBAD HOK
  go_wp2_with fail
  go_ret
  exact ⟨by rw [HE2.out]; rfl, R, v, Grow.ofExt hX HB.out.Rl HB.out.Rb, by rw [HE1.out]; exact HB.out.ext hX⟩
 ·have hle' : ¬ (N : Int) ≤ (n : Int) := by omega
  have hlt : n < N := by omega
  have hls : ¬ s.length ≤ n := by rw [HNN.out]; omega
  have HLS := Lib.hid hls
  have ck : w.cell? ⟨kb, n, none⟩ = some (.bool (hasB x.kn (n : Int))) := HKB.out.cell (by rw [List.getElem?_map, knowsL_at (by rw [HNN.out]; exact hlt)]; rfl)
  obtain ⟨bo, hbo⟩ : ∃ bo, hasB x.kn (n : Int) = bo := ⟨_, rfl⟩
  have HBO := Lib.hid hbo
  rw [hbo] at ck
  clear hbo hls
  go_upto_region 6 with fail
  refine wp_region_treeR (fun a b => Ext a b) [] (.look 0 (.look 1 (.look 2 (.look 3 (.look 4 (.look 5 (.look 6 (.look 7 .done)))))))) (fun w => Ext.refl w) (fun a b c h k => Ext.trans h k) (by kernel_rfl) (by kernel_rfl) (by intro c a d v w h; cases d <;> exact h) ?_
  replace hX := hX.trans (drawnP_ext w1)
  replace hb := hb.ext (drawnP_ext w1)
  clear k0 k2
  generalize { w1 with drawn := w1.drawn + 1 } = w2 at *
  have q0 : ∀ q : InC (fun c => Ext w2 c), q.w.cell? ⟨g0, 2, none⟩ = some (.int .i64 n) := fun q => (hb.ext q.h).cell rfl
  have q1 : ∀ q : InC (fun c => Ext w2 c), q.w.cell? ⟨rb, 1, none⟩ = some (.slice (some ⟨kb, 0, none⟩) N N) := fun q => (hX.trans q.h).keep c1
  have q2 : ∀ q : InC (fun c => Ext w2 c), q.w.cell? ⟨kb, n, none⟩ = some (.bool bo) := fun q => (hX.trans q.h).keep ck
  iterate 8 (refine wpTreeR_look rfl fun K hK => ?_; go_simp; (first | refine hK _ ?_ | refine ⟨_, fun _ => rfl, hK _ ?_⟩); clear hK K)
  refine wpTreeR_done ?_
  clear q0 q1 q2
  have k0 := hb.cell (i := 0) rfl
  have k2 := hb.cell (i := 2) rfl
  cases bo with
  | true =>
   obtain ⟨e1, e2⟩ := HBAD.out 5 (by simp only [execS, teachS]; rw [if_neg HLS.out]; simp [HBO.out])
   have HE1 := Lib.hid e1
   have HE2 := Lib.hid e2
   clear e1 e2 HBAD HOK
   go_wp2_with fail
   go_ret
   exact ⟨by rw [HE2.out]; rfl, R, v, Grow.ofExt hX HB.out.Rl HB.out.Rb, by rw [HE1.out]; exact HB.out.ext hX⟩
  | false =>
   obtain ⟨e1, e2⟩ := HOK.out _ (by simp only [execS, teachS]; rw [if_neg HLS.out]; simp only [HBO.out]; rfl)
   have HE1 := Lib.hid e1
   have HE2 := Lib.hid e2
   have HNL := Lib.hid (knows_learn s.length x.kn n)
   clear e1 e2 HBAD HOK
   go_upto_region 8 with fail
   refine wp_region_treeR (fun a b => Ext a b) [7] (.look 0 (.look 1 (.look 2 (.look 3 (.look 4 (.look 5 (.look 6 (.one 7 .done)))))))) (fun w => Ext.refl w) (fun a b c h k => Ext.trans h k) (by kernel_rfl) (by kernel_rfl) (by intro c a d v w h; cases d <;> exact h) ?_
   replace hX := hX.trans (drawnP_ext w2)
   replace hb := hb.ext (drawnP_ext w2)
   clear k0 k2
   generalize { w2 with drawn := w2.drawn + 1 } = w3 at *
   have q0 : ∀ q : InC (fun c => Ext w3 c), q.w.cell? ⟨g0, 2, none⟩ = some (.int .i64 n) := fun q => (hb.ext q.h).cell rfl
   have q1 : ∀ q : InC (fun c => Ext w3 c), q.w.cell? ⟨rb, 1, none⟩ = some (.slice (some ⟨kb, 0, none⟩) N N) := fun q => (hX.trans q.h).keep c1
   have qf : ∀ q : InC (fun c => Ext w3 c), q.w.cell? ⟨kb, n, none⟩ = some (.bool false) := fun q => (hX.trans q.h).keep ck
   iterate 7 (refine wpTreeR_look rfl fun K hK => ?_; go_simp; (first | refine hK _ ?_ | refine ⟨_, fun _ => rfl, hK _ ?_⟩); clear hK K)
   refine wpTreeR_one rfl rfl (fun K hK => ?_)
   have kf := (HKB.out.ext hX).frozen n
   have kc := hX.keep ck
   go_wp2_with fail
   refine ⟨.inl (by simp), ?_⟩
   refine wpTreeR_done ?_
   obtain ⟨g9, r9⟩ := (HB.out.ext hX).setK HKV.out HKR.out (HKB.out.ext hX) n true (L := _) HNL.out.symm
   have HFIN : Hid (Grow R R b w (w3.setCell ⟨kb, n, none⟩ (.bool true)) ∧ RefR R b rb rv v E s (w3.setCell ⟨kb, n, none⟩ (.bool true))) := Lib.hid ⟨(Grow.ofExt hX HB.out.Rl HB.out.Rb).trans g9, by rw [HE1.out]; exact r9⟩
   clear g9 r9 q0 q1 qf kf kc
   generalize w3.setCell ⟨kb, n, none⟩ (.bool true) = wF at *
   go_wp2_with fail
   go_ret
   exact ⟨by rw [HE2.out]; rfl, R, v, HFIN.out.1, HFIN.out.2⟩
theorem rexec9_forget (h : RefR R b rb rv v x s w) (hI : InvE s x) (hbw : b < w.heap.size) (r : ByteArray) (n : Nat) (hn : n ≤ 99) :
  Calls Tryz.prog 84 #[.pointer (some ⟨rb, 0, none⟩), .agg #[.string ⟨#[102, 111, 114, 103, 101, 116]⟩, .string r, .int .i64 n]] w (RRef R b rb rv s (exS s x (.forget n)) (execS s x (.forget n)).2 w) := by
 have HB := Lib.hid h
 have hb := Blk.alloc w #[.string ⟨#[102, 111, 114, 103, 101, 116]⟩, .string r, .int .i64 n] 129
 have hX := Ext.alloc w (.cells #[.string ⟨#[102, 111, 114, 103, 101, 116]⟩, .string r, .int .i64 n] 129)
 obtain ⟨kb, hkv, hkR, hkb⟩ := h.kn
 have HKV := Lib.hid hkv
 have HKR := Lib.hid hkR
 have HKB := Lib.hid hkb
 have c1 := h.hb.cell (i := 1) rfl
 rw [hkv] at c1
 have HS6 : s.length ≤ 6 := hI.s6
 have HBAD := Lib.hid (fun k (e : execS s x (.forget n) = (x, k)) => exS_bad e)
 have HOK := Lib.hid (fun y (e : execS s x (.forget n) = (y, 0)) => exS_ok e)
 obtain ⟨E, hE⟩ : ∃ E, E = exS s x (.forget n) := ⟨_, rfl⟩
 obtain ⟨KE, hKE⟩ : ∃ KE, KE = (execS s x (.forget n)).2 := ⟨_, rfl⟩
 rw [← hE, ← hKE]
 rw [← hE, ← hKE] at HBAD HOK
 obtain ⟨N, hN⟩ : ∃ N, s.length = N := ⟨_, rfl⟩
 have HNN := Lib.hid hN
 rw [hN] at c1 HS6
 clear h hI hE hKE hkv hkR hkb hN
 go_enter Tryz.func84, Tryz.ntmps84
 go_upto_region 1 with fail
 generalize w.alloc (.cells #[.string ⟨#[102, 111, 114, 103, 101, 116]⟩, .string r, .int .i64 n] 129) = w0 at *
 generalize w.heap.size = g0 at *
 have k0 := hb.cell (i := 0) rfl
 have k2 := hb.cell (i := 2) rfl
 go_upto_region 10 with fail
 refine wp_region_treeR (fun a b => Ext a b) [] (.look 0 (.look 1 (.look 2 (.look 3 (.look 4 (.look 5 (.look 6 (.look 7 .done)))))))) (fun w => Ext.refl w) (fun a b c h k => Ext.trans h k) (by kernel_rfl) (by kernel_rfl) (by intro c a d v w h; cases d <;> exact h) ?_
 replace hX := hX.trans (drawnP_ext w0)
 replace hb := hb.ext (drawnP_ext w0)
 clear k0 k2
 generalize { w0 with drawn := w0.drawn + 1 } = w1 at *
 have q0 : ∀ q : InC (fun c => Ext w1 c), q.w.cell? ⟨g0, 2, none⟩ = some (.int .i64 n) := fun q => (hb.ext q.h).cell rfl
 have q1 : ∀ q : InC (fun c => Ext w1 c), q.w.cell? ⟨rb, 1, none⟩ = some (.slice (some ⟨kb, 0, none⟩) N N) := fun q => (hX.trans q.h).keep c1
 iterate 8 (refine wpTreeR_look rfl fun K hK => ?_; go_simp; (first | refine hK _ ?_ | refine ⟨_, fun _ => rfl, hK _ ?_⟩); clear hK K)
 refine wpTreeR_done ?_
 clear q0 q1
 have k0 := hb.cell (i := 0) rfl
 have k2 := hb.cell (i := 2) rfl
 by_cases hle : N ≤ n
 ·have hle' : (N : Int) ≤ (n : Int) := by omega
  obtain ⟨e1, e2⟩ := HBAD.out 4 (by simp only [execS, teachS]; rw [if_pos (by rw [HNN.out]; exact hle)])
  have HE1 := Lib.hid e1
  have HE2 := Lib.hid e2
  clear e1 e2 HBAD HOK
  go_wp2_with fail
  go_ret
  exact ⟨by rw [HE2.out]; rfl, R, v, Grow.ofExt hX HB.out.Rl HB.out.Rb, by rw [HE1.out]; exact HB.out.ext hX⟩
 ·have hle' : ¬ (N : Int) ≤ (n : Int) := by omega
  have hlt : n < N := by omega
  have hls : ¬ s.length ≤ n := by rw [HNN.out]; omega
  have HLS := Lib.hid hls
  have ck : w.cell? ⟨kb, n, none⟩ = some (.bool (hasB x.kn (n : Int))) := HKB.out.cell (by rw [List.getElem?_map, knowsL_at (by rw [HNN.out]; exact hlt)]; rfl)
  obtain ⟨bo, hbo⟩ : ∃ bo, hasB x.kn (n : Int) = bo := ⟨_, rfl⟩
  have HBO := Lib.hid hbo
  rw [hbo] at ck
  clear hbo hls
  go_upto_region 12 with fail
  refine wp_region_treeR (fun a b => Ext a b) [] (.look 0 (.look 1 (.look 2 (.look 3 (.look 4 (.look 5 (.look 6 (.look 7 (.look 8 .done))))))))) (fun w => Ext.refl w) (fun a b c h k => Ext.trans h k) (by kernel_rfl) (by kernel_rfl) (by intro c a d v w h; cases d <;> exact h) ?_
  replace hX := hX.trans (drawnP_ext w1)
  replace hb := hb.ext (drawnP_ext w1)
  clear k0 k2
  generalize { w1 with drawn := w1.drawn + 1 } = w2 at *
  have q0 : ∀ q : InC (fun c => Ext w2 c), q.w.cell? ⟨g0, 2, none⟩ = some (.int .i64 n) := fun q => (hb.ext q.h).cell rfl
  have q1 : ∀ q : InC (fun c => Ext w2 c), q.w.cell? ⟨rb, 1, none⟩ = some (.slice (some ⟨kb, 0, none⟩) N N) := fun q => (hX.trans q.h).keep c1
  have q2 : ∀ q : InC (fun c => Ext w2 c), q.w.cell? ⟨kb, n, none⟩ = some (.bool bo) := fun q => (hX.trans q.h).keep ck
  iterate 9 (refine wpTreeR_look rfl fun K hK => ?_; go_simp; (first | refine hK _ ?_ | refine ⟨_, fun _ => rfl, hK _ ?_⟩); clear hK K)
  refine wpTreeR_done ?_
  clear q0 q1 q2
  have k0 := hb.cell (i := 0) rfl
  have k2 := hb.cell (i := 2) rfl
  cases bo with
  | false =>
   obtain ⟨e1, e2⟩ := HBAD.out 8 (by simp only [execS, teachS]; rw [if_neg HLS.out]; simp [HBO.out])
   have HE1 := Lib.hid e1
   have HE2 := Lib.hid e2
   clear e1 e2 HBAD HOK
   go_wp2_with fail
   go_ret
   exact ⟨by rw [HE2.out]; rfl, R, v, Grow.ofExt hX HB.out.Rl HB.out.Rb, by rw [HE1.out]; exact HB.out.ext hX⟩
  | true =>
   obtain ⟨e1, e2⟩ := HOK.out _ (by simp only [execS, teachS]; rw [if_neg HLS.out]; simp only [HBO.out]; rfl)
   have HE1 := Lib.hid e1
   have HE2 := Lib.hid e2
   have HNL := Lib.hid (knows_forget s.length x.kn n)
   clear e1 e2 HBAD HOK
   go_upto_region 14 with fail
   refine wp_region_treeR (fun a b => Ext a b) [7] (.look 0 (.look 1 (.look 2 (.look 3 (.look 4 (.look 5 (.look 6 (.one 7 .done)))))))) (fun w => Ext.refl w) (fun a b c h k => Ext.trans h k) (by kernel_rfl) (by kernel_rfl) (by intro c a d v w h; cases d <;> exact h) ?_
   replace hX := hX.trans (drawnP_ext w2)
   replace hb := hb.ext (drawnP_ext w2)
   clear k0 k2
   generalize { w2 with drawn := w2.drawn + 1 } = w3 at *
   have q0 : ∀ q : InC (fun c => Ext w3 c), q.w.cell? ⟨g0, 2, none⟩ = some (.int .i64 n) := fun q => (hb.ext q.h).cell rfl
   have q1 : ∀ q : InC (fun c => Ext w3 c), q.w.cell? ⟨rb, 1, none⟩ = some (.slice (some ⟨kb, 0, none⟩) N N) := fun q => (hX.trans q.h).keep c1
   have qf : ∀ q : InC (fun c => Ext w3 c), q.w.cell? ⟨kb, n, none⟩ = some (.bool true) := fun q => (hX.trans q.h).keep ck
   iterate 7 (refine wpTreeR_look rfl fun K hK => ?_; go_simp; (first | refine hK _ ?_ | refine ⟨_, fun _ => rfl, hK _ ?_⟩); clear hK K)
   refine wpTreeR_one rfl rfl (fun K hK => ?_)
   have kf := (HKB.out.ext hX).frozen n
   have kc := hX.keep ck
   go_wp2_with fail
   refine ⟨.inl (by simp), ?_⟩
   refine wpTreeR_done ?_
   obtain ⟨g9, r9⟩ := (HB.out.ext hX).setK HKV.out HKR.out (HKB.out.ext hX) n false (L := _) HNL.out.symm
   have HFIN : Hid (Grow R R b w (w3.setCell ⟨kb, n, none⟩ (.bool false)) ∧ RefR R b rb rv v E s (w3.setCell ⟨kb, n, none⟩ (.bool false))) := Lib.hid ⟨(Grow.ofExt hX HB.out.Rl HB.out.Rb).trans g9, by rw [HE1.out]; exact r9⟩
   clear g9 r9 q0 q1 qf kf kc
   generalize w3.setCell ⟨kb, n, none⟩ (.bool false) = wF at *
   go_wp2_with fail
   go_ret
   exact ⟨by rw [HE2.out]; rfl, R, v, HFIN.out.1, HFIN.out.2⟩
theorem fresh_S {R : Nat → Bool} {b rb : Nat} {rv : Value} {v : SV} {x : St} {s : List Rul} {w w1 : World} (h : RefR R b rb rv v x s w) (hbw : b < w.heap.size) (hX : Ext w w1) {v6 : Value} {L : List Ch} (ho : OCel encCh 3 46 w1 w.heap.size v6 L) :
  ∃ R', Grow R R' b w (w1.setCell ⟨rb, 6, none⟩ v6) ∧ RefR R' b rb rv { v with slate := v6 } { x with slate := L } s (w1.setCell ⟨rb, 6, none⟩ v6) := by
 obtain ⟨R', g1, hR6⟩ := Grow.row (v' := v6) (grownBy_of_ext hX none) (fun r hr => by cases hr) h.Rl h.Rb hbw (fun r hr => .inr (ownsRow_lt ho hr).1) (fun r hr => (ownsRow_lt ho hr).2)
 have h1 := h.upE g1 hX
 exact ⟨R', g1.trans (h1.grow0 6 v6), h1.setS (.own ho) hR6⟩
theorem fresh_W {R : Nat → Bool} {b rb : Nat} {rv : Value} {v : SV} {x : St} {s : List Rul} {w w1 : World} (h : RefR R b rb rv v x s w) (hbw : b < w.heap.size) (hX : Ext w w1) {v5 : Value} {us : List Value} {L : List (List Int)} (ho : OCel encV 1 34 w1 w.heap.size v5 us) (ha : AllInts (hole (more R b) w) us L) :
  ∃ R', Grow R R' b w (w1.setCell ⟨rb, 5, none⟩ v5) ∧ RefR R' b rb rv { v with words := v5 } { x with words := L } s (w1.setCell ⟨rb, 5, none⟩ v5) := by
 obtain ⟨R', g1, hR6⟩ := Grow.row (v' := v5) (grownBy_of_ext hX none) (fun r hr => by cases hr) h.Rl h.Rb hbw (fun r hr => .inr (ownsRow_lt ho hr).1) (fun r hr => (ownsRow_lt ho hr).2)
 have h1 := h.upE g1 hX
 exact ⟨R', g1.trans (h1.grow0 5 v5), h1.setW (.own ho) (ha.ext g1.hole) hR6 (fun r hr hf => by
  have := (ownsRow_lt ho hr).1
  have := h.Rl r (h.forms.inR r hf)
  omega)⟩
theorem rexec9_undo (h : RefR R b rb rv v x s w) (hI : InvE s x) (hbw : b < w.heap.size) (r : ByteArray) (n : Int) :
  Calls Tryz.prog 84 #[.pointer (some ⟨rb, 0, none⟩), .agg #[.string ⟨#[117, 110, 100, 111]⟩, .string r, .int .i64 n]] w (RRef R b rb rv s (exS s x .undo) (execS s x .undo).2 w) := by
 have HB := Lib.hid h
 have HBW := Lib.hid hbw
 have hb := Blk.alloc w #[.string ⟨#[117, 110, 100, 111]⟩, .string r, .int .i64 n] 129
 have hX := Ext.alloc w (.cells #[.string ⟨#[117, 110, 100, 111]⟩, .string r, .int .i64 n] 129)
 have c3 := h.hb.cell (i := 3) rfl
 have c6 := h.hb.cell (i := 6) rfl
 obtain ⟨sa, sc, hsv, hsc1, hsc2, _⟩ := (h.slate.cel encCh_len).open_
 rw [hsv] at c6
 have hsl := hI.slen
 have HBAD := Lib.hid (fun k (e : execS s x .undo = (x, k)) => exS_bad e)
 have HOK := Lib.hid (fun y (e : execS s x .undo = (y, 0)) => exS_ok e)
 obtain ⟨E, hE⟩ : ∃ E, E = exS s x .undo := ⟨_, rfl⟩
 obtain ⟨KE, hKE⟩ : ∃ KE, KE = (execS s x .undo).2 := ⟨_, rfl⟩
 rw [← hE, ← hKE]
 rw [← hE, ← hKE] at HBAD HOK
 have HH2 := Lib.hid h
 have HI2 := Lib.hid hI
 have HSV := Lib.hid hsv
 clear h hI hE hKE hsv
 go_enter Tryz.func84, Tryz.ntmps84
 go_upto_region 1 with fail
 generalize w.alloc (.cells #[.string ⟨#[117, 110, 100, 111]⟩, .string r, .int .i64 n] 129) = w0 at *
 obtain ⟨g0, hg0⟩ : ∃ g, g = w.heap.size := ⟨_, rfl⟩
 rw [← hg0] at hb
 have HG0 := Lib.hid hg0
 rw [← HG0.out]
 clear hg0
 have k0 := hb.cell (i := 0) rfl
 have k2 := hb.cell (i := 2) rfl
 have k3 := hX.keep c3
 have k6 := hX.keep c6
 cases hh : x.has with
 | false =>
  obtain ⟨e1, e2⟩ := HBAD.out 8 (by simp only [execS]; rw [if_neg (by rw [hh]; decide)])
  have HE1 := Lib.hid e1
  have HE2 := Lib.hid e2
  rw [hh] at c3 k3
  clear e1 e2 HBAD HOK hh
  go_wp2_with fail
  go_ret
  exact ⟨by rw [HE2.out]; rfl, R, v, Grow.ofExt hX HB.out.Rl HB.out.Rb, by rw [HE1.out]; exact HB.out.ext hX⟩
 | true =>
  rw [hh] at c3 k3
  by_cases hm0 : x.slate.length = 0
  ·obtain ⟨e1, e2⟩ := HBAD.out 8 (by simp only [execS]; rw [if_pos hh, if_pos hm0])
   have HE1 := Lib.hid e1
   have HE2 := Lib.hid e2
   rw [hm0] at c6 k6
   clear e1 e2 HBAD HOK hh
   go_wp2_with fail
   go_ret
   exact ⟨by rw [HE2.out]; rfl, R, v, Grow.ofExt hX HB.out.Rl HB.out.Rb, by rw [HE1.out]; exact HB.out.ext hX⟩
  ·obtain ⟨m, hm⟩ : ∃ m, x.slate.length = m + 1 := ⟨x.slate.length - 1, by omega⟩
   obtain ⟨e1, e2⟩ := HOK.out _ (by simp only [execS]; rw [if_pos hh, if_neg hm0])
   rw [hm, Nat.add_sub_cancel] at e1
   have HE1 := Lib.hid e1
   have HE2 := Lib.hid e2
   have HWL : Hid (x.words.length = m + 2) := Lib.hid (by have := HI2.out.wlen hh; omega)
   have HSL := Lib.hid hm
   have HSW : Hid (∀ W, Ext w W → Raw W 3 (.slice sa m sc) m ((x.slate.take m).flatMap encCh)) := Lib.hid fun W q => by
    have h1 := (HH2.out.slate.ext q).cel encCh_len
    rw [HSV.out] at h1
    have h2 := Cel.raw encCh_len (by omega) (Cel.takeS h1 (m := m) (by omega))
    rw [show (x.slate.take m).length = m by rw [List.length_take]; omega] at h2
    exact h2
   rw [hm] at c6 k6 hsc1 hsl
   have hw1 : IntKind.i64.wrap (((m + 1 : Nat) : Int) - 1) = (m : Int) := by rw [IntWalk.i64_in _ (by omega)]; omega
   have hw2 : IntKind.i64.wrap (((m + 2 : Nat) : Int) - 1) = ((m + 1 : Nat) : Int) := by rw [IntWalk.i64_in _ (by omega)]; omega
   have hne : (((m + 1 : Nat) : Int) == 0) = false := by simp; omega
   have hw3 : IntKind.i64.wrap (m : Int) = (m : Int) := IntWalk.i64_in _ (by omega)
   have hw4 : IntKind.i64.wrap ((m : Int) + 1) = (m : Int) + 1 := IntWalk.i64_in _ (by omega)
   have hw5 : IntKind.i64.wrap ((m : Int) + 2 - 1) = (m : Int) + 1 := by rw [IntWalk.i64_in _ (by omega)]; omega
   have hms : (m : Int) ≤ (sc : Int) := by omega
   have h0m : (0 : Int) ≤ (m : Int) + 1 := by omega
   clear e1 e2 HBAD HOK hh hm hm0
   go_upto_region 33 with fail
   refine wp_region_treeR (fun a b => Below w.heap.size a b) [16] (.look 0 (.look 2 (.look 3 (.look 4 (.look 5 (.look 6 (.look 7 (.look 8 (.look 9 (.look 10 (.look 11 (.look 12 (.one 1 (.one 13 (.look 14 (.look 15 (.one 16 .done))))))))))))))))) (fun w => Below.refl _ w) (fun a b c h k => Below.trans h k) (by kernel_rfl) (by kernel_rfl) (by intro c a d v w h; cases d <;> exact h) ?_
   replace hX := hX.trans (drawnP_ext w0)
   clear k0 k2 k3 k6
   generalize { w0 with drawn := w0.drawn + 1 } = W0 at *
   have q6 : ∀ q : InC (fun c => Below w.heap.size W0 c), q.w.cell? ⟨rb, 6, none⟩ = some (.slice sa (m + 1) sc) := fun q => (hX.upto q.h (Nat.le_refl _)).keep c6
   iterate 12 (refine wpTreeR_look rfl fun K hK => ?_; go_simp; (first | refine hK _ ?_ | refine ⟨_, fun _ => rfl, hK _ ?_⟩); clear hK K)
   refine wpTreeR_one rfl rfl (fun K hK => ?_)
   go_wp2_with fail
   have hE1 := Ext.alloc W0 (.cells #[] 46)
   have hown : (W0.alloc (.cells #[] 46)).ownsRow W0.heap.size 46 3 (.slice (some ⟨W0.heap.size, 0, none⟩) 0 0) 0 [] := World.ownsRow_lit (size := 3) W0 #[] 0 (Nat.le_refl _) (by unfold maxLen; omega) rfl
   have hzE := hE1.size
   refine ⟨.inr (hE1.mono hX.size), ?_⟩
   have hX1 := hX.trans hE1
   generalize W0.alloc (.cells #[] 46) = W1 at *
   have hz0 := hX.size
   generalize W0.heap.size = g1 at *
   refine wpTreeR_one rfl rfl (fun K hK => ?_)
   refine wpList_appendAll elCh rfl _ _ rfl rfl rfl hown (HSW.out W1 hX1) (flat_one encCh_one) hzE (by simp; omega) (by simp; omega) ?_
   intro v6 W2 ho6 hb6
   replace ho6 : OCel encCh 3 46 W2 g1 v6 (x.slate.take m) := by
    unfold OCel
    rw [show (x.slate.take m).length = 0 + m by rw [List.length_take, HSL.out]; omega]
    simpa using ho6
   have ho6' := ho6.low hz0
   obtain ⟨a6, c6', hv6, _⟩ := (Cel.own encCh_len ho6).open_
   rw [show (x.slate.take m).length = m by rw [List.length_take, HSL.out]; omega] at hv6
   subst hv6
   have hX2 : Ext w W2 := hX1.upto hb6 hz0
   go_wp2_with fail
   refine ⟨.inr (hb6.mono hz0), ?_⟩
   have k6' := hX2.keep c6
   have f6' := (HB.out.hb.ext hX2).frozen 6
   iterate 2 (refine wpTreeR_look rfl fun K hK => ?_; go_simp; (first | refine hK _ ?_ | refine ⟨_, fun _ => rfl, hK _ ?_⟩); clear hK K)
   refine wpTreeR_one rfl rfl (fun K hK => ?_)
   go_wp2_with fail
   refine ⟨.inl (by simp), ?_⟩
   refine wpTreeR_done ?_
   obtain ⟨R3, g3, r3⟩ := fresh_S HB.out HBW.out hX2 ho6'
   obtain ⟨uw3, ro3, al3⟩ := r3.words.row
   have al3' : AllInts (hole (more R3 b) (W2.setCell ⟨rb, 6, none⟩ (.slice a6 m c6'))) uw3 x.words := al3
   have hb3 := r3.hb
   have c5 := hb3.cell (i := 5) rfl
   obtain ⟨wa, wc, hwv, hwc1, hwc2, _⟩ := (ro3.cel encV_len).open_
   have huw3 : uw3.length = m + 2 := by have := al3'.1; have := HWL.out; omega
   rw [huw3] at hwv hwc1
   have hmw : (m : Int) + 1 ≤ (wc : Int) := by omega
   dsimp only at hwv c5
   rw [hwv] at c5
   have HW5 := Lib.hid (fun W (q : Ext (W2.setCell ⟨rb, 6, none⟩ (.slice a6 m c6')) W) => (show Raw W 1 (.slice wa (m + 1) wc) (m + 1) ((uw3.take (m + 1)).flatMap encV) from by
    have h1 := (ro3.ext q).cel encV_len
    dsimp only at h1
    rw [hwv] at h1
    have h2 := Cel.raw encV_len (by omega) (Cel.takeS h1 (m := m + 1) (by omega))
    rw [show (uw3.take (m + 1)).length = m + 1 by rw [List.length_take]; omega] at h2
    exact h2))
   have G3 := Lib.hid g3
   have HR3 := Lib.hid r3
   have HA3 := Lib.hid al3'
   have HU3 := Lib.hid huw3
   have hz3 : w.heap.size ≤ (W2.setCell ⟨rb, 6, none⟩ (.slice a6 m c6')).heap.size := g3.ext.size
   have hXW : Ext (W2.setCell ⟨rb, 6, none⟩ (.slice a6 m c6')) (W2.setCell ⟨rb, 6, none⟩ (.slice a6 m c6')) := Ext.refl _
   clear g3 r3 al3 al3' ro3 hwv huw3 ho6 ho6' hb6 hX2 k6' f6' q6 hX1 hE1 hX hown hb3 c6 c3 hz0
   generalize W2.setCell ⟨rb, 6, none⟩ (.slice a6 m c6') = W3 at *
   go_upto_region 34 with fail
   refine wp_region_treeR (fun a b => Below W3.heap.size a b) [16] (.look 0 (.look 2 (.look 3 (.look 4 (.look 5 (.look 6 (.look 7 (.look 8 (.look 9 (.look 10 (.look 11 (.look 12 (.one 1 (.one 13 (.look 14 (.look 15 (.one 16 .done))))))))))))))))) (fun w => Below.refl _ w) (fun a b c h k => Below.trans h k) (by kernel_rfl) (by kernel_rfl) (by intro c a d v w h; cases d <;> exact h) ?_
   replace hXW := hXW.trans (drawnP_ext W3)
   generalize { W3 with drawn := W3.drawn + 1 } = W4 at *
   have q6 : ∀ q : InC (fun c => Below W3.heap.size W4 c), q.w.cell? ⟨rb, 5, none⟩ = some (.slice wa (m + 2) wc) := fun q => (hXW.upto q.h (Nat.le_refl _)).keep c5
   iterate 12 (refine wpTreeR_look rfl fun K hK => ?_; go_simp; (first | refine hK _ ?_ | refine ⟨_, fun _ => rfl, hK _ ?_⟩); clear hK K)
   refine wpTreeR_one rfl rfl (fun K hK => ?_)
   go_wp2_with fail
   have hE1 := Ext.alloc W4 (.cells #[] 34)
   have hown : (W4.alloc (.cells #[] 34)).ownsRow W4.heap.size 34 1 (.slice (some ⟨W4.heap.size, 0, none⟩) 0 0) 0 [] := World.ownsRow_lit (size := 1) W4 #[] 0 (Nat.le_refl _) (by unfold maxLen; omega) rfl
   have hzE := hE1.size
   refine ⟨.inr (hE1.mono hXW.size), ?_⟩
   have hX1 := hXW.trans hE1
   generalize W4.alloc (.cells #[] 34) = W1 at *
   have hz0 := hXW.size
   generalize W4.heap.size = g1 at *
   refine wpTreeR_one rfl rfl (fun K hK => ?_)
   refine wpList_appendAll elRows rfl _ _ rfl rfl rfl hown (HW5.out W1 hX1) (by intro u hu; obtain ⟨z, hz0, hz⟩ := List.mem_flatMap.1 hu; simp only [encV, List.mem_cons, List.not_mem_nil, or_false] at hz; subst hz; obtain ⟨i, hi, rfl⟩ := List.mem_iff_getElem.1 (List.mem_of_mem_take hz0); obtain ⟨aa, cc, hv, _⟩ := (HA3.out.2 i _ (List.getElem?_eq_getElem hi)).open_; rw [hv]; rfl) hzE (by simp; omega) (by simp; omega) ?_
   intro v5 W5 ho5 hb5
   replace ho5 : OCel encV 1 34 W5 g1 v5 (uw3.take (m + 1)) := by
    unfold OCel
    rw [show (uw3.take (m + 1)).length = 0 + (m + 1) by rw [List.length_take, HU3.out]; omega]
    simpa using ho5
   have ho5' := ho5.low hz0
   obtain ⟨a5, c5', hv5, _⟩ := (Cel.own encV_len ho5).open_
   rw [show (uw3.take (m + 1)).length = m + 1 by rw [List.length_take, HU3.out]; omega] at hv5
   subst hv5
   have hX5 : Ext W3 W5 := hX1.upto hb5 hz0
   go_wp2_with fail
   refine ⟨.inr (hb5.mono hz0), ?_⟩
   have k5' := hX5.keep c5
   have f5' := (HR3.out.hb.ext hX5).frozen 5
   iterate 2 (refine wpTreeR_look rfl fun K hK => ?_; go_simp; (first | refine hK _ ?_ | refine ⟨_, fun _ => rfl, hK _ ?_⟩); clear hK K)
   refine wpTreeR_one rfl rfl (fun K hK => ?_)
   go_wp2_with fail
   refine ⟨.inl (by simp), ?_⟩
   refine wpTreeR_done ?_
   obtain ⟨R4, g4, r4⟩ := fresh_W HR3.out (Nat.lt_of_lt_of_le HBW.out hz3) hX5 ho5' (HA3.out.take (m + 1))
   have HFIN : Hid (Grow R R4 b w (W5.setCell ⟨rb, 5, none⟩ (.slice a5 (m + 1) c5')) ∧ ∃ v', RefR R4 b rb rv v' E s (W5.setCell ⟨rb, 5, none⟩ (.slice a5 (m + 1) c5'))) := Lib.hid ⟨G3.out.trans g4, _, by rw [HE1.out]; exact r4⟩
   clear g4 r4 ho5 ho5' hb5 hX5 k5' f5' q6
   generalize W5.setCell ⟨rb, 5, none⟩ (.slice a5 (m + 1) c5') = wF at *
   go_wp2_with fail
   go_ret
   obtain ⟨g5, v', r5⟩ := HFIN.out
   exact ⟨by rw [HE2.out]; rfl, R4, v', g5, r5⟩
theorem RefR.remake {R : Nat → Bool} {b rb gW : Nat} {rv vb : Value} {v : SV} {x : St} {s : List Rul} {w w' : World} {l : List Int} (h : RefR R b rb rv v x s w) (hbw : b < w.heap.size) (hX : ExtX (one rb) w w') (hgW : w.heap.size ≤ gW)
  (hblk : Blk w' rb 77 [rv, v.kn, v.gr, .bool true, vb, .slice (some ⟨gW, 0, none⟩) 1 1, .slice none 0 0, v.forms, v.orders]) (hw : Blk w' gW 34 [vb]) (hbase : OInts 3 w' w.heap.size vb l) :
  ∃ R' v', Grow R R' b w w' ∧ RefR R' b rb rv v' { x with has := true, base := l, words := [l], slate := [] } s w' := by
 have hone : ∀ k, one rb k = true → k = rb := fun k hk => by simpa [one] using hk
 have hup : ∀ k, R k = true → (R k || k == gW) = true := fun k hk => by simp [hk]
 have g : Grow R (fun k => R k || k == gW) b w w' := by
  refine ⟨hX.mono (fun k _ hk => ?_), hup, fun k hk => ?_, fun k hk => ?_, ?_⟩
  ·cases e : one rb k with
   | false => rfl
   | true => rw [hone k e, h.Rrb] at hk; cases hk
  ·simp only [Bool.or_eq_true, beq_iff_eq] at hk
   rcases hk with hk | hk
   ·exact .inl hk
   ·exact .inr (by omega)
  ·simp only [Bool.or_eq_true, beq_iff_eq] at hk
   rcases hk with hk | hk
   ·exact Nat.lt_of_lt_of_le (h.Rl k hk) hX.size
   ·subst hk; exact hw.lt
  ·simp only [Bool.or_eq_false_iff, beq_eq_false_iff_ne, ne_eq]
   exact ⟨h.Rb, by omega⟩
 have hh := g.hole
 have nrb : ∀ k, k ≠ rb → one rb k = false := fun k hk => by
  cases e : one rb k with
  | false => rfl
  | true => exact absurd (hone k e) hk
 obtain ⟨kb, k1, k2, k3⟩ := h.kn
 obtain ⟨uf, f1, f2⟩ := h.forms.row
 have hints : Ints (hole (more (fun k => R k || k == gW) b) w') vb l := by
  have h1 : OInts 3 (hole (more (fun k => R k || k == gW) b) w') w.heap.size vb l := ownsRow_holeN hbase (fun r hr => by
   have h2 := (ownsRow_lt hbase hr).1
   have h3 := row_notBlk hbase hw (by decide) hr
   cases e : more (fun k => R k || k == gW) b r with
   | false => rfl
   | true =>
    exfalso
    rcases more_or e with e | e
    ·simp only [Bool.or_eq_true, beq_iff_eq] at e
     rcases e with e | e
     ·have := h.Rl r e; omega
     ·exact h3 e
    ·omega)
  exact h1.ints
 refine ⟨_, ⟨v.kn, v.gr, vb, .slice (some ⟨gW, 0, none⟩) 1 1, .slice none 0 0, v.forms, v.orders⟩, g, ⟨hblk, hup rb h.Rrb, g.nb, g.lt, h.hr.ext hh, ⟨kb, k1, hup kb k2, k3.stay hX (nrb kb (Ne.symm (h.knNe k3)))⟩, h.gr.ext hh, hints,
  ⟨⟨[vb], .inr ⟨gW, _, rfl, hw, by simp, by simp [encV], by unfold maxLen; simp⟩, AllInts.snoc (AllInts.nil _) hints⟩, fun r hr => by injection hr with hr; subst hr; simp⟩,
  ⟨⟨uf, f1.stay hX (fun r hr => nrb r (fun e => f1.ne h.hb (by decide) (e ▸ hr))), f2.ext hh⟩, fun r hr => hup r (h.forms.inR r hr)⟩,
  GRow.nil _ _ _ _, fun r hr => (by cases hr), h.orders.stay hX (fun r hr => nrb r (fun e => h.orders.ne h.hb (by decide) (e ▸ hr))), fun r hr => hup r (h.ordersR r hr), fun r hr hf => ?_⟩⟩
 injection hr with hr
 subst hr
 have := h.Rl _ (h.forms.inR _ hf)
 simp only at this
 omega
theorem ExtX.box {r B : Nat} {a b c : World} (h : ExtX (one r) a b) (k : Below B b c) (hB : a.heap.size ≤ B) : ExtX (one r) a c :=
 h.transN (R' := fun i => decide (B ≤ i)) ⟨k.os, k.tape, k.output, k.size, fun i hi hr => k.block i (by simpa using hr)⟩ (fun i hi => .inr (Nat.le_trans hB (by simpa using hi)))
theorem rexec9_read (h : RefR R b rb rv v x s w) (hI : InvE s x) (hbw : b < w.heap.size) (r : ByteArray) (l : List Int) (hl : sndOf (txt r) = some l) :
  Calls Tryz.prog 84 #[.pointer (some ⟨rb, 0, none⟩), .agg #[.string ⟨#[114, 101, 97, 100]⟩, .string r, .int .i64 0]] w (RRef R b rb rv s (exS s x (.read l)) (execS s x (.read l)).2 w) := by
 have HB := Lib.hid h
 have HBW := Lib.hid hbw
 have hb := Blk.alloc w #[.string ⟨#[114, 101, 97, 100]⟩, .string r, .int .i64 0] 129
 have hX := Ext.alloc w (.cells #[.string ⟨#[114, 101, 97, 100]⟩, .string r, .int .i64 0] 129)
 have hRB := h.hb.ext hX
 have hrl := h.hb.lt
 have hw0 : w.heap.size + 1 ≤ (w.alloc (.cells #[.string ⟨#[114, 101, 97, 100]⟩, .string r, .int .i64 0] 129)).heap.size := hb.lt
 obtain ⟨hs1, hs2, hs3, hs4⟩ := sndOf_some hl
 have hll : l.length = r.size := by rw [hs4]; simp [txt]
 have HDG : Hid (∀ j (h1 : j < r.size), 48 ≤ (r[j]'h1).toNat ∧ (r[j]'h1).toNat ≤ 53 ∧ l.take (j + 1) = l.take j ++ [((r[j]'h1).toNat : Int) - 48]) := Lib.hid (fun j h1 => by
  have h2 : j < (txt r).length := by simpa [txt] using h1
  have e : r[j]'h1 = (txt r)[j] := bs_get r j h1 h2
  obtain ⟨q1, q2⟩ := hs3 _ (List.getElem_mem h2)
  rw [e]
  refine ⟨q1, q2, ?_⟩
  rw [List.take_add_one, List.getElem?_eq_getElem (by omega)]
  simp only [hs4, List.getElem_map]
  rfl)
 have hr8 : r.size ≤ 8 := by simpa [txt] using hs2
 obtain ⟨E, hE⟩ : ∃ E, E = exS s x (.read l) := ⟨_, rfl⟩
 obtain ⟨KE, hKE⟩ : ∃ KE, KE = (execS s x (.read l)).2 := ⟨_, rfl⟩
 rw [← hE, ← hKE]
 obtain ⟨e1, e2⟩ := exS_ok (s := s) (x := x) (c := .read l) rfl
 rw [← hE] at e1
 rw [← hKE] at e2
 have HE1 := Lib.hid e1
 have HE2 := Lib.hid e2
 have HLL := Lib.hid hll
 clear h hI hE hKE e1 e2 hl hs1 hs2 hs3 hs4 hll
 go_enter Tryz.func84, Tryz.ntmps84
 go_upto_region 1 with fail
 generalize w.alloc (.cells #[.string ⟨#[114, 101, 97, 100]⟩, .string r, .int .i64 0] 129) = w0 at *
 generalize hg0 : w.heap.size = g0 at *
 have HG0 := Lib.hid hg0
 clear hg0
 have hne : rb ≠ g0 := by omega
 have k0 := hb.cell (i := 0) rfl
 have k3 := hRB.cell (i := 3) rfl
 have f3 := hRB.frozen 3
 go_upto_region 19 with fail
 have hR1 := hRB.set 3 (.bool true)
 have hb1 := hb.setN hne 3 (.bool true)
 have hX1 := (hX.toX (one rb)).trans (ExtX.set w0 rb 3 (.bool true))
 have hz1 := Nat.le_trans hw0 (ExtX.set w0 rb 3 (.bool true)).size
 clear k0 k3 f3 hb hRB hX hw0
 generalize w0.setCell ⟨rb, 3, none⟩ (.bool true) = w1 at *
 have k4 := hR1.cell (i := 4) rfl
 have f4 := hR1.frozen 4
 go_upto_region 20 with fail
 have hR2 := hR1.set 4 (.slice none 0 0)
 have hb2 := hb1.setN hne 4 (.slice none 0 0)
 have hX2 := hX1.trans (ExtX.set w1 rb 4 (.slice none 0 0))
 have hz2 := Nat.le_trans hz1 (ExtX.set w1 rb 4 (.slice none 0 0)).size
 clear k4 f4 hb1 hR1 hX1 hz1
 generalize w1.setCell ⟨rb, 4, none⟩ (.slice none 0 0) = w2 at *
 have HX2 := Lib.hid hX2
 go_wp2_with fail
 go_loopg [5] r.size (fun m i wr => ∃ (j : Nat) (vb : Value), j ≤ r.size ∧ r.size ≤ j + m ∧ i = .int .i64 j ∧ ExtX (one rb) w wr ∧ g0 + 1 ≤ wr.heap.size ∧ Blk wr g0 129 [.string ⟨#[114, 101, 97, 100]⟩, .string r, .int .i64 0] ∧ Blk wr rb 77 [rv, v.kn, v.gr, .bool true, vb, v.words, v.slate, v.forms, v.orders] ∧ OInts 3 wr (g0 + 1) vb (l.take j))
 case atStart => exact ⟨0, _, by omega, by omega, rfl, hX2, hz2, hb2, hR2, OInts.nil _ _ _⟩
 case round =>
  obtain ⟨j, vb, hj, hj2, rfl, hXr, hzr, hbr, hRr, hown⟩ := hrel
  have y1 := hbr.cell (i := 1) rfl
  by_cases hjl : j < r.size
  ·obtain ⟨hd1, hd2, hd3⟩ := HDG.out j hjl
   obtain ⟨c, hc⟩ : ∃ c : Nat, (r[j]'hjl).toNat = c := ⟨_, rfl⟩
   rw [hc] at hd1 hd2 hd3
   have HTK := Lib.hid hd3
   have HTL : Hid ((l.take j).length = j) := Lib.hid (by rw [List.length_take, HLL.out]; omega)
   have HT1 : Hid ((l.take (j + 1)).length = j + 1) := Lib.hid (by rw [List.length_take, HLL.out]; omega)
   clear hd3
   have hw1 : IntKind.u8.wrap ((c : Int) - 48) = (c : Int) - 48 := by unfold IntKind.wrap; simp [IntKind.bits, IntKind.signed]; omega
   have hw2 : IntKind.i64.wrap ((c : Int) - 48) = (c : Int) - 48 := IntWalk.i64_in _ (by omega)
   go_upto_region 23 with fail
   refine wp_region_treeR (fun a b => Below (g0 + 1) a b) [15] (.look 0 (.look 1 (.look 2 (.look 3 (.look 4 (.look 5 (.look 6 (.look 7 (.look 8 (.look 9 (.look 10 (.one 11 (.one 12 (.look 13 (.look 14 (.one 15 .done)))))))))))))))) (fun w => Below.refl _ w) (fun a b c h k => Below.trans h k) (by kernel_rfl) (by kernel_rfl) (by intro c a d v w h; cases d <;> exact h) ?_
   have hd := drawnP_ext wr
   replace hXr := hXr.trans (hd.toX _)
   replace hbr := hbr.ext hd
   replace hRr := hRr.ext hd
   replace hown := hown.ext hd
   replace hzr := Nat.le_trans hzr hd.size
   clear y1 hd
   generalize { wr with drawn := wr.drawn + 1 } = W0 at *
   have q4 : ∀ q : InC (fun c => Below (g0 + 1) W0 c), q.w.cell? ⟨rb, 4, none⟩ = some vb := fun q => Blk.cell (W := q.w) ((q.h.block rb (by omega)).trans hRr) (i := 4) rfl
   have q1 : ∀ q : InC (fun c => Below (g0 + 1) W0 c), q.w.cell? ⟨g0, 1, none⟩ = some (.string r) := fun q => Blk.cell (W := q.w) ((q.h.block g0 (by omega)).trans hbr) (i := 1) rfl
   iterate 11 (refine wpTreeR_look rfl fun K hK => ?_; go_simp; (first | refine hK _ ?_ | refine ⟨_, fun _ => rfl, hK _ ?_⟩); clear hK K)
   refine wpTreeR_one rfl rfl (fun K hK => ?_)
   go_wp2_with fail
   have hbn := Blk.alloc W0 #[.int .i64 ((c : Int) - 48)] 3
   have hE1 := Ext.alloc W0 (.cells #[.int .i64 ((c : Int) - 48)] 3)
   have hB1 := hE1.mono hzr
   have hzE := Nat.le_trans hzr hE1.size
   refine ⟨.inr hB1, ?_⟩
   replace hown := hown.ext hE1
   generalize W0.alloc (.cells #[.int .i64 ((c : Int) - 48)] 3) = W1 at *
   generalize W0.heap.size = gn at *
   refine wpTreeR_one rfl rfl (fun K hK => ?_)
   refine wpList_appendAll (v := vb) (vx := .slice (some ⟨gn, 0, none⟩) 1 1) elInts rfl _ _ rfl rfl rfl hown (raw_one rfl hbn) (fun u hu => by simp only [List.mem_cons, List.not_mem_nil, or_false] at hu; subst hu; rfl) hzE (by rw [HTL.out]; omega) (by rw [HTL.out]; omega) ?_
   intro v6 W2 ho6 hb6
   replace ho6 : OInts 3 W2 (g0 + 1) v6 (l.take (j + 1)) := by
    rw [HTK.out]
    unfold OInts
    simpa [ints] using ho6
   obtain ⟨a6, c6, hv6, _⟩ := ho6.ints.open_
   rw [HT1.out] at hv6
   subst hv6
   go_wp2_with fail
   refine ⟨.inr hb6, ?_⟩
   have hBel := hB1.trans hb6
   have hR3 : Blk W2 rb 77 [rv, v.kn, v.gr, .bool true, vb, v.words, v.slate, v.forms, v.orders] := (hBel.block rb (by omega)).trans hRr
   have hb3 : Blk W2 g0 129 [.string ⟨#[114, 101, 97, 100]⟩, .string r, .int .i64 0] := (hBel.block g0 (by omega)).trans hbr
   have k4' := hR3.cell (i := 4) rfl
   have f4' := hR3.frozen 4
   iterate 2 (refine wpTreeR_look rfl fun K hK => ?_; go_simp; (first | refine hK _ ?_ | refine ⟨_, fun _ => rfl, hK _ ?_⟩); clear hK K)
   refine wpTreeR_one rfl rfl (fun K hK => ?_)
   go_wp2_with fail
   refine ⟨.inl (by simp), ?_⟩
   refine wpTreeR_done ?_
   have hR4 := hR3.set 4 (.slice a6 (j + 1) c6)
   have hb4 := hb3.setN hne 4 (.slice a6 (j + 1) c6)
   have ho4 := ho6.setB (g := rb) (i := 4) (v := (.slice a6 (j + 1) c6)) hR3 (by decide)
   have hX4 := (hXr.box hBel (by rw [HG0.out]; omega)).trans (ExtX.set W2 rb 4 (.slice a6 (j + 1) c6))
   have hz4 := Nat.le_trans (Nat.le_trans hzE hb6.size) (ExtX.set W2 rb 4 (.slice a6 (j + 1) c6)).size
   generalize W2.setCell ⟨rb, 4, none⟩ (.slice a6 (j + 1) c6) = W4 at *
   go_wp2_with fail
   go_roundg (gk-1)
   case measure => omega
   case rel => exact ⟨j + 1, (.slice a6 (j + 1) c6), by omega, by omega, by go_num, hX4, hz4, hb4, hR4, ho4⟩
  ·obtain rfl : j = r.size := by omega
   rw [List.take_of_length_le (by rw [HLL.out]; omega)] at hown
   obtain ⟨ba, bc, hbv, _⟩ := hown.ints.open_
   subst hbv
   have k4 := hRr.cell (i := 4) rfl
   have hEn := Ext.alloc wr (.cells #[.slice ba l.length bc] 34)
   have hgn := Blk.alloc wr #[.slice ba l.length bc] 34
   have hRn := hRr.ext hEn
   have k4n := hRn.cell (i := 4) rfl
   have k5n := hRn.cell (i := 5) rfl
   have f5n := hRn.frozen 5
   go_upto_region 25 with fail
   have hzn : g0 ≤ wr.heap.size := by omega
   have hnn : rb ≠ wr.heap.size := by omega
   have hXn := (hXr.trans (hEn.toX (one rb))).trans (ExtX.set (wr.alloc (.cells #[.slice ba l.length bc] 34)) rb 5 (.slice (some ⟨wr.heap.size, 0, none⟩) 1 1))
   have hR5 := hRn.set 5 (.slice (some ⟨wr.heap.size, 0, none⟩) 1 1)
   have hg5 := hgn.setN hnn 5 (.slice (some ⟨wr.heap.size, 0, none⟩) 1 1)
   have ho5 := ((hown.ext hEn).low (B' := g0) (by omega)).setB (g := rb) (i := 5) (v := .slice (some ⟨wr.heap.size, 0, none⟩) 1 1) hRn (by decide)
   clear k4 k4n k5n f5n hRn hEn hgn y1 hown
   generalize World.setCell _ ⟨rb, 5, none⟩ _ = W5 at *
   generalize wr.heap.size = gW at *
   have k6 := hR5.cell (i := 6) rfl
   have f6 := hR5.frozen 6
   go_upto_region 35 with fail
   have hR6 := hR5.set 6 (.slice none 0 0)
   have hg6 := hg5.setN hnn 6 (.slice none 0 0)
   have ho6 := ho5.setB (g := rb) (i := 6) (v := .slice none 0 0) hR5 (by decide)
   have hX6 := hXn.trans (ExtX.set W5 rb 6 (.slice none 0 0))
   rw [← HG0.out] at ho6 hzn
   obtain ⟨R', v', g6, r6⟩ := RefR.remake HB.out (by rw [HG0.out]; exact HBW.out) hX6 hzn hR6 hg6 ho6
   have HFIN : Hid (Grow R R' b w (W5.setCell ⟨rb, 6, none⟩ (.slice none 0 0)) ∧ RefR R' b rb rv v' E s (W5.setCell ⟨rb, 6, none⟩ (.slice none 0 0))) := Lib.hid ⟨g6, by rw [HE1.out]; exact r6⟩
   clear g6 r6 k6 f6 hR6 hg6 ho6 hX6
   generalize W5.setCell ⟨rb, 6, none⟩ (.slice none 0 0) = wF at *
   go_wp2_with fail
   go_ret
   exact ⟨by rw [HE2.out]; rfl, R', v', HFIN.out.1, HFIN.out.2⟩
theorem num_small {t : Bs} {n : Nat} (h : numOf t = some n) : n ≤ 99 := (numOf_digits h).2
theorem rexec9_c (h : RefR R b rb rv v x s w) (hI : Inv s x) (hbw : b < w.heap.size) {t : Bs} {c : Cmd} (hc : parseB t = some c) :
  Calls Tryz.prog 84 #[.pointer (some ⟨rb, 0, none⟩), .agg #[.string (ofBs (headC c)), .string (ofBs (restOf t)), .int .i64 (numC c)]] w (RRef R b rb rv s (exS s x c) (execS s x c).2 w) := by
 have hp := (parse_parts hc).2.2
 have hf : x.forms.length ≤ 1000 := by have := hI.formsL; have := hI.olen; omega
 cases c with
 | learn n => exact rexec9_learn h hI.toInvE hbw _ n (num_small hp)
 | forget n => exact rexec9_forget h hI.toInvE hbw _ n (num_small hp)
 | change n => exact (rexec9_four h hI.toInvE hbw hf _ n (num_small hp)).2.2.2
 | read l => exact rexec9_read h hI.toInvE hbw _ l (by rw [txt_of]; exact hp)
 | step => exact (rexec9_four h hI.toInvE hbw hf _ 0 (by omega)).1
 | fin => exact (rexec9_four h hI.toInvE hbw hf _ 0 (by omega)).2.1
 | undo => exact rexec9_undo h hI.toInvE hbw _ _
 | say => exact (rexec9_four h hI.toInvE hbw hf _ 0 (by omega)).2.2.1
theorem rDo_c (h : RefR R b rb rv v x s w) (hI : Inv s x) (hbw : b < w.heap.size) (t : ByteArray) :
  Calls Tryz.prog 46 #[.pointer (some ⟨rb, 0, none⟩), .string t] w (RRef R b rb rv s (doS s x t).1 (doS s x t).2 w) := by
 have HB := Lib.hid h
 have HPA := Lib.hid (rparse_c t w)
 cases hc : parseB (txt t) with
 | none =>
  rw [show doS s x t = (x, 2) by unfold doS; rw [show t.data.toList = txt t from rfl, hc]]
  rw [hc] at HPA
  clear h hI hc
  go_enter Tryz.func46, Tryz.ntmps46
  go_wp2_with fail
  refine HPA.out.mono ?_; rintro e w1 ⟨hx1, ho, uo, no, rfl⟩
  have hX := hx1.trans (Ext.alloc w1 (.cells #[.string ho, .string uo, .int .i64 no] 129))
  go_wp2_with fail
  go_ret
  exact ⟨rfl, R, v, Grow.ofExt hX HB.out.Rl HB.out.Rb, HB.out.ext hX⟩
 | some c =>
  rw [hc] at HPA
  have c8 := h.hb.cell (i := 8) rfl
  obtain ⟨oa, oc, hov, _⟩ := (h.orders.cel encT_len).open_
  rw [hov] at c8
  by_cases h100 : 100 ≤ x.orders.length
  ·rw [show doS s x t = (x, 3) by unfold doS; rw [show t.data.toList = txt t from rfl, hc]; simp only; rw [if_pos h100]]
   have h100' : decide ((100 : Int) ≤ (x.orders.length : Int)) = true := decide_eq_true (by omega)
   clear h hI hc hov
   go_enter Tryz.func46, Tryz.ntmps46
   go_wp2_with fail
   refine HPA.out.mono ?_; rintro e w1 ⟨hx1, rfl⟩
   have hX := hx1.trans (Ext.alloc w1 (.cells #[.string (ofBs (headC c)), .string (ofBs (restOf (txt t))), .int .i64 (numC c)] 129))
   have k8 := hX.keep c8
   go_wp2_with fail
   go_ret
   exact ⟨rfl, R, v, Grow.ofExt hX HB.out.Rl HB.out.Rb, HB.out.ext hX⟩
  ·have h100' : decide ((100 : Int) ≤ (x.orders.length : Int)) = false := decide_eq_false (by omega)
   have HEX := Lib.hid (fun W (q : Ext w W) => rexec9_c (h.ext q) hI (Nat.lt_of_lt_of_le hbw q.size) hc)
   have hd : doS s x t = if (execS s x c).2 = 0 then ({ (execS s x c).1 with orders := x.orders ++ [t] }, 0) else (x, (execS s x c).2) := by
    unfold doS; rw [show t.data.toList = txt t from rfl, hc]; simp only; rw [if_neg h100]
   have hor : (execS s x c).2 = 0 → (exS s x c).orders = x.orders := fun hz => by
    unfold exS; rw [if_pos hz]; exact (exec_inv hI.toInvE c (parse_ok hc)).2.1
   have HBW := Lib.hid hbw
   have hlo : x.orders.length < 100 := by omega
   by_cases hz : (execS s x c).2 = 0
   ·rw [hd, if_pos hz]
    have HST : Hid ({ (exS s x c) with orders := (exS s x c).orders ++ [t] } = { (execS s x c).1 with orders := x.orders ++ [t] }) := Lib.hid (by rw [hor hz]; unfold exS; rw [if_pos hz])
    have HOR := Lib.hid (hor hz)
    rw [hz] at HEX
    generalize { (execS s x c).1 with orders := x.orders ++ [t] } = E at *
    generalize exS s x c = y at *
    have HOL : Hid (x.orders.length < 100) := Lib.hid hlo
    clear h hI hc hov hd hor hz
    go_enter Tryz.func46, Tryz.ntmps46
    go_wp2_with fail
    refine HPA.out.mono ?_; rintro e w1 ⟨hx1, rfl⟩
    have hX := hx1.trans (Ext.alloc w1 (.cells #[.string (ofBs (headC c)), .string (ofBs (restOf (txt t))), .int .i64 (numC c)] 129))
    have k8 := hX.keep c8
    go_upto_region 6 with fail
    have HEX2 := Lib.hid (HEX.out _ hX)
    have hbx := Blk.alloc w1 #[.string (ofBs (headC c)), .string (ofBs (restOf (txt t))), .int .i64 (numC c)] 129
    generalize w1.alloc (.cells #[.string (ofBs (headC c)), .string (ofBs (restOf (txt t))), .int .i64 (numC c)] 129) = w2 at *
    generalize w1.heap.size = g2 at *
    have m0 := hbx.cell (i := 0) rfl
    have m1 := hbx.cell (i := 1) rfl
    have m2 := hbx.cell (i := 2) rfl
    clear k8
    go_wp2_with fail
    refine HEX2.out.mono ?_; rintro e w3 ⟨rfl, R3, v3, g3, r3⟩
    clear m0 m1 m2 hbx
    have c83 := r3.hb.cell (i := 8) rfl
    obtain ⟨oa3, oc3, hov3, _⟩ := (r3.orders.cel encT_len).open_
    rw [HOR.out] at hov3
    have ho3 := r3.orders
    rw [hov3] at c83 ho3
    have HG3 := Lib.hid g3
    have HR3 := Lib.hid r3
    have HO3 := Lib.hid ho3
    have HV3 := Lib.hid hov3
    have HBR := Lib.hid r3.hb
    have hbw3 : b < w3.heap.size := Nat.lt_of_lt_of_le HBW.out (Nat.le_trans hX.size g3.ext.size)
    have hn0 : (Value.slice oa3 x.orders.length oc3).ownBlock ≠ some rb := by
     have := ho3.ne r3.hb (by decide)
     exact this
    clear g3 r3 ho3 hov3 c8
    have hcl := (Ext.alloc w3 (.cells #[.string t] 9)).keep c83
    go_upto_region 9 with (at_builtin; refine wpList_appendGR (v := .slice oa3 x.orders.length oc3) (enc := encT) (L := y.orders) t elStr rfl _ _ rfl rfl rfl HO3.out rfl rfl encT_len (fun u hu => encT_one t u hu) (by rw [HOR.out]; omega) (by rw [HOR.out]; omega) ?_; intro v8 w8 hn8 hg8 hw8; obtain ⟨a8, n8, hv8, _⟩ := (hn8.cel encT_len).open_; rw [List.length_append, List.length_singleton, HOR.out] at hv8; subst hv8; have hb8 := HBR.out.grown hg8 hn0; have k88 := hb8.cell (i := 8) rfl; have f88 := hb8.frozen 8)
    have hOB : (Value.slice oa3 x.orders.length oc3).ownBlock = v3.orders.ownBlock := by rw [HV3.out]
    rw [hOB] at hg8 hw8
    obtain ⟨R9, g9, r9⟩ := RefR.pushO HR3.out hbw3 hn8 hg8 hw8
    rw [HST.out] at r9
    have HFIN := Lib.hid (And.intro (((Grow.ofExt hX HB.out.Rl HB.out.Rb).trans HG3.out).trans g9) r9)
    clear g9 r9 hn8 hg8 hw8
    generalize World.setCell w8 ⟨rb, 8, none⟩ _ = wF at *
    go_wp2_with fail
    go_ret
    exact ⟨rfl, R9, _, HFIN.out.1, HFIN.out.2⟩
   ·rw [hd, if_neg hz]
    have hzb : ((execS s x c).2 == 0) = false := by simpa using hz
    have hzb2 : ((execS s x c).2 != 0) = true := by simpa using hz
    have HXX : Hid (exS s x c = x) := Lib.hid (by unfold exS; rw [if_neg hz])
    obtain ⟨KE, hKE⟩ : ∃ KE, KE = (execS s x c).2 := ⟨_, rfl⟩
    rw [← hKE] at HEX hzb hzb2
    rw [← hKE]
    clear h hI hc hov hd hor hz hKE
    go_enter Tryz.func46, Tryz.ntmps46
    go_wp2_with fail
    refine HPA.out.mono ?_; rintro e w1 ⟨hx1, rfl⟩
    have hX := hx1.trans (Ext.alloc w1 (.cells #[.string (ofBs (headC c)), .string (ofBs (restOf (txt t))), .int .i64 (numC c)] 129))
    have k8 := hX.keep c8
    go_upto_region 6 with fail
    have HEX2 := Lib.hid (HEX.out _ hX)
    have hbx := Blk.alloc w1 #[.string (ofBs (headC c)), .string (ofBs (restOf (txt t))), .int .i64 (numC c)] 129
    generalize w1.alloc (.cells #[.string (ofBs (headC c)), .string (ofBs (restOf (txt t))), .int .i64 (numC c)] 129) = w2 at *
    generalize w1.heap.size = g2 at *
    have m0 := hbx.cell (i := 0) rfl
    have m1 := hbx.cell (i := 1) rfl
    have m2 := hbx.cell (i := 2) rfl
    clear k8
    go_wp2_with fail
    refine HEX2.out.mono ?_; rintro e w3 ⟨rfl, R3, v3, g3, r3⟩
    rw [HXX.out] at r3
    go_wp2_with fail
    go_ret
    exact ⟨rfl, R3, v3, (Grow.ofExt hX HB.out.Rl HB.out.Rb).trans g3, r3⟩
theorem RefR.nb (h : RefR R b rb rv v x s w) : ∀ k, R k = true → one b k = false := fun k hk => by
 cases e : one b k with
 | false => rfl
 | true =>
  have : k = b := by simpa [one] using e
  subst this
  rw [h.Rb] at hk; cases hk
theorem RefR.stay {R : Nat → Bool} {b rb : Nat} {rv : Value} {v : SV} {x : St} {s : List Rul} {w w' : World} (h : RefR R b rb rv v x s w) (hx : ExtX (one b) w w') : RefR R b rb rv v x s w' := by
 have hh : Ext (hole (more R b) w) (hole (more R b) w') := hx.hole1 (fun k hk => by
  have : k = b := by simpa [one] using hk
  subst this; exact more_self _ _)
 have nb := h.nb
 obtain ⟨kb, k1, k2, k3⟩ := h.kn
 obtain ⟨uf, f1, f2⟩ := h.forms.row
 obtain ⟨uw, w1, w2⟩ := h.words.row
 exact ⟨h.hb.stay hx (nb rb h.Rrb), h.Rrb, h.Rb, fun k hk => Nat.lt_of_lt_of_le (h.Rl k hk) hx.size, h.hr.ext hh, ⟨kb, k1, k2, k3.stay hx (nb kb k2)⟩, h.gr.ext hh, h.base.ext hh,
  ⟨⟨uw, w1.stay hx (fun r hr => nb r (h.words.inR r hr)), w2.ext hh⟩, h.words.inR⟩,
  ⟨⟨uf, f1.stay hx (fun r hr => nb r (h.forms.inR r hr)), f2.ext hh⟩, h.forms.inR⟩,
  h.slate.stay hx (fun r hr => nb r (h.slateR r hr)), h.slateR, h.orders.stay hx (fun r hr => nb r (h.ordersR r hr)), h.ordersR, h.apart⟩
theorem SchB.grow {S R R' : Nat → Bool} {b b' : Nat} {m0 m1 rv : Value} {v : SV} {x : St} {s : List Rul} {w w' : World} (h : SchB S b m0 m1 rv v x s w) (g : Grow R R' b' w w') (hb : R b = false) (hRS : ∀ k, R k = true → S k = true) :
  ∃ S', (∀ k, R' k = true → S' k = true) ∧ (∀ k, S k = true → S' k = true) ∧ SchB S' b m0 m1 rv v x s w' := by
 have hh : Ext (hole S w) (hole (fun k => S k || R' k) w') := g.ext.hole hRS (fun k hk => by simp [hk]) (fun k hk => by
  simp only [Bool.or_eq_true] at hk
  rcases hk with hk | hk
  ·exact .inl hk
  ·rcases g.new k hk with h1 | h1
   ·exact .inl (hRS k h1)
   ·exact .inr h1)
 exact ⟨fun k => S k || R' k, fun k hk => by simp [hk], fun k hk => by simp [hk], ⟨by simp [h.hSb], fun k hk => by
  simp only [Bool.or_eq_true] at hk
  rcases hk with hk | hk
  ·exact Nat.lt_of_lt_of_le (h.hSl k hk) g.ext.size
  ·exact g.lt k hk, h.hb.stay g.ext hb, h.hr.ext hh, h.hs.ext hh, h.hI⟩⟩
structure Pair (S0 : Nat → Bool) (w0 : World) (b rb : Nat) (m1 rv rv2 : Value) (x : St) (s : List Rul) (w : World) : Prop where
 both : ∃ S R v v2, SchF S b m1 rv v x s w ∧ RefR R b rb rv2 v2 x s w ∧ (∀ k, R k = true → S k = true) ∧ (∀ k, R k = true → S0 k = true ∨ w0.heap.size ≤ k)
 b0 : S0 b = true
 far : ExtX S0 w0 w
theorem Pair.lt {S0 : Nat → Bool} {w0 : World} {b rb : Nat} {m1 rv rv2 : Value} {x : St} {s : List Rul} {w : World} (p : Pair S0 w0 b rb m1 rv rv2 x s w) : b < w.heap.size := by
 obtain ⟨S, R, v, v2, h, _⟩ := p.both
 exact h.hb.lt
theorem Pair.inv {S0 : Nat → Bool} {w0 : World} {b rb : Nat} {m1 rv rv2 : Value} {x : St} {s : List Rul} {w : World} (p : Pair S0 w0 b rb m1 rv rv2 x s w) : Inv s x := by
 obtain ⟨S, R, v, v2, h, _⟩ := p.both
 exact h.hI
theorem Pair.ext {S0 : Nat → Bool} {w0 : World} {b rb : Nat} {m1 rv rv2 : Value} {x : St} {s : List Rul} {w w' : World} (p : Pair S0 w0 b rb m1 rv rv2 x s w) (hx : Ext w w') : Pair S0 w0 b rb m1 rv rv2 x s w' := by
 obtain ⟨S, R, v, v2, h, k, h1, h2⟩ := p.both
 exact ⟨⟨S, R, v, v2, h.ext hx, k.ext hx, h1, h2⟩, p.b0, p.far.trans (hx.toX _)⟩
def beg9 (b gh gq : Nat) : Nat → Bool := more (more (more (fun _ => false) b) gh) gq
theorem beg9_or {b gh gq k : Nat} (h : beg9 b gh gq k = true) : k = b ∨ k = gh ∨ k = gq := by
 rcases more_or h with h | h
 ·rcases more_or h with h | h
  ·rcases more_or h with h | h
   ·cases h
   ·exact .inl h
  ·exact .inr (.inl h)
 ·exact .inr (.inr h)
theorem Pair.new {b gh gq : Nat} {m1 rv u : Value} {v : SV} {s : List Rul} {w w' : World} (h : SchF (beg9 b gh gq) b m1 rv v st0 s w) (hn : NewR (beg9 b gh gq) gh gq u s w) (hx : Ext w w') (h1 : b < gh) (h2 : b < gq) : Pair (beg9 b gh gq) w' b gh m1 rv u st0 s w' := by
 have hsub : ∀ k, two9 gh gq k = true → beg9 b gh gq k = true := fun k hk => by
  simp only [two9, Bool.or_eq_true, beq_iff_eq] at hk
  rcases hk with rfl | rfl
  ·exact more_in (more_self _ _)
  ·exact more_self _ _
 exact ⟨⟨_, _, _, _, h.ext hx, (refR_new hn (by omega) (by omega) rfl).ext hx, hsub, fun k hk => .inl (hsub k hk)⟩, more_in (more_in (more_self _ _)), ExtX.refl _ _⟩
theorem pair_equal {S0 : Nat → Bool} {w0 : World} {b rb : Nat} {m1 rv rv2 : Value} {x : St} {s : List Rul} {w : World} (p : Pair S0 w0 b rb m1 rv rv2 x s w) (hE : Env w) :
  Calls Tryz.prog 47 #[.pointer (some ⟨b, 0, none⟩), .pointer (some ⟨rb, 0, none⟩)] w (RV (.bool true) w) := by
 obtain ⟨S, R, v, v2, h, k, _⟩ := p.both
 exact Equal_c h k hE
theorem ExtX.cellQ {Q : Nat → Bool} {w w' : World} {a : Addr} {v : Value} (h : ExtX Q w w') (hc : w.cell? a = some v) (hq : Q a.block = false) : w'.cell? a = some v := by
 unfold World.cell? at hc ⊢
 rcases Nat.lt_or_ge a.block w.heap.size with hl | hl
 ·rw [h.block a.block hl hq]; exact hc
 ·rw [Array.getElem?_eq_none hl] at hc; cases hc
theorem Env.extS {w w' : World} {Q : Nat → Bool} (h : Env w) (hx : ExtX Q w w') (hb : ∀ k, Q k = true → 7 ≤ k) : Env w' := by
 have nq : ∀ k, k < 7 → Q k = false := fun k hk => by
  cases e : Q k with
  | false => rfl
  | true => have := hb k e; omega
 obtain ⟨h1, ⟨t, p, h2⟩, ⟨t2, p2, h3⟩⟩ := h
 refine ⟨?_, ⟨t, p, hx.cellQ h2 (nq _ (by decide))⟩, ⟨t2, p2, hx.cellQ h3 (nq _ (by decide))⟩⟩
 unfold Lib.TabIs World.var? at *
 rw [pow_at] at h1 ⊢
 simp only [Option.bind_some] at h1 ⊢
 rcases Nat.lt_or_ge 2 w.heap.size with hl | hl
 ·rw [hx.block 2 hl (nq 2 (by omega))]; exact h1
 ·rw [Array.getElem?_eq_none hl] at h1; cases h1
theorem ErrT.extS {w w' : World} {Q : Nat → Bool} (h : ErrT w) (hx : ExtX Q w w') (hb : ∀ k, Q k = true → 7 ≤ k) : ErrT w' := hx.cellQ h (by
 cases e : Q _ with
 | false => rfl
 | true => have := hb _ e; dsimp only at *; omega)
def Wide (S0 : Nat → Bool) (w0 a b : World) : Prop := ExtX (fun k => S0 k || decide (w0.heap.size ≤ k)) a b
theorem Wide.refl (S0 : Nat → Bool) (w0 a : World) : Wide S0 w0 a a := ExtX.refl _ _
theorem Wide.trans {S0 : Nat → Bool} {w0 a b c : World} (h : Wide S0 w0 a b) (k : Wide S0 w0 b c) : Wide S0 w0 a c := ExtX.trans h k
theorem Wide.ofExt {S0 : Nat → Bool} {w0 a b : World} (h : Ext a b) : Wide S0 w0 a b := h.toX _
theorem Wide.ofX {S0 R : Nat → Bool} {w0 a b : World} (h : ExtX R a b) (hR : ∀ k, R k = true → S0 k = true ∨ w0.heap.size ≤ k) : Wide S0 w0 a b := h.mono (fun k _ hk => by
 cases e : R k with
 | false => rfl
 | true =>
  simp only [Bool.or_eq_false_iff, decide_eq_false_iff_not] at hk
  rcases hR k e with h1 | h1
  ·rw [h1] at hk; cases hk.1
  ·exact absurd h1 hk.2)
theorem Wide.cell {S0 : Nat → Bool} {w0 a b : World} (h : Wide S0 w0 a b) {q : Addr} {v u : Value} (h0 : (hole S0 w0).cell? q = some u) (hc : a.cell? q = some v) : b.cell? q = some v := by
 obtain ⟨h1, h2⟩ := hole_cell h0
 refine ExtX.cellQ h hc ?_
 simp only [Bool.or_eq_false_iff, decide_eq_false_iff_not]
 refine ⟨h2, fun hz => ?_⟩
 unfold World.cell? at h1
 rw [Array.getElem?_eq_none hz] at h1
 cases h1
theorem pair_do {S0 : Nat → Bool} {w0 : World} {b rb : Nat} {m1 rv rv2 : Value} {x : St} {s : List Rul} {w : World} (p : Pair S0 w0 b rb m1 rv rv2 x s w) (hE : Env w) (hT : ErrT w) (hb7 : 7 ≤ b) (t : ByteArray) :
  Calls Tryz.prog 26 #[.pointer (some ⟨b, 0, none⟩), .string t] w (fun e w1 => e = .returned (.int .i64 (doS s x t).2) ∧ Wide S0 w0 w w1 ∧
   Calls Tryz.prog 46 #[.pointer (some ⟨rb, 0, none⟩), .string t] w1 (fun e2 w2 => e2 = .returned (.int .i64 (doS s x t).2) ∧ Wide S0 w0 w1 w2 ∧ Pair S0 w0 b rb m1 rv rv2 (doS s x t).1 s w2)) := by
 obtain ⟨S, R, v, v2, h, k, h1, h2⟩ := p.both
 have hbw := h.hb.lt
 refine (DoL_c h hE hT hb7 t).mono ?_
 rintro e w1 ⟨he, hx, v', hS⟩
 have hone : ∀ i, one b i = true → S0 i = true ∨ w0.heap.size ≤ i := fun i hi => by
  have : i = b := by simpa [one] using hi
  subst this; exact .inl p.b0
 have hx1 : ExtX S0 w0 w1 := p.far.transN hx hone
 refine ⟨he, Wide.ofX hx hone, (rDo_c (k.stay hx) h.hI (Nat.lt_of_lt_of_le hbw hx.size) t).mono ?_⟩
 rintro e2 w2 ⟨he2, R', vr, g, hR⟩
 obtain ⟨S', a1, a2, a3⟩ := SchB.grow hS g k.Rb h1
 refine ⟨he2, Wide.ofX g.ext h2, ⟨⟨S', R', v', vr, a3, hR, a1, fun i hi => ?_⟩, p.b0, hx1.transN g.ext h2⟩⟩
 rcases g.new i hi with e | e
 ·exact h2 i e
 ·exact .inr (Nat.le_trans hx1.size e)
theorem all_c {S0 : Nat → Bool} {b rb : Nat} {m1 rv rv2 : Value} {x : St} {s : List Rul} {w : World} (p : Pair S0 w b rb m1 rv rv2 x s w) (hE : Env w) (hT : ErrT w) (hb7 : 7 ≤ b) (hS7 : ∀ k, S0 k = true → 7 ≤ k) (u : Value) (L : List ByteArray) (hl : Strs (hole S0 w) u L) :
  Calls Tryz.prog 51 #[.pointer (some ⟨b, 0, none⟩), .pointer (some ⟨rb, 0, none⟩), u] w (fun e w' => e = .returned (.bool true) ∧ Pair S0 w b rb m1 rv rv2 (runS s x L) s w') := by
 have HE := Lib.hid hE
 have HT := Lib.hid hT
 have HS7 := Lib.hid hS7
 have HP := Lib.hid p
 obtain ⟨a4, c4, hul4, _, _, HC4⟩ := hl.at_
 subst hul4
 clear p hl hE hT hS7
 go_enter Tryz.func51, Tryz.ntmps51
 go_wp2_with fail
 go_loopg [7] L.length (fun m i wr => ∃ (k : Nat), k ≤ L.length ∧ L.length ≤ k + m ∧ i = .int .i64 k ∧ Pair S0 w b rb m1 rv rv2 (runS s x (L.take k)) s wr)
 case atStart => exact ⟨0, by omega, by omega, rfl, HP.out⟩
 case round =>
  obtain ⟨k, hk1, hk2, rfl, hP⟩ := hrel
  by_cases hlt : k < L.length
  ·obtain ⟨bl, ol, ha4, hcl⟩ := HC4.out k hlt
   subst ha4
   have HTK : Hid (L.take (k + 1) = L.take k ++ [L[k]]) := Lib.hid (by rw [List.take_add_one, List.getElem?_eq_getElem hlt]; rfl)
   generalize L[k] = tk at *
   have HRN : Hid (runS s x (L.take (k + 1)) = (doS s (runS s x (L.take k)) tk).1) := Lib.hid (by rw [HTK.out, runS_append]; rfl)
   go_upto_region 4 with fail
   refine wp_region_treeR (fun a b => Wide S0 w a b) [] (.look 0 (.look 1 (.look 2 (.look 3 (.look 4 (.look 6 (.look 7 (.look 8 (.look 9 (.look 10 (.one 5 (.one 11 (.look 12 .done))))))))))))) (fun a => Wide.refl _ _ a) (fun a b c h k => Wide.trans h k) (by kernel_rfl) (by kernel_rfl) (by intro c a d v w h; cases d <;> exact h) ?_
   replace hP := hP.ext (drawnP_ext wr)
   generalize { wr with drawn := wr.drawn + 1 } = W0 at *
   have hX := hP.far
   have HDO := Lib.hid (pair_do hP (HE.out.extS hX HS7.out) (HT.out.extS hX HS7.out) hb7 tk)
   have tl := hole_sub S0 W0 _ _ ((hX.hole1 (fun _ h => h)).sub _ _ hcl)
   have kt : ∀ q : InC (fun c => Wide S0 w W0 c), q.w.cell? ⟨bl, ol + k, none⟩ = some (.string tk) := fun q => Wide.cell q.h hcl tl
   generalize doS s (runS s x (L.take k)) tk = RR at *
   obtain ⟨R1, R2⟩ := RR
   dsimp only at HDO HRN
   clear hX hP
   iterate 10 (refine wpTreeR_look rfl fun K hK => ?_; go_simp; (first | refine hK _ ?_ | refine ⟨_, fun _ => rfl, hK _ ?_⟩); clear hK K)
   refine wpTreeR_one rfl rfl (fun K hK => ?_)
   go_wp2_with fail
   refine HDO.out.mono ?_; rintro e w5 ⟨rfl, hE5, hC5⟩
   go_wp2_with fail
   refine ⟨.inr hE5, ?_⟩
   refine wpTreeR_one rfl rfl (fun K hK => ?_)
   go_wp2_with fail
   refine hC5.mono ?_; rintro e w6 ⟨rfl, hE6, hP6⟩
   go_wp2_with fail
   refine ⟨.inr hE6, ?_⟩
   iterate 1 (refine wpTreeR_look rfl fun K hK => ?_; go_simp; (first | refine hK _ ?_ | refine ⟨_, fun _ => rfl, hK _ ?_⟩); clear hK K)
   refine wpTreeR_done ?_
   have HP6 := Lib.hid hP6
   clear hP6
   go_wp2_with fail
   go_roundg (gk-1)
   case measure => omega
   case rel => exact ⟨k + 1, by omega, by omega, by go_num, by rw [HRN.out]; exact HP6.out⟩
  ·obtain rfl : k = L.length := by omega
   rw [List.take_length] at hP
   have HP6 := Lib.hid hP
   clear hP
   go_wp2_with fail
   go_ret
   exact ⟨rfl, HP6.out⟩
end Go.Proofs.YtpmlcfgbfhgpgaaGreatDoor
