/- Several texts in one: BkA, Bld, BkB, BkC, BkD, BkE, BkF, BkG, BkH, Pre9. -/
import Derived.Test.YtpmlcfgbfhgpgaaGreatDoorBkP
import Derived.Test.YtpmlcfgbfhgpgaaGreatDoorStru
import Derived.Test.YtpmlcfgbfhgpgaaGreatDoorRulC
import Derived.Test.YtpmlcfgbfhgpgaaGreatDoorShelf
import Derived.Lib.LaidTab
import Derived.Lib.AppendIntMem
import Derived.Deep.CutRange
import Derived.Deep.CutBlock
/- Sums of texts, and which texts may stand in a book; both packages. -/
namespace Go.Proofs.YtpmlcfgbfhgpgaaGreatDoor
open Go.RowKit Go.Shelf
set_option linter.unusedVariables false
theorem bs_size (t : ByteArray) : t.size = t.data.toList.length := Array.length_toList.symm
theorem bs_get (t : ByteArray) (k : Nat) (h : k < t.size) (h2 : k < t.data.toList.length) : t.data.toList[k]'h2 = t[k]'h := by
 rw [Array.getElem_toList]; rfl
set_option maxHeartbeats 1000000 in
set_option maxRecDepth 100000 in
theorem Sum_c (s : Int) (t : ByteArray) (w : World) (hs : (Lit.int .i64 s).wf = true) (ht : t.size ≤ 100000) : Calls Tryz.prog 42 #[.int .i64 s, .string t] w (RP (.int .i64 (sumB s t.data.toList)) w) := by
 obtain ⟨hs1, hs2⟩ := wf_int hs
 obtain ⟨r, hr⟩ : ∃ r, s.tmod 1000003 = r := ⟨_, rfl⟩
 have hz : s % 1000003 = if r < 0 then r + 1000003 else r := by
  have h1 := Int.tmod_eq_emod (a := s) (b := 1000003)
  rw [hr] at h1
  split at h1 <;> split <;> omega
 have hr1 : -1000003 < r ∧ r < 1000003 := by
  have h1 := Int.tmod_eq_emod (a := s) (b := 1000003)
  rw [hr] at h1
  split at h1 <;> omega
 have HT := Lib.hid (fun k (h : k < t.data.toList.length) => sumTo_succ s t.data.toList h)
 have HR := Lib.hid (fun k (h : k ≤ t.data.toList.length) => sumTo_range s t.data.toList k h)
 have HE := Lib.hid (sumTo_all s t.data.toList)
 have H0 := Lib.hid ((sumTo_zero s t.data.toList).trans hz)
 have HL := Lib.hid (bs_size t)
 generalize sumB s t.data.toList = S at *
 clear hz
 by_cases hneg : r < 0
 ·have hw1 : IntKind.i64.wrap (r + 1000003) = r + 1000003 := IntWalk.i64_in _ (by omega)
  have H1 := Lib.hid (H0.out.trans (if_pos hneg))
  go_enter Tryz.func42, Tryz.ntmps42
  go_wp2_with fail
  go_loopg [15, 5] t.size (fun m i v wr => ∃ k : Nat, k ≤ t.size ∧ t.size ≤ k + m ∧ i = .int .i64 k ∧ v = .int .i64 (sumTo s t.data.toList k) ∧ w = wr)
  case atStart => exact ⟨0, by omega, by omega, rfl, by rw [H1.out], rfl⟩
  case round =>
   obtain ⟨k, hk, hk2, rfl, rfl, rfl⟩ := hrel
   by_cases hlt : k < t.size
   ·clear hr
    obtain ⟨hra, hrb⟩ := HR.out k (by have := HL.out; omega)
    have hTK := HT.out k (by have := HL.out; omega)
    rw [bs_get t k hlt] at hTK
    have hby : ((t[k]'hlt).toNat : Int) ≤ 255 := by have := UInt8.toNat_lt (t[k]'hlt); omega
    obtain ⟨b, hb⟩ : ∃ b : Nat, (t[k]'hlt).toNat = b := ⟨_, rfl⟩
    rw [hb] at hTK hby
    generalize hq2 : sumTo s t.data.toList (k + 1) = q2 at *
    have HQ := Lib.hid hq2; clear hq2
    generalize sumTo s t.data.toList k = q at *
    have HTK := Lib.hid hTK; clear hTK
    have hwA : wrap64 (b : Int) = b := IntWalk.wrap64_in _ (by omega)
    have hwB : wrap64 (q * 257 + b) = q * 257 + b := IntWalk.wrap64_in _ (by omega)
    have hwC : wrap64 (q * 257 + b + 1) = q * 257 + b + 1 := IntWalk.wrap64_in _ (by omega)
    have hT : (q * 257 + b + 1).tmod 1000003 = q2 := by rw [HTK.out]; exact Int.tmod_eq_emod_of_nonneg (by omega)
    go_wp2_with fail
    go_roundg (gk-1)
    case measure => omega
    case rel => exact ⟨k+1, by omega, by omega, by go_num, by rw [HQ.out], rfl⟩
   ·obtain rfl : k = t.size := by omega
    have HE2 := Lib.hid (show sumTo s t.data.toList t.size = S by rw [← HE.out, HL.out])
    go_wp2_with fail
    go_ret
    exact RP.int HE2.out
 ·have H1 := Lib.hid (H0.out.trans (if_neg hneg))
  go_enter Tryz.func42, Tryz.ntmps42
  go_wp2_with fail
  go_loopg [15, 5] t.size (fun m i v wr => ∃ k : Nat, k ≤ t.size ∧ t.size ≤ k + m ∧ i = .int .i64 k ∧ v = .int .i64 (sumTo s t.data.toList k) ∧ w = wr)
  case atStart => exact ⟨0, by omega, by omega, rfl, by rw [H1.out], rfl⟩
  case round =>
   obtain ⟨k, hk, hk2, rfl, rfl, rfl⟩ := hrel
   by_cases hlt : k < t.size
   ·clear hr
    obtain ⟨hra, hrb⟩ := HR.out k (by have := HL.out; omega)
    have hTK := HT.out k (by have := HL.out; omega)
    rw [bs_get t k hlt] at hTK
    have hby : ((t[k]'hlt).toNat : Int) ≤ 255 := by have := UInt8.toNat_lt (t[k]'hlt); omega
    obtain ⟨b, hb⟩ : ∃ b : Nat, (t[k]'hlt).toNat = b := ⟨_, rfl⟩
    rw [hb] at hTK hby
    generalize hq2 : sumTo s t.data.toList (k + 1) = q2 at *
    have HQ := Lib.hid hq2; clear hq2
    generalize sumTo s t.data.toList k = q at *
    have HTK := Lib.hid hTK; clear hTK
    have hwA : wrap64 (b : Int) = b := IntWalk.wrap64_in _ (by omega)
    have hwB : wrap64 (q * 257 + b) = q * 257 + b := IntWalk.wrap64_in _ (by omega)
    have hwC : wrap64 (q * 257 + b + 1) = q * 257 + b + 1 := IntWalk.wrap64_in _ (by omega)
    have hT : (q * 257 + b + 1).tmod 1000003 = q2 := by rw [HTK.out]; exact Int.tmod_eq_emod_of_nonneg (by omega)
    go_wp2_with fail
    go_roundg (gk-1)
    case measure => omega
    case rel => exact ⟨k+1, by omega, by omega, by go_num, by rw [HQ.out], rfl⟩
   ·obtain rfl : k = t.size := by omega
    have HE2 := Lib.hid (show sumTo s t.data.toList t.size = S by rw [← HE.out, HL.out])
    go_wp2_with fail
    go_ret
    exact RP.int HE2.out
set_option maxHeartbeats 1000000 in
set_option maxRecDepth 100000 in
theorem rSum_c (s : Int) (t : ByteArray) (w : World) (hs : (Lit.int .i64 s).wf = true) (ht : t.size ≤ 100000) : Calls Tryz.prog 43 #[.int .i64 s, .string t] w (RP (.int .i64 (sumB s t.data.toList)) w) := by
 obtain ⟨hs1, hs2⟩ := wf_int hs
 obtain ⟨r, hr⟩ : ∃ r, s.tmod 1000003 = r := ⟨_, rfl⟩
 have hz : s % 1000003 = if r < 0 then r + 1000003 else r := by
  have h1 := Int.tmod_eq_emod (a := s) (b := 1000003)
  rw [hr] at h1
  split at h1 <;> split <;> omega
 have hr1 : -1000003 < r ∧ r < 1000003 := by
  have h1 := Int.tmod_eq_emod (a := s) (b := 1000003)
  rw [hr] at h1
  split at h1 <;> omega
 have HT := Lib.hid (fun k (h : k < t.data.toList.length) => sumTo_succ s t.data.toList h)
 have HR := Lib.hid (fun k (h : k ≤ t.data.toList.length) => sumTo_range s t.data.toList k h)
 have HE := Lib.hid (sumTo_all s t.data.toList)
 have H0 := Lib.hid ((sumTo_zero s t.data.toList).trans hz)
 have HL := Lib.hid (bs_size t)
 generalize sumB s t.data.toList = S at *
 have hz2 : (r + 1000003).tmod 1000003 = if r < 0 then r + 1000003 else r := by
  rw [Int.tmod_eq_emod_of_nonneg (by omega)]
  split <;> omega
 have H1 := Lib.hid (H0.out.trans hz2.symm)
 have hw1 : IntKind.i64.wrap (r + 1000003) = r + 1000003 := IntWalk.i64_in _ (by omega)
 clear hz hz2
 generalize hrr : (r + 1000003).tmod 1000003 = rr at *
 go_enter Tryz.func43, Tryz.ntmps43
 go_wp2_with fail
 go_loopg [6, 5] t.size (fun m i v wr => ∃ k : Nat, k ≤ t.size ∧ t.size ≤ k + m ∧ i = .int .i64 k ∧ v = .int .i64 (sumTo s t.data.toList k) ∧ w = wr)
 case atStart => exact ⟨0, by omega, by omega, rfl, by rw [H1.out], rfl⟩
 case round =>
  obtain ⟨k, hk, hk2, rfl, rfl, rfl⟩ := hrel
  by_cases hlt : k < t.size
  ·clear hr hrr
   obtain ⟨hra, hrb⟩ := HR.out k (by have := HL.out; omega)
   have hTK := HT.out k (by have := HL.out; omega)
   rw [bs_get t k hlt] at hTK
   have hby : ((t[k]'hlt).toNat : Int) ≤ 255 := by have := UInt8.toNat_lt (t[k]'hlt); omega
   obtain ⟨b, hb⟩ : ∃ b : Nat, (t[k]'hlt).toNat = b := ⟨_, rfl⟩
   rw [hb] at hTK hby
   generalize hq2 : sumTo s t.data.toList (k + 1) = q2 at *
   have HQ := Lib.hid hq2; clear hq2
   generalize sumTo s t.data.toList k = q at *
   have HTK := Lib.hid hTK; clear hTK
   have hwA : wrap64 (b : Int) = b := IntWalk.wrap64_in _ (by omega)
   have hwB : wrap64 (q * 257 + b) = q * 257 + b := IntWalk.wrap64_in _ (by omega)
   have hwC : wrap64 (q * 257 + b + 1) = q * 257 + b + 1 := IntWalk.wrap64_in _ (by omega)
   have hT : (q * 257 + b + 1).tmod 1000003 = q2 := by rw [HTK.out]; exact Int.tmod_eq_emod_of_nonneg (by omega)
   go_wp2_with fail
   go_roundg (gk-1)
   case measure => omega
   case rel => exact ⟨k+1, by omega, by omega, by go_num, by rw [HQ.out], rfl⟩
  ·obtain rfl : k = t.size := by omega
   have HE2 := Lib.hid (show sumTo s t.data.toList t.size = S by rw [← HE.out, HL.out])
   go_wp2_with fail
   go_ret
   exact RP.int HE2.out
set_option maxHeartbeats 1000000 in
set_option maxRecDepth 100000 in
theorem Right_c (t : ByteArray) (w : World) (ht : t.size ≤ 100000) : Calls Tryz.prog 81 #[.string t] w (RP (.bool (rightB t.data.toList)) w) := by
 have HL := Lib.hid (bs_size t)
 have HR : Hid ((rightB t.data.toList = true ↔ (1 ≤ t.size ∧ t.size ≤ 30 ∧ ∀ j (h : j < t.size), t[j].toNat ≠ 10))) := Lib.hid (by
  rw [rightB_iff, ← HL.out]
  refine and_congr Iff.rfl (and_congr Iff.rfl ⟨fun h j hj e => h ?_, fun h hm => ?_⟩)
  ·have : t[j] = 10 := by apply UInt8.toNat_inj.1; rw [e]; rfl
   rw [← this, ← bs_get t j hj (by have := HL.out; omega)]
   exact List.getElem_mem _
  ·obtain ⟨j, hj, he⟩ := List.mem_iff_getElem.1 hm
   have hj' : j < t.size := by have := HL.out; omega
   refine h j hj' ?_
   rw [← bs_get t j hj' hj, he]; rfl)
 generalize rightB t.data.toList = R at *
 go_enter Tryz.func81, Tryz.ntmps81
 go_wp2_with fail
 go_loopg [3] t.size (fun m i wr => ∃ k : Nat, k ≤ t.size ∧ t.size ≤ k + m ∧ i = .int .i64 k ∧ w = wr ∧ Hid (∀ j (h : j < t.size), j < k → t[j].toNat ≠ 10))
 case atStart => exact ⟨0, by omega, by omega, rfl, rfl, fun j _ hj => by omega⟩
 case round =>
  obtain ⟨k, hk, hk2, rfl, rfl, hE⟩ := hrel
  by_cases hlt : k < t.size
  ·obtain ⟨b, hb⟩ : ∃ b : Nat, (t[k]'hlt).toNat = b := ⟨_, rfl⟩
   by_cases hbe : b = 10
   ·have HF := Lib.hid (show false = R by
     cases R
     ·rfl
     ·exact absurd (hb.trans hbe) ((HR.out.1 rfl).2.2 k hlt))
    subst hbe
    go_wp2_with fail
    go_ret
    exact RP.bool HF.out
   ·have hd : ((b : Int) == 10) = false := by simp; omega
    have HB := Lib.hid hbe; clear hbe
    have HBB := Lib.hid hb
    go_wp2_with fail
    go_roundg (gk-1)
    case measure => omega
    case rel => exact ⟨k+1, by omega, by omega, by go_num, rfl, fun j h hj => by
     by_cases e : j = k
     ·subst e; rw [HBB.out]; exact HB.out
     ·exact hE.out j h (by omega)⟩
  ·have HT := Lib.hid (show (decide (1 ≤ t.size) && decide (t.size ≤ 30)) = R by
    rw [Bool.eq_iff_iff, HR.out, Bool.and_eq_true, decide_eq_true_eq, decide_eq_true_eq]
    exact ⟨fun h => ⟨h.1, h.2, fun j hj => hE.out j hj (by omega)⟩, fun h => ⟨h.1, h.2.1⟩⟩)
   by_cases h1 : 1 ≤ t.size
   ·go_wp2_with fail
    go_ret
    exact RP.bool (by rw [← HT.out, Bool.eq_iff_iff]; simp [h1] <;> omega)
   ·go_wp2_with fail
    go_ret
    exact RP.bool (by rw [← HT.out, Bool.eq_iff_iff]; simp [h1] <;> omega)
end Go.Proofs.YtpmlcfgbfhgpgaaGreatDoor
/- (*strings.Builder).copyCheck and WriteString, as the program at hand bears them. -/
namespace Go.Proofs.YtpmlcfgbfhgpgaaGreatDoor
open Go.RowKit Go.Shelf
set_option linter.unusedVariables false
theorem szBuilder : (Tryz.prog.info? 175).map (·.size) = some 2 := by kernel_rfl
theorem liesBuilder : liesAt Tryz.prog Tryz.prog.depth 175 (2 / Tryz.prog.cellsOf 175) 0 175 1 = true := by kernel_rfl
set_option maxHeartbeats 1000000 in
set_option maxRecDepth 100000 in
theorem copyCheck_used (b : Nat) (w : World) (h0 : w.cell? ⟨b, 0, none⟩ = some (.pointer (some ⟨b, 0, none⟩))) :
  Calls Tryz.prog 169 #[.pointer (some ⟨b, 0, none⟩)] w fun e w' => e = .returned (.tuple #[]) ∧ w' = w := by
 obtain ⟨j, hj, _⟩ := Option.map_eq_some_iff.1 szBuilder
 go_enter Tryz.func169, Tryz.ntmps169
 go_wp2
 rw [Lib.run_neq_ptr_same w _ Tryz.underlying172 hj]
 go_wp2
 go_end0
 exact ⟨rfl, rfl⟩
set_option maxHeartbeats 1000000 in
set_option maxRecDepth 100000 in
theorem copyCheck_fresh (b : Nat) (w : World) (h0 : w.cell? ⟨b, 0, none⟩ = some (.pointer none)) (hsh : w.shape? b = some (175, 2)) (hfz : w.frozen? ⟨b, 0, none⟩ = false) :
  Calls Tryz.prog 169 #[.pointer (some ⟨b, 0, none⟩)] w fun e w' => e = .returned (.tuple #[]) ∧ w' = w.setCell ⟨b, 0, none⟩ (.pointer (some ⟨b, 0, none⟩)) := by
 obtain ⟨j, hj, hjs⟩ := Option.map_eq_some_iff.1 szBuilder
 go_enter Tryz.func169, Tryz.ntmps169
 go_wp2
 rw [Lib.run_to_unsafe w ⟨b, 0, none⟩ Tryz.underlying172 Tryz.underlying190 hj (by rw [hjs]; decide) hsh (Nat.zero_lt_succ 1)]
 simp only [Result.andThen]
 rw [Oper.upon_value]
 go_wp2
 rw [run_callFunc_extern Tryz.func201 (by kernel_rfl) (by kernel_rfl) (by kernel_rfl) (e := Extern.AbiNoEscape.same) (by kernel_rfl)]
 rw [Lib.run_noEscape]
 simp only [Result.andThen]
 rw [Oper.upon_value]
 go_wp2
 rw [Lib.run_from_unsafe w ⟨b, 0, none⟩ Tryz.underlying190 Tryz.underlying172 hj hsh liesBuilder]
 simp only [Result.andThen]
 rw [Oper.upon_value]
 go_wp2
 go_end0
 exact ⟨rfl, rfl⟩
theorem copyCheck_c (B b : Nat) (bs : List Value) (w : World) (h : Lib.IsBuilder 175 5 B b bs w) :
  Calls Tryz.prog 169 #[.pointer (some ⟨b, 0, none⟩)] w fun e w' => e = .returned (.tuple #[]) ∧ (Lib.BuilderAt 175 5 B b (.pointer (some ⟨b, 0, none⟩)) bs w' ∧ Below B w w') := by
 rcases h with h | h
 ·refine (copyCheck_fresh b w h.cell0 h.shape h.frozen0).mono ?_
  rintro e w' ⟨rfl, rfl⟩
  exact ⟨rfl, h.used _, (Below.refl B w).setCell (p := ⟨b, 0, none⟩) h.1 _⟩
 ·refine (copyCheck_used b w h.cell0).mono ?_
  rintro e w' ⟨rfl, rfl⟩
  exact ⟨rfl, h, Below.refl B _⟩
set_option maxHeartbeats 2000000 in
set_option maxRecDepth 100000 in
theorem WriteString_c (B b : Nat) (bs : List Value) (s : ByteArray) (w : World) (h : Lib.IsBuilder 175 5 B b bs w) (hlen : bs.length + s.size ≤ 140737488355328) (hBw : B ≤ w.heap.size) :
  Calls Tryz.prog 118 #[.pointer (some ⟨b, 0, none⟩), .string s] w fun e w' => e = .returned (.tuple #[.int .i64 s.size, .nilIface]) ∧ (Lib.BuilderAt 175 5 B b (.pointer (some ⟨b, 0, none⟩)) (bs ++ Lib.strCells s) w' ∧ Below B w w') := by
 obtain ⟨i0, hi, hz0, hz1, hz2⟩ := info_parts (show (Tryz.prog.info? 5).map (fun i => (i.zero, i.size, i.bytes)) = some (some (.int .u8 0), 1, 1) by rfl)
 go_enter Tryz.func118, Tryz.ntmps118
 go_wp2_with fail
 refine (copyCheck_c B b bs _ h).mono ?_
 rintro e w1 ⟨rfl, h1, hb1⟩
 obtain ⟨hB, v, hbk, hown, hne⟩ := h1
 have c0 : w1.cell? ⟨b, 0, none⟩ = some (.pointer (some ⟨b, 0, none⟩)) := by rw [Lib.cell_of_heap hbk]; rfl
 have c1 : w1.cell? ⟨b, 1, none⟩ = some v := by rw [Lib.cell_of_heap hbk]; rfl
 go_wp2_with (at_builtin; refine Lib.wpList_append_own_string _ rfl _ _ 173 9 rfl B 5 i0 Tryz.underlying173 Tryz.underlying9 hi hz0 hz1 hz2 _ _ _ rfl hown s rfl ?c3 ?c4 ?c5 ?_)
 case c3 => unfold maxLen; omega
 case c4 => omega
 case c5 => have := hb1.size; omega
 intro v' w2 hown' hgrow _
 have hlt : b < w1.heap.size := by
  rcases Nat.lt_or_ge b w1.heap.size with h' | h'
  ·exact h'
  ·simp [Array.getElem?_eq_none h'] at hbk
 have hb2 : w2.heap[b]? = some (.cells #[.pointer (some ⟨b, 0, none⟩), v] 175 (0, 0)) := by
  rw [hgrow.block b hlt (fun e => hne e.symm)]
  exact hbk
 have d0 : w2.cell? ⟨b, 0, none⟩ = some (.pointer (some ⟨b, 0, none⟩)) := by rw [Lib.cell_of_heap hb2]; rfl
 have d1 : w2.cell? ⟨b, 1, none⟩ = some v := by rw [Lib.cell_of_heap hb2]; rfl
 have f1 : w2.frozen? ⟨b, 1, none⟩ = false := Lib.frozen_of_heap hb2 1
 obtain ⟨ao, n', cap, rfl⟩ : ∃ ao n' cap, v' = .slice ao n' cap := by
  rcases hown'.2 with ⟨hv, _⟩ | ⟨g, cap, cur, hv, _⟩
  ·exact ⟨_, _, _, hv⟩
  ·exact ⟨_, _, _, hv⟩
 go_wp2
 go_ret2
 refine ⟨rfl, ?_, ?_⟩
 ·exact Lib.BuilderAt.put (T := 175) (e := 5) hB hb2 (bs' := bs ++ Lib.strCells s) (by simpa [Lib.strCells_length] using hown') (by decide)
 ·exact (hb1.grown hgrow (by have := hb1.size; omega) (fun k hk => (hown.lt k hk).1)).setCell (p := ⟨b, 1, none⟩) hB _
end Go.Proofs.YtpmlcfgbfhgpgaaGreatDoor
/- Lines of a book: the program's. -/
namespace Go.Proofs.YtpmlcfgbfhgpgaaGreatDoor
open Go.RowKit Go.Shelf
set_option linter.unusedVariables false
structure Env (w : World) : Prop where
 tab : Lib.TabIs Tryz.prog w "internal/strconv.uint64pow10" .u64 Lib.pow10Tab
 syn : ∃ t p, w.cell? ⟨3, 0, none⟩ = some (.iface t p)
 rng : ∃ t p, w.cell? ⟨4, 0, none⟩ = some (.iface t p)
theorem tab_ext {w w' : World} (h : Lib.TabIs Tryz.prog w "internal/strconv.uint64pow10" .u64 Lib.pow10Tab) (hx : Ext w w') : Lib.TabIs Tryz.prog w' "internal/strconv.uint64pow10" .u64 Lib.pow10Tab := by
 unfold Lib.TabIs World.var? at *
 cases hg : Tryz.prog.globalNamed "internal/strconv.uint64pow10" with
 | none => rw [hg] at h; cases h
 | some g =>
  rw [hg] at h
  simp only [Option.bind_some] at h ⊢
  rcases Nat.lt_or_ge g w.heap.size with hl | hl
  ·rw [hx.block g hl]; exact h
  ·rw [Array.getElem?_eq_none hl] at h; cases h
theorem Env.ext {w w' : World} (h : Env w) (hx : Ext w w') : Env w' := by
 obtain ⟨h1, ⟨t, p, h2⟩, ⟨t2, p2, h3⟩⟩ := h
 exact ⟨tab_ext h1 hx, ⟨t, p, hx.keep h2⟩, ⟨t2, p2, hx.keep h3⟩⟩
theorem Itoa_c (n : Int) (w : World) (hE : Env w) (h0 : -9223372036854775808 ≤ n) (h1 : n ≤ 9223372036854775807) : Calls Tryz.prog 82 #[.int .i64 n] w (RV (.string ⟨(Lib.itoa n).toArray⟩) w) :=
 (Tryz.strconv_Itoa n h0 h1 w hE.tab).mono fun e w' ⟨he, k, os, hw⟩ => ⟨he, by rw [hw]; exact Lib.below_grow _ _ (Nat.le_refl _) k os⟩
theorem indexByte_has (l : List UInt8) (c : UInt8) : decide (0 ≤ Lib.indexByte l c) = l.contains c := by
 induction l with
 | nil => simp [Lib.indexByte]
 | cons b l ih =>
  have hge := Lib.indexByte_ge l c
  rw [Lib.indexByte, List.contains_cons]
  by_cases e : b = c
  ·subst e; simp
  ·have e1 : (b == c) = false := by simpa using e
   have e2 : (c == b) = false := by simp; exact fun h => e h.symm
   rw [e1, e2, Bool.false_or, ← ih]
   simp only [Bool.false_eq_true, if_false]
   split
   ·rename_i h; have h : Lib.indexByte l c = -1 := by simpa using h
    rw [h]
   ·rename_i h; have h : Lib.indexByte l c ≠ -1 := by simpa using h
    rw [Bool.eq_iff_iff]; simp; omega
set_option maxHeartbeats 1000000 in
set_option maxRecDepth 100000 in
theorem isText_c (t : ByteArray) (w : World) : Calls Tryz.prog 79 #[.string t] w (RP (.bool (rightB t.data.toList)) w) := by
 have HL := Lib.hid (bs_size t)
 have HR : Hid (rightB t.data.toList = (decide (1 ≤ t.size) && (decide (t.size ≤ 30) && !t.data.toList.contains 10))) := Lib.hid (by rw [rightB, HL.out])
 have HC := Lib.hid (Tryz.strings_Contains_one t 10 w)
 rw [indexByte_has] at HC
 generalize t.data.toList.contains 10 = C at *
 generalize rightB t.data.toList = R at *
 by_cases h1 : 1 ≤ t.size
 ·by_cases h30 : t.size ≤ 30
  ·go_enter Tryz.func79, Tryz.ntmps79
   go_wp2_with fail
   refine HC.out.mono ?_; rintro e w1 ⟨rfl, rfl⟩
   go_wp2_with fail
   go_ret
   exact RP.bool (by rw [HR.out]; simp [h1, h30])
  ·go_enter Tryz.func79, Tryz.ntmps79
   go_wp2_with fail
   go_ret
   exact RP.bool (by rw [HR.out]; simp [h1, h30])
 ·go_enter Tryz.func79, Tryz.ntmps79
  go_wp2_with fail
  go_ret
  exact RP.bool (by rw [HR.out]; simp [h1])
theorem decDigits_len : ∀ (k n : Nat), n < 10 ^ (k + 1) → (Lib.decDigits n).length ≤ k + 1 := by
 intro k
 induction k with
 | zero =>
  intro n h
  rw [Lib.decDigits, dif_pos (by simpa using h)]; simp
 | succ k ih =>
  intro n h
  rw [Lib.decDigits]
  split
  ·simp
  ·rw [List.length_append]
   have := ih (n / 10) (by rw [Nat.div_lt_iff_lt_mul (by omega)]; rw [Nat.pow_succ] at h; exact h)
   simp; omega
theorem itoa_len {n : Int} (h0 : 0 ≤ n) (h1 : n < 1000003) : (Lib.itoa n).length ≤ 7 := by
 unfold Lib.itoa
 rw [if_neg (by omega)]
 exact decDigits_len 6 _ (by omega)
theorem line_str (s : Int) (t : ByteArray) : (⟨(Lib.itoa (sumB s t.data.toList)).toArray⟩ ++ ⟨#[32]⟩ ++ t ++ ⟨#[10]⟩ : ByteArray) = ⟨(lineB s t.data.toList).toArray⟩ := by
 apply ByteArray.ext
 simp [lineB, ByteArray.data_append]
set_option maxHeartbeats 1000000 in
set_option maxRecDepth 100000 in
theorem line_c (s : Int) (t : ByteArray) (w : World) (hE : Env w) (hs : (Lit.int .i64 s).wf = true) (ht : t.size ≤ 100000) :
  Calls Tryz.prog 80 #[.int .i64 s, .string t] w (RV (.tuple #[.string ⟨(lineB s t.data.toList).toArray⟩, .int .i64 (sumB s t.data.toList)]) w) := by
 have HS := Lib.hid (Sum_c s t w hs ht)
 have hr := sumB_range s t.data.toList
 have HI := Lib.hid (Itoa_c (sumB s t.data.toList) w hE (by omega) (by omega))
 have HLS := Lib.hid (line_str s t)
 generalize (lineB s t.data.toList) = LB at *
 generalize sumB s t.data.toList = S at *
 have hIl := itoa_len hr.1 hr.2
 generalize Lib.itoa S = I at *
 go_enter Tryz.func80, Tryz.ntmps80
 go_wp2_with fail
 refine HS.out.mono ?_; rintro e w1 ⟨rfl, rfl⟩
 go_wp2_with fail
 refine HI.out.mono ?_; rintro e w2 ⟨rfl, hx2⟩
 go_wp2_with fail
 go_ret2
 exact ⟨congrArg (fun x => Ending.returned (.tuple #[.string x, .int .i64 S])) HLS.out, hx2⟩
end Go.Proofs.YtpmlcfgbfhgpgaaGreatDoor
/- Books of orders: write and Write of the program, Text and Write of the reference. -/
namespace Go.Proofs.YtpmlcfgbfhgpgaaGreatDoor
open Go.RowKit Go.Shelf
set_option linter.unusedVariables false
def encT (t : ByteArray) : List Value := [.string t]
theorem encT_len (t : ByteArray) : (encT t).length = 1 := rfl
abbrev Strs (w : World) (v : Value) (L : List ByteArray) : Prop := Cel encT 1 w v L
abbrev OStrs (w : World) (B : Nat) (v : Value) (L : List ByteArray) : Prop := OCel encT 1 9 w B v L
theorem elStr : ElTy Tryz.prog 23 9 1 16 (.string ⟨#[]⟩) := ⟨Tryz.underlying23, by kernel_rfl, rfl, by omega⟩
def txt (t : ByteArray) : Bs := t.data.toList
def bookB (L : List ByteArray) : Bs := textF 0 (L.map txt)
theorem Strs.at_ {w : World} {v : Value} {L : List ByteArray} (h : Strs w v L) : ∃ (a : Option Addr) (cap : Nat), v = .slice a L.length cap ∧ L.length ≤ cap ∧ cap ≤ 9223372036854775807 ∧
  Hid (∀ i (hi : i < L.length), ∃ b o, a = some ⟨b, o, none⟩ ∧ w.cell? ⟨b, o + i, none⟩ = some (.string L[i])) := by
 obtain ⟨a, c, hv, h1, h2, H⟩ := h.open_
 refine ⟨a, c, hv, h1, h2, Lib.hid fun i hi => ?_⟩
 obtain ⟨b, o, ha, hc⟩ := H.out i L[i] (List.getElem?_eq_getElem hi)
 refine ⟨b, o, ha, ?_⟩
 have := hc 0 _ rfl
 rwa [Nat.mul_one, Nat.add_zero] at this
theorem book_snoc (L : List ByteArray) (k : Nat) (hk : k < L.length) : textF 0 ((L.take (k + 1)).map txt) = textF 0 ((L.take k).map txt) ++ lineB (sumsF 0 ((L.take k).map txt)) (txt L[k]) ∧ sumsF 0 ((L.take (k + 1)).map txt) = sumB (sumsF 0 ((L.take k).map txt)) (txt L[k]) := by
 rw [List.take_add_one, List.getElem?_eq_getElem hk, Option.toList_some, List.map_append, textF_append, sumsF_append]
 exact ⟨by simp [textF], rfl⟩
theorem sumsF_range : ∀ (L : List Bs) (s : Int), 0 ≤ s → s < 1000003 → 0 ≤ sumsF s L ∧ sumsF s L < 1000003 := by
 intro L
 induction L with
 | nil => intro s h1 h2; exact ⟨h1, h2⟩
 | cons t L ih => intro s _ _; exact ih _ (sumB_range s t).1 (sumB_range s t).2
theorem lineB_len (s : Int) (t : Bs) : (lineB s t).length ≤ t.length + 9 := by
 have hr := sumB_range s t
 have := itoa_len hr.1 hr.2
 simp [lineB]; omega
theorem textF_len : ∀ (L : List Bs) (s : Int) (m : Nat), (∀ t ∈ L, t.length ≤ m) → (textF s L).length ≤ L.length * (m + 9) := by
 intro L
 induction L with
 | nil => intro s m _; simp [textF]
 | cons t L ih =>
  intro s m h
  have h1 := lineB_len s t
  have h2 := ih (sumB s t) m (fun x hx => h x (by simp [hx]))
  have h3 := h t (by simp)
  rw [textF, List.length_append, List.length_cons, Nat.succ_mul]; omega
theorem txt_size (t : ByteArray) : (txt t).length = t.size := (bs_size t).symm
theorem book_len {L : List ByteArray} (hm : ∀ t ∈ L, t.size ≤ 100000) (hn : L.length ≤ 1000) (k : Nat) : (textF 0 ((L.take k).map txt)).length ≤ 100009000 := by
 have := textF_len ((L.take k).map txt) 0 100000 (fun t ht => by
  obtain ⟨x, hx, rfl⟩ := List.mem_map.1 ht
  rw [txt_size]; exact hm x (List.mem_of_mem_take hx))
 rw [List.length_map, List.length_take] at this
 have h2 : min k L.length * (100000 + 9) ≤ 1000 * (100000 + 9) := Nat.mul_le_mul_right _ (by omega)
 omega
theorem isB_ext {T e : TypeId} {B b : Nat} {bs : List Value} {w w' : World} (h : Lib.IsBuilder T e B b bs w) (hx : Ext w w') : Lib.IsBuilder T e B b bs w' := by
 have one : ∀ p, Lib.BuilderAt T e B b p bs w → Lib.BuilderAt T e B b p bs w' := fun p ⟨hB, v, hb, ho, hn⟩ =>
  ⟨hB, v, (hx.block b (Array.getElem?_eq_some_iff.1 hb).1).trans hb, ownsRow_ext ho hx, hn⟩
 exact h.elim (fun h => .inl (one _ h)) (fun h => .inr (one _ h))
theorem bs_eq (l : Bs) : txt ⟨l.toArray⟩ = l := by simp [txt]
set_option maxHeartbeats 2000000 in
set_option maxRecDepth 100000 in
theorem write_c (v : Value) (L : List ByteArray) (w : World) (h : Strs w v L) (hE : Env w) (hm : ∀ t ∈ L, t.size ≤ 100000) (hn : L.length ≤ 1000) :
  Calls Tryz.prog 77 #[v] w (RV (.string ⟨(bookB L).toArray⟩) w) := by
 obtain ⟨a, c, rfl, h1, h2, H⟩ := h.at_
 clear h
 have HE := Lib.hid hE; clear hE
 have HM := Lib.hid hm
 have HBL := Lib.hid (fun k => book_len hm hn k)
 clear hm
 obtain ⟨wA, hwA⟩ : ∃ wA, wA = w.alloc (.cells #[.pointer none, .slice none 0 0] 175) := ⟨_, rfl⟩
 have hEA : Ext w wA := by rw [hwA]; exact Ext.alloc _ _
 have hIB : Lib.IsBuilder 175 5 w.heap.size w.heap.size [] wA := .inl ⟨Nat.le_refl _, .slice none 0 0, by rw [hwA]; exact World.alloc_heap_new w _, World.ownsRow_nil _ _ _ _, by simp [Value.ownBlock]⟩
 have HWA := Lib.hid hwA; clear hwA
 go_enter Tryz.func77, Tryz.ntmps77
 go_upto_region 2 with fail
 rw [← HWA.out]
 generalize hg : w.heap.size = g at *
 go_wp2_with fail
 go_loopg [11, 4] L.length (fun m i q wr => ∃ k : Nat, k ≤ L.length ∧ L.length ≤ k + m ∧ i = .int .i64 k ∧ q = .int .i64 (sumsF 0 ((L.take k).map txt)) ∧ Ext w wr ∧ Hid (Lib.IsBuilder 175 5 g g (Lib.byteCells (textF 0 ((L.take k).map txt))) wr))
 case atStart => exact ⟨0, by omega, by omega, rfl, rfl, hEA, Lib.hid hIB⟩
 case round =>
  obtain ⟨k, hk, hk2, rfl, rfl, hB, hI⟩ := hrel
  by_cases hlt : k < L.length
  ·obtain ⟨b, o, rfl, hc⟩ := H.out k hlt
   replace hc := hB.keep hc
   have hts := HM.out L[k] (List.getElem_mem hlt)
   have HBS := Lib.hid (book_snoc L k hlt)
   have hsr := sumsF_range ((L.take k).map txt) 0 (by omega) (by omega)
   have hbl := HBL.out k
   have hll := lineB_len (sumsF 0 ((L.take k).map txt)) (txt L[k])
   rw [txt_size] at hll
   generalize L[k] = t at *
   generalize sumsF 0 ((L.take k).map txt) = s at *
   generalize textF 0 ((L.take k).map txt) = X at *
   have HLC := Lib.hid (line_c s t wr (HE.out.ext hB) (wf_mk (by omega)) hts)
   rw [show t.data.toList = txt t from rfl] at HLC
   have HLS : Hid (Lib.strCells ⟨(lineB s (txt t)).toArray⟩ = Lib.byteCells (lineB s (txt t))) := Lib.hid rfl
   have hsz : (⟨(lineB s (txt t)).toArray⟩ : ByteArray).size = (lineB s (txt t)).length := by rw [bs_size]
   generalize lineB s (txt t) = LB at *
   generalize sumB s (txt t) = s2 at *
   go_wp2_with fail
   refine HLC.out.mono ?_; rintro e w1 ⟨rfl, hx1⟩
   have hI1 : Lib.IsBuilder 175 5 g g (Lib.byteCells X) w1 := isB_ext hI.out hx1
   go_wp2_with fail
   refine (WriteString_c g g _ ⟨LB.toArray⟩ w1 hI1 (by rw [Lib.byteCells_length, hsz]; omega) (by rw [← hg]; exact (hB.trans hx1).size)).mono ?_; rintro e w2 ⟨rfl, hI2, hb2⟩
   have hx2 : Ext w w2 := by have := hB.trans hx1; refine this.upto (B := g) hb2 (by omega)
   go_wp2_with fail
   go_roundg (gk-1)
   case measure => omega
   case rel => exact ⟨k+1, by omega, by omega, by go_num, by rw [HBS.out.2], hx2, Lib.hid (.inr (by rw [HBS.out.1, Lib.byteCells_append, ← HLS.out]; exact hI2))⟩
  ·obtain rfl : k = L.length := by omega
   have hI := hI.out
   rw [List.take_length] at hI
   go_wp2_with fail
   refine (Tryz.Builder_String_any g g _ wr hI (by rw [← hg]; exact hB.size)).mono ?_; rintro e w2 ⟨rfl, hb2⟩
   go_wp2_with fail
   go_ret
   exact ⟨rfl, hB.upto (B := g) hb2 (by omega)⟩
def rightA (L : List ByteArray) : Bool := allB L.length fun i => rightB (txt (L[i]?.getD ⟨#[]⟩))
def writeK (L : List ByteArray) : Int := if 100 < L.length then 3 else if rightA L then 0 else 1
def writeB (L : List ByteArray) : Bs := if writeK L = 0 then bookB L else []
theorem rightA_iff {L : List ByteArray} : rightA L = true ↔ ∀ t ∈ L, rightB (txt t) = true := by
 unfold rightA allB
 rw [List.all_eq_true]
 constructor
 ·intro h t ht
  obtain ⟨i, hi, rfl⟩ := List.mem_iff_getElem.1 ht
  have := h i (by simpa using hi)
  simpa [hi] using this
 ·intro h i hi
  have hi : i < L.length := by simpa using hi
  rw [List.getElem?_eq_getElem hi]
  exact h _ (List.getElem_mem hi)
theorem writeK_ok {L : List ByteArray} (hn : ¬ 100 < L.length) (h : ∀ j, j < L.length → rightB (txt (L[j]?.getD ⟨#[]⟩)) = true) : writeK L = 0 := by
 rw [writeK, if_neg hn, if_pos (show rightA L = true from allB_true h)]
theorem writeK_bad {L : List ByteArray} (hn : ¬ 100 < L.length) {k : Nat} (hk : k < L.length) (h : rightB (txt (L[k]?.getD ⟨#[]⟩)) = false) : writeK L = 1 := by
 rw [writeK, if_neg hn, if_neg (by rw [rightA, allB_false hk h]; simp)]
theorem right_size {L : List ByteArray} (h : ∀ j, j < L.length → rightB (txt (L[j]?.getD ⟨#[]⟩)) = true) : ∀ t ∈ L, t.size ≤ 100000 := by
 intro t ht
 have := (rightB_iff.1 (rightA_iff.1 (allB_true h) t ht)).2.1
 rw [txt_size] at this; omega
set_option maxHeartbeats 2000000 in
set_option maxRecDepth 100000 in
theorem Write_c (v : Value) (L : List ByteArray) (w : World) (h : Strs w v L) (hE : Env w) :
  Calls Tryz.prog 44 #[v] w (RV (.tuple #[.string ⟨(writeB L).toArray⟩, .int .i64 (writeK L)]) w) := by
 have HH := Lib.hid h
 obtain ⟨a, c, rfl, h1, h2, H⟩ := h.at_
 clear h
 have HE := Lib.hid hE; clear hE
 have HK := Lib.hid (writeB.eq_1 L)
 by_cases hn : 100 < L.length
 ·have HK3 := Lib.hid (show writeK L = 3 by rw [writeK, if_pos hn])
  rw [HK.out, HK3.out, if_neg (by decide)]
  go_enter Tryz.func44, Tryz.ntmps44
  go_wp2_with fail
  go_ret2
  exact ⟨rfl, Ext.refl _⟩
 ·go_enter Tryz.func44, Tryz.ntmps44
  go_wp2_with fail
  go_loopg [11] L.length (fun m i wr => ∃ k : Nat, k ≤ L.length ∧ L.length ≤ k + m ∧ i = .int .i64 k ∧ w = wr ∧ Hid (∀ j, j < k → rightB (txt (L[j]?.getD ⟨#[]⟩)) = true))
  case atStart => exact ⟨0, by omega, by omega, rfl, rfl, fun j hj => by omega⟩
  case round =>
   obtain ⟨k, hk, hk2, rfl, rfl, hEE⟩ := hrel
   by_cases hlt : k < L.length
   ·obtain ⟨b, o, rfl, hc⟩ := H.out k hlt
    have hge : L[k]?.getD ⟨#[]⟩ = L[k] := by simp [hlt]
    have HBAD := Lib.hid (fun h => writeK_bad hn hlt h)
    rw [hge] at HBAD
    generalize ht : L[k] = t at *
    have HT := Lib.hid hge; clear hge ht
    have HTX := Lib.hid (isText_c t w)
    rw [show t.data.toList = txt t from rfl] at HTX
    generalize hr : rightB (txt t) = R at *
    have HR := Lib.hid hr; clear hr
    cases R
    ·have HK1 := Lib.hid (HBAD.out rfl)
     go_wp2_with fail
     refine HTX.out.mono ?_; rintro e w1 ⟨rfl, rfl⟩
     go_wp2_with fail
     go_ret2
     exact ⟨by rw [HK.out, HK1.out, if_neg (by decide)]; rfl, Ext.refl _⟩
    ·go_wp2_with fail
     refine HTX.out.mono ?_; rintro e w1 ⟨rfl, rfl⟩
     go_wp2_with fail
     go_roundg (gk-1)
     case measure => omega
     case rel => exact ⟨k+1, by omega, by omega, by go_num, rfl, fun j hj => by
      by_cases e : j = k
      ·subst e; rw [HT.out]; exact HR.out
      ·exact hEE.out j (by omega)⟩
   ·have HK0 := Lib.hid (writeK_ok hn fun j hj => hEE.out j (by omega))
    have HWR := Lib.hid (write_c _ L w HH.out HE.out (right_size fun j hj => hEE.out j (by omega)) (by omega))
    go_wp2_with fail
    refine HWR.out.mono ?_; rintro e w1 ⟨rfl, hx1⟩
    go_wp2_with fail
    go_ret2
    exact ⟨by rw [HK.out, HK0.out, if_pos rfl]; rfl, hx1⟩
end Go.Proofs.YtpmlcfgbfhgpgaaGreatDoor
/- Books of orders: Text and Write of the reference. -/
namespace Go.Proofs.YtpmlcfgbfhgpgaaGreatDoor
open Go.RowKit Go.Shelf
set_option linter.unusedVariables false
theorem line_str2 (s : Int) (t : ByteArray) (X : Bs) : (⟨X.toArray⟩ ++ (⟨(Lib.itoa (sumB s (txt t))).toArray⟩ ++ ⟨#[32]⟩ ++ t ++ ⟨#[10]⟩) : ByteArray) = ⟨(X ++ lineB s (txt t)).toArray⟩ := by
 apply ByteArray.ext
 simp [lineB, ByteArray.data_append, txt]
set_option maxHeartbeats 2000000 in
set_option maxRecDepth 100000 in
theorem rText_c (v : Value) (L : List ByteArray) (w : World) (h : Strs w v L) (hE : Env w) (hm : ∀ t ∈ L, t.size ≤ 100000) (hn : L.length ≤ 1000) :
  Calls Tryz.prog 56 #[v] w (RV (.string ⟨(bookB L).toArray⟩) w) := by
 obtain ⟨a, c, rfl, h1, h2, H⟩ := h.at_
 clear h
 have HE := Lib.hid hE; clear hE
 have HM := Lib.hid hm
 have HBL := Lib.hid (fun k => book_len hm hn k)
 clear hm
 go_enter Tryz.func56, Tryz.ntmps56
 go_wp2_with fail
 go_loopg [5, 3, 4] L.length (fun m i o q wr => ∃ k : Nat, k ≤ L.length ∧ L.length ≤ k + m ∧ i = .int .i64 k ∧ o = .string ⟨(textF 0 ((L.take k).map txt)).toArray⟩ ∧ q = .int .i64 (sumsF 0 ((L.take k).map txt)) ∧ Ext w wr)
 case atStart => exact ⟨0, by omega, by omega, rfl, rfl, rfl, Ext.refl _⟩
 case round =>
  obtain ⟨k, hk, hk2, rfl, rfl, rfl, hB⟩ := hrel
  by_cases hlt : k < L.length
  ·obtain ⟨b, o, rfl, hc⟩ := H.out k hlt
   replace hc := hB.keep hc
   have hts := HM.out L[k] (List.getElem_mem hlt)
   have HBS := Lib.hid (book_snoc L k hlt)
   have hsr := sumsF_range ((L.take k).map txt) 0 (by omega) (by omega)
   have hbl := HBL.out k
   generalize L[k] = t at *
   generalize sumsF 0 ((L.take k).map txt) = s at *
   generalize textF 0 ((L.take k).map txt) = X at *
   have HSU := Lib.hid (rSum_c s t wr (wf_mk (by omega)) hts)
   rw [show t.data.toList = txt t from rfl] at HSU
   have hr2 := sumB_range s (txt t)
   have hIl := itoa_len hr2.1 hr2.2
   have HLS := Lib.hid (line_str2 s t X)
   have HIT := Lib.hid (fun q : Later wr => Itoa_c (sumB s (txt t)) q.w (HE.out.ext (hB.trans q.ext)) (by omega) (by omega))
   have hcs : ∀ q : Later wr, q.w.cell? ⟨b, o + k, none⟩ = some (.string t) := fun q => q.ext.keep hc
   have HBS1 := Lib.hid HBS.out.1
   have HBS2 := Lib.hid HBS.out.2
   clear HBS
   generalize lineB s (txt t) = LB at *
   generalize sumB s (txt t) = s2 at *
   generalize Lib.itoa s2 = I at *
   go_wp2_with fail
   refine HSU.out.mono ?_; rintro e w1 ⟨rfl, rfl⟩
   go_wp2_with fail
   refine wp_region_later (by kernel_rfl) (by kernel_rfl) ?_
   repeat (go_big_quiet_step (first | (go_at_call 82; first | with_reducible exact Later.call (HIT.out _))))
   refine wpQuiet_nil ?_
   intro w5 hw'
   obtain ⟨⟨_, hx5⟩, rfl⟩ := hw'
   go_wp2_with fail
   go_roundg (gk-1)
   case measure => omega
   case rel => exact ⟨k+1, by omega, by omega, by go_num, by rw [HBS1.out, ← HLS.out], by rw [HBS2.out], hB.trans hx5⟩
  ·obtain rfl : k = L.length := by omega
   rw [List.take_length]
   go_wp2_with fail
   go_ret
   exact ⟨rfl, hB⟩
end Go.Proofs.YtpmlcfgbfhgpgaaGreatDoor
/- strings.Cut at one byte. -/
namespace Go.Proofs.YtpmlcfgbfhgpgaaGreatDoor
open Go.RowKit Go.Shelf
set_option linter.unusedVariables false
def cutA (l : Bs) (c : UInt8) : Bs := l.takeWhile (· != c)
def cutR (l : Bs) (c : UInt8) : Bs := l.drop ((cutA l c).length + 1)
def cutF (l : Bs) (c : UInt8) : Bool := decide ((cutA l c).length < l.length)
theorem cutA_le (l : Bs) (c : UInt8) : (cutA l c).length ≤ l.length := (List.takeWhile_sublist _).length_le
theorem indexByte_cut (l : Bs) (c : UInt8) : Lib.indexByte l c = if cutF l c then ((cutA l c).length : Int) else -1 := by
 unfold cutF cutA
 induction l with
 | nil => simp [Lib.indexByte]
 | cons b l ih =>
  have hle : (l.takeWhile (· != c)).length ≤ l.length := cutA_le l c
  rw [Lib.indexByte, List.takeWhile_cons]
  by_cases e : b = c
  ·subst e; simp
  ·have e1 : (b == c) = false := by simpa using e
   have e2 : (b != c) = true := by simpa using e
   rw [e1, e2]
   simp only [Bool.false_eq_true, if_false, if_true, List.length_cons]
   rw [ih]
   generalize (l.takeWhile (· != c)).length = n at *
   by_cases h : n < l.length
   ·have h2 : n + 1 < l.length + 1 := by omega
    have h3 : ((n : Int) == -1) = false := by rw [beq_eq_false_iff_ne]; omega
    simp only [h, h2, decide_true, if_true, h3, Bool.false_eq_true, if_false]
    omega
   ·have h2 : ¬ n + 1 < l.length + 1 := by omega
    simp only [h, h2, decide_false, Bool.false_eq_true, if_false]
    rfl
theorem cutA_take (l : Bs) (c : UInt8) : cutA l c = l.take (cutA l c).length := by
 have := (List.takeWhile_prefix (p := (· != c)) (l := l))
 exact List.prefix_iff_eq_take.1 this
theorem extract_take (t : ByteArray) (i : Nat) (hi : i ≤ t.size) : t.extract 0 i = ⟨((txt t).take i).toArray⟩ := by
 apply ByteArray.ext
 apply Array.toList_inj.1
 rw [ByteArray.data_extract]
 simp [txt, -ByteArray.size_data]
theorem extract_drop (t : ByteArray) (i : Nat) (hi : i ≤ t.size) : t.extract i t.size = ⟨((txt t).drop i).toArray⟩ := by
 apply ByteArray.ext
 apply Array.toList_inj.1
 rw [ByteArray.data_extract]
 have : t.size = t.data.toList.length := Array.length_toList.symm
 rw [this]
 simp [txt, -ByteArray.size_data]
 rw [List.take_of_length_le (by simp)]
set_option maxHeartbeats 1000000 in
set_option maxRecDepth 100000 in
theorem lcut_c (t : ByteArray) (c : UInt8) (w : World) (ht : t.size ≤ 100000000) :
  Calls Tryz.prog 120 #[.string t, .string ⟨#[c]⟩] w (RV (.tuple #[.string ⟨(cutA (txt t) c).toArray⟩, .string ⟨(cutR (txt t) c).toArray⟩, .bool (cutF (txt t) c)]) w) := by
 have HI := Lib.hid (Tryz.stringslite_Index_one t c w)
 rw [show t.data.toList = txt t from rfl, indexByte_cut] at HI
 have hle := cutA_le (txt t) c
 rw [txt_size] at hle
 have HF : Hid (cutF (txt t) c = decide ((cutA (txt t) c).length < t.size)) := Lib.hid (by rw [cutF, txt_size])
 have HA := Lib.hid (cutA_take (txt t) c)
 have HR : Hid (cutR (txt t) c = (txt t).drop ((cutA (txt t) c).length + 1)) := Lib.hid rfl
 have hsz : (⟨#[c]⟩ : ByteArray).size = 1 := rfl
 generalize cutR (txt t) c = R at *
 generalize hA : cutA (txt t) c = A at *
 clear hA
 generalize hF : cutF (txt t) c = F at *
 clear hF
 cases F
 ·have hF := HF.out
  have hN : A.length = t.size := by have := hF.symm; rw [decide_eq_false_iff_not] at this; omega
  have HA2 : Hid ((⟨A.toArray⟩ : ByteArray) = t) := Lib.hid (by
   rw [HA.out, hN, ← txt_size, List.take_length]; rfl)
  have HR2 : Hid ((⟨R.toArray⟩ : ByteArray) = ⟨#[]⟩) := Lib.hid (by
   rw [HR.out, List.drop_of_length_le (by rw [txt_size]; omega)])
  rw [if_neg (by decide)] at HI
  rw [HA2.out, HR2.out]
  clear hN hF
  go_enter Tryz.func120, Tryz.ntmps120
  go_wp2_with fail
  refine HI.out.mono ?_; rintro e w1 ⟨rfl, rfl⟩
  go_wp2_with fail
  go_ret3
  exact ⟨rfl, Ext.refl _⟩
 ·have hN : A.length < t.size := by have := HF.out.symm; rwa [decide_eq_true_eq] at this
  rw [if_pos rfl] at HI
  have HA2 : Hid ((⟨A.toArray⟩ : ByteArray) = t.extract 0 A.length) := Lib.hid (by rw [extract_take t _ (by omega), ← HA.out])
  have HR2 : Hid ((⟨R.toArray⟩ : ByteArray) = t.extract (A.length + 1) t.size) := Lib.hid (by rw [extract_drop t _ (by omega), HR.out])
  rw [HA2.out, HR2.out]
  generalize A.length = n at *
  go_enter Tryz.func120, Tryz.ntmps120
  go_wp2_with fail
  refine HI.out.mono ?_; rintro e w1 ⟨rfl, rfl⟩
  go_wp2_with fail
  refine wp_region_later (by kernel_rfl) (by kernel_rfl) ?_
  repeat (go_big_quiet_step (fail))
  refine wpQuiet_nil ?_
  intro w5 hw'
  obtain ⟨⟨_, hx5⟩, rfl⟩ := hw'
  go_wp2_with fail
  go_ret3
  exact ⟨rfl, hx5⟩
set_option maxHeartbeats 1000000 in
theorem cut_c (t : ByteArray) (c : UInt8) (w : World) (ht : t.size ≤ 100000000) :
  Calls Tryz.prog 78 #[.string t, .string ⟨#[c]⟩] w (RV (.tuple #[.string ⟨(cutA (txt t) c).toArray⟩, .string ⟨(cutR (txt t) c).toArray⟩, .bool (cutF (txt t) c)]) w) := by
 have HC := Lib.hid (lcut_c t c w ht)
 generalize (cutA (txt t) c) = A at *
 generalize (cutR (txt t) c) = R at *
 generalize (cutF (txt t) c) = F at *
 go_enter Tryz.func78, Tryz.ntmps78
 go_wp2_with fail
 refine HC.out.mono ?_; rintro e w1 ⟨rfl, hx1⟩
 go_wp2_with fail
 go_ret3
 exact ⟨rfl, hx1⟩
end Go.Proofs.YtpmlcfgbfhgpgaaGreatDoor
/- Read of the program. -/
namespace Go.Proofs.YtpmlcfgbfhgpgaaGreatDoor
open Go.RowKit Go.Shelf
set_option linter.unusedVariables false
def ofBs (l : Bs) : ByteArray := ⟨l.toArray⟩
@[simp] theorem txt_of (l : Bs) : txt (ofBs l) = l := by simp [txt, ofBs]
theorem ofBs_size (l : Bs) : (ofBs l).size = l.length := by rw [bs_size]; show (txt (ofBs l)).length = _; rw [txt_of]
def readOrders (bk : Bs) : List ByteArray := (readB bk).1.map ofBs
def readRest (bk : Bs) : ByteArray := ofBs (readB bk).2
theorem byt (b : ByteArray) : b.toList = b.data.toList := Go.Lib.toList_data b
theorem readOne_cut (s : Int) (bk : Bs) : readOne s bk = if cutF bk 10 && cutF (cutA bk 10) 32 && rightB (cutR (cutA bk 10) 32) && decide (lineB s (cutR (cutA bk 10) 32) = cutA bk 10 ++ [10]) then some (cutR (cutA bk 10) 32, bk.drop (lineB s (cutR (cutA bk 10) 32)).length) else none := by
 unfold readOne
 simp only
 rw [show bk.takeWhile (· != 10) = cutA bk 10 from rfl]
 have hle1 := cutA_le bk 10
 have hle2 := cutA_le (cutA bk 10) 32
 generalize hA : cutA bk 10 = A at *
 rw [show A.takeWhile (· != 32) = cutA A 32 from rfl]
 have hR : A.drop ((cutA A 32).length + 1) = cutR A 32 := rfl
 rw [hR]
 by_cases h1 : A.length = bk.length
 ·rw [if_pos h1, show cutF bk 10 = false from by unfold cutF; rw [hA]; simp; omega]
  simp
 ·rw [if_neg h1, show cutF bk 10 = true from by unfold cutF; rw [hA]; simp; omega]
  by_cases h2 : (cutA A 32).length = A.length
  ·rw [if_pos h2, show cutF A 32 = false from by unfold cutF; simp; omega]
   simp
  ·rw [if_neg h2, show cutF A 32 = true from by unfold cutF; simp; omega]
   have hsp : A = cutA A 32 ++ 32 :: cutR A 32 := (takeWhile_split A 32 h2).1
   have hiff : (Lib.itoa (sumB s (cutR A 32)) == cutA A 32) = decide (lineB s (cutR A 32) = A ++ [10]) := by
    rw [Bool.eq_iff_iff, beq_iff_eq, decide_eq_true_eq]
    constructor
    ·intro h
     conv => rhs; rw [hsp]
     rw [lineB, h]; simp
    ·intro h
     rw [lineB] at h
     conv at h => rhs; rw [hsp]
     have h' : Lib.itoa (sumB s (cutR A 32)) ++ (32 :: cutR A 32 ++ [10]) = cutA A 32 ++ (32 :: cutR A 32 ++ [10]) := by simpa using h
     exact List.append_cancel_right h'
   rw [hiff]
   by_cases h3 : lineB s (cutR A 32) = A ++ [10]
   ·have hl : (lineB s (cutR A 32)).length = A.length + 1 := by rw [h3]; simp
    rw [hl]; simp
   ·simp [h3]
set_option maxHeartbeats 4000000 in
set_option maxRecDepth 100000 in
theorem Read_c (t : ByteArray) (w : World) (hE : Env w) (ht : t.size ≤ 1000000) :
  Calls Tryz.prog 39 #[.string t] w fun e w' => ∃ v, e = .returned (.tuple #[v, .string (readRest (txt t))]) ∧ OStrs w' w.heap.size v (readOrders (txt t)) ∧ Ext w w' := by
 have HE := Lib.hid hE; clear hE
 have HRO : Hid (∀ L r, readB (txt t) = (L, r) → readOrders (txt t) = L.map ofBs ∧ readRest (txt t) = ofBs r) := Lib.hid fun L r h => by unfold readOrders readRest; rw [h]; exact ⟨rfl, rfl⟩
 go_enter Tryz.func39, Tryz.ntmps39
 go_wp2_with fail
 go_loopg [4, 5, 0] 100 (fun m v q bk wr => ∃ (k : Nat) (L : List ByteArray) (u : Value) (s : Int) (b : ByteArray), k ≤ 100 ∧ 100 ≤ k + m ∧ L.length = k ∧ u = v ∧ q = .int .i64 s ∧ bk = .string b ∧ 0 ≤ s ∧ s < 1000003 ∧ b.size ≤ 1000000 ∧ Ext w wr ∧ OStrs wr w.heap.size u L ∧
   Hid (readB (txt t) = (L.map txt ++ (readF (100 - k) s (txt b)).1, (readF (100 - k) s (txt b)).2)))
 case atStart => exact ⟨0, [], _, 0, t, by omega, by omega, rfl, rfl, rfl, rfl, by omega, by omega, ht, Ext.refl _, OCel.nil _ _ _ _ _, Lib.hid (by simp [readB])⟩
 case round =>
  obtain ⟨k, L, u, s, b, hk, hk2, hLk, rfl, rfl, rfl, hs0, hs1, hb, hB, hown, hR⟩ := hrel
  obtain ⟨ua, uc, rfl, hu1, hu2, _⟩ := (Cel.own encT_len hown).open_
  rw [hLk] at hown hu1 ⊢
  by_cases hlt : k < 100
  ·obtain ⟨n, hn⟩ : ∃ n, 100 - k = n + 1 := ⟨99 - k, by omega⟩
   have hn2 : 100 - (k + 1) = n := by omega
   have HRF : Hid (readF (100 - k) s (txt b) = match readOne s (txt b) with | none => ([], txt b) | some (o, r) => (o :: (readF n (sumB s o) r).1, (readF n (sumB s o) r).2)) := Lib.hid (by rw [hn]; rfl)
   have HN2 := Lib.hid hn2; clear hn hn2
   rw [readOne_cut] at HRF
   have HC1 := Lib.hid (cut_c b 10 wr (by omega))
   have hAl := cutA_le (txt b) 10
   rw [txt_size] at hAl
   have HF1 : Hid (cutF (txt b) 10 = decide ((cutA (txt b) 10).length < b.size)) := Lib.hid (by rw [cutF, txt_size])
   generalize cutA (txt b) 10 = A at *
   generalize cutR (txt b) 10 = R1 at *
   generalize cutF (txt b) 10 = F1 at *
   have HC2 := Lib.hid (fun W => cut_c ⟨A.toArray⟩ 32 W (by have := ofBs_size A; unfold ofBs at this; omega))
   rw [bs_eq] at HC2
   have hRl : (cutR A 32).length ≤ A.length := by unfold cutR; rw [List.length_drop]; omega
   generalize cutA A 32 = A2 at *
   generalize cutF A 32 = F2 at *
   generalize cutR A 32 = O at *
   have HTX := Lib.hid (fun W => isText_c ⟨O.toArray⟩ W)
   rw [show (⟨O.toArray⟩ : ByteArray).data.toList = O from rfl] at HTX
   have HLN := Lib.hid (fun W (hW : Ext w W) (ho : O.length ≤ 100000) => line_c s ⟨O.toArray⟩ W (HE.out.ext hW) (wf_mk (by omega)) (by have := ofBs_size O; unfold ofBs at this; omega))
   rw [show (⟨O.toArray⟩ : ByteArray).data.toList = O from rfl] at HLN
   have HRB : Hid (rightB O = true → O.length ≤ 30) := Lib.hid fun h => (rightB_iff.1 h).2.1
   have hsr := sumB_range s O
   generalize rightB O = RB at *
   generalize hLB : lineB s O = LB at *
   have HLB := Lib.hid hLB; clear hLB
   have HSE : Hid ((LB == ((⟨A.toArray⟩ : ByteArray) ++ ⟨#[10]⟩).toList) = decide (LB = A ++ [10])) := Lib.hid (by
    rw [byt, ByteArray.data_append]
    rw [Bool.eq_iff_iff, beq_iff_eq, decide_eq_true_eq]
    simp)
   have stop : (F1 && F2 && RB && decide (LB = A ++ [10])) = false → readB (txt t) = (L.map txt, txt b) := fun h => by
    rw [hR.out, HRF.out, h]; simp
   have HSTOP := Lib.hid stop; clear stop
   have fin : (F1 && F2 && RB && decide (LB = A ++ [10])) = false → ∃ v, (Ending.returned (.tuple #[.slice ua k uc, .string b]) : Ending) = .returned (.tuple #[v, .string (readRest (txt t))]) ∧ OStrs wr w.heap.size v (readOrders (txt t)) ∧ Ext w wr := fun h => by
    obtain ⟨h1, h2⟩ := HRO.out _ _ (HSTOP.out h)
    refine ⟨.slice ua k uc, by rw [h2]; rfl, ?_, hB⟩
    rw [h1, List.map_map]
    have : L.map (ofBs ∘ txt) = L := by rw [show (ofBs ∘ txt) = id from funext fun x => rfl]; simp
    rw [this]; exact hown
   have HFIN := Lib.hid fin; clear fin
   cases F1
   ·go_wp2_with fail
    refine HC1.out.mono ?_; rintro e w1 ⟨rfl, hx1⟩
    go_wp2_with fail
    refine (HC2.out w1).mono ?_; rintro e w2 ⟨rfl, hx2⟩
    go_wp2_with fail
    go_ret2
    obtain ⟨v, h1, h2, h3⟩ := HFIN.out rfl
    exact ⟨v, h1, h2.ext (hx1.trans hx2), h3.trans (hx1.trans hx2)⟩
   ·cases F2
    ·go_wp2_with fail
     refine HC1.out.mono ?_; rintro e w1 ⟨rfl, hx1⟩
     go_wp2_with fail
     refine (HC2.out w1).mono ?_; rintro e w2 ⟨rfl, hx2⟩
     go_wp2_with fail
     go_ret2
     obtain ⟨v, h1, h2, h3⟩ := HFIN.out rfl
     exact ⟨v, h1, h2.ext (hx1.trans hx2), h3.trans (hx1.trans hx2)⟩
    ·cases RB
     ·go_wp2_with fail
      refine HC1.out.mono ?_; rintro e w1 ⟨rfl, hx1⟩
      go_wp2_with fail
      refine (HC2.out w1).mono ?_; rintro e w2 ⟨rfl, hx2⟩
      go_wp2_with fail
      refine (HTX.out w2).mono ?_; rintro e w3 ⟨rfl, rfl⟩
      go_wp2_with fail
      go_ret2
      obtain ⟨v, h1, h2, h3⟩ := HFIN.out rfl
      exact ⟨v, h1, h2.ext (hx1.trans hx2), h3.trans (hx1.trans hx2)⟩
     ·have hO30 := HRB.out rfl
      by_cases hle : LB = A ++ [10]
      ·have hd1 : (LB == ((⟨A.toArray⟩ : ByteArray) ++ ⟨#[10]⟩).toList) = true := by rw [HSE.out]; simpa using hle
       have HLE := Lib.hid hle; clear hle
       have hAb : A.length < b.size := by have := HF1.out.symm; rwa [decide_eq_true_eq] at this
       have hLBs : (⟨LB.toArray⟩ : ByteArray).size = A.length + 1 := by have := ofBs_size LB; unfold ofBs at this; rw [this, HLE.out]; simp
       have HEX := Lib.hid (extract_drop b (A.length + 1) (by omega))
       have HRF2 : Hid (readF (100 - k) s (txt b) = (O :: (readF n (sumB s O) ((txt b).drop (A.length + 1))).1, (readF n (sumB s O) ((txt b).drop (A.length + 1))).2)) := Lib.hid (by
        rw [HRF.out, HLE.out]; simp)
       go_wp2_with fail
       refine HC1.out.mono ?_; rintro e w1 ⟨rfl, hx1⟩
       go_wp2_with fail
       refine (HC2.out w1).mono ?_; rintro e w2 ⟨rfl, hx2⟩
       go_wp2_with fail
       refine (HTX.out w2).mono ?_; rintro e w3 ⟨rfl, rfl⟩
       go_wp2_with fail
       refine (HLN.out w2 (hB.trans (hx1.trans hx2)) (by omega)).mono ?_; rintro e w4 ⟨rfl, hx4⟩
       have hB4 := hB.trans (hx1.trans (hx2.trans hx4))
       have hown4 := hown.ext (hx1.trans (hx2.trans hx4))
       have HOW := Lib.hid hown4
       go_wp2_with fail
       refine wp_region_peek (fun _ => True) (fun _ => True) [] [.look 0, .look 1, .look 4, .look 5, .look 6, .look 7, .look 8, .go 2, .go 3, .look 9, .look 10, .look 11] (by kernel_rfl) (by kernel_rfl) (by intro c a d v w h; cases d <;> exact h) ?_
       have hd : Ext w4 { w4 with drawn := w4.drawn + 1 } := drawnP_ext w4
       generalize { w4 with drawn := w4.drawn + 1 } = W0 at *
       have htr : (fun _ : World => True) W0 := trivial
       have hs4 : w.heap.size ≤ W0.heap.size := Nat.le_trans hB4.size hd.size
       have HOW2 := Lib.hid (HOW.out.ext hd)
       iterate 6 (refine wpPeek_look rfl ‹_› (fun K hK => ?_); go_simp; first | (refine hK _ ?_; clear hK K) | (refine ⟨_, fun _ => rfl, hK _ ?_⟩; clear hK K))
       refine wpPeek_look rfl ‹_› (fun K hK => ?_)
       go_simp
       refine ⟨.string (b.extract (A.length + 1) b.size), fun s => by rw [if_pos (⟨by omega, by omega⟩)]; simp [purely], hK _ ?_⟩
       clear hK K
       refine wpPeek_go rfl rfl (fun K hK => ?_)
       go_wp2_with fail
       refine ⟨KeepE.of (fun _ => trivial) (fun _ => trivial), ?_⟩
       refine wpPeek_go rfl rfl (fun K2 hK2 => ?_)
       refine wpList_appendS (enc := encT) (L := L) (v := .slice ua k uc) (⟨O.toArray⟩ : ByteArray) elStr rfl _ _ rfl rfl rfl HOW2.out rfl rfl rfl (by intro u hu; simp only [encT, List.mem_cons, List.not_mem_nil, or_false] at hu; rcases hu with rfl; rfl) hs4 (by omega) (by omega) ?_
       intro v' w' hown2 hb2 hg2 hn2
       go_wp2_with fail
       refine ⟨KeepE.of (fun _ => trivial) (fun _ => trivial), ?_⟩
       have htr : (fun _ : World => True) w' := trivial
       iterate 3 (refine wpPeek_look rfl ‹_› (fun K hK => ?_); go_simp; first | (refine hK _ ?_; clear hK K) | (refine ⟨_, fun _ => rfl, hK _ ?_⟩; clear hK K))
       refine wpPeek_nil ?_
       go_wp2_with fail
       go_roundg (gk - 1)
       case measure => omega
       case rel => exact ⟨k + 1, L ++ [ofBs O], _, _, _, by omega, by omega, by simp [hLk], rfl, rfl, rfl, hsr.1, hsr.2, by rw [ByteArray.size_extract]; omega, (hB4.trans hd).rowGrown HOW2.out hg2, hown2, Lib.hid (by
        rw [hR.out, HRF2.out, HEX.out, HN2.out, List.map_append, List.append_assoc]
        simp only [List.map_cons, List.map_nil, List.cons_append, List.nil_append]
        rw [show txt (⟨((txt b).drop (A.length + 1)).toArray⟩ : ByteArray) = (txt b).drop (A.length + 1) from txt_of _, txt_of])⟩
      ·have hd1 : (LB == ((⟨A.toArray⟩ : ByteArray) ++ ⟨#[10]⟩).toList) = false := by rw [HSE.out]; simpa using hle
       have HLE := Lib.hid hle; clear hle
       go_wp2_with fail
       refine HC1.out.mono ?_; rintro e w1 ⟨rfl, hx1⟩
       go_wp2_with fail
       refine (HC2.out w1).mono ?_; rintro e w2 ⟨rfl, hx2⟩
       go_wp2_with fail
       refine (HTX.out w2).mono ?_; rintro e w3 ⟨rfl, rfl⟩
       go_wp2_with fail
       refine (HLN.out w2 (hB.trans (hx1.trans hx2)) (by omega)).mono ?_; rintro e w4 ⟨rfl, hx4⟩
       go_wp2_with fail
       go_ret2
       obtain ⟨v, h1, h2, h3⟩ := HFIN.out (by simp [HLE.out])
       exact ⟨v, h1, h2.ext (hx1.trans (hx2.trans hx4)), h3.trans (hx1.trans (hx2.trans hx4))⟩
  ·obtain rfl : k = 100 := by omega
   obtain ⟨h1, h2⟩ := HRO.out _ _ hR.out
   have H1 := Lib.hid h1; have H2 := Lib.hid h2; clear h1 h2
   go_wp2_with fail
   go_ret2
   refine ⟨.slice ua 100 uc, by rw [H2.out]; rfl, ?_, hB⟩
   rw [H1.out]
   have : (L.map txt ++ (readF (100 - 100) s (txt b)).1).map ofBs = L := by
    rw [show (readF (100 - 100) s (txt b)).1 = [] from rfl, List.append_nil, List.map_map, show (ofBs ∘ txt) = id from funext fun x => rfl]; simp
   rw [this]; exact hown
end Go.Proofs.YtpmlcfgbfhgpgaaGreatDoor
/- Read of the reference. -/
namespace Go.Proofs.YtpmlcfgbfhgpgaaGreatDoor
open Go.RowKit Go.Shelf
set_option linter.unusedVariables false
theorem readOne_ref (s : Int) (bk : Bs) : readOne s bk = if cutF bk 10 && cutF (cutA bk 10) 32 && rightB (cutR (cutA bk 10) 32) && decide (Lib.itoa (sumB s (cutR (cutA bk 10) 32)) = cutA (cutA bk 10) 32) then some (cutR (cutA bk 10) 32, bk.drop ((cutA bk 10).length + 1)) else none := by
 unfold readOne
 simp only
 rw [show bk.takeWhile (· != 10) = cutA bk 10 from rfl]
 have hle1 := cutA_le bk 10
 have hle2 := cutA_le (cutA bk 10) 32
 generalize hA : cutA bk 10 = A at *
 rw [show A.takeWhile (· != 32) = cutA A 32 from rfl]
 have hR : A.drop ((cutA A 32).length + 1) = cutR A 32 := rfl
 rw [hR]
 by_cases h1 : A.length = bk.length
 ·rw [if_pos h1, show cutF bk 10 = false from by unfold cutF; rw [hA]; simp; omega]
  simp
 ·rw [if_neg h1, show cutF bk 10 = true from by unfold cutF; rw [hA]; simp; omega]
  by_cases h2 : (cutA A 32).length = A.length
  ·rw [if_pos h2, show cutF A 32 = false from by unfold cutF; simp; omega]
   simp
  ·rw [if_neg h2, show cutF A 32 = true from by unfold cutF; simp; omega]
   rw [show (Lib.itoa (sumB s (cutR A 32)) == cutA A 32) = decide (Lib.itoa (sumB s (cutR A 32)) = cutA A 32) from by rw [Bool.eq_iff_iff]; simp]
   simp
theorem cut_nin (l : Bs) (c : UInt8) : c ∉ cutA l c := by
 by_cases h : (l.takeWhile (· != c)).length = l.length
 ·exact fun hm => takeWhile_len l c h ((List.takeWhile_sublist _).subset hm)
 ·exact (takeWhile_split l c h).2
theorem cut_ne {l : Bs} {c : UInt8} {j : Nat} (h : j < (cutA l c).length) (h2 : j < l.length) : l[j] ≠ c := by
 have e : l[j]? = (cutA l c)[j]? := by
  conv => rhs; rw [cutA_take]
  rw [List.getElem?_take_of_lt h]
 rw [List.getElem?_eq_getElem h2, List.getElem?_eq_getElem h] at e
 injection e with e
 rw [e]
 intro hm
 have := List.getElem_mem h
 rw [hm] at this
 exact cut_nin l c this
theorem cut_eq {l : Bs} {c : UInt8} (h2 : (cutA l c).length < l.length) : l[(cutA l c).length] = c := by
 have := (takeWhile_split l c (by unfold cutA at h2; omega)).1
 have h3 : l[(cutA l c).length]? = (cutA l c ++ c :: l.drop ((cutA l c).length + 1))[(cutA l c).length]? := congrArg (fun x : Bs => x[(cutA l c).length]?) this
 rw [List.getElem?_append_right (Nat.le_refl _), Nat.sub_self, List.getElem?_cons_zero, List.getElem?_eq_getElem h2] at h3
 injection h3
theorem cut_ne8 {b : ByteArray} {c : UInt8} {j : Nat} (h : j < (cutA (txt b) c).length) (h2 : j < b.size) : (b[j]'h2).toNat ≠ c.toNat := by
 intro e
 exact cut_ne h (by rwa [txt_size]) ((bs_get b j h2 (by show j < (txt b).length; rwa [txt_size])).trans (UInt8.toNat_inj.1 e))
theorem cut_eq8 {b : ByteArray} {c : UInt8} (h2 : (cutA (txt b) c).length < b.size) : (b[(cutA (txt b) c).length]'h2).toNat = c.toNat := by
 rw [← bs_get b _ h2 (by show _ < (txt b).length; rwa [txt_size])]
 exact congrArg UInt8.toNat (cut_eq (l := txt b) (by rwa [txt_size]))
theorem cut_in (l : Bs) (j : Nat) (h : j < (cutA l 10).length) (h2 : j < l.length) : (cutA l 10)[j] = l[j] := by
 have e : l[j]? = (cutA l 10)[j]? := by
  conv => rhs; rw [cutA_take]
  rw [List.getElem?_take_of_lt h]
 rw [List.getElem?_eq_getElem h2, List.getElem?_eq_getElem h] at e
 injection e with e; exact e.symm
theorem cut2_ne8 {b : ByteArray} {j : Nat} (h : j < (cutA (cutA (txt b) 10) 32).length) (h2 : j < b.size) : (b[j]'h2).toNat ≠ 32 := by
 have hle := cutA_le (cutA (txt b) 10) 32
 intro e
 have := cut_ne h (by omega)
 rw [cut_in _ j (by omega) (by rwa [txt_size])] at this
 exact this ((bs_get b j h2 (by show j < (txt b).length; rwa [txt_size])).trans (UInt8.toNat_inj.1 (e.trans (by rfl))))
theorem cut2_eq8 {b : ByteArray} (h : (cutA (cutA (txt b) 10) 32).length < (cutA (txt b) 10).length) (h2 : (cutA (cutA (txt b) 10) 32).length < b.size) : (b[(cutA (cutA (txt b) 10) 32).length]'h2).toNat = 32 := by
 have := cut_eq h
 rw [cut_in _ _ h (by rwa [txt_size])] at this
 rw [← bs_get b _ h2 (by show _ < (txt b).length; rwa [txt_size])]
 exact congrArg UInt8.toNat this
theorem extract_line (b : ByteArray) (i e : Nat) (h1 : i ≤ e) (h2 : e ≤ b.size) : b.extract i e = ofBs (((txt b).take e).drop i) := by
 apply ByteArray.ext
 apply Array.toList_inj.1
 rw [ByteArray.data_extract]
 simp [ofBs, txt, -ByteArray.size_data, List.drop_take]
set_option maxHeartbeats 4000000 in
set_option maxRecDepth 100000 in
theorem rRead_c (t : ByteArray) (w : World) (hE : Env w) (ht : t.size ≤ 100000) :
  Calls Tryz.prog 40 #[.string t] w fun e w' => ∃ v, e = .returned (.tuple #[v, .string (readRest (txt t))]) ∧ OStrs w' w.heap.size v (readOrders (txt t)) ∧ Ext w w' := by
 have HE := Lib.hid hE; clear hE
 have HRO : Hid (∀ L r, readB (txt t) = (L, r) → readOrders (txt t) = L.map ofBs ∧ readRest (txt t) = ofBs r) := Lib.hid fun L r h => by unfold readOrders readRest; rw [h]; exact ⟨rfl, rfl⟩
 go_enter Tryz.func40, Tryz.ntmps40
 go_wp2_with fail
 go_loopg [4, 5, 0] 100 (fun m v q bk wr => ∃ (k : Nat) (L : List ByteArray) (u : Value) (s : Int) (b : ByteArray), k ≤ 100 ∧ 100 ≤ k + m ∧ L.length = k ∧ u = v ∧ q = .int .i64 s ∧ bk = .string b ∧ 0 ≤ s ∧ s < 1000003 ∧ b.size ≤ 100000 ∧ Ext w wr ∧ OStrs wr w.heap.size u L ∧
   Hid (readB (txt t) = (L.map txt ++ (readF (100 - k) s (txt b)).1, (readF (100 - k) s (txt b)).2)))
 case atStart => exact ⟨0, [], _, 0, t, by omega, by omega, rfl, rfl, rfl, rfl, by omega, by omega, ht, Ext.refl _, OCel.nil _ _ _ _ _, Lib.hid (by simp [readB])⟩
 case round =>
  obtain ⟨k, L, u, s, b, hk, hk2, hLk, rfl, rfl, rfl, hs0, hs1, hb, hB, hown, hR⟩ := hrel
  obtain ⟨g1, rfl⟩ : ∃ g : Nat, g = gk := ⟨_, rfl⟩
  obtain ⟨ua, uc, rfl, hu1, hu2, _⟩ := (Cel.own encT_len hown).open_
  rw [hLk] at hown hu1 ⊢
  by_cases hlt : k < 100
  ·obtain ⟨n, hn⟩ : ∃ n, 100 - k = n + 1 := ⟨99 - k, by omega⟩
   have hn2 : 100 - (k + 1) = n := by omega
   have HRF : Hid (readF (100 - k) s (txt b) = match readOne s (txt b) with | none => ([], txt b) | some (o, r) => (o :: (readF n (sumB s o) r).1, (readF n (sumB s o) r).2)) := Lib.hid (by rw [hn]; rfl)
   have HN2 := Lib.hid hn2; clear hn hn2
   rw [readOne_ref] at HRF
   have HC1 := Lib.hid (fun j h h2 => cut_ne8 (b := b) (c := 10) (j := j) h h2)
   have HC2 := Lib.hid (fun h2 => cut_eq8 (b := b) (c := 10) h2)
   have HC3 := Lib.hid (fun j h h2 => cut2_ne8 (b := b) (j := j) h h2)
   have HC4 := Lib.hid (fun h h2 => cut2_eq8 (b := b) h h2)
   have HF1 : Hid (cutF (txt b) 10 = decide ((cutA (txt b) 10).length < b.size)) := Lib.hid (by rw [cutF, txt_size])
   have HF2 : Hid (cutF (cutA (txt b) 10) 32 = decide ((cutA (cutA (txt b) 10) 32).length < (cutA (txt b) 10).length)) := Lib.hid rfl
   have hAl := cutA_le (txt b) 10
   rw [txt_size] at hAl
   have hAl2 := cutA_le (cutA (txt b) 10) 32
   have HXA : Hid ((cutA (cutA (txt b) 10) 32).length < (cutA (txt b) 10).length → b.extract ((cutA (cutA (txt b) 10) 32).length + 1) (cutA (txt b) 10).length = ofBs (cutR (cutA (txt b) 10) 32)) := Lib.hid fun h => by
    rw [extract_line b _ _ (by omega) hAl, ← cutA_take]; rfl
   have HXB : Hid (b.extract 0 (cutA (cutA (txt b) 10) 32).length = ofBs (cutA (cutA (txt b) 10) 32)) := Lib.hid (by
    rw [extract_take b _ (by omega)]
    conv => rhs; rw [cutA_take]
    conv => rhs; rw [cutA_take (txt b) 10]
    rw [List.take_take, Nat.min_eq_left (by rw [← cutA_take]; exact hAl2), ← cutA_take]; rfl)
   generalize cutR (cutA (txt b) 10) 32 = O at *
   generalize cutF (cutA (txt b) 10) 32 = F2 at *
   generalize cutF (txt b) 10 = F1 at *
   generalize cutA (cutA (txt b) 10) 32 = A2 at *
   generalize cutA (txt b) 10 = A at *
   have hfin : Hid ((F1 && F2 && rightB O && decide (Lib.itoa (sumB s O) = A2)) = false → ∃ v, (Ending.returned (.tuple #[.slice ua k uc, .string b]) : Ending) = .returned (.tuple #[v, .string (readRest (txt t))]) ∧ OStrs wr w.heap.size v (readOrders (txt t)) ∧ Ext w wr) := Lib.hid fun h => by
    obtain ⟨h1, h2⟩ := HRO.out (L.map txt) (txt b) (by rw [hR.out, HRF.out, h]; simp)
    refine ⟨.slice ua k uc, by rw [h2]; rfl, ?_, hB⟩
    rw [h1, List.map_map]
    have : L.map (ofBs ∘ txt) = L := by rw [show (ofBs ∘ txt) = id from funext fun x => rfl]; simp
    rw [this]; exact hown
   go_wp2_with fail
   go_loopg [7] A.length (fun m i wr2 => ∃ j : Nat, j ≤ A.length ∧ A.length ≤ j + m ∧ i = .int .i64 j ∧ wr = wr2)
   case atStart => exact ⟨0, by omega, by omega, rfl, rfl⟩
   case round =>
    obtain ⟨j, hj, hj2, rfl, rfl⟩ := hrel
    by_cases hjl : j < A.length
    ·have hjb : j < b.size := by omega
     obtain ⟨x, hx⟩ : ∃ x : Nat, (b[j]'hjb).toNat = x := ⟨_, rfl⟩
     have hx10 : ((x : Int) == 10) = false := by have := HC1.out j hjl hjb; simp at this ⊢; omega
     go_wp2_with fail
     go_roundg (gk-1)
     case measure => omega
     case rel => exact ⟨j+1, by omega, by omega, by go_num, rfl⟩
    ·obtain rfl : j = A.length := by omega
     by_cases h1 : A.length < b.size
     ·obtain ⟨x, hx⟩ : ∃ x : Nat, (b[A.length]'h1).toNat = x := ⟨_, rfl⟩
      have hx10 : ((x : Int) == 10) = true := by have := HC2.out h1; rw [hx] at this; rw [this]; rfl
      have hne : ((A.length : Int) == (b.size : Int)) = false := by simp; omega
      have HF1' : Hid (F1 = true) := Lib.hid (by rw [HF1.out]; simpa using h1)
      go_wp2_with fail
      go_loopg [6] A2.length (fun m i wr2 => ∃ j : Nat, j ≤ A2.length ∧ A2.length ≤ j + m ∧ i = .int .i64 j ∧ wr = wr2)
      case atStart => exact ⟨0, by omega, by omega, rfl, rfl⟩
      case round =>
       obtain ⟨j, hj, hj2, rfl, rfl⟩ := hrel
       by_cases hjl : j < A2.length
       ·have hjb : j < b.size := by omega
        have hjA : j < A.length := by omega
        obtain ⟨x, hx⟩ : ∃ x : Nat, (b[j]'hjb).toNat = x := ⟨_, rfl⟩
        have hx32 : ((x : Int) == 32) = false := by have := HC3.out j hjl hjb; simp at this ⊢; omega
        go_wp2_with fail
        go_roundg (gk-1)
        case measure => omega
        case rel => exact ⟨j+1, by omega, by omega, by go_num, rfl⟩
       ·obtain rfl : j = A2.length := by omega
        by_cases h2 : A2.length < A.length
        ·have hjb : A2.length < b.size := by omega
         obtain ⟨x, hx⟩ : ∃ x : Nat, (b[A2.length]'hjb).toNat = x := ⟨_, rfl⟩
         have hx32 : ((x : Int) == 32) = true := by have := HC4.out h2 hjb; rw [hx] at this; rw [this]; rfl
         have HF2' : Hid (F2 = true) := Lib.hid (by rw [HF2.out]; simpa using h2)
         have h3e : ((A2.length : Int) == (A.length : Int)) = false := by simp; omega
         have hXA := HXA.out h2
         have hO : (b.extract (A2.length + 1) A.length).size ≤ 100000 := by rw [ByteArray.size_extract]; omega
         have HTX := Lib.hid (Right_c (b.extract (A2.length + 1) A.length) wr hO)
         rw [show (b.extract (A2.length + 1) A.length).data.toList = O from by rw [hXA]; exact txt_of O] at HTX
         have HSU := Lib.hid (fun q : Later wr => rSum_c s (b.extract (A2.length + 1) A.length) q.w (wf_mk (by omega)) hO)
         rw [show (b.extract (A2.length + 1) A.length).data.toList = O from by rw [hXA]; exact txt_of O] at HSU
         have HXA2 := Lib.hid hXA; clear hXA
         have hsr := sumB_range s O
         have hA1 : 0 ≤ (A2.length : Int) + 1 ∧ (A2.length : Int) + 1 ≤ A.length ∧ (A.length : Int) ≤ b.size := ⟨by omega, by omega, by omega⟩
         cases hR1 : rightB O
         ·rw [hR1] at HTX
          have HR1 := Lib.hid hR1; clear hR1
          go_wp2_with fail
          refine HTX.out.mono ?_; rintro e w1 ⟨rfl, rfl⟩
          go_wp2_with fail
          go_ret2
          exact hfin.out (by rw [HR1.out]; simp)
         ·rw [hR1] at HTX
          have HR1 := Lib.hid hR1; clear hR1
          go_wp2_with fail
          refine HTX.out.mono ?_; rintro e w1 ⟨rfl, rfl⟩
          have hIl := itoa_len hsr.1 hsr.2
          have HIT := Lib.hid (fun q : Later wr => Itoa_c (sumB s O) q.w (HE.out.ext (hB.trans q.ext)) (by omega) (by omega))
          have HD : Hid ((Lib.itoa (sumB s O) == (b.extract 0 A2.length).toList) = decide (Lib.itoa (sumB s O) = A2)) := Lib.hid (by
           rw [HXB.out, byt, show (ofBs A2).data.toList = A2 from txt_of A2, Bool.eq_iff_iff]; simp)
          have HX2 := Lib.hid (extract_drop b (A.length + 1) (by omega))
          have HOW := Lib.hid hown
          generalize hs2 : sumB s O = s2 at *
          have HS2 := Lib.hid hs2; clear hs2
          generalize hI : Lib.itoa s2 = I at *
          have HI := Lib.hid hI; clear hI
          cases hde : (I == (b.extract 0 A2.length).toList)
          ·have HDE := Lib.hid hde
           go_wp2_with fail
           refine wp_region_later (by kernel_rfl) (by kernel_rfl) ?_
           repeat (go_big_quiet_step (first | (go_at_call 82; first | with_reducible exact Later.call (HIT.out _)) | (go_at_call 43; first | with_reducible exact Later.callP (HSU.out _))))
           refine wpQuiet_nil ?_
           intro w5 hw'
           obtain ⟨⟨_, hx5⟩, rfl⟩ := hw'
           go_wp2_with fail
           go_ret2
           obtain ⟨v, h1, h2, h3⟩ := hfin.out (by rw [← HD.out, HDE.out]; simp)
           exact ⟨v, h1, h2.ext hx5, h3.trans hx5⟩
          ·have HDE := Lib.hid hde
           go_wp2_with fail
           refine wp_region_later (by kernel_rfl) (by kernel_rfl) ?_
           repeat (go_big_quiet_step (first | (go_at_call 82; first | with_reducible exact Later.call (HIT.out _)) | (go_at_call 43; first | with_reducible exact Later.callP (HSU.out _))))
           refine wpQuiet_nil ?_
           intro w5 hw'
           obtain ⟨⟨_, hx5⟩, rfl⟩ := hw'
           have HSU2 := Lib.hid (HSU.out ⟨_, hx5⟩)
           go_wp2_with fail
           refine HSU2.out.mono ?_; rintro e w6 ⟨rfl, rfl⟩
           have HOW5 := Lib.hid (hown.ext hx5)
           have hB5 := hB.trans hx5
           have hs5 := hB5.size
           go_wp2_with (at_builtin; refine wpList_appendS (enc := encT) (L := L) (v := .slice ua k uc) (b.extract (A2.length + 1) A.length) elStr rfl _ _ rfl rfl rfl HOW5.out rfl rfl rfl (by intro u hu; simp only [encT, List.mem_cons, List.not_mem_nil, or_false] at hu; rcases hu with rfl; rfl) hs5 (by omega) (by omega) ?_; intro v' w' hown2 hb2 hg2 hn2)
           go_roundg (g1-1)
           case measure => omega
           case rel =>
            refine ⟨k + 1, L ++ [b.extract (A2.length + 1) A.length], _, _, _, by omega, by omega, by simp [hLk], rfl, rfl, rfl, hsr.1, hsr.2, by rw [ByteArray.size_extract]; omega, hB5.rowGrown HOW5.out hg2, hown2, Lib.hid ?_⟩
            have hcond : (F1 && F2 && rightB O && decide (I = A2)) = true := by rw [← HD.out, HDE.out, HF1'.out, HF2'.out, HR1.out]; rfl
            rw [hR.out, HRF.out, hcond, HX2.out, HXA2.out, HN2.out, List.map_append, List.append_assoc, if_pos rfl]
            simp only [List.map_cons, List.map_nil, List.cons_append, List.nil_append]
            rw [HS2.out, show txt (⟨((txt b).drop (A.length + 1)).toArray⟩ : ByteArray) = (txt b).drop (A.length + 1) from txt_of _, txt_of]
        ·have h3 : A2.length = A.length := by omega
         have h3e : ((A2.length : Int) == (A.length : Int)) = true := by rw [h3]; simp
         have HF2' : Hid (F2 = false) := Lib.hid (by rw [HF2.out]; simpa using h2)
         go_wp2_with fail
         go_ret2
         exact hfin.out (by rw [HF2'.out]; simp)
     ·have h1e : A.length = b.size := by omega
      have hne : ((A.length : Int) == (b.size : Int)) = true := by rw [h1e]; simp
      have HF1' : Hid (F1 = false) := Lib.hid (by rw [HF1.out]; simpa using h1)
      go_wp2_with fail
      go_loopg [6] A2.length (fun m i wr2 => ∃ j : Nat, j ≤ A2.length ∧ A2.length ≤ j + m ∧ i = .int .i64 j ∧ wr = wr2)
      case atStart => exact ⟨0, by omega, by omega, rfl, rfl⟩
      case round =>
       obtain ⟨j, hj, hj2, rfl, rfl⟩ := hrel
       by_cases hjl : j < A2.length
       ·have hjb : j < b.size := by omega
        have hjA : j < A.length := by omega
        obtain ⟨x, hx⟩ : ∃ x : Nat, (b[j]'hjb).toNat = x := ⟨_, rfl⟩
        have hx32 : ((x : Int) == 32) = false := by have := HC3.out j hjl hjb; simp at this ⊢; omega
        go_wp2_with fail
        go_roundg (gk-1)
        case measure => omega
        case rel => exact ⟨j+1, by omega, by omega, by go_num, rfl⟩
       ·obtain rfl : j = A2.length := by omega
        by_cases h2 : A2.length < A.length
        ·have hjb : A2.length < b.size := by omega
         obtain ⟨x, hx⟩ : ∃ x : Nat, (b[A2.length]'hjb).toNat = x := ⟨_, rfl⟩
         have hx32 : ((x : Int) == 32) = true := by have := HC4.out h2 hjb; rw [hx] at this; rw [this]; rfl
         have HF2' : Hid (F2 = true) := Lib.hid (by rw [HF2.out]; simpa using h2)
         go_wp2_with fail
         go_ret2
         exact hfin.out (by rw [HF1'.out]; rfl)
        ·have h3 : A2.length = A.length := by omega
         have h3e : ((A2.length : Int) == (A.length : Int)) = true := by rw [h3]; simp
         have HF2' : Hid (F2 = false) := Lib.hid (by rw [HF2.out]; simpa using h2)
         go_wp2_with fail
         go_ret2
         exact hfin.out (by rw [HF1'.out]; rfl)
  ·obtain rfl : k = 100 := by omega
   obtain ⟨h1, h2⟩ := HRO.out _ _ hR.out
   have H1 := Lib.hid h1; have H2 := Lib.hid h2; clear h1 h2
   go_wp2_with fail
   go_ret2
   refine ⟨.slice ua 100 uc, by rw [H2.out]; rfl, ?_, hB⟩
   rw [H1.out]
   have : (L.map txt ++ (readF (100 - 100) s (txt b)).1).map ofBs = L := by
    rw [show (readF (100 - 100) s (txt b)).1 = [] from rfl, List.append_nil, List.map_map, show (ofBs ∘ txt) = id from funext fun x => rfl]; simp
   rw [this]; exact hown
end Go.Proofs.YtpmlcfgbfhgpgaaGreatDoor
/- Merge of both packages; comparing lists of texts. -/
namespace Go.Proofs.YtpmlcfgbfhgpgaaGreatDoor
open Go.RowKit Go.Shelf
set_option linter.unusedVariables false
theorem readOrders_len (bk : Bs) : (readOrders bk).length ≤ 100 := by
 unfold readOrders readB; rw [List.length_map]; exact (readF_sound 100 0 bk).2.2
theorem rest_empty (l : Bs) : ((ofBs l).toList == []) = decide (l = []) := by
 rw [byt, show (ofBs l).data.toList = l from txt_of l, Bool.eq_iff_iff]; simp
theorem neq_txt (x y : ByteArray) : (x.toList == y.toList) = decide (x = y) := by
 rw [byt, byt, Bool.eq_iff_iff, beq_iff_eq, decide_eq_true_eq]
 exact ⟨fun h => ByteArray.ext (Array.toList_inj.1 h), fun h => by rw [h]⟩
set_option maxHeartbeats 2000000 in
theorem sameTexts_c (va vb : Value) (L : List ByteArray) (w : World) (ha : Strs w va L) (hb : Strs w vb L) :
  Calls Tryz.prog 41 #[va, vb] w (RQ true w) := by
 obtain ⟨aa, ca, rfl, hla, hma, Hca⟩ := ha.at_
 obtain ⟨ab, cb, rfl, hlb, hmb, Hcb⟩ := hb.at_
 clear ha hb
 go_enter Tryz.func41, Tryz.ntmps41
 go_wp2_with fail
 go_loopg [5] L.length (fun m i wr => ∃ k : Nat, k ≤ L.length ∧ L.length ≤ k + m ∧ i = .int .i64 k ∧ (∃ n, wr = w.drewN n))
 case atStart => exact ⟨0, by omega, by omega, rfl, ⟨0, rfl⟩⟩
 case round =>
  obtain ⟨k, hk, hk2, rfl, ⟨nd, hwr⟩⟩ := hrel
  have hwx : Ext w wr := by rw [hwr]; exact Ext.drewN _ _
  have HW := Lib.hid hwr; clear hwr
  by_cases hlt : k < L.length
  ·obtain ⟨ba, oa, rfl, hc1⟩ := Hca.out k hlt
   obtain ⟨bb, ob, rfl, hc2⟩ := Hcb.out k hlt
   replace hc1 := hwx.keep hc1
   replace hc2 := hwx.keep hc2
   generalize L[k] = x at *
   have hn : (x.toList == x.toList) = true := by simp
   go_wp2_with fail
   go_quiet (fail)
   go_wp2_with fail
   go_roundg (gk-1)
   case measure => omega
   case rel => exact ⟨k+1, by omega, by omega, by go_num, ⟨_, by rw [HW.out, World.drewN_drewN]⟩⟩
  ·go_wp2_with fail
   go_ret
   exact RQ.mkV (n := nd) rfl HW.out
end Go.Proofs.YtpmlcfgbfhgpgaaGreatDoor
/- The beginning of a book is read as a beginning of its orders: plain. -/
namespace Go.Proofs.YtpmlcfgbfhgpgaaGreatDoor
open Go.RowKit
set_option linter.unusedVariables false
theorem itoa_short {n : Int} (h0 : 0 ≤ n) (h : n < 1000003) : (Lib.itoa n).length ≤ 7 := by
 obtain ⟨k, rfl⟩ := Int.eq_ofNat_of_zero_le h0
 have hk : k < 1000003 := by omega
 have d : ∀ (e j : Nat), j < 10 ^ (e + 1) → (Lib.decDigits j).length ≤ e + 1 := by
  intro e
  induction e with
  | zero => intro j hj; rw [Lib.decDigits, dif_pos (by omega)]; simp
  | succ e ih =>
   intro j hj
   rw [Lib.decDigits]
   split
   ·simp
   ·rw [List.length_append, List.length_singleton]
    have := ih (j / 10) (by rw [Nat.div_lt_iff_lt_mul (by omega)]; rw [Nat.pow_succ] at hj; omega)
    omega
 unfold Lib.itoa
 rw [if_neg (by omega)]
 exact d 6 _ (by simp; omega)
theorem textF_short : ∀ (ts : List Bs) (s : Int), (∀ o ∈ ts, rightB o = true) → (textF s ts).length ≤ 39 * ts.length := by
 intro ts
 induction ts with
 | nil => intro s _; simp [textF]
 | cons t ts ih =>
  intro s h
  have h1 := ih (sumB s t) (fun o ho => h o (by simp [ho]))
  have h2 := (rightB_iff.1 (h t (by simp))).2.1
  have h3 := itoa_short (sumB_range s t).1 (sumB_range s t).2
  simp only [textF, lineB, List.length_append, List.length_cons, List.length_nil]
  omega
theorem map_ofBs (L : List ByteArray) : (L.map txt).map ofBs = L := by rw [List.map_map]; exact List.map_id L
end Go.Proofs.YtpmlcfgbfhgpgaaGreatDoor
