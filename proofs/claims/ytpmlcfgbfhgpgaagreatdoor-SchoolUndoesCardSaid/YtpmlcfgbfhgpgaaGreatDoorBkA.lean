/- Sums of texts, and which texts may stand in a book; both packages. -/
import Derived.Test.YtpmlcfgbfhgpgaaGreatDoorBkP
import Derived.Test.YtpmlcfgbfhgpgaaGreatDoorStru
import Derived.Test.YtpmlcfgbfhgpgaaGreatDoorRulC
namespace Go.Proofs.YtpmlcfgbfhgpgaaGreatDoor
open Go.RowKit Go.Shelf
set_option linter.unusedVariables false

theorem bs_size (t : ByteArray) : t.size = t.data.toList.length := Array.length_toList.symm
theorem bs_get (t : ByteArray) (k : Nat) (h : k < t.size) (h2 : k < t.data.toList.length) : t.data.toList[k]'h2 = t[k]'h := by
  rw [Array.getElem_toList]; rfl
set_option maxHeartbeats 1000000 in
set_option maxRecDepth 100000 in
theorem Sum_c (s : Int) (t : ByteArray) (w : World) (hs : (Lit.int .i64 s).wf = true) (ht : t.size ≤ 100000) : Calls Tryz.prog 42 #[.int .i64 s, .string t] w (RP (.int .i64 (sumB s t.data.toList)) w) := by
  obtain ⟨hs1, hs2⟩ := wf_int hs
  obtain ⟨r, hr⟩ : ∃ r, s.tmod 1000003 = r := ⟨_, rfl⟩
  have hz : s % 1000003 = if r < 0 then r + 1000003 else r := by
    have h1 := Int.tmod_eq_emod (a := s) (b := 1000003)
    rw [hr] at h1
    split at h1 <;> split <;> omega
  have hr1 : -1000003 < r ∧ r < 1000003 := by
    have h1 := Int.tmod_eq_emod (a := s) (b := 1000003)
    rw [hr] at h1
    split at h1 <;> omega
  have HT := Lib.hid (fun k (h : k < t.data.toList.length) => sumTo_succ s t.data.toList h)
  have HR := Lib.hid (fun k (h : k ≤ t.data.toList.length) => sumTo_range s t.data.toList k h)
  have HE := Lib.hid (sumTo_all s t.data.toList)
  have H0 := Lib.hid ((sumTo_zero s t.data.toList).trans hz)
  have HL := Lib.hid (bs_size t)
  generalize sumB s t.data.toList = S at *
  clear hz
  by_cases hneg : r < 0
  · have hw1 : IntKind.i64.wrap (r + 1000003) = r + 1000003 := IntWalk.i64_in _ (by omega)
    have H1 := Lib.hid (H0.out.trans (if_pos hneg))
    go_enter Tryz.func42, Tryz.ntmps42
    go_wp2_with fail
    go_loopg [15, 5] t.size (fun m i v wr => ∃ k : Nat, k ≤ t.size ∧ t.size ≤ k + m ∧ i = .int .i64 k ∧ v = .int .i64 (sumTo s t.data.toList k) ∧ w = wr)
    case atStart => exact ⟨0, by omega, by omega, rfl, by rw [H1.out], rfl⟩
    case round =>
      obtain ⟨k, hk, hk2, rfl, rfl, rfl⟩ := hrel
      by_cases hlt : k < t.size
      · clear hr
        obtain ⟨hra, hrb⟩ := HR.out k (by have := HL.out; omega)
        have hTK := HT.out k (by have := HL.out; omega)
        rw [bs_get t k hlt] at hTK
        have hby : ((t[k]'hlt).toNat : Int) ≤ 255 := by have := UInt8.toNat_lt (t[k]'hlt); omega
        obtain ⟨b, hb⟩ : ∃ b : Nat, (t[k]'hlt).toNat = b := ⟨_, rfl⟩
        rw [hb] at hTK hby
        generalize hq2 : sumTo s t.data.toList (k + 1) = q2 at *
        have HQ := Lib.hid hq2; clear hq2
        generalize sumTo s t.data.toList k = q at *
        have HTK := Lib.hid hTK; clear hTK
        have hwA : wrap64 (b : Int) = b := IntWalk.wrap64_in _ (by omega)
        have hwB : wrap64 (q * 257 + b) = q * 257 + b := IntWalk.wrap64_in _ (by omega)
        have hwC : wrap64 (q * 257 + b + 1) = q * 257 + b + 1 := IntWalk.wrap64_in _ (by omega)
        have hT : (q * 257 + b + 1).tmod 1000003 = q2 := by rw [HTK.out]; exact Int.tmod_eq_emod_of_nonneg (by omega)
        go_wp2_with fail
        go_roundg (gk-1)
        case measure => omega
        case rel => exact ⟨k+1, by omega, by omega, by go_num, by rw [HQ.out], rfl⟩
      · obtain rfl : k = t.size := by omega
        have HE2 := Lib.hid (show sumTo s t.data.toList t.size = S by rw [← HE.out, HL.out])
        go_wp2_with fail
        go_ret
        exact RP.int HE2.out
  · have H1 := Lib.hid (H0.out.trans (if_neg hneg))
    go_enter Tryz.func42, Tryz.ntmps42
    go_wp2_with fail
    go_loopg [15, 5] t.size (fun m i v wr => ∃ k : Nat, k ≤ t.size ∧ t.size ≤ k + m ∧ i = .int .i64 k ∧ v = .int .i64 (sumTo s t.data.toList k) ∧ w = wr)
    case atStart => exact ⟨0, by omega, by omega, rfl, by rw [H1.out], rfl⟩
    case round =>
      obtain ⟨k, hk, hk2, rfl, rfl, rfl⟩ := hrel
      by_cases hlt : k < t.size
      · clear hr
        obtain ⟨hra, hrb⟩ := HR.out k (by have := HL.out; omega)
        have hTK := HT.out k (by have := HL.out; omega)
        rw [bs_get t k hlt] at hTK
        have hby : ((t[k]'hlt).toNat : Int) ≤ 255 := by have := UInt8.toNat_lt (t[k]'hlt); omega
        obtain ⟨b, hb⟩ : ∃ b : Nat, (t[k]'hlt).toNat = b := ⟨_, rfl⟩
        rw [hb] at hTK hby
        generalize hq2 : sumTo s t.data.toList (k + 1) = q2 at *
        have HQ := Lib.hid hq2; clear hq2
        generalize sumTo s t.data.toList k = q at *
        have HTK := Lib.hid hTK; clear hTK
        have hwA : wrap64 (b : Int) = b := IntWalk.wrap64_in _ (by omega)
        have hwB : wrap64 (q * 257 + b) = q * 257 + b := IntWalk.wrap64_in _ (by omega)
        have hwC : wrap64 (q * 257 + b + 1) = q * 257 + b + 1 := IntWalk.wrap64_in _ (by omega)
        have hT : (q * 257 + b + 1).tmod 1000003 = q2 := by rw [HTK.out]; exact Int.tmod_eq_emod_of_nonneg (by omega)
        go_wp2_with fail
        go_roundg (gk-1)
        case measure => omega
        case rel => exact ⟨k+1, by omega, by omega, by go_num, by rw [HQ.out], rfl⟩
      · obtain rfl : k = t.size := by omega
        have HE2 := Lib.hid (show sumTo s t.data.toList t.size = S by rw [← HE.out, HL.out])
        go_wp2_with fail
        go_ret
        exact RP.int HE2.out

set_option maxHeartbeats 1000000 in
set_option maxRecDepth 100000 in
theorem rSum_c (s : Int) (t : ByteArray) (w : World) (hs : (Lit.int .i64 s).wf = true) (ht : t.size ≤ 100000) : Calls Tryz.prog 43 #[.int .i64 s, .string t] w (RP (.int .i64 (sumB s t.data.toList)) w) := by
  obtain ⟨hs1, hs2⟩ := wf_int hs
  obtain ⟨r, hr⟩ : ∃ r, s.tmod 1000003 = r := ⟨_, rfl⟩
  have hz : s % 1000003 = if r < 0 then r + 1000003 else r := by
    have h1 := Int.tmod_eq_emod (a := s) (b := 1000003)
    rw [hr] at h1
    split at h1 <;> split <;> omega
  have hr1 : -1000003 < r ∧ r < 1000003 := by
    have h1 := Int.tmod_eq_emod (a := s) (b := 1000003)
    rw [hr] at h1
    split at h1 <;> omega
  have HT := Lib.hid (fun k (h : k < t.data.toList.length) => sumTo_succ s t.data.toList h)
  have HR := Lib.hid (fun k (h : k ≤ t.data.toList.length) => sumTo_range s t.data.toList k h)
  have HE := Lib.hid (sumTo_all s t.data.toList)
  have H0 := Lib.hid ((sumTo_zero s t.data.toList).trans hz)
  have HL := Lib.hid (bs_size t)
  generalize sumB s t.data.toList = S at *
  have hz2 : (r + 1000003).tmod 1000003 = if r < 0 then r + 1000003 else r := by
    rw [Int.tmod_eq_emod_of_nonneg (by omega)]
    split <;> omega
  have H1 := Lib.hid (H0.out.trans hz2.symm)
  have hw1 : IntKind.i64.wrap (r + 1000003) = r + 1000003 := IntWalk.i64_in _ (by omega)
  clear hz hz2
  generalize hrr : (r + 1000003).tmod 1000003 = rr at *
  go_enter Tryz.func43, Tryz.ntmps43
  go_wp2_with fail
  go_loopg [6, 5] t.size (fun m i v wr => ∃ k : Nat, k ≤ t.size ∧ t.size ≤ k + m ∧ i = .int .i64 k ∧ v = .int .i64 (sumTo s t.data.toList k) ∧ w = wr)
  case atStart => exact ⟨0, by omega, by omega, rfl, by rw [H1.out], rfl⟩
  case round =>
    obtain ⟨k, hk, hk2, rfl, rfl, rfl⟩ := hrel
    by_cases hlt : k < t.size
    · clear hr hrr
      obtain ⟨hra, hrb⟩ := HR.out k (by have := HL.out; omega)
      have hTK := HT.out k (by have := HL.out; omega)
      rw [bs_get t k hlt] at hTK
      have hby : ((t[k]'hlt).toNat : Int) ≤ 255 := by have := UInt8.toNat_lt (t[k]'hlt); omega
      obtain ⟨b, hb⟩ : ∃ b : Nat, (t[k]'hlt).toNat = b := ⟨_, rfl⟩
      rw [hb] at hTK hby
      generalize hq2 : sumTo s t.data.toList (k + 1) = q2 at *
      have HQ := Lib.hid hq2; clear hq2
      generalize sumTo s t.data.toList k = q at *
      have HTK := Lib.hid hTK; clear hTK
      have hwA : wrap64 (b : Int) = b := IntWalk.wrap64_in _ (by omega)
      have hwB : wrap64 (q * 257 + b) = q * 257 + b := IntWalk.wrap64_in _ (by omega)
      have hwC : wrap64 (q * 257 + b + 1) = q * 257 + b + 1 := IntWalk.wrap64_in _ (by omega)
      have hT : (q * 257 + b + 1).tmod 1000003 = q2 := by rw [HTK.out]; exact Int.tmod_eq_emod_of_nonneg (by omega)
      go_wp2_with fail
      go_roundg (gk-1)
      case measure => omega
      case rel => exact ⟨k+1, by omega, by omega, by go_num, by rw [HQ.out], rfl⟩
    · obtain rfl : k = t.size := by omega
      have HE2 := Lib.hid (show sumTo s t.data.toList t.size = S by rw [← HE.out, HL.out])
      go_wp2_with fail
      go_ret
      exact RP.int HE2.out

/-! ## which texts may stand in a book -/
set_option maxHeartbeats 1000000 in
set_option maxRecDepth 100000 in
theorem Right_c (t : ByteArray) (w : World) (ht : t.size ≤ 100000) : Calls Tryz.prog 81 #[.string t] w (RP (.bool (rightB t.data.toList)) w) := by
  have HL := Lib.hid (bs_size t)
  have HR : Hid ((rightB t.data.toList = true ↔ (1 ≤ t.size ∧ t.size ≤ 30 ∧ ∀ j (h : j < t.size), t[j].toNat ≠ 10))) := Lib.hid (by
    rw [rightB_iff, ← HL.out]
    refine and_congr Iff.rfl (and_congr Iff.rfl ⟨fun h j hj e => h ?_, fun h hm => ?_⟩)
    · have : t[j] = 10 := by apply UInt8.toNat_inj.1; rw [e]; rfl
      rw [← this, ← bs_get t j hj (by have := HL.out; omega)]
      exact List.getElem_mem _
    · obtain ⟨j, hj, he⟩ := List.mem_iff_getElem.1 hm
      have hj' : j < t.size := by have := HL.out; omega
      refine h j hj' ?_
      rw [← bs_get t j hj' hj, he]; rfl)
  generalize rightB t.data.toList = R at *
  go_enter Tryz.func81, Tryz.ntmps81
  go_wp2_with fail
  go_loopg [3] t.size (fun m i wr => ∃ k : Nat, k ≤ t.size ∧ t.size ≤ k + m ∧ i = .int .i64 k ∧ w = wr ∧ Hid (∀ j (h : j < t.size), j < k → t[j].toNat ≠ 10))
  case atStart => exact ⟨0, by omega, by omega, rfl, rfl, fun j _ hj => by omega⟩
  case round =>
    obtain ⟨k, hk, hk2, rfl, rfl, hE⟩ := hrel
    by_cases hlt : k < t.size
    · obtain ⟨b, hb⟩ : ∃ b : Nat, (t[k]'hlt).toNat = b := ⟨_, rfl⟩
      by_cases hbe : b = 10
      · have HF := Lib.hid (show false = R by
          cases R
          · rfl
          · exact absurd (hb.trans hbe) ((HR.out.1 rfl).2.2 k hlt))
        subst hbe
        go_wp2_with fail
        go_ret
        exact RP.bool HF.out
      · have hd : ((b : Int) == 10) = false := by simp; omega
        have HB := Lib.hid hbe; clear hbe
        have HBB := Lib.hid hb
        go_wp2_with fail
        go_roundg (gk-1)
        case measure => omega
        case rel => exact ⟨k+1, by omega, by omega, by go_num, rfl, fun j h hj => by
          by_cases e : j = k
          · subst e; rw [HBB.out]; exact HB.out
          · exact hE.out j h (by omega)⟩
    · have HT := Lib.hid (show (decide (1 ≤ t.size) && decide (t.size ≤ 30)) = R by
        rw [Bool.eq_iff_iff, HR.out, Bool.and_eq_true, decide_eq_true_eq, decide_eq_true_eq]
        exact ⟨fun h => ⟨h.1, h.2, fun j hj => hE.out j hj (by omega)⟩, fun h => ⟨h.1, h.2.1⟩⟩)
      by_cases h1 : 1 ≤ t.size
      · go_wp2_with fail
        go_ret
        exact RP.bool (by rw [← HT.out, Bool.eq_iff_iff]; simp [h1] <;> omega)
      · go_wp2_with fail
        go_ret
        exact RP.bool (by rw [← HT.out, Bool.eq_iff_iff]; simp [h1] <;> omega)
end Go.Proofs.YtpmlcfgbfhgpgaaGreatDoor
