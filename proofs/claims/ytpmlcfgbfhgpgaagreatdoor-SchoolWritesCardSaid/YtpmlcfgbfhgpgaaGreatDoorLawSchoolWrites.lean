/- SchoolWrites: the walk. -/
import Derived.Test.YtpmlcfgbfhgpgaaGreatDoorJoinB
import Derived.Test.YtpmlcfgbfhgpgaaGreatDoorJoinC
namespace Go.Proofs.YtpmlcfgbfhgpgaaGreatDoor
open Go.RowKit Go.Shelf
set_option linter.unusedVariables false

theorem strs_pre {w : World} {a : Option Addr} {n c m : Nat} {L : List ByteArray} (h : Strs w (.slice a n c) L) (hm : m ≤ L.length) : Strs w (.slice a m m) (L.take m) := by
  obtain ⟨a', c', hv, h1, h2, H⟩ := h
  injection hv with e1 e2 e3
  subst e1 e2 e3
  have hl : (L.take m).length = m := by rw [List.length_take]; omega
  refine ⟨a, m, by rw [hl], by rw [hl]; omega, by omega, fun i hi => ?_⟩
  rw [hl] at hi
  obtain ⟨b, o, ha, hc⟩ := H i (by omega)
  exact ⟨b, o, ha, fun j x u hx hu => hc j x u (by rwa [List.getElem?_take_of_lt hi] at hx) hu⟩
theorem uint_mod (z : Int) (n : Nat) (hn : n < 1000000) : ∃ kk : Nat, kk ≤ n ∧ wrap64 ((IntKind.u64.wrap z).tmod ((n : Int) + 1)) = (kk : Int) := by
  have h0 : 0 ≤ IntKind.u64.wrap z := by
    unfold IntKind.wrap; simp [IntKind.bits, IntKind.signed]; omega
  have h1 := Int.tmod_lt_of_pos (IntKind.u64.wrap z) (show (0 : Int) < (n : Int) + 1 by omega)
  have h2 := Int.tmod_nonneg ((n : Int) + 1) h0
  generalize (IntKind.u64.wrap z).tmod ((n : Int) + 1) = r at *
  exact ⟨r.toNat, by omega, by rw [Go.IntWalk.wrap64_in _ (by omega)]; omega⟩
set_option maxHeartbeats 4000000 in
theorem schoolWrites_c (v : Value) (z : Int) (L : List ByteArray) (w : World) (h : Strs w v L) (hz : (Lit.int .i64 z).wf = true) (hE : Env w) (hT : ErrT w) (h7 : 7 ≤ w.heap.size) :
    Calls Tryz.prog 8 #[v, .int .i64 z] w (RV (.bool true) w) := by
  have HSA := Lib.hid (fun W (q : Ext w W) => sane_c W (hE.ext q) (hT.ext q) (Nat.le_trans h7 q.size))
  have HLO := Lib.hid (Long9_c v L w h)
  have HE := Lib.hid hE
  have HL := Lib.hid h
  obtain ⟨a, c, rfl, hc1, hc2, _⟩ := h.open_
  clear hE hT
  cases hb : longT L with
  | true =>
    rw [hb] at HLO
    clear h hb
    go_enter Tryz.func8, Tryz.ntmps8
    go_wp2_with fail
    refine HLO.out.mono ?_; rintro e w1 ⟨rfl, hx1⟩
    go_wp2_with fail
    refine (HSA.out w1 hx1).mono ?_; rintro e w2 ⟨rfl, hx2⟩
    go_wp2_with fail
    go_ret
    exact ⟨rfl, hx1.trans hx2⟩
  | false =>
    rw [hb] at HLO
    obtain ⟨hq1, hq2⟩ := longT_ok hb
    have HW := Lib.hid (fun W (q : Ext w W) => Write_c _ L W (HL.out.ext q) (HE.out.ext q))
    have HR := Lib.hid (fun W (q : Ext w W) => rWrite_c _ L W (HL.out.ext q) (HE.out.ext q) (fun t ht => by have := hq2 t ht; omega))
    clear h hb
    have HP := Lib.hid (fun h => writes_plain (L := L) h)
    have hK : writeK L = 0 ∨ (0 < writeK L ∧ writeK L ≤ 3) := by
      unfold writeK; split
      · right; decide
      · split
        · left; rfl
        · right; decide
    generalize hB : writeB L = B at *
    generalize hKK : writeK L = K at *
    clear hB hKK
    have hbb : ((⟨B.toArray⟩ : ByteArray).toList == (⟨B.toArray⟩ : ByteArray).toList) = true := by simp
    have hnb : ((⟨B.toArray⟩ : ByteArray).toList != (⟨B.toArray⟩ : ByteArray).toList) = false := by simp
    rcases hK with rfl | hK
    · obtain ⟨p1, p2, p3, p4⟩ := HP.out rfl
      have hbs : (⟨B.toArray⟩ : ByteArray).size = B.length := ofBs_size B
      have HRD := Lib.hid (fun W (q : Ext w W) => Read_c ⟨B.toArray⟩ W (HE.out.ext q) (by rw [hbs]; omega))
      rw [show txt ⟨B.toArray⟩ = B from txt_of B, p2, p3] at HRD
      obtain ⟨kk, hkk, hke⟩ : ∃ kk : Nat, kk ≤ B.length ∧ wrap64 ((IntKind.u64.wrap z).tmod ((B.length : Int) + 1)) = (kk : Int) := uint_mod z B.length (by omega)
      obtain ⟨mm, hmm, hm2, hm3⟩ := p4 kk
      have hx2k : (⟨B.toArray⟩ : ByteArray).extract 0 kk = ⟨(B.take kk).toArray⟩ := extract_take _ kk (by omega)
      have hks : (⟨(B.take kk).toArray⟩ : ByteArray).size = (B.take kk).length := ofBs_size _
      have htk : (B.take kk).length ≤ 3900 := by rw [List.length_take]; omega
      have HRD2 := Lib.hid (fun W (q : Ext w W) => Read_c ⟨(B.take kk).toArray⟩ W (HE.out.ext q) (by rw [hks]; omega))
      rw [show txt ⟨(B.take kk).toArray⟩ = B.take kk from txt_of _, hm2] at HRD2
      have hln : (L.take mm).length = mm := by rw [List.length_take]; omega
      generalize readRest (B.take kk) = RR at *
      clear p4 p2 p3 HP
      go_enter Tryz.func8, Tryz.ntmps8
      go_wp2_with fail
      refine HLO.out.mono ?_; rintro e w1 ⟨rfl, hx1⟩
      go_wp2_with fail
      refine (HW.out w1 hx1).mono ?_; rintro e w2 ⟨rfl, hx2⟩
      go_wp2_with fail
      have hx12 := hx1.trans hx2
      refine (HR.out w2 hx12).mono ?_; rintro e w3 ⟨rfl, hx3⟩
      have hx13 := hx12.trans hx3
      go_wp2_with fail
      refine (HRD.out w3 hx13).mono ?_; rintro e w4 ⟨va, rfl, hoa, hx4⟩
      have hx14 := hx13.trans hx4
      have HST := Lib.hid (sameTexts_c va _ L w4 (Cel.own encT_len hoa) (HL.out.ext hx14))
      obtain ⟨aa, ca, hva, _⟩ := (Cel.own encT_len hoa).open_
      subst hva
      clear hoa
      go_wp2_with fail
      refine HST.out.mono ?_; rintro e w5 ⟨rfl, n5, hw5⟩
      have hx15 : Ext w w5 := by rw [hw5]; exact hx14.trans (Ext.drewN _ _)
      clear hw5
      go_wp2_with fail
      refine (HRD2.out w5 hx15).mono ?_; rintro e w6 ⟨vb, rfl, hob, hx6⟩
      have hx16 := hx15.trans hx6
      have hsub : Strs w6 (.slice a mm mm) (L.take mm) := strs_pre (HL.out.ext hx16) (by omega)
      have HS2 := Lib.hid (sameTexts_c vb _ (L.take mm) w6 (Cel.own encT_len hob) hsub)
      obtain ⟨ab, cb, hvb, _⟩ := (Cel.own encT_len hob).open_
      subst hvb
      clear hob
      rw [hln] at HS2
      have hmi : decide ((mm : Int) ≤ (L.length : Int)) = true := decide_eq_true (by omega)
      have hend : ∀ W, Ext w W → Calls Tryz.prog 22 #[] W (RV (.bool true) W) := fun W q => HSA.out W q
      by_cases hrr : (RR.toList == []) = true
      · go_wp2_with fail
        refine HS2.out.mono ?_; rintro e w7 ⟨rfl, n7, hw7⟩
        have hx17 : Ext w w7 := by rw [hw7]; exact hx16.trans (Ext.drewN _ _)
        clear hw7
        go_wp2_with fail
        refine (HSA.out w7 hx17).mono ?_; rintro e w8 ⟨rfl, hx8⟩
        go_wp2_with fail
        go_ret
        exact ⟨rfl, hx17.trans hx8⟩
      · have hrf : (RR.toList == []) = false := by simpa using hrr
        have hmlt : mm < L.length := by
          rcases hm3 with h | h
          · exact absurd (by rw [h]; exact (rest_empty []).trans (by simp)) hrr
          · exact h
        have hmi2 : decide ((mm : Int) < (L.length : Int)) = true := decide_eq_true (by omega)
        clear hm3 hrr
        go_wp2_with fail
        refine HS2.out.mono ?_; rintro e w7 ⟨rfl, n7, hw7⟩
        have hx17 : Ext w w7 := by rw [hw7]; exact hx16.trans (Ext.drewN _ _)
        clear hw7
        go_wp2_with fail
        refine (HSA.out w7 hx17).mono ?_; rintro e w8 ⟨rfl, hx8⟩
        go_wp2_with fail
        go_ret
        exact ⟨rfl, hx17.trans hx8⟩
    · have hk0 : (K != 0) = true := by simp; omega
      have hkk : (K != K) = false := by simp
      have hk1 : (K == 0) = false := by simp; omega
      clear HP
      go_enter Tryz.func8, Tryz.ntmps8
      go_wp2_with fail
      refine HLO.out.mono ?_; rintro e w1 ⟨rfl, hx1⟩
      go_wp2_with fail
      refine (HW.out w1 hx1).mono ?_; rintro e w2 ⟨rfl, hx2⟩
      go_wp2_with fail
      have hx12 := hx1.trans hx2
      refine (HR.out w2 hx12).mono ?_; rintro e w3 ⟨rfl, hx3⟩
      have hx13 := hx12.trans hx3
      go_wp2_with fail
      refine (HSA.out w3 hx13).mono ?_; rintro e w4 ⟨rfl, hx4⟩
      go_wp2_with fail
      go_ret
      exact ⟨rfl, hx13.trans hx4⟩
end Go.Proofs.YtpmlcfgbfhgpgaaGreatDoor
