/- strings.Cut at one byte. -/
import Derived.Test.YtpmlcfgbfhgpgaaGreatDoorBkD
namespace Go.Proofs.YtpmlcfgbfhgpgaaGreatDoor
open Go.RowKit Go.Shelf
set_option linter.unusedVariables false

def cutA (l : Bs) (c : UInt8) : Bs := l.takeWhile (· != c)
def cutR (l : Bs) (c : UInt8) : Bs := l.drop ((cutA l c).length + 1)
def cutF (l : Bs) (c : UInt8) : Bool := decide ((cutA l c).length < l.length)
theorem cutA_le (l : Bs) (c : UInt8) : (cutA l c).length ≤ l.length := (List.takeWhile_sublist _).length_le
theorem indexByte_cut (l : Bs) (c : UInt8) : Lib.indexByte l c = if cutF l c then ((cutA l c).length : Int) else -1 := by
  unfold cutF cutA
  induction l with
  | nil => simp [Lib.indexByte]
  | cons b l ih =>
    have hle : (l.takeWhile (· != c)).length ≤ l.length := cutA_le l c
    rw [Lib.indexByte, List.takeWhile_cons]
    by_cases e : b = c
    · subst e; simp
    · have e1 : (b == c) = false := by simpa using e
      have e2 : (b != c) = true := by simpa using e
      rw [e1, e2]
      simp only [Bool.false_eq_true, if_false, if_true, List.length_cons]
      rw [ih]
      generalize (l.takeWhile (· != c)).length = n at *
      by_cases h : n < l.length
      · have h2 : n + 1 < l.length + 1 := by omega
        have h3 : ((n : Int) == -1) = false := by rw [beq_eq_false_iff_ne]; omega
        simp only [h, h2, decide_true, if_true, h3, Bool.false_eq_true, if_false]
        omega
      · have h2 : ¬ n + 1 < l.length + 1 := by omega
        simp only [h, h2, decide_false, Bool.false_eq_true, if_false]
        rfl
theorem cutA_take (l : Bs) (c : UInt8) : cutA l c = l.take (cutA l c).length := by
  have := (List.takeWhile_prefix (p := (· != c)) (l := l))
  exact List.prefix_iff_eq_take.1 this
theorem extract_take (t : ByteArray) (i : Nat) (hi : i ≤ t.size) : t.extract 0 i = ⟨((txt t).take i).toArray⟩ := by
  apply ByteArray.ext
  apply Array.toList_inj.1
  rw [ByteArray.data_extract]
  simp [txt, -ByteArray.size_data]
theorem extract_drop (t : ByteArray) (i : Nat) (hi : i ≤ t.size) : t.extract i t.size = ⟨((txt t).drop i).toArray⟩ := by
  apply ByteArray.ext
  apply Array.toList_inj.1
  rw [ByteArray.data_extract]
  have : t.size = t.data.toList.length := Array.length_toList.symm
  rw [this]
  simp [txt, -ByteArray.size_data]
  rw [List.take_of_length_le (by simp)]

set_option maxHeartbeats 1000000 in
set_option maxRecDepth 100000 in
theorem lcut_c (t : ByteArray) (c : UInt8) (w : World) (ht : t.size ≤ 100000000) :
    Calls Tryz.prog 120 #[.string t, .string ⟨#[c]⟩] w (RV (.tuple #[.string ⟨(cutA (txt t) c).toArray⟩, .string ⟨(cutR (txt t) c).toArray⟩, .bool (cutF (txt t) c)]) w) := by
  have HI := Lib.hid (Tryz.stringslite_Index_one t c w)
  rw [show t.data.toList = txt t from rfl, indexByte_cut] at HI
  have hle := cutA_le (txt t) c
  rw [txt_size] at hle
  have HF : Hid (cutF (txt t) c = decide ((cutA (txt t) c).length < t.size)) := Lib.hid (by rw [cutF, txt_size])
  have HA := Lib.hid (cutA_take (txt t) c)
  have HR : Hid (cutR (txt t) c = (txt t).drop ((cutA (txt t) c).length + 1)) := Lib.hid rfl
  have hsz : (⟨#[c]⟩ : ByteArray).size = 1 := rfl
  generalize cutR (txt t) c = R at *
  generalize hA : cutA (txt t) c = A at *
  clear hA
  generalize hF : cutF (txt t) c = F at *
  clear hF
  cases F
  · have hF := HF.out
    have hN : A.length = t.size := by have := hF.symm; rw [decide_eq_false_iff_not] at this; omega
    have HA2 : Hid ((⟨A.toArray⟩ : ByteArray) = t) := Lib.hid (by
      rw [HA.out, hN, ← txt_size, List.take_length]; rfl)
    have HR2 : Hid ((⟨R.toArray⟩ : ByteArray) = ⟨#[]⟩) := Lib.hid (by
      rw [HR.out, List.drop_of_length_le (by rw [txt_size]; omega)])
    rw [if_neg (by decide)] at HI
    rw [HA2.out, HR2.out]
    clear hN hF
    go_enter Tryz.func120, Tryz.ntmps120
    go_wp2_with fail
    refine HI.out.mono ?_; rintro e w1 ⟨rfl, rfl⟩
    go_wp2_with fail
    go_ret3
    exact ⟨rfl, Ext.refl _⟩
  · have hN : A.length < t.size := by have := HF.out.symm; rwa [decide_eq_true_eq] at this
    rw [if_pos rfl] at HI
    have HA2 : Hid ((⟨A.toArray⟩ : ByteArray) = t.extract 0 A.length) := Lib.hid (by rw [extract_take t _ (by omega), ← HA.out])
    have HR2 : Hid ((⟨R.toArray⟩ : ByteArray) = t.extract (A.length + 1) t.size) := Lib.hid (by rw [extract_drop t _ (by omega), HR.out])
    rw [HA2.out, HR2.out]
    generalize A.length = n at *
    go_enter Tryz.func120, Tryz.ntmps120
    go_wp2_with fail
    refine HI.out.mono ?_; rintro e w1 ⟨rfl, rfl⟩
    go_wp2_with fail
    refine wp_region_later (by kernel_rfl) (by kernel_rfl) ?_
    repeat (go_big_quiet_step (fail))
    refine wpQuiet_nil ?_
    intro w5 hw'
    obtain ⟨⟨_, hx5⟩, rfl⟩ := hw'
    go_wp2_with fail
    go_ret3
    exact ⟨rfl, hx5⟩

set_option maxHeartbeats 1000000 in
theorem cut_c (t : ByteArray) (c : UInt8) (w : World) (ht : t.size ≤ 100000000) :
    Calls Tryz.prog 78 #[.string t, .string ⟨#[c]⟩] w (RV (.tuple #[.string ⟨(cutA (txt t) c).toArray⟩, .string ⟨(cutR (txt t) c).toArray⟩, .bool (cutF (txt t) c)]) w) := by
  have HC := Lib.hid (lcut_c t c w ht)
  generalize (cutA (txt t) c) = A at *
  generalize (cutR (txt t) c) = R at *
  generalize (cutF (txt t) c) = F at *
  go_enter Tryz.func78, Tryz.ntmps78
  go_wp2_with fail
  refine HC.out.mono ?_; rintro e w1 ⟨rfl, hx1⟩
  go_wp2_with fail
  go_ret3
  exact ⟨rfl, hx1⟩
end Go.Proofs.YtpmlcfgbfhgpgaaGreatDoor
