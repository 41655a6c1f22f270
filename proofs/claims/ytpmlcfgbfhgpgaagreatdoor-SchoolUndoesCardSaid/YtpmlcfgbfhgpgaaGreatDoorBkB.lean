/- Lines of a book: the program's. -/
import Derived.Test.YtpmlcfgbfhgpgaaGreatDoorBld
import Derived.Lib.LaidTab
import Derived.Lib.AppendIntMem
namespace Go.Proofs.YtpmlcfgbfhgpgaaGreatDoor
open Go.RowKit Go.Shelf
set_option linter.unusedVariables false

/-- what the walks ask of the package-level variables -/
structure Env (w : World) : Prop where
  tab : Lib.TabIs Tryz.prog w "internal/strconv.uint64pow10" .u64 Lib.pow10Tab
  syn : ∃ t p, w.cell? ⟨3, 0, none⟩ = some (.iface t p)
  rng : ∃ t p, w.cell? ⟨4, 0, none⟩ = some (.iface t p)
theorem tab_ext {w w' : World} (h : Lib.TabIs Tryz.prog w "internal/strconv.uint64pow10" .u64 Lib.pow10Tab) (hx : Ext w w') : Lib.TabIs Tryz.prog w' "internal/strconv.uint64pow10" .u64 Lib.pow10Tab := by
  unfold Lib.TabIs World.var? at *
  cases hg : Tryz.prog.globalNamed "internal/strconv.uint64pow10" with
  | none => rw [hg] at h; cases h
  | some g =>
    rw [hg] at h
    simp only [Option.bind_some] at h ⊢
    rcases Nat.lt_or_ge g w.heap.size with hl | hl
    · rw [hx.block g hl]; exact h
    · rw [Array.getElem?_eq_none hl] at h; cases h
theorem Env.ext {w w' : World} (h : Env w) (hx : Ext w w') : Env w' := by
  obtain ⟨h1, ⟨t, p, h2⟩, ⟨t2, p2, h3⟩⟩ := h
  exact ⟨tab_ext h1 hx, ⟨t, p, hx.keep h2⟩, ⟨t2, p2, hx.keep h3⟩⟩
theorem Itoa_c (n : Int) (w : World) (hE : Env w) (h0 : -9223372036854775808 ≤ n) (h1 : n ≤ 9223372036854775807) : Calls Tryz.prog 82 #[.int .i64 n] w (RV (.string ⟨(Lib.itoa n).toArray⟩) w) :=
  (Tryz.strconv_Itoa n h0 h1 w hE.tab).mono fun e w' ⟨he, k, os, hw⟩ => ⟨he, by rw [hw]; exact Lib.below_grow _ _ (Nat.le_refl _) k os⟩
theorem indexByte_has (l : List UInt8) (c : UInt8) : decide (0 ≤ Lib.indexByte l c) = l.contains c := by
  induction l with
  | nil => simp [Lib.indexByte]
  | cons b l ih =>
    have hge := Lib.indexByte_ge l c
    rw [Lib.indexByte, List.contains_cons]
    by_cases e : b = c
    · subst e; simp
    · have e1 : (b == c) = false := by simpa using e
      have e2 : (c == b) = false := by simp; exact fun h => e h.symm
      rw [e1, e2, Bool.false_or, ← ih]
      simp only [Bool.false_eq_true, if_false]
      split
      · rename_i h; have h : Lib.indexByte l c = -1 := by simpa using h
        rw [h]
      · rename_i h; have h : Lib.indexByte l c ≠ -1 := by simpa using h
        rw [Bool.eq_iff_iff]; simp; omega

set_option maxHeartbeats 1000000 in
set_option maxRecDepth 100000 in
theorem isText_c (t : ByteArray) (w : World) : Calls Tryz.prog 79 #[.string t] w (RP (.bool (rightB t.data.toList)) w) := by
  have HL := Lib.hid (bs_size t)
  have HR : Hid (rightB t.data.toList = (decide (1 ≤ t.size) && (decide (t.size ≤ 30) && !t.data.toList.contains 10))) := Lib.hid (by rw [rightB, HL.out])
  have HC := Lib.hid (Tryz.strings_Contains_one t 10 w)
  rw [indexByte_has] at HC
  generalize t.data.toList.contains 10 = C at *
  generalize rightB t.data.toList = R at *
  by_cases h1 : 1 ≤ t.size
  · by_cases h30 : t.size ≤ 30
    · go_enter Tryz.func79, Tryz.ntmps79
      go_wp2_with fail
      refine HC.out.mono ?_; rintro e w1 ⟨rfl, rfl⟩
      go_wp2_with fail
      go_ret
      exact RP.bool (by rw [HR.out]; simp [h1, h30])
    · go_enter Tryz.func79, Tryz.ntmps79
      go_wp2_with fail
      go_ret
      exact RP.bool (by rw [HR.out]; simp [h1, h30])
  · go_enter Tryz.func79, Tryz.ntmps79
    go_wp2_with fail
    go_ret
    exact RP.bool (by rw [HR.out]; simp [h1])

theorem decDigits_len : ∀ (k n : Nat), n < 10 ^ (k + 1) → (Lib.decDigits n).length ≤ k + 1 := by
  intro k
  induction k with
  | zero =>
    intro n h
    rw [Lib.decDigits, dif_pos (by simpa using h)]; simp
  | succ k ih =>
    intro n h
    rw [Lib.decDigits]
    split
    · simp
    · rw [List.length_append]
      have := ih (n / 10) (by rw [Nat.div_lt_iff_lt_mul (by omega)]; rw [Nat.pow_succ] at h; exact h)
      simp; omega
theorem itoa_len {n : Int} (h0 : 0 ≤ n) (h1 : n < 1000003) : (Lib.itoa n).length ≤ 7 := by
  unfold Lib.itoa
  rw [if_neg (by omega)]
  exact decDigits_len 6 _ (by omega)
theorem line_str (s : Int) (t : ByteArray) : (⟨(Lib.itoa (sumB s t.data.toList)).toArray⟩ ++ ⟨#[32]⟩ ++ t ++ ⟨#[10]⟩ : ByteArray) = ⟨(lineB s t.data.toList).toArray⟩ := by
  apply ByteArray.ext
  simp [lineB, ByteArray.data_append]
set_option maxHeartbeats 1000000 in
set_option maxRecDepth 100000 in
theorem line_c (s : Int) (t : ByteArray) (w : World) (hE : Env w) (hs : (Lit.int .i64 s).wf = true) (ht : t.size ≤ 100000) :
    Calls Tryz.prog 80 #[.int .i64 s, .string t] w (RV (.tuple #[.string ⟨(lineB s t.data.toList).toArray⟩, .int .i64 (sumB s t.data.toList)]) w) := by
  have HS := Lib.hid (Sum_c s t w hs ht)
  have hr := sumB_range s t.data.toList
  have HI := Lib.hid (Itoa_c (sumB s t.data.toList) w hE (by omega) (by omega))
  have HLS := Lib.hid (line_str s t)
  generalize (lineB s t.data.toList) = LB at *
  generalize sumB s t.data.toList = S at *
  have hIl := itoa_len hr.1 hr.2
  generalize Lib.itoa S = I at *
  go_enter Tryz.func80, Tryz.ntmps80
  go_wp2_with fail
  refine HS.out.mono ?_; rintro e w1 ⟨rfl, rfl⟩
  go_wp2_with fail
  refine HI.out.mono ?_; rintro e w2 ⟨rfl, hx2⟩
  go_wp2_with fail
  go_ret2
  exact ⟨congrArg (fun x => Ending.returned (.tuple #[.string x, .int .i64 S])) HLS.out, hx2⟩
end Go.Proofs.YtpmlcfgbfhgpgaaGreatDoor
