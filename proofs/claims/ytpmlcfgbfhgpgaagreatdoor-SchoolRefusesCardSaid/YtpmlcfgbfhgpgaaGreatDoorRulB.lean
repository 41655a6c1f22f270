/- What may be on a side, the neighbors at a place, the places of a rule in a word; both packages. -/
import Derived.Test.YtpmlcfgbfhgpgaaGreatDoorRulA
namespace Go.Proofs.YtpmlcfgbfhgpgaaGreatDoor
open Go.RowKit Go.Shelf
set_option linter.unusedVariables false
def mayB (s : List Int) (n : Int) : Bool := s.length == 0 || hasB s n
def atI (w : List Int) (i : Int) : Int := if 0 ≤ i ∧ i ≤ (w.length : Int) - 1 then w[i.toNat]?.getD 0 else -1
def lng (x : Rul) : Nat := if x.f = -1 then 0 else 1
def placeAt (x : Rul) (w : List Int) (i : Int) : Bool := (x.f == -1 || atI w i == x.f) && (mayB x.l (atI w (i - 1)) && mayB x.r (atI w (i + lng x)))
def placeB (x : Rul) (w : List Int) (i : Int) : Bool := decide (0 ≤ i) && decide (i + lng x ≤ w.length) && placeAt x w i
def placesL (x : Rul) (w : List Int) : List Int := sel (w.length + 1 - lng x) (fun i => placeAt x w i)
theorem sndB_at {w : List Int} (h : sndB w = true) (i : Nat) (hi : i < w.length) : 0 ≤ w[i]?.getD 0 ∧ w[i]?.getD 0 ≤ 5 := by
 unfold sndB allB at h
 rw [List.all_eq_true] at h
 have := h i (by simpa using hi)
 simpa [inB] using this
theorem atI_in {w : List Int} (h : sndB w = true) (i : Int) : -1 ≤ atI w i ∧ atI w i ≤ 5 := by
 unfold atI; split
 ·rename_i hi
  have := sndB_at h i.toNat (by omega)
  omega
 ·omega
theorem lng_le (x : Rul) : lng x ≤ 1 := by unfold lng; split <;> omega
theorem sel_congr {n : Nat} {f g : Nat → Bool} (h : ∀ i, i < n → f i = g i) : sel n f = sel n g := by
 unfold sel
 congr 1
 exact List.filter_congr (fun i hi => h i (by simpa using hi))
theorem placesL_all (x : Rul) (w : List Int) : placesL x w = sel (w.length + 1) (fun i => placeB x w i) := by
 unfold placesL
 by_cases h : lng x = 0
 ·rw [h, Nat.sub_zero]
  refine sel_congr fun i hi => ?_
  simp only [placeB, h]
  have h1 : decide ((0 : Int) ≤ (i : Int)) = true := by simp
  have h2 : decide ((i : Int) + ((0 : Nat) : Int) ≤ (w.length : Int)) = true := by simp; omega
  rw [h1, h2]; rfl
 ·have h1 : lng x = 1 := by have := lng_le x; omega
  rw [h1, Nat.add_sub_cancel, sel_no (k := w.length)]
  ·refine sel_congr fun i hi => ?_
   simp only [placeB, h1]
   have h1 : decide ((0 : Int) ≤ (i : Int)) = true := by simp
   have h2 : decide ((i : Int) + ((1 : Nat) : Int) ≤ (w.length : Int)) = true := by simp; omega
   rw [h1, h2]; rfl
  ·simp only [placeB, h1]
   have h2 : decide ((w.length : Int) + ((1 : Nat) : Int) ≤ (w.length : Int)) = false := by simp; omega
   rw [h2, Bool.and_false]; rfl
theorem rmay_c (v : Value) (l : List Int) (n : Int) (w : World) (h : Ints w v l) : Calls Tryz.prog 253 #[v, .int .i64 n] w (RV (.bool (mayB l n)) w) := by
 have HH := Lib.hid (has_c v l n w h)
 obtain ⟨a, c, rfl, h1, h2, H⟩ := h.open_
 clear h
 by_cases h0 : l.length = 0
 ·have hd : ((l.length : Int) == 0) = true := by simp [h0]
  rw [show mayB l n = true by simp [mayB, h0]]
  clear h0
  go_enter Tryz.func253, Tryz.ntmps253
  go_wp2_with fail
  go_ret
  exact RV.bool rfl (Ext.refl _)
 ·have hd : ((l.length : Int) == 0) = false := by simp [h0]
  rw [show mayB l n = hasB l n by simp [mayB, h0]]
  clear h0
  generalize hasB l n = b at *
  go_enter Tryz.func253, Tryz.ntmps253
  go_wp2_with fail
  refine HH.out.mono ?_; rintro e w1 ⟨rfl, rfl⟩
  go_wp2_with fail
  go_ret
  exact RV.bool rfl (Ext.refl _)
theorem at_c (v : Value) (l : List Int) (i : Int) (w : World) (h : Ints w v l) (hi : -100000 ≤ i) (hi2 : i ≤ 100000) (hl : l.length ≤ 100000) : Calls Tryz.prog 159 #[v, .int .i64 i] w (RV (.int .i64 (atI l i)) w) := by
 obtain ⟨a, c, rfl, h1, h2, H⟩ := h.open_
 clear h
 by_cases hin : 0 ≤ i ∧ i ≤ (l.length : Int) - 1
 ·obtain ⟨n, rfl⟩ : ∃ n : Nat, i = n := ⟨i.toNat, by omega⟩
  have hlt : n < l.length := by omega
  obtain ⟨b, o, rfl, hc⟩ := H.out n hlt
  have kc : ∀ W, Ext w W → W.cell? ⟨b, o + n, none⟩ = some (.int .i64 (l[n]?.getD 0)) := fun W hW => hW.keep hc
  rw [show atI l n = l[n]?.getD 0 by rw [atI, if_pos hin]; simp]
  have HB := Lib.hid (show inB n 0 ((l.length : Int) - 1) = true by simp [inB]; omega)
  generalize l[n]?.getD 0 = y at *
  clear hin hc
  go_enter Tryz.func159, Tryz.ntmps159
  go_wp2_with fail
  refine (within_c _ _ _ _).mono ?_; rw [HB.out]; rintro e w1 ⟨rfl, hx⟩
  go_wp2_with fail
  go_ret
  exact RV.int rfl hx
 ·rw [show atI l i = -1 by rw [atI, if_neg hin]]
  have HB := Lib.hid (show inB i 0 ((l.length : Int) - 1) = false by simp [inB]; omega)
  clear hin
  go_enter Tryz.func159, Tryz.ntmps159
  go_wp2_with fail
  refine (within_c _ _ _ _).mono ?_; rw [HB.out]; rintro e w1 ⟨rfl, hx⟩
  go_wp2_with fail
  go_ret
  exact RV.int rfl hx
theorem rat_c (v : Value) (l : List Int) (i : Int) (w : World) (h : Ints w v l) (hi : -100000 ≤ i) (hi2 : i ≤ 100000) (hl : l.length ≤ 100000) : Calls Tryz.prog 254 #[v, .int .i64 i] w (RV (.int .i64 (atI l i)) w) := by
 obtain ⟨a, c, rfl, h1, h2, H⟩ := h.open_
 clear h
 by_cases hin : 0 ≤ i ∧ i ≤ (l.length : Int) - 1
 ·obtain ⟨n, rfl⟩ : ∃ n : Nat, i = n := ⟨i.toNat, by omega⟩
  have hlt : n < l.length := by omega
  obtain ⟨b, o, rfl, hc⟩ := H.out n hlt
  have kc : ∀ W, Ext w W → W.cell? ⟨b, o + n, none⟩ = some (.int .i64 (l[n]?.getD 0)) := fun W hW => hW.keep hc
  rw [show atI l n = l[n]?.getD 0 by rw [atI, if_pos hin]; simp]
  have HB := Lib.hid (show inB n 0 ((l.length : Int) - 1) = true by simp [inB]; omega)
  generalize l[n]?.getD 0 = y at *
  clear hin hc
  go_enter Tryz.func254, Tryz.ntmps254
  go_wp2_with fail
  refine (rwithin_c _ _ _ _).mono ?_; rw [HB.out]; rintro e w1 ⟨rfl, hx⟩
  go_wp2_with fail
  go_ret
  exact RV.int rfl hx
 ·rw [show atI l i = -1 by rw [atI, if_neg hin]]
  have HB := Lib.hid (show inB i 0 ((l.length : Int) - 1) = false by simp [inB]; omega)
  clear hin
  go_enter Tryz.func254, Tryz.ntmps254
  go_wp2_with fail
  refine (rwithin_c _ _ _ _).mono ?_; rw [HB.out]; rintro e w1 ⟨rfl, hx⟩
  go_wp2_with fail
  go_ret
  exact RV.int rfl hx
theorem long_c (tv lv rv : Value) (x : Rul) (w : World) : Calls Tryz.prog 158 #[.agg #[.int .i64 x.f, tv, lv, rv]] w (RV (.int .i64 (lng x)) w) := by
 obtain ⟨f, t, l, r⟩ := x
 simp only
 by_cases h : f = -1
 ·subst h
  go_enter Tryz.func158, Tryz.ntmps158
  go_wp2_with fail
  go_ret
  exact RV.int rfl (Ext.alloc _ _)
 ·have hf : (f == -1) = false := by simp [h]
  have hl : lng ⟨f, t, l, r⟩ = 1 := by simp [lng, h]
  rw [hl]
  clear hl
  go_enter Tryz.func158, Tryz.ntmps158
  go_wp2_with fail
  go_ret
  exact RV.int rfl (Ext.alloc _ _)
def sideC (s : List Int) (k : Nat) (i : Nat) : Value := .bool (decide (i < k) && mayB s ((i : Int) - 1))
def sideA (s : List Int) (k : Nat) : Array Value := #[sideC s k 0, sideC s k 1, sideC s k 2, sideC s k 3, sideC s k 4, sideC s k 5, sideC s k 6]
def sideV (s : List Int) : Value := .agg #[.bool (mayB s (-1)), .bool (mayB s 0), .bool (mayB s 1), .bool (mayB s 2), .bool (mayB s 3), .bool (mayB s 4), .bool (mayB s 5)]
def BoxS (W : World) (g : Nat) (cs : Array Value) : Prop := W.heap[g]? = some (.cells cs 216 (0, 0))
theorem BoxS.lt {W : World} {g : Nat} {cs : Array Value} (h : BoxS W g cs) : g < W.heap.size := (Array.getElem?_eq_some_iff.1 h).1
theorem BoxS.ext {W W' : World} {g : Nat} {cs : Array Value} (h : BoxS W g cs) (hx : Ext W W') : BoxS W' g cs := (hx.block g h.lt).trans h
theorem BoxS.cell {W : World} {g i : Nat} {cs : Array Value} (h : BoxS W g cs) {v : Value} (hv : cs[i]? = some v) : W.cell? ⟨g, i, none⟩ = some v := by unfold BoxS at h; simp [World.cell?, h, hv]
theorem BoxS.frozen {W : World} {g : Nat} {cs : Array Value} (h : BoxS W g cs) (i : Nat) : W.frozen? ⟨g, i, none⟩ = false := by unfold BoxS at h; simp [World.frozen?, h]
theorem BoxS.set {W : World} {g i : Nat} {cs : Array Value} (h : BoxS W g cs) (v : Value) : BoxS (W.setCell ⟨g, i, none⟩ v) g (cs.setIfInBounds i v) := by
 unfold BoxS at *
 simp [World.setCell, Array.getElem?_modify, h]
theorem BoxS.other {W : World} {g c i : Nat} {cs : Array Value} (h : BoxS W g cs) (hne : c ≠ g) (v : Value) : BoxS (W.setCell ⟨c, i, none⟩ v) g cs :=
 ((grownBy_set W c i v).block g h.lt (fun e => hne (by injection e with e; exact e.symm))).trans h
theorem Ext.setRow {w W : World} {g : Nat} (h : Ext w W) (hg : w.heap.size ≤ g) (cs : Array Value) : Ext w (W.setRow g cs) :=
 ⟨h.os, h.tape, h.output, by simpa using h.size, fun k hk => (setRow_other W g k cs (by omega)).trans (h.block k hk)⟩
theorem sideC_cell (s : List Int) {k : Nat} (hk : k < 7) : (sideA s k)[k]? = some (sideC s k k) := by
 have : k = 0 ∨ k = 1 ∨ k = 2 ∨ k = 3 ∨ k = 4 ∨ k = 5 ∨ k = 6 := by omega
 rcases this with rfl | rfl | rfl | rfl | rfl | rfl | rfl <;> rfl
theorem sideA_set (s : List Int) {k : Nat} (hk : k < 7) : (sideA s k).setIfInBounds k (.bool (mayB s ((k : Int) - 1))) = sideA s (k + 1) := by
 have : k = 0 ∨ k = 1 ∨ k = 2 ∨ k = 3 ∨ k = 4 ∨ k = 5 ∨ k = 6 := by omega
 rcases this with rfl | rfl | rfl | rfl | rfl | rfl | rfl <;> simp [sideA, sideC]
theorem sideA_zero (s : List Int) : sideA s 0 = #[.bool false, .bool false, .bool false, .bool false, .bool false, .bool false, .bool false] := by simp [sideA, sideC]
theorem sideA_end (s : List Int) : sideV s = .agg (sideA s 7) := by simp [sideV, sideA, sideC]
theorem may_c (s : List Int) (n : Int) (w : World) (h1 : -1 ≤ n) (h2 : n ≤ 5) : Calls Tryz.prog 157 #[sideV s, .int .i64 n] w (RV (.bool (mayB s n)) w) := by
 unfold sideV
 have hn : n = -1 ∨ n = 0 ∨ n = 1 ∨ n = 2 ∨ n = 3 ∨ n = 4 ∨ n = 5 := by omega
 generalize hb0 : mayB s (-1) = b0
 generalize hb1 : mayB s 0 = b1
 generalize hb2 : mayB s 1 = b2
 generalize hb3 : mayB s 2 = b3
 generalize hb4 : mayB s 3 = b4
 generalize hb5 : mayB s 4 = b5
 generalize hb6 : mayB s 5 = b6
 have HB := Lib.hid (And.intro hb0 (And.intro hb1 (And.intro hb2 (And.intro hb3 (And.intro hb4 (And.intro hb5 hb6))))))
 clear hb0 hb1 hb2 hb3 hb4 hb5 hb6 h1 h2
 rcases hn with rfl | rfl | rfl | rfl | rfl | rfl | rfl
 all_goals
  go_enter Tryz.func157, Tryz.ntmps157
  go_wp2_with fail
  go_ret
  exact RV.bool (by simp [HB.out]) (Ext.alloc _ _)
set_option maxHeartbeats 1000000 in
set_option maxRecDepth 100000 in
theorem of_c (v : Value) (s : List Int) (w : World) (h : Ints w v s) : Calls Tryz.prog 156 #[v] w (RV (sideV s) w) := by
 have HI := Lib.hid h
 obtain ⟨a, c, rfl, h1, h2, H⟩ := h.open_
 clear h
 go_enter Tryz.func156, Tryz.ntmps156
 go_wp2_with fail
 obtain ⟨w2, hw2⟩ : ∃ w2, w2 = (w.alloc (.cells #[.bool false, .bool false, .bool false, .bool false, .bool false, .bool false, .bool false] 216)).alloc (.cells #[.bool false, .bool false, .bool false, .bool false, .bool false, .bool false, .bool false] 216) := ⟨_, rfl⟩
 rw [← hw2]
 have hE : Ext w w2 := by rw [hw2]; exact (Ext.alloc _ _).trans (Ext.alloc _ _)
 have hbA : BoxS w2 w.heap.size #[.bool false, .bool false, .bool false, .bool false, .bool false, .bool false, .bool false] := by
  rw [hw2]; exact BoxS.ext (World.alloc_heap_new w _) (Ext.alloc _ _)
 have hbB : BoxS w2 (w.heap.size + 1) (sideA s 0) := by
  rw [hw2, sideA_zero]; have := World.alloc_heap_new (w.alloc (.cells #[.bool false, .bool false, .bool false, .bool false, .bool false, .bool false, .bool false] 216)) (.cells #[.bool false, .bool false, .bool false, .bool false, .bool false, .bool false, .bool false] 216); simpa [BoxS] using this
 clear hw2
 go_loopg [5] 7 (fun m i wr => ∃ k : Nat, k ≤ 7 ∧ 7 ≤ k + m ∧ i = .int .i64 k ∧ BoxS wr (w.heap.size + 1) (sideA s k) ∧ BoxS wr w.heap.size #[.bool false, .bool false, .bool false, .bool false, .bool false, .bool false, .bool false] ∧ Ext w wr)
 case atStart => exact ⟨0, by omega, by omega, rfl, hbB, hbA, hE⟩
 case round =>
  obtain ⟨k, hk, hk2, rfl, hB, hA, hX⟩ := hrel
  by_cases hlt : k < 7
  ·have hc := hB.cell (sideC_cell s hlt)
   have hf := hB.frozen k
   have hN := hB.set (i := k) (.bool (mayB s ((k : Int) - 1)))
   rw [sideA_set s hlt] at hN
   have hA2 := hA.other (c := w.heap.size + 1) (i := k) (by omega) (.bool (mayB s ((k : Int) - 1)))
   have hX2 := hX.setCell (c := w.heap.size + 1) (by omega) k (.bool (mayB s ((k : Int) - 1)))
   by_cases h0 : s.length = 0
   ·have hd : ((s.length : Int) == 0) = true := by simp [h0]
    have hm : mayB s ((k : Int) - 1) = true := by simp [mayB, h0]
    rw [hm] at hN hA2 hX2
    have HN := Lib.hid (And.intro hN (And.intro hA2 hX2))
    clear h0 hm hN hA2 hX2
    go_wp2_with fail
    go_roundg (gk-1)
    case measure => omega
    case rel => exact ⟨k+1, by omega, by omega, by go_num, HN.out.1, HN.out.2.1, HN.out.2.2⟩
   ·have hd : ((s.length : Int) == 0) = false := by simp [h0]
    have hm : mayB s ((k : Int) - 1) = hasB s ((k : Int) - 1) := by simp [mayB, h0]
    rw [hm] at hN hA2 hX2
    have HN := Lib.hid (And.intro hN (And.intro hA2 hX2))
    have HC := Lib.hid (contains_c _ s ((k : Int) - 1) wr (HI.out.ext hX))
    generalize hasB s ((k : Int) - 1) = b at *
    clear h0 hm hN hA2 hX2
    go_wp2_with fail
    refine HC.out.mono ?_; rintro e w3 ⟨rfl, rfl⟩
    go_wp2_with fail
    go_roundg (gk-1)
    case measure => omega
    case rel => exact ⟨k+1, by omega, by omega, by go_num, HN.out.1, HN.out.2.1, HN.out.2.2⟩
  ·obtain rfl : k = 7 := by omega
   rw [sideA_end]
   have hst : (storeCells ⟨w.heap.size, 0, none⟩ (sideA s 7).toList).run Tryz.prog wr = .ok () (wr.setRow w.heap.size (sideA s 7)) := by
    have := run_storeCells_at Tryz.prog w.heap.size 0 216 (sideA s 7).toList 0 _ wr hA (by simp [sideA]) (by intro v hv; simp [sideA, sideC] at hv; rcases hv with rfl | rfl | rfl | rfl | rfl | rfl | rfl <;> rfl)
    simpa [sideA] using this
   have hg5 : (wr.setRow w.heap.size (sideA s 7)).heap[w.heap.size]? = some (.cells (sideA s 7) 216 (0, 0)) := setRow_heap wr w.heap.size _ _ _ _ hA
   have hx5 : Ext w (wr.setRow w.heap.size (sideA s 7)) := Ext.setRow hX (Nat.le_refl _) _
   have HG5 := Lib.hid hg5; clear hg5
   go_wp2_with (refine wpList_load_row rfl 216 (.tmp 3) rfl (w.heap.size + 1) rfl 216 (sideA s 7) (0, 0) _ hB Tryz.underlying216 rfl rfl ?_)
   exact bodyPost_ret (v := .agg (sideA s 7)) (results_cell_row rfl _ _ w.heap.size 216 (sideA s 7) (0, 0) _ rfl HG5.out Tryz.underlying216 rfl rfl) rfl ⟨rfl, hx5⟩
theorem worded_c (tv lv rv wv : Value) (x : Rul) (l : List Int) (w : World) (h : RulR w tv lv rv x) (hw : Ints w wv l) : Calls Tryz.prog 104 #[.agg #[.int .i64 x.f, tv, lv, rv], wv] w (RV (.int .i64 (wordK x l)) w) := by
 obtain ⟨wA, hwA⟩ : ∃ wA, wA = w.alloc (.cells #[.int .i64 x.f, tv, lv, rv] 70) := ⟨_, rfl⟩
 have hE0 : Ext w wA := by rw [hwA]; exact Ext.alloc _ _
 have k0 : ∀ W, Ext wA W → W.cell? ⟨w.heap.size, 0, none⟩ = some (.int .i64 x.f) := by rw [hwA]; exact kept_alloc w _ _ rfl
 have k1 : ∀ W, Ext wA W → W.cell? ⟨w.heap.size, 1, none⟩ = some tv := by rw [hwA]; exact kept_alloc w _ _ rfl
 have k2 : ∀ W, Ext wA W → W.cell? ⟨w.heap.size, 2, none⟩ = some lv := by rw [hwA]; exact kept_alloc w _ _ rfl
 have k3 : ∀ W, Ext wA W → W.cell? ⟨w.heap.size, 3, none⟩ = some rv := by rw [hwA]; exact kept_alloc w _ _ rfl
 have H0 : Ext wA wA := Ext.refl _
 have HV := Lib.hid (Validate_c tv lv rv x wA (h.ext hE0))
 have HWW := Lib.hid (fun W (hW : Ext wA W) => ValidateWord_c wv l W (hw.ext (hE0.trans hW)))
 have HW := Lib.hid hwA; clear hwA h hw
 by_cases h0 : validR x = 0
 ·rw [show wordK x l = validW l by rw [wordK, if_pos h0]]
  rw [h0] at HV
  clear h0
  go_enter Tryz.func104, Tryz.ntmps104
  go_wp2_with fail
  rw [← HW.out]
  refine HV.out.mono ?_; rintro e w1 ⟨rfl, hx1⟩
  go_wp2_with fail
  refine (HWW.out w1 hx1).mono ?_; rintro e w2 ⟨rfl, hx2⟩
  go_wp2_with fail
  go_ret
  exact RV.int rfl (hE0.trans (hx1.trans hx2))
 ·rw [show wordK x l = validR x by rw [wordK, if_neg h0]]
  have hk : (validR x != 0) = true := by simp [h0]
  generalize validR x = k at *
  clear h0
  go_enter Tryz.func104, Tryz.ntmps104
  go_wp2_with fail
  rw [← HW.out]
  refine HV.out.mono ?_; rintro e w1 ⟨rfl, hx1⟩
  go_wp2_with fail
  go_ret
  exact RV.int rfl (hE0.trans hx1)
theorem asked_c (tv lv rv wv : Value) (x : Rul) (l : List Int) (w : World) (h : RulR w tv lv rv x) (hw : Ints w wv l) : Calls Tryz.prog 235 #[.agg #[.int .i64 x.f, tv, lv, rv], wv] w (RV (.int .i64 (wordK x l)) w) := by
 obtain ⟨wA, hwA⟩ : ∃ wA, wA = w.alloc (.cells #[.int .i64 x.f, tv, lv, rv] 70) := ⟨_, rfl⟩
 have hE0 : Ext w wA := by rw [hwA]; exact Ext.alloc _ _
 have k0 : ∀ W, Ext wA W → W.cell? ⟨w.heap.size, 0, none⟩ = some (.int .i64 x.f) := by rw [hwA]; exact kept_alloc w _ _ rfl
 have k1 : ∀ W, Ext wA W → W.cell? ⟨w.heap.size, 1, none⟩ = some tv := by rw [hwA]; exact kept_alloc w _ _ rfl
 have k2 : ∀ W, Ext wA W → W.cell? ⟨w.heap.size, 2, none⟩ = some lv := by rw [hwA]; exact kept_alloc w _ _ rfl
 have k3 : ∀ W, Ext wA W → W.cell? ⟨w.heap.size, 3, none⟩ = some rv := by rw [hwA]; exact kept_alloc w _ _ rfl
 have H0 : Ext wA wA := Ext.refl _
 have HV := Lib.hid (rValidate_c tv lv rv x wA (h.ext hE0))
 have HWW := Lib.hid (fun W (hW : Ext wA W) => rValidateWord_c wv l W (hw.ext (hE0.trans hW)))
 have HW := Lib.hid hwA; clear hwA h hw
 by_cases h0 : validR x = 0
 ·rw [show wordK x l = validW l by rw [wordK, if_pos h0]]
  rw [h0] at HV
  clear h0
  go_enter Tryz.func235, Tryz.ntmps235
  go_wp2_with fail
  rw [← HW.out]
  refine HV.out.mono ?_; rintro e w1 ⟨rfl, hx1⟩
  go_wp2_with fail
  refine (HWW.out w1 hx1).mono ?_; rintro e w2 ⟨rfl, hx2⟩
  go_wp2_with fail
  go_ret
  exact RV.int rfl (hE0.trans (hx1.trans hx2))
 ·rw [show wordK x l = validR x by rw [wordK, if_neg h0]]
  have hk : (validR x != 0) = true := by simp [h0]
  generalize validR x = k at *
  clear h0
  go_enter Tryz.func235, Tryz.ntmps235
  go_wp2_with fail
  rw [← HW.out]
  refine HV.out.mono ?_; rintro e w1 ⟨rfl, hx1⟩
  go_wp2_with fail
  go_ret
  exact RV.int rfl (hE0.trans hx1)
end Go.Proofs.YtpmlcfgbfhgpgaaGreatDoor
