/- What the laws of chapter 05 share: which machines are long, the chapter's examples. -/
import Derived.Test.YtpbflkbelhlogaaMacX
namespace Go.Proofs.Ytpbflkbelhlogaa
open Go.RowKit Go.Shelf
set_option linter.unusedVariables false

theorem ints_new (w : World) (l : List Int) (n : Nat) (hn : n = l.length) (hm : n ≤ 1000) : Ints (w.alloc (.cells (l.map (fun i => Value.int .i64 i)).toArray 3)) (.slice (some ⟨w.heap.size, 0, none⟩) n n) l := by
  refine ints_lit hn hm fun i hi => alloc_cell w _ 3 ?_
  rw [List.getElem?_toArray, List.getElem?_map, List.getElem?_eq_getElem (by omega)]
  simp

def encA (a : Arc) : List Value := [.int .i64 a.f, .int .i64 a.t, .int .i64 a.i, .int .i64 a.o]
theorem encA_len (a : Arc) : (encA a).length = 4 := rfl
theorem Arcs.blk {W : World} {b : Nat} {l : List Arc} (h : Blk W b 50 (l.flatMap encA)) (hn : l.length ≤ 1000000) : Arcs W (.slice (some ⟨b, 0, none⟩) l.length l.length) l := by
  refine ⟨_, _, rfl, Nat.le_refl _, by unfold maxLen; omega, fun i hi => ⟨b, 0, rfl, ?_⟩⟩
  have hp : l[i]? = some (arcA l i) := by unfold arcA; rw [List.getElem?_eq_getElem hi]; rfl
  refine ⟨?_, ?_, ?_, ?_⟩
  · have := h.cell (flat_get encA encA_len l i 0 _ hp (by omega))
    rw [Nat.zero_add]; simpa using this
  · have := h.cell (flat_get encA encA_len l i 1 _ hp (by omega))
    rw [Nat.zero_add]; exact this
  · have := h.cell (flat_get encA encA_len l i 2 _ hp (by omega))
    rw [Nat.zero_add]; exact this
  · have := h.cell (flat_get encA encA_len l i 3 _ hp (by omega))
    rw [Nat.zero_add]; exact this
def longM (m : Mac) (ls : List (List Int)) : Bool := ls.any (fun l => decide (300 < l.length)) || (decide (100 < m.a.length) || decide (50 < m.e.length))
theorem longM_yes {m : Mac} {ls : List (List Int)} {k : Nat} (hk : k < ls.length) (h : 300 < (ls[k]?.getD []).length) : longM m ls = true := by
  unfold longM
  rw [show ls.any (fun l => decide (300 < l.length)) = true from ?_]; rfl
  rw [List.any_eq_true]
  exact ⟨ls[k], List.getElem_mem hk, by simpa [hk] using h⟩
theorem longM_no {m : Mac} {ls : List (List Int)} (h : ∀ j, j < ls.length → decide (300 < (ls[j]?.getD []).length) = false) : longM m ls = (decide (100 < m.a.length) || decide (50 < m.e.length)) := by
  unfold longM
  rw [show ls.any (fun l => decide (300 < l.length)) = false from ?_]; rfl
  rw [List.any_eq_false]
  intro l hl
  obtain ⟨j, hj, rfl⟩ := List.mem_iff_getElem.1 hl
  have := h j hj
  simpa [hj] using this
set_option maxHeartbeats 1000000 in
theorem Long_c (av ev lv : Value) (m : Mac) (ls : List (List Int)) (w : World) (h : MacR w av ev m) (hl : Rows w lv ls) : Calls Try.prog 19 #[.agg #[.int .i64 m.s, av, ev], lv] w (RV (.bool (longM m ls)) w) := by
  obtain ⟨wA, hwA⟩ : ∃ wA, wA = w.alloc (.cells #[.int .i64 m.s, av, ev] 25) := ⟨_, rfl⟩
  have hE0 : Ext w wA := by rw [hwA]; exact Ext.alloc _ _
  have k0 : ∀ W, Ext wA W → W.cell? ⟨w.heap.size, 0, none⟩ = some (.int .i64 m.s) := by rw [hwA]; exact kept_alloc w _ _ rfl
  have k1 : ∀ W, Ext wA W → W.cell? ⟨w.heap.size, 1, none⟩ = some av := by rw [hwA]; exact kept_alloc w _ _ rfl
  have k2 : ∀ W, Ext wA W → W.cell? ⟨w.heap.size, 2, none⟩ = some ev := by rw [hwA]; exact kept_alloc w _ _ rfl
  have H0 : Ext wA wA := Ext.refl _
  obtain ⟨aa, ca, rfl, hla, hma, HA⟩ := (h.ext hE0).a.open_
  obtain ⟨ae, ce, rfl, hle, hme, HE⟩ := (h.ext hE0).e.open_
  obtain ⟨al, cl, rfl, h1, h2, H⟩ := Rows.open_ (hl.ext hE0)
  have HW := Lib.hid hwA; clear hwA h hl
  go_enter Try.func19, Try.ntmps19
  go_wp2_with fail
  rw [← HW.out]
  go_loopg [5] ls.length (fun z i wr => ∃ k : Nat, k ≤ ls.length ∧ ls.length ≤ k + z ∧ i = .int .i64 k ∧ wA = wr ∧ Hid (∀ j, j < k → decide (300 < (ls[j]?.getD []).length) = false))
  case atStart => exact ⟨0, by omega, by omega, rfl, rfl, fun j hj => by omega⟩
  case round =>
    obtain ⟨k, hk, hk2, rfl, rfl, hE⟩ := hrel
    by_cases hlt : k < ls.length
    · obtain ⟨b, o, rfl, u, hc, hi⟩ := H.out k hlt
      obtain ⟨au, cu, rfl, _, _, _⟩ := hi.open_
      clear hi
      generalize hx : ls[k]?.getD [] = x at *
      have HX := Lib.hid hx; clear hx
      by_cases hb : 300 < x.length
      · go_wp2_with fail
        go_ret
        exact RV.bool (by rw [longM_yes hlt (by rw [HX.out]; exact hb)]) hE0
      · go_wp2_with fail
        go_roundg (gk-1)
        case measure => omega
        case rel => exact ⟨k+1, by omega, by omega, by go_num, rfl, range_step hE.out (by rw [HX.out]; simpa using hb)⟩
    · have HL : Hid (longM m ls = (decide (100 < m.a.length) || decide (50 < m.e.length))) := Lib.hid (longM_no (fun j hj => hE.out j (by omega)))
      by_cases hb : 100 < m.a.length
      · have hd : decide ((100 : Int) < m.a.length) = true := decide_eq_true (by omega)
        go_wp2_with fail
        go_ret
        exact RV.bool (by rw [HL.out]; simp [hb]) hE0
      · have hd : decide ((100 : Int) < m.a.length) = false := decide_eq_false (by omega)
        go_wp2_with fail
        go_ret
        exact RV.bool (by rw [HL.out, decide_eq_false hb, Bool.false_or, decide_eq_decide]; omega) hE0

/-! ## the chapter's examples -/
def M1 : Mac := ⟨1, [⟨0, 0, 0, 1⟩, ⟨0, 0, 1, 0⟩], [0]⟩
def M2 : Mac := ⟨1, [⟨0, 0, 0, 0⟩, ⟨0, 0, 0, 1⟩], [0]⟩
theorem M1_images : imagesL M1 [0, 0, 1] = [[1, 1, 0]] := by decide +kernel
theorem M1_imagesK : imagesK M1 [0, 0, 1] = 0 := by decide +kernel
theorem M2_count : countV M2 3 = 8 := by decide +kernel
theorem M2_countK : countK M2 3 = 0 := by decide +kernel
theorem M2_fun : isFunB M2 = false := by decide +kernel
theorem M2_valid : validM M2 = 0 := by decide +kernel
set_option maxHeartbeats 2000000 in
set_option maxRecDepth 100000 in
theorem sane_c (w : World) : Calls Try.prog 20 #[] w (RV (.bool true) w) := by
  go_enter Try.func20, Try.ntmps20
  go_wp2_with fail
  obtain ⟨wa, ha⟩ : ∃ W, W = w.alloc (.cells #[.int .i64 0, .int .i64 0, .int .i64 0, .int .i64 1, .int .i64 0, .int .i64 0, .int .i64 1, .int .i64 0] 50) := ⟨_, rfl⟩
  obtain ⟨wb, hb⟩ : ∃ W, W = wa.alloc (.cells #[.int .i64 0] 3) := ⟨_, rfl⟩
  obtain ⟨wc, hc⟩ : ∃ W, W = wb.alloc (.cells #[.int .i64 1, .slice (some ⟨w.heap.size, 0, none⟩) 2 2, .slice (some ⟨w.heap.size + 1, 0, none⟩) 1 1] 25) := ⟨_, rfl⟩
  obtain ⟨wd, hd⟩ : ∃ W, W = wc.alloc (.cells #[.int .i64 0, .int .i64 0, .int .i64 0, .int .i64 0, .int .i64 0, .int .i64 0, .int .i64 0, .int .i64 1] 50) := ⟨_, rfl⟩
  obtain ⟨we, he⟩ : ∃ W, W = wd.alloc (.cells #[.int .i64 0] 3) := ⟨_, rfl⟩
  obtain ⟨wf, hf⟩ : ∃ W, W = we.alloc (.cells #[.int .i64 1, .slice (some ⟨w.heap.size + 1 + 1 + 1, 0, none⟩) 2 2, .slice (some ⟨w.heap.size + 1 + 1 + 1 + 1, 0, none⟩) 1 1] 25) := ⟨_, rfl⟩
  obtain ⟨wg, hg⟩ : ∃ W, W = wf.alloc (.cells #[.int .i64 0, .int .i64 0, .int .i64 1] 3) := ⟨_, rfl⟩
  rw [← ha, ← hb, ← hc, ← hd, ← he, ← hf, ← hg]
  have za : wa.heap.size = w.heap.size + 1 := by rw [ha]; simp
  have zb : wb.heap.size = w.heap.size + 1 + 1 := by rw [hb]; simp [za]
  have zc : wc.heap.size = w.heap.size + 1 + 1 + 1 := by rw [hc]; simp [zb]
  have zd : wd.heap.size = w.heap.size + 1 + 1 + 1 + 1 := by rw [hd]; simp [zc]
  have ze : we.heap.size = w.heap.size + 1 + 1 + 1 + 1 + 1 := by rw [he]; simp [zd]
  have zf : wf.heap.size = w.heap.size + 1 + 1 + 1 + 1 + 1 + 1 := by rw [hf]; simp [ze]
  have xa : Ext w wa := by rw [ha]; exact Ext.alloc _ _
  have xb : Ext wa wb := by rw [hb]; exact Ext.alloc _ _
  have xc : Ext wb wc := by rw [hc]; exact Ext.alloc _ _
  have xd : Ext wc wd := by rw [hd]; exact Ext.alloc _ _
  have xe : Ext wd we := by rw [he]; exact Ext.alloc _ _
  have xf : Ext we wf := by rw [hf]; exact Ext.alloc _ _
  have xg : Ext wf wg := by rw [hg]; exact Ext.alloc _ _
  have a1 : Arcs wa (.slice (some ⟨w.heap.size, 0, none⟩) 2 2) M1.a := by rw [ha]; exact Arcs.blk (l := M1.a) (Blk.alloc w _ _) (by decide)
  have e1 : Ints wb (.slice (some ⟨w.heap.size + 1, 0, none⟩) 1 1) [0] := by rw [hb, ← za]; exact ints_new wa [0] 1 rfl (by omega)
  have a2 : Arcs wd (.slice (some ⟨w.heap.size + 1 + 1 + 1, 0, none⟩) 2 2) M2.a := by rw [hd, ← zc]; exact Arcs.blk (l := M2.a) (Blk.alloc wc _ _) (by decide)
  have e2 : Ints we (.slice (some ⟨w.heap.size + 1 + 1 + 1 + 1, 0, none⟩) 1 1) [0] := by rw [he, ← zd]; exact ints_new wd [0] 1 rfl (by omega)
  have i3 : Ints wg (.slice (some ⟨w.heap.size + 1 + 1 + 1 + 1 + 1 + 1, 0, none⟩) 3 3) [0, 0, 1] := by rw [hg, ← zf]; exact ints_new wf [0, 0, 1] 3 rfl (by omega)
  have k0 : ∀ W, Ext wf W → W.cell? ⟨w.heap.size + 1 + 1 + 1 + 1 + 1, 0, none⟩ = some (.int .i64 1) := by rw [hf, ← ze]; exact kept_alloc we _ _ rfl
  have k1 : ∀ W, Ext wf W → W.cell? ⟨w.heap.size + 1 + 1 + 1 + 1 + 1, 1, none⟩ = some (.slice (some ⟨w.heap.size + 1 + 1 + 1, 0, none⟩) 2 2) := by rw [hf, ← ze]; exact kept_alloc we _ _ rfl
  have k2 : ∀ W, Ext wf W → W.cell? ⟨w.heap.size + 1 + 1 + 1 + 1 + 1, 2, none⟩ = some (.slice (some ⟨w.heap.size + 1 + 1 + 1 + 1, 0, none⟩) 1 1) := by rw [hf, ← ze]; exact kept_alloc we _ _ rfl
  have HIM := Lib.hid (Images_c _ _ _ M1 [0, 0, 1] wg ⟨a1.ext (xb.trans (xc.trans (xd.trans (xe.trans (xf.trans xg))))), e1.ext (xc.trans (xd.trans (xe.trans (xf.trans xg))))⟩ i3)
  rw [M1_images, M1_imagesK] at HIM
  have HM2 := Lib.hid (fun W (hW : Ext wf W) => show MacR W (.slice (some ⟨w.heap.size + 1 + 1 + 1, 0, none⟩) 2 2) (.slice (some ⟨w.heap.size + 1 + 1 + 1 + 1, 0, none⟩) 1 1) M2 from ⟨a2.ext ((xe.trans xf).trans hW), e2.ext (xf.trans hW)⟩)
  have XF := xa.trans (xb.trans (xc.trans (xd.trans (xe.trans xf))))
  clear ha hb hc hd he hf hg za zb zc zd ze zf xa xb xc xd xe xf a1 e1 a2 e2 i3
  refine HIM.out.mono ?_; rintro e w5 ⟨v5, rfl, hv5, hx5⟩
  have hX5 := xg.trans hx5
  clear HIM
  have HC := Lib.hid (Count_c _ _ M2 3 w5 (HM2.out w5 hX5) (by decide))
  rw [M2_count, M2_countK] at HC
  go_wp2_with fail
  refine HC.out.mono ?_; rintro e w6 ⟨rfl, hx6⟩
  have hX6 := hX5.trans hx6
  have HF := Lib.hid (IsFunction_c _ _ M2 w6 (HM2.out w6 hX6))
  rw [M2_fun, M2_valid] at HF
  go_wp2_with fail
  refine HF.out.mono ?_; rintro e w7 ⟨rfl, hx7⟩
  have hX7 := hX6.trans hx7
  obtain ⟨w8, h8⟩ : ∃ W, W = w7.alloc (.cells #[.int .i64 1, .int .i64 1, .int .i64 0] 3) := ⟨_, rfl⟩
  have z8 : w8.heap.size = w7.heap.size + 1 := by rw [h8]; simp
  have x8 : Ext w7 w8 := by rw [h8]; exact Ext.alloc _ _
  have i8 : Ints w8 (.slice (some ⟨w7.heap.size, 0, none⟩) 3 3) [1, 1, 0] := by rw [h8]; exact ints_new w7 [1, 1, 0] 3 rfl (by omega)
  have hr8 := rows_one w8 i8
  have x9 := Ext.alloc w8 (.cells #[.slice (some ⟨w7.heap.size, 0, none⟩) 3 3] 23)
  rw [z8] at hr8
  have HSW := Lib.hid (sameWords_c v5 _ _ _ _ (Rows.ext hv5 (hx6.trans (hx7.trans (x8.trans x9)))) hr8)
  rw [show rowsB [[1, 1, 0]] [[1, 1, 0]] = true by decide] at HSW
  go_wp2_with fail
  rw [← h8]
  refine HSW.out.mono ?_; rintro e w10 ⟨rfl, n10, hw10⟩
  have hx10 : Ext (w8.alloc (.cells #[.slice (some ⟨w7.heap.size, 0, none⟩) 3 3] 23)) w10 := by rw [hw10]; exact Ext.drewN _ _
  clear hw10 h8 hr8
  go_wp2_with fail
  go_ret
  exact RV.bool rfl (XF.trans (hX7.trans (x8.trans (x9.trans hx10))))

theorem AllInts.cons {w : World} {us : List Value} {ls : List (List Int)} {u : Value} {l : List Int} (hu : Ints w u l) (h : AllInts w us ls) : AllInts w (u :: us) (l :: ls) := by
  obtain ⟨h1, h2⟩ := h
  refine ⟨by simp [h1], fun i x hx => ?_⟩
  cases i with
  | zero => simp at hx; subst hx; exact hu
  | succ i => exact h2 i x (by simpa using hx)
/-- a new block of lists -/
theorem rows_new (w : World) (us : List Value) (ls : List (List Int)) (h : AllInts w us ls) (hn : us.length ≤ 1000) : Rows (w.alloc (.cells us.toArray 23)) (.slice (some ⟨w.heap.size, 0, none⟩) us.length us.length) ls := by
  have hl := h.1
  rw [hl]
  refine ⟨_, _, rfl, Nat.le_refl _, by unfold maxLen; omega, fun i hi => ⟨w.heap.size, 0, rfl, us[i]'(by omega), ?_, ?_⟩⟩
  · have := alloc_cell w us.toArray 23 (i := i) (v := us[i]'(by omega)) (by simp)
    rw [Nat.zero_add]; exact this
  · exact (h.2 i _ (List.getElem?_eq_getElem (by omega))).ext (Ext.alloc _ _)
theorem longM_bd {m : Mac} {ls : List (List Int)} (h : longM m ls = false) : m.a.length ≤ 100 ∧ m.e.length ≤ 50 ∧ ∀ l ∈ ls, l.length ≤ 300 := by
  unfold longM at h
  rw [Bool.or_eq_false_iff, Bool.or_eq_false_iff, List.any_eq_false] at h
  obtain ⟨h1, h2, h3⟩ := h
  refine ⟨by simpa using h2, by simpa using h3, fun l hl => by simpa using h1 l hl⟩
end Go.Proofs.Ytpbflkbelhlogaa
