/- Two rules: both sides, special, what both let be; both packages. -/
import Derived.Test.YtojbamejhlaahaaRulH
import Derived.ChangeKeysEq
namespace Go.Proofs.Ytojbamejhlaahaa
open Go.RowKit Go.Shelf
set_option linter.unusedVariables false

/-! ## memory -/
theorem kept_alloc2 (w : World) (cs ds : Array Value) (ty tz : TypeId) {i : Nat} {v : Value} (h : cs[i]? = some v) : ∀ W, Ext ((w.alloc (.cells cs ty)).alloc (.cells ds tz)) W → W.cell? ⟨w.heap.size, i, none⟩ = some v :=
  fun W hW => hW.keep ((Ext.alloc _ _).keep (alloc_cell w cs ty h))
theorem kept_alloc2' (w : World) (cs ds : Array Value) (ty tz : TypeId) {i : Nat} {v : Value} (h : ds[i]? = some v) : ∀ W, Ext ((w.alloc (.cells cs ty)).alloc (.cells ds tz)) W → W.cell? ⟨w.heap.size + 1, i, none⟩ = some v :=
  fun W hW => hW.keep (by have := alloc_cell (w.alloc (.cells cs ty)) ds tz h; simpa using this)

/-! ## arrays of bools -/
theorem run_eqItems_bools {P : Program} (w : World) (d : Nat) {e : TypeId} (he : P.plainKey e = true) (hb : P.underlying e = some .bool) (xs ys : Array Value) (A B : Nat → Bool) : ∀ (is : List Nat),
    (∀ i ∈ is, xs[i]? = some (.bool (A i)) ∧ ys[i]? = some (.bool (B i))) → (Op.eqItems (d + 1) e 1 xs ys is).run P w = .ok (is.all fun i => A i == B i) w
  | [], _ => by simp [Op.eqItems]
  | i :: is, h => by
    obtain ⟨h1, h2⟩ := h i (by simp)
    have ih := run_eqItems_bools w d he hb xs ys A B is (fun j hj => h j (by simp [hj]))
    simp only [Op.eqItems, Sem.run_bind, Nat.mul_one, run_part_plain w he h1, run_part_plain w he h2, Result.andThen_ok, run_equalIn_bool' w d e _ _ hb]
    by_cases hab : A i = B i
    · simp [hab, ih]
    · have : (A i == B i) = false := by simpa using hab
      simp [this]
theorem run_eql_bools {P : Program} (w : World) {t e : TypeId} {n : Nat} (hu : P.underlying t = some (.array n e)) (hi : (P.info? e).isSome = true) (hc : P.cellsOf e = 1) (he : P.plainKey e = true) (hb : P.underlying e = some .bool) (xs ys : Array Value) (A B : Nat → Bool)
    (h : ∀ i, i < n → xs[i]? = some (.bool (A i)) ∧ ys[i]? = some (.bool (B i))) : (binOp .eql t (.agg xs) (.agg ys)).run P w = .ok (.bool ((List.range n).all fun i => A i == B i)) w := by
  obtain ⟨i, hi⟩ := Option.isSome_iff_exists.1 hi
  rw [run_eql_struct, run_equalIn_array w 9999 _ _ hu hi, hc, run_eqItems_bools w 9998 he hb xs ys A B _ (fun i hi => h i (by simpa using hi))]
  rfl
theorem run_eql_side (w : World) (a0 a1 a2 a3 a4 a5 a6 b0 b1 b2 b3 b4 b5 b6 : Bool) :
    (binOp .eql 71 (.agg #[.bool a0, .bool a1, .bool a2, .bool a3, .bool a4, .bool a5, .bool a6]) (.agg #[.bool b0, .bool b1, .bool b2, .bool b3, .bool b4, .bool b5, .bool b6])).run Try.prog w = .ok (.bool (a0 == b0 && (a1 == b1 && (a2 == b2 && (a3 == b3 && (a4 == b4 && (a5 == b5 && a6 == b6))))))) w := by
  rw [run_eql_bools w Try.underlying71 (by kernel_rfl) (by kernel_rfl) (by kernel_rfl) Try.underlying4 _ _ (fun i => [a0, a1, a2, a3, a4, a5, a6].getD i false) (fun i => [b0, b1, b2, b3, b4, b5, b6].getD i false)
    (fun i hi => by have : i = 0 ∨ i = 1 ∨ i = 2 ∨ i = 3 ∨ i = 4 ∨ i = 5 ∨ i = 6 := by omega
                    rcases this with rfl | rfl | rfl | rfl | rfl | rfl | rfl <;> exact ⟨rfl, rfl⟩)]
  simp [List.range, List.range.loop]

theorem run_index_side (w : World) (xs : Array Value) (k : Nat) (b : Bool) (hk : k < 7) (hx : xs[k]? = some (.bool b)) : (Instr.index 71 (.agg xs) (.int .i64 (k : Int))).run Try.prog w = .ok (.bool b) w := by
  have hi : (Try.prog.info? 4).isSome = true := by kernel_rfl
  obtain ⟨i, hi⟩ := Option.isSome_iff_exists.1 hi
  have hc : Try.prog.cellsOf 4 = 1 := by kernel_rfl
  have h1 : (0 : Int) ≤ (k : Int) ∧ (k : Int) < ((7 : Nat) : Int) := by omega
  simp [Instr.index, run_underlying Try.underlying71, asIntOf, h1, run_sizeOf w hi, hc, run_part_plain (P := Try.prog) w (e := 4) (by kernel_rfl) hx]
  try omega

/-! ## plain -/
def twoK (x y : Rul) : Int := if validR x = 0 then validR y else validR x
def bothB (a b : List Int) (n : Int) : Bool := mayB a n && mayB b n
def bothA (a b : List Int) : Array Value := #[.bool (bothB a b (-1)), .bool (bothB a b 0), .bool (bothB a b 1), .bool (bothB a b 2), .bool (bothB a b 3), .bool (bothB a b 4), .bool (bothB a b 5)]
def bothV (a b : List Int) : Value := .agg (bothA a b)
def comL (a b : List Int) : List Int := (sel 7 fun i => bothB a b ((i : Int) - 1)).map fun i => i - 1
def insB (a b : List Int) : Bool := allB 7 fun i => !(mayB a ((i : Int) - 1) && !mayB b ((i : Int) - 1))
theorem allB7 (f : Nat → Bool) : allB 7 f = (f 0 && (f 1 && (f 2 && (f 3 && (f 4 && (f 5 && f 6)))))) := by simp [allB, List.range, List.range.loop]

theorem two_c (tv lv rv tu lu ru : Value) (x y : Rul) (w : World) (hr : RulR w tv lv rv x) (hs : RulR w tu lu ru y) : Calls Try.prog 85 #[.agg #[.int .i64 x.f, tv, lv, rv], .agg #[.int .i64 y.f, tu, lu, ru]] w (RV (.int .i64 (twoK x y)) w) := by
  obtain ⟨wA, hwA⟩ : ∃ wA, wA = (w.alloc (.cells #[.int .i64 x.f, tv, lv, rv] 24)).alloc (.cells #[.int .i64 y.f, tu, lu, ru] 24) := ⟨_, rfl⟩
  have hE0 : Ext w wA := by rw [hwA]; exact (Ext.alloc _ _).trans (Ext.alloc _ _)
  have k0 : ∀ W, Ext wA W → W.cell? ⟨w.heap.size, 0, none⟩ = some (.int .i64 x.f) := by rw [hwA]; exact kept_alloc2 w _ _ _ _ rfl
  have k1 : ∀ W, Ext wA W → W.cell? ⟨w.heap.size, 1, none⟩ = some tv := by rw [hwA]; exact kept_alloc2 w _ _ _ _ rfl
  have k2 : ∀ W, Ext wA W → W.cell? ⟨w.heap.size, 2, none⟩ = some lv := by rw [hwA]; exact kept_alloc2 w _ _ _ _ rfl
  have k3 : ∀ W, Ext wA W → W.cell? ⟨w.heap.size, 3, none⟩ = some rv := by rw [hwA]; exact kept_alloc2 w _ _ _ _ rfl
  have m0 : ∀ W, Ext wA W → W.cell? ⟨w.heap.size + 1, 0, none⟩ = some (.int .i64 y.f) := by rw [hwA]; exact kept_alloc2' w _ _ _ _ rfl
  have m1 : ∀ W, Ext wA W → W.cell? ⟨w.heap.size + 1, 1, none⟩ = some tu := by rw [hwA]; exact kept_alloc2' w _ _ _ _ rfl
  have m2 : ∀ W, Ext wA W → W.cell? ⟨w.heap.size + 1, 2, none⟩ = some lu := by rw [hwA]; exact kept_alloc2' w _ _ _ _ rfl
  have m3 : ∀ W, Ext wA W → W.cell? ⟨w.heap.size + 1, 3, none⟩ = some ru := by rw [hwA]; exact kept_alloc2' w _ _ _ _ rfl
  have H0 : Ext wA wA := Ext.refl _
  have HV := Lib.hid (Validate_c tv lv rv x wA (hr.ext hE0))
  have HS := Lib.hid (fun W (hW : Ext wA W) => Validate_c tu lu ru y W (hs.ext (hE0.trans hW)))
  have HW := Lib.hid hwA; clear hwA hr hs
  unfold twoK
  by_cases h0 : validR x = 0
  · rw [if_pos h0]
    rw [h0] at HV
    clear h0
    generalize validR y = k at *
    go_enter Try.func85, Try.ntmps85
    go_wp2_with fail
    rw [← HW.out]
    refine HV.out.mono ?_; rintro e w1 ⟨rfl, hx1⟩
    go_wp2_with fail
    refine (HS.out w1 hx1).mono ?_; rintro e w2 ⟨rfl, hx2⟩
    go_wp2_with fail
    go_ret
    exact RV.int rfl (hE0.trans (hx1.trans hx2))
  · rw [if_neg h0]
    have hk : (validR x != 0) = true := by simp [h0]
    generalize validR x = k at *
    clear h0
    go_enter Try.func85, Try.ntmps85
    go_wp2_with fail
    rw [← HW.out]
    refine HV.out.mono ?_; rintro e w1 ⟨rfl, hx1⟩
    go_wp2_with fail
    go_ret
    exact RV.int rfl (hE0.trans hx1)

theorem rtwo_c (tv lv rv tu lu ru : Value) (x y : Rul) (w : World) (hr : RulR w tv lv rv x) (hs : RulR w tu lu ru y) : Calls Try.prog 86 #[.agg #[.int .i64 x.f, tv, lv, rv], .agg #[.int .i64 y.f, tu, lu, ru]] w (RV (.int .i64 (twoK x y)) w) := by
  obtain ⟨wA, hwA⟩ : ∃ wA, wA = (w.alloc (.cells #[.int .i64 x.f, tv, lv, rv] 24)).alloc (.cells #[.int .i64 y.f, tu, lu, ru] 24) := ⟨_, rfl⟩
  have hE0 : Ext w wA := by rw [hwA]; exact (Ext.alloc _ _).trans (Ext.alloc _ _)
  have k0 : ∀ W, Ext wA W → W.cell? ⟨w.heap.size, 0, none⟩ = some (.int .i64 x.f) := by rw [hwA]; exact kept_alloc2 w _ _ _ _ rfl
  have k1 : ∀ W, Ext wA W → W.cell? ⟨w.heap.size, 1, none⟩ = some tv := by rw [hwA]; exact kept_alloc2 w _ _ _ _ rfl
  have k2 : ∀ W, Ext wA W → W.cell? ⟨w.heap.size, 2, none⟩ = some lv := by rw [hwA]; exact kept_alloc2 w _ _ _ _ rfl
  have k3 : ∀ W, Ext wA W → W.cell? ⟨w.heap.size, 3, none⟩ = some rv := by rw [hwA]; exact kept_alloc2 w _ _ _ _ rfl
  have m0 : ∀ W, Ext wA W → W.cell? ⟨w.heap.size + 1, 0, none⟩ = some (.int .i64 y.f) := by rw [hwA]; exact kept_alloc2' w _ _ _ _ rfl
  have m1 : ∀ W, Ext wA W → W.cell? ⟨w.heap.size + 1, 1, none⟩ = some tu := by rw [hwA]; exact kept_alloc2' w _ _ _ _ rfl
  have m2 : ∀ W, Ext wA W → W.cell? ⟨w.heap.size + 1, 2, none⟩ = some lu := by rw [hwA]; exact kept_alloc2' w _ _ _ _ rfl
  have m3 : ∀ W, Ext wA W → W.cell? ⟨w.heap.size + 1, 3, none⟩ = some ru := by rw [hwA]; exact kept_alloc2' w _ _ _ _ rfl
  have H0 : Ext wA wA := Ext.refl _
  have HV := Lib.hid (rValidate_c tv lv rv x wA (hr.ext hE0))
  have HS := Lib.hid (fun W (hW : Ext wA W) => rValidate_c tu lu ru y W (hs.ext (hE0.trans hW)))
  have HW := Lib.hid hwA; clear hwA hr hs
  unfold twoK
  by_cases h0 : validR x = 0
  · rw [if_pos h0]
    rw [h0] at HV
    clear h0
    generalize validR y = k at *
    go_enter Try.func86, Try.ntmps86
    go_wp2_with fail
    rw [← HW.out]
    refine HV.out.mono ?_; rintro e w1 ⟨rfl, hx1⟩
    go_wp2_with fail
    refine (HS.out w1 hx1).mono ?_; rintro e w2 ⟨rfl, hx2⟩
    go_wp2_with fail
    go_ret
    exact RV.int rfl (hE0.trans (hx1.trans hx2))
  · rw [if_neg h0]
    have hk : (validR x != 0) = true := by simp [h0]
    generalize validR x = k at *
    clear h0
    go_enter Try.func86, Try.ntmps86
    go_wp2_with fail
    rw [← HW.out]
    refine HV.out.mono ?_; rintro e w1 ⟨rfl, hx1⟩
    go_wp2_with fail
    go_ret
    exact RV.int rfl (hE0.trans hx1)

/-! ## both sides -/
def andA (a b : Nat → Bool) (k : Nat) (i : Nat) : Value := .bool (a i && (b i || decide (k ≤ i)))
def andC (a b : Nat → Bool) (k : Nat) : Array Value := #[andA a b k 0, andA a b k 1, andA a b k 2, andA a b k 3, andA a b k 4, andA a b k 5, andA a b k 6]
theorem andC_cell (a b : Nat → Bool) {k : Nat} (hk : k < 7) : (andC a b k)[k]? = some (.bool (a k)) := by
  have : k = 0 ∨ k = 1 ∨ k = 2 ∨ k = 3 ∨ k = 4 ∨ k = 5 ∨ k = 6 := by omega
  rcases this with rfl | rfl | rfl | rfl | rfl | rfl | rfl <;> simp [andC, andA]
theorem andC_set (a b : Nat → Bool) {k : Nat} (hk : k < 7) : (andC a b k).setIfInBounds k (.bool (a k && b k)) = andC a b (k + 1) := by
  have : k = 0 ∨ k = 1 ∨ k = 2 ∨ k = 3 ∨ k = 4 ∨ k = 5 ∨ k = 6 := by omega
  rcases this with rfl | rfl | rfl | rfl | rfl | rfl | rfl <;> simp [andC, andA]
theorem andC_zero (a b : Nat → Bool) : andC a b 0 = #[.bool (a 0), .bool (a 1), .bool (a 2), .bool (a 3), .bool (a 4), .bool (a 5), .bool (a 6)] := by simp [andC, andA]
theorem andC_end (a b : Nat → Bool) : andC a b 7 = #[.bool (a 0 && b 0), .bool (a 1 && b 1), .bool (a 2 && b 2), .bool (a 3 && b 3), .bool (a 4 && b 4), .bool (a 5 && b 5), .bool (a 6 && b 6)] := by simp [andC, andA]
set_option maxHeartbeats 2000000 in
set_option maxRecDepth 100000 in
theorem andF_c (a b : Nat → Bool) (w : World) : Calls Try.prog 110 #[.agg (andC a b 0), .agg #[.bool (b 0), .bool (b 1), .bool (b 2), .bool (b 3), .bool (b 4), .bool (b 5), .bool (b 6)]] w (RV (.agg (andC a b 7)) w) := by
  obtain ⟨Z, hZ⟩ : ∃ Z : Array Value, Z = #[.bool false, .bool false, .bool false, .bool false, .bool false, .bool false, .bool false] := ⟨_, rfl⟩
  obtain ⟨Y, hY⟩ : ∃ Y : Array Value, Y = #[.bool (b 0), .bool (b 1), .bool (b 2), .bool (b 3), .bool (b 4), .bool (b 5), .bool (b 6)] := ⟨_, rfl⟩
  have hYk : ∀ k, k < 7 → Y[k]? = some (.bool (b k)) := by
    intro k hk
    have : k = 0 ∨ k = 1 ∨ k = 2 ∨ k = 3 ∨ k = 4 ∨ k = 5 ∨ k = 6 := by omega
    rcases this with rfl | rfl | rfl | rfl | rfl | rfl | rfl <;> rw [hY] <;> rfl
  have h1 : BoxS (((w.alloc (.cells (andC a b 0) 71)).alloc (.cells Y 71)).alloc (.cells Z 71)) w.heap.size (andC a b 0) := BoxS.ext (World.alloc_heap_new w _) ((Ext.alloc _ _).trans (Ext.alloc _ _))
  have h2 : BoxS (((w.alloc (.cells (andC a b 0) 71)).alloc (.cells Y 71)).alloc (.cells Z 71)) (w.heap.size + 1) Y := by
    refine BoxS.ext ?_ (Ext.alloc _ _)
    have := World.alloc_heap_new (w.alloc (.cells (andC a b 0) 71)) (.cells Y 71); simpa [BoxS] using this
  have h3 : BoxS (((w.alloc (.cells (andC a b 0) 71)).alloc (.cells Y 71)).alloc (.cells Z 71)) (w.heap.size + 1 + 1) Z := by
    have := World.alloc_heap_new ((w.alloc (.cells (andC a b 0) 71)).alloc (.cells Y 71)) (.cells Z 71); simpa [BoxS] using this
  have hE : Ext w (((w.alloc (.cells (andC a b 0) 71)).alloc (.cells Y 71)).alloc (.cells Z 71)) := ((Ext.alloc _ _).trans (Ext.alloc _ _)).trans (Ext.alloc _ _)
  obtain ⟨w2, hw2⟩ : ∃ w2, w2 = ((w.alloc (.cells (andC a b 0) 71)).alloc (.cells Y 71)).alloc (.cells Z 71) := ⟨_, rfl⟩
  rw [← hw2] at h1 h2 h3 hE
  have HB := Lib.hid (And.intro h1 (And.intro h2 (And.intro h3 hE)))
  have HZ := Lib.hid hZ
  have HYK := Lib.hid hYk
  rw [hZ, hY, andC_zero] at hw2
  have HW2 := Lib.hid hw2
  clear h1 h2 h3 hE hw2 hZ hY hYk
  rw [andC_zero]
  go_enter Try.func110, Try.ntmps110
  go_wp2_with fail
  rw [← HW2.out]
  clear HW2
  go_loopg [6] 7 (fun m i wr => ∃ k : Nat, k ≤ 7 ∧ 7 ≤ k + m ∧ i = .int .i64 k ∧ Hid (BoxS wr w.heap.size (andC a b k)) ∧ Hid (BoxS wr (w.heap.size + 1) Y) ∧ Hid (BoxS wr (w.heap.size + 1 + 1) Z) ∧ Ext w wr)
  case atStart => exact ⟨0, by omega, by omega, rfl, Lib.hid HB.out.1, Lib.hid HB.out.2.1, Lib.hid HB.out.2.2.1, HB.out.2.2.2⟩
  case round =>
    obtain ⟨k, hk, hk2, rfl, hA, hB, hC, hX⟩ := hrel
    by_cases hlt : k < 7
    · have hc := hA.out.cell (andC_cell a b hlt)
      have hf := hA.out.frozen k
      have hc2 := hB.out.cell (HYK.out k hlt)
      have hN := hA.out.set (i := k) (.bool (a k && b k))
      rw [andC_set a b hlt] at hN
      have hB2 := hB.out.other (c := w.heap.size) (i := k) (by omega) (.bool (a k && b k))
      have hC2 := hC.out.other (c := w.heap.size) (i := k) (by omega) (.bool (a k && b k))
      have hX2 := hX.setCell (c := w.heap.size) (by omega) k (.bool (a k && b k))
      generalize hak : a k = ak at *
      generalize hbk : b k = bk at *
      cases ak
      · have HN := Lib.hid (And.intro hN (And.intro hB2 (And.intro hC2 hX2)))
        clear hN hB2 hC2 hX2 hak hbk
        go_wp2_with fail
        go_roundg (gk-1)
        case measure => omega
        case rel => exact ⟨k+1, by omega, by omega, by go_num, Lib.hid HN.out.1, Lib.hid HN.out.2.1, Lib.hid HN.out.2.2.1, HN.out.2.2.2⟩
      · have HN := Lib.hid (And.intro hN (And.intro hB2 (And.intro hC2 hX2)))
        clear hN hB2 hC2 hX2 hak hbk
        go_wp2_with fail
        go_roundg (gk-1)
        case measure => omega
        case rel => exact ⟨k+1, by omega, by omega, by go_num, Lib.hid HN.out.1, Lib.hid HN.out.2.1, Lib.hid HN.out.2.2.1, HN.out.2.2.2⟩
    · obtain rfl : k = 7 := by omega
      have hC3 := hC.out
      rw [HZ.out] at hC3
      have hst : (storeCells ⟨w.heap.size + 1 + 1, 0, none⟩ (andC a b 7).toList).run Try.prog wr = .ok () (wr.setRow (w.heap.size + 1 + 1) (andC a b 7)) := by
        have := run_storeCells_at Try.prog (w.heap.size + 1 + 1) 0 71 (andC a b 7).toList 0 _ wr hC3 (by simp [andC]) (by intro v hv; simp [andC, andA] at hv; rcases hv with rfl | rfl | rfl | rfl | rfl | rfl | rfl <;> rfl)
        simpa [andC] using this
      have hg5 : (wr.setRow (w.heap.size + 1 + 1) (andC a b 7)).heap[w.heap.size + 1 + 1]? = some (.cells (andC a b 7) 71 (0, 0)) := setRow_heap wr (w.heap.size + 1 + 1) _ _ _ _ hC3
      have hx5 : Ext w (wr.setRow (w.heap.size + 1 + 1) (andC a b 7)) := Ext.setRow hX (by omega) _
      have HG5 := Lib.hid hg5; clear hg5 hC3
      go_wp2_with (refine wpList_load_row rfl 71 (.tmp 2) rfl w.heap.size rfl 71 (andC a b 7) (0, 0) _ hA.out Try.underlying71 rfl rfl ?_)
      exact bodyPost_ret (v := .agg (andC a b 7)) (results_cell_row rfl _ _ (w.heap.size + 1 + 1) 71 (andC a b 7) (0, 0) _ rfl HG5.out Try.underlying71 rfl rfl) rfl ⟨rfl, hx5⟩
theorem and_c (s u : List Int) (w : World) : Calls Try.prog 110 #[sideV s, sideV u] w (RV (bothV s u) w) := by
  have h := andF_c (fun i => mayB s ((i : Int) - 1)) (fun i => mayB u ((i : Int) - 1)) w
  rw [andC_zero, andC_end] at h
  exact h

set_option maxHeartbeats 2000000 in
set_option maxRecDepth 100000 in
theorem set_c (s u : List Int) (w : World) : Calls Try.prog 92 #[bothV s u] w (ROInts 3 (comL s u) w) := by
  unfold bothV bothA
  have HS : Hid (∀ k : Nat, k < 7 → bothB s u ((k : Int) - 1) = true → (sel (k + 1) fun i => bothB s u ((i : Int) - 1)).map (fun i => i - 1) = (sel k fun i => bothB s u ((i : Int) - 1)).map (fun i => i - 1) ++ [(k : Int) - 1]) := by
    intro k hk h
    rw [sel_yes (f := fun i => bothB s u ((i : Int) - 1)) h, List.map_append]; rfl
  have HN : Hid (∀ k : Nat, k < 7 → bothB s u ((k : Int) - 1) = false → (sel (k + 1) fun i => bothB s u ((i : Int) - 1)).map (fun i => i - 1) = (sel k fun i => bothB s u ((i : Int) - 1)).map (fun i => i - 1)) := by
    intro k hk h
    rw [sel_no (f := fun i => bothB s u ((i : Int) - 1)) h]
  have HE := Lib.hid (show comL s u = (sel 7 fun i => bothB s u ((i : Int) - 1)).map (fun i => i - 1) from rfl)
  have HL := Lib.hid (show ∀ k : Nat, ((sel k fun i => bothB s u ((i : Int) - 1)).map (fun i => i - 1)).length ≤ k from fun k => by rw [List.length_map]; exact sel_le _ _)
  have HZ := Lib.hid (show (sel 0 fun i => bothB s u ((i : Int) - 1)).map (fun i : Int => i - 1) = [] from rfl)
  obtain ⟨L, hL⟩ : ∃ L : Nat → List Int, ∀ k : Nat, (sel k fun i => bothB s u ((i : Int) - 1)).map (fun i => i - 1) = L k := ⟨_, fun _ => rfl⟩
  have HLL := Lib.hid hL; clear hL
  have hq : ∀ k : Nat, k < 7 → bothB s u ((k : Int) - 1) = [bothB s u (-1), bothB s u 0, bothB s u 1, bothB s u 2, bothB s u 3, bothB s u 4, bothB s u 5].getD k false := by
    intro k hk
    have : k = 0 ∨ k = 1 ∨ k = 2 ∨ k = 3 ∨ k = 4 ∨ k = 5 ∨ k = 6 := by omega
    rcases this with rfl | rfl | rfl | rfl | rfl | rfl | rfl <;> rfl
  have HQ := Lib.hid hq; clear hq
  generalize bothB s u (-1) = b0 at *
  generalize bothB s u 0 = b1 at *
  generalize bothB s u 1 = b2 at *
  generalize bothB s u 2 = b3 at *
  generalize bothB s u 3 = b4 at *
  generalize bothB s u 4 = b5 at *
  generalize bothB s u 5 = b6 at *
  go_enter Try.func92, Try.ntmps92
  go_wp2_with fail
  obtain ⟨wA, hwA⟩ : ∃ wA, wA = w.alloc (.cells #[.bool b0, .bool b1, .bool b2, .bool b3, .bool b4, .bool b5, .bool b6] 71) := ⟨_, rfl⟩
  have hE0 : Ext w wA := by rw [hwA]; exact Ext.alloc _ _
  rw [← hwA]
  clear hwA
  go_loopg [7, 3] 7 (fun m i v wr => ∃ k : Nat, k ≤ 7 ∧ 7 ≤ k + m ∧ i = .int .i64 k ∧ Ext wA wr ∧ OInts 3 wr wA.heap.size v (L k))
  case atStart => exact ⟨0, by omega, by omega, rfl, Ext.refl _, by rw [← HLL.out, HZ.out]; exact OInts.nil _ _ _⟩
  case round =>
    obtain ⟨k, hk, hk2, rfl, hB, hown⟩ := hrel
    have hsB := hB.size
    by_cases hlt : k < 7
    · have hll := HL.out k
      rw [HLL.out] at hll
      have hs1 := HS.out k hlt
      have hn1 := HN.out k hlt
      rw [HQ.out k hlt, HLL.out, HLL.out] at hs1 hn1
      have HS1 := Lib.hid hs1; have HN1 := Lib.hid hn1; have HOWN := Lib.hid hown
      clear hs1 hn1 hown
      have hix := fun W => run_index_side W #[.bool b0, .bool b1, .bool b2, .bool b3, .bool b4, .bool b5, .bool b6] k ([b0, b1, b2, b3, b4, b5, b6].getD k false) hlt (by
        have : k = 0 ∨ k = 1 ∨ k = 2 ∨ k = 3 ∨ k = 4 ∨ k = 5 ∨ k = 6 := by omega
        rcases this with rfl | rfl | rfl | rfl | rfl | rfl | rfl <;> rfl)
      generalize [b0, b1, b2, b3, b4, b5, b6].getD k false = bk at *
      generalize L k = L0 at *
      have hw1 : IntKind.i64.wrap ((k : Int) - 1) = (k : Int) - 1 := IntWalk.i64_in _ (by omega)
      cases bk
      · have HN2 := Lib.hid (HN1.out rfl)
        go_wp2_with fail
        go_roundg (gk-1)
        case measure => omega
        case rel => exact ⟨k + 1, by omega, by omega, by go_num, hB, by rw [HN2.out]; exact HOWN.out⟩
      · have HS2 := Lib.hid (HS1.out rfl)
        go_wp2_with (at_builtin; refine wpList_appendInt elInts rfl _ _ rfl rfl rfl HOWN.out rfl (by omega) (by omega) ?_; intro v' w' hown2 hb2)
        go_roundg (gk-1)
        case measure => omega
        case rel => exact ⟨k + 1, by omega, by omega, by go_num, hB.upto hb2 (Nat.le_refl _), by rw [HS2.out]; exact hown2⟩
    · obtain rfl : k = 7 := by omega
      go_wp2_with fail
      go_ret
      exact ⟨_, rfl, OInts.low (by rw [HE.out, HLL.out]; exact hown) hE0.size, hE0.trans hB⟩

/-! ## the reference's -/
set_option maxHeartbeats 2000000 in
theorem common_c (va vb : Value) (s u : List Int) (w : World) (ha : Ints w va s) (hb : Ints w vb u) : Calls Try.prog 93 #[va, vb] w (ROInts 3 (comL s u) w) := by
  have HA := Lib.hid ha; have HB := Lib.hid hb; clear ha hb
  have HE := Lib.hid (show comL s u = (sel 7 fun i => bothB s u ((i : Int) - 1)).map (fun i => i - 1) from rfl)
  go_enter Try.func93, Try.ntmps93
  go_wp2_with fail
  go_loopg [6, 5] 7 (fun m i v wr => ∃ (k : Nat) (z : Int), k ≤ 7 ∧ 7 ≤ k + m ∧ z = (k : Int) - 1 ∧ i = .int .i64 z ∧ Ext w wr ∧ OInts 3 wr w.heap.size v ((sel k fun i => bothB s u ((i : Int) - 1)).map (fun i => i - 1)))
  case atStart => exact ⟨0, -1, by omega, by omega, rfl, rfl, Ext.refl _, OInts.nil _ _ _⟩
  case round =>
    obtain ⟨k, z, hk, hk2, hz, rfl, hB, hown⟩ := hrel
    have hsB := hB.size
    have hz1 : -1 ≤ z := by omega
    have hz2 : z ≤ 6 := by omega
    by_cases hlt : k < 7
    · have hz3 : z < 6 := by omega
      have H1 := Lib.hid (rmay_c va s z wr (HA.out.ext hB))
      have H2 := Lib.hid (fun W (hW : Ext wr W) => rmay_c vb u z W (HB.out.ext (hB.trans hW)))
      have hsy := sel_yes (k := k) (f := fun i => bothB s u ((i : Int) - 1))
      have hsn := sel_no (k := k) (f := fun i => bothB s u ((i : Int) - 1))
      have hsl := sel_le k (fun i => bothB s u ((i : Int) - 1))
      rw [← List.length_map (f := fun i : Int => i - 1)] at hsl
      simp only [← hz] at hsy hsn
      have HBB := Lib.hid (show bothB s u z = (mayB s z && mayB u z) from rfl)
      have HSY : Hid (bothB s u z = true → (sel (k + 1) fun i => bothB s u ((i : Int) - 1)).map (fun i => i - 1) = (sel k fun i => bothB s u ((i : Int) - 1)).map (fun i => i - 1) ++ [z]) := fun h => by rw [hsy h, List.map_append, hz]; rfl
      have HSN : Hid (bothB s u z = false → (sel (k + 1) fun i => bothB s u ((i : Int) - 1)).map (fun i => i - 1) = (sel k fun i => bothB s u ((i : Int) - 1)).map (fun i => i - 1)) := fun h => by rw [hsn h]
      clear hsy hsn
      have HOWN := Lib.hid hown; clear hown
      generalize (sel k fun i => bothB s u ((i : Int) - 1)).map (fun i => i - 1) = L0 at *
      generalize bothB s u z = bb at *
      generalize mayB s z = b1 at *
      generalize mayB u z = b2 at *
      have HZ := Lib.hid hz; clear hz
      cases b1
      · have HS2 := Lib.hid (HSN.out (by rw [HBB.out]; rfl))
        go_wp2_with fail
        refine H1.out.mono ?_; rintro e w3 ⟨rfl, hx3⟩
        go_wp2_with fail
        go_roundg (gk-1)
        case measure => omega
        case rel => exact ⟨k+1, z+1, by omega, by omega, by have := HZ.out; omega, by go_num, hB.trans hx3, by rw [HS2.out]; exact HOWN.out.ext hx3⟩
      · cases b2
        · have HS2 := Lib.hid (HSN.out (by rw [HBB.out]; rfl))
          go_wp2_with fail
          refine H1.out.mono ?_; rintro e w3 ⟨rfl, hx3⟩
          go_wp2_with fail
          refine (H2.out w3 hx3).mono ?_; rintro e w4 ⟨rfl, hy4⟩
          have hx4 := hx3.trans hy4
          clear hx3 hy4
          go_wp2_with fail
          go_roundg (gk-1)
          case measure => omega
          case rel => exact ⟨k+1, z+1, by omega, by omega, by have := HZ.out; omega, by go_num, hB.trans hx4, by rw [HS2.out]; exact HOWN.out.ext hx4⟩
        · have HS2 := Lib.hid (HSY.out (by rw [HBB.out]; rfl))
          go_wp2_with fail
          refine H1.out.mono ?_; rintro e w3 ⟨rfl, hx3⟩
          go_wp2_with fail
          refine (H2.out w3 hx3).mono ?_; rintro e w4 ⟨rfl, hy4⟩
          have hx4 := hx3.trans hy4
          have hs4 := hx4.size
          clear hx3 hy4
          go_wp2_with (at_builtin; refine wpList_appendInt elInts rfl _ _ rfl rfl rfl (HOWN.out.ext hx4) rfl (by omega) (by omega) ?_; intro v' w' hown2 hb2)
          go_roundg (gk-1)
          case measure => omega
          case rel => exact ⟨k+1, z+1, by omega, by omega, by have := HZ.out; omega, by go_num, (hB.trans hx4).upto hb2 (Nat.le_refl _), by rw [HS2.out]; exact hown2⟩
    · obtain rfl : k = 7 := by omega
      have hz3 : ¬ z < 6 := by omega
      have HZ := Lib.hid hz; clear hz
      rw [← HE.out] at hown
      go_wp2_with fail
      go_ret
      exact ⟨_, rfl, hown, hB⟩
set_option maxHeartbeats 2000000 in
theorem inside_c (va vb : Value) (s u : List Int) (w : World) (ha : Ints w va s) (hb : Ints w vb u) : Calls Try.prog 88 #[va, vb] w (RV (.bool (insB s u)) w) := by
  have HA := Lib.hid ha; have HB := Lib.hid hb; clear ha hb
  go_enter Try.func88, Try.ntmps88
  go_wp2_with fail
  go_loopg [5] 7 (fun m i wr => ∃ (k : Nat) (z : Int), k ≤ 7 ∧ 7 ≤ k + m ∧ z = (k : Int) - 1 ∧ i = .int .i64 z ∧ Ext w wr ∧ Hid (∀ j : Nat, j < k → (!(mayB s ((j : Int) - 1) && !mayB u ((j : Int) - 1))) = true))
  case atStart => exact ⟨0, -1, by omega, by omega, rfl, rfl, Ext.refl _, fun j hj => by omega⟩
  case round =>
    obtain ⟨k, z, hk, hk2, hz, rfl, hB, hE⟩ := hrel
    have hz1 : -1 ≤ z := by omega
    have hz2 : z ≤ 6 := by omega
    by_cases hlt : k < 7
    · have hz3 : z < 6 := by omega
      have H1 := Lib.hid (rmay_c va s z wr (HA.out.ext hB))
      have H2 := Lib.hid (fun W (hW : Ext wr W) => rmay_c vb u z W (HB.out.ext (hB.trans hW)))
      have HST : Hid ((!(mayB s z && !mayB u z)) = true → ∀ j : Nat, j < k + 1 → (!(mayB s ((j : Int) - 1) && !mayB u ((j : Int) - 1))) = true) := fun h => range_step (f := fun j : Nat => !(mayB s ((j : Int) - 1) && !mayB u ((j : Int) - 1))) hE.out (by rw [← hz]; exact h)
      have HFL : Hid ((!(mayB s z && !mayB u z)) = false → insB s u = false) := fun h => allB_false hlt (by rw [← hz]; exact h)
      generalize mayB s z = b1 at *
      generalize mayB u z = b2 at *
      have HZ := Lib.hid hz; clear hz
      cases b1
      · have HS2 := Lib.hid (HST.out rfl)
        go_wp2_with fail
        refine H1.out.mono ?_; rintro e w3 ⟨rfl, hx3⟩
        go_wp2_with fail
        go_roundg (gk-1)
        case measure => omega
        case rel => exact ⟨k+1, z+1, by omega, by omega, by have := HZ.out; omega, by go_num, hB.trans hx3, HS2.out⟩
      · cases b2
        · have HS2 := Lib.hid (HFL.out rfl)
          go_wp2_with fail
          refine H1.out.mono ?_; rintro e w3 ⟨rfl, hx3⟩
          go_wp2_with fail
          refine (H2.out w3 hx3).mono ?_; rintro e w4 ⟨rfl, hy4⟩
          go_wp2_with fail
          go_ret
          exact RV.bool HS2.out.symm (hB.trans (hx3.trans hy4))
        · have HS2 := Lib.hid (HST.out rfl)
          go_wp2_with fail
          refine H1.out.mono ?_; rintro e w3 ⟨rfl, hx3⟩
          go_wp2_with fail
          refine (H2.out w3 hx3).mono ?_; rintro e w4 ⟨rfl, hy4⟩
          go_wp2_with fail
          go_roundg (gk-1)
          case measure => omega
          case rel => exact ⟨k+1, z+1, by omega, by omega, by have := HZ.out; omega, by go_num, hB.trans (hx3.trans hy4), HS2.out⟩
    · obtain rfl : k = 7 := by omega
      have hz3 : ¬ z < 6 := by omega
      have HZ := Lib.hid hz; clear hz
      go_wp2_with fail
      go_ret
      exact RV.bool (allB_true hE.out).symm hB
end Go.Proofs.Ytojbamejhlaahaa

