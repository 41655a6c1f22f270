/- Two rules: which is special, which can meet; both packages. -/
import Derived.Test.YtojbamejhlaahaaTwo
import Derived.Test.YtojbamejhlaahaaPeek
namespace Go.Proofs.Ytojbamejhlaahaa
open Go.RowKit Go.Shelf
set_option linter.unusedVariables false

theorem store_side (W : World) (g : Nat) (cs A : Array Value) (hb : BoxS W g cs) (hs : cs.size = 7) (ha : A.size = 7) (h1 : ∀ v ∈ A.toList, v.oneCell' = true) : (storeCells ⟨g, 0, none⟩ A.toList).run Try.prog W = .ok () (W.setRow g A) := by
  have := run_storeCells_at Try.prog g 0 71 A.toList 0 cs W hb (by simp [hs, ha]) h1
  rw [this]
  have h0 : cs.toList.drop (0 + 0 + A.toList.length) = [] := List.drop_of_length_le (by simp [hs, ha])
  rw [h0]; simp
theorem bothA_one (a b : List Int) : ∀ v ∈ (bothA a b).toList, v.oneCell' = true := by
  intro v hv; simp [bothA] at hv; rcases hv with rfl | rfl | rfl | rfl | rfl | rfl | rfl <;> rfl
theorem BoxS.row {W : World} {g : Nat} {cs : Array Value} (h : BoxS W g cs) (A : Array Value) : BoxS (W.setRow g A) g A := setRow_heap W g _ _ _ _ h
theorem BoxS.rowOther {W : World} {g c : Nat} {cs : Array Value} (h : BoxS W g cs) (hne : c ≠ g) (A : Array Value) : BoxS (W.setRow c A) g cs := (setRow_other W c g A (fun e => hne e.symm)).trans h
set_option maxHeartbeats 2000000 in
set_option maxRecDepth 100000 in
theorem both_c (tv lv rv tu lu ru : Value) (x y : Rul) (w : World) (hr : RulR w tv lv rv x) (hs : RulR w tu lu ru y) : Calls Try.prog 87 #[.agg #[.int .i64 x.f, tv, lv, rv], .agg #[.int .i64 y.f, tu, lu, ru]] w (RV (.tuple #[bothV x.l y.l, bothV x.r y.r]) w) := by
  obtain ⟨wA, hwA⟩ : ∃ wA, wA = (w.alloc (.cells #[.int .i64 x.f, tv, lv, rv] 24)).alloc (.cells #[.int .i64 y.f, tu, lu, ru] 24) := ⟨_, rfl⟩
  have hE0 : Ext w wA := by rw [hwA]; exact (Ext.alloc _ _).trans (Ext.alloc _ _)
  have k0 : ∀ W, Ext wA W → W.cell? ⟨w.heap.size, 0, none⟩ = some (.int .i64 x.f) := by rw [hwA]; exact kept_alloc2 w _ _ _ _ rfl
  have k1 : ∀ W, Ext wA W → W.cell? ⟨w.heap.size, 1, none⟩ = some tv := by rw [hwA]; exact kept_alloc2 w _ _ _ _ rfl
  have k2 : ∀ W, Ext wA W → W.cell? ⟨w.heap.size, 2, none⟩ = some lv := by rw [hwA]; exact kept_alloc2 w _ _ _ _ rfl
  have k3 : ∀ W, Ext wA W → W.cell? ⟨w.heap.size, 3, none⟩ = some rv := by rw [hwA]; exact kept_alloc2 w _ _ _ _ rfl
  have m0 : ∀ W, Ext wA W → W.cell? ⟨w.heap.size + 1, 0, none⟩ = some (.int .i64 y.f) := by rw [hwA]; exact kept_alloc2' w _ _ _ _ rfl
  have m1 : ∀ W, Ext wA W → W.cell? ⟨w.heap.size + 1, 1, none⟩ = some tu := by rw [hwA]; exact kept_alloc2' w _ _ _ _ rfl
  have m2 : ∀ W, Ext wA W → W.cell? ⟨w.heap.size + 1, 2, none⟩ = some lu := by rw [hwA]; exact kept_alloc2' w _ _ _ _ rfl
  have m3 : ∀ W, Ext wA W → W.cell? ⟨w.heap.size + 1, 3, none⟩ = some ru := by rw [hwA]; exact kept_alloc2' w _ _ _ _ rfl
  have H0 : Ext wA wA := Ext.refl _
  obtain ⟨Z, hZ⟩ : ∃ Z : Array Value, Z = #[.bool false, .bool false, .bool false, .bool false, .bool false, .bool false, .bool false] := ⟨_, rfl⟩
  have hsA : wA.heap.size = w.heap.size + 1 + 1 := by rw [hwA]; simp
  obtain ⟨wB, hwB⟩ : ∃ wB, wB = (wA.alloc (.cells Z 71)).alloc (.cells Z 71) := ⟨_, rfl⟩
  have hEB : Ext wA wB := by rw [hwB]; exact (Ext.alloc _ _).trans (Ext.alloc _ _)
  have hb1 : BoxS wB (w.heap.size + 1 + 1) Z := by rw [hwB, ← hsA]; exact BoxS.ext (World.alloc_heap_new wA _) (Ext.alloc _ _)
  have hb2 : BoxS wB (w.heap.size + 1 + 1 + 1) Z := by
    rw [hwB, ← hsA]
    have := World.alloc_heap_new (wA.alloc (.cells Z 71)) (.cells Z 71); simpa [BoxS] using this
  rw [hZ] at hwB
  have HX := Lib.hid (hr.ext hE0)
  have HY := Lib.hid (hs.ext hE0)
  have HB1 := Lib.hid hb1; have HB2 := Lib.hid hb2
  have HW := Lib.hid hwA; have HWB := Lib.hid hwB; have HZ := Lib.hid hZ
  have HSA := Lib.hid hsA
  clear hwA hr hs hwB hZ hb1 hb2 hsA
  go_enter Try.func87, Try.ntmps87
  go_wp2_with fail
  rw [← HW.out, ← HWB.out]
  refine wp_region_peek (Ext wB) (fun _ => True) [14, 15] [.look 0, .look 1, .look 3, .look 4, .look 7, .look 8, .look 10, .look 11, .go 2, .go 5, .go 6, .go 9, .go 12, .go 13, .go 14, .go 15] (by kernel_rfl) (by kernel_rfl) (by intro c a d v w h; cases d <;> exact h) ?_
  have hd : Ext wB { wB with drawn := wB.drawn + 1 } := drawn_ext wB
  have hs : ∀ s : InC (Ext wB), Ext wA s.w := fun s => hEB.trans s.h
  generalize { wB with drawn := wB.drawn + 1 } = W0 at *
  iterate 8 (refine wpPeek_look rfl ‹_› (fun K hK => ?_); go_simp; first | (refine hK _ ?_; clear hK K) | (refine ⟨_, fun _ => rfl, hK _ ?_⟩; clear hK K))
  clear hs k0 k1 k2 k3 m0 m1 m2 m3
  refine wpPeek_go rfl rfl (fun K hK => ?_)
  go_wp2_with fail
  refine (of_c lv x.l W0 (HX.out.l.ext (hEB.trans hd))).mono ?_; rintro e W1 ⟨rfl, hy⟩
  go_wp2_with fail
  refine ⟨KeepE.of (fun h => h.trans hy) (fun _ => trivial), ?_⟩
  replace hd := hd.trans hy
  clear hy
  refine wpPeek_go rfl rfl (fun K hK => ?_)
  go_wp2_with fail
  refine (of_c lu y.l W1 (HY.out.l.ext (hEB.trans hd))).mono ?_; rintro e W2 ⟨rfl, hy⟩
  go_wp2_with fail
  refine ⟨KeepE.of (fun h => h.trans hy) (fun _ => trivial), ?_⟩
  replace hd := hd.trans hy
  clear hy
  refine wpPeek_go rfl rfl (fun K hK => ?_)
  go_wp2_with fail
  refine (and_c x.l y.l W2).mono ?_; rintro e W3 ⟨rfl, hy⟩
  go_wp2_with fail
  refine ⟨KeepE.of (fun h => h.trans hy) (fun _ => trivial), ?_⟩
  replace hd := hd.trans hy
  clear hy
  refine wpPeek_go rfl rfl (fun K hK => ?_)
  go_wp2_with fail
  refine (of_c rv x.r W3 (HX.out.r.ext (hEB.trans hd))).mono ?_; rintro e W4 ⟨rfl, hy⟩
  go_wp2_with fail
  refine ⟨KeepE.of (fun h => h.trans hy) (fun _ => trivial), ?_⟩
  replace hd := hd.trans hy
  clear hy
  refine wpPeek_go rfl rfl (fun K hK => ?_)
  go_wp2_with fail
  refine (of_c ru y.r W4 (HY.out.r.ext (hEB.trans hd))).mono ?_; rintro e W5 ⟨rfl, hy⟩
  go_wp2_with fail
  refine ⟨KeepE.of (fun h => h.trans hy) (fun _ => trivial), ?_⟩
  replace hd := hd.trans hy
  clear hy
  refine wpPeek_go rfl rfl (fun K hK => ?_)
  go_wp2_with fail
  refine (and_c x.r y.r W5).mono ?_; rintro e W6 ⟨rfl, hy⟩
  go_wp2_with fail
  refine ⟨KeepE.of (fun h => h.trans hy) (fun _ => trivial), ?_⟩
  replace hd := hd.trans hy
  clear hy
  have q1 := HB1.out.ext hd
  have q2 := HB2.out.ext hd
  have hst := store_side W6 (w.heap.size + 1 + 1) Z (bothA x.l y.l) q1 (by rw [HZ.out]; rfl) rfl (bothA_one _ _)
  have q3 := q1.row (bothA x.l y.l)
  have q4 := q2.rowOther (c := w.heap.size + 1 + 1) (by omega) (bothA x.l y.l)
  have hx7 : Ext w (W6.setRow (w.heap.size + 1 + 1) (bothA x.l y.l)) := Ext.setRow (hE0.trans (hEB.trans hd)) (by omega) _
  have HQ := Lib.hid (And.intro q3 (And.intro q4 hx7))
  clear q1 q2 q3 q4 hx7
  unfold bothV
  refine wpPeek_go rfl rfl (fun K hK => ?_)
  go_wp2_with fail
  refine ⟨⟨.inl (by simp), fun _ => trivial⟩, ?_⟩
  clear hst
  generalize W6.setRow (w.heap.size + 1 + 1) (bothA x.l y.l) = W7 at *
  have hst := store_side W7 (w.heap.size + 1 + 1 + 1) Z (bothA x.r y.r) HQ.out.2.1 (by rw [HZ.out]; rfl) rfl (bothA_one _ _)
  have q3 := HQ.out.2.1.row (bothA x.r y.r)
  have q4 := HQ.out.1.rowOther (c := w.heap.size + 1 + 1 + 1) (by omega) (bothA x.r y.r)
  have hx8 : Ext w (W7.setRow (w.heap.size + 1 + 1 + 1) (bothA x.r y.r)) := Ext.setRow HQ.out.2.2 (by omega) _
  have HQ8 := Lib.hid (And.intro q4 (And.intro q3 hx8))
  clear q3 q4 hx8
  refine wpPeek_go rfl rfl (fun K hK => ?_)
  go_wp2_with fail
  refine ⟨⟨.inl (by simp), fun _ => trivial⟩, ?_⟩
  clear hst
  generalize W7.setRow (w.heap.size + 1 + 1 + 1) (bothA x.r y.r) = W8 at *
  refine wpPeek_nil ?_
  go_wp2_with fail
  have c0 := HQ8.out.1.cell (i := 0) (v := .bool (bothB x.l y.l (-1))) rfl
  have c1 := HQ8.out.1.cell (i := 1) (v := .bool (bothB x.l y.l 0)) rfl
  have c2 := HQ8.out.1.cell (i := 2) (v := .bool (bothB x.l y.l 1)) rfl
  have c3 := HQ8.out.1.cell (i := 3) (v := .bool (bothB x.l y.l 2)) rfl
  have c4 := HQ8.out.1.cell (i := 4) (v := .bool (bothB x.l y.l 3)) rfl
  have c5 := HQ8.out.1.cell (i := 5) (v := .bool (bothB x.l y.l 4)) rfl
  have c6 := HQ8.out.1.cell (i := 6) (v := .bool (bothB x.l y.l 5)) rfl
  have c0' := HQ8.out.2.1.cell (i := 0) (v := .bool (bothB x.r y.r (-1))) rfl
  have c1' := HQ8.out.2.1.cell (i := 1) (v := .bool (bothB x.r y.r 0)) rfl
  have c2' := HQ8.out.2.1.cell (i := 2) (v := .bool (bothB x.r y.r 1)) rfl
  have c3' := HQ8.out.2.1.cell (i := 3) (v := .bool (bothB x.r y.r 2)) rfl
  have c4' := HQ8.out.2.1.cell (i := 4) (v := .bool (bothB x.r y.r 3)) rfl
  have c5' := HQ8.out.2.1.cell (i := 5) (v := .bool (bothB x.r y.r 4)) rfl
  have c6' := HQ8.out.2.1.cell (i := 6) (v := .bool (bothB x.r y.r 5)) rfl
  unfold bothA
  refine bodyPost_ret (v := .tuple #[.agg #[.bool (bothB x.l y.l (-1)), .bool (bothB x.l y.l 0), .bool (bothB x.l y.l 1), .bool (bothB x.l y.l 2), .bool (bothB x.l y.l 3), .bool (bothB x.l y.l 4), .bool (bothB x.l y.l 5)], .agg #[.bool (bothB x.r y.r (-1)), .bool (bothB x.r y.r 0), .bool (bothB x.r y.r 1), .bool (bothB x.r y.r 2), .bool (bothB x.r y.r 3), .bool (bothB x.r y.r 4), .bool (bothB x.r y.r 5)]]) ?_ rfl ⟨rfl, HQ8.out.2.2⟩
  simp [results, Try.results87, go_sem, c0, c1, c2, c3, c4, c5, c6, c0', c1', c2', c3', c4', c5', c6']

/-! ## special -/
def specB (x y : Rul) : Bool := x.f == y.f && (insB x.l y.l && insB x.r y.r)
def spec (x y : Rul) : Bool := if twoK x y = 0 then specB x y else false
theorem and_eq_self (m n : Bool) : ((m && n) == m) = !(m && !n) := by cases m <;> cases n <;> rfl
theorem ins_eq (a b : List Int) : insB a b = (bothB a b (-1) == mayB a (-1) && (bothB a b 0 == mayB a 0 && (bothB a b 1 == mayB a 1 && (bothB a b 2 == mayB a 2 && (bothB a b 3 == mayB a 3 && (bothB a b 4 == mayB a 4 && bothB a b 5 == mayB a 5)))))) := by
  rw [insB, allB7]
  simp only [bothB, and_eq_self]
  rfl

set_option maxHeartbeats 2000000 in
set_option maxRecDepth 100000 in
theorem IsSpecial_c (tv lv rv tu lu ru : Value) (x y : Rul) (w : World) (hr : RulR w tv lv rv x) (hs : RulR w tu lu ru y) : Calls Try.prog 42 #[.agg #[.int .i64 x.f, tv, lv, rv], .agg #[.int .i64 y.f, tu, lu, ru]] w (RV (.tuple #[.bool (spec x y), .int .i64 (twoK x y)]) w) := by
  obtain ⟨wA, hwA⟩ : ∃ wA, wA = (w.alloc (.cells #[.int .i64 x.f, tv, lv, rv] 24)).alloc (.cells #[.int .i64 y.f, tu, lu, ru] 24) := ⟨_, rfl⟩
  have hE0 : Ext w wA := by rw [hwA]; exact (Ext.alloc _ _).trans (Ext.alloc _ _)
  have k0 : ∀ W, Ext wA W → W.cell? ⟨w.heap.size, 0, none⟩ = some (.int .i64 x.f) := by rw [hwA]; exact kept_alloc2 w _ _ _ _ rfl
  have k1 : ∀ W, Ext wA W → W.cell? ⟨w.heap.size, 1, none⟩ = some tv := by rw [hwA]; exact kept_alloc2 w _ _ _ _ rfl
  have k2 : ∀ W, Ext wA W → W.cell? ⟨w.heap.size, 2, none⟩ = some lv := by rw [hwA]; exact kept_alloc2 w _ _ _ _ rfl
  have k3 : ∀ W, Ext wA W → W.cell? ⟨w.heap.size, 3, none⟩ = some rv := by rw [hwA]; exact kept_alloc2 w _ _ _ _ rfl
  have m0 : ∀ W, Ext wA W → W.cell? ⟨w.heap.size + 1, 0, none⟩ = some (.int .i64 y.f) := by rw [hwA]; exact kept_alloc2' w _ _ _ _ rfl
  have m1 : ∀ W, Ext wA W → W.cell? ⟨w.heap.size + 1, 1, none⟩ = some tu := by rw [hwA]; exact kept_alloc2' w _ _ _ _ rfl
  have m2 : ∀ W, Ext wA W → W.cell? ⟨w.heap.size + 1, 2, none⟩ = some lu := by rw [hwA]; exact kept_alloc2' w _ _ _ _ rfl
  have m3 : ∀ W, Ext wA W → W.cell? ⟨w.heap.size + 1, 3, none⟩ = some ru := by rw [hwA]; exact kept_alloc2' w _ _ _ _ rfl
  have H0 : Ext wA wA := Ext.refl _
  have HX := Lib.hid (hr.ext hE0)
  have HY := Lib.hid (hs.ext hE0)
  have HT := Lib.hid (two_c tv lv rv tu lu ru x y wA HX.out HY.out)
  have HW := Lib.hid hwA
  clear hwA hr hs
  unfold spec
  by_cases h0 : twoK x y = 0
  · rw [if_pos h0]
    rw [h0] at HT ⊢
    clear h0
    have HOL := fun W (hW : Ext wA W) => of_c lv x.l W (HX.out.l.ext hW)
    have HOR := fun W (hW : Ext wA W) => of_c rv x.r W (HX.out.r.ext hW)
    have HBO := Lib.hid (fun W (hW : Ext wA W) => both_c tv lv rv tu lu ru x y W (HX.out.ext hW) (HY.out.ext hW))
    have hsp : specB x y = (x.f == y.f && (insB x.l y.l && insB x.r y.r)) := rfl
    rw [ins_eq, ins_eq] at hsp
    unfold sideV at HOL HOR
    unfold bothV bothA at HBO
    have HOL := Lib.hid HOL
    have HOR := Lib.hid HOR
    generalize bothB x.l y.l (-1) = p0 at *
    generalize mayB x.l (-1) = u0 at *
    generalize bothB x.l y.l 0 = p1 at *
    generalize mayB x.l 0 = u1 at *
    generalize bothB x.l y.l 1 = p2 at *
    generalize mayB x.l 1 = u2 at *
    generalize bothB x.l y.l 2 = p3 at *
    generalize mayB x.l 2 = u3 at *
    generalize bothB x.l y.l 3 = p4 at *
    generalize mayB x.l 3 = u4 at *
    generalize bothB x.l y.l 4 = p5 at *
    generalize mayB x.l 4 = u5 at *
    generalize bothB x.l y.l 5 = p6 at *
    generalize mayB x.l 5 = u6 at *
    generalize bothB x.r y.r (-1) = q0 at *
    generalize mayB x.r (-1) = n0 at *
    generalize bothB x.r y.r 0 = q1 at *
    generalize mayB x.r 0 = n1 at *
    generalize bothB x.r y.r 1 = q2 at *
    generalize mayB x.r 1 = n2 at *
    generalize bothB x.r y.r 2 = q3 at *
    generalize mayB x.r 2 = n3 at *
    generalize bothB x.r y.r 3 = q4 at *
    generalize mayB x.r 3 = n4 at *
    generalize bothB x.r y.r 4 = q5 at *
    generalize mayB x.r 4 = n5 at *
    generalize bothB x.r y.r 5 = q6 at *
    generalize mayB x.r 5 = n6 at *
    have hql := fun W => run_eql_side W p0 p1 p2 p3 p4 p5 p6 u0 u1 u2 u3 u4 u5 u6
    have hqr := fun W => run_eql_side W q0 q1 q2 q3 q4 q5 q6 n0 n1 n2 n3 n4 n5 n6
    have HSP := Lib.hid hsp; clear hsp
    generalize (p0 == u0 && (p1 == u1 && (p2 == u2 && (p3 == u3 && (p4 == u4 && (p5 == u5 && p6 == u6)))))) = E1 at *
    generalize (q0 == n0 && (q1 == n1 && (q2 == n2 && (q3 == n3 && (q4 == n4 && (q5 == n5 && q6 == n6)))))) = E2 at *
    generalize specB x y = SB at *
    cases hbf : (x.f == y.f)
    · rw [hbf] at HSP
      go_enter Try.func42, Try.ntmps42
      go_wp2_with fail
      rw [← HW.out]
      refine HT.out.mono ?_; rintro e w1 ⟨rfl, hx1⟩
      go_wp2_with fail
      refine (HBO.out w1 hx1).mono ?_; rintro e w2 ⟨rfl, hy2⟩
      have hx2 := hx1.trans hy2
      clear hx1 hy2
      go_wp2_with fail
      obtain ⟨w4, hw4⟩ : ∃ w4, w4 = (w2.alloc (.cells #[.bool p0, .bool p1, .bool p2, .bool p3, .bool p4, .bool p5, .bool p6] 71)).alloc (.cells #[.bool q0, .bool q1, .bool q2, .bool q3, .bool q4, .bool q5, .bool q6] 71) := ⟨_, rfl⟩
      have hE4 : Ext w2 w4 := by rw [hw4]; exact (Ext.alloc _ _).trans (Ext.alloc _ _)
      have c0 : ∀ W, Ext w4 W → W.cell? ⟨w2.heap.size, 0, none⟩ = some (.bool p0) := by rw [hw4]; exact kept_alloc2 w2 _ _ _ _ rfl
      have c1 : ∀ W, Ext w4 W → W.cell? ⟨w2.heap.size, 1, none⟩ = some (.bool p1) := by rw [hw4]; exact kept_alloc2 w2 _ _ _ _ rfl
      have c2 : ∀ W, Ext w4 W → W.cell? ⟨w2.heap.size, 2, none⟩ = some (.bool p2) := by rw [hw4]; exact kept_alloc2 w2 _ _ _ _ rfl
      have c3 : ∀ W, Ext w4 W → W.cell? ⟨w2.heap.size, 3, none⟩ = some (.bool p3) := by rw [hw4]; exact kept_alloc2 w2 _ _ _ _ rfl
      have c4 : ∀ W, Ext w4 W → W.cell? ⟨w2.heap.size, 4, none⟩ = some (.bool p4) := by rw [hw4]; exact kept_alloc2 w2 _ _ _ _ rfl
      have c5 : ∀ W, Ext w4 W → W.cell? ⟨w2.heap.size, 5, none⟩ = some (.bool p5) := by rw [hw4]; exact kept_alloc2 w2 _ _ _ _ rfl
      have c6 : ∀ W, Ext w4 W → W.cell? ⟨w2.heap.size, 6, none⟩ = some (.bool p6) := by rw [hw4]; exact kept_alloc2 w2 _ _ _ _ rfl
      have d0 : ∀ W, Ext w4 W → W.cell? ⟨w2.heap.size + 1, 0, none⟩ = some (.bool q0) := by rw [hw4]; exact kept_alloc2' w2 _ _ _ _ rfl
      have d1 : ∀ W, Ext w4 W → W.cell? ⟨w2.heap.size + 1, 1, none⟩ = some (.bool q1) := by rw [hw4]; exact kept_alloc2' w2 _ _ _ _ rfl
      have d2 : ∀ W, Ext w4 W → W.cell? ⟨w2.heap.size + 1, 2, none⟩ = some (.bool q2) := by rw [hw4]; exact kept_alloc2' w2 _ _ _ _ rfl
      have d3 : ∀ W, Ext w4 W → W.cell? ⟨w2.heap.size + 1, 3, none⟩ = some (.bool q3) := by rw [hw4]; exact kept_alloc2' w2 _ _ _ _ rfl
      have d4 : ∀ W, Ext w4 W → W.cell? ⟨w2.heap.size + 1, 4, none⟩ = some (.bool q4) := by rw [hw4]; exact kept_alloc2' w2 _ _ _ _ rfl
      have d5 : ∀ W, Ext w4 W → W.cell? ⟨w2.heap.size + 1, 5, none⟩ = some (.bool q5) := by rw [hw4]; exact kept_alloc2' w2 _ _ _ _ rfl
      have d6 : ∀ W, Ext w4 W → W.cell? ⟨w2.heap.size + 1, 6, none⟩ = some (.bool q6) := by rw [hw4]; exact kept_alloc2' w2 _ _ _ _ rfl
      rw [← hw4]
      clear hw4
      have hx4 := hx2.trans hE4
      clear hx2 hE4
      have hs : ∀ s : Later w4, Ext wA s.w := fun s => hx4.trans s.ext
      have hs4 : ∀ s : Later w4, Ext w4 s.w := fun s => s.ext
      refine wp_region_later (by kernel_rfl) (by kernel_rfl) ?_
      repeat (go_big_quiet_step (first | (go_at_call 81; first | with_reducible exact Later.call (HOL.out _ (hs _)) | with_reducible exact Later.call (HOR.out _ (hs _)))))
      refine wpQuiet_nil ?_
      intro w5 hw'
      obtain ⟨⟨_, hx5⟩, rfl⟩ := hw'
      clear hs hs4
      go_wp2_with fail
      go_ret2
      exact RV.mk (by rw [HSP.out]; rfl) (hE0.trans (hx4.trans hx5))
    · rw [hbf] at HSP
      cases E1
      · go_enter Try.func42, Try.ntmps42
        go_wp2_with fail
        rw [← HW.out]
        refine HT.out.mono ?_; rintro e w1 ⟨rfl, hx1⟩
        go_wp2_with fail
        refine (HBO.out w1 hx1).mono ?_; rintro e w2 ⟨rfl, hy2⟩
        have hx2 := hx1.trans hy2
        clear hx1 hy2
        go_wp2_with fail
        obtain ⟨w4, hw4⟩ : ∃ w4, w4 = (w2.alloc (.cells #[.bool p0, .bool p1, .bool p2, .bool p3, .bool p4, .bool p5, .bool p6] 71)).alloc (.cells #[.bool q0, .bool q1, .bool q2, .bool q3, .bool q4, .bool q5, .bool q6] 71) := ⟨_, rfl⟩
        have hE4 : Ext w2 w4 := by rw [hw4]; exact (Ext.alloc _ _).trans (Ext.alloc _ _)
        have c0 : ∀ W, Ext w4 W → W.cell? ⟨w2.heap.size, 0, none⟩ = some (.bool p0) := by rw [hw4]; exact kept_alloc2 w2 _ _ _ _ rfl
        have c1 : ∀ W, Ext w4 W → W.cell? ⟨w2.heap.size, 1, none⟩ = some (.bool p1) := by rw [hw4]; exact kept_alloc2 w2 _ _ _ _ rfl
        have c2 : ∀ W, Ext w4 W → W.cell? ⟨w2.heap.size, 2, none⟩ = some (.bool p2) := by rw [hw4]; exact kept_alloc2 w2 _ _ _ _ rfl
        have c3 : ∀ W, Ext w4 W → W.cell? ⟨w2.heap.size, 3, none⟩ = some (.bool p3) := by rw [hw4]; exact kept_alloc2 w2 _ _ _ _ rfl
        have c4 : ∀ W, Ext w4 W → W.cell? ⟨w2.heap.size, 4, none⟩ = some (.bool p4) := by rw [hw4]; exact kept_alloc2 w2 _ _ _ _ rfl
        have c5 : ∀ W, Ext w4 W → W.cell? ⟨w2.heap.size, 5, none⟩ = some (.bool p5) := by rw [hw4]; exact kept_alloc2 w2 _ _ _ _ rfl
        have c6 : ∀ W, Ext w4 W → W.cell? ⟨w2.heap.size, 6, none⟩ = some (.bool p6) := by rw [hw4]; exact kept_alloc2 w2 _ _ _ _ rfl
        have d0 : ∀ W, Ext w4 W → W.cell? ⟨w2.heap.size + 1, 0, none⟩ = some (.bool q0) := by rw [hw4]; exact kept_alloc2' w2 _ _ _ _ rfl
        have d1 : ∀ W, Ext w4 W → W.cell? ⟨w2.heap.size + 1, 1, none⟩ = some (.bool q1) := by rw [hw4]; exact kept_alloc2' w2 _ _ _ _ rfl
        have d2 : ∀ W, Ext w4 W → W.cell? ⟨w2.heap.size + 1, 2, none⟩ = some (.bool q2) := by rw [hw4]; exact kept_alloc2' w2 _ _ _ _ rfl
        have d3 : ∀ W, Ext w4 W → W.cell? ⟨w2.heap.size + 1, 3, none⟩ = some (.bool q3) := by rw [hw4]; exact kept_alloc2' w2 _ _ _ _ rfl
        have d4 : ∀ W, Ext w4 W → W.cell? ⟨w2.heap.size + 1, 4, none⟩ = some (.bool q4) := by rw [hw4]; exact kept_alloc2' w2 _ _ _ _ rfl
        have d5 : ∀ W, Ext w4 W → W.cell? ⟨w2.heap.size + 1, 5, none⟩ = some (.bool q5) := by rw [hw4]; exact kept_alloc2' w2 _ _ _ _ rfl
        have d6 : ∀ W, Ext w4 W → W.cell? ⟨w2.heap.size + 1, 6, none⟩ = some (.bool q6) := by rw [hw4]; exact kept_alloc2' w2 _ _ _ _ rfl
        rw [← hw4]
        clear hw4
        have hx4 := hx2.trans hE4
        clear hx2 hE4
        have hs : ∀ s : Later w4, Ext wA s.w := fun s => hx4.trans s.ext
        have hs4 : ∀ s : Later w4, Ext w4 s.w := fun s => s.ext
        refine wp_region_later (by kernel_rfl) (by kernel_rfl) ?_
        repeat (go_big_quiet_step (first | (go_at_call 81; first | with_reducible exact Later.call (HOL.out _ (hs _)) | with_reducible exact Later.call (HOR.out _ (hs _)))))
        refine wpQuiet_nil ?_
        intro w5 hw'
        obtain ⟨⟨_, hx5⟩, rfl⟩ := hw'
        clear hs hs4
        go_wp2_with fail
        go_ret2
        exact RV.mk (by rw [HSP.out]; rfl) (hE0.trans (hx4.trans hx5))
      · go_enter Try.func42, Try.ntmps42
        go_wp2_with fail
        rw [← HW.out]
        refine HT.out.mono ?_; rintro e w1 ⟨rfl, hx1⟩
        go_wp2_with fail
        refine (HBO.out w1 hx1).mono ?_; rintro e w2 ⟨rfl, hy2⟩
        have hx2 := hx1.trans hy2
        clear hx1 hy2
        go_wp2_with fail
        obtain ⟨w4, hw4⟩ : ∃ w4, w4 = (w2.alloc (.cells #[.bool p0, .bool p1, .bool p2, .bool p3, .bool p4, .bool p5, .bool p6] 71)).alloc (.cells #[.bool q0, .bool q1, .bool q2, .bool q3, .bool q4, .bool q5, .bool q6] 71) := ⟨_, rfl⟩
        have hE4 : Ext w2 w4 := by rw [hw4]; exact (Ext.alloc _ _).trans (Ext.alloc _ _)
        have c0 : ∀ W, Ext w4 W → W.cell? ⟨w2.heap.size, 0, none⟩ = some (.bool p0) := by rw [hw4]; exact kept_alloc2 w2 _ _ _ _ rfl
        have c1 : ∀ W, Ext w4 W → W.cell? ⟨w2.heap.size, 1, none⟩ = some (.bool p1) := by rw [hw4]; exact kept_alloc2 w2 _ _ _ _ rfl
        have c2 : ∀ W, Ext w4 W → W.cell? ⟨w2.heap.size, 2, none⟩ = some (.bool p2) := by rw [hw4]; exact kept_alloc2 w2 _ _ _ _ rfl
        have c3 : ∀ W, Ext w4 W → W.cell? ⟨w2.heap.size, 3, none⟩ = some (.bool p3) := by rw [hw4]; exact kept_alloc2 w2 _ _ _ _ rfl
        have c4 : ∀ W, Ext w4 W → W.cell? ⟨w2.heap.size, 4, none⟩ = some (.bool p4) := by rw [hw4]; exact kept_alloc2 w2 _ _ _ _ rfl
        have c5 : ∀ W, Ext w4 W → W.cell? ⟨w2.heap.size, 5, none⟩ = some (.bool p5) := by rw [hw4]; exact kept_alloc2 w2 _ _ _ _ rfl
        have c6 : ∀ W, Ext w4 W → W.cell? ⟨w2.heap.size, 6, none⟩ = some (.bool p6) := by rw [hw4]; exact kept_alloc2 w2 _ _ _ _ rfl
        have d0 : ∀ W, Ext w4 W → W.cell? ⟨w2.heap.size + 1, 0, none⟩ = some (.bool q0) := by rw [hw4]; exact kept_alloc2' w2 _ _ _ _ rfl
        have d1 : ∀ W, Ext w4 W → W.cell? ⟨w2.heap.size + 1, 1, none⟩ = some (.bool q1) := by rw [hw4]; exact kept_alloc2' w2 _ _ _ _ rfl
        have d2 : ∀ W, Ext w4 W → W.cell? ⟨w2.heap.size + 1, 2, none⟩ = some (.bool q2) := by rw [hw4]; exact kept_alloc2' w2 _ _ _ _ rfl
        have d3 : ∀ W, Ext w4 W → W.cell? ⟨w2.heap.size + 1, 3, none⟩ = some (.bool q3) := by rw [hw4]; exact kept_alloc2' w2 _ _ _ _ rfl
        have d4 : ∀ W, Ext w4 W → W.cell? ⟨w2.heap.size + 1, 4, none⟩ = some (.bool q4) := by rw [hw4]; exact kept_alloc2' w2 _ _ _ _ rfl
        have d5 : ∀ W, Ext w4 W → W.cell? ⟨w2.heap.size + 1, 5, none⟩ = some (.bool q5) := by rw [hw4]; exact kept_alloc2' w2 _ _ _ _ rfl
        have d6 : ∀ W, Ext w4 W → W.cell? ⟨w2.heap.size + 1, 6, none⟩ = some (.bool q6) := by rw [hw4]; exact kept_alloc2' w2 _ _ _ _ rfl
        rw [← hw4]
        clear hw4
        have hx4 := hx2.trans hE4
        clear hx2 hE4
        have hs : ∀ s : Later w4, Ext wA s.w := fun s => hx4.trans s.ext
        have hs4 : ∀ s : Later w4, Ext w4 s.w := fun s => s.ext
        refine wp_region_later (by kernel_rfl) (by kernel_rfl) ?_
        repeat (go_big_quiet_step (first | (go_at_call 81; first | with_reducible exact Later.call (HOL.out _ (hs _)) | with_reducible exact Later.call (HOR.out _ (hs _)))))
        refine wpQuiet_nil ?_
        intro w5 hw'
        obtain ⟨⟨_, hx5⟩, rfl⟩ := hw'
        clear hs hs4
        go_wp2_with fail
        go_ret2
        exact RV.mk (by rw [HSP.out]; rfl) (hE0.trans (hx4.trans hx5))
  · rw [if_neg h0]
    have hk : (twoK x y != 0) = true := by simp [h0]
    generalize twoK x y = k at *
    clear h0
    go_enter Try.func42, Try.ntmps42
    go_wp2_with fail
    rw [← HW.out]
    refine HT.out.mono ?_; rintro e w1 ⟨rfl, hx1⟩
    go_wp2_with fail
    go_ret2
    exact RV.mk rfl (hE0.trans hx1)
end Go.Proofs.Ytojbamejhlaahaa

