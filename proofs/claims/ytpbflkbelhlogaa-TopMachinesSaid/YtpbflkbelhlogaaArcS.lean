/- Arcs: how two of them compare, and slices.SortFunc at arcs. -/
import Derived.Test.YtpbflkbelhlogaaMacK
import Derived.Test.YtpbflkbelhlogaaRegion
import Derived.Shelf.SlSortCmp.WholeK
namespace Go.Proofs.Ytpbflkbelhlogaa
open Go.RowKit Go.Shelf
set_option linter.unusedVariables false
/-! ## worlds that have grown, some draws on -/
structure LaterG (w0 : World) where
  n : Nat
  os : Array Obj
def LaterG.w {w0 : World} (s : LaterG w0) : World := Go.Sort.grow (w0.drewN s.n) s.os
theorem grow_ext (w : World) (os : Array Obj) : Ext w (Go.Sort.grow w os) :=
  ⟨rfl, rfl, rfl, by simp, fun k hk => Go.Sort.heap_grow_old w os hk⟩
theorem LaterG.ext {w0 : World} (s : LaterG w0) : Ext w0 s.w := (Ext.drewN w0 s.n).trans (grow_ext _ _)
instance LaterG.some_ (w0 : World) : Nonempty (LaterG w0) := ⟨⟨0, #[]⟩⟩
theorem LaterG.callP {P : Program} {f : FuncId} {args : Array Value} {w0 : World} {s : LaterG w0} {v : Value} (h : Calls P f args s.w (RP v s.w)) :
    Calls P f args s.w fun e w'' => e = .returned v ∧ ∃ s' : LaterG w0, w'' = s'.w :=
  h.mono fun e w'' ⟨he, hx⟩ => ⟨he, s, hx.symm⟩
/-- it has grown, some draws on -/
def GrD (w w' : World) : Prop := ∃ q os', w' = Go.Sort.grow (w.drewN q) os'
theorem GrD.trans {a b c : World} (h1 : GrD a b) (h2 : GrD b c) : GrD a c := by
  obtain ⟨q1, o1, rfl⟩ := h1
  obtain ⟨q2, o2, rfl⟩ := h2
  refine ⟨q1 + q2, o1 ++ o2, ?_⟩
  show Go.Sort.grow (Go.Sort.grow ((a.drewN q1).drewN q2) o1) o2 = _
  rw [Go.Sort.grow_grow, World.drewN_drewN]
theorem GrD.alloc (w : World) (o : Obj) : GrD w (w.alloc o) := ⟨0, #[o], by rw [Go.Sort.alloc_eq_grow]; rfl⟩
theorem GrD.later {w0 : World} (s : LaterG w0) : GrD w0 s.w := ⟨s.n, s.os, rfl⟩
/-- a region that draws: looks and calls that leave the world, then a tail in the text's order -/
theorem wp_region_g_tail {P : Program} {id : Nat} {Q : Exit → Act → World → Prop} {a : Act} {w : World} {l : List Oper} (n : Nat) (hm : P.follows .mixedOrders = true) (hB : Region.lexTailB .any l.toArray n = true)
    (h : wpQuiet P l.toArray (fun w' => ∃ s : LaterG w, w' = s.w) (fun a' => ∀ w', (∃ s : LaterG w, w' = s.w) → wpList P l.toArray Q (l.drop n) a' w') (l.take n) a) : (Code.region id l.toArray true).wp P Q a w :=
  wp_region_any hm (wpAny_head_tail (C := fun w' => ∃ s : LaterG w, w' = s.w) n hB ⟨⟨1, #[]⟩, by unfold LaterG.w; rw [Go.Sort.grow_empty]; rfl⟩ h)
/-! ## how two compare -/
def cmpI (x y : Int) : Int := if x < y then -1 else if y < x then 1 else 0
def orL (l : List Int) : Int := (l.find? fun x => x != 0).getD 0
def cmpA (x y : Arc) : Int := orL [cmpI x.f y.f, cmpI x.t y.t, cmpI x.i y.i, cmpI x.o y.o]
theorem isNaN_c (x : Int) (w : World) : Calls Try.prog 127 #[.int .i64 x] w (RP (.bool false) w) := by
  have h : (x != x) = false := by simp
  go_enter Try.func127, Try.ntmps127
  go_wp2_with fail
  go_ret
  exact RP.bool rfl
theorem cmpC_c (x y : Int) (w : World) : Calls Try.prog 114 #[.int .i64 x, .int .i64 y] w (RP (.int .i64 (cmpI x y)) w) := by
  by_cases h : x < y
  · rw [show cmpI x y = -1 by rw [cmpI, if_pos h]]
    go_enter Try.func114, Try.ntmps114
    go_wp2_with fail
    refine (isNaN_c x w).mono ?_; rintro e w1 ⟨rfl, rfl⟩
    go_wp2_with fail
    refine (isNaN_c y _).mono ?_; rintro e w2 ⟨rfl, rfl⟩
    go_wp2_with fail
    go_ret
    exact RP.int rfl
  · by_cases h2 : y < x
    · rw [show cmpI x y = 1 by rw [cmpI, if_neg h, if_pos h2]]
      go_enter Try.func114, Try.ntmps114
      go_wp2_with fail
      refine (isNaN_c x w).mono ?_; rintro e w1 ⟨rfl, rfl⟩
      go_wp2_with fail
      refine (isNaN_c y _).mono ?_; rintro e w2 ⟨rfl, rfl⟩
      go_wp2_with fail
      go_ret
      exact RP.int rfl
    · rw [show cmpI x y = 0 by rw [cmpI, if_neg h, if_neg h2]]
      go_enter Try.func114, Try.ntmps114
      go_wp2_with fail
      refine (isNaN_c x w).mono ?_; rintro e w1 ⟨rfl, rfl⟩
      go_wp2_with fail
      refine (isNaN_c y _).mono ?_; rintro e w2 ⟨rfl, rfl⟩
      go_wp2_with fail
      go_ret
      exact RP.int rfl
theorem orL_take {l : List Int} : ∀ {k : Nat}, k < l.length → (∀ j, j < k → l[j]?.getD 0 = 0) → l[k]?.getD 0 ≠ 0 → orL l = l[k]?.getD 0 := by
  induction l with
  | nil => intro k hk; simp at hk
  | cons x l ih =>
    intro k hk h0 h1
    unfold orL
    rw [List.find?_cons]
    cases k with
    | zero =>
      have h2 : (x != 0) = true := by simpa using h1
      rw [h2]; rfl
    | succ k =>
      have hx := h0 0 (by omega)
      simp at hx
      subst hx
      have := ih (k := k) (by simpa using hk) (fun j hj => by have := h0 (j + 1) (by omega); simpa using this) (by simpa using h1)
      unfold orL at this
      simpa using this
theorem orL_zero {l : List Int} (h : ∀ j, j < l.length → l[j]?.getD 0 = 0) : orL l = 0 := by
  induction l with
  | nil => rfl
  | cons x l ih =>
    have hx := h 0 (by simp)
    simp at hx
    subst hx
    have := ih (fun j hj => by have := h (j + 1) (by simp; omega); simpa using this)
    unfold orL at this ⊢
    rw [List.find?_cons]; simpa using this
theorem or_c (v : Value) (l : List Int) (w : World) (h : Ints w v l) : Calls Try.prog 113 #[v] w (RP (.int .i64 (orL l)) w) := by
  obtain ⟨a, c, rfl, h1, h2, H⟩ := h.open_
  clear h
  have HO := Lib.hid (fun k => @orL_take l k)
  have HZ := Lib.hid (@orL_zero l)
  generalize orL l = R at *
  go_enter Try.func113, Try.ntmps113
  go_wp2_with fail
  go_loopg [8] l.length (fun z i wr => ∃ k : Nat, k ≤ l.length ∧ l.length ≤ k + z ∧ i = .int .i64 k ∧ w = wr ∧ Hid (∀ j, j < k → l[j]?.getD 0 = 0))
  case atStart => exact ⟨0, by omega, by omega, rfl, rfl, Lib.hid (fun j hj => by omega)⟩
  case round =>
    obtain ⟨k, hk, hkz, rfl, rfl, HE⟩ := hrel
    by_cases hlt : k < l.length
    · obtain ⟨b, o, rfl, hc⟩ := H.out k hlt
      have HK := Lib.hid (HO.out k hlt HE.out)
      obtain ⟨x, hx⟩ : ∃ x, l[k]?.getD 0 = x := ⟨_, rfl⟩
      rw [hx] at hc HK
      have HX := Lib.hid hx; clear hx
      by_cases h0 : x = 0
      · subst h0
        have hd : ((0 : Int) != 0) = false := by simp
        go_wp2_with fail
        go_roundg (gk-1)
        case measure => omega
        case rel => exact ⟨k+1, by omega, by omega, by go_num, rfl, Lib.hid (fun j hj => by
          by_cases e : j = k
          · subst e; exact HX.out
          · exact HE.out j (by omega))⟩
      · have hd : (x != 0) = true := by simp [h0]
        have HN := Lib.hid h0; clear h0
        go_wp2_with fail
        go_ret
        exact RP.int (HK.out HN.out).symm
    · go_wp2_with fail
      go_ret
      exact RP.int (HZ.out (fun j hj => HE.out j (by omega))).symm
set_option maxHeartbeats 2000000 in
set_option maxRecDepth 100000 in
theorem compare_c (x y : Arc) (w : World) : Calls Try.prog 104 #[.agg (encA x).toArray, .agg (encA y).toArray] w fun e w' => e = .returned (.int .i64 (cmpA x y)) ∧ GrD w w' := by
  obtain ⟨xf, xt, xi, xo⟩ := x
  obtain ⟨yf, yt, yi, yo⟩ := y
  show Calls Try.prog 104 #[.agg #[.int .i64 xf, .int .i64 xt, .int .i64 xi, .int .i64 xo], .agg #[.int .i64 yf, .int .i64 yt, .int .i64 yi, .int .i64 yo]] w _
  obtain ⟨wA, hwA⟩ : ∃ wA, wA = w.alloc (.cells #[.int .i64 xf, .int .i64 xt, .int .i64 xi, .int .i64 xo] 50) := ⟨_, rfl⟩
  have hzA : wA.heap.size = w.heap.size + 1 := by rw [hwA]; simp
  have ha : ∀ i v, #[Value.int .i64 xf, .int .i64 xt, .int .i64 xi, .int .i64 xo][i]? = some v → ∀ W, Ext wA W → W.cell? ⟨w.heap.size, i, none⟩ = some v := fun i v h => by rw [hwA]; exact kept_alloc w _ _ h
  obtain ⟨wB, hwB⟩ : ∃ wB, wB = wA.alloc (.cells #[.int .i64 yf, .int .i64 yt, .int .i64 yi, .int .i64 yo] 50) := ⟨_, rfl⟩
  have hb : ∀ i v, #[Value.int .i64 yf, .int .i64 yt, .int .i64 yi, .int .i64 yo][i]? = some v → ∀ W, Ext wB W → W.cell? ⟨w.heap.size + 1, i, none⟩ = some v := fun i v h => by rw [hwB, ← hzA]; exact kept_alloc wA _ _ h
  have hAB : Ext wA wB := by rw [hwB]; exact Ext.alloc _ _
  have HG : Hid (GrD w wB) := Lib.hid (by rw [hwB, hwA]; exact (GrD.alloc _ _).trans (GrD.alloc _ _))
  have HW := Lib.hid (show wB = (w.alloc (.cells #[.int .i64 xf, .int .i64 xt, .int .i64 xi, .int .i64 xo] 50)).alloc (.cells #[.int .i64 yf, .int .i64 yt, .int .i64 yi, .int .i64 yo] 50) by rw [hwB, hwA])
  clear hwA hwB
  have a0 := fun s : LaterG wB => ha 0 _ rfl s.w (hAB.trans s.ext)
  have a1 := fun s : LaterG wB => ha 1 _ rfl s.w (hAB.trans s.ext)
  have a2 := fun s : LaterG wB => ha 2 _ rfl s.w (hAB.trans s.ext)
  have a3 := fun s : LaterG wB => ha 3 _ rfl s.w (hAB.trans s.ext)
  have b0 := fun s : LaterG wB => hb 0 _ rfl s.w s.ext
  have b1 := fun s : LaterG wB => hb 1 _ rfl s.w s.ext
  have b2 := fun s : LaterG wB => hb 2 _ rfl s.w s.ext
  have b3 := fun s : LaterG wB => hb 3 _ rfl s.w s.ext
  have HR : Hid (cmpA ⟨xf, xt, xi, xo⟩ ⟨yf, yt, yi, yo⟩ = orL [cmpI xf yf, cmpI xt yt, cmpI xi yi, cmpI xo yo]) := Lib.hid rfl
  have HC := Lib.hid (fun (x y : Int) (s : LaterG wB) => cmpC_c x y s.w)
  clear ha hb hzA
  go_enter Try.func104, Try.ntmps104
  go_wp2_with fail
  rw [← HW.out]
  refine wp_region_g_tail 20 (by kernel_rfl) (by kernel_rfl) ?_
  simp only [List.take_succ_cons, List.take_zero, List.drop_succ_cons, List.drop_zero]
  repeat (go_big_quiet_step ((first | (go_at_call 114; first | with_reducible exact LaterG.callP (HC.out _ _ _)))))
  refine wpQuiet_nil ?_
  intro w5 hw'
  obtain ⟨s5, rfl⟩ := hw'
  have HG5 : Hid (GrD w s5.w) := Lib.hid (HG.out.trans (GrD.later s5))
  clear a0 a1 a2 a3 b0 b1 b2 b3
  generalize s5.w = w5 at *
  have HOR := Lib.hid (or_c _ [cmpI xf yf, cmpI xt yt, cmpI xi yi, cmpI xo yo] (w5.alloc (.cells #[.int .i64 (cmpI xf yf), .int .i64 (cmpI xt yt), .int .i64 (cmpI xi yi), .int .i64 (cmpI xo yo)] 3)) (ints_lit (b := w5.heap.size) (n := 4) rfl (by omega) (fun i hi => alloc_cell w5 #[.int .i64 (cmpI xf yf), .int .i64 (cmpI xt yt), .int .i64 (cmpI xi yi), .int .i64 (cmpI xo yo)] 3 (by
    match i, hi with
    | 0, _ => rfl
    | 1, _ => rfl
    | 2, _ => rfl
    | 3, _ => rfl))))
  rw [← HR.out] at HOR
  generalize cmpI xf yf = c1 at *
  generalize cmpI xt yt = c2 at *
  generalize cmpI xi yi = c3 at *
  generalize cmpI xo yo = c4 at *
  go_wp2_with fail
  refine HOR.out.mono ?_; rintro e w6 ⟨rfl, rfl⟩
  go_wp2_with fail
  go_ret
  exact ⟨rfl, HG5.out.trans (GrD.alloc _ _)⟩
def sortARen : Go.Shelf.Ren := ⟨fun | 6 => 103 | 14 => 111 | 15 => 112 | 20 => 117 | 21 => 118 | 22 => 119 | 23 => 120 | 24 => 121 | 25 => 122 | 26 => 123 | 27 => 124 | 28 => 125 | 29 => 126 | 46 => 130 | 47 => 131 | 48 => 132 | 49 => 133 | 50 => 134 | 57 => 135 | n => n, fun | 0 => 0 | 3 => 3 | 4 => 4 | 5 => 5 | 9 => 9 | 22 => 22 | 24 => 50 | 25 => 121 | 39 => 129 | 45 => 135 | 46 => 136 | 50 => 140 | 53 => 143 | 55 => 145 | 66 => 150 | 70 => 154 | 76 => 156 | 77 => 157 | n => n, fun n => n⟩
theorem sortALays : SlLaysF0.n6 Try.prog sortARen := { mixed := by kernel_rfl, f6 := ⟨Try.f103.name, by kernel_rfl, by kernel_rfl⟩, f14 := ⟨Try.f111.name, by kernel_rfl, by kernel_rfl⟩, f15 := by kernel_rfl, f20 := ⟨Try.f117.name, by kernel_rfl, by kernel_rfl⟩, f21 := ⟨Try.f118.name, by kernel_rfl, by kernel_rfl⟩, f22 := ⟨Try.f119.name, by kernel_rfl, by kernel_rfl⟩, f23 := ⟨Try.f120.name, by kernel_rfl, by kernel_rfl⟩, f24 := ⟨Try.f121.name, by kernel_rfl, by kernel_rfl⟩, f25 := ⟨Try.f122.name, by kernel_rfl, by kernel_rfl⟩, f26 := ⟨Try.f123.name, by kernel_rfl, by kernel_rfl⟩, f27 := ⟨Try.f124.name, by kernel_rfl, by kernel_rfl⟩, f28 := by kernel_rfl, f29 := by kernel_rfl, f46 := ⟨Try.f130.name, by kernel_rfl, by kernel_rfl⟩, f47 := by kernel_rfl, f48 := by kernel_rfl, f49 := ⟨Try.f133.name, by kernel_rfl, by kernel_rfl⟩, f50 := ⟨Try.f134.name, by kernel_rfl, by kernel_rfl⟩, f57 := ⟨Try.f135.name, by kernel_rfl, by kernel_rfl⟩, t0 := by kernel_rfl, a0 := fun _ => by kernel_rfl, z0 := fun _ => by kernel_rfl, v0 := fun _ => by kernel_rfl, t3 := by kernel_rfl, a3 := fun _ => by kernel_rfl, z3 := fun _ => by kernel_rfl, v3 := fun _ => by kernel_rfl, t4 := by kernel_rfl, a4 := fun _ => by kernel_rfl, z4 := fun _ => by kernel_rfl, v4 := fun _ => by kernel_rfl, t5 := by kernel_rfl, a5 := fun _ => by kernel_rfl, z5 := fun _ => by kernel_rfl, v5 := fun _ => by kernel_rfl, t9 := by kernel_rfl, a9 := fun _ => by kernel_rfl, z9 := fun _ => by kernel_rfl, v9 := fun _ => by kernel_rfl, t22 := by kernel_rfl, a22 := fun _ => by kernel_rfl, z22 := fun _ => by kernel_rfl, v22 := fun _ => by kernel_rfl, t25 := by kernel_rfl, a25 := fun _ => by kernel_rfl, z25 := fun _ => by kernel_rfl, v25 := fun _ => by kernel_rfl, t39 := by kernel_rfl, a39 := fun _ => by kernel_rfl, z39 := fun _ => by kernel_rfl, v39 := fun _ => by kernel_rfl, t45 := by kernel_rfl, a45 := fun _ => by kernel_rfl, z45 := fun _ => by kernel_rfl, v45 := fun _ => by kernel_rfl, t46 := by kernel_rfl, a46 := fun _ => by kernel_rfl, z46 := fun _ => by kernel_rfl, v46 := fun _ => by kernel_rfl, t50 := by kernel_rfl, a50 := fun _ => by kernel_rfl, z50 := fun _ => by kernel_rfl, v50 := fun _ => by kernel_rfl, t53 := by kernel_rfl, a53 := fun _ => by kernel_rfl, z53 := fun _ => by kernel_rfl, v53 := fun _ => by kernel_rfl, t55 := by kernel_rfl, a55 := fun _ => by kernel_rfl, z55 := fun _ => by kernel_rfl, v55 := fun _ => by kernel_rfl, t66 := by kernel_rfl, a66 := fun _ => by kernel_rfl, z66 := fun _ => by kernel_rfl, v66 := fun _ => by kernel_rfl, t70 := by kernel_rfl, a70 := fun _ => by kernel_rfl, z70 := fun _ => by kernel_rfl, v70 := fun _ => by kernel_rfl, t76 := by kernel_rfl, a76 := fun _ => by kernel_rfl, z76 := fun _ => by kernel_rfl, v76 := fun _ => by kernel_rfl, t77 := by kernel_rfl, a77 := fun _ => by kernel_rfl, z77 := fun _ => by kernel_rfl, v77 := fun _ => by kernel_rfl }
end Go.Proofs.Ytpbflkbelhlogaa
