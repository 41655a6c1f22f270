/- Lexicons: items and costs of following in memory, which are right, words of items, what may follow; both packages. -/
import Derived.Test.YtgpggmcjggpmpaaBlk
import Derived.Test.YtgpggmcjggpmpaaTagV
import Derived.Test.YtgpggmcjggpmpaaSub
import Derived.Test.YtgpggmcjggpmpaaWr
namespace Go.Proofs.Ytgpggmcjggpmpaa
open Go.RowKit Go.Shelf
set_option linter.unusedVariables false

/-! ## items in memory -/
def Items (w : World) (v : Value) (l : List Itm) : Prop :=
  Sl v l.length fun i b o => ∃ u, w.cell? ⟨b, o + i * 3, none⟩ = some u ∧ Ints w u (itm l i).w ∧ w.cell? ⟨b, o + i * 3 + 1, none⟩ = some (.int .i64 (itm l i).k) ∧ w.cell? ⟨b, o + i * 3 + 2, none⟩ = some (.int .i64 (itm l i).c)
theorem Items.ext {w w' : World} {v : Value} {l : List Itm} (h : Items w v l) (hb : Ext w w') : Items w' v l :=
  h.mono fun _ _ _ _ ⟨u, h1, h2, h3, h4⟩ => ⟨u, hb.keep h1, h2.ext hb, hb.keep h3, hb.keep h4⟩
theorem Items.open_ {w : World} {v : Value} {l : List Itm} (h : Items w v l) :
    ∃ (a : Option Addr) (cap : Nat), v = .slice a l.length cap ∧ l.length ≤ cap ∧ cap ≤ 9223372036854775807 ∧
      Hid (∀ i, i < l.length → ∃ b o, a = some ⟨b, o, none⟩ ∧ ∃ u, w.cell? ⟨b, o + i * 3, none⟩ = some u ∧ Ints w u (itm l i).w ∧ w.cell? ⟨b, o + i * 3 + 1, none⟩ = some (.int .i64 (itm l i).k) ∧ w.cell? ⟨b, o + i * 3 + 2, none⟩ = some (.int .i64 (itm l i).c)) := h
structure LexR (w : World) (iv fv : Value) (l : Lex) : Prop where
  i : Items w iv l.i
  f : Rows w fv l.f
theorem LexR.ext {w w' : World} {iv fv : Value} {l : Lex} (h : LexR w iv fv l) (hx : Ext w w') : LexR w' iv fv l := ⟨h.i.ext hx, h.f.ext hx⟩
/-- the cells of a new block stay -/
theorem kept_alloc (w : World) (cs : Array Value) (ty : TypeId) {i : Nat} {v : Value} (h : cs[i]? = some v) : ∀ W, Ext (w.alloc (.cells cs ty)) W → W.cell? ⟨w.heap.size, i, none⟩ = some v := fun W hW => hW.keep (alloc_cell w cs ty h)
theorem RP.rv {v : Value} {w : World} {e : Ending} {w' : World} (h : RP v w e w') : RV v w e w' := ⟨h.1, h.2 ▸ Ext.refl _⟩
theorem RQ.rv {b : Bool} {w : World} {e : Ending} {w' : World} (h : RQ b w e w') : RV (.bool b) w e w' := by
  obtain ⟨rfl, n, rfl⟩ := h
  exact ⟨rfl, Ext.drewN _ _⟩

theorem within_c (n lo hi : Int) (w : World) : Calls Try.prog 70 #[.int .i64 n, .int .i64 lo, .int .i64 hi] w (RP (.bool (inB n lo hi)) w) := by
  by_cases h : lo ≤ n
  · go_enter Try.func70, Try.ntmps70
    go_wp2
    go_ret
    exact RP.bool (by simp [inB, h])
  · go_enter Try.func70, Try.ntmps70
    go_wp2
    go_ret
    exact RP.bool (by simp [inB]; omega)
theorem rwithin_c (n lo hi : Int) (w : World) : Calls Try.prog 81 #[.int .i64 n, .int .i64 lo, .int .i64 hi] w (RP (.bool (inB n lo hi)) w) := by
  by_cases h : lo ≤ n
  · go_enter Try.func81, Try.ntmps81
    go_wp2
    go_ret
    exact RP.bool (by simp [inB, h])
  · go_enter Try.func81, Try.ntmps81
    go_wp2
    go_ret
    exact RP.bool (by simp [inB]; omega)

theorem areSounds1_c (n : Int) (w : World) : Calls Try.prog 103 #[.int .i64 n] w (RP (.bool (!inB n 0 5)) w) := by
  go_enter Try.func103, Try.ntmps103
  go_wp2_with fail
  refine (within_c _ _ _ _).mono ?_; rintro e w1 ⟨rfl, rfl⟩
  go_wp2_with fail
  go_ret
  exact RP.bool rfl
theorem isFollow1_c (n : Int) (w : World) : Calls Try.prog 102 #[.int .i64 n] w (RP (.bool (!inB n (-1) 99)) w) := by
  go_enter Try.func102, Try.ntmps102
  go_wp2_with fail
  refine (within_c _ _ _ _).mono ?_; rintro e w1 ⟨rfl, rfl⟩
  go_wp2_with fail
  go_ret
  exact RP.bool rfl
theorem any_not (l : List Int) (p : Int → Bool) : ((List.range l.length).any fun i => !p (l[i]?.getD 0)) = !allB l.length fun i => p (l[i]?.getD 0) := by
  unfold allB; rw [List.not_all_eq_any_not]
theorem notSounds_c (v : Value) (l : List Int) (w : World) (h : Ints w v l) : Calls Try.prog 68 #[v, .func (.func 103) #[] #[]] w (RV (.bool (!sndB l)) w) := by
  have HC := containsFunc_c v l 103 #[] (fun n => !inB n 0 5) w (enters_of Try.func103 (by kernel_rfl) rfl) (fun W i _ _ => (areSounds1_c _ W).mono fun _ _ h => h.rv) h
  rw [any_not l (fun x => inB x 0 5)] at HC; exact HC
theorem notRow_c (v : Value) (l : List Int) (w : World) (h : Ints w v l) : Calls Try.prog 68 #[v, .func (.func 102) #[] #[]] w (RV (.bool (!allB l.length fun i => inB (l[i]?.getD 0) (-1) 99)) w) := by
  have HC := containsFunc_c v l 102 #[] (fun n => !inB n (-1) 99) w (enters_of Try.func102 (by kernel_rfl) rfl) (fun W i _ _ => (isFollow1_c _ W).mono fun _ _ h => h.rv) h
  rw [any_not l (fun x => inB x (-1) 99)] at HC; exact HC
theorem areSounds_c (v : Value) (l : List Int) (w : World) (h : Ints w v l) : Calls Try.prog 93 #[v] w (RV (.bool (sndB l)) w) := by
  have HC := Lib.hid (notSounds_c v l w h); clear h
  generalize sndB l = b at *
  go_enter Try.func93, Try.ntmps93
  go_wp2_with fail
  refine HC.out.mono ?_; rintro e w1 ⟨rfl, hx1⟩
  go_wp2_with fail
  go_ret
  exact RV.bool (by simp) hx1
set_option maxHeartbeats 400000 in
theorem rareSounds_c (v : Value) (l : List Int) (w : World) (h : Ints w v l) : Calls Try.prog 100 #[v] w (RV (.bool (sndB l)) w) := by
  obtain ⟨a, c, rfl, h1, h2, H⟩ := h.open_
  clear h
  go_enter Try.func100, Try.ntmps100
  go_wp2_with fail
  go_loopg [3] l.length (fun m i wr => ∃ k : Nat, k ≤ l.length ∧ l.length ≤ k + m ∧ i = .int .i64 k ∧ w = wr ∧ Hid (∀ j, j < k → inB (l[j]?.getD 0) 0 5 = true))
  case atStart => exact ⟨0, by omega, by omega, rfl, rfl, fun j hj => by omega⟩
  case round =>
    obtain ⟨k, hk, hk2, rfl, rfl, hE⟩ := hrel
    by_cases hlt : k < l.length
    · obtain ⟨ba, oa, rfl, hc1⟩ := H.out k hlt
      have HC := Lib.hid (fun W => rwithin_c (l[k]?.getD 0) 0 5 W)
      generalize hy : l[k]?.getD 0 = y at *
      have HY := Lib.hid hy; clear hy
      generalize hb : inB y 0 5 = b at *
      have HB := Lib.hid hb; clear hb
      cases b
      · go_wp2_with fail
        refine (HC.out _).mono ?_; rintro e w1 ⟨rfl, rfl⟩
        go_wp2_with fail
        go_ret
        exact RV.bool (by rw [sndB, allB_false hlt (by rw [HY.out]; exact HB.out)]) (Ext.refl _)
      · go_wp2_with fail
        refine (HC.out _).mono ?_; rintro e w1 ⟨rfl, rfl⟩
        go_wp2_with fail
        go_roundg (gk-1)
        case measure => omega
        case rel => exact ⟨k+1, by omega, by omega, by go_num, rfl, range_step hE.out (by rw [HY.out]; exact HB.out)⟩
    · go_wp2_with fail
      go_ret
      exact RV.bool (by rw [sndB, allB_true (fun j hj => hE.out j (by omega))]) (Ext.refl _)
set_option maxHeartbeats 400000 in
theorem isItem_c (uv : Value) (x : Itm) (w : World) (h : Ints w uv x.w) : Calls Try.prog 86 #[.agg #[uv, .int .i64 x.k, .int .i64 x.c]] w (RV (.bool (itmB x)) w) := by
  obtain ⟨wA, hwA⟩ : ∃ wA, wA = w.alloc (.cells #[uv, .int .i64 x.k, .int .i64 x.c] 28) := ⟨_, rfl⟩
  have hE0 : Ext w wA := by rw [hwA]; exact Ext.alloc _ _
  have k0 : ∀ W, Ext wA W → W.cell? ⟨w.heap.size, 0, none⟩ = some uv := by rw [hwA]; exact kept_alloc w _ _ rfl
  have k1 : ∀ W, Ext wA W → W.cell? ⟨w.heap.size, 1, none⟩ = some (.int .i64 x.k) := by rw [hwA]; exact kept_alloc w _ _ rfl
  have k2 : ∀ W, Ext wA W → W.cell? ⟨w.heap.size, 2, none⟩ = some (.int .i64 x.c) := by rw [hwA]; exact kept_alloc w _ _ rfl
  have H0 : Ext wA wA := Ext.refl _
  obtain ⟨a, c, rfl, _, _, HU⟩ := (h.ext hE0).open_
  have HC1 := Lib.hid (fun W => within_c (x.w.length : Int) 1 6 W)
  have HC2 := Lib.hid (fun W (hW : Ext wA W) => areSounds_c _ x.w W ((h.ext hE0).ext hW))
  have HC3 := Lib.hid (fun W => within_c x.k 0 3 W)
  have HC4 := Lib.hid (fun W => within_c x.c 0 99 W)
  have HW := Lib.hid hwA; clear hwA h
  unfold itmB
  generalize inB (x.w.length : Int) 1 6 = b1 at *
  generalize sndB x.w = b2 at *
  generalize inB x.k 0 3 = b3 at *
  generalize inB x.c 0 99 = b4 at *
  cases b1
  · go_enter Try.func86, Try.ntmps86
    go_wp2_with fail
    rw [← HW.out]
    refine (HC1.out _).mono ?_; rintro e w1 ⟨rfl, rfl⟩
    go_wp2_with fail
    go_ret
    exact RV.bool rfl hE0
  · cases b2
    · go_enter Try.func86, Try.ntmps86
      go_wp2_with fail
      rw [← HW.out]
      refine (HC1.out _).mono ?_; rintro e w1 ⟨rfl, rfl⟩
      go_wp2_with fail
      refine (HC2.out _ H0).mono ?_; rintro e w2 ⟨rfl, hx2⟩
      go_wp2_with fail
      go_ret
      exact RV.bool rfl (hE0.trans hx2)
    · cases b3
      · go_enter Try.func86, Try.ntmps86
        go_wp2_with fail
        rw [← HW.out]
        refine (HC1.out _).mono ?_; rintro e w1 ⟨rfl, rfl⟩
        go_wp2_with fail
        refine (HC2.out _ H0).mono ?_; rintro e w2 ⟨rfl, hx2⟩
        go_wp2_with fail
        refine (HC3.out _).mono ?_; rintro e w3 ⟨rfl, rfl⟩
        go_wp2_with fail
        go_ret
        exact RV.bool rfl (hE0.trans hx2)
      · go_enter Try.func86, Try.ntmps86
        go_wp2_with fail
        rw [← HW.out]
        refine (HC1.out _).mono ?_; rintro e w1 ⟨rfl, rfl⟩
        go_wp2_with fail
        refine (HC2.out _ H0).mono ?_; rintro e w2 ⟨rfl, hx2⟩
        go_wp2_with fail
        refine (HC3.out _).mono ?_; rintro e w3 ⟨rfl, rfl⟩
        go_wp2_with fail
        refine (HC4.out _).mono ?_; rintro e w4 ⟨rfl, rfl⟩
        go_wp2_with fail
        go_ret
        exact RV.bool rfl (hE0.trans hx2)
set_option maxHeartbeats 400000 in
theorem right_c (uv : Value) (x : Itm) (w : World) (h : Ints w uv x.w) : Calls Try.prog 88 #[.agg #[uv, .int .i64 x.k, .int .i64 x.c]] w (RV (.bool (itmB x)) w) := by
  obtain ⟨wA, hwA⟩ : ∃ wA, wA = w.alloc (.cells #[uv, .int .i64 x.k, .int .i64 x.c] 28) := ⟨_, rfl⟩
  have hE0 : Ext w wA := by rw [hwA]; exact Ext.alloc _ _
  have k0 : ∀ W, Ext wA W → W.cell? ⟨w.heap.size, 0, none⟩ = some uv := by rw [hwA]; exact kept_alloc w _ _ rfl
  have k1 : ∀ W, Ext wA W → W.cell? ⟨w.heap.size, 1, none⟩ = some (.int .i64 x.k) := by rw [hwA]; exact kept_alloc w _ _ rfl
  have k2 : ∀ W, Ext wA W → W.cell? ⟨w.heap.size, 2, none⟩ = some (.int .i64 x.c) := by rw [hwA]; exact kept_alloc w _ _ rfl
  have H0 : Ext wA wA := Ext.refl _
  obtain ⟨a, c, rfl, _, _, HU⟩ := (h.ext hE0).open_
  have HC1 := Lib.hid (fun W => rwithin_c (x.w.length : Int) 1 6 W)
  have HC2 := Lib.hid (fun W (hW : Ext wA W) => rareSounds_c _ x.w W ((h.ext hE0).ext hW))
  have HC3 := Lib.hid (fun W => rwithin_c x.k 0 3 W)
  have HC4 := Lib.hid (fun W => rwithin_c x.c 0 99 W)
  have HW := Lib.hid hwA; clear hwA h
  unfold itmB
  generalize inB (x.w.length : Int) 1 6 = b1 at *
  generalize sndB x.w = b2 at *
  generalize inB x.k 0 3 = b3 at *
  generalize inB x.c 0 99 = b4 at *
  cases b1
  · go_enter Try.func88, Try.ntmps88
    go_wp2_with fail
    rw [← HW.out]
    refine (HC1.out _).mono ?_; rintro e w1 ⟨rfl, rfl⟩
    go_wp2_with fail
    go_ret
    exact RV.bool rfl hE0
  · cases b2
    · go_enter Try.func88, Try.ntmps88
      go_wp2_with fail
      rw [← HW.out]
      refine (HC1.out _).mono ?_; rintro e w1 ⟨rfl, rfl⟩
      go_wp2_with fail
      refine (HC2.out _ H0).mono ?_; rintro e w2 ⟨rfl, hx2⟩
      go_wp2_with fail
      go_ret
      exact RV.bool rfl (hE0.trans hx2)
    · cases b3
      · go_enter Try.func88, Try.ntmps88
        go_wp2_with fail
        rw [← HW.out]
        refine (HC1.out _).mono ?_; rintro e w1 ⟨rfl, rfl⟩
        go_wp2_with fail
        refine (HC2.out _ H0).mono ?_; rintro e w2 ⟨rfl, hx2⟩
        go_wp2_with fail
        refine (HC3.out _).mono ?_; rintro e w3 ⟨rfl, rfl⟩
        go_wp2_with fail
        go_ret
        exact RV.bool rfl (hE0.trans hx2)
      · go_enter Try.func88, Try.ntmps88
        go_wp2_with fail
        rw [← HW.out]
        refine (HC1.out _).mono ?_; rintro e w1 ⟨rfl, rfl⟩
        go_wp2_with fail
        refine (HC2.out _ H0).mono ?_; rintro e w2 ⟨rfl, hx2⟩
        go_wp2_with fail
        refine (HC3.out _).mono ?_; rintro e w3 ⟨rfl, rfl⟩
        go_wp2_with fail
        refine (HC4.out _).mono ?_; rintro e w4 ⟨rfl, rfl⟩
        go_wp2_with fail
        go_ret
        exact RV.bool rfl (hE0.trans hx2)

/-! ## slices of items and a function -/
set_option maxHeartbeats 400000 in
theorem indexItm_c (va : Value) (l : List Itm) (g : Nat) (lb : Array Value) (p : Itm → Bool) (w : World) (eg : Enters Try.prog g)
    (hg : ∀ W i u, Ext w W → i < l.length → Ints W u (itm l i).w → Calls Try.prog g (#[.agg #[u, .int .i64 (itm l i).k, .int .i64 (itm l i).c]] ++ lb) W (RV (.bool (p (itm l i))) W)) (ha : Items w va l) :
    Calls Try.prog 101 #[va, .func (.func g) #[] lb] w (RV (.int .i64 (firstIdx l.length fun i => p (itm l i))) w) := by
  obtain ⟨aa, ca, rfl, hla, hma, Ha⟩ := ha.open_
  clear ha
  unfold Enters at eg
  have Hg := Lib.hid hg; clear hg
  go_enter Try.func101, Try.ntmps101
  go_wp2_with fail
  go_loopg [8] l.length (fun m i wr => ∃ k : Nat, k ≤ l.length ∧ l.length ≤ k + m ∧ i = .int .i64 k ∧ Ext w wr ∧ Hid (∀ j, j < k → p (itm l j) = false))
  case atStart => exact ⟨0, by omega, by omega, rfl, Ext.refl _, fun j hj => by omega⟩
  case round =>
    obtain ⟨k, hk, hk2, rfl, hB, hE⟩ := hrel
    by_cases hlt : k < l.length
    · obtain ⟨ba, oa, rfl, u, hc1, hu, hc2, hc3⟩ := Ha.out k hlt
      replace hc1 := hB.keep hc1
      replace hc2 := hB.keep hc2
      replace hc3 := hB.keep hc3
      have HG := Lib.hid (Hg.out wr k u hB hlt (hu.ext hB))
      clear hu
      generalize hx : itm l k = x at *
      have Hx := Lib.hid hx; clear hx
      generalize x.k = xk at *
      generalize x.c = xc at *
      cases hxy : p x
      · have HX := Lib.hid hxy; clear hxy
        go_wp2_with (go_at_fn g; refine (HG.out).mono ?_; rw [HX.out]; rintro e w' ⟨rfl, hB2⟩)
        go_roundg (gk-1)
        case measure => omega
        case rel => exact ⟨k+1, by omega, by omega, by go_num, hB.trans hB2, range_step hE.out (by rw [Hx.out]; exact HX.out)⟩
      · have HX := Lib.hid hxy; clear hxy
        go_wp2_with (go_at_fn g; refine (HG.out).mono ?_; rw [HX.out]; rintro e w' ⟨rfl, hB2⟩)
        go_ret
        exact RV.int (by rw [firstIdx_at hlt (by rw [Hx.out]; exact HX.out) hE.out]) (hB.trans hB2)
    · go_wp2_with fail
      go_ret
      exact RV.int (by rw [firstIdx_none (fun j hj => hE.out j (by omega))]) hB
theorem validate1_c (uv : Value) (x : Itm) (w : World) (h : Ints w uv x.w) : Calls Try.prog 85 #[.agg #[uv, .int .i64 x.k, .int .i64 x.c]] w (RV (.bool (!itmB x)) w) := by
  obtain ⟨wA, hwA⟩ : ∃ wA, wA = w.alloc (.cells #[uv, .int .i64 x.k, .int .i64 x.c] 28) := ⟨_, rfl⟩
  have hE0 : Ext w wA := by rw [hwA]; exact Ext.alloc _ _
  have HC := Lib.hid (isItem_c uv x wA (h.ext hE0))
  have HW := Lib.hid hwA; clear hwA h
  generalize itmB x = b at *
  generalize x.k = xk at *
  generalize x.c = xc at *
  go_enter Try.func85, Try.ntmps85
  go_wp2_with fail
  rw [← HW.out]
  refine HC.out.mono ?_; rintro e w1 ⟨rfl, hx1⟩
  go_wp2_with fail
  go_ret
  exact RV.bool rfl (hE0.trans hx1)
theorem notItems_c (v : Value) (l : List Itm) (w : World) (h : Items w v l) : Calls Try.prog 84 #[v, .func (.func 85) #[] #[]] w (RV (.bool (!allB l.length fun j => itmB (itm l j))) w) := by
  have HH := Lib.hid (indexItm_c v l 85 #[] (fun x => !itmB x) w (enters_of Try.func85 (by kernel_rfl) rfl) (fun W i u _ _ hu => validate1_c u (itm l i) W hu) h)
  clear h
  have he : (!allB l.length fun j => itmB (itm l j)) = decide (0 ≤ firstIdx l.length fun i => !itmB (itm l i)) := by
    rw [firstIdx_ge]; unfold allB; rw [List.not_all_eq_any_not]
  rw [he]
  generalize firstIdx l.length (fun i => !itmB (itm l i)) = n at *
  clear he
  go_enter Try.func84, Try.ntmps84
  go_wp2_with fail
  refine HH.out.mono ?_; rintro e w' ⟨rfl, hx⟩
  go_wp2_with fail
  go_ret
  exact RV.bool rfl hx
set_option maxHeartbeats 400000 in
theorem isFollow_c (v : Value) (f : List (List Int)) (w : World) (h : Rows w v f) : Calls Try.prog 87 #[v] w (RV (.bool (folB f)) w) := by
  obtain ⟨a, c, rfl, h1, h2, H⟩ := Rows.open_ h
  clear h
  by_cases h4 : f.length = 4
  · have hd : ((f.length : Int) != 4) = false := by simp [h4]
    have HF : Hid (folB f = allB f.length fun i => rowB (f[i]?.getD [])) := Lib.hid (by unfold folB; rw [decide_eq_true h4, Bool.true_and])
    clear h4
    go_enter Try.func87, Try.ntmps87
    go_wp2_with fail
    go_loopg [10] f.length (fun m i wr => ∃ k : Nat, k ≤ f.length ∧ f.length ≤ k + m ∧ i = .int .i64 k ∧ Ext w wr ∧ Hid (∀ j, j < k → rowB (f[j]?.getD []) = true))
    case atStart => exact ⟨0, by omega, by omega, rfl, Ext.refl _, fun j hj => by omega⟩
    case round =>
      obtain ⟨k, hk, hk2, rfl, hB, hE⟩ := hrel
      by_cases hlt : k < f.length
      · obtain ⟨ba, oa, rfl, u, hc1, hu⟩ := H.out k hlt
        replace hc1 := hB.keep hc1
        have hu' := hu.ext hB
        obtain ⟨au, cu, rfl, _, _, HU⟩ := hu'.open_
        have HC := Lib.hid (notRow_c _ _ wr hu')
        have HRB : Hid (rowB (f[k]?.getD []) = (decide ((f[k]?.getD []).length = 4) && allB (f[k]?.getD []).length fun i => inB ((f[k]?.getD [])[i]?.getD 0) (-1) 99)) := Lib.hid rfl
        clear hu hu' HU
        generalize hrr : f[k]?.getD [] = r at *
        have HRE := Lib.hid hrr; clear hrr
        by_cases hr : r.length = 4
        · have hd2 : ((r.length : Int) != 4) = false := by simp [hr]
          rw [decide_eq_true hr, Bool.true_and] at HRB
          clear hr
          generalize (allB r.length fun i => inB (r[i]?.getD 0) (-1) 99) = b at *
          cases b
          · go_wp2_with fail
            refine HC.out.mono ?_; rintro e w1 ⟨rfl, hx1⟩
            go_wp2_with fail
            go_ret
            exact RV.bool (by rw [HF.out, allB_false hlt (by rw [HRE.out]; exact HRB.out)]) (hB.trans hx1)
          · go_wp2_with fail
            refine HC.out.mono ?_; rintro e w1 ⟨rfl, hx1⟩
            go_wp2_with fail
            go_roundg (gk-1)
            case measure => omega
            case rel => exact ⟨k+1, by omega, by omega, by go_num, hB.trans hx1, range_step hE.out (by rw [HRE.out]; exact HRB.out)⟩
        · have hd2 : ((r.length : Int) != 4) = true := by simp; omega
          rw [decide_eq_false hr, Bool.false_and] at HRB
          clear hr
          go_wp2_with fail
          go_ret
          exact RV.bool (by rw [HF.out, allB_false hlt (by rw [HRE.out]; exact HRB.out)]) hB
      · go_wp2_with fail
        go_ret
        exact RV.bool (by rw [HF.out, allB_true (fun j hj => hE.out j (by omega))]) hB
  · have hd : ((f.length : Int) != 4) = true := by simp; omega
    have HF : Hid (folB f = false) := Lib.hid (by unfold folB; rw [decide_eq_false h4, Bool.false_and])
    clear h4
    go_enter Try.func87, Try.ntmps87
    go_wp2_with fail
    go_ret
    exact RV.bool (by rw [HF.out]) (Ext.refl _)
set_option maxHeartbeats 400000 in
theorem Validate_c (iv fv : Value) (l : Lex) (w : World) (h : LexR w iv fv l) : Calls Try.prog 43 #[.agg #[iv, fv]] w (RV (.int .i64 (validL l)) w) := by
  obtain ⟨wA, hwA⟩ : ∃ wA, wA = w.alloc (.cells #[iv, fv] 25) := ⟨_, rfl⟩
  have hE0 : Ext w wA := by rw [hwA]; exact Ext.alloc _ _
  have k0 : ∀ W, Ext wA W → W.cell? ⟨w.heap.size, 0, none⟩ = some iv := by rw [hwA]; exact kept_alloc w _ _ rfl
  have k1 : ∀ W, Ext wA W → W.cell? ⟨w.heap.size, 1, none⟩ = some fv := by rw [hwA]; exact kept_alloc w _ _ rfl
  have H0 : Ext wA wA := Ext.refl _
  have HR := Lib.hid (h.ext hE0)
  obtain ⟨ai, ci, rfl, hli, hmi, HI⟩ := (h.ext hE0).i.open_
  obtain ⟨af, cf, rfl, hlf, hmf, HF⟩ := Rows.open_ (h.ext hE0).f
  have HC1 := Lib.hid (fun W => within_c (l.i.length : Int) 1 8 W)
  have HC2 := Lib.hid (fun W (hW : Ext wA W) => notItems_c _ l.i W (HR.out.ext hW).i)
  have HC3 := Lib.hid (fun W (hW : Ext wA W) => isFollow_c _ l.f W (HR.out.ext hW).f)
  have HW := Lib.hid hwA; clear hwA h
  unfold validL
  show Calls _ _ _ _ (RV (.int .i64 (if inB (l.i.length : Int) 1 8 = true then (if ((allB l.i.length fun j => itmB (itm l.i j)) && folB l.f) = true then 0 else 1) else 3)) w)
  generalize inB (l.i.length : Int) 1 8 = b1 at *
  generalize (allB l.i.length fun j => itmB (itm l.i j)) = b2 at *
  generalize folB l.f = b3 at *
  cases b1
  · go_enter Try.func43, Try.ntmps43
    go_wp2_with fail
    rw [← HW.out]
    refine (HC1.out _).mono ?_; rintro e w1 ⟨rfl, rfl⟩
    go_wp2_with fail
    go_ret
    exact RV.int rfl hE0
  · cases b2
    · go_enter Try.func43, Try.ntmps43
      go_wp2_with fail
      rw [← HW.out]
      refine (HC1.out _).mono ?_; rintro e w1 ⟨rfl, rfl⟩
      go_wp2_with fail
      refine (HC2.out _ H0).mono ?_; rintro e w2 ⟨rfl, hx2⟩
      go_wp2_with fail
      go_ret
      exact RV.int rfl (hE0.trans hx2)
    · cases b3
      all_goals
        go_enter Try.func43, Try.ntmps43
        go_wp2_with fail
        rw [← HW.out]
        refine (HC1.out _).mono ?_; rintro e w1 ⟨rfl, rfl⟩
        go_wp2_with fail
        refine (HC2.out _ H0).mono ?_; rintro e w2 ⟨rfl, hx2⟩
        go_wp2_with fail
        refine (HC3.out _ hx2).mono ?_; rintro e w3 ⟨rfl, hx3⟩
        go_wp2_with fail
        go_ret
        exact RV.int rfl (hE0.trans (hx2.trans hx3))
theorem text_large {l : Lex} {t : List Int} (h : validL l = 0) (h2 : 12 < (t.length : Int)) : textK l t = 3 := by rw [textK_valid h, if_pos h2]
theorem text_not {l : Lex} {t : List Int} {b : Bool} (h : validL l = 0) (h2 : ¬ 12 < (t.length : Int)) (hb : sndB t = b) : textK l t = if b then 0 else 1 := by rw [textK_valid h, if_neg h2, hb]
set_option maxHeartbeats 400000 in
theorem check_c (iv fv tv : Value) (l : Lex) (t : List Int) (w : World) (h : LexR w iv fv l) (ht : Ints w tv t) : Calls Try.prog 56 #[.agg #[iv, fv], tv] w (RV (.int .i64 (textK l t)) w) := by
  obtain ⟨wA, hwA⟩ : ∃ wA, wA = w.alloc (.cells #[iv, fv] 25) := ⟨_, rfl⟩
  have hE0 : Ext w wA := by rw [hwA]; exact Ext.alloc _ _
  have k0 : ∀ W, Ext wA W → W.cell? ⟨w.heap.size, 0, none⟩ = some iv := by rw [hwA]; exact kept_alloc w _ _ rfl
  have k1 : ∀ W, Ext wA W → W.cell? ⟨w.heap.size, 1, none⟩ = some fv := by rw [hwA]; exact kept_alloc w _ _ rfl
  have H0 : Ext wA wA := Ext.refl _
  have HR := Lib.hid (h.ext hE0)
  obtain ⟨ai, ci, rfl, hli, hmi, HI⟩ := (h.ext hE0).i.open_
  obtain ⟨af, cf, rfl, hlf, hmf, HF⟩ := Rows.open_ (h.ext hE0).f
  have HT := Lib.hid (ht.ext hE0)
  obtain ⟨at_, ct, rfl, hlt, hmt, HTO⟩ := (ht.ext hE0).open_
  have HC1 := Lib.hid (fun W (hW : Ext wA W) => Validate_c _ _ l W (HR.out.ext hW))
  have HC2 := Lib.hid (fun W (hW : Ext wA W) => areSounds_c _ t W (HT.out.ext hW))
  have HW := Lib.hid hwA; clear hwA h ht
  by_cases hv : validL l = 0
  · rw [hv] at HC1
    by_cases hl : 12 < (t.length : Int)
    · have HK := Lib.hid (text_large hv hl)
      clear hv
      go_enter Try.func56, Try.ntmps56
      go_wp2_with fail
      rw [← HW.out]
      refine (HC1.out _ H0).mono ?_; rintro e w1 ⟨rfl, hx1⟩
      go_wp2_with fail
      go_ret
      exact RV.int (by rw [HK.out]) (hE0.trans hx1)
    · generalize hb : sndB t = b at *
      have HK := Lib.hid (text_not hv hl hb)
      clear hv hb
      have hl2 : (t.length : Int) ≤ 12 := by omega
      cases b
      all_goals
        go_enter Try.func56, Try.ntmps56
        go_wp2_with fail
        rw [← HW.out]
        refine (HC1.out _ H0).mono ?_; rintro e w1 ⟨rfl, hx1⟩
        go_wp2_with fail
        refine (HC2.out _ hx1).mono ?_; rintro e w2 ⟨rfl, hx2⟩
        go_wp2_with fail
        go_ret
        exact RV.int (by rw [HK.out]; rfl) (hE0.trans (hx1.trans hx2))
  · have HK : Hid (textK l t = validL l) := Lib.hid (by rw [textK, if_neg hv])
    rw [HK.out]
    generalize validL l = k at *
    have hk : (k != 0) = true := by simpa using hv
    clear hv
    go_enter Try.func56, Try.ntmps56
    go_wp2_with fail
    rw [← HW.out]
    refine (HC1.out _ H0).mono ?_; rintro e w1 ⟨rfl, hx1⟩
    go_wp2_with fail
    go_ret
    exact RV.int rfl (hE0.trans hx1)
set_option maxHeartbeats 1000000 in
theorem rValidate_c (iv fv : Value) (l : Lex) (w : World) (h : LexR w iv fv l) : Calls Try.prog 44 #[.agg #[iv, fv]] w (RV (.int .i64 (validL l)) w) := by
  obtain ⟨wA, hwA⟩ : ∃ wA, wA = w.alloc (.cells #[iv, fv] 25) := ⟨_, rfl⟩
  have hE0 : Ext w wA := by rw [hwA]; exact Ext.alloc _ _
  have k0 : ∀ W, Ext wA W → W.cell? ⟨w.heap.size, 0, none⟩ = some iv := by rw [hwA]; exact kept_alloc w _ _ rfl
  have k1 : ∀ W, Ext wA W → W.cell? ⟨w.heap.size, 1, none⟩ = some fv := by rw [hwA]; exact kept_alloc w _ _ rfl
  have H0 : Ext wA wA := Ext.refl _
  have HR := Lib.hid (h.ext hE0)
  obtain ⟨ai, ci, rfl, hli, hmi, HI⟩ := (h.ext hE0).i.open_
  obtain ⟨af, cf, rfl, hlf, hmf, HF⟩ := Rows.open_ (h.ext hE0).f
  have HC1 := Lib.hid (fun W => rwithin_c (l.i.length : Int) 1 8 W)
  have HW := Lib.hid hwA; clear hwA h
  have HVL : Hid (validL l = if inB (l.i.length : Int) 1 8 = true then (if ((allB l.i.length fun j => itmB (itm l.i j)) && folB l.f) = true then 0 else 1) else 3) := Lib.hid rfl
  generalize inB (l.i.length : Int) 1 8 = b1 at *
  cases b1
  · go_enter Try.func44, Try.ntmps44
    go_wp2_with fail
    rw [← HW.out]
    refine (HC1.out _).mono ?_; rintro e w1 ⟨rfl, rfl⟩
    go_wp2_with fail
    go_ret
    exact RV.int (by rw [HVL.out]; rfl) hE0
  · go_enter Try.func44, Try.ntmps44
    go_wp2_with fail
    rw [← HW.out]
    refine (HC1.out _).mono ?_; rintro e w1 ⟨rfl, rfl⟩
    go_wp2_with fail
    go_loopg [3] l.i.length (fun m i wr => ∃ k : Nat, k ≤ l.i.length ∧ l.i.length ≤ k + m ∧ i = .int .i64 k ∧ Ext wA wr ∧ Hid (∀ j, j < k → itmB (itm l.i j) = true))
    case atStart => exact ⟨0, by omega, by omega, rfl, H0, fun j hj => by omega⟩
    case round =>
      obtain ⟨k, hk, hk2, rfl, hB, hE⟩ := hrel
      by_cases hlt : k < l.i.length
      · obtain ⟨ba, oa, rfl, u, hc1, hu, hc2, hc3⟩ := HI.out k hlt
        replace hc1 := hB.keep hc1
        replace hc2 := hB.keep hc2
        replace hc3 := hB.keep hc3
        have HC := Lib.hid (right_c u (itm l.i k) wr (hu.ext hB))
        clear hu
        generalize hx : itm l.i k = x at *
        have HX := Lib.hid hx; clear hx
        generalize x.k = xk at *
        generalize x.c = xc at *
        generalize hb : itmB x = b at *
        have HBB := Lib.hid hb; clear hb
        cases b
        · go_wp2_with fail
          refine HC.out.mono ?_; rintro e w1 ⟨rfl, hx1⟩
          go_wp2_with fail
          go_ret
          exact RV.int (by rw [HVL.out, allB_false hlt (by rw [HX.out]; exact HBB.out)]; rfl) (hE0.trans (hB.trans hx1))
        · go_wp2_with fail
          refine HC.out.mono ?_; rintro e w1 ⟨rfl, hx1⟩
          go_wp2_with fail
          go_roundg (gk-1)
          case measure => omega
          case rel => exact ⟨k+1, by omega, by omega, by go_num, hB.trans hx1, range_step hE.out (by rw [HX.out]; exact HBB.out)⟩
      · have HAL : Hid ((allB l.i.length fun j => itmB (itm l.i j)) = true) := Lib.hid (allB_true (fun j hj => hE.out j (by omega)))
        clear hE
        rw [HAL.out, Bool.true_and] at HVL
        by_cases h4 : l.f.length = 4
        · have hd : ((l.f.length : Int) != 4) = false := by simp [h4]
          have HFB : Hid (folB l.f = allB l.f.length fun i => rowB (l.f[i]?.getD [])) := Lib.hid (by unfold folB; rw [decide_eq_true h4, Bool.true_and])
          clear h4
          obtain ⟨W0, rfl⟩ : ∃ W : World, W = wr := ⟨_, rfl⟩
          go_wp2_with fail
          go_loopg [4] l.f.length (fun m i wr => ∃ k : Nat, k ≤ l.f.length ∧ l.f.length ≤ k + m ∧ i = .int .i64 k ∧ W0 = wr ∧ Hid (∀ j, j < k → rowB (l.f[j]?.getD []) = true))
          case atStart => exact ⟨0, by omega, by omega, rfl, rfl, fun j hj => by omega⟩
          case round =>
            obtain ⟨k, hk, hk2, rfl, rfl, hE⟩ := hrel
            obtain ⟨g1, rfl⟩ : ∃ g : Nat, g = gk := ⟨_, rfl⟩
            by_cases hlt : k < l.f.length
            · obtain ⟨ba, oa, rfl, u, hc1, hu⟩ := HF.out k hlt
              replace hc1 := hB.keep hc1
              have hu' := hu.ext hB
              obtain ⟨au, cu, rfl, _, _, HU⟩ := hu'.open_
              have HRB : Hid (rowB (l.f[k]?.getD []) = (decide ((l.f[k]?.getD []).length = 4) && allB (l.f[k]?.getD []).length fun i => inB ((l.f[k]?.getD [])[i]?.getD 0) (-1) 99)) := Lib.hid rfl
              clear hu hu'
              generalize hrr : l.f[k]?.getD [] = r at *
              have HRE := Lib.hid hrr; clear hrr
              by_cases hr : r.length = 4
              · have hd2 : ((r.length : Int) != 4) = false := by simp [hr]
                rw [decide_eq_true hr, Bool.true_and] at HRB
                clear hr
                go_wp2_with fail
                go_loopg [5] r.length (fun m i wr => ∃ j : Nat, j ≤ r.length ∧ r.length ≤ j + m ∧ i = .int .i64 j ∧ W0 = wr ∧ Hid (∀ i, i < j → inB (r[i]?.getD 0) (-1) 99 = true))
                case atStart => exact ⟨0, by omega, by omega, rfl, rfl, fun j hj => by omega⟩
                case round =>
                  obtain ⟨j, hj, hj2, rfl, rfl, hE2⟩ := hrel
                  by_cases hjl : j < r.length
                  · obtain ⟨b2, o2, rfl, hcu⟩ := HU.out j hjl
                    have HC := Lib.hid (fun W => rwithin_c (r[j]?.getD 0) (-1) 99 W)
                    generalize hy : r[j]?.getD 0 = y at *
                    have HY := Lib.hid hy; clear hy
                    generalize hb : inB y (-1) 99 = b at *
                    have HBB := Lib.hid hb; clear hb
                    cases b
                    · go_wp2_with fail
                      refine (HC.out _).mono ?_; rintro e w1 ⟨rfl, rfl⟩
                      go_wp2_with fail
                      go_ret
                      exact RV.int (by rw [HVL.out, HFB.out, allB_false hlt (by rw [HRE.out, HRB.out, allB_false hjl (by rw [HY.out]; exact HBB.out)])]; rfl) (hE0.trans hB)
                    · go_wp2_with fail
                      refine (HC.out _).mono ?_; rintro e w1 ⟨rfl, rfl⟩
                      go_wp2_with fail
                      go_roundg (gk-1)
                      case measure => omega
                      case rel => exact ⟨j+1, by omega, by omega, by go_num, rfl, range_step hE2.out (by rw [HY.out]; exact HBB.out)⟩
                  · have HRT : Hid (rowB r = true) := Lib.hid (by rw [HRB.out]; exact allB_true (fun i hi => hE2.out i (by omega)))
                    go_wp2_with fail
                    go_roundg (g1-1)
                    case measure => omega
                    case rel => exact ⟨k+1, by omega, by omega, by go_num, rfl, range_step hE.out (by rw [HRE.out]; exact HRT.out)⟩
              · have hd2 : ((r.length : Int) != 4) = true := by simp; omega
                rw [decide_eq_false hr, Bool.false_and] at HRB
                clear hr
                go_wp2_with fail
                go_ret
                exact RV.int (by rw [HVL.out, HFB.out, allB_false hlt (by rw [HRE.out]; exact HRB.out)]; rfl) (hE0.trans hB)
            · have HFT : Hid (folB l.f = true) := Lib.hid (by rw [HFB.out]; exact allB_true (fun i hi => hE.out i (by omega)))
              go_wp2_with fail
              go_ret
              exact RV.int (by rw [HVL.out, HFT.out]; rfl) (hE0.trans hB)
        · have hd : ((l.f.length : Int) != 4) = true := by simp; omega
          have HFB : Hid (folB l.f = false) := Lib.hid (by unfold folB; rw [decide_eq_false h4, Bool.false_and])
          clear h4
          go_wp2_with fail
          go_ret
          exact RV.int (by rw [HVL.out, HFB.out]; rfl) (hE0.trans hB)
set_option maxHeartbeats 400000 in
theorem texted_c (iv fv tv : Value) (l : Lex) (t : List Int) (w : World) (h : LexR w iv fv l) (ht : Ints w tv t) : Calls Try.prog 79 #[.agg #[iv, fv], tv] w (RV (.int .i64 (textK l t)) w) := by
  obtain ⟨wA, hwA⟩ : ∃ wA, wA = w.alloc (.cells #[iv, fv] 25) := ⟨_, rfl⟩
  have hE0 : Ext w wA := by rw [hwA]; exact Ext.alloc _ _
  have k0 : ∀ W, Ext wA W → W.cell? ⟨w.heap.size, 0, none⟩ = some iv := by rw [hwA]; exact kept_alloc w _ _ rfl
  have k1 : ∀ W, Ext wA W → W.cell? ⟨w.heap.size, 1, none⟩ = some fv := by rw [hwA]; exact kept_alloc w _ _ rfl
  have H0 : Ext wA wA := Ext.refl _
  have HR := Lib.hid (h.ext hE0)
  obtain ⟨ai, ci, rfl, hli, hmi, HI⟩ := (h.ext hE0).i.open_
  obtain ⟨af, cf, rfl, hlf, hmf, HF⟩ := Rows.open_ (h.ext hE0).f
  have HT := Lib.hid (ht.ext hE0)
  obtain ⟨at_, ct, rfl, hlt, hmt, HTO⟩ := (ht.ext hE0).open_
  have HC1 := Lib.hid (fun W (hW : Ext wA W) => rValidate_c _ _ l W (HR.out.ext hW))
  have HC2 := Lib.hid (fun W (hW : Ext wA W) => rareSounds_c _ t W (HT.out.ext hW))
  have HW := Lib.hid hwA; clear hwA h ht
  by_cases hv : validL l = 0
  · rw [hv] at HC1
    by_cases hl : 12 < (t.length : Int)
    · have HK := Lib.hid (text_large hv hl)
      clear hv
      go_enter Try.func79, Try.ntmps79
      go_wp2_with fail
      rw [← HW.out]
      refine (HC1.out _ H0).mono ?_; rintro e w1 ⟨rfl, hx1⟩
      go_wp2_with fail
      go_ret
      exact RV.int (by rw [HK.out]) (hE0.trans hx1)
    · generalize hb : sndB t = b at *
      have HK := Lib.hid (text_not hv hl hb)
      clear hv hb
      have hl2 : (t.length : Int) ≤ 12 := by omega
      cases b
      all_goals
        go_enter Try.func79, Try.ntmps79
        go_wp2_with fail
        rw [← HW.out]
        refine (HC1.out _ H0).mono ?_; rintro e w1 ⟨rfl, hx1⟩
        go_wp2_with fail
        refine (HC2.out _ hx1).mono ?_; rintro e w2 ⟨rfl, hx2⟩
        go_wp2_with fail
        go_ret
        exact RV.int (by rw [HK.out]; rfl) (hE0.trans (hx1.trans hx2))
  · have HK : Hid (textK l t = validL l) := Lib.hid (by rw [textK, if_neg hv])
    rw [HK.out]
    generalize validL l = k at *
    have hk : (k != 0) = true := by simpa using hv
    clear hv
    go_enter Try.func79, Try.ntmps79
    go_wp2_with fail
    rw [← HW.out]
    refine (HC1.out _ H0).mono ?_; rintro e w1 ⟨rfl, hx1⟩
    go_wp2_with fail
    go_ret
    exact RV.int rfl (hE0.trans hx1)
end Go.Proofs.Ytgpggmcjggpmpaa
