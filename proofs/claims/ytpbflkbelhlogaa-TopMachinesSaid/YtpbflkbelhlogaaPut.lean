/- Machines: an arc laid into a list in order, of the reference. -/
import Derived.Test.YtpbflkbelhlogaaCompA
namespace Go.Proofs.Ytpbflkbelhlogaa
open Go.RowKit Go.Shelf
set_option linter.unusedVariables false
set_option maxHeartbeats 1000000 in
theorem before_c (x y : Arc) (w : World) : Calls Try.prog 109 #[.agg #[.int .i64 x.f, .int .i64 x.t, .int .i64 x.i, .int .i64 x.o], .agg #[.int .i64 y.f, .int .i64 y.t, .int .i64 y.i, .int .i64 y.o]] w (RV (.bool (decide (LtA x y))) w) := by
  obtain ⟨xf, xt, xi, xo⟩ := x
  obtain ⟨yf, yt, yi, yo⟩ := y
  dsimp only
  obtain ⟨wA, hwA⟩ : ∃ wA, wA = (w.alloc (.cells #[.int .i64 xf, .int .i64 xt, .int .i64 xi, .int .i64 xo] 50)).alloc (.cells #[.int .i64 yf, .int .i64 yt, .int .i64 yi, .int .i64 yo] 50) := ⟨_, rfl⟩
  have hE0 : Ext w wA := by rw [hwA]; exact (Ext.alloc _ _).trans (Ext.alloc _ _)
  have kk : ∀ i v, #[Value.int .i64 xf, .int .i64 xt, .int .i64 xi, .int .i64 xo][i]? = some v → ∀ W, Ext wA W → W.cell? ⟨w.heap.size, i, none⟩ = some v := fun i v h W hW => by rw [hwA] at hW; exact kept_alloc w _ _ h W ((Ext.alloc _ _).trans hW)
  have ll : ∀ i v, #[Value.int .i64 yf, .int .i64 yt, .int .i64 yi, .int .i64 yo][i]? = some v → ∀ W, Ext wA W → W.cell? ⟨w.heap.size + 1, i, none⟩ = some v := fun i v h W hW => by
    rw [hwA] at hW
    have := kept_alloc (w.alloc (.cells #[.int .i64 xf, .int .i64 xt, .int .i64 xi, .int .i64 xo] 50)) _ _ h W hW
    simpa using this
  have k0 := kk 0 _ rfl
  have k1 := kk 1 _ rfl
  have k2 := kk 2 _ rfl
  have k3 := kk 3 _ rfl
  have l0 := ll 0 _ rfl
  have l1 := ll 1 _ rfl
  have l2 := ll 2 _ rfl
  have l3 := ll 3 _ rfl
  have H0 : Ext wA wA := Ext.refl _
  have HW := Lib.hid hwA; clear hwA kk ll
  have HB0 : Hid (decide (LtA ⟨xf, xt, xi, xo⟩ ⟨yf, yt, yi, yo⟩) = decide (xf < yf ∨ (xf = yf ∧ (xt < yt ∨ (xt = yt ∧ (xi < yi ∨ (xi = yi ∧ xo < yo))))))) := Lib.hid (by unfold LtA; rfl)
  rw [HB0.out]
  by_cases h1 : xf = yf
  · have d1 : (xf != yf) = false := by simp [h1]
    by_cases h2 : xt = yt
    · have d2 : (xt != yt) = false := by simp [h2]
      by_cases h3 : xi = yi
      · have d3 : (xi != yi) = false := by simp [h3]
        have HR : Hid (decide (xo < yo) = decide (xf < yf ∨ (xf = yf ∧ (xt < yt ∨ (xt = yt ∧ (xi < yi ∨ (xi = yi ∧ xo < yo))))))) := Lib.hid (by rw [decide_eq_decide]; omega)
        rw [← HR.out]
        clear HR h1 h2 h3
        clear HB0
        go_enter Try.func109, Try.ntmps109
        go_wp2_with fail
        rw [← HW.out]
        go_wp2_with fail
        go_ret
        exact RV.bool rfl hE0
      · have d3 : (xi != yi) = true := by simp [h3]
        have HR : Hid (decide (xi < yi) = decide (xf < yf ∨ (xf = yf ∧ (xt < yt ∨ (xt = yt ∧ (xi < yi ∨ (xi = yi ∧ xo < yo))))))) := Lib.hid (by rw [decide_eq_decide]; omega)
        rw [← HR.out]
        clear HR h1 h2 h3
        clear HB0
        go_enter Try.func109, Try.ntmps109
        go_wp2_with fail
        rw [← HW.out]
        go_wp2_with fail
        go_ret
        exact RV.bool rfl hE0
    · have d2 : (xt != yt) = true := by simp [h2]
      have HR : Hid (decide (xt < yt) = decide (xf < yf ∨ (xf = yf ∧ (xt < yt ∨ (xt = yt ∧ (xi < yi ∨ (xi = yi ∧ xo < yo))))))) := Lib.hid (by rw [decide_eq_decide]; omega)
      rw [← HR.out]
      clear HR h1 h2
      clear HB0
      go_enter Try.func109, Try.ntmps109
      go_wp2_with fail
      rw [← HW.out]
      go_wp2_with fail
      go_ret
      exact RV.bool rfl hE0
  · have d1 : (xf != yf) = true := by simp [h1]
    have HR : Hid (decide (xf < yf) = decide (xf < yf ∨ (xf = yf ∧ (xt < yt ∨ (xt = yt ∧ (xi < yi ∨ (xi = yi ∧ xo < yo))))))) := Lib.hid (by rw [decide_eq_decide]; omega)
    rw [← HR.out]
    clear HR h1
    clear HB0
    go_enter Try.func109, Try.ntmps109
    go_wp2_with fail
    rw [← HW.out]
    go_wp2_with fail
    go_ret
    exact RV.bool rfl hE0
/-- a list of arcs comes back -/
def RArcsO (B : Nat) (l : List Arc) (w : World) (e : Ending) (w' : World) : Prop := ∃ v, e = .returned v ∧ OArcs w' B v l ∧ Ext w w'
theorem insTo_next {a : Arc} {l : List Arc} {k : Nat} (h : k < l.length) : insTo a l (k + 1) = insS a (insTo a l k) (arcA l k) := by
  unfold insTo
  rw [take_next h ⟨0, 0, 0, 0⟩, List.foldl_append]; rfl
theorem insTo_len (a : Arc) (l : List Arc) : ∀ k, (insTo a l k).1.length ≤ 2 * k := fun k => by
  have : ∀ (ar : List Arc) (p : List Arc × Bool), (ar.foldl (insS a) p).1.length ≤ p.1.length + 2 * ar.length := fun ar => by
    induction ar with
    | nil => intro p; simp
    | cons x ar ih =>
      intro p
      have h1 := ih (insS a p x)
      have h2 : (insS a p x).1.length ≤ p.1.length + 2 := by unfold insS; split <;> simp
      rw [List.foldl_cons, List.length_cons]; omega
  have h := this (l.take k) ([], false)
  have h2 : (l.take k).length ≤ k := by rw [List.length_take]; omega
  unfold insTo
  simp only [List.length_nil] at h
  omega
set_option maxHeartbeats 4000000 in
set_option maxRecDepth 100000 in
/-- a row's own block is none of the blocks before its base -/
theorem row_ge {w : World} {B n size : Nat} {e : TypeId} {xs : List Value} {v : Value} (h : w.ownsRow B e size v n xs) : ∀ r, v.ownBlock = some r → B ≤ r := by
  intro r hr
  rcases h.2 with ⟨e, _⟩ | ⟨g, cap, cur, rfl, hg, _⟩
  · rw [e] at hr; cases hr
  · injection hr with hr; subst hr; exact hg
def RArcsP (B : Nat) (lv : Value) (l : List Arc) (w : World) (e : Ending) (w' : World) : Prop := ∃ v, e = .returned v ∧ OArcs w' B v l ∧ Ext w w' ∧ ∀ r, v.ownBlock = some r → lv.ownBlock = some r ∨ w.heap.size ≤ r
set_option maxHeartbeats 8000000 in
set_option maxRecDepth 100000 in
theorem put2_c (lv : Value) (l : List Arc) (a : Arc) (w : World) (B : Nat) (h0 : OArcs w B lv l) (hB : B ≤ w.heap.size) (hl9 : l.length ≤ 100000) : Calls Try.prog 94 #[lv, .agg #[.int .i64 a.f, .int .i64 a.t, .int .i64 a.i, .int .i64 a.o]] w (RArcsP B lv (putA l a) w) := by
  have h : Arcs w lv l := h0.arcs
  obtain ⟨wA, hwA⟩ : ∃ wA, wA = w.alloc (.cells #[.int .i64 a.f, .int .i64 a.t, .int .i64 a.i, .int .i64 a.o] 50) := ⟨_, rfl⟩
  have hE0 : Ext w wA := by rw [hwA]; exact Ext.alloc _ _
  have k0 : ∀ W, Ext wA W → W.cell? ⟨w.heap.size, 0, none⟩ = some (.int .i64 a.f) := by rw [hwA]; exact kept_alloc w _ _ rfl
  have k1 : ∀ W, Ext wA W → W.cell? ⟨w.heap.size, 1, none⟩ = some (.int .i64 a.t) := by rw [hwA]; exact kept_alloc w _ _ rfl
  have k2 : ∀ W, Ext wA W → W.cell? ⟨w.heap.size, 2, none⟩ = some (.int .i64 a.i) := by rw [hwA]; exact kept_alloc w _ _ rfl
  have k3 : ∀ W, Ext wA W → W.cell? ⟨w.heap.size, 3, none⟩ = some (.int .i64 a.o) := by rw [hwA]; exact kept_alloc w _ _ rfl
  have H0 : Ext wA wA := Ext.refl _
  have HL := Lib.hid (h0.ext hE0)
  have HSZ := Lib.hid hE0.size
  have hBA : B ≤ wA.heap.size := Nat.le_trans hB hE0.size
  obtain ⟨al, cl, rfl, hll, hml, HA⟩ := (h.ext hE0).open_
  have HW := Lib.hid hwA; clear hwA h h0
  have HPT : Hid (putA l a = if l.contains a then l else insA l a) := Lib.hid rfl
  have heq := fun W x y => run_eql_arc W x y
  have HIA : Hid (insA l a = if (insTo a l l.length).2 then (insTo a l l.length).1 else (insTo a l l.length).1 ++ [a]) := Lib.hid rfl
  go_enter Try.func94, Try.ntmps94
  go_wp2_with fail
  rw [← HW.out]
  go_loopg [7, 5, 6] l.length (fun z i v5 v6 wr => ∃ (k : Nat) (t5 t6 : Value), k ≤ l.length ∧ l.length ≤ k + z ∧ i = .int .i64 k ∧ t5 = v5 ∧ t6 = v6 ∧ Ext wA wr ∧ OArcs wr wA.heap.size t5 (insTo a l k).1 ∧ t6 = .bool (insTo a l k).2 ∧ Hid (∀ j, j < k → (arcA l j == a) = false))
  case atStart => exact ⟨0, _, _, by omega, by omega, rfl, rfl, rfl, H0, World.ownsRow_nil _ _ _ _, rfl, Lib.hid (fun j hj => by omega)⟩
  case round =>
    obtain ⟨k, t5, t6, hk, hkz, rfl, rfl, rfl, hEr, ho5, ht6, HNE⟩ := hrel
    have hil := insTo_len a l k
    by_cases hlk : k < l.length
    · obtain ⟨b, o, rfl, hc0, hc1, hc2, hc3⟩ := HA.out k hlk
      have HCA := Lib.hid (And.intro hc0 (And.intro hc1 (And.intro hc2 hc3)))
      replace hc0 := hEr.keep hc0
      replace hc1 := hEr.keep hc1
      replace hc2 := hEr.keep hc2
      replace hc3 := hEr.keep hc3
      have HST := Lib.hid (insTo_next (a := a) hlk)
      have HME : Hid (∀ x, arcA l k = x → (x == a) = true → l.contains a = true) := Lib.hid (fun x hx h => by
        rw [List.contains_iff_mem]
        have e : x = a := by simpa using h
        rw [← e, ← hx]; unfold arcA; rw [List.getElem?_eq_getElem hlk]; exact List.getElem_mem hlk)
      obtain ⟨x, hx⟩ : ∃ x, arcA l k = x := ⟨_, rfl⟩
      have HX := Lib.hid hx
      rw [hx] at hc0 hc1 hc2 hc3 HST HCA
      clear hx
      generalize insTo a l k = p at *
      obtain ⟨out, dn⟩ := p
      dsimp only at ho5 ht6 hil
      subst ht6
      have HO5 := Lib.hid ho5
      obtain ⟨a5, c5, rfl⟩ := row_open ho5
      clear ho5
      have hol : out.length ≤ 900000 := by omega
      clear hil
      cases hxa : (x == a)
      · have HNE2 : Hid (∀ j, j < k + 1 → (arcA l j == a) = false) := Lib.hid (fun j hj => by
          by_cases e : j = k
          · subst e; rw [HX.out]; exact hxa
          · exact HNE.out j (by omega))
        have HBF := Lib.hid (fun s : Later wr => before_c a x s.w)
        have hs : ∀ s : Later wr, Ext wA s.w := fun s => hEr.trans s.ext
        have q0 := fun s : Later wr => s.ext.keep hc0
        have q1 := fun s : Later wr => s.ext.keep hc1
        have q2 := fun s : Later wr => s.ext.keep hc2
        have q3 := fun s : Later wr => s.ext.keep hc3
        go_wp2_with fail
        refine wp_region_later (by kernel_rfl) (by kernel_rfl) ?_
        repeat (go_big_quiet_step (fail))
        refine wpQuiet_nil ?_
        intro w5 hw'
        obtain ⟨⟨_, hx5⟩, rfl⟩ := hw'
        clear hs q0 q1 q2 q3
        clear HBF
        have HBF := Lib.hid (fun s : Later w5 => before_c a x s.w)
        have HIS : Hid (insS a (out, dn) x = if !dn && decide (LtA a x) then (out ++ [a] ++ [x], true) else (out ++ [x], dn)) := Lib.hid rfl
        generalize decide (LtA a x) = lt at *
        clear hxa
        cases dn
        · cases lt
          · have HS2 : Hid (insTo a l (k + 1) = (out ++ [x], false)) := Lib.hid (by rw [HST.out, HIS.out]; rfl)
            have hE5 : Ext wA w5 := hEr.trans hx5
            have hs : ∀ s : Later w5, Ext wA s.w := fun s => hE5.trans s.ext
            have q0 := fun s : Later w5 => (hx5.trans s.ext).keep hc0
            have q1 := fun s : Later w5 => (hx5.trans s.ext).keep hc1
            have q2 := fun s : Later w5 => (hx5.trans s.ext).keep hc2
            have q3 := fun s : Later w5 => (hx5.trans s.ext).keep hc3
            go_wp2_with fail
            refine wp_region_later (by kernel_rfl) (by kernel_rfl) ?_
            repeat (go_big_quiet_step ((first | (go_at_call 109; first | with_reducible exact Later.call (HBF.out _)))))
            refine wpQuiet_nil ?_
            intro w6 hw'
            obtain ⟨⟨_, hx6⟩, rfl⟩ := hw'
            clear hs q0 q1 q2 q3
            have hX6 : Ext wA w6 := hE5.trans hx6
            have hc0 := (hx5.trans hx6).keep hc0
            have hc1 := (hx5.trans hx6).keep hc1
            have hc2 := (hx5.trans hx6).keep hc2
            have hc3 := (hx5.trans hx6).keep hc3
            have HO6 := Lib.hid ((HO5.out.ext hx5).ext hx6)
            have hsz6 : wA.heap.size ≤ w6.heap.size := hX6.size
            go_wp2_with (at_builtin; refine wpList_appendArc elArc rfl _ _ rfl rfl rfl HO6.out rfl hsz6 (by omega) ?_; intro v7 w7 ho7 hb7 hg7 hq7)
            go_roundg (gk-1)
            case measure => omega
            case rel => exact ⟨k+1, _, _, by omega, by omega, by go_num, rfl, rfl, hX6.upto hb7 (Nat.le_refl _), by rw [HS2.out]; exact ho7, by rw [HS2.out], HNE2.out⟩
          · have HS2 : Hid (insTo a l (k + 1) = ((out ++ [a]) ++ [x], true)) := Lib.hid (by rw [HST.out, HIS.out]; rfl)
            have hE5 : Ext wA w5 := hEr.trans hx5
            have hs : ∀ s : Later w5, Ext wA s.w := fun s => hE5.trans s.ext
            have q0 := fun s : Later w5 => (hx5.trans s.ext).keep hc0
            have q1 := fun s : Later w5 => (hx5.trans s.ext).keep hc1
            have q2 := fun s : Later w5 => (hx5.trans s.ext).keep hc2
            have q3 := fun s : Later w5 => (hx5.trans s.ext).keep hc3
            go_wp2_with fail
            refine wp_region_later (by kernel_rfl) (by kernel_rfl) ?_
            repeat (go_big_quiet_step ((first | (go_at_call 109; first | with_reducible exact Later.call (HBF.out _)))))
            refine wpQuiet_nil ?_
            intro w6 hw'
            obtain ⟨⟨_, hx6⟩, rfl⟩ := hw'
            clear hs q0 q1 q2 q3
            have hX6 : Ext wA w6 := hE5.trans hx6
            have hc0 := (hx5.trans hx6).keep hc0
            have hc1 := (hx5.trans hx6).keep hc1
            have hc2 := (hx5.trans hx6).keep hc2
            have hc3 := (hx5.trans hx6).keep hc3
            have HO6 := Lib.hid ((HO5.out.ext hx5).ext hx6)
            have hsz6 : wA.heap.size ≤ w6.heap.size := hX6.size
            go_wp2_with (first
              | (at_builtin; refine wpList_appendArc elArc rfl _ _ rfl rfl rfl HO6.out rfl hsz6 (by omega) ?_; intro v7 w7 ho7 hb7 hg7 hq7; have e7 : Ext wA w7 := hX6.upto hb7 (Nat.le_refl _); have hc0 := e7.keep HCA.out.1; have hc1 := e7.keep HCA.out.2.1; have hc2 := e7.keep HCA.out.2.2.1; have hc3 := e7.keep HCA.out.2.2.2; have hsz7 := e7.size; have HO7 := Lib.hid ho7; clear ho7 hb7 hg7 hq7)
              | (at_builtin; refine wpList_appendArc elArc rfl _ _ rfl rfl rfl HO7.out rfl hsz7 (by rw [List.length_append, List.length_singleton]; omega) ?_; intro v8 w8 ho8 hb8 hg8 hq8))
            go_roundg (gk-1)
            case measure => omega
            case rel => exact ⟨k+1, _, _, by omega, by omega, by go_num, rfl, rfl, e7.upto hb8 (Nat.le_refl _), by rw [HS2.out]; exact ho8, by rw [HS2.out], HNE2.out⟩
        · have HS2 : Hid (insTo a l (k + 1) = (out ++ [x], true)) := Lib.hid (by rw [HST.out, HIS.out]; rfl)
          have hE5 : Ext wA w5 := hEr.trans hx5
          have hs : ∀ s : Later w5, Ext wA s.w := fun s => hE5.trans s.ext
          have q0 := fun s : Later w5 => (hx5.trans s.ext).keep hc0
          have q1 := fun s : Later w5 => (hx5.trans s.ext).keep hc1
          have q2 := fun s : Later w5 => (hx5.trans s.ext).keep hc2
          have q3 := fun s : Later w5 => (hx5.trans s.ext).keep hc3
          go_wp2_with fail
          refine wp_region_later (by kernel_rfl) (by kernel_rfl) ?_
          repeat (go_big_quiet_step ((first | (go_at_call 109; first | with_reducible exact Later.call (HBF.out _)))))
          refine wpQuiet_nil ?_
          intro w6 hw'
          obtain ⟨⟨_, hx6⟩, rfl⟩ := hw'
          clear hs q0 q1 q2 q3
          have hX6 : Ext wA w6 := hE5.trans hx6
          have hc0 := (hx5.trans hx6).keep hc0
          have hc1 := (hx5.trans hx6).keep hc1
          have hc2 := (hx5.trans hx6).keep hc2
          have hc3 := (hx5.trans hx6).keep hc3
          have HO6 := Lib.hid ((HO5.out.ext hx5).ext hx6)
          have hsz6 : wA.heap.size ≤ w6.heap.size := hX6.size
          go_wp2_with (at_builtin; refine wpList_appendArc elArc rfl _ _ rfl rfl rfl HO6.out rfl hsz6 (by omega) ?_; intro v7 w7 ho7 hb7 hg7 hq7)
          go_roundg (gk-1)
          case measure => omega
          case rel => exact ⟨k+1, _, _, by omega, by omega, by go_num, rfl, rfl, hX6.upto hb7 (Nat.le_refl _), by rw [HS2.out]; exact ho7, by rw [HS2.out], HNE2.out⟩
      · have HRT : Hid (putA l a = l) := Lib.hid (by rw [HPT.out, if_pos (HME.out x HX.out hxa)])
        have hs : ∀ s : Later wr, Ext wA s.w := fun s => hEr.trans s.ext
        have q0 := fun s : Later wr => s.ext.keep hc0
        have q1 := fun s : Later wr => s.ext.keep hc1
        have q2 := fun s : Later wr => s.ext.keep hc2
        have q3 := fun s : Later wr => s.ext.keep hc3
        go_wp2_with fail
        refine wp_region_later (by kernel_rfl) (by kernel_rfl) ?_
        repeat (go_big_quiet_step (fail))
        refine wpQuiet_nil ?_
        intro w5 hw'
        obtain ⟨⟨_, hx5⟩, rfl⟩ := hw'
        clear hs q0 q1 q2 q3
        go_wp2_with fail
        go_ret
        exact ⟨_, rfl, by rw [HRT.out]; exact HL.out.ext (hEr.trans hx5), hE0.trans (hEr.trans hx5), fun r h => .inl h⟩
    · have hkl : k = l.length := by omega
      have HNC : Hid (putA l a = if (insTo a l k).2 then (insTo a l k).1 else (insTo a l k).1 ++ [a]) := Lib.hid (by
        rw [HPT.out, if_neg (fun hc => ?_), HIA.out, hkl]
        rw [List.contains_iff_mem] at hc
        obtain ⟨j, hj, he⟩ := List.mem_iff_getElem.1 hc
        have := HNE.out j (by omega)
        unfold arcA at this
        rw [List.getElem?_eq_getElem hj, Option.getD_some, he] at this
        simp at this)
      generalize insTo a l k = p at *
      obtain ⟨out, dn⟩ := p
      dsimp only at ho5 ht6 hil HNC
      subst ht6
      have HO5 := Lib.hid ho5
      obtain ⟨a5, c5, rfl⟩ := row_open ho5
      clear ho5
      have hol : out.length ≤ 900000 := by omega
      have hsz : wA.heap.size ≤ wr.heap.size := hEr.size
      cases dn
      · have HRR : Hid (putA l a = out ++ [a]) := Lib.hid (by rw [HNC.out]; rfl)
        clear HNC
        go_wp2_with (at_builtin; refine wpList_appendArc elArc rfl _ _ rfl rfl rfl HO5.out rfl hsz (by omega) ?_; intro v7 w7 ho7 hb7 hg7 hq7)
        go_ret
        exact ⟨_, rfl, by rw [HRR.out]; exact row_low ho7 hBA, hE0.trans (hEr.upto hb7 (Nat.le_refl _)), fun r h => .inr (Nat.le_trans HSZ.out (row_ge ho7 r h))⟩
      · have HRT : Hid (putA l a = out) := Lib.hid (by rw [HNC.out]; rfl)
        clear HNC
        go_wp2_with fail
        go_ret
        exact ⟨_, rfl, by rw [HRT.out]; exact row_low HO5.out hBA, hE0.trans hEr, fun r h => .inr (Nat.le_trans HSZ.out (row_ge HO5.out r h))⟩
theorem put_c (lv : Value) (l : List Arc) (a : Arc) (w : World) (B : Nat) (h0 : OArcs w B lv l) (hB : B ≤ w.heap.size) (hl9 : l.length ≤ 100000) : Calls Try.prog 94 #[lv, .agg #[.int .i64 a.f, .int .i64 a.t, .int .i64 a.i, .int .i64 a.o]] w (RArcsO B (putA l a) w) :=
  (put2_c lv l a w B h0 hB hl9).mono fun _ _ ⟨v, h1, h2, h3, _⟩ => ⟨v, h1, h2, h3⟩
end Go.Proofs.Ytpbflkbelhlogaa
