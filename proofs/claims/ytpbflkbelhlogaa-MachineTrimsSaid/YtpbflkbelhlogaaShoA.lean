/- Machines: how far each state is from an end, of the program. -/
import Derived.Test.YtpbflkbelhlogaaShoP
import Derived.Test.YtpbflkbelhlogaaRep
import Derived.Test.YtpbflkbelhlogaaMacB
namespace Go.Proofs.Ytpbflkbelhlogaa
open Go.RowKit Go.Shelf
set_option linter.unusedVariables false
/-- a new row of ints comes back -/
def RRow (l : List Int) (w : World) (e : Ending) (w' : World) : Prop := ∃ g, e = .returned (.slice (some ⟨g, 0, none⟩) l.length l.length) ∧ BInts w' g l ∧ w.heap.size ≤ g ∧ Ext w w'
theorem far_in {m : Mac} (h : MacOk m) {j : Nat} (hj : j < m.a.length) : m.a[j] = arcA m.a j := by simp [arcA, hj]
theorem zeroAt_bd : ∀ (e l : List Int), (∀ i, -1 ≤ at0 l i ∧ at0 l i ≤ 0) → ∀ i, -1 ≤ at0 (zeroAt e l) i ∧ at0 (zeroAt e l) i ≤ 0
  | [], _, h => h
  | s :: e, l, h => by
    rw [show zeroAt (s :: e) l = zeroAt e (l.set s.toNat 0) from rfl]
    refine zeroAt_bd e _ fun i => ?_
    unfold at0
    rw [List.getElem?_set]
    split
    · split <;> simp
    · exact h i
theorem set_bd {l : List Int} {N x : Int} (h : ∀ i, -1 ≤ at0 l i ∧ at0 l i ≤ N) (hx : -1 ≤ x ∧ x ≤ N) (hN : 0 ≤ N) (j : Nat) : ∀ i, -1 ≤ at0 (l.set j x) i ∧ at0 (l.set j x) i ≤ N := fun i => by
  unfold at0
  rw [List.getElem?_set]
  split
  · split
    · exact hx
    · exact ⟨by simp, by simpa using hN⟩
  · exact h i
theorem pFold_bd {A : Type} {f t : A → Nat} : ∀ (ar : List A) (l : List Int) (N : Int), 0 ≤ N → (∀ i, -1 ≤ at0 l i ∧ at0 l i ≤ N) → ∀ i, -1 ≤ at0 (ar.foldl (pStep f t) l) i ∧ at0 (ar.foldl (pStep f t) l) i ≤ N + ar.length
  | [], _, N, _, h => fun i => by have := h i; simp only [List.foldl_nil, List.length_nil]; omega
  | a :: ar, l, N, hN, h => fun i => by
    have h1 : ∀ i, -1 ≤ at0 (pStep f t l a) i ∧ at0 (pStep f t l a) i ≤ N + 1 := by
      unfold pStep
      split
      · rename_i hc
        have := h (t a)
        exact set_bd (fun i => by have := h i; omega) (by omega) (by omega) _
      · exact fun i => by have := h i; omega
    have := pFold_bd (f := f) (t := t) ar (pStep f t l a) (N + 1) (by omega) h1 i
    rw [List.foldl_cons, List.length_cons]
    omega
theorem pRnd_bd {A : Type} {f t : A → Nat} (ar : List A) (l : List Int) (h : ∀ i, -1 ≤ at0 l i ∧ at0 l i ≤ 0) : ∀ (r : Nat) i, -1 ≤ at0 (pRnd f t ar l r) i ∧ at0 (pRnd f t ar l r) i ≤ (r : Int) * ar.length
  | 0, i => by have := h i; rw [pRnd]; omega
  | r + 1, i => by
    have := pFold_bd (f := f) (t := t) ar _ _ (by exact Int.mul_nonneg (by omega) (by omega)) (pRnd_bd (f := f) (t := t) ar l h r) i
    rw [pRnd, pTo_all]
    have e : ((r + 1 : Nat) : Int) * (ar.length : Int) = (r : Int) * ar.length + ar.length := by rw [Int.natCast_add, Int.add_mul]; simp
    omega
theorem pStep_yes {A : Type} {f t : A → Nat} {l : List Int} {a : A} (h1 : 0 ≤ at0 l (t a)) (h2 : at0 l (f a) < 0 ∨ at0 l (t a) + 1 < at0 l (f a)) : pStep f t l a = l.set (f a) (at0 l (t a) + 1) := by unfold pStep; rw [if_pos ⟨h1, h2⟩]
theorem pStep_no {A : Type} {f t : A → Nat} {l : List Int} {a : A} (h : ¬ (0 ≤ at0 l (t a) ∧ (at0 l (f a) < 0 ∨ at0 l (t a) + 1 < at0 l (f a)))) : pStep f t l a = l := by unfold pStep; rw [if_neg h]
theorem far_bd {m : Mac} (h : MacOk m) {n : Nat} (hn : n ≤ 9) {l : List Int} (hl : ∀ i, -1 ≤ at0 l i ∧ at0 l i ≤ 0) {r : Nat} (hr : r ≤ n) (k : Nat) : ∀ i, -1 ≤ at0 (pTo fN tN m.a (pRnd fN tN m.a l r) k) i ∧ at0 (pTo fN tN m.a (pRnd fN tN m.a l r) k) i ≤ 1000 := fun i => by
  have h1 := pRnd_bd (f := fN) (t := tN) m.a l hl r
  have ha := h.a
  have h2 : (r : Int) * (m.a.length : Int) ≤ 9 * 60 := by
    have : r * m.a.length ≤ 9 * 60 := Nat.mul_le_mul (by omega) ha
    exact_mod_cast this
  have h3 := pFold_bd (f := fN) (t := tN) (m.a.take k) _ _ (by exact Int.mul_nonneg (by omega) (by omega)) h1 i
  unfold pTo
  have h4 : (m.a.take k).length ≤ 60 := by rw [List.length_take]; omega
  omega
set_option maxHeartbeats 4000000 in
set_option maxRecDepth 100000 in
theorem far_c (av ev : Value) (m : Mac) (w : World) (h : MacR w av ev m) (hM : MacOk m) : Calls Try.prog 88 #[.agg #[.int .i64 m.s, av, ev]] w (RRow (farL m) w) := by
  obtain ⟨wA, hwA⟩ : ∃ wA, wA = w.alloc (.cells #[.int .i64 m.s, av, ev] 25) := ⟨_, rfl⟩
  have hE0 : Ext w wA := by rw [hwA]; exact Ext.alloc _ _
  have k0 : ∀ W, Ext wA W → W.cell? ⟨w.heap.size, 0, none⟩ = some (.int .i64 m.s) := by rw [hwA]; exact kept_alloc w _ _ rfl
  have k1 : ∀ W, Ext wA W → W.cell? ⟨w.heap.size, 1, none⟩ = some av := by rw [hwA]; exact kept_alloc w _ _ rfl
  have k2 : ∀ W, Ext wA W → W.cell? ⟨w.heap.size, 2, none⟩ = some ev := by rw [hwA]; exact kept_alloc w _ _ rfl
  have H0 : Ext wA wA := Ext.refl _
  have hzA : wA.heap.size = w.heap.size + 1 := by rw [hwA]; simp
  obtain ⟨aa, ca, rfl, hla, hma, HA⟩ := (h.ext hE0).a.open_
  obtain ⟨ae, ce, rfl, hle, hme, HE⟩ := (h.ext hE0).e.open_
  obtain ⟨n, hn⟩ : ∃ n : Nat, m.s = n := ⟨m.s.toNat, by have := hM.s1; omega⟩
  have hn1 : 1 ≤ n := by have := hM.s1; omega
  have hn9 : n ≤ 9 := by have := hM.s2; omega
  have hnt : m.s.toNat = n := by omega
  have HM := Lib.hid hM
  have HFL : Hid (farL m = pRnd fN tN m.a (zeroAt m.e (List.replicate n (-1))) n) := Lib.hid (by unfold farL far0; rw [hnt])
  have HLN : Hid ((farL m).length = n) := Lib.hid (by unfold farL; rw [pRnd_len, far0_len, hnt])
  have HN := Lib.hid hn
  rw [hn] at k0
  have HW := Lib.hid (show wA = w.alloc (.cells #[.int .i64 (n : Int), .slice aa m.a.length ca, .slice ae m.e.length ce] 25) by rw [hwA, hn])
  have hXo : Ext wA (wA.alloc (.cells #[.int .i64 (-1)] 3)) := Ext.alloc _ _
  have hco := kept_alloc wA #[.int .i64 (-1)] 3 (i := 0) (v := .int .i64 (-1)) rfl _ (Ext.refl _)
  have HRP := Lib.hid (repeat_c wA.heap.size n (-1) _ hco hn1 (by omega))
  rw [hzA] at HRP
  clear hwA h hM hnt hco
  rw [hn]
  go_enter Try.func88, Try.ntmps88
  go_wp2_with fail
  rw [← HW.out]
  refine HRP.out.mono ?_; rintro e w2 ⟨g, rfl, hbk, hg, hx2⟩
  have hXA : Ext wA w2 := hXo.trans hx2
  have hB0 : BInts w2 g (zeroAt (m.e.take 0) (List.replicate n (-1))) := by rw [List.take_zero]; exact hbk
  have hg1 : w.heap.size + 1 ≤ g := by have := hXo.size; rw [hzA] at this; omega
  clear hbk hx2 hXo HRP hg
  go_wp2_with fail
  go_loopg [15] m.e.length (fun z i wr => ∃ k : Nat, k ≤ m.e.length ∧ m.e.length ≤ k + z ∧ i = .int .i64 k ∧ Ext wA wr ∧ BInts wr g (zeroAt (m.e.take k) (List.replicate n (-1))))
  case atStart => exact ⟨0, by omega, by omega, rfl, hXA, hB0⟩
  case round =>
    clear hB0 hXA
    obtain ⟨k, hk, hk2, rfl, hEr, hbk⟩ := hrel
    by_cases hlt : k < m.e.length
    · obtain ⟨be, oe, rfl, hc⟩ := HE.out k hlt
      replace hc := hEr.keep hc
      have hx := HM.out.ends (m.e[k]?.getD 0) (by rw [List.getElem?_eq_getElem hlt]; exact List.getElem_mem hlt)
      have hN := Lib.hid (zeroAt_next hlt (List.replicate n (-1)))
      generalize m.e[k]?.getD 0 = x at *
      obtain ⟨j, rfl⟩ : ∃ j : Nat, x = j := ⟨x.toNat, by omega⟩
      have hj : j < n := by have := HN.out; omega
      have hjl : j < (zeroAt (m.e.take k) (List.replicate n (-1))).length := by rw [zeroAt_len]; simpa using hj
      have hbc := hbk.cell hjl
      have hbf := Blk.frozen hbk j
      have hset := Lib.hid (hbk.set j 0)
      rw [Int.toNat_natCast] at hN
      generalize zeroAt (m.e.take k) (List.replicate n (-1)) = O at *
      clear hx hjl hbk
      go_wp2_with fail
      go_roundg (gk-1)
      case measure => omega
      case rel => exact ⟨k+1, by omega, by omega, by go_num, hEr.setCell (by omega) _ _, by rw [hN.out]; exact hset.out⟩
    · have hbE : BInts wr g (pRnd fN tN m.a (zeroAt m.e (List.replicate n (-1))) 0) := by rw [List.take_of_length_le (by omega)] at hbk; exact hbk
      obtain ⟨w0, hw0⟩ : ∃ w0, w0 = wr := ⟨_, rfl⟩
      rw [← hw0] at hbE hEr ⊢
      clear hw0 hbk
      go_wp2_with fail
      go_loopg [25] n (fun z i wr => ∃ r : Nat, r ≤ n ∧ n ≤ r + z ∧ i = .int .i64 r ∧ Ext wA wr ∧ BInts wr g (pRnd fN tN m.a (zeroAt m.e (List.replicate n (-1))) r))
      case atStart => exact ⟨0, by omega, by omega, rfl, hEr, hbE⟩
      case round =>
        clear hbE hEr
        obtain ⟨r, hr, hrz, rfl, hEr, hbk⟩ := hrel
        obtain ⟨g1, rfl⟩ : ∃ g : Nat, g = gk := ⟨_, rfl⟩
        by_cases hlt2 : r < n
        · have hrI : (r : Int) < (n : Int) := by omega
          have HNX : Hid (pRnd fN tN m.a (zeroAt m.e (List.replicate n (-1))) (r + 1) = pTo fN tN m.a (pRnd fN tN m.a (zeroAt m.e (List.replicate n (-1))) r) m.a.length) := Lib.hid rfl
          have HRL : Hid ((pRnd fN tN m.a (zeroAt m.e (List.replicate n (-1))) r).length = n) := Lib.hid (by rw [pRnd_len, zeroAt_len]; simp)
          have hb0 : BInts wr g (pTo fN tN m.a (pRnd fN tN m.a (zeroAt m.e (List.replicate n (-1))) r) 0) := hbk
          have HBD := Lib.hid (far_bd HM.out hn9 (zeroAt_bd m.e (List.replicate n (-1)) (fun i => by unfold at0; rw [List.getElem?_replicate]; split <;> simp)) hr)
          generalize pRnd fN tN m.a (zeroAt m.e (List.replicate n (-1))) r = R at *
          obtain ⟨w0, hw0⟩ : ∃ w0, w0 = wr := ⟨_, rfl⟩
          rw [← hw0] at hb0 hEr ⊢
          clear hw0 hbk
          go_wp2_with fail
          go_loopg [30] m.a.length (fun z i wr => ∃ j : Nat, j ≤ m.a.length ∧ m.a.length ≤ j + z ∧ i = .int .i64 j ∧ Ext wA wr ∧ BInts wr g (pTo fN tN m.a R j))
          case atStart => exact ⟨0, by omega, by omega, rfl, hEr, hb0⟩
          case round =>
            clear hb0 hEr
            obtain ⟨j, hj, hj2, rfl, hEr, hbb⟩ := hrel
            by_cases hjl : j < m.a.length
            · obtain ⟨ba, oa, rfl, hc0, hc1, hc2, hc3⟩ := HA.out j hjl
              replace hc0 := hEr.keep hc0
              replace hc1 := hEr.keep hc1
              replace hc2 := hEr.keep hc2
              replace hc3 := hEr.keep hc3
              have hst := HM.out.arc hjl
              have hst1 := pTo_next (f := fN) (t := tN) (out := R) hjl
              rw [far_in HM.out hjl] at hst1
              have HST := Lib.hid hst1; clear hst1
              have hlb : (pTo fN tN m.a R j).length = n := by unfold pTo; rw [pTo_len]; exact HRL.out
              have hbd := HBD.out j
              generalize arcA m.a j = y at *
              generalize pTo fN tN m.a R j = bb at *
              obtain ⟨yf, yt, yi, yo⟩ := y
              simp only at hc0 hc1 hc2 hc3 hst
              obtain ⟨p, rfl⟩ : ∃ p : Nat, yf = p := ⟨yf.toNat, by omega⟩
              obtain ⟨q, rfl⟩ : ∃ q : Nat, yt = q := ⟨yt.toNat, by omega⟩
              have hp : p < n := by have := HN.out; omega
              have hq : q < n := by have := HN.out; omega
              have HLB := Lib.hid hlb; clear hlb
              obtain ⟨wB, hwB⟩ : ∃ wB, wB = wr.alloc (.cells #[.int .i64 (p : Int), .int .i64 (q : Int), .int .i64 yi, .int .i64 yo] 50) := ⟨_, rfl⟩
              have hEB : Ext wr wB := by rw [hwB]; exact Ext.alloc _ _
              have b0 : ∀ W, Ext wB W → W.cell? ⟨wr.heap.size, 0, none⟩ = some (.int .i64 p) := by rw [hwB]; exact kept_alloc wr _ _ rfl
              have b1 : ∀ W, Ext wB W → W.cell? ⟨wr.heap.size, 1, none⟩ = some (.int .i64 q) := by rw [hwB]; exact kept_alloc wr _ _ rfl
              have HWB := Lib.hid hwB; clear hwB
              have hs : ∀ s : Later wB, Ext wB s.w := fun s => s.ext
              have hb1 : BInts wB g bb := Blk.ext hbb hEB
              have q1 := fun s : Later wB => s.ext.keep (hb1.cell (i := q) (by rw [HLB.out]; exact hq))
              have q2 := fun s : Later wB => s.ext.keep (hb1.cell (i := p) (by rw [HLB.out]; exact hp))
              have hbq := hbd q
              have hbp := hbd p
              have HSY0 : Hid (0 ≤ at0 bb q → (at0 bb p < 0 ∨ at0 bb q + 1 < at0 bb p) → pStep fN tN bb ⟨(p : Int), (q : Int), yi, yo⟩ = bb.set p (at0 bb q + 1)) := Lib.hid fun h1 h2 => pStep_yes (f := fN) (t := tN) (a := ⟨(p : Int), (q : Int), yi, yo⟩) h1 h2
              have HSN0 : Hid (¬ (0 ≤ at0 bb q ∧ (at0 bb p < 0 ∨ at0 bb q + 1 < at0 bb p)) → pStep fN tN bb ⟨(p : Int), (q : Int), yi, yo⟩ = bb) := Lib.hid fun h => pStep_no (f := fN) (t := tN) (a := ⟨(p : Int), (q : Int), yi, yo⟩) h
              replace q1 : ∀ s : Later wB, s.w.cell? ⟨g, q, none⟩ = some (.int .i64 (at0 bb q)) := q1
              replace q2 : ∀ s : Later wB, s.w.cell? ⟨g, p, none⟩ = some (.int .i64 (at0 bb p)) := q2
              obtain ⟨xq, hxq⟩ : ∃ x, at0 bb q = x := ⟨_, rfl⟩
              obtain ⟨xp, hxp⟩ : ∃ x, at0 bb p = x := ⟨_, rfl⟩
              rw [hxq] at q1 hbq HSY0 HSN0
              rw [hxp] at q2 hbp HSY0 HSN0
              have HXQ : Hid (bb[q]?.getD 0 = xq) := Lib.hid hxq
              clear hst hbd hxq hxp
              have hwq : IntKind.i64.wrap (xq + 1) = xq + 1 := IntWalk.i64_in _ (by omega)
              by_cases hA : 0 ≤ xq
              · have hdA : decide (xq ≥ 0) = true := by simpa using hA
                have hdA2 : decide (0 ≤ xq) = true := by simpa using hA
                by_cases hB : xp < 0
                · have hdB : decide (xp < 0) = true := by simpa using hB
                  have HSY := Lib.hid (HSY0.out hA (.inl hB))
                  clear HSY0 HSN0
                  go_wp2_with fail
                  rw [← HWB.out]
                  clear hc0 hc1 hc2 hc3
                  refine wp_region_later (by kernel_rfl) (by kernel_rfl) ?_
                  repeat (go_big_quiet_step (fail))
                  refine wpQuiet_nil ?_
                  intro w5 hw'
                  obtain ⟨⟨_, hx5⟩, rfl⟩ := hw'
                  clear hs q1 q2
                  have hX : Ext wA w5 := hEr.trans (hEB.trans hx5)
                  have hb5 : BInts w5 g bb := Blk.ext hb1 hx5
                  clear hb1 hbb
                  have hs : ∀ s : Later w5, Ext wB s.w := fun s => hx5.trans s.ext
                  have q1 := fun s : Later w5 => s.ext.keep (hb5.cell (i := q) (by rw [HLB.out]; exact hq))
                  rw [HXQ.out] at q1
                  go_wp2_with fail
                  refine wp_region_later_tail 10 (by kernel_rfl) (by kernel_rfl) ?_
                  simp only [List.take_succ_cons, List.take_zero, List.drop_succ_cons, List.drop_zero]
                  repeat (go_big_quiet_step (fail))
                  refine wpQuiet_nil ?_
                  intro w6 hw'
                  obtain ⟨⟨_, hx6⟩, rfl⟩ := hw'
                  clear hs q1
                  have hb6 : BInts w6 g bb := Blk.ext hb5 hx6
                  have hX6 : Ext wA w6 := hX.trans hx6
                  have hn2 := hb6.cell (i := p) (by rw [HLB.out]; exact hp)
                  have hf2 := Blk.frozen hb6 p
                  have HB2 := Lib.hid (hb6.set p (xq + 1))
                  clear hb6 hb5
                  go_wp2_with fail
                  go_roundg (gk-1)
                  case measure => omega
                  case rel => exact ⟨j+1, by omega, by omega, by go_num, hX6.setCell (by omega) _ _, by rw [HST.out, HSY.out]; exact HB2.out⟩
                · have hdB : decide (xp < 0) = false := by simpa using hB
                  by_cases hC : xq + 1 < xp
                  · have hdC : decide (xp > xq + 1) = true := by simpa using hC
                    have hdC2 : decide (xq + 1 < xp) = true := by simpa using hC
                    have HSY := Lib.hid (HSY0.out hA (.inr hC))
                    clear HSY0 HSN0
                    go_wp2_with fail
                    rw [← HWB.out]
                    clear hc0 hc1 hc2 hc3
                    refine wp_region_later (by kernel_rfl) (by kernel_rfl) ?_
                    repeat (go_big_quiet_step (fail))
                    refine wpQuiet_nil ?_
                    intro w5 hw'
                    obtain ⟨⟨_, hx5⟩, rfl⟩ := hw'
                    clear hs q1 q2
                    have hX : Ext wA w5 := hEr.trans (hEB.trans hx5)
                    have hb5 : BInts w5 g bb := Blk.ext hb1 hx5
                    clear hb1 hbb
                    have hs : ∀ s : Later w5, Ext wB s.w := fun s => hx5.trans s.ext
                    have q1 := fun s : Later w5 => s.ext.keep (hb5.cell (i := q) (by rw [HLB.out]; exact hq))
                    rw [HXQ.out] at q1
                    go_wp2_with fail
                    refine wp_region_later_tail 10 (by kernel_rfl) (by kernel_rfl) ?_
                    simp only [List.take_succ_cons, List.take_zero, List.drop_succ_cons, List.drop_zero]
                    repeat (go_big_quiet_step (fail))
                    refine wpQuiet_nil ?_
                    intro w6 hw'
                    obtain ⟨⟨_, hx6⟩, rfl⟩ := hw'
                    clear hs q1
                    have hb6 : BInts w6 g bb := Blk.ext hb5 hx6
                    have hX6 : Ext wA w6 := hX.trans hx6
                    have hn2 := hb6.cell (i := p) (by rw [HLB.out]; exact hp)
                    have hf2 := Blk.frozen hb6 p
                    have HB2 := Lib.hid (hb6.set p (xq + 1))
                    clear hb6 hb5
                    go_wp2_with fail
                    go_roundg (gk-1)
                    case measure => omega
                    case rel => exact ⟨j+1, by omega, by omega, by go_num, hX6.setCell (by omega) _ _, by rw [HST.out, HSY.out]; exact HB2.out⟩
                  · have hdC : decide (xp > xq + 1) = false := by simp; omega
                    have hdC2 : decide (xq + 1 < xp) = false := by simp; omega
                    have HSN := Lib.hid (HSN0.out (by omega))
                    clear HSY0 HSN0
                    go_wp2_with fail
                    rw [← HWB.out]
                    clear hc0 hc1 hc2 hc3
                    refine wp_region_later (by kernel_rfl) (by kernel_rfl) ?_
                    repeat (go_big_quiet_step (fail))
                    refine wpQuiet_nil ?_
                    intro w5 hw'
                    obtain ⟨⟨_, hx5⟩, rfl⟩ := hw'
                    clear hs q1 q2
                    have hX : Ext wA w5 := hEr.trans (hEB.trans hx5)
                    have hb5 : BInts w5 g bb := Blk.ext hb1 hx5
                    clear hb1 hbb
                    go_wp2_with fail
                    go_roundg (gk-1)
                    case measure => omega
                    case rel => exact ⟨j+1, by omega, by omega, by go_num, hX, by rw [HST.out, HSN.out]; exact hb5⟩
              · have hdA : decide (xq ≥ 0) = false := by simp; omega
                have hdA2 : decide (0 ≤ xq) = false := by simp; omega
                have HSN := Lib.hid (HSN0.out (by omega))
                clear HSY0 HSN0
                go_wp2_with fail
                rw [← HWB.out]
                clear hc0 hc1 hc2 hc3
                refine wp_region_later (by kernel_rfl) (by kernel_rfl) ?_
                repeat (go_big_quiet_step (fail))
                refine wpQuiet_nil ?_
                intro w5 hw'
                obtain ⟨⟨_, hx5⟩, rfl⟩ := hw'
                clear hs q1 q2
                have hX : Ext wA w5 := hEr.trans (hEB.trans hx5)
                have hb5 : BInts w5 g bb := Blk.ext hb1 hx5
                clear hb1 hbb
                go_wp2_with fail
                go_roundg (gk-1)
                case measure => omega
                case rel => exact ⟨j+1, by omega, by omega, by go_num, hX, by rw [HST.out, HSN.out]; exact hb5⟩
            · have hjm : j = m.a.length := by omega
              subst hjm
              have HB := Lib.hid hbb
              clear hbb
              go_wp2_with fail
              go_roundg (g1-1)
              case measure => omega
              case rel => exact ⟨r+1, by omega, by omega, by go_num, hEr, by rw [HNX.out]; exact HB.out⟩
        · have hrn : r = n := by omega
          subst hrn
          rw [← HFL.out] at hbk
          have HB := Lib.hid hbk
          clear hbk
          go_wp2_with fail
          go_ret
          exact ⟨g, by rw [HLN.out]; rfl, HB.out, by omega, hE0.trans hEr⟩
end Go.Proofs.Ytpbflkbelhlogaa
