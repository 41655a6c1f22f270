/- Machines: how far each state is from an end, of the reference. -/
import Derived.Test.YtpbflkbelhlogaaShoA
import Derived.Deep.CutRange
import Derived.Deep.CutBlock
namespace Go.Proofs.Ytpbflkbelhlogaa
open Go.RowKit Go.Shelf
set_option linter.unusedVariables false
theorem fillTo_set {n k : Nat} {x : Int} (h : k < n) : (fillTo n k x).set k x = fillTo n (k + 1) x := by
  unfold fillTo
  rw [List.set_append, if_neg (by simp), List.length_replicate, Nat.sub_self, show n - k = (n - (k + 1)) + 1 by omega, List.replicate_succ, List.set_cons_zero, List.replicate_succ', List.append_assoc]
  rfl
theorem rStep_yes {A : Type} {f t : A → Nat} {r : Nat} {l : List Int} {a : A} (h1 : at0 l (t a) = (r : Int)) (h2 : at0 l (f a) < 0) : rStep f t r l a = l.set (f a) ((r : Int) + 1) := by unfold rStep; rw [if_pos ⟨h1, h2⟩]
theorem rStep_no {A : Type} {f t : A → Nat} {r : Nat} {l : List Int} {a : A} (h : ¬ (at0 l (t a) = (r : Int) ∧ at0 l (f a) < 0)) : rStep f t r l a = l := by unfold rStep; rw [if_neg h]
set_option maxHeartbeats 4000000 in
set_option maxRecDepth 100000 in
theorem rfar_c (av ev : Value) (m : Mac) (w : World) (h : MacR w av ev m) (hM : MacOk m) : Calls Try.prog 92 #[.agg #[.int .i64 m.s, av, ev]] w (RRow (farL m) w) := by
  obtain ⟨wA, hwA⟩ : ∃ wA, wA = w.alloc (.cells #[.int .i64 m.s, av, ev] 25) := ⟨_, rfl⟩
  have hE0 : Ext w wA := by rw [hwA]; exact Ext.alloc _ _
  have k0 : ∀ W, Ext wA W → W.cell? ⟨w.heap.size, 0, none⟩ = some (.int .i64 m.s) := by rw [hwA]; exact kept_alloc w _ _ rfl
  have k1 : ∀ W, Ext wA W → W.cell? ⟨w.heap.size, 1, none⟩ = some av := by rw [hwA]; exact kept_alloc w _ _ rfl
  have k2 : ∀ W, Ext wA W → W.cell? ⟨w.heap.size, 2, none⟩ = some ev := by rw [hwA]; exact kept_alloc w _ _ rfl
  have H0 : Ext wA wA := Ext.refl _
  have hzA : wA.heap.size = w.heap.size + 1 := by rw [hwA]; simp
  obtain ⟨aa, ca, rfl, hla, hma, HA⟩ := (h.ext hE0).a.open_
  obtain ⟨ae, ce, rfl, hle, hme, HE⟩ := (h.ext hE0).e.open_
  obtain ⟨n, hn⟩ : ∃ n : Nat, m.s = n := ⟨m.s.toNat, by have := hM.s1; omega⟩
  have hn1 : 1 ≤ n := by have := hM.s1; omega
  have hn9 : n ≤ 9 := by have := hM.s2; omega
  have hnt : m.s.toNat = n := by omega
  have HM := Lib.hid hM
  have HFL : Hid (farL m = rRnd fN tN m.a (zeroAt m.e (List.replicate n (-1))) n) := Lib.hid (by rw [← far_ref hM]; unfold far0; rw [hnt])
  have HLN : Hid ((farL m).length = n) := Lib.hid (by unfold farL; rw [pRnd_len, far0_len, hnt])
  have HN := Lib.hid hn
  rw [hn] at k0
  have HW := Lib.hid (show wA = w.alloc (.cells #[.int .i64 (n : Int), .slice aa m.a.length ca, .slice ae m.e.length ce] 25) by rw [hwA, hn])
  clear hwA h hM hnt
  rw [hn]
  go_enter Try.func92, Try.ntmps92
  go_upto_region 1 with fail
  rw [← HW.out]
  go_wp2_with (at_make; refine wpList_make_blk n elInts rfl rfl _ _ rfl rfl rfl (by omega) (by omega) ?_; intro g w2 hg hblk hx2 hg2)
  have hbk : BInts w2 g (fillTo n 0 (-1)) := by unfold BInts fillTo; simpa using hblk
  have hg1 : w.heap.size + 1 ≤ g := by omega
  have hXA : Ext wA w2 := hx2
  clear hblk hx2 hg2
  go_loopg [4] n (fun z i wr => ∃ k : Nat, k ≤ n ∧ n ≤ k + z ∧ i = .int .i64 k ∧ Ext wA wr ∧ BInts wr g (fillTo n k (-1)))
  case atStart => exact ⟨0, by omega, by omega, rfl, hXA, hbk⟩
  case round =>
    clear hbk hXA
    obtain ⟨k, hk, hkz, rfl, hEr, hbk⟩ := hrel
    by_cases hlt : k < n
    · have hkl : k < (fillTo n k (-1)).length := by rw [fillTo_len hk]; exact hlt
      have hkI : (k : Int) < (n : Int) := by omega
      have hbc := hbk.cell hkl
      have hbf := Blk.frozen hbk k
      have hset := Lib.hid (hbk.set k (-1))
      have HS := Lib.hid (fillTo_set (x := -1) hlt)
      generalize fillTo n k (-1) = O at *
      clear hkl hbk
      go_wp2_with fail
      go_roundg (gk-1)
      case measure => omega
      case rel => exact ⟨k+1, by omega, by omega, by go_num, hEr.setCell (by omega) _ _, by rw [← HS.out]; exact hset.out⟩
    · have hB0 : BInts wr g (zeroAt (m.e.take 0) (List.replicate n (-1))) := by
        rw [List.take_zero, show zeroAt [] (List.replicate n (-1)) = List.replicate n (-1) from rfl, ← fillTo_all]
        have e : k = n := by omega
        rw [e] at hbk; exact hbk
      have hkI : ¬ (k : Int) < (n : Int) := by omega
      obtain ⟨w0, hw0⟩ : ∃ w0, w0 = wr := ⟨_, rfl⟩
      rw [← hw0] at hB0 hEr ⊢
      clear hw0 hbk
      go_wp2_with fail
      go_loopg [5] m.e.length (fun z i wr => ∃ k : Nat, k ≤ m.e.length ∧ m.e.length ≤ k + z ∧ i = .int .i64 k ∧ Ext wA wr ∧ BInts wr g (zeroAt (m.e.take k) (List.replicate n (-1))))
      case atStart => exact ⟨0, by omega, by omega, rfl, hEr, hB0⟩
      case round =>
        clear hB0 hEr
        obtain ⟨k, hk, hk2, rfl, hEr, hbk⟩ := hrel
        by_cases hlt : k < m.e.length
        · obtain ⟨be, oe, rfl, hc⟩ := HE.out k hlt
          replace hc := hEr.keep hc
          have hx := HM.out.ends (m.e[k]?.getD 0) (by rw [List.getElem?_eq_getElem hlt]; exact List.getElem_mem hlt)
          have hN := Lib.hid (zeroAt_next hlt (List.replicate n (-1)))
          generalize m.e[k]?.getD 0 = x at *
          obtain ⟨j, rfl⟩ : ∃ j : Nat, x = j := ⟨x.toNat, by omega⟩
          have hj : j < n := by have := HN.out; omega
          have hjl : j < (zeroAt (m.e.take k) (List.replicate n (-1))).length := by rw [zeroAt_len]; simpa using hj
          have hbc := hbk.cell hjl
          have hbf := Blk.frozen hbk j
          have hset := Lib.hid (hbk.set j 0)
          rw [Int.toNat_natCast] at hN
          generalize zeroAt (m.e.take k) (List.replicate n (-1)) = O at *
          clear hx hjl hbk
          go_wp2_with fail
          go_roundg (gk-1)
          case measure => omega
          case rel => exact ⟨k+1, by omega, by omega, by go_num, hEr.setCell (by omega) _ _, by rw [hN.out]; exact hset.out⟩
        · have hbE : BInts wr g (rRnd fN tN m.a (zeroAt m.e (List.replicate n (-1))) 0) := by rw [List.take_of_length_le (by omega)] at hbk; exact hbk
          obtain ⟨w0, hw0⟩ : ∃ w0, w0 = wr := ⟨_, rfl⟩
          rw [← hw0] at hbE hEr ⊢
          clear hw0 hbk
          go_wp2_with fail
          go_loopg [6] n (fun z i wr => ∃ r : Nat, r ≤ n ∧ n ≤ r + z ∧ i = .int .i64 ((r : Int) + 1) ∧ Ext wA wr ∧ BInts wr g (rRnd fN tN m.a (zeroAt m.e (List.replicate n (-1))) r))
          case atStart => exact ⟨0, by omega, by omega, rfl, hEr, hbE⟩
          case round =>
            clear hbE hEr
            obtain ⟨r, hr, hrz, rfl, hEr, hbk⟩ := hrel
            obtain ⟨g1, rfl⟩ : ∃ g : Nat, g = gk := ⟨_, rfl⟩
            by_cases hlt2 : r < n
            · have hrI : (r : Int) + 1 ≤ (n : Int) := by omega
              have hrD : decide ((r : Int) + 1 ≤ (n : Int)) = true := by simpa using hrI
              have HNX : Hid (rRnd fN tN m.a (zeroAt m.e (List.replicate n (-1))) (r + 1) = rTo fN tN r m.a (rRnd fN tN m.a (zeroAt m.e (List.replicate n (-1))) r) m.a.length) := Lib.hid rfl
              have HRL : Hid ((rRnd fN tN m.a (zeroAt m.e (List.replicate n (-1))) r).length = n) := Lib.hid (by rw [rRnd_len, zeroAt_len]; simp)
              have hb0 : BInts wr g (rTo fN tN r m.a (rRnd fN tN m.a (zeroAt m.e (List.replicate n (-1))) r) 0) := hbk
              generalize rRnd fN tN m.a (zeroAt m.e (List.replicate n (-1))) r = R at *
              obtain ⟨w0, hw0⟩ : ∃ w0, w0 = wr := ⟨_, rfl⟩
              rw [← hw0] at hb0 hEr ⊢
              clear hw0 hbk
              go_wp2_with fail
              go_loopg [7] m.a.length (fun z i wr => ∃ j : Nat, j ≤ m.a.length ∧ m.a.length ≤ j + z ∧ i = .int .i64 j ∧ Ext wA wr ∧ BInts wr g (rTo fN tN r m.a R j))
              case atStart => exact ⟨0, by omega, by omega, rfl, hEr, hb0⟩
              case round =>
                clear hb0 hEr
                obtain ⟨j, hj, hj2, rfl, hEr, hbb⟩ := hrel
                by_cases hjl : j < m.a.length
                · obtain ⟨ba, oa, rfl, hc0, hc1, hc2, hc3⟩ := HA.out j hjl
                  replace hc0 := hEr.keep hc0
                  replace hc1 := hEr.keep hc1
                  replace hc2 := hEr.keep hc2
                  replace hc3 := hEr.keep hc3
                  have hst := HM.out.arc hjl
                  have hst1 := rTo_next (f := fN) (t := tN) (r := r) (out := R) hjl
                  rw [far_in HM.out hjl] at hst1
                  have HST := Lib.hid hst1; clear hst1
                  have hlb : (rTo fN tN r m.a R j).length = n := by unfold rTo; rw [rTo_len]; exact HRL.out
                  generalize arcA m.a j = y at *
                  generalize rTo fN tN r m.a R j = bb at *
                  obtain ⟨yf, yt, yi, yo⟩ := y
                  simp only at hc0 hc1 hc2 hc3 hst
                  obtain ⟨p, rfl⟩ : ∃ p : Nat, yf = p := ⟨yf.toNat, by omega⟩
                  obtain ⟨q, rfl⟩ : ∃ q : Nat, yt = q := ⟨yt.toNat, by omega⟩
                  have hp : p < n := by have := HN.out; omega
                  have hq : q < n := by have := HN.out; omega
                  have HLB := Lib.hid hlb; clear hlb
                  obtain ⟨wB, hwB⟩ : ∃ wB, wB = wr.alloc (.cells #[.int .i64 (p : Int), .int .i64 (q : Int), .int .i64 yi, .int .i64 yo] 50) := ⟨_, rfl⟩
                  have hEB : Ext wr wB := by rw [hwB]; exact Ext.alloc _ _
                  have hEAB : Ext wA wB := hEr.trans hEB
                  have b0 : ∀ W, Ext wB W → W.cell? ⟨wr.heap.size, 0, none⟩ = some (.int .i64 p) := by rw [hwB]; exact kept_alloc wr _ _ rfl
                  have b1 : ∀ W, Ext wB W → W.cell? ⟨wr.heap.size, 1, none⟩ = some (.int .i64 q) := by rw [hwB]; exact kept_alloc wr _ _ rfl
                  have HWB := Lib.hid hwB; clear hwB
                  have hb1 : BInts wB g bb := Blk.ext hbb hEB
                  have q1 := hb1.cell (i := q) (by rw [HLB.out]; exact hq)
                  have q2 := hb1.cell (i := p) (by rw [HLB.out]; exact hp)
                  have hf2 := Blk.frozen hb1 p
                  have hsB : Ext wB wB := Ext.refl _
                  have HSY0 : Hid (at0 bb q = (r : Int) → at0 bb p < 0 → rStep fN tN r bb ⟨(p : Int), (q : Int), yi, yo⟩ = bb.set p ((r : Int) + 1)) := Lib.hid fun h1 h2 => rStep_yes (f := fN) (t := tN) (a := ⟨(p : Int), (q : Int), yi, yo⟩) h1 h2
                  have HSN0 : Hid (¬ (at0 bb q = (r : Int) ∧ at0 bb p < 0) → rStep fN tN r bb ⟨(p : Int), (q : Int), yi, yo⟩ = bb) := Lib.hid fun h => rStep_no (f := fN) (t := tN) (a := ⟨(p : Int), (q : Int), yi, yo⟩) h
                  have HSET := Lib.hid (hb1.set p ((r : Int) + 1))
                  replace q1 : wB.cell? ⟨g, q, none⟩ = some (.int .i64 (at0 bb q)) := q1
                  replace q2 : wB.cell? ⟨g, p, none⟩ = some (.int .i64 (at0 bb p)) := q2
                  generalize at0 bb q = xq at *
                  generalize at0 bb p = xp at *
                  clear hst
                  have hwr : IntKind.i64.wrap ((r : Int) + 1 - 1) = (r : Int) := by rw [Int.add_sub_cancel]; exact IntWalk.i64_in _ (by omega)
                  have hwr2 : IntKind.i64.wrap ((r : Int)) = (r : Int) := IntWalk.i64_in _ (by omega)
                  by_cases hA : xq = (r : Int)
                  · subst hA
                    by_cases hB : xp < 0
                    · have hdB : decide (xp < 0) = true := by simpa using hB
                      have HSY := Lib.hid (HSY0.out rfl hB)
                      clear HSY0 HSN0
                      go_upto_region 17 with fail
                      rw [← HWB.out]
                      clear hc0 hc1 hc2 hc3
                      go_wp2_with fail
                      go_roundg (gk-1)
                      case measure => omega
                      case rel => exact ⟨j+1, by omega, by omega, by go_num, hEAB.setCell (by omega) _ _, by rw [HST.out, HSY.out]; exact HSET.out⟩
                    · have hdB : decide (xp < 0) = false := by simpa using hB
                      have HSN := Lib.hid (HSN0.out (by omega))
                      clear HSY0 HSN0
                      go_upto_region 17 with fail
                      rw [← HWB.out]
                      clear hc0 hc1 hc2 hc3
                      go_wp2_with fail
                      go_roundg (gk-1)
                      case measure => omega
                      case rel => exact ⟨j+1, by omega, by omega, by go_num, hEAB, by rw [HST.out, HSN.out]; exact hb1⟩
                  · have hdA : (xq == (r : Int)) = false := by simpa using hA
                    have HSN := Lib.hid (HSN0.out (fun h => hA h.1))
                    clear HSY0 HSN0
                    go_upto_region 17 with fail
                    rw [← HWB.out]
                    clear hc0 hc1 hc2 hc3
                    go_wp2_with fail
                    go_roundg (gk-1)
                    case measure => omega
                    case rel => exact ⟨j+1, by omega, by omega, by go_num, hEAB, by rw [HST.out, HSN.out]; exact hb1⟩
                · have hjm : j = m.a.length := by omega
                  subst hjm
                  have HB := Lib.hid hbb
                  clear hbb
                  go_wp2_with fail
                  go_roundg (g1-1)
                  case measure => omega
                  case rel => exact ⟨r+1, by omega, by omega, by go_num, hEr, by rw [HNX.out]; exact HB.out⟩
            · have hrn : r = n := by omega
              subst hrn
              have hrD : decide ((r : Int) + 1 ≤ (r : Int)) = false := by simp; omega
              rw [← HFL.out] at hbk
              have HB := Lib.hid hbk
              clear hbk
              go_wp2_with fail
              go_ret
              exact ⟨g, by rw [HLN.out]; rfl, HB.out, by omega, hE0.trans hEr⟩
end Go.Proofs.Ytpbflkbelhlogaa
