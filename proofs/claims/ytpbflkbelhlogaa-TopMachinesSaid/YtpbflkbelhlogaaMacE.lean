/- All images of a word, of the reference. -/
import Derived.Test.YtpbflkbelhlogaaMacD
namespace Go.Proofs.Ytpbflkbelhlogaa
open Go.RowKit Go.Shelf
set_option linter.unusedVariables false

theorem elWrite : ElTy Try.prog 108 107 2 48 (.agg #[.slice none 0 0, .slice none 0 0]) := ⟨Try.underlying108, by kernel_rfl, rfl, by omega⟩
/-- a row of bools in a new block comes back -/
def RBlk (l : List Bool) (w : World) (e : Ending) (w' : World) : Prop := ∃ g, e = .returned (.slice (some ⟨g, 0, none⟩) l.length l.length) ∧ BBools w' g l ∧ w.heap.size ≤ g ∧ Ext w w'
def RGrid (N n : Nat) (rows : Nat → List Bool) (w : World) (e : Ending) (w' : World) : Prop := ∃ v, e = .returned v ∧ Grid w' v N n rows ∧ Ext w w'

set_option maxHeartbeats 1000000 in
theorem rends_c (av ev : Value) (m : Mac) (n : Nat) (w : World) (h : MacR w av ev m) (hM : MacIn m n) : Calls Try.prog 68 #[.agg #[.int .i64 m.s, av, ev]] w (RBlk (endsB n m.e) w) := by
  rw [hM.s]
  obtain ⟨wA, hwA⟩ : ∃ wA, wA = w.alloc (.cells #[.int .i64 (n : Int), av, ev] 25) := ⟨_, rfl⟩
  have hE0 : Ext w wA := by rw [hwA]; exact Ext.alloc _ _
  have k0 : ∀ W, Ext wA W → W.cell? ⟨w.heap.size, 0, none⟩ = some (.int .i64 (n : Int)) := by rw [hwA]; exact kept_alloc w _ _ rfl
  have k1 : ∀ W, Ext wA W → W.cell? ⟨w.heap.size, 1, none⟩ = some av := by rw [hwA]; exact kept_alloc w _ _ rfl
  have k2 : ∀ W, Ext wA W → W.cell? ⟨w.heap.size, 2, none⟩ = some ev := by rw [hwA]; exact kept_alloc w _ _ rfl
  have H0 : Ext wA wA := Ext.refl _
  obtain ⟨ae, ce, rfl, hle, hme, HE⟩ := (h.ext hE0).e.open_
  have HW := Lib.hid hwA; clear hwA h
  have hn1 := hM.n1
  have hn9 := hM.n9
  have HM := Lib.hid hM; clear hM
  go_enter Try.func68, Try.ntmps68
  go_wp2_with (at_make; refine wpList_make_blk n elBools rfl rfl _ _ rfl rfl rfl (by omega) (by omega) ?_; intro g w2 hg hblkg hx2 hg2; rw [← HW.out] at hg hx2)
  have hbb : BBools w2 g (trueAt (m.e.take 0) (List.replicate n false)) := by rw [List.take_zero]; unfold BBools; simpa [trueAt] using hblkg
  clear hblkg hg2
  go_loopg [4] m.e.length (fun z i wr => ∃ k : Nat, k ≤ m.e.length ∧ m.e.length ≤ k + z ∧ i = .int .i64 k ∧ Ext wA wr ∧ BBools wr g (trueAt (m.e.take k) (List.replicate n false)))
  case atStart => exact ⟨0, by omega, by omega, rfl, hx2, hbb⟩
  case round =>
    clear hx2 hbb
    obtain ⟨k, hk, hk2, rfl, hEr, hbb⟩ := hrel
    by_cases hlt : k < m.e.length
    · obtain ⟨be, oe, rfl, hc⟩ := HE.out k hlt
      replace hc := hEr.keep hc
      have hx := HM.out.ends k hlt
      have hN := Lib.hid (trueAt_next hlt (List.replicate n false))
      generalize m.e[k]?.getD 0 = x at *
      obtain ⟨j, rfl⟩ : ∃ j : Nat, x = j := ⟨x.toNat, by omega⟩
      have hj : j < n := by omega
      have hol : (trueAt (m.e.take k) (List.replicate n false)).length = n := by rw [trueAt_len]; simp
      have HOL := Lib.hid hol; clear hol
      rw [Int.toNat_natCast] at hN
      generalize trueAt (m.e.take k) (List.replicate n false) = O at *
      clear hx
      have hbc := hbb.cell (i := j) (by rw [HOL.out]; exact hj)
      have hbf := Blk.frozen hbb j
      have hset := Lib.hid (hbb.set j true)
      clear hbb
      go_wp2_with fail
      go_roundg (gk-1)
      case measure => omega
      case rel => exact ⟨k+1, by omega, by omega, by go_num, hEr.setCell hg _ _, by rw [hN.out]; exact hset.out⟩
    · have hbb2 : BBools wr g (endsB n m.e) := by rw [List.take_of_length_le (by omega)] at hbb; exact hbb
      clear hbb
      go_wp2_with fail
      go_ret
      exact ⟨g, by rw [endsB_len]; rfl, hbb2, Nat.le_trans hE0.size hg, hE0.trans hEr⟩

set_option maxHeartbeats 8000000 in
set_option maxRecDepth 100000 in
theorem rcan_c (av ev uv : Value) (m : Mac) (n : Nat) (u : List Int) (w : World) (h : MacR w av ev m) (hM : MacIn m n) (hu : Ints w uv u) (hul : u.length ≤ 1000) :
    Calls Try.prog 66 #[.agg #[.int .i64 m.s, av, ev], uv] w (RGrid (u.length + 1) n (fun j => canL n m (u.drop j)) w) := by
  have hMs := Lib.hid hM.s
  rw [hM.s]
  obtain ⟨wA, hwA⟩ : ∃ wA, wA = w.alloc (.cells #[.int .i64 (n : Int), av, ev] 25) := ⟨_, rfl⟩
  have hE0 : Ext w wA := by rw [hwA]; exact Ext.alloc _ _
  have k0 : ∀ W, Ext wA W → W.cell? ⟨w.heap.size, 0, none⟩ = some (.int .i64 (n : Int)) := by rw [hwA]; exact kept_alloc w _ _ rfl
  have k1 : ∀ W, Ext wA W → W.cell? ⟨w.heap.size, 1, none⟩ = some av := by rw [hwA]; exact kept_alloc w _ _ rfl
  have k2 : ∀ W, Ext wA W → W.cell? ⟨w.heap.size, 2, none⟩ = some ev := by rw [hwA]; exact kept_alloc w _ _ rfl
  have H0 : Ext wA wA := Ext.refl _
  have HRE := Lib.hid (h.ext hE0)
  obtain ⟨aa, ca, rfl, hla, hma, HA⟩ := (h.ext hE0).a.open_
  obtain ⟨ae, ce, rfl, hle, hme, HE⟩ := (h.ext hE0).e.open_
  obtain ⟨au, cu, rfl, hlu, hmu, HU⟩ := (hu.ext hE0).open_
  have HW := Lib.hid hwA; clear hwA h hu
  have hn1 := hM.n1
  have hn9 := hM.n9
  have HM := Lib.hid hM; clear hM
  obtain ⟨rows, hrows⟩ : ∃ rows : Nat → List Bool, rows = fun j => canL n m (u.drop j) := ⟨_, rfl⟩
  rw [← hrows]
  have HRW := Lib.hid hrows; clear hrows
  have hrl : ∀ j, (rows j).length = n := fun j => by rw [HRW.out]; exact canL_len n m _
  have HRL := Lib.hid hrl; clear hrl
  have hgd0 : ∀ (W : World) A, Blk W A 75 (List.replicate (u.length + 1) (.slice none 0 0)) → GridD W A (u.length + 1) n (u.length + 1) rows (List.replicate (u.length + 1) (.slice none 0 0)) := fun W A h => ⟨by simp, h, fun j h1 h2 => by omega⟩
  have HGD0 := Lib.hid hgd0; clear hgd0
  have HEC := Lib.hid (fun (W : World) (hW : Ext wA W) => by have := rends_c _ _ m n W (HRE.out.ext hW) HM.out; rw [hMs.out] at this; exact this)
  go_enter Try.func66, Try.ntmps66
  go_wp2_with (first
    | (at_make; refine wpList_make_blkL (u.length + 1) elGrid rfl rfl _ _ rfl rfl rfl (by omega) (by omega) (by omega) ?_; intro A w1 hA hblkA hx1 hA1; rw [← HW.out] at hA hx1)
    | (go_at_call 68; refine (HEC.out w1 hx1).mono ?_; rintro e w2 ⟨g, rfl, hblkg, hg, hx2⟩; rw [endsB_len]; have hAc := Blk.cell (i := u.length) (v := .slice none 0 0) (hblkA.ext hx2) (by rw [List.getElem?_replicate, if_pos (by omega)]); have hAf := Blk.frozen (hblkA.ext hx2) u.length; have hE3 : Ext wA (w2.setCell ⟨A, u.length, none⟩ (.slice (some ⟨g, 0, none⟩) n n)) := (hx1.trans hx2).setCell hA _ _))
  obtain ⟨hR, hbb⟩ := GridD.begin (HGD0.out w1 A hblkA) (by omega) hg hx2 hblkg
  clear hblkA hblkg hx1 hx2 hAc hAf hA1
  generalize hvs : (List.replicate (u.length + 1) (Value.slice none 0 0)).set u.length (.slice (some ⟨g, 0, none⟩) n n) = vs at hR
  clear hvs
  have hGD := hR.done (by rw [HRL.out]) (by rw [HRW.out]; show BBools _ g (canL n m (u.drop u.length)); rw [List.drop_length, canL]; exact hbb)
  clear hR hbb
  go_loopg [6] u.length (fun z i wr => ∃ (k : Nat) (x : Int) (vs : List Value), k ≤ u.length ∧ k ≤ z ∧ x = (k : Int) - 1 ∧ i = .int .i64 x ∧ Ext wA wr ∧ GridD wr A (u.length + 1) n k rows vs)
  case atStart => exact ⟨u.length, _, vs, by omega, by omega, rfl, rfl, hE3, hGD⟩
  case round =>
    clear hGD hE3
    obtain ⟨k, x, vs, hk, hkz, hxk, rfl, hEr, hGD⟩ := hrel
    by_cases hk0 : k = 0
    · subst hk0
      obtain rfl : x = -1 := by omega
      clear hxk
      have hGrid := hGD.grid
      clear hGD
      go_wp2_with fail
      go_ret
      exact ⟨_, rfl, hGrid, hE0.trans hEr⟩
    · obtain ⟨j, rfl⟩ : ∃ j, k = j + 1 := ⟨k - 1, by omega⟩
      obtain rfl : x = (j : Int) := by omega
      clear hxk hk0
      obtain ⟨vj, hvj⟩ : ∃ v, vs[j]? = some v := ⟨_, List.getElem?_eq_getElem (by rw [hGD.len]; omega)⟩
      obtain ⟨g1, rfl⟩ : ∃ g : Nat, g = gk := ⟨_, rfl⟩
      go_wp2_with (at_make; refine wpList_make_blk n elBools rfl rfl _ _ rfl rfl rfl (by omega) (by omega) ?_; intro g w2 hg hblkg hx2 hg2; have hAc := Blk.cell (hGD.blk.ext hx2) hvj; have hAf := Blk.frozen (hGD.blk.ext hx2) j; have hE3 : Ext wA (w2.setCell ⟨A, j, none⟩ (.slice (some ⟨g, 0, none⟩) n n)) := (hEr.trans hx2).setCell hA _ _)
      obtain ⟨hR, hbb⟩ := GridD.begin (l := List.replicate n false) hGD (by omega) hg hx2 (by unfold BBools; simpa using hblkg)
      have hgA : wA.heap.size ≤ g := Nat.le_trans hEr.size hg
      clear hblkg hx2 hAc hAf hg2 hg hGD hEr
      generalize vs.set j (.slice (some ⟨g, 0, none⟩) n n) = vs' at hR
      clear hvj
      have HLAST : Hid (rows j = onsB n m.a (canC (u[j]?.getD 0) (rows (j + 1))) (fun a => a.f)) := by rw [HRW.out]; exact Lib.hid (canL_drop (by omega))
      have HCOND : Hid (∃ s nx, s = u[j]?.getD 0 ∧ nx = rows (j + 1) ∧ canC (u[j]?.getD 0) (rows (j + 1)) = canC s nx) := Lib.hid ⟨_, _, rfl, rfl, rfl⟩
      have hjN : j + 1 < u.length + 1 := by omega
      obtain ⟨bu, ou, rfl, hcu⟩ := HU.out j (by omega)
      generalize hcond : canC (u[j]?.getD 0) (rows (j + 1)) = cond at *
      go_loopg [7] m.a.length (fun z i wr => ∃ t : Nat, t ≤ m.a.length ∧ m.a.length ≤ t + z ∧ i = .int .i64 t ∧ Ext wA wr ∧ GridR wr A (u.length + 1) n j g rows vs' ∧ BBools wr g ((m.a.take t).foldl (onB cond (fun a => a.f)) (List.replicate n false)))
      case atStart => exact ⟨0, by omega, by omega, rfl, hE3, hR, by rw [List.take_zero]; exact hbb⟩
      case round =>
        clear hE3 hR hbb
        obtain ⟨t, ht, htz, rfl, hEr, hR, hbb⟩ := hrel
        by_cases hlt : t < m.a.length
        · obtain ⟨ba, oa, rfl, hc0, hc1, hc2, hc3⟩ := HA.out t hlt
          replace hc0 := hEr.keep hc0
          replace hc1 := hEr.keep hc1
          replace hc2 := hEr.keep hc2
          replace hc3 := hEr.keep hc3
          have hst := HM.out.arc t hlt
          have HST := Lib.hid (onF_next hlt cond (fun a => a.f) (List.replicate n false))
          have hol : ((m.a.take t).foldl (onB cond (fun a => a.f)) (List.replicate n false)).length = n := by rw [onsF_len]; simp
          generalize arcA m.a t = y at *
          generalize (m.a.take t).foldl (onB cond (fun a => a.f)) (List.replicate n false) = O at *
          have HOL := Lib.hid hol; clear hol
          obtain ⟨yf, yt, yi, yo⟩ := y
          simp only at hc0 hc1 hc2 hc3 hst
          obtain ⟨p, rfl⟩ : ∃ p : Nat, yf = p := ⟨yf.toNat, by omega⟩
          obtain ⟨q, rfl⟩ : ∃ q : Nat, yt = q := ⟨yt.toNat, by omega⟩
          have hp : p < n := by omega
          have hq : q < n := by omega
          clear hst
          obtain ⟨wB, hwB⟩ : ∃ wB, wB = wr.alloc (.cells #[.int .i64 (p : Int), .int .i64 (q : Int), .int .i64 yi, .int .i64 yo] 50) := ⟨_, rfl⟩
          have hEB : Ext wr wB := by rw [hwB]; exact Ext.alloc _ _
          have b0 : ∀ W, Ext wB W → W.cell? ⟨wr.heap.size, 0, none⟩ = some (.int .i64 p) := by rw [hwB]; exact kept_alloc wr _ _ rfl
          have b1 : ∀ W, Ext wB W → W.cell? ⟨wr.heap.size, 1, none⟩ = some (.int .i64 q) := by rw [hwB]; exact kept_alloc wr _ _ rfl
          have b2 : ∀ W, Ext wB W → W.cell? ⟨wr.heap.size, 2, none⟩ = some (.int .i64 yi) := by rw [hwB]; exact kept_alloc wr _ _ rfl
          have b3 : ∀ W, Ext wB W → W.cell? ⟨wr.heap.size, 3, none⟩ = some (.int .i64 yo) := by rw [hwB]; exact kept_alloc wr _ _ rfl
          have HWB := Lib.hid hwB; clear hwB
          have HNO : Hid (onB cond (fun a => a.f) O ⟨(p : Int), (q : Int), yi, yo⟩ = if (yi == u[j]?.getD 0 && (rows (j + 1))[q]?.getD false) = true then O.set p true else O) := by
            obtain ⟨s, nx, h1, h2, h3⟩ := HCOND.out
            rw [h3, ← h1, ← h2]; exact Lib.hid (onB_canC s nx O p q yi yo)
          obtain ⟨_, g', _, hv', hb'⟩ := hR.row (j + 1) (by omega) hjN
          replace hcu := (hEr.trans hEB).keep hcu
          have hs : ∀ s : Later wB, Ext wB s.w := fun s => s.ext
          have q0 := fun s : Later wB => s.ext.keep hcu
          have q1 := fun s : Later wB => (hEB.trans s.ext).keep (hR.blk.cell hv')
          have q2 := fun s : Later wB => (hEB.trans s.ext).keep (hb'.cell (i := q) (by rw [HRL.out]; exact hq))
          generalize (rows (j + 1))[q]?.getD false = bq at *
          generalize u[j]?.getD 0 = uj at *
          clear hv' hb'
          by_cases hi : yi = uj
          · subst hi
            have hid1 : (yi == yi) = true := by simp
            cases bq
            · go_wp2_with fail
              rw [← HWB.out]
              clear hc0 hc1 hc2 hc3
              have hw1 : IntKind.i64.wrap ((j : Int) + 1) = (j : Int) + 1 := IntWalk.i64_in _ (by omega)
              have hw2 : ((j : Int) + 1).toNat = j + 1 := by omega
              have hw3 : (0 : Int) ≤ (j : Int) + 1 := by omega
              have hw4 : (j : Int) + 1 < ((u.length + 1 : Nat) : Int) := by omega
              have hw5 : j + 1 < u.length + 1 := by omega
              have hw6 : (j : Int) + 1 < (u.length : Int) + 1 := by omega
              refine wp_region_later (by kernel_rfl) (by kernel_rfl) ?_
              repeat (go_big_quiet_step (fail))
              refine wpQuiet_nil ?_
              intro w5 hw'
              obtain ⟨⟨_, hx5⟩, rfl⟩ := hw'
              clear hs q0 q1 q2 hw1 hw2 hw3 hw4 hw5 hw6
              have hx5' := hEB.trans hx5
              have hE5 : Ext wA w5 := hEr.trans hx5'
              go_wp2_with fail
              go_roundg (gk-1)
              case measure => omega
              case rel => exact ⟨t+1, by omega, by omega, by go_num, hE5, hR.ext hx5', by rw [HST.out, HNO.out, if_neg (by simp)]; exact Blk.ext hbb hx5'⟩
            · go_wp2_with fail
              rw [← HWB.out]
              clear hc0 hc1 hc2 hc3
              have hw1 : IntKind.i64.wrap ((j : Int) + 1) = (j : Int) + 1 := IntWalk.i64_in _ (by omega)
              have hw2 : ((j : Int) + 1).toNat = j + 1 := by omega
              have hw3 : (0 : Int) ≤ (j : Int) + 1 := by omega
              have hw4 : (j : Int) + 1 < ((u.length + 1 : Nat) : Int) := by omega
              have hw5 : j + 1 < u.length + 1 := by omega
              have hw6 : (j : Int) + 1 < (u.length : Int) + 1 := by omega
              refine wp_region_later (by kernel_rfl) (by kernel_rfl) ?_
              repeat (go_big_quiet_step (fail))
              refine wpQuiet_nil ?_
              intro w5 hw'
              obtain ⟨⟨_, hx5⟩, rfl⟩ := hw'
              clear hs q0 q1 q2 hw1 hw2 hw3 hw4 hw5 hw6
              have hx5' := hEB.trans hx5
              have hE5 : Ext wA w5 := hEr.trans hx5'
              have hR5 := hR.ext hx5'
              have hbb5 : BBools w5 g O := Blk.ext hbb hx5'
              have hs : ∀ s : Later w5, Ext wB s.w := fun s => hx5.trans s.ext
              have q0 := fun s : Later w5 => s.ext.keep (hR5.blk.cell hR5.at_)
              have hw1 : j < u.length + 1 := by omega
              go_wp2_with fail
              refine wp_region_later_tail 7 (by kernel_rfl) (by kernel_rfl) ?_
              simp only [List.take_succ_cons, List.take_zero, List.drop_succ_cons, List.drop_zero]
              repeat (go_big_quiet_step (fail))
              refine wpQuiet_nil ?_
              intro w6 hw'
              obtain ⟨⟨_, hx6⟩, rfl⟩ := hw'
              clear hs q0 hw1
              have hR6 := hR5.ext hx6
              have hbb6 : BBools w6 g O := Blk.ext hbb5 hx6
              have hbc := hbb6.cell (i := p) (by rw [HOL.out]; exact hp)
              have hbf := Blk.frozen hbb6 p
              have HSET := Lib.hid (And.intro (hR6.set p (.bool true)) (hbb6.set p true))
              have hE6 := hE5.trans hx6
              clear hR hbb hR5 hbb5 hR6 hbb6
              go_wp2_with fail
              go_roundg (gk-1)
              case measure => omega
              case rel => exact ⟨t+1, by omega, by omega, by go_num, hE6.setCell hgA _ _, HSET.out.1, by rw [HST.out, HNO.out, if_pos (by simp)]; exact HSET.out.2⟩
          · have hid1 : (yi == uj) = false := by simp [hi]
            have HI := Lib.hid hi; clear hi
            go_wp2_with fail
            rw [← HWB.out]
            clear hc0 hc1 hc2 hc3
            have hw1 : IntKind.i64.wrap ((j : Int) + 1) = (j : Int) + 1 := IntWalk.i64_in _ (by omega)
            have hw2 : ((j : Int) + 1).toNat = j + 1 := by omega
            have hw3 : (0 : Int) ≤ (j : Int) + 1 := by omega
            have hw4 : (j : Int) + 1 < ((u.length + 1 : Nat) : Int) := by omega
            have hw5 : j + 1 < u.length + 1 := by omega
            have hw6 : (j : Int) + 1 < (u.length : Int) + 1 := by omega
            refine wp_region_later (by kernel_rfl) (by kernel_rfl) ?_
            repeat (go_big_quiet_step (fail))
            refine wpQuiet_nil ?_
            intro w5 hw'
            obtain ⟨⟨_, hx5⟩, rfl⟩ := hw'
            clear hs q0 q1 q2 hw1 hw2 hw3 hw4 hw5 hw6
            have hx5' := hEB.trans hx5
            have hE5 : Ext wA w5 := hEr.trans hx5'
            go_wp2_with fail
            go_roundg (gk-1)
            case measure => omega
            case rel => exact ⟨t+1, by omega, by omega, by go_num, hE5, hR.ext hx5', by rw [HST.out, HNO.out, if_neg (by simp [HI.out])]; exact Blk.ext hbb hx5'⟩
        · have hGD := hR.done (HRL.out j) (by rw [HLAST.out, onsB]; rw [List.take_of_length_le (by omega)] at hbb; exact hbb)
          clear hR hbb
          go_wp2_with fail
          go_roundg (g1-1)
          case measure => omega
          case rel => exact ⟨j, _, vs', by omega, by omega, rfl, rfl, hEr, hGD⟩

set_option maxHeartbeats 8000000 in
set_option maxRecDepth 100000 in
theorem rimages_c (av ev uv : Value) (m : Mac) (n : Nat) (u : List Int) (w : World) (h : MacR w av ev m) (hM : MacIn m n) (hu : Ints w uv u) (hul : u.length ≤ 1000) :
    Calls Try.prog 65 #[.agg #[.int .i64 m.s, av, ev], uv] w (RImg (imagesO n m u) w) := by
  have hMs := Lib.hid hM.s
  rw [hM.s]
  obtain ⟨wA, hwA⟩ : ∃ wA, wA = w.alloc (.cells #[.int .i64 (n : Int), av, ev] 25) := ⟨_, rfl⟩
  have hE0 : Ext w wA := by rw [hwA]; exact Ext.alloc _ _
  have k0 : ∀ W, Ext wA W → W.cell? ⟨w.heap.size, 0, none⟩ = some (.int .i64 (n : Int)) := by rw [hwA]; exact kept_alloc w _ _ rfl
  have k1 : ∀ W, Ext wA W → W.cell? ⟨w.heap.size, 1, none⟩ = some av := by rw [hwA]; exact kept_alloc w _ _ rfl
  have k2 : ∀ W, Ext wA W → W.cell? ⟨w.heap.size, 2, none⟩ = some ev := by rw [hwA]; exact kept_alloc w _ _ rfl
  have H0 : Ext wA wA := Ext.refl _
  have HRE := Lib.hid (h.ext hE0)
  have HUE := Lib.hid (hu.ext hE0)
  obtain ⟨aa, ca, rfl, hla, hma, HA⟩ := (h.ext hE0).a.open_
  obtain ⟨ae, ce, rfl, hle, hme, HE⟩ := (h.ext hE0).e.open_
  obtain ⟨au, cu, rfl, hlu, hmu, HU⟩ := (hu.ext hE0).open_
  have HW := Lib.hid hwA; clear hwA h hu
  have hn1 := hM.n1
  have hn9 := hM.n9
  have HM := Lib.hid hM; clear hM
  have HEC := Lib.hid (fun (W : World) (hW : Ext wA W) => by have := rcan_c _ _ _ m n u W (HRE.out.ext hW) HM.out (HUE.out.ext hW) hul; rw [hMs.out] at this; exact this)
  obtain ⟨rows, hrows⟩ : ∃ rows : Nat → List Bool, rows = fun j => canL n m (u.drop j) := ⟨_, rfl⟩
  rw [← hrows] at HEC
  have HRW := Lib.hid hrows; clear hrows
  have hrl : ∀ j, (rows j).length = n := fun j => by rw [HRW.out]; exact canL_len n m _
  have HRL := Lib.hid hrl; clear hrl
  have HBG : Hid (∀ (W : World) (g : Nat), Blk W g 4 (List.replicate n (.bool false)) → BBools (W.setCell ⟨g, 0, none⟩ (.bool true)) g (beginB n)) := Lib.hid (fun W g h => by have := Blk.set h 0 (.bool true); unfold BBools; simpa [beginB, List.map_set] using this)
  go_enter Try.func65, Try.ntmps65
  go_wp2_with fail
  rw [← HW.out]
  refine (HEC.out wA H0).mono ?_; rintro e wG ⟨vG, rfl, hGrid, hEr⟩
  obtain ⟨A, rfl, hgr⟩ := hGrid
  obtain ⟨gz, hz1, hz2⟩ := hgr 0 (by omega)
  have hz3 := hz2 0 (by omega)
  have hB0 : Hid (getB (canL n m u) 0 = (rows 0)[0]?.getD false) := by rw [HRW.out]; exact rfl
  have HGR := Lib.hid hgr; clear hgr hz2
  generalize (rows 0)[0]?.getD false = bz at *
  have HE0 := Lib.hid hE0
  go_wp2_with (at_make; refine wpList_make_blk n elBools rfl rfl _ _ rfl rfl rfl (by omega) (by omega) ?_; intro gb w2 hgb hblkb hx2 hg2; have hbc := Blk.cell (i := 0) (v := .bool false) hblkb (by rw [List.getElem?_replicate, if_pos (by omega)]); have hbf := Blk.frozen hblkb 0; have hE2 := hEr.trans hx2; have hXG := hx2.setCell hgb 0 (.bool true); have hE3 := hEr.trans hXG; have hz1 := hXG.keep hz1; have hz3 := hXG.keep hz3; cases bz)
  · have HIM : Hid (imagesO n m u = some []) := by rw [imagesO, hB0.out]; exact rfl
    go_wp2_with fail
    go_ret2
    exact ⟨_, by rw [HIM.out]; rfl, by rw [HIM.out]; exact Rows.nil _, hE0.trans hE3⟩
  · have HIM : Hid (imagesO n m u = (imgGo n m u [([], beginB n)]).map (fun hs => hs.map Prod.fst)) := by rw [imagesO, hB0.out]; exact rfl
    have hbb := HBG.out w2 gb hblkb
    obtain ⟨w3, hw3⟩ : ∃ w3, w3 = w2.setCell ⟨gb, 0, none⟩ (.bool true) := ⟨_, rfl⟩
    have hsz : w3.heap.size = w2.heap.size := by rw [hw3]; simp [World.setCell]
    rw [← hw3] at hbb hE3 hXG hz1 hz3
    rw [← hw3]
    have hH1 := Heads.one 107 hbb hsz (by rw [beginB_len]; omega)
    rw [beginB_len] at hH1
    replace hXG := hXG.trans (Ext.alloc w3 (.cells #[.slice none 0 0, .slice (some ⟨gb, 0, none⟩) n n] 107))
    clear hw3 hbc hbf hE2 hE3 hbb hblkb hg2 hx2
    have hAG := Lib.hid hEr
    clear hEr
    go_wp2_with fail
    go_loopg [9, 8] u.length (fun z i v wr => ∃ (k : Nat) (ls : List Hd), k ≤ u.length ∧ u.length ≤ k + z ∧ i = .int .i64 k ∧ Ext wG wr ∧ Heads wr v ls ∧ ls.length ≤ 300 ∧ Hid (∀ x ∈ ls, x.1.length = k ∧ x.2.length = n) ∧ Hid (imgGo n m (u.drop k) ls = imgGo n m u [([], beginB n)]))
    case atStart => exact ⟨0, _, by omega, by omega, rfl, hXG, hH1, by simp, Lib.hid (by intro x hx; simp at hx; subst hx; exact ⟨rfl, beginB_len n⟩), by rw [List.drop_zero]; exact rfl⟩
    case round =>
      clear hXG hH1 hz1 hz3 hsz
      obtain ⟨k, ls, hk, hkz, rfl, hGX, hHs, hl3, hINV, hGO⟩ := hrel
      have hEr : Ext wA wr := hAG.out.trans hGX
      obtain ⟨ah, ch, rfl, hlh, hmh, HH⟩ := Heads.open_ hHs
      obtain ⟨g1, rfl⟩ : ∃ g : Nat, g = gk := ⟨_, rfl⟩
      by_cases hltk : k < u.length
      · obtain ⟨bu, ou, rfl, hcu⟩ := HU.out k hltk
        replace hcu := hEr.keep hcu
        obtain ⟨gq, hgr1, hgr2⟩ := HGR.out (k + 1) (by omega)
        replace hgr1 := hGX.keep hgr1
        replace hgr2 := fun i hi => hGX.keep (hgr2 i hi)
        have HGR1 := Lib.hid hgr1; have HGR2 := Lib.hid hgr2; clear hgr1 hgr2
        have HNX : Hid (imgGo n m (u.drop k) ls = if 300 < (nextL n m.a (u[k]?.getD 0) (rows (k + 1)) ls).length then none else imgGo n m (u.drop (k + 1)) (nextL n m.a (u[k]?.getD 0) (rows (k + 1)) ls)) := by rw [drop_one hltk, imgGo, HRW.out]; exact rfl
        generalize u[k]?.getD 0 = us at *
        obtain ⟨W0, rfl⟩ : ∃ W : World, W = wr := ⟨_, rfl⟩
        go_wp2_with fail
        go_loopg [11, 10] ls.length (fun z i v wr => ∃ k2 : Nat, k2 ≤ ls.length ∧ ls.length ≤ k2 + z ∧ i = .int .i64 k2 ∧ Ext W0 wr ∧ OHeads 107 wr W0.heap.size v (nextL n m.a us (rows (k + 1)) (ls.take k2)))
        case atStart => exact ⟨0, by omega, by omega, rfl, Ext.refl _, OHeads.nil _ _ _⟩
        case round =>
          obtain ⟨k2, hk2, hk2z, rfl, hXW, hOH⟩ := hrel
          obtain ⟨g2, rfl⟩ : ∃ g : Nat, g = gk := ⟨_, rfl⟩
          by_cases hlt2 : k2 < ls.length
          · obtain ⟨bh, oh, rfl, u2, bv, hh1, hiU, hh2, hbV⟩ := HH.out k2 hlt2
            have HIU := Lib.hid hiU
            obtain ⟨au2, cu2, rfl, _, _, _⟩ := hiU.open_
            obtain ⟨hm1, hm2⟩ := hINV.out _ (hd_mem hlt2)
            obtain ⟨abv, cbv, hbv, hlb1, hlb2, HBV⟩ := hbV.open_
            rw [hm2] at hbv hlb1 HBV
            subst hbv
            clear hiU hbV
            have HM1 := Lib.hid hm1; clear hm1 hm2
            have HFN := Lib.hid (flat_next hlt2 ([], []) (nextH n m.a us (rows (k + 1))))
            have hLE := nextL_le n m.a us (rows (k + 1)) (ls.take k2)
            rw [List.length_take] at hLE
            obtain ⟨W1, rfl⟩ : ∃ W : World, W = wr := ⟨_, rfl⟩
            have hE1 : Ext wA W1 := hEr.trans hXW
            go_wp2_with fail
            generalize hLL : nextL n m.a us (rows (k + 1)) (ls.take k2) = LL at *
            go_loopg [12, 10] 6 (fun z i v wr => ∃ o : Nat, o ≤ 6 ∧ 6 ≤ o + z ∧ i = .int .i64 o ∧ Ext W0 wr ∧ OHeads 107 wr W0.heap.size v (LL ++ (List.range o).flatMap (nextO n m.a us (rows (k + 1)) (hd ls k2))))
            case atStart => exact ⟨0, by omega, by omega, rfl, hXW, by simpa using hOH⟩
            case round =>
              clear hOH
              obtain ⟨o, ho6, hoz, rfl, hX2, hOH⟩ := hrel
              obtain ⟨g3, rfl⟩ : ∃ g : Nat, g = gk := ⟨_, rfl⟩
              obtain ⟨W2, rfl⟩ : ∃ W : World, W = wr := ⟨_, rfl⟩
              have hE2 : Ext wA W2 := hEr.trans hX2
              by_cases hlt6 : o < 6
              · have hNO : Hid (nextO n m.a us (rows (k + 1)) (hd ls k2) o = if m.a.any (goC us (o : Int) (hd ls k2).2 (rows (k + 1))) = true then [((hd ls k2).1 ++ [(o : Int)], onsB n m.a (goC us (o : Int) (hd ls k2).2 (rows (k + 1))) (fun a => a.t))] else []) := Lib.hid rfl
                have hRLE := nextR_le n m.a us (rows (k + 1)) (hd ls k2) o
                have HFR := Lib.hid (flat_range o (nextO n m.a us (rows (k + 1)) (hd ls k2)))
                go_wp2_with (at_make; refine wpList_make_blk n elBools rfl rfl _ _ rfl rfl rfl (by omega) (by omega) ?_; intro g w2 hgw hblkg hx2 hg2; have hE3 := hE2.trans hx2)
                have hbb : BBools w2 g ((m.a.take 0).foldl (onB (goC us (o : Int) (hd ls k2).2 (rows (k + 1))) (fun a => a.t)) (List.replicate n false)) := by rw [List.take_zero]; unfold BBools; simpa using hblkg
                generalize hcnd : goC us (o : Int) (hd ls k2).2 (rows (k + 1)) = cond at *
                have HCOND := Lib.hid hcnd.symm; clear hcnd
                clear hblkg hg2 hE3
                go_loopg [15, 14] m.a.length (fun z i v wr => ∃ t : Nat, t ≤ m.a.length ∧ m.a.length ≤ t + z ∧ i = .int .i64 t ∧ v = .bool ((m.a.take t).any cond) ∧ Ext W2 wr ∧ BBools wr g ((m.a.take t).foldl (onB cond (fun a => a.t)) (List.replicate n false)))
                case atStart => exact ⟨0, by omega, by omega, rfl, rfl, hx2, hbb⟩
                case round =>
                  clear hx2 hbb
                  obtain ⟨t, ht, htz, rfl, rfl, hX, hbb⟩ := hrel
                  have hXW := hX2
                  have hEr : Ext wA wr := hE2.trans hX
                  by_cases hlt : t < m.a.length
                  · obtain ⟨ba, oa, rfl, hc0, hc1, hc2, hc3⟩ := HA.out t hlt
                    replace hc0 := hEr.keep hc0
                    replace hc1 := hEr.keep hc1
                    replace hc2 := hEr.keep hc2
                    replace hc3 := hEr.keep hc3
                    have hst := HM.out.arc t hlt
                    have HST := Lib.hid (onF_next hlt cond (fun a => a.t) (List.replicate n false))
                    have HAN := Lib.hid (any_next hlt cond)
                    have hol : ((m.a.take t).foldl (onB cond (fun a => a.t)) (List.replicate n false)).length = n := by rw [onsF_len]; simp
                    generalize arcA m.a t = y at *
                    generalize (m.a.take t).foldl (onB cond (fun a => a.t)) (List.replicate n false) = O at *
                    generalize (m.a.take t).any cond = ab at *
                    have HOL := Lib.hid hol; clear hol
                    obtain ⟨yf, yt, yi, yo⟩ := y
                    simp only at hc0 hc1 hc2 hc3 hst
                    obtain ⟨p, rfl⟩ : ∃ p : Nat, yf = p := ⟨yf.toNat, by omega⟩
                    obtain ⟨q, rfl⟩ : ∃ q : Nat, yt = q := ⟨yt.toNat, by omega⟩
                    have hp : p < n := by omega
                    have hq : q < n := by omega
                    clear hst
                    have HCV : Hid (cond ⟨(p : Int), (q : Int), yi, yo⟩ = ((((hd ls k2).2[p]?.getD false && yi == us) && yo == (o : Int)) && (rows (k + 1))[q]?.getD false)) := by
                      rw [HCOND.out]; exact Lib.hid (goC_eq _ _ _ _ p q yi yo)
                    have HNO : Hid (onB cond (fun a => a.t) O ⟨(p : Int), (q : Int), yi, yo⟩ = if ((((hd ls k2).2[p]?.getD false && yi == us) && yo == (o : Int)) && (rows (k + 1))[q]?.getD false) = true then O.set q true else O) := by
                      rw [onB, HCV.out]; exact Lib.hid (by rw [Int.toNat_natCast])
                    obtain ⟨wB, hwB⟩ : ∃ wB, wB = wr.alloc (.cells #[.int .i64 (p : Int), .int .i64 (q : Int), .int .i64 yi, .int .i64 yo] 50) := ⟨_, rfl⟩
                    have hEB : Ext wr wB := by rw [hwB]; exact Ext.alloc _ _
                    have b0 : ∀ W, Ext wB W → W.cell? ⟨wr.heap.size, 0, none⟩ = some (.int .i64 p) := by rw [hwB]; exact kept_alloc wr _ _ rfl
                    have b1 : ∀ W, Ext wB W → W.cell? ⟨wr.heap.size, 1, none⟩ = some (.int .i64 q) := by rw [hwB]; exact kept_alloc wr _ _ rfl
                    have b2 : ∀ W, Ext wB W → W.cell? ⟨wr.heap.size, 2, none⟩ = some (.int .i64 yi) := by rw [hwB]; exact kept_alloc wr _ _ rfl
                    have b3 : ∀ W, Ext wB W → W.cell? ⟨wr.heap.size, 3, none⟩ = some (.int .i64 yo) := by rw [hwB]; exact kept_alloc wr _ _ rfl
                    have HWB := Lib.hid hwB; clear hwB
                    obtain ⟨bbv, obv, rfl, hbvc⟩ := HBV.out p (by omega)
                    have hs : ∀ s : Later wB, Ext wB s.w := fun s => s.ext
                    have q0 := fun s : Later wB => (hXW.trans (hX.trans (hEB.trans s.ext))).keep hh2
                    have q4 := fun s : Later wB => (hXW.trans (hX.trans (hEB.trans s.ext))).keep hcu
                    have q1 := fun s : Later wB => (hXW.trans (hX.trans (hEB.trans s.ext))).keep hbvc
                    have q2 := fun s : Later wB => (hXW.trans (hX.trans (hEB.trans s.ext))).keep HGR1.out
                    have q3 := fun s : Later wB => (hXW.trans (hX.trans (hEB.trans s.ext))).keep (HGR2.out q hq)
                    generalize (rows (k + 1))[q]?.getD false = b4 at *
                    generalize (hd ls k2).2[p]?.getD false = b1 at *
                    cases b1
                    · go_wp2_with fail
                      rw [← HWB.out]
                      clear hc0 hc1 hc2 hc3
                      have hw1 : IntKind.i64.wrap ((k : Int) + 1) = (k : Int) + 1 := IntWalk.i64_in _ (by omega)
                      have hw2 : ((k : Int) + 1).toNat = k + 1 := by omega
                      have hw3 : (0 : Int) ≤ (k : Int) + 1 := by omega
                      have hw4 : (k : Int) + 1 < (u.length : Int) + 1 := by omega
                      have hw5 : k + 1 < u.length + 1 := by omega
                      refine wp_region_later (by kernel_rfl) (by kernel_rfl) ?_
                      repeat (go_big_quiet_step (fail))
                      refine wpQuiet_nil ?_
                      intro w5 hw'
                      obtain ⟨⟨_, hx5⟩, rfl⟩ := hw'
                      clear hs q0 q1 q2 q3 q4 hw1 hw2 hw3 hw4 hw5
                      have hX5 : Ext W2 w5 := hX.trans (hEB.trans hx5)
                      have hbb5 : BBools w5 g O := Blk.ext hbb (hEB.trans hx5)
                      clear hbb
                      go_wp2_with fail
                      go_roundg (gk-1)
                      case measure => omega
                      case rel => exact ⟨t+1, by omega, by omega, by go_num, by rw [HAN.out, HCV.out]; simp, hX5, by rw [HST.out, HNO.out, if_neg (by simp)]; exact hbb5⟩
                    · by_cases hi : yi = us
                      · subst hi
                        have hid1 : (yi == yi) = true := by simp
                        by_cases ho : yo = (o : Int)
                        · subst ho
                          have hid2 : ((o : Int) == (o : Int)) = true := by simp
                          cases b4
                          · go_wp2_with fail
                            rw [← HWB.out]
                            clear hc0 hc1 hc2 hc3
                            have hw1 : IntKind.i64.wrap ((k : Int) + 1) = (k : Int) + 1 := IntWalk.i64_in _ (by omega)
                            have hw2 : ((k : Int) + 1).toNat = k + 1 := by omega
                            have hw3 : (0 : Int) ≤ (k : Int) + 1 := by omega
                            have hw4 : (k : Int) + 1 < (u.length : Int) + 1 := by omega
                            have hw5 : k + 1 < u.length + 1 := by omega
                            refine wp_region_later (by kernel_rfl) (by kernel_rfl) ?_
                            repeat (go_big_quiet_step (fail))
                            refine wpQuiet_nil ?_
                            intro w5 hw'
                            obtain ⟨⟨_, hx5⟩, rfl⟩ := hw'
                            clear hs q0 q1 q2 q3 q4 hw1 hw2 hw3 hw4 hw5
                            have hX5 : Ext W2 w5 := hX.trans (hEB.trans hx5)
                            have hbb5 : BBools w5 g O := Blk.ext hbb (hEB.trans hx5)
                            clear hbb
                            go_wp2_with fail
                            go_roundg (gk-1)
                            case measure => omega
                            case rel => exact ⟨t+1, by omega, by omega, by go_num, by rw [HAN.out, HCV.out]; simp, hX5, by rw [HST.out, HNO.out, if_neg (by simp)]; exact hbb5⟩
                          · go_wp2_with fail
                            rw [← HWB.out]
                            clear hc0 hc1 hc2 hc3
                            have hw1 : IntKind.i64.wrap ((k : Int) + 1) = (k : Int) + 1 := IntWalk.i64_in _ (by omega)
                            have hw2 : ((k : Int) + 1).toNat = k + 1 := by omega
                            have hw3 : (0 : Int) ≤ (k : Int) + 1 := by omega
                            have hw4 : (k : Int) + 1 < (u.length : Int) + 1 := by omega
                            have hw5 : k + 1 < u.length + 1 := by omega
                            refine wp_region_later (by kernel_rfl) (by kernel_rfl) ?_
                            repeat (go_big_quiet_step (fail))
                            refine wpQuiet_nil ?_
                            intro w5 hw'
                            obtain ⟨⟨_, hx5⟩, rfl⟩ := hw'
                            clear hs q0 q1 q2 q3 q4 hw1 hw2 hw3 hw4 hw5
                            have hX5 : Ext W2 w5 := hX.trans (hEB.trans hx5)
                            have hbb5 : BBools w5 g O := Blk.ext hbb (hEB.trans hx5)
                            clear hbb
                            have hs : Ext wB w5 := hx5
                            have hbc := hbb5.cell (i := q) (by rw [HOL.out]; exact hq)
                            have hbf := Blk.frozen hbb5 q
                            have HSET := Lib.hid (hbb5.set q true)
                            clear hbb5
                            go_wp2_with fail
                            go_roundg (gk-1)
                            case measure => omega
                            case rel => exact ⟨t+1, by omega, by omega, by go_num, by rw [HAN.out, HCV.out]; simp, hX5.setCell hgw _ _, by rw [HST.out, HNO.out, if_pos (by simp)]; exact HSET.out⟩
                        · have hid2 : (yo == (o : Int)) = false := by simp [ho]
                          have HO := Lib.hid ho; clear ho
                          go_wp2_with fail
                          rw [← HWB.out]
                          clear hc0 hc1 hc2 hc3
                          have hw1 : IntKind.i64.wrap ((k : Int) + 1) = (k : Int) + 1 := IntWalk.i64_in _ (by omega)
                          have hw2 : ((k : Int) + 1).toNat = k + 1 := by omega
                          have hw3 : (0 : Int) ≤ (k : Int) + 1 := by omega
                          have hw4 : (k : Int) + 1 < (u.length : Int) + 1 := by omega
                          have hw5 : k + 1 < u.length + 1 := by omega
                          refine wp_region_later (by kernel_rfl) (by kernel_rfl) ?_
                          repeat (go_big_quiet_step (fail))
                          refine wpQuiet_nil ?_
                          intro w5 hw'
                          obtain ⟨⟨_, hx5⟩, rfl⟩ := hw'
                          clear hs q0 q1 q2 q3 q4 hw1 hw2 hw3 hw4 hw5
                          have hX5 : Ext W2 w5 := hX.trans (hEB.trans hx5)
                          have hbb5 : BBools w5 g O := Blk.ext hbb (hEB.trans hx5)
                          clear hbb
                          go_wp2_with fail
                          go_roundg (gk-1)
                          case measure => omega
                          case rel => exact ⟨t+1, by omega, by omega, by go_num, by rw [HAN.out, HCV.out]; simp [HO.out], hX5, by rw [HST.out, HNO.out, if_neg (by simp [HO.out])]; exact hbb5⟩
                      · have hid1 : (yi == us) = false := by simp [hi]
                        have HI := Lib.hid hi; clear hi
                        go_wp2_with fail
                        rw [← HWB.out]
                        clear hc0 hc1 hc2 hc3
                        have hw1 : IntKind.i64.wrap ((k : Int) + 1) = (k : Int) + 1 := IntWalk.i64_in _ (by omega)
                        have hw2 : ((k : Int) + 1).toNat = k + 1 := by omega
                        have hw3 : (0 : Int) ≤ (k : Int) + 1 := by omega
                        have hw4 : (k : Int) + 1 < (u.length : Int) + 1 := by omega
                        have hw5 : k + 1 < u.length + 1 := by omega
                        refine wp_region_later (by kernel_rfl) (by kernel_rfl) ?_
                        repeat (go_big_quiet_step (fail))
                        refine wpQuiet_nil ?_
                        intro w5 hw'
                        obtain ⟨⟨_, hx5⟩, rfl⟩ := hw'
                        clear hs q0 q1 q2 q3 q4 hw1 hw2 hw3 hw4 hw5
                        have hX5 : Ext W2 w5 := hX.trans (hEB.trans hx5)
                        have hbb5 : BBools w5 g O := Blk.ext hbb (hEB.trans hx5)
                        clear hbb
                        go_wp2_with fail
                        go_roundg (gk-1)
                        case measure => omega
                        case rel => exact ⟨t+1, by omega, by omega, by go_num, by rw [HAN.out, HCV.out]; simp [HI.out], hX5, by rw [HST.out, HNO.out, if_neg (by simp [HI.out])]; exact hbb5⟩
                  · have HBBX : Hid (BBools wr g (onsB n m.a cond (fun a => a.t))) := by rw [List.take_of_length_le (by omega)] at hbb; exact Lib.hid hbb
                    have HANY : Hid ((m.a.take t).any cond = m.a.any cond) := by rw [List.take_of_length_le (by omega)]; exact rfl
                    generalize (m.a.take t).any cond = ab at *
                    clear hbb
                    rw [← HANY.out] at hNO
                    cases ab
                    · have HR0 : Hid (LL ++ (List.range (o + 1)).flatMap (nextO n m.a us (rows (k + 1)) (hd ls k2)) = LL ++ (List.range o).flatMap (nextO n m.a us (rows (k + 1)) (hd ls k2))) := by rw [HFR.out, hNO.out]; exact Lib.hid (by simp)
                      have hsz2 := hX.size
                      go_wp2_with fail
                      go_roundg (g3-1)
                      case measure => omega
                      case rel => exact ⟨o+1, by omega, by omega, by go_num, hXW.trans hX, by rw [HR0.out]; exact hOH.ext hX⟩
                    · have HR0 : Hid (LL ++ (List.range (o + 1)).flatMap (nextO n m.a us (rows (k + 1)) (hd ls k2)) = (LL ++ (List.range o).flatMap (nextO n m.a us (rows (k + 1)) (hd ls k2))) ++ [((hd ls k2).1 ++ [(o : Int)], onsB n m.a cond (fun a => a.t))]) := by rw [HFR.out, hNO.out, if_pos rfl]; exact Lib.hid (by simp)
                      have hLL2 : (LL ++ (List.range o).flatMap (nextO n m.a us (rows (k + 1)) (hd ls k2))).length ≤ 100000 := by rw [List.length_append]; omega
                      have hM1 : (hd ls k2).1.length ≤ 1000 := by have := HM1.out; omega
                      generalize hLZ : LL ++ (List.range o).flatMap (nextO n m.a us (rows (k + 1)) (hd ls k2)) = LZ at *
                      have HOH := Lib.hid hOH; clear hOH
                      clear hLZ
                      have hsz2 := hX.size
                      have hB2 : W0.heap.size ≤ wr.heap.size := (hXW.trans hX).size
                      have hown0 : (wr.alloc (.cells #[] 3)).ownsRow wr.heap.size 3 1 (.slice (some ⟨wr.heap.size, 0, none⟩) 0 0) 0 [] :=
                        World.ownsRow_lit (size := 1) (e := 3) (base := wr.heap.size) wr #[] 0 (by omega) (by unfold maxLen; omega) rfl
                      have HOWN0 := Lib.hid hown0; clear hown0
                      have hraw := ((HIU.out.ext (hXW.trans hX)).ext (Ext.alloc wr (.cells #[] 3))).raw
                      have hh1' := ((hXW.trans hX).trans (Ext.alloc wr (.cells #[] 3))).keep hh1
                      go_wp2_with (first
                        | (at_builtin; refine wpList_appendAll (n := 0) (m := (hd ls k2).1.length) (B := wr.heap.size) elInts rfl _ _ rfl rfl rfl HOWN0.out hraw (ints_one _) (by simp) (by omega) (by omega) ?_; intro v1 w3 ho1 hb1; have hy3 : Ext wr w3 := (Ext.alloc _ _).upto hb1 (by omega); replace ho1 : OInts 3 w3 wr.heap.size v1 (hd ls k2).1 := (by unfold OInts; simpa using ho1))
                        | (at_builtin; refine wpList_appendInt elInts rfl _ _ rfl rfl rfl ho1 rfl hy3.size (by omega) ?_; intro v2 w4 ho2 hb2; have hy4 := hy3.upto hb2 (Nat.le_refl _); obtain ⟨a2, c2, hv2, _⟩ := ho2.ints.open_; simp only [List.length_append, List.length_singleton] at hv2; subst hv2)
                        | (at_builtin; refine wpList_appendHd (x := ((hd ls k2).1 ++ [(o : Int)], onsB n m.a cond (fun a => a.t))) elWrite (by decide) (by decide) rfl _ _ rfl rfl rfl (HOH.out.ext (hX.trans hy4)) rfl (ho2.low hB2) ⟨g, by rw [onsB_len], Blk.ext HBBX.out hy4⟩ (by omega) (Nat.le_trans hB2 hy4.size) ?_; intro nv' w5 hOH5 hb5 hgr5 hob5 hlt5))
                      go_roundg (g3-1)
                      case measure => omega
                      case rel =>
                        have hE4 : Ext W0 w4 := (hXW.trans hX).trans hy4
                        exact ⟨o+1, by omega, by omega, by go_num, hE4.upto hb5 (Nat.le_refl _), by rw [HR0.out]; exact hOH5⟩
              · obtain rfl : o = 6 := by omega
                have HFX : Hid (nextL n m.a us (rows (k + 1)) (ls.take (k2 + 1)) = LL ++ (List.range 6).flatMap (nextO n m.a us (rows (k + 1)) (hd ls k2))) := by rw [← hLL]; exact Lib.hid HFN.out
                go_wp2_with fail
                go_roundg (g2-1)
                case measure => omega
                case rel => exact ⟨k2+1, by omega, by omega, by go_num, hX2, by rw [HFX.out]; exact hOH⟩
          · have HT : Hid (nextL n m.a us (rows (k + 1)) (ls.take k2) = nextL n m.a us (rows (k + 1)) ls) := by rw [List.take_of_length_le (by omega)]; exact rfl
            rw [HT.out] at hOH
            have hinv := nextL_inv (n := n) (ar := m.a) (s := us) (nx := rows (k + 1)) (hs := ls) (k := k) (fun x hx => (hINV.out x hx).1)
            have HINV2 := Lib.hid hinv
            have hhd := hOH.heads (fun i hi => by have := (hinv _ (hd_mem hi)).2; omega)
            have HHD := Lib.hid hhd
            obtain ⟨an, cn, rfl, hln1, hln2, _⟩ := Heads.open_ hhd
            generalize nextL n m.a us (rows (k + 1)) ls = LN at *
            clear hOH hhd hinv
            obtain ⟨W1, rfl⟩ : ∃ W : World, W = wr := ⟨_, rfl⟩
            by_cases h300 : 300 < LN.length
            · have HIN : Hid (imagesO n m u = none) := by rw [HIM.out, ← hGO.out, HNX.out, if_pos h300]; exact rfl
              go_wp2_with fail
              go_ret2
              exact ⟨_, by rw [HIN.out]; rfl, by rw [HIN.out]; exact Rows.nil _, HE0.out.trans (hEr.trans hXW)⟩
            · have HIN : Hid (imgGo n m (u.drop (k + 1)) LN = imgGo n m u [([], beginB n)]) := by rw [← hGO.out, HNX.out, if_neg h300]; exact rfl
              go_wp2_with fail
              go_roundg (g1-1)
              case measure => omega
              case rel => exact ⟨k+1, LN, by omega, by omega, by go_num, hGX.trans hXW, HHD.out, by omega, HINV2, HIN⟩
      · have HIE : Hid (imagesO n m u = some (ls.map Prod.fst)) := by
          rw [HIM.out, ← hGO.out, show u.drop k = [] from List.drop_eq_nil_of_le (by omega), imgGo]; exact rfl
        obtain ⟨W0, rfl⟩ : ∃ W : World, W = wr := ⟨_, rfl⟩
        go_wp2_with fail
        go_loopg [18, 17] ls.length (fun z i v wr => ∃ (t : Nat) (vs : List Value), t ≤ ls.length ∧ ls.length ≤ t + z ∧ i = .int .i64 t ∧ Ext W0 wr ∧ wr.ownsRow W0.heap.size 23 1 v t vs ∧ AllInts W0 vs ((ls.take t).map Prod.fst))
        case atStart => exact ⟨0, [], by omega, by omega, rfl, Ext.refl _, World.ownsRow_nil _ _ _ _, AllInts.nil _⟩
        case round =>
          obtain ⟨t, vs, ht, htz, rfl, hX, hown, hall⟩ := hrel
          by_cases hlt : t < ls.length
          · obtain ⟨bh, oh, rfl, u2, bv, hh1, hiU, hh2, hbV⟩ := HH.out t hlt
            have HTK : Hid ((ls.take (t + 1)).map Prod.fst = (ls.take t).map Prod.fst ++ [(hd ls t).1]) := by rw [take_next hlt ([], []), List.map_append]; exact rfl
            have HSN := Lib.hid (hall.snoc hiU)
            obtain ⟨au2, cu2, rfl, _, _, _⟩ := hiU.open_
            clear hiU hbV hh2
            replace hh1 := hX.keep hh1
            have hsz := hX.size
            have HOWN := Lib.hid hown; clear hown
            go_wp2_with (at_builtin; refine wpList_append1 elRows rfl _ _ rfl rfl rfl HOWN.out rfl rfl hsz (by omega) (by omega) ?_; intro v' w' hown2 hb2)
            go_roundg (gk-1)
            case measure => omega
            case rel => exact ⟨t+1, _, by omega, by omega, by go_num, hX.upto hb2 (Nat.le_refl _), hown2, by rw [HTK.out]; exact HSN.out⟩
          · obtain rfl : t = ls.length := by omega
            rw [List.take_length] at hall
            go_wp2_with fail
            go_ret2
            have hl : (ls.map Prod.fst).length = ls.length := by simp
            exact ⟨_, by rw [HIE.out]; rfl, by rw [HIE.out]; exact Rows.own (by rw [Option.getD_some, hl]; exact hown) (hall.ext hX), HE0.out.trans (hEr.trans hX)⟩
end Go.Proofs.Ytpbflkbelhlogaa
