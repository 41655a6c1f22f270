/- How many runs read a word and write another one, and whether some does: the program. -/
import Derived.Test.YtodhmkbkcjpnkaaMacB
import Derived.Test.YtodhmkbkcjpnkaaMacI
import Derived.Test.YtodhmkbkcjpnkaaMacF
import Derived.Test.YtodhmkbkcjpnkaaMacS
namespace Go.Proofs.Ytodhmkbkcjpnkaa
open Go.RowKit Go.Shelf
set_option linter.unusedVariables false

/-! ## plain -/
def uvC (i o : Int) (a : Arc) : Bool := a.i == i && a.o == o
def condUV : List Int → List Int → List (Arc → Bool)
  | i :: u, o :: v => uvC i o :: condUV u v
  | _, _ => []
theorem condUV_nil (v : List Int) : condUV [] v = [] := by cases v <;> rfl
def cntN (n : Nat) (m : Mac) (u v : List Int) : List Int := bwLs n m.a (endsL n m.e) (condUV u v)
def cntUV (m : Mac) (u v : List Int) : Int := if u.length = v.length then (cntN m.s.toNat m u v)[0]?.getD 0 else 0
def relatesB (m : Mac) (u v : List Int) : Bool := if checkK m [u, v] = 0 then decide (0 < cntUV m u v) else false
theorem cntN_len (n : Nat) (m : Mac) (u v : List Int) : (cntN n m u v).length = n := bwLs_len (endsL_len _ _) _
theorem cntN_drop {n : Nat} {m : Mac} {u v : List Int} {k : Nat} (h : k < u.length) (h2 : k < v.length) : cntN n m (u.drop k) (v.drop k) = bwL n m.a (uvC (u[k]?.getD 0) (v[k]?.getD 0)) (cntN n m (u.drop (k + 1)) (v.drop (k + 1))) := by
  rw [drop_one (l := u) h, drop_one (l := v) h2]; rfl
theorem sumL_pos {α : Type} {f : α → Int} : ∀ {l : List α}, (∀ x ∈ l, 0 ≤ f x) → (0 < sumL f l ↔ ∃ x ∈ l, 0 < f x)
  | [], _ => by simp [sumL]
  | y :: l, h => by
    have h1 := h y (by simp)
    have h2 := sumL_nonneg (f := f) (l := l) (fun x hx => h x (by simp [hx]))
    have ih := sumL_pos (f := f) (l := l) (fun x hx => h x (by simp [hx]))
    show 0 < f y + sumL f l ↔ _
    constructor
    · intro hp
      by_cases hy : 0 < f y
      · exact ⟨y, by simp, hy⟩
      · obtain ⟨x, hx, hfx⟩ := ih.1 (by omega)
        exact ⟨x, by simp [hx], hfx⟩
    · rintro ⟨x, hx, hfx⟩
      rcases List.mem_cons.1 hx with rfl | hx
      · omega
      · have := ih.2 ⟨x, hx, hfx⟩
        omega
theorem sumL_le {α : Type} {f : α → Int} {B : Int} : ∀ {l : List α}, (∀ x ∈ l, f x ≤ B) → sumL f l ≤ l.length * B
  | [], _ => by simp [sumL]
  | y :: l, h => by
    have h1 := h y (by simp)
    have ih := sumL_le (f := f) (B := B) (l := l) (fun x hx => h x (by simp [hx]))
    show f y + sumL f l ≤ _
    rw [List.length_cons, Int.natCast_add, Int.add_mul]
    omega
theorem bws_iff {m : Mac} (h : MacOk m) : ∀ (u v : List Int), u.length = v.length → ∀ s : Nat, 0 ≤ bwsE m.a (endE m.e) (condUV u v) s ∧ bwsE m.a (endE m.e) (condUV u v) s ≤ 60 ^ u.length ∧ (0 < bwsE m.a (endE m.e) (condUV u v) s ↔ relP m u v s)
  | [], [], _, s => by
    show 0 ≤ endE m.e s ∧ endE m.e s ≤ 1 ∧ (0 < endE m.e s ↔ (s : Int) ∈ m.e)
    unfold endE
    by_cases hs : (s : Int) ∈ m.e
    · rw [if_pos (List.contains_iff_mem.2 hs)]; simp [hs]
    · rw [if_neg (fun hc => hs (List.contains_iff_mem.1 hc))]; simp [hs]
  | i :: u, o :: v, hl, s => by
    have ih := bws_iff h u v (by simpa using hl)
    have hnn : ∀ a ∈ m.a, 0 ≤ (if (uvC i o a && a.f.toNat == s) = true then bwsE m.a (endE m.e) (condUV u v) a.t.toNat else 0) := fun a _ => by
      split
      · exact (ih _).1
      · omega
    have hle : ∀ a ∈ m.a, (if (uvC i o a && a.f.toNat == s) = true then bwsE m.a (endE m.e) (condUV u v) a.t.toNat else 0) ≤ 60 ^ u.length := fun a _ => by
      split
      · exact (ih _).2.1
      · exact Int.le_of_lt (Int.pow_pos (by decide))
    refine ⟨sumL_nonneg hnn, ?_, ?_⟩
    · have h1 := sumL_le hle
      have h2 : (m.a.length : Int) * 60 ^ u.length ≤ 60 * 60 ^ u.length := Int.mul_le_mul_of_nonneg_right (by have := h.a; omega) (Int.le_of_lt (Int.pow_pos (by decide)))
      show sumL _ _ ≤ (60 : Int) ^ (u.length + 1)
      rw [Int.pow_succ, Int.mul_comm]
      exact Int.le_trans h1 h2
    · show 0 < sumL _ _ ↔ _
      rw [sumL_pos hnn]
      constructor
      · rintro ⟨a, ha, hp⟩
        split at hp
        · rename_i hc
          simp only [uvC, Bool.and_eq_true, beq_iff_eq] at hc
          have hm := h.mem ha
          have hr := (ih a.t.toNat).2.2.1 hp
          rw [Int.toNat_of_nonneg hm.2.1.1] at hr
          exact ⟨a, ha, by omega, hc.1.1, hc.1.2, hr⟩
        · omega
      · rintro ⟨a, ha, h1, h2, h3, hr⟩
        have hm := h.mem ha
        refine ⟨a, ha, ?_⟩
        rw [if_pos (by simp only [uvC, Bool.and_eq_true, beq_iff_eq]; exact ⟨⟨h2, h3⟩, by omega⟩)]
        refine (ih a.t.toNat).2.2.2 ?_
        rw [Int.toNat_of_nonneg hm.2.1.1]; exact hr
theorem cntUV_iff {m : Mac} (h : MacOk m) {u v : List Int} (hu : u.length ≤ 8) : 0 < cntUV m u v ↔ relP m u v 0 := by
  unfold cntUV
  split
  · rename_i hl
    obtain ⟨h1, h2, h3⟩ := bws_iff h u v hl 0
    have hV := (Vec.bwLs h.states (Vec.ends h.ends) (condUV u v)).2 0 (by have := h.s1; omega)
    have hp : (60 : Int) ^ u.length ≤ 60 ^ 8 := by
      have := Nat.pow_le_pow_right (n := 60) (by omega) hu
      exact_mod_cast this
    have hw : wr64 (bwsE m.a (endE m.e) (condUV u v) 0) = bwsE m.a (endE m.e) (condUV u v) 0 := by
      unfold wr64
      exact IntWalk.i64_in _ (by omega)
    unfold cntN
    rw [hV, hw, h3]; rfl
  · rename_i hl
    constructor
    · intro h; omega
    · intro hr; exact absurd (relP_len hr) hl
/-- a row of ints in a new block comes back -/
def RNew (l : List Int) (w : World) (e : Ending) (w' : World) : Prop := ∃ g, e = .returned (.slice (some ⟨g, 0, none⟩) l.length l.length) ∧ BInts w' g l ∧ Ext w w'

set_option maxHeartbeats 8000000 in
set_option maxRecDepth 100000 in
theorem runs_c (av ev uv vv : Value) (m : Mac) (n : Nat) (u v : List Int) (w : World) (h : MacR w av ev m) (hM : MacIn m n) (hu : Ints w uv u) (hv : Ints w vv v) (hul : u.length = v.length) (hu8 : u.length ≤ 1000) :
    Calls Try.prog 97 #[.agg #[.int .i64 m.s, av, ev], uv, vv] w (RNew (cntN n m u v) w) := by
  rw [hM.s]
  obtain ⟨wA, hwA⟩ : ∃ wA, wA = w.alloc (.cells #[.int .i64 (n : Int), av, ev] 25) := ⟨_, rfl⟩
  have hE0 : Ext w wA := by rw [hwA]; exact Ext.alloc _ _
  have k0 : ∀ W, Ext wA W → W.cell? ⟨w.heap.size, 0, none⟩ = some (.int .i64 (n : Int)) := by rw [hwA]; exact kept_alloc w _ _ rfl
  have k1 : ∀ W, Ext wA W → W.cell? ⟨w.heap.size, 1, none⟩ = some av := by rw [hwA]; exact kept_alloc w _ _ rfl
  have k2 : ∀ W, Ext wA W → W.cell? ⟨w.heap.size, 2, none⟩ = some ev := by rw [hwA]; exact kept_alloc w _ _ rfl
  have H0 : Ext wA wA := Ext.refl _
  obtain ⟨aa, ca, rfl, hla, hma, HA⟩ := (h.ext hE0).a.open_
  obtain ⟨ae, ce, rfl, hle, hme, HE⟩ := (h.ext hE0).e.open_
  obtain ⟨au, cu, rfl, hlu, hmu, HU⟩ := (hu.ext hE0).open_
  obtain ⟨av2, cv, rfl, hlv, hmv, HV⟩ := (hv.ext hE0).open_
  have HW := Lib.hid hwA; clear hwA h hu hv
  have hn1 := hM.n1
  have hn9 := hM.n9
  have HM := Lib.hid hM; clear hM
  have HL := Lib.hid hul; clear hul
  have hw1 : IntKind.i64.wrap ((u.length : Int) - 1) = (u.length : Int) - 1 := IntWalk.i64_in _ (by omega)
  go_enter Try.func97, Try.ntmps97
  go_wp2_with (at_make; refine wpList_make_blk n elInts rfl rfl _ _ rfl rfl rfl (by omega) (by omega) ?_; intro g w2 hg hblk hx2 hg2; rw [← HW.out] at hg hx2)
  have hbk : BInts w2 g (onesL (m.e.take 0) (List.replicate n 0)) := by unfold BInts; rw [List.take_zero]; simpa [onesL] using hblk
  clear hblk hg2
  go_loopg [20] m.e.length (fun z i wr => ∃ k : Nat, k ≤ m.e.length ∧ m.e.length ≤ k + z ∧ i = .int .i64 k ∧ Ext wA wr ∧ BInts wr g (onesL (m.e.take k) (List.replicate n 0)))
  case atStart => exact ⟨0, by omega, by omega, rfl, hx2, hbk⟩
  case round =>
    clear hx2 hbk
    obtain ⟨k, hk, hk2, rfl, hEr, hbk⟩ := hrel
    by_cases hlt : k < m.e.length
    · obtain ⟨be, oe, rfl, hc⟩ := HE.out k hlt
      replace hc := hEr.keep hc
      have hx := HM.out.ends k hlt
      have hN := Lib.hid (onesL_next hlt (List.replicate n 0))
      generalize m.e[k]?.getD 0 = x at *
      obtain ⟨j, rfl⟩ : ∃ j : Nat, x = j := ⟨x.toNat, by omega⟩
      have hj : j < n := by omega
      have hjl : j < (onesL (m.e.take k) (List.replicate n 0)).length := by rw [onesL_len]; simpa using hj
      have hbc := hbk.cell hjl
      have hbf := Blk.frozen hbk j
      have hset := Lib.hid (hbk.set j 1)
      rw [Int.toNat_natCast] at hN
      generalize onesL (m.e.take k) (List.replicate n 0) = O at *
      clear hx hjl hbk
      go_wp2_with fail
      go_roundg (gk-1)
      case measure => omega
      case rel => exact ⟨k+1, by omega, by omega, by go_num, hEr.setCell hg _ _, by rw [hN.out]; exact hset.out⟩
    · have hbE : BInts wr g (cntN n m (u.drop u.length) (v.drop u.length)) := by
        rw [List.take_of_length_le (by omega)] at hbk; rw [List.drop_length, cntN, condUV_nil]; exact hbk
      clear hbk
      obtain ⟨W0, rfl⟩ : ∃ W : World, W = wr := ⟨_, rfl⟩
      go_wp2_with fail
      clear hk hk2 hlt
      go_loopg [10, 7] u.length (fun z i v7 wr => ∃ (k gn : Nat) (x : Int), k ≤ u.length ∧ k ≤ z ∧ x = (k : Int) - 1 ∧ i = .int .i64 x ∧ v7 = .slice (some ⟨gn, 0, none⟩) n n ∧ Ext wA wr ∧ BInts wr gn (cntN n m (u.drop k) (v.drop k)))
      case atStart => exact ⟨u.length, g, _, by omega, by omega, rfl, rfl, rfl, hEr, hbE⟩
      case round =>
        clear hEr hbE hg
        obtain ⟨k, gn, x, hk, hkz, hxk, rfl, rfl, hEr, hbn⟩ := hrel
        by_cases hk0 : k = 0
        · subst hk0
          obtain rfl : x = -1 := by omega
          clear hxk
          have hb0 : BInts wr gn (cntN n m u v) := by simpa using hbn
          have HB0 := Lib.hid hb0
          have HLN := Lib.hid (cntN_len n m u v)
          clear hbn hb0
          go_wp2_with fail
          go_ret
          exact ⟨gn, by rw [HLN.out]; rfl, HB0.out, hE0.trans hEr⟩
        · obtain ⟨j, rfl⟩ : ∃ j, k = j + 1 := ⟨k - 1, by omega⟩
          obtain rfl : x = (j : Int) := by omega
          clear hxk hk0
          obtain ⟨g1, rfl⟩ : ∃ g : Nat, g = gk := ⟨_, rfl⟩
          obtain ⟨bu, ou, rfl, hcu⟩ := HU.out j (by omega)
          obtain ⟨bv, ov, rfl, hcv⟩ := HV.out j (by rw [← HL.out]; omega)
          have hjv : j < v.length := by rw [← HL.out]; omega
          have HNX := Lib.hid (cntN_drop (n := n) (m := m) (u := u) (v := v) (k := j) (by omega) hjv)
          have hln := cntN_len n m (u.drop (j + 1)) (v.drop (j + 1))
          generalize cntN n m (u.drop (j + 1)) (v.drop (j + 1)) = now at *
          generalize u[j]?.getD 0 = us at *
          generalize v[j]?.getD 0 = vs at *
          have HLN := Lib.hid hln; clear hln
          obtain ⟨W1, rfl⟩ : ∃ W : World, W = wr := ⟨_, rfl⟩
          replace hcu := hEr.keep hcu
          replace hcv := hEr.keep hcv
          go_wp2_with (at_make; refine wpList_make_blk n elInts rfl rfl _ _ rfl rfl rfl (by omega) (by omega) ?_; intro gb w2 hgb hblk hx2 hg2; have hE2 := hEr.trans hx2)
          have hbb : BInts w2 gb ((m.a.take 0).foldl (bwStep (uvC us vs) now) (List.replicate n 0)) := by unfold BInts; rw [List.take_zero]; simpa using hblk
          clear hblk hg2 hE2
          go_loopg [41] m.a.length (fun z i wr => ∃ t : Nat, t ≤ m.a.length ∧ m.a.length ≤ t + z ∧ i = .int .i64 t ∧ Ext W1 wr ∧ BInts wr gb ((m.a.take t).foldl (bwStep (uvC us vs) now) (List.replicate n 0)))
          case atStart => exact ⟨0, by omega, by omega, rfl, hx2, hbb⟩
          case round =>
            clear hx2 hbb
            obtain ⟨t, ht, htz, rfl, hX1, hbb⟩ := hrel
            have hEr2 : Ext wA wr := hEr.trans hX1
            by_cases hlt : t < m.a.length
            · obtain ⟨ba, oa, rfl, hc0, hc1, hc2, hc3⟩ := HA.out t hlt
              replace hc0 := hEr2.keep hc0
              replace hc1 := hEr2.keep hc1
              replace hc2 := hEr2.keep hc2
              replace hc3 := hEr2.keep hc3
              have hst := HM.out.arc t hlt
              have HST := Lib.hid (fold_next hlt (bwStep (uvC us vs) now) (List.replicate n 0))
              have hol : ((m.a.take t).foldl (bwStep (uvC us vs) now) (List.replicate n 0)).length = n := by rw [bwF_len]; simp
              generalize arcA m.a t = y at *
              generalize (m.a.take t).foldl (bwStep (uvC us vs) now) (List.replicate n 0) = O at *
              have HOL := Lib.hid hol; clear hol
              obtain ⟨yf, yt, yi, yo⟩ := y
              simp only at hc0 hc1 hc2 hc3 hst
              obtain ⟨p, rfl⟩ : ∃ p : Nat, yf = p := ⟨yf.toNat, by omega⟩
              obtain ⟨q, rfl⟩ : ∃ q : Nat, yt = q := ⟨yt.toNat, by omega⟩
              have hp : p < n := by omega
              have hq : q < n := by omega
              clear hst
              obtain ⟨wB, hwB⟩ : ∃ wB, wB = wr.alloc (.cells #[.int .i64 (p : Int), .int .i64 (q : Int), .int .i64 yi, .int .i64 yo] 50) := ⟨_, rfl⟩
              have hEB : Ext wr wB := by rw [hwB]; exact Ext.alloc _ _
              have b0 : ∀ W, Ext wB W → W.cell? ⟨wr.heap.size, 0, none⟩ = some (.int .i64 p) := by rw [hwB]; exact kept_alloc wr _ _ rfl
              have b1 : ∀ W, Ext wB W → W.cell? ⟨wr.heap.size, 1, none⟩ = some (.int .i64 q) := by rw [hwB]; exact kept_alloc wr _ _ rfl
              have b2 : ∀ W, Ext wB W → W.cell? ⟨wr.heap.size, 2, none⟩ = some (.int .i64 yi) := by rw [hwB]; exact kept_alloc wr _ _ rfl
              have b3 : ∀ W, Ext wB W → W.cell? ⟨wr.heap.size, 3, none⟩ = some (.int .i64 yo) := by rw [hwB]; exact kept_alloc wr _ _ rfl
              have HWB := Lib.hid hwB; clear hwB
              have HNO : Hid (bwStep (uvC us vs) now O ⟨(p : Int), (q : Int), yi, yo⟩ = if (yi == us && yo == vs) = true then O.set p (wrap64 (O[p]?.getD 0 + now[q]?.getD 0)) else O) := by
                rw [← wr64_eq]; exact Lib.hid rfl
              have hs : ∀ s : Later wB, Ext wB s.w := fun s => s.ext
              have q0 := fun s : Later wB => (hX1.trans (hEB.trans s.ext)).keep hcu
              have q1 := fun s : Later wB => (hX1.trans (hEB.trans s.ext)).keep hcv
              by_cases hi : yi = us
              · by_cases ho : yo = vs
                · subst hi ho
                  have hi1 : (yi == yi) = true := by simp
                  have ho1 : (yo == yo) = true := by simp
                  go_wp2_with fail
                  rw [← HWB.out]
                  clear hc0 hc1 hc2 hc3
                  refine wp_region_later (by kernel_rfl) (by kernel_rfl) ?_
                  repeat (go_big_quiet_step (fail))
                  refine wpQuiet_nil ?_
                  intro w5 hw'
                  obtain ⟨⟨_, hx5⟩, rfl⟩ := hw'
                  clear hs q0 q1
                  have hX5 : Ext W1 w5 := hX1.trans (hEB.trans hx5)
                  have hbb5 : BInts w5 gb O := Blk.ext hbb (hEB.trans hx5)
                  clear hbb
                  have hs : ∀ s : Later w5, Ext wB s.w := fun s => hx5.trans s.ext
                  have hbn5 : BInts w5 gn now := Blk.ext hbn hX5
                  have q0 := fun s : Later w5 => s.ext.keep (hbn5.cell (i := q) (by rw [HLN.out]; exact hq))
                  have q1 := fun s : Later w5 => s.ext.keep (hbb5.cell (i := p) (by rw [HOL.out]; exact hp))
                  generalize now[q]?.getD 0 = xq at *
                  generalize O[p]?.getD 0 = xp at *
                  go_wp2_with fail
                  refine wp_region_later_tail 12 (by kernel_rfl) (by kernel_rfl) ?_
                  simp only [List.take_succ_cons, List.take_zero, List.drop_succ_cons, List.drop_zero]
                  repeat (go_big_quiet_step (fail))
                  refine wpQuiet_nil ?_
                  intro w6 hw'
                  obtain ⟨⟨_, hx6⟩, rfl⟩ := hw'
                  clear hs q0 q1
                  have hbb6 : BInts w6 gb O := Blk.ext hbb5 hx6
                  have hn2 := hbb6.cell (i := p) (by rw [HOL.out]; exact hp)
                  have hf2 := Blk.frozen hbb6 p
                  have HSET := Lib.hid (hbb6.set p (wrap64 (xp + xq)))
                  have hX6 := hX5.trans hx6
                  clear hbb5 hbb6 hbn5
                  go_wp2_with fail
                  go_roundg (gk-1)
                  case measure => omega
                  case rel => exact ⟨t+1, by omega, by omega, by go_num, hX6.setCell hgb _ _, by rw [HST.out, HNO.out, if_pos (by simp)]; exact HSET.out⟩
                · subst hi
                  have hi1 : (yi == yi) = true := by simp
                  have ho1 : (yo == vs) = false := by simp [ho]
                  have HO := Lib.hid ho; clear ho
                  go_wp2_with fail
                  rw [← HWB.out]
                  clear hc0 hc1 hc2 hc3
                  refine wp_region_later (by kernel_rfl) (by kernel_rfl) ?_
                  repeat (go_big_quiet_step (fail))
                  refine wpQuiet_nil ?_
                  intro w5 hw'
                  obtain ⟨⟨_, hx5⟩, rfl⟩ := hw'
                  clear hs q0 q1
                  have hX5 : Ext W1 w5 := hX1.trans (hEB.trans hx5)
                  have hbb5 : BInts w5 gb O := Blk.ext hbb (hEB.trans hx5)
                  clear hbb
                  go_wp2_with fail
                  go_roundg (gk-1)
                  case measure => omega
                  case rel => exact ⟨t+1, by omega, by omega, by go_num, hX5, by rw [HST.out, HNO.out, if_neg (by simp [HO.out])]; exact hbb5⟩
              · have hi1 : (yi == us) = false := by simp [hi]
                have HI := Lib.hid hi; clear hi
                go_wp2_with fail
                rw [← HWB.out]
                clear hc0 hc1 hc2 hc3
                refine wp_region_later (by kernel_rfl) (by kernel_rfl) ?_
                repeat (go_big_quiet_step (fail))
                refine wpQuiet_nil ?_
                intro w5 hw'
                obtain ⟨⟨_, hx5⟩, rfl⟩ := hw'
                clear hs q0 q1
                have hX5 : Ext W1 w5 := hX1.trans (hEB.trans hx5)
                have hbb5 : BInts w5 gb O := Blk.ext hbb (hEB.trans hx5)
                clear hbb
                go_wp2_with fail
                go_roundg (gk-1)
                case measure => omega
                case rel => exact ⟨t+1, by omega, by omega, by go_num, hX5, by rw [HST.out, HNO.out, if_neg (by simp [HI.out])]; exact hbb5⟩
            · have hbN : BInts wr gb (cntN n m (u.drop j) (v.drop j)) := by rw [HNX.out, bwL]; rw [List.take_of_length_le (by omega)] at hbb; exact hbb
              clear hbb
              go_wp2_with fail
              go_roundg (g1-1)
              case measure => omega
              case rel => exact ⟨j, gb, _, by omega, by omega, rfl, by go_num, rfl, hEr2, hbN⟩

set_option maxHeartbeats 2000000 in
theorem count_c (av ev uv vv : Value) (m : Mac) (u v : List Int) (w : World) (h : MacR w av ev m) (hM : MacIn m m.s.toNat) (hu : Ints w uv u) (hv : Ints w vv v) (hu8 : u.length ≤ 1000) :
    Calls Try.prog 77 #[.agg #[.int .i64 m.s, av, ev], uv, vv] w (RV (.int .i64 (cntUV m u v)) w) := by
  obtain ⟨wA, hwA⟩ : ∃ wA, wA = w.alloc (.cells #[.int .i64 m.s, av, ev] 25) := ⟨_, rfl⟩
  have hE0 : Ext w wA := by rw [hwA]; exact Ext.alloc _ _
  have k0 : ∀ W, Ext wA W → W.cell? ⟨w.heap.size, 0, none⟩ = some (.int .i64 m.s) := by rw [hwA]; exact kept_alloc w _ _ rfl
  have k1 : ∀ W, Ext wA W → W.cell? ⟨w.heap.size, 1, none⟩ = some av := by rw [hwA]; exact kept_alloc w _ _ rfl
  have k2 : ∀ W, Ext wA W → W.cell? ⟨w.heap.size, 2, none⟩ = some ev := by rw [hwA]; exact kept_alloc w _ _ rfl
  have H0 : Ext wA wA := Ext.refl _
  have HR := Lib.hid (h.ext hE0)
  have HIU := Lib.hid (hu.ext hE0)
  have HIV := Lib.hid (hv.ext hE0)
  obtain ⟨aa, ca, rfl, hla, hma, HA⟩ := (h.ext hE0).a.open_
  obtain ⟨ae, ce, rfl, hle, hme, HE⟩ := (h.ext hE0).e.open_
  obtain ⟨au, cu, rfl, hlu, hmu, HU⟩ := (hu.ext hE0).open_
  obtain ⟨av2, cv, rfl, hlv, hmv, HV⟩ := (hv.ext hE0).open_
  have HW := Lib.hid hwA; clear hwA h hu hv
  by_cases hl : u.length = v.length
  · have hd : ((u.length : Int) != (v.length : Int)) = false := by simp [hl]
    have HC : Hid (cntUV m u v = (cntN m.s.toNat m u v)[0]?.getD 0) := Lib.hid (by rw [cntUV, if_pos hl])
    have HRU := Lib.hid (runs_c _ _ _ _ m m.s.toNat u v wA HR.out hM HIU.out HIV.out hl hu8)
    have HLN := Lib.hid (cntN_len m.s.toNat m u v)
    have hn1 := hM.n1
    clear hl hM
    generalize cntN m.s.toNat m u v = L at *
    have hL0 : 0 < L.length := by rw [HLN.out]; exact hn1
    go_enter Try.func77, Try.ntmps77
    go_wp2_with fail
    rw [← HW.out]
    refine HRU.out.mono ?_; rintro e w1 ⟨g, rfl, hb, hx1⟩
    have c0 := hb.cell (i := 0) hL0
    rw [← HC.out] at c0
    clear hb
    go_wp2_with fail
    go_ret
    exact RV.int rfl (hE0.trans hx1)
  · have hd : ((u.length : Int) != (v.length : Int)) = true := by simp; omega
    have HC : Hid (cntUV m u v = 0) := Lib.hid (by rw [cntUV, if_neg hl])
    clear hl
    go_enter Try.func77, Try.ntmps77
    go_wp2_with fail
    rw [← HW.out]
    go_ret
    exact RV.int (by rw [HC.out]) hE0

theorem checkK_ok2 {m : Mac} {u v : List Int} (h : checkK m [u, v] = 0) : checkK m [u] = 0 ∧ checkK m [v] = 0 := by
  rw [checkK_two] at h
  rw [checkK_one, checkK_one]
  split at h
  · rename_i h1
    split at h
    · rename_i h2; exact ⟨by rw [if_pos h1]; exact h2, by rw [if_pos h1]; exact h⟩
    · rename_i h2; exact absurd h h2
  · rename_i h1; exact absurd h h1
set_option maxHeartbeats 2000000 in
theorem Relates_c (av ev uv vv : Value) (m : Mac) (u v : List Int) (w : World) (h : MacR w av ev m) (hu : Ints w uv u) (hv : Ints w vv v) :
    Calls Try.prog 43 #[.agg #[.int .i64 m.s, av, ev], uv, vv] w (RV (.tuple #[.bool (relatesB m u v), .int .i64 (checkK m [u, v])]) w) := by
  obtain ⟨wA, hwA⟩ : ∃ wA, wA = w.alloc (.cells #[.int .i64 m.s, av, ev] 25) := ⟨_, rfl⟩
  have hE0 : Ext w wA := by rw [hwA]; exact Ext.alloc _ _
  have k0 : ∀ W, Ext wA W → W.cell? ⟨w.heap.size, 0, none⟩ = some (.int .i64 m.s) := by rw [hwA]; exact kept_alloc w _ _ rfl
  have k1 : ∀ W, Ext wA W → W.cell? ⟨w.heap.size, 1, none⟩ = some av := by rw [hwA]; exact kept_alloc w _ _ rfl
  have k2 : ∀ W, Ext wA W → W.cell? ⟨w.heap.size, 2, none⟩ = some ev := by rw [hwA]; exact kept_alloc w _ _ rfl
  have H0 : Ext wA wA := Ext.refl _
  have HR := Lib.hid (h.ext hE0)
  have HIU := Lib.hid (hu.ext hE0)
  have HIV := Lib.hid (hv.ext hE0)
  obtain ⟨aa, ca, rfl, hla, hma, HA⟩ := (h.ext hE0).a.open_
  obtain ⟨ae, ce, rfl, hle, hme, HE⟩ := (h.ext hE0).e.open_
  obtain ⟨au, cu, rfl, hlu, hmu, HU⟩ := (hu.ext hE0).open_
  obtain ⟨av2, cv, rfl, hlv, hmv, HV⟩ := (hv.ext hE0).open_
  have hxL := Ext.alloc wA (.cells #[.slice au u.length cu, .slice av2 v.length cv] 23)
  have HC := Lib.hid (by have := check_c _ _ _ m [u, v] _ (HR.out.ext hxL) (rows_new wA [.slice au u.length cu, .slice av2 v.length cv] [u, v] (AllInts.cons HIU.out (AllInts.cons HIV.out (AllInts.nil _))) (by simp)); rw [show wA.heap.size = w.heap.size + 1 by rw [hwA]; simp] at this; exact this)
  have HW := Lib.hid hwA; clear hwA h hu hv
  by_cases h0 : checkK m [u, v] = 0
  · obtain ⟨hm, hul, _⟩ := checkK_ok (checkK_ok2 h0).1
    have HCN := Lib.hid (fun W (hW : Ext wA W) => count_c _ _ _ _ m u v W (HR.out.ext hW) hm.in_ (HIU.out.ext hW) (HIV.out.ext hW) (by omega))
    have HB : Hid (relatesB m u v = decide (0 < cntUV m u v)) := Lib.hid (by rw [relatesB, if_pos h0])
    rw [h0] at HC ⊢
    clear h0 hm
    generalize cntUV m u v = c at *
    go_enter Try.func43, Try.ntmps43
    go_wp2_with fail
    rw [← HW.out]
    refine HC.out.mono ?_; rintro e w1 ⟨rfl, hx1⟩
    have hx1 := hxL.trans hx1
    go_wp2_with fail
    refine (HCN.out w1 hx1).mono ?_; rintro e w2 ⟨rfl, hx2⟩
    go_wp2_with fail
    go_ret2
    exact ⟨by rw [HB.out]; rfl, hE0.trans (hx1.trans hx2)⟩
  · rw [show relatesB m u v = false by rw [relatesB, if_neg h0]]
    have hk : (checkK m [u, v] != 0) = true := by simp [h0]
    generalize checkK m [u, v] = k at *
    clear h0
    go_enter Try.func43, Try.ntmps43
    go_wp2_with fail
    rw [← HW.out]
    refine HC.out.mono ?_; rintro e w1 ⟨rfl, hx1⟩
    have hx1 := hxL.trans hx1
    go_wp2_with fail
    go_ret2
    exact ⟨rfl, hE0.trans hx1⟩
end Go.Proofs.Ytodhmkbkcjpnkaa
