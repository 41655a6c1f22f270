/- How many runs read a word and write another one: the reference counts from the beginning on. -/
import Derived.Test.YtodhmkbkcjpnkaaMacZ
import Derived.Test.YtodhmkbkcjpnkaaMacH
namespace Go.Proofs.Ytodhmkbkcjpnkaa
open Go.RowKit Go.Shelf
set_option linter.unusedVariables false

/-! ## plain -/
theorem fwLs_app {n : Nat} {ar : List Arc} (c : Arc → Bool) : ∀ (cs : List (Arc → Bool)) (f : List Int), fwLs n ar f (cs ++ [c]) = fwL n ar c (fwLs n ar f cs)
  | [], f => rfl
  | d :: cs, f => by rw [List.cons_append, fwLs, fwLs_app c cs]; rfl
theorem condUV_len : ∀ (u v : List Int), u.length = v.length → (condUV u v).length = u.length
  | [], v, _ => by rw [condUV_nil]; rfl
  | i :: u, o :: v, h => by rw [condUV, List.length_cons, condUV_len u v (by simpa using h), List.length_cons]
theorem condUV_at : ∀ (u v : List Int) (k : Nat), k < u.length → k < v.length → (condUV u v)[k]? = some (uvC (u[k]?.getD 0) (v[k]?.getD 0))
  | i :: u, o :: v, 0, _, _ => rfl
  | i :: u, o :: v, k + 1, h1, h2 => by
    rw [condUV, List.getElem?_cons_succ, condUV_at u v k (by simpa using h1) (by simpa using h2)]
    simp
/-- after k rounds -/
def cfS (n : Nat) (ar : List Arc) (u v : List Int) (k : Nat) : List Int := fwLs n ar (beginL n) ((condUV u v).take k)
theorem cfS_zero (n : Nat) (ar : List Arc) (u v : List Int) : cfS n ar u v 0 = beginL n := rfl
theorem cfS_next {n : Nat} {ar : List Arc} {u v : List Int} {k : Nat} (h1 : k < u.length) (h2 : k < v.length) : cfS n ar u v (k + 1) = fwL n ar (uvC (u[k]?.getD 0) (v[k]?.getD 0)) (cfS n ar u v k) := by
  unfold cfS
  rw [List.take_add_one, condUV_at u v k h1 h2, Option.toList_some, fwLs_app]
theorem cfS_len (n : Nat) (ar : List Arc) (u v : List Int) (k : Nat) : (cfS n ar u v k).length = n := fwLs_len _ _ (by simp [beginL])
/-- the numbers at the marked states, up to t -/
def sumE (S : List Int) (E : List Bool) : Nat → Int
  | 0 => 0
  | t + 1 => if E[t]?.getD false = true then wr64 (sumE S E t + S[t]?.getD 0) else sumE S E t
theorem sumE_eq {n : Nat} {S : List Int} {f : Nat → Int} (h : Vec n S f) (e : List Int) (he : ∀ t, t < n → ((endsB n e)[t]?.getD false = true ↔ (t : Int) ∈ e)) : ∀ t, t ≤ n → sumE S (endsB n e) t = wr64 (sumL (fun s => f s * endE e s) (List.range t))
  | 0, _ => by simp [sumE, sumL, wr64_zero]
  | t + 1, ht => by
    rw [sumE, sumE_eq h e he t (by omega), List.range_succ, sumL_app]
    simp only [sumL, Int.add_zero]
    unfold endE
    by_cases hc : (endsB n e)[t]?.getD false = true
    · rw [if_pos hc, if_pos (List.contains_iff_mem.2 ((he t (by omega)).1 hc)), h.2 t (by omega), wr64_add, Int.mul_one]
    · rw [if_neg hc, if_neg (fun h2 => hc ((he t (by omega)).2 (List.contains_iff_mem.1 h2))), Int.mul_zero, Int.add_zero]
theorem sumE_cnt {m : Mac} {n : Nat} (h : MacOk m) (hn : n = m.s.toNat) {u v : List Int} (hl : u.length = v.length) : sumE (cfS n m.a u v u.length) (endsB n m.e) n = cntUV m u v := by
  subst hn
  have hV := Vec.fwLs h.states (condUV u v) (Vec.begin (n := m.s.toNat) (by have := h.s1; omega))
  have hc : cfS m.s.toNat m.a u v u.length = fwLs m.s.toNat m.a (beginL m.s.toNat) (condUV u v) := by
    unfold cfS; rw [List.take_of_length_le (by rw [condUV_len u v hl]; omega)]
  rw [hc, sumE_eq hV m.e (fun t ht => by
    have := getB_ends h.in_ (k := (t : Int)) (by omega)
    simpa [getB] using this) _ (Nat.le_refl _)]
  show wr64 (dotE _ _ _) = _
  rw [dot_steps h.states, dot_one (by have := h.s1; omega), cntUV, if_pos hl]
  exact ((Vec.bwLs h.states (Vec.ends h.ends) (condUV u v)).2 0 (by have := h.s1; omega)).symm

set_option maxHeartbeats 8000000 in
set_option maxRecDepth 100000 in
theorem rruns_c (av ev uv vv : Value) (m : Mac) (n : Nat) (u v : List Int) (w : World) (h : MacR w av ev m) (hM : MacIn m n) (hu : Ints w uv u) (hv : Ints w vv v) (hul : u.length = v.length) (hu8 : u.length ≤ 1000) :
    Calls Try.prog 83 #[.agg #[.int .i64 m.s, av, ev], uv, vv] w (RV (.int .i64 (sumE (cfS n m.a u v u.length) (endsB n m.e) n)) w) := by
  have hMs := Lib.hid hM.s
  rw [hM.s]
  obtain ⟨wA, hwA⟩ : ∃ wA, wA = w.alloc (.cells #[.int .i64 (n : Int), av, ev] 25) := ⟨_, rfl⟩
  have hE0 : Ext w wA := by rw [hwA]; exact Ext.alloc _ _
  have k0 : ∀ W, Ext wA W → W.cell? ⟨w.heap.size, 0, none⟩ = some (.int .i64 (n : Int)) := by rw [hwA]; exact kept_alloc w _ _ rfl
  have k1 : ∀ W, Ext wA W → W.cell? ⟨w.heap.size, 1, none⟩ = some av := by rw [hwA]; exact kept_alloc w _ _ rfl
  have k2 : ∀ W, Ext wA W → W.cell? ⟨w.heap.size, 2, none⟩ = some ev := by rw [hwA]; exact kept_alloc w _ _ rfl
  have H0 : Ext wA wA := Ext.refl _
  have HRE := Lib.hid (h.ext hE0)
  obtain ⟨aa, ca, rfl, hla, hma, HA⟩ := (h.ext hE0).a.open_
  obtain ⟨ae, ce, rfl, hle, hme, HE⟩ := (h.ext hE0).e.open_
  obtain ⟨au, cu, rfl, hlu, hmu, HU⟩ := (hu.ext hE0).open_
  obtain ⟨av2, cv, rfl, hlv, hmv, HV⟩ := (hv.ext hE0).open_
  have HW := Lib.hid hwA; clear hwA h hu hv
  have hn1 := hM.n1
  have hn9 := hM.n9
  have HM := Lib.hid hM; clear hM
  have HL := Lib.hid hul; clear hul
  have HEC := Lib.hid (fun (W : World) (hW : Ext wA W) => by have := rends_c _ _ m n W (HRE.out.ext hW) HM.out; rw [hMs.out] at this; exact this)
  have HBG : Hid (∀ (W : World) (g : Nat), Blk W g 3 (List.replicate n (.int .i64 0)) → BInts (W.setCell ⟨g, 0, none⟩ (.int .i64 1)) g (cfS n m.a u v 0)) := Lib.hid (fun W g h => by have := Blk.set h 0 (.int .i64 1); unfold BInts; rw [cfS_zero, beginL]; simpa [List.map_set] using this)
  go_enter Try.func83, Try.ntmps83
  go_wp2_with (at_make; refine wpList_make_blk n elInts rfl rfl _ _ rfl rfl rfl (by omega) (by omega) ?_; intro gb0 w2 hgb0 hblkb hx2 hg2; rw [← HW.out] at hgb0 hx2; have hbc := Blk.cell (i := 0) (v := .int .i64 0) hblkb (by rw [List.getElem?_replicate, if_pos (by omega)]); have hbf := Blk.frozen hblkb 0; have hE2 : Ext wA (w2.setCell ⟨gb0, 0, none⟩ (.int .i64 1)) := hx2.setCell (by omega) _ _)
  have hbb := HBG.out w2 gb0 hblkb
  clear hbc hbf hblkb hx2 hg2
  go_loopg [8, 7] u.length (fun z i v7 wr => ∃ (k gn : Nat), k ≤ u.length ∧ u.length ≤ k + z ∧ i = .int .i64 k ∧ v7 = .slice (some ⟨gn, 0, none⟩) n n ∧ Ext wA wr ∧ BInts wr gn (cfS n m.a u v k))
  case atStart => exact ⟨0, gb0, by omega, by omega, rfl, rfl, hE2, hbb⟩
  case round =>
    clear hE2 hbb
    obtain ⟨k, gn, hk, hkz, rfl, rfl, hEr, hbn⟩ := hrel
    obtain ⟨g1, rfl⟩ : ∃ g : Nat, g = gk := ⟨_, rfl⟩
    by_cases hltk : k < u.length
    · obtain ⟨bu, ou, rfl, hcu⟩ := HU.out k hltk
      obtain ⟨bv, ov, rfl, hcv⟩ := HV.out k (by rw [← HL.out]; exact hltk)
      have hltv : k < v.length := by rw [← HL.out]; exact hltk
      have HNX := Lib.hid (cfS_next (n := n) (ar := m.a) hltk hltv)
      have hSL := cfS_len n m.a u v k
      generalize cfS n m.a u v k = now at *
      generalize u[k]?.getD 0 = us at *
      generalize v[k]?.getD 0 = vs at *
      have HLN := Lib.hid hSL; clear hSL
      obtain ⟨W1, rfl⟩ : ∃ W : World, W = wr := ⟨_, rfl⟩
      replace hcu := hEr.keep hcu
      replace hcv := hEr.keep hcv
      go_wp2_with (at_make; refine wpList_make_blk n elInts rfl rfl _ _ rfl rfl rfl (by omega) (by omega) ?_; intro gb w2 hgb hblkg hx2 hg2)
      have hbb : BInts w2 gb ((m.a.take 0).foldl (fwStep (uvC us vs) now) (List.replicate n 0)) := by rw [List.take_zero]; unfold BInts; simpa using hblkg
      clear hblkg hg2
      go_loopg [10] m.a.length (fun z i wr => ∃ t : Nat, t ≤ m.a.length ∧ m.a.length ≤ t + z ∧ i = .int .i64 t ∧ Ext W1 wr ∧ BInts wr gb ((m.a.take t).foldl (fwStep (uvC us vs) now) (List.replicate n 0)))
      case atStart => exact ⟨0, by omega, by omega, rfl, hx2, hbb⟩
      case round =>
        clear hx2 hbb
        obtain ⟨t, ht, htz, rfl, hX1, hbb⟩ := hrel
        have hEr2 : Ext wA wr := hEr.trans hX1
        by_cases hlt : t < m.a.length
        · obtain ⟨ba, oa, rfl, hc0, hc1, hc2, hc3⟩ := HA.out t hlt
          replace hc0 := hEr2.keep hc0
          replace hc1 := hEr2.keep hc1
          replace hc2 := hEr2.keep hc2
          replace hc3 := hEr2.keep hc3
          have hst := HM.out.arc t hlt
          have HST := Lib.hid (fold_next hlt (fwStep (uvC us vs) now) (List.replicate n 0))
          have hol : ((m.a.take t).foldl (fwStep (uvC us vs) now) (List.replicate n 0)).length = n := by rw [fwF_len]; simp
          generalize arcA m.a t = y at *
          generalize (m.a.take t).foldl (fwStep (uvC us vs) now) (List.replicate n 0) = O at *
          have HOL := Lib.hid hol; clear hol
          obtain ⟨yf, yt, yi, yo⟩ := y
          simp only at hc0 hc1 hc2 hc3 hst
          obtain ⟨p, rfl⟩ : ∃ p : Nat, yf = p := ⟨yf.toNat, by omega⟩
          obtain ⟨q, rfl⟩ : ∃ q : Nat, yt = q := ⟨yt.toNat, by omega⟩
          have hp : p < n := by omega
          have hq : q < n := by omega
          clear hst
          obtain ⟨wB, hwB⟩ : ∃ wB, wB = wr.alloc (.cells #[.int .i64 (p : Int), .int .i64 (q : Int), .int .i64 yi, .int .i64 yo] 50) := ⟨_, rfl⟩
          have hEB : Ext wr wB := by rw [hwB]; exact Ext.alloc _ _
          have b0 : ∀ W, Ext wB W → W.cell? ⟨wr.heap.size, 0, none⟩ = some (.int .i64 p) := by rw [hwB]; exact kept_alloc wr _ _ rfl
          have b1 : ∀ W, Ext wB W → W.cell? ⟨wr.heap.size, 1, none⟩ = some (.int .i64 q) := by rw [hwB]; exact kept_alloc wr _ _ rfl
          have b2 : ∀ W, Ext wB W → W.cell? ⟨wr.heap.size, 2, none⟩ = some (.int .i64 yi) := by rw [hwB]; exact kept_alloc wr _ _ rfl
          have b3 : ∀ W, Ext wB W → W.cell? ⟨wr.heap.size, 3, none⟩ = some (.int .i64 yo) := by rw [hwB]; exact kept_alloc wr _ _ rfl
          have HWB := Lib.hid hwB; clear hwB
          have HNO : Hid (fwStep (uvC us vs) now O ⟨(p : Int), (q : Int), yi, yo⟩ = if (yi == us && yo == vs) = true then O.set q (wrap64 (O[q]?.getD 0 + now[p]?.getD 0)) else O) := by
            rw [← wr64_eq]; exact Lib.hid rfl
          have hs : ∀ s : Later wB, Ext wB s.w := fun s => s.ext
          have q0 := fun s : Later wB => (hX1.trans (hEB.trans s.ext)).keep hcu
          have q1 := fun s : Later wB => (hX1.trans (hEB.trans s.ext)).keep hcv
          by_cases hi : yi = us
          · by_cases ho : yo = vs
            · subst hi ho
              have hi1 : (yi == yi) = true := by simp
              have ho1 : (yo == yo) = true := by simp
              go_wp2_with fail
              rw [← HWB.out]
              clear hc0 hc1 hc2 hc3
              refine wp_region_later (by kernel_rfl) (by kernel_rfl) ?_
              repeat (go_big_quiet_step (fail))
              refine wpQuiet_nil ?_
              intro w5 hw'
              obtain ⟨⟨_, hx5⟩, rfl⟩ := hw'
              clear hs q0 q1
              have hX5 : Ext W1 w5 := hX1.trans (hEB.trans hx5)
              have hbb5 : BInts w5 gb O := Blk.ext hbb (hEB.trans hx5)
              clear hbb
              have hs : ∀ s : Later w5, Ext wB s.w := fun s => hx5.trans s.ext
              have hbn5 : BInts w5 gn now := Blk.ext hbn hX5
              have q0 := fun s : Later w5 => s.ext.keep (hbn5.cell (i := p) (by rw [HLN.out]; exact hp))
              have q1 := fun s : Later w5 => s.ext.keep (hbb5.cell (i := q) (by rw [HOL.out]; exact hq))
              generalize now[p]?.getD 0 = xp at *
              generalize O[q]?.getD 0 = xq at *
              go_wp2_with fail
              refine wp_region_later_tail 12 (by kernel_rfl) (by kernel_rfl) ?_
              simp only [List.take_succ_cons, List.take_zero, List.drop_succ_cons, List.drop_zero]
              repeat (go_big_quiet_step (fail))
              refine wpQuiet_nil ?_
              intro w6 hw'
              obtain ⟨⟨_, hx6⟩, rfl⟩ := hw'
              clear hs q0 q1
              have hbb6 : BInts w6 gb O := Blk.ext hbb5 hx6
              have hn2 := hbb6.cell (i := q) (by rw [HOL.out]; exact hq)
              have hf2 := Blk.frozen hbb6 q
              have HSET := Lib.hid (hbb6.set q (wrap64 (xq + xp)))
              have hX6 := hX5.trans hx6
              clear hbb5 hbb6 hbn5
              go_wp2_with fail
              go_roundg (gk-1)
              case measure => omega
              case rel => exact ⟨t+1, by omega, by omega, by go_num, hX6.setCell hgb _ _, by rw [HST.out, HNO.out, if_pos (by simp)]; exact HSET.out⟩
            · subst hi
              have hi1 : (yi == yi) = true := by simp
              have ho1 : (yo == vs) = false := by simp [ho]
              have HO := Lib.hid ho; clear ho
              go_wp2_with fail
              rw [← HWB.out]
              clear hc0 hc1 hc2 hc3
              refine wp_region_later (by kernel_rfl) (by kernel_rfl) ?_
              repeat (go_big_quiet_step (fail))
              refine wpQuiet_nil ?_
              intro w5 hw'
              obtain ⟨⟨_, hx5⟩, rfl⟩ := hw'
              clear hs q0 q1
              have hX5 : Ext W1 w5 := hX1.trans (hEB.trans hx5)
              have hbb5 : BInts w5 gb O := Blk.ext hbb (hEB.trans hx5)
              clear hbb
              go_wp2_with fail
              go_roundg (gk-1)
              case measure => omega
              case rel => exact ⟨t+1, by omega, by omega, by go_num, hX5, by rw [HST.out, HNO.out, if_neg (by simp [HO.out])]; exact hbb5⟩
          · have hi1 : (yi == us) = false := by simp [hi]
            have HI := Lib.hid hi; clear hi
            go_wp2_with fail
            rw [← HWB.out]
            clear hc0 hc1 hc2 hc3
            refine wp_region_later (by kernel_rfl) (by kernel_rfl) ?_
            repeat (go_big_quiet_step (fail))
            refine wpQuiet_nil ?_
            intro w5 hw'
            obtain ⟨⟨_, hx5⟩, rfl⟩ := hw'
            clear hs q0 q1
            have hX5 : Ext W1 w5 := hX1.trans (hEB.trans hx5)
            have hbb5 : BInts w5 gb O := Blk.ext hbb (hEB.trans hx5)
            clear hbb
            go_wp2_with fail
            go_roundg (gk-1)
            case measure => omega
            case rel => exact ⟨t+1, by omega, by omega, by go_num, hX5, by rw [HST.out, HNO.out, if_neg (by simp [HI.out])]; exact hbb5⟩
        · have hbN : BInts wr gb (cfS n m.a u v (k + 1)) := by rw [HNX.out, fwL]; rw [List.take_of_length_le (by omega)] at hbb; exact hbb
          clear hbb
          go_wp2_with fail
          go_roundg (g1-1)
          case measure => omega
          case rel => exact ⟨k+1, gb, by omega, by omega, by go_num, rfl, hEr2, hbN⟩
    · have hku : k = u.length := by omega
      subst hku
      have HSL := Lib.hid (cfS_len n m.a u v u.length)
      have HEL := Lib.hid (endsB_len n m.e)
      generalize cfS n m.a u v u.length = S at *
      go_wp2_with fail
      refine (HEC.out wr hEr).mono ?_; rintro e w3 ⟨gE, rfl, hbE, hgE, hx3⟩
      rw [endsB_len]
      generalize endsB n m.e = EB at *
      replace hbn : BInts w3 gn S := Blk.ext hbn hx3
      have hE3 : Ext wA w3 := hEr.trans hx3
      clear hEr hx3
      go_wp2_with fail
      go_loopg [14, 12] n (fun z i acc wr => ∃ t : Nat, t ≤ n ∧ n ≤ t + z ∧ i = .int .i64 t ∧ acc = .int .i64 (sumE S EB t) ∧ w3 = wr)
      case atStart => exact ⟨0, by omega, by omega, rfl, rfl, rfl⟩
      case round =>
        obtain ⟨t, ht, htz, rfl, rfl, rfl⟩ := hrel
        by_cases hlt : t < n
        · have c0 := hbE.cell (i := t) (by rw [HEL.out]; exact hlt)
          have c1 := hbn.cell (i := t) (by rw [HSL.out]; exact hlt)
          have HSU : Hid (sumE S EB (t + 1) = if EB[t]?.getD false = true then wrap64 (sumE S EB t + S[t]?.getD 0) else sumE S EB t) := by rw [← wr64_eq]; exact Lib.hid rfl
          generalize EB[t]?.getD false = b0 at *
          generalize S[t]?.getD 0 = x0 at *
          generalize sumE S EB t = acc at *
          cases b0
          · go_wp2_with fail
            go_roundg (gk-1)
            case measure => omega
            case rel => exact ⟨t+1, by omega, by omega, by go_num, by rw [HSU.out]; rfl, rfl⟩
          · go_wp2_with fail
            go_roundg (gk-1)
            case measure => omega
            case rel => exact ⟨t+1, by omega, by omega, by go_num, by rw [HSU.out]; rfl, rfl⟩
        · obtain rfl : t = n := by omega
          go_wp2_with fail
          go_ret
          exact RV.int rfl (hE0.trans hE3)

set_option maxHeartbeats 4000000 in
theorem rRelates_c (av ev uv vv : Value) (m : Mac) (u v : List Int) (w : World) (h : MacR w av ev m) (hu : Ints w uv u) (hv : Ints w vv v) :
    Calls Try.prog 45 #[.agg #[.int .i64 m.s, av, ev], uv, vv] w (RV (.tuple #[.bool (relatesB m u v), .int .i64 (checkK m [u, v])]) w) := by
  obtain ⟨wA, hwA⟩ : ∃ wA, wA = w.alloc (.cells #[.int .i64 m.s, av, ev] 25) := ⟨_, rfl⟩
  have hE0 : Ext w wA := by rw [hwA]; exact Ext.alloc _ _
  have k0 : ∀ W, Ext wA W → W.cell? ⟨w.heap.size, 0, none⟩ = some (.int .i64 m.s) := by rw [hwA]; exact kept_alloc w _ _ rfl
  have k1 : ∀ W, Ext wA W → W.cell? ⟨w.heap.size, 1, none⟩ = some av := by rw [hwA]; exact kept_alloc w _ _ rfl
  have k2 : ∀ W, Ext wA W → W.cell? ⟨w.heap.size, 2, none⟩ = some ev := by rw [hwA]; exact kept_alloc w _ _ rfl
  have H0 : Ext wA wA := Ext.refl _
  have HR := Lib.hid (h.ext hE0)
  have HIU := Lib.hid (hu.ext hE0)
  have HIV := Lib.hid (hv.ext hE0)
  have HC := Lib.hid (worded_c _ _ _ _ m u v wA HR.out HIU.out HIV.out)
  have HW := Lib.hid hwA; clear hwA h hu hv
  by_cases h0 : checkK m [u, v] = 0
  · obtain ⟨hm, hul, _⟩ := checkK_ok (checkK_ok2 h0).1
    have HCN := Lib.hid (fun W (hW : Ext wA W) => rrelates_c _ _ _ _ m u v W (HR.out.ext hW) hm.in_ (HIU.out.ext hW) (HIV.out.ext hW))
    have hrb : relB m u v = relatesB m u v := by
      rw [Bool.eq_iff_iff]
      show relN m.s.toNat m u v = true ↔ _
      rw [relN_iff hm.in_, relatesB, if_pos h0, decide_eq_true_eq, cntUV_iff hm hul]
    rw [hrb] at HCN
    rw [h0] at HC ⊢
    clear h0 hm hrb
    generalize relatesB m u v = c at *
    go_enter Try.func45, Try.ntmps45
    go_wp2_with fail
    rw [← HW.out]
    refine HC.out.mono ?_; rintro e w1 ⟨rfl, hx1⟩
    go_wp2_with fail
    refine (HCN.out w1 hx1).mono ?_; rintro e w2 ⟨rfl, hx2⟩
    go_wp2_with fail
    go_ret2
    exact ⟨rfl, hE0.trans (hx1.trans hx2)⟩
  · rw [show relatesB m u v = false by rw [relatesB, if_neg h0]]
    have hk : (checkK m [u, v] != 0) = true := by simp [h0]
    generalize checkK m [u, v] = k at *
    clear h0
    go_enter Try.func45, Try.ntmps45
    go_wp2_with fail
    rw [← HW.out]
    refine HC.out.mono ?_; rintro e w1 ⟨rfl, hx1⟩
    go_wp2_with fail
    go_ret2
    exact ⟨rfl, hE0.trans hx1⟩
def runsN (m : Mac) (u v : List Int) : Int := if checkK m [u, v] = 0 then cntUV m u v else 0
set_option maxHeartbeats 4000000 in
theorem Runs_c (av ev uv vv : Value) (m : Mac) (u v : List Int) (w : World) (h : MacR w av ev m) (hu : Ints w uv u) (hv : Ints w vv v) :
    Calls Try.prog 46 #[.agg #[.int .i64 m.s, av, ev], uv, vv] w (RV (.tuple #[.int .i64 (runsN m u v), .int .i64 (checkK m [u, v])]) w) := by
  obtain ⟨wA, hwA⟩ : ∃ wA, wA = w.alloc (.cells #[.int .i64 m.s, av, ev] 25) := ⟨_, rfl⟩
  have hE0 : Ext w wA := by rw [hwA]; exact Ext.alloc _ _
  have k0 : ∀ W, Ext wA W → W.cell? ⟨w.heap.size, 0, none⟩ = some (.int .i64 m.s) := by rw [hwA]; exact kept_alloc w _ _ rfl
  have k1 : ∀ W, Ext wA W → W.cell? ⟨w.heap.size, 1, none⟩ = some av := by rw [hwA]; exact kept_alloc w _ _ rfl
  have k2 : ∀ W, Ext wA W → W.cell? ⟨w.heap.size, 2, none⟩ = some ev := by rw [hwA]; exact kept_alloc w _ _ rfl
  have H0 : Ext wA wA := Ext.refl _
  have H0 : Ext wA wA := Ext.refl _
  have HR := Lib.hid (h.ext hE0)
  have HIU := Lib.hid (hu.ext hE0)
  have HIV := Lib.hid (hv.ext hE0)
  obtain ⟨aa, ca, rfl, hla, hma, HA⟩ := (h.ext hE0).a.open_
  obtain ⟨ae, ce, rfl, hle, hme, HE⟩ := (h.ext hE0).e.open_
  obtain ⟨au, cu, rfl, hlu, hmu, HU⟩ := (hu.ext hE0).open_
  obtain ⟨av2, cv, rfl, hlv, hmv, HV⟩ := (hv.ext hE0).open_
  have hxL := Ext.alloc wA (.cells #[.slice au u.length cu, .slice av2 v.length cv] 23)
  have HC := Lib.hid (by have := check_c _ _ _ m [u, v] _ (HR.out.ext hxL) (rows_new wA [.slice au u.length cu, .slice av2 v.length cv] [u, v] (AllInts.cons HIU.out (AllInts.cons HIV.out (AllInts.nil _))) (by simp)); rw [show wA.heap.size = w.heap.size + 1 by rw [hwA]; simp] at this; exact this)
  have HW := Lib.hid hwA; clear hwA h hu hv
  by_cases h0 : checkK m [u, v] = 0
  · obtain ⟨hm, hul, _⟩ := checkK_ok (checkK_ok2 h0).1
    have HCN := Lib.hid (fun W (hW : Ext wA W) => count_c _ _ _ _ m u v W (HR.out.ext hW) hm.in_ (HIU.out.ext hW) (HIV.out.ext hW) (by omega))
    rw [show runsN m u v = cntUV m u v by rw [runsN, if_pos h0], h0]
    rw [h0] at HC
    clear h0 hm
    generalize cntUV m u v = c at *
    go_enter Try.func46, Try.ntmps46
    go_wp2_with fail
    rw [← HW.out]
    refine HC.out.mono ?_; rintro e w1 ⟨rfl, hx1⟩
    have hx1 := hxL.trans hx1
    go_wp2_with fail
    refine (HCN.out w1 hx1).mono ?_; rintro e w2 ⟨rfl, hx2⟩
    go_wp2_with fail
    go_ret2
    exact ⟨rfl, hE0.trans (hx1.trans hx2)⟩
  · rw [show runsN m u v = 0 by rw [runsN, if_neg h0]]
    have hk : (checkK m [u, v] != 0) = true := by simp [h0]
    generalize checkK m [u, v] = k at *
    clear h0
    go_enter Try.func46, Try.ntmps46
    go_wp2_with fail
    rw [← HW.out]
    refine HC.out.mono ?_; rintro e w1 ⟨rfl, hx1⟩
    have hx1 := hxL.trans hx1
    go_wp2_with fail
    go_ret2
    exact ⟨rfl, hE0.trans hx1⟩
set_option maxHeartbeats 4000000 in
theorem rRuns_c (av ev uv vv : Value) (m : Mac) (u v : List Int) (w : World) (h : MacR w av ev m) (hu : Ints w uv u) (hv : Ints w vv v) :
    Calls Try.prog 47 #[.agg #[.int .i64 m.s, av, ev], uv, vv] w (RV (.tuple #[.int .i64 (runsN m u v), .int .i64 (checkK m [u, v])]) w) := by
  obtain ⟨wA, hwA⟩ : ∃ wA, wA = w.alloc (.cells #[.int .i64 m.s, av, ev] 25) := ⟨_, rfl⟩
  have hE0 : Ext w wA := by rw [hwA]; exact Ext.alloc _ _
  have k0 : ∀ W, Ext wA W → W.cell? ⟨w.heap.size, 0, none⟩ = some (.int .i64 m.s) := by rw [hwA]; exact kept_alloc w _ _ rfl
  have k1 : ∀ W, Ext wA W → W.cell? ⟨w.heap.size, 1, none⟩ = some av := by rw [hwA]; exact kept_alloc w _ _ rfl
  have k2 : ∀ W, Ext wA W → W.cell? ⟨w.heap.size, 2, none⟩ = some ev := by rw [hwA]; exact kept_alloc w _ _ rfl
  have H0 : Ext wA wA := Ext.refl _
  have HR := Lib.hid (h.ext hE0)
  have HIU := Lib.hid (hu.ext hE0)
  have HIV := Lib.hid (hv.ext hE0)
  obtain ⟨au, cu, rfl, hlu, hmu, HU⟩ := (hu.ext hE0).open_
  obtain ⟨av2, cv, rfl, hlv, hmv, HV⟩ := (hv.ext hE0).open_
  have HC := Lib.hid (worded_c _ _ _ _ m u v wA HR.out HIU.out HIV.out)
  have HW := Lib.hid hwA; clear hwA h hu hv
  by_cases h0 : checkK m [u, v] = 0
  · obtain ⟨hm, hul, _⟩ := checkK_ok (checkK_ok2 h0).1
    rw [show runsN m u v = cntUV m u v by rw [runsN, if_pos h0], h0]
    rw [h0] at HC
    by_cases hl : u.length = v.length
    · have HCN := Lib.hid (fun W (hW : Ext wA W) => rruns_c _ _ _ _ m _ u v W (HR.out.ext hW) hm.in_ (HIU.out.ext hW) (HIV.out.ext hW) hl (by omega))
      rw [sumE_cnt hm rfl hl] at HCN
      have hd : ((u.length : Int) != (v.length : Int)) = false := by simp [hl]
      clear h0 hm hl
      generalize cntUV m u v = c at *
      go_enter Try.func47, Try.ntmps47
      go_wp2_with fail
      rw [← HW.out]
      refine HC.out.mono ?_; rintro e w1 ⟨rfl, hx1⟩
      go_wp2_with fail
      refine (HCN.out w1 hx1).mono ?_; rintro e w2 ⟨rfl, hx2⟩
      go_wp2_with fail
      go_ret2
      exact ⟨rfl, hE0.trans (hx1.trans hx2)⟩
    · rw [show cntUV m u v = 0 by rw [cntUV, if_neg hl]]
      have hd : ((u.length : Int) != (v.length : Int)) = true := by simp; omega
      clear h0 hm hl
      go_enter Try.func47, Try.ntmps47
      go_wp2_with fail
      rw [← HW.out]
      refine HC.out.mono ?_; rintro e w1 ⟨rfl, hx1⟩
      go_wp2_with fail
      go_ret2
      exact ⟨rfl, hE0.trans hx1⟩
  · rw [show runsN m u v = 0 by rw [runsN, if_neg h0]]
    have hk : (checkK m [u, v] != 0) = true := by simp [h0]
    generalize checkK m [u, v] = k at *
    clear h0
    go_enter Try.func47, Try.ntmps47
    go_wp2_with fail
    rw [← HW.out]
    refine HC.out.mono ?_; rintro e w1 ⟨rfl, hx1⟩
    go_wp2_with fail
    go_ret2
    exact ⟨rfl, hE0.trans hx1⟩
end Go.Proofs.Ytodhmkbkcjpnkaa
