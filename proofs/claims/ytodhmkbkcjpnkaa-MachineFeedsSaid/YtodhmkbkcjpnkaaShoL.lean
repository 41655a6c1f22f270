/- Machines: whether some run from a state reads a word, of the program. -/
import Derived.Test.YtodhmkbkcjpnkaaShoP
import Derived.Test.YtodhmkbkcjpnkaaOSet
import Derived.Deep.CutRange
import Derived.Deep.CutBlock
namespace Go.Proofs.Ytodhmkbkcjpnkaa
open Go.RowKit Go.Shelf
set_option linter.unusedVariables false
theorem endsL_c (av ev : Value) (m : Mac) (s : Int) (w : World) (h : MacR w av ev m) : Calls Try.prog 72 #[.agg #[.int .i64 m.s, av, ev], .int .i64 s] w (RV (.bool (hasB m.e s)) w) := by
  obtain ⟨wA, hwA⟩ : ∃ wA, wA = w.alloc (.cells #[.int .i64 m.s, av, ev] 25) := ⟨_, rfl⟩
  have hE0 : Ext w wA := by rw [hwA]; exact Ext.alloc _ _
  have k0 : ∀ W, Ext wA W → W.cell? ⟨w.heap.size, 0, none⟩ = some (.int .i64 m.s) := by rw [hwA]; exact kept_alloc w _ _ rfl
  have k1 : ∀ W, Ext wA W → W.cell? ⟨w.heap.size, 1, none⟩ = some av := by rw [hwA]; exact kept_alloc w _ _ rfl
  have k2 : ∀ W, Ext wA W → W.cell? ⟨w.heap.size, 2, none⟩ = some ev := by rw [hwA]; exact kept_alloc w _ _ rfl
  have H0 : Ext wA wA := Ext.refl _
  have HC := Lib.hid (fun W (hW : Ext wA W) => contains_c ev m.e s W (h.e.ext (hE0.trans hW)))
  have HW := Lib.hid hwA; clear hwA h
  generalize hasB m.e s = b at *
  go_enter Try.func72, Try.ntmps72
  go_wp2_with fail
  rw [← HW.out]
  refine (HC.out wA H0).mono ?_; rintro e w1 ⟨rfl, rfl⟩
  go_wp2_with fail
  go_ret
  exact RV.bool rfl hE0
theorem leads1_c (av ev : Value) (m : Mac) (s : Int) (g : Nat) (w : World) (h : MacR w av ev m) (k0 : w.cell? ⟨g, 0, none⟩ = some (.int .i64 m.s)) (k1 : w.cell? ⟨g, 1, none⟩ = some av) (k2 : w.cell? ⟨g, 2, none⟩ = some ev) :
    Calls Try.prog 111 #[.int .i64 s, .pointer (some ⟨g, 0, none⟩)] w (RV (.bool (hasB m.e s)) w) := by
  have HEC := Lib.hid (endsL_c av ev m s w h)
  obtain ⟨aa, ca, rfl, hla, hma, HA⟩ := h.a.open_
  obtain ⟨ae, ce, rfl, hle, hme, HE⟩ := h.e.open_
  clear h
  go_enter Try.func111, Try.ntmps111
  go_wp2_with fail
  refine HEC.out.mono ?_; rintro e w1 ⟨rfl, hx1⟩
  go_wp2_with fail
  go_ret
  exact RV.bool rfl hx1
theorem hasB_contains (l : List Int) (x : Int) : hasB l x = l.contains x := by rw [hasB_eq, Bool.eq_iff_iff, List.contains_iff_mem]
theorem leadNext_eq (ar : List Arc) (s : Int) (now : List Int) : leadNext ar s now = (ar.filter fun a => hasB now a.f && a.i == s).map Arc.t := by
  unfold leadNext; simp only [hasB_contains]
theorem pick_next {ar : List Arc} {k : Nat} (h : k < ar.length) (c : Arc → Bool) (f : Arc → Int) : ((ar.take (k + 1)).filter c).map f = if c (arcA ar k) then ((ar.take k).filter c).map f ++ [f (arcA ar k)] else ((ar.take k).filter c).map f := by
  rw [take_next h ⟨0, 0, 0, 0⟩, List.filter_append, List.map_append]
  show _ ++ List.map f (List.filter c [arcA ar k]) = _
  cases hc : c (arcA ar k) <;> simp [hc]
theorem pick_len (ar : List Arc) (c : Arc → Bool) (f : Arc → Int) : ((ar.filter c).map f).length ≤ ar.length := by rw [List.length_map]; exact List.length_filter_le _ _
set_option maxHeartbeats 4000000 in
set_option maxRecDepth 100000 in
theorem leads_c (av ev uv : Value) (m : Mac) (s : Int) (u : List Int) (w : World) (h : MacR w av ev m) (hu : Ints w uv u) (hal : m.a.length ≤ 100000) :
    Calls Try.prog 104 #[.agg #[.int .i64 m.s, av, ev], .int .i64 s, uv] w (RV (.bool ((leadGo m.a u [s]).any (fun x => m.e.contains x))) w) := by
  obtain ⟨wA, hwA⟩ : ∃ wA, wA = w.alloc (.cells #[.int .i64 m.s, av, ev] 25) := ⟨_, rfl⟩
  have hE0 : Ext w wA := by rw [hwA]; exact Ext.alloc _ _
  have k0 : ∀ W, Ext wA W → W.cell? ⟨w.heap.size, 0, none⟩ = some (.int .i64 m.s) := by rw [hwA]; exact kept_alloc w _ _ rfl
  have k1 : ∀ W, Ext wA W → W.cell? ⟨w.heap.size, 1, none⟩ = some av := by rw [hwA]; exact kept_alloc w _ _ rfl
  have k2 : ∀ W, Ext wA W → W.cell? ⟨w.heap.size, 2, none⟩ = some ev := by rw [hwA]; exact kept_alloc w _ _ rfl
  have H0 : Ext wA wA := Ext.refl _
  have HR := Lib.hid (h.ext hE0)
  obtain ⟨aa, ca, rfl, hla, hma, HA⟩ := (h.ext hE0).a.open_
  obtain ⟨ae, ce, rfl, hle, hme, HE⟩ := (h.ext hE0).e.open_
  obtain ⟨au, cu, rfl, hlu, hmu, HU⟩ := (hu.ext hE0).open_
  have HW := Lib.hid hwA; clear hwA h hu
  have hx0 := Ext.alloc wA (.cells #[.int .i64 s] 3)
  have hI0 : Ints (wA.alloc (.cells #[.int .i64 s] 3)) (.slice (some ⟨wA.heap.size, 0, none⟩) 1 1) [s] := by
    have := BInts.ints (W := wA.alloc (.cells #[.int .i64 s] 3)) (g := wA.heap.size) (l := [s]) (Blk.alloc wA _ _) (by simp)
    exact this
  rw [show wA.heap.size = w.heap.size + 1 by rw [HW.out]; simp] at hI0
  have HI0 := Lib.hid hI0; clear hI0
  obtain ⟨S0, hS0⟩ : ∃ S0, S0 = [s] := ⟨_, rfl⟩
  rw [← hS0] at HI0
  rw [← hS0]
  clear hS0
  go_enter Try.func104, Try.ntmps104
  go_wp2_with fail
  rw [← HW.out]
  go_loopg [17, 7] u.length (fun z i v7 wr => ∃ (k : Nat) (t7 : Value) (S : List Int), k ≤ u.length ∧ u.length ≤ k + z ∧ i = .int .i64 k ∧ t7 = v7 ∧ Ext wA wr ∧ Ints wr t7 S ∧ Hid (leadGo m.a (u.drop k) S = leadGo m.a u S0))
  case atStart => exact ⟨0, _, S0, by omega, by omega, rfl, rfl, hx0, HI0.out, Lib.hid rfl⟩
  case round =>
    clear hx0 HI0
    obtain ⟨k, t7, S, hk, hkz, rfl, rfl, hEr, hI7, HGO⟩ := hrel
    obtain ⟨g1, rfl⟩ : ∃ g : Nat, g = gk := ⟨_, rfl⟩
    have HI7 := Lib.hid hI7
    obtain ⟨a7, c7, rfl, _, _, _⟩ := hI7.open_
    clear hI7
    by_cases hltk : k < u.length
    · obtain ⟨bu, ou, rfl, hcu⟩ := HU.out k hltk
      have HNX : Hid (leadGo m.a (u.drop (k + 1)) (leadNext m.a (u[k]?.getD 0) S) = leadGo m.a u S0) := Lib.hid (by rw [← HGO.out, drop_one hltk]; rfl)
      generalize u[k]?.getD 0 = us at *
      obtain ⟨W1, rfl⟩ : ∃ W : World, W = wr := ⟨_, rfl⟩
      replace hcu := hEr.keep hcu
      rw [leadNext_eq] at HNX
      generalize hc_ : (fun a : Arc => hasB S a.f && a.i == us) = c at HNX
      have HC_ := Lib.hid hc_; clear hc_
      go_wp2_with fail
      go_loopg [24, 10] m.a.length (fun z i v9 wr => ∃ (t : Nat) (t9 : Value), t ≤ m.a.length ∧ m.a.length ≤ t + z ∧ i = .int .i64 t ∧ t9 = v9 ∧ Ext W1 wr ∧ OInts 3 wr W1.heap.size t9 (((m.a.take t).filter c).map Arc.t))
      case atStart => exact ⟨0, _, by omega, by omega, rfl, rfl, Ext.refl _, OInts.nil _ _ _⟩
      case round =>
        obtain ⟨t, t9, ht, htz, rfl, rfl, hX1, ho9⟩ := hrel
        have hEr2 : Ext wA wr := hEr.trans hX1
        obtain ⟨a9, c9, rfl, _, _, _⟩ := ho9.ints.open_
        by_cases hlt : t < m.a.length
        · obtain ⟨ba, oa, rfl, hc0, hc1, hc2, hc3⟩ := HA.out t hlt
          replace hc0 := hEr2.keep hc0
          replace hc1 := hEr2.keep hc1
          replace hc2 := hEr2.keep hc2
          replace hc3 := hEr2.keep hc3
          have HST := Lib.hid (pick_next hlt c Arc.t)
          have hlen := pick_len (m.a.take t) c Arc.t
          have hlt9 : (m.a.take t).length ≤ m.a.length := by simp; omega
          generalize arcA m.a t = y at *
          generalize ((m.a.take t).filter c).map Arc.t = N at *
          have hlN : N.length ≤ 1000000 := by omega
          clear hlen hlt9
          obtain ⟨yf, yt, yi, yo⟩ := y
          simp only at hc0 hc1 hc2 hc3
          obtain ⟨wB, hwB⟩ : ∃ wB, wB = wr.alloc (.cells #[.int .i64 yf, .int .i64 yt, .int .i64 yi, .int .i64 yo] 50) := ⟨_, rfl⟩
          have hEB : Ext wr wB := by rw [hwB]; exact Ext.alloc _ _
          have b0 : ∀ W, Ext wB W → W.cell? ⟨wr.heap.size, 0, none⟩ = some (.int .i64 yf) := by rw [hwB]; exact kept_alloc wr _ _ rfl
          have b1 : ∀ W, Ext wB W → W.cell? ⟨wr.heap.size, 1, none⟩ = some (.int .i64 yt) := by rw [hwB]; exact kept_alloc wr _ _ rfl
          have b2 : ∀ W, Ext wB W → W.cell? ⟨wr.heap.size, 2, none⟩ = some (.int .i64 yi) := by rw [hwB]; exact kept_alloc wr _ _ rfl
          have HWB := Lib.hid hwB; clear hwB
          have hsB : Ext wB wB := Ext.refl _
          have HC1 := Lib.hid (contains_c _ S yf wB (HI7.out.ext (hX1.trans hEB)))
          have HCC : Hid (c ⟨yf, yt, yi, yo⟩ = (hasB S yf && yi == us)) := Lib.hid (by rw [← HC_.out])
          generalize hasB S yf = b1_ at *
          have HO9 := Lib.hid (ho9.ext hEB)
          have hX5 : Ext W1 wB := hX1.trans hEB
          clear ho9
          cases b1_
          · go_upto_region 9 with fail
            rw [← HWB.out]
            clear hc0 hc1 hc2 hc3
            go_wp2_with (go_at_call 87; refine HC1.out.mono ?_; rintro e w5 ⟨rfl, rfl⟩)
            go_roundg (gk-1)
            case measure => omega
            case rel => exact ⟨t+1, _, by omega, by omega, by go_num, rfl, hX5, by rw [HST.out, if_neg (by rw [HCC.out]; simp)]; exact HO9.out⟩
          · by_cases hi : yi = us
            · subst hi
              have hi1 : (yi == yi) = true := by simp
              have hB5 : W1.heap.size ≤ wB.heap.size := hX5.size
              go_upto_region 9 with fail
              rw [← HWB.out]
              clear hc0 hc1 hc2 hc3
              go_wp2_with (first
                | (go_at_call 87; refine HC1.out.mono ?_; rintro e w5 ⟨rfl, rfl⟩)
                | (at_builtin; refine wpList_appendInt elInts rfl _ _ rfl rfl rfl HO9.out rfl hB5 (by omega) ?_; intro v6 w6 ho6 hb6))
              go_roundg (gk-1)
              case measure => omega
              case rel => exact ⟨t+1, _, by omega, by omega, by go_num, rfl, hX5.upto hb6 (Nat.le_refl _), by rw [HST.out, if_pos (by rw [HCC.out]; simp)]; exact ho6⟩
            · have hi1 : (yi == us) = false := by simp [hi]
              have HI := Lib.hid hi; clear hi
              go_upto_region 9 with fail
              rw [← HWB.out]
              clear hc0 hc1 hc2 hc3
              go_wp2_with (go_at_call 87; refine HC1.out.mono ?_; rintro e w5 ⟨rfl, rfl⟩)
              go_roundg (gk-1)
              case measure => omega
              case rel => exact ⟨t+1, _, by omega, by omega, by go_num, rfl, hX5, by rw [HST.out, if_neg (by rw [HCC.out]; simp [HI.out])]; exact HO9.out⟩
        · have HI9 : Hid (∃ N, N = (m.a.filter c).map Arc.t ∧ Ints wr (.slice a9 (((m.a.take t).filter c).map Arc.t).length c9) N) := by
            refine Lib.hid ⟨_, rfl, ?_⟩
            have := ho9.ints; rwa [List.take_of_length_le (by omega)] at this ⊢
          clear ho9
          generalize (((m.a.take t).filter c).map Arc.t).length = nl at *
          go_wp2_with fail
          go_roundg (g1-1)
          case measure => omega
          case rel =>
            obtain ⟨N, hN, hI⟩ := HI9.out
            exact ⟨k+1, _, N, by omega, by omega, by go_num, rfl, hEr2, hI, Lib.hid (by rw [hN]; exact HNX.out)⟩
    · have hku : k = u.length := by omega
      subst hku
      have HCF := Lib.hid (containsFunc_c _ S 111 #[.pointer (some ⟨w.heap.size, 0, none⟩)] (fun s => hasB m.e s) wr (enters_of Try.func111 (by kernel_rfl) rfl)
        (fun W i hW _ => leads1_c _ _ m _ w.heap.size W (HR.out.ext (hEr.trans hW)) (k0 W (hEr.trans hW)) (k1 W (hEr.trans hW)) (k2 W (hEr.trans hW))) HI7.out)
      have HIB : Hid (((List.range S.length).any fun i => (fun s => hasB m.e s) (S[i]?.getD 0)) = (leadGo m.a u S0).any (fun x => m.e.contains x)) := Lib.hid (by
        rw [any_range S (fun s => hasB m.e s), ← HGO.out, List.drop_length]
        simp only [hasB_contains]; rfl)
      rw [HIB.out] at HCF
      generalize hBq : (leadGo m.a u S0).any (fun x => m.e.contains x) = B at HCF
      have HBQ := Lib.hid hBq; clear hBq HIB
      go_wp2_with fail
      refine HCF.out.mono ?_; rintro e w5 ⟨rfl, hx5⟩
      go_wp2_with fail
      go_ret
      exact RV.bool HBQ.out.symm (hE0.trans (hEr.trans hx5))
end Go.Proofs.Ytodhmkbkcjpnkaa
