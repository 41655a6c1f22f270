/- Whether some run reads a word and writes another one: the program's is; its CheckTwo. -/
import Derived.Test.YtpbflkbelhlogaaMacH
import Derived.Test.YtpbflkbelhlogaaMacV
namespace Go.Proofs.Ytpbflkbelhlogaa
open Go.RowKit Go.Shelf
set_option linter.unusedVariables false

/-! ## plain -/
def isStep (us vs : Int) (now next : List Int) (a : Arc) : List Int := if (((hasB now a.f && a.i == us) && a.o == vs) && !hasB next a.t) = true then next ++ [a.t] else next
def isS (m : Mac) (u v : List Int) : Nat → List Int
  | 0 => [0]
  | k + 1 => m.a.foldl (isStep (u[k]?.getD 0) (v[k]?.getD 0) (isS m u v k)) []
def isB (m : Mac) (u v : List Int) : Bool := decide (u.length = v.length) && (List.range (isS m u v u.length).length).any fun i => hasB m.e ((isS m u v u.length)[i]?.getD 0)
theorem isF_len (us vs : Int) (now : List Int) : ∀ (ar : List Arc) (l : List Int), (ar.foldl (isStep us vs now) l).length ≤ l.length + ar.length
  | [], l => by simp
  | a :: ar, l => by
    have := isF_len us vs now ar (isStep us vs now l a)
    rw [List.foldl_cons, List.length_cons]
    have h2 : (isStep us vs now l a).length ≤ l.length + 1 := by unfold isStep; split <;> simp
    omega
theorem mem_isF (us vs : Int) (now : List Int) (s : Int) : ∀ (ar : List Arc) (l : List Int), s ∈ ar.foldl (isStep us vs now) l ↔ s ∈ l ∨ ∃ a ∈ ar, ((a.f ∈ now ∧ a.i = us) ∧ a.o = vs) ∧ a.t = s
  | [], l => by simp
  | a :: ar, l => by
    rw [List.foldl_cons, mem_isF us vs now s ar]
    unfold isStep
    by_cases hc : ((hasB now a.f && a.i == us) && a.o == vs) = true
    · have hc' : (a.f ∈ now ∧ a.i = us) ∧ a.o = vs := by simpa [hasB_eq] using hc
      rw [hc, Bool.true_and]
      by_cases hn : hasB l a.t = true
      · have hn' : a.t ∈ l := by simpa [hasB_eq] using hn
        rw [hn]
        simp only [Bool.not_true, Bool.false_eq_true, if_false]
        constructor
        · rintro (h | ⟨b, hb, h⟩)
          · exact .inl h
          · exact .inr ⟨b, by simp [hb], h⟩
        · rintro (h | ⟨b, hb, h1, h2⟩)
          · exact .inl h
          · rcases List.mem_cons.1 hb with rfl | hb
            · exact .inl (h2 ▸ hn')
            · exact .inr ⟨b, hb, h1, h2⟩
      · have hn' : hasB l a.t = false := by simpa using hn
        rw [hn']
        simp only [Bool.not_false, if_true]
        constructor
        · rintro (h | ⟨b, hb, h⟩)
          · rcases List.mem_append.1 h with h | h
            · exact .inl h
            · simp only [List.mem_cons, List.not_mem_nil, or_false] at h
              exact .inr ⟨a, by simp, hc', h.symm⟩
          · exact .inr ⟨b, by simp [hb], h⟩
        · rintro (h | ⟨b, hb, h1, h2⟩)
          · exact .inl (List.mem_append_left _ h)
          · rcases List.mem_cons.1 hb with rfl | hb
            · exact .inl (List.mem_append_right _ (by simp [h2]))
            · exact .inr ⟨b, hb, h1, h2⟩
    · have hc' : ((hasB now a.f && a.i == us) && a.o == vs) = false := by simpa using hc
      rw [hc', Bool.false_and]
      simp only [Bool.false_eq_true, if_false]
      constructor
      · rintro (h | ⟨b, hb, h⟩)
        · exact .inl h
        · exact .inr ⟨b, by simp [hb], h⟩
      · rintro (h | ⟨b, hb, h1, h2⟩)
        · exact .inl h
        · rcases List.mem_cons.1 hb with rfl | hb
          · exact absurd (by simpa [hasB_eq] using h1) hc
          · exact .inr ⟨b, hb, h1, h2⟩
theorem mem_isS {m : Mac} {n : Nat} (h : MacIn m n) (u v : List Int) : ∀ k s, s ∈ isS m u v k ↔ 0 ≤ s ∧ getB (relS n m.a u v k) s = true
  | 0, s => by
    rw [isS, relS]
    constructor
    · intro hs
      have : s = 0 := by simpa using hs
      subst this
      exact ⟨by omega, (getB_begin h.n1 (by omega)).2 rfl⟩
    · rintro ⟨h0, hb⟩
      have := (getB_begin h.n1 h0).1 hb
      simp [this]
  | k + 1, s => by
    rw [isS, relS, mem_isF]
    constructor
    · rintro (hs | ⟨a, ha, ⟨⟨h1, h2⟩, h3⟩, rfl⟩)
      · simp at hs
      · have hm := h.arcs a ha
        exact ⟨hm.2.1, (getB_ons _ _ (fun a ha => (h.arcs a ha).2) hm.2.1).2 ⟨a, ha, relC_iff.2 ⟨⟨h2, h3⟩, ((mem_isS h u v k a.f).1 h1).2⟩, rfl⟩⟩
    · rintro ⟨h0, hb⟩
      obtain ⟨a, ha, hc, hat⟩ := (getB_ons _ _ (fun a ha => (h.arcs a ha).2) h0).1 hb
      obtain ⟨⟨h1, h2⟩, h3⟩ := relC_iff.1 hc
      exact .inr ⟨a, ha, ⟨⟨(mem_isS h u v k a.f).2 ⟨(h.arcs a ha).1.1, h3⟩, h1⟩, h2⟩, hat⟩
theorem isB_rel {m : Mac} (h : MacIn m m.s.toNat) (u v : List Int) : isB m u v = relB m u v := by
  unfold isB relB relN
  congr 1
  rw [any_range (isS m u v u.length) (fun s => hasB m.e s), Bool.eq_iff_iff, endAt_iff h (relS_len _ _ _ _ _), List.any_eq_true]
  constructor
  · rintro ⟨s, hs, he⟩
    have := (mem_isS h u v u.length s).1 hs
    exact ⟨s, this.1, this.2, by simpa [hasB_eq] using he⟩
  · rintro ⟨s, h0, hb, he⟩
    exact ⟨s, (mem_isS h u v u.length s).2 ⟨h0, hb⟩, by simpa [hasB_eq] using he⟩

/-! ## walks -/
theorem is1_c (av ev : Value) (m : Mac) (s : Int) (g : Nat) (w : World) (h : MacR w av ev m) (k0 : w.cell? ⟨g, 0, none⟩ = some (.int .i64 m.s)) (k1 : w.cell? ⟨g, 1, none⟩ = some av) (k2 : w.cell? ⟨g, 2, none⟩ = some ev) :
    Calls Try.prog 102 #[.int .i64 s, .pointer (some ⟨g, 0, none⟩)] w (RV (.bool (hasB m.e s)) w) := by
  have HEC := Lib.hid (ends_c av ev m s w h)
  obtain ⟨aa, ca, rfl, hla, hma, HA⟩ := h.a.open_
  obtain ⟨ae, ce, rfl, hle, hme, HE⟩ := h.e.open_
  clear h
  go_enter Try.func102, Try.ntmps102
  go_wp2_with fail
  refine HEC.out.mono ?_; rintro e w1 ⟨rfl, hx1⟩
  go_wp2_with fail
  go_ret
  exact RV.bool rfl hx1

set_option maxHeartbeats 8000000 in
set_option maxRecDepth 100000 in
theorem is_c (av ev uv vv : Value) (m : Mac) (u v : List Int) (w : World) (h : MacR w av ev m) (hu : Ints w uv u) (hv : Ints w vv v) (hal : m.a.length ≤ 100000) :
    Calls Try.prog 83 #[.agg #[.int .i64 m.s, av, ev], uv, vv] w (RV (.bool (isB m u v)) w) := by
  obtain ⟨wA, hwA⟩ : ∃ wA, wA = w.alloc (.cells #[.int .i64 m.s, av, ev] 25) := ⟨_, rfl⟩
  have hE0 : Ext w wA := by rw [hwA]; exact Ext.alloc _ _
  have k0 : ∀ W, Ext wA W → W.cell? ⟨w.heap.size, 0, none⟩ = some (.int .i64 m.s) := by rw [hwA]; exact kept_alloc w _ _ rfl
  have k1 : ∀ W, Ext wA W → W.cell? ⟨w.heap.size, 1, none⟩ = some av := by rw [hwA]; exact kept_alloc w _ _ rfl
  have k2 : ∀ W, Ext wA W → W.cell? ⟨w.heap.size, 2, none⟩ = some ev := by rw [hwA]; exact kept_alloc w _ _ rfl
  have H0 : Ext wA wA := Ext.refl _
  have HR := Lib.hid (h.ext hE0)
  obtain ⟨aa, ca, rfl, hla, hma, HA⟩ := (h.ext hE0).a.open_
  obtain ⟨ae, ce, rfl, hle, hme, HE⟩ := (h.ext hE0).e.open_
  obtain ⟨au, cu, rfl, hlu, hmu, HU⟩ := (hu.ext hE0).open_
  obtain ⟨av2, cv, rfl, hlv, hmv, HV⟩ := (hv.ext hE0).open_
  have HW := Lib.hid hwA; clear hwA h hu hv
  by_cases hl : u.length = v.length
  · have hd : ((u.length : Int) != (v.length : Int)) = false := by simp [hl]
    have HIB : Hid (isB m u v = (List.range (isS m u v u.length).length).any fun i => hasB m.e ((isS m u v u.length)[i]?.getD 0)) := Lib.hid (by rw [isB, decide_eq_true hl, Bool.true_and])
    have HL := Lib.hid hl; clear hl
    have hx0 := Ext.alloc wA (.cells #[.int .i64 0] 3)
    have hI0 : Ints (wA.alloc (.cells #[.int .i64 0] 3)) (.slice (some ⟨wA.heap.size, 0, none⟩) 1 1) (isS m u v 0) := by
      have := BInts.ints (W := wA.alloc (.cells #[.int .i64 0] 3)) (g := wA.heap.size) (l := [0]) (Blk.alloc wA _ _) (by simp)
      exact this
    rw [show wA.heap.size = w.heap.size + 1 by rw [HW.out]; simp] at hI0
    have HI0 := Lib.hid hI0; clear hI0
    go_enter Try.func83, Try.ntmps83
    go_wp2_with fail
    rw [← HW.out]
    go_loopg [20, 7] u.length (fun z i v7 wr => ∃ (k : Nat) (t7 : Value), k ≤ u.length ∧ u.length ≤ k + z ∧ i = .int .i64 k ∧ t7 = v7 ∧ Ext wA wr ∧ Ints wr t7 (isS m u v k))
    case atStart => exact ⟨0, _, by omega, by omega, rfl, rfl, hx0, HI0.out⟩
    case round =>
      clear hx0 HI0
      obtain ⟨k, t7, hk, hkz, rfl, rfl, hEr, hI7⟩ := hrel
      obtain ⟨g1, rfl⟩ : ∃ g : Nat, g = gk := ⟨_, rfl⟩
      have HI7 := Lib.hid hI7
      obtain ⟨a7, c7, rfl, _, _, _⟩ := hI7.open_
      clear hI7
      by_cases hltk : k < u.length
      · obtain ⟨bu, ou, rfl, hcu⟩ := HU.out k hltk
        obtain ⟨bv, ov, rfl, hcv⟩ := HV.out k (by rw [← HL.out]; exact hltk)
        have hltv : k < v.length := by rw [← HL.out]; exact hltk
        have HNX : Hid (isS m u v (k + 1) = m.a.foldl (isStep (u[k]?.getD 0) (v[k]?.getD 0) (isS m u v k)) []) := Lib.hid rfl
        generalize isS m u v k = S at *
        generalize u[k]?.getD 0 = us at *
        generalize v[k]?.getD 0 = vs at *
        obtain ⟨W1, rfl⟩ : ∃ W : World, W = wr := ⟨_, rfl⟩
        replace hcu := hEr.keep hcu
        replace hcv := hEr.keep hcv
        go_wp2_with fail
        go_loopg [26, 9] m.a.length (fun z i v9 wr => ∃ (t : Nat) (t9 : Value), t ≤ m.a.length ∧ m.a.length ≤ t + z ∧ i = .int .i64 t ∧ t9 = v9 ∧ Ext W1 wr ∧ OInts 3 wr W1.heap.size t9 ((m.a.take t).foldl (isStep us vs S) []))
        case atStart => exact ⟨0, _, by omega, by omega, rfl, rfl, Ext.refl _, OInts.nil _ _ _⟩
        case round =>
          obtain ⟨t, t9, ht, htz, rfl, rfl, hX1, ho9⟩ := hrel
          have hEr2 : Ext wA wr := hEr.trans hX1
          obtain ⟨a9, c9, rfl, _, _, _⟩ := ho9.ints.open_
          by_cases hlt : t < m.a.length
          · obtain ⟨ba, oa, rfl, hc0, hc1, hc2, hc3⟩ := HA.out t hlt
            replace hc0 := hEr2.keep hc0
            replace hc1 := hEr2.keep hc1
            replace hc2 := hEr2.keep hc2
            replace hc3 := hEr2.keep hc3
            have HST := Lib.hid (foldA_next hlt (isStep us vs S) ([] : List Int))
            have hlen := isF_len us vs S (m.a.take t) []
            have hlt9 : (m.a.take t).length ≤ m.a.length := by simp; omega
            rw [List.length_nil] at hlen
            generalize arcA m.a t = y at *
            generalize (m.a.take t).foldl (isStep us vs S) [] = N at *
            have hlN : N.length ≤ 1000000 := by omega
            clear hlen hlt9
            obtain ⟨yf, yt, yi, yo⟩ := y
            simp only at hc0 hc1 hc2 hc3
            obtain ⟨wB, hwB⟩ : ∃ wB, wB = wr.alloc (.cells #[.int .i64 yf, .int .i64 yt, .int .i64 yi, .int .i64 yo] 50) := ⟨_, rfl⟩
            have hEB : Ext wr wB := by rw [hwB]; exact Ext.alloc _ _
            have b0 : ∀ W, Ext wB W → W.cell? ⟨wr.heap.size, 0, none⟩ = some (.int .i64 yf) := by rw [hwB]; exact kept_alloc wr _ _ rfl
            have b1 : ∀ W, Ext wB W → W.cell? ⟨wr.heap.size, 1, none⟩ = some (.int .i64 yt) := by rw [hwB]; exact kept_alloc wr _ _ rfl
            have b2 : ∀ W, Ext wB W → W.cell? ⟨wr.heap.size, 2, none⟩ = some (.int .i64 yi) := by rw [hwB]; exact kept_alloc wr _ _ rfl
            have b3 : ∀ W, Ext wB W → W.cell? ⟨wr.heap.size, 3, none⟩ = some (.int .i64 yo) := by rw [hwB]; exact kept_alloc wr _ _ rfl
            have HWB := Lib.hid hwB; clear hwB
            have hs : ∀ s : Later wB, Ext wB s.w := fun s => s.ext
            have q0 := fun s : Later wB => (hX1.trans (hEB.trans s.ext)).keep hcu
            have q1 := fun s : Later wB => (hX1.trans (hEB.trans s.ext)).keep hcv
            have HC1 := Lib.hid (fun s : Later wB => contains_c _ S yf s.w (HI7.out.ext (hX1.trans (hEB.trans s.ext))))
            have HC2 := Lib.hid (fun s : Later wB => contains_c _ N yt s.w (ho9.ints.ext (hEB.trans s.ext)))
            have HNO : Hid (isStep us vs S N ⟨yf, yt, yi, yo⟩ = if (((hasB S yf && yi == us) && yo == vs) && !hasB N yt) = true then N ++ [yt] else N) := Lib.hid rfl
            generalize hasB S yf = b1_ at *
            generalize hasB N yt = b2_ at *
            cases b1_
            · go_wp2_with fail
              rw [← HWB.out]
              clear hc0 hc1 hc2 hc3
              refine wp_region_later (by kernel_rfl) (by kernel_rfl) ?_
              repeat (go_big_quiet_step ((first | (go_at_call 90; first | with_reducible exact Later.callP (HC1.out _) | with_reducible exact Later.callP (HC2.out _)))))
              refine wpQuiet_nil ?_
              intro w5 hw'
              obtain ⟨⟨_, hx5⟩, rfl⟩ := hw'
              clear hs q0 q1
              have hX5 : Ext W1 w5 := hX1.trans (hEB.trans hx5)
              have ho5 : OInts 3 w5 W1.heap.size (.slice a9 N.length c9) N := (ho9.ext hEB).ext hx5
              clear ho9
              have HO5 := Lib.hid ho5; clear ho5
              go_wp2_with fail
              go_roundg (gk-1)
              case measure => omega
              case rel => exact ⟨t+1, _, by omega, by omega, by go_num, rfl, hX5, by rw [HST.out, HNO.out, if_neg (by simp)]; exact HO5.out⟩
            · by_cases hi : yi = us
              · by_cases ho : yo = vs
                · subst hi ho
                  have hi1 : (yi == yi) = true := by simp
                  have ho1 : (yo == yo) = true := by simp
                  cases b2_
                  · go_wp2_with fail
                    rw [← HWB.out]
                    clear hc0 hc1 hc2 hc3
                    refine wp_region_later (by kernel_rfl) (by kernel_rfl) ?_
                    repeat (go_big_quiet_step ((first | (go_at_call 90; first | with_reducible exact Later.callP (HC1.out _) | with_reducible exact Later.callP (HC2.out _)))))
                    refine wpQuiet_nil ?_
                    intro w5 hw'
                    obtain ⟨⟨_, hx5⟩, rfl⟩ := hw'
                    clear hs q0 q1
                    have hX5 : Ext W1 w5 := hX1.trans (hEB.trans hx5)
                    have ho5 : OInts 3 w5 W1.heap.size (.slice a9 N.length c9) N := (ho9.ext hEB).ext hx5
                    clear ho9
                    have HO5 := Lib.hid ho5; clear ho5
                    have hB5 : W1.heap.size ≤ w5.heap.size := hX5.size
                    have hXB : Ext wB w5 := hx5
                    go_wp2_with (at_builtin; refine wpList_appendInt elInts rfl _ _ rfl rfl rfl HO5.out rfl hB5 (by omega) ?_; intro v6 w6 ho6 hb6)
                    go_roundg (gk-1)
                    case measure => omega
                    case rel => exact ⟨t+1, _, by omega, by omega, by go_num, rfl, hX5.upto hb6 (Nat.le_refl _), by rw [HST.out, HNO.out, if_pos (by simp)]; exact ho6⟩
                  · go_wp2_with fail
                    rw [← HWB.out]
                    clear hc0 hc1 hc2 hc3
                    refine wp_region_later (by kernel_rfl) (by kernel_rfl) ?_
                    repeat (go_big_quiet_step ((first | (go_at_call 90; first | with_reducible exact Later.callP (HC1.out _) | with_reducible exact Later.callP (HC2.out _)))))
                    refine wpQuiet_nil ?_
                    intro w5 hw'
                    obtain ⟨⟨_, hx5⟩, rfl⟩ := hw'
                    clear hs q0 q1
                    have hX5 : Ext W1 w5 := hX1.trans (hEB.trans hx5)
                    have ho5 : OInts 3 w5 W1.heap.size (.slice a9 N.length c9) N := (ho9.ext hEB).ext hx5
                    clear ho9
                    have HO5 := Lib.hid ho5; clear ho5
                    go_wp2_with fail
                    go_roundg (gk-1)
                    case measure => omega
                    case rel => exact ⟨t+1, _, by omega, by omega, by go_num, rfl, hX5, by rw [HST.out, HNO.out, if_neg (by simp)]; exact HO5.out⟩
                · subst hi
                  have hi1 : (yi == yi) = true := by simp
                  have ho1 : (yo == vs) = false := by simp [ho]
                  have HO := Lib.hid ho; clear ho
                  go_wp2_with fail
                  rw [← HWB.out]
                  clear hc0 hc1 hc2 hc3
                  refine wp_region_later (by kernel_rfl) (by kernel_rfl) ?_
                  repeat (go_big_quiet_step ((first | (go_at_call 90; first | with_reducible exact Later.callP (HC1.out _) | with_reducible exact Later.callP (HC2.out _)))))
                  refine wpQuiet_nil ?_
                  intro w5 hw'
                  obtain ⟨⟨_, hx5⟩, rfl⟩ := hw'
                  clear hs q0 q1
                  have hX5 : Ext W1 w5 := hX1.trans (hEB.trans hx5)
                  have ho5 : OInts 3 w5 W1.heap.size (.slice a9 N.length c9) N := (ho9.ext hEB).ext hx5
                  clear ho9
                  have HO5 := Lib.hid ho5; clear ho5
                  go_wp2_with fail
                  go_roundg (gk-1)
                  case measure => omega
                  case rel => exact ⟨t+1, _, by omega, by omega, by go_num, rfl, hX5, by rw [HST.out, HNO.out, if_neg (by simp [HO.out])]; exact HO5.out⟩
              · have hi1 : (yi == us) = false := by simp [hi]
                have HI := Lib.hid hi; clear hi
                go_wp2_with fail
                rw [← HWB.out]
                clear hc0 hc1 hc2 hc3
                refine wp_region_later (by kernel_rfl) (by kernel_rfl) ?_
                repeat (go_big_quiet_step ((first | (go_at_call 90; first | with_reducible exact Later.callP (HC1.out _) | with_reducible exact Later.callP (HC2.out _)))))
                refine wpQuiet_nil ?_
                intro w5 hw'
                obtain ⟨⟨_, hx5⟩, rfl⟩ := hw'
                clear hs q0 q1
                have hX5 : Ext W1 w5 := hX1.trans (hEB.trans hx5)
                have ho5 : OInts 3 w5 W1.heap.size (.slice a9 N.length c9) N := (ho9.ext hEB).ext hx5
                clear ho9
                have HO5 := Lib.hid ho5; clear ho5
                go_wp2_with fail
                go_roundg (gk-1)
                case measure => omega
                case rel => exact ⟨t+1, _, by omega, by omega, by go_num, rfl, hX5, by rw [HST.out, HNO.out, if_neg (by simp [HI.out])]; exact HO5.out⟩
          · have hI9 : Ints wr (.slice a9 ((m.a.take t).foldl (isStep us vs S) []).length c9) (isS m u v (k + 1)) := by rw [HNX.out]; have := ho9.ints; rwa [List.take_of_length_le (by omega)] at this ⊢
            have HI9 := Lib.hid hI9
            clear ho9 hI9
            go_wp2_with fail
            go_roundg (g1-1)
            case measure => omega
            case rel => exact ⟨k+1, _, by omega, by omega, by go_num, rfl, hEr2, HI9.out⟩
      · have hku : k = u.length := by omega
        subst hku
        generalize isS m u v u.length = S at *
        have HCF := Lib.hid (containsFunc_c _ S 102 #[.pointer (some ⟨w.heap.size, 0, none⟩)] (fun s => hasB m.e s) wr (enters_of Try.func102 (by kernel_rfl) rfl)
          (fun W i hW _ => is1_c _ _ m _ w.heap.size W (HR.out.ext (hEr.trans hW)) (k0 W (hEr.trans hW)) (k1 W (hEr.trans hW)) (k2 W (hEr.trans hW))) HI7.out)
        rw [← HIB.out] at HCF
        generalize isB m u v = B at *
        go_wp2_with fail
        refine HCF.out.mono ?_; rintro e w5 ⟨rfl, hx5⟩
        go_wp2_with fail
        go_ret
        exact RV.bool rfl (hE0.trans (hEr.trans hx5))
  · have hd : ((u.length : Int) != (v.length : Int)) = true := by simp; omega
    have HIB : Hid (isB m u v = false) := Lib.hid (by rw [isB, decide_eq_false hl, Bool.false_and])
    clear hl
    go_enter Try.func83, Try.ntmps83
    go_wp2_with fail
    rw [← HW.out]
    go_ret
    exact RV.bool (by rw [HIB.out]) hE0

set_option maxHeartbeats 400000 in
theorem indexFuncR_c (va : Value) (l : List (List Int)) (g : Nat) (lb : Array Value) (p : List Int → Bool) (w : World) (eg : Enters Try.prog g)
    (hg : ∀ W (x : List Int) (xv : Value), Ext w W → Ints W xv x → Calls Try.prog g (#[xv] ++ lb) W (RV (.bool (p x)) W)) (ha : Rows w va l) :
    Calls Try.prog 99 #[va, .func (.func g) #[] lb] w (RV (.int .i64 (firstIdx l.length fun i => p (l[i]?.getD []))) w) := by
  obtain ⟨aa, ca, rfl, hla, hma, Ha⟩ := Rows.open_ ha
  clear ha
  unfold Enters at eg
  have Hg := Lib.hid hg; clear hg
  go_enter Try.func99, Try.ntmps99
  go_wp2_with fail
  go_loopg [8] l.length (fun m i wr => ∃ k : Nat, k ≤ l.length ∧ l.length ≤ k + m ∧ i = .int .i64 k ∧ Ext w wr ∧ Hid (∀ j, j < k → p (l[j]?.getD []) = false))
  case atStart => exact ⟨0, by omega, by omega, rfl, Ext.refl _, fun j hj => by omega⟩
  case round =>
    obtain ⟨k, hk, hk2, rfl, hB, hE⟩ := hrel
    by_cases hlt : k < l.length
    · obtain ⟨ba, oa, rfl, u, hc1, hi⟩ := Ha.out k hlt
      replace hc1 := hB.keep hc1
      have HG := Lib.hid (Hg.out wr _ u hB (hi.ext hB))
      clear hi
      generalize hx : l[k]?.getD [] = x at *
      have Hx := Lib.hid hx; clear hx
      cases hxy : p x
      · have HX := Lib.hid hxy; clear hxy
        go_wp2_with (go_at_fn g; refine (HG.out).mono ?_; rw [HX.out]; rintro e w' ⟨rfl, hB2⟩)
        go_roundg (gk-1)
        case measure => omega
        case rel => exact ⟨k+1, by omega, by omega, by go_num, hB.trans hB2, range_step hE.out (by rw [Hx.out]; exact HX.out)⟩
      · have HX := Lib.hid hxy; clear hxy
        go_wp2_with (go_at_fn g; refine (HG.out).mono ?_; rw [HX.out]; rintro e w' ⟨rfl, hB2⟩)
        go_ret
        exact RV.int (by rw [firstIdx_at hlt (by rw [Hx.out]; exact HX.out) hE.out]) (hB.trans hB2)
    · go_wp2_with fail
      go_ret
      exact RV.int (by rw [firstIdx_none (fun j hj => hE.out j (by omega))]) hB
set_option maxHeartbeats 400000 in
theorem containsFuncR_c (va : Value) (l : List (List Int)) (g : Nat) (lb : Array Value) (p : List Int → Bool) (w : World) (eg : Enters Try.prog g)
    (hg : ∀ W (x : List Int) (xv : Value), Ext w W → Ints W xv x → Calls Try.prog g (#[xv] ++ lb) W (RV (.bool (p x)) W)) (ha : Rows w va l) :
    Calls Try.prog 79 #[va, .func (.func g) #[] lb] w (RV (.bool ((List.range l.length).any fun i => p (l[i]?.getD []))) w) := by
  have HH := Lib.hid (indexFuncR_c va l g lb p w eg hg ha); clear hg
  rw [← firstIdx_ge]
  generalize firstIdx l.length (fun i => p (l[i]?.getD [])) = n at *
  go_enter Try.func79, Try.ntmps79
  go_wp2_with (go_at_call 99; refine HH.out.mono ?_; rintro e w' ⟨rfl, hB2⟩)
  go_ret
  exact RV.bool rfl hB2
theorem checkTwo1_c (xv : Value) (x : List Int) (w : World) (h : Ints w xv x) : Calls Try.prog 80 #[xv] w (RV (.bool (decide (200 < (x.length : Int)))) w) := by
  obtain ⟨a, c, rfl, _, _, _⟩ := h.open_
  clear h
  go_enter Try.func80, Try.ntmps80
  go_wp2_with fail
  go_ret
  exact RV.bool rfl (Ext.refl _)
theorem longs_any (l : List (List Int)) : ((List.range l.length).any fun i => decide (200 < ((l[i]?.getD []).length : Int))) = longs l := by
  unfold longs
  rw [Bool.eq_iff_iff, List.any_eq_true, List.any_eq_true]
  constructor
  · rintro ⟨i, hi, hp⟩
    have hi : i < l.length := by simpa using hi
    exact ⟨l[i], List.getElem_mem hi, by rwa [List.getElem?_eq_getElem hi] at hp⟩
  · rintro ⟨x, hx, hp⟩
    obtain ⟨i, hi, rfl⟩ := List.mem_iff_getElem.1 hx
    exact ⟨i, by simpa using hi, by rw [List.getElem?_eq_getElem hi]; exact hp⟩
theorem wordsK_one (most : Int) (x : List Int) : wordsK most [x] = wordK most x := by
  rw [wordsK, wordsK]; split <;> simp_all
set_option maxHeartbeats 4000000 in
set_option maxRecDepth 100000 in
theorem CheckTwo_c (av ev wv uv vv : Value) (m : Mac) (x u v : List Int) (w : World) (h : MacR w av ev m) (hx : Ints w wv x) (hu : Ints w uv u) (hv : Ints w vv v) (hal : m.a.length ≤ 100000) :
    Calls Try.prog 45 #[.agg #[.int .i64 m.s, av, ev], wv, uv, vv] w (RV (.int .i64 (checkTwoK m x u v)) w) := by
  obtain ⟨wA, hwA⟩ : ∃ wA, wA = w.alloc (.cells #[.int .i64 m.s, av, ev] 25) := ⟨_, rfl⟩
  have hE0 : Ext w wA := by rw [hwA]; exact Ext.alloc _ _
  have k0 : ∀ W, Ext wA W → W.cell? ⟨w.heap.size, 0, none⟩ = some (.int .i64 m.s) := by rw [hwA]; exact kept_alloc w _ _ rfl
  have k1 : ∀ W, Ext wA W → W.cell? ⟨w.heap.size, 1, none⟩ = some av := by rw [hwA]; exact kept_alloc w _ _ rfl
  have k2 : ∀ W, Ext wA W → W.cell? ⟨w.heap.size, 2, none⟩ = some ev := by rw [hwA]; exact kept_alloc w _ _ rfl
  have H0 : Ext wA wA := Ext.refl _
  have HV := Lib.hid (Validate_c av ev m wA (h.ext hE0))
  have HR := Lib.hid (h.ext hE0)
  obtain ⟨aa, ca, rfl, hla, hma, HA⟩ := (h.ext hE0).a.open_
  obtain ⟨ae, ce, rfl, hle, hme, HE⟩ := (h.ext hE0).e.open_
  obtain ⟨ax, cx, rfl, hlx, hmx, HX⟩ := hx.open_
  obtain ⟨au, cu, rfl, hlu, hmu, HU⟩ := hu.open_
  obtain ⟨av, cv, rfl, hlv, hmv, HVV⟩ := hv.open_
  clear HX HU HVV
  have HIX := Lib.hid (hx.ext hE0)
  have HIU := Lib.hid (hu.ext hE0)
  have HIV := Lib.hid (hv.ext hE0)
  have HW := Lib.hid hwA; clear hwA h hx hu hv
  by_cases h0 : validM m = 0
  · have HMI := Lib.hid (validM_mac h0).in_
    have HCK : Hid (checkTwoK m x u v = if longs [x, u, v] then 3 else if bads [x, u, v] then 1 else if badTwo m x u v then 7 else 0) := Lib.hid (by rw [checkTwoK, if_pos h0])
    rw [h0] at HV
    clear h0
    generalize checkTwoK m x u v = CK at *
    go_enter Try.func45, Try.ntmps45
    go_wp2_with fail
    rw [← HW.out]
    refine HV.out.mono ?_; rintro e w1 ⟨rfl, hx1⟩
    obtain ⟨w2, hw2⟩ : ∃ w2, w2 = w1.alloc (.cells #[.slice ax x.length cx, .slice au u.length cu, .slice av v.length cv] 23) := ⟨_, rfl⟩
    have hx2 : Ext wA w2 := by rw [hw2]; exact hx1.trans (Ext.alloc _ _)
    have hRows : Rows w2 (.slice (some ⟨w1.heap.size, 0, none⟩) 3 3) [x, u, v] := by
      rw [hw2]; exact rows_new w1 [.slice ax x.length cx, .slice au u.length cu, .slice av v.length cv] [x, u, v] (AllInts.cons (HIX.out.ext hx1) (AllInts.cons (HIU.out.ext hx1) (AllInts.cons (HIV.out.ext hx1) (AllInts.nil _)))) (by simp)
    obtain ⟨a3, c3, he3, hl3, hm3, H3⟩ := Rows.open_ hRows
    obtain ⟨rfl, rfl⟩ : a3 = some ⟨w1.heap.size, 0, none⟩ ∧ c3 = 3 := by
      injection he3 with h1 _ h2; exact ⟨h1.symm, h2.symm⟩
    generalize hls : [x, u, v] = ls at *
    have hll : ls.length = 3 := by rw [← hls]; rfl
    have HCF := Lib.hid (by have := containsFuncR_c _ ls 80 #[] (fun x => decide (200 < (x.length : Int))) w2 (enters_of Try.func80 (by kernel_rfl) rfl) (fun W x xv _ hi => checkTwo1_c xv x W hi) hRows; rwa [longs_any] at this)
    have HW2 := Lib.hid hw2; clear hw2 he3 hRows
    go_wp2_with fail
    rw [← HW2.out]
    generalize hlb : longs ls = lb at *
    clear hlb
    cases lb
    · have HCK2 : Hid (CK = if bads ls then 1 else if badTwo m x u v then 7 else 0) := by rw [HCK.out]; exact Lib.hid rfl
      refine HCF.out.mono ?_; rintro e w3 ⟨rfl, hx3⟩
      have hX3 := hx2.trans hx3
      go_wp2_with fail
      go_loopg [26] 3 (fun z i wr => ∃ k : Nat, k ≤ 3 ∧ 3 ≤ k + z ∧ i = .int .i64 k ∧ Ext w2 wr ∧ Hid (∀ j, j < k → (wordK 200 (ls[j]?.getD []) != 0) = false))
      case atStart => exact ⟨0, by omega, by omega, rfl, hx3, Lib.hid (fun j hj => by omega)⟩
      case round =>
        clear hx3 hX3
        obtain ⟨k, hk, hkz, rfl, hX, hall⟩ := hrel
        have hxr : Ext wA wr := hx2.trans hX
        by_cases hlt : k < 3
        · obtain ⟨ba, oa, hb, u3, hc, hi3⟩ := H3.out k (by omega)
          injection hb with hb; injection hb with hb1 hb2 _; subst hb1 hb2
          rw [Nat.zero_add] at hc
          obtain ⟨a4, c4, rfl, _, _, _⟩ := hi3.open_
          replace hc := hX.keep hc
          have hst := Lib.hid (fun h => range_step (f := fun j => wordK 200 (ls[j]?.getD []) != 0) hall.out h)
          have hbd := Lib.hid (fun h => bads_true (l := ls) (k := k) (by omega) h)
          generalize ls[k]?.getD [] = el at *
          have HSN := Lib.hid (by have := sounds_c _ [el] 200 _ (rows_one wr (hi3.ext hX)); rwa [wordsK_one] at this)
          clear hi3
          have hxa := Ext.alloc wr (.cells #[.slice a4 el.length c4] 23)
          by_cases h2 : wordK 200 el = 0
          · rw [h2] at HSN hst
            clear h2
            go_wp2_with fail
            refine HSN.out.mono ?_; rintro e w4 ⟨rfl, hx4⟩
            go_wp2_with fail
            go_roundg (gk-1)
            case measure => omega
            case rel => exact ⟨k+1, by omega, by omega, by go_num, hX.trans (hxa.trans hx4), Lib.hid (hst.out rfl)⟩
          · have h3 : (wordK 200 el != 0) = true := by simp [h2]
            clear h2
            have HBD := Lib.hid (hbd.out h3)
            generalize wordK 200 el = wk at *
            go_wp2_with fail
            refine HSN.out.mono ?_; rintro e w4 ⟨rfl, hx4⟩
            go_wp2_with fail
            go_ret
            exact RV.int (by rw [HCK2.out, HBD.out]; rfl) (hE0.trans (hxr.trans (hxa.trans hx4)))
        · have HCK3 : Hid (CK = if badTwo m x u v then 7 else 0) := by
            rw [HCK2.out, if_neg (by rw [bads_false (fun j hj => hall.out j (by omega))]; exact Bool.false_ne_true)]; exact Lib.hid rfl
          have HBT : Hid (badTwo m x u v = ((sameIntsB u v || !relB m x u) || !relB m x v)) := Lib.hid rfl
          have HSI := Lib.hid (equalInts_c _ _ u v wr (HIU.out.ext hxr) (HIV.out.ext hxr))
          have HR1 := Lib.hid (fun W (hW : Ext wA W) => by have := is_c _ _ _ _ m x u W (HR.out.ext hW) (HIX.out.ext hW) (HIU.out.ext hW) hal; rwa [isB_rel HMI.out] at this)
          have HR2 := Lib.hid (fun W (hW : Ext wA W) => by have := is_c _ _ _ _ m x v W (HR.out.ext hW) (HIX.out.ext hW) (HIV.out.ext hW) hal; rwa [isB_rel HMI.out] at this)
          generalize sameIntsB u v = b0 at *
          generalize relB m x u = b1 at *
          generalize relB m x v = b2 at *
          have FIN : ∀ (b : Bool) (k : Int) W, badTwo m x u v = b → (k = if b then 7 else 0) → Ext wA W → RV (.int .i64 CK) w (.returned (.int .i64 k)) W := fun b k W h1 h2 h3 => RV.int (by rw [HCK3.out, h1, h2]) (hE0.trans h3)
          have HFIN := Lib.hid FIN; clear FIN
          cases b0
          · cases b1
            · go_wp2_with fail
              refine HSI.out.mono ?_; rintro e w4 ⟨rfl, n4, hw4⟩
              have hx4 : Ext wA w4 := hxr.trans (by rw [hw4]; exact Ext.drewN _ _)
              clear hw4
              go_wp2_with fail
              refine (HR1.out w4 hx4).mono ?_; rintro e w5 ⟨rfl, hx5⟩
              replace hx5 := hx4.trans hx5
              go_wp2_with fail
              go_ret
              exact HFIN.out true _ _ (by rw [HBT.out]; rfl) rfl hx5
            · cases b2
              · go_wp2_with fail
                refine HSI.out.mono ?_; rintro e w4 ⟨rfl, n4, hw4⟩
                have hx4 : Ext wA w4 := hxr.trans (by rw [hw4]; exact Ext.drewN _ _)
                clear hw4
                go_wp2_with fail
                refine (HR1.out w4 hx4).mono ?_; rintro e w5 ⟨rfl, hx5⟩
                replace hx5 := hx4.trans hx5
                go_wp2_with fail
                refine (HR2.out w5 hx5).mono ?_; rintro e w6 ⟨rfl, hx6⟩
                replace hx6 := hx5.trans hx6
                go_wp2_with fail
                go_ret
                exact HFIN.out true _ _ (by rw [HBT.out]; rfl) rfl hx6
              · go_wp2_with fail
                refine HSI.out.mono ?_; rintro e w4 ⟨rfl, n4, hw4⟩
                have hx4 : Ext wA w4 := hxr.trans (by rw [hw4]; exact Ext.drewN _ _)
                clear hw4
                go_wp2_with fail
                refine (HR1.out w4 hx4).mono ?_; rintro e w5 ⟨rfl, hx5⟩
                replace hx5 := hx4.trans hx5
                go_wp2_with fail
                refine (HR2.out w5 hx5).mono ?_; rintro e w6 ⟨rfl, hx6⟩
                replace hx6 := hx5.trans hx6
                go_wp2_with fail
                go_ret
                exact HFIN.out false _ _ (by rw [HBT.out]; rfl) rfl hx6
          · go_wp2_with fail
            refine HSI.out.mono ?_; rintro e w4 ⟨rfl, n4, hw4⟩
            have hx4 : Ext wA w4 := hxr.trans (by rw [hw4]; exact Ext.drewN _ _)
            clear hw4
            go_wp2_with fail
            go_ret
            exact HFIN.out true _ _ (by rw [HBT.out]; rfl) rfl hx4
    · refine HCF.out.mono ?_; rintro e w3 ⟨rfl, hx3⟩
      go_wp2_with fail
      go_ret
      exact RV.int (by rw [HCK.out]; rfl) (hE0.trans (hx2.trans hx3))
  · have hk : (validM m != 0) = true := by simp [h0]
    have HCK : Hid (checkTwoK m x u v = validM m) := Lib.hid (by rw [checkTwoK, if_neg h0])
    rw [HCK.out]
    generalize validM m = k at *
    clear h0
    go_enter Try.func45, Try.ntmps45
    go_wp2_with fail
    rw [← HW.out]
    refine HV.out.mono ?_; rintro e w1 ⟨rfl, hx1⟩
    go_wp2_with fail
    go_ret
    exact RV.int rfl (hE0.trans hx1)
end Go.Proofs.Ytpbflkbelhlogaa
