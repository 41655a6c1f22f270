/- A rule at all its places at once; both packages. -/
import Derived.Test.YthmdecgkbjdabaaRulF
namespace Go.Proofs.Ythmdecgkbjdabaa
open Go.RowKit Go.Shelf
attribute [local go_sem] Oper.semAt_some
set_option linter.unusedVariables false

/-! ## plain -/
def allTo (x : Rul) (l : List Int) : Nat → List Int
  | 0 => l
  | k + 1 => putL x (allTo x l k) ((placesL x l)[(placesL x l).length - 1 - k]?.getD 0).toNat
def allL (x : Rul) (l : List Int) : List Int := allTo x l (placesL x l).length
theorem sel_get {n : Nat} {f : Nat → Bool} {k : Nat} (hk : k < (sel n f).length) : ∃ i : Nat, i < n ∧ f i = true ∧ (sel n f)[k]?.getD 0 = i := by
  have hm := List.getElem_mem hk
  simp only [sel, List.mem_map, List.mem_filter, List.mem_range] at hm
  obtain ⟨i, ⟨h1, h2⟩, he⟩ := hm
  exact ⟨i, h1, h2, by rw [List.getElem?_eq_getElem hk]; exact he.symm⟩
theorem sel_sorted {n : Nat} {f : Nat → Bool} {k m : Nat} (hk : k < m) (hm : m < (sel n f).length) : (sel n f)[k]?.getD 0 < (sel n f)[m]?.getD 0 := by
  have hs : (sel n f).Pairwise (· < ·) := by
    unfold sel
    rw [List.pairwise_map]
    refine (List.Pairwise.filter _ List.pairwise_lt_range).imp ?_
    intro a b h; exact Int.ofNat_lt.2 h
  have hkl : k < (sel n f).length := by omega
  have := List.pairwise_iff_getElem.1 hs k m hkl hm hk
  rw [List.getElem?_eq_getElem hkl, List.getElem?_eq_getElem hm]
  exact this
/-- what holds of the word after k places, from the last one on -/
theorem all_inv (x : Rul) (l : List Int) (ht : x.t.length ≤ 2) : ∀ k, k ≤ (placesL x l).length → (allTo x l k).length ≤ l.length + k * 2 ∧
    (k = 0 → (allTo x l k).length = l.length) ∧ (0 < k → ((placesL x l)[(placesL x l).length - k]?.getD 0) ≤ (allTo x l k).length)
  | 0, _ => ⟨by simp [allTo], fun _ => rfl, fun h => by omega⟩
  | k + 1, hk => by
    obtain ⟨h1, h2, h3⟩ := all_inv x l ht k (by omega)
    have hidx : (placesL x l).length - 1 - k < (placesL x l).length := by omega
    obtain ⟨i, hi, _, he⟩ := sel_get (n := l.length + 1 - lng x) (f := fun i => placeAt x l i) (k := (placesL x l).length - 1 - k) hidx
    have he' : (placesL x l)[(placesL x l).length - 1 - k]?.getD 0 = (i : Int) := he
    have hfit : i + lng x ≤ (allTo x l k).length := by
      by_cases hk0 : k = 0
      · rw [h2 hk0]; omega
      · have h4 := h3 (by omega)
        have h5 := sel_sorted (n := l.length + 1 - lng x) (f := fun i => placeAt x l i) (k := (placesL x l).length - 1 - k) (m := (placesL x l).length - k) (by omega) (show _ < (placesL x l).length by omega)
        have h5' : (placesL x l)[(placesL x l).length - 1 - k]?.getD 0 < (placesL x l)[(placesL x l).length - k]?.getD 0 := h5
        have := lng_le x
        omega
    have hlen := putL_len hfit
    refine ⟨?_, fun h => by omega, fun _ => ?_⟩
    · rw [allTo, he', Int.toNat_natCast, hlen]; omega
    · rw [show (placesL x l).length - (k + 1) = (placesL x l).length - 1 - k by omega, he', allTo, he', Int.toNat_natCast, putL]
      simp; omega
theorem all_step (x : Rul) (l : List Int) (ht : x.t.length ≤ 2) {k : Nat} (hk : k < (placesL x l).length) : ∃ i : Nat, (placesL x l)[(placesL x l).length - 1 - k]?.getD 0 = (i : Int) ∧ i + lng x ≤ (allTo x l k).length ∧ allTo x l (k + 1) = putL x (allTo x l k) i := by
  obtain ⟨h1, h2, h3⟩ := all_inv x l ht k (by omega)
  have hidx : (placesL x l).length - 1 - k < (placesL x l).length := by omega
  obtain ⟨i, hi, _, he⟩ := sel_get (n := l.length + 1 - lng x) (f := fun i => placeAt x l i) (k := (placesL x l).length - 1 - k) hidx
  have he' : (placesL x l)[(placesL x l).length - 1 - k]?.getD 0 = (i : Int) := he
  refine ⟨i, he', ?_, by rw [allTo, he', Int.toNat_natCast]⟩
  by_cases hk0 : k = 0
  · rw [h2 hk0]; omega
  · have h4 := h3 (by omega)
    have h5 := sel_sorted (n := l.length + 1 - lng x) (f := fun i => placeAt x l i) (k := (placesL x l).length - 1 - k) (m := (placesL x l).length - k) (by omega) (show _ < (placesL x l).length by omega)
    have h5' : (placesL x l)[(placesL x l).length - 1 - k]?.getD 0 < (placesL x l)[(placesL x l).length - k]?.getD 0 := h5
    have := lng_le x
    omega
theorem places_le (x : Rul) (l : List Int) : (placesL x l).length ≤ l.length + 1 := by
  have := sel_le (l.length + 1 - lng x) (fun i => placeAt x l i)
  have h2 : (placesL x l).length ≤ l.length + 1 - lng x := this
  omega
theorem all_len (x : Rul) (l : List Int) (ht : x.t.length ≤ 2) : (allL x l).length ≤ 3 * l.length + 2 := by
  have := (all_inv x l ht _ (Nat.le_refl _)).1
  have := places_le x l
  unfold allL; omega

/-! ## the walk of the program's -/
theorem backward_c (a : Option Addr) (n c : Nat) (w : World) : Calls Try.prog 51 #[.slice a n c] w fun e w' => e = .returned (.func (.func 72) #[] #[.pointer (some ⟨w.heap.size, 0, none⟩)]) ∧ w' = w.alloc (.cells #[.slice a n c] 22) := by
  go_enter Try.func51, Try.ntmps51
  go_wp2_with fail
  go_ret
  exact ⟨rfl, rfl⟩
theorem keeps_set {W W2 : World} {g : Nat} {t : TypeId} {v u : Value} (h : Ext W W2) (hb : Boxed W g t v) : KeepsOthers W (W2.setCell ⟨g, 0, none⟩ u) :=
  ⟨by have := h.size; simpa using this, fun k o hk hc => by
    by_cases e : k = g
    · subst e
      rw [Boxed, hk] at hb; injection hb with hb; subst hb; cases hc
    · exact ((grownBy_set W2 g 0 u).block k (Nat.lt_of_lt_of_le (Array.getElem?_eq_some_iff.1 hk).1 h.size) (fun h => e (by injection h))).trans ((h.block k (Array.getElem?_eq_some_iff.1 hk).1).trans hk)⟩

set_option maxHeartbeats 2000000 in
set_option maxRecDepth 100000 in
theorem all_c (tv lv rv wv : Value) (x : Rul) (l : List Int) (w : World) (h : RulR w tv lv rv x) (hw : Ints w wv l) (hsn : sndB l = true) (hl : l.length ≤ 1000) (ht : x.t.length ≤ 2) :
    Calls Try.prog 29 #[.agg #[.int .i64 x.f, tv, lv, rv], wv] w (ROInts 3 (allL x l) w) := by
  obtain ⟨at_, ct, rfl, _⟩ := h.t.open_
  obtain ⟨al, cl, rfl, _⟩ := h.l.open_
  obtain ⟨ar, cr, rfl, _⟩ := h.r.open_
  obtain ⟨wA, hwA⟩ : ∃ wA, wA = w.alloc (.cells #[.int .i64 x.f, .slice at_ x.t.length ct, .slice al x.l.length cl, .slice ar x.r.length cr] 24) := ⟨_, rfl⟩
  have hE0 : Ext w wA := by rw [hwA]; exact Ext.alloc _ _
  have k0 : ∀ W, Ext wA W → W.cell? ⟨w.heap.size, 0, none⟩ = some (.int .i64 x.f) := by rw [hwA]; exact kept_alloc w _ _ rfl
  have k1 : ∀ W, Ext wA W → W.cell? ⟨w.heap.size, 1, none⟩ = some (.slice at_ x.t.length ct) := by rw [hwA]; exact kept_alloc w _ _ rfl
  have k2 : ∀ W, Ext wA W → W.cell? ⟨w.heap.size, 2, none⟩ = some (.slice al x.l.length cl) := by rw [hwA]; exact kept_alloc w _ _ rfl
  have k3 : ∀ W, Ext wA W → W.cell? ⟨w.heap.size, 3, none⟩ = some (.slice ar x.r.length cr) := by rw [hwA]; exact kept_alloc w _ _ rfl
  have H0 : Ext wA wA := Ext.refl _
  have HI := Lib.hid (hw.ext hE0)
  have HR := Lib.hid (h.ext hE0)
  have HS := Lib.hid hsn
  have HW := Lib.hid hwA; clear hwA h hw hsn
  refine (callsIn_wide (n := 0)).1 (callsIn_of_wp_marks Try.func29 rfl trivial ?_ rfl)
  simp only [Try.ntmps29, List.size_toArray, List.length_cons, List.length_nil, Nat.reduceAdd, Nat.reduceSub, Array.replicate_succ, Array.replicate_zero, List.push_toArray, List.append_toArray, List.nil_append, List.cons_append]
  gi_wp2_with fail
  rw [← HW.out]
  refine ⟨trivial, rfl, (callsIn_wide.2 (cloneInts_c _ l wA HI.out (by omega))).mono ?_⟩
  rintro e w1 ⟨v1, rfl, ho1, hx1⟩
  obtain ⟨a1, c1, rfl, _⟩ := ho1.ints.open_
  have hA2 := Ext.alloc w1 (.cells #[.slice a1 l.length c1] 22)
  have hbx := Boxed.new w1 22 (.slice a1 l.length c1)
  have hx2 := hx1.trans hA2
  have hs1 := hx1.size
  have hs0 := hE0.size
  have HO1 := Lib.hid (OInts.low (ho1.ext hA2) (show w.heap.size ≤ wA.heap.size by omega))
  clear ho1
  gi_wp2_with fail
  generalize hw2 : w1.alloc (.cells #[.slice a1 l.length c1] 22) = w2 at *
  have hs2 : w2.heap.size = w1.heap.size + 1 := by rw [← hw2]; simp
  clear hw2
  refine ⟨trivial, rfl, (callsIn_wide.2 (places_c _ _ _ _ x l w2 (HR.out.ext hx2) (HI.out.ext hx2) HS.out hl)).mono ?_⟩
  rintro e w3 ⟨v3, rfl, hi3, hx3⟩
  obtain ⟨a3, c3, rfl, _⟩ := hi3.ints.open_
  gi_wp2_with fail
  refine ⟨trivial, rfl, (callsIn_wide.2 (backward_c _ _ _ w3)).mono ?_⟩
  rintro e w4 ⟨rfl, hw4⟩
  have hA4 : Ext w3 w4 := by rw [hw4]; exact Ext.alloc _ _
  have hbv : w4.cell? ⟨w3.heap.size, 0, none⟩ = some (.slice a3 (placesL x l).length c3) := by rw [hw4]; exact alloc_cell _ _ _ rfl
  have hx24 := hx3.trans hA4
  have hbx := show Boxed w4 w1.heap.size 22 (.slice a1 l.length c1) from (hx24.block _ hbx.lt).trans hbx
  have hX4 := hE0.trans (hx2.trans hx24)
  have ho4 := HO1.out.ext hx24
  have hs3 := hx3.size
  have hs4 := hA4.size
  clear hw4
  have HP := Lib.hid (bwd_len (placesL x l))
  have HIN := Lib.hid (all_inv x l ht)
  have HST := Lib.hid (fun k (hk : k < (placesL x l).length) => all_step x l ht hk)
  have HBW := Lib.hid (fun k (hk : k < (placesL x l).length) => bwd_at (placesL x l) hk)
  have hpl := places_le x l
  have hxA4 := hx2.trans hx24
  gi_wp2_with fail
  refine wp_range2 rfl (enters_of Try.func72 (by kernel_rfl) rfl)
    (backward1_c _ (placesL x l) w3.heap.size w4 (some w1.heap.size) (fun r h => by cases h; omega) hbv (fun W hW => (OInts.kept (hi3.ext hA4) hW (fun r hr => by cases hr; exact ⟨_, hbx, fun cur he => by injection he with _ he; exact absurd he (by decide)⟩)).ints)) (World.grownBy.refl _ _)
    (fun k W => ∃ vo, w4.grownBy W (some w1.heap.size) ∧ Boxed W w1.heap.size 22 vo ∧ OInts 3 W w.heap.size vo (allTo x l k))
    ?hI ⟨_, World.grownBy.refl _ _, hbx, ho4⟩ ?a1 ?assign ?body ?done
  case hI =>
    rintro k W1 W2 row ⟨vo, hgr, hb, ho⟩ hg hr
    refine ⟨vo, grownBy_trans_new hgr hg (fun r e => .inl (hr r e).1), hb.kept hg (fun e => ?_), OInts.kept ho hg (fun r hrr => ?_)⟩
    · obtain ⟨_, o, h1, h2⟩ := hr _ e.symm
      rw [Boxed, h1] at hb; injection hb with hb; subst hb; cases h2
    · obtain ⟨_, o, h1, h2⟩ := hr r hrr
      exact ⟨o, h1, fun cur he => by rw [he] at h2; cases h2⟩
  case a1 =>
    exact fun y => { tmps := #[.agg #[.int .i64 x.f, .slice at_ x.t.length ct, .slice al x.l.length cl, .slice ar x.r.length cr], wv, .pointer (some ⟨w.heap.size, 0, none⟩), undef, .slice none 0 0, .pointer (some ⟨w1.heap.size, 0, none⟩), undef, .int .i64 y.2, wv, .slice a1 l.length c1, .agg #[.int .i64 x.f, .slice at_ x.t.length ct, .slice al x.l.length cl, .slice ar x.r.length cr], wv, .slice a3 (placesL x l).length c3, .func (.func 72) #[] #[.pointer (some ⟨w3.heap.size, 0, none⟩)], .int .i64 y.1, .int .i64 y.2, undef, undef, undef, undef, undef], defers := [] }
  case assign =>
    intro l v W K hK
    gi_wp2
    exact hK
  case body =>
    rintro lp k y W hy ⟨vo, _, hb, ho⟩ hxW
    have hk : k < (placesL x l).length := by rw [← HP.out]; exact (List.getElem?_eq_some_iff.1 hy).1
    obtain ⟨i, hi1, hi2, hi3'⟩ := HST.out k hk
    have hyy := HBW.out k hk
    rw [hy, hi1] at hyy
    injection hyy with hyy
    subst hyy
    have hlen := (HIN.out k (by omega)).1
    have HI3 := Lib.hid hi3'
    have hXW := grown_below hxA4 hxW (fun r h => by cases h; omega)
    have hbc := hb.cell
    obtain ⟨ao, co, rfl, _⟩ := ho.ints.open_
    have HPUT := Lib.hid (put_c _ _ _ _ x (allTo x l k) i W (HR.out.ext hXW) ho.ints hi2 (by omega) (by omega))
    clear hi1 hi2 hi3' hy
    generalize allTo x l k = L at *
    gi_wp2_with fail
    refine ⟨trivial, rfl, CallsIn.inRound lp (callsIn_wide.2 (HPUT.out.mono ?_))⟩
    rintro e W2 ⟨v2, rfl, ho2, hx2⟩
    obtain ⟨a5, c5, rfl, _⟩ := ho2.ints.open_
    have hb2 : Boxed W2 w1.heap.size 22 (.slice ao L.length co) := (hx2.block _ hb.lt).trans hb
    have hbc2 := hb2.cell
    have hbf2 := hb2.frozen
    have hsW := hXW.size
    have hfin : postN (fun W => ∃ vo, w4.grownBy W (some w1.heap.size) ∧ Boxed W w1.heap.size 22 vo ∧ OInts 3 W w.heap.size vo (allTo x l (k + 1))) w4 (some w1.heap.size) W .normal { tmps := #[], defers := [] } (W2.setCell ⟨w1.heap.size, 0, none⟩ (.slice a5 (putL x L i).length c5)) :=
      ⟨keeps_set hx2 hb, grownBy_trans_new (grown_ext hxW hx2) (grownBy_set W2 w1.heap.size 0 _) (fun r e => .inr e),
        ⟨_, grownBy_trans_new (grown_ext hxW hx2) (grownBy_set W2 w1.heap.size 0 _) (fun r e => .inr e), Boxed.set _ hb2, by
          rw [HI3.out]
          exact OInts.kept (OInts.low ho2 (by omega)) (grownBy_set W2 w1.heap.size 0 _) (fun r hr => by cases hr; exact ⟨_, hb2, fun cur he => by injection he with _ he; exact absurd he (by decide)⟩)⟩⟩
    have HFIN := Lib.hid hfin; clear hfin hbc
    gi_wp2_with fail
    exact HFIN.out
  case done =>
    rintro D W hD ⟨vo, hgr, hb, ho⟩ hK
    rw [HP.out] at ho
    have hbc := hb.cell
    have hXW := hE0.trans (grown_below hxA4 hgr (fun r h => by cases h; omega))
    have ho2 := ownsRow_putObj ho (.deferred none) hK rfl
    have hfin : Ext w (W.putObj D (.deferred none)) := Below.trans hXW ⟨rfl, rfl, rfl, by simp, fun k hk => World.putObj_heap_other (by omega)⟩
    have HF := Lib.hid (And.intro ho2 hfin)
    clear ho ho2 hfin
    gi_wp2_with fail
    refine ⟨by simp, .inl ⟨_, _, rfl, run_takeDeferred hK, ?_⟩⟩
    refine ⟨_, results_tmp rfl _ _ _, ?_⟩
    exact ⟨_, rfl, HF.out.1, HF.out.2⟩
end Go.Proofs.Ythmdecgkbjdabaa
