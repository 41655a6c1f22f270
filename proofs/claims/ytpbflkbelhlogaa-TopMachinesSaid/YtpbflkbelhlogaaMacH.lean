/- Whether a run reads a word and writes another one: the reference; what shows that a machine is no function. -/
import Derived.Test.YtpbflkbelhlogaaMacI
import Derived.Test.YtpbflkbelhlogaaMacS
import Derived.Test.YtpbflkbelhlogaaMacE
namespace Go.Proofs.Ytpbflkbelhlogaa
open Go.RowKit Go.Shelf
set_option linter.unusedVariables false

/-! ## plain -/
def relC (s o : Int) (st : List Bool) (a : Arc) : Bool := (a.i == s && a.o == o) && getB st a.f
def relS (n : Nat) (ar : List Arc) (u v : List Int) : Nat → List Bool
  | 0 => beginB n
  | k + 1 => onsB n ar (relC (u[k]?.getD 0) (v[k]?.getD 0) (relS n ar u v k)) (fun a => a.t)
theorem relS_len (n : Nat) (ar : List Arc) (u v : List Int) : ∀ k, (relS n ar u v k).length = n
  | 0 => beginB_len n
  | k + 1 => by rw [relS, onsB_len]
def endAt (n : Nat) (m : Mac) (st : List Bool) : Bool := (List.range n).any fun s => (endsB n m.e)[s]?.getD false && st[s]?.getD false
def relN (n : Nat) (m : Mac) (u v : List Int) : Bool := decide (u.length = v.length) && endAt n m (relS n m.a u v u.length)
def relB (m : Mac) (u v : List Int) : Bool := relN m.s.toNat m u v
theorem relC_iff {s o : Int} {st : List Bool} {a : Arc} : relC s o st a = true ↔ (a.i = s ∧ a.o = o) ∧ getB st a.f = true := by simp [relC]
theorem relS_iff {m : Mac} {n : Nat} (h : MacIn m n) (u v : List Int) (hl : u.length = v.length) : ∀ k, k ≤ u.length → ((∃ s, 0 ≤ s ∧ getB (relS n m.a u v k) s = true ∧ relP m (u.drop k) (v.drop k) s) ↔ relP m u v 0)
  | 0, _ => by
    rw [relS, List.drop_zero, List.drop_zero]
    constructor
    · rintro ⟨s, h0, hb, hr⟩
      have := (getB_begin h.n1 h0).1 hb
      subst this; exact hr
    · intro hr
      exact ⟨0, by omega, (getB_begin h.n1 (by omega)).2 rfl, hr⟩
  | k + 1, hk => by
    rw [← relS_iff h u v hl k (by omega), drop_one (l := u) (k := k) (by omega), drop_one (l := v) (k := k) (by omega), relS]
    constructor
    · rintro ⟨s, h0, hb, hr⟩
      obtain ⟨a, ham, hc, hat⟩ := (getB_ons _ _ (fun a ha => (h.arcs a ha).2) h0).1 hb
      obtain ⟨⟨h1, h2⟩, h3⟩ := relC_iff.1 hc
      exact ⟨a.f, (h.arcs a ham).1.1, h3, a, ham, rfl, h1, h2, by rw [hat]; exact hr⟩
    · rintro ⟨s, h0, hb, a, ham, hf, h1, h2, hr⟩
      exact ⟨a.t, (h.arcs a ham).2.1, (getB_ons _ _ (fun a ha => (h.arcs a ha).2) (h.arcs a ham).2.1).2 ⟨a, ham, relC_iff.2 ⟨⟨h1, h2⟩, by rw [hf]; exact hb⟩, rfl⟩, hr⟩
theorem endAt_iff {m : Mac} {n : Nat} (h : MacIn m n) {st : List Bool} (hs : st.length = n) : endAt n m st = true ↔ ∃ s, 0 ≤ s ∧ getB st s = true ∧ s ∈ m.e := by
  unfold endAt
  rw [List.any_eq_true]
  constructor
  · rintro ⟨s, hs2, hb⟩
    rw [Bool.and_eq_true] at hb
    exact ⟨(s : Int), by omega, by unfold getB; rw [Int.toNat_natCast]; exact hb.2, (getB_ends h (by omega)).1 (by unfold getB; rw [Int.toNat_natCast]; exact hb.1)⟩
  · rintro ⟨s, h0, hb, he⟩
    have hi := h.endsIn s he
    have he2 := (getB_ends h h0).2 he
    refine ⟨s.toNat, by simp; omega, ?_⟩
    rw [Bool.and_eq_true]
    exact ⟨he2, hb⟩
theorem relN_iff {m : Mac} {n : Nat} (h : MacIn m n) {u v : List Int} : relN n m u v = true ↔ relP m u v 0 := by
  unfold relN
  rw [Bool.and_eq_true, decide_eq_true_eq]
  constructor
  · rintro ⟨hl, he⟩
    obtain ⟨s, h0, hb, hm⟩ := (endAt_iff h (relS_len _ _ _ _ _)).1 he
    refine (relS_iff h u v hl u.length (Nat.le_refl _)).1 ⟨s, h0, hb, ?_⟩
    rw [List.drop_length, hl, List.drop_length]; exact hm
  · intro hr
    have hl := relP_len hr
    refine ⟨hl, (endAt_iff h (relS_len _ _ _ _ _)).2 ?_⟩
    obtain ⟨s, h0, hb, hm⟩ := (relS_iff h u v hl u.length (Nat.le_refl _)).2 hr
    rw [List.drop_length, hl, List.drop_length] at hm
    exact ⟨s, h0, hb, hm⟩
theorem any_true {n k : Nat} {f : Nat → Bool} (hk : k < n) (h : f k = true) : (List.range n).any f = true := List.any_eq_true.2 ⟨k, by simpa using hk, h⟩
theorem any_false {n : Nat} {f : Nat → Bool} (h : ∀ j, j < n → f j = false) : (List.range n).any f = false := by
  rw [List.any_eq_false]; intro x hx; rw [h x (by simpa using hx)]; exact Bool.false_ne_true
theorem onB_relC (s o : Int) (st l : List Bool) (p q : Nat) (yi yo : Int) : onB (relC s o st) (fun a => a.t) l ⟨(p : Int), (q : Int), yi, yo⟩ = if ((yi == s && yo == o) && st[p]?.getD false) = true then l.set q true else l := by
  show (if ((yi == s && yo == o) && st[(p : Int).toNat]?.getD false) = true then l.set (q : Int).toNat true else l) = _
  rw [Int.toNat_natCast, Int.toNat_natCast]
/-- what is said of three words -/
def badTwo (m : Mac) (w u v : List Int) : Bool := (sameIntsB u v || !relB m w u) || !relB m w v
def longs (l : List (List Int)) : Bool := l.any fun x => decide (200 < (x.length : Int))
def bads (l : List (List Int)) : Bool := l.any fun x => wordK 200 x != 0
theorem longs_true {l : List (List Int)} {k : Nat} (hk : k < l.length) (h : decide (200 < ((l[k]?.getD []).length : Int)) = true) : longs l = true := List.any_eq_true.2 ⟨l[k], List.getElem_mem hk, by rwa [List.getElem?_eq_getElem hk] at h⟩
theorem longs_false {l : List (List Int)} (h : ∀ j, j < l.length → decide (200 < ((l[j]?.getD []).length : Int)) = false) : longs l = false := by
  rw [longs, List.any_eq_false]
  intro x hx
  obtain ⟨j, hj, rfl⟩ := List.mem_iff_getElem.1 hx
  have := h j hj
  rw [List.getElem?_eq_getElem hj] at this
  rw [show l[j] = (some l[j]).getD [] from rfl, this]; exact Bool.false_ne_true
theorem bads_true {l : List (List Int)} {k : Nat} (hk : k < l.length) (h : (wordK 200 (l[k]?.getD []) != 0) = true) : bads l = true := List.any_eq_true.2 ⟨l[k], List.getElem_mem hk, by rwa [List.getElem?_eq_getElem hk] at h⟩
theorem bads_false {l : List (List Int)} (h : ∀ j, j < l.length → (wordK 200 (l[j]?.getD []) != 0) = false) : bads l = false := by
  rw [bads, List.any_eq_false]
  intro x hx
  obtain ⟨j, hj, rfl⟩ := List.mem_iff_getElem.1 hx
  have := h j hj
  rw [List.getElem?_eq_getElem hj] at this
  rw [show l[j] = (some l[j]).getD [] from rfl, this]; exact Bool.false_ne_true
def checkTwoK (m : Mac) (w u v : List Int) : Int := if validM m = 0 then (if longs [w, u, v] then 3 else if bads [w, u, v] then 1 else if badTwo m w u v then 7 else 0) else validM m

set_option maxHeartbeats 8000000 in
set_option maxRecDepth 100000 in
theorem rrelates_c (av ev uv vv : Value) (m : Mac) (u v : List Int) (w : World) (h : MacR w av ev m) (hM : MacIn m m.s.toNat) (hu : Ints w uv u) (hv : Ints w vv v) :
    Calls Try.prog 70 #[.agg #[.int .i64 m.s, av, ev], uv, vv] w (RV (.bool (relB m u v)) w) := by
  have hMs := Lib.hid hM.s
  obtain ⟨n, hn⟩ : ∃ n, n = m.s.toNat := ⟨_, rfl⟩
  have HRB : Hid (relB m u v = relN n m u v) := by rw [hn]; exact Lib.hid rfl
  rw [← hn] at hM hMs
  clear hn
  rw [hM.s]
  generalize relB m u v = RB at *
  obtain ⟨wA, hwA⟩ : ∃ wA, wA = w.alloc (.cells #[.int .i64 (n : Int), av, ev] 25) := ⟨_, rfl⟩
  have hE0 : Ext w wA := by rw [hwA]; exact Ext.alloc _ _
  have k0 : ∀ W, Ext wA W → W.cell? ⟨w.heap.size, 0, none⟩ = some (.int .i64 (n : Int)) := by rw [hwA]; exact kept_alloc w _ _ rfl
  have k1 : ∀ W, Ext wA W → W.cell? ⟨w.heap.size, 1, none⟩ = some av := by rw [hwA]; exact kept_alloc w _ _ rfl
  have k2 : ∀ W, Ext wA W → W.cell? ⟨w.heap.size, 2, none⟩ = some ev := by rw [hwA]; exact kept_alloc w _ _ rfl
  have H0 : Ext wA wA := Ext.refl _
  have HRE := Lib.hid (h.ext hE0)
  obtain ⟨aa, ca, rfl, hla, hma, HA⟩ := (h.ext hE0).a.open_
  obtain ⟨ae, ce, rfl, hle, hme, HE⟩ := (h.ext hE0).e.open_
  obtain ⟨au, cu, rfl, hlu, hmu, HU⟩ := (hu.ext hE0).open_
  obtain ⟨av2, cv, rfl, hlv, hmv, HV⟩ := (hv.ext hE0).open_
  have HW := Lib.hid hwA; clear hwA h hu hv
  have hn1 := hM.n1
  have hn9 := hM.n9
  have HM := Lib.hid hM; clear hM
  have HEC := Lib.hid (fun (W : World) (hW : Ext wA W) => by have := rends_c _ _ m n W (HRE.out.ext hW) HM.out; rw [hMs.out] at this; exact this)
  by_cases hl : u.length = v.length
  · have hd : ((u.length : Int) != (v.length : Int)) = false := by simp [hl]
    have HRN : Hid (relN n m u v = endAt n m (relS n m.a u v u.length)) := Lib.hid (by rw [relN, decide_eq_true hl, Bool.true_and])
    have HBG : Hid (∀ (W : World) (g : Nat), Blk W g 4 (List.replicate n (.bool false)) → BBools (W.setCell ⟨g, 0, none⟩ (.bool true)) g (relS n m.a u v 0)) := Lib.hid (fun W g h => by have := Blk.set h 0 (.bool true); unfold BBools; simpa [relS, beginB, List.map_set] using this)
    have HL := Lib.hid hl; clear hl
    have HE0 := Lib.hid hE0
    go_enter Try.func70, Try.ntmps70
    go_wp2_with (at_make; refine wpList_make_blk n elBools rfl rfl _ _ rfl rfl rfl (by omega) (by omega) ?_; intro gb w2 hgb hblkb hx2 hg2; rw [← HW.out] at hgb hx2; have hbc := Blk.cell (i := 0) (v := .bool false) hblkb (by rw [List.getElem?_replicate, if_pos (by omega)]); have hbf := Blk.frozen hblkb 0; have hE2 := hx2.setCell hgb 0 (.bool true))
    have hbb := HBG.out w2 gb hblkb
    clear hbc hbf hblkb hx2 hg2
    go_loopg [8, 7] u.length (fun z i v7 wr => ∃ (k gA : Nat), k ≤ u.length ∧ u.length ≤ k + z ∧ i = .int .i64 k ∧ v7 = .slice (some ⟨gA, 0, none⟩) n n ∧ Ext wA wr ∧ BBools wr gA (relS n m.a u v k))
    case atStart => exact ⟨0, gb, by omega, by omega, rfl, rfl, hE2, hbb⟩
    case round =>
      clear hE2 hbb
      obtain ⟨k, gA, hk, hkz, rfl, rfl, hEr, hbA⟩ := hrel
      obtain ⟨g1, rfl⟩ : ∃ g : Nat, g = gk := ⟨_, rfl⟩
      by_cases hltk : k < u.length
      · obtain ⟨bu, ou, rfl, hcu⟩ := HU.out k hltk
        obtain ⟨bv, ov, rfl, hcv⟩ := HV.out k (by rw [← HL.out]; exact hltk)
        have hltv : k < v.length := by rw [← HL.out]; exact hltk
        have HNX : Hid (relS n m.a u v (k + 1) = onsB n m.a (relC (u[k]?.getD 0) (v[k]?.getD 0) (relS n m.a u v k)) (fun a => a.t)) := Lib.hid rfl
        have hSL := relS_len n m.a u v k
        generalize relS n m.a u v k = S at *
        generalize u[k]?.getD 0 = us at *
        generalize v[k]?.getD 0 = vs at *
        have HSL := Lib.hid hSL; clear hSL
        obtain ⟨W0, rfl⟩ : ∃ W : World, W = wr := ⟨_, rfl⟩
        replace hcu := hEr.keep hcu
        replace hcv := hEr.keep hcv
        go_wp2_with (at_make; refine wpList_make_blk n elBools rfl rfl _ _ rfl rfl rfl (by omega) (by omega) ?_; intro g w2 hg hblkg hx2 hg2)
        have hbb : BBools w2 g ((m.a.take 0).foldl (onB (relC us vs S) (fun a => a.t)) (List.replicate n false)) := by rw [List.take_zero]; unfold BBools; simpa using hblkg
        clear hblkg hg2
        have HCOND := Lib.hid (fun O p q yi yo => onB_relC us vs S O p q yi yo)
        generalize relC us vs S = cond at *
        go_loopg [10] m.a.length (fun z i wr => ∃ t : Nat, t ≤ m.a.length ∧ m.a.length ≤ t + z ∧ i = .int .i64 t ∧ Ext W0 wr ∧ BBools wr g ((m.a.take t).foldl (onB cond (fun a => a.t)) (List.replicate n false)))
        case atStart => exact ⟨0, by omega, by omega, rfl, hx2, hbb⟩
        case round =>
          clear hx2 hbb
          obtain ⟨t, ht, htz, rfl, hX0, hbb⟩ := hrel
          have hEr2 : Ext wA wr := hEr.trans hX0
          by_cases hlt : t < m.a.length
          · obtain ⟨ba, oa, rfl, hc0, hc1, hc2, hc3⟩ := HA.out t hlt
            replace hc0 := hEr2.keep hc0
            replace hc1 := hEr2.keep hc1
            replace hc2 := hEr2.keep hc2
            replace hc3 := hEr2.keep hc3
            have hst := HM.out.arc t hlt
            have HST := Lib.hid (onF_next hlt cond (fun a => a.t) (List.replicate n false))
            have hol : ((m.a.take t).foldl (onB cond (fun a => a.t)) (List.replicate n false)).length = n := by rw [onsF_len]; simp
            generalize arcA m.a t = y at *
            generalize (m.a.take t).foldl (onB cond (fun a => a.t)) (List.replicate n false) = O at *
            have HOL := Lib.hid hol; clear hol
            obtain ⟨yf, yt, yi, yo⟩ := y
            simp only at hc0 hc1 hc2 hc3 hst
            obtain ⟨p, rfl⟩ : ∃ p : Nat, yf = p := ⟨yf.toNat, by omega⟩
            obtain ⟨q, rfl⟩ : ∃ q : Nat, yt = q := ⟨yt.toNat, by omega⟩
            have hp : p < n := by omega
            have hq : q < n := by omega
            clear hst
            obtain ⟨wB, hwB⟩ : ∃ wB, wB = wr.alloc (.cells #[.int .i64 (p : Int), .int .i64 (q : Int), .int .i64 yi, .int .i64 yo] 50) := ⟨_, rfl⟩
            have hEB : Ext wr wB := by rw [hwB]; exact Ext.alloc _ _
            have b0 : ∀ W, Ext wB W → W.cell? ⟨wr.heap.size, 0, none⟩ = some (.int .i64 p) := by rw [hwB]; exact kept_alloc wr _ _ rfl
            have b1 : ∀ W, Ext wB W → W.cell? ⟨wr.heap.size, 1, none⟩ = some (.int .i64 q) := by rw [hwB]; exact kept_alloc wr _ _ rfl
            have b2 : ∀ W, Ext wB W → W.cell? ⟨wr.heap.size, 2, none⟩ = some (.int .i64 yi) := by rw [hwB]; exact kept_alloc wr _ _ rfl
            have b3 : ∀ W, Ext wB W → W.cell? ⟨wr.heap.size, 3, none⟩ = some (.int .i64 yo) := by rw [hwB]; exact kept_alloc wr _ _ rfl
            have HWB := Lib.hid hwB; clear hwB
            have HNO : Hid (onB cond (fun a => a.t) O ⟨(p : Int), (q : Int), yi, yo⟩ = if ((yi == us && yo == vs) && S[p]?.getD false) = true then O.set q true else O) := by
              exact Lib.hid (HCOND.out O p q yi yo)
            have hs : ∀ s : Later wB, Ext wB s.w := fun s => s.ext
            have q0 := fun s : Later wB => (hX0.trans (hEB.trans s.ext)).keep hcu
            have q1 := fun s : Later wB => (hX0.trans (hEB.trans s.ext)).keep hcv
            have q2 := fun s : Later wB => (hX0.trans (hEB.trans s.ext)).keep (hbA.cell (i := p) (by rw [HSL.out]; exact hp))
            generalize S[p]?.getD false = bp at *
            by_cases hi : yi = us
            · by_cases ho : yo = vs
              · subst hi ho
                have hi1 : (yi == yi) = true := by simp
                have ho1 : (yo == yo) = true := by simp
                cases bp
                · go_wp2_with fail
                  rw [← HWB.out]
                  clear hc0 hc1 hc2 hc3
                  refine wp_region_later (by kernel_rfl) (by kernel_rfl) ?_
                  repeat (go_big_quiet_step (fail))
                  refine wpQuiet_nil ?_
                  intro w5 hw'
                  obtain ⟨⟨_, hx5⟩, rfl⟩ := hw'
                  clear hs q0 q1 q2
                  have hX5 : Ext W0 w5 := hX0.trans (hEB.trans hx5)
                  have hbb5 : BBools w5 g O := Blk.ext hbb (hEB.trans hx5)
                  clear hbb
                  go_wp2_with fail
                  go_roundg (gk-1)
                  case measure => omega
                  case rel => exact ⟨t+1, by omega, by omega, by go_num, hX5, by rw [HST.out, HNO.out, if_neg (by simp)]; exact hbb5⟩
                · go_wp2_with fail
                  rw [← HWB.out]
                  clear hc0 hc1 hc2 hc3
                  refine wp_region_later (by kernel_rfl) (by kernel_rfl) ?_
                  repeat (go_big_quiet_step (fail))
                  refine wpQuiet_nil ?_
                  intro w5 hw'
                  obtain ⟨⟨_, hx5⟩, rfl⟩ := hw'
                  clear hs q0 q1 q2
                  have hX5 : Ext W0 w5 := hX0.trans (hEB.trans hx5)
                  have hbb5 : BBools w5 g O := Blk.ext hbb (hEB.trans hx5)
                  clear hbb
                  have hs : Ext wB w5 := hx5
                  have hbc := hbb5.cell (i := q) (by rw [HOL.out]; exact hq)
                  have hbf := Blk.frozen hbb5 q
                  have HSET := Lib.hid (hbb5.set q true)
                  clear hbb5
                  go_wp2_with fail
                  go_roundg (gk-1)
                  case measure => omega
                  case rel => exact ⟨t+1, by omega, by omega, by go_num, hX5.setCell hg _ _, by rw [HST.out, HNO.out, if_pos (by simp)]; exact HSET.out⟩
              · subst hi
                have hi1 : (yi == yi) = true := by simp
                have ho1 : (yo == vs) = false := by simp [ho]
                have HO := Lib.hid ho; clear ho
                go_wp2_with fail
                rw [← HWB.out]
                clear hc0 hc1 hc2 hc3
                refine wp_region_later (by kernel_rfl) (by kernel_rfl) ?_
                repeat (go_big_quiet_step (fail))
                refine wpQuiet_nil ?_
                intro w5 hw'
                obtain ⟨⟨_, hx5⟩, rfl⟩ := hw'
                clear hs q0 q1 q2
                have hX5 : Ext W0 w5 := hX0.trans (hEB.trans hx5)
                have hbb5 : BBools w5 g O := Blk.ext hbb (hEB.trans hx5)
                clear hbb
                go_wp2_with fail
                go_roundg (gk-1)
                case measure => omega
                case rel => exact ⟨t+1, by omega, by omega, by go_num, hX5, by rw [HST.out, HNO.out, if_neg (by simp [HO.out])]; exact hbb5⟩
            · have hi1 : (yi == us) = false := by simp [hi]
              have HI := Lib.hid hi; clear hi
              go_wp2_with fail
              rw [← HWB.out]
              clear hc0 hc1 hc2 hc3
              refine wp_region_later (by kernel_rfl) (by kernel_rfl) ?_
              repeat (go_big_quiet_step (fail))
              refine wpQuiet_nil ?_
              intro w5 hw'
              obtain ⟨⟨_, hx5⟩, rfl⟩ := hw'
              clear hs q0 q1 q2
              have hX5 : Ext W0 w5 := hX0.trans (hEB.trans hx5)
              have hbb5 : BBools w5 g O := Blk.ext hbb (hEB.trans hx5)
              clear hbb
              go_wp2_with fail
              go_roundg (gk-1)
              case measure => omega
              case rel => exact ⟨t+1, by omega, by omega, by go_num, hX5, by rw [HST.out, HNO.out, if_neg (by simp [HI.out])]; exact hbb5⟩
          · have hS2 : BBools wr g (relS n m.a u v (k + 1)) := by rw [HNX.out, onsB]; rw [List.take_of_length_le (by omega)] at hbb; exact hbb
            clear hbb
            go_wp2_with fail
            go_roundg (g1-1)
            case measure => omega
            case rel => exact ⟨k+1, g, by omega, by omega, by go_num, rfl, hEr2, hS2⟩
      · have hku : k = u.length := by omega
        subst hku
        have HSL := Lib.hid (relS_len n m.a u v u.length)
        have HEL := Lib.hid (endsB_len n m.e)
        have HEA : Hid (endAt n m (relS n m.a u v u.length) = (List.range n).any fun s => (endsB n m.e)[s]?.getD false && (relS n m.a u v u.length)[s]?.getD false) := Lib.hid rfl
        generalize relS n m.a u v u.length = S at *
        go_wp2_with fail
        refine (HEC.out wr hEr).mono ?_; rintro e w3 ⟨gE, rfl, hbE, hgE, hx3⟩
        rw [endsB_len]
        generalize endsB n m.e = EB at *
        replace hbA : BBools w3 gA S := Blk.ext hbA hx3
        have hE3 : Ext wA w3 := hEr.trans hx3
        clear hEr hx3
        go_wp2_with fail
        go_loopg [13] n (fun z i wr => ∃ t : Nat, t ≤ n ∧ n ≤ t + z ∧ i = .int .i64 t ∧ w3 = wr ∧ Hid (∀ j, j < t → (EB[j]?.getD false && S[j]?.getD false) = false))
        case atStart => exact ⟨0, by omega, by omega, rfl, rfl, Lib.hid (fun j hj => by omega)⟩
        case round =>
          obtain ⟨t, ht, htz, rfl, rfl, hall⟩ := hrel
          by_cases hlt : t < n
          · have c0 := hbE.cell (i := t) (by rw [HEL.out]; exact hlt)
            have c1 := hbA.cell (i := t) (by rw [HSL.out]; exact hlt)
            generalize hb0 : EB[t]?.getD false = b0 at *
            generalize hb1 : S[t]?.getD false = b1 at *
            have H01 := Lib.hid (And.intro hb0 hb1); clear hb0 hb1
            cases b0
            · go_wp2_with fail
              go_roundg (gk-1)
              case measure => omega
              case rel => exact ⟨t+1, by omega, by omega, by go_num, rfl, range_step hall.out (by rw [H01.out.1]; rfl)⟩
            · cases b1
              · go_wp2_with fail
                go_roundg (gk-1)
                case measure => omega
                case rel => exact ⟨t+1, by omega, by omega, by go_num, rfl, range_step hall.out (by rw [H01.out.2, Bool.and_false])⟩
              · go_wp2_with fail
                go_ret
                exact RV.bool (by rw [HRB.out, HRN.out, HEA.out, any_true hlt (by rw [H01.out.1, H01.out.2]; rfl)]) (hE0.trans hE3)
          · go_wp2_with fail
            go_ret
            exact RV.bool (by rw [HRB.out, HRN.out, HEA.out, any_false (fun j hj => hall.out j (by omega))]) (hE0.trans hE3)
  · have hd : ((u.length : Int) != (v.length : Int)) = true := by simp; omega
    have HRN : Hid (relN n m u v = false) := Lib.hid (by rw [relN, decide_eq_false hl, Bool.false_and])
    clear hl
    go_enter Try.func70, Try.ntmps70
    go_wp2_with fail
    rw [← HW.out]
    go_ret
    exact RV.bool (by rw [HRB.out, HRN.out]) hE0

set_option maxHeartbeats 4000000 in
set_option maxRecDepth 100000 in
theorem rCheckTwo_c (av ev wv uv vv : Value) (m : Mac) (x u v : List Int) (w : World) (h : MacR w av ev m) (hx : Ints w wv x) (hu : Ints w uv u) (hv : Ints w vv v) :
    Calls Try.prog 31 #[.agg #[.int .i64 m.s, av, ev], wv, uv, vv] w (RV (.int .i64 (checkTwoK m x u v)) w) := by
  obtain ⟨wA, hwA⟩ : ∃ wA, wA = w.alloc (.cells #[.int .i64 m.s, av, ev] 25) := ⟨_, rfl⟩
  have hE0 : Ext w wA := by rw [hwA]; exact Ext.alloc _ _
  have k0 : ∀ W, Ext wA W → W.cell? ⟨w.heap.size, 0, none⟩ = some (.int .i64 m.s) := by rw [hwA]; exact kept_alloc w _ _ rfl
  have k1 : ∀ W, Ext wA W → W.cell? ⟨w.heap.size, 1, none⟩ = some av := by rw [hwA]; exact kept_alloc w _ _ rfl
  have k2 : ∀ W, Ext wA W → W.cell? ⟨w.heap.size, 2, none⟩ = some ev := by rw [hwA]; exact kept_alloc w _ _ rfl
  have H0 : Ext wA wA := Ext.refl _
  have HV := Lib.hid (rValidate_c av ev m wA (h.ext hE0))
  have HR := Lib.hid (h.ext hE0)
  obtain ⟨aa, ca, rfl, hla, hma, HA⟩ := (h.ext hE0).a.open_
  obtain ⟨ae, ce, rfl, hle, hme, HE⟩ := (h.ext hE0).e.open_
  obtain ⟨ax, cx, rfl, hlx, hmx, HX⟩ := hx.open_
  obtain ⟨au, cu, rfl, hlu, hmu, HU⟩ := hu.open_
  obtain ⟨av, cv, rfl, hlv, hmv, HVV⟩ := hv.open_
  clear HX HU HVV
  have HIX := Lib.hid (hx.ext hE0)
  have HIU := Lib.hid (hu.ext hE0)
  have HIV := Lib.hid (hv.ext hE0)
  have HW := Lib.hid hwA; clear hwA h hx hu hv
  by_cases h0 : validM m = 0
  · have HMI := Lib.hid (validM_mac h0).in_
    have HCK : Hid (checkTwoK m x u v = if longs [x, u, v] then 3 else if bads [x, u, v] then 1 else if badTwo m x u v then 7 else 0) := Lib.hid (by rw [checkTwoK, if_pos h0])
    rw [h0] at HV
    clear h0
    generalize checkTwoK m x u v = CK at *
    go_enter Try.func31, Try.ntmps31
    go_wp2_with fail
    rw [← HW.out]
    refine HV.out.mono ?_; rintro e w1 ⟨rfl, hx1⟩
    obtain ⟨w2, hw2⟩ : ∃ w2, w2 = w1.alloc (.cells #[.slice ax x.length cx, .slice au u.length cu, .slice av v.length cv] 23) := ⟨_, rfl⟩
    have hx2 : Ext wA w2 := by rw [hw2]; exact hx1.trans (Ext.alloc _ _)
    have hRows : Rows w2 (.slice (some ⟨w1.heap.size, 0, none⟩) 3 3) [x, u, v] := by
      rw [hw2]; exact rows_new w1 [.slice ax x.length cx, .slice au u.length cu, .slice av v.length cv] [x, u, v] (AllInts.cons (HIX.out.ext hx1) (AllInts.cons (HIU.out.ext hx1) (AllInts.cons (HIV.out.ext hx1) (AllInts.nil _)))) (by simp)
    obtain ⟨a3, c3, he3, hl3, hm3, H3⟩ := Rows.open_ hRows
    obtain ⟨rfl, rfl⟩ : a3 = some ⟨w1.heap.size, 0, none⟩ ∧ c3 = 3 := by
      injection he3 with h1 _ h2; exact ⟨h1.symm, h2.symm⟩
    generalize hls : [x, u, v] = ls at *
    have hll : ls.length = 3 := by rw [← hls]; rfl
    have HW2 := Lib.hid hw2; clear hw2 he3 hRows
    go_wp2_with fail
    rw [← HW2.out]
    go_loopg [11] 3 (fun z i wr => ∃ k : Nat, k ≤ 3 ∧ 3 ≤ k + z ∧ i = .int .i64 k ∧ w2 = wr ∧ Hid (∀ j, j < k → decide (200 < ((ls[j]?.getD []).length : Int)) = false))
    case atStart => exact ⟨0, by omega, by omega, rfl, rfl, Lib.hid (fun j hj => by omega)⟩
    case round =>
      obtain ⟨k, hk, hkz, rfl, rfl, hall⟩ := hrel
      by_cases hlt : k < 3
      · obtain ⟨ba, oa, hb, u3, hc, hi3⟩ := H3.out k (by omega)
        injection hb with hb; injection hb with hb1 hb2 _; subst hb1 hb2
        rw [Nat.zero_add] at hc
        obtain ⟨a4, c4, rfl, _, _, _⟩ := hi3.open_
        generalize hel : ls[k]?.getD [] = el at *
        have HEL := Lib.hid hel; clear hel
        clear hi3
        by_cases h2 : 200 < (el.length : Int)
        · go_wp2_with fail
          go_ret
          exact RV.int (by rw [HCK.out, if_pos (longs_true (k := k) (by omega) (by rw [HEL.out]; exact decide_eq_true h2))]) (hE0.trans hx2)
        · go_wp2_with fail
          go_roundg (gk-1)
          case measure => omega
          case rel => exact ⟨k+1, by omega, by omega, by go_num, rfl, range_step hall.out (by rw [HEL.out]; exact decide_eq_false (by omega))⟩
      · have HCK2 : Hid (CK = if bads ls then 1 else if badTwo m x u v then 7 else 0) := by
          rw [HCK.out, if_neg (by rw [longs_false (fun j hj => hall.out j (by omega))]; exact Bool.false_ne_true)]; exact Lib.hid rfl
        go_wp2_with fail
        go_loopg [12] 3 (fun z i wr => ∃ k : Nat, k ≤ 3 ∧ 3 ≤ k + z ∧ i = .int .i64 k ∧ Ext w2 wr ∧ Hid (∀ j, j < k → (wordK 200 (ls[j]?.getD []) != 0) = false))
        case atStart => exact ⟨0, by omega, by omega, rfl, Ext.refl _, Lib.hid (fun j hj => by omega)⟩
        case round =>
          clear hall
          obtain ⟨k, hk, hkz, rfl, hX, hall⟩ := hrel
          by_cases hlt : k < 3
          · obtain ⟨ba, oa, hb, u3, hc, hi3⟩ := H3.out k (by omega)
            injection hb with hb; injection hb with hb1 hb2 _; subst hb1 hb2
            rw [Nat.zero_add] at hc
            obtain ⟨a4, c4, rfl, _, _, _⟩ := hi3.open_
            generalize hel : ls[k]?.getD [] = el at *
            have HEL := Lib.hid hel; clear hel
            have HWD := Lib.hid (word_c _ el 200 wr (hi3.ext hX))
            replace hc := hX.keep hc
            have hxr : Ext wA wr := hx2.trans hX
            clear hi3
            by_cases h2 : wordK 200 el = 0
            · rw [h2] at HWD
              go_wp2_with fail
              refine HWD.out.mono ?_; rintro e w4 ⟨rfl, hx4⟩
              go_wp2_with fail
              go_roundg (gk-1)
              case measure => omega
              case rel => exact ⟨k+1, by omega, by omega, by go_num, hX.trans hx4, range_step hall.out (by rw [HEL.out, h2]; rfl)⟩
            · have h3 : (wordK 200 el != 0) = true := by simp [h2]
              clear h2
              have HBD := Lib.hid (bads_true (l := ls) (k := k) (by omega) (by rw [HEL.out]; exact h3))
              generalize wordK 200 el = wk at *
              go_wp2_with fail
              refine HWD.out.mono ?_; rintro e w4 ⟨rfl, hx4⟩
              go_wp2_with fail
              go_ret
              exact RV.int (by rw [HCK2.out, HBD.out]; rfl) (hE0.trans (hxr.trans hx4))
          · have HCK3 : Hid (CK = if badTwo m x u v then 7 else 0) := by
              rw [HCK2.out, if_neg (by rw [bads_false (fun j hj => hall.out j (by omega))]; exact Bool.false_ne_true)]; exact Lib.hid rfl
            have hxr : Ext wA wr := hx2.trans hX
            have HBT : Hid (badTwo m x u v = ((sameIntsB u v || !relB m x u) || !relB m x v)) := Lib.hid rfl
            have HSI := Lib.hid (sameInts_c _ _ u v wr (HIU.out.ext hxr) (HIV.out.ext hxr))
            have HR1 := Lib.hid (fun W (hW : Ext wA W) => rrelates_c _ _ _ _ m x u W (HR.out.ext hW) HMI.out (HIX.out.ext hW) (HIU.out.ext hW))
            have HR2 := Lib.hid (fun W (hW : Ext wA W) => rrelates_c _ _ _ _ m x v W (HR.out.ext hW) HMI.out (HIX.out.ext hW) (HIV.out.ext hW))
            generalize sameIntsB u v = b0 at *
            generalize relB m x u = b1 at *
            generalize relB m x v = b2 at *
            have FIN : ∀ (b : Bool) (k : Int) W, badTwo m x u v = b → (k = if b then 7 else 0) → Ext wA W → RV (.int .i64 CK) w (.returned (.int .i64 k)) W := fun b k W h1 h2 h3 => RV.int (by rw [HCK3.out, h1, h2]) (hE0.trans h3)
            have HFIN := Lib.hid FIN; clear FIN
            cases b0
            · cases b1
              · go_wp2_with fail
                refine HSI.out.mono ?_; rintro e w4 ⟨rfl, n4, hw4⟩
                have hx4 : Ext wA w4 := hxr.trans (by rw [hw4]; exact Ext.drewN _ _)
                clear hw4
                go_wp2_with fail
                refine (HR1.out w4 hx4).mono ?_; rintro e w5 ⟨rfl, hx5⟩
                replace hx5 := hx4.trans hx5
                go_wp2_with fail
                go_ret
                exact HFIN.out true _ _ (by rw [HBT.out]; rfl) rfl hx5
              · cases b2
                · go_wp2_with fail
                  refine HSI.out.mono ?_; rintro e w4 ⟨rfl, n4, hw4⟩
                  have hx4 : Ext wA w4 := hxr.trans (by rw [hw4]; exact Ext.drewN _ _)
                  clear hw4
                  go_wp2_with fail
                  refine (HR1.out w4 hx4).mono ?_; rintro e w5 ⟨rfl, hx5⟩
                  replace hx5 := hx4.trans hx5
                  go_wp2_with fail
                  refine (HR2.out w5 hx5).mono ?_; rintro e w6 ⟨rfl, hx6⟩
                  replace hx6 := hx5.trans hx6
                  go_wp2_with fail
                  go_ret
                  exact HFIN.out true _ _ (by rw [HBT.out]; rfl) rfl hx6
                · go_wp2_with fail
                  refine HSI.out.mono ?_; rintro e w4 ⟨rfl, n4, hw4⟩
                  have hx4 : Ext wA w4 := hxr.trans (by rw [hw4]; exact Ext.drewN _ _)
                  clear hw4
                  go_wp2_with fail
                  refine (HR1.out w4 hx4).mono ?_; rintro e w5 ⟨rfl, hx5⟩
                  replace hx5 := hx4.trans hx5
                  go_wp2_with fail
                  refine (HR2.out w5 hx5).mono ?_; rintro e w6 ⟨rfl, hx6⟩
                  replace hx6 := hx5.trans hx6
                  go_wp2_with fail
                  go_ret
                  exact HFIN.out false _ _ (by rw [HBT.out]; rfl) rfl hx6
            · go_wp2_with fail
              refine HSI.out.mono ?_; rintro e w4 ⟨rfl, n4, hw4⟩
              have hx4 : Ext wA w4 := hxr.trans (by rw [hw4]; exact Ext.drewN _ _)
              clear hw4
              go_wp2_with fail
              go_ret
              exact HFIN.out true _ _ (by rw [HBT.out]; rfl) rfl hx4
  · have hk : (validM m != 0) = true := by simp [h0]
    have HCK : Hid (checkTwoK m x u v = validM m) := Lib.hid (by rw [checkTwoK, if_neg h0])
    rw [HCK.out]
    generalize validM m = k at *
    clear h0
    go_enter Try.func31, Try.ntmps31
    go_wp2_with fail
    rw [← HW.out]
    refine HV.out.mono ?_; rintro e w1 ⟨rfl, hx1⟩
    go_wp2_with fail
    go_ret
    exact RV.int rfl (hE0.trans hx1)
end Go.Proofs.Ytpbflkbelhlogaa
