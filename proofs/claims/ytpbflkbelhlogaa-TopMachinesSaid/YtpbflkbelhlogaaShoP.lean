/- A shortest run of a machine: plain; no program in sight. -/
import Derived.Test.YtpbflkbelhlogaaFar
import Derived.Test.YtpbflkbelhlogaaMacI
namespace Go.Proofs.Ytpbflkbelhlogaa
open Go.RowKit Go.Shelf
set_option linter.unusedVariables false
def fN (a : Arc) : Nat := a.f.toNat
def tN (a : Arc) : Nat := a.t.toNat
def endP (m : Mac) (s : Nat) : Prop := (s : Int) ∈ m.e
/-! ## how far -/
def zeroAt (e : List Int) (l : List Int) : List Int := e.foldl (fun l s => l.set s.toNat 0) l
theorem zeroAt_len : ∀ (e l : List Int), (zeroAt e l).length = l.length
  | [], _ => rfl
  | s :: e, l => by rw [zeroAt, List.foldl_cons]; exact (zeroAt_len e _).trans (by simp)
theorem zeroAt_next {e : List Int} {k : Nat} (h : k < e.length) (l : List Int) : zeroAt (e.take (k + 1)) l = (zeroAt (e.take k) l).set (e[k]?.getD 0).toNat 0 := by
  rw [take_next h 0, zeroAt, zeroAt, List.foldl_append]; rfl
theorem zeroAt_at {n s : Nat} : ∀ (e l : List Int), l.length = n → (∀ x ∈ e, 0 ≤ x ∧ x < n) → ((s : Int) ∈ e → at0 (zeroAt e l) s = 0) ∧ ((s : Int) ∉ e → at0 (zeroAt e l) s = at0 l s)
  | [], l, _, _ => ⟨fun h => (by cases h), fun _ => rfl⟩
  | x :: e, l, hl, he => by
    have hx := he x (by simp)
    have e1 : zeroAt (x :: e) l = zeroAt e (l.set x.toNat 0) := rfl
    obtain ⟨h1, h2⟩ := zeroAt_at (n := n) (s := s) e (l.set x.toNat 0) (by simp [hl]) (fun y hy => he y (by simp [hy]))
    rw [e1]
    refine ⟨fun hs => ?_, fun hs => ?_⟩
    · by_cases hm : (s : Int) ∈ e
      · exact h1 hm
      · rw [h2 hm, at0_set (by omega), if_pos]
        rcases List.mem_cons.1 hs with hs | hs
        · omega
        · exact absurd hs hm
    · rw [h2 (fun hm => hs (by simp [hm])), at0_set (by omega), if_neg]
      intro he2
      exact hs (by rw [List.mem_cons]; left; omega)
def far0 (n : Nat) (e : List Int) : List Int := zeroAt e (List.replicate n (-1))
def farL (m : Mac) : List Int := pRnd fN tN m.a (far0 m.s.toNat m.e) m.s.toNat
theorem far0_begin {m : Mac} (h : MacOk m) : Snd (f := fN) (t := tN) m.a (endP m) m.s.toNat (far0 m.s.toNat m.e) ∧ Cmp (f := fN) (t := tN) m.a (endP m) m.s.toNat 0 (far0 m.s.toNat m.e) ∧ Lay (f := fN) (t := tN) m.a (endP m) m.s.toNat 0 (far0 m.s.toNat m.e) := by
  refine far_begin fun s hs => ?_
  obtain ⟨h1, h2⟩ := zeroAt_at (n := m.s.toNat) (s := s) m.e (List.replicate m.s.toNat (-1)) (by simp) h.ends
  exact ⟨h1, fun hE => by unfold far0; rw [h2 hE]; simp [at0, hs]⟩
theorem far0_len (m : Mac) : (far0 m.s.toNat m.e).length = m.s.toNat := by unfold far0; rw [zeroAt_len]; simp
theorem far_is {m : Mac} (h : MacOk m) : IsFar (f := fN) (t := tN) m.a (endP m) m.s.toNat (farL m) := by
  obtain ⟨h1, h2, _⟩ := far0_begin h
  exact pFar_is (fun a ha => h.states a ha) (far0_len m) h1 h2
theorem far_ref {m : Mac} (h : MacOk m) : rRnd fN tN m.a (far0 m.s.toNat m.e) m.s.toNat = farL m := by
  obtain ⟨_, _, h3⟩ := far0_begin h
  exact (rFar_is (fun a ha => h.states a ha) (far0_len m) h3).eq (far_is h)
/-! ## no run is shorter -/
theorem bws_zero {m : Mac} : ∀ (L s : Nat), ¬ Rch fN tN m.a (endP m) L s → bwsE m.a (endE m.e) (List.replicate L anyA) s = 0
  | 0, s, h => by
    show endE m.e s = 0
    unfold endE
    rw [if_neg]
    simpa [endP, Rch] using h
  | L + 1, s, h => by
    rw [List.replicate_succ, bwsE]
    unfold bwE
    rw [sumL_congr (g := fun _ => 0) (fun a ha => ?_), sumL_zero]
    split
    · rename_i hc
      simp only [Bool.and_eq_true, beq_iff_eq] at hc
      exact bws_zero L _ fun hR => h ⟨a, ha, hc.2, hR⟩
    · rfl
theorem count_short {m : Mac} (h : MacOk m) {L : Nat} (hL : (L : Int) < at0 (farL m) 0) : countP m L = 0 := by
  have hs : 0 < m.s.toNat := by have := h.s1; omega
  have hv := (Vec.bwLs h.states (Vec.ends h.ends) (List.replicate L anyA)).2 0 hs
  unfold countP
  rw [hv, bws_zero L 0, wr64_zero]
  intro hR
  rcases (far_is h).2 0 hs with ⟨e, hn⟩ | ⟨d, e, hd⟩
  · exact hn _ hR
  · have := hd.2 _ hR; omega
/-! ## the first reading -/
def selR (left : List Int) (r : Int) (S : List Bool) (a : Arc) : Bool := getB S a.f && (at0 left (tN a) == r)
def bestR (m : Mac) (left : List Int) (r : Int) (S : List Bool) : Int := bestOf (selR left r S) Arc.i m.a
def nextR (m : Mac) (left : List Int) (r : Int) (S : List Bool) : List Bool := onsB m.s.toNat m.a (fun a => selR left r S a && a.i == bestR m left r S) Arc.t
def readGo (m : Mac) (left : List Int) : Nat → List Bool → List Int
  | 0, _ => []
  | r + 1, S => bestR m left r S :: readGo m left r (nextR m left r S)
theorem readGo_len (m : Mac) (left : List Int) : ∀ r S, (readGo m left r S).length = r
  | 0, _ => rfl
  | r + 1, S => by rw [readGo, List.length_cons, readGo_len m left r]
/-- the list and the row tell the same states -/
def SameS (n : Nat) (now : List Int) (S : List Bool) : Prop := ∀ s : Int, 0 ≤ s → s < n → (s ∈ now ↔ getB S s = true)
theorem SameS.begin {n : Nat} (h : 0 < n) : SameS n [0] (beginB n) := fun s h0 hs => by
  rw [getB_begin h h0]; simp
theorem SameS.next {m : Mac} (h : MacOk m) (c : Arc → Bool) : SameS m.s.toNat ((m.a.filter c).map Arc.t) (onsB m.s.toNat m.a c Arc.t) := fun s h0 hs => by
  rw [getB_ons c Arc.t (fun a ha => by have := (h.mem ha).2.1; have := h.s1; omega) h0, List.mem_map]
  constructor
  · rintro ⟨a, ha, e⟩; obtain ⟨h1, h2⟩ := List.mem_filter.1 ha; exact ⟨a, h1, h2, e⟩
  · rintro ⟨a, h1, h2, e⟩; exact ⟨a, List.mem_filter.2 ⟨h1, h2⟩, e⟩
theorem SameS.mem {m : Mac} (h : MacOk m) {now : List Int} {S : List Bool} (hS : SameS m.s.toNat now S) {a : Arc} (ha : a ∈ m.a) : now.contains a.f = getB S a.f := by
  have h1 := (h.mem ha).1
  have h2 := hS a.f h1.1 (by omega)
  rw [Bool.eq_iff_iff, List.contains_iff_mem]; exact h2
/-- as the program chooses -/
def selRP (left : List Int) (r : Int) (now : List Int) (a : Arc) : Bool := now.contains a.f && (at0 left (tN a) == r)
theorem selRP_eq {m : Mac} (h : MacOk m) {now : List Int} {S : List Bool} (hS : SameS m.s.toNat now S) (left : List Int) (r : Int) {a : Arc} (ha : a ∈ m.a) : selRP left r now a = selR left r S a := by
  unfold selRP selR; rw [hS.mem h ha]
theorem bestRP_eq {m : Mac} (h : MacOk m) {now : List Int} {S : List Bool} (hS : SameS m.s.toNat now S) (left : List Int) (r : Int) : bestOf (selRP left r now) Arc.i m.a = bestR m left r S :=
  best_congr m.a fun a ha => selRP_eq h hS left r ha
theorem nextRP_same {m : Mac} (h : MacOk m) {now : List Int} {S : List Bool} (hS : SameS m.s.toNat now S) (left : List Int) (r : Int) : SameS m.s.toNat ((m.a.filter fun a => selRP left r now a && a.i == bestR m left r S).map Arc.t) (nextR m left r S) := by
  have e : (m.a.filter fun a => selRP left r now a && a.i == bestR m left r S) = m.a.filter fun a => selR left r S a && a.i == bestR m left r S :=
    List.filter_congr fun a ha => by rw [selRP_eq h hS left r ha]
  rw [e]; exact SameS.next h _
/-! ## the first writing with it -/
def selW (s : Int) (good S : List Bool) (a : Arc) : Bool := getB S a.f && (a.i == s && getB good a.t)
def bestW (m : Mac) (s : Int) (good S : List Bool) : Int := bestOf (selW s good S) Arc.o m.a
def nextW (m : Mac) (s : Int) (good S : List Bool) : List Bool := onsB m.s.toNat m.a (fun a => selW s good S a && a.o == bestW m s good S) Arc.t
def writeGo (m : Mac) : List Int → List Bool → List Int
  | [], _ => []
  | s :: u, S => bestW m s (canL m.s.toNat m u) S :: writeGo m u (nextW m s (canL m.s.toNat m u) S)
theorem writeGo_len (m : Mac) : ∀ u S, (writeGo m u S).length = u.length
  | [], _ => rfl
  | s :: u, S => by rw [writeGo, List.length_cons, List.length_cons, writeGo_len m u]
def selWP (s : Int) (good : List Bool) (now : List Int) (a : Arc) : Bool := now.contains a.f && (a.i == s && getB good a.t)
theorem selWP_eq {m : Mac} (h : MacOk m) {now : List Int} {S : List Bool} (hS : SameS m.s.toNat now S) (s : Int) (good : List Bool) {a : Arc} (ha : a ∈ m.a) : selWP s good now a = selW s good S a := by
  unfold selWP selW; rw [hS.mem h ha]
theorem bestWP_eq {m : Mac} (h : MacOk m) {now : List Int} {S : List Bool} (hS : SameS m.s.toNat now S) (s : Int) (good : List Bool) : bestOf (selWP s good now) Arc.o m.a = bestW m s good S :=
  best_congr m.a fun a ha => selWP_eq h hS s good ha
theorem nextWP_same {m : Mac} (h : MacOk m) {now : List Int} {S : List Bool} (hS : SameS m.s.toNat now S) (s : Int) (good : List Bool) : SameS m.s.toNat ((m.a.filter fun a => selWP s good now a && a.o == bestW m s good S).map Arc.t) (nextW m s good S) := by
  have e : (m.a.filter fun a => selWP s good now a && a.o == bestW m s good S) = m.a.filter fun a => selW s good S a && a.o == bestW m s good S :=
    List.filter_congr fun a ha => by rw [selWP_eq h hS s good ha]
  rw [e]; exact SameS.next h _
/-! ## whether some run from a state reads a word, as the program finds out -/
def leadNext (ar : List Arc) (s : Int) (now : List Int) : List Int := (ar.filter fun a => now.contains a.f && a.i == s).map Arc.t
def leadGo (ar : List Arc) : List Int → List Int → List Int
  | [], now => now
  | s :: u, now => leadGo ar u (leadNext ar s now)
theorem leadGo_iff {m : Mac} : ∀ (u now : List Int), (∃ s, s ∈ leadGo m.a u now ∧ s ∈ m.e) ↔ ∃ s, s ∈ now ∧ canP m u s
  | [], now => Iff.rfl
  | i :: u, now => by
    rw [leadGo, leadGo_iff u]
    unfold leadNext
    constructor
    · rintro ⟨s, hs, hc⟩
      obtain ⟨a, ha, rfl⟩ := List.mem_map.1 hs
      obtain ⟨h1, h2⟩ := List.mem_filter.1 ha
      simp only [Bool.and_eq_true, List.contains_iff_mem, beq_iff_eq] at h2
      exact ⟨a.f, h2.1, a, h1, rfl, h2.2, hc⟩
    · rintro ⟨s, hs, a, ha, rfl, rfl, hc⟩
      exact ⟨a.t, List.mem_map.2 ⟨a, List.mem_filter.2 ⟨ha, by simp [hs]⟩, rfl⟩, hc⟩
theorem lead_is {m : Mac} (h : MacOk m) {u : List Int} {s : Int} (hs : 0 ≤ s) : (leadGo m.a u [s]).any (fun x => m.e.contains x) = getB (canL m.s.toNat m u) s := by
  rw [Bool.eq_iff_iff, List.any_eq_true, getB_can h.in_ u hs]
  have := leadGo_iff (m := m) u [s]
  constructor
  · rintro ⟨x, hx, he⟩
    obtain ⟨y, hy, hc⟩ := this.1 ⟨x, hx, List.contains_iff_mem.1 he⟩
    rw [List.mem_singleton] at hy; subst hy; exact hc
  · intro hc
    obtain ⟨x, hx, he⟩ := this.2 ⟨s, by simp, hc⟩
    exact ⟨x, hx, List.contains_iff_mem.2 he⟩
theorem leadNext_len (ar : List Arc) (s : Int) (now : List Int) : (leadNext ar s now).length ≤ ar.length := by
  unfold leadNext; rw [List.length_map]; exact List.length_filter_le _ _
/-! ## what Shortest answers -/
def shoD (m : Mac) : Int := at0 (farL m) 0
def shoIn (m : Mac) : List Int := readGo m (farL m) (shoD m).toNat (beginB m.s.toNat)
def shoOut (m : Mac) : List Int := writeGo m (shoIn m) (beginB m.s.toNat)
theorem shoIn_len (m : Mac) : (shoIn m).length = (shoD m).toNat := readGo_len _ _ _ _
theorem shoD_bd {m : Mac} (h : MacOk m) : -1 ≤ shoD m ∧ shoD m < 9 := by
  have hs : 0 < m.s.toNat := by have := h.s1; omega
  unfold shoD
  rcases (far_is h).2 0 hs with ⟨e, _⟩ | ⟨d, e, hd⟩
  · omega
  · have := hd.lt (fun a ha => h.states a ha) hs; have := h.s2; omega
end Go.Proofs.Ytpbflkbelhlogaa
