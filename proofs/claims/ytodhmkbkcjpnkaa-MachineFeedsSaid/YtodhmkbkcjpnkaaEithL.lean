/- Machines: what either of two relates. Plain laws. -/
import Derived.Test.YtodhmkbkcjpnkaaEithP
import Derived.Test.YtodhmkbkcjpnkaaMacZ
namespace Go.Proofs.Ytodhmkbkcjpnkaa
open Go.RowKit Go.Shelf
set_option linter.unusedVariables false
theorem setB_pair {l : List Int} {n : Int} (h : setB l n = true) : l.Pairwise (· < ·) := by
  rw [List.pairwise_iff_getElem]
  intro i j hi hj hij
  have := setB_lt h hj i hij
  simpa only [hi, hj, List.getElem?_eq_getElem, Option.getD_some] using this
theorem setB_of {l : List Int} {n : Int} (h : ∀ x ∈ l, 0 ≤ x ∧ x < n) (hp : l.Pairwise (· < ·)) : setB l n = true := by
  unfold setB
  refine allB_true fun i hi => ?_
  have h1 := h l[i] (List.getElem_mem hi)
  unfold setAt inB
  rw [List.getElem?_eq_getElem hi]
  simp only [Option.getD_some, Bool.and_eq_true, decide_eq_true_eq, Bool.not_eq_true', Bool.and_eq_false_iff, decide_eq_false_iff_not]
  refine ⟨by omega, ?_⟩
  by_cases h0 : 0 < i
  · right
    rw [List.getElem?_eq_getElem (by omega), Option.getD_some]
    have := (List.pairwise_iff_getElem.1 hp) (i - 1) i (by omega) hi (by omega)
    omega
  · exact .inl h0
theorem mem_eith1 {f : Int} {a b : Arc} : a ∈ eith1 f b ↔ a = mov1 f b ∨ (b.f = 0 ∧ a = mov0 f b) := by
  unfold eith1
  split <;> rename_i h <;> simp [h]
theorem mem_eithA {m n : Mac} {a : Arc} : a ∈ eithA m n ↔ (∃ b ∈ m.a, a = mov1 1 b ∨ (b.f = 0 ∧ a = mov0 1 b)) ∨ (∃ b ∈ n.a, a = mov1 (1 + m.s) b ∨ (b.f = 0 ∧ a = mov0 (1 + m.s) b)) := by
  unfold eithA eithX
  rw [List.mem_append, List.mem_flatMap, List.mem_flatMap]
  simp only [mem_eith1]
theorem mem_eith0 {m n : Mac} {s : Int} : s ∈ eith0 m n ↔ s = 0 ∧ (0 ∈ m.e ∨ 0 ∈ n.e) := by
  unfold eith0
  rw [hasB_eq, hasB_eq]
  by_cases h1 : (0 : Int) ∈ m.e <;> by_cases h2 : (0 : Int) ∈ n.e <;> simp [h1, h2]
theorem mem_eithEs {m n : Mac} {s : Int} : s ∈ eithEs m n ↔ (s = 0 ∧ (0 ∈ m.e ∨ 0 ∈ n.e)) ∨ (∃ e ∈ m.e, e + 1 = s) ∨ (∃ e ∈ n.e, e + (1 + m.s) = s) := by
  unfold eithEs eithE
  rw [List.mem_append, List.mem_append, mem_eith0, List.mem_map, List.mem_map]
/-- either of two, as the list of its arcs lies in order -/
structure IsE (m n c : Mac) : Prop where
  s : c.s = 1 + m.s + n.s
  a : ∀ a, a ∈ c.a ↔ a ∈ eithA m n
  e : c.e = eithEs m n
theorem eith_pair {m n : Mac} (hm : MacOk m) (hn : MacOk n) : (eithEs m n).Pairwise (· < ·) := by
  unfold eithEs eithE
  have h1 := setB_in hm.e
  have h2 := setB_in hn.e
  have h3 := hm.s1
  have h4 := hn.s1
  have h0 : (eith0 m n).Pairwise (· < ·) := by
    unfold eith0
    by_cases h1 : hasB m.e 0 = true <;> by_cases h2 : hasB n.e 0 = true <;> simp [h1, h2]
  rw [List.pairwise_append]
  refine ⟨h0, ?_, fun x hx y hy => ?_⟩
  · rw [List.pairwise_append]
    refine ⟨List.pairwise_map.2 ((setB_pair hm.e).imp fun {a b} h => by omega), List.pairwise_map.2 ((setB_pair hn.e).imp fun {a b} h => by omega), fun x hx y hy => ?_⟩
    obtain ⟨p, hp, rfl⟩ := List.mem_map.1 hx
    obtain ⟨q, hq, rfl⟩ := List.mem_map.1 hy
    have := h1 p hp
    have := h2 q hq
    omega
  · obtain ⟨rfl, _⟩ := mem_eith0.1 hx
    rw [List.mem_append, List.mem_map, List.mem_map] at hy
    rcases hy with ⟨q, hq, rfl⟩ | ⟨q, hq, rfl⟩
    · have := h1 q hq; omega
    · have := h2 q hq; omega
theorem arcOk_of {s : Int} {a : Arc} (h : (0 ≤ a.f ∧ a.f < s) ∧ (0 ≤ a.t ∧ a.t < s) ∧ (0 ≤ a.i ∧ a.i ≤ 5) ∧ (0 ≤ a.o ∧ a.o ≤ 5)) : arcOk s a = true := by
  simp only [arcOk, Bool.and_eq_true, inB, decide_eq_true_eq]
  omega
theorem either_ok {m n : Mac} (h : eitherK m n = 0) : MacOk m ∧ MacOk n ∧ validM m = 0 ∧ validM n = 0 ∧ validM (eitherM m n) = 0 ∧ IsE m n (eitherM m n) := by
  unfold eitherK at h
  by_cases hb : bothK m n = 0
  · rw [if_pos hb] at h
    obtain ⟨hm, hn⟩ := both_ok hb
    have hv : validM m = 0 := by
      unfold bothK at hb
      split at hb
      · assumption
      · rename_i h0; exact absurd hb h0
    have hv2 : validM n = 0 := by rw [bothK, if_pos hv] at hb; exact hb
    have hk := h
    unfold madeK at h
    split at h
    · omega
    · rename_i h9
      split at h
      · omega
      · rename_i h60
        have hC : eitherM m n = ⟨1 + m.s + n.s, arcsU (eithA m n), eithEs m n⟩ := by rw [eitherM, if_pos hb, madeM, if_pos hk]
        have hm1 := hm.s1
        have hn1 := hn.s1
        refine ⟨hm, hn, hv, hv2, ?_, by rw [hC], fun a => by rw [hC]; exact arcsU_mem _ _, by rw [hC]⟩
        rw [hC]
        have g1 : inB (1 + m.s + n.s) 1 9 = true := by simp [inB]; omega
        have g3 : allB (arcsU (eithA m n)).length (fun k => arcOk (1 + m.s + n.s) (arcA (arcsU (eithA m n)) k)) = true := allB_true fun j hj => by
          have hx : arcA (arcsU (eithA m n)) j ∈ eithA m n := (arcsU_mem _ _).1 (by unfold arcA; rw [List.getElem?_eq_getElem hj]; exact List.getElem_mem hj)
          refine arcOk_of ?_
          rcases mem_eithA.1 hx with ⟨b, hb, he | ⟨h0, he⟩⟩ | ⟨b, hb, he | ⟨h0, he⟩⟩ <;> rw [he]
          · have := hm.mem hb; simp only [mov1]; omega
          · have := hm.mem hb; simp only [mov0]; omega
          · have := hn.mem hb; simp only [mov1]; omega
          · have := hn.mem hb; simp only [mov0]; omega
        have g4 : setB (eithEs m n) (1 + m.s + n.s) = true := setB_of (fun x hx => by
          rcases mem_eithEs.1 hx with ⟨rfl, _⟩ | ⟨e, he, rfl⟩ | ⟨e, he, rfl⟩
          · omega
          · have := setB_in hm.e e he; omega
          · have := setB_in hn.e e he; omega) (eith_pair hm hn)
        have g5 : onceB (arcsU (eithA m n)) = true := once_nodup.2 (List.Pairwise.imp (fun {a b : Arc} (hab : LtA a b) (he : a = b) => by subst he; exact LtA.irrefl _ hab) (arcsU_asc (eithA m n)))
        unfold validM
        rw [if_pos g1, if_neg h60, if_pos g3, if_pos g4, if_pos g5]
  · rw [if_neg hb] at h; exact absurd h hb
theorem either_in1 {m n c : Mac} (hm : MacOk m) (hn : MacOk n) (hc : IsE m n c) : ∀ (u v : List Int) (s : Int), 0 ≤ s → s < m.s → (relP c u v (s + 1) ↔ relP m u v s)
  | [], [], s, h0, h1 => by
    show s + 1 ∈ c.e ↔ s ∈ m.e
    rw [hc.e, mem_eithEs]
    constructor
    · rintro (⟨h, _⟩ | ⟨e, he, h⟩ | ⟨e, he, h⟩)
      · omega
      · obtain rfl : e = s := by omega
        exact he
      · have := setB_in hn.e e he; omega
    · intro h; exact .inr (.inl ⟨s, h, rfl⟩)
  | i :: u, o :: v, s, h0, h1 => by
    show (∃ a ∈ c.a, a.f = s + 1 ∧ a.i = i ∧ a.o = o ∧ relP c u v a.t) ↔ ∃ a ∈ m.a, a.f = s ∧ a.i = i ∧ a.o = o ∧ relP m u v a.t
    constructor
    · rintro ⟨a, ha, h2, h3, h4, h5⟩
      rcases mem_eithA.1 ((hc.a a).1 ha) with ⟨b, hb, rfl | ⟨hf, rfl⟩⟩ | ⟨b, hb, rfl | ⟨hf, rfl⟩⟩
      · have hbm := hm.mem hb
        simp only [mov1] at h2 h3 h4 h5
        exact ⟨b, hb, by omega, h3, h4, (either_in1 hm hn hc u v b.t hbm.2.1.1 hbm.2.1.2).1 h5⟩
      · simp only [mov0] at h2; omega
      · have := hn.mem hb; simp only [mov1] at h2; omega
      · simp only [mov0] at h2; omega
    · rintro ⟨b, hb, h2, h3, h4, h5⟩
      have hbm := hm.mem hb
      exact ⟨mov1 1 b, (hc.a _).2 (mem_eithA.2 (.inl ⟨b, hb, .inl rfl⟩)), by simp only [mov1]; omega, h3, h4, (either_in1 hm hn hc u v b.t hbm.2.1.1 hbm.2.1.2).2 h5⟩
  | [], _ :: _, _, _, _ => Iff.rfl
  | _ :: _, [], _, _, _ => Iff.rfl
theorem either_in2 {m n c : Mac} (hm : MacOk m) (hn : MacOk n) (hc : IsE m n c) : ∀ (u v : List Int) (s : Int), 0 ≤ s → s < n.s → (relP c u v (s + (1 + m.s)) ↔ relP n u v s)
  | [], [], s, h0, h1 => by
    show s + (1 + m.s) ∈ c.e ↔ s ∈ n.e
    have hm1 := hm.s1
    rw [hc.e, mem_eithEs]
    constructor
    · rintro (⟨h, _⟩ | ⟨e, he, h⟩ | ⟨e, he, h⟩)
      · omega
      · have := setB_in hm.e e he; omega
      · obtain rfl : e = s := by omega
        exact he
    · intro h; exact .inr (.inr ⟨s, h, rfl⟩)
  | i :: u, o :: v, s, h0, h1 => by
    have hm1 := hm.s1
    show (∃ a ∈ c.a, a.f = s + (1 + m.s) ∧ a.i = i ∧ a.o = o ∧ relP c u v a.t) ↔ ∃ a ∈ n.a, a.f = s ∧ a.i = i ∧ a.o = o ∧ relP n u v a.t
    constructor
    · rintro ⟨a, ha, h2, h3, h4, h5⟩
      rcases mem_eithA.1 ((hc.a a).1 ha) with ⟨b, hb, rfl | ⟨hf, rfl⟩⟩ | ⟨b, hb, rfl | ⟨hf, rfl⟩⟩
      · have := hm.mem hb; simp only [mov1] at h2; omega
      · simp only [mov0] at h2; omega
      · have hbm := hn.mem hb
        simp only [mov1] at h2 h3 h4 h5
        exact ⟨b, hb, by omega, h3, h4, (either_in2 hm hn hc u v b.t hbm.2.1.1 hbm.2.1.2).1 h5⟩
      · simp only [mov0] at h2; omega
    · rintro ⟨b, hb, h2, h3, h4, h5⟩
      have hbm := hn.mem hb
      exact ⟨mov1 (1 + m.s) b, (hc.a _).2 (mem_eithA.2 (.inr ⟨b, hb, .inl rfl⟩)), by simp only [mov1]; omega, h3, h4, (either_in2 hm hn hc u v b.t hbm.2.1.1 hbm.2.1.2).2 h5⟩
  | [], _ :: _, _, _, _ => Iff.rfl
  | _ :: _, [], _, _, _ => Iff.rfl
theorem either_rel {m n c : Mac} (hm : MacOk m) (hn : MacOk n) (hc : IsE m n c) : ∀ (u v : List Int), relP c u v 0 ↔ relP m u v 0 ∨ relP n u v 0
  | [], [] => by
    have hm1 := hm.s1
    show 0 ∈ c.e ↔ 0 ∈ m.e ∨ 0 ∈ n.e
    rw [hc.e, mem_eithEs]
    constructor
    · rintro (⟨_, h⟩ | ⟨e, he, h⟩ | ⟨e, he, h⟩)
      · exact h
      · have := setB_in hm.e e he; omega
      · have := setB_in hn.e e he; omega
    · intro h; exact .inl ⟨rfl, h⟩
  | i :: u, o :: v => by
    have hm1 := hm.s1
    show (∃ a ∈ c.a, a.f = 0 ∧ a.i = i ∧ a.o = o ∧ relP c u v a.t) ↔ (∃ a ∈ m.a, a.f = 0 ∧ a.i = i ∧ a.o = o ∧ relP m u v a.t) ∨ ∃ a ∈ n.a, a.f = 0 ∧ a.i = i ∧ a.o = o ∧ relP n u v a.t
    constructor
    · rintro ⟨a, ha, h2, h3, h4, h5⟩
      rcases mem_eithA.1 ((hc.a a).1 ha) with ⟨b, hb, rfl | ⟨hf, rfl⟩⟩ | ⟨b, hb, rfl | ⟨hf, rfl⟩⟩
      · have := hm.mem hb; simp only [mov1] at h2; omega
      · have hbm := hm.mem hb
        exact .inl ⟨b, hb, hf, h3, h4, (either_in1 hm hn hc u v b.t hbm.2.1.1 hbm.2.1.2).1 h5⟩
      · have := hn.mem hb; simp only [mov1] at h2; omega
      · have hbm := hn.mem hb
        exact .inr ⟨b, hb, hf, h3, h4, (either_in2 hm hn hc u v b.t hbm.2.1.1 hbm.2.1.2).1 h5⟩
    · rintro (⟨b, hb, h2, h3, h4, h5⟩ | ⟨b, hb, h2, h3, h4, h5⟩)
      · have hbm := hm.mem hb
        exact ⟨mov0 1 b, (hc.a _).2 (mem_eithA.2 (.inl ⟨b, hb, .inr ⟨h2, rfl⟩⟩)), rfl, h3, h4, (either_in1 hm hn hc u v b.t hbm.2.1.1 hbm.2.1.2).2 h5⟩
      · have hbm := hn.mem hb
        exact ⟨mov0 (1 + m.s) b, (hc.a _).2 (mem_eithA.2 (.inr ⟨b, hb, .inr ⟨h2, rfl⟩⟩)), rfl, h3, h4, (either_in2 hm hn hc u v b.t hbm.2.1.1 hbm.2.1.2).2 h5⟩
  | [], _ :: _ => ⟨fun h => h.elim, fun h => h.elim id id⟩
  | _ :: _, [] => ⟨fun h => h.elim, fun h => h.elim id id⟩
theorem relatesB_iff {m : Mac} {u v : List Int} (h : checkK m [u, v] = 0) : relatesB m u v = true ↔ relP m u v 0 := by
  obtain ⟨hm, hu, _⟩ := checkK_ok (checkK_ok2 h).1
  rw [relatesB, if_pos h, decide_eq_true_iff]
  exact cntUV_iff hm hu
theorem either_law {m n : Mac} (h : eitherK m n = 0) (u v : List Int) : checkK n [u, v] = checkK m [u, v] ∧ checkK (eitherM m n) [u, v] = checkK m [u, v] ∧
    (checkK m [u, v] = 0 → relatesB (eitherM m n) u v = (relatesB m u v || relatesB n u v)) := by
  obtain ⟨hm, hn, h1, h2, h3, hc⟩ := either_ok h
  have e1 : checkK n [u, v] = checkK m [u, v] := by rw [checkK, checkK, if_pos h1, if_pos h2]
  have e2 : checkK (eitherM m n) [u, v] = checkK m [u, v] := by rw [checkK, checkK, if_pos h1, if_pos h3]
  refine ⟨e1, e2, fun h0 => ?_⟩
  rw [Bool.eq_iff_iff, Bool.or_eq_true, relatesB_iff (m := m) h0, relatesB_iff (m := n) (by rw [e1]; exact h0), relatesB_iff (m := eitherM m n) (by rw [e2]; exact h0)]
  exact either_rel hm hn hc u v
end Go.Proofs.Ytodhmkbkcjpnkaa
