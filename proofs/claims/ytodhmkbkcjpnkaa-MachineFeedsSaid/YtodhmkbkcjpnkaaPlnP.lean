/- Machines: a machine with Plain 6 behind it; machines with the same arcs in another order. Plain laws. -/
import Derived.Test.YtodhmkbkcjpnkaaRPlain
namespace Go.Proofs.Ytodhmkbkcjpnkaa
open Go.RowKit Go.Shelf
set_option linter.unusedVariables false
theorem plain6 : plainM 6 = ⟨1, plainA 6, [0]⟩ := by decide +kernel
theorem plain6_valid : validM (plainM 6) = 0 := by decide +kernel
theorem plain6_K : plainK 6 = 0 := by decide +kernel
theorem compX_plain {x : Arc} (h0 : 0 ≤ x.o) (h5 : x.o ≤ 5) : compX (plainM 6) x (plainM 6).a = [x] := by
  obtain ⟨f, t, i, o⟩ := x
  have h : o = 0 ∨ o = 1 ∨ o = 2 ∨ o = 3 ∨ o = 4 ∨ o = 5 := by simp only at h0 h5; omega
  rw [plain6]
  rcases h with rfl | rfl | rfl | rfl | rfl | rfl <;> simp [compX, compOf, plainA, List.range, List.range.loop]
theorem flat_self : ∀ l : List Arc, (∀ x ∈ l, 0 ≤ x.o ∧ x.o ≤ 5) → (l.flatMap fun x => compX (plainM 6) x (plainM 6).a) = l
  | [], _ => rfl
  | x :: l, h => by
    rw [List.flatMap_cons, compX_plain (h x (by simp)).1 (h x (by simp)).2, flat_self l fun y hy => h y (by simp [hy])]; rfl
theorem flat_end (l : List Int) : (l.flatMap fun a => (plainM 6).e.map fun b => a * (plainM 6).s + b) = l := by
  rw [plain6]
  induction l with
  | nil => rfl
  | cons a l ih => rw [List.flatMap_cons, ih]; simp
theorem compose_plain {m : Mac} (h : validM m = 0) : composeM m (plainM 6) = ⟨m.s, arcsU m.a, m.e⟩ ∧ composeK m (plainM 6) = 0 := by
  have hm := validM_mac h
  have hb : bothK m (plainM 6) = 0 := by rw [bothK, if_pos h, plain6_valid]
  have hA : compA m (plainM 6) = m.a := by
    unfold compA
    exact flat_self m.a fun x hx => hm.outIn x hx
  have hE : compE m (plainM 6) = m.e := flat_end m.e
  have hs : m.s * (plainM 6).s = m.s := by rw [plain6]; exact Int.mul_one _
  have h9 := hm.s2
  have hl : (arcsU m.a).length ≤ 60 := Nat.le_trans (arcsU_len m.a) hm.a
  have hK : madeK m.s m.a = 0 := by rw [madeK, if_neg (by omega), if_neg (by omega)]
  rw [composeM, composeK, if_pos hb, if_pos hb, hA, hE, hs, madeM, if_pos hK]
  exact ⟨rfl, hK⟩
theorem compose_bad {m n : Mac} (h : validM m ≠ 0) : composeM m n = ⟨0, [], []⟩ ∧ composeK m n = validM m := by
  have hb : bothK m n = validM m := by rw [bothK, if_neg h]
  rw [composeM, composeK, hb, if_neg h, if_neg h]
  exact ⟨rfl, rfl⟩
theorem allB_iff2 {n : Nat} {f : Nat → Bool} : allB n f = true ↔ ∀ j, j < n → f j = true := by simp [allB]
theorem once_nodup {l : List Arc} : onceB l = true ↔ l.Nodup := by
  unfold onceB List.Nodup
  rw [allB_iff2, List.pairwise_iff_getElem]
  constructor
  · intro h i j hi hj hij he
    have := h j hj
    unfold hasA at this
    simp only [Bool.not_eq_true', List.any_eq_false, List.mem_range] at this
    have := this i hij
    unfold arcA at this
    rw [List.getElem?_eq_getElem hi, List.getElem?_eq_getElem hj] at this
    simp [he] at this
  · intro h j hj
    unfold hasA
    simp only [Bool.not_eq_true', List.any_eq_false, List.mem_range]
    intro i hij
    unfold arcA
    rw [List.getElem?_eq_getElem (by omega), List.getElem?_eq_getElem hj]
    simpa using h i j (by omega) hj hij
theorem arcsU_perm {l : List Arc} (h : l.Nodup) : (arcsU l).Perm l := by
  refine (List.perm_ext_iff_of_nodup ?_ h).2 fun x => arcsU_mem l x
  exact List.Pairwise.imp (fun {a b : Arc} (hab : LtA a b) (he : a = b) => by subst he; exact LtA.irrefl _ hab) (arcsU_asc l)
theorem onsB_perm {n : Nat} {a b : List Arc} (p : a.Perm b) (c : Arc → Bool) (tgt : Arc → Int) : onsB n a c tgt = onsB n b c tgt := by
  unfold onsB
  refine p.foldl_eq' (fun x _ y _ z => ?_) _
  unfold onB
  by_cases h1 : c x = true <;> by_cases h2 : c y = true <;> simp only [h1, h2, if_true, if_false, Bool.false_eq_true]
  by_cases he : (tgt x).toNat = (tgt y).toNat
  · rw [he]
  · rw [List.set_comm _ _ he]
theorem any_perm {a b : List Arc} (p : a.Perm b) (c : Arc → Bool) : a.any c = b.any c := by
  rw [Bool.eq_iff_iff, List.any_eq_true, List.any_eq_true]
  constructor
  · rintro ⟨x, hx, h⟩; exact ⟨x, p.mem_iff.1 hx, h⟩
  · rintro ⟨x, hx, h⟩; exact ⟨x, p.mem_iff.2 hx, h⟩
theorem canL_perm {n : Nat} {m c : Mac} (p : c.a.Perm m.a) (he : c.e = m.e) : ∀ u, canL n c u = canL n m u
  | [] => by rw [canL, canL, he]
  | s :: u => by rw [canL, canL, canL_perm p he u, onsB_perm p]
theorem nextL_perm {n : Nat} {a b : List Arc} (p : a.Perm b) (s : Int) (nx : List Bool) (hs : List Hd) : nextL n a s nx hs = nextL n b s nx hs := by
  have h : nextH n a s nx = nextH n b s nx := by
    funext h
    unfold nextH
    congr 1
    funext o
    unfold nextO
    rw [any_perm p, onsB_perm p]
  unfold nextL
  rw [h]
theorem imgGo_perm {n : Nat} {m c : Mac} (p : c.a.Perm m.a) (he : c.e = m.e) : ∀ u hs, imgGo n c u hs = imgGo n m u hs
  | [], hs => rfl
  | s :: u, hs => by rw [imgGo, imgGo, canL_perm p he, nextL_perm p, imgGo_perm p he u]
theorem images_perm {n : Nat} {m c : Mac} (p : c.a.Perm m.a) (he : c.e = m.e) (u : List Int) : imagesO n c u = imagesO n m u := by
  unfold imagesO
  rw [canL_perm p he, imgGo_perm p he]
theorem valid_perm {m : Mac} {U : List Arc} (p : U.Perm m.a) (h : validM m = 0) : validM ⟨m.s, U, m.e⟩ = 0 := by
  have hm := validM_mac h
  have h1 : inB m.s 1 9 = true := by have := hm.s1; have := hm.s2; simp [inB]; omega
  have h2 : ¬ 60 < U.length := by rw [p.length_eq]; have := hm.a; omega
  have h3 : allB U.length (fun k => arcOk m.s (arcA U k)) = true := allB_true fun j hj => by
    have hx : arcA U j ∈ m.a := p.mem_iff.1 (by unfold arcA; rw [List.getElem?_eq_getElem hj]; exact List.getElem_mem hj)
    obtain ⟨i, hi, he⟩ := List.mem_iff_getElem.1 hx
    have := hm.ok i hi
    unfold arcA at this
    rw [List.getElem?_eq_getElem hi] at this
    rw [← he]; exact this
  have h5 : onceB U = true := once_nodup.2 (p.nodup_iff.2 (once_nodup.1 hm.once))
  unfold validM
  rw [if_pos h1, if_neg h2, if_pos h3, if_pos hm.e, if_pos h5]
theorem images_same {m : Mac} (h : validM m = 0) (u : List Int) : imagesL (composeM m (plainM 6)) u = imagesL m u ∧ imagesK (composeM m (plainM 6)) u = imagesK m u := by
  have p := arcsU_perm (once_nodup.1 (validM_mac h).once)
  rw [(compose_plain h).1]
  have hv := valid_perm p h
  have hc : checkK ⟨m.s, arcsU m.a, m.e⟩ [u] = checkK m [u] := by rw [checkK, checkK, if_pos hv, if_pos h]
  have hi : imagesO m.s.toNat ⟨m.s, arcsU m.a, m.e⟩ u = imagesO m.s.toNat m u := images_perm (m := m) (c := ⟨m.s, arcsU m.a, m.e⟩) p rfl u
  unfold imagesL imagesK
  rw [hc]
  constructor
  · split
    · rw [show (⟨m.s, arcsU m.a, m.e⟩ : Mac).s = m.s from rfl, hi]
    · rfl
  · split
    · rw [show (⟨m.s, arcsU m.a, m.e⟩ : Mac).s = m.s from rfl, hi]
    · rfl
end Go.Proofs.Ytodhmkbkcjpnkaa
