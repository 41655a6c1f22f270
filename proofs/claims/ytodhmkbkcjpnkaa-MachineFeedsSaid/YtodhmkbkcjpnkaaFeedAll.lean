/- Several texts in one: FeedL, FeedH, FeedP. -/
import Derived.Test.YtodhmkbkcjpnkaaEithL
/- Machines: what two one after another relate. Plain laws. -/
namespace Go.Proofs.Ytodhmkbkcjpnkaa
open Go.RowKit Go.Shelf
set_option linter.unusedVariables false
theorem pair_inj {p q p' q' N : Int} (h0 : 0 ≤ q) (h1 : q < N) (h2 : 0 ≤ q') (h3 : q' < N) (h : p * N + q = p' * N + q') : p = p' ∧ q = q' := by
  have key : ∀ a b : Int, a < b → a * N + N ≤ b * N := fun a b hab => by
    have := Int.mul_le_mul_of_nonneg_right (show a + 1 ≤ b by omega) (show 0 ≤ N by omega)
    rw [Int.add_mul, Int.one_mul] at this
    exact this
  have hp : p = p' := by
    rcases Int.lt_trichotomy p p' with hlt | heq | hgt
    · have := key p p' hlt; omega
    · exact heq
    · have := key p' p hgt; omega
  subst hp
  exact ⟨rfl, by omega⟩
theorem pair_bd {p q M N : Int} (h0 : 0 ≤ p) (h1 : p < M) (h2 : 0 ≤ q) (h3 : q < N) : 0 ≤ p * N + q ∧ p * N + q < M * N := by
  have h4 := Int.mul_nonneg h0 (show 0 ≤ N by omega)
  have h5 := Int.mul_le_mul_of_nonneg_right (show p + 1 ≤ M by omega) (show 0 ≤ N by omega)
  rw [Int.add_mul, Int.one_mul] at h5
  omega
structure IsC (m n c : Mac) : Prop where
  s : c.s = m.s * n.s
  a : ∀ a, a ∈ c.a ↔ ∃ x ∈ m.a, ∃ y ∈ n.a, x.o = y.i ∧ a = compOf n x y
  e : ∀ s, s ∈ c.e ↔ ∃ a ∈ m.e, ∃ b ∈ n.e, s = a * n.s + b
theorem mem_compA {m n : Mac} {a : Arc} : a ∈ compA m n ↔ ∃ x ∈ m.a, ∃ y ∈ n.a, x.o = y.i ∧ a = compOf n x y := by
  unfold compA compX
  rw [List.mem_flatMap]
  constructor
  · rintro ⟨x, hx, h⟩
    obtain ⟨y, hy, rfl⟩ := List.mem_map.1 h
    rw [List.mem_filter] at hy
    exact ⟨x, hx, y, hy.1, by simpa using hy.2, rfl⟩
  · rintro ⟨x, hx, y, hy, he, rfl⟩
    exact ⟨x, hx, List.mem_map.2 ⟨y, List.mem_filter.2 ⟨hy, by simpa using he⟩, rfl⟩⟩
theorem mem_compE {m n : Mac} {s : Int} : s ∈ compE m n ↔ ∃ a ∈ m.e, ∃ b ∈ n.e, s = a * n.s + b := by
  unfold compE
  rw [List.mem_flatMap]
  constructor
  · rintro ⟨a, ha, h⟩
    obtain ⟨b, hb, rfl⟩ := List.mem_map.1 h
    exact ⟨a, ha, b, hb, rfl⟩
  · rintro ⟨a, ha, b, hb, rfl⟩
    exact ⟨a, ha, List.mem_map.2 ⟨b, hb, rfl⟩⟩
theorem comp_pair {N : Int} {eb : List Int} (hb : ∀ b ∈ eb, 0 ≤ b ∧ b < N) (hp : eb.Pairwise (· < ·)) : ∀ {ea : List Int}, (∀ a ∈ ea, 0 ≤ a) → ea.Pairwise (· < ·) → (ea.flatMap fun a => eb.map fun b => a * N + b).Pairwise (· < ·)
  | [], _, _ => List.Pairwise.nil
  | a :: ea, h, hpa => by
    rw [List.flatMap_cons, List.pairwise_append]
    rw [List.pairwise_cons] at hpa
    refine ⟨List.pairwise_map.2 (hp.imp fun {x y} h => by omega), comp_pair hb hp (fun x hx => h x (by simp [hx])) hpa.2, fun x hx y hy => ?_⟩
    obtain ⟨b, hb1, rfl⟩ := List.mem_map.1 hx
    obtain ⟨a2, ha2, hy⟩ := List.mem_flatMap.1 hy
    obtain ⟨b2, hb2, rfl⟩ := List.mem_map.1 hy
    have h1 := hb b hb1
    have h2 := hb b2 hb2
    have h3 := Int.mul_le_mul_of_nonneg_right (show a + 1 ≤ a2 by have := hpa.1 a2 ha2; omega) (show 0 ≤ N by omega)
    rw [Int.add_mul, Int.one_mul] at h3
    omega
theorem compose_ok {m n : Mac} (h : composeK m n = 0) : MacOk m ∧ MacOk n ∧ validM m = 0 ∧ validM n = 0 ∧ validM (composeM m n) = 0 ∧ IsC m n (composeM m n) := by
  unfold composeK at h
  by_cases hb : bothK m n = 0
  · rw [if_pos hb] at h
    obtain ⟨hm, hn⟩ := both_ok hb
    have hv : validM m = 0 := by
      unfold bothK at hb
      split at hb
      · assumption
      · rename_i h0; exact absurd hb h0
    have hv2 : validM n = 0 := by rw [bothK, if_pos hv] at hb; exact hb
    have hk := h
    unfold madeK at h
    split at h
    · omega
    · rename_i h9
      split at h
      · omega
      · rename_i h60
        have hC : composeM m n = ⟨m.s * n.s, arcsU (compA m n), compE m n⟩ := by rw [composeM, if_pos hb, madeM, if_pos hk]
        have hm1 := hm.s1
        have hn1 := hn.s1
        refine ⟨hm, hn, hv, hv2, ?_, by rw [hC], fun a => by rw [hC]; exact (arcsU_mem _ _).trans mem_compA, fun s => by rw [hC]; exact mem_compE⟩
        rw [hC]
        have hpos : 1 ≤ m.s * n.s := by
          have := Int.mul_le_mul_of_nonneg_right hm1 (show 0 ≤ n.s by omega)
          rw [Int.one_mul] at this; omega
        have g1 : inB (m.s * n.s) 1 9 = true := by simp [inB]; omega
        have g3 : allB (arcsU (compA m n)).length (fun k => arcOk (m.s * n.s) (arcA (arcsU (compA m n)) k)) = true := allB_true fun j hj => by
          have hx : arcA (arcsU (compA m n)) j ∈ compA m n := (arcsU_mem _ _).1 (by unfold arcA; rw [List.getElem?_eq_getElem hj]; exact List.getElem_mem hj)
          refine arcOk_of ?_
          obtain ⟨x, hx, y, hy, he, hxy⟩ := mem_compA.1 hx
          rw [hxy]
          have h1 := hm.mem hx
          have h2 := hn.mem hy
          exact ⟨pair_bd h1.1.1 h1.1.2 h2.1.1 h2.1.2, pair_bd h1.2.1.1 h1.2.1.2 h2.2.1.1 h2.2.1.2, h1.2.2.1, h2.2.2.2⟩
        have g4 : setB (compE m n) (m.s * n.s) = true := setB_of (fun x hx => by
          obtain ⟨a, ha, b, hb, rfl⟩ := mem_compE.1 hx
          have h1 := setB_in hm.e a ha
          have h2 := setB_in hn.e b hb
          exact pair_bd h1.1 h1.2 h2.1 h2.2) (comp_pair (fun b hb => setB_in hn.e b hb) (setB_pair hn.e) (fun a ha => (setB_in hm.e a ha).1) (setB_pair hm.e))
        have g5 : onceB (arcsU (compA m n)) = true := once_nodup.2 (List.Pairwise.imp (fun {a b : Arc} (hab : LtA a b) (he : a = b) => by subst he; exact LtA.irrefl _ hab) (arcsU_asc (compA m n)))
        unfold validM
        rw [if_pos g1, if_neg h60, if_pos g3, if_pos g4, if_pos g5]
  · rw [if_neg hb] at h; exact absurd h hb
theorem compose_rel {m n c : Mac} (hm : MacOk m) (hn : MacOk n) (hc : IsC m n c) : ∀ (u v : List Int) (p q : Int), 0 ≤ p → p < m.s → 0 ≤ q → q < n.s → (relP c u v (p * n.s + q) ↔ ∃ w, relP m u w p ∧ relP n w v q)
  | [], [], p, q, h0, h1, h2, h3 => by
    show p * n.s + q ∈ c.e ↔ _
    rw [hc.e]
    constructor
    · rintro ⟨a, ha, b, hb, he⟩
      have := setB_in hn.e b hb
      obtain ⟨rfl, rfl⟩ := pair_inj h2 h3 this.1 this.2 he
      exact ⟨[], ha, hb⟩
    · rintro ⟨w, hw1, hw2⟩
      cases w with
      | nil => exact ⟨p, hw1, q, hw2, rfl⟩
      | cons _ _ => exact hw1.elim
  | i :: u, o :: v, p, q, h0, h1, h2, h3 => by
    show (∃ a ∈ c.a, a.f = p * n.s + q ∧ a.i = i ∧ a.o = o ∧ relP c u v a.t) ↔ _
    constructor
    · rintro ⟨a, ha, g1, g2, g3, g4⟩
      obtain ⟨x, hx, y, hy, he, rfl⟩ := (hc.a a).1 ha
      have bx := hm.mem hx
      have by_ := hn.mem hy
      obtain ⟨e1, e2⟩ := pair_inj by_.1.1 by_.1.2 h2 h3 g1
      obtain ⟨w, w1, w2⟩ := (compose_rel hm hn hc u v x.t y.t bx.2.1.1 bx.2.1.2 by_.2.1.1 by_.2.1.2).1 g4
      exact ⟨x.o :: w, ⟨x, hx, e1, g2, rfl, w1⟩, ⟨y, hy, e2, he.symm, g3, w2⟩⟩
    · rintro ⟨w, hw1, hw2⟩
      cases w with
      | nil => exact hw1.elim
      | cons z w =>
        obtain ⟨x, hx, e1, e2, e3, e4⟩ := hw1
        obtain ⟨y, hy, f1, f2, f3, f4⟩ := hw2
        have bx := hm.mem hx
        have by_ := hn.mem hy
        exact ⟨compOf n x y, (hc.a _).2 ⟨x, hx, y, hy, by rw [e3, f2], rfl⟩, by show x.f * n.s + y.f = _; rw [e1, f1], e2, f3, (compose_rel hm hn hc u v x.t y.t bx.2.1.1 bx.2.1.2 by_.2.1.1 by_.2.1.2).2 ⟨w, e4, f4⟩⟩
  | [], o :: v, p, q, _, _, _, _ => by
    constructor
    · exact fun h => h.elim
    · rintro ⟨w, hw1, hw2⟩
      cases w with
      | nil => exact hw2.elim
      | cons _ _ => exact hw1.elim
  | i :: u, [], p, q, _, _, _, _ => by
    constructor
    · exact fun h => h.elim
    · rintro ⟨w, hw1, hw2⟩
      cases w with
      | nil => exact hw1.elim
      | cons _ _ => exact hw2.elim
theorem compose_rel0 {m n : Mac} (h : composeK m n = 0) (u v : List Int) : relP (composeM m n) u v 0 ↔ ∃ w, relP m u w 0 ∧ relP n w v 0 := by
  obtain ⟨hm, hn, _, _, _, hc⟩ := compose_ok h
  have := compose_rel hm hn hc u v 0 0 (by omega) (by have := hm.s1; omega) (by omega) (by have := hn.s1; omega)
  rwa [show (0 : Int) * n.s + 0 = 0 by simp] at this
end Go.Proofs.Ytodhmkbkcjpnkaa
/- Machines: the second of two has no more heads than the composed one. Plain. -/
namespace Go.Proofs.Ytodhmkbkcjpnkaa
open Go.RowKit Go.Shelf
set_option linter.unusedVariables false
theorem nodup_sub_len {α : Type} [DecidableEq α] : ∀ {l k : List α}, l.Nodup → (∀ x ∈ l, x ∈ k) → l.length ≤ k.length
  | [], _, _, _ => Nat.zero_le _
  | x :: l, k, hd, hs => by
    have hx := hs x (by simp)
    have h1 := List.length_erase_of_mem hx
    have h2 : 0 < k.length := List.length_pos_of_mem hx
    have h3 := nodup_sub_len (l := l) (k := k.erase x) (List.nodup_cons.1 hd).2 fun y hy => by
      have hne : y ≠ x := fun e => (List.nodup_cons.1 hd).1 (e ▸ hy)
      exact (List.mem_erase_of_ne hne).2 (hs y (by simp [hy]))
    rw [List.length_cons]; omega
def HApart (hs : List Hd) : Prop := hs.Pairwise fun x y => x.1 ≠ y.1
theorem HApart.next {n : Nat} {ar : List Arc} {s : Int} {nx : List Bool} {hs : List Hd} (h : HApart hs) : HApart (nextL n ar s nx hs) := by
  have hO : ∀ (g : Hd) (o : Nat) (x : Hd), x ∈ nextO n ar s nx g o → x.1 = g.1 ++ [(o : Int)] := fun g o x hx => by
    unfold nextO at hx
    split at hx
    · rw [List.mem_singleton] at hx; rw [hx]
    · cases hx
  have hH : ∀ (g : Hd) (x : Hd), x ∈ nextH n ar s nx g → ∃ o : Nat, x.1 = g.1 ++ [(o : Int)] := fun g x hx => by
    unfold nextH at hx
    obtain ⟨o, _, hx⟩ := List.mem_flatMap.1 hx
    exact ⟨o, hO g o x hx⟩
  unfold HApart nextL
  rw [List.pairwise_flatMap]
  refine ⟨fun g hg => ?_, h.imp fun {g g'} hne x hx y hy e => ?_⟩
  · unfold nextH
    rw [List.pairwise_flatMap]
    refine ⟨fun o _ => ?_, (List.pairwise_lt_range (n := 6)).imp fun {o o'} hlt x hx y hy e => ?_⟩
    · unfold nextO
      split
      · exact List.pairwise_singleton _ _
      · exact List.Pairwise.nil
    · rw [hO g o x hx, hO g o' y hy] at e
      have := List.append_cancel_left e
      injection this with this
      omega
  · obtain ⟨o, ho⟩ := hH g x hx
    obtain ⟨o', ho'⟩ := hH g' y hy
    rw [ho, ho'] at e
    exact hne (List.append_inj_left' e rfl)
theorem HApart.len {ks hs : List Hd} (h : HApart ks) (hs' : ∀ x ∈ ks, ∃ y ∈ hs, y.1 = x.1) : ks.length ≤ hs.length := by
  have h1 : (ks.map Prod.fst).Nodup := by unfold List.Nodup; rw [List.pairwise_map]; exact h
  have h2 := nodup_sub_len (k := hs.map Prod.fst) h1 fun v hv => by
    obtain ⟨x, hx, rfl⟩ := List.mem_map.1 hv
    obtain ⟨y, hy, he⟩ := hs' x hx
    rw [← he]; exact List.mem_map_of_mem hy
  rwa [List.length_map, List.length_map] at h2
/-- each head of the second is a head of the composed machine, whose states hold those of the second beside the first's -/
def Sim (n : Mac) (p : Int) (hs ks : List Hd) : Prop := ∀ x ∈ ks, ∃ y ∈ hs, y.1 = x.1 ∧ ∀ q, 0 ≤ q → q < n.s → getB x.2 q = true → getB y.2 (p * n.s + q) = true
theorem sim_go {m n c : Mac} (hm : MacOk m) (hn : MacOk n) (hcm : MacOk c) (hc : IsC m n c) : ∀ (u w : List Int) (p : Int) (hs ks : List Hd), 0 ≤ p → p < m.s → relP m u w p → HApart ks → Sim n p hs ks → (imgGo c.s.toNat c u hs).isSome = true → (imgGo n.s.toNat n w ks).isSome = true
  | [], w, p, hs, ks, _, _, hr, _, _, _ => by
    cases w with
    | nil => rfl
    | cons _ _ => exact hr.elim
  | i :: u, w, p, hs, ks, h0, h1, hr, ha, hsim, hgo => by
    cases w with
    | nil => exact hr.elim
    | cons o w =>
      obtain ⟨x, hx, e1, e2, e3, e4⟩ := hr
      have bx := hm.mem hx
      have hn0 : n.s.toNat = n.s := by have := hn.s1; omega
      have hc0 : (c.s.toNat : Int) = c.s := by have := hcm.s1; omega
      have hsim2 : Sim n x.t (nextL c.s.toNat c.a i (canL c.s.toNat c u) hs) (nextL n.s.toNat n.a o (canL n.s.toNat n w) ks) := fun z hz => by
        obtain ⟨g, hg, ov, hov, hany, rfl⟩ := mem_nextL.1 hz
        obtain ⟨g2, hg2, hw2, hst⟩ := hsim g hg
        have key : ∀ y ∈ n.a, goC o ov g.2 (canL n.s.toNat n w) y = true → compOf n x y ∈ c.a ∧ goC i ov g2.2 (canL c.s.toNat c u) (compOf n x y) = true := fun y hy hgy => by
          have by_ := hn.mem hy
          obtain ⟨f1, f2, f3, f4⟩ := goC_iff.1 hgy
          refine ⟨(hc.a _).2 ⟨x, hx, y, hy, by rw [e3, f2], rfl⟩, goC_iff.2 ⟨?_, e2, f3, ?_⟩⟩
          · show getB g2.2 (x.f * n.s + y.f) = true
            rw [e1]; exact hst y.f by_.1.1 by_.1.2 f1
          · show getB _ (x.t * n.s + y.t) = true
            have hcan := (getB_can hn.in_ w by_.2.1.1).1 f4
            obtain ⟨v', hv'⟩ := canP_rel hcan
            exact (getB_can hcm.in_ u (pair_bd bx.2.1.1 bx.2.1.2 by_.2.1.1 by_.2.1.2).1).2 (relP_can ((compose_rel hm hn hc u v' x.t y.t bx.2.1.1 bx.2.1.2 by_.2.1.1 by_.2.1.2).2 ⟨w, e4, hv'⟩))
        refine ⟨_, mem_nextL.2 ⟨g2, hg2, ov, hov, ?_, rfl⟩, by simp only [hw2], fun q hq0 hq1 hq => ?_⟩
        · obtain ⟨y, hy, hgy⟩ := List.any_eq_true.1 hany
          exact List.any_eq_true.2 ⟨_, (key y hy hgy).1, (key y hy hgy).2⟩
        · obtain ⟨y, hy, hgy, hyt⟩ := (getB_ons _ (fun a : Arc => a.t) (fun a ha => by have := (hn.mem ha).2.1; omega) hq0).1 hq
          have by_ := hn.mem hy
          refine (getB_ons _ (fun a : Arc => a.t) (fun a ha => by have := (hcm.mem ha).2.1; omega) (pair_bd bx.2.1.1 bx.2.1.2 hq0 hq1).1).2 ⟨_, (key y hy hgy).1, (key y hy hgy).2, ?_⟩
          show x.t * n.s + y.t = x.t * n.s + q
          rw [hyt]
      have hap := ha.next (n := n.s.toNat) (ar := n.a) (s := o) (nx := canL n.s.toNat n w)
      have hlen := hap.len fun z hz => by
        obtain ⟨y, hy, he, _⟩ := hsim2 z hz
        exact ⟨y, hy, he⟩
      rw [imgGo] at hgo ⊢
      split at hgo
      · cases hgo
      · rename_i hle
        rw [if_neg (by omega)]
        exact sim_go hm hn hcm hc u w x.t _ _ bx.2.1.1 bx.2.1.2 e4 hap hsim2 hgo
end Go.Proofs.Ytodhmkbkcjpnkaa
/- MachineFeeds: the plain law. -/
namespace Go.Proofs.Ytodhmkbkcjpnkaa
open Go.RowKit Go.Shelf
set_option linter.unusedVariables false
theorem relP_out {m : Mac} (hm : MacOk m) : ∀ {u v : List Int} {s : Int}, relP m u v s → ∀ x ∈ v, 0 ≤ x ∧ x ≤ 5
  | [], [], _, _, x, hx => by simp at hx
  | i :: u, o :: v, s, ⟨a, ha, h1, h2, h3, h4⟩, x, hx => by
    rcases List.mem_cons.1 hx with rfl | hx
    · have := hm.mem ha
      omega
    · exact relP_out hm h4 x hx
  | [], _ :: _, _, h, _, _ => h.elim
  | _ :: _, [], _, h, _, _ => h.elim
theorem wordK_of8 {w : List Int} (h : w.length ≤ 8) (hs : ∀ x ∈ w, 0 ≤ x ∧ x ≤ 5) : wordK 8 w = 0 := by
  have h1 : sndB w = true := by
    unfold sndB
    refine allB_true fun j hj => ?_
    rw [List.getElem?_eq_getElem hj]
    have := hs w[j] (List.getElem_mem hj)
    simp [inB]; omega
  rw [wordK, if_neg (by omega), if_pos h1]
theorem imagesK_ok {m : Mac} {u : List Int} (h : imagesK m u = 0) : checkK m [u] = 0 ∧ ∃ L, imagesO m.s.toNat m u = some L ∧ imagesL m u = L := by
  unfold imagesK at h
  split at h
  · rename_i h0
    refine ⟨h0, ?_⟩
    cases ho : imagesO m.s.toNat m u with
    | none => rw [ho] at h; simp at h
    | some L => exact ⟨L, rfl, by rw [imagesL, if_pos h0, ho]; rfl⟩
  · rename_i h0; exact absurd h h0
theorem images_iff {m : Mac} {u : List Int} (h : imagesK m u = 0) (v : List Int) : v ∈ imagesL m u ↔ relP m u v 0 := by
  obtain ⟨h0, L, ho, hL⟩ := imagesK_ok h
  obtain ⟨hm, _, _⟩ := checkK_ok h0
  rw [hL]
  exact images_mem hm.in_ hm.outIn ho v
theorem sim_begin {n : Mac} {M N : Nat} (hM : 0 < M) (hN : 0 < N) : Sim n 0 [([], beginB M)] [([], beginB N)] := fun x hx => by
  rw [List.mem_singleton] at hx
  subst hx
  refine ⟨_, List.mem_singleton.2 rfl, rfl, fun q h0 _ hq => ?_⟩
  have := (getB_begin hN h0).1 hq
  subst this
  rw [Int.zero_mul, Int.add_zero]
  exact (getB_begin hM (Int.le_refl 0)).2 rfl
structure Feeds (m n : Mac) (u : List Int) : Prop where
  check : ∀ w ∈ imagesL m u, ∀ v ∈ imagesL (composeM m n) u, checkK n [w, v] = 0
  some_ : ∀ v ∈ imagesL (composeM m n) u, ∃ w ∈ imagesL m u, relatesB n w v = true
  ok : ∀ w ∈ imagesL m u, imagesK n w = 0
  back : ∀ w ∈ imagesL m u, ∀ v ∈ imagesL n w, v ∈ imagesL (composeM m n) u
  found : imagesL (composeM m n) u ≠ [] → ∃ w ∈ imagesL m u, imagesL n w ≠ []
theorem feeds {m n : Mac} {u : List Int} (h : composeK m n = 0) (h1 : imagesK (composeM m n) u = 0) (h2 : imagesK m u = 0) : Feeds m n u := by
  obtain ⟨hm, hn, v1, v2, v3, hc⟩ := compose_ok h
  obtain ⟨k1, L, ho, hL⟩ := imagesK_ok h1
  obtain ⟨hcm, hu8, _⟩ := checkK_ok k1
  have hw : ∀ w, relP m u w 0 → w.length ≤ 8 ∧ ∀ x ∈ w, 0 ≤ x ∧ x ≤ 5 := fun w hr => ⟨by rw [← relP_len hr]; exact hu8, relP_out hm hr⟩
  have hv : ∀ v, relP (composeM m n) u v 0 → v.length ≤ 8 ∧ ∀ x ∈ v, 0 ≤ x ∧ x ≤ 5 := fun v hr => ⟨by rw [← relP_len hr]; exact hu8, relP_out hcm hr⟩
  have hcheck : ∀ w, relP m u w 0 → ∀ v, relP (composeM m n) u v 0 → checkK n [w, v] = 0 := fun w hw1 v hv1 => by
    have a1 := wordK_of8 (hw w hw1).1 (hw w hw1).2
    have a2 := wordK_of8 (hv v hv1).1 (hv v hv1).2
    rw [checkK, if_pos v2, wordsK, if_pos a1, wordsK, if_pos a2]; rfl
  have hok : ∀ w, relP m u w 0 → imagesK n w = 0 := fun w hw1 => by
    have a1 := wordK_of8 (hw w hw1).1 (hw w hw1).2
    have a2 : checkK n [w] = 0 := by rw [checkK, if_pos v2, wordsK, if_pos a1]; rfl
    have a3 : (imagesO n.s.toNat n w).isSome = true := by
      unfold imagesO
      split
      · have hc1 : getB (canL (composeM m n).s.toNat (composeM m n) u) 0 = true := by
          rename_i hcan
          obtain ⟨v', hv'⟩ := canP_rel ((getB_can hn.in_ w (Int.le_refl 0)).1 hcan)
          exact (getB_can hcm.in_ u (Int.le_refl 0)).2 (relP_can ((compose_rel0 h u v').2 ⟨w, hw1, hv'⟩))
        have hgo : (imgGo (composeM m n).s.toNat (composeM m n) u [([], beginB (composeM m n).s.toNat)]).isSome = true := by
          unfold imagesO at ho
          rw [if_pos hc1] at ho
          cases hg : imgGo (composeM m n).s.toNat (composeM m n) u [([], beginB (composeM m n).s.toNat)] with
          | none => rw [hg] at ho; cases ho
          | some _ => rfl
        have := sim_go hm hn hcm hc u w 0 _ [([], beginB n.s.toNat)] (Int.le_refl 0) (by have := hm.s1; omega) hw1 (List.pairwise_singleton _ _) (sim_begin (by have := hcm.s1; omega) (by have := hn.s1; omega)) hgo
        simpa using this
      · rfl
    rw [imagesK, if_pos a2, if_pos a3]
  refine ⟨fun w hw1 v hv1 => hcheck w ((images_iff h2 w).1 hw1) v ((images_iff h1 v).1 hv1), fun v hv1 => ?_, fun w hw1 => hok w ((images_iff h2 w).1 hw1), fun w hw1 v hv1 => ?_, fun hne => ?_⟩
  · have hr := (images_iff h1 v).1 hv1
    obtain ⟨w, hw1, hw2⟩ := (compose_rel0 h u v).1 hr
    exact ⟨w, (images_iff h2 w).2 hw1, (relatesB_iff (hcheck w hw1 v hr)).2 hw2⟩
  · have hr := (images_iff h2 w).1 hw1
    exact (images_iff h1 v).2 ((compose_rel0 h u v).2 ⟨w, hr, (images_iff (hok w hr) v).1 hv1⟩)
  · obtain ⟨v, hv1⟩ := List.exists_mem_of_ne_nil _ hne
    obtain ⟨w, hw1, hw2⟩ := (compose_rel0 h u v).1 ((images_iff h1 v).1 hv1)
    exact ⟨w, (images_iff h2 w).2 hw1, List.ne_nil_of_mem ((images_iff (hok w hw1) v).2 hw2)⟩
end Go.Proofs.Ytodhmkbkcjpnkaa
