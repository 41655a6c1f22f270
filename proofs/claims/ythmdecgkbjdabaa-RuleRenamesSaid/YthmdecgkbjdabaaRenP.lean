/- Plain laws: other names for sounds. -/
import Derived.Test.YthmdecgkbjdabaaRulH
import Derived.Lib.SlicesCompact
namespace Go.Proofs.Ythmdecgkbjdabaa
open Go.RowKit Go.Shelf
set_option linter.unusedVariables false
/-! ## strictly ascending lists are told by their elements -/
theorem asc_one : ∀ {a b : List Int}, a.Pairwise (· < ·) → b.Pairwise (· < ·) → (∀ x, x ∈ a ↔ x ∈ b) → a = b
  | [], [], _, _, _ => rfl
  | [], y :: b, _, _, h => by have := (h y).2 (by simp); cases this
  | x :: a, [], _, _, h => by have := (h x).1 (by simp); cases this
  | x :: a, y :: b, ha, hb, h => by
    rw [List.pairwise_cons] at ha hb
    have hxy : x = y := by
      rcases List.mem_cons.1 ((h x).1 (by simp)) with e | e
      · exact e
      · rcases List.mem_cons.1 ((h y).2 (by simp)) with e2 | e2
        · exact e2.symm
        · have := ha.1 y e2; have := hb.1 x e; omega
    subst hxy
    rw [asc_one ha.2 hb.2 fun z => ?_]
    have hz := h z
    constructor
    · intro hm
      rcases List.mem_cons.1 (hz.1 (by simp [hm])) with e | e
      · subst e; have := ha.1 _ hm; omega
      · exact e
    · intro hm
      rcases List.mem_cons.1 (hz.2 (by simp [hm])) with e | e
      · subst e; have := hb.1 _ hm; omega
      · exact e
def sortZ (l : List Int) : List Int := l.mergeSort fun x y => decide (x ≤ y)
theorem sortZ_perm (l : List Int) : (sortZ l).Perm l := List.mergeSort_perm _ _
theorem sortZ_len (l : List Int) : (sortZ l).length = l.length := (sortZ_perm l).length_eq
theorem sortZ_le (l : List Int) : (sortZ l).Pairwise (· ≤ ·) := by
  have h := List.pairwise_mergeSort (le := fun x y : Int => decide (x ≤ y)) (by intro a b c h1 h2; simp at *; omega) (by intro a b; simp; omega) l
  exact h.imp (by intro a b h; simpa using h)
theorem asc_of_le : ∀ {l : List Int}, l.Pairwise (· ≤ ·) → l.Nodup → l.Pairwise (· < ·)
  | [], _, _ => List.Pairwise.nil
  | x :: l, h, hn => by
    rw [List.pairwise_cons] at h
    rw [List.nodup_cons] at hn
    refine List.pairwise_cons.2 ⟨fun y hy => ?_, asc_of_le h.2 hn.2⟩
    have h1 := h.1 y hy
    have h2 : x ≠ y := fun e => hn.1 (e ▸ hy)
    omega
theorem sortZ_lt {l : List Int} (h : l.Nodup) : (sortZ l).Pairwise (· < ·) := asc_of_le (sortZ_le l) ((sortZ_perm l).nodup_iff.2 h)
/-! ## orders -/
def ordB (to : List Int) : Bool := decide (to.length = 6) && allB 6 fun i => hasB to i
theorem sub_perm : ∀ {l s : List Int}, l.Nodup → (∀ x ∈ l, x ∈ s) → ∃ r, s.Perm (l ++ r)
  | [], s, _, _ => ⟨s, List.Perm.refl _⟩
  | a :: l, s, hn, h => by
    rw [List.nodup_cons] at hn
    have ha := h a (by simp)
    obtain ⟨r, hr⟩ := sub_perm (l := l) (s := s.erase a) hn.2 (fun x hx => (List.mem_erase_of_ne (fun e => hn.1 (by rw [← e]; exact hx))).2 (h x (by simp [hx])))
    exact ⟨r, (List.perm_cons_erase ha).trans (hr.cons a)⟩
theorem ord_perm {to : List Int} (h : ordB to = true) : to.Perm [0, 1, 2, 3, 4, 5] := by
  unfold ordB at h
  rw [Bool.and_eq_true] at h
  have hl : to.length = 6 := by simpa using h.1
  have h2 := h.2
  unfold allB at h2
  rw [List.all_eq_true] at h2
  obtain ⟨r, hr⟩ := sub_perm (l := [0, 1, 2, 3, 4, 5]) (s := to) (by decide) (fun x hx => by
    have : ∃ i : Nat, i < 6 ∧ x = i := by
      simp at hx
      rcases hx with rfl | rfl | rfl | rfl | rfl | rfl
      · exact ⟨0, by omega, rfl⟩
      · exact ⟨1, by omega, rfl⟩
      · exact ⟨2, by omega, rfl⟩
      · exact ⟨3, by omega, rfl⟩
      · exact ⟨4, by omega, rfl⟩
      · exact ⟨5, by omega, rfl⟩
    obtain ⟨i, hi, rfl⟩ := this
    have := h2 i (by simpa using hi)
    rw [hasB_eq, List.contains_iff_mem] at this
    exact this)
  have he := hr.length_eq
  rw [List.length_append, hl] at he
  have hr0 : r = [] := List.eq_nil_of_length_eq_zero (by simpa using he)
  rw [hr0, List.append_nil] at hr
  exact hr
theorem mem_compact {l : List Int} {x : Int} (h : x ∈ Go.Lib.compact l) : x ∈ l := by
  unfold Go.Lib.compact Go.Lib.compactUpTo at h
  obtain ⟨j, hj, rfl⟩ := List.mem_map.1 h
  have hj2 : j < l.length := by have := (List.mem_filter.1 hj).1; simpa using this
  simp [hj2]
/-- what the program asks -/
theorem ordB_sorted (to : List Int) : ordB to = (decide (to.length = 6) && (Go.Lib.compact (sortZ to) == [0, 1, 2, 3, 4, 5])) := by
  by_cases hl : to.length = 6
  · cases h : ordB to
    · symm
      rw [decide_eq_true hl, Bool.true_and, beq_eq_false_iff_ne]
      intro he
      have : ordB to = true := by
        unfold ordB
        rw [decide_eq_true hl, Bool.true_and]
        refine allB_true fun j hj => ?_
        rw [hasB_eq, List.contains_iff_mem]
        refine (sortZ_perm to).mem_iff.1 (mem_compact ?_)
        rw [he]
        have : j = 0 ∨ j = 1 ∨ j = 2 ∨ j = 3 ∨ j = 4 ∨ j = 5 := by omega
        rcases this with rfl | rfl | rfl | rfl | rfl | rfl <;> simp
      rw [h] at this; cases this
    · symm
      have hp := ord_perm h
      have hs : sortZ to = [0, 1, 2, 3, 4, 5] := asc_one (sortZ_lt (hp.nodup_iff.2 (by decide))) (by decide) (fun x => by rw [(sortZ_perm to).mem_iff, hp.mem_iff])
      rw [hs, decide_eq_true hl, Bool.true_and]
      decide
  · unfold ordB
    rw [decide_eq_false hl, Bool.false_and, Bool.false_and]
/-! ## names -/
def nmI (to : List Int) (n : Int) : Int := if n = -1 then -1 else to[n.toNat]?.getD 0
def nmL (l to : List Int) : List Int := l.map (nmI to)
def sidL (l to : List Int) : List Int := ((List.range 7).map fun (i : Nat) => (i : Int) - 1).filter fun n => hasB (nmL l to) n
theorem ord_at {to : List Int} (h : ordB to = true) {i : Nat} (hi : i < 6) : 0 ≤ to[i]?.getD 0 ∧ to[i]?.getD 0 ≤ 5 := by
  have hp := ord_perm h
  have hl : to.length = 6 := hp.length_eq
  have : to[i]?.getD 0 ∈ to := by simp [hl, hi]
  have := hp.mem_iff.1 this
  simp at this
  omega
theorem nodup_at {l : List Int} (h : l.Nodup) {i j : Nat} (hi : i < l.length) (hj : j < l.length) (he : l[i]?.getD 0 = l[j]?.getD 0) : i = j := by
  rw [List.getElem?_eq_getElem hi, List.getElem?_eq_getElem hj] at he
  simp only [Option.getD_some] at he
  have hp := List.pairwise_iff_getElem.1 h
  rcases Nat.lt_trichotomy i j with hlt | heq | hlt
  · exact absurd he (hp i j hi hj hlt)
  · exact heq
  · exact absurd he.symm (hp j i hj hi hlt)
theorem nbB_rng {n : Int} (h : nbB n = true) : -1 ≤ n ∧ n ≤ 5 := by simp [nbB, inB] at h; omega
theorem nbB_of {n : Int} (h1 : -1 ≤ n) (h2 : n ≤ 5) : nbB n = true := by simp [nbB, inB]; omega
theorem nmI_nb {to : List Int} (h : ordB to = true) {n : Int} (h1 : -1 ≤ n) (h2 : n ≤ 5) : -1 ≤ nmI to n ∧ nmI to n ≤ 5 ∧ (nmI to n = -1 ↔ n = -1) := by
  unfold nmI
  split
  · omega
  · have := ord_at h (i := n.toNat) (by omega); omega
theorem nmI_inj {to : List Int} (h : ordB to = true) {n m : Int} (h1 : -1 ≤ n) (h2 : n ≤ 5) (h3 : -1 ≤ m) (h4 : m ≤ 5) : nmI to n = nmI to m ↔ n = m := by
  constructor
  · intro he
    have a := nmI_nb h h1 h2
    have b := nmI_nb h h3 h4
    by_cases hn : n = -1
    · omega
    · have hm : m ≠ -1 := by omega
      rw [nmI, nmI, if_neg hn, if_neg hm] at he
      have hp := ord_perm h
      have hl : to.length = 6 := hp.length_eq
      have := nodup_at (hp.nodup_iff.2 (by decide)) (i := n.toNat) (j := m.toNat) (by omega) (by omega) he
      omega
  · intro e; rw [e]
theorem nodup_map_on {l : List Int} {f : Int → Int} (hn : l.Nodup) (hf : ∀ x ∈ l, ∀ y ∈ l, f x = f y → x = y) : (l.map f).Nodup := by
  induction l with
  | nil => simp
  | cons a l ih =>
    rw [List.nodup_cons] at hn
    rw [List.map_cons, List.nodup_cons]
    refine ⟨fun hm => ?_, ih hn.2 fun x hx y hy => hf x (by simp [hx]) y (by simp [hy])⟩
    obtain ⟨y, hy, he⟩ := List.mem_map.1 hm
    have := hf y (by simp [hy]) a (by simp) he
    exact hn.1 (this ▸ hy)
theorem setB_on {s : List Int} (h : setB s = true) : (∀ x ∈ s, -1 ≤ x ∧ x ≤ 5) ∧ s.Pairwise (· < ·) := by
  unfold setB allB at h
  rw [List.all_eq_true] at h
  have hat : ∀ i, i < s.length → (-1 ≤ s[i]?.getD 0 ∧ s[i]?.getD 0 ≤ 5) ∧ (0 < i → s[i - 1]?.getD 0 < s[i]?.getD 0) := fun i hi => by
    have h1 := h i (by simpa using hi)
    unfold setAt at h1
    rw [Bool.and_eq_true] at h1
    have h2 := nbB_rng h1.1
    have h3 := h1.2
    simp at h3
    exact ⟨h2, fun h0 => h3.elim (fun e => by omega) id⟩
  have hlt : ∀ j, j < s.length → ∀ i, i < j → s[i]?.getD 0 < s[j]?.getD 0 := by
    intro j
    induction j with
    | zero => intro _ i hi; omega
    | succ j ih =>
      intro hj i hi
      have h1 := (hat (j + 1) hj).2 (by omega)
      rw [Nat.add_sub_cancel] at h1
      by_cases e : i = j
      · subst e; exact h1
      · have := ih (by omega) i (by omega); omega
  constructor
  · intro x hx
    obtain ⟨i, hi, rfl⟩ := List.mem_iff_getElem.1 hx
    have := (hat i hi).1
    simpa [hi] using this
  · rw [List.pairwise_iff_getElem]
    intro i j hi hj hij
    have := hlt j hj i hij
    simpa [hi, hj] using this
theorem setB_make {s : List Int} (h1 : ∀ x ∈ s, -1 ≤ x ∧ x ≤ 5) (h2 : s.Pairwise (· < ·)) : setB s = true := by
  unfold setB
  refine allB_true fun j hj => ?_
  unfold setAt
  have ha := h1 s[j] (List.getElem_mem hj)
  have hs : s[j]?.getD 0 = s[j] := by simp [hj]
  rw [hs, nbB_of ha.1 ha.2, Bool.true_and]
  by_cases h0 : 0 < j
  · have := (List.pairwise_iff_getElem.1 h2) (j - 1) j (by omega) hj (by omega)
    have hs2 : s[j - 1]?.getD 0 = s[j - 1] := by rw [List.getElem?_eq_getElem (by omega)]; rfl
    rw [hs2]
    simp; omega
  · simp [h0]
theorem sid_mem {l to : List Int} (h : ordB to = true) (hs : setB l = true) (n : Int) : n ∈ sidL l to ↔ n ∈ nmL l to := by
  unfold sidL
  rw [List.mem_filter, hasB_eq, List.contains_iff_mem]
  constructor
  · exact fun h => h.2
  · intro hm
    refine ⟨?_, hm⟩
    obtain ⟨m, hm2, rfl⟩ := List.mem_map.1 hm
    have h1 := (setB_on hs).1 m hm2
    have h2 := nmI_nb h h1.1 h1.2
    refine List.mem_map.2 ⟨(nmI to m + 1).toNat, by simp; omega, by omega⟩
theorem rng7 : ((List.range 7).map fun (i : Nat) => (i : Int) - 1).Pairwise (· < ·) := by decide
theorem sid_lt (l to : List Int) : (sidL l to).Pairwise (· < ·) := List.Pairwise.filter _ rng7
theorem sid_sort {l to : List Int} (h : ordB to = true) (hs : setB l = true) : sortZ (nmL l to) = sidL l to := by
  have h1 := setB_on hs
  refine asc_one (sortZ_lt (nodup_map_on (h1.2.imp (fun h e => by omega)) fun x hx y hy he => ?_)) (sid_lt l to) (fun x => by rw [(sortZ_perm _).mem_iff, sid_mem h hs])
  exact (nmI_inj h (h1.1 x hx).1 (h1.1 x hx).2 (h1.1 y hy).1 (h1.1 y hy).2).1 he
theorem sid_len {l to : List Int} (h : ordB to = true) (hs : setB l = true) : (sidL l to).length = l.length := by
  rw [← sid_sort h hs, sortZ_len]; simp [nmL]
theorem sid_setB {l to : List Int} (h : ordB to = true) (hs : setB l = true) : setB (sidL l to) = true := by
  refine setB_make (fun x hx => ?_) (sid_lt l to)
  obtain ⟨m, hm2, rfl⟩ := List.mem_map.1 ((sid_mem h hs x).1 hx)
  have h1 := (setB_on hs).1 m hm2
  have h2 := nmI_nb h h1.1 h1.2
  omega
/-! ## rules and words -/
def renX (x : Rul) (to : List Int) : Rul := if validR x = 0 ∧ ordB to = true then ⟨nmI to x.f, nmL x.t to, sidL x.l to, sidL x.r to⟩ else ⟨0, [], [], []⟩
def renK (k : Int) (to : List Int) : Int := if k = 0 then (if ordB to = true then 0 else 1) else k
def splL (l to : List Int) : List Int := if validW l = 0 ∧ ordB to = true then nmL l to else []
theorem snd_mem {l : List Int} (h : sndB l = true) : ∀ x ∈ l, 0 ≤ x ∧ x ≤ 5 := fun x hx => by
  obtain ⟨i, hi, rfl⟩ := List.mem_iff_getElem.1 hx
  have := sndB_at h i hi
  simpa [hi] using this
theorem snd_make {l : List Int} (h : ∀ x ∈ l, 0 ≤ x ∧ x ≤ 5) : sndB l = true := by
  unfold sndB
  refine allB_true fun i hi => ?_
  have := h l[i] (List.getElem_mem hi)
  simp [hi, inB]; omega
theorem nm_snd {l to : List Int} (h : ordB to = true) (hs : sndB l = true) : sndB (nmL l to) = true := snd_make fun x hx => by
  obtain ⟨m, hm, rfl⟩ := List.mem_map.1 hx
  have h1 := snd_mem hs m hm
  have := nmI_nb h (n := m) (by omega) h1.2
  omega
theorem nm_atI {l to : List Int} (h : ordB to = true) (hs : sndB l = true) (i : Int) : atI (nmL l to) i = nmI to (atI l i) := by
  unfold atI
  have hl : (nmL l to).length = l.length := by simp [nmL]
  rw [hl]
  split
  · rename_i hi
    have hlt : i.toNat < l.length := by omega
    simp [nmL, hlt]
  · simp [nmI]
theorem nm_may {l to : List Int} (h : ordB to = true) (hs : setB l = true) {n : Int} (h1 : -1 ≤ n) (h2 : n ≤ 5) : mayB (sidL l to) (nmI to n) = mayB l n := by
  unfold mayB
  rw [sid_len h hs]
  congr 1
  rw [hasB_eq, hasB_eq, Bool.eq_iff_iff, List.contains_iff_mem, List.contains_iff_mem, sid_mem h hs]
  constructor
  · intro hm
    obtain ⟨m, hm, he⟩ := List.mem_map.1 hm
    have h3 := (setB_on hs).1 m hm
    rw [(nmI_inj h h3.1 h3.2 h1 h2).1 he] at hm
    exact hm
  · intro hm; exact List.mem_map.2 ⟨n, hm, rfl⟩
theorem ren_law {x : Rul} {l to : List Int} (h : validR x = 0) (hw : validW l = 0) (ho : ordB to = true) :
    validR (renX x to) = 0 ∧ validW (splL l to) = 0 ∧ placesL (renX x to) (splL l to) = placesL x l := by
  have g := validR_zero h
  have hb : badB x = false := by
    unfold validR at h
    rw [if_pos g.nb, if_neg (by have := g.len; omega), if_pos (by rw [g.snd, g.l, g.r]; rfl)] at h
    cases hb : badB x
    · rfl
    · rw [hb] at h; simp at h
  obtain ⟨hwl, hws⟩ := validW_zero hw
  have hr : renX x to = ⟨nmI to x.f, nmL x.t to, sidL x.l to, sidL x.r to⟩ := by rw [renX, if_pos ⟨h, ho⟩]
  have hs : splL l to = nmL l to := by rw [splL, if_pos ⟨hw, ho⟩]
  have hf := nbB_rng g.nb
  have hnf := nmI_nb ho hf.1 hf.2
  have htl : (nmL x.t to).length = x.t.length := by simp [nmL]
  have hll : (nmL l to).length = l.length := by simp [nmL]
  rw [hr, hs]
  refine ⟨?_, ?_, ?_⟩
  · unfold validR
    rw [if_pos (nbB_of hnf.1 hnf.2.1), if_neg (by have := g.len; simp only [htl]; omega), if_pos (by rw [nm_snd ho g.snd, sid_setB ho g.l, sid_setB ho g.r]; rfl), if_neg]
    intro hbb
    have : badB x = true := by
      unfold badB at hbb ⊢
      simp only [htl] at hbb
      rw [Bool.or_eq_true] at hbb ⊢
      rcases hbb with hbb | hbb
      · refine .inl ?_
        rw [Bool.and_eq_true, beq_iff_eq] at hbb ⊢
        exact ⟨hnf.2.2.1 hbb.1, hbb.2⟩
      · refine .inr ?_
        rw [beq_iff_eq] at hbb ⊢
        have h1 : x.t.length = 1 := by rw [← htl, hbb]; rfl
        obtain ⟨a, ha⟩ : ∃ a, x.t = [a] := List.length_eq_one_iff.1 h1
        rw [ha] at hbb ⊢
        have h2 : nmI to a = nmI to x.f := by simpa [nmL] using hbb
        have h3 := snd_mem g.snd a (by rw [ha]; simp)
        rw [(nmI_inj ho (by omega) h3.2 hf.1 hf.2).1 h2]
    rw [hb] at this; cases this
  · unfold validW
    rw [if_neg (by rw [hll]; omega), if_pos (nm_snd ho hws)]
  · unfold placesL
    have hlg : lng ⟨nmI to x.f, nmL x.t to, sidL x.l to, sidL x.r to⟩ = lng x := by
      unfold lng
      by_cases e : x.f = -1
      · rw [if_pos (hnf.2.2.2 e), if_pos e]
      · rw [if_neg (fun h => e (hnf.2.2.1 h)), if_neg e]
    rw [hlg, hll]
    refine sel_congr fun i hi => ?_
    unfold placeAt
    rw [hlg, nm_atI ho hws, nm_atI ho hws, nm_atI ho hws]
    have a1 := atI_in hws (i : Int)
    have a2 := atI_in hws ((i : Int) - 1)
    have a3 := atI_in hws ((i : Int) + lng x)
    simp only
    rw [nm_may ho g.l a2.1 a2.2, nm_may ho g.r a3.1 a3.2]
    congr 1
    congr 1
    · rw [Bool.eq_iff_iff, beq_iff_eq, beq_iff_eq, hnf.2.2]
    · rw [Bool.eq_iff_iff, beq_iff_eq, beq_iff_eq, nmI_inj ho a1.1 a1.2 hf.1 hf.2]
end Go.Proofs.Ythmdecgkbjdabaa
