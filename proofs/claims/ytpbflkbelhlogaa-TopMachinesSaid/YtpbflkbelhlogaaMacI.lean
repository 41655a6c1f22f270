/- What images are: plain laws. -/
import Derived.Test.YtpbflkbelhlogaaMacU
namespace Go.Proofs.Ytpbflkbelhlogaa
open Go.RowKit
set_option linter.unusedVariables false

/-- the rest of a word can be read from a state to an end -/
def canP (m : Mac) : List Int → Int → Prop
  | [], s => s ∈ m.e
  | i :: u, s => ∃ a ∈ m.a, a.f = s ∧ a.i = i ∧ canP m u a.t
/-- some run from a state reads a word and writes another one -/
def relP (m : Mac) : List Int → List Int → Int → Prop
  | [], [], s => s ∈ m.e
  | i :: u, o :: v, s => ∃ a ∈ m.a, a.f = s ∧ a.i = i ∧ a.o = o ∧ relP m u v a.t
  | _, _, _ => False
theorem relP_can {m : Mac} : ∀ {u v : List Int} {s : Int}, relP m u v s → canP m u s
  | [], [], _, h => h
  | i :: u, o :: v, s, ⟨a, ha, h1, h2, _, h4⟩ => ⟨a, ha, h1, h2, relP_can h4⟩
  | [], _ :: _, _, h => h.elim
  | _ :: _, [], _, h => h.elim
theorem canP_rel {m : Mac} : ∀ {u : List Int} {s : Int}, canP m u s → ∃ v, relP m u v s
  | [], _, h => ⟨[], h⟩
  | i :: u, s, ⟨a, ha, h1, h2, h3⟩ => by
    obtain ⟨v, hv⟩ := canP_rel h3
    exact ⟨a.o :: v, a, ha, h1, h2, rfl, hv⟩
theorem relP_len {m : Mac} : ∀ {u v : List Int} {s : Int}, relP m u v s → u.length = v.length
  | [], [], _, _ => rfl
  | i :: u, o :: v, s, ⟨a, _, _, _, _, h4⟩ => by simp [relP_len h4]
  | [], _ :: _, _, h => h.elim
  | _ :: _, [], _, h => h.elim

/-! ## states as bools -/
theorem getB_set {l : List Bool} {i : Nat} {k : Int} (hi : i < l.length) (hk : 0 ≤ k) : getB (l.set i true) k = (getB l k || decide ((i : Int) = k)) := by
  unfold getB
  by_cases h : i = k.toNat
  · subst h
    rw [List.getElem?_set_self hi]
    have : decide ((k.toNat : Int) = k) = true := by simp; omega
    rw [this]; simp
  · rw [List.getElem?_set_ne h]
    have : decide ((i : Int) = k) = false := by simp; omega
    rw [this]; simp
theorem getB_on {n : Nat} (c : Arc → Bool) (tgt : Arc → Int) {k : Int} (hk : 0 ≤ k) : ∀ (ar : List Arc) (l : List Bool), l.length = n → (∀ a ∈ ar, 0 ≤ tgt a ∧ tgt a < n) →
    (getB (ar.foldl (onB c tgt) l) k = true ↔ getB l k = true ∨ ∃ a ∈ ar, c a = true ∧ tgt a = k)
  | [], l, _, _ => by simp
  | a :: ar, l, hl, h => by
    have ha := h a (by simp)
    rw [List.foldl_cons, getB_on c tgt hk ar _ (by unfold onB; split <;> simp [hl]) (fun x hx => h x (by simp [hx]))]
    unfold onB
    split
    · rename_i hc
      rw [getB_set (by omega) hk, Bool.or_eq_true, decide_eq_true_eq]
      constructor
      · rintro ((h1 | h1) | ⟨x, hx, h2⟩)
        · exact .inl h1
        · exact .inr ⟨a, by simp, hc, by omega⟩
        · exact .inr ⟨x, by simp [hx], h2⟩
      · rintro (h1 | ⟨x, hx, h2, h3⟩)
        · exact .inl (.inl h1)
        · rcases List.mem_cons.1 hx with rfl | hx
          · exact .inl (.inr (by omega))
          · exact .inr ⟨x, hx, h2, h3⟩
    · rename_i hc
      constructor
      · rintro (h1 | ⟨x, hx, h2⟩)
        · exact .inl h1
        · exact .inr ⟨x, by simp [hx], h2⟩
      · rintro (h1 | ⟨x, hx, h2, h3⟩)
        · exact .inl h1
        · rcases List.mem_cons.1 hx with rfl | hx
          · exact absurd h2 hc
          · exact .inr ⟨x, hx, h2, h3⟩
theorem getB_none (n : Nat) (k : Int) : getB (List.replicate n false) k = false := by
  unfold getB
  rw [List.getElem?_replicate]
  split <;> rfl
theorem getB_ons {n : Nat} {ar : List Arc} (c : Arc → Bool) (tgt : Arc → Int) (h : ∀ a ∈ ar, 0 ≤ tgt a ∧ tgt a < n) {k : Int} (hk : 0 ≤ k) : getB (onsB n ar c tgt) k = true ↔ ∃ a ∈ ar, c a = true ∧ tgt a = k := by
  unfold onsB
  rw [getB_on (n := n) c tgt hk ar _ (by simp) h, getB_none]
  simp
theorem getB_trueAt {n : Nat} {k : Int} (hk : 0 ≤ k) : ∀ (e : List Int) (l : List Bool), l.length = n → (∀ x ∈ e, 0 ≤ x ∧ x < n) → (getB (trueAt e l) k = true ↔ getB l k = true ∨ k ∈ e)
  | [], l, _, _ => by simp [trueAt]
  | x :: e, l, hl, h => by
    have hx := h x (by simp)
    show getB (trueAt e (l.set x.toNat true)) k = true ↔ _
    rw [getB_trueAt hk e _ (by simp [hl]) (fun y hy => h y (by simp [hy])), getB_set (by omega) hk, Bool.or_eq_true, decide_eq_true_eq, List.mem_cons]
    constructor
    · rintro ((h1 | h1) | h1)
      · exact .inl h1
      · exact .inr (.inl (by omega))
      · exact .inr (.inr h1)
    · rintro (h1 | h1 | h1)
      · exact .inl (.inl h1)
      · exact .inl (.inr (by omega))
      · exact .inr h1
theorem MacIn.endsIn {m : Mac} {n : Nat} (h : MacIn m n) : ∀ x ∈ m.e, 0 ≤ x ∧ x < n := by
  intro x hx
  obtain ⟨j, hj, rfl⟩ := List.mem_iff_getElem.1 hx
  have := h.ends j hj
  simpa [hj] using this
theorem getB_ends {m : Mac} {n : Nat} (h : MacIn m n) {k : Int} (hk : 0 ≤ k) : getB (endsB n m.e) k = true ↔ k ∈ m.e := by
  unfold endsB
  rw [getB_trueAt (n := n) hk m.e _ (by simp) h.endsIn, getB_none]
  simp
theorem getB_can {m : Mac} {n : Nat} (h : MacIn m n) : ∀ (u : List Int) {k : Int}, 0 ≤ k → (getB (canL n m u) k = true ↔ canP m u k)
  | [], k, hk => getB_ends h hk
  | s :: u, k, hk => by
    rw [canL, getB_ons _ _ (fun a ha => (h.arcs a ha).1) hk]
    constructor
    · rintro ⟨a, ha, hc, hf⟩
      simp only [canC, Bool.and_eq_true, beq_iff_eq] at hc
      exact ⟨a, ha, hf, hc.1, (getB_can h u (h.arcs a ha).2.1).1 hc.2⟩
    · rintro ⟨a, ha, hf, hi, hr⟩
      refine ⟨a, ha, ?_, hf⟩
      simp only [canC, Bool.and_eq_true, beq_iff_eq]
      exact ⟨hi, (getB_can h u (h.arcs a ha).2.1).2 hr⟩

/-! ## images -/
/-- arcs write sounds -/
def OutIn (m : Mac) : Prop := ∀ a ∈ m.a, 0 ≤ a.o ∧ a.o ≤ 5
theorem MacOk.outIn {m : Mac} (h : MacOk m) : OutIn m := fun a ha => (h.mem ha).2.2.2
def Alive (m : Mac) (u : List Int) (hs : List Hd) : Prop := ∀ h ∈ hs, ∃ s, 0 ≤ s ∧ getB h.2 s = true ∧ canP m u s
theorem mem_nextL {n : Nat} {ar : List Arc} {s : Int} {nx : List Bool} {hs : List Hd} {x : Hd} : x ∈ nextL n ar s nx hs ↔ ∃ h ∈ hs, ∃ o : Nat, o < 6 ∧ ar.any (goC s o h.2 nx) = true ∧ x = (h.1 ++ [(o : Int)], onsB n ar (goC s o h.2 nx) (fun a => a.t)) := by
  unfold nextL nextH
  rw [List.mem_flatMap]
  constructor
  · rintro ⟨h, hh, hx⟩
    obtain ⟨o, ho, hx⟩ := List.mem_flatMap.1 hx
    unfold nextO at hx
    split at hx
    · rename_i ha
      exact ⟨h, hh, o, by simpa using ho, ha, by simpa using hx⟩
    · simp at hx
  · rintro ⟨h, hh, o, ho, ha, rfl⟩
    refine ⟨h, hh, List.mem_flatMap.2 ⟨o, by simpa using ho, ?_⟩⟩
    unfold nextO
    rw [if_pos ha]; simp
theorem goC_iff {s o : Int} {st nx : List Bool} {a : Arc} : goC s o st nx a = true ↔ getB st a.f = true ∧ a.i = s ∧ a.o = o ∧ getB nx a.t = true := by
  simp [goC, and_assoc]
theorem Alive.next {m : Mac} {n : Nat} (h : MacIn m n) {s : Int} {u : List Int} {hs : List Hd} : Alive m u (nextL n m.a s (canL n m u) hs) := by
  intro x hx
  obtain ⟨g, _, o, _, ha, rfl⟩ := mem_nextL.1 hx
  obtain ⟨a, ham, hc⟩ := List.any_eq_true.1 ha
  have hc' := goC_iff.1 hc
  have ht := (h.arcs a ham).2
  exact ⟨a.t, ht.1, (getB_ons _ _ (fun a ha => (h.arcs a ha).2) ht.1).2 ⟨a, ham, hc, rfl⟩, (getB_can h u ht.1).1 hc'.2.2.2⟩
theorem next_ne {m : Mac} {n : Nat} (h : MacIn m n) (ho : OutIn m) {s : Int} {u : List Int} {hs : List Hd} (hne : hs ≠ []) (ha : Alive m (s :: u) hs) : nextL n m.a s (canL n m u) hs ≠ [] := by
  obtain ⟨g, hs', rfl⟩ := List.exists_cons_of_ne_nil hne
  obtain ⟨st, hst, hb, a, ham, hf, hi, hr⟩ := ha g (by simp)
  have hoa := ho a ham
  have : (g.1 ++ [(a.o.toNat : Int)], onsB n m.a (goC s (a.o.toNat : Int) g.2 (canL n m u)) (fun a => a.t)) ∈ nextL n m.a s (canL n m u) (g :: hs') := by
    refine mem_nextL.2 ⟨g, by simp, a.o.toNat, by omega, List.any_eq_true.2 ⟨a, ham, goC_iff.2 ⟨by rw [hf]; exact hb, hi, by omega, (getB_can h u (h.arcs a ham).2.1).2 hr⟩⟩, rfl⟩
  exact List.ne_nil_of_mem this
theorem imgGo_ne {m : Mac} {n : Nat} (h : MacIn m n) (ho : OutIn m) : ∀ (u : List Int) (hs L : List Hd), hs ≠ [] → Alive m u hs → imgGo n m u hs = some L → L ≠ []
  | [], hs, L, hne, _, he => by injection he with he; rwa [← he]
  | s :: u, hs, L, hne, ha, he => by
    rw [imgGo] at he
    split at he
    · cases he
    · exact imgGo_ne h ho u _ L (next_ne h ho hne ha) (Alive.next h) he
/-- which words are found -/
theorem imgGo_mem {m : Mac} {n : Nat} (h : MacIn m n) (ho : OutIn m) : ∀ (u : List Int) (hs L : List Hd), Alive m u hs → imgGo n m u hs = some L → ∀ v, v ∈ L.map Prod.fst ↔ ∃ g ∈ hs, ∃ v', v = g.1 ++ v' ∧ ∃ st, 0 ≤ st ∧ getB g.2 st = true ∧ relP m u v' st
  | [], hs, L, ha, he, v => by
    injection he with he
    subst he
    rw [List.mem_map]
    constructor
    · rintro ⟨g, hg, rfl⟩
      obtain ⟨s, h0, hb, hc⟩ := ha g hg
      exact ⟨g, hg, [], by simp, s, h0, hb, hc⟩
    · rintro ⟨g, hg, v', rfl, s, _, _, hr⟩
      cases v' with
      | nil => exact ⟨g, hg, by simp⟩
      | cons o v' => exact hr.elim
  | s :: u, hs, L, ha, he, v => by
    rw [imgGo] at he
    split at he
    · cases he
    · rw [imgGo_mem h ho u _ L (Alive.next h) he v]
      constructor
      · rintro ⟨x, hx, v', rfl, st, h0, hb, hr⟩
        obtain ⟨g, hg, o, ho6, _, rfl⟩ := mem_nextL.1 hx
        obtain ⟨a, ham, hc, hat⟩ := (getB_ons _ _ (fun a ha => (h.arcs a ha).2) h0).1 hb
        obtain ⟨h1, h2, h3, _⟩ := goC_iff.1 hc
        refine ⟨g, hg, (o : Int) :: v', by simp, a.f, (h.arcs a ham).1.1, h1, a, ham, rfl, h2, h3, ?_⟩
        rw [hat]; exact hr
      · rintro ⟨g, hg, v', rfl, st, h0, hb, hr⟩
        cases v' with
        | nil => exact hr.elim
        | cons o v' =>
          obtain ⟨a, ham, hf, hi, hao, hr⟩ := hr
          have hoa := ho a ham
          have hc : goC s (a.o.toNat : Int) g.2 (canL n m u) a = true := goC_iff.2 ⟨by rw [hf]; exact hb, hi, by omega, (getB_can h u (h.arcs a ham).2.1).2 (relP_can hr)⟩
          refine ⟨(g.1 ++ [(a.o.toNat : Int)], onsB n m.a (goC s (a.o.toNat : Int) g.2 (canL n m u)) (fun a => a.t)), mem_nextL.2 ⟨g, hg, a.o.toNat, by omega, List.any_eq_true.2 ⟨a, ham, hc⟩, rfl⟩, v', ?_, a.t, (h.arcs a ham).2.1, (getB_ons _ _ (fun a ha => (h.arcs a ha).2) (h.arcs a ham).2.1).2 ⟨a, ham, hc, rfl⟩, hr⟩
          have : (a.o.toNat : Int) = o := by omega
          simp [this]
theorem getB_begin {n : Nat} (h : 0 < n) {k : Int} (hk : 0 ≤ k) : getB (beginB n) k = true ↔ k = 0 := by
  unfold beginB
  rw [getB_set (by simpa using h) hk, getB_none]
  simp
  omega
theorem Alive.begin {m : Mac} {n : Nat} (h : MacIn m n) {u : List Int} (hc : getB (canL n m u) 0 = true) : Alive m u [([], beginB n)] := by
  intro g hg
  simp only [List.mem_cons, List.not_mem_nil, or_false] at hg
  subst hg
  exact ⟨0, by omega, (getB_begin h.n1 (by omega)).2 rfl, (getB_can h u (by omega)).1 hc⟩
/-- images are exactly what some run writes -/
theorem images_mem {m : Mac} {n : Nat} (h : MacIn m n) (ho : OutIn m) {u : List Int} {L : List (List Int)} (he : imagesO n m u = some L) (v : List Int) : v ∈ L ↔ relP m u v 0 := by
  unfold imagesO at he
  split at he
  · rename_i hc
    rw [Option.map_eq_some_iff] at he
    obtain ⟨hs, he, rfl⟩ := he
    rw [imgGo_mem h ho u _ hs (Alive.begin h hc) he v]
    constructor
    · rintro ⟨g, hg, v', rfl, st, h0, hb, hr⟩
      simp only [List.mem_cons, List.not_mem_nil, or_false] at hg
      subst hg
      have := (getB_begin h.n1 h0).1 hb
      subst this
      simpa using hr
    · intro hr
      exact ⟨([], beginB n), by simp, v, by simp, 0, by omega, (getB_begin h.n1 (by omega)).2 rfl, hr⟩
  · rename_i hc
    injection he with he
    subst he
    constructor
    · intro hv; simp at hv
    · intro hr
      exact absurd ((getB_can h u (by omega)).2 (relP_can hr)) hc
theorem images_ne {m : Mac} {n : Nat} (h : MacIn m n) (ho : OutIn m) {u : List Int} {L : List (List Int)} (he : imagesO n m u = some L) : getB (canL n m u) 0 = decide (0 < L.length) := by
  unfold imagesO at he
  split at he
  · rename_i hc
    rw [Option.map_eq_some_iff] at he
    obtain ⟨hs, he, rfl⟩ := he
    have := imgGo_ne h ho u _ hs (by simp) (Alive.begin h hc) he
    rw [hc]
    have : 0 < hs.length := List.length_pos_iff.2 this
    simp [this]
  · rename_i hc
    injection he with he
    subst he
    simpa using hc
theorem images_many {m : Mac} {n : Nat} {u : List Int} (he : imagesO n m u = none) : getB (canL n m u) 0 = true := by
  unfold imagesO at he
  split at he
  · assumption
  · cases he
end Go.Proofs.Ytpbflkbelhlogaa
