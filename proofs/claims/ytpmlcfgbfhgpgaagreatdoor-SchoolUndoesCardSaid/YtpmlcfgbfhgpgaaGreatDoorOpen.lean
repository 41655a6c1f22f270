/- Arguments that came in, opened into what the walks read. Over any program. -/
import Derived.Test.YtpmlcfgbfhgpgaaGreatDoorOwn
import Derived.ProofKit
import Derived.OpenShut
import Derived.ShutString
import Derived.ChangeOld
import Derived.Deep.Slices
import Derived.Lib.SmallJoins
namespace Go.Proofs.YtpmlcfgbfhgpgaaGreatDoor
open Go.ChangeShapes Go.WideShapes Go.RowKit
set_option linter.unusedVariables false

section
variable {H : Type} {enc : TypeId × Value → H} {P : Program} {w : World} {base : Nat} {held : Bool}

theorem addr_head {a : Addr} {v : Value} (h : w.cell? (a.add 0) = some v) : ∃ b o, a = ⟨b, o, none⟩ := by
  obtain ⟨b, o, sp⟩ := a
  have hspot : sp = none := by simpa [Addr.add] using World.cell?_spot h
  exact ⟨b, o, by rw [hspot]⟩

def Wf64 (l : List Int) : Prop := ∀ n ∈ l, (Lit.int .i64 n).wf = true

theorem open_Ints {t e : TypeId} {fuel : Nat} {cs : List Value} {x : DataW H × List MemPlace} (ht : P.underlying t = some (.slice e)) (he : P.underlying e = some (.int .i64)) (hc : P.cellsOf e = 1)
    (h : DataW.trod enc P w base (fun _ => true) held fuel t cs = some x) : ∃ v l, cs = [v] ∧ Ints w v l ∧ Wf64 l := by
  rcases open_ints ht he hc h with ⟨rfl, _⟩ | ⟨a, len, cap, zs, rfl, _, hl, hm, hz, _, hcell, hwz⟩
  · exact ⟨_, [], rfl, ⟨none, 0, rfl, Nat.le_refl _, by unfold maxLen; omega, fun i hi => by simp at hi⟩, fun n hn => by simp at hn⟩
  · have hz' : zs.length = cap := by simpa using hz
    have hlt : (zs.take len).length = len := by simp; omega
    refine ⟨_, zs.take len, rfl, ⟨some a, cap, by rw [hlt], by rw [hlt]; exact hl, hm, fun i hi => ?_⟩, fun n hn => hwz n (List.mem_of_mem_take hn)⟩
    rw [hlt] at hi
    obtain ⟨b, o, rfl⟩ := addr_head (hcell 0 (by omega))
    refine ⟨b, o, rfl, ?_⟩
    have := hcell i (by omega)
    rw [addr_add] at this
    show w.cell? ⟨b, o + i, none⟩ = _
    rw [this, List.getElem?_take_of_lt hi]
    simp [List.getD]

theorem open_Rows {t e e2 : TypeId} {fuel : Nat} {cs : List Value} {x : DataW H × List MemPlace} (ht : P.underlying t = some (.slice e)) (he : P.underlying e = some (.slice e2)) (he2 : P.underlying e2 = some (.int .i64)) (hc : P.cellsOf e = 1) (hc2 : P.cellsOf e2 = 1)
    (h : DataW.trod enc P w base (fun _ => true) held fuel t cs = some x) : ∃ v l, cs = [v] ∧ Rows w v l ∧ ∀ r ∈ l, Wf64 r := by
  rcases Go.Deep.open_slice1 ht hc h with ⟨rfl, _⟩ | ⟨a, len, cap, m, n, V, D, Pl, rfl, _, hl, hm, hmm, _, hx⟩
  · exact ⟨_, [], rfl, ⟨none, 0, rfl, Nat.le_refl _, by unfold maxLen; omega, fun i hi => by simp at hi⟩, fun n hn => by simp at hn⟩
  · have hmm' : m = cap := by simpa using hmm
    obtain ⟨F, hF⟩ := Go.Deep.choose_lt (α := List Int) (n := len) (p := fun i l => Ints w (V i) l ∧ Wf64 l) (fun i hi => by
      obtain ⟨v, l, hv, hi2, hw⟩ := open_Ints he he2 hc2 (hx i (by omega)).2
      injection hv with hv; exact ⟨l, by rw [hv]; exact hi2, hw⟩)
    refine ⟨_, (List.range len).map F, rfl, ⟨some a, cap, by simp, by simpa using hl, hm, fun i hi => ?_⟩, ?_⟩
    · simp only [List.length_map, List.length_range] at hi
      obtain ⟨b, o, rfl⟩ := addr_head (hx 0 (by omega)).1
      refine ⟨b, o, rfl, V i, ?_, ?_⟩
      · have := (hx i (by omega)).1
        rwa [addr_add] at this
      · have := (hF i hi).1
        simpa [hi] using this
    · intro r hr
      obtain ⟨i, hi, rfl⟩ := List.mem_map.1 hr
      exact (hF i (by simpa using hi)).2

theorem open_Ents {t e s i : TypeId} {f0 f1 : Field} {fuel : Nat} {cs : List Value} {x : DataW H × List MemPlace} (ht : P.underlying t = some (.slice e)) (he : P.underlying e = some (.struct #[f0, f1])) (hc : P.cellsOf e = 2)
    (h0 : f0.type = s) (o0 : f0.offset = 0) (c0 : P.cellsOf s = 1) (hs : P.underlying s = some (.slice i)) (h1 : f1.type = i) (o1 : f1.offset = 1) (c1 : P.cellsOf i = 1) (hi : P.underlying i = some (.int .i64))
    (h : DataW.trod enc P w base (fun _ => true) held fuel t cs = some x) : ∃ v es, cs = [v] ∧ Ents w v es ∧ ∀ r ∈ es, Wf64 r.1 ∧ Wf64 [r.2] := by
  rcases Go.Deep.open_slice ht h with ⟨rfl, _⟩ | ⟨a, len, cap, m, n, D, Pl, rfl, _, hl, hm, hmm, _, hx⟩
  · exact ⟨_, [], rfl, ⟨none, 0, rfl, Nat.le_refl _, by unfold maxLen; omega, fun i hi => by simp at hi⟩, fun n hn => by simp at hn⟩
  · have hmm' : m = cap := by simpa using hmm
    rw [hc] at hx
    have key : ∀ k, k < len → ∃ r : Ent, ∃ b o, a = ⟨b, o, none⟩ ∧ (∃ u, w.cell? ⟨b, o + k * 2, none⟩ = some u ∧ Ints w u r.1 ∧ w.cell? ⟨b, o + k * 2 + 1, none⟩ = some (.int .i64 r.2)) ∧ Wf64 r.1 ∧ Wf64 [r.2] := by
      intro k hk
      have h00 : ∃ v, w.cell? (a.add 0) = some v := by
        obtain ⟨cs', hcs, _⟩ := hx 0 (by omega)
        obtain ⟨hlen, hcell⟩ := (World.cells?_some hcs).2
        have := hcell 0 (by omega)
        rw [Nat.zero_mul] at this
        have h2 : (a.add 0).add 0 = a.add 0 := by simp [Addr.add]
        rw [h2] at this
        exact ⟨_, this.trans (List.getElem?_eq_getElem (by omega))⟩
      obtain ⟨v00, h00⟩ := h00
      obtain ⟨b, o, rfl⟩ := addr_head h00
      obtain ⟨cs', hcs, htr⟩ := hx k (by omega)
      obtain ⟨hlen, hcell⟩ := (World.cells?_some hcs).2
      obtain ⟨y0, y1, m', _, _, t0, t1⟩ := trod_struct2 he htr
      rw [h0, o0, c0] at t0
      rw [h1, o1, c1] at t1
      match cs', hlen with
      | [u0, u1], _ =>
        simp only [List.drop_zero, List.take_succ_cons, List.take_zero, List.drop_succ_cons] at t0 t1
        obtain ⟨v, l, hv, hints, hwf⟩ := open_Ints hs hi c1 t0
        injection hv with hv
        subst hv
        obtain ⟨q, hq, _, hwq⟩ := DataW.trod_int hi t1
        injection hq with hq
        subst hq
        have e0 := hcell 0 (by omega)
        have e1 := hcell 1 (by omega)
        rw [addr_add, addr_add] at e0 e1
        refine ⟨(l, q), b, o, rfl, ⟨u0, by simpa using e0, hints, by simpa using e1⟩, hwf, fun z hz => by simp at hz; subst hz; exact hwq⟩
    obtain ⟨F, hF⟩ := Go.Deep.choose_lt (α := Ent) (n := len) key
    refine ⟨_, (List.range len).map F, rfl, ⟨some a, cap, by simp, by simpa using hl, hm, fun k hk => ?_⟩, ?_⟩
    · simp only [List.length_map, List.length_range] at hk
      obtain ⟨b, o, rfl, hu, _⟩ := hF k hk
      refine ⟨b, o, rfl, ?_⟩
      simpa [ent, hk] using hu
    · intro r hr
      obtain ⟨k, hk, rfl⟩ := List.mem_map.1 hr
      obtain ⟨_, _, _, _, h⟩ := hF k (by simpa using hk)
      exact h
end
end Go.Proofs.YtpmlcfgbfhgpgaaGreatDoor
