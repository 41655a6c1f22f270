/- Machines that came in, opened into what the walks read. -/
import Derived.Test.YtpbflkbelhlogaaOpen
import Derived.Test.YtpbflkbelhlogaaMacA
namespace Go.Proofs.Ytpbflkbelhlogaa
open Go.ChangeShapes Go.WideShapes Go.RowKit
instance : Inhabited Arc := ⟨⟨0, 0, 0, 0⟩⟩
set_option linter.unusedVariables false

section
variable {H : Type} {enc : TypeId × Value → H} {P : Program} {w : World} {base : Nat} {held : Bool}
theorem open_Arcs {t e i : TypeId} {f0 f1 f2 f3 : Field} {fuel : Nat} {cs : List Value} {x : DataW H × List MemPlace} (ht : P.underlying t = some (.slice e)) (he : P.underlying e = some (.struct #[f0, f1, f2, f3])) (hc : P.cellsOf e = 4)
    (h0 : f0.type = i) (o0 : f0.offset = 0) (h1 : f1.type = i) (o1 : f1.offset = 1) (h2 : f2.type = i) (o2 : f2.offset = 2) (h3 : f3.type = i) (o3 : f3.offset = 3) (ci : P.cellsOf i = 1) (hi : P.underlying i = some (.int .i64))
    (h : DataW.trod enc P w base (fun _ => true) held fuel t cs = some x) : ∃ v ar, cs = [v] ∧ Arcs w v ar ∧ ∀ a ∈ ar, Wf64 [a.f, a.t, a.i, a.o] := by
  rcases Go.Deep.open_slice ht h with ⟨rfl, _⟩ | ⟨a, len, cap, m, n, D, Pl, rfl, _, hl, hm, hmm, _, hx⟩
  · exact ⟨_, [], rfl, ⟨none, 0, rfl, Nat.le_refl _, by unfold maxLen; omega, fun i hi => by simp at hi⟩, fun n hn => by simp at hn⟩
  · have hmm' : m = cap := by simpa using hmm
    rw [hc] at hx
    have key : ∀ k, k < len → ∃ r : Arc, ∃ b o, a = ⟨b, o, none⟩ ∧ (w.cell? ⟨b, o + k * 4, none⟩ = some (.int .i64 r.f) ∧ w.cell? ⟨b, o + k * 4 + 1, none⟩ = some (.int .i64 r.t) ∧ w.cell? ⟨b, o + k * 4 + 2, none⟩ = some (.int .i64 r.i) ∧ w.cell? ⟨b, o + k * 4 + 3, none⟩ = some (.int .i64 r.o)) ∧ Wf64 [r.f, r.t, r.i, r.o] := by
      intro k hk
      have h00 : ∃ v, w.cell? (a.add 0) = some v := by
        obtain ⟨cs', hcs, _⟩ := hx 0 (by omega)
        obtain ⟨hlen, hcell⟩ := (World.cells?_some hcs).2
        have := hcell 0 (by omega)
        rw [Nat.zero_mul] at this
        have h2 : (a.add 0).add 0 = a.add 0 := by simp [Addr.add]
        rw [h2] at this
        exact ⟨_, this.trans (List.getElem?_eq_getElem (by omega))⟩
      obtain ⟨v00, h00⟩ := h00
      obtain ⟨b, o, rfl⟩ := addr_head h00
      obtain ⟨cs', hcs, htr⟩ := hx k (by omega)
      obtain ⟨hlen, hcell⟩ := (World.cells?_some hcs).2
      obtain ⟨ys, n', _, _, _, hyl, hf⟩ := DataW.trod_struct he htr
      have hyl4 : ys.length = 4 := by simpa using hyl
      match cs', hlen, ys, hyl4 with
      | [u0, u1, u2, u3], _, [y0, y1, y2, y3], _ =>
        have t0 := hf 0 f0 rfl
        have t1 := hf 1 f1 rfl
        have t2 := hf 2 f2 rfl
        have t3 := hf 3 f3 rfl
        rw [h0, o0, ci] at t0
        rw [h1, o1, ci] at t1
        rw [h2, o2, ci] at t2
        rw [h3, o3, ci] at t3
        obtain ⟨q0, hq0, _, hw0⟩ := DataW.trod_int hi (t0 : DataW.trod enc P w base (fun _ => true) held n' i [u0] = some y0)
        obtain ⟨q1, hq1, _, hw1⟩ := DataW.trod_int hi (t1 : DataW.trod enc P w base (fun _ => true) held n' i [u1] = some y1)
        obtain ⟨q2, hq2, _, hw2⟩ := DataW.trod_int hi (t2 : DataW.trod enc P w base (fun _ => true) held n' i [u2] = some y2)
        obtain ⟨q3, hq3, _, hw3⟩ := DataW.trod_int hi (t3 : DataW.trod enc P w base (fun _ => true) held n' i [u3] = some y3)
        injection hq0 with hq0; injection hq1 with hq1; injection hq2 with hq2; injection hq3 with hq3
        subst hq0 hq1 hq2 hq3
        have e0 := hcell 0 (by omega)
        have e1 := hcell 1 (by omega)
        have e2 := hcell 2 (by omega)
        have e3 := hcell 3 (by omega)
        rw [addr_add, addr_add] at e0 e1 e2 e3
        refine ⟨⟨q0, q1, q2, q3⟩, b, o, rfl, ⟨by simpa using e0, by simpa using e1, by simpa using e2, by simpa using e3⟩, fun z hz => ?_⟩
        simp only [List.mem_cons, List.not_mem_nil, or_false] at hz
        rcases hz with rfl | rfl | rfl | rfl
        · exact hw0
        · exact hw1
        · exact hw2
        · exact hw3
    obtain ⟨F, hF⟩ := Go.Deep.choose_lt (α := Arc) (n := len) key
    refine ⟨_, (List.range len).map F, rfl, ⟨some a, cap, by simp, by simpa using hl, hm, fun k hk => ?_⟩, ?_⟩
    · simp only [List.length_map, List.length_range] at hk
      obtain ⟨b, o, rfl, hu, _⟩ := hF k hk
      refine ⟨b, o, rfl, ?_⟩
      simpa [arcA, hk] using hu
    · intro r hr
      obtain ⟨k, hk, rfl⟩ := List.mem_map.1 hr
      obtain ⟨_, _, _, _, h⟩ := hF k (by simpa using hk)
      exact h
end
end Go.Proofs.Ytpbflkbelhlogaa
