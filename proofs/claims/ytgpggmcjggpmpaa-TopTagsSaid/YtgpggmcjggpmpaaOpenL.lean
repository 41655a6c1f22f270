/- Lexicons that came in, opened into what the walks read. -/
import Derived.Test.YtgpggmcjggpmpaaOpen
import Derived.Test.YtgpggmcjggpmpaaTagA
namespace Go.Proofs.Ytgpggmcjggpmpaa
open Go.ChangeShapes Go.WideShapes Go.RowKit
instance : Inhabited Itm := ⟨⟨[], 0, 0⟩⟩
set_option linter.unusedVariables false

section
variable {H : Type} {enc : TypeId × Value → H} {P : Program} {w : World} {base : Nat} {held : Bool}
theorem open_Items {t e s i : TypeId} {f0 f1 f2 : Field} {fuel : Nat} {cs : List Value} {x : DataW H × List MemPlace} (ht : P.underlying t = some (.slice e)) (he : P.underlying e = some (.struct #[f0, f1, f2])) (hc : P.cellsOf e = 3)
    (h0 : f0.type = s) (o0 : f0.offset = 0) (c0 : P.cellsOf s = 1) (hs : P.underlying s = some (.slice i)) (h1 : f1.type = i) (o1 : f1.offset = 1) (h2 : f2.type = i) (o2 : f2.offset = 2) (ci : P.cellsOf i = 1) (hi : P.underlying i = some (.int .i64))
    (h : DataW.trod enc P w base (fun _ => true) held fuel t cs = some x) : ∃ v l, cs = [v] ∧ Items w v l := by
  rcases Go.Deep.open_slice ht h with ⟨rfl, _⟩ | ⟨a, len, cap, m, n, D, Pl, rfl, _, hl, hm, hmm, _, hx⟩
  · exact ⟨_, [], rfl, none, 0, rfl, Nat.le_refl _, by unfold maxLen; omega, fun i hi => by simp at hi⟩
  · have hmm' : m = cap := by simpa using hmm
    rw [hc] at hx
    have key : ∀ k, k < len → ∃ r : Itm, ∃ b o, a = ⟨b, o, none⟩ ∧ ∃ u, w.cell? ⟨b, o + k * 3, none⟩ = some u ∧ Ints w u r.w ∧ w.cell? ⟨b, o + k * 3 + 1, none⟩ = some (.int .i64 r.k) ∧ w.cell? ⟨b, o + k * 3 + 2, none⟩ = some (.int .i64 r.c) := by
      intro k hk
      have h00 : ∃ v, w.cell? (a.add 0) = some v := by
        obtain ⟨cs', hcs, _⟩ := hx 0 (by omega)
        obtain ⟨hlen, hcell⟩ := (World.cells?_some hcs).2
        have := hcell 0 (by omega)
        rw [Nat.zero_mul] at this
        have h2 : (a.add 0).add 0 = a.add 0 := by simp [Addr.add]
        rw [h2] at this
        exact ⟨_, this.trans (List.getElem?_eq_getElem (by omega))⟩
      obtain ⟨v00, h00⟩ := h00
      obtain ⟨b, o, rfl⟩ := addr_head h00
      obtain ⟨cs', hcs, htr⟩ := hx k (by omega)
      obtain ⟨hlen, hcell⟩ := (World.cells?_some hcs).2
      obtain ⟨ys, n', _, _, _, hyl, hf⟩ := DataW.trod_struct he htr
      have hyl3 : ys.length = 3 := by simpa using hyl
      match cs', hlen, ys, hyl3 with
      | [u0, u1, u2], _, [y0, y1, y2], _ =>
        have t0 := hf 0 f0 rfl
        have t1 := hf 1 f1 rfl
        have t2 := hf 2 f2 rfl
        rw [h0, o0, c0] at t0
        rw [h1, o1, ci] at t1
        rw [h2, o2, ci] at t2
        obtain ⟨q0, l0, hq0, hints, _⟩ := open_Ints hs hi ci (t0 : DataW.trod enc P w base (fun _ => true) held n' s [u0] = some y0)
        obtain ⟨q1, hq1, _, _⟩ := DataW.trod_int hi (t1 : DataW.trod enc P w base (fun _ => true) held n' i [u1] = some y1)
        obtain ⟨q2, hq2, _, _⟩ := DataW.trod_int hi (t2 : DataW.trod enc P w base (fun _ => true) held n' i [u2] = some y2)
        injection hq0 with hq0; injection hq1 with hq1; injection hq2 with hq2
        subst hq0 hq1 hq2
        have e0 := hcell 0 (by omega)
        have e1 := hcell 1 (by omega)
        have e2 := hcell 2 (by omega)
        rw [addr_add, addr_add] at e0 e1 e2
        exact ⟨⟨l0, q1, q2⟩, b, o, rfl, u0, by simpa using e0, hints, by simpa using e1, by simpa using e2⟩
    obtain ⟨F, hF⟩ := Go.Deep.choose_lt (α := Itm) (n := len) key
    refine ⟨_, (List.range len).map F, rfl, some a, cap, by simp, by simpa using hl, hm, fun k hk => ?_⟩
    simp only [List.length_map, List.length_range] at hk
    obtain ⟨b, o, rfl, u, h1, h2, h3, h4⟩ := hF k hk
    have hik : itm ((List.range len).map F) k = F k := by simp [itm, hk]
    refine ⟨b, o, rfl, u, h1, ?_⟩
    rw [hik]
    exact ⟨h2, h3, h4⟩
end
end Go.Proofs.Ytgpggmcjggpmpaa
