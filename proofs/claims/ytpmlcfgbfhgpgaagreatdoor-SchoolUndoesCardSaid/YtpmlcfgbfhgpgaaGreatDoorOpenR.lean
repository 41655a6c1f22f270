/- Lists of rules and of texts that came in, opened into what the walks read. -/
import Derived.Test.YtpmlcfgbfhgpgaaGreatDoorOpen
import Derived.Test.YtpmlcfgbfhgpgaaGreatDoorJoinedRowSchoolUndoes
import Derived.Test.YtpmlcfgbfhgpgaaGreatDoorBkC
import Derived.SliceStrings
import Derived.ChangeMaps5
namespace Go.Proofs.YtpmlcfgbfhgpgaaGreatDoor
open Go.ChangeShapes Go.WideShapes Go.ChangeAt Go.RowKit
instance : Inhabited Rul := ⟨⟨0, [], [], []⟩⟩
set_option linter.unusedVariables false

section
variable {H : Type} {enc : TypeId × Value → H} {P : Program} {w : World} {base : Nat} {held : Bool}
theorem open_Ruls {t e s i : TypeId} {f0 f1 f2 f3 : Field} {fuel : Nat} {cs : List Value} {x : DataW H × List MemPlace} (ht : P.underlying t = some (.slice e)) (he : P.underlying e = some (.struct #[f0, f1, f2, f3])) (hc : P.cellsOf e = 4)
    (h0 : f0.type = i) (o0 : f0.offset = 0) (h1 : f1.type = s) (o1 : f1.offset = 1) (h2 : f2.type = s) (o2 : f2.offset = 2) (h3 : f3.type = s) (o3 : f3.offset = 3)
    (cs1 : P.cellsOf s = 1) (hs : P.underlying s = some (.slice i)) (ci : P.cellsOf i = 1) (hi : P.underlying i = some (.int .i64))
    (h : DataW.trod enc P w base (fun _ => true) held fuel t cs = some x) : ∃ v l, cs = [v] ∧ Ruls w v l := by
  rcases Go.Deep.open_slice ht h with ⟨rfl, _⟩ | ⟨a, len, cap, m, n, D, Pl, rfl, _, hl, hm, hmm, _, hx⟩
  · exact ⟨_, [], rfl, none, 0, rfl, Nat.le_refl _, by unfold maxLen; omega, fun i hi => by simp at hi⟩
  · have hmm' : m = cap := by simpa using hmm
    rw [hc] at hx
    have key : ∀ k, k < len → ∃ r : Rul, ∃ b o, a = ⟨b, o, none⟩ ∧ ∃ tv lv rv, w.cell? ⟨b, o + k * 4, none⟩ = some (.int .i64 r.f) ∧ w.cell? ⟨b, o + k * 4 + 1, none⟩ = some tv ∧ w.cell? ⟨b, o + k * 4 + 2, none⟩ = some lv ∧ w.cell? ⟨b, o + k * 4 + 3, none⟩ = some rv ∧ RulR w tv lv rv r := by
      intro k hk
      have h00 : ∃ v, w.cell? (a.add 0) = some v := by
        obtain ⟨cs', hcs, _⟩ := hx 0 (by omega)
        obtain ⟨hlen, hcell⟩ := (World.cells?_some hcs).2
        have := hcell 0 (by omega)
        rw [Nat.zero_mul] at this
        have h2 : (a.add 0).add 0 = a.add 0 := by simp [Addr.add]
        rw [h2] at this
        exact ⟨_, this.trans (List.getElem?_eq_getElem (by omega))⟩
      obtain ⟨v00, h00⟩ := h00
      obtain ⟨b, o, rfl⟩ := addr_head h00
      obtain ⟨cs', hcs, htr⟩ := hx k (by omega)
      obtain ⟨hlen, hcell⟩ := (World.cells?_some hcs).2
      obtain ⟨ys, n', _, _, _, hyl, hf⟩ := DataW.trod_struct he htr
      have hyl4 : ys.length = 4 := by simpa using hyl
      match cs', hlen, ys, hyl4 with
      | [u0, u1, u2, u3], _, [y0, y1, y2, y3], _ =>
        have t0 := hf 0 f0 rfl
        have t1 := hf 1 f1 rfl
        have t2 := hf 2 f2 rfl
        have t3 := hf 3 f3 rfl
        rw [h0, o0, ci] at t0
        rw [h1, o1, cs1] at t1
        rw [h2, o2, cs1] at t2
        rw [h3, o3, cs1] at t3
        obtain ⟨q0, hq0, _, _⟩ := DataW.trod_int hi (t0 : DataW.trod enc P w base (fun _ => true) held n' i [u0] = some y0)
        obtain ⟨q1, l1, hq1, i1, _⟩ := open_Ints hs hi ci (t1 : DataW.trod enc P w base (fun _ => true) held n' s [u1] = some y1)
        obtain ⟨q2, l2, hq2, i2, _⟩ := open_Ints hs hi ci (t2 : DataW.trod enc P w base (fun _ => true) held n' s [u2] = some y2)
        obtain ⟨q3, l3, hq3, i3, _⟩ := open_Ints hs hi ci (t3 : DataW.trod enc P w base (fun _ => true) held n' s [u3] = some y3)
        injection hq0 with hq0; injection hq1 with hq1; injection hq2 with hq2; injection hq3 with hq3
        subst hq0 hq1 hq2 hq3
        have e0 := hcell 0 (by omega)
        have e1 := hcell 1 (by omega)
        have e2 := hcell 2 (by omega)
        have e3 := hcell 3 (by omega)
        rw [addr_add, addr_add] at e0 e1 e2 e3
        exact ⟨⟨q0, l1, l2, l3⟩, b, o, rfl, u1, u2, u3, by simpa using e0, by simpa using e1, by simpa using e2, by simpa using e3, ⟨i1, i2, i3⟩⟩
    obtain ⟨F, hF⟩ := Go.Deep.choose_lt (α := Rul) (n := len) key
    refine ⟨_, (List.range len).map F, rfl, some a, cap, by simp, by simpa using hl, hm, fun k hk => ?_⟩
    simp only [List.length_map, List.length_range] at hk
    obtain ⟨b, o, rfl, u⟩ := hF k hk
    have hik : rulAt ((List.range len).map F) k = F k := by simp [rulAt, hk]
    refine ⟨b, o, rfl, ?_⟩
    dsimp only
    rw [hik]
    exact u
theorem open_Strs {t e : TypeId} {fuel : Nat} {cs : List Value} {x : DataW H × List MemPlace} (ht : P.underlying t = some (.slice e)) (he : P.underlying e = some .string) (hc : P.cellsOf e = 1)
    (h : DataW.trod enc P w base (fun _ => true) held fuel t cs = some x) : ∃ v l, cs = [v] ∧ Strs w v l := by
  rcases open_strings ht he hc h with ⟨rfl, _⟩ | ⟨a, len, cap, ss, rfl, _, hl, hm, hz, _, hcell, _⟩
  · exact ⟨_, [], rfl, none, 0, rfl, Nat.le_refl _, by unfold maxLen; omega, fun i hi => by simp at hi⟩
  · have hz' : ss.length = cap := by simpa using hz
    have hlt : (ss.take len).length = len := by simp; omega
    refine ⟨_, ss.take len, rfl, some a, cap, by rw [hlt], by rw [hlt]; exact hl, hm, fun i hi => ?_⟩
    rw [hlt] at hi
    obtain ⟨b, o, rfl⟩ := addr_head (hcell 0 (by omega))
    refine ⟨b, o, rfl, fun j x u hx hu => ?_⟩
    match j, hu with
    | 0, hu =>
      have hu' : u = .string x := (Option.some.inj hu).symm
      subst hu'
      have := hcell i (by omega)
      rw [addr_add] at this
      rw [List.getElem?_take_of_lt hi] at hx
      have e : ss.getD i ByteArray.empty = x := by simp [List.getD, hx]
      rw [e] at this
      simpa using this
end
end Go.Proofs.YtpmlcfgbfhgpgaaGreatDoor
