/- Two rules that came in, opened. -/
import Derived.Test.YtojbamejhlaahaaOpen
import Derived.Test.YtojbamejhlaahaaRulA
namespace Go.Proofs.Ytojbamejhlaahaa
open Go.ChangeShapes Go.WideShapes Go.RowKit Go.Joins
set_option linter.unusedVariables false
section
variable {H : Type} {enc : TypeId × Value → H} {w : World} {base : Nat} {held : Bool}

theorem open_rule {n : Nat} {c0 c1 c2 c3 : Value} {z : DataW H × List MemPlace} (h : DataW.trod enc Try.prog w base (fun _ => true) held n 24 [c0, c1, c2, c3] = some z) :
    ∃ x : Rul, c0 = .int .i64 x.f ∧ RulR w c1 c2 c3 x := by
  obtain ⟨y0, y1, y2, y3, m, _, _, h0, h1, h2, h3⟩ := trod_struct4 Try.underlying24 h
  have e : Try.prog.cellsOf 3 = 1 ∧ Try.prog.cellsOf 22 = 1 := ⟨by kernel_rfl, by kernel_rfl⟩
  simp only [List.drop, e.1, e.2, List.take] at h0 h1 h2 h3
  obtain ⟨f, hf, _, _⟩ := DataW.trod_int Try.underlying3 h0
  injection hf with hf
  obtain ⟨_, t, ht, hit, _⟩ := open_Ints Try.underlying22 Try.underlying3 (by kernel_rfl) h1
  injection ht with ht
  obtain ⟨_, l, hl, hil, _⟩ := open_Ints Try.underlying22 Try.underlying3 (by kernel_rfl) h2
  injection hl with hl
  obtain ⟨_, r, hr, hir, _⟩ := open_Ints Try.underlying22 Try.underlying3 (by kernel_rfl) h3
  injection hr with hr
  subst hf ht hl hr
  exact ⟨⟨f, t, l, r⟩, rfl, hit, hil, hir⟩
theorem array8 {cs : Array Value} (h : cs.size = 8) : ∃ a b c d e f g i, cs = #[a, b, c, d, e, f, g, i] := by
  obtain ⟨l⟩ := cs
  rcases l with _ | ⟨a, _ | ⟨b, _ | ⟨c, _ | ⟨d, _ | ⟨e, _ | ⟨f, _ | ⟨g, _ | ⟨i, _ | ⟨j, l⟩⟩⟩⟩⟩⟩⟩⟩⟩
  all_goals first
    | exact ⟨_, _, _, _, _, _, _, _, rfl⟩
    | (simp at h; done)
    | (simp at h; omega)
set_option maxRecDepth 100000 in
theorem open_two {r : Reach} {b0 : Nat} {v : Value} {d : DataW H} {p : List MemPlace} (hv : Value.okWide Try.prog w r b0 45 v) (h : DataW.Trod enc Try.prog w base (fun _ => true) held 45 v d p) :
    ∃ (tv lv rv tu lu ru : Value) (x y : Rul), v = .agg #[.int .i64 x.f, tv, lv, rv, .int .i64 y.f, tu, lu, ru] ∧ RulR w tv lv rv x ∧ RulR w tu lu ru y := by
  obtain ⟨cs, rfl, hsz⟩ := okWide_struct (P := Try.prog) (w := w) (r := r) (base := b0) (t := 45) (v := v) Try.underlying45 hv
  obtain ⟨c0, c1, c2, c3, c4, c5, c6, c7, rfl⟩ := array8 (hsz.trans (show Try.prog.cellsOf 45 = 8 by kernel_rfl))
  obtain ⟨fuel, hf⟩ := h
  obtain ⟨y0, y1, n, _, _, h0, h1⟩ := trod_struct2 Try.underlying45 hf
  have e : Try.prog.cellsOf 24 = 4 := by kernel_rfl
  simp only [Value.cells, List.drop, e, List.take] at h0 h1
  obtain ⟨x, rfl, hx⟩ := open_rule h0
  obtain ⟨y, rfl, hy⟩ := open_rule h1
  exact ⟨_, _, _, _, _, _, x, y, rfl, hx, hy⟩
end
end Go.Proofs.Ytojbamejhlaahaa
