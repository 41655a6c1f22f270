/- Walks: the cells with a form, those that clash, those that are empty; both packages. -/
import Derived.Test.YtejklkhaplkblaaMatch
import Derived.Test.YtejklkhaplkblaaScript
namespace Go.Proofs.Ytejklkhaplkblaa
open Go.RowKit Go.Shelf
set_option linter.unusedVariables false

theorem mem_len {sizes x : List Int} (hok : sizesOk sizes) (h : x ∈ cellsOf sizes) : x.length = sizes.length := by
  obtain ⟨k, hk, rfl⟩ := List.mem_iff_getElem.1 h
  have := cells_len hok (k := k) hk
  simpa [hk] using this
theorem filter_succ {L : List (List Int)} (p : List Int → Bool) {k : Nat} (hk : k < L.length) : (L.take (k + 1)).filter p = (L.take k).filter p ++ (if p (L[k]?.getD []) then [L[k]?.getD []] else []) := by
  rw [List.take_add_one, List.getElem?_eq_getElem hk, List.filter_append]; simp [List.filter_cons]

/-! ## the reference's lists -/
/-- collected so far: rows of the list's own, of what lay before -/
def Picks (w0 : World) (v : Value) (ls : List (List Int)) (wr : World) : Prop := Ext w0 wr ∧ ∃ us, wr.ownsRow w0.heap.size 22 1 v us.length us ∧ AllInts w0 us ls
theorem Picks.nil (w : World) : Picks w (.slice none 0 0) [] w := ⟨Ext.refl _, [], World.ownsRow_nil _ _ _ _, rfl, fun i u h => by simp at h⟩
theorem Picks.ext {w0 wr w' : World} {v : Value} {ls : List (List Int)} (h : Picks w0 v ls wr) (hx : Ext wr w') : Picks w0 v ls w' := by
  obtain ⟨h1, us, h2, h3⟩ := h
  exact ⟨h1.trans hx, us, ownsRow_ext h2 hx, h3⟩
theorem Picks.rows {w0 wr : World} {v : Value} {ls : List (List Int)} (h : Picks w0 v ls wr) : Rows wr v ls := by
  obtain ⟨h1, us, h2, h3⟩ := h
  exact Rows.own (by rw [← h3.1]; exact h2) (h3.ext h1)
/-- append of one row -/
theorem wpList_appendRow {ops : Array Oper} {rest : List Oper} {o : Oper} {a : Act} {Q : Exit → Act → World → Prop} {W w0 : World} {v u : Value} {g : Nat} {ls : List (List Int)} {l : List Int}
    (hgd : o.guard = none) (s x : Operand) (ho : o.op = .call { callee := .builtin .append, args := #[s, x], argTypes := #[29, 29] })
    (hs : a.eval s = v) (hx : a.eval x = .slice (some ⟨g, 0, none⟩) 1 1) (hc : Picks w0 v ls W) (hg : W.heap.size = g) (hu : Ints w0 u l) (hn : ls.length ≤ 1000000)
    (h : ∀ v' w', Picks w0 v' (ls ++ [l]) w' → wpList Try.prog ops Q rest (a.put o.dst v') w') : wpList Try.prog ops Q (o :: rest) a (W.alloc (.cells #[u] 22)) := by
  obtain ⟨h1, us, h2, h3⟩ := hc
  have hlen := h3.1
  refine wpList_append1 elRows hgd s x ho hs hx h2 hg (by obtain ⟨a, c, rfl, _⟩ := hu; rfl) h1.size (by omega) (by omega) ?_
  intro v' w' h4 h5
  exact h v' w' ⟨h1.upto h5 (Nat.le_refl _), us ++ [u], by simpa using h4, h3.snoc hu⟩

/-! ## Homes -/
def homesK (sizes : List Int) (es : List Ent) (n : Int) : Int := if validI sizes es = 0 then (if decide (0 ≤ n) && decide (n ≤ 9) then 0 else 1) else validI sizes es
theorem homesK_zero {sizes : List Int} {es : List Ent} {n : Int} (h : homesK sizes es n = 0) : validI sizes es = 0 ∧ 0 ≤ n ∧ n ≤ 9 := by
  unfold homesK at h
  split at h
  · rename_i h1
    split at h
    · rename_i h2
      simp only [Bool.and_eq_true, decide_eq_true_eq] at h2
      exact ⟨h1, h2.1, h2.2⟩
    · omega
  · omega
def homeB (es : List Ent) (n : Int) (c : List Int) : Bool := formI es c == n

set_option maxHeartbeats 400000 in
theorem homes1_c (sv ev vc : Value) (sizes : List Int) (es : List Ent) (c : List Int) (n : Int) (w : World) (he : Ents w ev es) (hc : Ints w vc c) (V : ValidP sizes es) (hlc : c.length = sizes.length)
    (bp bn : Nat) (hc0 : w.cell? ⟨bp, 0, none⟩ = some sv) (hc1 : w.cell? ⟨bp, 1, none⟩ = some ev) (hcn : w.cell? ⟨bn, 0, none⟩ = some (.int .i64 n)) :
    Calls Try.prog 42 #[vc, .pointer (some ⟨bp, 0, none⟩), .pointer (some ⟨bn, 0, none⟩)] w (RV (.bool (homeB es n c)) w) := by
  have HF := Lib.hid (fun s : Later w => form_c sv ev vc es c s.w (he.ext s.ext) (hc.ext s.ext) (fun i hi => (V.len i hi).trans hlc.symm) (by have := V.n; omega))
  unfold homeB
  generalize formI es c = f at *
  have q0 := fun s : Later w => s.ext.keep hc0
  have q1 := fun s : Later w => s.ext.keep hc1
  have q2 := fun s : Later w => s.ext.keep hcn
  clear hc0 hc1 hcn he hc V hlc
  go_enter Try.func42, Try.ntmps42
  go_wp2_with fail
  refine wp_region_later (by kernel_rfl) (by kernel_rfl) ?_
  repeat (go_big_quiet_step ((go_at_call 43; exact Later.call (HF.out _))))
  refine wpQuiet_nil ?_
  intro _ hw'
  obtain ⟨⟨wq, hq⟩, rfl⟩ := hw'
  clear q0 q1 q2
  go_wp2_with fail
  go_ret
  exact RV.bool rfl hq

set_option maxHeartbeats 400000 in
theorem Homes_c (sv ev : Value) (sizes : List Int) (es : List Ent) (n : Int) (w : World) (hp : Par w sv ev sizes es) :
    Calls Try.prog 13 #[.agg #[sv, ev], .int .i64 n] w (R2 (isRows (if homesK sizes es n = 0 then (cellsOf sizes).filter (homeB es n) else [])) (homesK sizes es n) w) := by
  obtain ⟨wA, hwA⟩ : ∃ wA, wA = (w.alloc (.cells #[sv, ev] 25)).alloc (.cells #[.int .i64 n] 3) := ⟨_, rfl⟩
  have hA : Ext w wA := by rw [hwA]; exact (Ext.alloc _ _).trans (Ext.alloc _ _)
  have hb0 : wA.cell? ⟨w.heap.size, 0, none⟩ = some sv := by rw [hwA]; exact (Ext.alloc _ _).keep (alloc_cell w #[sv, ev] 25 (i := 0) rfl)
  have hb1 : wA.cell? ⟨w.heap.size, 1, none⟩ = some ev := by rw [hwA]; exact (Ext.alloc _ _).keep (alloc_cell w #[sv, ev] 25 (i := 1) rfl)
  have hbn : wA.cell? ⟨w.heap.size + 1, 0, none⟩ = some (.int .i64 n) := by rw [hwA]; simp
  have HV := Lib.hid (validate_c sv ev sizes es wA (hp.s.ext hA) (hp.e.ext hA))
  have HP := Lib.hid hp; have HW := Lib.hid hwA; clear hp hwA
  by_cases h0 : validI sizes es = 0
  · have V := validI_zero h0
    rw [show homesK sizes es n = if decide (0 ≤ n) && decide (n ≤ 9) then 0 else 1 by rw [homesK, if_pos h0]]
    rw [h0] at HV
    have HVV := Lib.hid V
    clear h0 V
    have HWi := Lib.hid (within_c n 0 9)
    cases hb : (decide (0 ≤ n) && decide (n ≤ 9))
    · rw [hb] at HWi
      clear hb
      simp only [Bool.false_eq_true, if_false]
      go_enter Try.func13, Try.ntmps13
      go_wp2_with fail
      rw [← HW.out]
      refine HV.out.mono ?_; rintro e w1 ⟨rfl, hB⟩
      have hbn := hB.keep hbn
      go_wp2_with fail
      refine (HWi.out _).mono ?_; rintro e w' ⟨rfl, rfl⟩
      go_wp2_with fail
      go_ret2
      exact R2.mk (rows_nil_c _) (hA.trans hB)
    · rw [hb] at HWi
      clear hb
      simp only [if_true]
      go_enter Try.func13, Try.ntmps13
      go_wp2_with fail
      rw [← HW.out]
      refine HV.out.mono ?_; rintro e w1 ⟨rfl, hB⟩
      have hb0 := hB.keep hb0
      have hb1 := hB.keep hb1
      have hbn := hB.keep hbn
      have hX := hA.trans hB
      go_wp2_with fail
      refine (HWi.out _).mono ?_; rintro e w' ⟨rfl, rfl⟩
      go_wp2_with fail
      refine (where_c sv ev sizes 42 #[.pointer (some ⟨w.heap.size, 0, none⟩), .pointer (some ⟨w.heap.size + 1, 0, none⟩)] (homeB es n) w1 (enters_of Try.func42 (by kernel_rfl) rfl) (HP.out.s.ext hX) HVV.out.ok
        (fun W x v hW hx hi => homes1_c sv ev v sizes es x n W (HP.out.e.ext (hX.trans hW)) hi HVV.out (mem_len HVV.out.ok hx) _ _ (hW.keep hb0) (hW.keep hb1) (hW.keep hbn))).mono ?_
      rintro e w2 ⟨v, rfl, hr, hB2⟩
      have HR := Lib.hid hr; clear hr
      go_wp2_with fail
      go_ret2
      exact R2.mk HR.out (hX.trans hB2)
  · rw [show homesK sizes es n = validI sizes es by rw [homesK, if_neg h0]]
    rw [if_neg h0]
    generalize validI sizes es = k at *
    have hk : (k != 0) = true := by simp [h0]
    have H0 := Lib.hid h0; clear h0
    go_enter Try.func13, Try.ntmps13
    go_wp2_with fail
    rw [← HW.out]
    refine HV.out.mono ?_; rintro e w1 ⟨rfl, hB⟩
    go_wp2_with fail
    go_ret2
    exact R2.mk (rows_nil_c _) (hA.trans hB)

end Go.Proofs.Ytejklkhaplkblaa
