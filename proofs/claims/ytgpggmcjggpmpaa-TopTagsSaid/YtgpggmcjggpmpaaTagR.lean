/- The reference: where a word stands; the table of costs and counts. -/
import Derived.Test.YtgpggmcjggpmpaaTagH
import Derived.Test.YtgpggmcjggpmpaaGrn
namespace Go.Proofs.Ytgpggmcjggpmpaa
open Go.RowKit Go.Shelf
set_option linter.unusedVariables false

/-- the word of an item stands in a text from a place on -/
def comesB (l : Lex) (t : List Int) (p : Int) (j : Nat) : Bool := decide (0 ≤ p) && (decide (p + (wrd l (j : Int)).length ≤ t.length) && decide ((t.drop p.toNat).take (wrd l (j : Int)).length = wrd l (j : Int)))
theorem comesB_ends {l : Lex} {t : List Int} {i j : Nat} (hi : i ≤ t.length) : comesB l t ((i : Int) - (wrd l (j : Int)).length) j = endsAt l t i j := by
  unfold comesB
  by_cases h : (wrd l (j : Int)).length ≤ i
  · obtain ⟨p, rfl⟩ : ∃ p, i = p + (wrd l (j : Int)).length := ⟨i - (wrd l (j : Int)).length, by omega⟩
    have e : ((p + (wrd l (j : Int)).length : Nat) : Int) - (wrd l (j : Int)).length = (p : Int) := by omega
    rw [e, endsAt_take hi, decide_eq_true (by omega), decide_eq_true (by omega)]; rfl
  · rw [decide_eq_false (by omega), Bool.false_and]
    symm; rw [Bool.eq_false_iff]
    intro hc; exact h (endsAt_le hi hc)
theorem comesB_fits {l : Lex} {t : List Int} {p j : Nat} (hp : p ≤ t.length) : comesB l t (p : Int) j = (wrd l (j : Int)).isPrefixOf (t.drop p) := by
  unfold comesB
  rw [decide_eq_true (by omega), Bool.true_and, Int.toNat_natCast]
  by_cases h : p + (wrd l (j : Int)).length ≤ t.length
  · rw [decide_eq_true (by omega), Bool.true_and, at_place h]
  · rw [decide_eq_false (by omega), Bool.false_and, past_end hp h]
set_option maxHeartbeats 2000000 in
set_option maxRecDepth 100000 in
theorem comes_c (iv fv tv : Value) (l : Lex) (t : List Int) (p : Int) (j : Nat) (w : World) (h : LexR w iv fv l) (hl : LexOk l) (ht : Ints w tv t) (hj : j < l.i.length) (hp0 : -1000 ≤ p) (hp : p ≤ 1000) (h12 : t.length ≤ 1000) :
    Calls Try.prog 82 #[.agg #[iv, fv], tv, .int .i64 p, .int .i64 (j : Int)] w (RV (.bool (comesB l t p j)) w) := by
  obtain ⟨wA, hwA⟩ : ∃ wA, wA = w.alloc (.cells #[iv, fv] 25) := ⟨_, rfl⟩
  have hE0 : Ext w wA := by rw [hwA]; exact Ext.alloc _ _
  have k0 : ∀ W, Ext wA W → W.cell? ⟨w.heap.size, 0, none⟩ = some iv := by rw [hwA]; exact kept_alloc w _ _ rfl
  have k1 : ∀ W, Ext wA W → W.cell? ⟨w.heap.size, 1, none⟩ = some fv := by rw [hwA]; exact kept_alloc w _ _ rfl
  have H0 : Ext wA wA := Ext.refl _
  have HR := Lib.hid (h.ext hE0)
  obtain ⟨ai, ci, rfl, hli, hmi, HI⟩ := (h.ext hE0).i.open_
  obtain ⟨af, cf, rfl, hlf, hmf, HF⟩ := Rows.open_ (h.ext hE0).f
  have HT := Lib.hid (ht.ext hE0)
  obtain ⟨at_, ct, rfl, hlt0, hmt0, HTO⟩ := (ht.ext hE0).open_
  have HW := Lib.hid hwA; clear hwA h ht
  obtain ⟨bi, oi, rfl, u, hc0, hu, _, _⟩ := HI.out j hj
  have hL := hl.wo j hj
  have HWD : Hid (wrd l (j : Int) = (itm l.i j).w) := Lib.hid rfl
  rw [← HWD.out] at hu hL
  have HU := Lib.hid hu
  have HB : Hid (comesB l t p j = (decide (0 ≤ p) && (decide (p + (wrd l (j : Int)).length ≤ t.length) && decide ((t.drop p.toNat).take (wrd l (j : Int)).length = wrd l (j : Int))))) := Lib.hid rfl
  obtain ⟨au, cu, rfl, _, _, _⟩ := hu.open_
  clear hu hl
  generalize hLL : (wrd l (j : Int)).length = L at *
  have HLL := Lib.hid hLL; clear hLL
  have hL1 : 1 ≤ L := hL.1
  have hL6 : L ≤ 6 := hL.2
  clear hL
  have hjI : (j : Int) < (l.i.length : Int) := by omega
  have hc0' : (w.alloc (.cells #[.slice (some ⟨bi, oi, none⟩) l.i.length ci, .slice af l.f.length cf] 25)).cell? ⟨bi, oi + j * 3, none⟩ = some (.slice au L cu) := by rw [← HW.out]; exact hc0
  rw [HB.out]
  by_cases hp1 : 0 ≤ p
  · obtain ⟨q, rfl⟩ : ∃ q : Nat, p = (q : Int) := ⟨p.toNat, by omega⟩
    have hd0 : decide ((0 : Int) ≤ (q : Int)) = true := by simp
    rw [hd0, Bool.true_and, Int.toNat_natCast]
    by_cases hq : q + L ≤ t.length
    · have hd1 : decide ((q : Int) + (L : Int) ≤ (t.length : Int)) = true := by simp; omega
      rw [hd1, Bool.true_and]
      obtain ⟨bt, ot, rfl, _⟩ := HTO.out q (by omega)
      have hA' : (if ct = q then (some ⟨bt, ot, none⟩ : Option Addr) else some ⟨bt, ot + q, none⟩) = some ⟨bt, ot + q, none⟩ := if_neg (by omega)
      have hip : q + L - q = L := by omega
      have HEQ := Lib.hid (same_v (.slice (some ⟨bt, ot + q, none⟩) L (ct - q)) (.slice au L cu) ((t.drop q).take L) (wrd l (j : Int)) wA (by exact ints_take (ints_drop HT.out (k := q) (by omega) hA') (i := L) (by rw [List.length_drop]; omega)) HU.out)
      generalize decide ((t.drop q).take L = wrd l (j : Int)) = b at *
      have hqI : (q : Int) + (L : Int) ≤ (t.length : Int) := by omega
      have hqct : q + L ≤ ct := by omega
      have hw1 : IntKind.i64.wrap ((q : Int) + (L : Int)) = (q : Int) + (L : Int) := IntWalk.i64_in _ (by omega)
      have htn : ((q : Int) + (L : Int)).toNat = q + L := by omega
      have hqc2 : (q : Int) ≤ (q : Int) + (L : Int) := by omega
      have hcne : ¬ ct = q := by omega
      clear hip hA'
      go_enter Try.func82, Try.ntmps82
      go_wp2_with fail
      rw [← HW.out]
      (with_reducible refine HEQ.out.mono ?_); rintro e w1 ⟨rfl, hx1⟩
      go_wp2_with fail
      go_ret
      exact RV.bool rfl (hE0.trans hx1)
    · have hd1 : decide ((q : Int) + (L : Int) ≤ (t.length : Int)) = false := by simp; omega
      rw [hd1, Bool.false_and]
      have hw1 : IntKind.i64.wrap ((q : Int) + (L : Int)) = (q : Int) + (L : Int) := IntWalk.i64_in _ (by omega)
      have hnq : ¬ (q : Int) + (L : Int) ≤ (t.length : Int) := by omega
      go_enter Try.func82, Try.ntmps82
      go_wp2_with fail
      rw [← HW.out]
      go_ret
      exact RV.bool rfl hE0
  · have hd0 : decide ((0 : Int) ≤ p) = false := decide_eq_false hp1
    rw [hd0, Bool.false_and]
    go_enter Try.func82, Try.ntmps82
    go_wp2_with fail
    rw [← HW.out]
    go_ret
    exact RV.bool rfl hE0

/-! ## the table of costs and counts -/
theorem tab_small {l : Lex} (h : LexOk l) {t : List Int} (ht : t.length ≤ 12) {i j : Nat} (hi : i ≤ t.length) (hj : j < l.n) (hb : tabAt l t (tabT l t i) i j < big) : tabAt l t (tabT l t i) i j ≤ 2376 := by
  rcases tab_least h ht i hi j hj with ⟨e, _⟩ | ⟨_, ⟨s, ⟨s', rfl, hs⟩, e⟩, _⟩
  · omega
  · have h1 := cost_bd h hs.inn _ (Nat.le_refl _)
    have h2 := hs.len h.noE
    rw [List.length_take] at h2
    have e2 : costL l (s' ++ [(j : Int)]) = costP l (s' ++ [(j : Int)]) (s' ++ [(j : Int)]).length := rfl
    omega
/-- cost and count of the beginnings that end at i with item j -/
def stV (l : Lex) (t : List Int) (i j : Nat) : Int × Int := (keptC ((tR l t i)[j]?.getD 0) (cntF l t i j), cntF l t i j)
/-- .. while the sum is made over the items before -/
def stK (l : Lex) (t : List Int) (p j k : Nat) : Int × Int := (keptC (stepMin l j (tR l t p) k) (cntK l t p j k), cntK l t p j k)
/-- the row while item j is at work with v -/
def stF (l : Lex) (t : List Int) (i j : Nat) (v : Int × Int) : Nat → Int × Int := fun x => if x < j then stV l t i x else if x = j then v else (0, 0)
def stCells (l : Lex) (t : List Int) (i : Nat) : List Value := prCells l.i.length (stV l t i)
theorem stF_zero (l : Lex) (t : List Int) (i : Nat) : prCells l.i.length (stF l t i 0 (0, 0)) = List.replicate (l.i.length * 2) (.int .i64 0) := by
  rw [← prCells_zero]
  exact prCells_same (fun j _ => by unfold stF; rw [if_neg (by omega)]; split <;> rfl)
theorem stF_next {l : Lex} {t : List Int} {i j : Nat} {v : Int × Int} (h : v = stV l t i j) : prCells l.i.length (stF l t i j v) = prCells l.i.length (stF l t i (j + 1) (0, 0)) := by
  refine prCells_same (fun x _ => ?_)
  unfold stF
  by_cases h1 : x < j
  · rw [if_pos h1, if_pos (by omega)]
  · rw [if_neg h1]
    by_cases h2 : x = j
    · subst h2; rw [if_pos rfl, if_pos (by omega)]; exact h
    · rw [if_neg h2, if_neg (by omega)]; split <;> rfl
theorem stF_all (l : Lex) (t : List Int) (i : Nat) : prCells l.i.length (stF l t i l.i.length (0, 0)) = stCells l t i := prCells_same (fun x hx => by unfold stF; rw [if_pos hx])
theorem stF_at (l : Lex) (t : List Int) (i j : Nat) (v : Int × Int) : stF l t i j v j = v := by unfold stF; rw [if_neg (by omega), if_pos rfl]
theorem stF_up (l : Lex) (t : List Int) (i j : Nat) (v u : Int × Int) (n : Nat) : prCells n (up (stF l t i j v) j u) = prCells n (stF l t i j u) := prCells_same (fun x _ => by
  unfold up stF
  by_cases h : x = j
  · subst h; rw [if_pos rfl, if_neg (by omega), if_pos rfl]
  · rw [if_neg h, if_neg h, if_neg h])
theorem stF_set0 {l : Lex} {t : List Int} {i j : Nat} {v : Int × Int} (hj : j < l.i.length) (a : Int) : (prCells l.i.length (stF l t i j v)).set (j * 2) (.int .i64 a) = prCells l.i.length (stF l t i j (a, v.2)) := by
  rw [prCells_set0 _ a hj, stF_at, stF_up]
theorem stF_set1 {l : Lex} {t : List Int} {i j : Nat} {v : Int × Int} (hj : j < l.i.length) (b : Int) : (prCells l.i.length (stF l t i j v)).set (j * 2 + 1) (.int .i64 b) = prCells l.i.length (stF l t i j (v.1, b)) := by
  rw [prCells_set1 _ b hj, stF_at, stF_up]
theorem stF_get {l : Lex} {t : List Int} {i j : Nat} {v : Int × Int} (hj : j < l.i.length) : (prCells l.i.length (stF l t i j v))[j * 2]? = some (.int .i64 v.1) ∧ (prCells l.i.length (stF l t i j v))[j * 2 + 1]? = some (.int .i64 v.2) := by
  have := prCells_get (stF l t i j v) hj
  rw [stF_at] at this; exact this
/-- the step over one item before -/
theorem stK_step {l : Lex} (h : LexOk l) {t : List Int} (ht : t.length ≤ 12) {p j k : Nat} (hp : p ≤ t.length) (hj : j < l.n) (hk : k < l.n) :
    stK l t p j (k + 1) = if fol l k j < 0 ∨ (stV l t p k).2 = 0 then stK l t p j k else
      ((if (stK l t p j k).2 = 0 ∨ (stV l t p k).1 + fol l k j + cst l j < (stK l t p j k).1 then (stV l t p k).1 + fol l k j + cst l j else (stK l t p j k).1), (stK l t p j k).2 + (stV l t p k).2) := by
  have hrow : ∀ x, x < l.n → (tR l t p)[x]?.getD 0 = tabAt l t (tabT l t p) p x := fun x hx => by unfold tR; exact tabRow_at hx
  have hcf : ∀ x, x < l.n → (0 < cntF l t p x ↔ (tR l t p)[x]?.getD 0 < big) := fun x hx => by rw [hrow x hx]; exact cntF_pos h ht hp hx
  have hbd : ∀ x, x < l.n → 0 ≤ fol l x j → (tR l t p)[x]?.getD 0 < big → (tR l t p)[x]?.getD 0 + fol l x j + cst l j < big := fun x hx _ hb => by
    rw [hrow x hx] at hb ⊢
    have h1 := tab_small h ht hp hx hb
    have h2 := h.fol (a := x) (b := j) hx hj
    have h3 := h.cst (a := j) hj
    unfold big; omega
  have hn0 := cntF_bd h.n8 t (show p ≤ 12 by omega) k
  have hk0 := cntK_bd h.n8 t (show p ≤ 12 by omega) j k
  have hpos := (stepMin_pos h.n8 (show p ≤ 12 by omega) hj hcf hbd k (by omega))
  have hbdk := hbd k hk
  have hcfk := hcf k hk
  have e1 : cntK l t p j (k + 1) = cntK l t p j k + (if 0 ≤ fol l k j then cntF l t p k else 0) := rfl
  have e2 : stepMin l j (tR l t p) (k + 1) = if 0 ≤ fol l k j ∧ (tR l t p)[k]?.getD 0 < big then min (stepMin l j (tR l t p) k) ((tR l t p)[k]?.getD 0 + fol l k j + cst l j) else stepMin l j (tR l t p) k := rfl
  unfold stK stV
  rw [e1, e2]
  clear e1 e2 hcf hbd hrow
  generalize fol l k j = f at *
  generalize cntF l t p k = n at *
  generalize cntK l t p j k = m at *
  generalize (tR l t p)[k]?.getD 0 = r at *
  generalize stepMin l j (tR l t p) k = s at *
  generalize cst l (j : Int) = c at *
  by_cases hf : 0 ≤ f
  · have hf' : ¬ f < 0 := by omega
    by_cases hc : n = 0
    · have hnb : ¬ r < big := fun hb => by have := hcfk.2 hb; omega
      simp [hc, hnb]
    · have hb : r < big := hcfk.1 (by omega)
      have hlt := hbdk hf hb
      have hne : ¬ m + n = 0 := by omega
      simp only [hf, hf', hc, hb, hne, keptC, if_true, if_false, or_self, and_self]
      congr 1
      by_cases h0 : m = 0
      · have : ¬ s < big := fun hh => by have := hpos.1.2 hh; omega
        have := hpos.2
        simp only [h0, true_or, if_true]
        omega
      · simp only [h0, if_false, false_or]
        split <;> omega
  · have hf' : f < 0 := by omega
    simp [hf', hf]
theorem stV_eq {l : Lex} (h : LexOk l) {t : List Int} (ht : t.length ≤ 12) {i j : Nat} (hi : i ≤ t.length) (hj : j < l.i.length) : stV l t i j = if endsAt l t i j then (if i = (wrd l (j : Int)).length then (cst l j, 1) else stK l t (i - (wrd l (j : Int)).length) j l.i.length) else (0, 0) := by
  unfold stV stK
  rw [cntF_eq h.noE hi hj, tR_at hj]
  split
  · rename_i he
    have hle := endsAt_le hi he
    have hw := (h.wo j hj).1
    have hw2 : 1 ≤ (wrd l (j : Int)).length := hw
    split
    · rfl
    · rw [tabT_at l t (by omega)]; rfl
  · rfl
theorem stV_bd {l : Lex} (h : LexOk l) {t : List Int} (ht : t.length ≤ 12) {i j : Nat} (hi : i ≤ t.length) (hj : j < l.i.length) : 0 ≤ (stV l t i j).1 ∧ (stV l t i j).1 ≤ 100000 ∧ 0 ≤ (stV l t i j).2 ∧ (stV l t i j).2 ≤ 68719476736 := by
  have h1 := tabAt_bd h ht (i := i) (j := j) hi hj
  rw [← tabRow_at hj] at h1
  have h2 := cntF_bd h.n8 t (show i ≤ 12 by omega) j
  unfold stV keptC
  have h3 : 0 ≤ (tR l t i)[j]?.getD 0 ∧ (tR l t i)[j]?.getD 0 ≤ 100000 := h1
  refine ⟨?_, ?_, h2.1, h2.2⟩
  · simp only; split <;> omega
  · simp only; split <;> omega
theorem stK_bd {l : Lex} (h : LexOk l) {t : List Int} (ht : t.length ≤ 12) {p j k : Nat} (hp : p ≤ t.length) (hj : j < l.i.length) (hk : k ≤ 8) : (stK l t p j k).1 ≤ 100000 ∧ -100000 ≤ (stK l t p j k).1 ∧ 0 ≤ (stK l t p j k).2 ∧ (stK l t p j k).2 ≤ 549755813888 := by
  have h2 := cntK_bd h.n8 t (show p ≤ 12 by omega) j k
  have h3 := stepMin_big (l := l) (j := j) (row := tR l t p) k
  have h4 : -100000 ≤ stepMin l j (tR l t p) k := by
    clear h2 h3 hk
    induction k with
    | zero => unfold stepMin big; omega
    | succ k ih =>
      unfold stepMin
      split
      · rename_i hc
        have h5 : 0 ≤ (tR l t p)[k]?.getD 0 := by
          by_cases hkn : k < l.i.length
          · have h1 := (tabAt_bd h ht (i := p) (j := k) hp hkn).1
            rw [← tabRow_at hkn] at h1; exact h1
          · have : (tR l t p).length ≤ k := by rw [tR_len]; omega
            rw [List.getElem?_eq_none this]; simp
        have h6 := (h.cst (a := j) hj).1
        have := hc.1
        omega
      · exact ih
  unfold stK keptC
  unfold big at h3
  refine ⟨?_, ?_, h2.1, by simp only; omega⟩
  · simp only; split <;> omega
  · simp only; split <;> omega
def RStep (l : Lex) (t : List Int) (w : World) (e : Ending) (w' : World) : Prop := ∃ A vs, e = .returned (.slice (some ⟨A, 0, none⟩) (t.length + 1) (t.length + 1)) ∧ GnD w' A (t.length + 1) l.i.length 88 92 (fun _ => True) (stCells l t) vs ∧ Ext w w'
theorem elStepR : ElTy Try.prog 89 88 1 24 (.slice none 0 0) := ⟨Try.underlying89, by kernel_rfl, rfl, by omega⟩
theorem elStep : ElTy Try.prog 88 92 2 16 (.agg #[.int .i64 0, .int .i64 0]) := ⟨Try.underlying88, by kernel_rfl, rfl, by omega⟩
theorem madeCells_pr (n : Nat) : (madeCells #[.int .i64 0, .int .i64 0] n).toList = List.replicate n (.int .i64 0) := by
  unfold madeCells
  rw [List.eq_replicate_iff]
  constructor
  · simp
  · intro b hb
    simp only [Array.toList_map, List.mem_map] at hb
    obtain ⟨x, _, rfl⟩ := hb
    have : x % 2 = 0 ∨ x % 2 = 1 := by omega
    rcases this with h | h <;> simp [h]
/-- make of n pairs -/
theorem wpList_make_pr {ops : Array Oper} {rest : List Oper} {o : Oper} {a : Act} {Q : Exit → Act → World → Prop} {W : World} {t e : TypeId} (n : Nat)
    (hT : ElTy Try.prog t e 2 16 (.agg #[.int .i64 0, .int .i64 0])) (hgd : o.guard = none) (l c : Operand) (ho : o.op = .makeSlice t l c) (hl : a.eval l = .int .i64 (n : Int)) (hc : a.eval c = .int .i64 (n : Int)) (hn : n ≤ 100000)
    (h : ∀ g w', W.heap.size ≤ g → Blk w' g e (List.replicate (n * 2) (.int .i64 0)) → Ext W w' → g < w'.heap.size → wpList Try.prog ops Q rest (a.put o.dst (.slice (some ⟨g, 0, none⟩) n n)) w') : wpList Try.prog ops Q (o :: rest) a W := by
  obtain ⟨i0, hi, hz0, hz1, hz2⟩ := info_parts hT.info
  refine wpList_plain hgd fun K hK' => ?_
  have hrun := run_make (P := Try.prog) W t e i0 _ hT.ht hi hz0 .i64 .i64 (n : Int) (n : Int) (by omega) (by omega) (by rw [hz2]; omega) (by omega)
  simp only [Int.toNat_natCast] at hrun
  rw [hz1] at hrun
  unfold Oper.wp
  simp [execOp, ho, hl, hc, hrun, Result.andThen]
  refine hK' _ _ (h _ _ (Nat.le_refl _) ?_ (Ext.alloc _ _) (by simp))
  have := Blk.alloc W (madeCells #[.int .i64 0, .int .i64 0] (n * 2)) e
  rw [madeCells_pr] at this
  exact this

set_option maxHeartbeats 8000000 in
set_option maxRecDepth 100000 in
theorem rtable_c (iv fv tv : Value) (l : Lex) (t : List Int) (w : World) (h : LexR w iv fv l) (hl : LexOk l) (ht : Ints w tv t) (ht12 : t.length ≤ 12) : Calls Try.prog 80 #[.agg #[iv, fv], tv] w (RStep l t w) := by
  obtain ⟨wA, hwA⟩ : ∃ wA, wA = w.alloc (.cells #[iv, fv] 25) := ⟨_, rfl⟩
  have hE0 : Ext w wA := by rw [hwA]; exact Ext.alloc _ _
  have k0 : ∀ W, Ext wA W → W.cell? ⟨w.heap.size, 0, none⟩ = some iv := by rw [hwA]; exact kept_alloc w _ _ rfl
  have k1 : ∀ W, Ext wA W → W.cell? ⟨w.heap.size, 1, none⟩ = some fv := by rw [hwA]; exact kept_alloc w _ _ rfl
  have H0 : Ext wA wA := Ext.refl _
  have HR := Lib.hid (h.ext hE0)
  obtain ⟨ai, ci, rfl, hli, hmi, HI⟩ := (h.ext hE0).i.open_
  obtain ⟨af, cf, rfl, hlf, hmf, HF⟩ := Rows.open_ (h.ext hE0).f
  have HT := Lib.hid (ht.ext hE0)
  obtain ⟨at_, ct, rfl, hlt0, hmt0, HTO⟩ := (ht.ext hE0).open_
  have HW := Lib.hid hwA; clear hwA h ht
  have HL := Lib.hid hl
  have hn8 : l.i.length ≤ 8 := hl.n8
  have hn1 : 1 ≤ l.i.length := hl.n1
  clear hl
  have hzA := hE0.size
  go_enter Try.func80, Try.ntmps80
  go_wp2_with (at_make; refine wpList_make_blkL (t.length + 1) elStepR rfl rfl _ _ rfl rfl rfl (by simp) (by omega) (by omega) ?_; intro A w2 hA hblk hx2 hA2; rw [← HW.out] at hA hx2)
  have hgd : GnD w2 A (t.length + 1) l.i.length 88 92 (fun j => j < 0) (stCells l t) _ := GnD.new hblk (fun i h1 h2 => by omega)
  clear hblk hA2
  go_loopg [6] (t.length + 1) (fun z i wr => ∃ (k : Nat) (vs : List Value), k ≤ t.length + 1 ∧ t.length + 1 ≤ k + z ∧ i = .int .i64 k ∧ Ext wA wr ∧ GnD wr A (t.length + 1) l.i.length 88 92 (fun j => j < k) (stCells l t) vs)
  case atStart => exact ⟨0, _, by omega, by omega, rfl, hx2, hgd⟩
  case round =>
    clear hx2 hgd
    obtain ⟨i, vs, hiN0, hiz, rfl, hEr, hg⟩ := hrel
    obtain ⟨g1, rfl⟩ : ∃ g : Nat, g = gk := ⟨_, rfl⟩
    by_cases hiN : i < t.length + 1
    · obtain ⟨vi, hvi⟩ : ∃ v, vs[i]? = some v := ⟨_, List.getElem?_eq_getElem (by rw [hg.len]; exact hiN)⟩
      have hAs := hg.blk.lt
      have HVI := Lib.hid hvi; clear hvi
      have hiI : (i : Int) ≤ (t.length : Int) := by omega
      have hiJ : (i : Int) < (t.length : Int) + 1 := by omega
      go_wp2_with (at_make; refine wpList_make_pr l.i.length elStep rfl _ _ rfl rfl rfl (by omega) ?_; intro g w3 hg3 hblk3 hx3 hg3l; have hRc := (hg.blk.ext hx3).cell HVI.out; have hRf := (hg.blk.ext hx3).frozen i)
      obtain ⟨hR, hbR⟩ := GnD.begin (g := g) hg (by decide) hiN hg3 hx3 hblk3
      have hE4 : Ext wA (w3.setCell ⟨A, i, none⟩ (.slice (some ⟨g, 0, none⟩) l.i.length l.i.length)) := (hEr.trans hx3).setCell hA _ _
      have hgA : wA.heap.size ≤ g := by have := hEr.size; omega
      rw [← stF_zero l t i] at hbR
      clear hg hblk3 hx3 hRc hRf hg3 hg3l
      generalize hvs2 : vs.set i (.slice (some ⟨g, 0, none⟩) l.i.length l.i.length) = vs2 at *
      clear hvs2
      go_loopg [7] l.i.length (fun z jj wr => ∃ j : Nat, j ≤ l.i.length ∧ l.i.length ≤ j + z ∧ jj = .int .i64 j ∧ Ext wA wr ∧ GnR wr A (t.length + 1) 88 92 (fun j => j < i) (stCells l t) vs2 i g l.i.length ∧ Blk wr g 92 (prCells l.i.length (stF l t i j (0, 0))))
      case atStart => exact ⟨0, by omega, by omega, rfl, hE4, hR, hbR⟩
      case round =>
        clear hE4 hR hbR hEr
        obtain ⟨j, hj, hjz, rfl, hEr, hR, hbR⟩ := hrel
        obtain ⟨g2, rfl⟩ : ∃ g : Nat, g = gk := ⟨_, rfl⟩
        obtain ⟨W2, rfl⟩ : ∃ W : World, W = wr := ⟨_, rfl⟩
        by_cases hlt : j < l.i.length
        · obtain ⟨bi, oi, rfl, u, hc0, hu, hc1, hc2⟩ := HI.out j hlt
          have hjI : (j : Int) < (l.i.length : Int) := by omega
          have HC2 := Lib.hid hc2
          replace hc0 := hEr.keep hc0
          clear hc1 hc2
          have HSV := Lib.hid (stV_eq HL.out ht12 (i := i) (j := j) (by omega) hlt)
          have HSN := Lib.hid (fun v h => stF_next (l := l) (t := t) (i := i) (j := j) (v := v) h)
          have hxc := HL.out.cst (a := j) hlt
          have HCX : Hid (cst l (j : Int) = (itm l.i j).c) := Lib.hid rfl
          rw [HCX.out] at hxc HSV
          have HCM := Lib.hid (fun W (hW : Ext wA W) => by
            have := comes_c _ _ _ l t ((i : Int) - (wrd l (j : Int)).length) j W (HR.out.ext hW) HL.out (HT.out.ext hW) hlt (by have := (HL.out.wo j hlt).2; have : (wrd l (j : Int)).length ≤ 6 := this; omega) (by omega) (by omega)
            rw [comesB_ends (by omega)] at this; exact this)
          have HEL := Lib.hid (fun h => endsAt_le (l := l) (t := t) (i := i) (j := j) (by omega) h)
          have hL1 : 1 ≤ (wrd l (j : Int)).length := (HL.out.wo j hlt).1
          have hL6 : (wrd l (j : Int)).length ≤ 6 := (HL.out.wo j hlt).2
          have HSTEP := Lib.hid (fun p k hp hk => stK_step HL.out ht12 (p := p) (j := j) (k := k) hp hlt hk)
          rw [HCX.out] at HSTEP
          obtain ⟨au, cu, rfl, hlu, hmu, _⟩ := hu.open_
          have hwl : (itm l.i j).w.length = (wrd l (j : Int)).length := rfl
          rw [hwl] at hc0 hlu
          clear hu hwl
          generalize hLL : (wrd l (j : Int)).length = L at *
          have HLL := Lib.hid hLL; clear hLL
          generalize (itm l.i j).c = xc at *
          have hwi : IntKind.i64.wrap ((i : Int) - (L : Int)) = (i : Int) - (L : Int) := IntWalk.i64_in _ (by omega)
          generalize hbe : endsAt l t i j = b at *
          have HRR := Lib.hid hR; have HBB := Lib.hid hbR
          clear hR hbR hbe
          go_wp2_with fail
          refine (HCM.out W2 hEr).mono ?_; rintro e w5 ⟨rfl, hx5⟩
          have hX5 := hEr.trans hx5
          have HR5 := Lib.hid (HRR.out.ext hx5); have HB5 := Lib.hid (HBB.out.ext hx5)
          clear hc0 hx5
          cases b
          · have HN := Lib.hid (HSN.out (0, 0) (by rw [HSV.out]; rfl))
            go_wp2_with fail
            go_roundg (g2-1)
            case measure => omega
            case rel => exact ⟨j+1, by omega, by omega, by go_num, hX5, HR5.out, by rw [← HN.out]; exact HB5.out⟩
          · simp only [if_true] at HSV
            have hLi : L ≤ i := HEL.out rfl
            by_cases hiL : i = L
            · have hd0 : (((i : Int) - (L : Int)) == 0) = true := by simp; omega
              rw [if_pos hiL] at HSV
              have HN := Lib.hid (HSN.out (xc, 1) HSV.out.symm)
              have hs5 : ∀ s : Later w5, Ext wA s.w := fun s => hX5.trans s.ext
              have hrc := HR5.out.cell
              have hcc := hX5.keep HC2.out
              have q0 := fun s : Later w5 => s.ext.keep hrc
              have q1 := fun s : Later w5 => s.ext.keep hcc
              clear hiL
              go_wp2_with fail
              refine wp_region_later_tail 13 (by kernel_rfl) (by kernel_rfl) ?_
              simp only [List.take_succ_cons, List.take_zero, List.drop_succ_cons, List.drop_zero]
              repeat (go_big_quiet_step (fail))
              refine wpQuiet_nil ?_
              intro w6 hw'
              obtain ⟨⟨_, hx6⟩, rfl⟩ := hw'
              clear q0 q1 hs5 hrc hcc
              have hb6 := HB5.out.ext hx6
              have hg0 := hb6.cell (stF_get hlt).1
              have hg1 := hb6.cell (stF_get hlt).2
              have hf0 := hb6.frozen (j * 2)
              have hf1 := hb6.frozen (j * 2 + 1)
              have hb7 := (hb6.set (j * 2) (.int .i64 xc)).set (j * 2 + 1) (.int .i64 1)
              rw [stF_set0 hlt, stF_set1 hlt] at hb7
              have HB7 := Lib.hid hb7
              have HR7 := Lib.hid (((HR5.out.ext hx6).set (j * 2) (.int .i64 xc)).set (j * 2 + 1) (.int .i64 1))
              have hX7 := ((hX5.trans hx6).setCell hgA (j * 2) (.int .i64 xc)).setCell hgA (j * 2 + 1) (.int .i64 1)
              clear hb6 hb7
              go_wp2_with fail
              go_roundg (g2-1)
              case measure => omega
              case rel => exact ⟨j+1, by omega, by omega, by go_num, hX7, HR7.out, by rw [← HN.out]; exact HB7.out⟩
            · obtain ⟨p, hp⟩ : ∃ p, i = p + L := ⟨i - L, by omega⟩
              have hp0 : 0 < p := by omega
              have hd0 : (((i : Int) - (L : Int)) == 0) = false := by simp; omega
              have hfp : (i : Int) - (L : Int) = (p : Int) := by omega
              rw [if_neg hiL, show i - L = p by omega] at HSV
              have HN := Lib.hid (HSN.out (stK l t p j l.i.length) HSV.out.symm)
              have hpN : p < t.length + 1 := by omega
              have hpi : p < i := by omega
              have hpt : p ≤ t.length := by omega
              have HPP := Lib.hid hp
              have hr0 : Blk w5 g 92 (prCells l.i.length (stF l t i j (stK l t p j 0))) := HB5.out
              have hR5 := HR5.out
              clear hiL hp HSV HB5 HR5
              rw [hfp] at hd0
              rw [hfp]
              clear hfp
              go_wp2_with fail
              go_loopg [9] l.i.length (fun z kk wr => ∃ k : Nat, k ≤ l.i.length ∧ l.i.length ≤ k + z ∧ kk = .int .i64 k ∧ Ext wA wr ∧ GnR wr A (t.length + 1) 88 92 (fun j => j < i) (stCells l t) vs2 i g l.i.length ∧ Blk wr g 92 (prCells l.i.length (stF l t i j (stK l t p j k))))
              case atStart => exact ⟨0, by omega, by omega, rfl, hX5, hR5, hr0⟩
              case round =>
                clear hX5 hR5 hr0
                obtain ⟨k, hk, hkz, rfl, hX7, hR7, hB7⟩ := hrel
                by_cases hkl : k < l.i.length
                · obtain ⟨gp, hgp, hvp, hbp⟩ := hR7.row p hpN hpi (by omega)
                  have hcA := hR7.blk.cell hvp
                  have hcp0 := hbp.cell (prCells_get (stV l t p) hkl).1
                  have hcp1 := hbp.cell (prCells_get (stV l t p) hkl).2
                  have HFC := Lib.hid (follow_c _ _ l k j wr (HR.out.ext hX7) HL.out hkl hlt)
                  have hfb := HL.out.fol (a := k) (b := j) hkl hlt
                  have hvb := stV_bd HL.out ht12 (i := p) (j := k) hpt hkl
                  have hkb := stK_bd HL.out ht12 (p := p) (j := j) (k := k) hpt hlt (by omega)
                  have hSK := HSTEP.out p k hpt hkl
                  have hkI : (k : Int) < (l.i.length : Int) := by omega
                  generalize fol l (k : Int) (j : Int) = f at *
                  obtain ⟨a, b, hv⟩ : ∃ a b, stV l t p k = (a, b) := ⟨_, _, rfl⟩
                  obtain ⟨c1, c2, hc⟩ : ∃ a b, stK l t p j k = (a, b) := ⟨_, _, rfl⟩
                  rw [hv] at hcp0 hcp1 hvb hSK
                  rw [hc] at hB7 hkb hSK
                  simp only at hcp0 hcp1 hvb hkb hSK
                  obtain ⟨ha0, ha1, hb0, hb1⟩ := hvb
                  obtain ⟨hc10, hc11, hc20, hc21⟩ := hkb
                  obtain ⟨hf0, hf1⟩ := hfb
                  obtain ⟨hx0, hx1⟩ := hxc
                  have HSK := Lib.hid hSK; have HR7 := Lib.hid hR7; have HB7 := Lib.hid hB7
                  have HVV := Lib.hid hv; have HCC := Lib.hid hc
                  clear hSK hR7 hB7 hv hc hvp hbp
                  go_wp2_with fail
                  refine HFC.out.mono ?_; rintro e w8 ⟨rfl, hx8⟩
                  have hX8 := hX7.trans hx8
                  replace hcA := hx8.keep hcA
                  replace hcp0 := hx8.keep hcp0
                  replace hcp1 := hx8.keep hcp1
                  go_upto_region 18 with fail
                  have hgr : g < w8.heap.size := (HB7.out.ext hx8).lt
                  obtain ⟨wB, hwB⟩ : ∃ wB, wB = w8.alloc (.cells #[.int .i64 a, .int .i64 b] 92) := ⟨_, rfl⟩
                  have hEB : Ext w8 wB := by rw [hwB]; exact Ext.alloc _ _
                  have HH : Hid (Blk wB w8.heap.size 92 [.int .i64 a, .int .i64 b]) := by rw [hwB]; exact Lib.hid (Blk.alloc w8 _ _)
                  rw [← hwB]
                  clear hwB hcA hcp0 hcp1
                  have hXB := hX8.trans hEB
                  have HRB := Lib.hid (HR7.out.ext (hx8.trans hEB)); have HBB := Lib.hid (HB7.out.ext (hx8.trans hEB))
                  have hgH : g ≠ w8.heap.size := by omega
                  clear HR7 HB7 hx8 hEB
                  have t0 := HH.out.cell (i := 0) rfl
                  have t1 := HH.out.cell (i := 1) rfl
                  by_cases hcond : f < 0 ∨ b = 0
                  · have HNK : Hid (stK l t p j (k + 1) = (c1, c2)) := Lib.hid (by rw [HSK.out, if_pos hcond])
                    by_cases hff : f < 0
                    · have hd1 : decide (f < 0) = true := decide_eq_true hff
                      clear hcond
                      go_wp2_with fail
                      go_roundg (gk-1)
                      case measure => omega
                      case rel => exact ⟨k+1, by omega, by omega, by go_num, hXB, HRB.out, by rw [HNK.out]; exact HBB.out⟩
                    · have hd1 : decide (f < 0) = false := decide_eq_false hff
                      have hd2 : (b == 0) = true := by simp; exact hcond.resolve_left hff
                      clear hcond
                      go_wp2_with fail
                      go_roundg (gk-1)
                      case measure => omega
                      case rel => exact ⟨k+1, by omega, by omega, by go_num, hXB, HRB.out, by rw [HNK.out]; exact HBB.out⟩
                  · have hff : ¬ f < 0 := fun h => hcond (Or.inl h)
                    have hbb : ¬ b = 0 := fun h => hcond (Or.inr h)
                    have hd1 : decide (f < 0) = false := decide_eq_false hff
                    have hd2 : (b == 0) = false := by simpa using hbb
                    have hw1 : IntKind.i64.wrap (a + f) = a + f := IntWalk.i64_in _ (by omega)
                    have hw2 : IntKind.i64.wrap (a + f + xc) = a + f + xc := IntWalk.i64_in _ (by omega)
                    have hw3 : IntKind.i64.wrap (c2 + b) = c2 + b := IntWalk.i64_in _ (by omega)
                    have hcc := hXB.keep HC2.out
                    have hs5 : ∀ s : Later wB, Ext wA s.w := fun s => hXB.trans s.ext
                    have q0 := fun s : Later wB => s.ext.keep t0
                    have q1 := fun s : Later wB => s.ext.keep hcc
                    go_wp2_with fail
                    refine wp_region_later (by kernel_rfl) (by kernel_rfl) ?_
                    repeat (go_big_quiet_step (fail))
                    refine wpQuiet_nil ?_
                    intro w10 hw'
                    obtain ⟨⟨_, hx10⟩, rfl⟩ := hw'
                    clear q0 q1 hs5 t0 t1 hcc
                    have hX10 := hXB.trans hx10
                    have HR10 := HRB; have HB10 := HBB
                    have hcA := (HRB.out.ext hx10).cell
                    have hg0 := (HBB.out.ext hx10).cell (stF_get hlt).1
                    have hg1 := (HBB.out.ext hx10).cell (stF_get hlt).2
                    have hf0 := (HBB.out.ext hx10).frozen (j * 2)
                    by_cases hz : c2 = 0
                    · have hd3 : (c2 == 0) = true := by simp [hz]
                      have HNK : Hid (stK l t p j (k + 1) = (a + f + xc, c2 + b)) := Lib.hid (by rw [HSK.out, if_neg hcond, if_pos (Or.inl hz)])
                      clear hz hcond
                      go_wp2_with fail
                      have hb10 := (HB10.out.ext hx10).set (j * 2) (.int .i64 (a + f + xc))
                      rw [stF_set0 hlt] at hb10
                      have hR11 := (HR10.out.ext hx10).set (j * 2) (.int .i64 (a + f + xc))
                      have hH11 := (HH.out.ext hx10).other (c := g) hgH (j * 2) (.int .i64 (a + f + xc))
                      have hX11 := hX10.setCell hgA (j * 2) (.int .i64 (a + f + xc))
                      clear hg0 hg1 hcA hf0
                      generalize w10.setCell ⟨g, j * 2, none⟩ (.int .i64 (a + f + xc)) = w11 at *
                      have hs9 : ∀ s : Later w11, Ext wA s.w := fun s => hX11.trans s.ext
                      have p0 := (hR11).cell
                      have p1 := (hb10).cell (stF_get hlt).2
                      have p2 := hH11.cell (i := 1) rfl
                      have q0 := fun s : Later w11 => s.ext.keep p0
                      have q1 := fun s : Later w11 => s.ext.keep p1
                      have q2 := fun s : Later w11 => s.ext.keep p2
                      have HR9 := Lib.hid hR11; have HB9 := Lib.hid hb10
                      clear p0 p1 p2 hR11 hb10 hH11
                      go_wp2_with fail
                      refine wp_region_later_tail 13 (by kernel_rfl) (by kernel_rfl) ?_
                      simp only [List.take_succ_cons, List.take_zero, List.drop_succ_cons, List.drop_zero]
                      repeat (go_big_quiet_step (fail))
                      refine wpQuiet_nil ?_
                      intro wE hw'
                      obtain ⟨⟨_, hxE⟩, rfl⟩ := hw'
                      clear q0 q1 q2 hs9
                      have hbE := HB9.out.ext hxE
                      have hgE := hbE.cell (stF_get hlt).2
                      have hfE := hbE.frozen (j * 2 + 1)
                      have hbF := hbE.set (j * 2 + 1) (.int .i64 (c2 + b))
                      rw [stF_set1 hlt] at hbF
                      have HBF := Lib.hid hbF
                      have HRF := Lib.hid ((HR9.out.ext hxE).set (j * 2 + 1) (.int .i64 (c2 + b)))
                      have hXF := (hX11.trans hxE).setCell hgA (j * 2 + 1) (.int .i64 (c2 + b))
                      clear hbE hbF
                      go_wp2_with fail
                      go_roundg (gk-1)
                      case measure => omega
                      case rel => exact ⟨k+1, by omega, by omega, by go_num, hXF, HRF.out, by rw [HNK.out]; exact HBF.out⟩
                    · have hd3 : (c2 == 0) = false := by simpa using hz
                      by_cases hm : a + f + xc < c1
                      · have hd4 : decide (a + f + xc < c1) = true := decide_eq_true hm
                        have HNK : Hid (stK l t p j (k + 1) = (a + f + xc, c2 + b)) := Lib.hid (by rw [HSK.out, if_neg hcond, if_pos (Or.inr hm)])
                        clear hz hm hcond
                        go_wp2_with fail
                        have hb10 := (HB10.out.ext hx10).set (j * 2) (.int .i64 (a + f + xc))
                        rw [stF_set0 hlt] at hb10
                        have hR11 := (HR10.out.ext hx10).set (j * 2) (.int .i64 (a + f + xc))
                        have hH11 := (HH.out.ext hx10).other (c := g) hgH (j * 2) (.int .i64 (a + f + xc))
                        have hX11 := hX10.setCell hgA (j * 2) (.int .i64 (a + f + xc))
                        clear hg0 hg1 hcA hf0
                        generalize w10.setCell ⟨g, j * 2, none⟩ (.int .i64 (a + f + xc)) = w11 at *
                        have hs9 : ∀ s : Later w11, Ext wA s.w := fun s => hX11.trans s.ext
                        have p0 := (hR11).cell
                        have p1 := (hb10).cell (stF_get hlt).2
                        have p2 := hH11.cell (i := 1) rfl
                        have q0 := fun s : Later w11 => s.ext.keep p0
                        have q1 := fun s : Later w11 => s.ext.keep p1
                        have q2 := fun s : Later w11 => s.ext.keep p2
                        have HR9 := Lib.hid hR11; have HB9 := Lib.hid hb10
                        clear p0 p1 p2 hR11 hb10 hH11
                        go_wp2_with fail
                        refine wp_region_later_tail 13 (by kernel_rfl) (by kernel_rfl) ?_
                        simp only [List.take_succ_cons, List.take_zero, List.drop_succ_cons, List.drop_zero]
                        repeat (go_big_quiet_step (fail))
                        refine wpQuiet_nil ?_
                        intro wE hw'
                        obtain ⟨⟨_, hxE⟩, rfl⟩ := hw'
                        clear q0 q1 q2 hs9
                        have hbE := HB9.out.ext hxE
                        have hgE := hbE.cell (stF_get hlt).2
                        have hfE := hbE.frozen (j * 2 + 1)
                        have hbF := hbE.set (j * 2 + 1) (.int .i64 (c2 + b))
                        rw [stF_set1 hlt] at hbF
                        have HBF := Lib.hid hbF
                        have HRF := Lib.hid ((HR9.out.ext hxE).set (j * 2 + 1) (.int .i64 (c2 + b)))
                        have hXF := (hX11.trans hxE).setCell hgA (j * 2 + 1) (.int .i64 (c2 + b))
                        clear hbE hbF
                        go_wp2_with fail
                        go_roundg (gk-1)
                        case measure => omega
                        case rel => exact ⟨k+1, by omega, by omega, by go_num, hXF, HRF.out, by rw [HNK.out]; exact HBF.out⟩
                      · have hd4 : decide (a + f + xc < c1) = false := decide_eq_false hm
                        have HNK : Hid (stK l t p j (k + 1) = (c1, c2 + b)) := Lib.hid (by rw [HSK.out, if_neg hcond, if_neg (fun h => h.elim hz hm)])
                        go_wp2_with fail
                        have hb11 := HB10.out.ext hx10
                        have hR11 := HR10.out.ext hx10
                        have hH11 := HH.out.ext hx10
                        have hX11 := hX10
                        clear hg0 hg1 hcA hf0
                        clear hz hm hcond
                        have hs9 : ∀ s : Later w10, Ext wA s.w := fun s => hX11.trans s.ext
                        have p0 := (hR11).cell
                        have p1 := (hb11).cell (stF_get hlt).2
                        have p2 := hH11.cell (i := 1) rfl
                        have q0 := fun s : Later w10 => s.ext.keep p0
                        have q1 := fun s : Later w10 => s.ext.keep p1
                        have q2 := fun s : Later w10 => s.ext.keep p2
                        have HR9 := Lib.hid hR11; have HB9 := Lib.hid hb11
                        clear p0 p1 p2 hR11 hb11 hH11
                        go_wp2_with fail
                        refine wp_region_later_tail 13 (by kernel_rfl) (by kernel_rfl) ?_
                        simp only [List.take_succ_cons, List.take_zero, List.drop_succ_cons, List.drop_zero]
                        repeat (go_big_quiet_step (fail))
                        refine wpQuiet_nil ?_
                        intro wE hw'
                        obtain ⟨⟨_, hxE⟩, rfl⟩ := hw'
                        clear q0 q1 q2 hs9
                        have hbE := HB9.out.ext hxE
                        have hgE := hbE.cell (stF_get hlt).2
                        have hfE := hbE.frozen (j * 2 + 1)
                        have hbF := hbE.set (j * 2 + 1) (.int .i64 (c2 + b))
                        rw [stF_set1 hlt] at hbF
                        have HBF := Lib.hid hbF
                        have HRF := Lib.hid ((HR9.out.ext hxE).set (j * 2 + 1) (.int .i64 (c2 + b)))
                        have hXF := (hX11.trans hxE).setCell hgA (j * 2 + 1) (.int .i64 (c2 + b))
                        clear hbE hbF
                        go_wp2_with fail
                        go_roundg (gk-1)
                        case measure => omega
                        case rel => exact ⟨k+1, by omega, by omega, by go_num, hXF, HRF.out, by rw [HNK.out]; exact HBF.out⟩
                · have hkn : k = l.i.length := by omega
                  subst hkn
                  rw [HN.out] at hB7
                  go_wp2_with fail
                  go_roundg (g2-1)
                  case measure => omega
                  case rel => exact ⟨j+1, by omega, by omega, by go_num, hX7, hR7, hB7⟩
        · have hjl : j = l.i.length := by omega
          subst hjl
          rw [stF_all] at hbR
          have HGD : Hid (GnD W2 A (t.length + 1) l.i.length 88 92 (fun j => j < i + 1) (stCells l t) vs2) := Lib.hid (hR.done hbR (fun j hj => by
            by_cases e : j = i
            · exact .inr e
            · exact .inl (by show j < i; have : j < i + 1 := hj; omega)))
          clear hR hbR
          go_wp2_with fail
          go_roundg (g1-1)
          case measure => omega
          case rel => exact ⟨i+1, vs2, by omega, by omega, by go_num, hEr, HGD.out⟩
    · have hiN2 : i = t.length + 1 := by omega
      subst hiN2
      go_wp2_with fail
      go_ret
      exact ⟨A, vs, rfl, ⟨hg.len, hg.blk, fun j h1 _ => hg.row j h1 h1⟩, hE0.trans hEr⟩

end Go.Proofs.Ytgpggmcjggpmpaa
