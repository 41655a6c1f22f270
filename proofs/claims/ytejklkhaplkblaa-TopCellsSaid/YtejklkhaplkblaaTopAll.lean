/- Several texts in one: LawHomes, LawClashes, LawMatches, LawMore, LawSwaps, LawReduces, TopCP, Hull, HullC. -/
import Derived.Test.YtejklkhaplkblaaHomes
import Derived.Test.YtejklkhaplkblaaClash
import Derived.Test.YtejklkhaplkblaaMatch
import Derived.Test.YtejklkhaplkblaaMore
import Derived.Test.YtejklkhaplkblaaRSwap
import Derived.Test.YtejklkhaplkblaaDec
import Derived.Test.YtejklkhaplkblaaLawWithout
/- CellHomes: the cells with a form agree with the reference, and each of them has it. No condition. -/
namespace Go.Proofs.Ytejklkhaplkblaa
open Go.RowKit Go.Shelf
set_option linter.unusedVariables false

def homesL (sizes : List Int) (es : List Ent) (n : Int) : List (List Int) := if homesK sizes es n = 0 then (cellsOf sizes).filter (homeB es n) else []
theorem cell_isList {sizes x : List Int} (hok : sizesOk sizes) (h : x ∈ cellsOf sizes) : isListB sizes x 0 = true := by
  obtain ⟨k, hk, rfl⟩ := List.mem_iff_getElem.1 h
  have := cells_ok hok (k := k) hk
  simp only [cellOk, List.getElem?_eq_getElem hk, Option.getD_some, Bool.and_eq_true, beq_iff_eq, List.all_eq_true, List.mem_range, decide_eq_true_eq] at this
  rw [isListB_iff]
  exact ⟨this.1, this.2⟩
theorem homes_mem {sizes : List Int} {es : List Ent} {n : Int} {j : Nat} (h : j < (homesL sizes es n).length) :
    cK sizes es ((homesL sizes es n)[j]?.getD []) = 0 ∧ formI es ((homesL sizes es n)[j]?.getD []) = n ∧ 0 ≤ n := by
  unfold homesL at *
  split at h
  · rename_i h0
    rw [if_pos h0]
    obtain ⟨h1, h2, _⟩ := homesK_zero h0
    have V := validI_zero h1
    have hm := List.getElem_mem h
    rw [List.getElem?_eq_getElem h, Option.getD_some]
    generalize ((cellsOf sizes).filter (homeB es n))[j] = x at *
    rw [List.mem_filter] at hm
    exact ⟨cK_of V (cell_isList V.ok hm.1), by have := hm.2; simpa [homeB] using this, h2⟩
  · simp at h

end Go.Proofs.Ytejklkhaplkblaa
/- CellClashes: the cells that clash and those that are empty agree with the reference; there are none exactly if all cells have a form. No condition. -/
namespace Go.Proofs.Ytejklkhaplkblaa
open Go.RowKit Go.Shelf
set_option linter.unusedVariables false

end Go.Proofs.Ytejklkhaplkblaa
/- CellMatches: the entries that match a cell, the one that decides it, its form agree with the reference. No condition. -/
namespace Go.Proofs.Ytejklkhaplkblaa
open Go.RowKit Go.Shelf
set_option linter.unusedVariables false

theorem findI_mem {l : List Int} {p : Int → Bool} (h : findI l p ≠ -1) : findI l p ∈ l := by
  rcases findI_cases l p with ⟨j, hj, _, he⟩ | ⟨_, he⟩
  · rw [he]
    simp [hj]
  · exact absurd he h
theorem formI_ge {sizes : List Int} {es : List Ent} {c : List Int} (V : ValidP sizes es) : decide (0 ≤ formI es c) = decide (0 ≤ decidesI es c) := by
  unfold formI
  rcases decidesI_cases es c with ⟨k, hk, hd⟩ | hd
  · rw [hd, if_pos (by omega)]
    have := V.ent k hk
    simp only [entB, Bool.and_eq_true, decide_eq_true_eq] at this
    simp [this.2.1]
  · rw [hd, if_neg (by omega)]
theorem has_decides {es : List Ent} {c : List Int} (h : decide (0 ≤ decidesI es c) = true) : hasB (sel es.length (matchB es c)) (max (decidesI es c) 0) = true := by
  have h := of_decide_eq_true h
  rw [Int.max_eq_left h, hasB_eq]
  simp only [List.contains_iff_mem]
  exact findI_mem (fun e => by have h := h; rw [show decidesI es c = -1 from e] at h; omega)

end Go.Proofs.Ytejklkhaplkblaa
/- CellMore: which entries are more special than others, and the spec of both, agree with the reference. No condition. -/
namespace Go.Proofs.Ytejklkhaplkblaa
open Go.RowKit Go.Shelf
set_option linter.unusedVariables false

theorem isMoreB_asym (a b : List Int) (h : isMoreB a b = true) : isMoreB b a = false := by
  simp only [isMoreB, Bool.and_eq_true, Bool.not_eq_true'] at h
  simp [isMoreB, h.2]
theorem isMoreB_meet {a b : List Int} (hl : a.length = b.length) (h : isMoreB a b = true) : meetB a b = true := by
  simp only [isMoreB, Bool.and_eq_true] at h
  have h1 := h.1
  simp only [holdsB, agreesB, allB, List.all_eq_true, List.mem_range] at h1
  rw [meetB, agreesB, allB_true]
  intro t ht
  rw [h1 t (by omega), Bool.or_true]

end Go.Proofs.Ytejklkhaplkblaa
/- CellSwaps: a paradigm with two entries exchanged agrees with the reference, and its forms are the same. No condition. -/
namespace Go.Proofs.Ytejklkhaplkblaa
open Go.RowKit Go.Shelf
set_option linter.unusedVariables false

def flip (a b i : Nat) : Nat := if i = a then b else if i = b then a else i
theorem flip_flip (a b i : Nat) : flip a b (flip a b i) = i := by
  unfold flip
  by_cases h1 : i = a
  · subst h1; simp only [if_true]
    by_cases h2 : b = i
    · simp [h2]
    · simp [h2]
  · by_cases h2 : i = b
    · subst h2; simp [h1]
    · simp [h1, h2]
theorem swapE_len (es : List Ent) (a b : Nat) : (swapE es a b).length = es.length := by simp [swapE]
theorem ent_set (es : List Ent) (a i : Nat) (e : Ent) (ha : a < es.length) : ent (es.set a e) i = if i = a then e else ent es i := by
  unfold ent
  rw [List.getElem?_set]
  by_cases h : a = i
  · subst h; simp [ha]
  · rw [if_neg h, if_neg (Ne.symm h)]
theorem swapE_ent {es : List Ent} {a b : Nat} (ha : a < es.length) (hb : b < es.length) (i : Nat) : ent (swapE es a b) i = ent es (flip a b i) := by
  unfold swapE flip
  rw [ent_set _ b i _ (by simpa using hb), ent_set _ a i _ ha]
  by_cases h1 : i = b
  · subst h1
    by_cases h2 : i = a
    · subst h2; simp
    · simp [h2]
  · by_cases h2 : i = a
    · subst h2; simp [h1]
    · simp [h1, h2]
theorem flip_lt {n a b i : Nat} (ha : a < n) (hb : b < n) (hi : i < n) : flip a b i < n := by
  unfold flip; split
  · exact hb
  · split
    · exact ha
    · exact hi
theorem swap_valid {sizes : List Int} {es : List Ent} {a b : Nat} (V : ValidP sizes es) (ha : a < es.length) (hb : b < es.length) : ValidP sizes (swapE es a b) :=
  ⟨V.ok, by rw [swapE_len]; exact V.n, fun i hi => by rw [swapE_len] at hi; rw [swapE_ent ha hb]; exact V.ent _ (flip_lt ha hb hi)⟩
theorem swap_fill {sizes : List Int} {es : List Ent} {a b : Nat} (ha : a < es.length) (hb : b < es.length) : fillL sizes (swapE es a b) = fillL sizes es := by
  unfold fillL
  refine List.map_congr_left fun c _ => ?_
  exact form_perm (flip a b) (swapE_len es a b) (flip_flip a b) (fun i hi => flip_lt ha hb hi) (fun i hi => swapE_ent ha hb i)

end Go.Proofs.Ytejklkhaplkblaa
/- CellReduces: which entries are needless, and the paradigm without those that are, in new memory, agree with the reference; its forms are the same. No condition. -/
namespace Go.Proofs.Ytejklkhaplkblaa
open Go.RowKit Go.Shelf
set_option linter.unusedVariables false

theorem ite_isInts {c : Prop} [Decidable c] (a b : List Int) : (if c then isInts a else isInts b) = isInts (if c then a else b) := by split <;> rfl
theorem long_no {sizes : List Int} {es : List Ent} (h : longB sizes es = false) : es.length ≤ 1000 ∧ sizes.length ≤ 1000 ∧ ∀ i, i < es.length → (ent es i).1.length ≤ 1000 := by
  simp only [longB, Bool.or_eq_false_iff, decide_eq_false_iff_not, Bool.not_eq_false'] at h
  obtain ⟨h1, h2, h3⟩ := h
  refine ⟨by omega, by omega, fun i hi => ?_⟩
  rw [allB, List.all_eq_true] at h3
  have := h3 i (by simpa using hi)
  simp at this; omega
/-- rows of ints of one's own, of such lengths -/
def LenO (w : World) (B : Nat) (us : List Value) (ns : List (List Int)) : Prop := us.length = ns.length ∧ ∀ (i : Nat) (u : Value), us[i]? = some u → ∃ l : List Int, l.length = (ns[i]?.getD []).length ∧ OInts 3 w B u l
theorem AllO.lenO {w : World} {B : Nat} {us : List Value} {ls : List (List Int)} (h : AllO w B us ls) : LenO w B us ls := ⟨h.1, fun i u hu => ⟨_, rfl, h.2 i u hu⟩⟩
theorem OInts.write {w : World} {B r i : Nat} {u : Value} {l : List Int} {x : Int} (h : OInts 3 w B u l) : ∃ l', l'.length = l.length ∧ OInts 3 (w.setCell ⟨r, i, none⟩ (.int .i64 x)) B u l' := by
  by_cases hr : u.ownBlock = some r
  · rcases h.2 with ⟨rfl, _⟩ | ⟨g, cap, cur, rfl, hg, hh, hnc, hm, hcs, ht⟩
    · cases hr
    · simp only [Value.ownBlock, Option.some.injEq] at hr; subst hr
      by_cases hi : i < l.length
      · refine ⟨l.set i x, by simp, ?_⟩
        have := ownsRow_set (i := i) h (by simpa using hi) (.int .i64 x)
        unfold OInts
        rw [List.length_set, show Go.Proofs.Ytejklkhaplkblaa.ints (l.set i x) = (Go.Proofs.Ytejklkhaplkblaa.ints l).set i (.int .i64 x) from by simp [Go.Proofs.Ytejklkhaplkblaa.ints, List.map_set]]; exact this
      · refine ⟨l, rfl, h.1, .inr ⟨g, cap, cur.setIfInBounds i (.int .i64 x), rfl, hg, ?_, hnc, hm, by simpa using hcs, ?_⟩⟩
        · simp [World.setCell, Array.getElem?_modify, hh]
        · rw [Array.toList_setIfInBounds, List.take_set_of_le (by omega), ht]
  · exact ⟨l, rfl, World.ownsRow.kept h (grownBy_set w r i _) (.inr hr)⟩
structure SpW (B g : Nat) (sv ev : Value) (us : List Value) (es : List Ent) (wc wr : World) : Prop where
  box : BoxP wr g sv ev
  row : wr.ownsRow B 53 2 ev es.length (eCells us es)
  len : LenO wr B us (es.map Prod.fst)
  ext : Ext wc wr
theorem SpW.at_ {B g : Nat} {sv ev : Value} {us : List Value} {es : List Ent} {wc wr : World} (h : SpW B g sv ev us es wc wr) {k : Nat} (hk : k < es.length) :
    ∃ ge cap u, ∃ l : List Int, ev = .slice (some ⟨ge, 0, none⟩) es.length cap ∧ es.length ≤ cap ∧ cap ≤ 9223372036854775807 ∧ wr.cell? ⟨ge, k * 2, none⟩ = some u ∧ us[k]? = some u ∧ l.length = (ent es k).1.length ∧ OInts 3 wr B u l := by
  have hul : us.length = es.length := by rw [h.len.1]; simp
  have hl := h.row.1
  rcases h.row.2 with ⟨_, h0⟩ | ⟨ge, cap, cur, rfl, hg, hh, hnc, hm, hcs, ht⟩
  · omega
  · obtain ⟨l, h1, h2⟩ := h.len.2 k us[k] (List.getElem?_eq_getElem (by omega))
    refine ⟨ge, cap, us[k], l, rfl, hnc, hm, ?_, List.getElem?_eq_getElem (by omega), by rw [h1, map_fst_get], h2⟩
    rw [h.row.cellAt (k * 2) (by omega), eCells_spec us es k hul, List.getElem?_eq_getElem (by omega)]
theorem SpW.write {B g r i : Nat} {sv ev : Value} {us : List Value} {es : List Ent} {wc wr : World} (h : SpW B g sv ev us es wc wr) (hB : wc.heap.size ≤ r) (hr : ∀ x, some r = some x → ∃ cur, wr.heap[x]? = some (.cells cur 3 (0, 0))) (x : Int) :
    SpW B g sv ev us es wc (wr.setCell ⟨r, i, none⟩ (.int .i64 x)) := by
  obtain ⟨cur, hh⟩ := hr r rfl
  refine ⟨h.box.kept (grownBy_set wr r i _) (fun e => ?_), World.ownsRow.kept h.row (grownBy_set wr r i _) ?_, ⟨h.len.1, fun k u hu => ?_⟩, h.ext.setCell hB i _⟩
  · injection e with e; subst e
    have := h.box; rw [BoxP, hh] at this; injection this with this; injection this with _ this; exact absurd this (by decide)
  · rcases h.row.2 with ⟨rfl, _⟩ | ⟨g', cap, cur', rfl, _, hgb, _⟩
    · exact .inl rfl
    · refine .inr fun he => ?_
      simp only [Value.ownBlock, Option.some.injEq] at he; subst he
      rw [hh] at hgb; injection hgb with hgb; injection hgb with _ hgb; exact absurd hgb (by decide)
  · obtain ⟨l, h1, h2⟩ := h.len.2 k u hu
    obtain ⟨l', h3, h4⟩ := h2.write (r := r) (i := i) (x := x)
    exact ⟨l', h3.trans h1, h4⟩
theorem OInts.spot {w : World} {B : Nat} {u : Value} {l : List Int} (h : OInts 3 w B u l) {i : Nat} (hi : i < l.length) : ∃ r cap, u = .slice (some ⟨r, 0, none⟩) l.length cap ∧ l.length ≤ cap ∧ cap ≤ 9223372036854775807 ∧ B ≤ r ∧ (∃ cur, w.heap[r]? = some (.cells cur 3 (0, 0))) ∧
    w.cell? ⟨r, i, none⟩ = some (.int .i64 (l[i]?.getD 0)) ∧ w.frozen? ⟨r, i, none⟩ = false := by
  rcases h.2 with ⟨_, h0⟩ | ⟨g, cap, cur, rfl, hg, hh, hnc, hm, hcs, ht⟩
  · omega
  · refine ⟨g, cap, rfl, hnc, hm, hg, ⟨cur, hh⟩, ?_, ?_⟩
    · rw [World.ownsRow.cellAt (show w.ownsRow B 3 1 (.slice (some ⟨g, 0, none⟩) l.length cap) l.length (Go.Proofs.Ytejklkhaplkblaa.ints l) from ⟨by simp, .inr ⟨g, cap, cur, rfl, hg, hh, hnc, hm, hcs, ht⟩⟩) i (by simpa using hi), ints_get l i hi]
    · simp [World.frozen?, hh]

end Go.Proofs.Ytejklkhaplkblaa
/- The forms of cells through the layers: plain facts. -/
namespace Go.Proofs.Ytejklkhaplkblaa
open Go.RowKit Go.Shelf
set_option linter.unusedVariables false
/-- how many cells are at home with a form below k -/
def hsum (L : List (List Int)) (es : List Ent) : Nat → Nat
  | 0 => 0
  | k + 1 => hsum L es k + (L.filter (homeB es (k : Int))).length
theorem hsum_cons (c : List Int) (L : List (List Int)) (es : List Ent) : ∀ k, hsum (c :: L) es k = hsum L es k + (if 0 ≤ formI es c ∧ formI es c < k then 1 else 0)
  | 0 => by
    rw [hsum, hsum, if_neg]; omega
  | k + 1 => by
    rw [hsum, hsum, hsum_cons c L es k, List.filter_cons]
    have hb : homeB es (k : Int) c = decide (formI es c = (k : Int)) := by unfold homeB; rw [Bool.eq_iff_iff]; simp
    rw [hb]
    have e1 : (if decide (formI es c = (k : Int)) = true then c :: L.filter (homeB es (k : Int)) else L.filter (homeB es (k : Int))).length = (L.filter (homeB es (k : Int))).length + (if formI es c = (k : Int) then 1 else 0) := by
      by_cases h : formI es c = (k : Int)
      · rw [if_pos (decide_eq_true h), if_pos h, List.length_cons]
      · rw [if_neg (by simpa using h), if_neg h]; rfl
    rw [e1]
    split <;> split <;> split <;> omega
theorem form_bd {sizes : List Int} {es : List Ent} (V : ValidP sizes es) (c : List Int) : formI es c = -1 ∨ 0 ≤ formI es c ∧ formI es c ≤ 9 := by
  unfold formI
  by_cases h : 0 ≤ decidesI es c
  · rw [if_pos h]
    right
    obtain ⟨k, hk⟩ : ∃ k : Nat, decidesI es c = k := ⟨(decidesI es c).toNat, by omega⟩
    have hd := (decides_iff.1 hk).1
    rw [hk, Int.toNat_natCast]
    have := V.ent k hd
    simp only [entB, Bool.and_eq_true, decide_eq_true_eq] at this
    omega
  · rw [if_neg h]; left; rfl
theorem part_one {sizes : List Int} {es : List Ent} (V : ValidP sizes es) (c : List Int) : (if 0 ≤ formI es c ∧ formI es c < (10 : Nat) then 1 else 0) + (if clashB es c = true then 1 else 0) + (if emptyB es c = true then 1 else 0) = 1 := by
  have h1 := form_bd V c
  have h2 := formI_ge (c := c) V
  have h3 : emptyB es c = true → decidesI es c = -1 := fun h => decidesI_nil (by unfold emptyB at h; simpa using h)
  have h4 : clashB es c = (!emptyB es c && decide (decidesI es c < 0)) := by
    unfold clashB emptyB
    congr 1
    cases hl : (sel es.length (matchB es c)).length <;> simp
  have h5 : (0 ≤ formI es c ↔ 0 ≤ decidesI es c) := by
    have := h2
    rw [Bool.eq_iff_iff] at this
    simpa using this
  rw [h4]
  cases he : emptyB es c
  · by_cases hd : 0 ≤ decidesI es c
    · have := h5.2 hd
      rw [if_pos (by omega), if_neg (by simp; omega), if_neg (by simp)]
    · have : ¬ 0 ≤ formI es c := fun h => hd (h5.1 h)
      rw [if_neg (by omega), if_pos (by simp; omega), if_neg (by simp)]
  · have hd := h3 he
    have : ¬ 0 ≤ formI es c := fun h => by have := h5.1 h; omega
    rw [if_neg (by omega), if_neg (by simp), if_pos rfl]
theorem part_all {sizes : List Int} {es : List Ent} (V : ValidP sizes es) : ∀ L : List (List Int), hsum L es 10 + (L.filter (clashB es)).length + (L.filter (emptyB es)).length = L.length
  | [] => by simp [hsum]
  | c :: L => by
    have h1 := part_all V L
    have h2 := part_one V c
    rw [hsum_cons, List.filter_cons, List.filter_cons, List.length_cons]
    have e1 : (if clashB es c = true then c :: L.filter (clashB es) else L.filter (clashB es)).length = (L.filter (clashB es)).length + (if clashB es c = true then 1 else 0) := by split <;> simp
    have e2 : (if emptyB es c = true then c :: L.filter (emptyB es) else L.filter (emptyB es)).length = (L.filter (emptyB es)).length + (if emptyB es c = true then 1 else 0) := by split <;> simp
    rw [e1, e2]
    omega
theorem hsum_le (L : List (List Int)) (es : List Ent) : ∀ k, hsum L es k ≤ k * L.length
  | 0 => by simp [hsum]
  | k + 1 => by
    have h1 := hsum_le L es k
    have h2 := List.length_filter_le (homeB es (k : Int)) L
    rw [hsum, Nat.add_mul]; omega
/-- the entry that decides is more special than all others that match -/
theorem more_self (a : List Int) : isMoreB a a = false := by
  cases h : isMoreB a a
  · rfl
  · have := more_asym a a h; rw [h] at this; exact this
theorem more_dec {sizes : List Int} {es : List Ent} {c : List Int} (hv : validI sizes es = 0) (h0 : 0 ≤ decidesI es c) {a : Nat} (ha : a < (sel es.length (matchB es c)).length) :
    nK sizes es (max (decidesI es c) 0) ((sel es.length (matchB es c))[a]?.getD 0) = 0 ∧ moreB sizes es (max (decidesI es c) 0) ((sel es.length (matchB es c))[a]?.getD 0) = ((sel es.length (matchB es c))[a]?.getD 0 != max (decidesI es c) 0) := by
  obtain ⟨k, hk⟩ : ∃ k : Nat, decidesI es c = k := ⟨(decidesI es c).toNat, by omega⟩
  have hD := decides_iff.1 hk
  have hm := List.getElem_mem ha
  obtain ⟨j, hj, hmj, he⟩ := mem_sel.1 hm
  rw [hk, Int.max_eq_left (by omega), List.getElem?_eq_getElem ha, Option.getD_some, he]
  have hn : nK sizes es (k : Int) (j : Int) = 0 := by
    have h1 := hD.1
    unfold nK numB
    rw [if_pos hv, if_pos (by simp; omega)]
  refine ⟨hn, ?_⟩
  unfold moreB
  rw [decide_eq_true hn, Bool.true_and, Int.toNat_natCast, Int.toNat_natCast]
  by_cases e : j = k
  · subst e; rw [more_self]; simp
  · rw [hD.2.2 j hj hmj e]; simp; omega
/-- entries are left out only if the list becomes shorter -/
theorem red_len (sizes forms : List Int) : ∀ (k : Nat) (es : List Ent), k ≤ es.length → (redL sizes forms k es).length ≤ es.length
  | 0, es, _ => Nat.le_refl _
  | k + 1, es, hk => by
    rw [redL]
    split
    · have h1 := List.length_eraseIdx_of_lt (l := es) (i := k) (by omega)
      have := red_len sizes forms k (es.eraseIdx k) (by omega)
      omega
    · exact red_len sizes forms k es (by omega)
theorem red_all (sizes forms : List Int) : ∀ (k : Nat) (es : List Ent), k ≤ es.length → (redL sizes forms k es).length = es.length → redL sizes forms k es = es ∧ ∀ i, i < k → sameIntsB (fillL sizes (es.eraseIdx i)) forms = false
  | 0, es, _, _ => ⟨rfl, fun i hi => by omega⟩
  | k + 1, es, hk, h => by
    rw [redL] at h ⊢
    by_cases hs : sameIntsB (fillL sizes (es.eraseIdx k)) forms = true
    · rw [if_pos hs] at h
      have h1 := List.length_eraseIdx_of_lt (l := es) (i := k) (by omega)
      have := red_len sizes forms k (es.eraseIdx k) (by omega)
      omega
    · rw [if_neg hs] at h ⊢
      obtain ⟨h1, h2⟩ := red_all sizes forms k es (by omega) h
      refine ⟨h1, fun i hi => ?_⟩
      by_cases e : i = k
      · subst e; simpa using hs
      · exact h2 i (by omega)
theorem red_none {sizes : List Int} {es : List Ent} (hv : validI sizes es = 0) (h : (redE sizes es).length = es.length) : redE sizes es = es ∧ needL sizes es = [] := by
  unfold redE at h ⊢
  rw [if_pos hv] at h ⊢
  obtain ⟨h1, h2⟩ := red_all sizes _ _ _ (Nat.le_refl _) h
  refine ⟨h1, ?_⟩
  unfold needL sel
  rw [List.filter_eq_nil_iff.2 (fun i hi => ?_)]
  · rfl
  · have := h2 i (by simpa using hi)
    unfold needB; rw [this]; simp
theorem redE_len (sizes : List Int) (es : List Ent) : (redE sizes es).length ≤ es.length := by
  unfold redE
  split
  · exact red_len _ _ _ _ (Nat.le_refl _)
  · simp
theorem fill_ge {sizes : List Int} {es : List Ent} (V : ValidP sizes es) {k : Nat} (hk : k < (cellsOf sizes).length) : decide (0 ≤ (fillL sizes es)[k]?.getD 0) = decide (0 ≤ decidesI es ((cellsOf sizes)[k]?.getD [])) := by
  rw [← formI_ge V]
  unfold fillL
  rw [List.getElem?_map, List.getElem?_eq_getElem hk]; rfl
theorem cell_cK {sizes : List Int} {es : List Ent} (V : ValidP sizes es) {k : Nat} (hk : k < (cellsOf sizes).length) : cK sizes es ((cellsOf sizes)[k]?.getD []) = 0 := by
  refine cK_of V (cell_isList V.ok ?_)
  rw [List.getElem?_eq_getElem hk]; exact List.getElem_mem hk
end Go.Proofs.Ytejklkhaplkblaa
/- Walks: the smallest spec of cells, of the program. -/
namespace Go.Proofs.Ytejklkhaplkblaa
open Go.RowKit Go.Shelf
set_option linter.unusedVariables false

theorem OInts.set {w : World} {B g cap i : Nat} {l : List Int} {x : Int} (h : OInts 3 w B (.slice (some ⟨g, 0, none⟩) l.length cap) l) (hi : i < l.length) : OInts 3 (w.setCell ⟨g, i, none⟩ (.int .i64 x)) B (.slice (some ⟨g, 0, none⟩) l.length cap) (l.set i x) := by
  have := ownsRow_set (i := i) h (by simpa using hi) (.int .i64 x)
  unfold OInts
  rw [List.length_set, show Go.Proofs.Ytejklkhaplkblaa.ints (l.set i x) = (Go.Proofs.Ytejklkhaplkblaa.ints l).set i (.int .i64 x) from by simp [Go.Proofs.Ytejklkhaplkblaa.ints, List.map_set]]; exact this
/-- o, where it is not c at numbers below j, turned to -1 -/
def hullP (o c : List Int) (j : Nat) : List Int := (List.range o.length).map fun t => if t < j ∧ o[t]?.getD 0 ≠ c[t]?.getD 0 then -1 else o[t]?.getD 0
def hullTo (ls : List (List Int)) : Nat → List Int
  | 0 => ls[0]?.getD []
  | k + 1 => hullP (hullTo ls k) (ls[k]?.getD []) (hullTo ls k).length
def hullL (ls : List (List Int)) : List Int := hullTo ls ls.length
theorem hullP_len (o c : List Int) (j : Nat) : (hullP o c j).length = o.length := by simp [hullP]
theorem hullTo_len (ls : List (List Int)) : ∀ k, (hullTo ls k).length = (ls[0]?.getD []).length
  | 0 => rfl
  | k + 1 => by rw [hullTo, hullP_len, hullTo_len ls k]
theorem hullP_zero (o c : List Int) : hullP o c 0 = o := by
  apply List.ext_getElem
  · simp [hullP]
  · intro i h1 h2; simp [hullP, h2]
theorem hullP_at {o c : List Int} {j : Nat} (hj : j < o.length) : (hullP o c j)[j]?.getD 0 = o[j]?.getD 0 := by
  simp [hullP, hj]
theorem hullP_same {o c : List Int} {j : Nat} (h : o[j]?.getD 0 = c[j]?.getD 0) : hullP o c (j + 1) = hullP o c j := by
  unfold hullP
  refine List.map_congr_left fun t _ => ?_
  by_cases ht : t = j
  · subst ht; simp [h]
  · have : (t < j + 1) ↔ (t < j) := by omega
    simp only [this]
theorem hullP_set {o c : List Int} {j : Nat} (hj : j < o.length) (h : o[j]?.getD 0 ≠ c[j]?.getD 0) : hullP o c (j + 1) = (hullP o c j).set j (-1) := by
  apply List.ext_getElem
  · simp [hullP]
  · intro t h1 h2
    simp only [hullP, List.length_map, List.length_range] at h1
    rw [List.getElem_set]
    by_cases ht : j = t
    · subst ht; simp [hullP, h]
    · rw [if_neg ht]
      have : (t < j + 1) ↔ (t < j) := by omega
      simp only [hullP, List.getElem_map, List.getElem_range, this]

set_option maxHeartbeats 1000000 in
set_option maxRecDepth 100000 in
theorem hull_c (lv : Value) (ls : List (List Int)) (n : Nat) (w : World) (hl : Rows w lv ls) (h0 : 0 < ls.length) (hn : ∀ i, i < ls.length → (ls[i]?.getD []).length = n) (hn2 : n ≤ 1000) :
    Calls Try.prog 30 #[lv] w (ROInts 3 (hullL ls) w) := by
  obtain ⟨al, cl, rfl, hll, hml, HL⟩ := Rows.open_ hl
  clear hl
  obtain ⟨ba, oa, rfl, u0, hc0, hi0⟩ := HL.out 0 h0
  rw [Nat.add_zero] at hc0
  have HI0 := Lib.hid hi0; clear hi0
  have hn0 := hn 0 h0
  have HN := Lib.hid hn; clear hn
  go_enter Try.func30, Try.ntmps30
  go_wp2_with fail
  refine (cloneInts_c u0 _ w HI0.out (by omega)).mono ?_; rintro e w1 ⟨v1, rfl, ho1, hx1⟩
  obtain ⟨a1, c1, rfl, _⟩ := ho1.ints.open_
  have hv : ∃ v, Value.slice a1 (ls[0]?.getD []).length c1 = v := ⟨_, rfl⟩
  rw [hn0] at ho1 ⊢
  have HO1 := Lib.hid ho1; clear ho1 hv
  go_wp2_with fail
  go_loopg [14] ls.length (fun m i wr => ∃ k : Nat, k ≤ ls.length ∧ ls.length ≤ k + m ∧ i = .int .i64 k ∧ Ext w wr ∧ OInts 3 wr w.heap.size (.slice a1 n c1) (hullTo ls k))
  case atStart => exact ⟨0, by omega, by omega, rfl, hx1, HO1.out⟩
  case round =>
    obtain ⟨g1, rfl⟩ : ∃ g : Nat, g = gk := ⟨_, rfl⟩
    obtain ⟨k, hk, hk2, rfl, hB, hown⟩ := hrel
    by_cases hlt : k < ls.length
    · obtain ⟨b, o, he, u, hc, hi⟩ := HL.out k hlt
      injection he with he; injection he with he1 he2; subst he1 he2
      replace hc := hB.keep hc
      have hnk := HN.out k hlt
      obtain ⟨au, cu, rfl, _, _, HU⟩ := hi.open_
      have hln : (hullTo ls k).length = n := by rw [hullTo_len, hn0]
      have HS : Hid (hullTo ls (k + 1) = hullP (hullTo ls k) (ls[k]?.getD []) n) := by rw [hullTo, hln]; exact rfl
      rw [hnk] at hc HU
      generalize hc2 : ls[k]?.getD [] = c at *
      generalize hullTo ls k = O at *
      have HO := Lib.hid hown; clear hown hc2 hi
      go_wp2_with fail
      go_loopg [20] n (fun m i wr' => ∃ j : Nat, j ≤ n ∧ n ≤ j + m ∧ i = .int .i64 j ∧ Ext w wr' ∧ OInts 3 wr' w.heap.size (.slice a1 n c1) (hullP O c j))
      case atStart => exact ⟨0, by omega, by omega, rfl, hB, by rw [hullP_zero]; exact HO.out⟩
      case round =>
        obtain ⟨j, hj, hj2, rfl, hB', hown⟩ := hrel
        by_cases hjl : j < n
        · obtain ⟨b2, o2, rfl, hcu⟩ := HU.out j hjl
          replace hcu := hB'.keep hcu
          obtain ⟨r, rc, he, hrc, hrm, hBr, hcur, hcell, hfr⟩ := hown.spot (i := j) (by rw [hullP_len]; omega)
          rw [hullP_at (by omega)] at hcell
          injection he with h1 h2 h3
          subst h1 h3
          have hlP := hullP_len O c j
          have hok := hown
          rw [show n = (hullP O c j).length by omega] at hok
          have hst := OInts.set hok (i := j) (x := -1) (by omega)
          rw [hlP, hln] at hst
          have HOW := Lib.hid hown
          have HST := Lib.hid hst
          have HSM := Lib.hid (hullP_same (o := O) (c := c) (j := j))
          have HSE := Lib.hid (hullP_set (o := O) (c := c) (j := j) (by omega))
          clear hcur hown hok hst hlP
          generalize hullP O c j = P1 at *
          generalize hoj : O[j]?.getD 0 = oj at *
          generalize hcj : c[j]?.getD 0 = cj at *
          clear hoj hcj
          by_cases heq : oj = cj
          · have hd : (oj != cj) = false := by simp [heq]
            have HE := Lib.hid (HSM.out heq)
            clear heq
            go_wp2_with fail
            go_roundg (gk-1)
            case measure => omega
            case rel => exact ⟨j+1, by omega, by omega, by go_num, hB', by rw [HE.out]; exact HOW.out⟩
          · have hd : (oj != cj) = true := by simp [heq]
            have HE := Lib.hid (HSE.out heq)
            clear heq
            go_wp2_with fail
            go_roundg (gk-1)
            case measure => omega
            case rel => exact ⟨j+1, by omega, by omega, by go_num, hB'.setCell hBr _ _, by rw [HE.out]; exact HST.out⟩
        · have hjn : j = n := by omega
          subst hjn
          have HOW := Lib.hid hown; clear hown
          go_wp2_with fail
          go_roundg (g1-1)
          case measure => omega
          case rel => exact ⟨k+1, by omega, by omega, by go_num, hB', by rw [HS.out]; exact HOW.out⟩
    · have hkl : k = ls.length := by omega
      subst hkl
      have HOW := Lib.hid hown; clear hown
      go_wp2_with fail
      go_ret
      exact ⟨_, rfl, HOW.out, hB⟩
end Go.Proofs.Ytejklkhaplkblaa
/- The smallest spec of cells, with its errors: the program. -/
namespace Go.Proofs.Ytejklkhaplkblaa
open Go.RowKit Go.Shelf
set_option linter.unusedVariables false
def hullK (sizes : List Int) (es : List Ent) (ls : List (List Int)) : Int := if checkI sizes es ls = 0 then (if ls.length = 0 then 4 else 0) else checkI sizes es ls
def hullV (sizes : List Int) (es : List Ent) (ls : List (List Int)) : List Int := if hullK sizes es ls = 0 then hullL ls else []
theorem checkI_ok {sizes : List Int} {es : List Ent} {ls : List (List Int)} (h : checkI sizes es ls = 0) : ValidP sizes es ∧ ∀ i, i < ls.length → isListB sizes (ls[i]?.getD []) 0 = true := by
  unfold checkI at h
  split at h
  · rename_i h0
    refine ⟨validI_zero h0, fun i hi => ?_⟩
    cases hb : isListB sizes (ls[i]?.getD []) 0
    · rw [allB_false hi hb] at h; simp at h
    · rfl
  · rename_i h0; exact absurd h h0
theorem checkI_lens {sizes : List Int} {es : List Ent} {ls : List (List Int)} (h : checkI sizes es ls = 0) : ∀ i, i < ls.length → (ls[i]?.getD []).length = sizes.length := fun i hi => ((isListB_iff _ _ _).1 ((checkI_ok h).2 i hi)).1
set_option maxHeartbeats 1000000 in
set_option maxRecDepth 100000 in
theorem Hull_c (sv ev lv : Value) (sizes : List Int) (es : List Ent) (ls : List (List Int)) (w : World) (hp : Par w sv ev sizes es) (hl : Rows w lv ls) :
    Calls Try.prog 6 #[.agg #[sv, ev], lv] w (R2 (isInts (hullV sizes es ls)) (hullK sizes es ls) w) := by
  have hA := Ext.alloc w (.cells #[sv, ev] 25)
  have HC := Lib.hid (check_c sv ev lv sizes es ls _ (hp.ext hA) (Rows.ext hl hA))
  have HR := Lib.hid hl
  obtain ⟨al, cl, rfl, hll, hml, HL⟩ := Rows.open_ hl
  clear hl hp
  by_cases h0 : checkI sizes es ls = 0
  · have HLN := Lib.hid (checkI_lens h0)
    have V := (checkI_ok h0).1
    have hs3 := V.ok.2.1
    rw [h0] at HC
    by_cases hz : ls.length = 0
    · have hK : hullK sizes es ls = 4 := by rw [hullK, if_pos h0, if_pos hz]
      rw [show hullV sizes es ls = [] by rw [hullV, hK, if_neg (by decide)], hK]
      have hzd : ((ls.length : Int) == 0) = true := by rw [beq_iff_eq]; omega
      clear hK hz
      clear h0 V hs3
      go_enter Try.func6, Try.ntmps6
      go_wp2_with fail
      refine HC.out.mono ?_; rintro e w1 ⟨rfl, hx1⟩
      go_wp2_with fail
      go_ret2
      exact R2.mk (ints_nil_c _) (hA.trans hx1)
    · have hK : hullK sizes es ls = 0 := by rw [hullK, if_pos h0, if_neg hz]
      rw [show hullV sizes es ls = hullL ls by rw [hullV, if_pos hK], hK]
      have hzd : ((ls.length : Int) == 0) = false := by rw [beq_eq_false_iff_ne]; omega
      clear hK
      have HH := Lib.hid (fun W (hW : Ext w W) => hull_c _ ls sizes.length W (Rows.ext HR.out hW) (by omega) HLN.out (by omega))
      have HZ := Lib.hid hz
      clear h0 V hs3 hz
      go_enter Try.func6, Try.ntmps6
      go_wp2_with fail
      refine HC.out.mono ?_; rintro e w1 ⟨rfl, hx1⟩
      go_wp2_with fail
      refine (HH.out w1 (hA.trans hx1)).mono ?_; rintro e w2 ⟨v, rfl, ho, hx2⟩
      have HO := Lib.hid ho.ints
      obtain ⟨a2, c2, rfl, _⟩ := ho.ints.open_
      clear ho
      go_wp2_with fail
      go_ret2
      exact R2.mk HO.out (hA.trans (hx1.trans hx2))
  · have hK : hullK sizes es ls = checkI sizes es ls := by rw [hullK, if_neg h0]
    rw [show hullV sizes es ls = [] by rw [hullV, hK, if_neg h0], hK]
    clear hK
    have hk : (checkI sizes es ls != 0) = true := by simp [h0]
    generalize checkI sizes es ls = k at *
    have H0 := Lib.hid h0; clear h0
    go_enter Try.func6, Try.ntmps6
    go_wp2_with fail
    refine HC.out.mono ?_; rintro e w1 ⟨rfl, hx1⟩
    go_wp2_with fail
    go_ret2
    exact R2.mk (ints_nil_c _) (hA.trans hx1)
end Go.Proofs.Ytejklkhaplkblaa
