/- Walks of package cell: the entry that decides a cell, its form. -/
import Derived.Test.YtdgncnhmgbmpjaaCellC
import Derived.Test.YtdgncnhmgbmpjaaRefOne
namespace Go.Proofs.Ytdgncnhmgbmpjaa
open Go.RowKit Go.Shelf
set_option linter.unusedVariables false

def findI (l : List Int) (p : Int → Bool) : Int := (l.find? p).getD (-1)
theorem findI_at {l : List Int} {p : Int → Bool} {j : Nat} (hj : j < l.length) (ht : p (l[j]?.getD 0) = true) (h : ∀ i, i < j → p (l[i]?.getD 0) = false) : findI l p = l[j]?.getD 0 := by
  unfold findI
  have : l.find? p = some (l[j]?.getD 0) := by
    rw [List.find?_eq_some_iff_append]
    refine ⟨ht, l.take j, l.drop (j+1), ?_, ?_⟩
    · simp [hj]
    · intro a ha
      obtain ⟨i, hi, rfl⟩ := List.mem_iff_getElem.1 ha
      have hi : i < j ∧ i < l.length := by simp at hi; omega
      have := h i hi.1
      simp [hi.2] at this
      simp [this]
  rw [this]; rfl
theorem findI_none {l : List Int} {p : Int → Bool} (h : ∀ i, i < l.length → p (l[i]?.getD 0) = false) : findI l p = -1 := by
  unfold findI
  have : l.find? p = none := by
    rw [List.find?_eq_none]; intro x hx
    obtain ⟨i, hi, rfl⟩ := List.mem_iff_getElem.1 hx
    have := h i hi
    simp [hi] at this
    simp [this]
  rw [this]; rfl

set_option maxHeartbeats 400000 in
theorem find_c (va : Value) (l : List Int) (g : Nat) (lb : Array Value) (p : Int → Bool) (w : World) (eg : Enters Try.prog g)
    (hg : ∀ W i, Ext w W → i < l.length → Calls Try.prog g (#[.int .i64 (l[i]?.getD 0)] ++ lb) W (RV (.bool (p (l[i]?.getD 0))) W)) (ha : Ints w va l) :
    Calls Try.prog 70 #[va, .func (.func g) #[] lb] w (RV (.int .i64 (findI l p)) w) := by
  have HH := Lib.hid (indexFunc_c va l g lb p w eg hg ha); clear hg
  obtain ⟨aa, ca, rfl, hla, hma, Ha⟩ := ha.open_
  clear ha
  rcases firstIdx_cases l.length (fun i => p (l[i]?.getD 0)) with ⟨j, hj, ht, hf, he⟩ | ⟨hf, he⟩
  · rw [he] at HH
    have HF := Lib.hid (findI_at hj ht hf)
    clear he hf ht
    obtain ⟨ba, oa, rfl, hc1⟩ := Ha.out j hj
    generalize l[j]?.getD 0 = x at *
    go_enter Try.func70, Try.ntmps70
    go_wp2_with fail
    refine HH.out.mono ?_; rintro e w' ⟨rfl, hB2⟩
    replace hc1 := hB2.keep hc1
    go_wp2_with fail
    go_ret
    exact RV.int HF.out.symm hB2
  · rw [he] at HH
    have HF := Lib.hid (findI_none hf)
    clear he hf
    go_enter Try.func70, Try.ntmps70
    go_wp2_with fail
    refine HH.out.mono ?_; rintro e w' ⟨rfl, hB2⟩
    go_wp2_with fail
    go_ret
    exact RV.int HF.out.symm hB2

set_option maxHeartbeats 600000 in
theorem decides11_c (sv ev : Value) (es : List Ent) (n : Nat) (w : World) (he : Ents w ev es) (hr : ∀ i, i < es.length → (ent es i).1.length = n)
    (k i : Nat) (hk : k < es.length) (hi : i < es.length) (bi bp : Nat) (hci : w.cell? ⟨bi, 0, none⟩ = some (.int .i64 i)) (hcp : w.cell? ⟨bp, 0, none⟩ = some sv) (hcq : w.cell? ⟨bp, 1, none⟩ = some ev) :
    Calls Try.prog 72 #[.int .i64 k, .pointer (some ⟨bi, 0, none⟩), .pointer (some ⟨bp, 0, none⟩)] w (RQ ((k : Int) != i && !isMoreB (ent es i).1 (ent es k).1) w) := by
  obtain ⟨ae, ce, rfl, hle, hme, He⟩ := he.open_
  clear he
  have Hr := Lib.hid hr; clear hr
  by_cases hki : k = i
  · subst hki
    have h1 : ((k : Int) != (k : Int)) = false := by simp
    go_enter Try.func72, Try.ntmps72
    go_wp2_with fail
    go_quiet (fail)
    go_wp2_with fail
    go_ret
    exact RQ.mk (by simp) _
  · have h1 : ((k : Int) != (i : Int)) = true := by simp; omega
    obtain ⟨ba, oa, rfl, u, hc1, hi1, hf1⟩ := He.out k hk
    obtain ⟨_, _, hx, u2, hc2, hi2, hf2⟩ := He.out i hi
    injection hx with hx; injection hx with hx1 hx2 _; subst hx1 hx2
    have HL := Lib.hid ((Hr.out i hi).trans (Hr.out k hk).symm)
    have HI := Lib.hid hi2; have HJ := Lib.hid hi1
    clear hi2 hi1
    have hki' := Lib.hid hki; clear hki
    go_enter Try.func72, Try.ntmps72
    go_wp2_with fail
    go_quiet ((go_at_call 73; exact RP.quiet (isMore_c _ _ (ent es i).1 (ent es k).1 _ (HI.out.ext (Ext.drewN _ _)) (HJ.out.ext (Ext.drewN _ _)) HL.out)))
    go_wp2_with fail
    go_ret
    exact RQ.mk (by simp [h1]) _

theorem any_range (l : List Int) (p : Int → Bool) : ((List.range l.length).any fun i => p (l[i]?.getD 0)) = l.any p := by
  rw [Bool.eq_iff_iff, List.any_eq_true, List.any_eq_true]
  constructor
  · rintro ⟨i, hi, hp⟩
    have hi : i < l.length := by simpa using hi
    exact ⟨l[i], List.getElem_mem hi, by simpa [hi] using hp⟩
  · rintro ⟨x, hx, hp⟩
    obtain ⟨i, hi, rfl⟩ := List.mem_iff_getElem.1 hx
    exact ⟨i, by simpa using hi, by simpa [hi] using hp⟩

def worseB (es : List Ent) (i k : Int) : Bool := k != i && !isMoreB (ent es i.toNat).1 (ent es k.toNat).1
def bestB (es : List Ent) (l : List Int) (i : Int) : Bool := !(l.any (worseB es i))
/-- all numbers of l are numbers of entries -/
def Nums (l : List Int) (n : Nat) : Prop := ∀ j, j < l.length → ∃ k : Nat, k < n ∧ l[j]?.getD 0 = k
theorem sel_nums (n : Nat) (f : Nat → Bool) : Nums (sel n f) n := fun j hj => by
  have := List.getElem_mem hj
  simp only [sel, List.mem_map, List.mem_filter, List.mem_range] at this
  obtain ⟨k, ⟨hk, _⟩, he⟩ := this
  exact ⟨k, hk, by simp [hj]; exact he.symm⟩

set_option maxHeartbeats 600000 in
theorem decides1_c (sv ev vl : Value) (es : List Ent) (l : List Int) (n : Nat) (w : World) (he : Ents w ev es) (hr : ∀ i, i < es.length → (ent es i).1.length = n) (hl : Ints w vl l) (hk : Nums l es.length)
    (i : Nat) (hi : i < es.length) (bl bp : Nat) (hcl : w.cell? ⟨bl, 0, none⟩ = some vl) (hcp : w.cell? ⟨bp, 0, none⟩ = some sv) (hcq : w.cell? ⟨bp, 1, none⟩ = some ev) :
    Calls Try.prog 71 #[.int .i64 i, .pointer (some ⟨bl, 0, none⟩), .pointer (some ⟨bp, 0, none⟩)] w (RV (.bool (bestB es l i)) w) := by
  have hcl' := (Ext.alloc w (.cells #[.int .i64 i] 3)).keep hcl
  have hcp' := (Ext.alloc w (.cells #[.int .i64 i] 3)).keep hcp
  have hcq' := (Ext.alloc w (.cells #[.int .i64 i] 3)).keep hcq
  have HC := Lib.hid (containsFunc_c vl l 72 #[.pointer (some ⟨w.heap.size, 0, none⟩), .pointer (some ⟨bp, 0, none⟩)] (worseB es i) (w.alloc (.cells #[.int .i64 i] 3))
    (enters_of Try.func72 (by kernel_rfl) rfl) (fun W j hW hj => by
      obtain ⟨k, hk1, hk2⟩ := hk j hj
      rw [hk2]
      have h1 := (Ext.alloc w (.cells #[.int .i64 i] 3)).trans hW
      refine (decides11_c sv ev es n W (he.ext h1) hr k i hk1 hi w.heap.size bp (hW.keep (by simp)) (hW.keep hcp') (hW.keep hcq')).mono ?_
      rintro e w' ⟨rfl, m, rfl⟩
      exact RV.bool (by simp [worseB]) (Ext.drewN _ _)) (hl.ext (Ext.alloc _ _)))
  rw [any_range] at HC
  clear hcp hcq hcp' hcq' he hr hl hk
  unfold bestB
  go_enter Try.func71, Try.ntmps71
  go_wp2_with fail
  refine HC.out.mono ?_; rintro e w' ⟨rfl, hB2⟩
  go_wp2_with fail
  go_ret
  exact RV.bool rfl ((Ext.alloc _ _).trans hB2)

def decidesI (es : List Ent) (c : List Int) : Int := findI (sel es.length (matchB es c)) (bestB es (sel es.length (matchB es c)))
set_option maxHeartbeats 600000 in
theorem decides_c (sv ev vc : Value) (es : List Ent) (c : List Int) (w : World) (he : Ents w ev es) (hc : Ints w vc c)
    (hr : ∀ i, i < es.length → (ent es i).1.length = c.length) (hn : es.length ≤ 1048576) :
    Calls Try.prog 59 #[.agg #[sv, ev], vc] w (RV (.int .i64 (decidesI es c)) w) := by
  have hA := Ext.alloc w (.cells #[sv, ev] 25)
  have HM := Lib.hid (matches_c sv ev vc es c _ (he.ext hA) (hc.ext hA) (fun i hi => Nat.le_of_eq (hr i hi)) hn)
  have HE := Lib.hid he; have HR := Lib.hid hr
  have HN := Lib.hid (sel_nums es.length (matchB es c))
  clear he hc hr
  unfold decidesI
  generalize sel es.length (matchB es c) = l at *
  go_enter Try.func59, Try.ntmps59
  go_wp2_with fail
  refine HM.out.mono ?_; rintro e w1 ⟨v, rfl, hi, hB⟩
  have hi' := hi
  obtain ⟨al, cl, rfl, hll, hml, _⟩ := hi.open_
  have hA2 := Ext.alloc w1 (.cells #[.slice al l.length cl] 22)
  have HF := Lib.hid (find_c _ l 71 #[.pointer (some ⟨w1.heap.size, 0, none⟩), .pointer (some ⟨w.heap.size, 0, none⟩)] (bestB es l) (w1.alloc (.cells #[.slice al l.length cl] 22))
    (enters_of Try.func71 (by kernel_rfl) rfl) (fun W j hW hj => by
      obtain ⟨k, hk1, hk2⟩ := HN.out j hj
      rw [hk2]
      have hX := (hB.trans hA2).trans hW
      exact decides1_c sv ev _ es l c.length W ((HE.out.ext hA).ext hX) HR.out ((hi'.ext hA2).ext hW) HN.out k hk1 w1.heap.size w.heap.size (hW.keep (by simp)) (hX.keep (by simp)) (hX.keep (by simp)))
    (hi'.ext hA2))
  clear hi hi'
  have hsz := hB.size
  go_wp2_with fail
  refine HF.out.mono ?_; rintro e w' ⟨rfl, hB2⟩
  go_wp2_with fail
  go_ret
  exact RV.int rfl (((hA.trans hB).trans hA2).trans hB2)

theorem findI_cases (l : List Int) (p : Int → Bool) : (∃ j, j < l.length ∧ p (l[j]?.getD 0) = true ∧ findI l p = l[j]?.getD 0) ∨ (∀ j, j < l.length → p (l[j]?.getD 0) = false) ∧ findI l p = -1 := by
  rcases firstIdx_cases l.length (fun i => p (l[i]?.getD 0)) with ⟨j, hj, ht, hf, _⟩ | ⟨hf, _⟩
  · exact .inl ⟨j, hj, ht, findI_at hj ht hf⟩
  · exact .inr ⟨hf, findI_none hf⟩
theorem decidesI_cases (es : List Ent) (c : List Int) : (∃ k : Nat, k < es.length ∧ decidesI es c = k) ∨ decidesI es c = -1 := by
  rcases findI_cases (sel es.length (matchB es c)) (bestB es (sel es.length (matchB es c))) with ⟨j, hj, _, he⟩ | ⟨_, he⟩
  · obtain ⟨k, hk, hk2⟩ := sel_nums _ _ j hj
    exact .inl ⟨k, hk, he.trans hk2⟩
  · exact .inr he
def formI (es : List Ent) (c : List Int) : Int := if 0 ≤ decidesI es c then (ent es (decidesI es c).toNat).2 else -1
set_option maxHeartbeats 600000 in
theorem form_c (sv ev vc : Value) (es : List Ent) (c : List Int) (w : World) (he : Ents w ev es) (hc : Ints w vc c)
    (hr : ∀ i, i < es.length → (ent es i).1.length = c.length) (hn : es.length ≤ 1048576) :
    Calls Try.prog 53 #[.agg #[sv, ev], vc] w (RV (.int .i64 (formI es c)) w) := by
  have hA := Ext.alloc w (.cells #[sv, ev] 25)
  have HD := Lib.hid (decides_c sv ev vc es c _ (he.ext hA) (hc.ext hA) hr hn)
  have HC := Lib.hid hc
  clear hr hc
  unfold formI
  rcases decidesI_cases es c with ⟨k, hk, hd⟩ | hd
  · rw [hd] at HD ⊢
    clear hd
    obtain ⟨ae, ce, rfl, hle, hme, He⟩ := he.open_
    obtain ⟨ba, oa, rfl, u, _, _, hf1⟩ := He.out k hk
    clear he
    go_enter Try.func53, Try.ntmps53
    go_wp2_with fail
    refine HD.out.mono ?_; rintro e w1 ⟨rfl, hB⟩
    replace hf1 := (hA.trans hB).keep hf1
    have hb1 : w1.cell? ⟨w.heap.size, 1, none⟩ = some (.slice (some ⟨ba, oa, none⟩) es.length ce) := hB.keep (by simp)
    go_wp2_with fail
    go_ret
    exact RV.int (by simp) (hA.trans hB)
  · rw [hd] at HD ⊢
    clear hd
    go_enter Try.func53, Try.ntmps53
    go_wp2_with fail
    refine HD.out.mono ?_; rintro e w1 ⟨rfl, hB⟩
    go_wp2_with fail
    go_ret
    exact RV.int rfl (hA.trans hB)
end Go.Proofs.Ytdgncnhmgbmpjaa
