/- Whether cells are a box, of the program. -/
import Derived.Test.YtdgncnhmgbmpjaaBoxP
import Derived.Test.YtdgncnhmgbmpjaaHomes
import Derived.Laws.EntriesVeiled
namespace Go.Proofs.Ytdgncnhmgbmpjaa
open Go.RowKit Go.Shelf
set_option linter.unusedVariables false
theorem RVT.mk {b c : Bool} {k : Int} {w w' : World} (h : b = c) (hx : Ext w w') : RV (.tuple #[.bool c, .int .i64 k]) w (.returned (.tuple #[.bool b, .int .i64 k])) w' := ⟨by rw [h], hx⟩
theorem kept_allocB (w : World) (cs : Array Value) (ty : TypeId) {i : Nat} {v : Value} (h : cs[i]? = some v) : ∀ W, Ext (w.alloc (.cells cs ty)) W → W.cell? ⟨w.heap.size, i, none⟩ = some v := fun W hW => hW.keep (alloc_cell w cs ty h)
theorem valuesF_c (a : Option Addr) (n c : Nat) (w : World) : Calls Try.prog 25 #[.slice a n c] w fun e w' => e = .returned (.func (.func 44) #[] #[.pointer (some ⟨w.heap.size, 0, none⟩)]) ∧ w.alloc (.cells #[.slice a n c] 26) = w' := by
  go_enter Try.func25, Try.ntmps25
  go_wp2_with fail
  go_ret
  exact ⟨rfl, rfl⟩
theorem rowV_open {w : World} {B n size : Nat} {e : TypeId} {xs : List Value} {v : Value} (h : w.ownsRow B e size v n xs) : ∃ a c, v = .slice a n c := by
  rcases h.2 with ⟨hv, h0⟩ | ⟨g, cap, cur, hv, _⟩
  · exact ⟨none, 0, by rw [hv, h0]⟩
  · exact ⟨_, cap, hv⟩
set_option maxHeartbeats 1000000 in
/-- the values of a list, in order, in a row of one's own -/
theorem sortedF_c (v : Value) (bp : Nat) (w0 : World) (L : List (RowP w0)) (hb : w0.cell? ⟨bp, 0, none⟩ = some v) (hu : RowsU w0 v (L.map encL)) (h0 : 0 < L.length) (hn : L.length ≤ 100000) :
    Calls Try.prog 24 #[.func (.func 44) #[] #[.pointer (some ⟨bp, 0, none⟩)], .func (.func 26) #[] #[]] w0
      fun e w' => ∃ v' S, e = .returned v' ∧ S.Perm L ∧ AscP S ∧ w'.ownsRow w0.heap.size 22 1 v' S.length (S.map encL) ∧ Ext w0 w' := by
  have HCO := Lib.hid (collectV_c 44 #[.pointer (some ⟨bp, 0, none⟩)] (L.map encL) w0 (enters_of Try.func44 (by kernel_rfl) rfl) (by rw [List.length_map]; omega) (fun u hu => by
      obtain ⟨x, _, rfl⟩ := List.mem_map.1 hu
      obtain ⟨a, c, h, _⟩ := x.2.open_
      exact ⟨a, _, c, h⟩) (fun W row hW hrow => values1_c v (L.map encL) bp W row (fun r hr e => by subst e; have := hrow _ hr; have := cell_lt hb; dsimp only at this; omega) (hW.keep hb) (fun W2 hg => by
      have hx : Ext w0 W2 := ⟨hg.os.trans hW.os, hg.tape.trans hW.tape, hg.output.trans hW.output, Nat.le_trans hW.size hg.size, fun k hk => (hg.block k (Nat.lt_of_lt_of_le hk hW.size) (fun e => by have := hrow _ e.symm; omega)).trans (hW.block k hk)⟩
      exact hu.ext hx)))
  have HSO := Lib.hid (fun (v2 : Value) (w1 : World) (h1 : w1.ownsRow w0.heap.size 22 1 v2 L.length (L.map encL)) (hx : Ext w0 w1) => sortP_c v2 L w1 w0.heap.size h1 hx (Nat.le_refl _) h0 (by omega))
  have HL : Hid ((L.map (encL (w0 := w0))).length = L.length) := Lib.hid (List.length_map _)
  clear hb hu
  go_enter Try.func24, Try.ntmps24
  go_wp2_with fail
  refine HCO.out.mono ?_; rintro e w1 ⟨v2, rfl, ho, hx1⟩
  rw [HL.out] at ho
  obtain ⟨g, cap, _, rfl, hg, _⟩ := rowP_open ho h0
  have HS := Lib.hid (HSO.out _ w1 ho hx1)
  clear ho
  go_wp2_with fail
  refine HS.out.mono ?_; rintro e w2 ⟨rfl, S, hp, ha, ho2, hg2⟩
  have HE := Lib.hid (And.intro hp (And.intro ha (And.intro ho2 (grownP_ext hx1 hg hg2))))
  clear hp ha ho2 hg2
  go_wp2_with fail
  go_ret
  exact ⟨_, S, rfl, HE.out.1, HE.out.2.1, HE.out.2.2.1, HE.out.2.2.2⟩
set_option maxHeartbeats 400000 in
theorem isBox1_c (bp : Nat) (va vb : Value) (a b : List Int) (w : World) (hb0 : w.cell? ⟨bp, 0, none⟩ = some va) (ha : Ints w va a) (hb : Ints w vb b) (hl : a.length ≤ b.length) :
    Calls Try.prog 30 #[vb, .pointer (some ⟨bp, 0, none⟩)] w (RV (.bool (holdsB a b)) w) := by
  have HH := Lib.hid (holds_c va vb a b w ha hb hl)
  obtain ⟨aa, ca, rfl, _⟩ := ha.open_
  clear ha hb
  go_enter Try.func30, Try.ntmps30
  go_wp2_with fail
  refine HH.out.mono ?_; rintro e w' ⟨rfl, rfl⟩
  go_wp2_with fail
  go_ret
  exact ⟨rfl, Ext.refl _⟩
set_option maxHeartbeats 1000000 in
set_option maxRecDepth 100000 in
theorem IsBox_c (sv ev lv : Value) (sizes : List Int) (es : List Ent) (ls : List (List Int)) (w : World) (hp : Par w sv ev sizes es) (hl : Rows w lv ls) (hl9 : ls.length ≤ 100000) :
    Calls Try.prog 10 #[.agg #[sv, ev], lv] w (RV (.tuple #[.bool (isBoxB sizes es ls), .int .i64 (checkI sizes es ls)]) w) := by
  obtain ⟨wA, hwA⟩ : ∃ wA, wA = w.alloc (.cells #[sv, ev] 25) := ⟨_, rfl⟩
  have hA : Ext w wA := by rw [hwA]; exact Ext.alloc _ _
  have k0 : ∀ W, Ext wA W → W.cell? ⟨w.heap.size, 0, none⟩ = some sv := by rw [hwA]; exact kept_allocB w _ _ rfl
  have k1 : ∀ W, Ext wA W → W.cell? ⟨w.heap.size, 1, none⟩ = some ev := by rw [hwA]; exact kept_allocB w _ _ rfl
  have H0 := Ext.refl wA
  have HC := Lib.hid (check_c sv ev lv sizes es ls _ (hp.ext hA) (Rows.ext hl hA))
  have HP := Lib.hid hp
  have HR := Lib.hid hl
  obtain ⟨al, cl, rfl, hll, hml, HL⟩ := Rows.open_ hl
  have HW := Lib.hid hwA
  clear hl hp hwA
  by_cases h0 : checkI sizes es ls = 0
  · have HLN := Lib.hid (checkI_lens h0)
    have V := (checkI_ok h0).1
    by_cases hz : ls.length = 0
    · rw [show isBoxB sizes es ls = false by rw [isBoxB, if_pos h0, if_pos hz], h0]
      rw [h0] at HC
      have hzd : ((ls.length : Int) == 0) = true := by rw [beq_iff_eq]; omega
      clear hz h0 V
      go_enter Try.func10, Try.ntmps10
      go_wp2_with fail
      rw [← HW.out]
      refine HC.out.mono ?_; rintro e w1 ⟨rfl, hx1⟩
      go_wp2_with fail
      go_ret2
      exact ⟨rfl, hA.trans hx1⟩
    · rw [show isBoxB sizes es ls = boxB sizes ls by rw [isBoxB, if_pos h0, if_neg hz], h0]
      have hzd : ((ls.length : Int) == 0) = false := by rw [beq_eq_false_iff_ne]; omega
      have hl0 : 0 < ls.length := by omega
      have hok := V.ok
      have HOK := Lib.hid hok
      have hs3 := hok.2.1
      have HIN : Hid (∀ c ∈ ls, c ∈ cellsOf sizes ∧ holdsB (hullL ls) c = true) := Lib.hid (fun c hc => by
        refine ⟨?_, hull_holds HLN.out hc⟩
        obtain ⟨i, hi, rfl⟩ := List.mem_iff_getElem.1 hc
        have h1 := (isListB_iff _ _ _).1 ((checkI_ok h0).2 i hi)
        rw [List.getElem?_eq_getElem hi, Option.getD_some] at h1
        exact mem_cellsOf _ _ h1.1 h1.2)
      have HHL := Lib.hid (hull_len hl0 HLN.out)
      rw [h0] at HC
      clear hz h0 V
      go_enter Try.func10, Try.ntmps10
      go_wp2_with fail
      rw [← HW.out]
      refine HC.out.mono ?_; rintro e w1 ⟨rfl, hx1⟩
      obtain ⟨w2, hw2⟩ : ∃ w2, w2 = w1.alloc (.cells #[.slice al ls.length cl] 26) := ⟨_, rfl⟩
      have hx2 : Ext w1 w2 := by rw [hw2]; exact Ext.alloc _ _
      have hX2 := hx1.trans hx2
      have hb2 : w2.cell? ⟨w1.heap.size, 0, none⟩ = some (.slice al ls.length cl) := by rw [hw2]; exact alloc_cell w1 _ _ rfl
      obtain ⟨us, hu, hai⟩ := (Rows.ext HR.out (hA.trans hX2)).vals
      obtain ⟨L, hLu, hLs⟩ := rowsP_of hai
      subst hLu
      have hLl : L.length = ls.length := by rw [← hLs, List.length_map]
      have HSO := Lib.hid (sortedF_c _ w1.heap.size w2 L hb2 hu (by omega) (by omega))
      have HLS := Lib.hid hLs
      have HW2 := Lib.hid hw2
      clear hw2 hb2 hu hai hLs
      go_wp2_with fail
      refine (valuesF_c _ _ _ w1).mono ?_; rintro e w2' ⟨rfl, rfl⟩
      rw [← HW2.out]
      go_wp2_with fail
      refine HSO.out.mono ?_; rintro e w3 ⟨v3, S, rfl, hperm, hasc, ho3, hx3⟩
      have hSl : S.length = L.length := hperm.length_eq
      have HSLE := Lib.hid hSl
      have HCF := Lib.hid (compactF_c v3 S w3 w2.heap.size ho3 hx3 (Nat.le_refl _) (by omega) (by omega))
      have HBL : Hid (∀ sp, hullL ls = sp → (((ddToP S S.length).length : Int) == (((cellsOf sizes).filter (holdsB sp)).length : Int)) = boxB sizes ls) := Lib.hid (fun sp hsp => by
        subst hsp
        have := box_len HOK.out (ddP_nodup hasc) (fun c => (ddP_mem c).trans (by rw [← HLS.out]; exact (hperm.map _).mem_iff)) HIN.out
        rwa [List.length_map] at this)
      obtain ⟨a3, c3, rfl⟩ := rowV_open ho3
      clear ho3 hperm hasc hSl
      clear hLl
      have hX3 := hX2.trans hx3
      go_wp2_with fail
      refine HCF.out.mono ?_; rintro e w4 ⟨v4, rfl, ho4, hx4⟩
      generalize ddToP S S.length = D at *
      obtain ⟨a4, c4, rfl⟩ := rowV_open ho4
      clear ho4
      have hX4 := hX2.trans hx4
      have HHU := Lib.hid (hull_c _ ls sizes.length w4 (Rows.ext HR.out (hA.trans hX4)) hl0 HLN.out (by omega))
      obtain ⟨sp, hsp⟩ : ∃ sp, hullL ls = sp := ⟨_, rfl⟩
      have HBX := Lib.hid (HBL.out sp hsp)
      rw [hsp] at HHU HHL
      clear hsp HBL
      go_wp2_with fail
      refine HHU.out.mono ?_; rintro e w5 ⟨v5, rfl, ho5, hx5⟩
      have hi5 := ho5.ints
      obtain ⟨a5, c5, rfl, _⟩ := hi5.open_
      clear ho5
      obtain ⟨w6, hw6⟩ : ∃ w6, w6 = w5.alloc (.cells #[.slice a5 sp.length c5] 22) := ⟨_, rfl⟩
      have hx6 : Ext w5 w6 := by rw [hw6]; exact Ext.alloc _ _
      have hX6 := hX4.trans (hx5.trans hx6)
      have hb6 : ∀ W, Ext w6 W → W.cell? ⟨w5.heap.size, 0, none⟩ = some (.slice a5 sp.length c5) := by rw [hw6]; exact kept_allocB w5 _ _ rfl
      have HWH := Lib.hid (where_c sv ev sizes 30 #[.pointer (some ⟨w5.heap.size, 0, none⟩)] (holdsB sp) w6 (enters_of Try.func30 (by kernel_rfl) rfl) (HP.out.s.ext (hA.trans hX6)) HOK.out (fun W x v hW hx hv => isBox1_c w5.heap.size _ v sp x W (hb6 W hW) (hi5.ext (hx6.trans hW)) hv (by
        have := mem_len HOK.out hx
        rw [HHL.out, this]; exact Nat.le_refl _)))
      have HW6 := Lib.hid hw6
      clear hw6 hi5 hb6
      go_upto_region 9 with fail
      rw [← HW6.out]
      generalize (cellsOf sizes).filter (holdsB sp) = F at *
      go_wp2_with fail
      refine HWH.out.mono ?_; rintro e w7 ⟨v7, rfl, hr7, hx7⟩
      have hr7' : Rows w7 v7 F := hr7
      obtain ⟨a7, c7, rfl, _⟩ := Rows.open_ hr7'
      clear hr7 hr7'
      go_wp2_with fail
      go_ret2
      exact RVT.mk HBX.out (hA.trans (hX6.trans hx7))
  · rw [show isBoxB sizes es ls = false by rw [isBoxB, if_neg h0]]
    have hk : (checkI sizes es ls != 0) = true := by simp [h0]
    generalize checkI sizes es ls = k at *
    clear h0
    go_enter Try.func10, Try.ntmps10
    go_wp2_with fail
    rw [← HW.out]
    refine HC.out.mono ?_; rintro e w1 ⟨rfl, hx1⟩
    go_wp2_with fail
    go_ret2
    exact ⟨rfl, hA.trans hx1⟩
end Go.Proofs.Ytdgncnhmgbmpjaa
