/- Words with other names: named, spell, sides, isOrder of the reference, Spell; both packages. -/
import Derived.Test.YthmdecgkbjdabaaSrtI
import Derived.Test.YthmdecgkbjdabaaTreeR
namespace Go.Proofs.Ythmdecgkbjdabaa
open Go.RowKit Go.Shelf
set_option linter.unusedVariables false

set_option maxHeartbeats 1000000 in
/-- the list with other names -/
theorem named_c (lv tv : Value) (l to : List Int) (w : World) (h : Ints w lv l) (ht : Ints w tv to) (hr : ∀ x ∈ l, -1 ≤ x ∧ x ≤ 5) (h6 : to.length = 6) (hl : l.length ≤ 1000) : Calls Try.prog 18 #[lv, tv] w (ROInts 3 (nmL l to) w) := by
  obtain ⟨al, cl, rfl, _, _, HL⟩ := h.open_
  obtain ⟨at_, ct, rfl, _, _, HT⟩ := ht.open_
  have HR : Hid (∀ k, k < l.length → -1 ≤ l[k]?.getD 0 ∧ l[k]?.getD 0 ≤ 5) := Lib.hid (fun k hk => by have := hr l[k] (List.getElem_mem hk); simpa [hk] using this)
  have HF : Hid (nmL (l.take l.length) to = nmL l to) := Lib.hid (by rw [List.take_length])
  have H6 := Lib.hid h6
  clear h ht hr h6
  go_enter Try.func18, Try.ntmps18
  go_wp2_with fail
  go_loopg [5, 10] l.length (fun m v i wr => ∃ k : Nat, k ≤ l.length ∧ l.length ≤ k + m ∧ i = .int .i64 k ∧ Ext w wr ∧ OInts 3 wr w.heap.size v (nmL (l.take k) to))
  case atStart => exact ⟨0, by omega, by omega, rfl, Ext.refl _, OInts.nil _ _ _⟩
  case round =>
    obtain ⟨k, hk, hk2, rfl, hB, hown⟩ := hrel
    have hsB := hB.size
    by_cases hlt : k < l.length
    · have hkI : (k : Int) < (l.length : Int) := by omega
      obtain ⟨b, o, rfl, hc⟩ := HL.out k hlt
      replace hc := hB.keep hc
      have hrk := HR.out k hlt
      have HNX : Hid (nmL (l.take (k + 1)) to = nmL (l.take k) to ++ [nmI to (l[k]?.getD 0)]) := Lib.hid (by rw [nmL, nmL, List.take_add_one, List.getElem?_eq_getElem hlt, List.map_append]; rfl)
      have hnl : (nmL (l.take k) to).length ≤ k := by simp [nmL]; omega
      generalize l[k]?.getD 0 = x at *
      have HOWN := Lib.hid hown; clear hown
      by_cases hx : x = -1
      · subst hx
        have hnm : nmI to (-1) = -1 := by simp [nmI]
        rw [hnm] at HNX
        clear hnm hrk
        generalize nmL (l.take k) to = L0 at *
        go_wp2_with (at_builtin; refine wpList_appendInt elInts rfl _ _ rfl rfl rfl HOWN.out rfl (by omega) (by omega) ?_; intro v' w' hown2 hb2)
        go_roundg (gk-1)
        case measure => omega
        case rel => exact ⟨k+1, by omega, by omega, by go_num, hB.upto hb2 (Nat.le_refl _), by rw [HNX.out]; exact hown2⟩
      · obtain ⟨n, rfl⟩ : ∃ n : Nat, x = n := ⟨x.toNat, by omega⟩
        have hn6 : n < to.length := by have := H6.out; omega
        obtain ⟨bt, ot, rfl, hct⟩ := HT.out n hn6
        replace hct := hB.keep hct
        have hnm : nmI to (n : Int) = to[n]?.getD 0 := by rw [nmI, if_neg hx]; simp
        rw [hnm] at HNX
        have hd : ((n : Int) != -1) = true := by simp <;> omega
        have hd2 : decide ((n : Int) < 0) = false := by simp <;> omega
        have hd3 : ¬ (n : Int) < 0 := by omega
        have hnI : (n : Int) < (to.length : Int) := by omega
        clear hnm hrk hx
        generalize to[n]?.getD 0 = y at *
        generalize nmL (l.take k) to = L0 at *
        go_wp2_with (at_builtin; refine wpList_appendInt elInts rfl _ _ rfl rfl rfl HOWN.out rfl (by omega) (by omega) ?_; intro v' w' hown2 hb2)
        go_roundg (gk-1)
        case measure => omega
        case rel => exact ⟨k+1, by omega, by omega, by go_num, hB.upto hb2 (Nat.le_refl _), by rw [HNX.out]; exact hown2⟩
    · obtain rfl : k = l.length := by omega
      rw [HF.out] at hown
      go_wp2_with fail
      go_ret
      exact ⟨_, rfl, hown, hB⟩

set_option maxHeartbeats 1000000 in
/-- the list with other names -/
theorem spell_c (lv tv : Value) (l to : List Int) (w : World) (h : Ints w lv l) (ht : Ints w tv to) (hr : ∀ x ∈ l, -1 ≤ x ∧ x ≤ 5) (h6 : to.length = 6) (hl : l.length ≤ 1000) : Calls Try.prog 22 #[lv, tv] w (ROInts 3 (nmL l to) w) := by
  obtain ⟨al, cl, rfl, _, _, HL⟩ := h.open_
  obtain ⟨at_, ct, rfl, _, _, HT⟩ := ht.open_
  have HR : Hid (∀ k, k < l.length → -1 ≤ l[k]?.getD 0 ∧ l[k]?.getD 0 ≤ 5) := Lib.hid (fun k hk => by have := hr l[k] (List.getElem_mem hk); simpa [hk] using this)
  have HF : Hid (nmL (l.take l.length) to = nmL l to) := Lib.hid (by rw [List.take_length])
  have H6 := Lib.hid h6
  clear h ht hr h6
  go_enter Try.func22, Try.ntmps22
  go_wp2_with fail
  go_loopg [5, 6] l.length (fun m v i wr => ∃ k : Nat, k ≤ l.length ∧ l.length ≤ k + m ∧ i = .int .i64 k ∧ Ext w wr ∧ OInts 3 wr w.heap.size v (nmL (l.take k) to))
  case atStart => exact ⟨0, by omega, by omega, rfl, Ext.refl _, OInts.nil _ _ _⟩
  case round =>
    obtain ⟨k, hk, hk2, rfl, hB, hown⟩ := hrel
    have hsB := hB.size
    by_cases hlt : k < l.length
    · have hkI : (k : Int) < (l.length : Int) := by omega
      obtain ⟨b, o, rfl, hc⟩ := HL.out k hlt
      replace hc := hB.keep hc
      have hrk := HR.out k hlt
      have HNX : Hid (nmL (l.take (k + 1)) to = nmL (l.take k) to ++ [nmI to (l[k]?.getD 0)]) := Lib.hid (by rw [nmL, nmL, List.take_add_one, List.getElem?_eq_getElem hlt, List.map_append]; rfl)
      have hnl : (nmL (l.take k) to).length ≤ k := by simp [nmL]; omega
      generalize l[k]?.getD 0 = x at *
      have HOWN := Lib.hid hown; clear hown
      by_cases hx : x = -1
      · subst hx
        have hnm : nmI to (-1) = -1 := by simp [nmI]
        rw [hnm] at HNX
        clear hnm hrk
        generalize nmL (l.take k) to = L0 at *
        go_wp2_with (at_builtin; refine wpList_appendInt elInts rfl _ _ rfl rfl rfl HOWN.out rfl (by omega) (by omega) ?_; intro v' w' hown2 hb2)
        go_roundg (gk-1)
        case measure => omega
        case rel => exact ⟨k+1, by omega, by omega, by go_num, hB.upto hb2 (Nat.le_refl _), by rw [HNX.out]; exact hown2⟩
      · obtain ⟨n, rfl⟩ : ∃ n : Nat, x = n := ⟨x.toNat, by omega⟩
        have hn6 : n < to.length := by have := H6.out; omega
        obtain ⟨bt, ot, rfl, hct⟩ := HT.out n hn6
        replace hct := hB.keep hct
        have hnm : nmI to (n : Int) = to[n]?.getD 0 := by rw [nmI, if_neg hx]; simp
        rw [hnm] at HNX
        have hd : ((n : Int) != -1) = true := by simp <;> omega
        have hd2 : decide ((n : Int) < 0) = false := by simp <;> omega
        have hd3 : ¬ (n : Int) < 0 := by omega
        have hnI : (n : Int) < (to.length : Int) := by omega
        clear hnm hrk hx
        generalize to[n]?.getD 0 = y at *
        generalize nmL (l.take k) to = L0 at *
        go_wp2_with (at_builtin; refine wpList_appendInt elInts rfl _ _ rfl rfl rfl HOWN.out rfl (by omega) (by omega) ?_; intro v' w' hown2 hb2)
        go_roundg (gk-1)
        case measure => omega
        case rel => exact ⟨k+1, by omega, by omega, by go_num, hB.upto hb2 (Nat.le_refl _), by rw [HNX.out]; exact hown2⟩
    · obtain rfl : k = l.length := by omega
      rw [HF.out] at hown
      go_wp2_with fail
      go_ret
      exact ⟨_, rfl, hown, hB⟩

def sidTo (m : List Int) (k : Nat) : List Int := ((List.range k).map fun (i : Nat) => (i : Int) - 1).filter fun n => hasB m n
theorem sidTo_next (m : List Int) (k : Nat) : sidTo m (k + 1) = if hasB m ((k : Int) - 1) then sidTo m k ++ [(k : Int) - 1] else sidTo m k := by
  unfold sidTo
  rw [List.range_succ, List.map_append, List.filter_append]
  cases h : hasB m ((k : Int) - 1) <;> simp [h]
theorem sidTo_len (m : List Int) (k : Nat) : (sidTo m k).length ≤ k := by
  unfold sidTo
  refine Nat.le_trans (List.length_filter_le _ _) ?_
  simp
set_option maxHeartbeats 1000000 in
theorem sides_c (lv tv : Value) (l to : List Int) (w : World) (h : Ints w lv l) (ht : Ints w tv to) (hr : ∀ x ∈ l, -1 ≤ x ∧ x ≤ 5) (h6 : to.length = 6) (hl : l.length ≤ 1000) : Calls Try.prog 23 #[lv, tv] w (ROInts 3 (sidL l to) w) := by
  have HS := Lib.hid (spell_c lv tv l to w h ht hr h6 hl)
  obtain ⟨al, cl, rfl, _⟩ := h.open_
  obtain ⟨at_, ct, rfl, _⟩ := ht.open_
  have HF : Hid (sidTo (nmL l to) 7 = sidL l to) := Lib.hid rfl
  generalize sidL l to = R at *
  clear h ht hr h6
  go_enter Try.func23, Try.ntmps23
  go_wp2_with fail
  refine HS.out.mono ?_; rintro e w1 ⟨vm, rfl, hom, hx1⟩
  have HM := Lib.hid hom.ints; clear hom
  generalize nmL l to = M at *
  go_wp2_with fail
  go_loopg [5, 7] 7 (fun m v i wr => ∃ k : Nat, k ≤ 7 ∧ 7 ≤ k + m ∧ i = .int .i64 ((k : Int) - 1) ∧ Ext w1 wr ∧ OInts 3 wr w1.heap.size v (sidTo M k))
  case atStart => exact ⟨0, by omega, by omega, rfl, Ext.refl _, OInts.nil _ _ _⟩
  case round =>
    obtain ⟨k, hk, hk2, rfl, hB, hown⟩ := hrel
    have hsB := hB.size
    have hw0 : IntKind.i64.wrap ((k : Int) - 1 + 1) = (k : Int) - 1 + 1 := IntWalk.i64_in _ (by omega)
    by_cases hlt : k < 7
    · have hkI : (k : Int) - 1 < 6 := by omega
      have HH := Lib.hid (has_c vm M ((k : Int) - 1) wr (HM.out.ext hB))
      have HNX := Lib.hid (sidTo_next M k)
      have hnl := sidTo_len M k
      have HOWN := Lib.hid hown; clear hown
      generalize hnn : (k : Int) - 1 = n at *
      have HNN := Lib.hid hnn; clear hnn
      cases hb : hasB M n
      · rw [hb] at HH HNX
        clear hb
        generalize sidTo M k = L0 at *
        go_wp2_with fail
        refine HH.out.mono ?_; rintro e w2 ⟨rfl, rfl⟩
        go_wp2_with fail
        go_roundg (gk-1)
        case measure => omega
        case rel => exact ⟨k+1, by omega, by omega, by have := HNN.out; go_num, hB, by rw [HNX.out]; exact HOWN.out⟩
      · rw [hb] at HH HNX
        clear hb
        generalize sidTo M k = L0 at *
        go_wp2_with fail
        refine HH.out.mono ?_; rintro e w2 ⟨rfl, rfl⟩
        go_wp2_with (at_builtin; refine wpList_appendInt elInts rfl _ _ rfl rfl rfl HOWN.out rfl (by omega) (by omega) ?_; intro v' w' hown2 hb2)
        go_roundg (gk-1)
        case measure => omega
        case rel => exact ⟨k+1, by omega, by omega, by have := HNN.out; go_num, hB.upto hb2 (Nat.le_refl _), by rw [HNX.out]; exact hown2⟩
    · obtain rfl : k = 7 := by omega
      rw [HF.out] at hown
      have HO := Lib.hid (hown.low hx1.size); clear hown
      go_wp2_with fail
      go_ret
      exact ⟨_, rfl, HO.out, hx1.trans hB⟩
theorem ord_false {l : List Int} {i : Nat} (hi : i < 6) (h : hasB l i = false) : ordB l = false := by
  unfold ordB
  rw [allB_false hi h, Bool.and_false]
set_option maxHeartbeats 1000000 in
theorem isOrd1_c (v : Value) (l : List Int) (w : World) (h : Ints w v l) : Calls Try.prog 46 #[v, .int .i64 6] w (RV (.bool (ordB l)) w) := by
  have HH := Lib.hid (fun (i : Int) => has_c v l i w h)
  obtain ⟨al, cl, rfl, _⟩ := h.open_
  clear h
  by_cases hl : l.length = 6
  · have hd : ((l.length : Int) != 6) = false := by simp [hl]
    have HE : Hid ((∀ j : Nat, j < 6 → hasB l j = true) → ordB l = true) := Lib.hid (fun h => by unfold ordB; rw [decide_eq_true hl, allB_true h]; rfl)
    have HN : Hid (∀ i : Nat, i < 6 → hasB l i = false → ordB l = false) := Lib.hid (fun i hi h => ord_false hi h)
    generalize ordB l = R at *
    clear hl
    go_enter Try.func46, Try.ntmps46
    go_wp2_with fail
    go_loopg [5] 6 (fun m i wr => ∃ k : Nat, k ≤ 6 ∧ 6 ≤ k + m ∧ i = .int .i64 k ∧ w = wr ∧ Hid (∀ j : Nat, j < k → hasB l j = true))
    case atStart => exact ⟨0, by omega, by omega, rfl, rfl, fun j hj => by omega⟩
    case round =>
      obtain ⟨k, hk, hk2, rfl, rfl, HK⟩ := hrel
      by_cases hlt : k < 6
      · have hkI : (k : Int) < 6 := by omega
        have H1 := Lib.hid (HH.out (k : Int))
        cases hb : hasB l k
        · rw [hb] at H1
          have HR := Lib.hid (HN.out k hlt hb)
          clear hb
          go_wp2_with fail
          refine H1.out.mono ?_; rintro e w2 ⟨rfl, rfl⟩
          go_wp2_with fail
          go_ret
          exact RV.bool HR.out.symm (Ext.refl _)
        · rw [hb] at H1
          have HKN := Lib.hid (range_step (f := fun j : Nat => hasB l j) HK.out hb)
          clear hb
          go_wp2_with fail
          refine H1.out.mono ?_; rintro e w2 ⟨rfl, rfl⟩
          go_wp2_with fail
          go_roundg (gk-1)
          case measure => omega
          case rel => exact ⟨k+1, by omega, by omega, by go_num, rfl, HKN.out⟩
      · have hkI : ¬ (k : Int) < 6 := by omega
        have HR := Lib.hid (HE.out (fun j hj => HK.out j (by omega)))
        go_wp2_with fail
        go_ret
        exact RV.bool HR.out.symm (Ext.refl _)
  · have hd : ((l.length : Int) != 6) = true := by simp <;> omega
    rw [show ordB l = false by unfold ordB; rw [decide_eq_false hl]; rfl]
    clear hl
    go_enter Try.func46, Try.ntmps46
    go_wp2_with fail
    go_ret
    exact RV.bool rfl (Ext.refl _)
theorem rIsOrder_c (v : Value) (l : List Int) (w : World) (h : Ints w v l) : Calls Try.prog 21 #[v] w (RV (.bool (ordB l)) w) := by
  have H1 := Lib.hid (isOrd1_c v l w h)
  obtain ⟨al, cl, rfl, _⟩ := h.open_
  clear h
  generalize ordB l = R at *
  go_enter Try.func21, Try.ntmps21
  go_wp2_with fail
  refine H1.out.mono ?_; rintro e w2 ⟨rfl, hx⟩
  go_wp2_with fail
  go_ret
  exact RV.bool rfl hx
theorem word_nb {l : List Int} (h : validW l = 0) : ∀ x ∈ l, -1 ≤ x ∧ x ≤ 5 := fun x hx => by have := snd_mem (validW_zero h).2 x hx; omega
theorem ord_len {to : List Int} (h : ordB to = true) : to.length = 6 := (ord_perm h).length_eq

set_option maxHeartbeats 1000000 in
theorem Spell_c (v tv : Value) (l to : List Int) (w : World) (h : Ints w v l) (ht : Ints w tv to) (hl : l.length ≤ 1000) : Calls Try.prog 9 #[v, tv] w (RO2 (splL l to) (renK (validW l) to) w) := by
  have HI := Lib.hid h
  have HTI := Lib.hid ht
  have HV := Lib.hid (ValidateWord_c v l w h)
  obtain ⟨al, cl, rfl, _⟩ := h.open_
  obtain ⟨at_, ct, rfl, _⟩ := ht.open_
  clear h ht
  unfold splL renK
  by_cases h0 : validW l = 0
  · rw [if_pos h0]
    have HNB := Lib.hid (word_nb h0)
    rw [h0] at HV ⊢
    clear h0
    have HO := Lib.hid (fun W (hW : Ext w W) => isOrder_c _ to W (HTI.out.ext hW))
    cases hb : ordB to
    · rw [hb] at HO
      rw [if_neg (by decide), if_neg (by decide)]
      clear hb
      go_enter Try.func9, Try.ntmps9
      go_wp2_with fail
      refine HV.out.mono ?_; rintro e w1 ⟨rfl, hx1⟩
      go_wp2_with fail
      refine (HO.out w1 hx1).mono ?_; rintro e w2 ⟨rfl, hx2⟩
      go_wp2_with fail
      go_ret2
      exact ⟨_, rfl, OInts.nil _ _ _, hx1.trans hx2⟩
    · rw [hb] at HO
      have H6 := Lib.hid (ord_len hb)
      rw [if_pos ⟨rfl, rfl⟩, if_pos rfl]
      clear hb
      go_enter Try.func9, Try.ntmps9
      go_wp2_with fail
      refine HV.out.mono ?_; rintro e w1 ⟨rfl, hx1⟩
      go_wp2_with fail
      refine (HO.out w1 hx1).mono ?_; rintro e w2 ⟨rfl, hx2⟩
      have hx12 := hx1.trans hx2
      go_wp2_with fail
      refine (named_c _ _ l to w2 (HI.out.ext hx12) (HTI.out.ext hx12) HNB.out H6.out hl).mono ?_; rintro e w3 ⟨v3, rfl, ho3, hx3⟩
      have HO3 := Lib.hid (ho3.low hx12.size); clear ho3
      go_wp2_with fail
      go_ret2
      exact ⟨_, rfl, HO3.out, hx12.trans hx3⟩
  · rw [if_neg (fun h => h0 h.1), if_neg h0]
    have hk : (validW l != 0) = true := by simp [h0]
    generalize validW l = k at *
    clear h0
    go_enter Try.func9, Try.ntmps9
    go_wp2_with fail
    refine HV.out.mono ?_; rintro e w1 ⟨rfl, hx1⟩
    go_wp2_with fail
    go_ret2
    exact ⟨_, rfl, OInts.nil _ _ _, hx1⟩

set_option maxHeartbeats 1000000 in
theorem rSpell_c (v tv : Value) (l to : List Int) (w : World) (h : Ints w v l) (ht : Ints w tv to) (hl : l.length ≤ 1000) : Calls Try.prog 10 #[v, tv] w (RO2 (splL l to) (renK (validW l) to) w) := by
  have HI := Lib.hid h
  have HTI := Lib.hid ht
  have HV := Lib.hid (rValidateWord_c v l w h)
  obtain ⟨al, cl, rfl, _⟩ := h.open_
  obtain ⟨at_, ct, rfl, _⟩ := ht.open_
  clear h ht
  unfold splL renK
  by_cases h0 : validW l = 0
  · rw [if_pos h0]
    have HNB := Lib.hid (word_nb h0)
    rw [h0] at HV ⊢
    clear h0
    have HO := Lib.hid (fun W (hW : Ext w W) => rIsOrder_c _ to W (HTI.out.ext hW))
    cases hb : ordB to
    · rw [hb] at HO
      rw [if_neg (by decide), if_neg (by decide)]
      clear hb
      go_enter Try.func10, Try.ntmps10
      go_wp2_with fail
      refine HV.out.mono ?_; rintro e w1 ⟨rfl, hx1⟩
      go_wp2_with fail
      refine (HO.out w1 hx1).mono ?_; rintro e w2 ⟨rfl, hx2⟩
      go_wp2_with fail
      go_ret2
      exact ⟨_, rfl, OInts.nil _ _ _, hx1.trans hx2⟩
    · rw [hb] at HO
      have H6 := Lib.hid (ord_len hb)
      rw [if_pos ⟨rfl, rfl⟩, if_pos rfl]
      clear hb
      go_enter Try.func10, Try.ntmps10
      go_wp2_with fail
      refine HV.out.mono ?_; rintro e w1 ⟨rfl, hx1⟩
      go_wp2_with fail
      refine (HO.out w1 hx1).mono ?_; rintro e w2 ⟨rfl, hx2⟩
      have hx12 := hx1.trans hx2
      go_wp2_with fail
      refine (spell_c _ _ l to w2 (HI.out.ext hx12) (HTI.out.ext hx12) HNB.out H6.out hl).mono ?_; rintro e w3 ⟨v3, rfl, ho3, hx3⟩
      have HO3 := Lib.hid (ho3.low hx12.size); clear ho3
      go_wp2_with fail
      go_ret2
      exact ⟨_, rfl, HO3.out, hx12.trans hx3⟩
  · rw [if_neg (fun h => h0 h.1), if_neg h0]
    have hk : (validW l != 0) = true := by simp [h0]
    generalize validW l = k at *
    clear h0
    go_enter Try.func10, Try.ntmps10
    go_wp2_with fail
    refine HV.out.mono ?_; rintro e w1 ⟨rfl, hx1⟩
    go_wp2_with fail
    go_ret2
    exact ⟨_, rfl, OInts.nil _ _ _, hx1⟩
end Go.Proofs.Ythmdecgkbjdabaa
