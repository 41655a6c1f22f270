/- Read of the reference. -/
import Derived.Test.YtpmlcfgbfhgpgaaGreatDoorBkF
namespace Go.Proofs.YtpmlcfgbfhgpgaaGreatDoor
open Go.RowKit Go.Shelf
set_option linter.unusedVariables false

theorem readOne_ref (s : Int) (bk : Bs) : readOne s bk = if cutF bk 10 && cutF (cutA bk 10) 32 && rightB (cutR (cutA bk 10) 32) && decide (Lib.itoa (sumB s (cutR (cutA bk 10) 32)) = cutA (cutA bk 10) 32) then some (cutR (cutA bk 10) 32, bk.drop ((cutA bk 10).length + 1)) else none := by
  unfold readOne
  simp only
  rw [show bk.takeWhile (· != 10) = cutA bk 10 from rfl]
  have hle1 := cutA_le bk 10
  have hle2 := cutA_le (cutA bk 10) 32
  generalize hA : cutA bk 10 = A at *
  rw [show A.takeWhile (· != 32) = cutA A 32 from rfl]
  have hR : A.drop ((cutA A 32).length + 1) = cutR A 32 := rfl
  rw [hR]
  by_cases h1 : A.length = bk.length
  · rw [if_pos h1, show cutF bk 10 = false from by unfold cutF; rw [hA]; simp; omega]
    simp
  · rw [if_neg h1, show cutF bk 10 = true from by unfold cutF; rw [hA]; simp; omega]
    by_cases h2 : (cutA A 32).length = A.length
    · rw [if_pos h2, show cutF A 32 = false from by unfold cutF; simp; omega]
      simp
    · rw [if_neg h2, show cutF A 32 = true from by unfold cutF; simp; omega]
      rw [show (Lib.itoa (sumB s (cutR A 32)) == cutA A 32) = decide (Lib.itoa (sumB s (cutR A 32)) = cutA A 32) from by rw [Bool.eq_iff_iff]; simp]
      simp
theorem cut_nin (l : Bs) (c : UInt8) : c ∉ cutA l c := by
  by_cases h : (l.takeWhile (· != c)).length = l.length
  · exact fun hm => takeWhile_len l c h ((List.takeWhile_sublist _).subset hm)
  · exact (takeWhile_split l c h).2
theorem cut_ne {l : Bs} {c : UInt8} {j : Nat} (h : j < (cutA l c).length) (h2 : j < l.length) : l[j] ≠ c := by
  have e : l[j]? = (cutA l c)[j]? := by
    conv => rhs; rw [cutA_take]
    rw [List.getElem?_take_of_lt h]
  rw [List.getElem?_eq_getElem h2, List.getElem?_eq_getElem h] at e
  injection e with e
  rw [e]
  intro hm
  have := List.getElem_mem h
  rw [hm] at this
  exact cut_nin l c this
theorem cut_eq {l : Bs} {c : UInt8} (h2 : (cutA l c).length < l.length) : l[(cutA l c).length] = c := by
  have := (takeWhile_split l c (by unfold cutA at h2; omega)).1
  have h3 : l[(cutA l c).length]? = (cutA l c ++ c :: l.drop ((cutA l c).length + 1))[(cutA l c).length]? := congrArg (fun x : Bs => x[(cutA l c).length]?) this
  rw [List.getElem?_append_right (Nat.le_refl _), Nat.sub_self, List.getElem?_cons_zero, List.getElem?_eq_getElem h2] at h3
  injection h3
theorem cut_ne8 {b : ByteArray} {c : UInt8} {j : Nat} (h : j < (cutA (txt b) c).length) (h2 : j < b.size) : (b[j]'h2).toNat ≠ c.toNat := by
  intro e
  exact cut_ne h (by rwa [txt_size]) ((bs_get b j h2 (by show j < (txt b).length; rwa [txt_size])).trans (UInt8.toNat_inj.1 e))
theorem cut_eq8 {b : ByteArray} {c : UInt8} (h2 : (cutA (txt b) c).length < b.size) : (b[(cutA (txt b) c).length]'h2).toNat = c.toNat := by
  rw [← bs_get b _ h2 (by show _ < (txt b).length; rwa [txt_size])]
  exact congrArg UInt8.toNat (cut_eq (l := txt b) (by rwa [txt_size]))
/-- within the first line -/
theorem cut_in (l : Bs) (j : Nat) (h : j < (cutA l 10).length) (h2 : j < l.length) : (cutA l 10)[j] = l[j] := by
  have e : l[j]? = (cutA l 10)[j]? := by
    conv => rhs; rw [cutA_take]
    rw [List.getElem?_take_of_lt h]
  rw [List.getElem?_eq_getElem h2, List.getElem?_eq_getElem h] at e
  injection e with e; exact e.symm
theorem cut2_ne8 {b : ByteArray} {j : Nat} (h : j < (cutA (cutA (txt b) 10) 32).length) (h2 : j < b.size) : (b[j]'h2).toNat ≠ 32 := by
  have hle := cutA_le (cutA (txt b) 10) 32
  intro e
  have := cut_ne h (by omega)
  rw [cut_in _ j (by omega) (by rwa [txt_size])] at this
  exact this ((bs_get b j h2 (by show j < (txt b).length; rwa [txt_size])).trans (UInt8.toNat_inj.1 (e.trans (by rfl))))
theorem cut2_eq8 {b : ByteArray} (h : (cutA (cutA (txt b) 10) 32).length < (cutA (txt b) 10).length) (h2 : (cutA (cutA (txt b) 10) 32).length < b.size) : (b[(cutA (cutA (txt b) 10) 32).length]'h2).toNat = 32 := by
  have := cut_eq h
  rw [cut_in _ _ h (by rwa [txt_size])] at this
  rw [← bs_get b _ h2 (by show _ < (txt b).length; rwa [txt_size])]
  exact congrArg UInt8.toNat this
/-- the order of a line -/
theorem extract_line (b : ByteArray) (i e : Nat) (h1 : i ≤ e) (h2 : e ≤ b.size) : b.extract i e = ofBs (((txt b).take e).drop i) := by
  apply ByteArray.ext
  apply Array.toList_inj.1
  rw [ByteArray.data_extract]
  simp [ofBs, txt, -ByteArray.size_data, List.drop_take]

set_option maxHeartbeats 4000000 in
set_option maxRecDepth 100000 in
theorem rRead_c (t : ByteArray) (w : World) (hE : Env w) (ht : t.size ≤ 100000) :
    Calls Tryz.prog 40 #[.string t] w fun e w' => ∃ v, e = .returned (.tuple #[v, .string (readRest (txt t))]) ∧ OStrs w' w.heap.size v (readOrders (txt t)) ∧ Ext w w' := by
  have HE := Lib.hid hE; clear hE
  have HRO : Hid (∀ L r, readB (txt t) = (L, r) → readOrders (txt t) = L.map ofBs ∧ readRest (txt t) = ofBs r) := Lib.hid fun L r h => by unfold readOrders readRest; rw [h]; exact ⟨rfl, rfl⟩
  go_enter Tryz.func40, Tryz.ntmps40
  go_wp2_with fail
  go_loopg [4, 5, 0] 100 (fun m v q bk wr => ∃ (k : Nat) (L : List ByteArray) (u : Value) (s : Int) (b : ByteArray), k ≤ 100 ∧ 100 ≤ k + m ∧ L.length = k ∧ u = v ∧ q = .int .i64 s ∧ bk = .string b ∧ 0 ≤ s ∧ s < 1000003 ∧ b.size ≤ 100000 ∧ Ext w wr ∧ OStrs wr w.heap.size u L ∧
      Hid (readB (txt t) = (L.map txt ++ (readF (100 - k) s (txt b)).1, (readF (100 - k) s (txt b)).2)))
  case atStart => exact ⟨0, [], _, 0, t, by omega, by omega, rfl, rfl, rfl, rfl, by omega, by omega, ht, Ext.refl _, OCel.nil _ _ _ _ _, Lib.hid (by simp [readB])⟩
  case round =>
    obtain ⟨k, L, u, s, b, hk, hk2, hLk, rfl, rfl, rfl, hs0, hs1, hb, hB, hown, hR⟩ := hrel
    obtain ⟨g1, rfl⟩ : ∃ g : Nat, g = gk := ⟨_, rfl⟩
    obtain ⟨ua, uc, rfl, hu1, hu2, _⟩ := (Cel.own encT_len hown).open_
    rw [hLk] at hown hu1 ⊢
    by_cases hlt : k < 100
    · obtain ⟨n, hn⟩ : ∃ n, 100 - k = n + 1 := ⟨99 - k, by omega⟩
      have hn2 : 100 - (k + 1) = n := by omega
      have HRF : Hid (readF (100 - k) s (txt b) = match readOne s (txt b) with | none => ([], txt b) | some (o, r) => (o :: (readF n (sumB s o) r).1, (readF n (sumB s o) r).2)) := Lib.hid (by rw [hn]; rfl)
      have HN2 := Lib.hid hn2; clear hn hn2
      rw [readOne_ref] at HRF
      have HC1 := Lib.hid (fun j h h2 => cut_ne8 (b := b) (c := 10) (j := j) h h2)
      have HC2 := Lib.hid (fun h2 => cut_eq8 (b := b) (c := 10) h2)
      have HC3 := Lib.hid (fun j h h2 => cut2_ne8 (b := b) (j := j) h h2)
      have HC4 := Lib.hid (fun h h2 => cut2_eq8 (b := b) h h2)
      have HF1 : Hid (cutF (txt b) 10 = decide ((cutA (txt b) 10).length < b.size)) := Lib.hid (by rw [cutF, txt_size])
      have HF2 : Hid (cutF (cutA (txt b) 10) 32 = decide ((cutA (cutA (txt b) 10) 32).length < (cutA (txt b) 10).length)) := Lib.hid rfl
      have hAl := cutA_le (txt b) 10
      rw [txt_size] at hAl
      have hAl2 := cutA_le (cutA (txt b) 10) 32
      have HXA : Hid ((cutA (cutA (txt b) 10) 32).length < (cutA (txt b) 10).length → b.extract ((cutA (cutA (txt b) 10) 32).length + 1) (cutA (txt b) 10).length = ofBs (cutR (cutA (txt b) 10) 32)) := Lib.hid fun h => by
        rw [extract_line b _ _ (by omega) hAl, ← cutA_take]; rfl
      have HXB : Hid (b.extract 0 (cutA (cutA (txt b) 10) 32).length = ofBs (cutA (cutA (txt b) 10) 32)) := Lib.hid (by
        rw [extract_take b _ (by omega)]
        conv => rhs; rw [cutA_take]
        conv => rhs; rw [cutA_take (txt b) 10]
        rw [List.take_take, Nat.min_eq_left (by rw [← cutA_take]; exact hAl2), ← cutA_take]; rfl)
      generalize cutR (cutA (txt b) 10) 32 = O at *
      generalize cutF (cutA (txt b) 10) 32 = F2 at *
      generalize cutF (txt b) 10 = F1 at *
      generalize cutA (cutA (txt b) 10) 32 = A2 at *
      generalize cutA (txt b) 10 = A at *
      have hfin : Hid ((F1 && F2 && rightB O && decide (Lib.itoa (sumB s O) = A2)) = false → ∃ v, (Ending.returned (.tuple #[.slice ua k uc, .string b]) : Ending) = .returned (.tuple #[v, .string (readRest (txt t))]) ∧ OStrs wr w.heap.size v (readOrders (txt t)) ∧ Ext w wr) := Lib.hid fun h => by
        obtain ⟨h1, h2⟩ := HRO.out (L.map txt) (txt b) (by rw [hR.out, HRF.out, h]; simp)
        refine ⟨.slice ua k uc, by rw [h2]; rfl, ?_, hB⟩
        rw [h1, List.map_map]
        have : L.map (ofBs ∘ txt) = L := by rw [show (ofBs ∘ txt) = id from funext fun x => rfl]; simp
        rw [this]; exact hown
      go_wp2_with fail
      go_loopg [7] A.length (fun m i wr2 => ∃ j : Nat, j ≤ A.length ∧ A.length ≤ j + m ∧ i = .int .i64 j ∧ wr = wr2)
      case atStart => exact ⟨0, by omega, by omega, rfl, rfl⟩
      case round =>
        obtain ⟨j, hj, hj2, rfl, rfl⟩ := hrel
        by_cases hjl : j < A.length
        · have hjb : j < b.size := by omega
          obtain ⟨x, hx⟩ : ∃ x : Nat, (b[j]'hjb).toNat = x := ⟨_, rfl⟩
          have hx10 : ((x : Int) == 10) = false := by have := HC1.out j hjl hjb; simp at this ⊢; omega
          go_wp2_with fail
          go_roundg (gk-1)
          case measure => omega
          case rel => exact ⟨j+1, by omega, by omega, by go_num, rfl⟩
        · obtain rfl : j = A.length := by omega
          by_cases h1 : A.length < b.size
          · obtain ⟨x, hx⟩ : ∃ x : Nat, (b[A.length]'h1).toNat = x := ⟨_, rfl⟩
            have hx10 : ((x : Int) == 10) = true := by have := HC2.out h1; rw [hx] at this; rw [this]; rfl
            have hne : ((A.length : Int) == (b.size : Int)) = false := by simp; omega
            have HF1' : Hid (F1 = true) := Lib.hid (by rw [HF1.out]; simpa using h1)
            go_wp2_with fail
            go_loopg [6] A2.length (fun m i wr2 => ∃ j : Nat, j ≤ A2.length ∧ A2.length ≤ j + m ∧ i = .int .i64 j ∧ wr = wr2)
            case atStart => exact ⟨0, by omega, by omega, rfl, rfl⟩
            case round =>
              obtain ⟨j, hj, hj2, rfl, rfl⟩ := hrel
              by_cases hjl : j < A2.length
              · have hjb : j < b.size := by omega
                have hjA : j < A.length := by omega
                obtain ⟨x, hx⟩ : ∃ x : Nat, (b[j]'hjb).toNat = x := ⟨_, rfl⟩
                have hx32 : ((x : Int) == 32) = false := by have := HC3.out j hjl hjb; simp at this ⊢; omega
                go_wp2_with fail
                go_roundg (gk-1)
                case measure => omega
                case rel => exact ⟨j+1, by omega, by omega, by go_num, rfl⟩
              · obtain rfl : j = A2.length := by omega
                by_cases h2 : A2.length < A.length
                · have hjb : A2.length < b.size := by omega
                  obtain ⟨x, hx⟩ : ∃ x : Nat, (b[A2.length]'hjb).toNat = x := ⟨_, rfl⟩
                  have hx32 : ((x : Int) == 32) = true := by have := HC4.out h2 hjb; rw [hx] at this; rw [this]; rfl
                  have HF2' : Hid (F2 = true) := Lib.hid (by rw [HF2.out]; simpa using h2)
                  have h3e : ((A2.length : Int) == (A.length : Int)) = false := by simp; omega
                  have hXA := HXA.out h2
                  have hO : (b.extract (A2.length + 1) A.length).size ≤ 100000 := by rw [ByteArray.size_extract]; omega
                  have HTX := Lib.hid (Right_c (b.extract (A2.length + 1) A.length) wr hO)
                  rw [show (b.extract (A2.length + 1) A.length).data.toList = O from by rw [hXA]; exact txt_of O] at HTX
                  have HSU := Lib.hid (fun q : Later wr => rSum_c s (b.extract (A2.length + 1) A.length) q.w (wf_mk (by omega)) hO)
                  rw [show (b.extract (A2.length + 1) A.length).data.toList = O from by rw [hXA]; exact txt_of O] at HSU
                  have HXA2 := Lib.hid hXA; clear hXA
                  have hsr := sumB_range s O
                  have hA1 : 0 ≤ (A2.length : Int) + 1 ∧ (A2.length : Int) + 1 ≤ A.length ∧ (A.length : Int) ≤ b.size := ⟨by omega, by omega, by omega⟩
                  cases hR1 : rightB O
                  · rw [hR1] at HTX
                    have HR1 := Lib.hid hR1; clear hR1
                    go_wp2_with fail
                    refine HTX.out.mono ?_; rintro e w1 ⟨rfl, rfl⟩
                    go_wp2_with fail
                    go_ret2
                    exact hfin.out (by rw [HR1.out]; simp)
                  · rw [hR1] at HTX
                    have HR1 := Lib.hid hR1; clear hR1
                    go_wp2_with fail
                    refine HTX.out.mono ?_; rintro e w1 ⟨rfl, rfl⟩
                    have hIl := itoa_len hsr.1 hsr.2
                    have HIT := Lib.hid (fun q : Later wr => Itoa_c (sumB s O) q.w (HE.out.ext (hB.trans q.ext)) (by omega) (by omega))
                    have HD : Hid ((Lib.itoa (sumB s O) == (b.extract 0 A2.length).toList) = decide (Lib.itoa (sumB s O) = A2)) := Lib.hid (by
                      rw [HXB.out, byt, show (ofBs A2).data.toList = A2 from txt_of A2, Bool.eq_iff_iff]; simp)
                    have HX2 := Lib.hid (extract_drop b (A.length + 1) (by omega))
                    have HOW := Lib.hid hown
                    generalize hs2 : sumB s O = s2 at *
                    have HS2 := Lib.hid hs2; clear hs2
                    generalize hI : Lib.itoa s2 = I at *
                    have HI := Lib.hid hI; clear hI
                    cases hde : (I == (b.extract 0 A2.length).toList)
                    · have HDE := Lib.hid hde
                      go_wp2_with fail
                      refine wp_region_later (by kernel_rfl) (by kernel_rfl) ?_
                      repeat (go_big_quiet_step (first | (go_at_call 82; first | with_reducible exact Later.call (HIT.out _)) | (go_at_call 43; first | with_reducible exact Later.callP (HSU.out _))))
                      refine wpQuiet_nil ?_
                      intro w5 hw'
                      obtain ⟨⟨_, hx5⟩, rfl⟩ := hw'
                      go_wp2_with fail
                      go_ret2
                      obtain ⟨v, h1, h2, h3⟩ := hfin.out (by rw [← HD.out, HDE.out]; simp)
                      exact ⟨v, h1, h2.ext hx5, h3.trans hx5⟩
                    · have HDE := Lib.hid hde
                      go_wp2_with fail
                      refine wp_region_later (by kernel_rfl) (by kernel_rfl) ?_
                      repeat (go_big_quiet_step (first | (go_at_call 82; first | with_reducible exact Later.call (HIT.out _)) | (go_at_call 43; first | with_reducible exact Later.callP (HSU.out _))))
                      refine wpQuiet_nil ?_
                      intro w5 hw'
                      obtain ⟨⟨_, hx5⟩, rfl⟩ := hw'
                      have HSU2 := Lib.hid (HSU.out ⟨_, hx5⟩)
                      go_wp2_with fail
                      refine HSU2.out.mono ?_; rintro e w6 ⟨rfl, rfl⟩
                      have HOW5 := Lib.hid (hown.ext hx5)
                      have hB5 := hB.trans hx5
                      have hs5 := hB5.size
                      go_wp2_with (at_builtin; refine wpList_appendS (enc := encT) (L := L) (v := .slice ua k uc) (b.extract (A2.length + 1) A.length) elStr rfl _ _ rfl rfl rfl HOW5.out rfl rfl rfl (by intro u hu; simp only [encT, List.mem_cons, List.not_mem_nil, or_false] at hu; rcases hu with rfl; rfl) hs5 (by omega) (by omega) ?_; intro v' w' hown2 hb2 hg2 hn2)
                      go_roundg (g1-1)
                      case measure => omega
                      case rel =>
                        refine ⟨k + 1, L ++ [b.extract (A2.length + 1) A.length], _, _, _, by omega, by omega, by simp [hLk], rfl, rfl, rfl, hsr.1, hsr.2, by rw [ByteArray.size_extract]; omega, hB5.rowGrown HOW5.out hg2, hown2, Lib.hid ?_⟩
                        have hcond : (F1 && F2 && rightB O && decide (I = A2)) = true := by rw [← HD.out, HDE.out, HF1'.out, HF2'.out, HR1.out]; rfl
                        rw [hR.out, HRF.out, hcond, HX2.out, HXA2.out, HN2.out, List.map_append, List.append_assoc, if_pos rfl]
                        simp only [List.map_cons, List.map_nil, List.cons_append, List.nil_append]
                        rw [HS2.out, show txt (⟨((txt b).drop (A.length + 1)).toArray⟩ : ByteArray) = (txt b).drop (A.length + 1) from txt_of _, txt_of]
                · have h3 : A2.length = A.length := by omega
                  have h3e : ((A2.length : Int) == (A.length : Int)) = true := by rw [h3]; simp
                  have HF2' : Hid (F2 = false) := Lib.hid (by rw [HF2.out]; simpa using h2)
                  go_wp2_with fail
                  go_ret2
                  exact hfin.out (by rw [HF2'.out]; simp)
          · have h1e : A.length = b.size := by omega
            have hne : ((A.length : Int) == (b.size : Int)) = true := by rw [h1e]; simp
            have HF1' : Hid (F1 = false) := Lib.hid (by rw [HF1.out]; simpa using h1)
            go_wp2_with fail
            go_loopg [6] A2.length (fun m i wr2 => ∃ j : Nat, j ≤ A2.length ∧ A2.length ≤ j + m ∧ i = .int .i64 j ∧ wr = wr2)
            case atStart => exact ⟨0, by omega, by omega, rfl, rfl⟩
            case round =>
              obtain ⟨j, hj, hj2, rfl, rfl⟩ := hrel
              by_cases hjl : j < A2.length
              · have hjb : j < b.size := by omega
                have hjA : j < A.length := by omega
                obtain ⟨x, hx⟩ : ∃ x : Nat, (b[j]'hjb).toNat = x := ⟨_, rfl⟩
                have hx32 : ((x : Int) == 32) = false := by have := HC3.out j hjl hjb; simp at this ⊢; omega
                go_wp2_with fail
                go_roundg (gk-1)
                case measure => omega
                case rel => exact ⟨j+1, by omega, by omega, by go_num, rfl⟩
              · obtain rfl : j = A2.length := by omega
                by_cases h2 : A2.length < A.length
                · have hjb : A2.length < b.size := by omega
                  obtain ⟨x, hx⟩ : ∃ x : Nat, (b[A2.length]'hjb).toNat = x := ⟨_, rfl⟩
                  have hx32 : ((x : Int) == 32) = true := by have := HC4.out h2 hjb; rw [hx] at this; rw [this]; rfl
                  have HF2' : Hid (F2 = true) := Lib.hid (by rw [HF2.out]; simpa using h2)
                  go_wp2_with fail
                  go_ret2
                  exact hfin.out (by rw [HF1'.out]; rfl)
                · have h3 : A2.length = A.length := by omega
                  have h3e : ((A2.length : Int) == (A.length : Int)) = true := by rw [h3]; simp
                  have HF2' : Hid (F2 = false) := Lib.hid (by rw [HF2.out]; simpa using h2)
                  go_wp2_with fail
                  go_ret2
                  exact hfin.out (by rw [HF1'.out]; rfl)
    · obtain rfl : k = 100 := by omega
      obtain ⟨h1, h2⟩ := HRO.out _ _ hR.out
      have H1 := Lib.hid h1; have H2 := Lib.hid h2; clear h1 h2
      go_wp2_with fail
      go_ret2
      refine ⟨.slice ua 100 uc, by rw [H2.out]; rfl, ?_, hB⟩
      rw [H1.out]
      have : (L.map txt ++ (readF (100 - 100) s (txt b)).1).map ofBs = L := by
        rw [show (readF (100 - 100) s (txt b)).1 = [] from rfl, List.append_nil, List.map_map, show (ofBs ∘ txt) = id from funext fun x => rfl]; simp
      rw [this]; exact hown
end Go.Proofs.YtpmlcfgbfhgpgaaGreatDoor
