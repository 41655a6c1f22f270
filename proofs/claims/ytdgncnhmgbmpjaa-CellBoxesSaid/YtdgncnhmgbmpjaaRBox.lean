/- The smallest spec of cells, and whether they are a box, of the reference. -/
import Derived.Test.YtdgncnhmgbmpjaaBoxC
import Derived.Test.YtdgncnhmgbmpjaaRefC
namespace Go.Proofs.Ytdgncnhmgbmpjaa
open Go.RowKit Go.Shelf
set_option linter.unusedVariables false
theorem empty_rowB (V : World) : OInts 3 (V.alloc (.cells #[] 3)) V.heap.size (.slice (some ⟨V.heap.size, 0, none⟩) 0 0) [] :=
  ⟨rfl, .inr ⟨V.heap.size, 0, #[], rfl, Nat.le_refl _, World.alloc_heap_new V _, Nat.le_refl _, by unfold maxLen; omega, rfl, rfl⟩⟩
theorem hullTo_one (ls : List (List Int)) : hullTo ls 1 = ls[0]?.getD [] := by
  rw [hullTo, hullTo]
  refine List.ext_getElem (hullP_len _ _ _) fun t h1 h2 => ?_
  have := hullP_get (o := ls[0]?.getD []) (c := ls[0]?.getD []) (j := (ls[0]?.getD []).length) (t := t) h2
  rw [if_neg (fun h => h.2 rfl), List.getElem?_eq_getElem h1, List.getElem?_eq_getElem h2] at this
  exact this
set_option maxHeartbeats 1000000 in
set_option maxRecDepth 100000 in
theorem rhull_c (lv : Value) (ls : List (List Int)) (n : Nat) (w : World) (hl : Rows w lv ls) (h0 : 0 < ls.length) (hn : ∀ i, i < ls.length → (ls[i]?.getD []).length = n) (hn2 : n ≤ 1000) :
    Calls Try.prog 23 #[lv] w (ROInts 3 (hullL ls) w) := by
  obtain ⟨al, cl, rfl, hll, hml, HL⟩ := Rows.open_ hl
  clear hl
  obtain ⟨ba, oa, rfl, u0, hc0, hi0⟩ := HL.out 0 h0
  rw [Nat.add_zero] at hc0
  have hE : Ext w (w.alloc (.cells #[] 3)) := Ext.alloc _ _
  have hc0' := hE.keep hc0
  have hn0 := hn 0 h0
  have hr0 := (hi0.ext hE).raw
  rw [hn0] at hr0
  have HRW := Lib.hid hr0
  have HEM := Lib.hid (empty_rowB w)
  have hsz : w.heap.size ≤ (w.alloc (.cells #[] 3)).heap.size := hE.size
  obtain ⟨au0, cu0, rfl, _⟩ := hi0.open_
  rw [hn0] at hc0 hc0' HRW
  have HN := Lib.hid hn; clear hn hi0 hr0
  have HH1 := Lib.hid (hullTo_one ls)
  have h0I : (0 : Int) < (ls.length : Int) := by omega
  go_enter Try.func23, Try.ntmps23
  go_wp2_with (at_builtin; go_loud (refine wpList_appendAll (m := n) elInts rfl _ _ rfl rfl rfl HEM.out HRW.out (ints_one _) hsz (by simp; omega) (by simp; omega) ?_; intro v1 w1 ho1 hb1; have ho1' : OInts 3 w1 w.heap.size v1 (hullTo ls 1) := (by rw [HH1.out]; unfold OInts; rw [hn0]; have h9 := ho1; rw [List.length_nil, Nat.zero_add] at h9; exact h9); have hx1 : Ext w w1 := hE.upto hb1 (Nat.le_refl _); obtain ⟨a1, c1, rfl⟩ := rowV_open ho1'; have hl1 : (hullTo ls 1).length = n := (by rw [HH1.out]; exact hn0); rw [hl1] at ho1' ⊢; clear ho1 hb1 hl1))
  have HO1 := Lib.hid ho1'; clear ho1'
  go_loopg [4] ls.length (fun m i wr => ∃ k : Nat, 1 ≤ k ∧ k ≤ ls.length ∧ ls.length ≤ k + m ∧ i = .int .i64 k ∧ Ext w wr ∧ OInts 3 wr w.heap.size (.slice a1 n c1) (hullTo ls k))
  case atStart => exact ⟨1, by omega, by omega, by omega, rfl, hx1, HO1.out⟩
  case round =>
    clear HO1
    obtain ⟨g1, rfl⟩ : ∃ g : Nat, g = gk := ⟨_, rfl⟩
    obtain ⟨k, hk1, hk, hk2, rfl, hB, hown⟩ := hrel
    by_cases hlt : k < ls.length
    · have hkI : (k : Int) < (ls.length : Int) := by omega
      obtain ⟨b, o, he, u, hc, hi⟩ := HL.out k hlt
      injection he with he; injection he with he1 he2; subst he1 he2
      have hnk := HN.out k hlt
      obtain ⟨au, cu, rfl, _, _, HU⟩ := hi.open_
      have hln : (hullTo ls k).length = n := by rw [hullTo_len, hn0]
      have HS : Hid (hullTo ls (k + 1) = hullP (hullTo ls k) (ls[k]?.getD []) n) := by rw [hullTo, hln]; exact rfl
      rw [hnk] at hc HU
      generalize hc2 : ls[k]?.getD [] = c at *
      generalize hullTo ls k = O at *
      have HO := Lib.hid hown; clear hown hc2 hi
      go_wp2_with fail
      go_loopg [5] n (fun m i wr' => ∃ j : Nat, j ≤ n ∧ n ≤ j + m ∧ i = .int .i64 j ∧ Ext w wr' ∧ OInts 3 wr' w.heap.size (.slice a1 n c1) (hullP O c j))
      case atStart => exact ⟨0, by omega, by omega, rfl, hB, by rw [hullP_zero]; exact HO.out⟩
      case round =>
        clear HO
        obtain ⟨j, hj, hj2, rfl, hB', hown⟩ := hrel
        by_cases hjl : j < n
        · have hjI : (j : Int) < (n : Int) := by omega
          obtain ⟨b2, o2, rfl, hcu⟩ := HU.out j hjl
          have hcw := hB'.keep hc
          replace hcu := hB'.keep hcu
          obtain ⟨r, rc, he, hrc, hrm, hBr, hcur, hcell, hfr⟩ := hown.spot (i := j) (by rw [hullP_len]; omega)
          rw [hullP_at (by omega)] at hcell
          injection he with h1 h2 h3
          clear h2
          subst h1 h3
          have hlP := hullP_len O c j
          have HSM := Lib.hid (hullP_same (o := O) (c := c) (j := j))
          have HSE := Lib.hid (hullP_set (o := O) (c := c) (j := j) (by omega))
          have hs : ∀ s : Later wr, Ext w s.w := fun s => hB'.trans s.ext
          have q0 := fun s : Later wr => s.ext.keep hcell
          have q1 := fun s : Later wr => s.ext.keep hcw
          have q2 := fun s : Later wr => s.ext.keep hcu
          have HOW := Lib.hid hown
          have HPL : Hid ((hullP O c j).length = n) := Lib.hid (by omega)
          clear hcur hown hlP hcell hfr hcw hcu
          generalize hullP O c j = P1 at *
          generalize hoj : O[j]?.getD 0 = oj at *
          generalize hcj : c[j]?.getD 0 = cj at *
          clear hoj hcj
          by_cases heq : oj = cj
          · have hd : (oj != cj) = false := by simp [heq]
            have HE := Lib.hid (HSM.out heq)
            clear heq
            go_wp2_with fail
            refine wp_region_later (by kernel_rfl) (by kernel_rfl) ?_
            repeat (go_big_quiet_step (fail))
            refine wpQuiet_nil ?_
            intro w5 hw'
            obtain ⟨⟨_, hx5⟩, rfl⟩ := hw'
            clear hs q0 q1 q2
            go_wp2_with fail
            go_roundg (gk-1)
            case measure => omega
            case rel => exact ⟨j+1, by omega, by omega, by go_num, hB'.trans hx5, by rw [HE.out]; exact HOW.out.ext hx5⟩
          · have hd : (oj != cj) = true := by simp [heq]
            have HE := Lib.hid (HSE.out heq)
            clear heq
            go_wp2_with fail
            refine wp_region_later (by kernel_rfl) (by kernel_rfl) ?_
            repeat (go_big_quiet_step (fail))
            refine wpQuiet_nil ?_
            intro w5 hw'
            obtain ⟨⟨_, hx5⟩, rfl⟩ := hw'
            clear hs q0 q1 q2
            have hB5 := hB'.trans hx5
            have hown5 := HOW.out.ext hx5
            obtain ⟨r2, rc2, he2, _, _, hBr2, _, hcell, hfr⟩ := hown5.spot (i := j) (by rw [HPL.out]; exact hjl)
            injection he2 with h1 h2 h3
            clear h2
            injection h1 with h1; injection h1 with h1
            subst h1 h3
            have hst := OInts.set (by rw [HPL.out]; exact hown5) (i := j) (x := -1) (by rw [HPL.out]; exact hjl)
            rw [HPL.out] at hst
            have HST := Lib.hid hst
            clear hown5 hst
            go_wp2_with fail
            go_roundg (gk-1)
            case measure => omega
            case rel => exact ⟨j+1, by omega, by omega, by go_num, hB5.setCell hBr _ _, by rw [HE.out]; exact HST.out⟩
        · have hjn : j = n := by omega
          subst hjn
          have hjI : ¬ (j : Int) < (j : Int) := by omega
          have HOW := Lib.hid hown; clear hown
          go_wp2_with fail
          go_roundg (g1-1)
          case measure => omega
          case rel => exact ⟨k+1, by omega, by omega, by omega, by go_num, hB', by rw [HS.out]; exact HOW.out⟩
    · have hkl : k = ls.length := by omega
      subst hkl
      have hkI : ¬ (ls.length : Int) < (ls.length : Int) := by omega
      have HOW := Lib.hid hown; clear hown
      go_wp2_with fail
      go_ret
      exact ⟨_, rfl, by have h9 := HOW.out; have h8 : (hullL ls).length = n := by rw [hullL, hullTo_len, hn0]
                        unfold hullL at h8 ⊢
                        exact h9, hB⟩
set_option maxHeartbeats 1000000 in
theorem rlisted_c (sv ev lv : Value) (sizes : List Int) (es : List Ent) (ls : List (List Int)) (w : World) (hp : Par w sv ev sizes es) (hl : Rows w lv ls) :
    Calls Try.prog 22 #[.agg #[sv, ev], lv] w (RV (.int .i64 (checkI sizes es ls)) w) := by
  obtain ⟨wA, hwA⟩ : ∃ wA, wA = w.alloc (.cells #[sv, ev] 25) := ⟨_, rfl⟩
  have hA : Ext w wA := by rw [hwA]; exact Ext.alloc _ _
  have k0 : ∀ W, Ext wA W → W.cell? ⟨w.heap.size, 0, none⟩ = some sv := by rw [hwA]; exact kept_allocB w _ _ rfl
  have k1 : ∀ W, Ext wA W → W.cell? ⟨w.heap.size, 1, none⟩ = some ev := by rw [hwA]; exact kept_allocB w _ _ rfl
  have H0 := Ext.refl wA
  have HV := Lib.hid (rValidate_c sv ev sizes es wA (hp.s.ext hA) (hp.e.ext hA))
  have HP := Lib.hid (hp.ext hA)
  obtain ⟨al, cl, rfl, hll, hml, HL⟩ := Rows.open_ hl
  have HW := Lib.hid hwA
  clear hl hp hwA
  by_cases h0 : validI sizes es = 0
  · have V := validI_zero h0
    have HCK : Hid (checkI sizes es ls = if allB ls.length (fun i => isListB sizes (ls[i]?.getD []) 0) then 0 else 1) := Lib.hid (by rw [checkI, if_pos h0])
    rw [h0] at HV
    have HVV := Lib.hid V
    clear h0 V
    go_enter Try.func22, Try.ntmps22
    go_wp2_with fail
    rw [← HW.out]
    refine HV.out.mono ?_; rintro e w1 ⟨rfl, hx1⟩
    go_wp2_with fail
    go_loopg [6] ls.length (fun m i wr => ∃ k : Nat, k ≤ ls.length ∧ ls.length ≤ k + m ∧ i = .int .i64 k ∧ Ext wA wr ∧ Hid (∀ j, j < k → isListB sizes (ls[j]?.getD []) 0 = true))
    case atStart => exact ⟨0, by omega, by omega, rfl, hx1, fun j hj => by omega⟩
    case round =>
      obtain ⟨k, hk, hk2, rfl, hB, hE⟩ := hrel
      by_cases hlt : k < ls.length
      · have hkI : (k : Int) < (ls.length : Int) := by omega
        obtain ⟨b, o, rfl, u, hc, hi⟩ := HL.out k hlt
        have hcw := (hA.trans hB).keep hc
        have HI := Lib.hid (fun W (hW : Ext wr W) => isSpec_c sv ev u sizes (ls[k]?.getD []) 0 W (HP.out.s.ext (hB.trans hW)) (hi.ext (hA.trans (hB.trans hW))) HVV.out.ok.2.2)
        obtain ⟨au, cu, rfl, _⟩ := hi.open_
        clear hi hc
        have q0 := fun s : InC (Ext wr) => s.h.keep hcw
        have hs : ∀ s : InC (Ext wr), Ext wA s.w := fun s => hB.trans s.h
        cases hb : isListB sizes (ls[k]?.getD []) 0
        · rw [hb] at HI
          have HX := Lib.hid hb; clear hb
          generalize (ls[k]?.getD []).length = un at *
          go_wp2_with fail
          refine wp_region_peek (Ext wr) (fun _ => True) [] [.look 0, .look 1, .look 2, .look 3, .look 4, .go 5, .look 6] (by kernel_rfl) (by kernel_rfl) (by intro c a d v w h; cases d <;> exact h) ?_
          have hd : Ext wr { wr with drawn := wr.drawn + 1 } := drawnP_ext wr
          generalize { wr with drawn := wr.drawn + 1 } = W0 at *
          iterate 5 (refine wpPeek_look rfl ‹_› (fun K hK => ?_); go_simp; first | (refine hK _ ?_; clear hK K) | (refine ⟨_, fun _ => rfl, hK _ ?_⟩; clear hK K))
          clear hs q0
          refine wpPeek_go rfl rfl (fun K hK => ?_)
          go_wp2_with fail
          refine (HI.out W0 hd).mono ?_; rintro e w5 ⟨rfl, hx5'⟩
          have hx5 : Ext wr w5 := hd.trans hx5'
          go_wp2_with fail
          refine ⟨KeepE.of (fun h => h.trans hx5') (fun _ => trivial), ?_⟩
          clear hd hx5'
          have hd : Ext wr w5 := hx5
          iterate 1 (refine wpPeek_look rfl ‹_› (fun K hK => ?_); go_simp; first | (refine hK _ ?_; clear hK K) | (refine ⟨_, fun _ => rfl, hK _ ?_⟩; clear hK K))
          clear hd
          refine wpPeek_nil ?_
          have hB5 := hB.trans hx5
          go_wp2_with fail
          go_ret
          exact RV.int (by rw [HCK.out, allB_false hlt HX.out]; rfl) (hA.trans hB5)
        · rw [hb] at HI
          have HX := Lib.hid hb; clear hb
          generalize (ls[k]?.getD []).length = un at *
          go_wp2_with fail
          refine wp_region_peek (Ext wr) (fun _ => True) [] [.look 0, .look 1, .look 2, .look 3, .look 4, .go 5, .look 6] (by kernel_rfl) (by kernel_rfl) (by intro c a d v w h; cases d <;> exact h) ?_
          have hd : Ext wr { wr with drawn := wr.drawn + 1 } := drawnP_ext wr
          generalize { wr with drawn := wr.drawn + 1 } = W0 at *
          iterate 5 (refine wpPeek_look rfl ‹_› (fun K hK => ?_); go_simp; first | (refine hK _ ?_; clear hK K) | (refine ⟨_, fun _ => rfl, hK _ ?_⟩; clear hK K))
          clear hs q0
          refine wpPeek_go rfl rfl (fun K hK => ?_)
          go_wp2_with fail
          refine (HI.out W0 hd).mono ?_; rintro e w5 ⟨rfl, hx5'⟩
          have hx5 : Ext wr w5 := hd.trans hx5'
          go_wp2_with fail
          refine ⟨KeepE.of (fun h => h.trans hx5') (fun _ => trivial), ?_⟩
          clear hd hx5'
          have hd : Ext wr w5 := hx5
          iterate 1 (refine wpPeek_look rfl ‹_› (fun K hK => ?_); go_simp; first | (refine hK _ ?_; clear hK K) | (refine ⟨_, fun _ => rfl, hK _ ?_⟩; clear hK K))
          clear hd
          refine wpPeek_nil ?_
          have hB5 := hB.trans hx5
          go_wp2_with fail
          go_roundg (gk-1)
          case measure => omega
          case rel => exact ⟨k+1, by omega, by omega, by go_num, hB5, range_step hE.out HX.out⟩
      · have hkI : ¬ (k : Int) < (ls.length : Int) := by omega
        go_wp2_with fail
        go_ret
        exact RV.int (by rw [HCK.out, allB_true (fun j hj => hE.out j (by omega))]; rfl) (hA.trans hB)
  · rw [show checkI sizes es ls = validI sizes es by rw [checkI, if_neg h0]]
    have hk : (validI sizes es != 0) = true := by simp [h0]
    generalize validI sizes es = k at *
    clear h0
    go_enter Try.func22, Try.ntmps22
    go_wp2_with fail
    rw [← HW.out]
    refine HV.out.mono ?_; rintro e w1 ⟨rfl, hx1⟩
    go_wp2_with fail
    go_ret
    exact RV.int rfl (hA.trans hx1)
end Go.Proofs.Ytdgncnhmgbmpjaa
