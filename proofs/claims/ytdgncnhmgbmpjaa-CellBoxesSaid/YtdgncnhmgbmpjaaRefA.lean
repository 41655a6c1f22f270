/- Walks of the reference of layer 6: which paradigms are valid. -/
import Derived.Test.YtdgncnhmgbmpjaaCellI
namespace Go.Proofs.Ytdgncnhmgbmpjaa
open Go.RowKit Go.Shelf
set_option linter.unusedVariables false

set_option maxHeartbeats 400000 in
theorem rWithin_c (n lo hi : Int) (w : World) :
    Calls Try.prog 54 #[.int .i64 n, .int .i64 lo, .int .i64 hi] w (RP (.bool (decide (lo ≤ n) && decide (n ≤ hi))) w) := by
  by_cases h : lo ≤ n
  · go_enter Try.func54, Try.ntmps54
    go_wp2
    go_ret
    exact RP.bool (by simp [h])
  · go_enter Try.func54, Try.ntmps54
    go_wp2
    go_ret
    exact RP.bool (by simp; omega)

set_option maxHeartbeats 400000 in
theorem isSpec_c (sv ev vl : Value) (sizes l : List Int) (lo : Int) (w : World) (hs : Ints w sv sizes) (hl : Ints w vl l)
    (hr : ∀ i, i < sizes.length → 2 ≤ sizes[i]?.getD 0 ∧ sizes[i]?.getD 0 ≤ 3) :
    Calls Try.prog 42 #[.agg #[sv, ev], vl, .int .i64 lo] w (RV (.bool (isListB sizes l lo)) w) := by
  obtain ⟨az, cs, rfl, hls, hms, Hs⟩ := hs.open_
  obtain ⟨al, cl, rfl, hll, hml, Hl⟩ := hl.open_
  clear hs hl
  have Hr := Lib.hid hr; clear hr
  by_cases hlen : l.length = sizes.length
  · have H1 : ((l.length : Int) != (sizes.length : Int)) = false := by simp [hlen]
    have hl1 : l.length ≤ sizes.length := by omega
    have HL := Lib.hid hlen; clear hlen
    have hA := Ext.alloc w (.cells #[.slice az sizes.length cs, ev] 25)
    have hb0 := alloc_cell w #[.slice az sizes.length cs, ev] 25 (i := 0) rfl
    go_enter Try.func42, Try.ntmps42
    go_wp2_with fail
    go_loopg [7] l.length (fun m i wr => ∃ k : Nat, k ≤ l.length ∧ l.length ≤ k + m ∧ i = .int .i64 k ∧ Ext (w.alloc (.cells #[.slice az sizes.length cs, ev] 25)) wr ∧ Hid (∀ j, j < k → okAt (sizes[j]?.getD 0) (l[j]?.getD 0) lo = true))
    case atStart => exact ⟨0, by omega, by omega, rfl, Ext.refl _, fun j hj => by omega⟩
    case round =>
      obtain ⟨k, hk, hk2, rfl, hB, hE⟩ := hrel
      have hb0 := hB.keep hb0
      by_cases hlt : k < l.length
      · obtain ⟨ba, oa, rfl, hc1⟩ := Hl.out k hlt
        obtain ⟨bb, ob, rfl, hc2⟩ := Hs.out k (by omega)
        replace hc1 := (hA.trans hB).keep hc1
        replace hc2 := (hA.trans hB).keep hc2
        obtain ⟨hr1, hr2⟩ := Hr.out k (by omega)
        generalize hx : l[k]?.getD 0 = x at *
        generalize hy : sizes[k]?.getD 0 = y at *
        have Hx := Lib.hid hx; clear hx
        have Hy := Lib.hid hy; clear hy
        have HWi := Lib.hid (fun W => rWithin_c x lo (y - 1) W)
        have hoka : okAt y x lo = (decide (lo ≤ x) && decide (x ≤ y - 1)) := rfl
        rw [← hoka] at HWi
        cases hxy : okAt y x lo
        · rw [hxy] at HWi
          have HX := Lib.hid hxy; clear hxy hoka
          go_wp2_with fail
          go_quiet ((go_at_call 54; exact RP.quiet (HWi.out _)))
          go_wp2_with fail
          go_ret
          exact RV.bool (by rw [isListB, allB_false hlt (by rw [Hx.out, Hy.out]; exact HX.out)]; simp) ((hA.trans hB).trans (Ext.drewN _ _))
        · rw [hxy] at HWi
          have HX := Lib.hid hxy; clear hxy hoka
          go_wp2_with fail
          go_quiet ((go_at_call 54; exact RP.quiet (HWi.out _)))
          go_wp2_with fail
          go_roundg (gk-1)
          case measure => omega
          case rel => exact ⟨k+1, by omega, by omega, by go_num, hB.trans (Ext.drewN _ _), range_step hE.out (by rw [Hx.out, Hy.out]; exact HX.out)⟩
      · go_wp2_with fail
        go_ret
        exact RV.bool (by rw [isListB, allB_true (fun j hj => hE.out j (by omega))]; simp [HL.out]) (hA.trans hB)
  · have H1 : ((l.length : Int) != (sizes.length : Int)) = true := by simp; omega
    have HL := Lib.hid hlen; clear hlen
    go_enter Try.func42, Try.ntmps42
    go_wp2_with fail
    go_ret
    exact RV.bool (by have := HL.out; simp [isListB, this]) (Ext.alloc _ _)

set_option maxHeartbeats 1000000 in
theorem rValidate_c (sv ev : Value) (sizes : List Int) (es : List Ent) (w : World) (hs : Ints w sv sizes) (he : Ents w ev es) :
    Calls Try.prog 41 #[.agg #[sv, ev]] w (RV (.int .i64 (validI sizes es)) w) := by
  have hA := Ext.alloc w (.cells #[sv, ev] 25)
  have HS := Lib.hid hs; have HE := Lib.hid he
  obtain ⟨az, cz, rfl, hlz, hmz, Hz⟩ := hs.open_
  obtain ⟨ae, ce, rfl, hle, hme, He⟩ := he.open_
  clear hs he
  have hb0 := alloc_cell w #[.slice az sizes.length cz, .slice ae es.length ce] 25 (i := 0) rfl
  have hb1 := alloc_cell w #[.slice az sizes.length cz, .slice ae es.length ce] 25 (i := 1) rfl
  by_cases h1 : 1 ≤ sizes.length ∧ sizes.length ≤ 3
  · have hw : (decide ((1 : Int) ≤ (sizes.length : Int)) && decide ((sizes.length : Int) ≤ 3)) = true := by simp; omega
    have HW := Lib.hid hw; clear hw
    have hlen3 : sizes.length ≤ 3 := h1.2
    have H1 := Lib.hid h1; clear h1
    go_enter Try.func41, Try.ntmps41
    go_wp2_with fail
    refine (rWithin_c _ _ _ _).mono ?_; rw [HW.out]; rintro e w' ⟨rfl, rfl⟩
    go_wp2_with fail
    generalize hwA : w.alloc (.cells #[.slice az sizes.length cz, .slice ae es.length ce] 25) = wA at *
    have HWA := Lib.hid hwA; clear hwA
    go_loopg [3] sizes.length (fun m i wr => ∃ k : Nat, k ≤ sizes.length ∧ sizes.length ≤ k + m ∧ i = .int .i64 k ∧ wA = wr ∧ Hid (∀ j, j < k → (decide (2 ≤ sizes[j]?.getD 0) && decide (sizes[j]?.getD 0 ≤ 3)) = true))
    case atStart => exact ⟨0, by omega, by omega, rfl, rfl, fun j hj => by omega⟩
    case round =>
      obtain ⟨k, hk, hk2, rfl, rfl, hE⟩ := hrel
      by_cases hlt : k < sizes.length
      · obtain ⟨bb, ob, rfl, hc2⟩ := Hz.out k hlt
        replace hc2 := hA.keep hc2
        generalize hy : sizes[k]?.getD 0 = y at *
        have Hy := Lib.hid hy; clear hy
        have HWi := Lib.hid (fun W => rWithin_c y 2 3 W)
        cases hxy : (decide (2 ≤ y) && decide (y ≤ 3))
        · rw [hxy] at HWi
          have HX := Lib.hid hxy; clear hxy
          have HBAD := Lib.hid (allB_false (n := sizes.length) (f := fun i => (decide (2 ≤ sizes[i]?.getD 0) && decide (sizes[i]?.getD 0 ≤ 3))) hlt (by rw [Hy.out]; exact HX.out))
          go_wp2_with fail
          refine (HWi.out _).mono ?_; rintro e w' ⟨rfl, rfl⟩
          go_wp2_with fail
          go_ret
          exact RV.int (by rw [validI, if_neg]; rw [sizesB, HBAD.out]; simp) hA
        · rw [hxy] at HWi
          have HX := Lib.hid hxy; clear hxy
          go_wp2_with fail
          refine (HWi.out _).mono ?_; rintro e w' ⟨rfl, rfl⟩
          go_wp2_with fail
          go_roundg (gk-1)
          case measure => omega
          case rel => exact ⟨k+1, by omega, by omega, by go_num, rfl, range_step hE.out (by rw [Hy.out]; exact HX.out)⟩
      · have hsz : sizesB sizes = true := by
          rw [sizesB, allB_true (fun j hj => hE.out j (by omega))]; have := H1.out; simp; omega
        have HOK := Lib.hid ((sizesB_iff _).1 hsz)
        have HSZ := Lib.hid hsz; clear hsz
        by_cases h10 : es.length ≤ 10
        · have hv : validI sizes es = if allB es.length (fun i => entB sizes (ent es i)) then 0 else 1 := by rw [validI, if_pos HSZ.out, if_pos h10]
          have HV := Lib.hid hv
          clear hv
          go_wp2_with fail
          go_loopg [4] es.length (fun m i wr => ∃ k : Nat, k ≤ es.length ∧ es.length ≤ k + m ∧ i = .int .i64 k ∧ Ext wA wr ∧ Hid (∀ j, j < k → entB sizes (ent es j) = true))
          case atStart => exact ⟨0, by omega, by omega, rfl, Ext.refl _, fun j hj => by omega⟩
          case round =>
            obtain ⟨k, hk, hk2, rfl, hB, hE⟩ := hrel
            have hb1' := hB.keep hb1
            by_cases hlt : k < es.length
            · obtain ⟨ba, oa, rfl, u, hc1, hi1, hf1⟩ := He.out k hlt
              have hX := hA.trans hB
              have q0 := fun s : Later wr => (hB.trans s.ext).keep hb0
              have q1 := fun s : Later wr => (hB.trans s.ext).keep hb1
              have q2 := fun s : Later wr => (hX.trans s.ext).keep hc1
              have q3 := fun s : Later wr => (hX.trans s.ext).keep hf1
              have HSP := Lib.hid (fun s : Later wr => isSpec_c (.slice az sizes.length cz) (.slice (some ⟨ba, oa, none⟩) es.length ce) u sizes (ent es k).1 (-1) s.w (HS.out.ext (hX.trans s.ext)) (hi1.ext (hX.trans s.ext)) HOK.out.2.2)
              have HWi := Lib.hid (fun W => rWithin_c (ent es k).2 0 9 W)
              have hent : entB sizes (ent es k) = (isListB sizes (ent es k).1 (-1) && (decide (0 ≤ (ent es k).2) && decide ((ent es k).2 ≤ 9))) := rfl
              clear hi1 hc1 hf1
              cases hl : isListB sizes (ent es k).1 (-1)
              · rw [hl] at HSP
                have hbad : entB sizes (ent es k) = false := by rw [hent, hl]; rfl
                have HBAD := Lib.hid (allB_false (f := fun i => entB sizes (ent es i)) hlt hbad)
                clear hl hent hbad
                go_wp2_with fail
                refine wp_region_later (by kernel_rfl) (by kernel_rfl) ?_
                repeat (go_big_quiet_step ((go_at_call 42; exact Later.call (HSP.out _))))
                refine wpQuiet_nil ?_
                intro _ hw'
                obtain ⟨⟨wq, hq⟩, rfl⟩ := hw'
                clear q0 q1 q2 q3
                go_wp2_with fail
                go_ret
                exact RV.int (by rw [HV.out, HBAD.out]; rfl) (hX.trans hq)
              · rw [hl] at HSP
                rw [hl, Bool.true_and] at hent
                cases hf : (decide (0 ≤ (ent es k).2) && decide ((ent es k).2 ≤ 9))
                · rw [hf] at HWi
                  have HBAD := Lib.hid (allB_false (f := fun i => entB sizes (ent es i)) hlt (hent.trans hf))
                  clear hl hent hf
                  go_wp2_with fail
                  refine wp_region_later (by kernel_rfl) (by kernel_rfl) ?_
                  repeat (go_big_quiet_step ((first | (go_at_call 42; exact Later.call (HSP.out _)) | (go_at_call 54; exact Later.callP (HWi.out _)))))
                  refine wpQuiet_nil ?_
                  intro _ hw'
                  obtain ⟨⟨wq, hq⟩, rfl⟩ := hw'
                  clear q0 q1 q2 q3
                  go_wp2_with fail
                  go_ret
                  exact RV.int (by rw [HV.out, HBAD.out]; rfl) (hX.trans hq)
                · rw [hf] at HWi
                  have HGOOD := Lib.hid (hent.trans hf)
                  clear hl hent hf
                  go_wp2_with fail
                  refine wp_region_later (by kernel_rfl) (by kernel_rfl) ?_
                  repeat (go_big_quiet_step ((first | (go_at_call 42; exact Later.call (HSP.out _)) | (go_at_call 54; exact Later.callP (HWi.out _)))))
                  refine wpQuiet_nil ?_
                  intro _ hw'
                  obtain ⟨⟨wq, hq⟩, rfl⟩ := hw'
                  clear q0 q1 q2 q3
                  go_wp2_with fail
                  go_roundg (gk-1)
                  case measure => omega
                  case rel => exact ⟨k+1, by omega, by omega, by go_num, hB.trans hq, range_step hE.out HGOOD.out⟩
            · go_wp2_with fail
              go_ret
              exact RV.int (by rw [HV.out, allB_true (fun j hj => hE.out j (by omega))]; rfl) (hA.trans hB)
        · have hv : validI sizes es = 3 := by rw [validI, if_pos HSZ.out, if_neg h10]
          have HV := Lib.hid hv; clear hv
          go_wp2_with fail
          go_ret
          exact RV.int HV.out.symm hA
  · have hw : (decide ((1 : Int) ≤ (sizes.length : Int)) && decide ((sizes.length : Int) ≤ 3)) = false := by simp; omega
    have hv : validI sizes es = 1 := by
      rw [validI, if_neg]; simp only [sizesB, Bool.and_eq_true, decide_eq_true_eq]; intro h; exact h1 h.1
    rw [hv]
    have HW := Lib.hid hw
    clear hw hv h1
    go_enter Try.func41, Try.ntmps41
    go_wp2_with fail
    refine (rWithin_c _ _ _ _).mono ?_; rw [HW.out]; rintro e w' ⟨rfl, rfl⟩
    go_wp2_with fail
    go_ret
    exact RV.int rfl hA
end Go.Proofs.Ytdgncnhmgbmpjaa
