/- Walks of the reference: more special, decides, form, fill. -/
import Derived.Test.YtoepnpjjmfhnnaaRefC
namespace Go.Proofs.Ytoepnpjjmfhnnaa
open Go.RowKit Go.Shelf
set_option linter.unusedVariables false

set_option maxHeartbeats 600000 in
theorem rIsMore_c (sv ev : Value) (sizes : List Int) (es : List Ent) (i j : Nat) (w : World) (hp : Par w sv ev sizes es) (V : ValidP sizes es) (hi : i < es.length) (hj : j < es.length) :
    Calls Try.prog 77 #[.agg #[sv, ev], .int .i64 i, .int .i64 j] w (RV (.bool (isMoreB (ent es i).1 (ent es j).1)) w) := by
  have hA := Ext.alloc w (.cells #[sv, ev] 25)
  obtain ⟨ae, ce, rfl, hle, hme, He⟩ := hp.e.open_
  have hb0 := alloc_cell w #[sv, .slice ae es.length ce] 25 (i := 0) rfl
  have hb1 := alloc_cell w #[sv, .slice ae es.length ce] 25 (i := 1) rfl
  obtain ⟨ba, oa, rfl, u, hc1, hi1, _⟩ := He.out i hi
  obtain ⟨_, _, hx, u2, hc2, hi2, _⟩ := He.out j hj
  injection hx with hx; injection hx with hx1 hx2 _; subst hx1 hx2
  have HS := Lib.hid hp.s
  have Sa := Lib.hid (V.spec i hi); have Sb := Lib.hid (V.spec j hj); have HOK := Lib.hid V.ok
  rw [← isMoreR_eq V.ok (V.spec i hi) (V.spec j hj)]
  have HI1 := Lib.hid hi1; have HI2 := Lib.hid hi2
  obtain ⟨au, cu, rfl, _⟩ := hi1.open_
  obtain ⟨au2, cu2, rfl, _⟩ := hi2.open_
  replace hc1 := hA.keep hc1
  replace hc2 := hA.keep hc2
  clear hp V hi1 hi2
  generalize hwA : w.alloc (.cells #[sv, .slice (some ⟨ba, oa, none⟩) es.length ce] 25) = wA at *
  have HWA := Lib.hid hwA
  have HIN := Lib.hid (fun W (hx : Ext wA W) => inside_c sv (.slice (some ⟨ba, oa, none⟩) es.length ce) _ _ sizes _ _ W (HS.out.ext (hA.trans hx)) (HI1.out.ext (hA.trans hx)) (HI2.out.ext (hA.trans hx)) HOK.out Sa.out Sb.out)
  have HIN2 := Lib.hid (fun W (hx : Ext wA W) => inside_c sv (.slice (some ⟨ba, oa, none⟩) es.length ce) _ _ sizes _ _ W (HS.out.ext (hA.trans hx)) (HI2.out.ext (hA.trans hx)) (HI1.out.ext (hA.trans hx)) HOK.out Sb.out Sa.out)
  clear hwA
  go_enter Try.func77, Try.ntmps77
  go_wp2_with fail
  rw [HWA.out]
  go_quiet (fail)
  have hxq : Ext wA (wA.drewN nq) := Ext.drewN _ _
  cases h1 : insideB sizes (ent es i).1 (ent es j).1
  · rw [h1] at HIN
    have H1 := Lib.hid h1; clear h1
    go_wp2_with fail
    refine (HIN.out _ hxq).mono ?_; rintro e w2 ⟨rfl, hx2⟩
    go_wp2_with fail
    go_ret
    exact RV.bool (by rw [H1.out]; rfl) ((hA.trans hxq).trans hx2)
  · rw [h1] at HIN
    have H1 := Lib.hid h1; clear h1
    go_wp2_with fail
    refine (HIN.out _ hxq).mono ?_; rintro e w2 ⟨rfl, hx2⟩
    have hb0 := hx2.keep (hxq.keep hb0)
    have hb1 := hx2.keep (hxq.keep hb1)
    have hxx := hxq.trans hx2
    go_wp2_with fail
    refine (HIN2.out _ hxx).mono ?_; rintro e w3 ⟨rfl, hx3⟩
    go_wp2_with fail
    go_ret
    exact RV.bool (by rw [H1.out]; simp) ((hA.trans hxx).trans hx3)

/-- best so far: i is more special than the first k of l, but for itself -/
def bestTo (es : List Ent) (l : List Int) (i k : Nat) : Bool := allB k fun j => (j == i) || isMoreB (ent es (l[i]?.getD 0).toNat).1 (ent es (l[j]?.getD 0).toNat).1
theorem bestTo_succ (es : List Ent) (l : List Int) (i k : Nat) : bestTo es l i (k + 1) = (bestTo es l i k && ((k == i) || isMoreB (ent es (l[i]?.getD 0).toNat).1 (ent es (l[k]?.getD 0).toNat).1)) := by
  simp [bestTo, allB, List.range_succ]
theorem bestTo_eq (es : List Ent) (n : Nat) (f : Nat → Bool) {i : Nat} (hi : i < (sel n f).length) : bestTo es (sel n f) i (sel n f).length = bestB es (sel n f) ((sel n f)[i]?.getD 0) := by
  have h1 : bestB es (sel n f) ((sel n f)[i]?.getD 0) = !((List.range (sel n f).length).any fun j => worseB es ((sel n f)[i]?.getD 0) ((sel n f)[j]?.getD 0)) := by
    rw [any_range]; rfl
  rw [h1, bestTo, allB, Bool.eq_iff_iff]
  simp only [List.all_eq_true, List.mem_range, Bool.not_eq_true', List.any_eq_false, worseB, Bool.or_eq_true, beq_iff_eq, Bool.and_eq_true, bne_iff_ne, ne_eq, Bool.not_eq_true', not_and, Bool.not_eq_false]
  constructor
  · intro h j hj hne
    rcases h j hj with h2 | h2
    · subst h2; exact absurd rfl hne
    · exact h2
  · intro h j hj
    by_cases e : j = i
    · exact .inl e
    · exact .inr (h j hj (fun he => e (sel_inj n f hj hi he)))

set_option maxHeartbeats 1000000 in
set_option maxRecDepth 100000 in
theorem rDecides_c (sv ev vc : Value) (sizes : List Int) (es : List Ent) (c : List Int) (w : World) (hp : Par w sv ev sizes es) (hc : Ints w vc c) (V : ValidP sizes es) (hlc : c.length = sizes.length) :
    Calls Try.prog 87 #[.agg #[sv, ev], vc] w (RV (.int .i64 (decidesI es c)) w) := by
  have hA := Ext.alloc w (.cells #[sv, ev] 25)
  have hb0 := alloc_cell w #[sv, ev] 25 (i := 0) rfl
  have hb1 := alloc_cell w #[sv, ev] 25 (i := 1) rfl
  have HM := Lib.hid (rMatches_c sv ev vc sizes es c _ (hp.ext hA) (hc.ext hA) V hlc)
  have HP := Lib.hid hp; have HV := Lib.hid V
  have HN := Lib.hid (sel_nums es.length (matchB es c))
  have hll := sel_le es.length (matchB es c)
  have hes := V.n
  have HBE := Lib.hid (fun i => bestTo_eq es es.length (matchB es c) (i := i))
  clear hp hc V hlc
  unfold decidesI
  generalize sel es.length (matchB es c) = l at *
  go_enter Try.func87, Try.ntmps87
  go_wp2_with fail
  refine HM.out.mono ?_; rintro e w1 ⟨v, rfl, hi, hB⟩
  obtain ⟨al, cl, rfl, hl1, hl2, Hl⟩ := hi.open_
  clear hi
  replace hb0 := hB.keep hb0
  replace hb1 := hB.keep hb1
  replace hB := hA.trans hB
  go_wp2_with fail
  go_loopg [6] l.length (fun m i wr => ∃ k : Nat, k ≤ l.length ∧ l.length ≤ k + m ∧ i = .int .i64 k ∧ Ext w1 wr ∧ Hid (∀ j, j < k → bestB es l (l[j]?.getD 0) = false))
  case atStart => exact ⟨0, by omega, by omega, rfl, Ext.refl _, fun j hj => by omega⟩
  case round =>
    obtain ⟨g1, rfl⟩ : ∃ g : Nat, g = gk := ⟨_, rfl⟩
    obtain ⟨k, hk, hk2, rfl, hB1, hE⟩ := hrel
    by_cases hlt : k < l.length
    · obtain ⟨bl, ol, rfl, hck⟩ := Hl.out k hlt
      obtain ⟨nk, hnk, hnk2⟩ := HN.out k hlt
      have HNK := Lib.hid hnk2
      rw [hnk2] at hck
      clear hnk2
      go_wp2_with fail
      go_loopg [8, 7] l.length (fun m i b wq => ∃ j : Nat, j ≤ l.length ∧ l.length ≤ j + m ∧ i = .int .i64 j ∧ b = .bool (bestTo es l k j) ∧ Ext wr wq)
      case atStart => exact ⟨0, by omega, by omega, rfl, rfl, Ext.refl _⟩
      case round =>
        obtain ⟨wo, rfl⟩ : ∃ wo : World, wo = wr := ⟨_, rfl⟩
        obtain ⟨j, hj, hj2, rfl, rfl, hB2⟩ := hrel
        by_cases hjl : j < l.length
        · obtain ⟨_, _, hxx, hcj⟩ := Hl.out j hjl
          injection hxx with hxx; injection hxx with hx1 hx2 _; subst hx1 hx2
          obtain ⟨nj, hnj, hnj2⟩ := HN.out j hjl
          have HNJ := Lib.hid hnj2
          rw [hnj2] at hcj
          clear hnj2
          have hstep := bestTo_succ es l k j
          rw [HNK.out, HNJ.out, Int.toNat_natCast, Int.toNat_natCast] at hstep
          have hXo := hB1.trans hB2
          have hckw := hXo.keep hck
          have hcjw := hXo.keep hcj
          have hb0w := hXo.keep hb0
          have hb1w := hXo.keep hb1
          cases hbest : bestTo es l k j
          · rw [hbest, Bool.false_and] at hstep
            have HST := Lib.hid hstep; have HBS := Lib.hid hbest; clear hstep hbest
            go_wp2_with fail
            go_quiet (fail)
            go_wp2_with fail
            go_roundg (gk-1)
            case measure => omega
            case rel => exact ⟨j+1, by omega, by omega, by go_num, by rw [HST.out], hB2.trans (Ext.drewN _ _)⟩
          · rw [hbest, Bool.true_and] at hstep
            have HBS := Lib.hid hbest; clear hbest
            by_cases hjk : j = k
            · subst hjk
              have hjj : ((j : Int) == (j : Int)) = true := by simp
              rw [beq_self_eq_true, Bool.true_or] at hstep
              have HST := Lib.hid hstep; clear hstep
              go_wp2_with fail
              go_quiet (fail)
              go_wp2_with fail
              go_roundg (gk-1)
              case measure => omega
              case rel => exact ⟨j+1, by omega, by omega, by go_num, by rw [HST.out], hB2.trans (Ext.drewN _ _)⟩
            · have hjj : ((j : Int) == (k : Int)) = false := by simp; omega
              rw [show (j == k) = false by simpa using hjk, Bool.false_or] at hstep
              have HJK := Lib.hid hjk; clear hjk
              have HIM := Lib.hid (fun s : Later wo => rIsMore_c sv ev sizes es nk nj s.w (HP.out.ext ((hB.trans hXo).trans s.ext)) HV.out hnk hnj)
              rw [← hstep] at HIM
              generalize hnew : bestTo es l k (j + 1) = bn at *
              have HNEW := Lib.hid hnew; clear hnew hstep
              have q0 := fun s : Later wo => s.ext.keep hb0w
              have q1 := fun s : Later wo => s.ext.keep hb1w
              have q2 := fun s : Later wo => s.ext.keep hckw
              have q3 := fun s : Later wo => s.ext.keep hcjw
              clear hb0w hb1w hckw hcjw
              go_wp2_with fail
              refine wp_region_later (by kernel_rfl) (by kernel_rfl) ?_
              repeat (go_big_quiet_step ((go_at_call 77; exact Later.call (HIM.out _))))
              refine wpQuiet_nil ?_
              intro _ hw'
              obtain ⟨⟨wq, hq⟩, rfl⟩ := hw'
              clear q0 q1 q2 q3
              go_wp2_with fail
              go_roundg (gk-1)
              case measure => omega
              case rel => exact ⟨j+1, by omega, by omega, by go_num, by rw [HNEW.out], hB2.trans hq⟩
        · obtain rfl : j = l.length := by omega
          have hbe := HBE.out k hlt
          rw [HNK.out] at hbe
          cases hb : bestB es l (nk : Int)
          · rw [hb] at hbe
            have HBB := Lib.hid (show bestB es l (l[k]?.getD 0) = false by rw [HNK.out]; exact hb)
            rw [hbe]
            clear hbe hb
            go_wp2_with fail
            go_roundg (g1-1)
            case measure => omega
            case rel => exact ⟨k+1, by omega, by omega, by go_num, hB1.trans hB2, range_step hE.out HBB.out⟩
          · rw [hb] at hbe
            have HFI := Lib.hid (findI_at hlt (show bestB es l (l[k]?.getD 0) = true by rw [HNK.out]; exact hb) hE.out)
            rw [hbe]
            have hckw := (hB1.trans hB2).keep hck
            clear hbe hb
            go_wp2_with fail
            go_ret
            exact RV.int (by rw [HFI.out, HNK.out]) ((hB.trans hB1).trans hB2)
    · go_wp2_with fail
      go_ret
      exact RV.int (by rw [findI_none (fun j hj => hE.out j (by omega))]) (hB.trans hB1)
end Go.Proofs.Ytoepnpjjmfhnnaa
