/- Machines: how many runs of so many arcs there are; both packages. -/
import Derived.Test.YtpbflkbelhlogaaMacCnt
import Derived.StillTailTactics
namespace Go.Proofs.Ytpbflkbelhlogaa
open Go.RowKit Go.Shelf
set_option linter.unusedVariables false

def anyA : Arc → Bool := fun _ => true
def countP (m : Mac) (L : Nat) : Int := (bwLs m.s.toNat m.a (endsL m.s.toNat m.e) (List.replicate L anyA))[0]?.getD 0
def countK (m : Mac) (i : Int) : Int := if validM m = 0 then (if inB i 0 10 then 0 else 1) else validM m
def countV (m : Mac) (i : Int) : Int := if validM m = 0 then (if inB i 0 10 then countP m i.toNat else 0) else 0
theorem take_next {α : Type} {l : List α} {k : Nat} (h : k < l.length) (d : α) : l.take (k + 1) = l.take k ++ [l[k]?.getD d] := by
  rw [List.take_succ_eq_append_getElem h]; simp [h]
theorem wr64_eq (n : Int) : IntKind.i64.wrap n = wrap64 n := IntWalk.i64_left n
theorem onesL_next {e : List Int} {k : Nat} (h : k < e.length) (l : List Int) : onesL (e.take (k + 1)) l = (onesL (e.take k) l).set (e[k]?.getD 0).toNat 1 := by
  rw [take_next h 0, onesL, onesL, List.foldl_append]; rfl
theorem fold_next {ar : List Arc} {k : Nat} (h : k < ar.length) (f : List Int → Arc → List Int) (l : List Int) : (ar.take (k + 1)).foldl f l = f ((ar.take k).foldl f l) (arcA ar k) := by
  rw [take_next h ⟨0, 0, 0, 0⟩, List.foldl_append]; rfl
theorem bwF_len (c : Arc → Bool) (now : List Int) : ∀ (ar : List Arc) (l : List Int), (ar.foldl (bwStep c now) l).length = l.length
  | [], _ => rfl
  | a :: ar, l => by rw [List.foldl_cons, bwF_len c now ar]; unfold bwStep; split <;> simp [addAt_len]
theorem fwF_len (c : Arc → Bool) (now : List Int) : ∀ (ar : List Arc) (l : List Int), (ar.foldl (fwStep c now) l).length = l.length
  | [], _ => rfl
  | a :: ar, l => by rw [List.foldl_cons, fwF_len c now ar]; unfold fwStep; split <;> simp [addAt_len]
theorem bwLs_len {n : Nat} {ar : List Arc} {e : List Int} (he : e.length = n) : ∀ cs, (bwLs n ar e cs).length = n
  | [] => he
  | c :: cs => by rw [bwLs, bwL, bwF_len]; simp
theorem fwLs_len {n : Nat} {ar : List Arc} : ∀ (cs : List (Arc → Bool)) (e : List Int), e.length = n → (fwLs n ar e cs).length = n
  | [], e, he => he
  | c :: cs, e, he => by rw [fwLs]; exact fwLs_len cs _ (by rw [fwL, fwF_len]; simp)
theorem endsL_len (n : Nat) (e : List Int) : (endsL n e).length = n := by rw [endsL, onesL_len]; simp
theorem beginL_len (n : Nat) : (beginL n).length = n := by simp [beginL]
theorem fwLs_snoc {n : Nat} {ar : List Arc} (c : Arc → Bool) : ∀ (cs : List (Arc → Bool)) (f : List Int), fwLs n ar f (cs ++ [c]) = fwL n ar c (fwLs n ar f cs)
  | [], _ => rfl
  | d :: cs, f => by rw [List.cons_append, fwLs, fwLs_snoc c cs, fwLs]

set_option maxHeartbeats 4000000 in
set_option maxRecDepth 100000 in
theorem Count_c (av ev : Value) (m : Mac) (i : Int) (w : World) (h : MacR w av ev m) (hi : (Lit.int .i64 i).wf = true) : Calls Try.prog 21 #[.agg #[.int .i64 m.s, av, ev], .int .i64 i] w (RV (.tuple #[.int .i64 (countV m i), .int .i64 (countK m i)]) w) := by
  obtain ⟨wA, hwA⟩ : ∃ wA, wA = w.alloc (.cells #[.int .i64 m.s, av, ev] 25) := ⟨_, rfl⟩
  have hE0 : Ext w wA := by rw [hwA]; exact Ext.alloc _ _
  have k0 : ∀ W, Ext wA W → W.cell? ⟨w.heap.size, 0, none⟩ = some (.int .i64 m.s) := by rw [hwA]; exact kept_alloc w _ _ rfl
  have k1 : ∀ W, Ext wA W → W.cell? ⟨w.heap.size, 1, none⟩ = some av := by rw [hwA]; exact kept_alloc w _ _ rfl
  have k2 : ∀ W, Ext wA W → W.cell? ⟨w.heap.size, 2, none⟩ = some ev := by rw [hwA]; exact kept_alloc w _ _ rfl
  have H0 : Ext wA wA := Ext.refl _
  have HR := Lib.hid (h.ext hE0)
  have HV := Lib.hid (Validate_c av ev m wA (h.ext hE0))
  obtain ⟨aa, ca, rfl, hla, hma, HA⟩ := (h.ext hE0).a.open_
  obtain ⟨ae, ce, rfl, hle, hme, HE⟩ := (h.ext hE0).e.open_
  have HW := Lib.hid hwA; clear hwA h
  by_cases hv : validM m = 0
  · have HM := Lib.hid (validM_mac hv)
    rw [hv] at HV
    have hK : Hid (countK m i = if inB i 0 10 then 0 else 1) := by rw [countK, if_pos hv]; exact rfl
    have hC : Hid (countV m i = if inB i 0 10 then countP m i.toNat else 0) := by rw [countV, if_pos hv]; exact rfl
    clear hv
    go_enter Try.func21, Try.ntmps21
    go_wp2_with fail
    rw [← HW.out]
    refine HV.out.mono ?_; rintro e w1 ⟨rfl, hx1⟩
    go_wp2_with fail
    refine (within_c _ _ _ _).mono ?_; rintro e w2 ⟨rfl, rfl⟩
    cases hb : inB i 0 10
    · rw [hb] at hK hC
      clear hb
      go_wp2_with fail
      go_ret2
      exact ⟨by rw [hK.out, hC.out]; rfl, hE0.trans hx1⟩
    · obtain ⟨hi1, hi2⟩ := inB_bd hb
      rw [hb] at hK hC
      clear hb
      obtain ⟨L, rfl⟩ : ∃ L : Nat, i = L := ⟨i.toNat, by omega⟩
      obtain ⟨n, hn⟩ : ∃ n : Nat, m.s = n := ⟨m.s.toNat, by have := HM.out.s1; omega⟩
      have hn1 : 1 ≤ n := by have := HM.out.s1; omega
      have hn9 : n ≤ 9 := by have := HM.out.s2; omega
      have HN := Lib.hid hn
      have HCP : Hid (countP m L = (bwLs n m.a (endsL n m.e) (List.replicate L anyA))[0]?.getD 0) := by rw [countP, hn]; exact rfl
      go_wp2_with (at_make; refine wpList_make_blk n elInts rfl rfl _ _ rfl rfl rfl (by omega) (by omega) ?_; intro g w2 hg hblk hx2 hg2; have hE2 := hx1.trans hx2)
      have hB0 : Ext w1 w2 := hx2
      have hbk : BInts w2 g (onesL (m.e.take 0) (List.replicate n 0)) := by unfold BInts; rw [List.take_zero]; simpa [onesL] using hblk
      have hg1 : w1.heap.size ≤ g := hg
      clear hblk hx2 hg hE2
      go_loopg [27] m.e.length (fun z i wr => ∃ k : Nat, k ≤ m.e.length ∧ m.e.length ≤ k + z ∧ i = .int .i64 k ∧ Ext w1 wr ∧ BInts wr g (onesL (m.e.take k) (List.replicate n 0)))
      case atStart => exact ⟨0, by omega, by omega, rfl, hB0, hbk⟩
      case round =>
        clear hB0 hbk hg2
        obtain ⟨k, hk, hk2, rfl, hB, hbk⟩ := hrel
        have hEr : Ext wA wr := hx1.trans hB
        by_cases hlt : k < m.e.length
        · obtain ⟨be, oe, rfl, hc⟩ := HE.out k hlt
          replace hc := hEr.keep hc
          have hx := HM.out.ends (m.e[k]?.getD 0) (by rw [List.getElem?_eq_getElem hlt]; exact List.getElem_mem hlt)
          have hN := Lib.hid (onesL_next hlt (List.replicate n 0))
          generalize m.e[k]?.getD 0 = x at *
          obtain ⟨j, rfl⟩ : ∃ j : Nat, x = j := ⟨x.toNat, by omega⟩
          have hj : j < n := by have := HN.out; omega
          have hjl : j < (onesL (m.e.take k) (List.replicate n 0)).length := by rw [onesL_len]; simpa using hj
          have hbc := hbk.cell hjl
          have hbf := Blk.frozen hbk j
          have hset := Lib.hid (hbk.set j 1)
          rw [Int.toNat_natCast] at hN
          generalize onesL (m.e.take k) (List.replicate n 0) = O at *
          clear hx hjl hbk
          have HBC := Lib.hid hbc
          go_wp2_with fail
          go_roundg (gk-1)
          case measure => omega
          case rel => exact ⟨k+1, by omega, by omega, by go_num, hB.setCell hg1 _ _, by rw [hN.out]; exact hset.out⟩
        · have hbE : BInts wr g (bwLs n m.a (endsL n m.e) (List.replicate 0 anyA)) := by
            rw [List.take_of_length_le (by omega)] at hbk; exact hbk
          obtain ⟨w0, hw0⟩ : ∃ w0, w0 = wr := ⟨_, rfl⟩
          rw [← hw0] at hB hbE hEr ⊢
          clear hw0 hbk
          go_wp2_with fail
          clear hk hk2 hlt
          generalize k = kq at *
          have hg2 : w1.heap.size ≤ g := hg1
          go_loopg [36, 7] L (fun z i v wr => ∃ (k gn : Nat), k ≤ L ∧ L ≤ k + z ∧ i = .int .i64 k ∧ v = .slice (some ⟨gn, 0, none⟩) n n ∧ w1.heap.size ≤ gn ∧ Ext w1 wr ∧ BInts wr gn (bwLs n m.a (endsL n m.e) (List.replicate k anyA)))
          case atStart => exact ⟨0, g, by omega, by omega, rfl, rfl, hg1, hB, hbE⟩
          case round =>
            clear hB hbE hEr hg2 hg1
            obtain ⟨k, gn, hk, hk2, rfl, rfl, hgn, hB, hbn⟩ := hrel
            have hEr : Ext wA wr := hx1.trans hB
            have hln : (bwLs n m.a (endsL n m.e) (List.replicate k anyA)).length = n := bwLs_len (endsL_len _ _) _
            have HLN := Lib.hid hln
            by_cases hlt : k < L
            · have HNX : Hid (bwLs n m.a (endsL n m.e) (List.replicate (k + 1) anyA) = bwL n m.a anyA (bwLs n m.a (endsL n m.e) (List.replicate k anyA))) := by rw [List.replicate_succ]; exact rfl
              generalize bwLs n m.a (endsL n m.e) (List.replicate k anyA) = now at *
              clear hln
              obtain ⟨w0, hw0⟩ : ∃ w0, w0 = wr := ⟨_, rfl⟩
              rw [← hw0] at hB hbn hEr ⊢
              clear hw0
              obtain ⟨g1, rfl⟩ : ∃ g : Nat, g = gk := ⟨_, rfl⟩
              go_wp2_with (at_make; refine wpList_make_blk n elInts rfl rfl _ _ rfl rfl rfl (by omega) (by omega) ?_; intro gb w2 hgb hblk hx2 hg2; have hE2 := hEr.trans hx2)
              have hB2 := hB.trans hx2
              have hbn2 : BInts w2 gn now := Blk.ext hbn hx2
              have hbb : BInts w2 gb ((m.a.take 0).foldl (bwStep anyA now) (List.replicate n 0)) := by unfold BInts; rw [List.take_zero]; simpa using hblk
              have hgn2 : gn < gb := Nat.lt_of_lt_of_le (Blk.lt hbn) hgb
              have hgb1 : w1.heap.size ≤ gb := by omega
              clear hblk hx2 hE2 hg2 hbn hB hEr hgb
              go_loopg [44] m.a.length (fun z i wr => ∃ j : Nat, j ≤ m.a.length ∧ m.a.length ≤ j + z ∧ i = .int .i64 j ∧ Ext w1 wr ∧ BInts wr gn now ∧ BInts wr gb ((m.a.take j).foldl (bwStep anyA now) (List.replicate n 0)))
              case atStart => exact ⟨0, by omega, by omega, rfl, hB2, hbn2, hbb⟩
              case round =>
                clear hB2 hbn2 hbb
                obtain ⟨j, hj, hj2, rfl, hB, hbn, hbb⟩ := hrel
                have hEr : Ext wA wr := hx1.trans hB
                by_cases hjl : j < m.a.length
                · obtain ⟨ba, oa, rfl, hc0, hc1, hc2, hc3⟩ := HA.out j hjl
                  replace hc0 := hEr.keep hc0
                  replace hc1 := hEr.keep hc1
                  replace hc2 := hEr.keep hc2
                  replace hc3 := hEr.keep hc3
                  have hst := HM.out.arc hjl
                  have HST := Lib.hid (fold_next hjl (bwStep anyA now) (List.replicate n 0))
                  have hlb : ((m.a.take j).foldl (bwStep anyA now) (List.replicate n 0)).length = n := by rw [bwF_len]; simp
                  generalize arcA m.a j = y at *
                  generalize (m.a.take j).foldl (bwStep anyA now) (List.replicate n 0) = bb at *
                  obtain ⟨yf, yt, yi, yo⟩ := y
                  simp only at hc0 hc1 hc2 hc3 hst
                  obtain ⟨p, rfl⟩ : ∃ p : Nat, yf = p := ⟨yf.toNat, by omega⟩
                  obtain ⟨q, rfl⟩ : ∃ q : Nat, yt = q := ⟨yt.toNat, by omega⟩
                  have hp : p < n := by have := HN.out; omega
                  have hq : q < n := by have := HN.out; omega
                  have HLB := Lib.hid hlb; clear hlb
                  obtain ⟨wB, hwB⟩ : ∃ wB, wB = wr.alloc (.cells #[.int .i64 (p : Int), .int .i64 (q : Int), .int .i64 yi, .int .i64 yo] 50) := ⟨_, rfl⟩
                  have hEB : Ext wr wB := by rw [hwB]; exact Ext.alloc _ _
                  have b0 : ∀ W, Ext wB W → W.cell? ⟨wr.heap.size, 0, none⟩ = some (.int .i64 p) := by rw [hwB]; exact kept_alloc wr _ _ rfl
                  have b1 : ∀ W, Ext wB W → W.cell? ⟨wr.heap.size, 1, none⟩ = some (.int .i64 q) := by rw [hwB]; exact kept_alloc wr _ _ rfl
                  have HWB := Lib.hid hwB; clear hwB
                  have hs : ∀ s : Later wB, Ext wB s.w := fun s => s.ext
                  have hb1 : BInts wB gn now := Blk.ext hbn hEB
                  have hb2 : BInts wB gb bb := Blk.ext hbb hEB
                  have q1 := fun s : Later wB => s.ext.keep (hb1.cell (i := q) (by rw [HLN.out]; exact hq))
                  have q2 := fun s : Later wB => s.ext.keep (hb2.cell (i := p) (by rw [HLB.out]; exact hp))
                  have HS1 : Hid (bwStep anyA now bb ⟨(p : Int), (q : Int), yi, yo⟩ = bb.set p (wrap64 (bb[p]?.getD 0 + now[q]?.getD 0))) := by rw [← wr64_eq]; exact Lib.hid rfl
                  generalize now[q]?.getD 0 = xq at *
                  generalize bb[p]?.getD 0 = xp at *
                  clear hbn hbb hst
                  go_wp2_with fail
                  rw [← HWB.out]
                  clear hc0 hc1 hc2 hc3
                  refine wp_region_later_tail 12 (by kernel_rfl) (by kernel_rfl) ?_
                  simp only [List.take_succ_cons, List.take_zero, List.drop_succ_cons, List.drop_zero]
                  repeat (go_big_quiet_step (fail))
                  refine wpQuiet_nil ?_
                  intro w5 hw'
                  obtain ⟨⟨_, hx5⟩, rfl⟩ := hw'
                  clear hs q1 q2
                  have hb1 : BInts w5 gn now := Blk.ext hb1 hx5
                  have hb2 : BInts w5 gb bb := Blk.ext hb2 hx5
                  have hn2 := hb2.cell (i := p) (by rw [HLB.out]; exact hp)
                  have hf2 := Blk.frozen hb2 p
                  have HB2 := Lib.hid (And.intro (Blk.other hb1 (c := gb) (by omega) p (.int .i64 (wrap64 (xp + xq)))) (hb2.set p (wrap64 (xp + xq))))
                  have hX : Ext w1 w5 := hB.trans (hEB.trans hx5)
                  clear hb1 hb2
                  go_wp2_with fail
                  go_roundg (gk-1)
                  case measure => omega
                  case rel => exact ⟨j+1, by omega, by omega, by go_num, hX.setCell hgb1 _ _, HB2.out.1, by rw [HST.out, HS1.out]; exact HB2.out.2⟩
                · have HBB : Hid (BInts wr gb (bwL n m.a anyA now)) := by rw [List.take_of_length_le (by omega)] at hbb; exact Lib.hid hbb
                  clear hbb
                  go_wp2_with fail
                  go_roundg (g1-1)
                  case measure => omega
                  case rel => exact ⟨k+1, gb, by omega, by omega, by go_num, rfl, hgb1, hB, by rw [HNX.out]; exact HBB.out⟩
            · obtain rfl : k = L := by omega
              have h0 := hbn.cell (i := 0) (by omega)
              rw [← HCP.out] at h0
              clear hln
              go_wp2_with fail
              go_ret2
              exact ⟨by rw [hK.out, hC.out]; rfl, hE0.trans (hx1.trans hB)⟩
  · rw [show countV m i = 0 by rw [countV, if_neg hv], show countK m i = validM m by rw [countK, if_neg hv]]
    have hk : (validM m != 0) = true := by simp [hv]
    generalize validM m = k at *
    clear hv
    go_enter Try.func21, Try.ntmps21
    go_wp2_with fail
    rw [← HW.out]
    refine HV.out.mono ?_; rintro e w1 ⟨rfl, hx1⟩
    go_wp2_with fail
    go_ret2
    exact ⟨rfl, hE0.trans hx1⟩

def cntRef (m : Mac) (L : Nat) : Int := sumAt (fwLs m.s.toNat m.a (beginL m.s.toNat) (List.replicate L anyA)) m.e
theorem cnt_same {m : Mac} (h : MacOk m) (L : Nat) : cntRef m L = countP m L :=
  count_same h.states h.ends (setB_nodup h.e) (by have := h.s1; omega) _
theorem sumAt_next {e : List Int} {k : Nat} (h : k < e.length) (l : List Int) : sumAt l (e.take (k + 1)) = wrap64 (sumAt l (e.take k) + l[(e[k]?.getD 0).toNat]?.getD 0) := by
  rw [take_next h 0, sumAt, List.foldl_append, ← wr64_eq]; rfl
set_option maxHeartbeats 4000000 in
set_option maxRecDepth 100000 in
theorem rCount_c (av ev : Value) (m : Mac) (i : Int) (w : World) (h : MacR w av ev m) (hi : (Lit.int .i64 i).wf = true) : Calls Try.prog 22 #[.agg #[.int .i64 m.s, av, ev], .int .i64 i] w (RV (.tuple #[.int .i64 (countV m i), .int .i64 (countK m i)]) w) := by
  obtain ⟨wA, hwA⟩ : ∃ wA, wA = w.alloc (.cells #[.int .i64 m.s, av, ev] 25) := ⟨_, rfl⟩
  have hE0 : Ext w wA := by rw [hwA]; exact Ext.alloc _ _
  have k0 : ∀ W, Ext wA W → W.cell? ⟨w.heap.size, 0, none⟩ = some (.int .i64 m.s) := by rw [hwA]; exact kept_alloc w _ _ rfl
  have k1 : ∀ W, Ext wA W → W.cell? ⟨w.heap.size, 1, none⟩ = some av := by rw [hwA]; exact kept_alloc w _ _ rfl
  have k2 : ∀ W, Ext wA W → W.cell? ⟨w.heap.size, 2, none⟩ = some ev := by rw [hwA]; exact kept_alloc w _ _ rfl
  have H0 : Ext wA wA := Ext.refl _
  have HR := Lib.hid (h.ext hE0)
  have HV := Lib.hid (rValidate_c av ev m wA (h.ext hE0))
  obtain ⟨aa, ca, rfl, hla, hma, HA⟩ := (h.ext hE0).a.open_
  obtain ⟨ae, ce, rfl, hle, hme, HE⟩ := (h.ext hE0).e.open_
  have HW := Lib.hid hwA; clear hwA h
  by_cases hv : validM m = 0
  · have HM := Lib.hid (validM_mac hv)
    rw [hv] at HV
    have hK : Hid (countK m i = if inB i 0 10 then 0 else 1) := by rw [countK, if_pos hv]; exact rfl
    have hC : Hid (countV m i = if inB i 0 10 then countP m i.toNat else 0) := by rw [countV, if_pos hv]; exact rfl
    clear hv
    go_enter Try.func22, Try.ntmps22
    go_wp2_with fail
    rw [← HW.out]
    refine HV.out.mono ?_; rintro e w1 ⟨rfl, hx1⟩
    go_wp2_with fail
    refine (rwithin_c _ _ _ _).mono ?_; rintro e w2 ⟨rfl, rfl⟩
    cases hb : inB i 0 10
    · rw [hb] at hK hC
      clear hb
      go_wp2_with fail
      go_ret2
      exact ⟨by rw [hK.out, hC.out]; rfl, hE0.trans hx1⟩
    · obtain ⟨hi1, hi2⟩ := inB_bd hb
      rw [hb] at hK hC
      clear hb
      obtain ⟨L, rfl⟩ : ∃ L : Nat, i = L := ⟨i.toNat, by omega⟩
      obtain ⟨n, hn⟩ : ∃ n : Nat, m.s = n := ⟨m.s.toNat, by have := HM.out.s1; omega⟩
      have hn1 : 1 ≤ n := by have := HM.out.s1; omega
      have hn9 : n ≤ 9 := by have := HM.out.s2; omega
      have HN := Lib.hid hn
      have HCP : Hid (countP m L = sumAt (fwLs n m.a (beginL n) (List.replicate L anyA)) m.e) := by rw [← cnt_same HM.out, cntRef, hn]; exact rfl
      go_wp2_with (at_make; refine wpList_make_blk n elInts rfl rfl _ _ rfl rfl rfl (by omega) (by omega) ?_; intro g w2 hg hblk hx2 hg2; have hE2 := hx1.trans hx2; have h0c := Blk.cell (i := 0) (v := .int .i64 0) hblk (by rw [List.getElem?_replicate, if_pos (by omega)]); have h0f := Blk.frozen hblk 0)
      have hbE : BInts (w2.setCell ⟨g, 0, none⟩ (.int .i64 1)) g (fwLs n m.a (beginL n) (List.replicate 0 anyA)) := by
        have := Blk.set hblk 0 (.int .i64 1); unfold BInts; simpa [fwLs, beginL, List.map_set] using this
      have hB0 : Ext w1 (w2.setCell ⟨g, 0, none⟩ (.int .i64 1)) := hx2.setCell hg _ _
      clear hblk hx2 hE2 h0c h0f hg2
      go_loopg [8, 7] L (fun z i v wr => ∃ (k gn : Nat), k ≤ L ∧ L ≤ k + z ∧ i = .int .i64 k ∧ v = .slice (some ⟨gn, 0, none⟩) n n ∧ w1.heap.size ≤ gn ∧ Ext w1 wr ∧ BInts wr gn (fwLs n m.a (beginL n) (List.replicate k anyA)))
      case atStart => exact ⟨0, g, by omega, by omega, rfl, rfl, hg, hB0, hbE⟩
      case round =>
        clear hB0 hbE hg
        obtain ⟨k, gn, hk, hk2, rfl, rfl, hgn, hB, hbn⟩ := hrel
        have hEr : Ext wA wr := hx1.trans hB
        have hln : (fwLs n m.a (beginL n) (List.replicate k anyA)).length = n := fwLs_len _ _ (beginL_len _)
        have HLN := Lib.hid hln
        by_cases hlt : k < L
        · have HNX : Hid (fwLs n m.a (beginL n) (List.replicate (k + 1) anyA) = fwL n m.a anyA (fwLs n m.a (beginL n) (List.replicate k anyA))) := by rw [List.replicate_succ', fwLs_snoc]; exact rfl
          generalize fwLs n m.a (beginL n) (List.replicate k anyA) = now at *
          clear hln
          obtain ⟨w0, hw0⟩ : ∃ w0, w0 = wr := ⟨_, rfl⟩
          rw [← hw0] at hB hbn hEr ⊢
          clear hw0
          obtain ⟨g1, rfl⟩ : ∃ g : Nat, g = gk := ⟨_, rfl⟩
          go_wp2_with (at_make; refine wpList_make_blk n elInts rfl rfl _ _ rfl rfl rfl (by omega) (by omega) ?_; intro gb w2 hgb hblk hx2 hg2; have hE2 := hEr.trans hx2)
          have hB2 := hB.trans hx2
          have hbn2 : BInts w2 gn now := Blk.ext hbn hx2
          have hbb : BInts w2 gb ((m.a.take 0).foldl (fwStep anyA now) (List.replicate n 0)) := by unfold BInts; rw [List.take_zero]; simpa using hblk
          have hgn2 : gn < gb := Nat.lt_of_lt_of_le (Blk.lt hbn) hgb
          have hgb1 : w1.heap.size ≤ gb := by omega
          clear hblk hx2 hE2 hg2 hbn hB hEr hgb
          go_loopg [10] m.a.length (fun z i wr => ∃ j : Nat, j ≤ m.a.length ∧ m.a.length ≤ j + z ∧ i = .int .i64 j ∧ Ext w1 wr ∧ BInts wr gn now ∧ BInts wr gb ((m.a.take j).foldl (fwStep anyA now) (List.replicate n 0)))
          case atStart => exact ⟨0, by omega, by omega, rfl, hB2, hbn2, hbb⟩
          case round =>
            clear hB2 hbn2 hbb
            obtain ⟨j, hj, hj2, rfl, hB, hbn, hbb⟩ := hrel
            have hEr : Ext wA wr := hx1.trans hB
            by_cases hjl : j < m.a.length
            · obtain ⟨ba, oa, rfl, hc0, hc1, hc2, hc3⟩ := HA.out j hjl
              have hst := HM.out.arc hjl
              have HST := Lib.hid (fold_next hjl (fwStep anyA now) (List.replicate n 0))
              have hlb : ((m.a.take j).foldl (fwStep anyA now) (List.replicate n 0)).length = n := by rw [fwF_len]; simp
              generalize arcA m.a j = y at *
              generalize (m.a.take j).foldl (fwStep anyA now) (List.replicate n 0) = bb at *
              obtain ⟨yf, yt, yi, yo⟩ := y
              simp only at hc0 hc1 hc2 hc3 hst
              obtain ⟨p, rfl⟩ : ∃ p : Nat, yf = p := ⟨yf.toNat, by omega⟩
              obtain ⟨q, rfl⟩ : ∃ q : Nat, yt = q := ⟨yt.toNat, by omega⟩
              have hp : p < n := by have := HN.out; omega
              have hq : q < n := by have := HN.out; omega
              have HLB := Lib.hid hlb; clear hlb
              have hs : ∀ s : Later wr, Ext wA s.w := fun s => hEr.trans s.ext
              have q1 := fun s : Later wr => s.ext.keep (hbn.cell (i := p) (by rw [HLN.out]; exact hp))
              have q2 := fun s : Later wr => s.ext.keep (hbb.cell (i := q) (by rw [HLB.out]; exact hq))
              have q3 := fun s : Later wr => (hEr.trans s.ext).keep hc0
              have q4 := fun s : Later wr => (hEr.trans s.ext).keep hc1
              have HS1 : Hid (fwStep anyA now bb ⟨(p : Int), (q : Int), yi, yo⟩ = bb.set q (wrap64 (bb[q]?.getD 0 + now[p]?.getD 0))) := by rw [← wr64_eq]; exact Lib.hid rfl
              generalize now[p]?.getD 0 = xp at *
              generalize bb[q]?.getD 0 = xq at *
              clear hst hc0 hc1 hc2 hc3
              go_wp2_with fail
              refine wp_region_later_tail 20 (by kernel_rfl) (by kernel_rfl) ?_
              simp only [List.take_succ_cons, List.take_zero, List.drop_succ_cons, List.drop_zero]
              repeat (go_big_quiet_step (fail))
              refine wpQuiet_nil ?_
              intro w5 hw'
              obtain ⟨⟨_, hx5⟩, rfl⟩ := hw'
              clear hs q1 q2 q3 q4
              have hb1 : BInts w5 gn now := Blk.ext hbn hx5
              have hb2 : BInts w5 gb bb := Blk.ext hbb hx5
              have hn2 := hb2.cell (i := q) (by rw [HLB.out]; exact hq)
              have hf2 := Blk.frozen hb2 q
              have HB2 := Lib.hid (And.intro (Blk.other hb1 (c := gb) (by omega) q (.int .i64 (wrap64 (xq + xp)))) (hb2.set q (wrap64 (xq + xp))))
              have hX : Ext w1 w5 := hB.trans hx5
              clear hb1 hb2 hbn hbb
              go_wp2_with fail
              go_roundg (gk-1)
              case measure => omega
              case rel => exact ⟨j+1, by omega, by omega, by go_num, hX.setCell hgb1 _ _, HB2.out.1, by rw [HST.out, HS1.out]; exact HB2.out.2⟩
            · have HBB : Hid (BInts wr gb (fwL n m.a anyA now)) := by rw [List.take_of_length_le (by omega)] at hbb; exact Lib.hid hbb
              clear hbb
              go_wp2_with fail
              go_roundg (g1-1)
              case measure => omega
              case rel => exact ⟨k+1, gb, by omega, by omega, by go_num, rfl, hgb1, hB, by rw [HNX.out]; exact HBB.out⟩
        · obtain rfl : k = L := by omega
          generalize fwLs n m.a (beginL n) (List.replicate k anyA) = now at *
          clear hln
          go_wp2_with fail
          go_loopg [12, 11] m.e.length (fun z i v w2 => ∃ j : Nat, j ≤ m.e.length ∧ m.e.length ≤ j + z ∧ i = .int .i64 j ∧ v = .int .i64 (sumAt now (m.e.take j)) ∧ wr = w2)
          case atStart => exact ⟨0, by omega, by omega, rfl, rfl, rfl⟩
          case round =>
            obtain ⟨j, hj, hj2, rfl, rfl, rfl⟩ := hrel
            by_cases hjl : j < m.e.length
            · obtain ⟨be, oe, rfl, hc⟩ := HE.out j hjl
              replace hc := hEr.keep hc
              have hx := HM.out.ends (m.e[j]?.getD 0) (by rw [List.getElem?_eq_getElem hjl]; exact List.getElem_mem hjl)
              have HNE := Lib.hid (sumAt_next hjl now)
              generalize m.e[j]?.getD 0 = x at *
              obtain ⟨p, rfl⟩ : ∃ p : Nat, x = p := ⟨x.toNat, by omega⟩
              have hp : p < n := by have := HN.out; omega
              have h0 := hbn.cell (i := p) (by rw [HLN.out]; exact hp)
              rw [Int.toNat_natCast] at HNE
              generalize now[p]?.getD 0 = y at *
              generalize sumAt now (m.e.take j) = t at *
              clear hx
              go_wp2_with fail
              go_roundg (gk-1)
              case measure => omega
              case rel => exact ⟨j+1, by omega, by omega, by go_num, by rw [HNE.out], rfl⟩
            · have HSM : Hid (sumAt now (m.e.take j) = countP m k) := by rw [List.take_of_length_le (by omega), HCP.out]; exact rfl
              generalize sumAt now (m.e.take j) = t at *
              go_wp2_with fail
              go_ret2
              exact ⟨by rw [hK.out, hC.out, HSM.out]; rfl, hE0.trans (hx1.trans hB)⟩
  · rw [show countV m i = 0 by rw [countV, if_neg hv], show countK m i = validM m by rw [countK, if_neg hv]]
    have hk : (validM m != 0) = true := by simp [hv]
    generalize validM m = k at *
    clear hv
    go_enter Try.func22, Try.ntmps22
    go_wp2_with fail
    rw [← HW.out]
    refine HV.out.mono ?_; rintro e w1 ⟨rfl, hx1⟩
    go_wp2_with fail
    go_ret2
    exact ⟨rfl, hE0.trans hx1⟩
end Go.Proofs.Ytpbflkbelhlogaa
