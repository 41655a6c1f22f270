/- Two lists of items with the same words: the search of the program. -/
import Derived.Test.YtgpggmcjggpmpaaTagU
import Derived.Test.YtgpggmcjggpmpaaTagG
import Derived.Deep.CutRange
namespace Go.Proofs.Ytgpggmcjggpmpaa
open Go.RowKit Go.Shelf
set_option linter.unusedVariables false

def lenV : Value → Nat
  | .slice _ n _ => n
  | _ => 0
def muT (a : Act) (_ : World) : Nat := (56 - lenV (a.tmps.getD 10 undef)) * 9 + lenV (a.tmps.getD 5 undef)
/-- the frame, what is no matter by u -/
def frT (u : Nat → Value) (p q s : Value) : Array Value := #[u 0, p, u 2, u 3, u 4, q, u 6, u 7, u 8, u 9, s, u 11, u 12, u 13, u 14, u 15, u 16, u 17, u 18, u 19, u 20, u 21, u 22, u 23, u 24, u 25, u 26, u 27, u 28, u 29, u 30, u 31, u 32, u 33, u 34, u 35, u 36, u 37, u 38, u 39, u 40, u 41, u 42, u 43, u 44, u 45, u 46, u 47, u 48, u 49, u 50, u 51, u 52, u 53, u 54, u 55, u 56, u 57, u 58, u 59, u 60, u 61, u 62, u 63, u 64, u 65, u 66, u 67, u 68, u 69, u 70, u 71, u 72, u 73, u 74, u 75, u 76, u 77, u 78, u 79, u 80, u 81, u 82, u 83, u 84, u 85, u 86, u 87, u 88, u 89, u 90, u 91, u 92, u 93, u 94, u 95, u 96]
/-- at the label -/
def JT (wA : World) (l : Lex) (bx : Nat) (a : Act) (w : World) : Prop := ∃ (seen : List (List Int)) (q : List Hng) (qv sv : Value) (u : Nat → Value),
  a = { tmps := #[u 0, .pointer (some ⟨bx, 0, none⟩), u 2, u 3, u 4, qv, u 6, u 7, u 8, u 9, sv, u 11, u 12, u 13, u 14, u 15, u 16, u 17, u 18, u 19, u 20, u 21, u 22, u 23, u 24, u 25, u 26, u 27, u 28, u 29, u 30, u 31, u 32, u 33, u 34, u 35, u 36, u 37, u 38, u 39, u 40, u 41, u 42, u 43, u 44, u 45, u 46, u 47, u 48, u 49, u 50, u 51, u 52, u 53, u 54, u 55, u 56, u 57, u 58, u 59, u 60, u 61, u 62, u 63, u 64, u 65, u 66, u 67, u 68, u 69, u 70, u 71, u 72, u 73, u 74, u 75, u 76, u 77, u 78, u 79, u 80, u 81, u 82, u 83, u 84, u 85, u 86, u 87, u 88, u 89, u 90, u 91, u 92, u 93, u 94, u 95, u 96], defers := [] } ∧ Ext wA w ∧ QR w wA.heap.size qv q ∧ SR w wA.heap.size sv seen ∧ Srch l seen q
theorem JT.mk {wA : World} {l : Lex} {bx : Nat} {a : Act} {w : World} {seen : List (List Int)} {q : List Hng} {qv sv : Value} (hd : a.defers = []) (hf : a.tmps = frT (fun i => a.tmps.getD i undef) (.pointer (some ⟨bx, 0, none⟩)) qv sv)
    (hx : Ext wA w) (hq : QR w wA.heap.size qv q) (hs : SR w wA.heap.size sv seen) (ht : Srch l seen q) : JT wA l bx a w :=
  ⟨seen, q, qv, sv, fun i => a.tmps.getD i undef, by
    obtain ⟨t, d⟩ := a
    simp only at hd
    rw [hd]
    conv => lhs; rw [show t = _ from hf]
    rfl, hx, hq, hs, ht⟩
theorem tails_le {l : Lex} (h : LexOk l) {o : List Int} (ho : o ∈ tails l) : o.length ≤ 6 := by
  unfold tails at ho
  rw [List.mem_flatMap] at ho
  obtain ⟨j, hj, ho⟩ := ho
  obtain ⟨k, hk, rfl⟩ := List.mem_map.1 ho
  have := (h.wo j (by simpa using hj)).2
  rw [List.length_drop]
  show (wrd l (j : Int)).length - k ≤ 6
  have : (wrd l (j : Int)).length ≤ 6 := this
  omega
theorem first_hng {wA W : World} {B G : Nat} {u : Value} {l : Lex} {i : Nat} (hG : Blk W G 3 [.int .i64 (i : Int)]) (hu : Ints wA u (wrd l (i : Int))) (hx : Ext wA W) (hB : wA.heap.size ≤ B) : HngR W B (.slice (some ⟨G, 0, none⟩) 1 1) (.slice none 0 0) u ([(i : Int)], [], wrd l (i : Int)) :=
  ⟨⟨ints_lit (n := 1) rfl (by omega) (fun k hk => (by have h0 : k = 0 := (by simp at hk; omega)
                                                      subst h0; exact hG.cell rfl)), fun _ b hb => .inr (by simp only [Value.ownBlock, Option.some.injEq] at hb; subst hb; exact ⟨_, _, hG⟩)⟩, SInts.nil _ _, SInts.old hu hx hB⟩
def RTwo (l : Lex) (w : World) (e : Ending) (w' : World) : Prop := Ext w w' ∧ ((e = .returned (.tuple #[.slice none 0 0, .slice none 0 0, .bool false]) ∧ ¬ notCode l) ∨
  ∃ a b av bv, e = .returned (.tuple #[av, bv, .bool true]) ∧ Ints w' av a ∧ Ints w' bv b ∧ TwoOf l a b ∧ a.length ≤ 200 ∧ b.length ≤ 200)

set_option maxHeartbeats 8000000 in
set_option maxRecDepth 100000 in
theorem two_c (iv fv : Value) (l : Lex) (w : World) (h : LexR w iv fv l) (hl : LexOk l) : Calls Try.prog 65 #[.agg #[iv, fv]] w (RTwo l w) := by
  obtain ⟨wA, hwA⟩ : ∃ wA, wA = w.alloc (.cells #[iv, fv] 25) := ⟨_, rfl⟩
  have hE0 : Ext w wA := by rw [hwA]; exact Ext.alloc _ _
  have k0 : ∀ W, Ext wA W → W.cell? ⟨w.heap.size, 0, none⟩ = some iv := by rw [hwA]; exact kept_alloc w _ _ rfl
  have k1 : ∀ W, Ext wA W → W.cell? ⟨w.heap.size, 1, none⟩ = some fv := by rw [hwA]; exact kept_alloc w _ _ rfl
  have H0 : Ext wA wA := Ext.refl _
  have HR := Lib.hid (h.ext hE0)
  obtain ⟨ai, ci, rfl, hli, hmi, HI⟩ := (h.ext hE0).i.open_
  obtain ⟨af, cf, rfl, hlf, hmf, HF⟩ := Rows.open_ (h.ext hE0).f
  have HW := Lib.hid hwA; clear hwA h
  have HL := Lib.hid hl
  have hn8 : l.i.length ≤ 8 := hl.n8
  have hn1 : 1 ≤ l.i.length := hl.n1
  clear hl
  go_enter Try.func65, Try.ntmps65
  go_wp2_with fail
  refine wp_scope_once 0 (JT wA l w.heap.size) muT rfl ?_ ?_
  · rintro a w1 ⟨seen, q, qv, sv, u, rfl, hX, hQ, hS, hT⟩
    cases q with
    | nil =>
      obtain ⟨aq, cq, rfl, _, _⟩ := hQ.form
      simp only [List.length_nil]
      go_wp2_with fail
      simp only [Exit.jump]
      go_ret3
      exact ⟨hE0.trans hX, .inl ⟨rfl, srch_end HL.out hT⟩⟩
    | cons x q =>
      obtain ⟨g, o, cap, a, b, c, rfl, hqn, hqm, hqB, c0, c1, c2, hh, HP⟩ := hQ.pop
      clear hQ
      obtain ⟨aa, ca, rfl, _, _, _⟩ := hh.lo.ints.open_
      obtain ⟨ab, cb, rfl, _, _, _⟩ := hh.sh.ints.open_
      obtain ⟨ao, co, rfl, hol, hom, _⟩ := hh.ov.ints.open_
      have hqd : (((q.length + 1 : Nat) : Int) == 0) = false := by simp; omega
      have hqd2 : (0 : Int) < (q.length : Int) + 1 := by omega
      have hglt := cell_lt c0
      by_cases hcap : cap = 1
      · subst hcap
        have HQ2 := Lib.hid (fun W hx => HP.out W _ hx (if_pos rfl))
        clear HP
        obtain rfl : q = [] := List.eq_nil_of_length_eq_zero (by omega)
        simp only [List.length_nil, Nat.sub_self] at HQ2
        go_upto_region 18 with fail
        obtain ⟨wB, hwB⟩ : ∃ wB, wB = w1.alloc (.cells #[.slice aa x.1.length ca, .slice ab x.2.1.length cb, .slice ao x.2.2.length co] 104) := ⟨_, rfl⟩
        have hEB : Ext w1 wB := by rw [hwB]; exact Ext.alloc _ _
        have hTB : Tri wB w1.heap.size (.slice aa x.1.length ca) (.slice ab x.2.1.length cb) (.slice ao x.2.2.length co) := by rw [hwB]; exact ⟨Blk.alloc w1 _ _⟩
        rw [← hwB]
        clear hwB
        have hXB := hX.trans hEB
        have hQB := HQ2.out wB hEB
        have hSB := hS.ext hEB
        have hhB := hh.ext hEB
        have hqb : ∀ r, (.slice (some ⟨g, o, none⟩) 0 0 : Value).ownBlock = some r → r ≠ w1.heap.size := fun r hr e => by
          have := hglt
          simp only at this
          simp only [Value.ownBlock, Option.some.injEq] at hr; omega
        have t0 := hTB.blk.cell (i := 0) rfl
        have t1 := hTB.blk.cell (i := 1) rfl
        have t2 := hTB.blk.cell (i := 2) rfl
        have HT := Lib.hid hT
        have hxl : x.1.length + x.2.1.length ≤ seen.length + 2 := (hT.hq x (by simp)).2.2
        have hsl := srch_len HL.out hT
        have hol6 : x.2.2.length ≤ 6 := tails_le HL.out (hT.hq x (by simp)).2.1
        clear hT c0 c1 c2 hX hh hS
        obtain ⟨asn, csn, rfl⟩ := hSB.len
        have HSB := Lib.hid hSB; have HQB := Lib.hid hQB; have HHB := Lib.hid hhB; have HTB := Lib.hid hTB; have HQb := Lib.hid hqb; clear hSB hQB hhB hTB hqb
        by_cases hov : x.2.2 = []
        · have hd : ((x.2.2.length : Int) == 0) = true := by simp [hov]
          have hs5 : ∀ s : Later wB, Ext wB s.w := fun s => s.ext
          have q0 := fun s : Later wB => s.ext.keep t0
          have q1 := fun s : Later wB => s.ext.keep t1
          have HF := Lib.hid (srch_found HL.out HT.out hov)
          clear hov
          go_wp2_with fail
          refine wp_region_later (by kernel_rfl) (by kernel_rfl) ?_
          repeat (go_big_quiet_step (fail))
          refine wpQuiet_nil ?_
          intro w5 hw'
          obtain ⟨⟨_, hx5⟩, rfl⟩ := hw'
          clear q0 q1 hs5
          go_wp2_with fail
          simp only [Exit.jump]
          go_ret3
          exact ⟨hE0.trans (hXB.trans hx5), .inr ⟨x.1, x.2.1, _, _, rfl, (HHB.out.ext hx5).lo.ints, (HHB.out.ext hx5).sh.ints, HF.out⟩⟩
        · have hol1 : 0 < x.2.2.length := List.length_pos_iff.2 hov
          have hd : ((x.2.2.length : Int) == 0) = false := by simpa using hov
          have HSEEN := Lib.hid (seen_c (.slice asn seen.length csn) _ w1.heap.size seen x.2.2 wB HSB.out.rows t2 HHB.out.ov.ints)
          by_cases hin : x.2.2 ∈ seen
          · rw [decide_eq_true hin] at HSEEN
            have HSK := Lib.hid (srch_skip HT.out hin)
            clear hin hov
            go_wp2_with fail
            refine HSEEN.out.mono ?_; rintro e w3 ⟨rfl, hx3⟩
            go_wp2_with fail
            go_step3
            refine ⟨rfl, JT.mk rfl rfl (hXB.trans hx3) (HQB.out.ext hx3) (HSB.out.ext hx3) HSK.out, ?_⟩
            show (56 - lenV (.slice asn seen.length csn)) * 9 + lenV (.slice (some ⟨g, o, none⟩) 0 0) < (56 - lenV (.slice asn seen.length csn)) * 9 + lenV (.slice (some ⟨g, o, none⟩) (0 + 1) 1)
            simp only [lenV]; omega
          · have HM := Lib.hid (srch_more HL.out HT.out hov hin)
            have HML := Lib.hid (srch_more_len HL.out HT.out hov hin)
            have hql := HT.out.ql
            rw [List.length_cons] at hql
            rw [decide_eq_false hin] at HSEEN
            clear hin hov
            go_wp2_with fail
            refine HSEEN.out.mono ?_; rintro e w3 ⟨rfl, hx3⟩
            have hT3 := HTB.out.ext hx3
            have HT3 := Lib.hid hT3
            have t0 := hT3.blk.cell (i := 0) rfl
            have t1 := hT3.blk.cell (i := 1) rfl
            have t2 := hT3.blk.cell (i := 2) rfl
            have HX3 := Lib.hid (hXB.trans hx3)
            have HQ3 := Lib.hid (HQB.out.ext hx3)
            have HS3 := Lib.hid (HSB.out.ext hx3)
            have HH3 := Lib.hid (HHB.out.ext hx3)
            have hsz3 : wA.heap.size ≤ w3.heap.size := HX3.out.size
            clear hT3 hx3 hXB HTB HQB HSB HHB hEB HSEEN
            obtain ⟨us, hs1, hs2⟩ := HS3.out
            have HS1 := Lib.hid hs1; have HS2 := Lib.hid hs2; clear hs1 hs2
            go_wp2_with (at_builtin; go_loud (refine wpList_appendTail (news := [_]) elRows rfl _ _ rfl rfl rfl HS1.out rfl rfl (by intro u hu; rw [List.mem_singleton] at hu; subst hu; rfl) hsz3 (by omega) (by omega) ?_); intro sv4 w4 ho4 hg4 _; have hX4 : Ext wA w4 := RowT.below HS3.out.row HX3.out hg4)
            have hS4 := SR.more HS1.out HS2.out HH3.out.ov ho4 hg4
            have hQ4 := HQ3.out.kept hg4 HS3.out.row (by decide) (by decide)
            have hH4 := HH3.out.kept hg4 (HS3.out.row.noI (by decide))
            have hT4 := HT3.out.kept hg4 (HT3.out.apart HS3.out.row (by decide))
            clear ho4 hg4 t0 t1 t2 HS1 HS2 HS3 HQ3 HH3 HT3 HX3 us
            have hrel0 : QR w4 wA.heap.size (.slice (some ⟨g, o, none⟩) 0 0) (nextTo l x [] 0) := by rw [nextTo_zero]; exact hQ4
            clear hQ4
            have hb0 := HQb.out
            go_loopg [81, 5] l.i.length (fun z jj s5 wr => ∃ k : Nat, k ≤ l.i.length ∧ l.i.length ≤ k + z ∧ jj = .int .i64 k ∧ Ext wA wr ∧ QR wr wA.heap.size s5 (nextTo l x [] k) ∧ SR wr wA.heap.size sv4 (seen ++ [x.2.2]) ∧ Tri wr w1.heap.size (.slice aa x.1.length ca) (.slice ab x.2.1.length cb) (.slice ao x.2.2.length co) ∧ HngR wr wA.heap.size (.slice aa x.1.length ca) (.slice ab x.2.1.length cb) (.slice ao x.2.2.length co) x ∧ Hid (∀ r, s5.ownBlock = some r → r ≠ w1.heap.size))
            case atStart => exact ⟨0, by omega, by omega, rfl, hX4, hrel0, hS4, hT4, hH4, Lib.hid hb0⟩
            case round =>
              clear hX4 hrel0 hS4 hT4 hH4 hb0 hsz3
              obtain ⟨k, hk, hkz, rfl, hXr, hQr, hSr, hTr, hHr, hBr⟩ := hrel
              by_cases hlt : k < l.i.length
              · have HQR := Lib.hid hQr; have HSR := Lib.hid hSr; have HTR := Lib.hid hTr; have HHR := Lib.hid hHr
                have HWI := Lib.hid (with_c wA wA.heap.size _ _ _ _ _ l x k wr hXr HR.out HL.out (Nat.le_refl _) hXr.size hHr hlt (by omega) hol6 hol1)
                have t0 := hTr.blk.cell (i := 0) rfl
                have t1 := hTr.blk.cell (i := 1) rfl
                have t2 := hTr.blk.cell (i := 2) rfl
                have hnl := nextTo_len (l := l) (x := x) (q := []) (k := k)
                clear hQr hSr hTr hHr
                cases hwi : withH l x k with
                | none =>
                  have HNX := Lib.hid (nextTo_none (q := []) hwi)
                  rw [hwi] at HWI
                  clear hwi
                  go_wp2_with fail
                  refine HWI.out.mono ?_; rintro e w5 ⟨hx5, a5, b5, c5, rfl, hh5⟩
                  obtain ⟨a5, d5, rfl, _, _, _⟩ := hh5.lo.ints.open_
                  obtain ⟨b5, e5, rfl, _, _, _⟩ := hh5.sh.ints.open_
                  obtain ⟨c5, f5, rfl, _, _, _⟩ := hh5.ov.ints.open_
                  have hX5 := hXr.trans hx5
                  clear hh5 t0 t1 t2
                  go_wp2_with fail
                  go_roundg (gk-1)
                  case measure => omega
                  case rel =>
                    have hQn := HQR.out
                    rw [← HNX.out] at hQn
                    have hE6 : ∀ ob, Ext wr (w5.alloc ob) := fun ob => hx5.trans (Ext.alloc w5 ob)
                    exact ⟨k+1, by omega, by omega, by go_num, hXr.trans (hE6 _), hQn.ext (hE6 _), HSR.out.ext (hE6 _), HTR.out.ext (hE6 _), HHR.out.ext (hE6 _), hBr⟩
                | some y =>
                  have HNX := Lib.hid (nextTo_some (q := []) hwi)
                  rw [hwi] at HWI
                  clear hwi
                  go_wp2_with fail
                  refine HWI.out.mono ?_; rintro e w5 ⟨hx5, a5, b5, c5, rfl, hh5⟩
                  simp only [Option.isSome_some, Option.getD_some] at hh5 ⊢
                  obtain ⟨a5, d5, rfl, _, _, _⟩ := hh5.lo.ints.open_
                  obtain ⟨b5, e5, rfl, _, _, _⟩ := hh5.sh.ints.open_
                  obtain ⟨c5, f5, rfl, _, _, _⟩ := hh5.ov.ints.open_
                  have hX5 := hXr.trans hx5
                  have HH5 := Lib.hid hh5
                  clear hh5 t0 t1 t2
                  obtain ⟨w6, hw6⟩ : ∃ w6, w6 = w5.alloc (.cells #[.slice a5 y.1.length d5, .slice b5 y.2.1.length e5, .slice c5 y.2.2.length f5] 104) := ⟨_, rfl⟩
                  have hE6 : Ext w5 w6 := by rw [hw6]; exact Ext.alloc _ _
                  have hE7 := hx5.trans hE6
                  have hX6 := hXr.trans hE7
                  have hsz6 : wA.heap.size ≤ w6.heap.size := hX6.size
                  obtain ⟨vs, hv1, hv2⟩ := HQR.out.ext hE7
                  have HV1 := Lib.hid hv1; have HV2 := Lib.hid hv2; clear hv1 hv2
                  have HW6 := Lib.hid hw6; clear hw6
                  go_wp2_with (at_builtin; rw [← HW6.out]; refine wpList_appendTail (news := [_, _, _]) elHang rfl _ _ rfl rfl rfl HV1.out (by rw [HW6.out]; simp) rfl (by intro u hu; simp only [List.mem_cons, List.not_mem_nil, or_false] at hu; rcases hu with rfl | rfl | rfl <;> rfl) hsz6 (by omega) (by omega) ?_; intro qv7 w7 ho7 hg7 hf7)
                  have hQ7 := QR.more HV1.out HV2.out (HH5.out.ext hE6) ho7 hg7
                  have hrow := (HQR.out.ext hE7).row
                  have hX7 : Ext wA w7 := RowT.below hrow hX6 hg7
                  have hS7 := (HSR.out.ext hE7).kept hg7 hrow (by decide) (by decide)
                  have hH7 := (HHR.out.ext hE7).kept hg7 (hrow.noI (by decide))
                  have hT7 := (HTR.out.ext hE7).kept hg7 (fun e => hBr.out _ e rfl)
                  have hB7 := Lib.hid (fun r hr => (hf7 r hr).elim (hBr.out r) (fun h e => by have := HTR.out.blk.lt; have := hE7.size; omega))
                  rw [← HNX.out] at hQ7
                  clear ho7 hg7 hf7 hrow HV1 HV2 vs
                  go_wp2_with fail
                  go_roundg (gk-1)
                  case measure => omega
                  case rel => exact ⟨k+1, by omega, by omega, by go_num, hX7, hQ7, hS7, hT7, hH7, hB7⟩
              · have hkl : k = l.i.length := by omega
                subst hkl
                have hnl := nextTo_len (l := l) (x := x) (q := []) (k := l.i.length)
                obtain ⟨a5, c5, rfl⟩ := hSr.len
                have hQl := hQr.len
                have hnl2 : (nextTo l x [] l.i.length).length ≤ 0 + l.i.length := hnl
                clear hnl
                go_wp2_with fail
                go_step3
                refine ⟨rfl, JT.mk rfl rfl hXr hQr hSr HM.out, ?_⟩
                obtain ⟨a6, c6, rfl⟩ := hQl
                show (56 - lenV (.slice a5 (seen ++ [x.2.2]).length c5)) * 9 + lenV (.slice a6 (nextTo l x [] l.i.length).length c6) < (56 - lenV (.slice asn seen.length csn)) * 9 + lenV (.slice (some ⟨g, o, none⟩) (0 + 1) 1)
                simp only [lenV, List.length_append, List.length_singleton]
                have := HML.out
                omega
      · have HQ2 := Lib.hid (fun W hx => HP.out W _ hx (if_neg hcap))
        clear HP
        go_upto_region 18 with fail
        obtain ⟨wB, hwB⟩ : ∃ wB, wB = w1.alloc (.cells #[.slice aa x.1.length ca, .slice ab x.2.1.length cb, .slice ao x.2.2.length co] 104) := ⟨_, rfl⟩
        have hEB : Ext w1 wB := by rw [hwB]; exact Ext.alloc _ _
        have hTB : Tri wB w1.heap.size (.slice aa x.1.length ca) (.slice ab x.2.1.length cb) (.slice ao x.2.2.length co) := by rw [hwB]; exact ⟨Blk.alloc w1 _ _⟩
        rw [← hwB]
        clear hwB
        have hXB := hX.trans hEB
        have hQB := HQ2.out wB hEB
        have hSB := hS.ext hEB
        have hhB := hh.ext hEB
        have hqb : ∀ r, (.slice (some ⟨g, o + 3, none⟩) q.length (cap - 1) : Value).ownBlock = some r → r ≠ w1.heap.size := fun r hr e => by
          have := hglt
          simp only at this
          simp only [Value.ownBlock, Option.some.injEq] at hr; omega
        have t0 := hTB.blk.cell (i := 0) rfl
        have t1 := hTB.blk.cell (i := 1) rfl
        have t2 := hTB.blk.cell (i := 2) rfl
        have HT := Lib.hid hT
        have hxl : x.1.length + x.2.1.length ≤ seen.length + 2 := (hT.hq x (by simp)).2.2
        have hsl := srch_len HL.out hT
        have hol6 : x.2.2.length ≤ 6 := tails_le HL.out (hT.hq x (by simp)).2.1
        clear hT c0 c1 c2 hX hh hS
        obtain ⟨asn, csn, rfl⟩ := hSB.len
        have HSB := Lib.hid hSB; have HQB := Lib.hid hQB; have HHB := Lib.hid hhB; have HTB := Lib.hid hTB; have HQb := Lib.hid hqb; clear hSB hQB hhB hTB hqb
        by_cases hov : x.2.2 = []
        · have hd : ((x.2.2.length : Int) == 0) = true := by simp [hov]
          have hs5 : ∀ s : Later wB, Ext wB s.w := fun s => s.ext
          have q0 := fun s : Later wB => s.ext.keep t0
          have q1 := fun s : Later wB => s.ext.keep t1
          have HF := Lib.hid (srch_found HL.out HT.out hov)
          clear hov
          go_wp2_with fail
          refine wp_region_later (by kernel_rfl) (by kernel_rfl) ?_
          repeat (go_big_quiet_step (fail))
          refine wpQuiet_nil ?_
          intro w5 hw'
          obtain ⟨⟨_, hx5⟩, rfl⟩ := hw'
          clear q0 q1 hs5
          go_wp2_with fail
          simp only [Exit.jump]
          go_ret3
          exact ⟨hE0.trans (hXB.trans hx5), .inr ⟨x.1, x.2.1, _, _, rfl, (HHB.out.ext hx5).lo.ints, (HHB.out.ext hx5).sh.ints, HF.out⟩⟩
        · have hol1 : 0 < x.2.2.length := List.length_pos_iff.2 hov
          have hd : ((x.2.2.length : Int) == 0) = false := by simpa using hov
          have HSEEN := Lib.hid (seen_c (.slice asn seen.length csn) _ w1.heap.size seen x.2.2 wB HSB.out.rows t2 HHB.out.ov.ints)
          by_cases hin : x.2.2 ∈ seen
          · rw [decide_eq_true hin] at HSEEN
            have HSK := Lib.hid (srch_skip HT.out hin)
            clear hin hov
            go_wp2_with fail
            refine HSEEN.out.mono ?_; rintro e w3 ⟨rfl, hx3⟩
            go_wp2_with fail
            go_step3
            refine ⟨rfl, JT.mk rfl rfl (hXB.trans hx3) (HQB.out.ext hx3) (HSB.out.ext hx3) HSK.out, ?_⟩
            show (56 - lenV (.slice asn seen.length csn)) * 9 + lenV (.slice (some ⟨g, o + 3, none⟩) q.length (cap - 1)) < (56 - lenV (.slice asn seen.length csn)) * 9 + lenV (.slice (some ⟨g, o, none⟩) (q.length + 1) cap)
            simp only [lenV]; omega
          · have HM := Lib.hid (srch_more HL.out HT.out hov hin)
            have HML := Lib.hid (srch_more_len HL.out HT.out hov hin)
            have hql := HT.out.ql
            rw [List.length_cons] at hql
            rw [decide_eq_false hin] at HSEEN
            clear hin hov
            go_wp2_with fail
            refine HSEEN.out.mono ?_; rintro e w3 ⟨rfl, hx3⟩
            have hT3 := HTB.out.ext hx3
            have HT3 := Lib.hid hT3
            have t0 := hT3.blk.cell (i := 0) rfl
            have t1 := hT3.blk.cell (i := 1) rfl
            have t2 := hT3.blk.cell (i := 2) rfl
            have HX3 := Lib.hid (hXB.trans hx3)
            have HQ3 := Lib.hid (HQB.out.ext hx3)
            have HS3 := Lib.hid (HSB.out.ext hx3)
            have HH3 := Lib.hid (HHB.out.ext hx3)
            have hsz3 : wA.heap.size ≤ w3.heap.size := HX3.out.size
            clear hT3 hx3 hXB HTB HQB HSB HHB hEB HSEEN
            obtain ⟨us, hs1, hs2⟩ := HS3.out
            have HS1 := Lib.hid hs1; have HS2 := Lib.hid hs2; clear hs1 hs2
            go_wp2_with (at_builtin; go_loud (refine wpList_appendTail (news := [_]) elRows rfl _ _ rfl rfl rfl HS1.out rfl rfl (by intro u hu; rw [List.mem_singleton] at hu; subst hu; rfl) hsz3 (by omega) (by omega) ?_); intro sv4 w4 ho4 hg4 _; have hX4 : Ext wA w4 := RowT.below HS3.out.row HX3.out hg4)
            have hS4 := SR.more HS1.out HS2.out HH3.out.ov ho4 hg4
            have hQ4 := HQ3.out.kept hg4 HS3.out.row (by decide) (by decide)
            have hH4 := HH3.out.kept hg4 (HS3.out.row.noI (by decide))
            have hT4 := HT3.out.kept hg4 (HT3.out.apart HS3.out.row (by decide))
            clear ho4 hg4 t0 t1 t2 HS1 HS2 HS3 HQ3 HH3 HT3 HX3 us
            have hrel0 : QR w4 wA.heap.size (.slice (some ⟨g, o + 3, none⟩) q.length (cap - 1)) (nextTo l x q 0) := by rw [nextTo_zero]; exact hQ4
            clear hQ4
            have hb0 := HQb.out
            go_loopg [81, 5] l.i.length (fun z jj s5 wr => ∃ k : Nat, k ≤ l.i.length ∧ l.i.length ≤ k + z ∧ jj = .int .i64 k ∧ Ext wA wr ∧ QR wr wA.heap.size s5 (nextTo l x q k) ∧ SR wr wA.heap.size sv4 (seen ++ [x.2.2]) ∧ Tri wr w1.heap.size (.slice aa x.1.length ca) (.slice ab x.2.1.length cb) (.slice ao x.2.2.length co) ∧ HngR wr wA.heap.size (.slice aa x.1.length ca) (.slice ab x.2.1.length cb) (.slice ao x.2.2.length co) x ∧ Hid (∀ r, s5.ownBlock = some r → r ≠ w1.heap.size))
            case atStart => exact ⟨0, by omega, by omega, rfl, hX4, hrel0, hS4, hT4, hH4, Lib.hid hb0⟩
            case round =>
              clear hX4 hrel0 hS4 hT4 hH4 hb0 hsz3
              obtain ⟨k, hk, hkz, rfl, hXr, hQr, hSr, hTr, hHr, hBr⟩ := hrel
              by_cases hlt : k < l.i.length
              · have HQR := Lib.hid hQr; have HSR := Lib.hid hSr; have HTR := Lib.hid hTr; have HHR := Lib.hid hHr
                have HWI := Lib.hid (with_c wA wA.heap.size _ _ _ _ _ l x k wr hXr HR.out HL.out (Nat.le_refl _) hXr.size hHr hlt (by omega) hol6 hol1)
                have t0 := hTr.blk.cell (i := 0) rfl
                have t1 := hTr.blk.cell (i := 1) rfl
                have t2 := hTr.blk.cell (i := 2) rfl
                have hnl := nextTo_len (l := l) (x := x) (q := q) (k := k)
                clear hQr hSr hTr hHr
                cases hwi : withH l x k with
                | none =>
                  have HNX := Lib.hid (nextTo_none (q := q) hwi)
                  rw [hwi] at HWI
                  clear hwi
                  go_wp2_with fail
                  refine HWI.out.mono ?_; rintro e w5 ⟨hx5, a5, b5, c5, rfl, hh5⟩
                  obtain ⟨a5, d5, rfl, _, _, _⟩ := hh5.lo.ints.open_
                  obtain ⟨b5, e5, rfl, _, _, _⟩ := hh5.sh.ints.open_
                  obtain ⟨c5, f5, rfl, _, _, _⟩ := hh5.ov.ints.open_
                  have hX5 := hXr.trans hx5
                  clear hh5 t0 t1 t2
                  go_wp2_with fail
                  go_roundg (gk-1)
                  case measure => omega
                  case rel =>
                    have hQn := HQR.out
                    rw [← HNX.out] at hQn
                    have hE6 : ∀ ob, Ext wr (w5.alloc ob) := fun ob => hx5.trans (Ext.alloc w5 ob)
                    exact ⟨k+1, by omega, by omega, by go_num, hXr.trans (hE6 _), hQn.ext (hE6 _), HSR.out.ext (hE6 _), HTR.out.ext (hE6 _), HHR.out.ext (hE6 _), hBr⟩
                | some y =>
                  have HNX := Lib.hid (nextTo_some (q := q) hwi)
                  rw [hwi] at HWI
                  clear hwi
                  go_wp2_with fail
                  refine HWI.out.mono ?_; rintro e w5 ⟨hx5, a5, b5, c5, rfl, hh5⟩
                  simp only [Option.isSome_some, Option.getD_some] at hh5 ⊢
                  obtain ⟨a5, d5, rfl, _, _, _⟩ := hh5.lo.ints.open_
                  obtain ⟨b5, e5, rfl, _, _, _⟩ := hh5.sh.ints.open_
                  obtain ⟨c5, f5, rfl, _, _, _⟩ := hh5.ov.ints.open_
                  have hX5 := hXr.trans hx5
                  have HH5 := Lib.hid hh5
                  clear hh5 t0 t1 t2
                  obtain ⟨w6, hw6⟩ : ∃ w6, w6 = w5.alloc (.cells #[.slice a5 y.1.length d5, .slice b5 y.2.1.length e5, .slice c5 y.2.2.length f5] 104) := ⟨_, rfl⟩
                  have hE6 : Ext w5 w6 := by rw [hw6]; exact Ext.alloc _ _
                  have hE7 := hx5.trans hE6
                  have hX6 := hXr.trans hE7
                  have hsz6 : wA.heap.size ≤ w6.heap.size := hX6.size
                  obtain ⟨vs, hv1, hv2⟩ := HQR.out.ext hE7
                  have HV1 := Lib.hid hv1; have HV2 := Lib.hid hv2; clear hv1 hv2
                  have HW6 := Lib.hid hw6; clear hw6
                  go_wp2_with (at_builtin; rw [← HW6.out]; refine wpList_appendTail (news := [_, _, _]) elHang rfl _ _ rfl rfl rfl HV1.out (by rw [HW6.out]; simp) rfl (by intro u hu; simp only [List.mem_cons, List.not_mem_nil, or_false] at hu; rcases hu with rfl | rfl | rfl <;> rfl) hsz6 (by omega) (by omega) ?_; intro qv7 w7 ho7 hg7 hf7)
                  have hQ7 := QR.more HV1.out HV2.out (HH5.out.ext hE6) ho7 hg7
                  have hrow := (HQR.out.ext hE7).row
                  have hX7 : Ext wA w7 := RowT.below hrow hX6 hg7
                  have hS7 := (HSR.out.ext hE7).kept hg7 hrow (by decide) (by decide)
                  have hH7 := (HHR.out.ext hE7).kept hg7 (hrow.noI (by decide))
                  have hT7 := (HTR.out.ext hE7).kept hg7 (fun e => hBr.out _ e rfl)
                  have hB7 := Lib.hid (fun r hr => (hf7 r hr).elim (hBr.out r) (fun h e => by have := HTR.out.blk.lt; have := hE7.size; omega))
                  rw [← HNX.out] at hQ7
                  clear ho7 hg7 hf7 hrow HV1 HV2 vs
                  go_wp2_with fail
                  go_roundg (gk-1)
                  case measure => omega
                  case rel => exact ⟨k+1, by omega, by omega, by go_num, hX7, hQ7, hS7, hT7, hH7, hB7⟩
              · have hkl : k = l.i.length := by omega
                subst hkl
                have hnl := nextTo_len (l := l) (x := x) (q := q) (k := l.i.length)
                obtain ⟨a5, c5, rfl⟩ := hSr.len
                have hQl := hQr.len
                have hnl2 : (nextTo l x q l.i.length).length ≤ q.length + l.i.length := hnl
                clear hnl
                go_wp2_with fail
                go_step3
                refine ⟨rfl, JT.mk rfl rfl hXr hQr hSr HM.out, ?_⟩
                obtain ⟨a6, c6, rfl⟩ := hQl
                show (56 - lenV (.slice a5 (seen ++ [x.2.2]).length c5)) * 9 + lenV (.slice a6 (nextTo l x q l.i.length).length c6) < (56 - lenV (.slice asn seen.length csn)) * 9 + lenV (.slice (some ⟨g, o, none⟩) (q.length + 1) cap)
                simp only [lenV, List.length_append, List.length_singleton]
                have := HML.out
                omega
  · intro HPASS
    go_wp2_with fail
    rw [← HW.out]
    go_loopg [18, 5] l.i.length (fun z ii s5 wr => ∃ i : Nat, i ≤ l.i.length ∧ l.i.length ≤ i + z ∧ ii = .int .i64 i ∧ Ext wA wr ∧ QR wr wA.heap.size s5 (firstTo l i 0))
    case atStart => exact ⟨0, by omega, by omega, rfl, Ext.refl _, QR.nil _ _⟩
    case round =>
      obtain ⟨i, hi, hiz, rfl, hXr, hQr⟩ := hrel
      obtain ⟨g1, rfl⟩ : ∃ g : Nat, g = gk := ⟨_, rfl⟩
      obtain ⟨W0, rfl⟩ : ∃ W : World, W = wr := ⟨_, rfl⟩
      by_cases hin : i < l.i.length
      · obtain ⟨bi, oi, rfl, u, hc0, hu, _, _⟩ := HI.out i hin
        have hiI : (i : Int) < (l.i.length : Int) := by omega
        have hw61 := HL.out.wo i hin
        have hw1 : 0 < (wrd l (i : Int)).length := hw61.1
        have hw6 : (wrd l (i : Int)).length ≤ 6 := hw61.2
        clear hw61
        have HU : Hid (Ints wA u (wrd l (i : Int))) := Lib.hid hu
        obtain ⟨au, cu, rfl, _, _, _⟩ := hu.open_
        clear hu
        go_wp2_with fail
        go_loopg [24, 5] l.i.length (fun z jj s5 wr => ∃ j : Nat, j ≤ l.i.length ∧ l.i.length ≤ j + z ∧ jj = .int .i64 j ∧ Ext wA wr ∧ QR wr wA.heap.size s5 (firstTo l i j))
        case atStart => exact ⟨0, by omega, by omega, rfl, hXr, hQr⟩
        case round =>
          clear hXr hQr
          obtain ⟨j, hj, hjz, rfl, hXr, hQr⟩ := hrel
          by_cases hjn : j < l.i.length
          · have hjI : (j : Int) < (l.i.length : Int) := by omega
            have hc0' := hXr.keep hc0
            have HQR := Lib.hid hQr; clear hQr
            have HCALL : Hid (∀ (V : World) (G : Nat), Ext wr V → Blk V G 3 [.int .i64 (i : Int)] → Calls Try.prog 95 #[.agg #[.slice (some ⟨G, 0, none⟩) 1 1, .slice none 0 0, .slice au (itm l.i i).w.length cu], .agg #[.slice (some ⟨bi, oi, none⟩) l.i.length ci, .slice af l.f.length cf], .int .i64 (j : Int)] V (RWith wA.heap.size (withH l ([(i : Int)], [], wrd l (i : Int)) j) V)) :=
              Lib.hid (fun V G hV hG => with_c wA wA.heap.size _ _ _ _ _ l ([(i : Int)], [], wrd l (i : Int)) j V (hXr.trans hV) HR.out HL.out (Nat.le_refl _) (hXr.trans hV).size (first_hng hG HU.out (hXr.trans hV) (Nat.le_refl _)) hjn (by simp) hw6 hw1)
            generalize hO : withH l ([(i : Int)], [], wrd l (i : Int)) j = O at *
            have HO := Lib.hid hO; clear hO
            go_upto_region 8 with fail
            go_cut [8, 9] from 27 to 52 (fun s8 s9 wx => ∃ (H : Nat) (a b c : Value), s8 = .pointer (some ⟨H, 0, none⟩) ∧ s9 = .bool O.isSome ∧ Ext wr wx ∧ Tri wx H a b c ∧ HngR wx wA.heap.size a b c (O.getD ([], [], [])))
            case first =>
              refine wp_region_tree (Ext wr) (.look 0 (.look 2 (.look 3 (.look 4 (.look 5 (.look 6 (.look 7 (.look 9 (.look 10 (.two 1 (.look 8 (.two 11 (.look 12 (.look 13 (.look 14 (.one 15 (.one 16 (.look 17 .done)))))) 15 (.one 11 (.look 12 (.look 13 (.look 14 (.one 16 (.look 17 .done)))))))) 15 (.one 1 (.look 8 (.one 11 (.look 12 (.look 13 (.look 14 (.one 16 (.look 17 .done)))))))))))))))))) (by kernel_rfl) (by kernel_rfl) (by intro c a d v w h; cases d <;> exact h) ?_
              have hd1 : Ext wr { wr with drawn := wr.drawn + 1 } := drawn_ext wr
              have hs : ∀ s : InC (Ext wr), Ext wA s.w := fun s => hXr.trans s.h
              have q0 := fun s : InC (Ext wr) => (hXr.trans s.h).keep hc0
              clear hc0'
              generalize { wr with drawn := wr.drawn + 1 } = W1 at *
              iterate 9 (refine wpTree_look rfl ‹_› (fun K hK => ?_); go_simp; first | (refine hK _ ?_; clear hK K) | (refine ⟨_, fun _ => rfl, hK _ ?_⟩; clear hK K))
              refine wpTree_two rfl rfl rfl rfl (fun K hK => ?_) (fun K hK => ?_)
              · go_wp2_with fail
                refine ⟨fun h => h.trans (Ext.alloc _ _), ?_⟩
                have hgW2 : Blk (W1.alloc (.cells #[.int .i64 (i : Int)] 3)) W1.heap.size 3 [.int .i64 (i : Int)] := Blk.alloc W1 _ _
                have hd2 : Ext wr (W1.alloc (.cells #[.int .i64 (i : Int)] 3)) := hd1.trans (Ext.alloc _ _)
                have hstep := Ext.alloc W1 (.cells #[.int .i64 (i : Int)] 3)
                obtain ⟨G, hG⟩ : ∃ G, G = W1.heap.size := ⟨_, rfl⟩
                rw [← hG] at hgW2 ⊢
                clear hG
                generalize W1.alloc (.cells #[.int .i64 (i : Int)] 3) = W2 at *
                (refine wpTree_look rfl ‹_› (fun K hK => ?_); go_simp; first | (refine hK _ ?_; clear hK K) | (refine ⟨_, fun _ => rfl, hK _ ?_⟩; clear hK K))
                refine wpTree_two rfl rfl rfl rfl (fun K hK => ?_) (fun K hK => ?_)
                · go_wp2_with fail
                  refine ((HCALL.out W2 G hd2 hgW2).mono ?_); rintro e W3 ⟨hx, a5, b5, c5, rfl, hh⟩
                  obtain ⟨a5, d5, rfl, _, _, _⟩ := hh.lo.ints.open_
                  obtain ⟨b5, e5, rfl, _, _, _⟩ := hh.sh.ints.open_
                  obtain ⟨c5, f5, rfl, _, _, _⟩ := hh.ov.ints.open_
                  go_wp2_with fail
                  refine ⟨fun h => h.trans hx, ?_⟩
                  have hd3 := hd2.trans hx
                  iterate 3 (refine wpTree_look rfl ‹_› (fun K hK => ?_); go_simp; first | (refine hK _ ?_; clear hK K) | (refine ⟨_, fun _ => rfl, hK _ ?_⟩; clear hK K))
                  refine wpTree_one rfl rfl (fun K hK => ?_)
                  go_wp2_with fail
                  refine ⟨fun h => h.trans (Ext.alloc _ _), ?_⟩
                  have hTW4 : Tri (W3.alloc (.cells #[.slice none 0 0, .slice none 0 0, .slice none 0 0] 104)) W3.heap.size (.slice none 0 0) (.slice none 0 0) (.slice none 0 0) := ⟨Blk.alloc W3 _ _⟩
                  have hd4 : Ext wr (W3.alloc (.cells #[.slice none 0 0, .slice none 0 0, .slice none 0 0] 104)) := hd3.trans (Ext.alloc _ _)
                  have hstep := Ext.alloc W3 (.cells #[.slice none 0 0, .slice none 0 0, .slice none 0 0] 104)
                  obtain ⟨H, hH⟩ : ∃ H, H = W3.heap.size := ⟨_, rfl⟩
                  have hHr : wr.heap.size ≤ H := by have := hd3.size; omega
                  rw [← hH] at hTW4 ⊢
                  clear hH
                  generalize W3.alloc (.cells #[.slice none 0 0, .slice none 0 0, .slice none 0 0] 104) = W4 at *
                  have hT := hTW4
                  have hdE := hd4
                  have hhE := hh.ext hstep
                  have z0 := hT.blk.cell (i := 0) rfl
                  have z1 := hT.blk.cell (i := 1) rfl
                  have z2 := hT.blk.cell (i := 2) rfl
                  have f0 := hT.blk.frozen 0
                  have f1 := hT.blk.frozen 1
                  have f2 := hT.blk.frozen 2
                  have hBH : wA.heap.size ≤ H := Nat.le_trans hXr.size hHr
                  have hT5 := hT.set (a' := .slice a5 (O.getD ([], [], [])).1.length d5) (b' := .slice b5 (O.getD ([], [], [])).2.1.length e5) (c' := .slice c5 (O.getD ([], [], [])).2.2.length f5)
                  have hd5 := Tri.ext3 hdE hHr (.slice a5 (O.getD ([], [], [])).1.length d5) (.slice b5 (O.getD ([], [], [])).2.1.length e5) (.slice c5 (O.getD ([], [], [])).2.2.length f5)
                  have hl5 := hT.ints (a' := .slice a5 (O.getD ([], [], [])).1.length d5) (b' := .slice b5 (O.getD ([], [], [])).2.1.length e5) (c' := .slice c5 (O.getD ([], [], [])).2.2.length f5) hBH hhE.lo
                  have hs5 := hT.ints (a' := .slice a5 (O.getD ([], [], [])).1.length d5) (b' := .slice b5 (O.getD ([], [], [])).2.1.length e5) (c' := .slice c5 (O.getD ([], [], [])).2.2.length f5) hBH hhE.sh
                  have ho5 := hT.ints (a' := .slice a5 (O.getD ([], [], [])).1.length d5) (b' := .slice b5 (O.getD ([], [], [])).2.1.length e5) (c' := .slice c5 (O.getD ([], [], [])).2.2.length f5) hBH hhE.ov
                  clear hhE
                  refine wpTree_one rfl rfl (fun K hK => ?_)
                  go_wp2_with fail
                  refine ⟨fun _ => hd5, ?_⟩
                  clear z0 z1 z2 f0 f1 f2 hT hdE
                  generalize (((W4.setCell ⟨H, 0, none⟩ (.slice a5 (O.getD ([], [], [])).1.length d5)).setCell ⟨H, 1, none⟩ (.slice b5 (O.getD ([], [], [])).2.1.length e5)).setCell ⟨H, 2, none⟩ (.slice c5 (O.getD ([], [], [])).2.2.length f5)) = W9 at *
                  (refine wpTree_look rfl ‹_› (fun K hK => ?_); go_simp; first | (refine hK _ ?_; clear hK K) | (refine ⟨_, fun _ => rfl, hK _ ?_⟩; clear hK K))
                  refine wpTree_done ?_
                  go_wp2_with fail
                  go_meet
                  case rel => exact ⟨H, _, _, _, rfl, rfl, hd5, hT5, ⟨hl5, hs5, ho5⟩⟩
                · go_wp2_with fail
                  refine ⟨fun h => h.trans (Ext.alloc _ _), ?_⟩
                  have hTW3 : Tri (W2.alloc (.cells #[.slice none 0 0, .slice none 0 0, .slice none 0 0] 104)) W2.heap.size (.slice none 0 0) (.slice none 0 0) (.slice none 0 0) := ⟨Blk.alloc W2 _ _⟩
                  have hd3 : Ext wr (W2.alloc (.cells #[.slice none 0 0, .slice none 0 0, .slice none 0 0] 104)) := hd2.trans (Ext.alloc _ _)
                  have hstep := Ext.alloc W2 (.cells #[.slice none 0 0, .slice none 0 0, .slice none 0 0] 104)
                  obtain ⟨H, hH⟩ : ∃ H, H = W2.heap.size := ⟨_, rfl⟩
                  have hHr : wr.heap.size ≤ H := by have := hd2.size; omega
                  rw [← hH] at hTW3 ⊢
                  clear hH
                  generalize W2.alloc (.cells #[.slice none 0 0, .slice none 0 0, .slice none 0 0] 104) = W3 at *
                  have hgW3 := hgW2.ext hstep
                  refine wpTree_one rfl rfl (fun K hK => ?_)
                  go_wp2_with fail
                  refine ((HCALL.out W3 G hd3 hgW3).mono ?_); rintro e W4 ⟨hx, a5, b5, c5, rfl, hh⟩
                  obtain ⟨a5, d5, rfl, _, _, _⟩ := hh.lo.ints.open_
                  obtain ⟨b5, e5, rfl, _, _, _⟩ := hh.sh.ints.open_
                  obtain ⟨c5, f5, rfl, _, _, _⟩ := hh.ov.ints.open_
                  go_wp2_with fail
                  refine ⟨fun h => h.trans hx, ?_⟩
                  have hd4 := hd3.trans hx
                  iterate 3 (refine wpTree_look rfl ‹_› (fun K hK => ?_); go_simp; first | (refine hK _ ?_; clear hK K) | (refine ⟨_, fun _ => rfl, hK _ ?_⟩; clear hK K))
                  have hT := hTW3.ext hx
                  have hdE := hd4
                  have hhE := hh
                  have z0 := hT.blk.cell (i := 0) rfl
                  have z1 := hT.blk.cell (i := 1) rfl
                  have z2 := hT.blk.cell (i := 2) rfl
                  have f0 := hT.blk.frozen 0
                  have f1 := hT.blk.frozen 1
                  have f2 := hT.blk.frozen 2
                  have hBH : wA.heap.size ≤ H := Nat.le_trans hXr.size hHr
                  have hT5 := hT.set (a' := .slice a5 (O.getD ([], [], [])).1.length d5) (b' := .slice b5 (O.getD ([], [], [])).2.1.length e5) (c' := .slice c5 (O.getD ([], [], [])).2.2.length f5)
                  have hd5 := Tri.ext3 hdE hHr (.slice a5 (O.getD ([], [], [])).1.length d5) (.slice b5 (O.getD ([], [], [])).2.1.length e5) (.slice c5 (O.getD ([], [], [])).2.2.length f5)
                  have hl5 := hT.ints (a' := .slice a5 (O.getD ([], [], [])).1.length d5) (b' := .slice b5 (O.getD ([], [], [])).2.1.length e5) (c' := .slice c5 (O.getD ([], [], [])).2.2.length f5) hBH hhE.lo
                  have hs5 := hT.ints (a' := .slice a5 (O.getD ([], [], [])).1.length d5) (b' := .slice b5 (O.getD ([], [], [])).2.1.length e5) (c' := .slice c5 (O.getD ([], [], [])).2.2.length f5) hBH hhE.sh
                  have ho5 := hT.ints (a' := .slice a5 (O.getD ([], [], [])).1.length d5) (b' := .slice b5 (O.getD ([], [], [])).2.1.length e5) (c' := .slice c5 (O.getD ([], [], [])).2.2.length f5) hBH hhE.ov
                  clear hhE
                  refine wpTree_one rfl rfl (fun K hK => ?_)
                  go_wp2_with fail
                  refine ⟨fun _ => hd5, ?_⟩
                  clear z0 z1 z2 f0 f1 f2 hT hdE
                  generalize (((W4.setCell ⟨H, 0, none⟩ (.slice a5 (O.getD ([], [], [])).1.length d5)).setCell ⟨H, 1, none⟩ (.slice b5 (O.getD ([], [], [])).2.1.length e5)).setCell ⟨H, 2, none⟩ (.slice c5 (O.getD ([], [], [])).2.2.length f5)) = W9 at *
                  (refine wpTree_look rfl ‹_› (fun K hK => ?_); go_simp; first | (refine hK _ ?_; clear hK K) | (refine ⟨_, fun _ => rfl, hK _ ?_⟩; clear hK K))
                  refine wpTree_done ?_
                  go_wp2_with fail
                  go_meet
                  case rel => exact ⟨H, _, _, _, rfl, rfl, hd5, hT5, ⟨hl5, hs5, ho5⟩⟩
              · go_wp2_with fail
                refine ⟨fun h => h.trans (Ext.alloc _ _), ?_⟩
                have hTW2 : Tri (W1.alloc (.cells #[.slice none 0 0, .slice none 0 0, .slice none 0 0] 104)) W1.heap.size (.slice none 0 0) (.slice none 0 0) (.slice none 0 0) := ⟨Blk.alloc W1 _ _⟩
                have hd2 : Ext wr (W1.alloc (.cells #[.slice none 0 0, .slice none 0 0, .slice none 0 0] 104)) := hd1.trans (Ext.alloc _ _)
                have hstep := Ext.alloc W1 (.cells #[.slice none 0 0, .slice none 0 0, .slice none 0 0] 104)
                obtain ⟨H, hH⟩ : ∃ H, H = W1.heap.size := ⟨_, rfl⟩
                have hHr : wr.heap.size ≤ H := by have := hd1.size; omega
                rw [← hH] at hTW2 ⊢
                clear hH
                generalize W1.alloc (.cells #[.slice none 0 0, .slice none 0 0, .slice none 0 0] 104) = W2 at *
                refine wpTree_one rfl rfl (fun K hK => ?_)
                go_wp2_with fail
                refine ⟨fun h => h.trans (Ext.alloc _ _), ?_⟩
                have hgW3 : Blk (W2.alloc (.cells #[.int .i64 (i : Int)] 3)) W2.heap.size 3 [.int .i64 (i : Int)] := Blk.alloc W2 _ _
                have hd3 : Ext wr (W2.alloc (.cells #[.int .i64 (i : Int)] 3)) := hd2.trans (Ext.alloc _ _)
                have hstep := Ext.alloc W2 (.cells #[.int .i64 (i : Int)] 3)
                obtain ⟨G, hG⟩ : ∃ G, G = W2.heap.size := ⟨_, rfl⟩
                rw [← hG] at hgW3 ⊢
                clear hG
                generalize W2.alloc (.cells #[.int .i64 (i : Int)] 3) = W3 at *
                have hT3 := hTW2.ext hstep
                (refine wpTree_look rfl ‹_› (fun K hK => ?_); go_simp; first | (refine hK _ ?_; clear hK K) | (refine ⟨_, fun _ => rfl, hK _ ?_⟩; clear hK K))
                refine wpTree_one rfl rfl (fun K hK => ?_)
                go_wp2_with fail
                refine ((HCALL.out W3 G hd3 hgW3).mono ?_); rintro e W4 ⟨hx, a5, b5, c5, rfl, hh⟩
                obtain ⟨a5, d5, rfl, _, _, _⟩ := hh.lo.ints.open_
                obtain ⟨b5, e5, rfl, _, _, _⟩ := hh.sh.ints.open_
                obtain ⟨c5, f5, rfl, _, _, _⟩ := hh.ov.ints.open_
                go_wp2_with fail
                refine ⟨fun h => h.trans hx, ?_⟩
                have hd4 := hd3.trans hx
                iterate 3 (refine wpTree_look rfl ‹_› (fun K hK => ?_); go_simp; first | (refine hK _ ?_; clear hK K) | (refine ⟨_, fun _ => rfl, hK _ ?_⟩; clear hK K))
                have hT := hT3.ext hx
                have hdE := hd4
                have hhE := hh
                have z0 := hT.blk.cell (i := 0) rfl
                have z1 := hT.blk.cell (i := 1) rfl
                have z2 := hT.blk.cell (i := 2) rfl
                have f0 := hT.blk.frozen 0
                have f1 := hT.blk.frozen 1
                have f2 := hT.blk.frozen 2
                have hBH : wA.heap.size ≤ H := Nat.le_trans hXr.size hHr
                have hT5 := hT.set (a' := .slice a5 (O.getD ([], [], [])).1.length d5) (b' := .slice b5 (O.getD ([], [], [])).2.1.length e5) (c' := .slice c5 (O.getD ([], [], [])).2.2.length f5)
                have hd5 := Tri.ext3 hdE hHr (.slice a5 (O.getD ([], [], [])).1.length d5) (.slice b5 (O.getD ([], [], [])).2.1.length e5) (.slice c5 (O.getD ([], [], [])).2.2.length f5)
                have hl5 := hT.ints (a' := .slice a5 (O.getD ([], [], [])).1.length d5) (b' := .slice b5 (O.getD ([], [], [])).2.1.length e5) (c' := .slice c5 (O.getD ([], [], [])).2.2.length f5) hBH hhE.lo
                have hs5 := hT.ints (a' := .slice a5 (O.getD ([], [], [])).1.length d5) (b' := .slice b5 (O.getD ([], [], [])).2.1.length e5) (c' := .slice c5 (O.getD ([], [], [])).2.2.length f5) hBH hhE.sh
                have ho5 := hT.ints (a' := .slice a5 (O.getD ([], [], [])).1.length d5) (b' := .slice b5 (O.getD ([], [], [])).2.1.length e5) (c' := .slice c5 (O.getD ([], [], [])).2.2.length f5) hBH hhE.ov
                clear hhE
                refine wpTree_one rfl rfl (fun K hK => ?_)
                go_wp2_with fail
                refine ⟨fun _ => hd5, ?_⟩
                clear z0 z1 z2 f0 f1 f2 hT hdE
                generalize (((W4.setCell ⟨H, 0, none⟩ (.slice a5 (O.getD ([], [], [])).1.length d5)).setCell ⟨H, 1, none⟩ (.slice b5 (O.getD ([], [], [])).2.1.length e5)).setCell ⟨H, 2, none⟩ (.slice c5 (O.getD ([], [], [])).2.2.length f5)) = W9 at *
                (refine wpTree_look rfl ‹_› (fun K hK => ?_); go_simp; first | (refine hK _ ?_; clear hK K) | (refine ⟨_, fun _ => rfl, hK _ ?_⟩; clear hK K))
                refine wpTree_done ?_
                go_wp2_with fail
                go_meet
                case rel => exact ⟨H, _, _, _, rfl, rfl, hd5, hT5, ⟨hl5, hs5, ho5⟩⟩
            case rest =>
              clear hc0'
              obtain ⟨H, a, b, c, rfl, rfl, hxc, hTc, hHc⟩ := hcut
              have hXc := hXr.trans hxc
              have HHC := Lib.hid hHc
              obtain ⟨a5, d5, rfl, _, _, _⟩ := hHc.lo.ints.open_
              obtain ⟨b5, e5, rfl, _, _, _⟩ := hHc.sh.ints.open_
              obtain ⟨c5, f5, rfl, _, _, _⟩ := hHc.ov.ints.open_
              have t0 := hTc.blk.cell (i := 0) rfl
              have t1 := hTc.blk.cell (i := 1) rfl
              have t2 := hTc.blk.cell (i := 2) rfl
              clear hHc hTc
              cases O with
              | none =>
                have HFN := Lib.hid (firstTo_none (l := l) (i := i) (j := j) (by unfold firstH; rw [HO.out]; split <;> rfl))
                simp only [Option.isSome_none]
                clear t0 t1 t2
                go_wp2_with fail
                go_roundg (gk-1)
                case measure => omega
                case rel => exact ⟨j+1, by omega, by omega, by go_num, hXc, by rw [HFN.out]; exact HQR.out.ext hxc⟩
              | some y =>
                simp only [Option.isSome_some, Option.getD_some] at *
                by_cases hij : i = j
                · have hdd : ((i : Int) != (j : Int)) = false := by simp [hij]
                  have HFN := Lib.hid (firstTo_none (l := l) (i := i) (j := j) (by unfold firstH; rw [if_pos hij]))
                  clear hij t0 t1 t2
                  go_wp2_with fail
                  go_roundg (gk-1)
                  case measure => omega
                  case rel => exact ⟨j+1, by omega, by omega, by go_num, hXc, by rw [HFN.out]; exact HQR.out.ext hxc⟩
                · have hdd : ((i : Int) != (j : Int)) = true := by simp; omega
                  have HFN := Lib.hid (firstTo_some (l := l) (i := i) (j := j) (h := y) (by unfold firstH; rw [if_neg hij, HO.out]))
                  clear hij
                  have hql := firstTo_len HL.out (i := i) (j := j) (by show i ≤ l.i.length; omega) (by show j ≤ l.i.length; omega)
                  have hszc : wA.heap.size ≤ wc.heap.size := hXc.size
                  obtain ⟨vs, hv1, hv2⟩ := HQR.out.ext hxc
                  have HV1 := Lib.hid hv1; have HV2 := Lib.hid hv2; clear hv1 hv2
                  go_wp2_with (at_builtin; refine wpList_appendTail (news := [_, _, _]) elHang rfl _ _ rfl rfl rfl HV1.out rfl rfl (by intro u hu; simp only [List.mem_cons, List.not_mem_nil, or_false] at hu; rcases hu with rfl | rfl | rfl <;> rfl) hszc (by omega) (by omega) ?_; intro qv7 w7 ho7 hg7 hf7)
                  have hQ7 := QR.more HV1.out HV2.out HHC.out ho7 hg7
                  have hX7 : Ext wA w7 := RowT.below (HQR.out.ext hxc).row hXc hg7
                  rw [← HFN.out] at hQ7
                  clear ho7 hg7 hf7 HV1 HV2 vs t0 t1 t2
                  go_wp2_with fail
                  go_roundg (gk-1)
                  case measure => omega
                  case rel => exact ⟨j+1, by omega, by omega, by go_num, hX7, hQ7⟩
          · have hjl : j = l.i.length := by omega
            subst hjl
            rw [firstTo_row] at hQr
            go_wp2_with fail
            go_roundg (g1-1)
            case measure => omega
            case rel => exact ⟨i+1, by omega, by omega, by go_num, hXr, hQr⟩
      · have hil : i = l.i.length := by omega
        subst hil
        go_wp2_with fail
        go_step3
        rename_i hKK
        exact hKK _ _ (HPASS.out _ _ (JT.mk rfl rfl hXr hQr (SR.nil _ _) (srch_start HL.out)))
end Go.Proofs.Ytgpggmcjggpmpaa
