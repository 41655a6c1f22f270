/- What a run reads and writes: both packages. -/
import Derived.Test.YtodhmkbkcjpnkaaMacV
import Derived.Test.YtodhmkbkcjpnkaaMacE
import Derived.Test.YtodhmkbkcjpnkaaMacI
namespace Go.Proofs.Ytodhmkbkcjpnkaa
open Go.RowKit Go.Shelf
set_option linter.unusedVariables false

/-! ## plain -/
def rAt (ar : List Arc) (run : List Int) : Nat → Int
  | 0 => 0
  | k + 1 => (arcA ar (run[k]?.getD 0).toNat).t
def rIn (ar : List Arc) (run : List Int) (k : Nat) : List Int := (run.take k).map fun x => (arcA ar x.toNat).i
def rOut (ar : List Arc) (run : List Int) (k : Nat) : List Int := (run.take k).map fun x => (arcA ar x.toNat).o
def inRun (m : Mac) (run : List Int) (k : Nat) : Bool := inB (run[k]?.getD 0) 0 ((m.a.length : Int) - 1)
def onRun (m : Mac) (run : List Int) (k : Nat) : Bool := (arcA m.a (run[k]?.getD 0).toNat).f == rAt m.a run k
def runK (m : Mac) (run : List Int) : Int := if validM m = 0 then (if 200 < (run.length : Int) then 3 else if allB run.length (inRun m run) then (if allB run.length (onRun m run) then (if hasB m.e (rAt m.a run run.length) then 0 else 7) else 7) else 4) else validM m
def runI (m : Mac) (run : List Int) : List Int := if runK m run = 0 then rIn m.a run run.length else []
def runO (m : Mac) (run : List Int) : List Int := if runK m run = 0 then rOut m.a run run.length else []
theorem rIn_next {ar : List Arc} {run : List Int} {k : Nat} (h : k < run.length) : rIn ar run (k + 1) = rIn ar run k ++ [(arcA ar (run[k]?.getD 0).toNat).i] := by
  rw [rIn, take_next h 0, List.map_append]; rfl
theorem rOut_next {ar : List Arc} {run : List Int} {k : Nat} (h : k < run.length) : rOut ar run (k + 1) = rOut ar run k ++ [(arcA ar (run[k]?.getD 0).toNat).o] := by
  rw [rOut, take_next h 0, List.map_append]; rfl
theorem rIn_len (ar : List Arc) (run : List Int) (k : Nat) : (rIn ar run k).length ≤ run.length := by simp [rIn]; omega
theorem rOut_len (ar : List Arc) (run : List Int) (k : Nat) : (rOut ar run k).length ≤ run.length := by simp [rOut]; omega
theorem rAt_in {m : Mac} {n : Nat} (h : MacIn m n) {run : List Int} (hr : ∀ j, j < run.length → inRun m run j = true) : ∀ k, k ≤ run.length → 0 ≤ rAt m.a run k ∧ rAt m.a run k < n
  | 0, _ => ⟨by simp [rAt], by have := h.n1; simp [rAt]; omega⟩
  | k + 1, hk => by
    have h1 := inB_bd (hr k (by omega))
    have := (h.arc (run[k]?.getD 0).toNat (by omega))
    rw [rAt]; omega
def RRun (m : Mac) (run : List Int) (w : World) (e : Ending) (w' : World) : Prop := ∃ v1 v2, e = .returned (.tuple #[v1, v2, .int .i64 (runK m run)]) ∧ Ints w' v1 (runI m run) ∧ Ints w' v2 (runO m run) ∧ Ext w w'
theorem RRun.bad {m : Mac} {run : List Int} {w w' : World} {k : Int} (h : runK m run = k) (hk : k ≠ 0) (hx : Ext w w') : RRun m run w (.returned (.tuple #[.slice none 0 0, .slice none 0 0, .int .i64 k])) w' := by
  have h0 : runK m run ≠ 0 := by rw [h]; exact hk
  refine ⟨_, _, by rw [h], ?_, ?_, hx⟩
  · rw [runI, if_neg h0]; exact ints_nil_c _
  · rw [runO, if_neg h0]; exact ints_nil_c _
theorem RRun.good {m : Mac} {run : List Int} {w w' : World} {v1 v2 : Value} (h : runK m run = 0) (h1 : Ints w' v1 (rIn m.a run run.length)) (h2 : Ints w' v2 (rOut m.a run run.length)) (hx : Ext w w') : RRun m run w (.returned (.tuple #[v1, v2, .int .i64 0])) w' := by
  refine ⟨_, _, by rw [h], ?_, ?_, hx⟩
  · rw [runI, if_pos h]; exact h1
  · rw [runO, if_pos h]; exact h2

/-! ## two lists that grow, and an arc -/
structure TS (wA w : World) (b : Nat) (lc : List Value) (rs : List (Value × List Int)) (cs : List (Nat × Int)) : Prop where
  ext : Ext wA w
  blk : Blk w b 50 lc
  set : OSet w wA.heap.size rs cs
section
variable {wA w w' : World} {b : Nat} {lc : List Value} {rs : List (Value × List Int)} {cs : List (Nat × Int)}
theorem TS.later (h : TS wA w b lc rs cs) (hx : Ext w w') : TS wA w' b lc rs cs := ⟨h.ext.trans hx, h.blk.ext hx, h.set.later hx⟩
theorem TS.drop (h : TS wA w b lc rs cs) : TS wA w b lc rs [] := ⟨h.ext, h.blk, h.set.drop⟩
theorem TS.build (h : TS wA w b lc rs cs) (x : Int) : TS wA (w.alloc (.cells #[.int .i64 x] 3)) b lc rs ((w.heap.size, x) :: cs) :=
  ⟨h.ext.trans (Ext.alloc _ _), h.blk.ext (Ext.alloc _ _), h.set.build x⟩
theorem TS.app {pre post : List (Value × List Int)} {v v' : Value} {l l' : List Int} (h : TS wA w b lc (pre ++ (v, l) :: post) cs) (hset : OSet w' wA.heap.size (pre ++ (v', l') :: post) cs) (ho : OInts 3 w wA.heap.size v l) (hg : w.grownBy w' v.ownBlock) : TS wA w' b lc (pre ++ (v', l') :: post) cs :=
  ⟨h.ext.grown hg h.ext.size (fun k hk => by obtain ⟨cur, _, h2⟩ := ownBlock_cells ho k hk; exact h2), h.blk.kept (by decide) ho hg, hset⟩
end
def KeepA (b : Nat) (lc : List Value) (w : World) : Prop := Blk w b 50 lc
theorem OSet.nil2 (w : World) (B : Nat) : OSet w B [(.slice none 0 0, []), (.slice none 0 0, [])] [] :=
  ⟨fun p hp => by simp at hp; subst hp; exact OInts.nil _ _ _, by simp [Apart, Value.ownBlock], fun c hc => by simp at hc⟩

set_option maxHeartbeats 4000000 in
set_option maxRecDepth 100000 in
theorem CheckRun_c (av ev rv : Value) (m : Mac) (run : List Int) (w : World) (h : MacR w av ev m) (hr : Ints w rv run) : Calls Try.prog 38 #[.agg #[.int .i64 m.s, av, ev], rv] w (RRun m run w) := by
  obtain ⟨wA, hwA⟩ : ∃ wA, wA = w.alloc (.cells #[.int .i64 m.s, av, ev] 25) := ⟨_, rfl⟩
  have hE0 : Ext w wA := by rw [hwA]; exact Ext.alloc _ _
  have k0 : ∀ W, Ext wA W → W.cell? ⟨w.heap.size, 0, none⟩ = some (.int .i64 m.s) := by rw [hwA]; exact kept_alloc w _ _ rfl
  have k1 : ∀ W, Ext wA W → W.cell? ⟨w.heap.size, 1, none⟩ = some av := by rw [hwA]; exact kept_alloc w _ _ rfl
  have k2 : ∀ W, Ext wA W → W.cell? ⟨w.heap.size, 2, none⟩ = some ev := by rw [hwA]; exact kept_alloc w _ _ rfl
  have H0 : Ext wA wA := Ext.refl _
  have HV := Lib.hid (Validate_c av ev m wA (h.ext hE0))
  have HR := Lib.hid (h.ext hE0)
  obtain ⟨aa, ca, rfl, hla, hma, HA⟩ := (h.ext hE0).a.open_
  obtain ⟨ae, ce, rfl, hle, hme, HE⟩ := (h.ext hE0).e.open_
  obtain ⟨au, cu, rfl, hlu, hmu, HU⟩ := (hr.ext hE0).open_
  have HW := Lib.hid hwA; clear hwA h hr
  have hw1 : IntKind.i64.wrap ((m.a.length : Int) - 1) = (m.a.length : Int) - 1 := IntWalk.i64_in _ (by omega)
  by_cases h0 : validM m = 0
  · have HMI := Lib.hid (validM_mac h0).in_
    have HRK : Hid (runK m run = if 200 < (run.length : Int) then 3 else if allB run.length (inRun m run) then (if allB run.length (onRun m run) then (if hasB m.e (rAt m.a run run.length) then 0 else 7) else 7) else 4) := Lib.hid (by rw [runK, if_pos h0])
    rw [h0] at HV
    clear h0
    by_cases h2 : 200 < (run.length : Int)
    · go_enter Try.func38, Try.ntmps38
      go_wp2_with fail
      rw [← HW.out]
      refine HV.out.mono ?_; rintro e w1 ⟨rfl, hx1⟩
      go_wp2_with fail
      go_ret3
      exact RRun.bad (by rw [HRK.out, if_pos h2]) (by decide) (hE0.trans hx1)
    · have HRK2 : Hid (runK m run = if allB run.length (inRun m run) then (if allB run.length (onRun m run) then (if hasB m.e (rAt m.a run run.length) then 0 else 7) else 7) else 4) := by rw [HRK.out, if_neg h2]; exact Lib.hid rfl
      clear HRK
      go_enter Try.func38, Try.ntmps38
      go_wp2_with fail
      rw [← HW.out]
      refine HV.out.mono ?_; rintro e w1 ⟨rfl, hx1⟩
      go_wp2_with fail
      go_loopg [26] run.length (fun z i wr => ∃ k : Nat, k ≤ run.length ∧ run.length ≤ k + z ∧ i = .int .i64 k ∧ Ext wA wr ∧ Hid (∀ j, j < k → inRun m run j = true))
      case atStart => exact ⟨0, by omega, by omega, rfl, hx1, Lib.hid (fun j hj => by omega)⟩
      case round =>
        clear hx1
        obtain ⟨k, hk, hkz, rfl, hEr, hall⟩ := hrel
        by_cases hlt : k < run.length
        · obtain ⟨bu, ou, rfl, hcu⟩ := HU.out k hlt
          replace hcu := hEr.keep hcu
          have HIR : Hid (inRun m run k = inB (run[k]?.getD 0) 0 ((m.a.length : Int) - 1)) := Lib.hid rfl
          have HNX := Lib.hid (fun h => range_step (f := inRun m run) hall.out h)
          have HBAD := Lib.hid (fun h => allB_false (f := inRun m run) hlt h)
          generalize run[k]?.getD 0 = x at *
          have HWI := Lib.hid (within_c x 0 ((m.a.length : Int) - 1) wr)
          cases hb : inB x 0 ((m.a.length : Int) - 1)
          · rw [hb] at HWI HIR
            clear hb
            have HKF : Hid (runK m run = 4) := by rw [HRK2.out, HBAD.out HIR.out]; exact Lib.hid rfl
            go_wp2_with fail
            refine HWI.out.mono ?_; rintro e w4 ⟨rfl, rfl⟩
            go_wp2_with fail
            go_ret3
            exact RRun.bad HKF.out (by decide) (hE0.trans hEr)
          · rw [hb] at HWI HIR
            clear hb
            go_wp2_with fail
            refine HWI.out.mono ?_; rintro e w4 ⟨rfl, rfl⟩
            go_wp2_with fail
            go_roundg (gk-1)
            case measure => omega
            case rel => exact ⟨k+1, by omega, by omega, by go_num, hEr, Lib.hid (HNX.out HIR.out)⟩
        · have HRK3 : Hid (runK m run = if allB run.length (onRun m run) then (if hasB m.e (rAt m.a run run.length) then 0 else 7) else 7) := by rw [HRK2.out, if_pos (allB_true (fun j hj => hall.out j (by omega)))]; exact Lib.hid rfl
          have HALL : Hid (∀ j, j < run.length → inRun m run j = true) := Lib.hid (fun j hj => hall.out j (by omega))
          have HAT := Lib.hid (rAt_in HMI.out HALL.out)
          clear hall
          obtain ⟨W0, rfl⟩ : ∃ W : World, W = wr := ⟨_, rfl⟩
          go_wp2_with fail
          clear hlt hk hkz
          go_loopg [40, 10, 11, 12] run.length (fun z i v1 v2 a wr => ∃ (k : Nat) (u1 u2 : Value), k ≤ run.length ∧ run.length ≤ k + z ∧ i = .int .i64 k ∧ a = .int .i64 (rAt m.a run k) ∧ u1 = v1 ∧ u2 = v2 ∧ Ext wA wr ∧ OSet wr wA.heap.size [(u1, rIn m.a run k), (u2, rOut m.a run k)] [] ∧ Hid (∀ j, j < k → onRun m run j = true))
          case atStart => exact ⟨0, _, _, by omega, by omega, rfl, rfl, rfl, rfl, hEr, OSet.nil2 _ _, Lib.hid (fun j hj => by omega)⟩
          case round =>
            clear hEr
            obtain ⟨k, v1, v2, hk, hkz, rfl, rfl, rfl, rfl, hEr, hset, hall⟩ := hrel
            by_cases hlt : k < run.length
            · obtain ⟨bu, ou, rfl, hcu⟩ := HU.out k hlt
              have hin := inB_bd (HALL.out k hlt)
              have HON : Hid (onRun m run k = ((arcA m.a (run[k]?.getD 0).toNat).f == rAt m.a run k)) := Lib.hid rfl
              have HNX := Lib.hid (fun h => range_step (f := onRun m run) hall.out h)
              have HBAD := Lib.hid (fun h => allB_false (f := onRun m run) hlt h)
              have HI := Lib.hid (rIn_next (ar := m.a) hlt)
              have HO := Lib.hid (rOut_next (ar := m.a) hlt)
              have HA2 : Hid (rAt m.a run (k + 1) = (arcA m.a (run[k]?.getD 0).toNat).t) := Lib.hid rfl
              have hil := rIn_len m.a run k
              have hol := rOut_len m.a run k
              generalize rAt m.a run k = at1 at *
              generalize rIn m.a run k = li at *
              generalize rOut m.a run k = lo at *
              generalize run[k]?.getD 0 = x at *
              obtain ⟨p, rfl⟩ : ∃ p : Nat, x = p := ⟨x.toNat, by omega⟩
              have hp : p < m.a.length := by omega
              clear hin
              rw [Int.toNat_natCast] at HON HI HO HA2
              obtain ⟨ba, oa, rfl, hc0, hc1, hc2, hc3⟩ := HA.out p hp
              generalize arcA m.a p = y at *
              replace hc0 := hEr.keep hc0
              replace hc1 := hEr.keep hc1
              replace hc2 := hEr.keep hc2
              replace hc3 := hEr.keep hc3
              replace hcu := hEr.keep hcu
              obtain ⟨wB, hwB⟩ : ∃ wB, wB = wr.alloc (.cells #[.int .i64 y.f, .int .i64 y.t, .int .i64 y.i, .int .i64 y.o] 50) := ⟨_, rfl⟩
              have hEB : Ext wr wB := by rw [hwB]; exact Ext.alloc _ _
              have hBB : Blk wB wr.heap.size 50 [.int .i64 y.f, .int .i64 y.t, .int .i64 y.i, .int .i64 y.o] := by rw [hwB]; exact Blk.alloc wr _ _
              have hTS : TS wA wB wr.heap.size [.int .i64 y.f, .int .i64 y.t, .int .i64 y.i, .int .i64 y.o] [(v1, li), (v2, lo)] [] := ⟨hEr.trans hEB, hBB, hset.later hEB⟩
              have b0 := hBB.cell (i := 0) rfl
              have b1 := hBB.cell (i := 1) rfl
              have HWB := Lib.hid hwB; clear hwB hset hBB
              have HTS := Lib.hid hTS; clear hTS
              have hgb : True := trivial
              by_cases hf : y.f = at1
              · have hfd : (y.f != at1) = false := by simp [hf]
                have HF : Hid (onRun m run k = true) := by rw [HON.out]; exact Lib.hid (by simp [hf])
                clear hf
                go_upto_region 21 with fail
                rw [← HWB.out]
                clear b0 b1 hc0 hc1 hc2 hc3 hcu
                refine wp_region_free (KeepA wr.heap.size [.int .i64 y.f, .int .i64 y.t, .int .i64 y.i, .int .i64 y.o]) (fun _ => True) [] [0, 1, 2, 5, 6, 7] 6 (by kernel_rfl) (by kernel_rfl) (by intro c a d v w h; cases d <;> exact h) ?_
                have S0 := Lib.hid (HTS.out.later (drawn_ext wB))
                have hd : KeepA wr.heap.size [.int .i64 y.f, .int .i64 y.t, .int .i64 y.i, .int .i64 y.o] { wB with drawn := wB.drawn + 1 } := S0.out.blk
                have q3 : ∀ s : InC (KeepA wr.heap.size [.int .i64 y.f, .int .i64 y.t, .int .i64 y.i, .int .i64 y.o]), s.w.cell? ⟨wr.heap.size, 2, none⟩ = some (.int .i64 y.i) := fun s => Blk.cell (i := 2) s.h rfl
                have q4 : ∀ s : InC (KeepA wr.heap.size [.int .i64 y.f, .int .i64 y.t, .int .i64 y.i, .int .i64 y.o]), s.w.cell? ⟨wr.heap.size, 3, none⟩ = some (.int .i64 y.o) := fun s => Blk.cell (i := 3) s.h rfl
                generalize { wB with drawn := wB.drawn + 1 } = W0 at *
                iterate 6 (refine wpPeek_look rfl ‹_› (fun K hK => ?_); go_simp; first | (refine hK _ ?_; clear hK K) | (refine ⟨_, fun _ => rfl, hK _ ?_⟩; clear hK K))
                clear hd q3 q4
                refine wpPeek_nilK ?_
                refine wpAnyE_each (i := 3) (is := [8]) (by kernel_rfl) ⟨?_, ?_, trivial⟩
                · refine wpOp_of_list rfl rfl (fun K hK => ?_)
                  go_wp2_with fail
                  refine ⟨KeepE.of (fun h => Blk.ext h (Ext.alloc _ _)) (fun _ => trivial), ?_⟩
                  have S1 := Lib.hid (S0.out.build y.i)
                  generalize hW1 : W0.alloc (.cells #[.int .i64 y.i] 3) = W1 at *
                  clear hW1
                  refine wpAnyE_each (i := 4) (is := [8]) (by kernel_rfl) ⟨?_, ?_, trivial⟩
                  · refine wpOp_of_list rfl rfl (fun K hK => ?_)
                    refine wpList_appendSet [] _ elInts rfl _ _ rfl rfl rfl S1.out.set List.mem_cons_self S1.out.ext.size (by omega) ?_
                    intro v4 W2 hs4 ho4 hg4 hb4
                    have S2 := Lib.hid (TS.app (pre := []) S1.out hs4 ho4 hg4)
                    clear hs4 ho4 hg4 hb4
                    go_wp2_with fail
                    refine ⟨KeepE.of (fun _ => S2.out.blk) (fun _ => trivial), ?_⟩
                    refine wpAnyE_each (i := 8) (is := []) (by kernel_rfl) ⟨?_, trivial⟩
                    · refine wpOp_of_list rfl rfl (fun K hK => ?_)
                      go_wp2_with fail
                      refine ⟨KeepE.of (fun h => Blk.ext h (Ext.alloc _ _)) (fun _ => trivial), ?_⟩
                      have S3 := Lib.hid (S2.out.build y.o)
                      generalize hW3 : W2.alloc (.cells #[.int .i64 y.o] 3) = W3 at *
                      clear hW3
                      refine wpAnyE_each (i := 9) (is := []) (by kernel_rfl) ⟨?_, trivial⟩
                      · refine wpOp_of_list rfl rfl (fun K hK => ?_)
                        refine wpList_appendSet [_] _ elInts rfl _ _ rfl rfl rfl S3.out.set List.mem_cons_self S3.out.ext.size (by omega) ?_
                        intro v9 W4 hs9 ho9 hg9 hb9
                        have S4 := Lib.hid (TS.app (pre := [_]) S3.out hs9 ho9 hg9)
                        clear hs9 ho9 hg9 hb9
                        go_wp2_with fail
                        refine ⟨KeepE.of (fun _ => S4.out.blk) (fun _ => trivial), ?_⟩
                        refine wpAnyE_each (i := 10) (is := []) (by kernel_rfl) ⟨?_, trivial⟩
                        refine wpOp_of_list rfl rfl (fun K hK => ?_)
                        go_wp2_with fail
                        refine ⟨KeepE.refl, ?_⟩
                        refine wpAnyE_each (i := 11) (is := []) (by kernel_rfl) ⟨?_, trivial⟩
                        refine wpOp_of_list rfl rfl (fun K hK => ?_)
                        go_wp2_with fail
                        refine ⟨KeepE.refl, ?_⟩
                        refine wpAnyE_done (by kernel_rfl) ?_
                        go_wp2_with fail
                        go_roundg (gk-1)
                        case measure => omega
                        case rel => exact ⟨k+1, _, _, by omega, by omega, by go_num, by rw [HA2.out], rfl, rfl, S4.out.ext, by rw [HI.out, HO.out]; exact S4.out.drop.set, Lib.hid (HNX.out HF.out)⟩
                  · refine wpOp_of_list rfl rfl (fun K hK => ?_)
                    go_wp2_with fail
                    refine ⟨KeepE.of (fun h => Blk.ext h (Ext.alloc _ _)) (fun _ => trivial), ?_⟩
                    have S2 := Lib.hid (S1.out.build y.o)
                    generalize hW2 : W1.alloc (.cells #[.int .i64 y.o] 3) = W2 at *
                    clear hW2
                    refine wpAnyE_each (i := 4) (is := []) (by kernel_rfl) ⟨?_, trivial⟩
                    · refine wpOp_of_list rfl rfl (fun K hK => ?_)
                      refine wpList_appendSet [] _ elInts rfl _ _ rfl rfl rfl S2.out.set (List.mem_cons_of_mem _ List.mem_cons_self) S2.out.ext.size (by omega) ?_
                      intro v4 W3 hs4 ho4 hg4 hb4
                      have S3 := Lib.hid (TS.app (pre := []) S2.out hs4 ho4 hg4)
                      clear hs4 ho4 hg4 hb4
                      go_wp2_with fail
                      refine ⟨KeepE.of (fun _ => S3.out.blk) (fun _ => trivial), ?_⟩
                      refine wpAnyE_each (i := 9) (is := []) (by kernel_rfl) ⟨?_, trivial⟩
                      · refine wpOp_of_list rfl rfl (fun K hK => ?_)
                        refine wpList_appendSet [_] _ elInts rfl _ _ rfl rfl rfl S3.out.set List.mem_cons_self S3.out.ext.size (by omega) ?_
                        intro v9 W4 hs9 ho9 hg9 hb9
                        have S4 := Lib.hid (TS.app (pre := [_]) S3.out hs9 ho9 hg9)
                        clear hs9 ho9 hg9 hb9
                        go_wp2_with fail
                        refine ⟨KeepE.of (fun _ => S4.out.blk) (fun _ => trivial), ?_⟩
                        refine wpAnyE_each (i := 10) (is := []) (by kernel_rfl) ⟨?_, trivial⟩
                        refine wpOp_of_list rfl rfl (fun K hK => ?_)
                        go_wp2_with fail
                        refine ⟨KeepE.refl, ?_⟩
                        refine wpAnyE_each (i := 11) (is := []) (by kernel_rfl) ⟨?_, trivial⟩
                        refine wpOp_of_list rfl rfl (fun K hK => ?_)
                        go_wp2_with fail
                        refine ⟨KeepE.refl, ?_⟩
                        refine wpAnyE_done (by kernel_rfl) ?_
                        go_wp2_with fail
                        go_roundg (gk-1)
                        case measure => omega
                        case rel => exact ⟨k+1, _, _, by omega, by omega, by go_num, by rw [HA2.out], rfl, rfl, S4.out.ext, by rw [HI.out, HO.out]; exact S4.out.drop.set, Lib.hid (HNX.out HF.out)⟩
                · refine wpOp_of_list rfl rfl (fun K hK => ?_)
                  go_wp2_with fail
                  refine ⟨KeepE.of (fun h => Blk.ext h (Ext.alloc _ _)) (fun _ => trivial), ?_⟩
                  have S1 := Lib.hid (S0.out.build y.o)
                  generalize hW1 : W0.alloc (.cells #[.int .i64 y.o] 3) = W1 at *
                  clear hW1
                  refine wpAnyE_each (i := 3) (is := []) (by kernel_rfl) ⟨?_, trivial⟩
                  · refine wpOp_of_list rfl rfl (fun K hK => ?_)
                    go_wp2_with fail
                    refine ⟨KeepE.of (fun h => Blk.ext h (Ext.alloc _ _)) (fun _ => trivial), ?_⟩
                    have S2 := Lib.hid (S1.out.build y.i)
                    generalize hW2 : W1.alloc (.cells #[.int .i64 y.i] 3) = W2 at *
                    clear hW2
                    refine wpAnyE_each (i := 4) (is := []) (by kernel_rfl) ⟨?_, trivial⟩
                    · refine wpOp_of_list rfl rfl (fun K hK => ?_)
                      refine wpList_appendSet [] _ elInts rfl _ _ rfl rfl rfl S2.out.set List.mem_cons_self S2.out.ext.size (by omega) ?_
                      intro v4 W3 hs4 ho4 hg4 hb4
                      have S3 := Lib.hid (TS.app (pre := []) S2.out hs4 ho4 hg4)
                      clear hs4 ho4 hg4 hb4
                      go_wp2_with fail
                      refine ⟨KeepE.of (fun _ => S3.out.blk) (fun _ => trivial), ?_⟩
                      refine wpAnyE_each (i := 9) (is := []) (by kernel_rfl) ⟨?_, trivial⟩
                      · refine wpOp_of_list rfl rfl (fun K hK => ?_)
                        refine wpList_appendSet [_] _ elInts rfl _ _ rfl rfl rfl S3.out.set (List.mem_cons_of_mem _ List.mem_cons_self) S3.out.ext.size (by omega) ?_
                        intro v9 W4 hs9 ho9 hg9 hb9
                        have S4 := Lib.hid (TS.app (pre := [_]) S3.out hs9 ho9 hg9)
                        clear hs9 ho9 hg9 hb9
                        go_wp2_with fail
                        refine ⟨KeepE.of (fun _ => S4.out.blk) (fun _ => trivial), ?_⟩
                        refine wpAnyE_each (i := 10) (is := []) (by kernel_rfl) ⟨?_, trivial⟩
                        refine wpOp_of_list rfl rfl (fun K hK => ?_)
                        go_wp2_with fail
                        refine ⟨KeepE.refl, ?_⟩
                        refine wpAnyE_each (i := 11) (is := []) (by kernel_rfl) ⟨?_, trivial⟩
                        refine wpOp_of_list rfl rfl (fun K hK => ?_)
                        go_wp2_with fail
                        refine ⟨KeepE.refl, ?_⟩
                        refine wpAnyE_done (by kernel_rfl) ?_
                        go_wp2_with fail
                        go_roundg (gk-1)
                        case measure => omega
                        case rel => exact ⟨k+1, _, _, by omega, by omega, by go_num, by rw [HA2.out], rfl, rfl, S4.out.ext, by rw [HI.out, HO.out]; exact S4.out.drop.set, Lib.hid (HNX.out HF.out)⟩
              · have hfd : (y.f != at1) = true := by simp [hf]
                have HF : Hid (onRun m run k = false) := by rw [HON.out]; exact Lib.hid (by simp [hf])
                have HKF : Hid (runK m run = 7) := by rw [HRK3.out, HBAD.out HF.out]; exact Lib.hid rfl
                clear hf
                go_upto_region 18 with fail
                rw [← HWB.out]
                go_wp2_with fail
                go_ret3
                exact RRun.bad HKF.out (by decide) (hE0.trans (hEr.trans hEB))
            · have hku : k = run.length := by omega
              subst hku
              have HRK4 : Hid (runK m run = if hasB m.e (rAt m.a run run.length) then 0 else 7) := by rw [HRK3.out, if_pos (allB_true (fun j hj => hall.out j hj))]; exact Lib.hid rfl
              have HSET := Lib.hid hset; clear hset
              have hat := HAT.out run.length (Nat.le_refl _)
              generalize hst : rAt m.a run run.length = st at *
              clear hst
              have HEC := Lib.hid (ends_c _ _ m st wr (HR.out.ext hEr))
              cases hb : hasB m.e st
              · rw [hb] at HEC HRK4
                clear hb
                go_wp2_with fail
                refine HEC.out.mono ?_; rintro e w5 ⟨rfl, hx5⟩
                have HXF := Lib.hid hx5
                go_wp2_with fail
                go_ret3
                exact RRun.bad (by rw [HRK4.out]; rfl) (by decide) (hE0.trans (hEr.trans HXF.out))
              · rw [hb] at HEC HRK4
                clear hb
                go_wp2_with fail
                refine HEC.out.mono ?_; rintro e w5 ⟨rfl, hx5⟩
                have HXF := Lib.hid hx5
                go_wp2_with fail
                go_ret3
                exact RRun.good (by rw [HRK4.out]; rfl) (HSET.out.rows (_, _) List.mem_cons_self |>.ext HXF.out).ints (HSET.out.rows (_, _) (List.mem_cons_of_mem _ List.mem_cons_self) |>.ext HXF.out).ints (hE0.trans (hEr.trans HXF.out))
  · have HRK : Hid (runK m run = validM m) := Lib.hid (by rw [runK, if_neg h0])
    have hk : (validM m != 0) = true := by simp [h0]
    generalize validM m = k at *
    go_enter Try.func38, Try.ntmps38
    go_wp2_with fail
    rw [← HW.out]
    refine HV.out.mono ?_; rintro e w1 ⟨rfl, hx1⟩
    go_wp2_with fail
    go_ret3
    exact RRun.bad HRK.out h0 (hE0.trans hx1)

set_option maxHeartbeats 4000000 in
set_option maxRecDepth 100000 in
theorem rCheckRun_c (av ev rv : Value) (m : Mac) (run : List Int) (w : World) (h : MacR w av ev m) (hr : Ints w rv run) : Calls Try.prog 39 #[.agg #[.int .i64 m.s, av, ev], rv] w (RRun m run w) := by
  obtain ⟨wA, hwA⟩ : ∃ wA, wA = w.alloc (.cells #[.int .i64 m.s, av, ev] 25) := ⟨_, rfl⟩
  have hE0 : Ext w wA := by rw [hwA]; exact Ext.alloc _ _
  have k0 : ∀ W, Ext wA W → W.cell? ⟨w.heap.size, 0, none⟩ = some (.int .i64 m.s) := by rw [hwA]; exact kept_alloc w _ _ rfl
  have k1 : ∀ W, Ext wA W → W.cell? ⟨w.heap.size, 1, none⟩ = some av := by rw [hwA]; exact kept_alloc w _ _ rfl
  have k2 : ∀ W, Ext wA W → W.cell? ⟨w.heap.size, 2, none⟩ = some ev := by rw [hwA]; exact kept_alloc w _ _ rfl
  have H0 : Ext wA wA := Ext.refl _
  have HV := Lib.hid (rValidate_c av ev m wA (h.ext hE0))
  have HR := Lib.hid (h.ext hE0)
  obtain ⟨aa, ca, rfl, hla, hma, HA⟩ := (h.ext hE0).a.open_
  obtain ⟨ae, ce, rfl, hle, hme, HE⟩ := (h.ext hE0).e.open_
  obtain ⟨au, cu, rfl, hlu, hmu, HU⟩ := (hr.ext hE0).open_
  have HW := Lib.hid hwA; clear hwA h hr
  have hw1 : IntKind.i64.wrap ((m.a.length : Int) - 1) = (m.a.length : Int) - 1 := IntWalk.i64_in _ (by omega)
  by_cases h0 : validM m = 0
  · have HMI := Lib.hid (validM_mac h0).in_
    have HRK : Hid (runK m run = if 200 < (run.length : Int) then 3 else if allB run.length (inRun m run) then (if allB run.length (onRun m run) then (if hasB m.e (rAt m.a run run.length) then 0 else 7) else 7) else 4) := Lib.hid (by rw [runK, if_pos h0])
    rw [h0] at HV
    clear h0
    by_cases h2 : 200 < (run.length : Int)
    · go_enter Try.func39, Try.ntmps39
      go_wp2_with fail
      rw [← HW.out]
      refine HV.out.mono ?_; rintro e w1 ⟨rfl, hx1⟩
      go_wp2_with fail
      go_ret3
      exact RRun.bad (by rw [HRK.out, if_pos h2]) (by decide) (hE0.trans hx1)
    · have HRK2 : Hid (runK m run = if allB run.length (inRun m run) then (if allB run.length (onRun m run) then (if hasB m.e (rAt m.a run run.length) then 0 else 7) else 7) else 4) := by rw [HRK.out, if_neg h2]; exact Lib.hid rfl
      clear HRK
      go_enter Try.func39, Try.ntmps39
      go_wp2_with fail
      rw [← HW.out]
      refine HV.out.mono ?_; rintro e w1 ⟨rfl, hx1⟩
      go_wp2_with fail
      go_loopg [8] run.length (fun z i wr => ∃ k : Nat, k ≤ run.length ∧ run.length ≤ k + z ∧ i = .int .i64 k ∧ Ext wA wr ∧ Hid (∀ j, j < k → inRun m run j = true))
      case atStart => exact ⟨0, by omega, by omega, rfl, hx1, Lib.hid (fun j hj => by omega)⟩
      case round =>
        clear hx1
        obtain ⟨k, hk, hkz, rfl, hEr, hall⟩ := hrel
        by_cases hlt : k < run.length
        · obtain ⟨bu, ou, rfl, hcu⟩ := HU.out k hlt
          replace hcu := hEr.keep hcu
          have HIR : Hid (inRun m run k = inB (run[k]?.getD 0) 0 ((m.a.length : Int) - 1)) := Lib.hid rfl
          have HNX := Lib.hid (fun h => range_step (f := inRun m run) hall.out h)
          have HBAD := Lib.hid (fun h => allB_false (f := inRun m run) hlt h)
          generalize run[k]?.getD 0 = x at *
          have HWI := Lib.hid (fun s : Later wr => rwithin_c x 0 ((m.a.length : Int) - 1) s.w)
          have hs : ∀ s : Later wr, Ext wA s.w := fun s => hEr.trans s.ext
          have q0 := fun s : Later wr => s.ext.keep hcu
          cases hb : inB x 0 ((m.a.length : Int) - 1)
          · rw [hb] at HWI HIR
            clear hb
            have HKF : Hid (runK m run = 4) := by rw [HRK2.out, HBAD.out HIR.out]; exact Lib.hid rfl
            go_wp2_with fail
            refine wp_region_later (by kernel_rfl) (by kernel_rfl) ?_
            repeat (go_big_quiet_step ((first | (go_at_call 60; first | with_reducible exact Later.callP (HWI.out _)))))
            refine wpQuiet_nil ?_
            intro w5 hw'
            obtain ⟨⟨_, hx5⟩, rfl⟩ := hw'
            go_wp2_with fail
            go_ret3
            exact RRun.bad HKF.out (by decide) (hE0.trans (hEr.trans hx5))
          · rw [hb] at HWI HIR
            clear hb
            go_wp2_with fail
            refine wp_region_later (by kernel_rfl) (by kernel_rfl) ?_
            repeat (go_big_quiet_step ((first | (go_at_call 60; first | with_reducible exact Later.callP (HWI.out _)))))
            refine wpQuiet_nil ?_
            intro w5 hw'
            obtain ⟨⟨_, hx5⟩, rfl⟩ := hw'
            go_wp2_with fail
            go_roundg (gk-1)
            case measure => omega
            case rel => exact ⟨k+1, by omega, by omega, by go_num, hEr.trans hx5, Lib.hid (HNX.out HIR.out)⟩
        · have HRK3 : Hid (runK m run = if allB run.length (onRun m run) then (if hasB m.e (rAt m.a run run.length) then 0 else 7) else 7) := by rw [HRK2.out, if_pos (allB_true (fun j hj => hall.out j (by omega)))]; exact Lib.hid rfl
          have HALL : Hid (∀ j, j < run.length → inRun m run j = true) := Lib.hid (fun j hj => hall.out j (by omega))
          have HAT := Lib.hid (rAt_in HMI.out HALL.out)
          clear hall
          obtain ⟨W0, rfl⟩ : ∃ W : World, W = wr := ⟨_, rfl⟩
          go_wp2_with fail
          clear hlt hk hkz
          go_loopg [12, 10, 11, 9] run.length (fun z i v1 v2 a wr => ∃ (k : Nat) (u1 u2 : Value), k ≤ run.length ∧ run.length ≤ k + z ∧ i = .int .i64 k ∧ a = .int .i64 (rAt m.a run k) ∧ u1 = v1 ∧ u2 = v2 ∧ Ext wA wr ∧ OSet wr wA.heap.size [(u1, rIn m.a run k), (u2, rOut m.a run k)] [] ∧ Hid (∀ j, j < k → onRun m run j = true))
          case atStart => exact ⟨0, _, _, by omega, by omega, rfl, rfl, rfl, rfl, hEr, OSet.nil2 _ _, Lib.hid (fun j hj => by omega)⟩
          case round =>
            clear hEr
            obtain ⟨k, v1, v2, hk, hkz, rfl, rfl, rfl, rfl, hEr, hset, hall⟩ := hrel
            by_cases hlt : k < run.length
            · obtain ⟨bu, ou, rfl, hcu⟩ := HU.out k hlt
              have hin := inB_bd (HALL.out k hlt)
              have HON : Hid (onRun m run k = ((arcA m.a (run[k]?.getD 0).toNat).f == rAt m.a run k)) := Lib.hid rfl
              have HNX := Lib.hid (fun h => range_step (f := onRun m run) hall.out h)
              have HBAD := Lib.hid (fun h => allB_false (f := onRun m run) hlt h)
              have HI := Lib.hid (rIn_next (ar := m.a) hlt)
              have HO := Lib.hid (rOut_next (ar := m.a) hlt)
              have HA2 : Hid (rAt m.a run (k + 1) = (arcA m.a (run[k]?.getD 0).toNat).t) := Lib.hid rfl
              have hil := rIn_len m.a run k
              have hol := rOut_len m.a run k
              generalize rAt m.a run k = at1 at *
              generalize rIn m.a run k = li at *
              generalize rOut m.a run k = lo at *
              generalize run[k]?.getD 0 = x at *
              obtain ⟨p, rfl⟩ : ∃ p : Nat, x = p := ⟨x.toNat, by omega⟩
              have hp : p < m.a.length := by omega
              clear hin
              rw [Int.toNat_natCast] at HON HI HO HA2
              obtain ⟨ba, oa, rfl, hc0, hc1, hc2, hc3⟩ := HA.out p hp
              generalize arcA m.a p = y at *
              replace hc0 := hEr.keep hc0
              replace hc1 := hEr.keep hc1
              replace hc2 := hEr.keep hc2
              replace hc3 := hEr.keep hc3
              replace hcu := hEr.keep hcu
              go_upto_region 16 with fail
              refine wp_region_free (Ext wr) (fun _ => True) [] [0, 1, 2, 3, 4, 5, 6, 7] 2 (by kernel_rfl) (by kernel_rfl) (by intro c a d v w h; cases d <;> exact h) ?_
              have hd : Ext wr { wr with drawn := wr.drawn + 1 } := drawn_ext wr
              have hs : ∀ s : InC (Ext wr), Ext wA s.w := fun s => hEr.trans s.h
              have q0 := fun s : InC (Ext wr) => s.h.keep hcu
              have q1 := fun s : InC (Ext wr) => s.h.keep hc0
              have q2 := fun s : InC (Ext wr) => s.h.keep hc1
              have q3 := fun s : InC (Ext wr) => s.h.keep hc2
              have q4 := fun s : InC (Ext wr) => s.h.keep hc3
              generalize { wr with drawn := wr.drawn + 1 } = V0 at *
              iterate 8 (refine wpPeek_look rfl ‹_› (fun K hK => ?_); go_simp; first | (refine hK _ ?_; clear hK K) | (refine ⟨_, fun _ => rfl, hK _ ?_⟩; clear hK K))
              clear hs q0 q1 q2 q3 q4 hc0 hc1 hc2 hc3 hcu
              refine wpPeek_nilK ?_
              refine wpAnyE_each (i := 8) (is := []) (by kernel_rfl) ⟨?_, trivial⟩
              refine wpOp_of_list rfl rfl (fun K hK => ?_)
              go_wp2_with fail
              have hxa := Ext.alloc V0 (.cells #[.int .i64 0, .int .i64 0, .int .i64 0, .int .i64 0] 50)
              refine ⟨KeepE.of (fun h => h.trans hxa) (fun _ => trivial), ?_⟩
              have hz := Blk.alloc V0 #[.int .i64 0, .int .i64 0, .int .i64 0, .int .i64 0] 50
              replace hz : Blk _ V0.heap.size 50 [.int .i64 0, .int .i64 0, .int .i64 0, .int .i64 0] := hz
              have hlb : wr.heap.size ≤ V0.heap.size := hd.size
              have hsz : V0.heap.size < (V0.alloc (.cells #[.int .i64 0, .int .i64 0, .int .i64 0, .int .i64 0] 50)).heap.size := by simp
              generalize V0.alloc (.cells #[.int .i64 0, .int .i64 0, .int .i64 0, .int .i64 0] 50) = V1 at *
              generalize V0.heap.size = gb at *
              replace hd := hd.trans hxa
              clear hxa
              have c0 := hz.cell (i := 0) rfl
              have c1 := hz.cell (i := 1) rfl
              have c2 := hz.cell (i := 2) rfl
              have c3 := hz.cell (i := 3) rfl
              have f0 := hz.frozen 0
              have f1 := hz.frozen 1
              have f2 := hz.frozen 2
              have f3 := hz.frozen 3
              have hst4 := ((((hz.set 0 (.int .i64 y.f)).set 1 (.int .i64 y.t)).set 2 (.int .i64 y.i)).set 3 (.int .i64 y.o))
              have hex4 : Ext wr ((((V1.setCell ⟨gb, 0, none⟩ (.int .i64 y.f)).setCell ⟨gb, 1, none⟩ (.int .i64 y.t)).setCell ⟨gb, 2, none⟩ (.int .i64 y.i)).setCell ⟨gb, 3, none⟩ (.int .i64 y.o)) := (((hd.setCell hlb _ _).setCell hlb _ _).setCell hlb _ _).setCell hlb _ _
              have HZ := Lib.hid (And.intro hst4 hex4)
              clear hst4 hex4 hz
              refine wpAnyE_each (i := 9) (is := []) (by kernel_rfl) ⟨?_, trivial⟩
              refine wpOp_of_list rfl rfl (fun K hK => ?_)
              go_wp2_with fail
              refine ⟨KeepE.of (fun _ => HZ.out.2) (fun _ => trivial), ?_⟩
              refine wpAnyE_done (by kernel_rfl) ?_
              obtain ⟨hz, hd2⟩ := HZ.out
              clear c0 c1 c2 c3 f0 f1 f2 f3 HZ hd
              generalize ((((V1.setCell ⟨gb, 0, none⟩ (.int .i64 y.f)).setCell ⟨gb, 1, none⟩ (.int .i64 y.t)).setCell ⟨gb, 2, none⟩ (.int .i64 y.i)).setCell ⟨gb, 3, none⟩ (.int .i64 y.o)) = wB at *
              have hBB : Blk wB gb 50 [.int .i64 y.f, .int .i64 y.t, .int .i64 y.i, .int .i64 y.o] := by simpa using hz
              have hTS : TS wA wB gb [.int .i64 y.f, .int .i64 y.t, .int .i64 y.i, .int .i64 y.o] [(v1, li), (v2, lo)] [] := ⟨hEr.trans hd2, hBB, hset.later hd2⟩
              have b0 := hBB.cell (i := 0) rfl
              have b1 := hBB.cell (i := 1) rfl
              have b2 := hBB.cell (i := 2) rfl
              clear hset hBB hz
              have HTS := Lib.hid hTS; clear hTS
              have HEr := Lib.hid (hEr.trans hd2)
              by_cases hf : y.f = at1
              · have hfd : (y.f != at1) = false := by simp [hf]
                have HF : Hid (onRun m run k = true) := by rw [HON.out]; exact Lib.hid (by simp [hf])
                clear hf
                go_wp2_with (first
                  | (at_builtin; refine wpList_appendSet [] _ elInts rfl _ _ rfl rfl rfl (HTS.out.build y.i).set List.mem_cons_self (HTS.out.build y.i).ext.size (by omega) ?_; intro v4 W4 hs4 ho4 hg4 hb4; have S4 := Lib.hid (TS.app (pre := []) (HTS.out.build y.i) hs4 ho4 hg4).drop; clear hs4 ho4 hg4 hb4; have b3 := S4.out.blk.cell (i := 3) rfl)
                  | (at_builtin; refine wpList_appendSet [_] _ elInts rfl _ _ rfl rfl rfl (S4.out.build y.o).set List.mem_cons_self (S4.out.build y.o).ext.size (by omega) ?_; intro v9 W9 hs9 ho9 hg9 hb9; have S9 := Lib.hid (TS.app (pre := [_]) (S4.out.build y.o) hs9 ho9 hg9).drop; clear hs9 ho9 hg9 hb9))
                go_roundg (gk-1)
                case measure => omega
                case rel => exact ⟨k+1, _, _, by omega, by omega, by go_num, by rw [HA2.out], rfl, rfl, S9.out.ext, by rw [HI.out, HO.out]; exact S9.out.set, Lib.hid (HNX.out HF.out)⟩
              · have hfd : (y.f != at1) = true := by simp [hf]
                have HF : Hid (onRun m run k = false) := by rw [HON.out]; exact Lib.hid (by simp [hf])
                have HKF : Hid (runK m run = 7) := by rw [HRK3.out, HBAD.out HF.out]; exact Lib.hid rfl
                clear hf
                go_wp2_with fail
                go_ret3
                exact RRun.bad HKF.out (by decide) (hE0.trans HEr.out)
            · have hku : k = run.length := by omega
              subst hku
              have HRK4 : Hid (runK m run = if hasB m.e (rAt m.a run run.length) then 0 else 7) := by rw [HRK3.out, if_pos (allB_true (fun j hj => hall.out j hj))]; exact Lib.hid rfl
              have HSET := Lib.hid hset; clear hset
              have hat := HAT.out run.length (Nat.le_refl _)
              generalize hst : rAt m.a run run.length = st at *
              clear hst
              obtain ⟨p, rfl⟩ : ∃ p : Nat, st = p := ⟨st.toNat, by omega⟩
              have hEB : Hid (hasB m.e (p : Int) = (endsB m.s.toNat m.e)[p]?.getD false) := Lib.hid (by
                rw [Bool.eq_iff_iff]
                have h1 := getB_ends HMI.out (k := (p : Int)) (by omega)
                unfold getB at h1
                rw [Int.toNat_natCast] at h1
                rw [h1, hasB_eq, List.contains_iff_mem])
              have HEC := Lib.hid (rends_c _ _ m _ wr (HR.out.ext hEr) HMI.out)
              have HEL := Lib.hid (endsB_len m.s.toNat m.e)
              generalize hasB m.e (p : Int) = hb at *
              generalize endsB m.s.toNat m.e = EB at *
              have hp : p < m.s.toNat := by omega
              have hpE : p < EB.length := by rw [HEL.out]; exact hp
              clear hat
              go_wp2_with fail
              refine HEC.out.mono ?_; rintro e w5 ⟨gE, rfl, hbE, hgE, hx5⟩
              have HXF := Lib.hid hx5
              have c0 := hbE.cell (i := p) hpE
              rw [← hEB.out] at c0
              clear hbE hgE hx5
              cases hb
              · go_wp2_with fail
                go_ret3
                exact RRun.bad (by rw [HRK4.out]; rfl) (by decide) (hE0.trans (hEr.trans HXF.out))
              · go_wp2_with fail
                go_ret3
                exact RRun.good (by rw [HRK4.out]; rfl) (HSET.out.rows (_, _) List.mem_cons_self |>.ext HXF.out).ints (HSET.out.rows (_, _) (List.mem_cons_of_mem _ List.mem_cons_self) |>.ext HXF.out).ints (hE0.trans (hEr.trans HXF.out))
  · have HRK : Hid (runK m run = validM m) := Lib.hid (by rw [runK, if_neg h0])
    have hk : (validM m != 0) = true := by simp [h0]
    generalize validM m = k at *
    go_enter Try.func39, Try.ntmps39
    go_wp2_with fail
    rw [← HW.out]
    refine HV.out.mono ?_; rintro e w1 ⟨rfl, hx1⟩
    go_wp2_with fail
    go_ret3
    exact RRun.bad HRK.out h0 (hE0.trans hx1)
end Go.Proofs.Ytodhmkbkcjpnkaa
