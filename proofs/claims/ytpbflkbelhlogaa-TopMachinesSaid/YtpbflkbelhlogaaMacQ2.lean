/- Run of machine: the search's panic is caught by the deferred closure. -/
import Derived.Test.YtpbflkbelhlogaaMacQ
import Derived.Recover
namespace Go.Proofs.Ytpbflkbelhlogaa
open Go.RowKit Go.Shelf
set_option linter.unusedVariables false

set_option maxHeartbeats 1000000 in
set_option maxRecDepth 100000 in
theorem recover_stopped (p q : Addr) (ra : Option Addr) (rn rc : Nat) (x y : Value) (w : World) (h1 : w.cell? p = some x) (h2 : w.frozen? p = false) (h3 : w.cell? q = some y) (h4 : w.frozen? q = false) (hp : p.block < w.heap.size) (hq : q.block < w.heap.size) (hpq : p.block ≠ q.block) :
    CallsD Try.prog 85 #[.pointer (some p), .pointer (some q)] (.panicking [{ v := .iface 93 (.agg #[.slice ra rn rc]), recovered := false }]) w fun e u' w' =>
      e = .returned (.tuple #[]) ∧ u' = .panicking [{ v := .iface 93 (.agg #[.slice ra rn rc]), recovered := true }] ∧ w' = (((w.alloc (.cells #[.slice ra rn rc] 93)).setCell p (.slice ra rn rc)).setCell q (.bool true)) := by
  refine callsD_of_wpS Try.func85 rfl fun c₀ cs hu => ?_
  apply wpS_seq
  apply wpS_region
  simp [wpOpsS, go_sem, recoverD, hu, Try.ntmps85, Exit.thenS]
  rw [show (#[Value.pointer (some p), Value.pointer (some q)] ++ ((Array.replicate 16 undef).setIfInBounds 3 (.iface 93 (.agg #[.slice ra rn rc]))).setIfInBounds 0 (.iface 93 (.agg #[.slice ra rn rc]))) =
    #[.pointer (some p), .pointer (some q), .iface 93 (.agg #[.slice ra rn rc]), undef, undef, .iface 93 (.agg #[.slice ra rn rc]), undef, undef, undef, undef, undef, undef, undef, undef, undef, undef, undef, undef] from rfl]
  have hx := Ext.alloc w (.cells #[.slice ra rn rc] 93)
  have f1 : (w.alloc (.cells #[.slice ra rn rc] 93)).frozen? p = false := (hx.frozen hp).trans h2
  have c1 : (w.alloc (.cells #[.slice ra rn rc] 93)).cell? p = some x := hx.keep h1
  have f2 : ((w.alloc (.cells #[.slice ra rn rc] 93)).setCell p (.slice ra rn rc)).frozen? q = false := by
    rw [World.frozen?_setCell]; exact (hx.frozen hq).trans h4
  have c2 : ((w.alloc (.cells #[.slice ra rn rc] 93)).setCell p (.slice ra rn rc)).cell? q = some y := by
    rw [World.cell?_setCell_other]
    · exact hx.keep h3
    · intro he; apply hpq; rw [he]
  have hta : ∀ (X : TypeId) (W : World), (Instr.typeAssert (.iface 93 (.agg #[.slice ra rn rc])) X 93 true).run Try.prog W = .ok (.tuple #[.agg #[.slice ra rn rc], .bool true]) W := fun X W => by first | kernel_rfl | rfl | simp [Instr.typeAssert, go_sem]
  refine wpS_of_wp ?_
  go_wp2_with fail
  cases c₀
  simp_all [bodyPostS, results, Try.results85]
theorem recover_idle (p q : Addr) (w : World) :
    CallsD Try.prog 85 #[.pointer (some p), .pointer (some q)] .returning w fun e u' w' => e = .returned (.tuple #[]) ∧ u' = .returning ∧ w' = w := by
  refine callsD_of_wpS Try.func85 rfl fun c₀ cs hu => ?_
  apply wpS_seq
  apply wpS_region
  simp [wpOpsS, go_sem, recoverD, hu, Try.ntmps85, Exit.thenS]
  apply wpS_seq
  apply wpS_region
  simp [wpOpsS, go_sem, Exit.thenS]
  refine wpS_cond (t := false) (by simp [Act.eval, Array.replicate]) ?_
  simp only [Bool.false_eq_true, if_false]
  refine wpS_of_wp (wp_skip ?_)
  cases c₀
  simp_all [bodyPostS, results, Try.results85]

theorem two_set {W : World} {p q : Addr} {x y x' y' : Value} (hp : W.cell? p = some x) (hq : W.cell? q = some y) (hne : p ≠ q) :
    ((W.setCell p x').setCell q y').cell? p = some x' ∧ ((W.setCell p x').setCell q y').cell? q = some y' := by
  have h1 : (W.setCell p x').cell? q = some y := by rw [World.cell?_setCell_other _ _ _ _ hne]; exact hq
  refine ⟨?_, World.cell?_setCell_same _ _ _ h1⟩
  rw [World.cell?_setCell_other _ _ _ _ (Ne.symm hne)]
  exact World.cell?_setCell_same _ _ _ hp
theorem ints_setCell {W : World} {p : Addr} {x v u : Value} {l : List Int} (h : Ints W v l) (hp : W.cell? p = some x) (hx : ∀ n, x ≠ .int .i64 n) : Ints (W.setCell p u) v l := by
  refine h.mono fun i b o _ hc => ?_
  show (W.setCell p u).cell? _ = _
  rw [World.cell?_setCell_other _ _ _ _ (fun e => by rw [← e, hp] at hc; injection hc with hc; exact hx _ hc)]
  exact hc
theorem goRun_rel {m : Mac} : ∀ {r u v : List Int} {s : Int}, goRun m r u v s → relP m u v s
  | [], [], [], s, h => h
  | k :: r, i :: u, o :: v, s, ⟨t, _, ht, h1, h2, h3, h4⟩ => ⟨arcA m.a t, by simp [arcA, ht], h1, h2, h3, goRun_rel h4⟩
def RRunS (m : Mac) (u v : List Int) (w : World) (e : Ending) (w' : World) : Prop :=
  Ext w w' ∧ ∃ (rv : Value) (R : List Int), e = .returned (.tuple #[rv, .bool (relatesB m u v), .int .i64 (checkK m [u, v])]) ∧ Ints w' rv R ∧ (relatesB m u v = false → R = []) ∧ (relatesB m u v = true → goRun m R u v 0)
theorem RRunS.no {m : Mac} {u v : List Int} {w w' : World} {k : Int} (h1 : relatesB m u v = false) (h2 : checkK m [u, v] = k) (hx : Ext w w') : RRunS m u v w (.returned (.tuple #[.slice none 0 0, .bool false, .int .i64 k])) w' :=
  ⟨hx, _, [], by rw [h1, h2], ints_nil_c _, fun _ => rfl, fun h => by rw [h1] at h; cases h⟩

set_option maxHeartbeats 4000000 in
set_option maxRecDepth 100000 in
theorem Run_c (av ev uv vv : Value) (m : Mac) (u v : List Int) (w : World) (h : MacR w av ev m) (hu : Ints w uv u) (hv : Ints w vv v) :
    Calls Try.prog 49 #[.agg #[.int .i64 m.s, av, ev], uv, vv] w (RRunS m u v w) := by
  obtain ⟨w1, hw1⟩ : ∃ w1, w1 = w.alloc (.cells #[.int .i64 m.s, av, ev] 25) := ⟨_, rfl⟩
  have hE1 : Ext w w1 := by rw [hw1]; exact Ext.alloc _ _
  obtain ⟨w2, hw2⟩ : ∃ w2, w2 = w1.alloc (.cells #[.slice none 0 0] 23) := ⟨_, rfl⟩
  have hE2 : Ext w1 w2 := by rw [hw2]; exact Ext.alloc _ _
  obtain ⟨wA, hwA⟩ : ∃ wA, wA = w2.alloc (.cells #[.bool false] 4) := ⟨_, rfl⟩
  have hE3 : Ext w2 wA := by rw [hwA]; exact Ext.alloc _ _
  have hz1 : w1.heap.size = w.heap.size + 1 := by rw [hw1]; simp
  have hz2 : w2.heap.size = w.heap.size + 1 + 1 := by rw [hw2]; simp; omega
  have hz3 : wA.heap.size = w.heap.size + 1 + 1 + 1 := by rw [hwA]; simp; omega
  have hE0 : Ext w wA := hE1.trans (hE2.trans hE3)
  have k0 : ∀ W, Ext wA W → W.cell? ⟨w.heap.size, 0, none⟩ = some (.int .i64 m.s) := by rw [hw1] at hE2; exact fun W hW => kept_alloc w _ _ rfl W ((hE2.trans hE3).trans hW)
  have k1 : ∀ W, Ext wA W → W.cell? ⟨w.heap.size, 1, none⟩ = some av := by rw [hw1] at hE2; exact fun W hW => kept_alloc w _ _ rfl W ((hE2.trans hE3).trans hW)
  have k2 : ∀ W, Ext wA W → W.cell? ⟨w.heap.size, 2, none⟩ = some ev := by rw [hw1] at hE2; exact fun W hW => kept_alloc w _ _ rfl W ((hE2.trans hE3).trans hW)
  have C6 : Hid (∀ W, Ext wA W → W.cell? ⟨w.heap.size + 1, 0, none⟩ = some (.slice none 0 0)) := by rw [← hz1]; rw [hw2] at hE3; exact Lib.hid fun W hW => kept_alloc w1 _ _ rfl W (hE3.trans hW)
  have C7 : Hid (∀ W, Ext wA W → W.cell? ⟨w.heap.size + 1 + 1, 0, none⟩ = some (.bool false)) := by rw [← hz2]; exact Lib.hid fun W hW => kept_alloc w2 _ _ rfl W (by rw [← hwA]; exact hW)
  have F6 : Hid (∀ W, Ext wA W → W.frozen? ⟨w.heap.size + 1, 0, none⟩ = false) := Lib.hid fun W hW => by
    rw [hW.frozen (by show w.heap.size + 1 < _; omega), hE3.frozen (by show w.heap.size + 1 < _; omega), hw2, ← hz1]; exact Blk.frozen (Blk.alloc w1 _ _) 0
  have F7 : Hid (∀ W, Ext wA W → W.frozen? ⟨w.heap.size + 1 + 1, 0, none⟩ = false) := Lib.hid fun W hW => by
    rw [hW.frozen (by show w.heap.size + 1 + 1 < _; omega), hwA, ← hz2]; exact Blk.frozen (Blk.alloc w2 _ _) 0
  have HWW : Hid (wA = ((w.alloc (.cells #[.int .i64 m.s, av, ev] 25)).alloc (.cells #[.slice none 0 0] 23)).alloc (.cells #[.bool false] 4)) := Lib.hid (by rw [hwA, hw2, hw1])
  have H0 : Ext wA wA := Ext.refl _
  have HR := Lib.hid (h.ext hE0)
  have HIU := Lib.hid (hu.ext hE0)
  have HIV := Lib.hid (hv.ext hE0)
  obtain ⟨aa, ca, rfl, hla, hma, HA⟩ := (h.ext hE0).a.open_
  obtain ⟨ae, ce, rfl, hle, hme, HE⟩ := (h.ext hE0).e.open_
  obtain ⟨au, cu, rfl, hlu, hmu, HU⟩ := (hu.ext hE0).open_
  obtain ⟨av2, cv, rfl, hlv, hmv, HV⟩ := (hv.ext hE0).open_
  have hxL := Ext.alloc wA (.cells #[.slice au u.length cu, .slice av2 v.length cv] 23)
  have HC := Lib.hid (by have := check_c _ _ _ m [u, v] _ (HR.out.ext hxL) (rows_new wA [.slice au u.length cu, .slice av2 v.length cv] [u, v] (AllInts.cons HIU.out (AllInts.cons HIV.out (AllInts.nil _))) (by simp)); rw [hz3] at this; exact this)
  have hwd : Ext w wA := hE0
  have HZ3 := Lib.hid hz3
  clear hw1 hw2 hwA hz1 hz2 hz3 hE1 hE2 hE3 h hu hv w1 w2
  have hmf : ∀ (fn : Fn) (first cap : Array Value) (w : World), (Instr.makeFunc fn first cap).run Try.prog w = .ok (.func fn first cap) w := fun _ _ _ _ => rfl
  by_cases h0 : checkK m [u, v] = 0
  · obtain ⟨hm, hul, _⟩ := checkK_ok (checkK_ok2 h0).1
    have hm0 : 0 ≤ (0 : Int) ∧ (0 : Int) < m.s := ⟨by omega, by have := hm.s1; omega⟩
    by_cases hl : u.length = v.length
    · have hd : ((u.length : Int) != (v.length : Int)) = false := by simp [hl]
      have HS := Lib.hid (fun W (hW : Ext wA W) => search_c m u v hm hl (by omega) u.length 0 0 [] (.slice none 0 0) _ _ _ _ W (HR.out.ext hW) (HIU.out.ext hW) (HIV.out.ext hW) (ints_nil_c W) rfl (by omega) hm0.1 hm0.2)
      have HRB : Hid (relatesB m u v = true ↔ relP m u v 0) := Lib.hid (by rw [relatesB, if_pos h0, decide_eq_true_eq]; exact cntUV_iff hm hul)
      rw [h0] at HC
      have HK0 := Lib.hid h0
      clear h0 hm hl hul hm0
      go_enter_defers Try.func49, Try.ntmps49
      go_wp2_with fail
      rw [← HWW.out]
      refine HC.out.mono ?_; rintro e w1 ⟨rfl, hx1⟩
      have hx1 := hxL.trans hx1
      go_wp2_with fail
      refine (HS.out w1 hx1).mono ?_
      rintro e W7 ⟨hx7, ⟨rv6, r, rfl, hi6, hg6⟩ | ⟨rfl, hno⟩⟩
      · have hX7 := hx1.trans hx7
        have c6 := C6.out W7 hX7
        have c7 := C7.out W7 hX7
        have f6 := F6.out W7 hX7
        have f7 := F7.out W7 hX7
        rw [List.nil_append] at hi6
        obtain ⟨ra, rc, rfl, _⟩ := hi6.open_
        go_wp2_with fail
        have hzw := hX7.size
        have HZ := HZ3.out
        refine leaves_cons (f := 85) (args := #[.pointer (some ⟨w.heap.size + 1, 0, none⟩), .pointer (some ⟨w.heap.size + 1 + 1, 0, none⟩)]) (by simp) (by simp [go_sem]) ?_
        refine (recover_stopped ⟨w.heap.size + 1, 0, none⟩ ⟨w.heap.size + 1 + 1, 0, none⟩ _ _ _ _ _ W7 c6 f6 c7 f7 (by show w.heap.size + 1 < _; omega) (by show w.heap.size + 1 + 1 < _; omega) (by show w.heap.size + 1 ≠ w.heap.size + 1 + 1; omega)).mono ?_
        rintro e u' w'' ⟨rfl, rfl, rfl⟩
        have hE8 := Ext.alloc W7 (.cells #[.slice ra r.length rc] 93)
        obtain ⟨d6, d7⟩ := two_set (W := W7.alloc (.cells #[.slice ra r.length rc] 93)) (x' := .slice ra r.length rc) (y' := .bool true) (hE8.keep c6) (hE8.keep c7) (by simp)
        have hi9 : Ints (((W7.alloc (.cells #[.slice ra r.length rc] 93)).setCell ⟨w.heap.size + 1, 0, none⟩ (.slice ra r.length rc)).setCell ⟨w.heap.size + 1 + 1, 0, none⟩ (.bool true)) (.slice ra r.length rc) r :=
          ints_setCell (ints_setCell (hi6.ext hE8) (hE8.keep c6) (fun n e => by cases e)) (x := .bool false) (by rw [World.cell?_setCell_other _ _ _ _ (by simp)]; exact hE8.keep c7) (fun n e => by cases e)
        have hX : Ext w (((W7.alloc (.cells #[.slice ra r.length rc] 93)).setCell ⟨w.heap.size + 1, 0, none⟩ (.slice ra r.length rc)).setCell ⟨w.heap.size + 1 + 1, 0, none⟩ (.bool true)) := (((hwd.trans hX7).trans hE8).setCell (by omega) _ _).setCell (by omega) _ _
        have hrb := HRB.out.2 (goRun_rel hg6)
        generalize (((W7.alloc (.cells #[.slice ra r.length rc] 93)).setCell ⟨w.heap.size + 1, 0, none⟩ (.slice ra r.length rc)).setCell ⟨w.heap.size + 1 + 1, 0, none⟩ (.bool true)) = W9 at *
        refine ⟨.tuple #[.slice ra r.length rc, .bool true, .int .i64 0], by simp [results, Try.results49, go_sem, d6, d7], hX, _, _, by rw [hrb, HK0.out], hi9, fun hf => (by rw [hrb] at hf; cases hf), fun _ => hg6⟩
      · have hX7 := hx1.trans hx7
        have c6 := C6.out W7 hX7
        have c7 := C7.out W7 hX7
        have f6 := F6.out W7 hX7
        have f7 := F7.out W7 hX7
        go_wp2_with fail
        have hno' : relatesB m u v = false := by
          rw [← Bool.not_eq_true, HRB.out]; exact hno
        have HNO := Lib.hid (fun (w' : World) (hx : Ext w w') => RRunS.no hno' HK0.out hx)
        refine leaves_cons (f := 85) (args := #[.pointer (some ⟨w.heap.size + 1, 0, none⟩), .pointer (some ⟨w.heap.size + 1 + 1, 0, none⟩)]) (by simp) (by simp [go_sem]) ?_
        refine (recover_idle _ _ _).mono ?_
        rintro e u' w'' ⟨rfl, rfl, rfl⟩
        obtain ⟨d6, d7⟩ := two_set (x' := .slice none 0 0) (y' := .bool false) c6 c7 (by simp)
        have hX : Ext w ((W7.setCell ⟨w.heap.size + 1, 0, none⟩ (.slice none 0 0)).setCell ⟨w.heap.size + 1 + 1, 0, none⟩ (.bool false)) := ((hwd.trans hX7).setCell (by omega) _ _).setCell (by omega) _ _
        generalize (W7.setCell ⟨w.heap.size + 1, 0, none⟩ (.slice none 0 0)).setCell ⟨w.heap.size + 1 + 1, 0, none⟩ (.bool false) = W9 at *
        exact ⟨.tuple #[.slice none 0 0, .bool false, .int .i64 0], by simp [results, Try.results49, go_sem, d6, d7], HNO.out _ hX⟩
    · have hd : ((u.length : Int) != (v.length : Int)) = true := by simp; omega
      have HRB : Hid (relatesB m u v = false) := Lib.hid (by rw [relatesB, if_pos h0, cntUV, if_neg hl]; rfl)
      have HNO := Lib.hid (fun (w' : World) (hx : Ext w w') => RRunS.no HRB.out h0 hx)
      rw [h0] at HC
      clear h0 hm hl hul hm0
      go_enter_defers Try.func49, Try.ntmps49
      go_wp2_with fail
      rw [← HWW.out]
      refine HC.out.mono ?_; rintro e w1 ⟨rfl, hx1⟩
      have hx1 := hxL.trans hx1
      have c6 := C6.out w1 hx1
      have c7 := C7.out w1 hx1
      have f6 := F6.out w1 hx1
      have f7 := F7.out w1 hx1
      go_wp2_with fail
      obtain ⟨d6, d7⟩ := two_set (x' := .slice none 0 0) (y' := .bool false) c6 c7 (by simp)
      have hX : Ext w ((w1.setCell ⟨w.heap.size + 1, 0, none⟩ (.slice none 0 0)).setCell ⟨w.heap.size + 1 + 1, 0, none⟩ (.bool false)) := ((hwd.trans hx1).setCell (by omega) _ _).setCell (by omega) _ _
      generalize (w1.setCell ⟨w.heap.size + 1, 0, none⟩ (.slice none 0 0)).setCell ⟨w.heap.size + 1 + 1, 0, none⟩ (.bool false) = W9 at *
      exact ⟨.tuple #[.slice none 0 0, .bool false, .int .i64 0], by simp [results, Try.results49, go_sem, d6, d7], HNO.out _ hX⟩
  · have hk : (checkK m [u, v] != 0) = true := by simp [h0]
    have HRB : Hid (relatesB m u v = false) := Lib.hid (by rw [relatesB, if_neg h0])
    have HNO := Lib.hid (fun (w' : World) (hx : Ext w w') => RRunS.no HRB.out rfl hx)
    generalize checkK m [u, v] = k at *
    clear h0
    go_enter_defers Try.func49, Try.ntmps49
    go_wp2_with fail
    rw [← HWW.out]
    refine HC.out.mono ?_; rintro e w1 ⟨rfl, hx1⟩
    have hx1 := hxL.trans hx1
    have c6 := C6.out w1 hx1
    have c7 := C7.out w1 hx1
    have f6 := F6.out w1 hx1
    have f7 := F7.out w1 hx1
    go_wp2_with fail
    obtain ⟨d6, d7⟩ := two_set (x' := .slice none 0 0) (y' := .bool false) c6 c7 (by simp)
    have hX : Ext w ((w1.setCell ⟨w.heap.size + 1, 0, none⟩ (.slice none 0 0)).setCell ⟨w.heap.size + 1 + 1, 0, none⟩ (.bool false)) := ((hwd.trans hx1).setCell (by omega) _ _).setCell (by omega) _ _
    generalize (w1.setCell ⟨w.heap.size + 1, 0, none⟩ (.slice none 0 0)).setCell ⟨w.heap.size + 1 + 1, 0, none⟩ (.bool false) = W9 at *
    exact ⟨.tuple #[.slice none 0 0, .bool false, .int .i64 k], by simp [results, Try.results49, go_sem, d6, d7], HNO.out _ hX⟩
end Go.Proofs.Ytpbflkbelhlogaa
