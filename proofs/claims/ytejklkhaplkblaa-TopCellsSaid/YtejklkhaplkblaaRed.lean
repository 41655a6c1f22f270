/- Walks: Reduce, both packages. -/
import Derived.Test.YtejklkhaplkblaaWo
namespace Go.Proofs.Ytejklkhaplkblaa
open Go.RowKit Go.Shelf
set_option linter.unusedVariables false

/-- entries k-1, .., 0 are left out, one after another, where the forms stay -/
def redL (sizes forms : List Int) : Nat → List Ent → List Ent
  | 0, es => es
  | k + 1, es => redL sizes forms k (if sameIntsB (fillL sizes (es.eraseIdx k)) forms then es.eraseIdx k else es)
def redE (sizes : List Int) (es : List Ent) : List Ent := if validI sizes es = 0 then redL sizes (fillL sizes es) es.length es else []
def redS (sizes : List Int) (es : List Ent) : List Int := if validI sizes es = 0 then sizes else []
/-- what holds of the paradigm that is made, k entries being still to be looked at -/
structure RedI (sizes forms : List Int) (R : List Ent) (k : Nat) (out : List Ent) : Prop where
  le : k ≤ out.length
  V : ValidP sizes out
  to : redL sizes forms k out = R
  forms : fillL sizes out = forms
theorem RedI.start {sizes : List Int} {es : List Ent} (V : ValidP sizes es) : RedI sizes (fillL sizes es) (redL sizes (fillL sizes es) es.length es) es.length es := ⟨Nat.le_refl _, V, rfl, rfl⟩
theorem RedI.yes {sizes forms : List Int} {R out : List Ent} {k : Nat} (h : RedI sizes forms R (k + 1) out) (hs : sameIntsB (fillL sizes (out.eraseIdx k)) forms = true) : RedI sizes forms R k (out.eraseIdx k) := by
  have hle := h.le
  refine ⟨by rw [List.length_eraseIdx_of_lt (by omega)]; omega, erase_valid h.V (by omega), ?_, (by simpa [sameIntsB_iff] using hs)⟩
  have := h.to; rw [redL, if_pos hs] at this; exact this
theorem RedI.no {sizes forms : List Int} {R out : List Ent} {k : Nat} (h : RedI sizes forms R (k + 1) out) (hs : sameIntsB (fillL sizes (out.eraseIdx k)) forms = false) : RedI sizes forms R k out := by
  refine ⟨by have := h.le; omega, h.V, ?_, h.forms⟩
  have := h.to; rw [redL, if_neg (by rw [hs]; decide)] at this; exact this
theorem RedI.end_ {sizes forms : List Int} {R out : List Ent} (h : RedI sizes forms R 0 out) : out = R := h.to
theorem red_fill (sizes forms : List Int) : ∀ (k : Nat) (es : List Ent), k ≤ es.length → ValidP sizes es → fillL sizes es = forms → ValidP sizes (redL sizes forms k es) ∧ fillL sizes (redL sizes forms k es) = forms
  | 0, es, _, V, h => ⟨V, h⟩
  | k + 1, es, hk, V, h => by
    rw [redL]
    split
    · rename_i hs
      exact red_fill sizes forms k _ (by rw [List.length_eraseIdx_of_lt (by omega)]; omega) (erase_valid V (by omega)) ((by simpa [sameIntsB_iff] using hs))
    · exact red_fill sizes forms k es (by omega) V h
theorem boxput {w W : World} {B g : Nat} {A E x y : Value} {S : List Int} {es : List Ent} (hrb : BoxP W g x y) (hs : OInts 3 W B A S) (he : OEnts W B E es) (hX : Ext w W) (hg : w.heap.size ≤ g) :
    BoxP ((W.setCell ⟨g, 0, none⟩ A).setCell ⟨g, 1, none⟩ E) g A E ∧ OInts 3 ((W.setCell ⟨g, 0, none⟩ A).setCell ⟨g, 1, none⟩ E) B A S ∧ OEnts ((W.setCell ⟨g, 0, none⟩ A).setCell ⟨g, 1, none⟩ E) B E es ∧ Ext w ((W.setCell ⟨g, 0, none⟩ A).setCell ⟨g, 1, none⟩ E) := by
  have h0 := hrb.set0 A
  exact ⟨h0.set1 E, (hs.kept (grownBy_set W g 0 A) hrb.noInts).kept (grownBy_set _ g 1 E) h0.noInts, (he.kept (grownBy_set W g 0 A) hrb.neither).kept (grownBy_set _ g 1 E) h0.neither, (hX.setCell hg 0 A).setCell hg 1 E⟩
/-- the state of the loop -/
def RedW (sizes forms : List Int) (R : List Ent) (B g : Nat) (w1 : World) (m : Nat) (i : Value) (wr : World) : Prop :=
  ∃ (k : Nat) (z : Int) (out : List Ent) (sv ev : Value), i = .int .i64 z ∧ z = (k : Int) - 1 ∧ k ≤ m ∧ RedI sizes forms R k out ∧ BoxP wr g sv ev ∧ OInts 3 wr B sv sizes ∧ OEnts wr B ev out ∧ Ext w1 wr

set_option maxHeartbeats 2000000 in
set_option maxRecDepth 100000 in
theorem Reduce_c (sv ev : Value) (sizes : List Int) (es : List Ent) (w : World) (hp : Par w sv ev sizes es) :
    Calls Try.prog 19 #[.agg #[sv, ev]] w (RP2 (redS sizes es) (redE sizes es) (validI sizes es) w) := by
  have HP := Lib.hid hp
  obtain ⟨wA, hwA⟩ : ∃ wA, wA = (w.alloc (.cells #[sv, ev] 25)).alloc (.cells #[.slice none 0 0, .slice none 0 0] 25) := ⟨_, rfl⟩
  have hE0 : Ext w wA := by rw [hwA]; exact (Ext.alloc _ _).trans (Ext.alloc _ _)
  have hz1 : BoxP wA w.heap.size sv ev := by rw [hwA]; exact (BoxP.new w _ _ rfl).ext (Ext.alloc _ _)
  have hz2 : BoxP wA (w.heap.size + 1) (.slice none 0 0) (.slice none 0 0) := by rw [hwA]; exact BoxP.new _ _ _ (by simp)
  have hs0 : wA.heap.size = w.heap.size + 2 := by rw [hwA]; simp
  obtain ⟨ae, ce, rfl, _⟩ := hp.e.open_
  have hb0 := hz1.c0
  have hb1 := hz1.c1
  have HV := Lib.hid (validate_c sv _ sizes es wA (HP.out.s.ext hE0) (HP.out.e.ext hE0))
  have HW := Lib.hid hwA; clear hwA hz1 hp
  by_cases h0 : validI sizes es = 0
  · have V := validI_zero h0
    rw [show redS sizes es = sizes by rw [redS, if_pos h0], show redE sizes es = redL sizes (fillL sizes es) es.length es by rw [redE, if_pos h0]]
    rw [h0] at HV
    rw [h0]
    clear h0
    have HST := Lib.hid (RedI.start V)
    generalize hR : redL sizes (fillL sizes es) es.length es = R at *
    clear hR
    have hen := V.n
    go_enter Try.func19, Try.ntmps19
    go_wp2_with fail
    rw [← HW.out]
    refine HV.out.mono ?_; rintro e w1 ⟨rfl, hB⟩
    have hb0 := hB.keep hb0
    have hb1 := hB.keep hb1
    have hX := hE0.trans hB
    have hrb := hz2.ext hB
    have hs1 := hB.size
    go_wp2_with fail
    refine (fillP_c sv _ sizes es w1 (HP.out.ext hX) V).mono ?_; rintro e w2 ⟨v5, rfl, hr5, hx2⟩
    have HR5 := Lib.hid hr5; clear hr5
    have hb0 := hx2.keep hb0
    have hb1 := hx2.keep hb1
    have hX2 := hX.trans hx2
    have hs12 := hx2.size
    have hrb := hrb.ext hx2
    go_wp2_with fail
    refine (copied_c sv _ sizes es w2 (HP.out.ext hX2) (by omega) (by have := V.ok.2.1; omega) (fun i hi => by rw [V.len i hi]; have := V.ok.2.1; omega)).mono ?_; rintro e w3 ⟨s3, e3, rfl, hov, hoe, hx3⟩
    have hs2 := hX2.size
    have hov := OInts.low hov (show w.heap.size ≤ w2.heap.size by omega)
    have hoe := OEnts.low hoe (show w.heap.size ≤ w2.heap.size by omega)
    obtain ⟨a3, c3, rfl, _⟩ := hov.ints.open_
    obtain ⟨b3, d3, rfl, _⟩ := hoe.ents.open_
    have hA4 := Ext.alloc w3 (.cells #[.slice a3 sizes.length c3, .slice b3 es.length d3] 25)
    have hbox := BoxP.new w3 (.slice a3 sizes.length c3) (.slice b3 es.length d3) rfl
    have hov := OInts.ext hov hA4
    have hoe := OEnts.ext hoe hA4
    have hx34 := hx3.trans hA4
    have HRB := Lib.hid hrb
    have hb0 := hx34.keep hb0
    have hb1 := hx34.keep hb1
    have hrb := hrb.ext hx34
    have hX4 := hX2.trans hx34
    have hs3 := hx3.size
    have hc0 := hbox.c0
    have hc1 := hbox.c1
    clear V
    go_wp2_with fail
    generalize hw4 : w3.alloc (.cells #[.slice a3 sizes.length c3, .slice b3 es.length d3] 25) = w4 at *
    have hs4 : w4.heap.size = w3.heap.size + 1 := by rw [← hw4]; simp
    clear hw4
    generalize hg6 : w3.heap.size = g6 at *
    have HG6 := Lib.hid hg6; clear hg6
    have hge6 : w.heap.size + 2 ≤ g6 := by have := HG6.out; omega
    have hge6' : w2.heap.size ≤ g6 := by have := HG6.out; omega
    have hs4 := Lib.hid hs4
    go_loopg [7] es.length (RedW sizes (fillL sizes es) R w.heap.size g6 w2)
    case atStart => exact ⟨es.length, (es.length : Int) - 1, es, _, _, rfl, rfl, Nat.le_refl _, HST.out, hbox, hov, hoe, hx34⟩
    case round =>
      obtain ⟨k, z, out, sx, ex, rfl, hz, hkm, hinv, hbx, hos, hoe', hB2⟩ := hrel
      have HI := Lib.hid hinv
      have OS := Lib.hid hos; have OE := Lib.hid hoe'
      obtain ⟨aX, cX, rfl, _⟩ := hos.ints.open_
      obtain ⟨bX, dX, rfl, _⟩ := hoe'.ents.open_
      clear hos hoe' hinv
      have hXr := hX2.trans hB2
      have hsr := hXr.size
      have hbxl := hbx.lt
      have hg0 := hbx.c0
      have hg1 := hbx.c1
      cases k with
      | zero =>
        obtain rfl : z = -1 := by omega
        clear hz
        obtain rfl : out = R := HI.out.end_
        have hrbr := HRB.out.ext hB2
        have r0 := hrbr.c0
        have r1 := hrbr.c1
        have rf0 := hrbr.frozen 0
        have rf1 := hrbr.frozen 1
        obtain ⟨HF, hp1⟩ := fin2 0 hrbr (by omega) OS.out OE.out hXr
        have HFIN := Lib.hid HF; clear HF
        have p0 := hp1.c0
        have p1 := hp1.c1
        clear hp1 hrbr
        go_wp2_with fail
        refine bodyPost_ret (v := .tuple #[.agg #[.slice aX sizes.length cX, .slice bX out.length dX], .int .i64 0]) ?_ rfl HFIN.out
        simp [results, Try.results19, go_sem, p0, p1]
      | succ j =>
        obtain rfl : z = (j : Int) := by omega
        clear hz
        have hjl : j < out.length := by have := HI.out.le; omega
        have hon := HI.out.V.n
        go_wp2_with fail
        refine (without_c _ _ sizes out j wr ⟨OS.out.ints, OE.out.ents⟩ hjl (by omega) (by have := HI.out.V.ok.2.1; omega) (fun i hi => by rw [HI.out.V.len i hi]; have := HI.out.V.ok.2.1; omega)).mono ?_; rintro e w5 ⟨s5, e5, rfl, hov5, hoe5, hx5⟩
        have hov5 := OInts.low hov5 (show w.heap.size ≤ wr.heap.size by omega)
        have hoe5 := OEnts.low hoe5 (show w.heap.size ≤ wr.heap.size by omega)
        obtain ⟨a5, c5, rfl, _⟩ := hov5.ints.open_
        obtain ⟨b5, d5, rfl, _⟩ := hoe5.ents.open_
        have hA5 := Ext.alloc w5 (.cells #[.slice a5 sizes.length c5, .slice b5 (out.eraseIdx j).length d5] 25)
        have hbox8 := BoxP.new w5 (.slice a5 sizes.length c5) (.slice b5 (out.eraseIdx j).length d5) rfl
        have OS5 := Lib.hid (OInts.ext hov5 hA5)
        have OE5 := Lib.hid (OEnts.ext hoe5 hA5)
        have hbox5 := (hbx.ext hx5).ext hA5
        have OSX := Lib.hid (OInts.ext OS.out (hx5.trans hA5))
        have OEX := Lib.hid (OEnts.ext OE.out (hx5.trans hA5))
        have hs5 := hx5.size
        have d0 := hbox8.c0
        have d1 := hbox8.c1
        have hg0 := hbox5.c0
        have hg1 := hbox5.c1
        go_wp2_with fail
        refine (fillP_c _ _ sizes (out.eraseIdx j) _ ⟨OS5.out.ints, OE5.out.ents⟩ (erase_valid HI.out.V hjl)).mono ?_; rintro e w6 ⟨v6, rfl, hr6, hx6⟩
        have HSI := Lib.hid (equalInts_c v6 v5 _ _ w6 hr6 (HR5.out.ext (hB2.trans ((hx5.trans hA5).trans hx6))))
        clear hr6
        have hx56 := (hx5.trans hA5).trans hx6
        generalize hnb : sameIntsB (fillL sizes (out.eraseIdx j)) (fillL sizes es) = nb at *
        have HNB := Lib.hid hnb; clear hnb
        cases nb
        · have HJ := Lib.hid (HI.out.no HNB.out)
          go_wp2_with fail
          refine HSI.out.mono ?_; rintro e w7 ⟨rfl, n5, hw7⟩
          have hx7 : Ext w6 w7 := by rw [hw7]; exact Ext.drewN _ _
          clear hw7
          have hY := hx56.trans hx7
          have hY2 := hx6.trans hx7
          go_wp2_with fail
          go_roundg (gk-1)
          case measure => omega
          case rel => exact ⟨j, (j : Int) - 1, out, _, _, by go_num, rfl, by omega, HJ.out, hbx.ext hY, OS.out.ext hY, OE.out.ext hY, hB2.trans hY⟩
        · have HJ := Lib.hid (HI.out.yes HNB.out)
          go_wp2_with fail
          refine HSI.out.mono ?_; rintro e w7 ⟨rfl, n5, hw7⟩
          have hx7 : Ext w6 w7 := by rw [hw7]; exact Ext.drewN _ _
          clear hw7
          have hY := hx56.trans hx7
          have hY2 := hx6.trans hx7
          have d0 := (hbox8.ext hY2).c0
          have d1 := (hbox8.ext hY2).c1
          have hb7 := hbx.ext hY
          have e0 := hb7.c0
          have e1 := hb7.c1
          have f0 := hb7.frozen 0
          have f1 := hb7.frozen 1
          obtain ⟨n1, n2, n3, n4⟩ := boxput hb7 (OS5.out.ext hY2) (OE5.out.ext hY2) (hB2.trans hY) hge6'
          go_wp2_with fail
          go_roundg (gk-1)
          case measure => omega
          case rel => exact ⟨j, (j : Int) - 1, out.eraseIdx j, _, _, by go_num, rfl, by omega, HJ.out, n1, n2, n3, n4⟩
  · rw [show redS sizes es = [] by rw [redS, if_neg h0], show redE sizes es = [] by rw [redE, if_neg h0]]
    generalize validI sizes es = k at *
    have hkn : (k != 0) = true := by simp [h0]
    clear h0
    go_enter Try.func19, Try.ntmps19
    go_wp2_with fail
    rw [← HW.out]
    refine HV.out.mono ?_; rintro e w1 ⟨rfl, hB⟩
    have hrb := hz2.ext hB
    have hX := hE0.trans hB
    have r0 := hrb.c0
    have r1 := hrb.c1
    have rf0 := hrb.frozen 0
    have rf1 := hrb.frozen 1
    obtain ⟨HF, hp1⟩ := fin2 k hrb (by omega) (OInts.nil _ _ _) (OEnts.nil _ _) hX
    have HFIN := Lib.hid HF; clear HF
    have q0 := hp1.c0
    have q1 := hp1.c1
    clear hp1 hrb
    go_wp2_with fail
    refine bodyPost_ret (v := .tuple #[.agg #[.slice none 0 0, .slice none 0 0], .int .i64 k]) ?_ rfl HFIN.out
    simp [results, Try.results19, go_sem, q0, q1]

end Go.Proofs.Ytejklkhaplkblaa

