/- Walks: Add, both packages. -/
import Derived.Test.YtoepnpjjmfhnnaaSwapP
namespace Go.Proofs.Ytoepnpjjmfhnnaa
open Go.RowKit Go.Shelf
set_option linter.unusedVariables false

/-- a paradigm in memory of the call's own and an error code come back -/
def RP2 (S : List Int) (E : List Ent) (k : Int) (w : World) (e : Ending) (w' : World) : Prop := ∃ sv ev, e = .returned (.tuple #[.agg #[sv, ev], .int .i64 k]) ∧ OInts 3 w' w.heap.size sv S ∧ OEnts w' w.heap.size ev E ∧ Ext w w'
theorem OEnts.low {w : World} {B B' : Nat} {v : Value} {es : List Ent} (h : OEnts w B v es) (hB : B' ≤ B) : OEnts w B' v es := by
  obtain ⟨us, h1, h2⟩ := h
  refine ⟨us, ⟨h1.1, ?_⟩, h2.1, fun i u hu => (h2.2 i u hu).low hB⟩
  rcases h1.2 with h | ⟨g, cap, cur, h1, h2, h3⟩
  · exact .inl h
  · exact .inr ⟨g, cap, cur, h1, by omega, h3⟩
def addK (sizes : List Int) (es : List Ent) (x : List Int) (f : Int) : Int := if validI sizes es = 0 then validI sizes (es ++ [(x, f)]) else validI sizes es
def addS (sizes : List Int) (es : List Ent) (x : List Int) (f : Int) : List Int := if addK sizes es x f = 0 then sizes else []
def addE (sizes : List Int) (es : List Ent) (x : List Int) (f : Int) : List Ent := if addK sizes es x f = 0 then es ++ [(x, f)] else []

set_option maxHeartbeats 2000000 in
set_option maxRecDepth 100000 in
theorem Add_c (sv ev xv : Value) (sizes : List Int) (es : List Ent) (x : List Int) (f : Int) (w : World) (hp : Par w sv ev sizes es) (hx : Ints w xv x) (hn : x.length ≤ 1000) :
    Calls Try.prog 43 #[.agg #[sv, ev], .agg #[xv, .int .i64 f]] w (RP2 (addS sizes es x f) (addE sizes es x f) (addK sizes es x f) w) := by
  have HP := Lib.hid hp; have HXI := Lib.hid hx
  obtain ⟨ax, cx, rfl, _⟩ := hx.open_
  clear hp hx
  obtain ⟨wA, hwA⟩ : ∃ wA, wA = ((w.alloc (.cells #[sv, ev] 25)).alloc (.cells #[.slice ax x.length cx, .int .i64 f] 54)).alloc (.cells #[.slice none 0 0, .slice none 0 0] 25) := ⟨_, rfl⟩
  have hE0 : Ext w wA := by rw [hwA]; exact ((Ext.alloc _ _).trans (Ext.alloc _ _)).trans (Ext.alloc _ _)
  have hz1 : BoxP wA w.heap.size sv ev := by rw [hwA]; exact ((BoxP.new w _ _ rfl).ext (Ext.alloc _ _)).ext (Ext.alloc _ _)
  have hu0 : wA.cell? ⟨w.heap.size + 1, 0, none⟩ = some (.slice ax x.length cx) := by
    rw [hwA]; refine (Ext.alloc _ _).keep ?_
    have := alloc_cell (w.alloc (.cells #[sv, ev] 25)) #[.slice ax x.length cx, .int .i64 f] 54 (i := 0) rfl
    rwa [World.size_alloc] at this
  have hu1 : wA.cell? ⟨w.heap.size + 1, 1, none⟩ = some (.int .i64 f) := by
    rw [hwA]; refine (Ext.alloc _ _).keep ?_
    have := alloc_cell (w.alloc (.cells #[sv, ev] 25)) #[.slice ax x.length cx, .int .i64 f] 54 (i := 1) rfl
    rwa [World.size_alloc] at this
  have hz2 : BoxP wA (w.heap.size + 2) (.slice none 0 0) (.slice none 0 0) := by rw [hwA]; exact BoxP.new _ _ _ (by simp)
  have hszA : wA.heap.size = w.heap.size + 3 := by rw [hwA]; simp
  have hb0 := hz1.c0
  have hb1 := hz1.c1
  have HV := Lib.hid (validate_c sv ev sizes es wA (HP.out.s.ext hE0) (HP.out.e.ext hE0))
  have HW := Lib.hid hwA; clear hwA hz1
  by_cases h0 : validI sizes es = 0
  · have V := validI_zero h0
    have hk : addK sizes es x f = validI sizes (es ++ [(x, f)]) := by rw [addK, if_pos h0]
    rw [h0] at HV
    have HCP := Lib.hid (fun W (h : Ext w W) => copied_c sv ev sizes es W (HP.out.ext h) (by have := V.n; omega) (by have := V.ok.2.1; omega) (fun i hi => by rw [V.len i hi]; have := V.ok.2.1; omega))
    have hen := V.n
    have HK := Lib.hid hk
    generalize hS : addS sizes es x f = S at *
    generalize hE : addE sizes es x f = E at *
    have HS := Lib.hid hS; have HE := Lib.hid hE
    generalize hkk : addK sizes es x f = k at *
    have HKK := Lib.hid hkk
    clear h0 V hk hS hE hkk
    go_enter Try.func43, Try.ntmps43
    go_wp2_with fail
    rw [← HW.out]
    refine HV.out.mono ?_; rintro e w1 ⟨rfl, hB⟩
    have hb0 := hB.keep hb0
    have hb1 := hB.keep hb1
    have hX := hE0.trans hB
    have hs1 := hB.size
    go_wp2_with fail
    refine (HCP.out w1 hX).mono ?_; rintro e w2 ⟨sv2, ev2, rfl, hov, hoe, hx2⟩
    obtain ⟨a2, c2, rfl, _⟩ := hov.ints.open_
    obtain ⟨a3, c3, rfl, _⟩ := hoe.ents.open_
    have hA3 := Ext.alloc w2 (.cells #[.slice a2 sizes.length c2, .slice a3 es.length c3] 25)
    have hbox := BoxP.new w2 (.slice a2 sizes.length c2) (.slice a3 es.length c3) rfl
    have hrb := ((hz2.ext hB).ext hx2).ext hA3
    have hu0 := hA3.keep (hx2.keep (hB.keep hu0))
    have hu1 := hA3.keep (hx2.keep (hB.keep hu1))
    have hX3 := (hX.trans hx2).trans hA3
    have hs2 := hx2.size
    have HOV := Lib.hid ((OInts.low hov (show w.heap.size ≤ w1.heap.size by omega)).ext hA3)
    have HOE := Lib.hid ((OEnts.low hoe (show w.heap.size ≤ w1.heap.size by omega)).ext hA3)
    clear hov hoe hb0 hb1
    have hbc := hbox.c1
    have hblt := hbox.lt
    go_wp2_with fail
    refine wp_region_play (w2.heap.size + 1) [9, 11] [.calc 0, .look 1, .calc 2, .look 3, .calc 5, .look 6, .go 4, .calc 7, .go 8, .go 9, .calc 10, .go 11] (by kernel_rfl) (by kernel_rfl) (by intro c a d v w h; cases d <;> exact h) ?_
    generalize hw5 : w2.alloc (.cells #[.slice a2 sizes.length c2, .slice a3 es.length c3] 25) = W5 at *
    have hs5 : W5.heap.size = w2.heap.size + 1 := by rw [← hw5]; simp
    have hd : Ext W5 { W5 with drawn := W5.drawn + 1 } := drawn_ext W5
    have hs1' : ({ W5 with drawn := W5.drawn + 1 } : World).heap.size = w2.heap.size + 1 := hs5
    generalize { W5 with drawn := W5.drawn + 1 } = W1 at *
    have hbc := hd.keep hbc
    have hu0 := hd.keep hu0
    have hu1 := hd.keep hu1
    have q0 := fun s : Since (w2.heap.size + 1) W1 => s.keep (by show w2.heap.size < _; omega) hbc
    have q1 := fun s : Since (w2.heap.size + 1) W1 => s.keep (by show w.heap.size + 1 < _; omega) hu0
    have q2 := fun s : Since (w2.heap.size + 1) W1 => s.keep (by show w.heap.size + 1 < _; omega) hu1
    have HXd := Lib.hid (hX3.trans hd)
    clear hw5 hA3
    (refine wpPlay_calc rfl (fun K hK => ?_); go_simp; first | (refine hK _ ?_; clear hK K) | (refine ⟨_, fun _ => rfl, hK _ ?_⟩; clear hK K))
    (refine wpPlay_look rfl (fun K hK => ?_); go_simp; first | (refine hK _ ?_; clear hK K) | (refine ⟨_, fun _ => rfl, hK _ ?_⟩; clear hK K))
    (refine wpPlay_calc rfl (fun K hK => ?_); go_simp; first | (refine hK _ ?_; clear hK K) | (refine ⟨_, fun _ => rfl, hK _ ?_⟩; clear hK K))
    (refine wpPlay_look rfl (fun K hK => ?_); go_simp; first | (refine hK _ ?_; clear hK K) | (refine ⟨_, fun _ => rfl, hK _ ?_⟩; clear hK K))
    (refine wpPlay_calc rfl (fun K hK => ?_); go_simp; first | (refine hK _ ?_; clear hK K) | (refine ⟨_, fun _ => rfl, hK _ ?_⟩; clear hK K))
    (refine wpPlay_look rfl (fun K hK => ?_); go_simp; first | (refine hK _ ?_; clear hK K) | (refine ⟨_, fun _ => rfl, hK _ ?_⟩; clear hK K))
    clear q0 q1 q2
    refine wpPlay_go rfl rfl (fun K hK => ?_)
    go_wp2_with fail
    refine (cloneInts_c _ x W1 (HXI.out.ext HXd.out) (by omega)).mono ?_; rintro e W2 ⟨v2, rfl, ho2, hx3⟩
    obtain ⟨b2, d2, rfl, _⟩ := ho2.ints.open_
    have HO2 := Lib.hid (OInts.low ho2 (show w.heap.size ≤ W1.heap.size by omega))
    clear ho2
    go_wp2_with fail
    refine ⟨.inr (hx3.mono (by omega)), ?_⟩
    (refine wpPlay_calc rfl (fun K hK => ?_); go_simp; first | (refine hK _ ?_; clear hK K) | (refine ⟨_, fun _ => rfl, hK _ ?_⟩; clear hK K))
    refine wpPlay_go rfl rfl (fun K hK => ?_)
    go_wp2_with fail
    refine ⟨.inr ((Ext.alloc _ _).mono (by have := hx3.size; omega)), ?_⟩
    refine wpPlay_go rfl rfl (fun K hK => ?_)
    have hX2 := hd.trans hx3
    refine wpList_appendEnt rfl _ _ rfl rfl rfl (HOE.out.ext hX2) rfl HO2.out (by omega) (by have := hX2.size; omega) ?_
    intro g' cap' W3 hoe3 hgr3 hrow3
    have hX3' := hX2.trans (Ext.alloc W2 (.cells #[.slice b2 x.length d2, .int .i64 f] 54))
    go_wp2_with fail
    refine ⟨.inl (by decide), ?_⟩
    (refine wpPlay_calc rfl (fun K hK => ?_); go_simp; first | (refine hK _ ?_; clear hK K) | (refine ⟨_, fun _ => rfl, hK _ ?_⟩; clear hK K))
    have hne : ∀ {g a b}, BoxP W5 g a b → ((Value.slice a3 es.length c3).ownBlock ≠ some g) := fun {g a b} h he => by
      obtain ⟨_, cur, h1⟩ := hrow3 g he
      have h2 := h.ext hX2
      rw [BoxP, h1] at h2
      injection h2 with h2; injection h2 with _ h2; exact absurd h2 (by decide)
    have hbox3 := (hbox.ext hX3').kept hgr3 (hne hbox)
    have hrb3 := (hrb.ext hX3').kept hgr3 (hne hrb)
    have hc3 := hbox3.c1
    have hf3 := hbox3.frozen 1
    have HV3 := Lib.hid ((HOV.out.ext hX3').kept hgr3 (fun r hr => by
      obtain ⟨_, cur, h1⟩ := hrow3 r hr
      exact ⟨_, (Ext.alloc W2 _).block r (Array.getElem?_eq_some_iff.1 h1).1 |>.trans h1, fun cur' he => by injection he with _ he; exact absurd he (by decide)⟩))
    have HE3 := Lib.hid hoe3
    have hxw3 : Ext w W3 := grown_below (hX3.trans hX3') hgr3 (fun r hr => (hrow3 r hr).1)
    clear hoe3 hgr3 hrow3 hne
    refine wpPlay_go rfl rfl (fun K hK => ?_)
    go_wp2_with fail
    refine ⟨.inl (by decide), ?_⟩
    refine wpPlay_nil ?_
    have hbox4 := hbox3.set1 (.slice (some ⟨g', 0, none⟩) (es.length + 1) cap')
    have hrb4 := hrb3.kept (grownBy_set W3 w2.heap.size 1 (.slice (some ⟨g', 0, none⟩) (es.length + 1) cap')) (by simp; omega)
    have HV4 := Lib.hid (HV3.out.kept (grownBy_set W3 w2.heap.size 1 (.slice (some ⟨g', 0, none⟩) (es.length + 1) cap')) hbox3.noInts)
    have HE4 := Lib.hid (HE3.out.kept (grownBy_set W3 w2.heap.size 1 (.slice (some ⟨g', 0, none⟩) (es.length + 1) cap')) hbox3.neither)
    have hX4 := hxw3.setCell (c := w2.heap.size) (by omega) 1 (.slice (some ⟨g', 0, none⟩) (es.length + 1) cap')
    generalize W3.setCell ⟨w2.heap.size, 1, none⟩ (.slice (some ⟨g', 0, none⟩) (es.length + 1) cap') = W4 at *
    have c0 := hbox4.c0
    have c1 := hbox4.c1
    have HV2 := Lib.hid (validate_c _ _ sizes (es ++ [(x, f)]) W4 HV4.out.ints HE4.out.ents)
    rw [← HK.out] at HV2
    clear hu0 hu1 hbc hc3 hf3
    by_cases hk0 : k = 0
    · subst hk0
      obtain rfl : S = sizes := by rw [← HS.out, addS, if_pos HKK.out]
      obtain rfl : E = es ++ [(x, f)] := by rw [← HE.out, addE, if_pos HKK.out]
      go_wp2_with fail
      refine HV2.out.mono ?_; rintro e W6 ⟨rfl, hx6⟩
      have hrb5 := hrb4.ext hx6
      have hX5 := hX4.trans hx6
      have hbox5 := hbox4.ext hx6
      have c0 := hbox5.c0
      have c1 := hbox5.c1
      have r0 := hrb5.c0
      have r1 := hrb5.c1
      have rf0 := hrb5.frozen 0
      have rf1 := hrb5.frozen 1
      have hp0 := hrb5.set0 (.slice a2 S.length c2)
      have hp1 := hp0.set1 (.slice (some ⟨g', 0, none⟩) (es.length + 1) cap')
      have q0 := hp1.c0
      have q1 := hp1.c1
      have hxx := (hX5.setCell (c := w.heap.size + 2) (by omega) 0 (.slice a2 S.length c2)).setCell (c := w.heap.size + 2) (by omega) 1 (.slice (some ⟨g', 0, none⟩) (es.length + 1) cap')
      have HFIN := Lib.hid (show RP2 S (es ++ [(x, f)]) 0 w (.returned (.tuple #[.agg #[.slice a2 S.length c2, .slice (some ⟨g', 0, none⟩) (es.length + 1) cap'], .int .i64 0])) _ from ⟨_, _, rfl, (HV4.out.ext hx6).kept (grownBy_set _ (w.heap.size + 2) 0 (.slice a2 S.length c2)) hrb5.noInts |>.kept (grownBy_set _ (w.heap.size + 2) 1 (.slice (some ⟨g', 0, none⟩) (es.length + 1) cap')) hp0.noInts, (HE4.out.ext hx6).kept (grownBy_set _ (w.heap.size + 2) 0 (.slice a2 S.length c2)) hrb5.neither |>.kept (grownBy_set _ (w.heap.size + 2) 1 (.slice (some ⟨g', 0, none⟩) (es.length + 1) cap')) hp0.neither, hxx⟩)
      clear hp0 hp1 hxx
      go_wp2_with fail
      refine bodyPost_ret (v := .tuple #[.agg #[.slice a2 S.length c2, .slice (some ⟨g', 0, none⟩) (es.length + 1) cap'], .int .i64 0]) ?_ rfl HFIN.out
      simp [results, Try.results43, go_sem, q0, q1]
    · have hkn : (k != 0) = true := by simp [hk0]
      obtain rfl : S = [] := by rw [← HS.out, addS, if_neg (by rw [HKK.out]; exact hk0)]
      obtain rfl : E = [] := by rw [← HE.out, addE, if_neg (by rw [HKK.out]; exact hk0)]
      go_wp2_with fail
      refine HV2.out.mono ?_; rintro e W6 ⟨rfl, hx6⟩
      have hrb5 := hrb4.ext hx6
      have hX5 := hX4.trans hx6
      have hbox5 := hbox4.ext hx6
      have c0 := hbox5.c0
      have c1 := hbox5.c1
      have r0 := hrb5.c0
      have r1 := hrb5.c1
      have rf0 := hrb5.frozen 0
      have rf1 := hrb5.frozen 1
      have hp0 := hrb5.set0 (.slice none 0 0)
      have hp1 := hp0.set1 (.slice none 0 0)
      have q0 := hp1.c0
      have q1 := hp1.c1
      have hxx := (hX5.setCell (c := w.heap.size + 2) (by omega) 0 (.slice none 0 0)).setCell (c := w.heap.size + 2) (by omega) 1 (.slice none 0 0)
      have HFIN := Lib.hid (show RP2 [] [] k w (.returned (.tuple #[.agg #[.slice none 0 0, .slice none 0 0], .int .i64 k])) _ from ⟨_, _, rfl, OInts.nil _ _ _, OEnts.nil _ _, hxx⟩)
      clear hp0 hp1 hxx
      go_wp2_with fail
      refine bodyPost_ret (v := .tuple #[.agg #[.slice none 0 0, .slice none 0 0], .int .i64 k]) ?_ rfl HFIN.out
      simp [results, Try.results43, go_sem, q0, q1]
  · have hk : addK sizes es x f = validI sizes es := by rw [addK, if_neg h0]
    rw [show addS sizes es x f = [] by rw [addS, hk, if_neg h0], show addE sizes es x f = [] by rw [addE, hk, if_neg h0], hk]
    generalize validI sizes es = k at *
    have hkn : (k != 0) = true := by simp [h0]
    clear hk h0
    go_enter Try.func43, Try.ntmps43
    go_wp2_with fail
    rw [← HW.out]
    refine HV.out.mono ?_; rintro e w1 ⟨rfl, hB⟩
    have hrb := hz2.ext hB
    have r0 := hrb.c0
    have r1 := hrb.c1
    have rf0 := hrb.frozen 0
    have rf1 := hrb.frozen 1
    have hp1 := (hrb.set0 (.slice none 0 0)).set1 (.slice none 0 0)
    have q0 := hp1.c0
    have q1 := hp1.c1
    have hX := hE0.trans hB
    have hxx := (hX.setCell (c := w.heap.size + 2) (by omega) 0 (.slice none 0 0)).setCell (c := w.heap.size + 2) (by omega) 1 (.slice none 0 0)
    have HFIN := Lib.hid (show RP2 [] [] k w (.returned (.tuple #[.agg #[.slice none 0 0, .slice none 0 0], .int .i64 k])) _ from ⟨_, _, rfl, OInts.nil _ _ _, OEnts.nil _ _, hxx⟩)
    clear hp1 hrb hxx
    go_wp2_with fail
    refine bodyPost_ret (v := .tuple #[.agg #[.slice none 0 0, .slice none 0 0], .int .i64 k]) ?_ rfl HFIN.out
    simp [results, Try.results43, go_sem, q0, q1]

set_option maxHeartbeats 2000000 in
set_option maxRecDepth 100000 in
theorem rAdd_c (sv ev xv : Value) (sizes : List Int) (es : List Ent) (x : List Int) (f : Int) (w : World) (hp : Par w sv ev sizes es) (hx : Ints w xv x) (hn : x.length ≤ 1000) :
    Calls Try.prog 44 #[.agg #[sv, ev], .agg #[xv, .int .i64 f]] w (RP2 (addS sizes es x f) (addE sizes es x f) (addK sizes es x f) w) := by
  have HP := Lib.hid hp; have HXI := Lib.hid hx
  obtain ⟨ax, cx, rfl, _⟩ := hx.open_
  clear hp hx
  obtain ⟨wA, hwA⟩ : ∃ wA, wA = ((w.alloc (.cells #[sv, ev] 25)).alloc (.cells #[.slice ax x.length cx, .int .i64 f] 54)).alloc (.cells #[.slice none 0 0, .slice none 0 0] 25) := ⟨_, rfl⟩
  have hE0 : Ext w wA := by rw [hwA]; exact ((Ext.alloc _ _).trans (Ext.alloc _ _)).trans (Ext.alloc _ _)
  have hz1 : BoxP wA w.heap.size sv ev := by rw [hwA]; exact ((BoxP.new w _ _ rfl).ext (Ext.alloc _ _)).ext (Ext.alloc _ _)
  have hu0 : wA.cell? ⟨w.heap.size + 1, 0, none⟩ = some (.slice ax x.length cx) := by
    rw [hwA]; refine (Ext.alloc _ _).keep ?_
    have := alloc_cell (w.alloc (.cells #[sv, ev] 25)) #[.slice ax x.length cx, .int .i64 f] 54 (i := 0) rfl
    rwa [World.size_alloc] at this
  have hu1 : wA.cell? ⟨w.heap.size + 1, 1, none⟩ = some (.int .i64 f) := by
    rw [hwA]; refine (Ext.alloc _ _).keep ?_
    have := alloc_cell (w.alloc (.cells #[sv, ev] 25)) #[.slice ax x.length cx, .int .i64 f] 54 (i := 1) rfl
    rwa [World.size_alloc] at this
  have hz2 : BoxP wA (w.heap.size + 2) (.slice none 0 0) (.slice none 0 0) := by rw [hwA]; exact BoxP.new _ _ _ (by simp)
  have hszA : wA.heap.size = w.heap.size + 3 := by rw [hwA]; simp
  have hb0 := hz1.c0
  have hb1 := hz1.c1
  have HV := Lib.hid (rValidate_c sv ev sizes es wA (HP.out.s.ext hE0) (HP.out.e.ext hE0))
  have HW := Lib.hid hwA; clear hwA hz1
  by_cases h0 : validI sizes es = 0
  · have V := validI_zero h0
    have hk : addK sizes es x f = validI sizes (es ++ [(x, f)]) := by rw [addK, if_pos h0]
    rw [h0] at HV
    have HCP := Lib.hid (fun W (h : Ext w W) => rCopy_c sv ev sizes es W (HP.out.ext h) (by have := V.n; omega) (by have := V.ok.2.1; omega) (fun i hi => by rw [V.len i hi]; have := V.ok.2.1; omega))
    have hen := V.n
    have HK := Lib.hid hk
    generalize hS : addS sizes es x f = S at *
    generalize hE : addE sizes es x f = E at *
    have HS := Lib.hid hS; have HE := Lib.hid hE
    generalize hkk : addK sizes es x f = k at *
    have HKK := Lib.hid hkk
    clear h0 V hk hS hE hkk
    go_enter Try.func44, Try.ntmps44
    go_wp2_with fail
    rw [← HW.out]
    refine HV.out.mono ?_; rintro e w1 ⟨rfl, hB⟩
    have hb0 := hB.keep hb0
    have hb1 := hB.keep hb1
    have hX := hE0.trans hB
    have hs1 := hB.size
    go_wp2_with fail
    refine (HCP.out w1 hX).mono ?_; rintro e w2 ⟨sv2, ev2, rfl, hov, hoe, hx2⟩
    obtain ⟨a2, c2, rfl, _⟩ := hov.ints.open_
    obtain ⟨a3, c3, rfl, _⟩ := hoe.ents.open_
    have hA3 := Ext.alloc w2 (.cells #[.slice a2 sizes.length c2, .slice a3 es.length c3] 25)
    have hbox := BoxP.new w2 (.slice a2 sizes.length c2) (.slice a3 es.length c3) rfl
    have hrb := ((hz2.ext hB).ext hx2).ext hA3
    have hu0 := hA3.keep (hx2.keep (hB.keep hu0))
    have hu1 := hA3.keep (hx2.keep (hB.keep hu1))
    have hX3 := (hX.trans hx2).trans hA3
    have hs2 := hx2.size
    have HOV := Lib.hid ((OInts.low hov (show w.heap.size ≤ w1.heap.size by omega)).ext hA3)
    have HOE := Lib.hid ((OEnts.low hoe (show w.heap.size ≤ w1.heap.size by omega)).ext hA3)
    clear hov hoe hb0 hb1
    have hbc := hbox.c1
    have hblt := hbox.lt
    go_wp2_with fail
    refine wp_region_play (w2.heap.size + 1) [10, 12] [.calc 0, .look 1, .calc 3, .look 4, .calc 6, .look 7, .go 2, .go 5, .calc 8, .go 9, .go 10, .calc 11, .go 12] (by kernel_rfl) (by kernel_rfl) (by intro c a d v w h; cases d <;> exact h) ?_
    generalize hw5 : w2.alloc (.cells #[.slice a2 sizes.length c2, .slice a3 es.length c3] 25) = W5 at *
    have hs5 : W5.heap.size = w2.heap.size + 1 := by rw [← hw5]; simp
    have hd : Ext W5 { W5 with drawn := W5.drawn + 1 } := drawn_ext W5
    have hs1' : ({ W5 with drawn := W5.drawn + 1 } : World).heap.size = w2.heap.size + 1 := hs5
    generalize { W5 with drawn := W5.drawn + 1 } = W1 at *
    have hbc := hd.keep hbc
    have hu0 := hd.keep hu0
    have hu1 := hd.keep hu1
    have q0 := fun s : Since (w2.heap.size + 1) W1 => s.keep (by show w2.heap.size < _; omega) hbc
    have q1 := fun s : Since (w2.heap.size + 1) W1 => s.keep (by show w.heap.size + 1 < _; omega) hu0
    have q2 := fun s : Since (w2.heap.size + 1) W1 => s.keep (by show w.heap.size + 1 < _; omega) hu1
    have HXd := Lib.hid (hX3.trans hd)
    clear hw5 hA3
    (refine wpPlay_calc rfl (fun K hK => ?_); go_simp; first | (refine hK _ ?_; clear hK K) | (refine ⟨_, fun _ => rfl, hK _ ?_⟩; clear hK K))
    (refine wpPlay_look rfl (fun K hK => ?_); go_simp; first | (refine hK _ ?_; clear hK K) | (refine ⟨_, fun _ => rfl, hK _ ?_⟩; clear hK K))
    (refine wpPlay_calc rfl (fun K hK => ?_); go_simp; first | (refine hK _ ?_; clear hK K) | (refine ⟨_, fun _ => rfl, hK _ ?_⟩; clear hK K))
    (refine wpPlay_look rfl (fun K hK => ?_); go_simp; first | (refine hK _ ?_; clear hK K) | (refine ⟨_, fun _ => rfl, hK _ ?_⟩; clear hK K))
    (refine wpPlay_calc rfl (fun K hK => ?_); go_simp; first | (refine hK _ ?_; clear hK K) | (refine ⟨_, fun _ => rfl, hK _ ?_⟩; clear hK K))
    (refine wpPlay_look rfl (fun K hK => ?_); go_simp; first | (refine hK _ ?_; clear hK K) | (refine ⟨_, fun _ => rfl, hK _ ?_⟩; clear hK K))
    clear q0 q1 q2
    have hown0 : (W1.alloc (.cells #[] 3)).ownsRow (w2.heap.size + 1) 3 1 (.slice (some ⟨w2.heap.size + 1, 0, none⟩) 0 0) 0 [] := by
      have := World.ownsRow_lit (size := 1) (e := 3) (base := w2.heap.size + 1) W1 #[] 0 (by omega) (by unfold maxLen; omega) rfl
      rwa [hs1'] at this
    have HOWN0 := Lib.hid hown0; clear hown0
    refine wpPlay_go rfl rfl (fun K hK => ?_)
    go_wp2_with fail
    refine ⟨.inr ((Ext.alloc _ _).mono (by omega)), ?_⟩
    refine wpPlay_go rfl rfl (fun K hK => ?_)
    refine wpList_appendAll (n := 0) (m := x.length) (B := w2.heap.size + 1) elInts rfl _ _ rfl rfl rfl HOWN0.out ((HXI.out.ext HXd.out).ext (Ext.alloc _ _)).raw (ints_one x) (by simp; omega) (by omega) (by omega) ?_
    intro v2 W2 ho2 hb2
    replace ho2 : OInts 3 W2 (w2.heap.size + 1) v2 x := (by simpa [OInts] using ho2)
    obtain ⟨b2, d2, rfl, _⟩ := ho2.ints.open_
    have HO2 := Lib.hid (OInts.low ho2 (show w.heap.size ≤ w2.heap.size + 1 by omega))
    have hx3 : Ext W1 W2 := (Ext.alloc _ _).upto hb2 (by omega)
    clear ho2
    go_wp2_with fail
    refine ⟨.inr hb2, ?_⟩
    (refine wpPlay_calc rfl (fun K hK => ?_); go_simp; first | (refine hK _ ?_; clear hK K) | (refine ⟨_, fun _ => rfl, hK _ ?_⟩; clear hK K))
    refine wpPlay_go rfl rfl (fun K hK => ?_)
    go_wp2_with fail
    refine ⟨.inr ((Ext.alloc _ _).mono (by have := hx3.size; omega)), ?_⟩
    refine wpPlay_go rfl rfl (fun K hK => ?_)
    have hX2 := hd.trans hx3
    refine wpList_appendEnt rfl _ _ rfl rfl rfl (HOE.out.ext hX2) rfl HO2.out (by omega) (by have := hX2.size; omega) ?_
    intro g' cap' W3 hoe3 hgr3 hrow3
    have hX3' := hX2.trans (Ext.alloc W2 (.cells #[.slice b2 x.length d2, .int .i64 f] 54))
    go_wp2_with fail
    refine ⟨.inl (by decide), ?_⟩
    (refine wpPlay_calc rfl (fun K hK => ?_); go_simp; first | (refine hK _ ?_; clear hK K) | (refine ⟨_, fun _ => rfl, hK _ ?_⟩; clear hK K))
    have hne : ∀ {g a b}, BoxP W5 g a b → ((Value.slice a3 es.length c3).ownBlock ≠ some g) := fun {g a b} h he => by
      obtain ⟨_, cur, h1⟩ := hrow3 g he
      have h2 := h.ext hX2
      rw [BoxP, h1] at h2
      injection h2 with h2; injection h2 with _ h2; exact absurd h2 (by decide)
    have hbox3 := (hbox.ext hX3').kept hgr3 (hne hbox)
    have hrb3 := (hrb.ext hX3').kept hgr3 (hne hrb)
    have hc3 := hbox3.c1
    have hf3 := hbox3.frozen 1
    have HV3 := Lib.hid ((HOV.out.ext hX3').kept hgr3 (fun r hr => by
      obtain ⟨_, cur, h1⟩ := hrow3 r hr
      exact ⟨_, (Ext.alloc W2 _).block r (Array.getElem?_eq_some_iff.1 h1).1 |>.trans h1, fun cur' he => by injection he with _ he; exact absurd he (by decide)⟩))
    have HE3 := Lib.hid hoe3
    have hxw3 : Ext w W3 := grown_below (hX3.trans hX3') hgr3 (fun r hr => (hrow3 r hr).1)
    clear hoe3 hgr3 hrow3 hne
    refine wpPlay_go rfl rfl (fun K hK => ?_)
    go_wp2_with fail
    refine ⟨.inl (by decide), ?_⟩
    refine wpPlay_nil ?_
    have hbox4 := hbox3.set1 (.slice (some ⟨g', 0, none⟩) (es.length + 1) cap')
    have hrb4 := hrb3.kept (grownBy_set W3 w2.heap.size 1 (.slice (some ⟨g', 0, none⟩) (es.length + 1) cap')) (by simp; omega)
    have HV4 := Lib.hid (HV3.out.kept (grownBy_set W3 w2.heap.size 1 (.slice (some ⟨g', 0, none⟩) (es.length + 1) cap')) hbox3.noInts)
    have HE4 := Lib.hid (HE3.out.kept (grownBy_set W3 w2.heap.size 1 (.slice (some ⟨g', 0, none⟩) (es.length + 1) cap')) hbox3.neither)
    have hX4 := hxw3.setCell (c := w2.heap.size) (by omega) 1 (.slice (some ⟨g', 0, none⟩) (es.length + 1) cap')
    generalize W3.setCell ⟨w2.heap.size, 1, none⟩ (.slice (some ⟨g', 0, none⟩) (es.length + 1) cap') = W4 at *
    have c0 := hbox4.c0
    have c1 := hbox4.c1
    have HV2 := Lib.hid (rValidate_c _ _ sizes (es ++ [(x, f)]) W4 HV4.out.ints HE4.out.ents)
    rw [← HK.out] at HV2
    clear hu0 hu1 hbc hc3 hf3
    by_cases hk0 : k = 0
    · subst hk0
      obtain rfl : S = sizes := by rw [← HS.out, addS, if_pos HKK.out]
      obtain rfl : E = es ++ [(x, f)] := by rw [← HE.out, addE, if_pos HKK.out]
      go_wp2_with fail
      refine HV2.out.mono ?_; rintro e W6 ⟨rfl, hx6⟩
      have hrb5 := hrb4.ext hx6
      have hX5 := hX4.trans hx6
      have hbox5 := hbox4.ext hx6
      have c0 := hbox5.c0
      have c1 := hbox5.c1
      have r0 := hrb5.c0
      have r1 := hrb5.c1
      have rf0 := hrb5.frozen 0
      have rf1 := hrb5.frozen 1
      have hp0 := hrb5.set0 (.slice a2 S.length c2)
      have hp1 := hp0.set1 (.slice (some ⟨g', 0, none⟩) (es.length + 1) cap')
      have q0 := hp1.c0
      have q1 := hp1.c1
      have hxx := (hX5.setCell (c := w.heap.size + 2) (by omega) 0 (.slice a2 S.length c2)).setCell (c := w.heap.size + 2) (by omega) 1 (.slice (some ⟨g', 0, none⟩) (es.length + 1) cap')
      have HFIN := Lib.hid (show RP2 S (es ++ [(x, f)]) 0 w (.returned (.tuple #[.agg #[.slice a2 S.length c2, .slice (some ⟨g', 0, none⟩) (es.length + 1) cap'], .int .i64 0])) _ from ⟨_, _, rfl, (HV4.out.ext hx6).kept (grownBy_set _ (w.heap.size + 2) 0 (.slice a2 S.length c2)) hrb5.noInts |>.kept (grownBy_set _ (w.heap.size + 2) 1 (.slice (some ⟨g', 0, none⟩) (es.length + 1) cap')) hp0.noInts, (HE4.out.ext hx6).kept (grownBy_set _ (w.heap.size + 2) 0 (.slice a2 S.length c2)) hrb5.neither |>.kept (grownBy_set _ (w.heap.size + 2) 1 (.slice (some ⟨g', 0, none⟩) (es.length + 1) cap')) hp0.neither, hxx⟩)
      clear hp0 hp1 hxx
      go_wp2_with fail
      refine bodyPost_ret (v := .tuple #[.agg #[.slice a2 S.length c2, .slice (some ⟨g', 0, none⟩) (es.length + 1) cap'], .int .i64 0]) ?_ rfl HFIN.out
      simp [results, Try.results44, go_sem, q0, q1]
    · have hkn : (k != 0) = true := by simp [hk0]
      obtain rfl : S = [] := by rw [← HS.out, addS, if_neg (by rw [HKK.out]; exact hk0)]
      obtain rfl : E = [] := by rw [← HE.out, addE, if_neg (by rw [HKK.out]; exact hk0)]
      go_wp2_with fail
      refine HV2.out.mono ?_; rintro e W6 ⟨rfl, hx6⟩
      have hrb5 := hrb4.ext hx6
      have hX5 := hX4.trans hx6
      have hbox5 := hbox4.ext hx6
      have c0 := hbox5.c0
      have c1 := hbox5.c1
      have r0 := hrb5.c0
      have r1 := hrb5.c1
      have rf0 := hrb5.frozen 0
      have rf1 := hrb5.frozen 1
      have hp0 := hrb5.set0 (.slice none 0 0)
      have hp1 := hp0.set1 (.slice none 0 0)
      have q0 := hp1.c0
      have q1 := hp1.c1
      have hxx := (hX5.setCell (c := w.heap.size + 2) (by omega) 0 (.slice none 0 0)).setCell (c := w.heap.size + 2) (by omega) 1 (.slice none 0 0)
      have HFIN := Lib.hid (show RP2 [] [] k w (.returned (.tuple #[.agg #[.slice none 0 0, .slice none 0 0], .int .i64 k])) _ from ⟨_, _, rfl, OInts.nil _ _ _, OEnts.nil _ _, hxx⟩)
      clear hp0 hp1 hxx
      go_wp2_with fail
      refine bodyPost_ret (v := .tuple #[.agg #[.slice none 0 0, .slice none 0 0], .int .i64 k]) ?_ rfl HFIN.out
      simp [results, Try.results44, go_sem, q0, q1]
  · have hk : addK sizes es x f = validI sizes es := by rw [addK, if_neg h0]
    rw [show addS sizes es x f = [] by rw [addS, hk, if_neg h0], show addE sizes es x f = [] by rw [addE, hk, if_neg h0], hk]
    generalize validI sizes es = k at *
    have hkn : (k != 0) = true := by simp [h0]
    clear hk h0
    go_enter Try.func44, Try.ntmps44
    go_wp2_with fail
    rw [← HW.out]
    refine HV.out.mono ?_; rintro e w1 ⟨rfl, hB⟩
    have hrb := hz2.ext hB
    have r0 := hrb.c0
    have r1 := hrb.c1
    have rf0 := hrb.frozen 0
    have rf1 := hrb.frozen 1
    have hp1 := (hrb.set0 (.slice none 0 0)).set1 (.slice none 0 0)
    have q0 := hp1.c0
    have q1 := hp1.c1
    have hX := hE0.trans hB
    have hxx := (hX.setCell (c := w.heap.size + 2) (by omega) 0 (.slice none 0 0)).setCell (c := w.heap.size + 2) (by omega) 1 (.slice none 0 0)
    have HFIN := Lib.hid (show RP2 [] [] k w (.returned (.tuple #[.agg #[.slice none 0 0, .slice none 0 0], .int .i64 k])) _ from ⟨_, _, rfl, OInts.nil _ _ _, OEnts.nil _ _, hxx⟩)
    clear hp1 hrb hxx
    go_wp2_with fail
    refine bodyPost_ret (v := .tuple #[.agg #[.slice none 0 0, .slice none 0 0], .int .i64 k]) ?_ rfl HFIN.out
    simp [results, Try.results44, go_sem, q0, q1]
end Go.Proofs.Ytoepnpjjmfhnnaa
