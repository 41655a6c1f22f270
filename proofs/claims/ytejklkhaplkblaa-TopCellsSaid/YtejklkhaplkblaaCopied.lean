/- Walk: copied, a paradigm in new memory. -/
import Derived.Test.YtejklkhaplkblaaCopy
import Derived.Test.YtejklkhaplkblaaMore
namespace Go.Proofs.Ytejklkhaplkblaa
open Go.RowKit Go.Shelf
set_option linter.unusedVariables false

theorem OInts.low {e : TypeId} {w : World} {B B' : Nat} {v : Value} {l : List Int} (h : OInts e w B v l) (hB : B' ≤ B) : OInts e w B' v l := by
  refine ⟨h.1, ?_⟩
  rcases h.2 with h | ⟨g, cap, cur, h1, h2, h3⟩
  · exact .inl h
  · exact .inr ⟨g, cap, cur, h1, by omega, h3⟩
/-- neither a row of ints nor of entries -/
def Neither (o : Obj) : Prop := ∀ cur, o ≠ .cells cur 3 (0, 0) ∧ o ≠ .cells cur 53 (0, 0)
theorem OEnts.kept {w w' : World} {B : Nat} {v : Value} {es : List Ent} {row : Option Nat} (h : OEnts w B v es) (hg : w.grownBy w' row) (hr : ∀ r, row = some r → ∃ o : Obj, w.heap[r]? = some o ∧ Neither o) : OEnts w' B v es := by
  obtain ⟨us, h1, h2⟩ := h
  refine ⟨us, World.ownsRow.kept h1 hg ?_, h2.kept hg (fun r h => by obtain ⟨o, ho, hn⟩ := hr r h; exact ⟨o, ho, fun cur => (hn cur).1⟩)⟩
  rcases h1.2 with ⟨rfl, _⟩ | ⟨g, cap, cur, rfl, _, hgb, _⟩
  · exact .inl rfl
  · refine .inr fun he => ?_
    simp only [Value.ownBlock] at he
    obtain ⟨o, ho, hne⟩ := hr g he.symm
    rw [hgb] at ho
    injection ho with ho
    exact (hne cur).2 ho.symm
/-- a box with a paradigm -/
def BoxP (W : World) (g : Nat) (a b : Value) : Prop := W.heap[g]? = some (.cells #[a, b] 25 (0, 0))
theorem BoxP.new (W : World) (a b : Value) {g : Nat} (hg : W.heap.size = g) : BoxP (W.alloc (.cells #[a, b] 25)) g a b := by subst hg; exact World.alloc_heap_new W _
theorem BoxP.lt {W : World} {g : Nat} {a b : Value} (h : BoxP W g a b) : g < W.heap.size := (Array.getElem?_eq_some_iff.1 h).1
theorem BoxP.ext {W W' : World} {g : Nat} {a b : Value} (h : BoxP W g a b) (hx : Ext W W') : BoxP W' g a b := (hx.block g h.lt).trans h
theorem BoxP.kept {W W' : World} {g : Nat} {a b : Value} {row : Option Nat} (h : BoxP W g a b) (hg : W.grownBy W' row) (hr : row ≠ some g) : BoxP W' g a b := (hg.block g h.lt (fun e => hr e.symm)).trans h
theorem BoxP.c0 {W : World} {g : Nat} {a b : Value} (h : BoxP W g a b) : W.cell? ⟨g, 0, none⟩ = some a := by unfold BoxP at h; simp [World.cell?, h]
theorem BoxP.c1 {W : World} {g : Nat} {a b : Value} (h : BoxP W g a b) : W.cell? ⟨g, 1, none⟩ = some b := by unfold BoxP at h; simp [World.cell?, h]
theorem BoxP.frozen {W : World} {g : Nat} {a b : Value} (h : BoxP W g a b) (i : Nat) : W.frozen? ⟨g, i, none⟩ = false := by unfold BoxP at h; simp [World.frozen?, h]
theorem BoxP.set1 {W : World} {g : Nat} {a b : Value} (h : BoxP W g a b) (x : Value) : BoxP (W.setCell ⟨g, 1, none⟩ x) g a x := by
  unfold BoxP at *
  simp [World.setCell, Array.getElem?_modify, h]
theorem BoxP.neither {W : World} {g : Nat} {a b : Value} (h : BoxP W g a b) : ∀ r, some g = some r → ∃ o : Obj, W.heap[r]? = some o ∧ Neither o := fun r hr => by
  injection hr with hr; subst hr
  exact ⟨_, h, fun cur => ⟨fun e => by injection e with _ e; exact absurd e (by decide), fun e => by injection e with _ e; exact absurd e (by decide)⟩⟩

theorem BoxP.set0 {W : World} {g : Nat} {a b : Value} (h : BoxP W g a b) (x : Value) : BoxP (W.setCell ⟨g, 0, none⟩ x) g x b := by
  unfold BoxP at *
  simp [World.setCell, Array.getElem?_modify, h]
theorem BoxP.noInts {W : World} {g : Nat} {a b : Value} (h : BoxP W g a b) : ∀ r, some g = some r → ∃ o : Obj, W.heap[r]? = some o ∧ ∀ cur, o ≠ .cells cur 3 (0, 0) := fun r hr => by
  obtain ⟨o, h1, h2⟩ := h.neither r hr
  exact ⟨o, h1, fun cur => (h2 cur).1⟩
/-- a paradigm in memory of the call's own comes back -/
def RCopy (sizes : List Int) (es : List Ent) (w : World) (e : Ending) (w' : World) : Prop := ∃ sv ev, e = .returned (.agg #[sv, ev]) ∧ OInts 3 w' w.heap.size sv sizes ∧ OEnts w' w.heap.size ev es ∧ Ext w w'
theorem take_ent (es : List Ent) {k : Nat} (hk : k < es.length) : es.take (k + 1) = es.take k ++ [((ent es k).1, (ent es k).2)] := by
  rw [List.take_add_one, ent, List.getElem?_eq_getElem hk]; rfl

set_option maxHeartbeats 2000000 in
set_option maxRecDepth 100000 in
theorem copied_c (sv ev : Value) (sizes : List Int) (es : List Ent) (w : World) (hp : Par w sv ev sizes es) (hn : es.length ≤ 1000) (hs : sizes.length ≤ 1000) (hsp : ∀ i, i < es.length → (ent es i).1.length ≤ 1000) :
    Calls Try.prog 47 #[.agg #[sv, ev]] w (RCopy sizes es w) := by
  have HP := Lib.hid hp; have HSP := Lib.hid hsp
  obtain ⟨ae, ce, rfl, hle, hme, He⟩ := hp.e.open_
  obtain ⟨az, cz, rfl, hlz, hmz, Hz⟩ := hp.s.open_
  clear hp hsp
  have HC := Lib.hid (fun W v (l : List Int) (h : Ints W v l) (h2 : l.length ≤ 1000) => cloneInts_c v l W h (by omega))
  have hb1 := (Ext.alloc (w.alloc (.cells #[.slice az sizes.length cz, .slice ae es.length ce] 25)) (.cells #[.slice none 0 0, .slice none 0 0] 25)).keep (alloc_cell w #[.slice az sizes.length cz, .slice ae es.length ce] 25 (i := 1) rfl)
  have hE0 : Ext w ((w.alloc (.cells #[.slice az sizes.length cz, .slice ae es.length ce] 25)).alloc (.cells #[.slice none 0 0, .slice none 0 0] 25)) := (Ext.alloc _ _).trans (Ext.alloc _ _)
  have hz2 := Lib.hid (BoxP.new (w.alloc (.cells #[.slice az sizes.length cz, .slice ae es.length ce] 25)) (.slice none 0 0) (.slice none 0 0) (g := w.heap.size + 1) (by simp))
  go_enter Try.func47, Try.ntmps47
  go_wp2_with fail
  refine (HC.out _ _ sizes ((HP.out.s.ext (Ext.alloc _ _)).ext (Ext.alloc _ _)) hs).mono ?_
  rintro e w1 ⟨v, rfl, hov, hx⟩
  obtain ⟨av, cv, rfl, _⟩ := hov.ints.open_
  have hX1 := hE0.trans hx
  have hA1 := Ext.alloc w1 (.cells #[.slice av sizes.length cv, .slice none 0 0] 25)
  have hb1 := hA1.keep (hx.keep hb1)
  have hres := Lib.hid ((hz2.out.ext hx).ext hA1)
  have hbox := BoxP.new w1 (.slice av sizes.length cv) (.slice none 0 0) rfl
  have hsz1 : w.heap.size ≤ w1.heap.size := hX1.size
  have hsz2 : w.heap.size + 2 ≤ w1.heap.size := by have := hx.size; simpa using this
  have HOV := Lib.hid (show OInts 3 (w1.alloc (.cells #[.slice av sizes.length cv, .slice none 0 0] 25)) w.heap.size (.slice av sizes.length cv) sizes from (OInts.low hov (by have := hE0.size; have := hx.size; simp at *; omega)).alloc _)
  have HX0 := Lib.hid (hX1.trans hA1)
  clear hov hx hX1 hA1 hE0 hz2
  go_wp2_with fail
  go_loopg [13] es.length (fun m i wr => ∃ (k : Nat) (vo : Value), k ≤ es.length ∧ es.length ≤ k + m ∧ i = .int .i64 k ∧ Ext w wr ∧ BoxP wr w1.heap.size (.slice av sizes.length cv) vo ∧ BoxP wr (w.heap.size + 1) (.slice none 0 0) (.slice none 0 0) ∧ OInts 3 wr w.heap.size (.slice av sizes.length cv) sizes ∧ OEnts wr w.heap.size vo (es.take k))
  case atStart => exact ⟨0, .slice none 0 0, by omega, by omega, rfl, HX0.out, hbox, hres.out, HOV.out, OEnts.nil _ _⟩
  case round =>
    clear hbox
    obtain ⟨k, vo, hk, hk2, rfl, hxr, hbox, hrb, hov, hoe⟩ := hrel
    have HRB := Lib.hid hrb; have HOVR := Lib.hid hov; have HOE := Lib.hid hoe
    clear hrb hov hoe
    by_cases hlt : k < es.length
    · obtain ⟨ba, oa, rfl, u, hc1, hi1, hf1⟩ := He.out k hlt
      replace hc1 := hxr.keep hc1
      replace hf1 := hxr.keep hf1
      have HI := Lib.hid (hi1.ext hxr)
      obtain ⟨au, cu, rfl, _⟩ := hi1.open_
      have HT := Lib.hid (take_ent es hlt)
      have hlx := HSP.out k hlt
      have hlk : (es.take k).length = k := by simp; omega
      have HLK := Lib.hid hlk; clear hlk hi1
      generalize (ent es k).1 = x at *
      generalize (ent es k).2 = f at *
      have hA5 := Ext.alloc wr (.cells #[.slice au x.length cu, .int .i64 f] 53)
      have hu0 := alloc_cell wr #[.slice au x.length cu, .int .i64 f] 53 (i := 0) rfl
      have hu1 := alloc_cell wr #[.slice au x.length cu, .int .i64 f] 53 (i := 1) rfl
      have hb5 := hbox.ext hA5
      have hbc := hb5.c1
      have hblt := hbox.lt
      go_wp2_with fail
      refine wp_region_play (wr.heap.size + 1) [9, 11] [.calc 0, .look 1, .calc 2, .look 3, .calc 5, .look 6, .go 4, .calc 7, .go 8, .go 9, .calc 10, .go 11] (by kernel_rfl) (by kernel_rfl) (by intro c a d v w h; cases d <;> exact h) ?_
      generalize hw5 : wr.alloc (.cells #[.slice au x.length cu, .int .i64 f] 53) = W5 at *
      have hs5 : W5.heap.size = wr.heap.size + 1 := by rw [← hw5]; simp
      have hd : Ext W5 { W5 with drawn := W5.drawn + 1 } := drawn_ext W5
      have hs1 : ({ W5 with drawn := W5.drawn + 1 } : World).heap.size = wr.heap.size + 1 := hs5
      generalize { W5 with drawn := W5.drawn + 1 } = W1 at *
      have hbc := hd.keep hbc
      have hu0 := hd.keep hu0
      have hu1 := hd.keep hu1
      have q0 := fun s : Since (wr.heap.size + 1) W1 => s.keep (by show w1.heap.size < _; omega) hbc
      have q1 := fun s : Since (wr.heap.size + 1) W1 => s.keep (by show wr.heap.size < _; omega) hu0
      have q2 := fun s : Since (wr.heap.size + 1) W1 => s.keep (by show wr.heap.size < _; omega) hu1
      have hX5 := hA5.trans hd
      clear hw5 hs5 hd hA5 hc1 hf1
      (refine wpPlay_calc rfl (fun K hK => ?_); go_simp; first | (refine hK _ ?_; clear hK K) | (refine ⟨_, fun _ => rfl, hK _ ?_⟩; clear hK K))
      (refine wpPlay_look rfl (fun K hK => ?_); go_simp; first | (refine hK _ ?_; clear hK K) | (refine ⟨_, fun _ => rfl, hK _ ?_⟩; clear hK K))
      (refine wpPlay_calc rfl (fun K hK => ?_); go_simp; first | (refine hK _ ?_; clear hK K) | (refine ⟨_, fun _ => rfl, hK _ ?_⟩; clear hK K))
      (refine wpPlay_look rfl (fun K hK => ?_); go_simp; first | (refine hK _ ?_; clear hK K) | (refine ⟨_, fun _ => rfl, hK _ ?_⟩; clear hK K))
      (refine wpPlay_calc rfl (fun K hK => ?_); go_simp; first | (refine hK _ ?_; clear hK K) | (refine ⟨_, fun _ => rfl, hK _ ?_⟩; clear hK K))
      (refine wpPlay_look rfl (fun K hK => ?_); go_simp; first | (refine hK _ ?_; clear hK K) | (refine ⟨_, fun _ => rfl, hK _ ?_⟩; clear hK K))
      clear q0 q1 q2
      refine wpPlay_go rfl rfl (fun K hK => ?_)
      go_wp2_with fail
      refine (HC.out _ _ x (HI.out.ext hX5) hlx).mono ?_; rintro e W2 ⟨v2, rfl, ho2, hx2⟩
      obtain ⟨a2, c2, rfl, _⟩ := ho2.ints.open_
      have HO2 := Lib.hid (OInts.low ho2 (show w.heap.size ≤ W1.heap.size by have := hxr.size; omega))
      clear ho2
      go_wp2_with fail
      refine ⟨.inr (hx2.mono (by omega)), ?_⟩
      (refine wpPlay_calc rfl (fun K hK => ?_); go_simp; first | (refine hK _ ?_; clear hK K) | (refine ⟨_, fun _ => rfl, hK _ ?_⟩; clear hK K))
      refine wpPlay_go rfl rfl (fun K hK => ?_)
      go_wp2_with fail
      refine ⟨.inr ((Ext.alloc _ _).mono (by have := hx2.size; omega)), ?_⟩
      refine wpPlay_go rfl rfl (fun K hK => ?_)
      have hX2 := hX5.trans hx2
      refine wpList_appendEnt rfl _ _ rfl rfl rfl (HOE.out.ext hX2) rfl HO2.out (by rw [HLK.out]; omega) (by have := hxr.size; have := hX2.size; omega) ?_
      intro g' cap' W3 hoe3 hgr3 hrow3
      have hX3 := hX2.trans (Ext.alloc W2 (.cells #[.slice a2 x.length c2, .int .i64 f] 53))
      go_wp2_with fail
      refine ⟨.inl (by decide), ?_⟩
      (refine wpPlay_calc rfl (fun K hK => ?_); go_simp; first | (refine hK _ ?_; clear hK K) | (refine ⟨_, fun _ => rfl, hK _ ?_⟩; clear hK K))
      have hne : ∀ {g a b}, BoxP wr g a b → (vo.ownBlock ≠ some g) := fun {g a b} h he => by
        obtain ⟨_, cur, h1⟩ := hrow3 g he
        have h2 := h.ext hX2
        rw [BoxP, h1] at h2
        injection h2 with h2; injection h2 with _ h2; exact absurd h2 (by decide)
      have hbox3 := (hbox.ext hX3).kept hgr3 (hne hbox)
      have hc3 := hbox3.c1
      have hf3 := hbox3.frozen 1
      have HR3 := Lib.hid ((HRB.out.ext hX3).kept hgr3 (hne HRB.out))
      have HV3 := Lib.hid ((HOVR.out.ext hX3).kept hgr3 (fun r hr => by
        obtain ⟨_, cur, h1⟩ := hrow3 r hr
        exact ⟨_, (Ext.alloc W2 _).block r (Array.getElem?_eq_some_iff.1 h1).1 |>.trans h1, fun cur' he => by injection he with _ he; exact absurd he (by decide)⟩))
      have HE3 := Lib.hid hoe3
      have hxw3 : Ext w W3 := grown_below (hxr.trans hX3) hgr3 (fun r hr => (hrow3 r hr).1)
      have HB3 := Lib.hid hbox3
      clear hoe3 hgr3 hrow3 hne hbox3
      refine wpPlay_go rfl rfl (fun K hK => ?_)
      go_wp2_with fail
      refine ⟨.inl (by decide), ?_⟩
      refine wpPlay_nil ?_
      go_wp2_with fail
      go_roundg (gk-1)
      case measure => omega
      case rel =>
        refine ⟨k+1, _, by omega, by omega, by go_num, hxw3.setCell hsz1 _ _, HB3.out.set1 _, HR3.out.kept (grownBy_set _ _ _ _) (by simp; omega), HV3.out.kept (grownBy_set _ _ _ _) HB3.out.noInts, ?_⟩
        · rw [HT.out]
          have := HE3.out.kept (grownBy_set W3 w1.heap.size 1 (.slice (some ⟨g', 0, none⟩) ((es.take k).length + 1) cap')) HB3.out.neither
          rw [HLK.out] at this
          exact this
    · obtain rfl : k = es.length := by omega
      have hoe := HOE.out
      rw [List.take_length] at hoe
      obtain ⟨ao, co, rfl, _⟩ := hoe.ents.open_
      have h0 := hbox.c0
      have h1 := hbox.c1
      have r0 := HRB.out.c0
      have r1 := HRB.out.c1
      have rf0 := HRB.out.frozen 0
      have rf1 := HRB.out.frozen 1
      have HOE2 := Lib.hid hoe
      clear hoe
      have hp0 := HRB.out.set0 (.slice av sizes.length cv)
      have hp1 := hp0.set1 (.slice ao es.length co)
      have hv := (HOVR.out.kept (grownBy_set wr (w.heap.size + 1) 0 (.slice av sizes.length cv)) HRB.out.noInts).kept (grownBy_set _ (w.heap.size + 1) 1 (.slice ao es.length co)) hp0.noInts
      have he := (HOE2.out.kept (grownBy_set wr (w.heap.size + 1) 0 (.slice av sizes.length cv)) HRB.out.neither).kept (grownBy_set _ (w.heap.size + 1) 1 (.slice ao es.length co)) hp0.neither
      have hxx := ((hxr.setCell (c := w.heap.size + 1) (by omega) 0 (.slice av sizes.length cv)).setCell (c := w.heap.size + 1) (by omega) 1 (.slice ao es.length co))
      have q0 := hp1.c0
      have q1 := hp1.c1
      have HFIN := Lib.hid (show RCopy sizes es w (.returned (.agg #[.slice av sizes.length cv, .slice ao es.length co])) _ from ⟨_, _, rfl, hv, he, hxx⟩)
      clear hp0 hp1 hv he hxx
      go_wp2_with fail
      refine bodyPost_ret (v := .agg #[.slice av sizes.length cv, .slice ao es.length co]) ?_ rfl HFIN.out
      simp [results, Try.results47, go_sem, q0, q1]
end Go.Proofs.Ytejklkhaplkblaa
