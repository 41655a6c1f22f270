/- Walk: the reference's Copy, a paradigm in new memory. -/
import Derived.Test.YtoepnpjjmfhnnaaCopied
namespace Go.Proofs.Ytoepnpjjmfhnnaa
open Go.RowKit Go.Shelf
set_option linter.unusedVariables false

set_option maxHeartbeats 2000000 in
set_option maxRecDepth 100000 in
theorem rCopy_c (sv ev : Value) (sizes : List Int) (es : List Ent) (w : World) (hp : Par w sv ev sizes es) (hn : es.length ≤ 1000) (hs : sizes.length ≤ 1000) (hsp : ∀ i, i < es.length → (ent es i).1.length ≤ 1000) :
    Calls Try.prog 54 #[.agg #[sv, ev]] w (RCopy sizes es w) := by
  have HP := Lib.hid hp; have HSP := Lib.hid hsp
  obtain ⟨ae, ce, rfl, hle, hme, He⟩ := hp.e.open_
  obtain ⟨az, cz, rfl, hlz, hmz, Hz⟩ := hp.s.open_
  clear hp hsp
  obtain ⟨wA, hwA⟩ : ∃ wA, wA = (w.alloc (.cells #[.slice az sizes.length cz, .slice ae es.length ce] 25)).alloc (.cells #[.slice none 0 0, .slice none 0 0] 25) := ⟨_, rfl⟩
  have hE0 : Ext w wA := by rw [hwA]; exact (Ext.alloc _ _).trans (Ext.alloc _ _)
  have hz1 : BoxP wA w.heap.size (.slice az sizes.length cz) (.slice ae es.length ce) := by rw [hwA]; exact (BoxP.new w _ _ rfl).ext (Ext.alloc _ _)
  have hz2 : BoxP wA (w.heap.size + 1) (.slice none 0 0) (.slice none 0 0) := by rw [hwA]; exact BoxP.new _ _ _ (by simp)
  have hszA : wA.heap.size = w.heap.size + 2 := by rw [hwA]; simp
  have hb0 := hz1.c0
  have hb0 := (Ext.alloc wA (.cells #[] 3)).keep hb0
  have hown : (wA.alloc (.cells #[] 3)).ownsRow (w.heap.size + 2) 3 1 (.slice (some ⟨w.heap.size + 1 + 1, 0, none⟩) 0 0) 0 [] := by
    have := World.ownsRow_lit (size := 1) (e := 3) (base := w.heap.size + 2) wA #[] 0 (by omega) (by unfold maxLen; omega) rfl
    rwa [show wA.heap.size = w.heap.size + 1 + 1 by omega] at this
  rw [hwA] at hown hb0
  have HW := Lib.hid hwA; clear hwA
  go_enter Try.func54, Try.ntmps54
  go_wp2_with (at_builtin; refine wpList_appendAll elInts rfl _ _ rfl rfl rfl hown (((HP.out.s.ext (Ext.alloc _ _)).ext (Ext.alloc _ _)).ext (Ext.alloc _ _)).raw (ints_one sizes) (by simp) (by omega) (by omega) ?_; intro v w1 hov hb2; replace hov : OInts 3 w1 (w.heap.size + 2) v sizes := (by simpa [OInts] using hov); obtain ⟨av, cv, rfl, _⟩ := hov.ints.open_)
  rw [← HW.out] at hb2
  have hxA : Ext wA w1 := (Ext.alloc wA (.cells #[] 3)).upto hb2 (by omega)
  have hX1 := hE0.trans hxA
  have hA1 := Ext.alloc w1 (.cells #[.slice av sizes.length cv, .slice none 0 0] 25)
  have hpb := Lib.hid ((hz1.ext hxA).ext hA1)
  have hres := Lib.hid ((hz2.ext hxA).ext hA1)
  have hbox := BoxP.new w1 (.slice av sizes.length cv) (.slice none 0 0) rfl
  have hsz2 : w.heap.size + 2 ≤ w1.heap.size := by have := hxA.size; omega
  have HOV := Lib.hid (show OInts 3 (w1.alloc (.cells #[.slice av sizes.length cv, .slice none 0 0] 25)) w.heap.size (.slice av sizes.length cv) sizes from (OInts.low hov (by omega)).alloc _)
  have HX0 := Lib.hid (hX1.trans hA1)
  clear hov hb2 hX1 hA1 hE0 hz2 hz1 hb0 hown hxA
  go_wp2_with fail
  go_loopg [4] es.length (fun m i wr => ∃ (k : Nat) (vo : Value), k ≤ es.length ∧ es.length ≤ k + m ∧ i = .int .i64 k ∧ Ext w wr ∧ BoxP wr w1.heap.size (.slice av sizes.length cv) vo ∧ BoxP wr w.heap.size (.slice az sizes.length cz) (.slice ae es.length ce) ∧ BoxP wr (w.heap.size + 1) (.slice none 0 0) (.slice none 0 0) ∧ OInts 3 wr w.heap.size (.slice av sizes.length cv) sizes ∧ OEnts wr w.heap.size vo (es.take k))
  case atStart => exact ⟨0, .slice none 0 0, by omega, by omega, rfl, HX0.out, hbox, hpb.out, hres.out, HOV.out, OEnts.nil _ _⟩
  case round =>
    clear hbox
    obtain ⟨k, vo, hk, hk2, rfl, hxr, hbox, hpbr, hrb, hov, hoe⟩ := hrel
    have HRB := Lib.hid hrb; have HOVR := Lib.hid hov; have HOE := Lib.hid hoe; have HPB := Lib.hid hpbr
    have hp1 := hpbr.c1
    clear hrb hov hoe hpbr
    by_cases hlt : k < es.length
    · obtain ⟨ba, oa, rfl, u, hc1, hi1, hf1⟩ := He.out k hlt
      have hblk := cell_lt hc1
      replace hc1 := hxr.keep hc1
      replace hf1 := hxr.keep hf1
      have HI := Lib.hid (hi1.ext hxr)
      obtain ⟨au, cu, rfl, _⟩ := hi1.open_
      have HT := Lib.hid (take_ent es hlt)
      have hlx := HSP.out k hlt
      have HLK := Lib.hid (show (es.take k).length = k by simp; omega); clear hi1
      generalize (ent es k).1 = x at *
      generalize (ent es k).2 = f at *
      have hbc := hbox.c1
      have hblt := hbox.lt
      have hwr := hxr.size
      go_wp2_with fail
      refine wp_region_play wr.heap.size [18, 20] [.calc 0, .look 1, .calc 3, .look 4, .calc 5, .calc 6, .calc 7, .look 8, .calc 10, .look 11, .calc 12, .calc 13, .calc 14, .look 15, .go 2, .go 9, .calc 16, .go 17, .go 18, .calc 19, .go 20] (by kernel_rfl) (by kernel_rfl) (by intro c a d v w h; cases d <;> exact h) ?_
      have hd : Ext wr { wr with drawn := wr.drawn + 1 } := drawn_ext wr
      have hs1 : ({ wr with drawn := wr.drawn + 1 } : World).heap.size = wr.heap.size := rfl
      generalize { wr with drawn := wr.drawn + 1 } = W1 at *
      have hbc := hd.keep hbc
      have hp1 := hd.keep hp1
      have hu0 := hd.keep hc1
      have hu1 := hd.keep hf1
      have q0 := fun s : Since wr.heap.size W1 => s.keep (by show w1.heap.size < _; omega) hbc
      have q1 := fun s : Since wr.heap.size W1 => s.keep (by show w.heap.size < _; omega) hp1
      have q2 := fun s : Since wr.heap.size W1 => s.keep (by have h : ba < w.heap.size := hblk; show ba < _; omega) hu0
      have q3 := fun s : Since wr.heap.size W1 => s.keep (by have h : ba < w.heap.size := hblk; show ba < _; omega) hu1
      have hown0 : (W1.alloc (.cells #[] 3)).ownsRow wr.heap.size 3 1 (.slice (some ⟨wr.heap.size, 0, none⟩) 0 0) 0 [] := by
        have := World.ownsRow_lit (size := 1) (e := 3) (base := wr.heap.size) W1 #[] 0 (by omega) (by unfold maxLen; omega) rfl
        rwa [hs1] at this
      have HOWN0 := Lib.hid hown0; clear hown0 hc1 hf1
      (refine wpPlay_calc rfl (fun K hK => ?_); go_simp; first | (refine hK _ ?_; clear hK K) | (refine ⟨_, fun _ => rfl, hK _ ?_⟩; clear hK K))
      (refine wpPlay_look rfl (fun K hK => ?_); go_simp; first | (refine hK _ ?_; clear hK K) | (refine ⟨_, fun _ => rfl, hK _ ?_⟩; clear hK K))
      (refine wpPlay_calc rfl (fun K hK => ?_); go_simp; first | (refine hK _ ?_; clear hK K) | (refine ⟨_, fun _ => rfl, hK _ ?_⟩; clear hK K))
      (refine wpPlay_look rfl (fun K hK => ?_); go_simp; first | (refine hK _ ?_; clear hK K) | (refine ⟨_, fun _ => rfl, hK _ ?_⟩; clear hK K))
      (refine wpPlay_calc rfl (fun K hK => ?_); go_simp; first | (refine hK _ ?_; clear hK K) | (refine ⟨_, fun _ => rfl, hK _ ?_⟩; clear hK K))
      (refine wpPlay_calc rfl (fun K hK => ?_); go_simp; first | (refine hK _ ?_; clear hK K) | (refine ⟨_, fun _ => rfl, hK _ ?_⟩; clear hK K))
      (refine wpPlay_calc rfl (fun K hK => ?_); go_simp; first | (refine hK _ ?_; clear hK K) | (refine ⟨_, fun _ => rfl, hK _ ?_⟩; clear hK K))
      (refine wpPlay_look rfl (fun K hK => ?_); go_simp; first | (refine hK _ ?_; clear hK K) | (refine ⟨_, fun _ => rfl, hK _ ?_⟩; clear hK K))
      (refine wpPlay_calc rfl (fun K hK => ?_); go_simp; first | (refine hK _ ?_; clear hK K) | (refine ⟨_, fun _ => rfl, hK _ ?_⟩; clear hK K))
      (refine wpPlay_look rfl (fun K hK => ?_); go_simp; first | (refine hK _ ?_; clear hK K) | (refine ⟨_, fun _ => rfl, hK _ ?_⟩; clear hK K))
      (refine wpPlay_calc rfl (fun K hK => ?_); go_simp; first | (refine hK _ ?_; clear hK K) | (refine ⟨_, fun _ => rfl, hK _ ?_⟩; clear hK K))
      (refine wpPlay_calc rfl (fun K hK => ?_); go_simp; first | (refine hK _ ?_; clear hK K) | (refine ⟨_, fun _ => rfl, hK _ ?_⟩; clear hK K))
      (refine wpPlay_calc rfl (fun K hK => ?_); go_simp; first | (refine hK _ ?_; clear hK K) | (refine ⟨_, fun _ => rfl, hK _ ?_⟩; clear hK K))
      (refine wpPlay_look rfl (fun K hK => ?_); go_simp; first | (refine hK _ ?_; clear hK K) | (refine ⟨_, fun _ => rfl, hK _ ?_⟩; clear hK K))
      clear q0 q1 q2 q3
      refine wpPlay_go rfl rfl (fun K hK => ?_)
      go_wp2_with fail
      refine ⟨.inr ((Ext.alloc _ _).mono (by omega)), ?_⟩
      refine wpPlay_go rfl rfl (fun K hK => ?_)
      refine wpList_appendAll (n := 0) (m := x.length) (B := wr.heap.size) elInts rfl _ _ rfl rfl rfl HOWN0.out ((HI.out.ext hd).ext (Ext.alloc _ _)).raw (ints_one x) (by simp; omega) (by omega) (by omega) ?_
      intro v2 W2 ho2 hb2
      replace ho2 : OInts 3 W2 wr.heap.size v2 x := (by simpa [OInts] using ho2)
      obtain ⟨a2, c2, rfl, _⟩ := ho2.ints.open_
      have HO2 := Lib.hid (OInts.low ho2 hwr)
      have hx2 : Ext W1 W2 := (Ext.alloc _ _).upto hb2 (by omega)
      clear ho2
      go_wp2_with fail
      refine ⟨.inr hb2, ?_⟩
      (refine wpPlay_calc rfl (fun K hK => ?_); go_simp; first | (refine hK _ ?_; clear hK K) | (refine ⟨_, fun _ => rfl, hK _ ?_⟩; clear hK K))
      refine wpPlay_go rfl rfl (fun K hK => ?_)
      go_wp2_with fail
      refine ⟨.inr ((Ext.alloc _ _).mono (by have := hx2.size; omega)), ?_⟩
      refine wpPlay_go rfl rfl (fun K hK => ?_)
      have hX2 := hd.trans hx2
      refine wpList_appendEnt rfl _ _ rfl rfl rfl (HOE.out.ext hX2) rfl HO2.out (by rw [HLK.out]; omega) (by have := hX2.size; omega) ?_
      intro g' cap' W3 hoe3 hgr3 hrow3
      have hX3 := hX2.trans (Ext.alloc W2 (.cells #[.slice a2 x.length c2, .int .i64 f] 54))
      go_wp2_with fail
      refine ⟨.inl (by decide), ?_⟩
      (refine wpPlay_calc rfl (fun K hK => ?_); go_simp; first | (refine hK _ ?_; clear hK K) | (refine ⟨_, fun _ => rfl, hK _ ?_⟩; clear hK K))
      have hne : ∀ {g a b}, BoxP wr g a b → (vo.ownBlock ≠ some g) := fun {g a b} h he => by
        obtain ⟨_, cur, h1⟩ := hrow3 g he
        have h2 := h.ext hX2
        rw [BoxP, h1] at h2
        injection h2 with h2; injection h2 with _ h2; exact absurd h2 (by decide)
      have hbox3 := (hbox.ext hX3).kept hgr3 (hne hbox)
      have hc3 := hbox3.c1
      have hf3 := hbox3.frozen 1
      have HR3 := Lib.hid ((HRB.out.ext hX3).kept hgr3 (hne HRB.out))
      have HP3 := Lib.hid ((HPB.out.ext hX3).kept hgr3 (hne HPB.out))
      have HV3 := Lib.hid ((HOVR.out.ext hX3).kept hgr3 (fun r hr => by
        obtain ⟨_, cur, h1⟩ := hrow3 r hr
        exact ⟨_, (Ext.alloc W2 _).block r (Array.getElem?_eq_some_iff.1 h1).1 |>.trans h1, fun cur' he => by injection he with _ he; exact absurd he (by decide)⟩))
      have HE3 := Lib.hid hoe3
      have hxw3 : Ext w W3 := grown_below (hxr.trans hX3) hgr3 (fun r hr => (hrow3 r hr).1)
      have HB3 := Lib.hid hbox3
      clear hoe3 hgr3 hrow3 hne hbox3
      refine wpPlay_go rfl rfl (fun K hK => ?_)
      go_wp2_with fail
      refine ⟨.inl (by decide), ?_⟩
      refine wpPlay_nil ?_
      go_wp2_with fail
      go_roundg (gk-1)
      case measure => omega
      case rel =>
        refine ⟨k+1, _, by omega, by omega, by go_num, hxw3.setCell (by omega) _ _, HB3.out.set1 _, HP3.out.kept (grownBy_set _ _ _ _) (by simp; omega), HR3.out.kept (grownBy_set _ _ _ _) (by simp; omega), HV3.out.kept (grownBy_set _ _ _ _) HB3.out.noInts, ?_⟩
        rw [HT.out]
        have := HE3.out.kept (grownBy_set W3 w1.heap.size 1 (.slice (some ⟨g', 0, none⟩) ((es.take k).length + 1) cap')) HB3.out.neither
        rw [HLK.out] at this
        exact this
    · obtain rfl : k = es.length := by omega
      have hoe := HOE.out
      rw [List.take_length] at hoe
      obtain ⟨ao, co, rfl, _⟩ := hoe.ents.open_
      have h0 := hbox.c0
      have h1 := hbox.c1
      have r0 := HRB.out.c0
      have r1 := HRB.out.c1
      have rf0 := HRB.out.frozen 0
      have rf1 := HRB.out.frozen 1
      have HOE2 := Lib.hid hoe
      clear hoe
      have hp0 := HRB.out.set0 (.slice av sizes.length cv)
      have hp1 := hp0.set1 (.slice ao es.length co)
      have hv := (HOVR.out.kept (grownBy_set wr (w.heap.size + 1) 0 (.slice av sizes.length cv)) HRB.out.noInts).kept (grownBy_set _ (w.heap.size + 1) 1 (.slice ao es.length co)) hp0.noInts
      have he := (HOE2.out.kept (grownBy_set wr (w.heap.size + 1) 0 (.slice av sizes.length cv)) HRB.out.neither).kept (grownBy_set _ (w.heap.size + 1) 1 (.slice ao es.length co)) hp0.neither
      have hxx := ((hxr.setCell (c := w.heap.size + 1) (by omega) 0 (.slice av sizes.length cv)).setCell (c := w.heap.size + 1) (by omega) 1 (.slice ao es.length co))
      have q0 := hp1.c0
      have q1 := hp1.c1
      have HFIN := Lib.hid (show RCopy sizes es w (.returned (.agg #[.slice av sizes.length cv, .slice ao es.length co])) _ from ⟨_, _, rfl, hv, he, hxx⟩)
      have hpp := HPB.out.c1
      clear hp0 hp1 hv he hxx
      go_wp2_with fail
      refine bodyPost_ret (v := .agg #[.slice av sizes.length cv, .slice ao es.length co]) ?_ rfl HFIN.out
      simp [results, Try.results54, go_sem, q0, q1]
end Go.Proofs.Ytoepnpjjmfhnnaa
