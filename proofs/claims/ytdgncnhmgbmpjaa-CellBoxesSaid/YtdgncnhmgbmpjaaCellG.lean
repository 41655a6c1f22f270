/- Walks: the forms of all cells. -/
import Derived.Test.YtdgncnhmgbmpjaaCellF
import Derived.Test.YtdgncnhmgbmpjaaOrd
import Derived.RangeFuncBox
namespace Go.Proofs.Ytdgncnhmgbmpjaa
open Go.RowKit Go.Shelf
set_option linter.unusedVariables false
attribute [local go_sem] Oper.semAt_some

set_option maxHeartbeats 400000 in
theorem cellsF_c (pv : Value) (sv ev : Value) (hp : pv = .agg #[sv, ev]) (w : World) :
    Calls Try.prog 36 #[pv] w fun e w' => e = .returned (.func (.func 52) #[] #[.pointer (some ⟨w.heap.size, 0, none⟩)]) ∧ w.alloc (.cells #[sv, ev] 25) = w' := by
  subst hp
  go_enter Try.func36, Try.ntmps36
  go_wp2_with fail
  go_ret
  exact ⟨rfl, rfl⟩

theorem alloc_cell (W : World) (cs : Array Value) (t : TypeId) {i : Nat} {v : Value} (h : cs[i]? = some v) : (W.alloc (.cells cs t)).cell? ⟨W.heap.size, i, none⟩ = some v := by
  unfold World.cell?
  dsimp only
  rw [World.alloc_heap_new W (.cells cs t)]
  simp [h]
theorem cell_kept_row {W W' : World} {a : Addr} {v : Value} {row : Option Nat} (h : W.cell? a = some v) (hg : W.grownBy W' row) (hr : ∀ r, row = some r → ∃ o : Obj, W.heap[r]? = some o ∧ o.isCells = false) : W'.cell? a = some v :=
  cell_kept h hg hr
theorem Ints.kept {W W' : World} {v : Value} {l : List Int} {row : Option Nat} (h : Ints W v l) (hg : W.grownBy W' row) (hr : ∀ r, row = some r → ∃ o : Obj, W.heap[r]? = some o ∧ o.isCells = false) : Ints W' v l :=
  h.mono fun _ _ _ _ hc => cell_kept_row hc hg hr
/-- what the collecting loop knows: the box holds what has been collected, in rows of the call's own, other than block c -/
def Coll (e tb : TypeId) (wS : World) (Bo : Nat) (us : List Value) (c : Nat) (W : World) : Prop :=
  wS.grownBy W (some Bo) ∧ ∃ v, Boxed W Bo tb v ∧ W.ownsRow wS.heap.size e 1 v us.length us ∧ v.ownBlock ≠ some c

theorem Coll.kept {e tb : TypeId} {wS W W' : World} {Bo c : Nat} {us : List Value} (h : Coll e tb wS Bo us c W) (hBo : Bo < wS.heap.size) {row : Option Nat} (hg : W.grownBy W' row)
    (hr : ∀ r, row = some r → wS.heap.size ≤ r ∧ (r = c ∨ ∃ o : Obj, W.heap[r]? = some o ∧ o.isCells = false)) : Coll e tb wS Bo us c W' := by
  obtain ⟨h1, v, hb, ho, hc⟩ := h
  refine ⟨grownBy_trans_new h1 hg (fun x hx => .inl (hr x hx).1), v, hb.kept hg (fun he => by have := (hr Bo he.symm).1; omega), ho.kept hg ?_, hc⟩
  rcases ho.2 with ⟨rfl, _⟩ | ⟨g, cap, cur, rfl, _, hgb, _⟩
  · exact .inl rfl
  · refine .inr fun he => ?_
    simp only [Value.ownBlock] at he hc
    rcases (hr g he.symm).2 with h | ⟨o, h1, h2⟩
    · exact hc (by rw [h])
    · rw [hgb] at h1; cases h1; cases h2

theorem coll_step {e tb : TypeId} {wS W Wa w' : World} {Bo c g' cap' : Nat} {us : List Value} {u v : Value} (hgr : wS.grownBy W (some Bo)) (hb : Boxed W Bo tb v) (ho : W.ownsRow wS.heap.size e 1 v us.length us) (hvc : v.ownBlock ≠ some c)
    (hBo : Bo < wS.heap.size) (hc : wS.heap.size ≤ c) (hcl : c < W.heap.size) (hne : tb ≠ e) (hx : Ext W Wa)
    (ho' : w'.ownsRow wS.heap.size e 1 (.slice (some ⟨g', 0, none⟩) (us.length + 1) cap') (us.length + 1) (us ++ [u])) (hg : Wa.grownBy w' v.ownBlock) (hv' : some g' = v.ownBlock ∨ Wa.heap.size ≤ g') :
    KeepsOthers W (w'.setCell ⟨Bo, 0, none⟩ (.slice (some ⟨g', 0, none⟩) (us.length + 1) cap')) ∧ (w'.setCell ⟨Bo, 0, none⟩ (.slice (some ⟨g', 0, none⟩) (us.length + 1) cap')).heap[c]? = W.heap[c]? ∧
    wS.grownBy (w'.setCell ⟨Bo, 0, none⟩ (.slice (some ⟨g', 0, none⟩) (us.length + 1) cap')) (some Bo) ∧ Coll e tb wS Bo (us ++ [u]) c (w'.setCell ⟨Bo, 0, none⟩ (.slice (some ⟨g', 0, none⟩) (us.length + 1) cap')) := by
  have hoc := ownBlock_cells ho
  have hgW : W.grownBy w' v.ownBlock := ⟨hg.os.trans hx.os, hg.tape.trans hx.tape, hg.output.trans hx.output, Nat.le_trans hx.size hg.size, fun k hk hne => (hg.block k (Nat.lt_of_lt_of_le hk hx.size) hne).trans (hx.block k hk)⟩
  have hBne : some Bo ≠ v.ownBlock := hb.not_row hne ho
  have hb' : Boxed w' Bo tb v := hb.kept hgW hBne
  have hgS : wS.grownBy w' (some Bo) := grownBy_trans_new hgr hgW (fun x h => .inl (hoc x h).choose_spec.2)
  have hgc : g' ≠ Bo := fun h => by
    subst h
    rcases ho'.2 with ⟨h, _⟩ | ⟨g2, cap2, cur, hv, _, hh, _⟩
    · cases h
    · injection hv with h1; injection h1 with h1; injection h1 with h1
      subst h1
      have := (show w'.heap[g']? = _ from hb').symm.trans hh
      simp at this
      exact hne this.2
  refine ⟨⟨?_, ?_⟩, ?_, ?_, ?_⟩
  · have := hgW.size; simpa [World.setCell] using this
  · intro k o hk hcells
    have hkl := (Array.getElem?_eq_some_iff.1 hk).1
    have h1 : w'.heap[k]? = some o := (hgW.block k hkl (fun h => by
      obtain ⟨cur, hh, _⟩ := hoc k h.symm
      rw [hh] at hk; cases hk; cases hcells)).trans hk
    rw [Below.heap_setCell _ _ _ _ (fun h => by
      dsimp only at h; subst h
      rw [show W.heap[k]? = _ from hb] at hk; cases hk; cases hcells)]
    exact h1
  · rw [Below.heap_setCell _ _ _ _ (by dsimp only; omega)]
    exact hgW.block c hcl (fun h => hvc h.symm)
  · exact grownBy_trans_new hgS (grownBy_set _ _ _ _) (fun x h => .inr (by cases h; rfl))
  · refine ⟨grownBy_trans_new hgS (grownBy_set _ _ _ _) (fun x h => .inr (by cases h; rfl)), _, hb'.set _, ?_, ?_⟩
    · have := ho'.kept (grownBy_set w' Bo 0 (.slice (some ⟨g', 0, none⟩) (us.length + 1) cap')) (.inr (by simp [Value.ownBlock]; exact hgc))
      simpa using this
    · simp only [Value.ownBlock]
      rcases hv' with h | h
      · rw [h]; exact hvc
      · intro he; injection he with he; have := hx.size; omega

set_option maxHeartbeats 1000000 in
theorem fill_c (sv ev : Value) (sizes : List Int) (es : List Ent) (w : World) (hs : Ints w sv sizes) (he : Ents w ev es) (hok : sizesOk sizes)
    (hr : ∀ i, i < es.length → (ent es i).1.length = sizes.length) (hn : es.length ≤ 1048576) :
    Calls Try.prog 38 #[.agg #[sv, ev]] w (RInts ((cellsOf sizes).map (formI es)) w) := by
  have HOK := Lib.hid hok; have HR := Lib.hid hr
  have hcount := cells_count hok
  clear hok hr
  refine (callsIn_wide (n := 0)).1 (callsIn_of_wp_marks Try.func38 rfl trivial ?_ rfl)
  simp only [Try.ntmps38, List.size_toArray, List.length_cons, List.length_nil, Nat.reduceAdd, Nat.reduceSub, Array.replicate_succ, Array.replicate_zero, List.push_toArray, List.append_toArray, List.nil_append, List.cons_append]
  gi_wp2_with fail
  refine ⟨trivial, rfl, (callsIn_wide.2 (cellsF_c _ sv ev rfl _)).mono ?_⟩
  rintro e w1 ⟨rfl, rfl⟩
  obtain ⟨wS, hwS⟩ : ∃ wS, wS = ((w.alloc (.cells #[sv, ev] 25)).alloc (.cells #[.slice none 0 0] 22)).alloc (.cells #[sv, ev] 25) := ⟨_, rfl⟩
  have hX : Ext w wS := by rw [hwS]; exact ((Ext.alloc _ _).trans (Ext.alloc _ _)).trans (Ext.alloc _ _)
  have hsz : wS.heap.size = w.heap.size + 3 := by rw [hwS]; simp
  have hbox : wS.cell? ⟨w.heap.size + 2, 0, none⟩ = some sv := by rw [hwS]; have := alloc_cell ((w.alloc (.cells #[sv, ev] 25)).alloc (.cells #[.slice none 0 0] 22)) #[sv, ev] 25 (i := 0) rfl; simpa using this
  have hA0 : Ext (w.alloc (.cells #[sv, ev] 25)) wS := by rw [hwS]; exact (Ext.alloc _ _).trans (Ext.alloc _ _)
  have hp0 : wS.cell? ⟨w.heap.size, 0, none⟩ = some sv := hA0.keep (alloc_cell _ _ _ rfl)
  have hp1 : wS.cell? ⟨w.heap.size, 1, none⟩ = some ev := hA0.keep (alloc_cell _ _ _ rfl)
  have hout : Boxed wS (w.heap.size + 1) 22 (.slice none 0 0) := by
    rw [hwS]; have := (Boxed.new (w.alloc (.cells #[sv, ev] 25)) 22 (.slice none 0 0)).alloc (.cells #[sv, ev] 25); simpa using this
  gi_wp2_with fail
  rw [← hwS]
  have hfree := Lib.hid hwS; clear hwS
  refine wp_range (Φ := IntsT 3) rfl (enters_of Try.func52 (by kernel_rfl) rfl) (fun c x v W W' row h hg hr => h.kept_non hg (fun r e => .inr (hr r e)))
    (cells1_c sv sizes (w.heap.size + 2) w wS (some (w.heap.size + 1)) hX (fun r h => by cases h; exact ⟨by omega, by omega⟩) hbox hs HOK.out) (World.grownBy.refl _ _)
    (fun c k W => Coll 3 22 wS (w.heap.size + 1) (ints (((cellsOf sizes).take k).map (formI es))) c W)
    (fun c k W1 W2 row hi _ hg hr => hi.kept (by omega) hg hr)
    (fun c hc => ⟨World.grownBy.refl _ _, _, hout, World.ownsRow_nil _ _ _ _, by simp [Value.ownBlock]⟩)
    (fun v => { tmps := #[.agg #[sv, ev], .pointer (some ⟨w.heap.size, 0, none⟩), .slice none 0 0, .pointer (some ⟨w.heap.size + 1, 0, none⟩), v, .agg #[sv, ev], .func (.func 52) #[] #[.pointer (some ⟨w.heap.size + 2, 0, none⟩)], v, undef, undef, undef, undef, undef, undef, undef], defers := [] })
    ?assign ?body ?done
  case assign =>
    intro l v W K hK
    gi_wp2
    exact hK
  case body =>
    rintro l c k x v W hx ⟨hgr, vo, hb, ho, hvc⟩ hc hcl hxW hix
    have hk : k < (cellsOf sizes).length := (List.getElem?_eq_some_iff.1 hx).1
    have hsucc : ints (((cellsOf sizes).take (k + 1)).map (formI es)) = ints (((cellsOf sizes).take k).map (formI es)) ++ [.int .i64 (formI es x)] := by
      rw [List.take_add_one, hx]; simp [ints]
    have hlen : (ints (((cellsOf sizes).take k).map (formI es))).length ≤ 27 := by simp; omega
    rw [hsucc]
    clear hsucc
    generalize ints (((cellsOf sizes).take k).map (formI es)) = us at *
    refine wpIn_block ?_
    refine wpIn_region_ord 5 [0, 1, 2] [3, 4] (by kernel_rfl) (by kernel_rfl) (by kernel_rfl) (by intro c a d v w h; exact h) (by intro a w h; exact h) ?_
    have hd : Ext W { W with drawn := W.drawn + 1 } := drawn_ext W
    generalize { W with drawn := W.drawn + 1 } = W1 at *
    have q0 := fun s : Later W1 => (hd.trans s.ext).keep hb.cell
    have hq := (hxW.block w.heap.size (by omega) (by simp))
    have q1 := fun s : Later W1 => (hd.trans s.ext).keep ((World.cell?_of_block (w := wS) (a := ⟨w.heap.size, 0, none⟩) hq).trans hp0)
    have q2 := fun s : Later W1 => (hd.trans s.ext).keep ((World.cell?_of_block (w := wS) (a := ⟨w.heap.size, 1, none⟩) hq).trans hp1)
    have hXW := grown_below hX hxW (fun r h => by cases h; omega)
    simp only [List.filterMap_cons, List.filterMap_nil, List.getElem?_toArray, List.getElem?_cons_zero, List.getElem?_cons_succ]
    repeat (refine wpPure_step (fun K hK => ?_); go_simp; first | (refine hK _ ?_; clear hK K) | (refine ⟨_, fun _ => rfl, hK _ ?_⟩; clear hK K))
    refine wpPure_nil ?_
    have hxc := List.getElem?_eq_some_iff.1 hx
    have hlenx : x.length = sizes.length := by
      have := cells_len HOK.out hk
      rw [hx] at this; exact this
    have hfc := form_c sv ev v es x W1 (he.ext (hXW.trans hd)) (hix.1.ext hd) (fun i hi => (HR.out i hi).trans hlenx.symm) hn
    have HFC := Lib.hid hfc; clear hfc
    clear q0 q1 q2
    refine wpMem_step rfl rfl (fun K hK => ?_)
    go_wp2_with fail
    refine HFC.out.mono ?_
    rintro e W2 ⟨rfl, hx2⟩
    go_wp2_with fail
    refine ⟨hx2, ?_⟩
    refine wpMem_step rfl rfl (fun K hK => ?_)
    go_wp2_with fail
    refine ⟨Ext.alloc _ _, ?_⟩
    refine wpMem_nil rfl ?_
    have hA := hd.trans hx2
    refine wpList_append1G elInts rfl _ _ rfl rfl rfl (ownsRow_ext ho hA) rfl rfl (by have := hgr.size; have := hA.size; omega) (by omega) (by omega) ?_
    intro g' cap' w' ho' hg' hv'
    obtain ⟨s1, s2, s3, s4⟩ := coll_step hgr hb ho hvc (by omega) hc hcl (by decide) hA ho' hg' hv'
    have hbc : w'.cell? ⟨w.heap.size + 1, 0, none⟩ = some vo := by
      refine Boxed.cell (t := 22) ((Boxed.kept (W := W2) ((show W2.heap[w.heap.size+1]? = _ from (hA.block _ hb.lt).trans hb)) hg' (hb.not_row (by decide) ho)))
    have hbf : w'.frozen? ⟨w.heap.size + 1, 0, none⟩ = false := by
      refine Boxed.frozen (t := 22) (v := vo) ((Boxed.kept (W := W2) ((show W2.heap[w.heap.size+1]? = _ from (hA.block _ hb.lt).trans hb)) hg' (hb.not_row (by decide) ho)))
    have S := Lib.hid (And.intro s1 (And.intro s2 (And.intro s3 s4)))
    clear s1 s2 s3 s4
    go_wp2_with fail
    exact ⟨S.out.1, S.out.2.1, S.out.2.2.1, S.out.2.2.2⟩
  case done =>
    rintro D c W hD hc hDc ⟨hgr, vo, hb, ho, hvc⟩ hK
    have hbc := hb.cell
    rw [List.take_length] at ho
    have hXW := grown_below hX hgr (fun r h => by cases h; omega)
    have ho2 := ownsRow_putObj ho (.deferred none) hK rfl
    have hfin : Ext w (W.putObj D (.deferred none)) := Below.trans hXW ⟨rfl, rfl, rfl, by simp, fun k hk => World.putObj_heap_other (by omega)⟩
    have HF := Lib.hid (And.intro ho2 hfin)
    clear ho ho2 hfin
    gi_wp2_with fail
    refine ⟨by simp, .inl ⟨_, _, rfl, run_takeDeferred hK, ?_⟩⟩
    refine ⟨_, results_tmp rfl _ _ _, ?_⟩
    exact ⟨_, rfl, Ints.own (by simpa using HF.out.1), HF.out.2⟩
end Go.Proofs.Ytdgncnhmgbmpjaa
