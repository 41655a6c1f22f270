/- The elements of a list of lists, collected in a row of one's own: slices.Values, AppendSeq, Collect. -/
import Derived.Test.YtdgncnhmgbmpjaaCellH
import Derived.Test.YtdgncnhmgbmpjaaIterV
import Derived.LoopIn
import Derived.OwnWalkIn
namespace Go.Proofs.Ytdgncnhmgbmpjaa
open Go.RowKit Go.Shelf
set_option linter.unusedVariables false
attribute [local go_sem] Oper.semAt_some
/-- the slice v holds these values -/
def RowsU (w : World) (v : Value) (us : List Value) : Prop :=
  Sl v us.length fun i b o => w.cell? ⟨b, o + i, none⟩ = us[i]?
theorem RowsU.ext {w w' : World} {v : Value} {us : List Value} (h : RowsU w v us) (hx : Ext w w') : RowsU w' v us :=
  h.mono fun i b o hi hc => by
    rw [List.getElem?_eq_getElem hi] at hc ⊢
    exact hx.keep hc
theorem RowsU.open_ {w : World} {v : Value} {us : List Value} (h : RowsU w v us) :
    ∃ (a : Option Addr) (cap : Nat), v = .slice a us.length cap ∧ us.length ≤ cap ∧ cap ≤ 9223372036854775807 ∧
      Hid (∀ i, i < us.length → ∃ b o, a = some ⟨b, o, none⟩ ∧ w.cell? ⟨b, o + i, none⟩ = us[i]?) := h
theorem Rows.vals {w : World} {v : Value} {ls : List (List Int)} (h : Rows w v ls) : ∃ us, RowsU w v us ∧ AllInts w us ls := by
  obtain ⟨a, cap, rfl, h1, h2, H⟩ := h.open_
  have hc : ∀ i : Nat, ∃ u : Value, i < ls.length → (∃ b o, a = some ⟨b, o, none⟩ ∧ w.cell? ⟨b, o + i, none⟩ = some u) ∧ Ints w u (ls[i]?.getD []) := fun i => by
    by_cases hi : i < ls.length
    · obtain ⟨b, o, e, u, h3, h4⟩ := H.out i hi
      exact ⟨u, fun _ => ⟨⟨b, o, e, h3⟩, h4⟩⟩
    · exact ⟨.slice none 0 0, fun h => absurd h hi⟩
  obtain ⟨f, hf⟩ := Classical.axiomOfChoice hc
  have hl : ((List.range ls.length).map f).length = ls.length := by simp
  refine ⟨(List.range ls.length).map f, ⟨a, cap, by rw [hl], by rw [hl]; exact h1, h2, fun i hi => ?_⟩, hl, fun i u hu => ?_⟩
  · rw [hl] at hi
    obtain ⟨⟨b, o, e, h3⟩, _⟩ := hf i hi
    refine ⟨b, o, e, ?_⟩
    show w.cell? ⟨b, o + i, none⟩ = _
    rw [h3, List.getElem?_map, List.getElem?_range hi]; rfl
  · have hi : i < ls.length := by
      have := (List.getElem?_eq_some_iff.1 hu).1
      rwa [hl] at this
    rw [List.getElem?_map, List.getElem?_range hi] at hu
    injection hu with hu
    subst hu
    exact (hf i hi).2
theorem rowV_low {w : World} {B B' n size : Nat} {e : TypeId} {xs : List Value} {v : Value} (h : w.ownsRow B e size v n xs) (hB : B' ≤ B) : w.ownsRow B' e size v n xs :=
  ⟨h.1, h.2.imp id fun ⟨g, cap, cur, h1, h2, h3⟩ => ⟨g, cap, cur, h1, Nat.le_trans hB h2, h3⟩⟩
/-! ## collecting -/
def CollV (e tb : TypeId) (wS : World) (Bo : Nat) (us : List Value) (W : World) : Prop :=
  wS.grownBy W (some Bo) ∧ ∃ v, Boxed W Bo tb v ∧ W.ownsRow wS.heap.size e 1 v us.length us
theorem CollV.kept {e tb : TypeId} {wS W W' : World} {Bo : Nat} {us : List Value} (h : CollV e tb wS Bo us W) (hBo : Bo < wS.heap.size) {row : Option Nat} (hg : W.grownBy W' row)
    (hr : ∀ r, row = some r → wS.heap.size ≤ r ∧ ∃ o : Obj, W.heap[r]? = some o ∧ o.isCells = false) : CollV e tb wS Bo us W' := by
  obtain ⟨h1, v, hb, ho⟩ := h
  refine ⟨grownBy_trans_new h1 hg (fun x hx => .inl (hr x hx).1), v, hb.kept hg (fun he => by have := (hr Bo he.symm).1; omega), ho.kept hg ?_⟩
  rcases ho.2 with ⟨rfl, _⟩ | ⟨g, cap, cur, rfl, _, hgb, _⟩
  · exact .inl rfl
  · refine .inr fun he => ?_
    simp only [Value.ownBlock] at he
    obtain ⟨o, h1, h2⟩ := (hr g he.symm).2
    rw [hgb] at h1; cases h1; cases h2
theorem collV_step {e tb : TypeId} {wS W w' : World} {Bo g' cap' : Nat} {us : List Value} {u v : Value} (hgr : wS.grownBy W (some Bo)) (hb : Boxed W Bo tb v) (ho : W.ownsRow wS.heap.size e 1 v us.length us)
    (hBo : Bo < wS.heap.size) (hne : tb ≠ e)
    (ho' : w'.ownsRow wS.heap.size e 1 (.slice (some ⟨g', 0, none⟩) (us.length + 1) cap') (us.length + 1) (us ++ [u])) (hgW : W.grownBy w' v.ownBlock) :
    KeepsOthers W (w'.setCell ⟨Bo, 0, none⟩ (.slice (some ⟨g', 0, none⟩) (us.length + 1) cap')) ∧
    wS.grownBy (w'.setCell ⟨Bo, 0, none⟩ (.slice (some ⟨g', 0, none⟩) (us.length + 1) cap')) (some Bo) ∧ CollV e tb wS Bo (us ++ [u]) (w'.setCell ⟨Bo, 0, none⟩ (.slice (some ⟨g', 0, none⟩) (us.length + 1) cap')) := by
  have hoc := ownBlock_cells ho
  have hBne : some Bo ≠ v.ownBlock := hb.not_row hne ho
  have hb' : Boxed w' Bo tb v := hb.kept hgW hBne
  have hgS : wS.grownBy w' (some Bo) := grownBy_trans_new hgr hgW (fun x h => .inl (hoc x h).choose_spec.2)
  have hgc : g' ≠ Bo := fun h => by
    subst h
    rcases ho'.2 with ⟨h, _⟩ | ⟨g2, cap2, cur, hv, _, hh, _⟩
    · cases h
    · injection hv with h1; injection h1 with h1; injection h1 with h1
      subst h1
      have := (show w'.heap[g']? = _ from hb').symm.trans hh
      simp at this
      exact hne this.2
  refine ⟨⟨?_, ?_⟩, ?_, ?_, ?_⟩
  · have := hgW.size; simpa [World.setCell] using this
  · intro k o hk hcells
    have hkl := (Array.getElem?_eq_some_iff.1 hk).1
    have h1 : w'.heap[k]? = some o := (hgW.block k hkl (fun h => by
      obtain ⟨cur, hh, _⟩ := hoc k h.symm
      rw [hh] at hk; cases hk; cases hcells)).trans hk
    rw [Below.heap_setCell _ _ _ _ (fun h => by
      dsimp only at h; subst h
      rw [show W.heap[k]? = _ from hb] at hk; cases hk; cases hcells)]
    exact h1
  · exact grownBy_trans_new hgS (grownBy_set _ _ _ _) (fun x h => .inr (by cases h; rfl))
  · exact grownBy_trans_new hgS (grownBy_set _ _ _ _) (fun x h => .inr (by cases h; rfl))
  · refine ⟨_, hb'.set _, ?_⟩
    have := ho'.kept (grownBy_set w' Bo 0 (.slice (some ⟨g', 0, none⟩) (us.length + 1) cap')) (.inr (by simp [Value.ownBlock]; exact hgc))
    simpa using this
/-- a row of one's own of these values -/
def ROwnV (us : List Value) (w : World) (e : Ending) (w' : World) : Prop := ∃ v, e = .returned v ∧ w'.ownsRow w.heap.size 22 1 v us.length us ∧ Ext w w'
set_option maxHeartbeats 1000000 in
theorem appendSeqV_c (g : Nat) (lb : Array Value) (us : List Value) (w : World) (eg : Enters Try.prog g) (hn : us.length ≤ 1000000) (hsl : ∀ u ∈ us, ∃ a n c, u = .slice a n c)
    (hseq : ∀ W row, Ext w W → (∀ r, row = some r → w.heap.size ≤ r) → IterV Try.prog g lb (fun x : Value => x) us W row) :
    Calls Try.prog 51 #[.slice none 0 0, .func (.func g) #[] lb] w (ROwnV us w) := by
  refine (callsIn_wide (n := 0)).1 (callsIn_of_wp_marks Try.func51 rfl trivial ?_ rfl)
  simp only [Try.ntmps51, List.size_toArray, List.length_cons, List.length_nil, Nat.reduceAdd, Nat.reduceSub, Array.replicate_succ, Array.replicate_zero, List.push_toArray, List.append_toArray, List.nil_append, List.cons_append]
  obtain ⟨wS, hwS⟩ : ∃ wS, wS = w.alloc (.cells #[.slice none 0 0] 26) := ⟨_, rfl⟩
  have hX : Ext w wS := by rw [hwS]; exact Ext.alloc _ _
  have hsz : wS.heap.size = w.heap.size + 1 := by rw [hwS]; simp
  have hout : Boxed wS w.heap.size 26 (.slice none 0 0) := by rw [hwS]; exact Boxed.new _ _ _
  have HS := Lib.hid (hseq wS (some w.heap.size) hX (fun r h => by cases h; omega)); clear hseq
  have HSL := Lib.hid hsl; clear hsl
  gi_wp2_with fail
  rw [← hwS]
  have hfree := Lib.hid hwS; clear hwS
  refine wp_range1 rfl eg HS.out (World.grownBy.refl _ _)
    (fun k W => CollV 22 26 wS w.heap.size (us.take k) W)
    (fun k W1 W2 row hi hg hr => hi.kept (by omega) hg hr)
    ⟨World.grownBy.refl _ _, _, hout, World.ownsRow_nil _ _ _ _⟩
    (fun v => { tmps := #[.slice none 0 0, .func (.func g) #[] lb, .pointer (some ⟨w.heap.size, 0, none⟩), undef, .slice none 0 0, v, .func (.func g) #[] lb, v, undef, undef, undef, undef, undef], defers := [] })
    ?assign ?body ?done
  case assign =>
    intro l v W K hK
    gi_wp2
    exact hK
  case body =>
    rintro l k x W hx ⟨hgr, vo, hb, ho⟩ hxW
    have hk : k < us.length := (List.getElem?_eq_some_iff.1 hx).1
    have hlen : (us.take k).length ≤ 1000000 := by simp; omega
    have hsucc : us.take (k + 1) = us.take k ++ [x] := by rw [List.take_add_one, hx]; rfl
    rw [hsucc]; clear hsucc
    obtain ⟨av, nv, cv, rfl⟩ := HSL.out x (List.mem_of_getElem? hx)
    generalize us.take k = ls at *
    have hbc := hb.cell
    gi_wp2_with (gi_at_builtin
                 refine wpListIn_of (by intro a w h; exact h) _ (by intro o ho c hc; simp only [List.mem_cons, List.not_mem_nil, or_false] at ho; rcases ho with rfl | rfl <;> cases hc) _ _ ?_)
    refine wpList_append1G elRows rfl _ _ rfl rfl rfl ho rfl rfl (by have := hgr.size; omega) (by omega) (by omega) ?_
    intro g' cap' w' ho' hg' hv'
    have S := Lib.hid (collV_step hgr hb ho (by omega) (by decide) ho' hg')
    have hbw := Boxed.kept (W := W) hb hg' (hb.not_row (by decide) ho)
    have hbc := hbw.cell
    have hbf := hbw.frozen
    go_wp2_with fail
    exact ⟨S.out.1, S.out.2.1, S.out.2.2⟩
  case done =>
    rintro D W hD ⟨hgr, vo, hb, ho⟩ hK
    rw [List.take_length] at ho
    have hbc := hb.cell
    have hXW := grown_below hX hgr (fun r h => by cases h; omega)
    have ho2 := ownsRow_putObj ho (.deferred none) hK rfl
    have hfin : Ext w (W.putObj D (.deferred none)) := Below.trans hXW ⟨rfl, rfl, rfl, by simp, fun k hk => World.putObj_heap_other (by omega)⟩
    have HF := Lib.hid (And.intro ho2 hfin)
    clear ho ho2 hfin
    gi_wp2_with fail
    refine ⟨by simp, .inl ⟨_, _, rfl, run_takeDeferred hK, ?_⟩⟩
    refine ⟨_, results_tmp rfl _ _ _, ?_⟩
    exact ⟨_, rfl, rowV_low HF.out.1 (by omega), HF.out.2⟩
set_option maxHeartbeats 400000 in
theorem collectV_c (g : Nat) (lb : Array Value) (us : List Value) (w : World) (eg : Enters Try.prog g) (hn : us.length ≤ 1000000) (hsl : ∀ u ∈ us, ∃ a n c, u = .slice a n c)
    (hseq : ∀ W row, Ext w W → (∀ r, row = some r → w.heap.size ≤ r) → IterV Try.prog g lb (fun x : Value => x) us W row) :
    Calls Try.prog 35 #[.func (.func g) #[] lb] w (ROwnV us w) := by
  have HA := Lib.hid (appendSeqV_c g lb us w eg hn hsl hseq); clear hseq
  go_enter Try.func35, Try.ntmps35
  go_wp2_with fail
  refine HA.out.mono ?_
  rintro e w' ⟨v, rfl, hr, hx⟩
  have HR := Lib.hid hr; clear hr
  go_wp2_with fail
  go_ret
  exact ⟨v, rfl, HR.out, hx⟩
/-! ## the elements -/
set_option maxHeartbeats 1000000 in
set_option maxRecDepth 100000 in
theorem values1_c (v : Value) (us : List Value) (bp : Nat) (w0 : World) (row : Option Nat) (hrow : ∀ r, row = some r → r ≠ bp) (hb : w0.cell? ⟨bp, 0, none⟩ = some v) (hs : ∀ W, w0.grownBy W row → RowsU W v us) :
    IterV Try.prog 44 #[.pointer (some ⟨bp, 0, none⟩)] (fun x : Value => x) us w0 row := by
  intro lp J W hW hJ hY h0
  have HJ := Lib.hid hJ; have HY := Lib.hid hY; have H0 := Lib.hid h0
  clear hJ hY h0
  have hkb : ∀ wr, w0.grownBy wr row → wr.cell? ⟨bp, 0, none⟩ = some v := fun wr h => (World.cell?_of_block (w := w0) (h.block bp (cell_lt hb) (fun e => hrow bp e.symm rfl))).trans hb
  have HKB := Lib.hid hkb; have HKS := Lib.hid hs; clear hkb
  have hbW := HKB.out W hW
  obtain ⟨a, c, rfl, hlc, hcm, _⟩ := (hs W hW).open_
  clear hb hrow hs
  refine callsIn_of_wp Try.func44 rfl trivial ?_ rfl
  simp only [Try.ntmps44, List.size_toArray, List.length_cons, List.length_nil, Nat.reduceAdd, Nat.reduceSub, Array.replicate_succ, Array.replicate_zero, List.push_toArray, List.append_toArray, List.nil_append, List.cons_append]
  gi_wp2_with fail
  gi_loopw [7] (fun i wr => ∃ k : Nat, k ≤ us.length ∧ i = .int .i64 k ∧ J k wr ∧ w0.grownBy wr row) (fun i wr => ((us.length : Int) - intOf i).toNat)
  case atStart => exact ⟨0, by omega, rfl, H0.out, hW⟩
  case round =>
    obtain ⟨k, hk, rfl, hJr, hxr⟩ := hrel
    by_cases hlt : k < us.length
    · obtain ⟨a', c', hv, _, _, H⟩ := (HKS.out wr hxr).open_
      injection hv with hv1 _ hv2; subst hv1 hv2
      obtain ⟨b, o, rfl, hc⟩ := H.out k hlt
      rw [List.getElem?_eq_getElem hlt] at hc
      obtain ⟨fn, tmps, assign, body, hy, hR⟩ := HY.out k us[k] wr (List.getElem?_eq_getElem hlt) hJr hxr
      have HR := Lib.hid hR; clear hR
      generalize us[k] = y at *
      have hkI : (k : Int) < (us.length : Int) := by omega
      gi_wp2_with fail
      refine ⟨rfl, HR.out.mono ?_⟩
      rintro e W3 ⟨rfl, hJ3, hx3⟩
      gi_wp2_with fail
      refine ⟨⟨k + 1, by omega, by go_num, hJ3, hx3⟩, ?_⟩
      simp [intOf]; omega
    · obtain rfl : k = us.length := by omega
      gi_wp2_with fail
      exact bodyPost_end (results_none rfl _ _ _) rfl ⟨⟨_, rfl⟩, hJr⟩
end Go.Proofs.Ytdgncnhmgbmpjaa
