/- The numbers of a list, collected in a list of one's own, sorted, its equal neighbors once: Values, AppendSeq, Collect, Sort, Sorted, Compact. -/
import Derived.Test.YthmdecgkbjdabaaRenP
import Derived.Test.YthmdecgkbjdabaaWr
import Derived.Test.YthmdecgkbjdabaaIterV
import Derived.LoopIn
import Derived.OwnWalkIn
import Derived.Sort.OwnSortedInts
import Derived.Shelf.Sort.Plain
import Derived.Shelf.Slices.CompactI
import Derived.Shelf.Slices.In.SortNone
import Derived.Lib.RowBridge
namespace Go.Proofs.Ythmdecgkbjdabaa
open Go.RowKit Go.Shelf
set_option linter.unusedVariables false
attribute [local go_sem] Oper.semAt_some
theorem rowV_low {w : World} {B B' n size : Nat} {e : TypeId} {xs : List Value} {v : Value} (h : w.ownsRow B e size v n xs) (hB : B' ≤ B) : w.ownsRow B' e size v n xs :=
  ⟨h.1, h.2.imp id fun ⟨g, cap, cur, h1, h2, h3⟩ => ⟨g, cap, cur, h1, Nat.le_trans hB h2, h3⟩⟩
/-! ## collecting -/
def CollV (e tb : TypeId) (wS : World) (Bo : Nat) (us : List Value) (W : World) : Prop :=
  wS.grownBy W (some Bo) ∧ ∃ v, Boxed W Bo tb v ∧ W.ownsRow wS.heap.size e 1 v us.length us
theorem CollV.kept {e tb : TypeId} {wS W W' : World} {Bo : Nat} {us : List Value} (h : CollV e tb wS Bo us W) (hBo : Bo < wS.heap.size) {row : Option Nat} (hg : W.grownBy W' row)
    (hr : ∀ r, row = some r → wS.heap.size ≤ r ∧ ∃ o : Obj, W.heap[r]? = some o ∧ o.isCells = false) : CollV e tb wS Bo us W' := by
  obtain ⟨h1, v, hb, ho⟩ := h
  refine ⟨grownBy_trans_new h1 hg (fun x hx => .inl (hr x hx).1), v, hb.kept hg (fun he => by have := (hr Bo he.symm).1; omega), ho.kept hg ?_⟩
  rcases ho.2 with ⟨rfl, _⟩ | ⟨g, cap, cur, rfl, _, hgb, _⟩
  · exact .inl rfl
  · refine .inr fun he => ?_
    simp only [Value.ownBlock] at he
    obtain ⟨o, h1, h2⟩ := (hr g he.symm).2
    rw [hgb] at h1; cases h1; cases h2
theorem collV_step {e tb : TypeId} {wS W w' : World} {Bo g' cap' : Nat} {us : List Value} {u v : Value} (hgr : wS.grownBy W (some Bo)) (hb : Boxed W Bo tb v) (ho : W.ownsRow wS.heap.size e 1 v us.length us)
    (hBo : Bo < wS.heap.size) (hne : tb ≠ e)
    (ho' : w'.ownsRow wS.heap.size e 1 (.slice (some ⟨g', 0, none⟩) (us.length + 1) cap') (us.length + 1) (us ++ [u])) (hgW : W.grownBy w' v.ownBlock) :
    KeepsOthers W (w'.setCell ⟨Bo, 0, none⟩ (.slice (some ⟨g', 0, none⟩) (us.length + 1) cap')) ∧
    wS.grownBy (w'.setCell ⟨Bo, 0, none⟩ (.slice (some ⟨g', 0, none⟩) (us.length + 1) cap')) (some Bo) ∧ CollV e tb wS Bo (us ++ [u]) (w'.setCell ⟨Bo, 0, none⟩ (.slice (some ⟨g', 0, none⟩) (us.length + 1) cap')) := by
  have hoc := ownBlock_cells ho
  have hBne : some Bo ≠ v.ownBlock := hb.not_row hne ho
  have hb' : Boxed w' Bo tb v := hb.kept hgW hBne
  have hgS : wS.grownBy w' (some Bo) := grownBy_trans_new hgr hgW (fun x h => .inl (hoc x h).choose_spec.2)
  have hgc : g' ≠ Bo := fun h => by
    subst h
    rcases ho'.2 with ⟨h, _⟩ | ⟨g2, cap2, cur, hv, _, hh, _⟩
    · cases h
    · injection hv with h1; injection h1 with h1; injection h1 with h1
      subst h1
      have := (show w'.heap[g']? = _ from hb').symm.trans hh
      simp at this
      exact hne this.2
  refine ⟨⟨?_, ?_⟩, ?_, ?_, ?_⟩
  · have := hgW.size; simpa [World.setCell] using this
  · intro k o hk hcells
    have hkl := (Array.getElem?_eq_some_iff.1 hk).1
    have h1 : w'.heap[k]? = some o := (hgW.block k hkl (fun h => by
      obtain ⟨cur, hh, _⟩ := hoc k h.symm
      rw [hh] at hk; cases hk; cases hcells)).trans hk
    rw [Below.heap_setCell _ _ _ _ (fun h => by
      dsimp only at h; subst h
      rw [show W.heap[k]? = _ from hb] at hk; cases hk; cases hcells)]
    exact h1
  · exact grownBy_trans_new hgS (grownBy_set _ _ _ _) (fun x h => .inr (by cases h; rfl))
  · exact grownBy_trans_new hgS (grownBy_set _ _ _ _) (fun x h => .inr (by cases h; rfl))
  · refine ⟨_, hb'.set _, ?_⟩
    have := ho'.kept (grownBy_set w' Bo 0 (.slice (some ⟨g', 0, none⟩) (us.length + 1) cap')) (.inr (by simp [Value.ownBlock]; exact hgc))
    simpa using this
/-- a row of one's own of these values -/
def ROwnV (us : List Value) (w : World) (e : Ending) (w' : World) : Prop := ∃ v, e = .returned v ∧ w'.ownsRow w.heap.size 3 1 v us.length us ∧ Ext w w'
set_option maxHeartbeats 1000000 in
theorem appendSeqV_c (g : Nat) (lb : Array Value) (us : List Value) (w : World) (eg : Enters Try.prog g) (hn : us.length ≤ 1000000) (hsl : ∀ u ∈ us, ∃ z, u = .int .i64 z)
    (hseq : ∀ W row, Ext w W → (∀ r, row = some r → w.heap.size ≤ r) → IterV Try.prog g lb (fun x : Value => x) us W row) :
    Calls Try.prog 75 #[.slice none 0 0, .func (.func g) #[] lb] w (ROwnV us w) := by
  refine (callsIn_wide (n := 0)).1 (callsIn_of_wp_marks Try.func75 rfl trivial ?_ rfl)
  simp only [Try.ntmps75, List.size_toArray, List.length_cons, List.length_nil, Nat.reduceAdd, Nat.reduceSub, Array.replicate_succ, Array.replicate_zero, List.push_toArray, List.append_toArray, List.nil_append, List.cons_append]
  obtain ⟨wS, hwS⟩ : ∃ wS, wS = w.alloc (.cells #[.slice none 0 0] 22) := ⟨_, rfl⟩
  have hX : Ext w wS := by rw [hwS]; exact Ext.alloc _ _
  have hsz : wS.heap.size = w.heap.size + 1 := by rw [hwS]; simp
  have hout : Boxed wS w.heap.size 22 (.slice none 0 0) := by rw [hwS]; exact Boxed.new _ _ _
  have HS := Lib.hid (hseq wS (some w.heap.size) hX (fun r h => by cases h; omega)); clear hseq
  have HSL := Lib.hid hsl; clear hsl
  gi_wp2_with fail
  rw [← hwS]
  have hfree := Lib.hid hwS; clear hwS
  refine wp_range1 rfl eg HS.out (World.grownBy.refl _ _)
    (fun k W => CollV 3 22 wS w.heap.size (us.take k) W)
    (fun k W1 W2 row hi hg hr => hi.kept (by omega) hg hr)
    ⟨World.grownBy.refl _ _, _, hout, World.ownsRow_nil _ _ _ _⟩
    (fun v => { tmps := #[.slice none 0 0, .func (.func g) #[] lb, .pointer (some ⟨w.heap.size, 0, none⟩), undef, .slice none 0 0, v, .func (.func g) #[] lb, v, undef, undef, undef, undef, undef], defers := [] })
    ?assign ?body ?done
  case assign =>
    intro l v W K hK
    gi_wp2
    exact hK
  case body =>
    rintro l k x W hx ⟨hgr, vo, hb, ho⟩ hxW
    have hk : k < us.length := (List.getElem?_eq_some_iff.1 hx).1
    have hlen : (us.take k).length ≤ 1000000 := by simp; omega
    have hsucc : us.take (k + 1) = us.take k ++ [x] := by rw [List.take_add_one, hx]; rfl
    rw [hsucc]; clear hsucc
    obtain ⟨zv, rfl⟩ := HSL.out x (List.mem_of_getElem? hx)
    generalize us.take k = ls at *
    have hbc := hb.cell
    gi_wp2_with (gi_at_builtin
                 refine wpListIn_of (by intro a w h; exact h) _ (by intro o ho c hc; simp only [List.mem_cons, List.not_mem_nil, or_false] at ho; rcases ho with rfl | rfl <;> cases hc) _ _ ?_)
    refine wpList_append1G elInts rfl _ _ rfl rfl rfl ho rfl rfl (by have := hgr.size; omega) (by omega) (by omega) ?_
    intro g' cap' w' ho' hg' hv'
    have S := Lib.hid (collV_step hgr hb ho (by omega) (by decide) ho' hg')
    have hbw := Boxed.kept (W := W) hb hg' (hb.not_row (by decide) ho)
    have hbc := hbw.cell
    have hbf := hbw.frozen
    go_wp2_with fail
    exact ⟨S.out.1, S.out.2.1, S.out.2.2⟩
  case done =>
    rintro D W hD ⟨hgr, vo, hb, ho⟩ hK
    rw [List.take_length] at ho
    have hbc := hb.cell
    have hXW := grown_below hX hgr (fun r h => by cases h; omega)
    have ho2 := ownsRow_putObj ho (.deferred none) hK rfl
    have hfin : Ext w (W.putObj D (.deferred none)) := Below.trans hXW ⟨rfl, rfl, rfl, by simp, fun k hk => World.putObj_heap_other (by omega)⟩
    have HF := Lib.hid (And.intro ho2 hfin)
    clear ho ho2 hfin
    gi_wp2_with fail
    refine ⟨by simp, .inl ⟨_, _, rfl, run_takeDeferred hK, ?_⟩⟩
    refine ⟨_, results_tmp rfl _ _ _, ?_⟩
    exact ⟨_, rfl, rowV_low HF.out.1 (by omega), HF.out.2⟩
set_option maxHeartbeats 400000 in
theorem collectV_c (g : Nat) (lb : Array Value) (us : List Value) (w : World) (eg : Enters Try.prog g) (hn : us.length ≤ 1000000) (hsl : ∀ u ∈ us, ∃ z, u = .int .i64 z)
    (hseq : ∀ W row, Ext w W → (∀ r, row = some r → w.heap.size ≤ r) → IterV Try.prog g lb (fun x : Value => x) us W row) :
    Calls Try.prog 57 #[.func (.func g) #[] lb] w (ROwnV us w) := by
  have HA := Lib.hid (appendSeqV_c g lb us w eg hn hsl hseq); clear hseq
  go_enter Try.func57, Try.ntmps57
  go_wp2_with fail
  refine HA.out.mono ?_
  rintro e w' ⟨v, rfl, hr, hx⟩
  have HR := Lib.hid hr; clear hr
  go_wp2_with fail
  go_ret
  exact ⟨v, rfl, HR.out, hx⟩
/-! ## the elements -/
set_option maxHeartbeats 1000000 in
set_option maxRecDepth 100000 in
theorem values1_c (v : Value) (l : List Int) (bp : Nat) (w0 : World) (row : Option Nat) (hrow : ∀ r, row = some r → r ≠ bp) (hb : w0.cell? ⟨bp, 0, none⟩ = some v) (hs : ∀ W, w0.grownBy W row → Ints W v l) :
    IterV Try.prog 58 #[.pointer (some ⟨bp, 0, none⟩)] (fun x : Value => x) (ints l) w0 row := by
  intro lp J W hW hJ hY h0
  have HJ := Lib.hid hJ; have HY := Lib.hid hY
  have hlen : (ints l).length = l.length := by simp [ints]
  have hkb : ∀ wr, w0.grownBy wr row → wr.cell? ⟨bp, 0, none⟩ = some v := fun wr h => (World.cell?_of_block (w := w0) (h.block bp (cell_lt hb) (fun e => hrow bp e.symm rfl))).trans hb
  have HKB := Lib.hid hkb; have HKS := Lib.hid hs; clear hkb
  have hbW := HKB.out W hW
  obtain ⟨a, c, rfl, hlc, hcm, _⟩ := (hs W hW).open_
  have HL := Lib.hid hlen
  have H0 := Lib.hid h0
  clear hb hrow hs hJ hY h0 hlen
  refine callsIn_of_wp Try.func58 rfl trivial ?_ rfl
  simp only [Try.ntmps58, List.size_toArray, List.length_cons, List.length_nil, Nat.reduceAdd, Nat.reduceSub, Array.replicate_succ, Array.replicate_zero, List.push_toArray, List.append_toArray, List.nil_append, List.cons_append]
  gi_wp2_with fail
  gi_loopw [7] (fun i wr => ∃ k : Nat, k ≤ l.length ∧ i = .int .i64 k ∧ J k wr ∧ w0.grownBy wr row) (fun i wr => ((l.length : Int) - intOf i).toNat)
  case atStart => exact ⟨0, by omega, rfl, H0.out, hW⟩
  case round =>
    obtain ⟨k, hk, rfl, hJr, hxr⟩ := hrel
    by_cases hlt : k < l.length
    · obtain ⟨a', c', hv, _, _, H⟩ := (HKS.out wr hxr).open_
      injection hv with hv1 _ hv2; subst hv1 hv2
      obtain ⟨b, o, rfl, hc⟩ := H.out k hlt
      have hu : (ints l)[k]? = some (.int .i64 (l[k]?.getD 0)) := by simp [ints, hlt]
      obtain ⟨fn, tmps, assign, body, hy, hR⟩ := HY.out k _ wr hu hJr hxr
      have HR := Lib.hid hR; clear hR hu
      generalize l[k]?.getD 0 = y at *
      have hkI : (k : Int) < (l.length : Int) := by omega
      gi_wp2_with fail
      refine ⟨rfl, HR.out.mono ?_⟩
      rintro e W3 ⟨rfl, hJ3, hx3⟩
      gi_wp2_with fail
      refine ⟨⟨k + 1, by omega, by go_num, hJ3, hx3⟩, ?_⟩
      simp [intOf]; omega
    · obtain rfl : k = l.length := by omega
      gi_wp2_with fail
      exact bodyPost_end (results_none rfl _ _ _) rfl ⟨⟨_, rfl⟩, by rw [HL.out]; exact hJr⟩
/-! ## sorted -/
def sortIRen : Go.Shelf.Ren := ⟨fun | 125 => 42 | 128 => 68 | 129 => 69 | 189 => 19 | 215 => 81 | 216 => 65 | 257 => 41 | 294 => 59 | 295 => 60 | 296 => 61 | 297 => 62 | 298 => 63 | 299 => 64 | 300 => 66 | 301 => 67 | 328 => 76 | 329 => 77 | 330 => 78 | 331 => 79 | 332 => 80 | 343 => 82 | n => n, fun | 0 => 0 | 3 => 3 | 4 => 4 | 5 => 5 | 9 => 9 | 28 => 22 | 46 => 55 | 51 => 76 | 53 => 78 | 131 => 73 | 182 => 68 | 183 => 69 | 218 => 83 | 222 => 87 | 228 => 89 | 229 => 90 | n => n, fun n => n⟩
theorem sortILays : Lays.n189 Try.prog sortIRen := { mixed := by kernel_rfl, f125 := by kernel_rfl, f128 := by kernel_rfl, f129 := by kernel_rfl, f189 := by kernel_rfl, f215 := by kernel_rfl, f216 := by kernel_rfl, f257 := by kernel_rfl, f294 := by kernel_rfl, f295 := by kernel_rfl, f296 := by kernel_rfl, f297 := by kernel_rfl, f298 := by kernel_rfl, f299 := by kernel_rfl, f300 := by kernel_rfl, f301 := by kernel_rfl, f328 := by kernel_rfl, f329 := by kernel_rfl, f330 := by kernel_rfl, f331 := by kernel_rfl, f332 := by kernel_rfl, f343 := by kernel_rfl, t0 := by kernel_rfl, a0 := fun _ => by kernel_rfl, z0 := fun _ => by kernel_rfl, v0 := fun _ => by kernel_rfl, t3 := by kernel_rfl, a3 := fun _ => by kernel_rfl, z3 := fun _ => by kernel_rfl, v3 := fun _ => by kernel_rfl, t4 := by kernel_rfl, a4 := fun _ => by kernel_rfl, z4 := fun _ => by kernel_rfl, v4 := fun _ => by kernel_rfl, t5 := by kernel_rfl, a5 := fun _ => by kernel_rfl, z5 := fun _ => by kernel_rfl, v5 := fun _ => by kernel_rfl, t9 := by kernel_rfl, a9 := fun _ => by kernel_rfl, z9 := fun _ => by kernel_rfl, v9 := fun _ => by kernel_rfl, t28 := by kernel_rfl, a28 := fun _ => by kernel_rfl, z28 := fun _ => by kernel_rfl, v28 := fun _ => by kernel_rfl, t46 := by kernel_rfl, a46 := fun _ => by kernel_rfl, z46 := fun _ => by kernel_rfl, v46 := fun _ => by kernel_rfl, t51 := by kernel_rfl, a51 := fun _ => by kernel_rfl, z51 := fun _ => by kernel_rfl, v51 := fun _ => by kernel_rfl, t53 := by kernel_rfl, a53 := fun _ => by kernel_rfl, z53 := fun _ => by kernel_rfl, v53 := fun _ => by kernel_rfl, t131 := by kernel_rfl, a131 := fun _ => by kernel_rfl, z131 := fun _ => by kernel_rfl, v131 := fun _ => by kernel_rfl, t182 := by kernel_rfl, a182 := fun _ => by kernel_rfl, z182 := fun _ => by kernel_rfl, v182 := fun _ => by kernel_rfl, t183 := by kernel_rfl, a183 := fun _ => by kernel_rfl, z183 := fun _ => by kernel_rfl, v183 := fun _ => by kernel_rfl, t218 := by kernel_rfl, a218 := fun _ => by kernel_rfl, z218 := fun _ => by kernel_rfl, v218 := fun _ => by kernel_rfl, t222 := by kernel_rfl, a222 := fun _ => by kernel_rfl, z222 := fun _ => by kernel_rfl, v222 := fun _ => by kernel_rfl, t228 := by kernel_rfl, a228 := fun _ => by kernel_rfl, z228 := fun _ => by kernel_rfl, v228 := fun _ => by kernel_rfl, t229 := by kernel_rfl, a229 := fun _ => by kernel_rfl, z229 := fun _ => by kernel_rfl, v229 := fun _ => by kernel_rfl }
def cmpIRen : Go.Shelf.Ren := ⟨fun | 20 => 38 | n => n, fun | 0 => 0 | 3 => 3 | 4 => 4 | 22 => 22 | n => n, fun n => n⟩
theorem cmpILays : Lays2.n20 Try.prog cmpIRen := { mixed := by kernel_rfl, f20 := by kernel_rfl, t0 := by kernel_rfl, a0 := fun _ => by kernel_rfl, z0 := fun _ => by kernel_rfl, v0 := fun _ => by kernel_rfl, t3 := by kernel_rfl, a3 := fun _ => by kernel_rfl, z3 := fun _ => by kernel_rfl, v3 := fun _ => by kernel_rfl, t4 := by kernel_rfl, a4 := fun _ => by kernel_rfl, z4 := fun _ => by kernel_rfl, v4 := fun _ => by kernel_rfl, t22 := by kernel_rfl, a22 := fun _ => by kernel_rfl, z22 := fun _ => by kernel_rfl, v22 := fun _ => by kernel_rfl, i3 := by kernel_rfl }

theorem ints_take (l : List Int) : ints l = l.map (Value.int .i64) := rfl
/-- the list is put in order -/
theorem sortI_c (v : Value) (l : List Int) (w : World) (B : Nat) (h : OInts 3 w B v l) (hl : l.length ≤ 1000000) :
    Calls Try.prog 19 #[v] w fun e w' => e = .returned (.tuple #[]) ∧ OInts 3 w' B v (sortZ l) ∧ w.grownBy w' v.ownBlock := by
  by_cases h0 : l = []
  · subst h0
    obtain ⟨a, c, rfl, _⟩ := h.ints.open_
    refine (Any.slices_Sort_int_none sortILays a c w).mono ?_
    rintro e w' ⟨rfl, rfl⟩
    exact ⟨rfl, by rw [show sortZ [] = [] from by simp [sortZ]]; exact h, World.grownBy.refl _ _⟩
  · rcases h.2 with ⟨_, hz⟩ | ⟨g, cap, cur, rfl, hg, hh, hnc, hm, hcs, ht⟩
    · exact absurd (List.eq_nil_of_length_eq_zero hz) h0
    · have hlt : g < w.heap.size := (Array.getElem?_eq_some_iff.1 hh).1
      have hH := holds_of_blockI (ss := l) hh (by have := ht; rw [Nat.mul_one] at this; exact this)
      refine (Any.slices_Sort_int sortILays g 0 cap l w hH hlt (by omega)).mono ?_
      rintro e w' ⟨rfl, n, os, rfl⟩
      refine ⟨rfl, ?_, grownBy_sortedI _⟩
      have := ownsRow_sortedI (n := n) (os := os) (ss := l) (ts := sortZ l) (sortZ_len l) hg hh hnc hm hcs
      unfold OInts
      rw [sortZ_len]
      exact this
theorem grownI_ext {w0 w wr : World} {g : Nat} (hx : Ext w0 w) (hg : w0.heap.size ≤ g) (h : w.grownBy wr (some g)) : Ext w0 wr :=
  ⟨h.os.trans hx.os, h.tape.trans hx.tape, h.output.trans hx.output, Nat.le_trans hx.size h.size, fun k hk => (h.block k (Nat.lt_of_lt_of_le hk hx.size) (fun e => by injection e with e; omega)).trans (hx.block k hk)⟩
theorem OInts.spotI {e : TypeId} {w : World} {B : Nat} {v : Value} {l : List Int} (h : OInts e w B v l) (h0 : l ≠ []) : ∃ g cap cur, v = .slice (some ⟨g, 0, none⟩) l.length cap ∧ B ≤ g ∧ w.heap[g]? = some (.cells cur e (0, 0)) ∧ l.length ≤ cap ∧ cap ≤ maxLen ∧ cur.size = cap * 1 ∧ cur.toList.take l.length = l.map (Value.int .i64) := by
  rcases h.2 with ⟨_, hz⟩ | ⟨g, cap, cur, rfl, hg, hh, hnc, hm, hcs, ht⟩
  · exact absurd (List.eq_nil_of_length_eq_zero hz) h0
  · exact ⟨g, cap, cur, rfl, hg, hh, hnc, hm, hcs, by have := ht; rw [Nat.mul_one] at this; exact this⟩
/-- the list's neighbors that are equal, once -/
theorem compactI_c (v : Value) (l : List Int) (w w0 : World) (hx0 : Ext w0 w) (h : OInts 3 w w0.heap.size v l) (h0 : l ≠ []) (hl : l.length ≤ 1000000) :
    Calls Try.prog 38 #[v] w fun e w' => ∃ v', e = .returned v' ∧ Ints w' v' (Go.Lib.compact l) ∧ Ext w0 w' := by
  obtain ⟨g, cap, cur, rfl, hg, hh, hnc, hm, hcs, ht⟩ := h.spotI h0
  have hH := holds_of_blockI (ss := l) hh ht
  refine (Any.slices_Compact_int cmpILays g 0 cap l w hH (by omega) hnc).mono ?_
  rintro e w' ⟨rfl, q, rfl⟩
  have hle := Go.Lib.compact_length_le l
  obtain ⟨ts, hts⟩ : ∃ ts, Go.Lib.compact l ++ List.replicate (l.length - (Go.Lib.compact l).length) 0 = ts := ⟨_, rfl⟩
  have htl : ts.length = l.length := by rw [← hts]; simp; omega
  have ho := ownsRow_sortedI (n := q) (os := #[]) (ss := l) (ts := ts) htl hg hh hnc hm hcs
  have hgr := grownBy_sortedI (w := w) (g := g) (n := q) (os := #[]) ts.toArray
  rw [Go.Sort.grow_empty] at ho hgr
  rw [hts]
  refine ⟨_, rfl, ?_, grownI_ext hx0 hg hgr⟩
  have hi : Ints _ _ ts := Ints.own (B := w0.heap.size) (by rw [htl]; exact ho)
  obtain ⟨a, c, hv, h1, h2, H⟩ := hi.open_
  injection hv with hv1 _ hv2; subst hv1 hv2
  refine ⟨_, _, rfl, by omega, hm, fun i hi => ?_⟩
  obtain ⟨b, o, he, hc⟩ := H.out i (by omega)
  refine ⟨b, o, he, ?_⟩
  refine hc.trans ?_
  rw [← hts, List.getElem?_append_left hi]
set_option maxHeartbeats 400000 in
theorem sortedI_c (v : Value) (bp : Nat) (w0 : World) (l : List Int) (hb : w0.cell? ⟨bp, 0, none⟩ = some v) (hu : Ints w0 v l) (h0 : l ≠ []) (hn : l.length ≤ 100000) :
    Calls Try.prog 39 #[.func (.func 58) #[] #[.pointer (some ⟨bp, 0, none⟩)]] w0
      fun e w' => ∃ v', e = .returned v' ∧ OInts 3 w' w0.heap.size v' (sortZ l) ∧ Ext w0 w' := by
  have hlen : (ints l).length = l.length := by simp [ints]
  have HCO := Lib.hid (collectV_c 58 #[.pointer (some ⟨bp, 0, none⟩)] (ints l) w0 (enters_of Try.func58 (by kernel_rfl) rfl) (by rw [hlen]; omega) (fun u hu => by
      obtain ⟨x, _, rfl⟩ := List.mem_map.1 hu
      exact ⟨x, rfl⟩) (fun W row hW hrow => values1_c v l bp W row (fun r hr e => by subst e; have := hrow _ hr; have := cell_lt hb; dsimp only at this; omega) (hW.keep hb) (fun W2 hg => by
      have hx : Ext w0 W2 := ⟨hg.os.trans hW.os, hg.tape.trans hW.tape, hg.output.trans hW.output, Nat.le_trans hW.size hg.size, fun k hk => (hg.block k (Nat.lt_of_lt_of_le hk hW.size) (fun e => by have := hrow _ e.symm; omega)).trans (hW.block k hk)⟩
      exact hu.ext hx)))
  have HSO := Lib.hid (fun (v2 : Value) (w1 : World) (h1 : OInts 3 w1 w0.heap.size v2 l) => sortI_c v2 l w1 w0.heap.size h1 (by omega))
  have HL : Hid ((ints l).length = l.length) := Lib.hid hlen
  have H0 := Lib.hid h0
  clear hb hu hlen h0
  go_enter Try.func39, Try.ntmps39
  go_wp2_with fail
  refine HCO.out.mono ?_; rintro e w1 ⟨v2, rfl, ho, hx1⟩
  rw [HL.out] at ho
  have HS := Lib.hid (HSO.out _ w1 ho)
  obtain ⟨g, cap, _, rfl, hg, _⟩ := OInts.spotI ho H0.out
  clear ho
  go_wp2_with fail
  refine HS.out.mono ?_; rintro e w2 ⟨rfl, ho2, hg2⟩
  have HE := Lib.hid (And.intro ho2 (grownI_ext hx1 hg hg2))
  clear ho2 hg2
  go_wp2_with fail
  go_ret
  exact ⟨_, rfl, HE.out.1, HE.out.2⟩
theorem Values_c (v : Value) (l : List Int) (w : World) (h : Ints w v l) : Calls Try.prog 40 #[v] w fun e w' => e = .returned (.func (.func 58) #[] #[.pointer (some ⟨w.heap.size, 0, none⟩)]) ∧ w' = w.alloc (.cells #[v] 22) := by
  obtain ⟨a, c, rfl, _⟩ := h.open_
  clear h
  go_enter Try.func40, Try.ntmps40
  go_wp2_with fail
  go_ret
  exact ⟨rfl, rfl⟩
set_option maxHeartbeats 1000000 in
theorem isOrder_c (v : Value) (l : List Int) (w : World) (h : Ints w v l) : Calls Try.prog 17 #[v] w (RV (.bool (ordB l)) w) := by
  have HI := Lib.hid h
  obtain ⟨a, c, rfl, h1, h2, _⟩ := h.open_
  rw [ordB_sorted]
  clear h
  by_cases hl : l.length = 6
  · have hd : ((l.length : Int) == 6) = true := by rw [hl]; rfl
    have hne : l ≠ [] := fun e => by rw [e] at hl; cases hl
    have hsl : sortZ l ≠ [] := fun e => by have := sortZ_len l; rw [e, hl] at this; cases this
    rw [decide_eq_true hl, Bool.true_and]
    have HN := Lib.hid hne; have HSN := Lib.hid hsl
    have hln : l.length ≤ 100 := by omega
    have HLN := Lib.hid hln
    clear hl hne hsl hln
    go_enter Try.func17, Try.ntmps17
    go_wp2_with fail
    refine (Values_c _ l w HI.out).mono ?_; rintro e w1 ⟨rfl, hw1⟩
    have hx1 : Ext w w1 := by rw [hw1]; exact Ext.alloc _ _
    have hc1 : w1.cell? ⟨w.heap.size, 0, none⟩ = some (.slice a l.length c) := by rw [hw1]; exact kept_alloc w _ _ rfl _ (Ext.refl _)
    clear hw1
    go_wp2_with fail
    refine (sortedI_c _ _ w1 l hc1 (HI.out.ext hx1) HN.out (by have := HLN.out; omega)).mono ?_; rintro e w2 ⟨v2, rfl, ho2, hx2⟩
    have HC := Lib.hid (compactI_c v2 (sortZ l) w2 w1 hx2 ho2 HSN.out (by rw [sortZ_len]; have := HLN.out; omega))
    clear ho2
    go_wp2_with fail
    refine HC.out.mono ?_; rintro e w3 ⟨v3, rfl, ho3, hx3⟩
    have HO := Lib.hid ho3; clear ho3
    obtain ⟨a3, c3, rfl, _⟩ := HO.out.open_
    go_wp2_with fail
    have hE := equalInts_c (.slice a3 (Go.Lib.compact (sortZ l)).length c3) (.slice (some ⟨w3.heap.size, 0, none⟩) 6 6) (Go.Lib.compact (sortZ l)) [0, 1, 2, 3, 4, 5] _ (HO.out.ext (Ext.alloc w3 (.cells (([0, 1, 2, 3, 4, 5] : List Int).map (fun i => Value.int .i64 i)).toArray 3))) (ints_lit rfl (by omega) fun i hi => alloc_cell w3 _ 3 (by rw [List.getElem?_toArray, List.getElem?_map, List.getElem?_eq_getElem (by simpa using hi)]; simp))
    refine hE.mono ?_
    rw [sameIntsB_iff]
    generalize (Go.Lib.compact (sortZ l) == [0, 1, 2, 3, 4, 5]) = bb at *
    rintro e w4 ⟨rfl, n4, hw4⟩
    have hx4 : Ext w w4 := hx1.trans (hx3.trans ((Ext.alloc _ _).trans (by rw [hw4]; exact Ext.drewN _ _)))
    clear hE hw4
    go_wp2_with fail
    go_ret
    exact RV.bool rfl hx4
  · have hd : ((l.length : Int) == 6) = false := by rw [beq_eq_false_iff_ne]; omega
    rw [decide_eq_false hl, Bool.false_and]
    clear hl
    go_enter Try.func17, Try.ntmps17
    go_wp2_with fail
    go_ret
    exact RV.bool rfl (Ext.refl _)
end Go.Proofs.Ythmdecgkbjdabaa
