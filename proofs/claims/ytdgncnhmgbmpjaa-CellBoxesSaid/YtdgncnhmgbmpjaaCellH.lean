/- Walks: slices.Collect over the cells; the cells of which something is true. -/
import Derived.Test.YtdgncnhmgbmpjaaCellG
namespace Go.Proofs.Ytdgncnhmgbmpjaa
open Go.RowKit Go.Shelf
set_option linter.unusedVariables false
attribute [local go_sem] Oper.semAt_some

theorem elRows : ElTy Try.prog 26 22 1 24 (.slice none 0 0) := ⟨Try.underlying26, by kernel_rfl, rfl, by omega⟩

theorem IntsT.kept_not {e : TypeId} {c : Nat} {x : List Int} {v : Value} {W W' : World} {row : Option Nat} (h : IntsT e c x v W) (hg : W.grownBy W' row)
    (hr : ∀ r, row = some r → r = c ∨ ∃ o : Obj, W.heap[r]? = some o ∧ ∀ cur fr, o ≠ .cells cur e fr) : IntsT e c x v W' :=
  h.kept hg fun r hrow hv => by
    obtain ⟨h1, cur, fr, h2⟩ := h.2 r hv
    rcases hr r hrow with h3 | ⟨o, h3, h4⟩
    · exact h1 h3
    · rw [h2] at h3; cases h3; exact h4 cur fr rfl
theorem not_cells {o : Obj} {e : TypeId} (h : o.isCells = false) : ∀ cur fr, o ≠ .cells cur e fr := by
  rintro cur fr rfl; cases h
/-- values that read as these lists -/
def AllT (e : TypeId) (c : Nat) (W : World) (us : List Value) (ls : List (List Int)) : Prop := us.length = ls.length ∧ ∀ (i : Nat) (u : Value), us[i]? = some u → IntsT e c (ls[i]?.getD []) u W
theorem AllT.nil (e : TypeId) (c : Nat) (W : World) : AllT e c W [] [] := ⟨rfl, fun i u hu => by simp at hu⟩
theorem AllT.kept {e : TypeId} {c : Nat} {W W' : World} {us : List Value} {ls : List (List Int)} {row : Option Nat} (h : AllT e c W us ls) (hg : W.grownBy W' row)
    (hr : ∀ r, row = some r → r = c ∨ ∃ o : Obj, W.heap[r]? = some o ∧ ∀ cur fr, o ≠ .cells cur e fr) : AllT e c W' us ls :=
  ⟨h.1, fun i u hu => (h.2 i u hu).kept_not hg hr⟩
theorem AllT.ext {e : TypeId} {c : Nat} {W W' : World} {us : List Value} {ls : List (List Int)} (h : AllT e c W us ls) (hx : Ext W W') : AllT e c W' us ls := h.kept (grownBy_of_ext hx none) (fun r e => by cases e)
theorem AllT.snoc {e : TypeId} {c : Nat} {W : World} {us : List Value} {ls : List (List Int)} {u : Value} {l : List Int} (h : AllT e c W us ls) (hu : IntsT e c l u W) : AllT e c W (us ++ [u]) (ls ++ [l]) := by
  obtain ⟨h1, h2⟩ := h
  refine ⟨by simp [h1], fun i x hx => ?_⟩
  rcases Nat.lt_or_ge i us.length with hi | hi
  · rw [List.getElem?_append_left hi] at hx
    rw [List.getElem?_append_left (by omega)]
    exact h2 i x hx
  · rw [List.getElem?_append_right hi] at hx
    rw [List.getElem?_append_right (by omega)]
    rcases Nat.eq_zero_or_pos (i - us.length) with h0 | h0
    · rw [h0] at hx; simp at hx; subst hx
      rw [show i - ls.length = 0 by omega]; exact hu
    · rw [List.getElem?_eq_none (by simp; omega)] at hx; cases hx
theorem AllT.all {e : TypeId} {c : Nat} {W : World} {us : List Value} {ls : List (List Int)} (h : AllT e c W us ls) : AllInts W us ls := ⟨h.1, fun i u hu => (h.2 i u hu).1⟩

/-- rows collected so far -/
def CollR (e t tb : TypeId) (wS : World) (Bo : Nat) (ls : List (List Int)) (c : Nat) (W : World) : Prop := ∃ us, Coll t tb wS Bo us c W ∧ AllT e c W us ls
theorem CollR.kept {e t tb : TypeId} {wS W W' : World} {Bo c : Nat} {ls : List (List Int)} (h : CollR e t tb wS Bo ls c W) (hBo : Bo < wS.heap.size) {row : Option Nat} (hg : W.grownBy W' row)
    (hr : ∀ r, row = some r → wS.heap.size ≤ r ∧ (r = c ∨ ∃ o : Obj, W.heap[r]? = some o ∧ o.isCells = false)) : CollR e t tb wS Bo ls c W' := by
  obtain ⟨us, h1, h2⟩ := h
  exact ⟨us, h1.kept hBo hg hr, h2.kept hg fun r h => (hr r h).2.imp id fun ⟨o, ho, hc⟩ => ⟨o, ho, not_cells hc⟩⟩
theorem collR_step {e t tb : TypeId} {wS W Wa w' : World} {Bo c g' cap' : Nat} {us : List Value} {ls : List (List Int)} {l : List Int} {u v : Value} (hgr : wS.grownBy W (some Bo)) (hb : Boxed W Bo tb v) (ho : W.ownsRow wS.heap.size t 1 v us.length us) (hvc : v.ownBlock ≠ some c)
    (hal : AllT e c W us ls) (hu : IntsT e c l u W)
    (hBo : Bo < wS.heap.size) (hc : wS.heap.size ≤ c) (hcl : c < W.heap.size) (hne : tb ≠ t) (hne2 : t ≠ e) (hne3 : tb ≠ e) (hx : Ext W Wa)
    (ho' : w'.ownsRow wS.heap.size t 1 (.slice (some ⟨g', 0, none⟩) (us.length + 1) cap') (us.length + 1) (us ++ [u])) (hg : Wa.grownBy w' v.ownBlock) (hv' : some g' = v.ownBlock ∨ Wa.heap.size ≤ g') :
    KeepsOthers W (w'.setCell ⟨Bo, 0, none⟩ (.slice (some ⟨g', 0, none⟩) (us.length + 1) cap')) ∧ (w'.setCell ⟨Bo, 0, none⟩ (.slice (some ⟨g', 0, none⟩) (us.length + 1) cap')).heap[c]? = W.heap[c]? ∧
    wS.grownBy (w'.setCell ⟨Bo, 0, none⟩ (.slice (some ⟨g', 0, none⟩) (us.length + 1) cap')) (some Bo) ∧ CollR e t tb wS Bo (ls ++ [l]) c (w'.setCell ⟨Bo, 0, none⟩ (.slice (some ⟨g', 0, none⟩) (us.length + 1) cap')) := by
  obtain ⟨h1, h2, h3, h4⟩ := coll_step hgr hb ho hvc hBo hc hcl hne hx ho' hg hv'
  refine ⟨h1, h2, h3, us ++ [u], h4, ?_⟩
  have hBne : some Bo ≠ v.ownBlock := hb.not_row hne ho
  have hb2 : Boxed Wa Bo tb v := (hx.block _ hb.lt).trans hb
  have hb' : Boxed w' Bo tb v := hb2.kept hg hBne
  have hoc := ownBlock_cells (ownsRow_ext ho hx)
  have ha1 := ((hal.snoc hu).ext hx).kept hg (fun r hr => .inr (by
    obtain ⟨cur, hh, _⟩ := hoc r hr
    exact ⟨_, hh, fun c f h => hne2 (by injection h)⟩))
  exact ha1.kept (grownBy_set _ _ _ _) (fun r hr => .inr (by cases hr; exact ⟨_, hb', fun c f h => hne3 (by injection h)⟩))

set_option maxHeartbeats 1000000 in
theorem appendSeq_c (g : Nat) (lb : Array Value) (xs : List (List Int)) (w : World) (eg : Enters Try.prog g) (hn : xs.length ≤ 1000000)
    (hseq : ∀ W row, Ext w W → (∀ r, row = some r → w.heap.size ≤ r) → IterC Try.prog g lb (IntsT 3) xs W row) :
    Calls Try.prog 51 #[.slice none 0 0, .func (.func g) #[] lb] w (RRows xs w) := by
  refine (callsIn_wide (n := 0)).1 (callsIn_of_wp_marks Try.func51 rfl trivial ?_ rfl)
  simp only [Try.ntmps51, List.size_toArray, List.length_cons, List.length_nil, Nat.reduceAdd, Nat.reduceSub, Array.replicate_succ, Array.replicate_zero, List.push_toArray, List.append_toArray, List.nil_append, List.cons_append]
  obtain ⟨wS, hwS⟩ : ∃ wS, wS = w.alloc (.cells #[.slice none 0 0] 26) := ⟨_, rfl⟩
  have hX : Ext w wS := by rw [hwS]; exact Ext.alloc _ _
  have hsz : wS.heap.size = w.heap.size + 1 := by rw [hwS]; simp
  have hout : Boxed wS w.heap.size 26 (.slice none 0 0) := by rw [hwS]; exact Boxed.new _ _ _
  have HS := Lib.hid (hseq wS (some w.heap.size) hX (fun r h => by cases h; omega)); clear hseq
  gi_wp2_with fail
  rw [← hwS]
  have hfree := Lib.hid hwS; clear hwS
  refine wp_range (Φ := IntsT 3) rfl eg (fun c x v W W' row h hg hr => h.kept_non hg (fun r e => .inr (hr r e)))
    HS.out (World.grownBy.refl _ _)
    (fun c k W => CollR 3 22 26 wS w.heap.size (xs.take k) c W)
    (fun c k W1 W2 row hi _ hg hr => hi.kept (by omega) hg hr)
    (fun c hc => ⟨[], ⟨World.grownBy.refl _ _, _, hout, World.ownsRow_nil _ _ _ _, by simp [Value.ownBlock]⟩, AllT.nil _ _ _⟩)
    (fun v => { tmps := #[.slice none 0 0, .func (.func g) #[] lb, .pointer (some ⟨w.heap.size, 0, none⟩), undef, .slice none 0 0, v, .func (.func g) #[] lb, v, undef, undef, undef, undef, undef], defers := [] })
    ?assign ?body ?done
  case assign =>
    intro l v W K hK
    gi_wp2
    exact hK
  case body =>
    rintro l c k x v W hx ⟨us, ⟨hgr, vo, hb, ho, hvc⟩, hal⟩ hc hcl hxW hix
    have hk : k < xs.length := (List.getElem?_eq_some_iff.1 hx).1
    have hlen : us.length ≤ 1000000 := by rw [hal.1]; simp; omega
    have hsucc : xs.take (k + 1) = xs.take k ++ [x] := by rw [List.take_add_one, hx]; rfl
    rw [hsucc]; clear hsucc
    generalize xs.take k = ls at *
    obtain ⟨av, cv, rfl, _⟩ := hix.1.open_
    have hbc := hb.cell
    have HIX := Lib.hid hix; clear hix
    gi_wp2_with (gi_at_builtin
                 refine wpListIn_of (by intro a w h; exact h) _ (by intro o ho c hc; simp only [List.mem_cons, List.not_mem_nil, or_false] at ho; rcases ho with rfl | rfl <;> cases hc) _ _ ?_)
    refine wpList_append1G elRows rfl _ _ rfl rfl rfl ho rfl rfl (by have := hgr.size; omega) (by omega) (by omega) ?_
    intro g' cap' w' ho' hg' hv'
    have S := Lib.hid (collR_step hgr hb ho hvc hal HIX.out (by omega) hc hcl (by decide) (by decide) (by decide) (Ext.refl _) ho' hg' hv')
    have hbw := Boxed.kept (W := W) hb hg' (hb.not_row (by decide) ho)
    have hbc := hbw.cell
    have hbf := hbw.frozen
    go_wp2_with fail
    exact ⟨S.out.1, S.out.2.1, S.out.2.2.1, S.out.2.2.2⟩
  case done =>
    rintro D c W hD hc hDc ⟨us, ⟨hgr, vo, hb, ho, hvc⟩, hal⟩ hK
    rw [List.take_length] at hal
    have hbc := hb.cell
    have hXW := grown_below hX hgr (fun r h => by cases h; omega)
    have ho2 := ownsRow_putObj ho (.deferred none) hK rfl
    have hal2 := hal.kept (grownBy_putObj' W D (.deferred none)) (fun r h => by cases h; exact .inr ⟨_, hK, not_cells rfl⟩)
    have hfin : Ext w (W.putObj D (.deferred none)) := Below.trans hXW ⟨rfl, rfl, rfl, by simp, fun k hk => World.putObj_heap_other (by omega)⟩
    have HF := Lib.hid (And.intro ho2 (And.intro hal2 hfin))
    clear ho ho2 hal hal2 hfin
    gi_wp2_with fail
    refine ⟨by simp, .inl ⟨_, _, rfl, run_takeDeferred hK, ?_⟩⟩
    refine ⟨_, results_tmp rfl _ _ _, ?_⟩
    exact ⟨_, rfl, Rows.own (by rw [← HF.out.2.1.1]; exact HF.out.1) HF.out.2.1.all, HF.out.2.2⟩

set_option maxHeartbeats 400000 in
theorem collect_c (g : Nat) (lb : Array Value) (xs : List (List Int)) (w : World) (eg : Enters Try.prog g) (hn : xs.length ≤ 1000000)
    (hseq : ∀ W row, Ext w W → (∀ r, row = some r → w.heap.size ≤ r) → IterC Try.prog g lb (IntsT 3) xs W row) :
    Calls Try.prog 35 #[.func (.func g) #[] lb] w (RRows xs w) := by
  have HA := Lib.hid (appendSeq_c g lb xs w eg hn hseq); clear hseq
  go_enter Try.func35, Try.ntmps35
  go_wp2_with fail
  refine HA.out.mono ?_
  rintro e w' ⟨v, rfl, hr, hx⟩
  have HR := Lib.hid hr; clear hr
  go_wp2_with fail
  go_ret
  exact ⟨v, rfl, HR.out, hx⟩

theorem keepsOthers_of_ext {W W' : World} (h : Ext W W') : KeepsOthers W W' := ⟨h.size, fun k o hk _ => (h.block k (Array.getElem?_eq_some_iff.1 hk).1).trans hk⟩
set_option maxHeartbeats 1000000 in
theorem where_c (sv ev : Value) (sizes : List Int) (g : Nat) (lb : Array Value) (pred : List Int → Bool) (w : World) (eg : Enters Try.prog g) (hs : Ints w sv sizes) (hok : sizesOk sizes)
    (hg : ∀ W x v, Ext w W → x ∈ cellsOf sizes → Ints W v x → Calls Try.prog g (#[v] ++ lb) W (RV (.bool (pred x)) W)) :
    Calls Try.prog 29 #[.agg #[sv, ev], .func (.func g) #[] lb] w (RRows ((cellsOf sizes).filter pred) w) := by
  have HOK := Lib.hid hok; have HG := Lib.hid hg
  have hcount := cells_count hok
  clear hok hg
  refine (callsIn_wide (n := 0)).1 (callsIn_of_wp_marks Try.func29 rfl trivial ?_ rfl)
  simp only [Try.ntmps29, List.size_toArray, List.length_cons, List.length_nil, Nat.reduceAdd, Nat.reduceSub, Array.replicate_succ, Array.replicate_zero, List.push_toArray, List.append_toArray, List.nil_append, List.cons_append]
  gi_wp2_with fail
  refine ⟨trivial, rfl, (callsIn_wide.2 (cellsF_c _ sv ev rfl _)).mono ?_⟩
  rintro e w1 ⟨rfl, rfl⟩
  obtain ⟨wA, hwA⟩ : ∃ wA, wA = w.alloc (.cells #[sv, ev] 25) := ⟨_, rfl⟩
  obtain ⟨wB, hwB⟩ : ∃ wB, wB = wA.alloc (.cells #[.func (.func g) #[] lb] 44) := ⟨_, rfl⟩
  obtain ⟨wC, hwC⟩ : ∃ wC, wC = wB.alloc (.cells #[.slice none 0 0] 26) := ⟨_, rfl⟩
  obtain ⟨wS, hwS⟩ : ∃ wS, wS = wC.alloc (.cells #[sv, ev] 25) := ⟨_, rfl⟩
  have zA : wA.heap.size = w.heap.size + 1 := by rw [hwA]; simp
  have zB : wB.heap.size = w.heap.size + 2 := by rw [hwB]; simp [zA]
  have zC : wC.heap.size = w.heap.size + 3 := by rw [hwC]; simp [zB]
  have hsz : wS.heap.size = w.heap.size + 4 := by rw [hwS]; simp [zC]
  have hBS : Ext wB wS := by rw [hwS, hwC]; exact (Ext.alloc _ _).trans (Ext.alloc _ _)
  have hX : Ext w wS := Ext.trans (b := wB) (by rw [hwB, hwA]; exact (Ext.alloc _ _).trans (Ext.alloc _ _)) hBS
  have hbox : wS.cell? ⟨w.heap.size + 3, 0, none⟩ = some sv := by rw [hwS, ← zC]; exact alloc_cell _ _ _ rfl
  have hf0 : wS.cell? ⟨w.heap.size + 1, 0, none⟩ = some (.func (.func g) #[] lb) := hBS.keep (by rw [hwB, ← zA]; exact alloc_cell _ _ _ rfl)
  have hout : Boxed wS (w.heap.size + 2) 26 (.slice none 0 0) := by rw [hwS, hwC, ← zB]; exact (Boxed.new _ _ _).alloc _
  gi_wp2_with fail
  rw [← hwA, ← hwB, ← hwC, ← hwS]
  have hfree := Lib.hid (And.intro hwA (And.intro hwB (And.intro hwC hwS))); clear hwA hwB hwC hwS
  have Z := Lib.hid (And.intro zA (And.intro zB zC)); clear zA zB zC
  refine wp_range (Φ := IntsT 3) rfl (enters_of Try.func52 (by kernel_rfl) rfl) (fun c x v W W' row h hg hr => h.kept_non hg (fun r e => .inr (hr r e)))
    (cells1_c sv sizes (w.heap.size + 3) w wS (some (w.heap.size + 2)) hX (fun r h => by cases h; exact ⟨by omega, by omega⟩) hbox hs HOK.out) (World.grownBy.refl _ _)
    (fun c k W => CollR 3 22 26 wS (w.heap.size + 2) (((cellsOf sizes).take k).filter pred) c W)
    (fun c k W1 W2 row hi _ hg hr => hi.kept (by omega) hg hr)
    (fun c hc => ⟨[], ⟨World.grownBy.refl _ _, _, hout, World.ownsRow_nil _ _ _ _, by simp [Value.ownBlock]⟩, AllT.nil _ _ _⟩)
    (fun v => { tmps := #[.agg #[sv, ev], .func (.func g) #[] lb, .pointer (some ⟨w.heap.size, 0, none⟩), .pointer (some ⟨w.heap.size + 1, 0, none⟩), .slice none 0 0, .pointer (some ⟨w.heap.size + 2, 0, none⟩), v, .agg #[sv, ev], .func (.func 52) #[] #[.pointer (some ⟨w.heap.size + 3, 0, none⟩)], v, undef, undef, undef, undef, undef, undef, undef, undef], defers := [] })
    ?assign ?body ?done
  case assign =>
    intro l v W K hK
    gi_wp2
    exact hK
  case body =>
    rintro l c k x v W hx ⟨us, ⟨hgr, vo, hb, ho, hvc⟩, hal⟩ hc hcl hxW hix
    have hk : k < (cellsOf sizes).length := (List.getElem?_eq_some_iff.1 hx).1
    have hlen : us.length ≤ 27 := by rw [hal.1]; have := List.length_filter_le pred ((cellsOf sizes).take k); simp at this; omega
    have hmem : x ∈ cellsOf sizes := List.mem_of_getElem? hx
    have hsucc : ((cellsOf sizes).take (k + 1)).filter pred = ((cellsOf sizes).take k).filter pred ++ (if pred x then [x] else []) := by
      rw [List.take_add_one, hx, List.filter_append]; simp [List.filter_cons]
    rw [hsucc]; clear hsucc
    generalize ((cellsOf sizes).take k).filter pred = ls at *
    have hXW := grown_below hX hxW (fun r h => by cases h; omega)
    have hqf : W.cell? ⟨w.heap.size + 1, 0, none⟩ = some (.func (.func g) #[] lb) := (World.cell?_of_block (w := wS) (a := ⟨w.heap.size + 1, 0, none⟩) (hxW.block _ (by dsimp only; omega) (by simp))).trans hf0
    have hqc := HG.out W x v hXW hmem hix.1
    obtain ⟨av, cv, rfl, _⟩ := hix.1.open_
    have HIX := Lib.hid hix; clear hix
    unfold Enters at eg
    cases hp : pred x
    · rw [hp] at hqc
      have HQ := Lib.hid hqc; have HP := Lib.hid hp; clear hqc hp
      gi_wp2_with fail
      refine ⟨trivial, rfl, CallsIn.inRound l (callsIn_wide.2 (HQ.out.mono ?_))⟩
      rintro e W2 ⟨rfl, hx2⟩
      gi_wp2_with fail
      have hcol : CollR 3 22 26 wS (w.heap.size + 2) ls c W := ⟨us, ⟨hgr, vo, hb, ho, hvc⟩, hal⟩
      exact ⟨keepsOthers_of_ext hx2, hx2.block c hcl, grown_ext hxW hx2, by
        have := hcol.kept (by omega) (grownBy_of_ext hx2 none) (fun r h => by cases h)
        simpa using this⟩
    · rw [hp] at hqc
      have HQ := Lib.hid hqc; have HP := Lib.hid hp; clear hqc hp
      gi_wp2_with fail
      refine ⟨trivial, rfl, CallsIn.inRound l (callsIn_wide.2 (HQ.out.mono ?_))⟩
      rintro e W2 ⟨rfl, hx2⟩
      have hb2 : Boxed W2 (w.heap.size + 2) 26 vo := (hx2.block _ hb.lt).trans hb
      have hbc2 := hb2.cell
      gi_wp2_with (gi_at_builtin
                   refine wpListIn_of (by intro a w h; exact h) _ (by intro o ho c hc; simp only [List.mem_cons, List.not_mem_nil, or_false] at ho; rcases ho with rfl | rfl <;> cases hc) _ _ ?_)
      refine wpList_append1G elRows rfl _ _ rfl rfl rfl (ownsRow_ext ho hx2) rfl rfl (by have := hgr.size; have := hx2.size; omega) (by omega) (by omega) ?_
      intro g' cap' w' ho' hg' hv'
      have S := Lib.hid (collR_step hgr hb ho hvc hal HIX.out (by omega) hc hcl (by decide) (by decide) (by decide) hx2 ho' hg' hv')
      have hbw := Boxed.kept (W := W2) hb2 hg' (hb.not_row (by decide) ho)
      have hbc := hbw.cell
      have hbf := hbw.frozen
      clear hbc2
      go_wp2_with fail
      exact ⟨S.out.1, S.out.2.1, S.out.2.2.1, S.out.2.2.2⟩
  case done =>
    rintro D c W hD hc hDc ⟨us, ⟨hgr, vo, hb, ho, hvc⟩, hal⟩ hK
    rw [List.take_length] at hal
    have hbc := hb.cell
    have hXW := grown_below hX hgr (fun r h => by cases h; omega)
    have ho2 := ownsRow_putObj ho (.deferred none) hK rfl
    have hal2 := hal.kept (grownBy_putObj' W D (.deferred none)) (fun r h => by cases h; exact .inr ⟨_, hK, not_cells rfl⟩)
    have hfin : Ext w (W.putObj D (.deferred none)) := Below.trans hXW ⟨rfl, rfl, rfl, by simp, fun k hk => World.putObj_heap_other (by omega)⟩
    have HF := Lib.hid (And.intro ho2 (And.intro hal2 hfin))
    clear ho ho2 hal hal2 hfin
    gi_wp2_with fail
    refine ⟨by simp, .inl ⟨_, _, rfl, run_takeDeferred hK, ?_⟩⟩
    refine ⟨_, results_tmp rfl _ _ _, ?_⟩
    exact ⟨_, rfl, Rows.own (by rw [← HF.out.2.1.1]; exact HF.out.1) HF.out.2.1.all, HF.out.2.2⟩
end Go.Proofs.Ytdgncnhmgbmpjaa
