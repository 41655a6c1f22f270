/- A lexicon copied into new memory: copied of the program. -/
import Derived.Test.YtgpggmcjggpmpaaTagCo
import Derived.Test.YtgpggmcjggpmpaaTagAl
import Derived.Test.YtgpggmcjggpmpaaActs
namespace Go.Proofs.Ytgpggmcjggpmpaa
open Go.RowKit Go.Shelf
set_option linter.unusedVariables false

/-- what is owned stays where a block of another kind is written -/
theorem OLexP.keptN {w w' : World} {B g : Nat} {iv fv : Value} {l : Lex} {us vs : List Value} {cur : Array Value} {e : TypeId} (h : OLexP w B iv fv l us vs) (hg : w.grownBy w' (some g)) (hb : w.heap[g]? = some (.cells cur e (0, 0))) (he : e ≠ 3 ∧ e ≠ 26 ∧ e ≠ 28) : OLexP w' B iv fv l us vs := by
  have hne : ∀ {v : Value} {T : TypeId} {B n size : Nat} {xs : List Value}, w.ownsRow B T size v n xs → e ≠ T → v.ownBlock = none ∨ v.ownBlock ≠ some g := fun {v T B n size xs} ho hT => by
    cases hv : v.ownBlock with
    | none => exact .inl rfl
    | some r =>
      refine .inr (fun e1 => ?_)
      injection e1 with e1; subst e1
      obtain ⟨cur', h1, _⟩ := ownBlock_cells ho r hv
      rw [hb] at h1; injection h1 with h1; injection h1 with _ h1 _; exact hT h1
  exact ⟨h.i.kept hg (hne h.i he.2.2), h.f.kept hg (hne h.f he.2.1), h.wi.kept hg (fun r e1 => by injection e1 with e1; subst e1; exact h.wi.noInt hb he.1), h.wf.kept hg (fun r e1 => by injection e1 with e1; subst e1; exact h.wf.noInt hb he.1), h.ap⟩
theorem elItems : ElTy Try.prog 22 28 3 40 (.agg #[.slice none 0 0, .int .i64 0, .int .i64 0]) := ⟨Try.underlying22, by kernel_rfl, rfl, by omega⟩
/-- append of one value that lies in some block; which block the row is in then -/
theorem wpList_appendN {P : Program} {ops : Array Oper} {rest : List Oper} {o : Oper} {a : Act} {Q : Exit → Act → World → Prop} {W : World} {B size bytes : Nat} {t e : TypeId} {z : Value} {v : Value} {n g : Nat} {xs news : List Value}
    (hT : ElTy P t e size bytes z) (hgd : o.guard = none) (s x : Operand) (ho : o.op = .call { callee := .builtin .append, args := #[s, x], argTypes := #[t, t] })
    (hs : a.eval s = v) (hx : a.eval x = .slice (some ⟨g, 0, none⟩) 1 1) (hown : W.ownsRow B e size v n xs) (hl : news.length = size) (hc : Blk W g e news) (h1 : ∀ u ∈ news, u.oneCell' = true) (hB : B ≤ W.heap.size)
    (hlen : (n + 1) * bytes ≤ 140737488355328) (hn : n + 1 ≤ 9223372036854775807)
    (h : ∀ g' cap' w', w'.ownsRow B e size (.slice (some ⟨g', 0, none⟩) (n + 1) cap') (n + 1) (xs ++ news) → W.grownBy w' v.ownBlock → wpList P ops Q rest (a.put o.dst (.slice (some ⟨g', 0, none⟩) (n + 1) cap')) w') : wpList P ops Q (o :: rest) a W := by
  obtain ⟨i0, hi, hz0, hz1, hz2⟩ := info_parts hT.info
  refine wpList_plain hgd fun _ hK => ?_
  obtain ⟨v', w', hrun, h2, h3, _, _⟩ := run_append_own_at (P := P) W B t o.type e i0 z size bytes hT.ht hi hz0 hz1 hz2 hT.zc hT.pos v n xs hown
    ⟨g, 0, none⟩ 1 1 news (by rw [Nat.one_mul]; exact hl) (by
      intro j u hu
      rw [addr_add, Nat.zero_add]
      exact hc.cell hu) h1 (by unfold maxLen; omega) hlen hB
  have hform : ∃ g' cap', v' = .slice (some ⟨g', 0, none⟩) (n + 1) cap' := by
    rcases h2.2 with ⟨_, h0⟩ | ⟨g', cap', _, rfl, _⟩
    · omega
    · exact ⟨g', cap', rfl⟩
  obtain ⟨g', cap', rfl⟩ := hform
  unfold Oper.wp execOp
  simp only [ho, resolve, invoke, builtin, Sem.run_bind, Sem.run_pure, Result.andThen_ok, List.map_toArray, List.map_cons, List.map_nil, hs, hx, hrun]
  exact hK _ _ (h g' cap' w' h2 h3)
theorem Ints.oneCell {w : World} {v : Value} {l : List Int} (h : Ints w v l) : v.oneCell' = true := by obtain ⟨_, _, rfl, _⟩ := h; rfl
theorem empty_row (V : World) : OInts 3 (V.alloc (.cells #[] 3)) V.heap.size (.slice (some ⟨V.heap.size, 0, none⟩) 0 0) [] :=
  ⟨rfl, .inr ⟨V.heap.size, 0, #[], rfl, Nat.le_refl _, World.alloc_heap_new V _, Nat.le_refl _, by unfold maxLen; omega, rfl, rfl⟩⟩
theorem take_itm (is : List Itm) {k : Nat} (hk : k < is.length) : is.take (k + 1) = is.take k ++ [itm is k] := by
  rw [List.take_add_one, itm, List.getElem?_eq_getElem hk]; rfl
theorem take_row (f : List (List Int)) {k : Nat} (hk : k < f.length) : f.take (k + 1) = f.take k ++ [f[k]?.getD []] := by
  rw [List.take_add_one, List.getElem?_eq_getElem hk]; rfl
/-- a lexicon in memory of the call's own comes back -/
def RLexC (l : Lex) (w : World) (e : Ending) (w' : World) : Prop := ∃ iv fv, e = .returned (.agg #[iv, fv]) ∧ OLex w' w.heap.size iv fv l ∧ Ext w w'
/-- two boxes and what is owned, while the copy is made -/
structure CpS (w wL wr : World) (iv fv : Value) (l : Lex) : Prop where
  x : Ext wL wr
  r : Blk wr (w.heap.size + 1) 25 [.slice none 0 0, .slice none 0 0]
  o : Blk wr (w.heap.size + 1 + 1) 25 [iv, fv]
  l : OLex wr wL.heap.size iv fv l
theorem CpS.ext {w wL wr w' : World} {iv fv : Value} {l : Lex} (h : CpS w wL wr iv fv l) (hx : Ext wr w') : CpS w wL w' iv fv l := ⟨h.x.trans hx, h.r.ext hx, h.o.ext hx, h.l.ext hx⟩
theorem ownsRow_notBlk {w : World} {B size n g : Nat} {e T : TypeId} {v : Value} {xs cs : List Value} (h : w.ownsRow B e size v n xs) (hb : Blk w g T cs) (hne : e ≠ T) : v.ownBlock ≠ some g := fun hv => by
  obtain ⟨cur, h1, _⟩ := ownBlock_cells h g hv
  have h2 : w.heap[g]? = _ := hb
  rw [h1] at h2; injection h2 with h2; injection h2 with _ h2 _; exact hne h2
/-- an item more: the row grew, its box tells the new one -/
theorem CpS.item {w wL wr W w' : World} {iv : Value} {is : List Itm} {x : Itm} {us : List Value} {u : Value} {n g' cap' : Nat} (hn : n = is.length) (h : CpS w wL wr iv (.slice none 0 0) ⟨is, []⟩) (hO : OLexP wr wL.heap.size iv (.slice none 0 0) ⟨is, []⟩ us []) (hx : Ext wr W) (hz : wL.heap.size = w.heap.size + 1) (hu : OInts 3 W wr.heap.size u x.w)
    (h2 : w'.ownsRow wL.heap.size 28 3 (.slice (some ⟨g', 0, none⟩) (n + 1) cap') (n + 1) (iCells us is ++ [u, .int .i64 x.k, .int .i64 x.c])) (hg : W.grownBy w' iv.ownBlock) :
    Blk w' (w.heap.size + 1 + 1) 25 [iv, .slice none 0 0] ∧ CpS w wL (w'.setCell ⟨w.heap.size + 1 + 1, 0, none⟩ (.slice (some ⟨g', 0, none⟩) (n + 1) cap')) (.slice (some ⟨g', 0, none⟩) (n + 1) cap') (.slice none 0 0) ⟨is ++ [x], []⟩ := by
  subst hn
  have hW := h.ext hx
  have hOW := hO.ext hx
  have hn1 := ownsRow_notBlk hOW.i hW.o (by decide)
  have hn2 := ownsRow_notBlk hOW.i hW.r (by decide)
  have ho := hW.o.kept hg hn1
  have hr := hW.r.kept hg hn2
  have hp := hO.pushI hx hu h.x.size h2 hg
  have hxw : Ext wL w' := grown_below hW.x hg (fun r hr => (ownBlock_cells hOW.i r hr).elim fun _ h => h.2)
  refine ⟨ho, hxw.setCell (by omega) _ _, hr.other (by omega) _ _, ?_, ⟨us ++ [u], [], hp.keptN (grownBy_set _ _ _ _) ho ⟨by decide, by decide, by decide⟩⟩⟩
  have := ho.set 0 (.slice (some ⟨g', 0, none⟩) (is.length + 1) cap')
  exact this
theorem CpS.row {w wL wr W w' : World} {iv fv : Value} {l : Lex} {rw : List Int} {us vs : List Value} {u : Value} {n g' cap' : Nat} (hn : n = l.f.length) (h : CpS w wL wr iv fv l) (hO : OLexP wr wL.heap.size iv fv l us vs) (hx : Ext wr W) (hz : wL.heap.size = w.heap.size + 1) (hu : OInts 3 W wr.heap.size u rw)
    (h2 : w'.ownsRow wL.heap.size 26 1 (.slice (some ⟨g', 0, none⟩) (n + 1) cap') (n + 1) (vs ++ [u])) (hg : W.grownBy w' fv.ownBlock) :
    Blk w' (w.heap.size + 1 + 1) 25 [iv, fv] ∧ CpS w wL (w'.setCell ⟨w.heap.size + 1 + 1, 1, none⟩ (.slice (some ⟨g', 0, none⟩) (n + 1) cap')) iv (.slice (some ⟨g', 0, none⟩) (n + 1) cap') ⟨l.i, l.f ++ [rw]⟩ := by
  subst hn
  have hW := h.ext hx
  have hOW := hO.ext hx
  have hn1 := ownsRow_notBlk hOW.f hW.o (by decide)
  have hn2 := ownsRow_notBlk hOW.f hW.r (by decide)
  have ho := hW.o.kept hg hn1
  have hr := hW.r.kept hg hn2
  have hp := hO.pushF hx hu h.x.size h2 hg
  have hxw : Ext wL w' := grown_below hW.x hg (fun r hr => (ownBlock_cells hOW.f r hr).elim fun _ h => h.2)
  refine ⟨ho, hxw.setCell (by omega) _ _, hr.other (by omega) _ _, ?_, ⟨us, vs ++ [u], hp.keptN (grownBy_set _ _ _ _) ho ⟨by decide, by decide, by decide⟩⟩⟩
  have := ho.set 1 (.slice (some ⟨g', 0, none⟩) (l.f.length + 1) cap')
  exact this
set_option maxHeartbeats 8000000 in
set_option maxRecDepth 100000 in
theorem copied_c (iv fv : Value) (l : Lex) (w : World) (h : LexR w iv fv l) (hbd : (∀ j, j < l.i.length → (itm l.i j).w.length ≤ 1000) ∧ (∀ j, j < l.f.length → (l.f[j]?.getD []).length ≤ 1000) ∧ l.i.length ≤ 1000 ∧ l.f.length ≤ 1000) : Calls Try.prog 73 #[.agg #[iv, fv]] w (RLexC l w) := by
  obtain ⟨wL, hwL⟩ : ∃ wL, wL = w.alloc (.cells #[iv, fv] 25) := ⟨_, rfl⟩
  have hE0 : Ext w wL := by rw [hwL]; exact Ext.alloc _ _
  have hzL : wL.heap.size = w.heap.size + 1 := by rw [hwL]; simp
  have k0 : ∀ W, Ext wL W → W.cell? ⟨w.heap.size, 0, none⟩ = some iv := by rw [hwL]; exact kept_alloc w _ _ rfl
  have k1 : ∀ W, Ext wL W → W.cell? ⟨w.heap.size, 1, none⟩ = some fv := by rw [hwL]; exact kept_alloc w _ _ rfl
  obtain ⟨wM, hwM⟩ : ∃ wM, wM = wL.alloc (.cells #[.slice none 0 0, .slice none 0 0] 25) := ⟨_, rfl⟩
  have hzM : wM.heap.size = w.heap.size + 1 + 1 := by rw [hwM]; simp [hzL]
  have hbM : Blk wM (w.heap.size + 1) 25 [.slice none 0 0, .slice none 0 0] := by rw [hwM, ← hzL]; exact Blk.alloc _ _ _
  have hEM : Ext wL wM := by rw [hwM]; exact Ext.alloc _ _
  obtain ⟨wA, hwA⟩ : ∃ wA, wA = wM.alloc (.cells #[.slice none 0 0, .slice none 0 0] 25) := ⟨_, rfl⟩
  have hbA : Blk wA (w.heap.size + 1 + 1) 25 [.slice none 0 0, .slice none 0 0] := by rw [hwA, ← hzM]; exact Blk.alloc _ _ _
  have hEA : Ext wM wA := by rw [hwA]; exact Ext.alloc _ _
  have HS0 : Hid (CpS w wL wA (.slice none 0 0) (.slice none 0 0) ⟨[], []⟩) := Lib.hid ⟨hEM.trans hEA, hbM.ext hEA, hbA, OLex.nil _ _⟩
  have HWW : Hid (wA = ((w.alloc (.cells #[iv, fv] 25)).alloc (.cells #[.slice none 0 0, .slice none 0 0] 25)).alloc (.cells #[.slice none 0 0, .slice none 0 0] 25)) := Lib.hid (by rw [hwA, hwM, hwL])
  have hXA : Ext wL wA := hEM.trans hEA
  have hLR := h.ext hE0
  obtain ⟨ai, ci, rfl, hli, hmi, HI⟩ := hLR.i.open_
  obtain ⟨af, cf, rfl, hlf, hmf, HF⟩ := Rows.open_ hLR.f
  have HZL := Lib.hid hzL
  have hwz : w.heap.size + 1 ≤ wL.heap.size := by omega
  have hzw : wL.heap.size ≤ w.heap.size + 1 := by omega
  have HBD := Lib.hid hbd
  clear hwL hwM hwA hbM hEM hbA hEA hzM hzL hLR h wM hbd
  go_enter Try.func73, Try.ntmps73
  go_wp2_with fail
  rw [← HWW.out]
  go_loopg [11] l.i.length (fun z jj wr => ∃ (k : Nat) (iv : Value), k ≤ l.i.length ∧ l.i.length ≤ k + z ∧ jj = .int .i64 k ∧ CpS w wL wr iv (.slice none 0 0) ⟨l.i.take k, []⟩)
  case atStart => exact ⟨0, _, by omega, by omega, rfl, by rw [List.take_zero]; exact HS0.out⟩
  case round =>
    clear HS0 hXA
    obtain ⟨k, iv, hk, hkz, rfl, hS⟩ := hrel
    have hX := hS.x
    by_cases hlt : k < l.i.length
    · obtain ⟨bi, oi, rfl, u, hc0, hu, hc1, hc2⟩ := HI.out k hlt
      replace hc0 := hX.keep hc0
      replace hc1 := hX.keep hc1
      replace hc2 := hX.keep hc2
      have hwl : (itm l.i k).w.length ≤ 1000 := HBD.out.1 k hlt
      have hnl := HBD.out.2.2.1
      have HT := Lib.hid (take_itm l.i hlt)
      have htl : (l.i.take k).length = k := by simp; omega
      have HTL := Lib.hid htl
      have HU := Lib.hid (hu.ext hX)
      obtain ⟨au, cu, rfl, _, _, _⟩ := hu.open_
      clear hu
      obtain ⟨us, vs, hO⟩ := hS.l
      obtain rfl : vs = [] := List.length_eq_zero_iff.1 (by rw [hO.len.2]; rfl)
      obtain ⟨a0, c0, hiv, _, _, _⟩ := ownsRow_form hO.i
      have hivl : (Lex.mk (l.i.take k) []).i.length = k := htl
      rw [hivl] at hiv
      generalize hxx : itm l.i k = x at *
      have HXX := Lib.hid hxx; clear hxx
      have hkI : (k : Int) < (l.i.length : Int) := by omega
      have hEB : Ext wr (wr.alloc (.cells #[.slice au x.w.length cu, .int .i64 x.k, .int .i64 x.c] 28)) := Ext.alloc _ _
      have hb0 : Blk (wr.alloc (.cells #[.slice au x.w.length cu, .int .i64 x.k, .int .i64 x.c] 28)) wr.heap.size 28 [.slice au x.w.length cu, .int .i64 x.k, .int .i64 x.c] := Blk.alloc wr _ _
      have HO := Lib.hid hO
      have HS := Lib.hid hS
      have hsz := hX.size
      have HZB : Hid ((wr.alloc (.cells #[.slice au x.w.length cu, .int .i64 x.k, .int .i64 x.c] 28)).heap.size = wr.heap.size + 1) := Lib.hid (by simp)
      have HB0 := Lib.hid hb0
      have q0 := hb0.cell (i := 0) rfl
      have q1 := hb0.frozen 0
      have hXB := hX.trans hEB
      clear hO hS hb0 hivl htl
      subst hiv
      have HCL := Lib.hid (cloneInts_c _ x.w _ (HU.out.ext hEB) (by omega))
      go_wp2_with fail
      clear hc0 hc1 hc2
      refine HCL.out.mono ?_; rintro e W9 ⟨v9, rfl, ho9, hxB9⟩
      have hne9 : v9.ownBlock ≠ some wr.heap.size := fun hb => by have h1 := (ho9.blkInt hb).1; rw [HZB.out] at h1; omega
      have hO9 : OInts 3 W9 wr.heap.size v9 x.w := ownsRow_low ho9 (by simp)
      clear ho9 HCL
      obtain ⟨a9, c9, rfl, _, _, _⟩ := hO9.ints.open_
      have hb9 := HB0.out.ext hxB9
      have hE9 := hEB.trans hxB9
      have f0 := hb9.frozen 0
      have g0 := hb9.cell (i := 0) rfl
      have hb10 : Blk (W9.setCell ⟨wr.heap.size, 0, none⟩ (.slice a9 x.w.length c9)) wr.heap.size 28 [.slice a9 x.w.length c9, .int .i64 x.k, .int .i64 x.c] := (by have := hb9.set 0 (.slice a9 x.w.length c9); exact this)
      have hE10 : Ext wr (W9.setCell ⟨wr.heap.size, 0, none⟩ (.slice a9 x.w.length c9)) := hE9.setCell (Nat.le_refl _) _ _
      have hE11 : Ext wr ((W9.setCell ⟨wr.heap.size, 0, none⟩ (.slice a9 x.w.length c9)).alloc (.cells #[.slice a9 x.w.length c9, .int .i64 x.k, .int .i64 x.c] 28)) := hE10.trans (Ext.alloc _ _)
      have hO10 : OInts 3 (W9.setCell ⟨wr.heap.size, 0, none⟩ (.slice a9 x.w.length c9)) wr.heap.size (.slice a9 x.w.length c9) x.w := hO9.keptB (grownBy_set _ _ _ _) (fun r e => by injection e with e; subst e; exact hne9)
      have HO11 := Lib.hid (hO10.alloc (.cells #[.slice a9 x.w.length c9, .int .i64 x.k, .int .i64 x.c] 28))
      have p0 := hb10.cell (i := 0) rfl
      have p1 := hb10.cell (i := 1) rfl
      have p2 := hb10.cell (i := 2) rfl
      have ho10 := (HS.out.ext hE10).o
      have o0 := ho10.cell (i := 0) rfl
      have hX11 := hX.trans hE11
      have hsz11 := hX11.size
      have hcN : Blk ((W9.setCell ⟨wr.heap.size, 0, none⟩ (.slice a9 x.w.length c9)).alloc (.cells #[.slice a9 x.w.length c9, .int .i64 x.k, .int .i64 x.c] 28)) W9.heap.size 28 [.slice a9 x.w.length c9, .int .i64 x.k, .int .i64 x.c] := (by have := Blk.alloc (W9.setCell ⟨wr.heap.size, 0, none⟩ (.slice a9 x.w.length c9)) #[.slice a9 x.w.length c9, .int .i64 x.k, .int .i64 x.c] 28; rwa [show (W9.setCell ⟨wr.heap.size, 0, none⟩ (.slice a9 x.w.length c9)).heap.size = W9.heap.size by simp] at this)
      have HCN := Lib.hid hcN
      have HOI := Lib.hid (by have := (HO.out.ext hE11).i; rw [show (Lex.mk (l.i.take k) []).i.length = k from HTL.out] at this; exact this)
      have HE11 := Lib.hid hE11
      clear hb9 hO9 hb10 hO10 ho10 hE9 hE10 hE11 hcN hne9
      go_wp2_with (at_builtin; refine wpList_appendN elItems rfl _ _ rfl rfl rfl HOI.out rfl HCN.out (by intro u hu; simp only [List.mem_cons, List.not_mem_nil, or_false] at hu; rcases hu with rfl | rfl | rfl <;> rfl) hsz11 (by omega) (by omega) ?_; intro g' cap' W12 ho12 hg12; have hcp := CpS.item (x := x) HTL.out.symm HS.out HO.out HE11.out HZL.out HO11.out ho12 hg12; have hq12 := hcp.1.cell (i := 0) rfl; have hf12 := hcp.1.frozen 0; have HCP := Lib.hid hcp.2; clear hcp ho12 hg12)
      clear q0 q1 g0 f0 p0 p1 p2 o0
      go_roundg (gk-1)
      case measure => omega
      case rel => exact ⟨k+1, _, by omega, by omega, by go_num, by rw [HT.out]; exact HCP.out⟩
    · have hkl : k = l.i.length := by omega
      subst hkl
      rw [List.take_length] at hS
      have HS := Lib.hid hS; clear hS
      go_wp2_with fail
      go_loopg [29] l.f.length (fun z jj wr => ∃ (k : Nat) (fo : Value), k ≤ l.f.length ∧ l.f.length ≤ k + z ∧ jj = .int .i64 k ∧ CpS w wL wr iv fo ⟨l.i, l.f.take k⟩)
      case atStart => exact ⟨0, _, by omega, by omega, rfl, by rw [List.take_zero]; exact HS.out⟩
      case round =>
        clear HS hX
        obtain ⟨k, fo, hk, hkz, rfl, hS⟩ := hrel
        have hX := hS.x
        by_cases hlt : k < l.f.length
        · obtain ⟨bf, of, rfl, u, hc0, hu⟩ := HF.out k hlt
          replace hc0 := hX.keep hc0
          have hrl : (l.f[k]?.getD []).length ≤ 1000 := HBD.out.2.1 k hlt
          have hnl := HBD.out.2.2.2
          have HT := Lib.hid (take_row l.f hlt)
          have htl : (l.f.take k).length = k := by simp; omega
          have HTL := Lib.hid htl
          have HU := Lib.hid (hu.ext hX)
          obtain ⟨au, cu, rfl, _, _, _⟩ := hu.open_
          clear hu
          obtain ⟨us, vs, hO⟩ := hS.l
          obtain ⟨a0, c0, hfv, _, _, _⟩ := ownsRow_form hO.f
          have hfl : (Lex.mk l.i (l.f.take k)).f.length = k := htl
          rw [hfl] at hfv
          generalize l.f[k]?.getD [] = x at *
          have hkI : (k : Int) < (l.f.length : Int) := by omega
          have HO := Lib.hid hO
          have HS := Lib.hid hS
          have hsz := hX.size
          have HOB := Lib.hid hS.o
          clear hO hS htl hfl
          subst hfv
          go_wp2_with fail
          refine wp_region_play wr.heap.size [5, 7] [.calc 0, .look 1, .calc 2, .go 3, .go 4, .go 5, .calc 6, .go 7] (by kernel_rfl) (by kernel_rfl) (by intro c a d v w h; cases d <;> exact h) ?_
          have hd : Ext wr { wr with drawn := wr.drawn + 1 } := drawn_ext wr
          have hzd : ({ wr with drawn := wr.drawn + 1 } : World).heap.size = wr.heap.size := rfl
          generalize { wr with drawn := wr.drawn + 1 } = W1 at *
          have hob := HOB.out.ext hd
          have o1 := hob.cell (i := 1) rfl
          have hlto : w.heap.size + 1 + 1 < wr.heap.size := HOB.out.lt
          have qo := fun s : Since wr.heap.size W1 => s.keep hlto o1
          have HCL := Lib.hid (cloneInts_c _ x W1 (HU.out.ext hd) (by omega))
          (refine wpPlay_calc rfl (fun K hK => ?_); go_simp; first | (refine hK _ ?_; clear hK K) | (refine ⟨_, fun _ => rfl, hK _ ?_⟩; clear hK K))
          (refine wpPlay_look rfl (fun K hK => ?_); go_simp; first | (refine hK _ ?_; clear hK K) | (refine ⟨_, fun _ => rfl, hK _ ?_⟩; clear hK K))
          (refine wpPlay_calc rfl (fun K hK => ?_); go_simp; first | (refine hK _ ?_; clear hK K) | (refine ⟨_, fun _ => rfl, hK _ ?_⟩; clear hK K))
          clear qo
          refine wpPlay_go rfl rfl (fun K hK => ?_)
          go_wp2_with fail
          refine HCL.out.mono ?_; rintro e W2 ⟨v2, rfl, ho2, hx2⟩
          have hO2 : OInts 3 W2 wr.heap.size v2 x := ownsRow_low ho2 (by omega)
          have hE2 := hd.trans hx2
          obtain ⟨a2, c2, rfl, _, _, _⟩ := hO2.ints.open_
          have HO2 := Lib.hid hO2
          clear ho2 hO2 HCL
          go_wp2_with fail
          refine ⟨.inr (hx2.mono (by omega)), ?_⟩
          refine wpPlay_go rfl rfl (fun K hK => ?_)
          go_wp2_with fail
          have hz2 := hE2.size
          refine ⟨.inr ((Ext.alloc _ _).mono (by omega)), ?_⟩
          have hE3 : Ext wr (W2.alloc (.cells #[.slice a2 x.length c2] 26)) := hE2.trans (Ext.alloc _ _)
          have hX3 := hX.trans hE3
          have hsz3 := hX3.size
          have HOF := Lib.hid (by have := (HO.out.ext hE3).f; rw [show (Lex.mk l.i (l.f.take k)).f.length = k from HTL.out] at this; exact this)
          have HO3 := Lib.hid (HO2.out.alloc (.cells #[.slice a2 x.length c2] 26))
          refine wpPlay_go rfl rfl (fun K hK => ?_)
          refine wpList_appendN elRows rfl (.tmp 34) (.tmp 37) rfl rfl rfl HOF.out rfl (Blk.alloc W2 #[.slice a2 x.length c2] 26) (by intro u hu; simp only [List.mem_cons, List.not_mem_nil, or_false] at hu; subst hu; rfl) hsz3 (by omega) (by omega) (fun g' cap' W4 ho4 hg4 => ?_)
          have hcp := CpS.row HTL.out.symm HS.out HO.out hE3 HZL.out HO3.out ho4 hg4
          have hq4 := hcp.1.cell (i := 1) rfl
          have hf4 := hcp.1.frozen 1
          have HCP := Lib.hid hcp.2
          clear hcp ho4 hg4 HOF HO3
          go_wp2_with fail
          (refine wpPlay_calc rfl (fun K hK => ?_); go_simp; first | (refine hK _ ?_; clear hK K) | (refine ⟨_, fun _ => rfl, hK _ ?_⟩; clear hK K))
          refine wpPlay_go rfl rfl (fun K hK => ?_)
          go_wp2_with fail
          refine ⟨.inl (by decide), ?_⟩
          refine wpPlay_nil ?_
          go_wp2_with fail
          go_roundg (gk-1)
          case measure => omega
          case rel => exact ⟨k+1, _, by omega, by omega, by go_num, by rw [HT.out]; exact HCP.out⟩
        · have hkl : k = l.f.length := by omega
          subst hkl
          rw [List.take_length] at hS
          have d0 := hS.o.cell (i := 0) rfl
          have d1 := hS.o.cell (i := 1) rfl
          have r0 := hS.r.cell (i := 0) rfl
          have r1 := hS.r.cell (i := 1) rfl
          have rf0 := hS.r.frozen 0
          have rf1 := hS.r.frozen 1
          have hr2 : Blk ((wr.setCell ⟨w.heap.size + 1, 0, none⟩ iv).setCell ⟨w.heap.size + 1, 1, none⟩ fo) (w.heap.size + 1) 25 [iv, fo] := by have := (hS.r.set 0 iv).set 1 fo; exact this
          have e0 := hr2.cell (i := 0) rfl
          have e1 := hr2.cell (i := 1) rfl
          obtain ⟨us, vs, hO⟩ := hS.l
          have hO1 := hO.keptN (grownBy_set wr (w.heap.size + 1) 0 iv) hS.r ⟨by decide, by decide, by decide⟩
          have hO2 := hO1.keptN (grownBy_set _ (w.heap.size + 1) 1 fo) (by have := hS.r.set 0 iv; exact this) ⟨by decide, by decide, by decide⟩
          have HOL := Lib.hid (OLex.low ⟨us, vs, hO2⟩ hE0.size)
          have HXE := Lib.hid (((hE0.trans hX).setCell (by omega : w.heap.size ≤ w.heap.size + 1) 0 iv).setCell (by omega : w.heap.size ≤ w.heap.size + 1) 1 fo)
          obtain ⟨ai2, ci2, hiv2, _⟩ := ownsRow_form hO.i
          obtain ⟨af2, cf2, hfv2, _⟩ := ownsRow_form hO.f
          subst hiv2 hfv2
          clear hS hO hO1 hO2 hr2
          go_wp2_with fail
          refine bodyPost_ret (v := .agg #[.slice ai2 l.i.length ci2, .slice af2 l.f.length cf2]) (by simp [results, Try.results73, go_sem, e0, e1]) rfl ?_
          exact ⟨_, _, rfl, HOL.out, HXE.out⟩
end Go.Proofs.Ytgpggmcjggpmpaa
