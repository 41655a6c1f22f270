/- The lexicon without an item: Without of both packages. -/
import Derived.Test.YtgpggmcjggpmpaaTagDl
import Derived.Test.YtgpggmcjggpmpaaTail
import Derived.ArgAppend
namespace Go.Proofs.Ytgpggmcjggpmpaa
open Go.RowKit Go.Shelf
set_option linter.unusedVariables false

/-- what Without answers -/
def withoutK (l : Lex) (n : Int) : Int := if itemK l n = 0 then (if l.i.length = 1 then 1 else 0) else itemK l n
def withoutL (l : Lex) (n : Int) : Lex := if withoutK l n = 0 then withoutX l n.toNat else ⟨[], []⟩
/-- a lexicon whose items lie in a row that need not be the whole block -/
structure OLexT (w : World) (B : Nat) (iv fv : Value) (l : Lex) (us vs : List Value) : Prop where
  i : OTail w B 28 3 iv l.i.length (iCells us l.i)
  f : w.ownsRow B 26 1 fv l.f.length vs
  wi : AllO w B us (wsI l.i)
  wf : AllO w B vs l.f
theorem OLexT.nil (w : World) (B : Nat) : OLexT w B (.slice none 0 0) (.slice none 0 0) ⟨[], []⟩ [] [] := ⟨OTail.nil _ _ _ _, World.ownsRow_nil _ _ _ _, AllO.nil _ _, AllO.nil _ _⟩
theorem OLexT.keptN {w w' : World} {B g : Nat} {iv fv : Value} {l : Lex} {us vs : List Value} {cur : Array Value} {e : TypeId} (h : OLexT w B iv fv l us vs) (hg : w.grownBy w' (some g)) (hb : w.heap[g]? = some (.cells cur e (0, 0))) (he : e ≠ 3 ∧ e ≠ 26 ∧ e ≠ 28) : OLexT w' B iv fv l us vs := by
  refine ⟨h.i.kept hg (fun r e1 hv => ?_), h.f.kept hg ?_, h.wi.kept hg (fun r e1 => by injection e1 with e1; subst e1; exact h.wi.noInt hb he.1), h.wf.kept hg (fun r e1 => by injection e1 with e1; subst e1; exact h.wf.noInt hb he.1)⟩
  · injection e1 with e1; subst e1
    obtain ⟨_, cur', h1⟩ := h.i.blk g hv
    rw [hb] at h1; injection h1 with h1; injection h1 with _ h1 _; exact he.2.2 h1
  · cases hv : fv.ownBlock with
    | none => exact .inl rfl
    | some r =>
      refine .inr (fun e1 => ?_)
      injection e1 with e1; subst e1
      obtain ⟨cur', h1, _⟩ := ownBlock_cells h.f r hv
      rw [hb] at h1; injection h1 with h1; injection h1 with _ h1 _; exact he.2.1 h1
theorem OLexT.lexR {w : World} {B : Nat} {iv fv : Value} {l : Lex} {us vs : List Value} (h : OLexT w B iv fv l us vs) : LexR w iv fv l := by
  have hul : us.length = l.i.length := by rw [h.wi.1]; simp
  constructor
  · rcases Nat.eq_zero_or_pos l.i.length with h0 | h0
    · obtain ⟨a, c, rfl⟩ := OTail.form h.i
      rcases h.i.2 with ⟨hv, _⟩ | ⟨g, o, cap, cur, hv, _, _, hn, hm, _⟩
      · injection hv with h1 h2 h3; subst h1 h3
        exact ⟨none, 0, rfl, by omega, by unfold maxLen; omega, fun i hi => by omega⟩
      · injection hv with h1 h2 h3; subst h1 h3
        exact ⟨_, c, rfl, hn, hm, fun i hi => by omega⟩
    · obtain ⟨g, o, cap, rfl, hn, hm, hB, HC⟩ := h.i.open_ h0
      refine ⟨some ⟨g, o, none⟩, cap, rfl, hn, hm, fun i hi => ⟨g, o, rfl, us[i]'(by omega), ?_, ?_, ?_, ?_⟩⟩
      · rw [HC.out (i * 3) (us[i]'(by omega)) (by rw [(iCells_at us l.i i hul hi).1, List.getElem?_eq_getElem (by omega)])]
      · have := (h.wi.2 i _ (List.getElem?_eq_getElem (by omega))).ints
        rwa [wsI_at] at this
      · rw [Nat.add_assoc]; exact HC.out (i * 3 + 1) _ (iCells_at us l.i i hul hi).2.1
      · rw [Nat.add_assoc]; exact HC.out (i * 3 + 2) _ (iCells_at us l.i i hul hi).2.2
  · exact Rows.own h.f ⟨h.wf.1, fun i u hu => (h.wf.2 i u hu).ints⟩
theorem wsI_erase (is : List Itm) (j : Nat) : wsI (is.eraseIdx j) = (wsI is).eraseIdx j := by
  induction is generalizing j with
  | nil => rfl
  | cons x is ih =>
    cases j with
    | zero => rfl
    | succ j => simp [ih]
theorem AllO.erase {w : World} {B : Nat} {us : List Value} {ls : List (List Int)} (h : AllO w B us ls) (i : Nat) : AllO w B (us.eraseIdx i) (ls.eraseIdx i) := by
  obtain ⟨h1, h2⟩ := h
  refine ⟨by rw [List.length_eraseIdx, List.length_eraseIdx, h1], fun j x hx => ?_⟩
  rw [List.getElem?_eraseIdx] at hx ⊢
  split at hx
  · rename_i hj; rw [if_pos hj]; exact h2 j x hx
  · rename_i hj; rw [if_neg hj]; exact h2 (j + 1) x hx
theorem OLexP.one {w : World} {B : Nat} {iv fv : Value} {l : Lex} {us vs : List Value} (h : OLexP w B iv fv l us vs) : ∀ u ∈ iCells us l.i, u.oneCell' = true := fun u hu => by
  have hul := h.len.1
  obtain ⟨k, hk, he⟩ := List.mem_iff_getElem.1 hu
  rw [iCells_len us l.i hul] at hk
  have hk2 : (iCells us l.i)[k]? = some u := by rw [List.getElem?_eq_getElem (by rw [iCells_len us l.i hul]; omega), he]
  obtain ⟨q, hq⟩ : ∃ q, k = q * 3 ∨ k = q * 3 + 1 ∨ k = q * 3 + 2 := ⟨k / 3, by omega⟩
  obtain ⟨e0, e1, e2⟩ := iCells_at us l.i q hul (by omega)
  rcases hq with rfl | rfl | rfl
  · rw [e0] at hk2
    exact (h.wi.2 q u hk2).ints.oneCell
  · rw [e1] at hk2; injection hk2 with hk2; subst hk2; rfl
  · rw [e2] at hk2; injection hk2 with hk2; subst hk2; rfl
/-- after the item was taken out of the row -/
theorem OLexP.del {w w' : World} {B gi cap j : Nat} {fv : Value} {l : Lex} {us vs : List Value} (h : OLexP w B (.slice (some ⟨gi, 0, none⟩) l.i.length cap) fv l us vs) (hj : j < l.i.length) (hg : w.grownBy w' (some gi))
    (hr : w'.ownsRow B 28 3 (.slice (some ⟨gi, 0, none⟩) (l.i.length - 1) cap) (l.i.length - 1) (iCells (us.eraseIdx j) (l.i.eraseIdx j))) : OLexT w' B (.slice (some ⟨gi, 0, none⟩) (l.i.length - 1) cap) fv ⟨l.i.eraseIdx j, l.f⟩ (us.eraseIdx j) vs := by
  obtain ⟨h1, h2, h3⟩ := h.notItem hg
  refine ⟨?_, h1, ?_, h3⟩
  · show OTail w' B 28 3 _ (l.i.eraseIdx j).length _
    rw [List.length_eraseIdx_of_lt hj]; exact OTail.of_row hr
  · show AllO w' B _ (wsI (l.i.eraseIdx j))
    rw [wsI_erase]; exact h2.erase j
/-- the row was made anew, without the item -/
theorem OLexP.cutNew {w w' : World} {B j : Nat} {iv iv' fv : Value} {l : Lex} {us vs : List Value} (h : OLexP w B iv fv l us vs) (hj : j < l.i.length) (hB : B ≤ w.heap.size) (hg : Ext w w')
    (hr : w'.ownsRow w.heap.size 28 3 iv' (l.i.length - 1) ((iCells us l.i).take (j * 3) ++ (iCells us l.i).drop ((j + 1) * 3))) : OLexT w' B iv' fv ⟨l.i.eraseIdx j, l.f⟩ (us.eraseIdx j) vs := by
  have h2 := h.ext hg
  refine ⟨?_, h2.f, ?_, h2.wf⟩
  · show OTail w' B 28 3 _ (l.i.eraseIdx j).length _
    rw [List.length_eraseIdx_of_lt hj, iCells_erase us l.i j h.len.1]; exact OTail.of_row (ownsRow_low hr hB)
  · show AllO w' B _ (wsI (l.i.eraseIdx j))
    rw [wsI_erase]; exact h2.wi.erase j
/-- the last item was cut off -/
theorem OLexP.cutLast {w : World} {B gi cap j : Nat} {fv : Value} {l : Lex} {us vs : List Value} (h : OLexP w B (.slice (some ⟨gi, 0, none⟩) l.i.length cap) fv l us vs) (hj : j + 1 = l.i.length) : OLexT w B (.slice (some ⟨gi, 0, none⟩) j j) fv ⟨l.i.eraseIdx j, l.f⟩ (us.eraseIdx j) vs := by
  have hul := h.len.1
  refine ⟨?_, h.f, ?_, h.wf⟩
  · show OTail w B 28 3 _ (l.i.eraseIdx j).length _
    rw [List.length_eraseIdx_of_lt (by omega), iCells_erase us l.i j hul, show (j + 1) * 3 = (iCells us l.i).length by rw [iCells_len us l.i hul]; omega, List.drop_length, List.append_nil]
    rcases h.i.2 with ⟨hv, _⟩ | ⟨g, c, cur, hv, hB, hh, hn, hm, hs, ht⟩
    · cases hv
    · injection hv with h1 _ h3; injection h1 with h1; injection h1 with h1 _ _; subst h1 h3
      refine ⟨by rw [List.length_take, iCells_len us l.i hul]; omega, .inr ⟨gi, 0, j, cur, by rw [show l.i.length - 1 = j by omega], hB, hh, by omega, by omega, by omega, ?_⟩⟩
      rw [List.drop_zero, ← ht, List.take_take]
      congr 1; omega
  · show AllO w B _ (wsI (l.i.eraseIdx j))
    rw [wsI_erase]; exact h.wi.erase j
set_option maxHeartbeats 4000000 in
set_option maxRecDepth 100000 in
theorem Without_c (iv fv : Value) (l : Lex) (n : Int) (w : World) (h : LexR w iv fv l) : Calls Try.prog 53 #[.agg #[iv, fv], .int .i64 n] w (RLexQ (withoutL l n) (withoutK l n) w) := by
  obtain ⟨wL, hwL⟩ : ∃ wL, wL = w.alloc (.cells #[iv, fv] 25) := ⟨_, rfl⟩
  have hEL : Ext w wL := by rw [hwL]; exact Ext.alloc _ _
  have hzL : wL.heap.size = w.heap.size + 1 := by rw [hwL]; simp
  obtain ⟨wA, hwA⟩ : ∃ wA, wA = wL.alloc (.cells #[.slice none 0 0, .slice none 0 0] 25) := ⟨_, rfl⟩
  have hEA : Ext wL wA := by rw [hwA]; exact Ext.alloc _ _
  have hE0 : Ext w wA := hEL.trans hEA
  have k0 : ∀ W, Ext wA W → W.cell? ⟨w.heap.size, 0, none⟩ = some iv := by rw [hwL] at hEA; exact fun W hW => kept_alloc w _ _ rfl W (hEA.trans hW)
  have k1 : ∀ W, Ext wA W → W.cell? ⟨w.heap.size, 1, none⟩ = some fv := by rw [hwL] at hEA; exact fun W hW => kept_alloc w _ _ rfl W (hEA.trans hW)
  have HB0 : Hid (Blk wA (w.heap.size + 1) 25 [.slice none 0 0, .slice none 0 0]) := Lib.hid (by rw [hwA, ← hzL]; exact Blk.alloc _ _ _)
  have H0 : Ext wA wA := Ext.refl _
  have HWW : Hid (wA = (w.alloc (.cells #[iv, fv] 25)).alloc (.cells #[.slice none 0 0, .slice none 0 0] 25)) := Lib.hid (by rw [hwA, hwL])
  have hzA : wA.heap.size = w.heap.size + 1 + 1 := by rw [hwA]; simp [hzL]
  have HR := Lib.hid (h.ext hE0)
  obtain ⟨ai, ci, rfl, hli, hmi, HI⟩ := (h.ext hE0).i.open_
  obtain ⟨af, cf, rfl, hlf, hmf, HF⟩ := Rows.open_ (h.ext hE0).f
  have HZA := Lib.hid hzA
  clear hwL hwA hzL hEA hEL wL h hzA
  have HV := Lib.hid (item_c _ _ l n wA HR.out)
  have HDK : Hid (withoutK l n = if itemK l n = 0 then (if l.i.length = 1 then 1 else 0) else itemK l n) := Lib.hid rfl
  have HDL : Hid (withoutL l n = if withoutK l n = 0 then withoutX l n.toNat else ⟨[], []⟩) := Lib.hid rfl
  by_cases h0 : itemK l n = 0
  · rw [if_pos h0] at HDK
    rw [h0] at HV
    obtain ⟨hl, j, hj, hjl⟩ := item_ok h0
    have HL := Lib.hid hl
    subst hj
    clear h0
    by_cases h1 : l.i.length = 1
    · have hd1 : ((l.i.length : Int) == 1) = true := by simp [h1]
      rw [if_pos h1] at HDK
      have HLL : Hid (withoutL l (j : Int) = ⟨[], []⟩) := Lib.hid (by rw [HDL.out, HDK.out]; rfl)
      rw [HDK.out, HLL.out]
      clear h1
      go_enter Try.func53, Try.ntmps53
      go_wp2_with fail
      rw [← HWW.out]
      refine HV.out.mono ?_; rintro e w1 ⟨rfl, hx1⟩
      have hrb := HB0.out.ext (hx1)
      have hrz : w.heap.size ≤ wA.heap.size := hE0.size
      have r0 := hrb.cell (i := 0) rfl
      have r1 := hrb.cell (i := 1) rfl
      have rf0 := hrb.frozen 0
      have rf1 := hrb.frozen 1
      have hr2 : Blk ((w1.setCell ⟨w.heap.size + 1, 0, none⟩ (.slice none 0 0)).setCell ⟨w.heap.size + 1, 1, none⟩ (.slice none 0 0)) (w.heap.size + 1) 25 [(.slice none 0 0), (.slice none 0 0)] := by have := (hrb.set 0 (.slice none 0 0)).set 1 (.slice none 0 0); exact this
      have e0 := hr2.cell (i := 0) rfl
      have e1 := hr2.cell (i := 1) rfl
      have hO1 := (OLexT.nil w1 wA.heap.size).keptN (grownBy_set w1 (w.heap.size + 1) 0 (.slice none 0 0)) hrb ⟨by decide, by decide, by decide⟩
      have hO2 := hO1.keptN (grownBy_set _ (w.heap.size + 1) 1 (.slice none 0 0)) (by have := hrb.set 0 (.slice none 0 0); exact this) ⟨by decide, by decide, by decide⟩
      have HOL := Lib.hid hO2.lexR
      have HXE := Lib.hid (((hE0.trans (hx1)).setCell (by omega : w.heap.size ≤ w.heap.size + 1) 0 (.slice none 0 0)).setCell (by omega : w.heap.size ≤ w.heap.size + 1) 1 (.slice none 0 0))
      clear hr2 hO1 hO2 hrb
      go_wp2_with fail
      refine bodyPost_ret (v := .tuple #[.agg #[(.slice none 0 0), (.slice none 0 0)], .int .i64 1]) (by simp [results, Try.results53, go_sem, e0, e1]) rfl ?_
      exact ⟨_, _, rfl, HOL.out, HXE.out⟩
    · have hd1 : ((l.i.length : Int) == 1) = false := by simp; omega
      rw [if_neg h1] at HDK
      have HLL : Hid (withoutL l (j : Int) = ⟨l.i.eraseIdx j, l.f⟩) := Lib.hid (by rw [HDL.out, HDK.out, if_pos rfl, Int.toNat_natCast]; rfl)
      rw [HDK.out, HLL.out]
      have HCP := Lib.hid (fun W (hW : Ext wA W) => copied_c _ _ l W (HR.out.ext hW) (copy_bounds HL.out))
      have hn1 : 0 < l.i.length := HL.out.n1
      have hn8 : l.i.length ≤ 8 := HL.out.n8
      have hn2 : 2 ≤ l.i.length := by omega
      have hf4 : l.f.length = 4 := HL.out.f4
      have hf0 : 0 < l.f.length := by omega
      have hr0 : 0 < (l.f[0]?.getD []).length := by rw [(HL.out.ff 0 (by omega)).1]; omega
      clear h1 hf4
      go_enter Try.func53, Try.ntmps53
      go_wp2_with fail
      rw [← HWW.out]
      refine HV.out.mono ?_; rintro e w1 ⟨rfl, hx1⟩
      go_wp2_with fail
      refine (HCP.out w1 hx1).mono ?_; rintro e w2 ⟨iv, fv, rfl, ho2, hx2⟩
      obtain ⟨us, vs, hF⟩ := FSt.begin hx1 hx2 ho2
      have HXP : Hid (wA.heap.size ≤ w2.heap.size) := Lib.hid (by have := hx1.size; have := hx2.size; omega)
      clear ho2
      obtain ⟨gi, ci2, u0, rfl, _, hmi2, hgi, _⟩ := hF.l.spotI (j := 0) hn1
      obtain ⟨gf, cf2, g0, cg0, rfl, _, hmf2, _⟩ := hF.l.spotF (a := 0) hf0 hr0
      have HG := Lib.hid hF.o.lt
      have hX3 := hF.x
      have HFS := Lib.hid hF; clear hF hx2
      have HGN : Hid (gi ≠ w2.heap.size) := Lib.hid (by
        obtain ⟨cur, h1, _⟩ := ownBlock_cells HFS.out.l.i gi rfl
        rintro rfl
        have h2 : _ = _ := HFS.out.o
        rw [h1] at h2; injection h2 with h2; injection h2 with _ h2 _; exact absurd h2 (by decide))
      have hb0 := HFS.out.o
      have p0 := hb0.cell (i := 0) rfl
      have HGA : Hid (wA.heap.size ≤ w2.heap.size) := HXP
      have HDEL := Lib.hid (delItm_c gi ci2 j wA.heap.size us l.i _ HFS.out.l.i HFS.out.l.len.1 HFS.out.l.one hjl)
      have hwj : IntKind.i64.wrap ((j : Int) + 1) = (j : Int) + 1 := IntWalk.i64_in _ (by omega)
      clear hb0
      go_wp2_with fail
      refine HDEL.out.mono ?_; rintro e w5 ⟨rfl, hr5, hg5⟩
      have HOT := Lib.hid (HFS.out.l.del hjl hg5 hr5)
      have HBW : Hid (Blk w5 w2.heap.size 25 [(.slice (some ⟨gi, 0, none⟩) l.i.length ci2), (.slice (some ⟨gf, 0, none⟩) l.f.length cf2)]) := Lib.hid (HFS.out.o.kept hg5 (fun e => by injection e with e; exact HGN.out e))
      have HXW := Lib.hid (grown_below hX3 hg5 (fun r e => by injection e with e; omega))
      clear hr5 hg5 HDEL p0
      have hBw := HBW.out
      have hw0 := hBw.cell (i := 0) rfl
      have hwf0 := hBw.frozen 0
      have hB9 : Blk (w5.setCell ⟨w2.heap.size, 0, none⟩ (.slice (some ⟨gi, 0, none⟩) (l.i.length - 1) ci2)) w2.heap.size 25 [(.slice (some ⟨gi, 0, none⟩) (l.i.length - 1) ci2), (.slice (some ⟨gf, 0, none⟩) l.f.length cf2)] := by have := hBw.set 0 (.slice (some ⟨gi, 0, none⟩) (l.i.length - 1) ci2); exact this
      have d0 := hB9.cell (i := 0) rfl
      have d1 := hB9.cell (i := 1) rfl
      have hO9 := HOT.out.keptN (grownBy_set w5 w2.heap.size 0 (.slice (some ⟨gi, 0, none⟩) (l.i.length - 1) ci2)) hBw ⟨by decide, by decide, by decide⟩
      have HO9 := Lib.hid hO9
      have hX9 : Ext wA (w5.setCell ⟨w2.heap.size, 0, none⟩ (.slice (some ⟨gi, 0, none⟩) (l.i.length - 1) ci2)) := HXW.out.setCell HGA.out _ _
      clear hBw hB9 hO9
      have hrb := HB0.out.ext (hX9)
      have hrz : w.heap.size ≤ wA.heap.size := hE0.size
      have r0 := hrb.cell (i := 0) rfl
      have r1 := hrb.cell (i := 1) rfl
      have rf0 := hrb.frozen 0
      have rf1 := hrb.frozen 1
      have hr2 : Blk (((w5.setCell ⟨w2.heap.size, 0, none⟩ (.slice (some ⟨gi, 0, none⟩) (l.i.length - 1) ci2)).setCell ⟨w.heap.size + 1, 0, none⟩ (.slice (some ⟨gi, 0, none⟩) (l.i.length - 1) ci2)).setCell ⟨w.heap.size + 1, 1, none⟩ (.slice (some ⟨gf, 0, none⟩) l.f.length cf2)) (w.heap.size + 1) 25 [(.slice (some ⟨gi, 0, none⟩) (l.i.length - 1) ci2), (.slice (some ⟨gf, 0, none⟩) l.f.length cf2)] := by have := (hrb.set 0 (.slice (some ⟨gi, 0, none⟩) (l.i.length - 1) ci2)).set 1 (.slice (some ⟨gf, 0, none⟩) l.f.length cf2); exact this
      have e0 := hr2.cell (i := 0) rfl
      have e1 := hr2.cell (i := 1) rfl
      have hO1 := (HO9.out).keptN (grownBy_set (w5.setCell ⟨w2.heap.size, 0, none⟩ (.slice (some ⟨gi, 0, none⟩) (l.i.length - 1) ci2)) (w.heap.size + 1) 0 (.slice (some ⟨gi, 0, none⟩) (l.i.length - 1) ci2)) hrb ⟨by decide, by decide, by decide⟩
      have hO2 := hO1.keptN (grownBy_set _ (w.heap.size + 1) 1 (.slice (some ⟨gf, 0, none⟩) l.f.length cf2)) (by have := hrb.set 0 (.slice (some ⟨gi, 0, none⟩) (l.i.length - 1) ci2); exact this) ⟨by decide, by decide, by decide⟩
      have HOL := Lib.hid hO2.lexR
      have HXE := Lib.hid (((hE0.trans (hX9)).setCell (by omega : w.heap.size ≤ w.heap.size + 1) 0 (.slice (some ⟨gi, 0, none⟩) (l.i.length - 1) ci2)).setCell (by omega : w.heap.size ≤ w.heap.size + 1) 1 (.slice (some ⟨gf, 0, none⟩) l.f.length cf2))
      clear hr2 hO1 hO2 hrb
      go_wp2_with fail
      refine bodyPost_ret (v := .tuple #[.agg #[(.slice (some ⟨gi, 0, none⟩) (l.i.length - 1) ci2), (.slice (some ⟨gf, 0, none⟩) l.f.length cf2)], .int .i64 0]) (by simp [results, Try.results53, go_sem, e0, e1]) rfl ?_
      exact ⟨_, _, rfl, HOL.out, HXE.out⟩
  · rw [if_neg h0] at HDK
    have HLL : Hid (withoutL l n = ⟨[], []⟩) := Lib.hid (by rw [HDL.out, HDK.out, if_neg h0])
    rw [HLL.out, HDK.out]
    generalize itemK l n = k at *
    have hk : (k != 0) = true := by simpa using h0
    clear h0
    go_enter Try.func53, Try.ntmps53
    go_wp2_with fail
    rw [← HWW.out]
    refine HV.out.mono ?_; rintro e w1 ⟨rfl, hx1⟩
    have hrb := HB0.out.ext (hx1)
    have hrz : w.heap.size ≤ wA.heap.size := hE0.size
    have r0 := hrb.cell (i := 0) rfl
    have r1 := hrb.cell (i := 1) rfl
    have rf0 := hrb.frozen 0
    have rf1 := hrb.frozen 1
    have hr2 : Blk ((w1.setCell ⟨w.heap.size + 1, 0, none⟩ (.slice none 0 0)).setCell ⟨w.heap.size + 1, 1, none⟩ (.slice none 0 0)) (w.heap.size + 1) 25 [(.slice none 0 0), (.slice none 0 0)] := by have := (hrb.set 0 (.slice none 0 0)).set 1 (.slice none 0 0); exact this
    have e0 := hr2.cell (i := 0) rfl
    have e1 := hr2.cell (i := 1) rfl
    have hO1 := (OLexT.nil w1 wA.heap.size).keptN (grownBy_set w1 (w.heap.size + 1) 0 (.slice none 0 0)) hrb ⟨by decide, by decide, by decide⟩
    have hO2 := hO1.keptN (grownBy_set _ (w.heap.size + 1) 1 (.slice none 0 0)) (by have := hrb.set 0 (.slice none 0 0); exact this) ⟨by decide, by decide, by decide⟩
    have HOL := Lib.hid hO2.lexR
    have HXE := Lib.hid (((hE0.trans (hx1)).setCell (by omega : w.heap.size ≤ w.heap.size + 1) 0 (.slice none 0 0)).setCell (by omega : w.heap.size ≤ w.heap.size + 1) 1 (.slice none 0 0))
    clear hr2 hO1 hO2 hrb
    go_wp2_with fail
    refine bodyPost_ret (v := .tuple #[.agg #[(.slice none 0 0), (.slice none 0 0)], .int .i64 k]) (by simp [results, Try.results53, go_sem, e0, e1]) rfl ?_
    exact ⟨_, _, rfl, HOL.out, HXE.out⟩
theorem OLexP.lenI {w : World} {B gi ci n : Nat} {fv : Value} {l : Lex} {us vs : List Value} (h : OLexP w B (.slice (some ⟨gi, 0, none⟩) n ci) fv l us vs) : l.i.length ≤ ci := by
  rcases h.i.2 with ⟨hv, _⟩ | ⟨g, c, cur, hv, hB, hh, hn, hm, hs, ht⟩
  · cases hv
  · injection hv with _ _ h3; omega
theorem OLexP.cellI {w : World} {B gi ci n q : Nat} {fv u : Value} {l : Lex} {us vs : List Value} (h : OLexP w B (.slice (some ⟨gi, 0, none⟩) n ci) fv l us vs) (hu : (iCells us l.i)[q]? = some u) : w.cell? ⟨gi, q, none⟩ = some u := by
  obtain ⟨a, c, hv, _, _, _⟩ := ownsRow_form h.i
  injection hv with h1 h2 h3; subst h1 h2 h3
  have hq : q < l.i.length * 3 := by rw [← iCells_len us l.i h.len.1]; exact (List.getElem?_eq_some_iff.1 hu).1
  rw [h.i.cellAt q hq, hu]
set_option maxHeartbeats 4000000 in
set_option maxRecDepth 100000 in
theorem rWithout_c (iv fv : Value) (l : Lex) (n : Int) (w : World) (h : LexR w iv fv l) : Calls Try.prog 54 #[.agg #[iv, fv], .int .i64 n] w (RLexQ (withoutL l n) (withoutK l n) w) := by
  obtain ⟨wL, hwL⟩ : ∃ wL, wL = w.alloc (.cells #[iv, fv] 25) := ⟨_, rfl⟩
  have hEL : Ext w wL := by rw [hwL]; exact Ext.alloc _ _
  have hzL : wL.heap.size = w.heap.size + 1 := by rw [hwL]; simp
  obtain ⟨wA, hwA⟩ : ∃ wA, wA = wL.alloc (.cells #[.slice none 0 0, .slice none 0 0] 25) := ⟨_, rfl⟩
  have hEA : Ext wL wA := by rw [hwA]; exact Ext.alloc _ _
  have hE0 : Ext w wA := hEL.trans hEA
  have k0 : ∀ W, Ext wA W → W.cell? ⟨w.heap.size, 0, none⟩ = some iv := by rw [hwL] at hEA; exact fun W hW => kept_alloc w _ _ rfl W (hEA.trans hW)
  have k1 : ∀ W, Ext wA W → W.cell? ⟨w.heap.size, 1, none⟩ = some fv := by rw [hwL] at hEA; exact fun W hW => kept_alloc w _ _ rfl W (hEA.trans hW)
  have HB0 : Hid (Blk wA (w.heap.size + 1) 25 [.slice none 0 0, .slice none 0 0]) := Lib.hid (by rw [hwA, ← hzL]; exact Blk.alloc _ _ _)
  have H0 : Ext wA wA := Ext.refl _
  have HWW : Hid (wA = (w.alloc (.cells #[iv, fv] 25)).alloc (.cells #[.slice none 0 0, .slice none 0 0] 25)) := Lib.hid (by rw [hwA, hwL])
  have hzA : wA.heap.size = w.heap.size + 1 + 1 := by rw [hwA]; simp [hzL]
  have HR := Lib.hid (h.ext hE0)
  obtain ⟨ai, ci, rfl, hli, hmi, HI⟩ := (h.ext hE0).i.open_
  obtain ⟨af, cf, rfl, hlf, hmf, HF⟩ := Rows.open_ (h.ext hE0).f
  have HZA := Lib.hid hzA
  clear hwL hwA hzL hEA hEL wL h hzA
  have HV := Lib.hid (ritem_c _ _ l n wA HR.out)
  have HDK : Hid (withoutK l n = if itemK l n = 0 then (if l.i.length = 1 then 1 else 0) else itemK l n) := Lib.hid rfl
  have HDL : Hid (withoutL l n = if withoutK l n = 0 then withoutX l n.toNat else ⟨[], []⟩) := Lib.hid rfl
  by_cases h0 : itemK l n = 0
  · rw [if_pos h0] at HDK
    rw [h0] at HV
    obtain ⟨hl, j, hj, hjl⟩ := item_ok h0
    have HL := Lib.hid hl
    subst hj
    clear h0
    by_cases h1 : l.i.length = 1
    · have hd1 : ((l.i.length : Int) == 1) = true := by simp [h1]
      rw [if_pos h1] at HDK
      have HLL : Hid (withoutL l (j : Int) = ⟨[], []⟩) := Lib.hid (by rw [HDL.out, HDK.out]; rfl)
      rw [HDK.out, HLL.out]
      clear h1
      go_enter Try.func54, Try.ntmps54
      go_wp2_with fail
      rw [← HWW.out]
      refine HV.out.mono ?_; rintro e w1 ⟨rfl, hx1⟩
      have hrb := HB0.out.ext (hx1)
      have hrz : w.heap.size ≤ wA.heap.size := hE0.size
      have r0 := hrb.cell (i := 0) rfl
      have r1 := hrb.cell (i := 1) rfl
      have rf0 := hrb.frozen 0
      have rf1 := hrb.frozen 1
      have hr2 : Blk ((w1.setCell ⟨w.heap.size + 1, 0, none⟩ (.slice none 0 0)).setCell ⟨w.heap.size + 1, 1, none⟩ (.slice none 0 0)) (w.heap.size + 1) 25 [(.slice none 0 0), (.slice none 0 0)] := by have := (hrb.set 0 (.slice none 0 0)).set 1 (.slice none 0 0); exact this
      have e0 := hr2.cell (i := 0) rfl
      have e1 := hr2.cell (i := 1) rfl
      have hO1 := (OLexT.nil w1 wA.heap.size).keptN (grownBy_set w1 (w.heap.size + 1) 0 (.slice none 0 0)) hrb ⟨by decide, by decide, by decide⟩
      have hO2 := hO1.keptN (grownBy_set _ (w.heap.size + 1) 1 (.slice none 0 0)) (by have := hrb.set 0 (.slice none 0 0); exact this) ⟨by decide, by decide, by decide⟩
      have HOL := Lib.hid hO2.lexR
      have HXE := Lib.hid (((hE0.trans (hx1)).setCell (by omega : w.heap.size ≤ w.heap.size + 1) 0 (.slice none 0 0)).setCell (by omega : w.heap.size ≤ w.heap.size + 1) 1 (.slice none 0 0))
      clear hr2 hO1 hO2 hrb
      go_wp2_with fail
      refine bodyPost_ret (v := .tuple #[.agg #[(.slice none 0 0), (.slice none 0 0)], .int .i64 1]) (by simp [results, Try.results54, go_sem, e0, e1]) rfl ?_
      exact ⟨_, _, rfl, HOL.out, HXE.out⟩
    · have hd1 : ((l.i.length : Int) == 1) = false := by simp; omega
      rw [if_neg h1] at HDK
      have HLL : Hid (withoutL l (j : Int) = ⟨l.i.eraseIdx j, l.f⟩) := Lib.hid (by rw [HDL.out, HDK.out, if_pos rfl, Int.toNat_natCast]; rfl)
      rw [HDK.out, HLL.out]
      have HCP := Lib.hid (fun W (hW : Ext wA W) => rCopy_c _ _ l W (HR.out.ext hW) (copy_bounds HL.out))
      have hn1 : 0 < l.i.length := HL.out.n1
      have hn8 : l.i.length ≤ 8 := HL.out.n8
      have hn2 : 2 ≤ l.i.length := by omega
      have hf4 : l.f.length = 4 := HL.out.f4
      have hf0 : 0 < l.f.length := by omega
      have hr0 : 0 < (l.f[0]?.getD []).length := by rw [(HL.out.ff 0 (by omega)).1]; omega
      clear h1 hf4
      go_enter Try.func54, Try.ntmps54
      go_wp2_with fail
      rw [← HWW.out]
      refine HV.out.mono ?_; rintro e w1 ⟨rfl, hx1⟩
      go_wp2_with fail
      refine (HCP.out w1 hx1).mono ?_; rintro e w2 ⟨iv, fv, rfl, ho2, hx2⟩
      obtain ⟨us, vs, hF⟩ := FSt.begin hx1 hx2 ho2
      have HXP : Hid (wA.heap.size ≤ w2.heap.size) := Lib.hid (by have := hx1.size; have := hx2.size; omega)
      clear ho2
      obtain ⟨gi, ci2, u0, rfl, _, hmi2, hgi, _⟩ := hF.l.spotI (j := 0) hn1
      obtain ⟨gf, cf2, g0, cg0, rfl, _, hmf2, _⟩ := hF.l.spotF (a := 0) hf0 hr0
      have HG := Lib.hid hF.o.lt
      have hX3 := hF.x
      have HFS := Lib.hid hF; clear hF hx2
      have HGN : Hid (gi ≠ w2.heap.size) := Lib.hid (by
        obtain ⟨cur, h1, _⟩ := ownBlock_cells HFS.out.l.i gi rfl
        rintro rfl
        have h2 : _ = _ := HFS.out.o
        rw [h1] at h2; injection h2 with h2; injection h2 with _ h2 _; exact absurd h2 (by decide))
      have hb0 := HFS.out.o
      have p0 := hb0.cell (i := 0) rfl
      have HGA : Hid (wA.heap.size ≤ w2.heap.size) := HXP
      have hwj : IntKind.i64.wrap ((j : Int) + 1) = (j : Int) + 1 := IntWalk.i64_in _ (by omega)
      have htn : ((j : Int) + 1).toNat = j + 1 := by omega
      have hlc : l.i.length ≤ ci2 := HFS.out.l.lenI
      have hic : j ≤ ci2 := by omega
      have hjc : j + 1 ≤ ci2 := by omega
      have hjn : j + 1 ≤ l.i.length := by omega
      have hjz : (0 : Int) ≤ (j : Int) + 1 := by omega
      have hjz2 : (j : Int) + 1 ≤ (l.i.length : Int) := by omega
      obtain ⟨A, hA, hsrc⟩ : ∃ A : Addr, (if ci2 = j + 1 then some (⟨gi, 0, none⟩ : Addr) else some ⟨gi, (j + 1) * 3, none⟩) = some A ∧ Hid (∀ (W : World), Ext (w2.alloc (.cells #[(.slice (some ⟨gi, 0, none⟩) l.i.length ci2), (.slice (some ⟨gf, 0, none⟩) l.f.length cf2)] 25)) W → ∀ q u, ((iCells us l.i).drop ((j + 1) * 3))[q]? = some u → W.cell? (A.add q) = some u) := by
        by_cases hc : ci2 = j + 1
        · refine ⟨⟨gi, 0, none⟩, by simp [hc], fun W hW q u hu => ?_⟩
          rw [List.getElem?_drop, List.getElem?_eq_none (by rw [iCells_len us l.i HFS.out.l.len.1]; omega)] at hu
          cases hu
        · refine ⟨⟨gi, (j + 1) * 3, none⟩, by simp [hc], fun W hW q u hu => ?_⟩
          rw [List.getElem?_drop] at hu
          rw [addr_add]
          exact hW.keep (HFS.out.l.cellI hu)
      have hfst : Hid (∀ (W : World), Ext (w2.alloc (.cells #[(.slice (some ⟨gi, 0, none⟩) l.i.length ci2), (.slice (some ⟨gf, 0, none⟩) l.f.length cf2)] 25)) W → ∀ q u, ((iCells us l.i).take (j * 3))[q]? = some u → W.cell? ⟨gi, 0 + q, none⟩ = some u) := fun W hW q u hu => by
        rw [List.getElem?_take] at hu
        split at hu
        · rw [Nat.zero_add]; exact hW.keep (HFS.out.l.cellI hu)
        · cases hu
      have HONE := Lib.hid HFS.out.l.one
      have HICL := Lib.hid (iCells_len us l.i HFS.out.l.len.1)
      clear hb0
      go_wp2_with fail
      have hzW : (w2.alloc (.cells #[(.slice (some ⟨gi, 0, none⟩) l.i.length ci2), (.slice (some ⟨gf, 0, none⟩) l.f.length cf2)] 25)).heap.size = w2.heap.size + 1 := by simp
      generalize hW3 : (w2.alloc (.cells #[(.slice (some ⟨gi, 0, none⟩) l.i.length ci2), (.slice (some ⟨gf, 0, none⟩) l.f.length cf2)] 25)) = W3 at *
      have HW3 := Lib.hid hW3; clear hW3
      refine wp_region_play W3.heap.size [12] [.calc 0, .look 1, .calc 2, .calc 3, .calc 4, .calc 5, .look 6, .calc 7, .calc 8, .calc 9, .go 10, .calc 11, .go 12] (by kernel_rfl) (by kernel_rfl) (by intro c a d v w h; cases d <;> exact h) ?_
      have hd : Ext W3 { W3 with drawn := W3.drawn + 1 } := drawn_ext W3
      have hzd : W3.heap.size ≤ ({ W3 with drawn := W3.drawn + 1 } : World).heap.size := Nat.le_refl _
      generalize { W3 with drawn := W3.drawn + 1 } = V1 at *
      have p1 := hd.keep p0
      have q0 := fun s : Since W3.heap.size V1 => s.keep (by show w2.heap.size < _; omega) p1
      (refine wpPlay_calc rfl (fun K hK => ?_); go_simp; first | (refine hK _ ?_; clear hK K) | (refine ⟨_, fun _ => rfl, hK _ ?_⟩; clear hK K))
      (refine wpPlay_look rfl (fun K hK => ?_); go_simp; first | (refine hK _ ?_; clear hK K) | (refine ⟨_, fun _ => rfl, hK _ ?_⟩; clear hK K))
      (refine wpPlay_calc rfl (fun K hK => ?_); go_simp; first | (refine hK _ ?_; clear hK K) | (refine ⟨_, fun _ => rfl, hK _ ?_⟩; clear hK K))
      (refine wpPlay_calc rfl (fun K hK => ?_); go_simp; first | (refine hK _ ?_; clear hK K) | (refine ⟨_, fun _ => rfl, hK _ ?_⟩; clear hK K))
      (refine wpPlay_calc rfl (fun K hK => ?_); go_simp; first | (refine hK _ ?_; clear hK K) | (refine ⟨_, fun _ => rfl, hK _ ?_⟩; clear hK K))
      (refine wpPlay_calc rfl (fun K hK => ?_); go_simp; first | (refine hK _ ?_; clear hK K) | (refine ⟨_, fun _ => rfl, hK _ ?_⟩; clear hK K))
      (refine wpPlay_look rfl (fun K hK => ?_); go_simp; first | (refine hK _ ?_; clear hK K) | (refine ⟨_, fun _ => rfl, hK _ ?_⟩; clear hK K))
      (refine wpPlay_calc rfl (fun K hK => ?_); go_simp; first | (refine hK _ ?_; clear hK K) | (refine ⟨_, fun _ => rfl, hK _ ?_⟩; clear hK K))
      (refine wpPlay_calc rfl (fun K hK => ?_); go_simp; first | (refine hK _ ?_; clear hK K) | (refine ⟨_, fun _ => rfl, hK _ ?_⟩; clear hK K))
      (refine wpPlay_calc rfl (fun K hK => ?_); go_simp; first | (refine hK _ ?_; clear hK K) | (refine ⟨_, fun _ => rfl, hK _ ?_⟩; clear hK K))
      clear q0 p0 p1 hA hwj htn
      refine wpPlay_go rfl rfl (fun K hK => ?_)
      obtain ⟨i0, hi0, hz0, hz1, hz2⟩ := info_parts elItems.info
      refine wpList_append_arg V1 rfl (.tmp 26) (.tmp 31) 22 rfl 28 i0 _ 3 40 elItems.ht hi0 hz0 hz1 hz2 elItems.zc elItems.pos gi 0 j j ((iCells us l.i).take (j * 3)) rfl (by rw [List.length_take, HICL.out]; omega) (hfst.out V1 hd) A (l.i.length - (j + 1)) _ ((iCells us l.i).drop ((j + 1) * 3)) rfl (by rw [List.length_drop, HICL.out]; omega) (hsrc.out V1 hd) (fun u hu => HONE.out u (List.mem_of_mem_drop hu)) (fun hr q hq => by rw [List.length_drop, HICL.out] at hq; omega) (by unfold maxLen; omega) (by omega) (fun hr => ?_) (fun hg v5 V5 hr5 hg5 => ?_)
      · have hjl1 : j + 1 = l.i.length := by omega
        have e1 : (iCells us l.i).drop ((j + 1) * 3) = [] := List.drop_eq_nil_of_le (by rw [HICL.out]; omega)
        rw [e1, show j + (l.i.length - (j + 1)) = j by omega]
        have HOT := Lib.hid ((HFS.out.l.ext hd).cutLast hjl1)
        have HBW := Lib.hid (HFS.out.o.ext hd)
        have HXW := Lib.hid (hX3.trans hd)
        have hbel : Below W3.heap.size V1 V1 := Below.refl _ _
        show wpList Try.prog _ _ _ _ V1
        clear hr e1 hjl1 hsrc hfst
        go_wp2_with fail
        refine ⟨.inr hbel, ?_⟩
        (refine wpPlay_calc rfl (fun K hK => ?_); go_simp; first | (refine hK _ ?_; clear hK K) | (refine ⟨_, fun _ => rfl, hK _ ?_⟩; clear hK K))
        have hBw := HBW.out
        have hw0 := hBw.cell (i := 0) rfl
        have hwf0 := hBw.frozen 0
        have hB9 : Blk (V1.setCell ⟨w2.heap.size, 0, none⟩ (.slice (some ⟨gi, 0, none⟩) j j)) w2.heap.size 25 [(.slice (some ⟨gi, 0, none⟩) j j), (.slice (some ⟨gf, 0, none⟩) l.f.length cf2)] := by have := hBw.set 0 (.slice (some ⟨gi, 0, none⟩) j j); exact this
        have d0 := hB9.cell (i := 0) rfl
        have d1 := hB9.cell (i := 1) rfl
        have hO9 := HOT.out.keptN (grownBy_set V1 w2.heap.size 0 (.slice (some ⟨gi, 0, none⟩) j j)) hBw ⟨by decide, by decide, by decide⟩
        have HO9 := Lib.hid hO9
        have hX9 : Ext wA (V1.setCell ⟨w2.heap.size, 0, none⟩ (.slice (some ⟨gi, 0, none⟩) j j)) := HXW.out.setCell HGA.out _ _
        clear hBw hB9 hO9
        refine wpPlay_go rfl rfl (fun K hK => ?_)
        go_wp2_with fail
        refine ⟨.inl (by decide), ?_⟩
        refine wpPlay_nil ?_
        clear hw0 hwf0
        have hrb := HB0.out.ext (hX9)
        have hrz : w.heap.size ≤ wA.heap.size := hE0.size
        have r0 := hrb.cell (i := 0) rfl
        have r1 := hrb.cell (i := 1) rfl
        have rf0 := hrb.frozen 0
        have rf1 := hrb.frozen 1
        have hr2 : Blk (((V1.setCell ⟨w2.heap.size, 0, none⟩ (.slice (some ⟨gi, 0, none⟩) j j)).setCell ⟨w.heap.size + 1, 0, none⟩ (.slice (some ⟨gi, 0, none⟩) j j)).setCell ⟨w.heap.size + 1, 1, none⟩ (.slice (some ⟨gf, 0, none⟩) l.f.length cf2)) (w.heap.size + 1) 25 [(.slice (some ⟨gi, 0, none⟩) j j), (.slice (some ⟨gf, 0, none⟩) l.f.length cf2)] := by have := (hrb.set 0 (.slice (some ⟨gi, 0, none⟩) j j)).set 1 (.slice (some ⟨gf, 0, none⟩) l.f.length cf2); exact this
        have e0 := hr2.cell (i := 0) rfl
        have e1 := hr2.cell (i := 1) rfl
        have hO1 := (HO9.out).keptN (grownBy_set (V1.setCell ⟨w2.heap.size, 0, none⟩ (.slice (some ⟨gi, 0, none⟩) j j)) (w.heap.size + 1) 0 (.slice (some ⟨gi, 0, none⟩) j j)) hrb ⟨by decide, by decide, by decide⟩
        have hO2 := hO1.keptN (grownBy_set _ (w.heap.size + 1) 1 (.slice (some ⟨gf, 0, none⟩) l.f.length cf2)) (by have := hrb.set 0 (.slice (some ⟨gi, 0, none⟩) j j); exact this) ⟨by decide, by decide, by decide⟩
        have HOL := Lib.hid hO2.lexR
        have HXE := Lib.hid (((hE0.trans (hX9)).setCell (by omega : w.heap.size ≤ w.heap.size + 1) 0 (.slice (some ⟨gi, 0, none⟩) j j)).setCell (by omega : w.heap.size ≤ w.heap.size + 1) 1 (.slice (some ⟨gf, 0, none⟩) l.f.length cf2))
        clear hr2 hO1 hO2 hrb
        go_wp2_with fail
        refine bodyPost_ret (v := .tuple #[.agg #[(.slice (some ⟨gi, 0, none⟩) j j), (.slice (some ⟨gf, 0, none⟩) l.f.length cf2)], .int .i64 0]) (by simp [results, Try.results54, go_sem, e0, e1]) rfl ?_
        exact ⟨_, _, rfl, HOL.out, HXE.out⟩
      · have hE5 : Ext V1 V5 := grown_below (Ext.refl V1) hg5 (fun r e => by cases e)
        rw [show j + (l.i.length - (j + 1)) = l.i.length - 1 by omega] at hr5
        obtain ⟨a5, c5, rfl, _, _, _⟩ := ownsRow_form hr5
        have hzV : wA.heap.size ≤ V1.heap.size := by have := HXP.out; omega
        have HOT := Lib.hid ((HFS.out.l.ext hd).cutNew hjl hzV hE5 hr5)
        have HBW := Lib.hid ((HFS.out.o.ext hd).ext hE5)
        have HXW := Lib.hid ((hX3.trans hd).trans hE5)
        have hbel : Below W3.heap.size V1 V5 := hE5.mono hzd
        clear hr5 hg5 hg hsrc hfst
        go_wp2_with fail
        refine ⟨.inr hbel, ?_⟩
        (refine wpPlay_calc rfl (fun K hK => ?_); go_simp; first | (refine hK _ ?_; clear hK K) | (refine ⟨_, fun _ => rfl, hK _ ?_⟩; clear hK K))
        have hBw := HBW.out
        have hw0 := hBw.cell (i := 0) rfl
        have hwf0 := hBw.frozen 0
        have hB9 : Blk (V5.setCell ⟨w2.heap.size, 0, none⟩ (.slice a5 (l.i.length - 1) c5)) w2.heap.size 25 [(.slice a5 (l.i.length - 1) c5), (.slice (some ⟨gf, 0, none⟩) l.f.length cf2)] := by have := hBw.set 0 (.slice a5 (l.i.length - 1) c5); exact this
        have d0 := hB9.cell (i := 0) rfl
        have d1 := hB9.cell (i := 1) rfl
        have hO9 := HOT.out.keptN (grownBy_set V5 w2.heap.size 0 (.slice a5 (l.i.length - 1) c5)) hBw ⟨by decide, by decide, by decide⟩
        have HO9 := Lib.hid hO9
        have hX9 : Ext wA (V5.setCell ⟨w2.heap.size, 0, none⟩ (.slice a5 (l.i.length - 1) c5)) := HXW.out.setCell HGA.out _ _
        clear hBw hB9 hO9
        refine wpPlay_go rfl rfl (fun K hK => ?_)
        go_wp2_with fail
        refine ⟨.inl (by decide), ?_⟩
        refine wpPlay_nil ?_
        clear hw0 hwf0
        have hrb := HB0.out.ext (hX9)
        have hrz : w.heap.size ≤ wA.heap.size := hE0.size
        have r0 := hrb.cell (i := 0) rfl
        have r1 := hrb.cell (i := 1) rfl
        have rf0 := hrb.frozen 0
        have rf1 := hrb.frozen 1
        have hr2 : Blk (((V5.setCell ⟨w2.heap.size, 0, none⟩ (.slice a5 (l.i.length - 1) c5)).setCell ⟨w.heap.size + 1, 0, none⟩ (.slice a5 (l.i.length - 1) c5)).setCell ⟨w.heap.size + 1, 1, none⟩ (.slice (some ⟨gf, 0, none⟩) l.f.length cf2)) (w.heap.size + 1) 25 [(.slice a5 (l.i.length - 1) c5), (.slice (some ⟨gf, 0, none⟩) l.f.length cf2)] := by have := (hrb.set 0 (.slice a5 (l.i.length - 1) c5)).set 1 (.slice (some ⟨gf, 0, none⟩) l.f.length cf2); exact this
        have e0 := hr2.cell (i := 0) rfl
        have e1 := hr2.cell (i := 1) rfl
        have hO1 := (HO9.out).keptN (grownBy_set (V5.setCell ⟨w2.heap.size, 0, none⟩ (.slice a5 (l.i.length - 1) c5)) (w.heap.size + 1) 0 (.slice a5 (l.i.length - 1) c5)) hrb ⟨by decide, by decide, by decide⟩
        have hO2 := hO1.keptN (grownBy_set _ (w.heap.size + 1) 1 (.slice (some ⟨gf, 0, none⟩) l.f.length cf2)) (by have := hrb.set 0 (.slice a5 (l.i.length - 1) c5); exact this) ⟨by decide, by decide, by decide⟩
        have HOL := Lib.hid hO2.lexR
        have HXE := Lib.hid (((hE0.trans (hX9)).setCell (by omega : w.heap.size ≤ w.heap.size + 1) 0 (.slice a5 (l.i.length - 1) c5)).setCell (by omega : w.heap.size ≤ w.heap.size + 1) 1 (.slice (some ⟨gf, 0, none⟩) l.f.length cf2))
        clear hr2 hO1 hO2 hrb
        go_wp2_with fail
        refine bodyPost_ret (v := .tuple #[.agg #[(.slice a5 (l.i.length - 1) c5), (.slice (some ⟨gf, 0, none⟩) l.f.length cf2)], .int .i64 0]) (by simp [results, Try.results54, go_sem, e0, e1]) rfl ?_
        exact ⟨_, _, rfl, HOL.out, HXE.out⟩
  · rw [if_neg h0] at HDK
    have HLL : Hid (withoutL l n = ⟨[], []⟩) := Lib.hid (by rw [HDL.out, HDK.out, if_neg h0])
    rw [HLL.out, HDK.out]
    generalize itemK l n = k at *
    have hk : (k != 0) = true := by simpa using h0
    clear h0
    go_enter Try.func54, Try.ntmps54
    go_wp2_with fail
    rw [← HWW.out]
    refine HV.out.mono ?_; rintro e w1 ⟨rfl, hx1⟩
    have hrb := HB0.out.ext (hx1)
    have hrz : w.heap.size ≤ wA.heap.size := hE0.size
    have r0 := hrb.cell (i := 0) rfl
    have r1 := hrb.cell (i := 1) rfl
    have rf0 := hrb.frozen 0
    have rf1 := hrb.frozen 1
    have hr2 : Blk ((w1.setCell ⟨w.heap.size + 1, 0, none⟩ (.slice none 0 0)).setCell ⟨w.heap.size + 1, 1, none⟩ (.slice none 0 0)) (w.heap.size + 1) 25 [(.slice none 0 0), (.slice none 0 0)] := by have := (hrb.set 0 (.slice none 0 0)).set 1 (.slice none 0 0); exact this
    have e0 := hr2.cell (i := 0) rfl
    have e1 := hr2.cell (i := 1) rfl
    have hO1 := (OLexT.nil w1 wA.heap.size).keptN (grownBy_set w1 (w.heap.size + 1) 0 (.slice none 0 0)) hrb ⟨by decide, by decide, by decide⟩
    have hO2 := hO1.keptN (grownBy_set _ (w.heap.size + 1) 1 (.slice none 0 0)) (by have := hrb.set 0 (.slice none 0 0); exact this) ⟨by decide, by decide, by decide⟩
    have HOL := Lib.hid hO2.lexR
    have HXE := Lib.hid (((hE0.trans (hx1)).setCell (by omega : w.heap.size ≤ w.heap.size + 1) 0 (.slice none 0 0)).setCell (by omega : w.heap.size ≤ w.heap.size + 1) 1 (.slice none 0 0))
    clear hr2 hO1 hO2 hrb
    go_wp2_with fail
    refine bodyPost_ret (v := .tuple #[.agg #[(.slice none 0 0), (.slice none 0 0)], .int .i64 k]) (by simp [results, Try.results54, go_sem, e0, e1]) rfl ?_
    exact ⟨_, _, rfl, HOL.out, HXE.out⟩
end Go.Proofs.Ytgpggmcjggpmpaa
