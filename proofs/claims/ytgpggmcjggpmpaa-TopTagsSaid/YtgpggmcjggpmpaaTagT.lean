/- What hangs over, if an item is put behind the shorter list. -/
import Derived.Test.YtgpggmcjggpmpaaTagE
import Derived.Test.YtgpggmcjggpmpaaTagC
namespace Go.Proofs.Ytgpggmcjggpmpaa
open Go.RowKit Go.Shelf
set_option linter.unusedVariables false

/-! ## lists that stay while a row of another kind grows -/
/-- a block of old memory, or of ints -/
def IBlk (w : World) (B b : Nat) : Prop := b < B ∨ ∃ cur fz, w.heap[b]? = some (.cells cur 3 fz)
structure SInts (w : World) (B : Nat) (v : Value) (l : List Int) : Prop where
  ints : Ints w v l
  blk : 0 < l.length → ∀ b, v.ownBlock = some b → IBlk w B b
/-- a block that holds no ints, from B on -/
def NoI (w : World) (B r : Nat) : Prop := B ≤ r ∧ ∃ cur T fz, w.heap[r]? = some (.cells cur T fz) ∧ T ≠ 3
theorem SInts.kept {w w' : World} {B : Nat} {v : Value} {l : List Int} {row : Option Nat} (h : SInts w B v l) (hg : w.grownBy w' row) (hr : ∀ r, row = some r → NoI w B r) : SInts w' B v l := by
  have hne : ∀ b, IBlk w B b → some b ≠ row := fun b hb e => by
    obtain ⟨h1, cur, T, fz, h2, h3⟩ := hr b e.symm
    rcases hb with hb | ⟨cur', fz', hb⟩
    · omega
    · rw [hb] at h2; injection h2 with h2; injection h2 with _ h2 _; exact h3 h2.symm
  constructor
  · obtain ⟨a, c, rfl, hn, hm, H⟩ := h.ints
    refine ⟨a, c, rfl, hn, hm, fun i hi => ?_⟩
    obtain ⟨b, o, rfl, hc⟩ := H i hi
    refine ⟨b, o, rfl, ?_⟩
    exact hg.cell hc (hne b (h.blk (by omega) b rfl))
  · intro hl b hb
    have hib := h.blk hl b hb
    rcases hib with h1 | ⟨cur, fz, h1⟩
    · exact .inl h1
    · exact .inr ⟨cur, fz, (hg.block b (Array.getElem?_eq_some_iff.1 h1).1 (hne b (.inr ⟨cur, fz, h1⟩))).trans h1⟩
theorem SInts.ext {w w' : World} {B : Nat} {v : Value} {l : List Int} (h : SInts w B v l) (hx : Ext w w') : SInts w' B v l :=
  h.kept (grownBy_of_ext hx none) (fun r e => by cases e)
theorem SInts.old {w0 w : World} {B : Nat} {v : Value} {l : List Int} (h : Ints w0 v l) (hx : Ext w0 w) (hB : w0.heap.size ≤ B) : SInts w B v l := by
  refine ⟨h.ext hx, fun hl b hb => .inl ?_⟩
  obtain ⟨a, c, rfl, hn, hm, H⟩ := h
  obtain ⟨b', o, rfl, hc⟩ := H 0 hl
  have : b' = b := by simpa [Value.ownBlock] using hb
  have := cell_lt hc
  simp only at this; omega
theorem SInts.own {w : World} {B : Nat} {v : Value} {l : List Int} {B' : Nat} (h : OInts 3 w B' v l) : SInts w B v l :=
  ⟨h.ints, fun hl b hb => .inr (by
    rcases h.2 with ⟨_, h0⟩ | ⟨g, cap, cur, rfl, _, hgb, _⟩
    · omega
    · have : g = b := by simpa [Value.ownBlock] using hb
      subst this; exact ⟨cur, _, hgb⟩)⟩
theorem SInts.nil (w : World) (B : Nat) : SInts w B (.slice none 0 0) [] := ⟨ints_nil_c w, fun h => by simp at h⟩
theorem SInts.low {w : World} {B B' : Nat} {v : Value} {l : List Int} (h : SInts w B v l) (hB : B ≤ B') : SInts w B' v l := ⟨h.ints, fun hl b hb => (h.blk hl b hb).elim (fun h => .inl (by omega)) .inr⟩
theorem SInts.drop {w : World} {B b o c n : Nat} {l : List Int} (h : SInts w B (.slice (some ⟨b, o, none⟩) n c) l) {k : Nat} (hk : k ≤ l.length) {A : Option Addr} (hA : (if c = k then (some ⟨b, o, none⟩ : Option Addr) else some ⟨b, o + k, none⟩) = A) : SInts w B (.slice A (l.length - k) (c - k)) (l.drop k) := by
  refine ⟨ints_drop h.ints hk hA, fun hl b' hb => ?_⟩
  have hb' : b' = b := by subst hA; split at hb <;> simpa [Value.ownBlock] using hb.symm
  subst hb'
  exact h.blk (by rw [List.length_drop] at hl; omega) b' rfl
theorem IBlk.noI_set {w : World} {B g i : Nat} {ty : TypeId} {vs : List Value} {u : Value} {v : Value} {l : List Int} (h : SInts w B v l) (hg : Blk w g ty vs) (hty : ty ≠ 3) (hB : B ≤ g) : SInts (w.setCell ⟨g, i, none⟩ u) B v l :=
  h.kept (grownBy_set w g i u) (fun r e => by injection e with e; subst e; exact ⟨hB, _, ty, _, hg, hty⟩)

/-- two lists and what the first one has more -/
abbrev Hng : Type := List Int × List Int × List Int
def withH (l : Lex) (h : Hng) (j : Nat) : Option Hng :=
  if (wrd l j).isPrefixOf h.2.2 then some (h.1, h.2.1 ++ [(j : Int)], h.2.2.drop (wrd l j).length)
  else if h.2.2.isPrefixOf (wrd l j) then some (h.2.1 ++ [(j : Int)], h.1, (wrd l j).drop h.2.2.length) else none
structure HngR (w : World) (B : Nat) (a b c : Value) (h : Hng) : Prop where
  lo : SInts w B a h.1
  sh : SInts w B b h.2.1
  ov : SInts w B c h.2.2
theorem HngR.ext {w w' : World} {B : Nat} {a b c : Value} {h : Hng} (hh : HngR w B a b c h) (hx : Ext w w') : HngR w' B a b c h := ⟨hh.lo.ext hx, hh.sh.ext hx, hh.ov.ext hx⟩
theorem HngR.kept {w w' : World} {B : Nat} {a b c : Value} {h : Hng} {row : Option Nat} (hh : HngR w B a b c h) (hg : w.grownBy w' row) (hr : ∀ r, row = some r → NoI w B r) : HngR w' B a b c h := ⟨hh.lo.kept hg hr, hh.sh.kept hg hr, hh.ov.kept hg hr⟩
def RWith (B : Nat) (o : Option Hng) (w : World) (e : Ending) (w' : World) : Prop := Ext w w' ∧ ∃ a b c, e = .returned (.tuple #[.agg #[a, b, c], .bool o.isSome]) ∧ HngR w' B a b c (o.getD ([], [], []))
/-- three slices in a block of one's own -/
structure Tri (W : World) (g : Nat) (a b c : Value) : Prop where
  blk : Blk W g 104 [a, b, c]
theorem Tri.set {W : World} {g : Nat} {a b c a' b' c' : Value} (h : Tri W g a b c) : Tri (((W.setCell ⟨g, 0, none⟩ a').setCell ⟨g, 1, none⟩ b').setCell ⟨g, 2, none⟩ c') g a' b' c' :=
  ⟨by have := ((h.blk.set 0 a').set 1 b').set 2 c'; simpa using this⟩
theorem Tri.ext {W W' : World} {g : Nat} {a b c : Value} (h : Tri W g a b c) (hx : Ext W W') : Tri W' g a b c := ⟨h.blk.ext hx⟩
theorem Tri.ints {W : World} {g B : Nat} {a b c a' b' c' v : Value} {l : List Int} (h : Tri W g a b c) (hB : B ≤ g) (hv : SInts W B v l) : SInts (((W.setCell ⟨g, 0, none⟩ a').setCell ⟨g, 1, none⟩ b').setCell ⟨g, 2, none⟩ c') B v l :=
  IBlk.noI_set (IBlk.noI_set (IBlk.noI_set hv h.blk (by decide) hB) (h.blk.set 0 a') (by decide) hB) ((h.blk.set 0 a').set 1 b') (by decide) hB
theorem Tri.ext3 {w W : World} {g : Nat} (h : Ext w W) (hg : w.heap.size ≤ g) (a' b' c' : Value) : Ext w (((W.setCell ⟨g, 0, none⟩ a').setCell ⟨g, 1, none⟩ b').setCell ⟨g, 2, none⟩ c') := ((h.setCell hg _ _).setCell hg _ _).setCell hg _ _
theorem Tri.ext3w {w0 w W : World} {g : Nat} {a b c : Value} (h : Tri W g a b c) {a' b' c' : Value} (hx : Ext w W) (hg : w0.heap.size ≤ g) (h0 : Ext w0 w) : Ext w0 (((W.setCell ⟨g, 0, none⟩ a').setCell ⟨g, 1, none⟩ b').setCell ⟨g, 2, none⟩ c') := Tri.ext3 (h0.trans hx) hg a' b' c'
theorem pre_take {a b : List Int} (h : a.length ≤ b.length) : decide (a = b.take a.length) = a.isPrefixOf b := by
  rw [Bool.eq_iff_iff, decide_eq_true_eq, List.isPrefixOf_iff_prefix]
  constructor
  · intro e; exact ⟨b.drop a.length, by conv => lhs; rw [e]
                                        rw [List.length_take, Nat.min_eq_left h]; exact List.take_append_drop _ _⟩
  · rintro ⟨r, rfl⟩; simp
theorem pre_not {a b : List Int} (h : b.length < a.length) : a.isPrefixOf b = false := by
  rw [Bool.eq_false_iff]; intro e
  rw [List.isPrefixOf_iff_prefix] at e
  have := e.length_le; omega
theorem pre_same {a b : List Int} (h : a.length ≤ b.length) (h1 : a.isPrefixOf b = false) : b.isPrefixOf a = false := by
  rw [Bool.eq_false_iff] at *
  intro e
  rw [List.isPrefixOf_iff_prefix] at e
  have hl := e.length_le
  have := e.eq_of_length (by omega)
  subst this; exact h1 (by rw [List.isPrefixOf_iff_prefix]; exact List.prefix_refl _)

set_option maxHeartbeats 4000000 in
set_option maxRecDepth 100000 in
theorem with_c (w0 : World) (B : Nat) (lov shv ovv iv fv : Value) (l : Lex) (hh : Hng) (j : Nat) (w : World) (hx0 : Ext w0 w) (h : LexR w0 iv fv l) (hl : LexOk l) (hB0 : w0.heap.size ≤ B) (hB : B ≤ w.heap.size) (hr : HngR w B lov shv ovv hh) (hj : j < l.i.length) (hsl : hh.2.1.length ≤ 1000) (hol : hh.2.2.length ≤ 6) (hop : 0 < hh.2.2.length) :
    Calls Try.prog 95 #[.agg #[lov, shv, ovv], .agg #[iv, fv], .int .i64 (j : Int)] w (RWith B (withH l hh j) w) := by
  obtain ⟨lo, sh, ov⟩ := hh
  obtain ⟨hlo, hsh, hov⟩ := hr
  simp only at hlo hsh hov hsl hol hop
  obtain ⟨w1, hw1⟩ : ∃ w1, w1 = w.alloc (.cells #[lov, shv, ovv] 104) := ⟨_, rfl⟩
  have hE1 : Ext w w1 := by rw [hw1]; exact Ext.alloc _ _
  obtain ⟨w2, hw2⟩ : ∃ w2, w2 = w1.alloc (.cells #[iv, fv] 25) := ⟨_, rfl⟩
  have hE2 : Ext w1 w2 := by rw [hw2]; exact Ext.alloc _ _
  obtain ⟨wA, hwA⟩ : ∃ wA, wA = w2.alloc (.cells #[.slice none 0 0, .slice none 0 0, .slice none 0 0] 104) := ⟨_, rfl⟩
  have hE3 : Ext w2 wA := by rw [hwA]; exact Ext.alloc _ _
  have hz1 : w1.heap.size = w.heap.size + 1 := by rw [hw1]; simp
  have hz2 : w2.heap.size = w.heap.size + 1 + 1 := by rw [hw2]; simp; omega
  have hE0 : Ext w wA := hE1.trans (hE2.trans hE3)
  have hzA : wA.heap.size = w.heap.size + 1 + 1 + 1 := by rw [hwA]; simp; omega
  have k0 : ∀ W, Ext wA W → W.cell? ⟨w.heap.size, 0, none⟩ = some lov := by rw [hw1] at hE2; exact fun W hW => kept_alloc w _ _ rfl W ((hE2.trans hE3).trans hW)
  have k1 : ∀ W, Ext wA W → W.cell? ⟨w.heap.size, 1, none⟩ = some shv := by rw [hw1] at hE2; exact fun W hW => kept_alloc w _ _ rfl W ((hE2.trans hE3).trans hW)
  have k2 : ∀ W, Ext wA W → W.cell? ⟨w.heap.size, 2, none⟩ = some ovv := by rw [hw1] at hE2; exact fun W hW => kept_alloc w _ _ rfl W ((hE2.trans hE3).trans hW)
  have m0 : ∀ W, Ext wA W → W.cell? ⟨w.heap.size + 1, 0, none⟩ = some iv := by rw [← hz1]; rw [hw2] at hE3; exact fun W hW => kept_alloc w1 _ _ rfl W (hE3.trans hW)
  have HTR : Hid (Tri wA (w.heap.size + 1 + 1) (.slice none 0 0) (.slice none 0 0) (.slice none 0 0)) := by rw [← hz2, hwA]; exact Lib.hid ⟨Blk.alloc w2 _ _⟩
  have HWW : Hid (wA = ((w.alloc (.cells #[lov, shv, ovv] 104)).alloc (.cells #[iv, fv] 25)).alloc (.cells #[.slice none 0 0, .slice none 0 0, .slice none 0 0] 104)) := Lib.hid (by rw [hwA, hw2, hw1])
  have H0 : Ext wA wA := Ext.refl _
  have hX0 : Ext w0 wA := hx0.trans hE0
  obtain ⟨ai, ci, rfl, hli, hmi, HI⟩ := h.i.open_
  obtain ⟨af, cf, rfl, hlf, hmf, HF⟩ := Rows.open_ h.f
  have HLO := Lib.hid (hlo.ext hE0)
  have HSH := Lib.hid (hsh.ext hE0)
  have HOV := Lib.hid (hov.ext hE0)
  obtain ⟨al, cl, rfl, _, _, _⟩ := hlo.ints.open_
  obtain ⟨as_, cs, rfl, _, _, _⟩ := hsh.ints.open_
  obtain ⟨ao, co, rfl, hloo, hmoo, HOO⟩ := hov.ints.open_
  obtain ⟨bo, oo, rfl, _⟩ := HOO.out 0 hop
  obtain ⟨bi, oi, rfl, u, hc0, hu, _, _⟩ := HI.out j hj
  have hL := hl.wo j hj
  have HWD : Hid (wrd l (j : Int) = (itm l.i j).w) := Lib.hid rfl
  rw [← HWD.out] at hu hL
  have HU : Hid (SInts wA B u (wrd l (j : Int))) := Lib.hid (SInts.old hu hX0 hB0)
  obtain ⟨au, cu, rfl, hluu, hmuu, HUU⟩ := hu.open_
  obtain ⟨bu, ou, rfl, _⟩ := HUU.out 0 (by omega)
  have hc0' : (((w.alloc (.cells #[.slice al lo.length cl, .slice as_ sh.length cs, .slice (some ⟨bo, oo, none⟩) ov.length co] 104)).alloc (.cells #[.slice (some ⟨bi, oi, none⟩) l.i.length ci, .slice af l.f.length cf] 25)).alloc (.cells #[.slice none 0 0, .slice none 0 0, .slice none 0 0] 104)).cell? ⟨bi, oi + j * 3, none⟩ = some (.slice (some ⟨bu, ou, none⟩) (wrd l (j : Int)).length cu) := by rw [← HWW.out]; exact hX0.keep hc0
  have HCL := Lib.hid (cloneInts_c _ sh wA HSH.out.ints (by omega))
  have HWH : Hid (withH l (lo, sh, ov) j = if (wrd l (j : Int)).isPrefixOf ov then some (lo, sh ++ [(j : Int)], ov.drop (wrd l (j : Int)).length) else if ov.isPrefixOf (wrd l (j : Int)) then some (sh ++ [(j : Int)], lo, (wrd l (j : Int)).drop ov.length) else none) := Lib.hid rfl
  have hgA : w.heap.size ≤ w.heap.size + 1 + 1 := by omega
  have HHB : Hid (B ≤ w.heap.size + 1 + 1) := Lib.hid (by omega)
  clear hw1 hw2 hwA hz1 hz2 hE1 hE2 hE3 h hu hlo hsh hov w1 w2 hl hc0
  have hjI : (j : Int) < (l.i.length : Int) := by omega
  generalize hWW : wrd l (j : Int) = W at *
  have HWJ := Lib.hid hWW; clear hWW
  have hL1 : 1 ≤ W.length := hL.1
  have hL6 : W.length ≤ 6 := hL.2
  clear hL
  rw [HWH.out]
  by_cases hcmp : W.length ≤ ov.length
  · have hpt := pre_take hcmp
    have hpn := fun h => pre_same (a := W) (b := ov) hcmp h
    have hcI : (W.length : Int) ≤ (ov.length : Int) := by omega
    have HEQ := Lib.hid (fun V (hV : Ext wA V) => equal_v (.slice (some ⟨bu, ou, none⟩) W.length cu) (.slice (some ⟨bo, oo, none⟩) W.length co) W (ov.take W.length) V (HU.out.ints.ext hV) (ints_take (HOV.out.ints.ext hV) hcmp))
    rw [hpt] at HEQ
    clear hpt
    have hdl : decide ((W.length : Int) ≤ (ov.length : Int)) = true := by simp; omega
    have hdl2 : decide (W.length ≤ ov.length) = true := by simp; omega
    cases hb : W.isPrefixOf ov with
    | false =>
      have hpn := hpn hb
      rw [hb] at HEQ
      simp only [hpn, Bool.false_eq_true, if_false]
      clear hpn hb
      go_enter Try.func95, Try.ntmps95
      go_wp2_with fail
      rw [← HWW.out]
      refine HCL.out.mono ?_; rintro e w3 ⟨v3, rfl, ho3, hx3⟩
      have HO3 := Lib.hid ho3
      have hz3 := hx3.size
      clear ho3
      go_wp2_with (at_builtin; refine wpList_appendInt elInts rfl _ _ rfl rfl rfl HO3.out rfl (by omega) (by omega) ?_; intro v4 w4 ho4 hb4; have hX4 : Ext wA w4 := hx3.upto hb4 (Nat.le_refl _))
      have HM : Hid (SInts w4 B v4 (sh ++ [(j : Int)])) := Lib.hid (SInts.own ho4)
      have hs5 : ∀ s : Later w4, Ext wA s.w := fun s => hX4.trans s.ext
      obtain ⟨a4, c4, rfl, _, _, _⟩ := ho4.ints.open_
      clear hc0' hx3 ho4 hb4 hz3
      refine wp_region_later (by kernel_rfl) (by kernel_rfl) ?_
      repeat (go_big_quiet_step ((go_at_call 59; first | with_reducible exact Later.call (HEQ.out _ (hs5 _)))))
      refine wpQuiet_nil ?_
      intro w5 hw'
      obtain ⟨⟨_, hx5⟩, rfl⟩ := hw'
      clear hs5
      have hX5 := hX4.trans hx5
      have HM5 := Lib.hid (HM.out.ext hx5)
      have ht5 := HTR.out.ext hX5
      have q0 := ht5.blk.cell (i := 0) rfl
      have q1 := ht5.blk.cell (i := 1) rfl
      have q2 := ht5.blk.cell (i := 2) rfl
      have f0 := ht5.blk.frozen 0
      have f1 := ht5.blk.frozen 1
      have f2 := ht5.blk.frozen 2
      go_wp2_with fail
      have ht7 := ht5.set (a' := .slice none 0 0) (b' := .slice none 0 0) (c' := .slice none 0 0)
      have d0 := ht7.blk.cell (i := 0) rfl
      have d1 := ht7.blk.cell (i := 1) rfl
      have d2 := ht7.blk.cell (i := 2) rfl
      refine bodyPost_ret (v := .tuple #[.agg #[.slice none 0 0, .slice none 0 0, .slice none 0 0], .bool false]) (by simp [results, Try.results95, go_sem, d0, d1, d2]) rfl ?_
      exact ⟨ht5.ext3w hX5 hgA hE0, _, _, _, rfl, SInts.nil _ _, SInts.nil _ _, SInts.nil _ _⟩
    | true =>
      rw [hb] at HEQ
      simp only [if_true]
      clear hpn hb
      by_cases hcap : co = W.length
      · have HDR : Hid (∀ V, Ext wA V → SInts V B (.slice (some ⟨bo, oo, none⟩) (ov.length - W.length) (co - W.length)) (ov.drop W.length)) := Lib.hid (fun V hV => (HOV.out.ext hV).drop hcmp (if_pos hcap))
        subst hcap
        go_enter Try.func95, Try.ntmps95
        go_wp2_with fail
        rw [← HWW.out]
        refine HCL.out.mono ?_; rintro e w3 ⟨v3, rfl, ho3, hx3⟩
        have HO3 := Lib.hid ho3
        have hz3 := hx3.size
        clear ho3
        go_wp2_with (at_builtin; refine wpList_appendInt elInts rfl _ _ rfl rfl rfl HO3.out rfl (by omega) (by omega) ?_; intro v4 w4 ho4 hb4; have hX4 : Ext wA w4 := hx3.upto hb4 (Nat.le_refl _))
        have HM : Hid (SInts w4 B v4 (sh ++ [(j : Int)])) := Lib.hid (SInts.own ho4)
        have hs5 : ∀ s : Later w4, Ext wA s.w := fun s => hX4.trans s.ext
        obtain ⟨a4, c4, rfl, _, _, _⟩ := ho4.ints.open_
        clear hc0' hx3 ho4 hb4 hz3
        refine wp_region_later (by kernel_rfl) (by kernel_rfl) ?_
        repeat (go_big_quiet_step ((go_at_call 59; first | with_reducible exact Later.call (HEQ.out _ (hs5 _)))))
        refine wpQuiet_nil ?_
        intro w5 hw'
        obtain ⟨⟨_, hx5⟩, rfl⟩ := hw'
        clear hs5
        have hX5 := hX4.trans hx5
        have HM5 := Lib.hid (HM.out.ext hx5)
        have hs6 : ∀ s : Later w5, Ext wA s.w := fun s => hX5.trans s.ext
        go_wp2_with fail
        refine wp_region_later_tail 8 (by kernel_rfl) (by kernel_rfl) ?_
        simp only [List.take_succ_cons, List.take_zero, List.drop_succ_cons, List.drop_zero]
        repeat (go_big_quiet_step (fail))
        refine wpQuiet_nil ?_
        intro w6 hw'
        obtain ⟨⟨_, hx6⟩, rfl⟩ := hw'
        clear hs6
        have hX6 := hX5.trans hx6
        have ht6 := HTR.out.ext hX6
        have q0 := ht6.blk.cell (i := 0) rfl
        have q1 := ht6.blk.cell (i := 1) rfl
        have q2 := ht6.blk.cell (i := 2) rfl
        have f0 := ht6.blk.frozen 0
        have f1 := ht6.blk.frozen 1
        have f2 := ht6.blk.frozen 2
        go_wp2_with fail
        have HM6 := HM5.out.ext hx6
        rw [List.length_append, List.length_singleton] at HM6
        have HD6 := HDR.out w6 hX6
        rw [show ov.length - W.length = 0 by omega, Nat.sub_self] at HD6
        have ht7 := ht6.set (a' := (.slice al lo.length cl)) (b' := (.slice a4 (sh.length + 1) c4)) (c' := (.slice (some ⟨bo, oo, none⟩) 0 0))
        have d0 := ht7.blk.cell (i := 0) rfl
        have d1 := ht7.blk.cell (i := 1) rfl
        have d2 := ht7.blk.cell (i := 2) rfl
        refine bodyPost_ret (v := .tuple #[.agg #[(.slice al lo.length cl), (.slice a4 (sh.length + 1) c4), (.slice (some ⟨bo, oo, none⟩) 0 0)], .bool true]) (by simp [results, Try.results95, go_sem, d0, d1, d2]) rfl ?_
        exact ⟨ht6.ext3w hX6 hgA hE0, _, _, _, rfl, ht6.ints HHB.out (HLO.out.ext hX6), ht6.ints HHB.out HM6, ht6.ints HHB.out HD6⟩
      · have HDR : Hid (∀ V, Ext wA V → SInts V B (.slice (some ⟨bo, oo + W.length, none⟩) (ov.length - W.length) (co - W.length)) (ov.drop W.length)) := Lib.hid (fun V hV => (HOV.out.ext hV).drop hcmp (if_neg hcap))
        go_enter Try.func95, Try.ntmps95
        go_wp2_with fail
        rw [← HWW.out]
        refine HCL.out.mono ?_; rintro e w3 ⟨v3, rfl, ho3, hx3⟩
        have HO3 := Lib.hid ho3
        have hz3 := hx3.size
        clear ho3
        go_wp2_with (at_builtin; refine wpList_appendInt elInts rfl _ _ rfl rfl rfl HO3.out rfl (by omega) (by omega) ?_; intro v4 w4 ho4 hb4; have hX4 : Ext wA w4 := hx3.upto hb4 (Nat.le_refl _))
        have HM : Hid (SInts w4 B v4 (sh ++ [(j : Int)])) := Lib.hid (SInts.own ho4)
        have hs5 : ∀ s : Later w4, Ext wA s.w := fun s => hX4.trans s.ext
        obtain ⟨a4, c4, rfl, _, _, _⟩ := ho4.ints.open_
        clear hc0' hx3 ho4 hb4 hz3
        refine wp_region_later (by kernel_rfl) (by kernel_rfl) ?_
        repeat (go_big_quiet_step ((go_at_call 59; first | with_reducible exact Later.call (HEQ.out _ (hs5 _)))))
        refine wpQuiet_nil ?_
        intro w5 hw'
        obtain ⟨⟨_, hx5⟩, rfl⟩ := hw'
        clear hs5
        have hX5 := hX4.trans hx5
        have HM5 := Lib.hid (HM.out.ext hx5)
        have hs6 : ∀ s : Later w5, Ext wA s.w := fun s => hX5.trans s.ext
        go_wp2_with fail
        refine wp_region_later_tail 8 (by kernel_rfl) (by kernel_rfl) ?_
        simp only [List.take_succ_cons, List.take_zero, List.drop_succ_cons, List.drop_zero]
        repeat (go_big_quiet_step (fail))
        refine wpQuiet_nil ?_
        intro w6 hw'
        obtain ⟨⟨_, hx6⟩, rfl⟩ := hw'
        clear hs6
        have hX6 := hX5.trans hx6
        have ht6 := HTR.out.ext hX6
        have q0 := ht6.blk.cell (i := 0) rfl
        have q1 := ht6.blk.cell (i := 1) rfl
        have q2 := ht6.blk.cell (i := 2) rfl
        have f0 := ht6.blk.frozen 0
        have f1 := ht6.blk.frozen 1
        have f2 := ht6.blk.frozen 2
        go_wp2_with fail
        have HM6 := HM5.out.ext hx6
        rw [List.length_append, List.length_singleton] at HM6
        have HD6 := HDR.out w6 hX6
        have ht7 := ht6.set (a' := (.slice al lo.length cl)) (b' := (.slice a4 (sh.length + 1) c4)) (c' := (.slice (some ⟨bo, oo + W.length, none⟩) (ov.length - W.length) (co - W.length)))
        have d0 := ht7.blk.cell (i := 0) rfl
        have d1 := ht7.blk.cell (i := 1) rfl
        have d2 := ht7.blk.cell (i := 2) rfl
        refine bodyPost_ret (v := .tuple #[.agg #[(.slice al lo.length cl), (.slice a4 (sh.length + 1) c4), (.slice (some ⟨bo, oo + W.length, none⟩) (ov.length - W.length) (co - W.length))], .bool true]) (by simp [results, Try.results95, go_sem, d0, d1, d2]) rfl ?_
        exact ⟨ht6.ext3w hX6 hgA hE0, _, _, _, rfl, ht6.ints HHB.out (HLO.out.ext hX6), ht6.ints HHB.out HM6, ht6.ints HHB.out HD6⟩
  · have hcmp2 : ov.length ≤ W.length := by omega
    have hpt := pre_take hcmp2
    rw [pre_not (a := W) (b := ov) (by omega)]
    have hcI : (ov.length : Int) ≤ (W.length : Int) := by omega
    have hcJ : (ov.length : Int) < (W.length : Int) := by omega
    have HEQ := Lib.hid (fun V (hV : Ext wA V) => equal_v (.slice (some ⟨bu, ou, none⟩) ov.length cu) (.slice (some ⟨bo, oo, none⟩) ov.length co) (W.take ov.length) ov V (ints_take (HU.out.ints.ext hV) hcmp2) (HOV.out.ints.ext hV))
    rw [show decide (W.take ov.length = ov) = decide (ov = W.take ov.length) by rw [Bool.eq_iff_iff]; simp [eq_comm], hpt] at HEQ
    clear hpt
    have hdl : decide ((W.length : Int) ≤ (ov.length : Int)) = false := by simp; omega
    have hdl2 : decide (W.length ≤ ov.length) = false := by simp; omega
    cases hb : ov.isPrefixOf W with
    | false =>
      rw [hb] at HEQ
      simp only [Bool.false_eq_true, if_false]
      clear hb
      go_enter Try.func95, Try.ntmps95
      go_wp2_with fail
      rw [← HWW.out]
      refine HCL.out.mono ?_; rintro e w3 ⟨v3, rfl, ho3, hx3⟩
      have HO3 := Lib.hid ho3
      have hz3 := hx3.size
      clear ho3
      go_wp2_with (at_builtin; refine wpList_appendInt elInts rfl _ _ rfl rfl rfl HO3.out rfl (by omega) (by omega) ?_; intro v4 w4 ho4 hb4; have hX4 : Ext wA w4 := hx3.upto hb4 (Nat.le_refl _))
      have HM : Hid (SInts w4 B v4 (sh ++ [(j : Int)])) := Lib.hid (SInts.own ho4)
      have hs5 : ∀ s : Later w4, Ext wA s.w := fun s => hX4.trans s.ext
      obtain ⟨a4, c4, rfl, _, _, _⟩ := ho4.ints.open_
      clear hc0' hx3 ho4 hb4 hz3
      refine wp_region_later (by kernel_rfl) (by kernel_rfl) ?_
      repeat (go_big_quiet_step ((go_at_call 59; first | with_reducible exact Later.call (HEQ.out _ (hs5 _)))))
      refine wpQuiet_nil ?_
      intro w5 hw'
      obtain ⟨⟨_, hx5⟩, rfl⟩ := hw'
      clear hs5
      have hX5 := hX4.trans hx5
      have HM5 := Lib.hid (HM.out.ext hx5)
      have ht5 := HTR.out.ext hX5
      have q0 := ht5.blk.cell (i := 0) rfl
      have q1 := ht5.blk.cell (i := 1) rfl
      have q2 := ht5.blk.cell (i := 2) rfl
      have f0 := ht5.blk.frozen 0
      have f1 := ht5.blk.frozen 1
      have f2 := ht5.blk.frozen 2
      go_wp2_with fail
      have ht7 := ht5.set (a' := .slice none 0 0) (b' := .slice none 0 0) (c' := .slice none 0 0)
      have d0 := ht7.blk.cell (i := 0) rfl
      have d1 := ht7.blk.cell (i := 1) rfl
      have d2 := ht7.blk.cell (i := 2) rfl
      refine bodyPost_ret (v := .tuple #[.agg #[.slice none 0 0, .slice none 0 0, .slice none 0 0], .bool false]) (by simp [results, Try.results95, go_sem, d0, d1, d2]) rfl ?_
      exact ⟨ht5.ext3w hX5 hgA hE0, _, _, _, rfl, SInts.nil _ _, SInts.nil _ _, SInts.nil _ _⟩
    | true =>
      rw [hb] at HEQ
      simp only [Bool.false_eq_true, if_false, if_true]
      clear hb
      have hcap : ¬ cu = ov.length := by omega
      have HDR : Hid (∀ V, Ext wA V → SInts V B (.slice (some ⟨bu, ou + ov.length, none⟩) (W.length - ov.length) (cu - ov.length)) (W.drop ov.length)) := Lib.hid (fun V hV => (HU.out.ext hV).drop hcmp2 (if_neg hcap))
      go_enter Try.func95, Try.ntmps95
      go_wp2_with fail
      rw [← HWW.out]
      refine HCL.out.mono ?_; rintro e w3 ⟨v3, rfl, ho3, hx3⟩
      have HO3 := Lib.hid ho3
      have hz3 := hx3.size
      clear ho3
      go_wp2_with (at_builtin; refine wpList_appendInt elInts rfl _ _ rfl rfl rfl HO3.out rfl (by omega) (by omega) ?_; intro v4 w4 ho4 hb4; have hX4 : Ext wA w4 := hx3.upto hb4 (Nat.le_refl _))
      have HM : Hid (SInts w4 B v4 (sh ++ [(j : Int)])) := Lib.hid (SInts.own ho4)
      have hs5 : ∀ s : Later w4, Ext wA s.w := fun s => hX4.trans s.ext
      obtain ⟨a4, c4, rfl, _, _, _⟩ := ho4.ints.open_
      clear hc0' hx3 ho4 hb4 hz3
      refine wp_region_later (by kernel_rfl) (by kernel_rfl) ?_
      repeat (go_big_quiet_step ((go_at_call 59; first | with_reducible exact Later.call (HEQ.out _ (hs5 _)))))
      refine wpQuiet_nil ?_
      intro w5 hw'
      obtain ⟨⟨_, hx5⟩, rfl⟩ := hw'
      clear hs5
      have hX5 := hX4.trans hx5
      have HM5 := Lib.hid (HM.out.ext hx5)
      have hs6 : ∀ s : Later w5, Ext wA s.w := fun s => hX5.trans s.ext
      go_wp2_with fail
      refine wp_region_later_tail 7 (by kernel_rfl) (by kernel_rfl) ?_
      simp only [List.take_succ_cons, List.take_zero, List.drop_succ_cons, List.drop_zero]
      repeat (go_big_quiet_step (fail))
      refine wpQuiet_nil ?_
      intro w6 hw'
      obtain ⟨⟨_, hx6⟩, rfl⟩ := hw'
      clear hs6
      have hX6 := hX5.trans hx6
      have ht6 := HTR.out.ext hX6
      have q0 := ht6.blk.cell (i := 0) rfl
      have q1 := ht6.blk.cell (i := 1) rfl
      have q2 := ht6.blk.cell (i := 2) rfl
      have f0 := ht6.blk.frozen 0
      have f1 := ht6.blk.frozen 1
      have f2 := ht6.blk.frozen 2
      go_wp2_with fail
      have HM6 := HM5.out.ext hx6
      rw [List.length_append, List.length_singleton] at HM6
      have HD6 := HDR.out w6 hX6
      have ht7 := ht6.set (a' := (.slice a4 (sh.length + 1) c4)) (b' := (.slice al lo.length cl)) (c' := (.slice (some ⟨bu, ou + ov.length, none⟩) (W.length - ov.length) (cu - ov.length)))
      have d0 := ht7.blk.cell (i := 0) rfl
      have d1 := ht7.blk.cell (i := 1) rfl
      have d2 := ht7.blk.cell (i := 2) rfl
      refine bodyPost_ret (v := .tuple #[.agg #[(.slice a4 (sh.length + 1) c4), (.slice al lo.length cl), (.slice (some ⟨bu, ou + ov.length, none⟩) (W.length - ov.length) (cu - ov.length))], .bool true]) (by simp [results, Try.results95, go_sem, d0, d1, d2]) rfl ?_
      exact ⟨ht6.ext3w hX6 hgA hE0, _, _, _, rfl, ht6.ints HHB.out HM6, ht6.ints HHB.out (HLO.out.ext hX6), ht6.ints HHB.out HD6⟩
end Go.Proofs.Ytgpggmcjggpmpaa
