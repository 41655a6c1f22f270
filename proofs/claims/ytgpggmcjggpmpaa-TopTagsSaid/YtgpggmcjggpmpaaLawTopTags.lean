/- TopTags: for every input the call returns true. No condition. -/
import Derived.Test.YtgpggmcjggpmpaaTagAm
import Derived.Test.YtgpggmcjggpmpaaTagJ
import Derived.Test.YtgpggmcjggpmpaaTagBe
import Derived.Test.YtgpggmcjggpmpaaTagCf
import Derived.Test.YtgpggmcjggpmpaaTagM
import Derived.Test.YtgpggmcjggpmpaaTagNb
import Derived.Test.YtgpggmcjggpmpaaTagSm
import Derived.Test.YtgpggmcjggpmpaaTagG
namespace Go.Proofs.Ytgpggmcjggpmpaa
open Go.RowKit Go.Shelf
set_option linter.unusedVariables false
/-- the least of the first costs -/
def lowTo (c : Nat → Int) : Nat → Int
  | 0 => -1
  | k + 1 => if lowTo c k < 0 then c k else if c k < lowTo c k then c k else lowTo c k
theorem low_is {c : Nat → Int} : ∀ n, (∀ k, k < n → 0 ≤ c k) → 0 < n → 0 ≤ lowTo c n ∧ (∃ k, k < n ∧ lowTo c n = c k) ∧ ∀ k, k < n → lowTo c n ≤ c k
  | 0, _, h => by omega
  | 1, hc, _ => by
    have e : lowTo c 1 = c 0 := by simp [lowTo]
    rw [e]
    exact ⟨hc 0 (by omega), ⟨0, by omega, rfl⟩, fun k hk => by obtain rfl : k = 0 := by omega
                                                               exact Int.le_refl _⟩
  | n + 2, hc, _ => by
    obtain ⟨h1, ⟨j, hj, h2⟩, h3⟩ := low_is (n + 1) (fun k hk => hc k (by omega)) (by omega)
    have e : lowTo c (n + 2) = if lowTo c (n + 1) < 0 then c (n + 1) else if c (n + 1) < lowTo c (n + 1) then c (n + 1) else lowTo c (n + 1) := rfl
    rw [if_neg (by omega)] at e
    by_cases hlt : c (n + 1) < lowTo c (n + 1)
    · rw [if_pos hlt] at e
      rw [e]
      refine ⟨hc _ (by omega), ⟨n + 1, by omega, rfl⟩, fun k hk => ?_⟩
      by_cases hk2 : k < n + 1
      · have := h3 k hk2; omega
      · obtain rfl : k = n + 1 := by omega
        exact Int.le_refl _
    · rw [if_neg hlt] at e
      rw [e]
      refine ⟨h1, ⟨j, by omega, h2⟩, fun k hk => ?_⟩
      by_cases hk2 : k < n + 1
      · exact h3 k hk2
      · obtain rfl : k = n + 1 := by omega
        omega
theorem top_code {l : Lex} {t : List Int} (h0 : textK l t = 0) (h : isC l = true) : countN l t ≤ 1 := by
  have hl := (textK_ok h0).1
  rw [isC_ok (ok_validL hl), codeB_iff] at h
  unfold countN; rw [if_pos h0]
  exact code_once hl h t
theorem top_found {l : Lex} {t : List Int} (h0 : textK l t = 0) : (leastO l t).2 = decide (0 < countN l t) := by
  rw [leastO_cnt h0]; unfold countN; rw [if_pos h0]
theorem top_best {l : Lex} {t s : List Int} (h0 : textK l t = 0) (h1 : IsSp l (-1) t s) (h2 : costL l s = (leastO l t).1) : splitK l t s = 0 ∧ splitC l t s = (leastO l t).1 := by
  have hk := splitK_of h0 h1
  exact ⟨hk, by unfold splitC; rw [if_pos hk]; exact h2⟩
theorem all_len {l : Lex} {t : List Int} (h : allK l t = 0) (h0 : textK l t = 0) : ((allL l t).length : Int) = countN l t := by
  unfold allL countN; rw [if_pos h, if_pos h0]; rfl
theorem all_big {l : Lex} {t : List Int} (h : allK l t ≠ 0) (h0 : textK l t = 0) : allK l t = 3 ∧ 50 < countN l t := by
  unfold allK countN at *
  rw [if_pos h0] at h ⊢
  rw [if_pos h0]
  by_cases h1 : 50 < cntR l t (-1)
  · exact ⟨by rw [if_pos h1], h1⟩
  · rw [if_neg h1] at h; exact absurd rfl h
theorem all_is {l : Lex} {t : List Int} (h : allK l t = 0) (h0 : textK l t = 0) {i : Nat} (hi : i < (allL l t).length) : IsSp l (-1) t ((allL l t)[i]?.getD []) := by
  have hl := (textK_ok h0).1
  rw [List.getElem?_eq_getElem hi, Option.getD_some]
  have e : allL l t = spl l t (-1) := by unfold allL; rw [if_pos h]
  have hm := List.getElem_mem hi
  obtain ⟨x, hx⟩ : ∃ x, x = (allL l t)[i] := ⟨_, rfl⟩
  rw [← hx] at hm ⊢
  rw [e] at hm
  exact (splF_mem hl.noE _ _ _ _ (Nat.le_refl _)).1 hm
theorem all_cost {l : Lex} {t : List Int} (h : allK l t = 0) (h0 : textK l t = 0) {i : Nat} (hi : i < (allL l t).length) : splitK l t ((allL l t)[i]?.getD []) = 0 ∧ (leastO l t).1 ≤ splitC l t ((allL l t)[i]?.getD []) ∧ 0 ≤ splitC l t ((allL l t)[i]?.getD []) := by
  have hs := all_is h h0 hi
  have hk := splitK_of h0 hs
  refine ⟨hk, (leastO_le hk).2, ?_⟩
  unfold splitC; rw [if_pos hk]
  exact cost_pos (textK_ok h0).1 hs.inn hs.ln _ (Nat.le_refl _)
theorem all_nd {l : Lex} {t : List Int} (h : allK l t = 0) {i j : Nat} (hi : i < (allL l t).length) (hj : j < (allL l t).length) (hij : i ≠ j) : (allL l t)[i]?.getD [] ≠ (allL l t)[j]?.getD [] := by
  have e : allL l t = spl l t (-1) := by unfold allL; rw [if_pos h]
  have hnd : (allL l t).Nodup := by rw [e]; exact splF_nodup _ _ _ _
  rw [List.getElem?_eq_getElem hi, List.getElem?_eq_getElem hj]
  have hp := List.pairwise_iff_getElem.1 hnd
  intro he
  rcases Nat.lt_or_gt_of_ne hij with hlt | hlt
  · exact hp i j hi hj hlt he
  · exact hp j i hj hi hlt he.symm
theorem all_low {l : Lex} {t : List Int} (h : allK l t = 0) (h0 : textK l t = 0) (hp : 0 < (allL l t).length) : lowTo (fun i => splitC l t ((allL l t)[i]?.getD [])) (allL l t).length = (leastO l t).1 := by
  obtain ⟨h1, ⟨k, hk, h2⟩, h3⟩ := low_is (c := fun i => splitC l t ((allL l t)[i]?.getD [])) _ (fun i hi => (all_cost h h0 hi).2.2) hp
  have hge := (all_cost h h0 hk).2.1
  obtain ⟨hl, ht, _⟩ := textK_ok h0
  have hb : (leastO l t).2 = true := (leastO_le (all_cost h h0 hk).1).1
  obtain ⟨s, hs, hc⟩ : ∃ s, IsSp l (-1) t s ∧ costL l s = (leastO l t).1 := by
    by_cases htn : t = []
    · subst htn
      exact ⟨[], ⟨(fun x hx => by cases hx), rfl, rfl⟩, by unfold leastO; rw [if_pos h0, if_pos rfl]; rfl⟩
    · rcases leastT_is hl ht htn with ⟨e, hno⟩ | ⟨hlt, ⟨s, hs, e⟩, _⟩
      · exact absurd (all_is h h0 hk) (hno _)
      · exact ⟨s, hs, by unfold leastO; rw [if_pos h0, if_neg htn, if_neg (by omega)]; exact e⟩
  have hm : s ∈ allL l t := by
    unfold allL; rw [if_pos h]
    exact (splF_mem hl.noE _ _ _ _ (Nat.le_refl _)).2 hs
  obtain ⟨i, hi, rfl⟩ := List.getElem_of_mem hm
  have h4 := h3 i hi
  have h5 := top_best h0 hs hc
  have e6 : (allL l t)[i]?.getD [] = (allL l t)[i] := by rw [List.getElem?_eq_getElem hi]; rfl
  simp only [e6] at h4
  rw [h5.2] at h4
  omega
theorem all_two {l : Lex} {t : List Int} (h : allK l t = 0) (h0 : textK l t = 0) (hp : 1 < (allL l t).length) : twoK l ((allL l t)[0]?.getD []) ((allL l t)[1]?.getD []) = 0 := by
  have h1 := all_is h h0 (show 0 < _ by omega)
  have h2 := all_is h h0 hp
  have hne := all_nd h (i := 0) (j := 1) (by omega) hp (by omega)
  obtain ⟨hl, ht, _⟩ := textK_ok h0
  have l1 := h1.len hl.noE
  have l2 := h2.len hl.noE
  unfold twoK
  rw [if_pos (ok_validL hl), if_neg (by omega), areB_iff.2 h1.inn, areB_iff.2 h2.inn]
  rw [if_pos (show (true && true) = true from rfl), if_neg]
  rintro (h3 | h3)
  · exact hne h3
  · exact h3 (by rw [h1.wo, h2.wo])
theorem top_words {l : Lex} (h : LexOk l) {s : List Int} (hs : allIn l s) : ∀ x ∈ wordsL l s, 0 ≤ x ∧ x ≤ 5 := by
  intro x hx
  obtain ⟨a, ha, hxa⟩ := List.mem_flatMap.1 hx
  have := hs a ha
  exact h.so a.toNat (by have h1 := this.1; have h2 := this.2; omega) x hxa
theorem top_text {l : Lex} {s : List Int} (h : textE l s = 0) : validL l = 0 ∧ (splitK l (textL l s) s = 0 ∨ splitK l (textL l s) s = 6) ∧ splitK (freeL l) (textL l s) s = 0 ∧ textK (freeL l) (textL l s) = 0 ∧ 0 < countN (freeL l) (textL l s) := by
  have hL : textL l s = wordsL l s := by unfold textL; rw [if_pos h]
  have hv : validL l = 0 := by
    by_cases hv : validL l = 0
    · exact hv
    · unfold textE at h; rw [if_neg hv] at h; exact h
  have hl := validL_ok hv
  have hf : freeL l = freeX l := by unfold freeL; rw [if_pos hv]
  have hfo := free_ok hl
  unfold textE at h
  rw [if_pos hv] at h
  by_cases h1 : areB l s = true
  · rw [if_pos h1] at h
    by_cases h2 : 12 < ((wordsL l s).length : Int)
    · rw [if_pos h2] at h; cases h
    · have ha := areB_iff.1 h1
      have h0 : textK l (wordsL l s) = 0 := by rw [textK_valid hv, if_neg h2, sndB_iff.2 (top_words hl ha)]; rfl
      have hz : textK (freeL l) (wordsL l s) = 0 := by rw [hf, textK_valid (ok_validL hfo), if_neg h2, sndB_iff.2 (top_words hl ha)]; rfl
      have h3 := words_len hl.noE ha
      have hsp : IsSp (freeX l) (-1) (wordsL l s) s := (free_isSp hl).2 ⟨ha, rfl⟩
      rw [hL]
      refine ⟨hv, ?_, by rw [hf] at hz ⊢; exact splitK_of hz hsp, hz, ?_⟩
      · rw [splitK_e (b := lnkB l s) h0 (by omega) h1 rfl rfl]
        cases lnkB l s
        · exact .inr rfl
        · exact .inl rfl
      · unfold countN; rw [if_pos hz, hf]
        have hm := (splits_mem hfo.noE).2 hsp
        have : 0 < (spl (freeX l) (wordsL l s) (-1)).length := List.length_pos_of_mem hm
        unfold cntR; omega
  · rw [if_neg h1] at h; cases h
/-- the lexicon that the law makes -/
def oneL (k : Nat) : Lex := ⟨[⟨[0], 0, 0⟩], List.replicate k [0, 0, 0, 0]⟩
theorem one_all : allK (oneL 4) [0, 0, 0] = 0 ∧ allL (oneL 4) [0, 0, 0] = [[0, 0, 0]] := by
  constructor
  · decide +kernel
  · decide +kernel
theorem one_next (k : Nat) : (oneL k).f ++ [[0, 0, 0, 0]] = (oneL (k + 1)).f := by
  show List.replicate k _ ++ _ = List.replicate (k + 1) _
  rw [List.replicate_succ']
theorem one_len (k : Nat) : (oneL k).f.length = k := by simp [oneL]
/-- a row is appended -/
theorem FSt.pushF {wA wr W w' : World} {G n g' cap' : Nat} {iv fv u : Value} {l : Lex} {rw : List Int} {us vs : List Value} (hn : n = l.f.length) (h : FSt wA wr G iv fv l us vs) (hx : Ext wr W) (hu : OInts 3 W wr.heap.size u rw)
    (h2 : w'.ownsRow wA.heap.size 26 1 (.slice (some ⟨g', 0, none⟩) (n + 1) cap') (n + 1) (vs ++ [u])) (hg : W.grownBy w' fv.ownBlock) (hG : wA.heap.size ≤ G) :
    Blk w' G 25 [iv, fv] ∧ FSt wA (w'.setCell ⟨G, 1, none⟩ (.slice (some ⟨g', 0, none⟩) (n + 1) cap')) G iv (.slice (some ⟨g', 0, none⟩) (n + 1) cap') ⟨l.i, l.f ++ [rw]⟩ us (vs ++ [u]) := by
  subst hn
  have hW := h.ext hx
  have hn1 := ownsRow_notBlk hW.l.f hW.o (by decide)
  have ho := hW.o.kept hg hn1
  have hp := h.l.pushF hx hu h.x.size h2 hg
  have hxw : Ext wA w' := grown_below hW.x hg (fun r hr => (ownBlock_cells hW.l.f r hr).elim fun _ h => h.2)
  refine ⟨ho, hxw.setCell hG _ _, ?_, hp.keptN (grownBy_set _ _ _ _) ho ⟨by decide, by decide, by decide⟩⟩
  have := ho.set 1 (.slice (some ⟨g', 0, none⟩) (l.f.length + 1) cap')
  exact this
theorem AllInts.cons' {w : World} {us : List Value} {ls : List (List Int)} {u : Value} {l : List Int} (hu : Ints w u l) (h : AllInts w us ls) : AllInts w (u :: us) (l :: ls) := by
  obtain ⟨h1, h2⟩ := h
  refine ⟨by simp [h1], fun i x hx => ?_⟩
  cases i with
  | zero => simp at hx; subst hx; exact hu
  | succ i => exact h2 i x (by simpa using hx)
/-- a new block of lists -/
theorem rows_new' (w : World) (us : List Value) (ls : List (List Int)) (h : AllInts w us ls) (hn : us.length ≤ 1000) : Rows (w.alloc (.cells us.toArray 26)) (.slice (some ⟨w.heap.size, 0, none⟩) us.length us.length) ls := by
  have hl := h.1
  rw [hl]
  refine ⟨_, _, rfl, Nat.le_refl _, by unfold maxLen; omega, fun i hi => ⟨w.heap.size, 0, rfl, us[i]'(by omega), ?_, ?_⟩⟩
  · have := alloc_cell w us.toArray 26 (i := i) (v := us[i]'(by omega)) (by simp)
    rw [Nat.zero_add]; exact this
  · exact (h.2 i _ (List.getElem?_eq_getElem (by omega))).ext (Ext.alloc _ _)
/-- a new block of ints -/
theorem own_new (w : World) (l : List Int) (hn : l.length ≤ 1000) : OInts 3 (w.alloc (.cells (ints l).toArray 3)) w.heap.size (.slice (some ⟨w.heap.size, 0, none⟩) l.length l.length) l :=
  ⟨by simp [ints], .inr ⟨w.heap.size, l.length, _, rfl, Nat.le_refl _, World.alloc_heap_new w _, Nat.le_refl _, by unfold maxLen; omega, by simp [ints], by simp [ints, List.take_of_length_le]⟩⟩
/-- the lexicon of one item, as it is begun -/
theorem one_begin (wA : World) : ∃ us, FSt wA (((wA.alloc (.cells #[.int .i64 0] 3)).alloc (.cells #[.slice (some ⟨wA.heap.size, 0, none⟩) 1 1, .int .i64 0, .int .i64 0] 28)).alloc (.cells #[.slice (some ⟨wA.heap.size + 1, 0, none⟩) 1 1, .slice none 0 0] 25)) (wA.heap.size + 1 + 1) (.slice (some ⟨wA.heap.size + 1, 0, none⟩) 1 1) (.slice none 0 0) (oneL 0) us [] := by
  have h1 := own_new wA [0] (by simp)
  have e1 : (ints [0]).toArray = #[.int .i64 0] := rfl
  rw [e1] at h1
  obtain ⟨w1, hw1⟩ : ∃ w1, w1 = wA.alloc (.cells #[.int .i64 0] 3) := ⟨_, rfl⟩
  have hx1 : Ext wA w1 := by rw [hw1]; exact Ext.alloc _ _
  have hz1 : w1.heap.size = wA.heap.size + 1 := by rw [hw1]; simp
  rw [← hw1] at h1 ⊢
  obtain ⟨w2, hw2⟩ : ∃ w2, w2 = w1.alloc (.cells #[.slice (some ⟨wA.heap.size, 0, none⟩) 1 1, .int .i64 0, .int .i64 0] 28) := ⟨_, rfl⟩
  have hx2 : Ext w1 w2 := by rw [hw2]; exact Ext.alloc _ _
  have hz2 : w2.heap.size = wA.heap.size + 1 + 1 := by rw [hw2]; simp [hz1]
  have hi : w2.ownsRow wA.heap.size 28 3 (.slice (some ⟨wA.heap.size + 1, 0, none⟩) 1 1) 1 [.slice (some ⟨wA.heap.size, 0, none⟩) 1 1, .int .i64 0, .int .i64 0] := by
    refine ⟨rfl, .inr ⟨wA.heap.size + 1, 1, #[.slice (some ⟨wA.heap.size, 0, none⟩) 1 1, .int .i64 0, .int .i64 0], rfl, by omega, ?_, Nat.le_refl _, by decide, rfl, rfl⟩⟩
    rw [hw2, ← hz1]; exact World.alloc_heap_new w1 _
  rw [← hw2]
  have hx3 := Ext.alloc w2 (.cells #[.slice (some ⟨wA.heap.size + 1, 0, none⟩) 1 1, .slice none 0 0] 25)
  refine ⟨[.slice (some ⟨wA.heap.size, 0, none⟩) 1 1], (hx1.trans hx2).trans hx3, ?_, OLexP.ext ⟨hi, World.ownsRow_nil _ _ _ _, (AllO.nil _ _).snoc (h1.ext hx2), AllO.nil _ _, List.pairwise_singleton _ _⟩ hx3⟩
  have := Blk.alloc w2 #[.slice (some ⟨wA.heap.size + 1, 0, none⟩) 1 1, .slice none 0 0] 25
  rw [hz2] at this; exact this
set_option maxHeartbeats 8000000 in
set_option maxRecDepth 100000 in
theorem topTags_c (iv fv : Value) (l : Lex) (textv : Value) (text : List Int) (splitv : Value) (split : List Int) (w : World) (h : LexR w iv fv l) (htext : Ints w textv text) (hsplit : Ints w splitv split) :
    Calls Try.prog 3 #[.agg #[iv, fv], textv, splitv] w (RV (.bool true) w) := by
  obtain ⟨wA, hwA⟩ : ∃ wA, wA = w.alloc (.cells #[iv, fv] 25) := ⟨_, rfl⟩
  have hE0 : Ext w wA := by rw [hwA]; exact Ext.alloc _ _
  have k0 : ∀ W, Ext wA W → W.cell? ⟨w.heap.size, 0, none⟩ = some iv := by rw [hwA]; exact kept_alloc w _ _ rfl
  have k1 : ∀ W, Ext wA W → W.cell? ⟨w.heap.size, 1, none⟩ = some fv := by rw [hwA]; exact kept_alloc w _ _ rfl
  have H0 : Ext wA wA := Ext.refl _
  have hzA : wA.heap.size = w.heap.size + 1 := by rw [hwA]; simp
  have HR := Lib.hid (h.ext hE0)
  obtain ⟨ai, ci, rfl, hli, hmi, HI⟩ := (h.ext hE0).i.open_
  obtain ⟨af, cf, rfl, hlf, hmf, HF⟩ := Rows.open_ (h.ext hE0).f
  have HI_text := Lib.hid (htext.ext hE0)
  obtain ⟨a_text, c_text, rfl, hl_text, hm_text, HU_text⟩ := (htext.ext hE0).open_
  have HI_split := Lib.hid (hsplit.ext hE0)
  obtain ⟨a_split, c_split, rfl, hl_split, hm_split, HU_split⟩ := (hsplit.ext hE0).open_
  obtain ⟨us, hF0⟩ := one_begin wA
  rw [hzA] at hF0
  obtain ⟨w1, hw1⟩ : ∃ w1, w1 = ((wA.alloc (.cells #[.int .i64 0] 3)).alloc (.cells #[.slice (some ⟨w.heap.size + 1, 0, none⟩) 1 1, .int .i64 0, .int .i64 0] 28)).alloc (.cells #[.slice (some ⟨w.heap.size + 1 + 1, 0, none⟩) 1 1, .slice none 0 0] 25) := ⟨_, rfl⟩
  rw [← hw1] at hF0
  have HF0 := Lib.hid hF0
  have hX1 := hF0.x
  have HW1 := Lib.hid (show w1 = (((w.alloc (.cells #[.slice ai l.i.length ci, .slice af l.f.length cf] 25)).alloc (.cells #[.int .i64 0] 3)).alloc (.cells #[.slice (some ⟨w.heap.size + 1, 0, none⟩) 1 1, .int .i64 0, .int .i64 0] 28)).alloc (.cells #[.slice (some ⟨w.heap.size + 1 + 1, 0, none⟩) 1 1, .slice none 0 0] 25) by rw [hw1, hwA])
  clear hF0 hw1 hwA h htext hsplit
  have HZA := Lib.hid hzA
  go_enter Try.func3, Try.ntmps3
  go_wp2_with fail
  rw [← HW1.out]
  go_loopg [8] 4 (fun z ii wr => ∃ (k : Nat) (fo : Value), k ≤ 4 ∧ 4 ≤ k + z ∧ ii = .int .i64 k ∧ ∃ vs, FSt wA wr (w.heap.size + 1 + 1 + 1) (.slice (some ⟨w.heap.size + 1 + 1, 0, none⟩) 1 1) fo (oneL k) us vs)
  case atStart => exact ⟨0, _, by omega, by omega, rfl, _, HF0.out⟩
  case round =>
    clear HF0 hX1
    obtain ⟨k, fo, hk, hkz, rfl, vs, hS⟩ := hrel
    have hX := hS.x
    have b0 := hS.o.cell (i := 0) rfl
    have b1 := hS.o.cell (i := 1) rfl
    obtain ⟨a0, c0, hfv, _, _, _⟩ := ownsRow_form hS.l.f
    rw [one_len] at hfv
    have HS := Lib.hid hS
    clear hS
    subst hfv
    by_cases hlt : k < 4
    · have hkI : (k : Int) ≤ 3 := by omega
      have hd : decide ((k : Int) ≤ 3) = true := decide_eq_true hkI
      have hu0 := own_new wr [0, 0, 0, 0] (by simp)
      rw [show (ints [0, 0, 0, 0]).toArray = #[.int .i64 0, .int .i64 0, .int .i64 0, .int .i64 0] from rfl, show ([0, 0, 0, 0] : List Int).length = 4 from rfl] at hu0
      have HU0 := Lib.hid hu0
      have hEa : Ext wr (wr.alloc (.cells #[.int .i64 0, .int .i64 0, .int .i64 0, .int .i64 0] 3)) := Ext.alloc _ _
      have hEb : Ext (wr.alloc (.cells #[.int .i64 0, .int .i64 0, .int .i64 0, .int .i64 0] 3)) ((wr.alloc (.cells #[.int .i64 0, .int .i64 0, .int .i64 0, .int .i64 0] 3)).alloc (.cells #[.slice (some ⟨wr.heap.size, 0, none⟩) 4 4] 26)) := Ext.alloc _ _
      have hEc := hEa.trans hEb
      have HEC := Lib.hid hEc
      have HUB := Lib.hid (hu0.ext hEb)
      have HOF := Lib.hid (by have := (HS.out.ext hEc).l.f; rw [one_len] at this; exact this)
      have hbk := Blk.alloc (wr.alloc (.cells #[.int .i64 0, .int .i64 0, .int .i64 0, .int .i64 0] 3)) #[.slice (some ⟨wr.heap.size, 0, none⟩) 4 4] 26
      rw [show (wr.alloc (.cells #[.int .i64 0, .int .i64 0, .int .i64 0, .int .i64 0] 3)).heap.size = wr.heap.size + 1 by simp] at hbk
      have HBK := Lib.hid hbk
      have hszB : wA.heap.size ≤ ((wr.alloc (.cells #[.int .i64 0, .int .i64 0, .int .i64 0, .int .i64 0] 3)).alloc (.cells #[.slice (some ⟨wr.heap.size, 0, none⟩) 4 4] 26)).heap.size := (hX.trans hEc).size
      have hGB : wA.heap.size ≤ (w.heap.size + 1 + 1 + 1) := by rw [HZA.out]; omega
      have HLN := Lib.hid (one_len k)
      have HNX := Lib.hid (one_next k)
      clear hu0 hEb hEa hbk
      go_wp2_with (at_builtin; refine wpList_appendN elRows rfl _ _ rfl rfl rfl HOF.out rfl HBK.out (by intro u hu; simp only [List.mem_cons, List.not_mem_nil, or_false] at hu; subst hu; rfl) hszB (by omega) (by omega) ?_; intro g' cap' W4 ho4 hg4; have hcp := FSt.pushF HLN.out.symm HS.out HEC.out HUB.out ho4 hg4 hGB; have hq4 := hcp.1.cell (i := 1) rfl; have hf4 := hcp.1.frozen 1; have HCP := Lib.hid hcp.2; clear hcp ho4 hg4)
      go_roundg (gk-1)
      case measure => omega
      case rel => exact ⟨k+1, _, by omega, by omega, by go_num, _, by have h9 := HCP.out; rw [HNX.out] at h9; exact h9⟩
    · have hk4 : k = 4 := by omega
      subst hk4
      have hlx := HS.out.l.lexR
      have HLX := Lib.hid hlx
      clear hlx
      have hn0 := own_new wr [0, 0, 0] (by simp)
      rw [show (ints [0, 0, 0]).toArray = #[.int .i64 0, .int .i64 0, .int .i64 0] from rfl, show ([0, 0, 0] : List Int).length = 3 from rfl] at hn0
      have hEa : Ext wr (wr.alloc (.cells #[.int .i64 0, .int .i64 0, .int .i64 0] 3)) := Ext.alloc _ _
      have HAL := Lib.hid (All_c _ _ _ (oneL 4) [0, 0, 0] _ (HLX.out.ext hEa) hn0.ints)
      rw [one_all.1, one_all.2] at HAL
      have hXa := hX.trans hEa
      clear hn0 hEa HLX
      go_wp2_with fail
      refine HAL.out.mono ?_; rintro e w2 ⟨v2, rfl, hv2, hx2⟩
      have hX2 := hXa.trans hx2
      have HV2 : Hid (Rows w2 v2 [[0, 0, 0]]) := Lib.hid hv2
      clear hv2 HAL hXa hx2 hX HS b0 b1
      have hn0 := own_new w2 [0, 0, 0] (by simp)
      rw [show (ints [0, 0, 0]).toArray = #[.int .i64 0, .int .i64 0, .int .i64 0] from rfl, show ([0, 0, 0] : List Int).length = 3 from rfl] at hn0
      have hEa : Ext w2 (w2.alloc (.cells #[.int .i64 0, .int .i64 0, .int .i64 0] 3)) := Ext.alloc _ _
      have hzz : (w2.alloc (.cells #[.int .i64 0, .int .i64 0, .int .i64 0] 3)).heap.size = w2.heap.size + 1 := by simp
      have hEb : Ext (w2.alloc (.cells #[.int .i64 0, .int .i64 0, .int .i64 0] 3)) ((w2.alloc (.cells #[.int .i64 0, .int .i64 0, .int .i64 0] 3)).alloc (.cells #[.slice (some ⟨w2.heap.size, 0, none⟩) 3 3] 26)) := Ext.alloc _ _
      have hrn := rows_new' (w2.alloc (.cells #[.int .i64 0, .int .i64 0, .int .i64 0] 3)) [.slice (some ⟨w2.heap.size, 0, none⟩) 3 3] [[0, 0, 0]] (AllInts.cons' hn0.ints (AllInts.nil _)) (by simp)
      rw [hzz] at hrn
      have HSL := Lib.hid (sameLists_c v2 _ [[0, 0, 0]] [[0, 0, 0]] _ (Rows.ext HV2.out (hEa.trans hEb)) hrn)
      rw [decide_eq_true rfl] at HSL
      have hX2b := (hX2.trans hEa).trans hEb
      clear hn0 hEa hEb hzz hrn HV2
      go_wp2_with fail
      refine HSL.out.mono ?_; rintro e w3 ⟨rfl, hx3⟩
      have hX3 := hX2b.trans hx3
      clear HSL hX2b hX2 hx3
      have hxL := Ext.alloc w3 (.cells #[.slice a_text text.length c_text, .slice a_split split.length c_split] 26)
      have hX3L := hX3.trans hxL
      have HLG := Lib.hid (Long_c _ _ _ l [text, split] _ (HR.out.ext hX3L) (rows_new' w3 [.slice a_text text.length c_text, .slice a_split split.length c_split] [text, split] (AllInts.cons' (HI_text.out.ext hX3) (AllInts.cons' (HI_split.out.ext hX3) (AllInts.nil _))) (by simp)))
      have HLB := Lib.hid (longX_lists (l := l) (ls := [text, split]))
      clear hxL
      generalize longX l [text, split] = b1 at *
      cases b1
      · have HLB2 := HLB.out rfl
        have hl3_text : text.length ≤ 300 := HLB2 text (by simp)
        have hl3_split : split.length ≤ 300 := HLB2 split (by simp)
        clear HLB2 HLB
        go_wp2_with fail
        refine HLG.out.mono ?_; rintro e w4 ⟨rfl, hx4⟩
        have hX4 := hX3L.trans hx4
        clear hX3 hX3L hx4 HLG
        have HCO := Lib.hid (fun W (hW : Ext wA W) => Count_c _ _ _ l text W (HR.out.ext hW) (HI_text.out.ext hW))
        have HLE := Lib.hid (fun W (hW : Ext wA W) => Least_c _ _ _ l text W (HR.out.ext hW) (HI_text.out.ext hW))
        by_cases h0 : textK l text = 0
        · have H0 := Lib.hid h0
          have HVL := Lib.hid (ok_validL (textK_ok h0).1)
          have HBE := Lib.hid (fun W (hW : Ext wA W) => Best_c _ _ _ l text W (HR.out.ext hW) (HI_text.out.ext hW))
          have HPF := Lib.hid (fun W (hW : Ext wA W) => Proof_c _ _ _ l text W (HR.out.ext hW) (HI_text.out.ext hW))
          have HIC := Lib.hid (fun W (hW : Ext wA W) => IsCode_c _ _ l W (HR.out.ext hW))
          have HAL := Lib.hid (fun W (hW : Ext wA W) => All_c _ _ _ l text W (HR.out.ext hW) (HI_text.out.ext hW))
          have HTX := Lib.hid (fun W (hW : Ext wA W) => Text_c _ _ _ l split W (HR.out.ext hW) (HI_split.out.ext hW) (by omega))
          have HFR := Lib.hid (fun W (hW : Ext wA W) => Free_c _ _ l W (HR.out.ext hW))
          have HCS := Lib.hid (fun W (hW : Ext wA W) tv t sv s (ht : Ints W tv t) (hs : Ints W sv s) => CheckSplit_c _ _ tv sv l t s W (HR.out.ext hW) ht hs)
          have HIT := Lib.hid (fun W (hW : Ext wA W) => HI_text.out.ext hW)
          have HIS := Lib.hid (fun W (hW : Ext wA W) => HI_split.out.ext hW)
          have HTP := Lib.hid (fun h => top_text (l := l) (s := split) h)
          unfold RBest at HBE
          have hfd := top_found h0
          have hcd := fun h => top_code (l := l) (t := text) h0 h
          rw [h0] at HCO HLE HBE
          rw [HVL.out] at HIC
          obtain ⟨ok, hok⟩ : ∃ ok, (leastO l text).2 = ok := ⟨_, rfl⟩
          rw [hok] at hfd
          have HCD : Hid (isC l = true → countN l text ≤ 1) := Lib.hid hcd
          have hcn : 0 ≤ countN l text := by unfold countN; rw [if_pos h0]; unfold cntR; omega
          clear hcd
          cases ok
          · have hn : countN l text = 0 := by have := of_decide_eq_false hfd.symm; omega
            obtain ⟨hp1, hp2⟩ := prove_b h0 hok
            have hak : allK l text = 0 := by
              by_cases hak : allK l text = 0
              · exact hak
              · have := (all_big hak h0).2; omega
            have hal : allL l text = [] := List.length_eq_zero_iff.1 (by have := all_len hak h0; omega)
            rw [hak, hal] at HAL
            rw [hok] at HLE HBE
            rw [hp1, hp2] at HPF
            rw [hn] at HCO
            clear hok hfd hp1 hp2 hn hcn hak hal h0 HCD HCS
            generalize (leastO l text).1 = lo at *
            generalize isC l = ic at *
            go_wp2_with fail
            refine (HCO.out w4 hX4).mono ?_; rintro e w5 ⟨rfl, hx5⟩
            have hX5 := hX4.trans hx5
            go_wp2_with fail
            refine (HLE.out w5 hX5).mono ?_; rintro e w6 ⟨rfl, hx6⟩
            have hX6 := hX5.trans hx6
            go_wp2_with fail
            refine (HBE.out w6 hX6).mono ?_; rintro e w7 ⟨v7, s7, rfl, hv7, hx7, _, hs7⟩
            have hX7 := hX6.trans hx7
            obtain rfl := hs7 (by trivial)
            obtain ⟨a7, c7, hv, _⟩ := hv7.open_
            rw [List.length_nil] at hv; subst hv
            clear hv7 hs7
            go_wp2_with fail
            refine (HPF.out w7 hX7).mono ?_; rintro e w8 ⟨v8, rfl, hv8, hx8⟩
            have hX8 := hX7.trans hx8
            obtain ⟨a8, c8, hv, _⟩ := Rows.open_ hv8
            rw [List.length_nil] at hv; subst hv
            clear hv8
            go_wp2_with fail
            refine (HIC.out w8 hX8).mono ?_; rintro e w9 ⟨rfl, hx9⟩
            have hX9 := hX8.trans hx9
            cases ic
            · go_wp2_with fail
              refine (HAL.out w9 hX9).mono ?_; rintro e w10 ⟨v10, rfl, hv10, hx10⟩
              have hX10 := hX9.trans hx10
              obtain ⟨a10, c10, hv, _⟩ := Rows.open_ hv10
              rw [List.length_nil] at hv; subst hv
              clear hv10
              go_wp2_with fail
              go_loopg [31, 32] 0 (fun z lw ii wr => lw = .int .i64 (-1) ∧ ii = .int .i64 0 ∧ wr = w10)
              case atStart => exact ⟨rfl, rfl, rfl⟩
              case round =>
                obtain ⟨rfl, rfl, rfl⟩ := hrel
                have hs : ∀ s : Later wr, Ext wA s.w := fun s => hX10.trans s.ext
                go_wp2_with fail
                refine wp_region_later (by kernel_rfl) (by kernel_rfl) ?_
                repeat (go_big_quiet_step (fail))
                refine wpQuiet_nil ?_
                intro w15 hw'
                obtain ⟨⟨_, hx15⟩, rfl⟩ := hw'
                have hX15 := hX10.trans hx15
                clear hs
                by_cases hte : textE l split = 0
                · obtain ⟨hvl, h56, hf, hz, hc⟩ := HTP.out hte
                  rw [hte] at HTX
                  rw [hvl] at HFR
                  have HFS := Lib.hid hf; have HFZ := Lib.hid hz
                  have HCO2 : Hid (∀ W iv fv tv, LexR W iv fv (freeL l) → Ints W tv (textL l split) → Calls Try.prog 21 #[.agg #[iv, fv], tv] W (RV (.tuple #[.int .i64 (countN (freeL l) (textL l split)), .int .i64 0]) W)) := Lib.hid (fun W iv fv tv h1 h2 => by have := Count_c iv fv tv (freeL l) _ W h1 h2; rw [hz] at this; exact this)
                  have HCS2 : Hid (∀ W iv fv tv sv, LexR W iv fv (freeL l) → Ints W tv (textL l split) → Ints W sv split → Calls Try.prog 26 #[.agg #[iv, fv], tv, sv] W (RV (.tuple #[.int .i64 (splitC (freeL l) (textL l split) split), .int .i64 0]) W)) := Lib.hid (fun W iv fv tv sv h1 h2 h3 => by have := CheckSplit_c iv fv tv sv (freeL l) _ _ W h1 h2 h3; rw [hf] at this; exact this)
                  have hcp : decide (0 < countN (freeL l) (textL l split)) = true := decide_eq_true hc
                  have HCS3 := Lib.hid (fun W (hW : Ext wA W) tv sv (h2 : Ints W tv (textL l split)) (h3 : Ints W sv split) => CheckSplit_c _ _ tv sv l _ _ W (HR.out.ext hW) h2 h3)
                  have hkk : (splitK l (textL l split) split == 0) = true ∨ ((splitK l (textL l split) split == 0) = false ∧ (splitK l (textL l split) split == 6) = true) := by rcases h56 with h | h <;> simp [h]
                  clear hte hvl h56 hf hz hc HTP
                  generalize splitK l (textL l split) split = sk at *
                  generalize splitC l (textL l split) split = sc at *
                  generalize splitC (freeL l) (textL l split) split = sf at *
                  generalize countN (freeL l) (textL l split) = cf9 at *
                  go_wp2_with fail
                  refine (HTX.out w15 hX15).mono ?_; rintro e w21 ⟨v21, rfl, hv21, hx21⟩
                  have hX21 := hX15.trans hx21
                  have HV21 : Hid (Ints w21 v21 (textL l split)) := Lib.hid hv21
                  clear hv21
                  go_wp2_with fail
                  refine (HCS3.out w21 hX21 v21 _ HV21.out (HIS.out w21 hX21)).mono ?_; rintro e w22 ⟨rfl, hx22⟩
                  have hX22 := hX21.trans hx22
                  go_wp2_with fail
                  refine (HFR.out w22 hX22).mono ?_; rintro e w23 ⟨iv23, fv23, rfl, ho23, hx23⟩
                  have hX23 := hX22.trans hx23
                  have HL23 := Lib.hid ho23.lexR
                  obtain ⟨a23, c23, rfl, _, _, _⟩ := ho23.lexR.i.open_
                  obtain ⟨b23, d23, rfl, _, _, _⟩ := Rows.open_ ho23.lexR.f
                  clear ho23
                  have hA23 := Ext.alloc w23 (.cells #[.slice a23 (freeL l).i.length c23, .slice b23 (freeL l).f.length d23] 25)
                  have f0 : ∀ W, Ext (w23.alloc (.cells #[.slice a23 (freeL l).i.length c23, .slice b23 (freeL l).f.length d23] 25)) W → W.cell? ⟨w23.heap.size, 0, none⟩ = some (.slice a23 (freeL l).i.length c23) := kept_alloc w23 _ _ rfl
                  have f1 : ∀ W, Ext (w23.alloc (.cells #[.slice a23 (freeL l).i.length c23, .slice b23 (freeL l).f.length d23] 25)) W → W.cell? ⟨w23.heap.size, 1, none⟩ = some (.slice b23 (freeL l).f.length d23) := kept_alloc w23 _ _ rfl
                  have HL24 := Lib.hid (HL23.out.ext hA23)
                  have hX24 := hX23.trans hA23
                  have hX24r := hX24
                  have H24r := Ext.refl (w23.alloc (.cells #[.slice a23 (freeL l).i.length c23, .slice b23 (freeL l).f.length d23] 25))
                  have hv24 := HV21.out.ext ((hx22.trans hx23).trans hA23)
                  obtain ⟨W24, hW24⟩ : ∃ W24, W24 = w23.alloc (.cells #[.slice a23 (freeL l).i.length c23, .slice b23 (freeL l).f.length d23] 25) := ⟨_, rfl⟩
                  rw [← hW24] at f0 f1 HL24 hX24 hv24
                  have HV24 := Lib.hid hv24
                  have HW24 := Lib.hid hW24; clear hW24 hA23 hv24 HL23
                  have H24 := Ext.refl W24
                  generalize hnL : (freeL l).i.length = nL at *
                  generalize hnF : (freeL l).f.length = nF at *
                  have HnL := Lib.hid hnL; have HnF := Lib.hid hnF
                  clear hnL hnF
                  go_wp2_with fail
                  rw [← HW24.out]
                  clear hX24r H24r
                  refine (HCS2.out W24 _ _ _ _ HL24.out HV24.out (HIS.out W24 hX24)).mono ?_; rintro e w25 ⟨rfl, hx25⟩
                  have hX25 := hX24.trans hx25
                  go_wp2_with fail
                  refine (HCO2.out w25 _ _ _ (HL24.out.ext hx25) (HV24.out.ext hx25)).mono ?_; rintro e w26 ⟨rfl, hx26⟩
                  have hX26 := hX25.trans hx26
                  rcases hkk with hk1 | ⟨hk1, hk2⟩
                  · go_wp2_with fail
                    go_ret
                    exact RV.bool rfl (hE0.trans hX26)
                  · go_wp2_with fail
                    go_ret
                    exact RV.bool rfl (hE0.trans hX26)
                · have hL : textL l split = [] := by unfold textL; rw [if_neg hte]
                  rw [hL] at HTX
                  generalize textE l split = te at *
                  have hted : (te != 0) = true := by simpa using hte
                  clear hte hL HTP
                  go_wp2_with fail
                  refine (HTX.out w15 hX15).mono ?_; rintro e w21 ⟨v21, rfl, hv21, hx21⟩
                  have hX21 := hX15.trans hx21
                  obtain ⟨a21, c21, hv, _⟩ := Ints.open_ hv21
                  rw [List.length_nil] at hv; subst hv
                  clear hv21
                  go_wp2_with fail
                  go_ret
                  exact RV.bool rfl (hE0.trans hX21)
            · go_wp2_with fail
              refine (HAL.out w9 hX9).mono ?_; rintro e w10 ⟨v10, rfl, hv10, hx10⟩
              have hX10 := hX9.trans hx10
              obtain ⟨a10, c10, hv, _⟩ := Rows.open_ hv10
              rw [List.length_nil] at hv; subst hv
              clear hv10
              go_wp2_with fail
              go_loopg [31, 32] 0 (fun z lw ii wr => lw = .int .i64 (-1) ∧ ii = .int .i64 0 ∧ wr = w10)
              case atStart => exact ⟨rfl, rfl, rfl⟩
              case round =>
                obtain ⟨rfl, rfl, rfl⟩ := hrel
                have hs : ∀ s : Later wr, Ext wA s.w := fun s => hX10.trans s.ext
                go_wp2_with fail
                refine wp_region_later (by kernel_rfl) (by kernel_rfl) ?_
                repeat (go_big_quiet_step (fail))
                refine wpQuiet_nil ?_
                intro w15 hw'
                obtain ⟨⟨_, hx15⟩, rfl⟩ := hw'
                have hX15 := hX10.trans hx15
                clear hs
                by_cases hte : textE l split = 0
                · obtain ⟨hvl, h56, hf, hz, hc⟩ := HTP.out hte
                  rw [hte] at HTX
                  rw [hvl] at HFR
                  have HFS := Lib.hid hf; have HFZ := Lib.hid hz
                  have HCO2 : Hid (∀ W iv fv tv, LexR W iv fv (freeL l) → Ints W tv (textL l split) → Calls Try.prog 21 #[.agg #[iv, fv], tv] W (RV (.tuple #[.int .i64 (countN (freeL l) (textL l split)), .int .i64 0]) W)) := Lib.hid (fun W iv fv tv h1 h2 => by have := Count_c iv fv tv (freeL l) _ W h1 h2; rw [hz] at this; exact this)
                  have HCS2 : Hid (∀ W iv fv tv sv, LexR W iv fv (freeL l) → Ints W tv (textL l split) → Ints W sv split → Calls Try.prog 26 #[.agg #[iv, fv], tv, sv] W (RV (.tuple #[.int .i64 (splitC (freeL l) (textL l split) split), .int .i64 0]) W)) := Lib.hid (fun W iv fv tv sv h1 h2 h3 => by have := CheckSplit_c iv fv tv sv (freeL l) _ _ W h1 h2 h3; rw [hf] at this; exact this)
                  have hcp : decide (0 < countN (freeL l) (textL l split)) = true := decide_eq_true hc
                  have HCS3 := Lib.hid (fun W (hW : Ext wA W) tv sv (h2 : Ints W tv (textL l split)) (h3 : Ints W sv split) => CheckSplit_c _ _ tv sv l _ _ W (HR.out.ext hW) h2 h3)
                  have hkk : (splitK l (textL l split) split == 0) = true ∨ ((splitK l (textL l split) split == 0) = false ∧ (splitK l (textL l split) split == 6) = true) := by rcases h56 with h | h <;> simp [h]
                  clear hte hvl h56 hf hz hc HTP
                  generalize splitK l (textL l split) split = sk at *
                  generalize splitC l (textL l split) split = sc at *
                  generalize splitC (freeL l) (textL l split) split = sf at *
                  generalize countN (freeL l) (textL l split) = cf9 at *
                  go_wp2_with fail
                  refine (HTX.out w15 hX15).mono ?_; rintro e w21 ⟨v21, rfl, hv21, hx21⟩
                  have hX21 := hX15.trans hx21
                  have HV21 : Hid (Ints w21 v21 (textL l split)) := Lib.hid hv21
                  clear hv21
                  go_wp2_with fail
                  refine (HCS3.out w21 hX21 v21 _ HV21.out (HIS.out w21 hX21)).mono ?_; rintro e w22 ⟨rfl, hx22⟩
                  have hX22 := hX21.trans hx22
                  go_wp2_with fail
                  refine (HFR.out w22 hX22).mono ?_; rintro e w23 ⟨iv23, fv23, rfl, ho23, hx23⟩
                  have hX23 := hX22.trans hx23
                  have HL23 := Lib.hid ho23.lexR
                  obtain ⟨a23, c23, rfl, _, _, _⟩ := ho23.lexR.i.open_
                  obtain ⟨b23, d23, rfl, _, _, _⟩ := Rows.open_ ho23.lexR.f
                  clear ho23
                  have hA23 := Ext.alloc w23 (.cells #[.slice a23 (freeL l).i.length c23, .slice b23 (freeL l).f.length d23] 25)
                  have f0 : ∀ W, Ext (w23.alloc (.cells #[.slice a23 (freeL l).i.length c23, .slice b23 (freeL l).f.length d23] 25)) W → W.cell? ⟨w23.heap.size, 0, none⟩ = some (.slice a23 (freeL l).i.length c23) := kept_alloc w23 _ _ rfl
                  have f1 : ∀ W, Ext (w23.alloc (.cells #[.slice a23 (freeL l).i.length c23, .slice b23 (freeL l).f.length d23] 25)) W → W.cell? ⟨w23.heap.size, 1, none⟩ = some (.slice b23 (freeL l).f.length d23) := kept_alloc w23 _ _ rfl
                  have HL24 := Lib.hid (HL23.out.ext hA23)
                  have hX24 := hX23.trans hA23
                  have hX24r := hX24
                  have H24r := Ext.refl (w23.alloc (.cells #[.slice a23 (freeL l).i.length c23, .slice b23 (freeL l).f.length d23] 25))
                  have hv24 := HV21.out.ext ((hx22.trans hx23).trans hA23)
                  obtain ⟨W24, hW24⟩ : ∃ W24, W24 = w23.alloc (.cells #[.slice a23 (freeL l).i.length c23, .slice b23 (freeL l).f.length d23] 25) := ⟨_, rfl⟩
                  rw [← hW24] at f0 f1 HL24 hX24 hv24
                  have HV24 := Lib.hid hv24
                  have HW24 := Lib.hid hW24; clear hW24 hA23 hv24 HL23
                  have H24 := Ext.refl W24
                  generalize hnL : (freeL l).i.length = nL at *
                  generalize hnF : (freeL l).f.length = nF at *
                  have HnL := Lib.hid hnL; have HnF := Lib.hid hnF
                  clear hnL hnF
                  go_wp2_with fail
                  rw [← HW24.out]
                  clear hX24r H24r
                  refine (HCS2.out W24 _ _ _ _ HL24.out HV24.out (HIS.out W24 hX24)).mono ?_; rintro e w25 ⟨rfl, hx25⟩
                  have hX25 := hX24.trans hx25
                  go_wp2_with fail
                  refine (HCO2.out w25 _ _ _ (HL24.out.ext hx25) (HV24.out.ext hx25)).mono ?_; rintro e w26 ⟨rfl, hx26⟩
                  have hX26 := hX25.trans hx26
                  rcases hkk with hk1 | ⟨hk1, hk2⟩
                  · go_wp2_with fail
                    go_ret
                    exact RV.bool rfl (hE0.trans hX26)
                  · go_wp2_with fail
                    go_ret
                    exact RV.bool rfl (hE0.trans hX26)
                · have hL : textL l split = [] := by unfold textL; rw [if_neg hte]
                  rw [hL] at HTX
                  generalize textE l split = te at *
                  have hted : (te != 0) = true := by simpa using hte
                  clear hte hL HTP
                  go_wp2_with fail
                  refine (HTX.out w15 hX15).mono ?_; rintro e w21 ⟨v21, rfl, hv21, hx21⟩
                  have hX21 := hX15.trans hx21
                  obtain ⟨a21, c21, hv, _⟩ := Ints.open_ hv21
                  rw [List.length_nil] at hv; subst hv
                  clear hv21
                  go_wp2_with fail
                  go_ret
                  exact RV.bool rfl (hE0.trans hX21)
          · have hn : 0 < countN l text := of_decide_eq_true hfd.symm
            obtain ⟨hp1, hp2⟩ := prove_c h0 hok
            have HSB := Lib.hid (fun s h1 h2 => top_best (l := l) (t := text) (s := s) h0 h1 h2)
            have HCP := Lib.hid (fun W (hW : Ext wA W) pv hp => CheckProof_c _ _ _ pv l text (tabT l text (text.length + 1)) W (HR.out.ext hW) (HI_text.out.ext hW) hp)
            rw [tab_proof h0, tab_worth h0 hok, hok] at HCP
            rw [hok] at HLE HBE
            rw [hp1, hp2] at HPF
            have HBG := Lib.hid (fun h => all_big (l := l) (t := text) h h0)
            have HAN := Lib.hid (fun h => all_len (l := l) (t := text) h h0)
            have HAC : Hid (allK l text = 0 → ∀ i, i < (allL l text).length → splitK l text ((allL l text)[i]?.getD []) = 0 ∧ (leastO l text).1 ≤ splitC l text ((allL l text)[i]?.getD [])) := Lib.hid (fun h i hi => ⟨(all_cost h h0 hi).1, (all_cost h h0 hi).2.1⟩)
            have HND : Hid (allK l text = 0 → ∀ i j, i < (allL l text).length → j < (allL l text).length → i ≠ j → (allL l text)[i]?.getD [] ≠ (allL l text)[j]?.getD []) := Lib.hid (fun h i j hi hj hij => all_nd h hi hj hij)
            have HLW : Hid (allK l text = 0 → 0 < (allL l text).length → lowTo (fun i => splitC l text ((allL l text)[i]?.getD [])) (allL l text).length = (leastO l text).1) := Lib.hid (fun h hp => all_low h h0 hp)
            have HTW : Hid (allK l text = 0 → 1 < (allL l text).length → twoK l ((allL l text)[0]?.getD []) ((allL l text)[1]?.getD []) = 0) := Lib.hid (fun h hp => all_two h h0 hp)
            clear hok hfd hp1 hp2 h0
            generalize countN l text = n at *
            generalize (leastO l text).1 = lo at *
            generalize isC l = ic at *
            have HN := Lib.hid hn
            have hdn : decide (0 < n) = true := decide_eq_true hn
            have hlo : (lo != lo) = false := by simp
            clear hn hcn
            go_wp2_with fail
            refine (HCO.out w4 hX4).mono ?_; rintro e w5 ⟨rfl, hx5⟩
            have hX5 := hX4.trans hx5
            go_wp2_with fail
            refine (HLE.out w5 hX5).mono ?_; rintro e w6 ⟨rfl, hx6⟩
            have hX6 := hX5.trans hx6
            go_wp2_with fail
            refine (HBE.out w6 hX6).mono ?_; rintro e w7 ⟨v7, s7, rfl, hv7, hx7, hs7, _⟩
            have hX7 := hX6.trans hx7
            obtain ⟨hs71, hs72⟩ := hs7 (by trivial)
            obtain ⟨hs73, hs74⟩ := HSB.out s7 hs71 hs72
            have HCB := Lib.hid (fun W (hW : Ext w7 W) => HCS.out W (hX7.trans hW) _ text v7 s7 (HIT.out W (hX7.trans hW)) (hv7.ext hW))
            rw [hs73, hs74] at HCB
            clear hv7 hs7 hs71 hs72 hs73 hs74
            go_wp2_with fail
            refine (HPF.out w7 hX7).mono ?_; rintro e w8 ⟨v8, rfl, hv8, hx8⟩
            have hX8 := hX7.trans hx8
            have HV8 := Lib.hid hv8; clear hv8
            go_wp2_with fail
            refine (HIC.out w8 hX8).mono ?_; rintro e w9 ⟨rfl, hx9⟩
            have hX9 := hX8.trans hx9
            cases ic
            · have hz9 := hx9
              go_wp2_with fail
              refine (HCB.out w9 (hx8.trans hx9)).mono ?_; rintro e w10 ⟨rfl, hx10⟩
              have hX10 := hX9.trans hx10
              go_wp2_with fail
              refine (HCP.out w10 hX10 v8 (Rows.ext HV8.out (hx9.trans hx10))).mono ?_; rintro e w11 ⟨rfl, hx11⟩
              have hX11 := hX10.trans hx11
              clear hx5 hx6 hx7 hx8 hx9 hx10 hx11 hX4 hX5 hX6 hX7 hX8 hX9 hX10 HCB HCP HV8
              by_cases hak : allK l text = 0
              · rw [hak] at HAL
                have HLN := Lib.hid (HAN.out hak)
                have HAC := Lib.hid (HAC.out hak)
                have HND := Lib.hid (HND.out hak)
                have HLW := Lib.hid (HLW.out hak)
                have HTW := Lib.hid (HTW.out hak)
                have hc0 : ∀ i, i < (allL l text).length → splitK l text ((allL l text)[i]?.getD []) = 0 := fun i hi => (HAC.out i hi).1
                have HC0 := Lib.hid hc0
                have HC1 : Hid (∀ i, i < (allL l text).length → lo ≤ splitC l text ((allL l text)[i]?.getD [])) := Lib.hid (fun i hi => (HAC.out i hi).2)
                clear hak hc0 HAC HBG
                generalize allL l text = L at *
                have hln : ((L.length : Int) != n) = false := by rw [HLN.out]; simp
                obtain ⟨cc, hcc⟩ : ∃ cc : Nat → Int, cc = fun i => splitC l text (L[i]?.getD []) := ⟨_, rfl⟩
                rw [← hcc] at HLW
                have HCC : Hid (∀ i, splitC l text (L[i]?.getD []) = cc i) := Lib.hid (fun i => by rw [hcc])
                clear hcc
                go_wp2_with fail
                refine (HAL.out w11 hX11).mono ?_; rintro e w12 ⟨v12, rfl, hv12, hx12⟩
                have hX12 := hX11.trans hx12
                have HV12 : Hid (Rows w12 v12 L) := Lib.hid hv12
                obtain ⟨a3, c3, rfl, hl3, hm3, _⟩ := Rows.open_ hv12
                clear hv12 HAL hx12 hX11
                go_wp2_with fail
                go_loopg [31, 32] L.length (fun z lw ii wr => ∃ i : Nat, i ≤ L.length ∧ L.length ≤ i + z ∧ ii = .int .i64 i ∧ lw = .int .i64 (lowTo cc i) ∧ Ext w12 wr)
                case atStart => exact ⟨0, by omega, by omega, rfl, rfl, Ext.refl _⟩
                case round =>
                  obtain ⟨i, hi, hiz, rfl, rfl, hE⟩ := hrel
                  have hXr := hX12.trans hE
                  obtain ⟨a3', c3', hv, _, _, HRO⟩ := Rows.open_ (Rows.ext HV12.out hE)
                  injection hv with hv1 _ hv3; subst hv1 hv3
                  by_cases hil : i < L.length
                  · obtain ⟨b3, o3, rfl, u, hcu, hu⟩ := HRO.out i hil
                    have hiI : (i : Int) < (L.length : Int) := by omega
                    have HCX := Lib.hid (fun s : Later wr => HCS.out s.w (hXr.trans s.ext) _ text u _ (HIT.out s.w (hXr.trans s.ext)) (hu.ext s.ext))
                    rw [HC0.out i hil, HCC.out i] at HCX
                    have q0 := fun s : Later wr => s.ext.keep hcu
                    have hs : ∀ s : Later wr, Ext wA s.w := fun s => hXr.trans s.ext
                    have hge : decide (cc i < lo) = false := decide_eq_false (by have := HC1.out i hil; rw [HCC.out i] at this; omega)
                    have HU := Lib.hid hu
                    clear hu
                    go_wp2_with fail
                    refine wp_region_later (by kernel_rfl) (by kernel_rfl) ?_
                    repeat (go_big_quiet_step ((first | (go_at_call 26; first | with_reducible exact Later.call (HCX.out _)))))
                    refine wpQuiet_nil ?_
                    intro w13 hw'
                    obtain ⟨⟨_, hx13⟩, rfl⟩ := hw'
                    have hX13 := hXr.trans hx13
                    clear q0 hs HCX
                    cases i with
                    | zero =>
                      have hs : ∀ s : Later w13, Ext wA s.w := fun s => hX13.trans s.ext
                      go_wp2_with fail
                      refine wp_region_later (by kernel_rfl) (by kernel_rfl) ?_
                      repeat (go_big_quiet_step (fail))
                      refine wpQuiet_nil ?_
                      intro w14 hw'
                      obtain ⟨⟨_, hx14⟩, rfl⟩ := hw'
                      have hE14 := (hE.trans hx13).trans hx14
                      have hlw : lowTo cc (0 + 1) = cc 0 := by simp [lowTo]
                      have HLW1 := Lib.hid hlw; clear hlw hs
                      go_wp2_with fail
                      go_roundg (gk-1)
                      case measure => omega
                      case rel => exact ⟨1, by omega, by omega, by go_num, by rw [HLW1.out], hE14⟩
                    | succ m =>
                      obtain ⟨b5, o5, hab, u5, hcu5, hu5⟩ := HRO.out m (by omega)
                      injection hab with hab; injection hab with hab1 hab2 _; subst hab1 hab2
                      have HSI := Lib.hid (fun s : Later w13 => same_v u u5 _ _ s.w (HU.out.ext (hx13.trans s.ext)) (hu5.ext (hx13.trans s.ext)))
                      rw [decide_eq_false (HND.out (m + 1) m hil (by omega) (by omega))] at HSI
                      have q0 := fun s : Later w13 => (hx13.trans s.ext).keep hcu
                      have q1 := fun s : Later w13 => (hx13.trans s.ext).keep hcu5
                      have hs : ∀ s : Later w13, Ext wA s.w := fun s => hX13.trans s.ext
                      have hp1 : decide ((0 : Int) < ((m + 1 : Nat) : Int)) = true := decide_eq_true (by omega)
                      have hp2 : decide ((0 : Int) < (m : Int) + 1) = true := decide_eq_true (by omega)
                      have hp3 : decide (0 < m + 1) = true := decide_eq_true (by omega)
                      have hw1 : IntKind.i64.wrap (((m + 1 : Nat) : Int) - 1) = (m : Int) := by rw [show ((m + 1 : Nat) : Int) - 1 = m by omega]; exact IntWalk.i64_in _ (by omega)
                      have hw2 : IntKind.i64.wrap ((m : Int) + 1 - 1) = (m : Int) := by rw [show (m : Int) + 1 - 1 = m by omega]; exact IntWalk.i64_in _ (by omega)
                      have hw3 : IntKind.i64.wrap (m : Int) = (m : Int) := IntWalk.i64_in _ (by omega)
                      have hmI : (m : Int) < (L.length : Int) := by omega
                      have hm0 : (0 : Int) ≤ (m : Int) := by omega
                      clear hu5 hcu hcu5
                      go_wp2_with fail
                      refine wp_region_later (by kernel_rfl) (by kernel_rfl) ?_
                      repeat (go_big_quiet_step ((first | (go_at_call 28; first | with_reducible exact Later.call (HSI.out _)))))
                      refine wpQuiet_nil ?_
                      intro w14 hw'
                      obtain ⟨⟨_, hx14⟩, rfl⟩ := hw'
                      have hE14 := (hE.trans hx13).trans hx14
                      clear q0 q1 hs HSI hp1 hp2 hp3 hw1 hw2 hw3
                      have HLT : Hid (lowTo cc (m + 1 + 1) = if lowTo cc (m + 1) < 0 then cc (m + 1) else if cc (m + 1) < lowTo cc (m + 1) then cc (m + 1) else lowTo cc (m + 1)) := Lib.hid rfl
                      generalize lowTo cc (m + 1) = lw at *
                      generalize cc (m + 1) = c9 at *
                      by_cases hl1 : lw < 0
                      · have hd1 : decide (lw < 0) = true := decide_eq_true hl1
                        have HEQ := Lib.hid (show lowTo cc (m + 1 + 1) = c9 by rw [HLT.out, if_pos hl1])
                        clear hl1 HLT
                        go_wp2_with fail
                        go_roundg (gk-1)
                        case measure => omega
                        case rel => exact ⟨m+1+1, by omega, by omega, by go_num, by rw [HEQ.out], hE14⟩
                      · have hd1 : decide (lw < 0) = false := decide_eq_false hl1
                        by_cases hl2 : c9 < lw
                        · have hd2 : decide (c9 < lw) = true := decide_eq_true hl2
                          have HEQ := Lib.hid (show lowTo cc (m + 1 + 1) = c9 by rw [HLT.out, if_neg hl1, if_pos hl2])
                          clear hl1 HLT hl2
                          go_wp2_with fail
                          go_roundg (gk-1)
                          case measure => omega
                          case rel => exact ⟨m+1+1, by omega, by omega, by go_num, by rw [HEQ.out], hE14⟩
                        · have hd2 : decide (c9 < lw) = false := decide_eq_false hl2
                          have HEQ := Lib.hid (show lowTo cc (m + 1 + 1) = lw by rw [HLT.out, if_neg hl1, if_neg hl2])
                          clear hl1 HLT hl2
                          go_wp2_with fail
                          go_roundg (gk-1)
                          case measure => omega
                          case rel => exact ⟨m+1+1, by omega, by omega, by go_num, by rw [HEQ.out], hE14⟩
                  · have hiL : i = L.length := by omega
                    subst hiL
                    have hLp : 0 < L.length := by have := HLN.out; have := HN.out; omega
                    have hlow := HLW.out hLp
                    rw [hlow]
                    have hlo : (lo != lo) = false := by simp
                    clear hlow
                    have hs : ∀ s : Later wr, Ext wA s.w := fun s => hXr.trans s.ext
                    by_cases hn1 : 1 < n
                    · have hd1 : decide (1 < n) = true := decide_eq_true hn1
                      have hL1 : 1 < L.length := by have := HLN.out; omega
                      obtain ⟨b3, o3, rfl, u, hcu, hu⟩ := HRO.out 0 hLp
                      obtain ⟨b5, o5, hab, u5, hcu5, hu5⟩ := HRO.out 1 hL1
                      injection hab with hab; injection hab with hab1 hab2 _; subst hab1 hab2
                      have HCX := Lib.hid (fun s : Later wr => CheckTwo_c _ _ u u5 l _ _ s.w (HR.out.ext (hXr.trans s.ext)) (hu.ext s.ext) (hu5.ext s.ext))
                      rw [HTW.out hL1] at HCX
                      have q0 := fun s : Later wr => s.ext.keep hcu
                      have q1 := fun s : Later wr => s.ext.keep hcu5
                      rw [Nat.add_zero] at q0
                      have hI0 : (0 : Int) < (L.length : Int) := by omega
                      have hI1 : (1 : Int) < (L.length : Int) := by omega
                      clear hu hu5 hcu hcu5 hn1
                      go_wp2_with fail
                      refine wp_region_later (by kernel_rfl) (by kernel_rfl) ?_
                      repeat (go_big_quiet_step ((first | (go_at_call 29; first | with_reducible exact Later.call (HCX.out _)))))
                      refine wpQuiet_nil ?_
                      intro w15 hw'
                      obtain ⟨⟨_, hx15⟩, rfl⟩ := hw'
                      have hX15 := hXr.trans hx15
                      clear q0 q1 hs HCX
                      by_cases hte : textE l split = 0
                      · obtain ⟨hvl, h56, hf, hz, hc⟩ := HTP.out hte
                        rw [hte] at HTX
                        rw [hvl] at HFR
                        have HFS := Lib.hid hf; have HFZ := Lib.hid hz
                        have HCO2 : Hid (∀ W iv fv tv, LexR W iv fv (freeL l) → Ints W tv (textL l split) → Calls Try.prog 21 #[.agg #[iv, fv], tv] W (RV (.tuple #[.int .i64 (countN (freeL l) (textL l split)), .int .i64 0]) W)) := Lib.hid (fun W iv fv tv h1 h2 => by have := Count_c iv fv tv (freeL l) _ W h1 h2; rw [hz] at this; exact this)
                        have HCS2 : Hid (∀ W iv fv tv sv, LexR W iv fv (freeL l) → Ints W tv (textL l split) → Ints W sv split → Calls Try.prog 26 #[.agg #[iv, fv], tv, sv] W (RV (.tuple #[.int .i64 (splitC (freeL l) (textL l split) split), .int .i64 0]) W)) := Lib.hid (fun W iv fv tv sv h1 h2 h3 => by have := CheckSplit_c iv fv tv sv (freeL l) _ _ W h1 h2 h3; rw [hf] at this; exact this)
                        have hcp : decide (0 < countN (freeL l) (textL l split)) = true := decide_eq_true hc
                        have HCS3 := Lib.hid (fun W (hW : Ext wA W) tv sv (h2 : Ints W tv (textL l split)) (h3 : Ints W sv split) => CheckSplit_c _ _ tv sv l _ _ W (HR.out.ext hW) h2 h3)
                        have hkk : (splitK l (textL l split) split == 0) = true ∨ ((splitK l (textL l split) split == 0) = false ∧ (splitK l (textL l split) split == 6) = true) := by rcases h56 with h | h <;> simp [h]
                        clear hte hvl h56 hf hz hc HTP
                        generalize splitK l (textL l split) split = sk at *
                        generalize splitC l (textL l split) split = sc at *
                        generalize splitC (freeL l) (textL l split) split = sf at *
                        generalize countN (freeL l) (textL l split) = cf9 at *
                        go_wp2_with fail
                        refine (HTX.out w15 hX15).mono ?_; rintro e w21 ⟨v21, rfl, hv21, hx21⟩
                        have hX21 := hX15.trans hx21
                        have HV21 : Hid (Ints w21 v21 (textL l split)) := Lib.hid hv21
                        clear hv21
                        go_wp2_with fail
                        refine (HCS3.out w21 hX21 v21 _ HV21.out (HIS.out w21 hX21)).mono ?_; rintro e w22 ⟨rfl, hx22⟩
                        have hX22 := hX21.trans hx22
                        go_wp2_with fail
                        refine (HFR.out w22 hX22).mono ?_; rintro e w23 ⟨iv23, fv23, rfl, ho23, hx23⟩
                        have hX23 := hX22.trans hx23
                        have HL23 := Lib.hid ho23.lexR
                        obtain ⟨a23, c23, rfl, _, _, _⟩ := ho23.lexR.i.open_
                        obtain ⟨b23, d23, rfl, _, _, _⟩ := Rows.open_ ho23.lexR.f
                        clear ho23
                        have hA23 := Ext.alloc w23 (.cells #[.slice a23 (freeL l).i.length c23, .slice b23 (freeL l).f.length d23] 25)
                        have f0 : ∀ W, Ext (w23.alloc (.cells #[.slice a23 (freeL l).i.length c23, .slice b23 (freeL l).f.length d23] 25)) W → W.cell? ⟨w23.heap.size, 0, none⟩ = some (.slice a23 (freeL l).i.length c23) := kept_alloc w23 _ _ rfl
                        have f1 : ∀ W, Ext (w23.alloc (.cells #[.slice a23 (freeL l).i.length c23, .slice b23 (freeL l).f.length d23] 25)) W → W.cell? ⟨w23.heap.size, 1, none⟩ = some (.slice b23 (freeL l).f.length d23) := kept_alloc w23 _ _ rfl
                        have HL24 := Lib.hid (HL23.out.ext hA23)
                        have hX24 := hX23.trans hA23
                        have hX24r := hX24
                        have H24r := Ext.refl (w23.alloc (.cells #[.slice a23 (freeL l).i.length c23, .slice b23 (freeL l).f.length d23] 25))
                        have hv24 := HV21.out.ext ((hx22.trans hx23).trans hA23)
                        obtain ⟨W24, hW24⟩ : ∃ W24, W24 = w23.alloc (.cells #[.slice a23 (freeL l).i.length c23, .slice b23 (freeL l).f.length d23] 25) := ⟨_, rfl⟩
                        rw [← hW24] at f0 f1 HL24 hX24 hv24
                        have HV24 := Lib.hid hv24
                        have HW24 := Lib.hid hW24; clear hW24 hA23 hv24 HL23
                        have H24 := Ext.refl W24
                        generalize hnL : (freeL l).i.length = nL at *
                        generalize hnF : (freeL l).f.length = nF at *
                        have HnL := Lib.hid hnL; have HnF := Lib.hid hnF
                        clear hnL hnF
                        go_wp2_with fail
                        rw [← HW24.out]
                        clear hX24r H24r
                        refine (HCS2.out W24 _ _ _ _ HL24.out HV24.out (HIS.out W24 hX24)).mono ?_; rintro e w25 ⟨rfl, hx25⟩
                        have hX25 := hX24.trans hx25
                        go_wp2_with fail
                        refine (HCO2.out w25 _ _ _ (HL24.out.ext hx25) (HV24.out.ext hx25)).mono ?_; rintro e w26 ⟨rfl, hx26⟩
                        have hX26 := hX25.trans hx26
                        rcases hkk with hk1 | ⟨hk1, hk2⟩
                        · go_wp2_with fail
                          go_ret
                          exact RV.bool rfl (hE0.trans hX26)
                        · go_wp2_with fail
                          go_ret
                          exact RV.bool rfl (hE0.trans hX26)
                      · have hL : textL l split = [] := by unfold textL; rw [if_neg hte]
                        rw [hL] at HTX
                        generalize textE l split = te at *
                        have hted : (te != 0) = true := by simpa using hte
                        clear hte hL HTP
                        go_wp2_with fail
                        refine (HTX.out w15 hX15).mono ?_; rintro e w21 ⟨v21, rfl, hv21, hx21⟩
                        have hX21 := hX15.trans hx21
                        obtain ⟨a21, c21, hv, _⟩ := Ints.open_ hv21
                        rw [List.length_nil] at hv; subst hv
                        clear hv21
                        go_wp2_with fail
                        go_ret
                        exact RV.bool rfl (hE0.trans hX21)
                    · have hd1 : decide (1 < n) = false := decide_eq_false hn1
                      clear hn1
                      go_wp2_with fail
                      refine wp_region_later (by kernel_rfl) (by kernel_rfl) ?_
                      repeat (go_big_quiet_step (fail))
                      refine wpQuiet_nil ?_
                      intro w15 hw'
                      obtain ⟨⟨_, hx15⟩, rfl⟩ := hw'
                      have hX15 := hXr.trans hx15
                      clear hs
                      by_cases hte : textE l split = 0
                      · obtain ⟨hvl, h56, hf, hz, hc⟩ := HTP.out hte
                        rw [hte] at HTX
                        rw [hvl] at HFR
                        have HFS := Lib.hid hf; have HFZ := Lib.hid hz
                        have HCO2 : Hid (∀ W iv fv tv, LexR W iv fv (freeL l) → Ints W tv (textL l split) → Calls Try.prog 21 #[.agg #[iv, fv], tv] W (RV (.tuple #[.int .i64 (countN (freeL l) (textL l split)), .int .i64 0]) W)) := Lib.hid (fun W iv fv tv h1 h2 => by have := Count_c iv fv tv (freeL l) _ W h1 h2; rw [hz] at this; exact this)
                        have HCS2 : Hid (∀ W iv fv tv sv, LexR W iv fv (freeL l) → Ints W tv (textL l split) → Ints W sv split → Calls Try.prog 26 #[.agg #[iv, fv], tv, sv] W (RV (.tuple #[.int .i64 (splitC (freeL l) (textL l split) split), .int .i64 0]) W)) := Lib.hid (fun W iv fv tv sv h1 h2 h3 => by have := CheckSplit_c iv fv tv sv (freeL l) _ _ W h1 h2 h3; rw [hf] at this; exact this)
                        have hcp : decide (0 < countN (freeL l) (textL l split)) = true := decide_eq_true hc
                        have HCS3 := Lib.hid (fun W (hW : Ext wA W) tv sv (h2 : Ints W tv (textL l split)) (h3 : Ints W sv split) => CheckSplit_c _ _ tv sv l _ _ W (HR.out.ext hW) h2 h3)
                        have hkk : (splitK l (textL l split) split == 0) = true ∨ ((splitK l (textL l split) split == 0) = false ∧ (splitK l (textL l split) split == 6) = true) := by rcases h56 with h | h <;> simp [h]
                        clear hte hvl h56 hf hz hc HTP
                        generalize splitK l (textL l split) split = sk at *
                        generalize splitC l (textL l split) split = sc at *
                        generalize splitC (freeL l) (textL l split) split = sf at *
                        generalize countN (freeL l) (textL l split) = cf9 at *
                        go_wp2_with fail
                        refine (HTX.out w15 hX15).mono ?_; rintro e w21 ⟨v21, rfl, hv21, hx21⟩
                        have hX21 := hX15.trans hx21
                        have HV21 : Hid (Ints w21 v21 (textL l split)) := Lib.hid hv21
                        clear hv21
                        go_wp2_with fail
                        refine (HCS3.out w21 hX21 v21 _ HV21.out (HIS.out w21 hX21)).mono ?_; rintro e w22 ⟨rfl, hx22⟩
                        have hX22 := hX21.trans hx22
                        go_wp2_with fail
                        refine (HFR.out w22 hX22).mono ?_; rintro e w23 ⟨iv23, fv23, rfl, ho23, hx23⟩
                        have hX23 := hX22.trans hx23
                        have HL23 := Lib.hid ho23.lexR
                        obtain ⟨a23, c23, rfl, _, _, _⟩ := ho23.lexR.i.open_
                        obtain ⟨b23, d23, rfl, _, _, _⟩ := Rows.open_ ho23.lexR.f
                        clear ho23
                        have hA23 := Ext.alloc w23 (.cells #[.slice a23 (freeL l).i.length c23, .slice b23 (freeL l).f.length d23] 25)
                        have f0 : ∀ W, Ext (w23.alloc (.cells #[.slice a23 (freeL l).i.length c23, .slice b23 (freeL l).f.length d23] 25)) W → W.cell? ⟨w23.heap.size, 0, none⟩ = some (.slice a23 (freeL l).i.length c23) := kept_alloc w23 _ _ rfl
                        have f1 : ∀ W, Ext (w23.alloc (.cells #[.slice a23 (freeL l).i.length c23, .slice b23 (freeL l).f.length d23] 25)) W → W.cell? ⟨w23.heap.size, 1, none⟩ = some (.slice b23 (freeL l).f.length d23) := kept_alloc w23 _ _ rfl
                        have HL24 := Lib.hid (HL23.out.ext hA23)
                        have hX24 := hX23.trans hA23
                        have hX24r := hX24
                        have H24r := Ext.refl (w23.alloc (.cells #[.slice a23 (freeL l).i.length c23, .slice b23 (freeL l).f.length d23] 25))
                        have hv24 := HV21.out.ext ((hx22.trans hx23).trans hA23)
                        obtain ⟨W24, hW24⟩ : ∃ W24, W24 = w23.alloc (.cells #[.slice a23 (freeL l).i.length c23, .slice b23 (freeL l).f.length d23] 25) := ⟨_, rfl⟩
                        rw [← hW24] at f0 f1 HL24 hX24 hv24
                        have HV24 := Lib.hid hv24
                        have HW24 := Lib.hid hW24; clear hW24 hA23 hv24 HL23
                        have H24 := Ext.refl W24
                        generalize hnL : (freeL l).i.length = nL at *
                        generalize hnF : (freeL l).f.length = nF at *
                        have HnL := Lib.hid hnL; have HnF := Lib.hid hnF
                        clear hnL hnF
                        go_wp2_with fail
                        rw [← HW24.out]
                        clear hX24r H24r
                        refine (HCS2.out W24 _ _ _ _ HL24.out HV24.out (HIS.out W24 hX24)).mono ?_; rintro e w25 ⟨rfl, hx25⟩
                        have hX25 := hX24.trans hx25
                        go_wp2_with fail
                        refine (HCO2.out w25 _ _ _ (HL24.out.ext hx25) (HV24.out.ext hx25)).mono ?_; rintro e w26 ⟨rfl, hx26⟩
                        have hX26 := hX25.trans hx26
                        rcases hkk with hk1 | ⟨hk1, hk2⟩
                        · go_wp2_with fail
                          go_ret
                          exact RV.bool rfl (hE0.trans hX26)
                        · go_wp2_with fail
                          go_ret
                          exact RV.bool rfl (hE0.trans hX26)
                      · have hL : textL l split = [] := by unfold textL; rw [if_neg hte]
                        rw [hL] at HTX
                        generalize textE l split = te at *
                        have hted : (te != 0) = true := by simpa using hte
                        clear hte hL HTP
                        go_wp2_with fail
                        refine (HTX.out w15 hX15).mono ?_; rintro e w21 ⟨v21, rfl, hv21, hx21⟩
                        have hX21 := hX15.trans hx21
                        obtain ⟨a21, c21, hv, _⟩ := Ints.open_ hv21
                        rw [List.length_nil] at hv; subst hv
                        clear hv21
                        go_wp2_with fail
                        go_ret
                        exact RV.bool rfl (hE0.trans hX21)
              · obtain ⟨h3, h50⟩ := HBG.out hak
                rw [h3] at HAL
                have hnb : decide (n ≤ 50) = false := decide_eq_false (by omega)
                clear hak h3 h50
                go_wp2_with fail
                refine (HAL.out w11 hX11).mono ?_; rintro e w12 ⟨v12, rfl, hv12, hx12⟩
                have hX12 := hX11.trans hx12
                clear hv12
                by_cases hte : textE l split = 0
                · obtain ⟨hvl, h56, hf, hz, hc⟩ := HTP.out hte
                  rw [hte] at HTX
                  rw [hvl] at HFR
                  have HFS := Lib.hid hf; have HFZ := Lib.hid hz
                  have HCO2 : Hid (∀ W iv fv tv, LexR W iv fv (freeL l) → Ints W tv (textL l split) → Calls Try.prog 21 #[.agg #[iv, fv], tv] W (RV (.tuple #[.int .i64 (countN (freeL l) (textL l split)), .int .i64 0]) W)) := Lib.hid (fun W iv fv tv h1 h2 => by have := Count_c iv fv tv (freeL l) _ W h1 h2; rw [hz] at this; exact this)
                  have HCS2 : Hid (∀ W iv fv tv sv, LexR W iv fv (freeL l) → Ints W tv (textL l split) → Ints W sv split → Calls Try.prog 26 #[.agg #[iv, fv], tv, sv] W (RV (.tuple #[.int .i64 (splitC (freeL l) (textL l split) split), .int .i64 0]) W)) := Lib.hid (fun W iv fv tv sv h1 h2 h3 => by have := CheckSplit_c iv fv tv sv (freeL l) _ _ W h1 h2 h3; rw [hf] at this; exact this)
                  have hcp : decide (0 < countN (freeL l) (textL l split)) = true := decide_eq_true hc
                  have HCS3 := Lib.hid (fun W (hW : Ext wA W) tv sv (h2 : Ints W tv (textL l split)) (h3 : Ints W sv split) => CheckSplit_c _ _ tv sv l _ _ W (HR.out.ext hW) h2 h3)
                  have hkk : (splitK l (textL l split) split == 0) = true ∨ ((splitK l (textL l split) split == 0) = false ∧ (splitK l (textL l split) split == 6) = true) := by rcases h56 with h | h <;> simp [h]
                  clear hte hvl h56 hf hz hc HTP
                  generalize splitK l (textL l split) split = sk at *
                  generalize splitC l (textL l split) split = sc at *
                  generalize splitC (freeL l) (textL l split) split = sf at *
                  generalize countN (freeL l) (textL l split) = cf9 at *
                  go_wp2_with fail
                  refine (HTX.out w12 hX12).mono ?_; rintro e w21 ⟨v21, rfl, hv21, hx21⟩
                  have hX21 := hX12.trans hx21
                  have HV21 : Hid (Ints w21 v21 (textL l split)) := Lib.hid hv21
                  clear hv21
                  go_wp2_with fail
                  refine (HCS3.out w21 hX21 v21 _ HV21.out (HIS.out w21 hX21)).mono ?_; rintro e w22 ⟨rfl, hx22⟩
                  have hX22 := hX21.trans hx22
                  go_wp2_with fail
                  refine (HFR.out w22 hX22).mono ?_; rintro e w23 ⟨iv23, fv23, rfl, ho23, hx23⟩
                  have hX23 := hX22.trans hx23
                  have HL23 := Lib.hid ho23.lexR
                  obtain ⟨a23, c23, rfl, _, _, _⟩ := ho23.lexR.i.open_
                  obtain ⟨b23, d23, rfl, _, _, _⟩ := Rows.open_ ho23.lexR.f
                  clear ho23
                  have hA23 := Ext.alloc w23 (.cells #[.slice a23 (freeL l).i.length c23, .slice b23 (freeL l).f.length d23] 25)
                  have f0 : ∀ W, Ext (w23.alloc (.cells #[.slice a23 (freeL l).i.length c23, .slice b23 (freeL l).f.length d23] 25)) W → W.cell? ⟨w23.heap.size, 0, none⟩ = some (.slice a23 (freeL l).i.length c23) := kept_alloc w23 _ _ rfl
                  have f1 : ∀ W, Ext (w23.alloc (.cells #[.slice a23 (freeL l).i.length c23, .slice b23 (freeL l).f.length d23] 25)) W → W.cell? ⟨w23.heap.size, 1, none⟩ = some (.slice b23 (freeL l).f.length d23) := kept_alloc w23 _ _ rfl
                  have HL24 := Lib.hid (HL23.out.ext hA23)
                  have hX24 := hX23.trans hA23
                  have hX24r := hX24
                  have H24r := Ext.refl (w23.alloc (.cells #[.slice a23 (freeL l).i.length c23, .slice b23 (freeL l).f.length d23] 25))
                  have hv24 := HV21.out.ext ((hx22.trans hx23).trans hA23)
                  obtain ⟨W24, hW24⟩ : ∃ W24, W24 = w23.alloc (.cells #[.slice a23 (freeL l).i.length c23, .slice b23 (freeL l).f.length d23] 25) := ⟨_, rfl⟩
                  rw [← hW24] at f0 f1 HL24 hX24 hv24
                  have HV24 := Lib.hid hv24
                  have HW24 := Lib.hid hW24; clear hW24 hA23 hv24 HL23
                  have H24 := Ext.refl W24
                  generalize hnL : (freeL l).i.length = nL at *
                  generalize hnF : (freeL l).f.length = nF at *
                  have HnL := Lib.hid hnL; have HnF := Lib.hid hnF
                  clear hnL hnF
                  go_wp2_with fail
                  rw [← HW24.out]
                  clear hX24r H24r
                  refine (HCS2.out W24 _ _ _ _ HL24.out HV24.out (HIS.out W24 hX24)).mono ?_; rintro e w25 ⟨rfl, hx25⟩
                  have hX25 := hX24.trans hx25
                  go_wp2_with fail
                  refine (HCO2.out w25 _ _ _ (HL24.out.ext hx25) (HV24.out.ext hx25)).mono ?_; rintro e w26 ⟨rfl, hx26⟩
                  have hX26 := hX25.trans hx26
                  rcases hkk with hk1 | ⟨hk1, hk2⟩
                  · go_wp2_with fail
                    go_ret
                    exact RV.bool rfl (hE0.trans hX26)
                  · go_wp2_with fail
                    go_ret
                    exact RV.bool rfl (hE0.trans hX26)
                · have hL : textL l split = [] := by unfold textL; rw [if_neg hte]
                  rw [hL] at HTX
                  generalize textE l split = te at *
                  have hted : (te != 0) = true := by simpa using hte
                  clear hte hL HTP
                  go_wp2_with fail
                  refine (HTX.out w12 hX12).mono ?_; rintro e w21 ⟨v21, rfl, hv21, hx21⟩
                  have hX21 := hX12.trans hx21
                  obtain ⟨a21, c21, hv, _⟩ := Ints.open_ hv21
                  rw [List.length_nil] at hv; subst hv
                  clear hv21
                  go_wp2_with fail
                  go_ret
                  exact RV.bool rfl (hE0.trans hX21)
            · have hn2 : decide (1 < n) = false := decide_eq_false (by have := HCD.out rfl; omega)
              go_wp2_with fail
              refine (HCB.out w9 (hx8.trans hx9)).mono ?_; rintro e w10 ⟨rfl, hx10⟩
              have hX10 := hX9.trans hx10
              go_wp2_with fail
              refine (HCP.out w10 hX10 v8 (Rows.ext HV8.out (hx9.trans hx10))).mono ?_; rintro e w11 ⟨rfl, hx11⟩
              have hX11 := hX10.trans hx11
              clear hx5 hx6 hx7 hx8 hx9 hx10 hx11 hX4 hX5 hX6 hX7 hX8 hX9 hX10 HCB HCP HV8
              by_cases hak : allK l text = 0
              · rw [hak] at HAL
                have HLN := Lib.hid (HAN.out hak)
                have HAC := Lib.hid (HAC.out hak)
                have HND := Lib.hid (HND.out hak)
                have HLW := Lib.hid (HLW.out hak)
                have HTW := Lib.hid (HTW.out hak)
                have hc0 : ∀ i, i < (allL l text).length → splitK l text ((allL l text)[i]?.getD []) = 0 := fun i hi => (HAC.out i hi).1
                have HC0 := Lib.hid hc0
                have HC1 : Hid (∀ i, i < (allL l text).length → lo ≤ splitC l text ((allL l text)[i]?.getD [])) := Lib.hid (fun i hi => (HAC.out i hi).2)
                clear hak hc0 HAC HBG
                generalize allL l text = L at *
                have hln : ((L.length : Int) != n) = false := by rw [HLN.out]; simp
                obtain ⟨cc, hcc⟩ : ∃ cc : Nat → Int, cc = fun i => splitC l text (L[i]?.getD []) := ⟨_, rfl⟩
                rw [← hcc] at HLW
                have HCC : Hid (∀ i, splitC l text (L[i]?.getD []) = cc i) := Lib.hid (fun i => by rw [hcc])
                clear hcc
                go_wp2_with fail
                refine (HAL.out w11 hX11).mono ?_; rintro e w12 ⟨v12, rfl, hv12, hx12⟩
                have hX12 := hX11.trans hx12
                have HV12 : Hid (Rows w12 v12 L) := Lib.hid hv12
                obtain ⟨a3, c3, rfl, hl3, hm3, _⟩ := Rows.open_ hv12
                clear hv12 HAL hx12 hX11
                go_wp2_with fail
                go_loopg [31, 32] L.length (fun z lw ii wr => ∃ i : Nat, i ≤ L.length ∧ L.length ≤ i + z ∧ ii = .int .i64 i ∧ lw = .int .i64 (lowTo cc i) ∧ Ext w12 wr)
                case atStart => exact ⟨0, by omega, by omega, rfl, rfl, Ext.refl _⟩
                case round =>
                  obtain ⟨i, hi, hiz, rfl, rfl, hE⟩ := hrel
                  have hXr := hX12.trans hE
                  obtain ⟨a3', c3', hv, _, _, HRO⟩ := Rows.open_ (Rows.ext HV12.out hE)
                  injection hv with hv1 _ hv3; subst hv1 hv3
                  by_cases hil : i < L.length
                  · obtain ⟨b3, o3, rfl, u, hcu, hu⟩ := HRO.out i hil
                    have hiI : (i : Int) < (L.length : Int) := by omega
                    have HCX := Lib.hid (fun s : Later wr => HCS.out s.w (hXr.trans s.ext) _ text u _ (HIT.out s.w (hXr.trans s.ext)) (hu.ext s.ext))
                    rw [HC0.out i hil, HCC.out i] at HCX
                    have q0 := fun s : Later wr => s.ext.keep hcu
                    have hs : ∀ s : Later wr, Ext wA s.w := fun s => hXr.trans s.ext
                    have hge : decide (cc i < lo) = false := decide_eq_false (by have := HC1.out i hil; rw [HCC.out i] at this; omega)
                    have HU := Lib.hid hu
                    clear hu
                    go_wp2_with fail
                    refine wp_region_later (by kernel_rfl) (by kernel_rfl) ?_
                    repeat (go_big_quiet_step ((first | (go_at_call 26; first | with_reducible exact Later.call (HCX.out _)))))
                    refine wpQuiet_nil ?_
                    intro w13 hw'
                    obtain ⟨⟨_, hx13⟩, rfl⟩ := hw'
                    have hX13 := hXr.trans hx13
                    clear q0 hs HCX
                    cases i with
                    | zero =>
                      have hs : ∀ s : Later w13, Ext wA s.w := fun s => hX13.trans s.ext
                      go_wp2_with fail
                      refine wp_region_later (by kernel_rfl) (by kernel_rfl) ?_
                      repeat (go_big_quiet_step (fail))
                      refine wpQuiet_nil ?_
                      intro w14 hw'
                      obtain ⟨⟨_, hx14⟩, rfl⟩ := hw'
                      have hE14 := (hE.trans hx13).trans hx14
                      have hlw : lowTo cc (0 + 1) = cc 0 := by simp [lowTo]
                      have HLW1 := Lib.hid hlw; clear hlw hs
                      go_wp2_with fail
                      go_roundg (gk-1)
                      case measure => omega
                      case rel => exact ⟨1, by omega, by omega, by go_num, by rw [HLW1.out], hE14⟩
                    | succ m =>
                      obtain ⟨b5, o5, hab, u5, hcu5, hu5⟩ := HRO.out m (by omega)
                      injection hab with hab; injection hab with hab1 hab2 _; subst hab1 hab2
                      have HSI := Lib.hid (fun s : Later w13 => same_v u u5 _ _ s.w (HU.out.ext (hx13.trans s.ext)) (hu5.ext (hx13.trans s.ext)))
                      rw [decide_eq_false (HND.out (m + 1) m hil (by omega) (by omega))] at HSI
                      have q0 := fun s : Later w13 => (hx13.trans s.ext).keep hcu
                      have q1 := fun s : Later w13 => (hx13.trans s.ext).keep hcu5
                      have hs : ∀ s : Later w13, Ext wA s.w := fun s => hX13.trans s.ext
                      have hp1 : decide ((0 : Int) < ((m + 1 : Nat) : Int)) = true := decide_eq_true (by omega)
                      have hp2 : decide ((0 : Int) < (m : Int) + 1) = true := decide_eq_true (by omega)
                      have hp3 : decide (0 < m + 1) = true := decide_eq_true (by omega)
                      have hw1 : IntKind.i64.wrap (((m + 1 : Nat) : Int) - 1) = (m : Int) := by rw [show ((m + 1 : Nat) : Int) - 1 = m by omega]; exact IntWalk.i64_in _ (by omega)
                      have hw2 : IntKind.i64.wrap ((m : Int) + 1 - 1) = (m : Int) := by rw [show (m : Int) + 1 - 1 = m by omega]; exact IntWalk.i64_in _ (by omega)
                      have hw3 : IntKind.i64.wrap (m : Int) = (m : Int) := IntWalk.i64_in _ (by omega)
                      have hmI : (m : Int) < (L.length : Int) := by omega
                      have hm0 : (0 : Int) ≤ (m : Int) := by omega
                      clear hu5 hcu hcu5
                      go_wp2_with fail
                      refine wp_region_later (by kernel_rfl) (by kernel_rfl) ?_
                      repeat (go_big_quiet_step ((first | (go_at_call 28; first | with_reducible exact Later.call (HSI.out _)))))
                      refine wpQuiet_nil ?_
                      intro w14 hw'
                      obtain ⟨⟨_, hx14⟩, rfl⟩ := hw'
                      have hE14 := (hE.trans hx13).trans hx14
                      clear q0 q1 hs HSI hp1 hp2 hp3 hw1 hw2 hw3
                      have HLT : Hid (lowTo cc (m + 1 + 1) = if lowTo cc (m + 1) < 0 then cc (m + 1) else if cc (m + 1) < lowTo cc (m + 1) then cc (m + 1) else lowTo cc (m + 1)) := Lib.hid rfl
                      generalize lowTo cc (m + 1) = lw at *
                      generalize cc (m + 1) = c9 at *
                      by_cases hl1 : lw < 0
                      · have hd1 : decide (lw < 0) = true := decide_eq_true hl1
                        have HEQ := Lib.hid (show lowTo cc (m + 1 + 1) = c9 by rw [HLT.out, if_pos hl1])
                        clear hl1 HLT
                        go_wp2_with fail
                        go_roundg (gk-1)
                        case measure => omega
                        case rel => exact ⟨m+1+1, by omega, by omega, by go_num, by rw [HEQ.out], hE14⟩
                      · have hd1 : decide (lw < 0) = false := decide_eq_false hl1
                        by_cases hl2 : c9 < lw
                        · have hd2 : decide (c9 < lw) = true := decide_eq_true hl2
                          have HEQ := Lib.hid (show lowTo cc (m + 1 + 1) = c9 by rw [HLT.out, if_neg hl1, if_pos hl2])
                          clear hl1 HLT hl2
                          go_wp2_with fail
                          go_roundg (gk-1)
                          case measure => omega
                          case rel => exact ⟨m+1+1, by omega, by omega, by go_num, by rw [HEQ.out], hE14⟩
                        · have hd2 : decide (c9 < lw) = false := decide_eq_false hl2
                          have HEQ := Lib.hid (show lowTo cc (m + 1 + 1) = lw by rw [HLT.out, if_neg hl1, if_neg hl2])
                          clear hl1 HLT hl2
                          go_wp2_with fail
                          go_roundg (gk-1)
                          case measure => omega
                          case rel => exact ⟨m+1+1, by omega, by omega, by go_num, by rw [HEQ.out], hE14⟩
                  · have hiL : i = L.length := by omega
                    subst hiL
                    have hLp : 0 < L.length := by have := HLN.out; have := HN.out; omega
                    have hlow := HLW.out hLp
                    rw [hlow]
                    have hlo : (lo != lo) = false := by simp
                    clear hlow
                    have hs : ∀ s : Later wr, Ext wA s.w := fun s => hXr.trans s.ext
                    by_cases hn1 : 1 < n
                    · have hd1 : decide (1 < n) = true := decide_eq_true hn1
                      have hL1 : 1 < L.length := by have := HLN.out; omega
                      obtain ⟨b3, o3, rfl, u, hcu, hu⟩ := HRO.out 0 hLp
                      obtain ⟨b5, o5, hab, u5, hcu5, hu5⟩ := HRO.out 1 hL1
                      injection hab with hab; injection hab with hab1 hab2 _; subst hab1 hab2
                      have HCX := Lib.hid (fun s : Later wr => CheckTwo_c _ _ u u5 l _ _ s.w (HR.out.ext (hXr.trans s.ext)) (hu.ext s.ext) (hu5.ext s.ext))
                      rw [HTW.out hL1] at HCX
                      have q0 := fun s : Later wr => s.ext.keep hcu
                      have q1 := fun s : Later wr => s.ext.keep hcu5
                      rw [Nat.add_zero] at q0
                      have hI0 : (0 : Int) < (L.length : Int) := by omega
                      have hI1 : (1 : Int) < (L.length : Int) := by omega
                      clear hu hu5 hcu hcu5 hn1
                      go_wp2_with fail
                      refine wp_region_later (by kernel_rfl) (by kernel_rfl) ?_
                      repeat (go_big_quiet_step ((first | (go_at_call 29; first | with_reducible exact Later.call (HCX.out _)))))
                      refine wpQuiet_nil ?_
                      intro w15 hw'
                      obtain ⟨⟨_, hx15⟩, rfl⟩ := hw'
                      have hX15 := hXr.trans hx15
                      clear q0 q1 hs HCX
                      by_cases hte : textE l split = 0
                      · obtain ⟨hvl, h56, hf, hz, hc⟩ := HTP.out hte
                        rw [hte] at HTX
                        rw [hvl] at HFR
                        have HFS := Lib.hid hf; have HFZ := Lib.hid hz
                        have HCO2 : Hid (∀ W iv fv tv, LexR W iv fv (freeL l) → Ints W tv (textL l split) → Calls Try.prog 21 #[.agg #[iv, fv], tv] W (RV (.tuple #[.int .i64 (countN (freeL l) (textL l split)), .int .i64 0]) W)) := Lib.hid (fun W iv fv tv h1 h2 => by have := Count_c iv fv tv (freeL l) _ W h1 h2; rw [hz] at this; exact this)
                        have HCS2 : Hid (∀ W iv fv tv sv, LexR W iv fv (freeL l) → Ints W tv (textL l split) → Ints W sv split → Calls Try.prog 26 #[.agg #[iv, fv], tv, sv] W (RV (.tuple #[.int .i64 (splitC (freeL l) (textL l split) split), .int .i64 0]) W)) := Lib.hid (fun W iv fv tv sv h1 h2 h3 => by have := CheckSplit_c iv fv tv sv (freeL l) _ _ W h1 h2 h3; rw [hf] at this; exact this)
                        have hcp : decide (0 < countN (freeL l) (textL l split)) = true := decide_eq_true hc
                        have HCS3 := Lib.hid (fun W (hW : Ext wA W) tv sv (h2 : Ints W tv (textL l split)) (h3 : Ints W sv split) => CheckSplit_c _ _ tv sv l _ _ W (HR.out.ext hW) h2 h3)
                        have hkk : (splitK l (textL l split) split == 0) = true ∨ ((splitK l (textL l split) split == 0) = false ∧ (splitK l (textL l split) split == 6) = true) := by rcases h56 with h | h <;> simp [h]
                        clear hte hvl h56 hf hz hc HTP
                        generalize splitK l (textL l split) split = sk at *
                        generalize splitC l (textL l split) split = sc at *
                        generalize splitC (freeL l) (textL l split) split = sf at *
                        generalize countN (freeL l) (textL l split) = cf9 at *
                        go_wp2_with fail
                        refine (HTX.out w15 hX15).mono ?_; rintro e w21 ⟨v21, rfl, hv21, hx21⟩
                        have hX21 := hX15.trans hx21
                        have HV21 : Hid (Ints w21 v21 (textL l split)) := Lib.hid hv21
                        clear hv21
                        go_wp2_with fail
                        refine (HCS3.out w21 hX21 v21 _ HV21.out (HIS.out w21 hX21)).mono ?_; rintro e w22 ⟨rfl, hx22⟩
                        have hX22 := hX21.trans hx22
                        go_wp2_with fail
                        refine (HFR.out w22 hX22).mono ?_; rintro e w23 ⟨iv23, fv23, rfl, ho23, hx23⟩
                        have hX23 := hX22.trans hx23
                        have HL23 := Lib.hid ho23.lexR
                        obtain ⟨a23, c23, rfl, _, _, _⟩ := ho23.lexR.i.open_
                        obtain ⟨b23, d23, rfl, _, _, _⟩ := Rows.open_ ho23.lexR.f
                        clear ho23
                        have hA23 := Ext.alloc w23 (.cells #[.slice a23 (freeL l).i.length c23, .slice b23 (freeL l).f.length d23] 25)
                        have f0 : ∀ W, Ext (w23.alloc (.cells #[.slice a23 (freeL l).i.length c23, .slice b23 (freeL l).f.length d23] 25)) W → W.cell? ⟨w23.heap.size, 0, none⟩ = some (.slice a23 (freeL l).i.length c23) := kept_alloc w23 _ _ rfl
                        have f1 : ∀ W, Ext (w23.alloc (.cells #[.slice a23 (freeL l).i.length c23, .slice b23 (freeL l).f.length d23] 25)) W → W.cell? ⟨w23.heap.size, 1, none⟩ = some (.slice b23 (freeL l).f.length d23) := kept_alloc w23 _ _ rfl
                        have HL24 := Lib.hid (HL23.out.ext hA23)
                        have hX24 := hX23.trans hA23
                        have hX24r := hX24
                        have H24r := Ext.refl (w23.alloc (.cells #[.slice a23 (freeL l).i.length c23, .slice b23 (freeL l).f.length d23] 25))
                        have hv24 := HV21.out.ext ((hx22.trans hx23).trans hA23)
                        obtain ⟨W24, hW24⟩ : ∃ W24, W24 = w23.alloc (.cells #[.slice a23 (freeL l).i.length c23, .slice b23 (freeL l).f.length d23] 25) := ⟨_, rfl⟩
                        rw [← hW24] at f0 f1 HL24 hX24 hv24
                        have HV24 := Lib.hid hv24
                        have HW24 := Lib.hid hW24; clear hW24 hA23 hv24 HL23
                        have H24 := Ext.refl W24
                        generalize hnL : (freeL l).i.length = nL at *
                        generalize hnF : (freeL l).f.length = nF at *
                        have HnL := Lib.hid hnL; have HnF := Lib.hid hnF
                        clear hnL hnF
                        go_wp2_with fail
                        rw [← HW24.out]
                        clear hX24r H24r
                        refine (HCS2.out W24 _ _ _ _ HL24.out HV24.out (HIS.out W24 hX24)).mono ?_; rintro e w25 ⟨rfl, hx25⟩
                        have hX25 := hX24.trans hx25
                        go_wp2_with fail
                        refine (HCO2.out w25 _ _ _ (HL24.out.ext hx25) (HV24.out.ext hx25)).mono ?_; rintro e w26 ⟨rfl, hx26⟩
                        have hX26 := hX25.trans hx26
                        rcases hkk with hk1 | ⟨hk1, hk2⟩
                        · go_wp2_with fail
                          go_ret
                          exact RV.bool rfl (hE0.trans hX26)
                        · go_wp2_with fail
                          go_ret
                          exact RV.bool rfl (hE0.trans hX26)
                      · have hL : textL l split = [] := by unfold textL; rw [if_neg hte]
                        rw [hL] at HTX
                        generalize textE l split = te at *
                        have hted : (te != 0) = true := by simpa using hte
                        clear hte hL HTP
                        go_wp2_with fail
                        refine (HTX.out w15 hX15).mono ?_; rintro e w21 ⟨v21, rfl, hv21, hx21⟩
                        have hX21 := hX15.trans hx21
                        obtain ⟨a21, c21, hv, _⟩ := Ints.open_ hv21
                        rw [List.length_nil] at hv; subst hv
                        clear hv21
                        go_wp2_with fail
                        go_ret
                        exact RV.bool rfl (hE0.trans hX21)
                    · have hd1 : decide (1 < n) = false := decide_eq_false hn1
                      clear hn1
                      go_wp2_with fail
                      refine wp_region_later (by kernel_rfl) (by kernel_rfl) ?_
                      repeat (go_big_quiet_step (fail))
                      refine wpQuiet_nil ?_
                      intro w15 hw'
                      obtain ⟨⟨_, hx15⟩, rfl⟩ := hw'
                      have hX15 := hXr.trans hx15
                      clear hs
                      by_cases hte : textE l split = 0
                      · obtain ⟨hvl, h56, hf, hz, hc⟩ := HTP.out hte
                        rw [hte] at HTX
                        rw [hvl] at HFR
                        have HFS := Lib.hid hf; have HFZ := Lib.hid hz
                        have HCO2 : Hid (∀ W iv fv tv, LexR W iv fv (freeL l) → Ints W tv (textL l split) → Calls Try.prog 21 #[.agg #[iv, fv], tv] W (RV (.tuple #[.int .i64 (countN (freeL l) (textL l split)), .int .i64 0]) W)) := Lib.hid (fun W iv fv tv h1 h2 => by have := Count_c iv fv tv (freeL l) _ W h1 h2; rw [hz] at this; exact this)
                        have HCS2 : Hid (∀ W iv fv tv sv, LexR W iv fv (freeL l) → Ints W tv (textL l split) → Ints W sv split → Calls Try.prog 26 #[.agg #[iv, fv], tv, sv] W (RV (.tuple #[.int .i64 (splitC (freeL l) (textL l split) split), .int .i64 0]) W)) := Lib.hid (fun W iv fv tv sv h1 h2 h3 => by have := CheckSplit_c iv fv tv sv (freeL l) _ _ W h1 h2 h3; rw [hf] at this; exact this)
                        have hcp : decide (0 < countN (freeL l) (textL l split)) = true := decide_eq_true hc
                        have HCS3 := Lib.hid (fun W (hW : Ext wA W) tv sv (h2 : Ints W tv (textL l split)) (h3 : Ints W sv split) => CheckSplit_c _ _ tv sv l _ _ W (HR.out.ext hW) h2 h3)
                        have hkk : (splitK l (textL l split) split == 0) = true ∨ ((splitK l (textL l split) split == 0) = false ∧ (splitK l (textL l split) split == 6) = true) := by rcases h56 with h | h <;> simp [h]
                        clear hte hvl h56 hf hz hc HTP
                        generalize splitK l (textL l split) split = sk at *
                        generalize splitC l (textL l split) split = sc at *
                        generalize splitC (freeL l) (textL l split) split = sf at *
                        generalize countN (freeL l) (textL l split) = cf9 at *
                        go_wp2_with fail
                        refine (HTX.out w15 hX15).mono ?_; rintro e w21 ⟨v21, rfl, hv21, hx21⟩
                        have hX21 := hX15.trans hx21
                        have HV21 : Hid (Ints w21 v21 (textL l split)) := Lib.hid hv21
                        clear hv21
                        go_wp2_with fail
                        refine (HCS3.out w21 hX21 v21 _ HV21.out (HIS.out w21 hX21)).mono ?_; rintro e w22 ⟨rfl, hx22⟩
                        have hX22 := hX21.trans hx22
                        go_wp2_with fail
                        refine (HFR.out w22 hX22).mono ?_; rintro e w23 ⟨iv23, fv23, rfl, ho23, hx23⟩
                        have hX23 := hX22.trans hx23
                        have HL23 := Lib.hid ho23.lexR
                        obtain ⟨a23, c23, rfl, _, _, _⟩ := ho23.lexR.i.open_
                        obtain ⟨b23, d23, rfl, _, _, _⟩ := Rows.open_ ho23.lexR.f
                        clear ho23
                        have hA23 := Ext.alloc w23 (.cells #[.slice a23 (freeL l).i.length c23, .slice b23 (freeL l).f.length d23] 25)
                        have f0 : ∀ W, Ext (w23.alloc (.cells #[.slice a23 (freeL l).i.length c23, .slice b23 (freeL l).f.length d23] 25)) W → W.cell? ⟨w23.heap.size, 0, none⟩ = some (.slice a23 (freeL l).i.length c23) := kept_alloc w23 _ _ rfl
                        have f1 : ∀ W, Ext (w23.alloc (.cells #[.slice a23 (freeL l).i.length c23, .slice b23 (freeL l).f.length d23] 25)) W → W.cell? ⟨w23.heap.size, 1, none⟩ = some (.slice b23 (freeL l).f.length d23) := kept_alloc w23 _ _ rfl
                        have HL24 := Lib.hid (HL23.out.ext hA23)
                        have hX24 := hX23.trans hA23
                        have hX24r := hX24
                        have H24r := Ext.refl (w23.alloc (.cells #[.slice a23 (freeL l).i.length c23, .slice b23 (freeL l).f.length d23] 25))
                        have hv24 := HV21.out.ext ((hx22.trans hx23).trans hA23)
                        obtain ⟨W24, hW24⟩ : ∃ W24, W24 = w23.alloc (.cells #[.slice a23 (freeL l).i.length c23, .slice b23 (freeL l).f.length d23] 25) := ⟨_, rfl⟩
                        rw [← hW24] at f0 f1 HL24 hX24 hv24
                        have HV24 := Lib.hid hv24
                        have HW24 := Lib.hid hW24; clear hW24 hA23 hv24 HL23
                        have H24 := Ext.refl W24
                        generalize hnL : (freeL l).i.length = nL at *
                        generalize hnF : (freeL l).f.length = nF at *
                        have HnL := Lib.hid hnL; have HnF := Lib.hid hnF
                        clear hnL hnF
                        go_wp2_with fail
                        rw [← HW24.out]
                        clear hX24r H24r
                        refine (HCS2.out W24 _ _ _ _ HL24.out HV24.out (HIS.out W24 hX24)).mono ?_; rintro e w25 ⟨rfl, hx25⟩
                        have hX25 := hX24.trans hx25
                        go_wp2_with fail
                        refine (HCO2.out w25 _ _ _ (HL24.out.ext hx25) (HV24.out.ext hx25)).mono ?_; rintro e w26 ⟨rfl, hx26⟩
                        have hX26 := hX25.trans hx26
                        rcases hkk with hk1 | ⟨hk1, hk2⟩
                        · go_wp2_with fail
                          go_ret
                          exact RV.bool rfl (hE0.trans hX26)
                        · go_wp2_with fail
                          go_ret
                          exact RV.bool rfl (hE0.trans hX26)
                      · have hL : textL l split = [] := by unfold textL; rw [if_neg hte]
                        rw [hL] at HTX
                        generalize textE l split = te at *
                        have hted : (te != 0) = true := by simpa using hte
                        clear hte hL HTP
                        go_wp2_with fail
                        refine (HTX.out w15 hX15).mono ?_; rintro e w21 ⟨v21, rfl, hv21, hx21⟩
                        have hX21 := hX15.trans hx21
                        obtain ⟨a21, c21, hv, _⟩ := Ints.open_ hv21
                        rw [List.length_nil] at hv; subst hv
                        clear hv21
                        go_wp2_with fail
                        go_ret
                        exact RV.bool rfl (hE0.trans hX21)
              · obtain ⟨h3, h50⟩ := HBG.out hak
                rw [h3] at HAL
                have hnb : decide (n ≤ 50) = false := decide_eq_false (by omega)
                clear hak h3 h50
                go_wp2_with fail
                refine (HAL.out w11 hX11).mono ?_; rintro e w12 ⟨v12, rfl, hv12, hx12⟩
                have hX12 := hX11.trans hx12
                clear hv12
                by_cases hte : textE l split = 0
                · obtain ⟨hvl, h56, hf, hz, hc⟩ := HTP.out hte
                  rw [hte] at HTX
                  rw [hvl] at HFR
                  have HFS := Lib.hid hf; have HFZ := Lib.hid hz
                  have HCO2 : Hid (∀ W iv fv tv, LexR W iv fv (freeL l) → Ints W tv (textL l split) → Calls Try.prog 21 #[.agg #[iv, fv], tv] W (RV (.tuple #[.int .i64 (countN (freeL l) (textL l split)), .int .i64 0]) W)) := Lib.hid (fun W iv fv tv h1 h2 => by have := Count_c iv fv tv (freeL l) _ W h1 h2; rw [hz] at this; exact this)
                  have HCS2 : Hid (∀ W iv fv tv sv, LexR W iv fv (freeL l) → Ints W tv (textL l split) → Ints W sv split → Calls Try.prog 26 #[.agg #[iv, fv], tv, sv] W (RV (.tuple #[.int .i64 (splitC (freeL l) (textL l split) split), .int .i64 0]) W)) := Lib.hid (fun W iv fv tv sv h1 h2 h3 => by have := CheckSplit_c iv fv tv sv (freeL l) _ _ W h1 h2 h3; rw [hf] at this; exact this)
                  have hcp : decide (0 < countN (freeL l) (textL l split)) = true := decide_eq_true hc
                  have HCS3 := Lib.hid (fun W (hW : Ext wA W) tv sv (h2 : Ints W tv (textL l split)) (h3 : Ints W sv split) => CheckSplit_c _ _ tv sv l _ _ W (HR.out.ext hW) h2 h3)
                  have hkk : (splitK l (textL l split) split == 0) = true ∨ ((splitK l (textL l split) split == 0) = false ∧ (splitK l (textL l split) split == 6) = true) := by rcases h56 with h | h <;> simp [h]
                  clear hte hvl h56 hf hz hc HTP
                  generalize splitK l (textL l split) split = sk at *
                  generalize splitC l (textL l split) split = sc at *
                  generalize splitC (freeL l) (textL l split) split = sf at *
                  generalize countN (freeL l) (textL l split) = cf9 at *
                  go_wp2_with fail
                  refine (HTX.out w12 hX12).mono ?_; rintro e w21 ⟨v21, rfl, hv21, hx21⟩
                  have hX21 := hX12.trans hx21
                  have HV21 : Hid (Ints w21 v21 (textL l split)) := Lib.hid hv21
                  clear hv21
                  go_wp2_with fail
                  refine (HCS3.out w21 hX21 v21 _ HV21.out (HIS.out w21 hX21)).mono ?_; rintro e w22 ⟨rfl, hx22⟩
                  have hX22 := hX21.trans hx22
                  go_wp2_with fail
                  refine (HFR.out w22 hX22).mono ?_; rintro e w23 ⟨iv23, fv23, rfl, ho23, hx23⟩
                  have hX23 := hX22.trans hx23
                  have HL23 := Lib.hid ho23.lexR
                  obtain ⟨a23, c23, rfl, _, _, _⟩ := ho23.lexR.i.open_
                  obtain ⟨b23, d23, rfl, _, _, _⟩ := Rows.open_ ho23.lexR.f
                  clear ho23
                  have hA23 := Ext.alloc w23 (.cells #[.slice a23 (freeL l).i.length c23, .slice b23 (freeL l).f.length d23] 25)
                  have f0 : ∀ W, Ext (w23.alloc (.cells #[.slice a23 (freeL l).i.length c23, .slice b23 (freeL l).f.length d23] 25)) W → W.cell? ⟨w23.heap.size, 0, none⟩ = some (.slice a23 (freeL l).i.length c23) := kept_alloc w23 _ _ rfl
                  have f1 : ∀ W, Ext (w23.alloc (.cells #[.slice a23 (freeL l).i.length c23, .slice b23 (freeL l).f.length d23] 25)) W → W.cell? ⟨w23.heap.size, 1, none⟩ = some (.slice b23 (freeL l).f.length d23) := kept_alloc w23 _ _ rfl
                  have HL24 := Lib.hid (HL23.out.ext hA23)
                  have hX24 := hX23.trans hA23
                  have hX24r := hX24
                  have H24r := Ext.refl (w23.alloc (.cells #[.slice a23 (freeL l).i.length c23, .slice b23 (freeL l).f.length d23] 25))
                  have hv24 := HV21.out.ext ((hx22.trans hx23).trans hA23)
                  obtain ⟨W24, hW24⟩ : ∃ W24, W24 = w23.alloc (.cells #[.slice a23 (freeL l).i.length c23, .slice b23 (freeL l).f.length d23] 25) := ⟨_, rfl⟩
                  rw [← hW24] at f0 f1 HL24 hX24 hv24
                  have HV24 := Lib.hid hv24
                  have HW24 := Lib.hid hW24; clear hW24 hA23 hv24 HL23
                  have H24 := Ext.refl W24
                  generalize hnL : (freeL l).i.length = nL at *
                  generalize hnF : (freeL l).f.length = nF at *
                  have HnL := Lib.hid hnL; have HnF := Lib.hid hnF
                  clear hnL hnF
                  go_wp2_with fail
                  rw [← HW24.out]
                  clear hX24r H24r
                  refine (HCS2.out W24 _ _ _ _ HL24.out HV24.out (HIS.out W24 hX24)).mono ?_; rintro e w25 ⟨rfl, hx25⟩
                  have hX25 := hX24.trans hx25
                  go_wp2_with fail
                  refine (HCO2.out w25 _ _ _ (HL24.out.ext hx25) (HV24.out.ext hx25)).mono ?_; rintro e w26 ⟨rfl, hx26⟩
                  have hX26 := hX25.trans hx26
                  rcases hkk with hk1 | ⟨hk1, hk2⟩
                  · go_wp2_with fail
                    go_ret
                    exact RV.bool rfl (hE0.trans hX26)
                  · go_wp2_with fail
                    go_ret
                    exact RV.bool rfl (hE0.trans hX26)
                · have hL : textL l split = [] := by unfold textL; rw [if_neg hte]
                  rw [hL] at HTX
                  generalize textE l split = te at *
                  have hted : (te != 0) = true := by simpa using hte
                  clear hte hL HTP
                  go_wp2_with fail
                  refine (HTX.out w12 hX12).mono ?_; rintro e w21 ⟨v21, rfl, hv21, hx21⟩
                  have hX21 := hX12.trans hx21
                  obtain ⟨a21, c21, hv, _⟩ := Ints.open_ hv21
                  rw [List.length_nil] at hv; subst hv
                  clear hv21
                  go_wp2_with fail
                  go_ret
                  exact RV.bool rfl (hE0.trans hX21)
        · have hlo : (leastO l text).2 = false := by unfold leastO; rw [if_neg h0]
          rw [hlo] at HLE
          generalize textK l text = k at *
          generalize countN l text = n at *
          generalize (leastO l text).1 = lo at *
          have hk : (k != 0) = true := by simpa using h0
          have hkk : (k == k) = true := by simp
          clear h0 hlo
          go_wp2_with fail
          refine (HCO.out w4 hX4).mono ?_; rintro e w5 ⟨rfl, hx5⟩
          have hX5 := hX4.trans hx5
          go_wp2_with fail
          refine (HLE.out w5 hX5).mono ?_; rintro e w6 ⟨rfl, hx6⟩
          have hX6 := hX5.trans hx6
          go_wp2_with fail
          go_ret
          exact RV.bool rfl (hE0.trans (hX6))
      · clear HLB
        go_wp2_with fail
        refine HLG.out.mono ?_; rintro e w4 ⟨rfl, hx4⟩
        have hX4 := hX3L.trans hx4
        go_wp2_with fail
        go_ret
        exact RV.bool rfl (hE0.trans hX4)
end Go.Proofs.Ytgpggmcjggpmpaa
