/- An entry taken out of a row of one's own; slices.Delete at entries. -/
import Derived.Test.YtejklkhaplkblaaRSwap
namespace Go.Proofs.Ytejklkhaplkblaa
open Go.RowKit Go.Shelf
set_option linter.unusedVariables false

theorem eCells_erase : ∀ (us : List Value) (es : List Ent) (i : Nat), us.length = es.length → eCells (us.eraseIdx i) (es.eraseIdx i) = (eCells us es).take (i * 2) ++ (eCells us es).drop ((i + 1) * 2)
  | [], [], i, _ => by simp [eCells]
  | [], _ :: _, _, h => by simp at h
  | _ :: _, [], _, h => by simp at h
  | u :: us, e :: es, 0, h => by simp [eCells]
  | u :: us, e :: es, i + 1, h => by
    have := eCells_erase us es i (by simpa using h)
    rw [List.eraseIdx_cons_succ, List.eraseIdx_cons_succ, eCells, eCells, this]
    rw [show (i + 1) * 2 = i * 2 + 1 + 1 by omega, show (i + 1 + 1) * 2 = (i + 1) * 2 + 1 + 1 by omega, show (i + 1) * 2 = i * 2 + 2 by omega]
    simp
theorem AllO.erase {w : World} {B : Nat} {us : List Value} {ls : List (List Int)} (h : AllO w B us ls) (i : Nat) : AllO w B (us.eraseIdx i) (ls.eraseIdx i) := by
  obtain ⟨h1, h2⟩ := h
  refine ⟨by rw [List.length_eraseIdx, List.length_eraseIdx, h1], fun j x hx => ?_⟩
  rw [List.getElem?_eraseIdx] at hx ⊢
  split at hx
  · rename_i hj; rw [if_pos hj]; exact h2 j x hx
  · rename_i hj; rw [if_neg hj]; exact h2 (j + 1) x hx
theorem map_erase : ∀ (es : List Ent) (i : Nat), (es.eraseIdx i).map Prod.fst = (es.map Prod.fst).eraseIdx i
  | [], i => by simp
  | e :: es, 0 => by simp
  | e :: es, i + 1 => by simp [map_erase es i]
theorem ent_erase (es : List Ent) (k i : Nat) : ent (es.eraseIdx k) i = if i < k then ent es i else ent es (i + 1) := by
  unfold ent; rw [List.getElem?_eraseIdx]; split <;> rfl
/-- the row laid open -/
theorem OEnts.open_ {w : World} {B g n cap : Nat} {es : List Ent} (h : OEnts w B (.slice (some ⟨g, 0, none⟩) n cap) es) :
    ∃ us cur, B ≤ g ∧ w.heap[g]? = some (.cells cur 53 (0, 0)) ∧ n = es.length ∧ n ≤ cap ∧ cap ≤ maxLen ∧ cur.size = cap * 2 ∧ cur.toList.take (n * 2) = eCells us es ∧ AllO w B us (es.map Prod.fst) := by
  obtain ⟨us, ho, hal⟩ := h
  rcases ho.2 with ⟨h, _⟩ | ⟨g', cap', cur, hv, hg, hh, hnc, hm, hcs, ht⟩
  · cases h
  · injection hv with ha hn hc
    injection ha with ha; injection ha with ha _ _
    subst ha hc hn
    exact ⟨us, cur, hg, hh, rfl, hnc, hm, hcs, ht, hal⟩
theorem OInts.kept2 {w w' : World} {B B' g : Nat} {u : Value} {l : List Int} (h : OInts 3 w B u l) (hg : w.grownBy w' (some g)) (hr : RowE w B' g) : OInts 3 w' B u l := h.kept hg hr.noInts
theorem ggrow {a w w' : World} {r : Option Nat} (h : a.grownBy w r) (k : w.grownBy w' r) : a.grownBy w' r :=
  ⟨k.os.trans h.os, k.tape.trans h.tape, k.output.trans h.output, Nat.le_trans h.size k.size, fun x hx hne => (k.block x (Nat.lt_of_lt_of_le hx h.size) hne).trans (h.block x hx hne)⟩
theorem grownBy_setRow (w : World) (g : Nat) (cs : Array Value) : w.grownBy (w.setRow g cs) (some g) :=
  ⟨rfl, rfl, rfl, by simp, fun k hk hne => setRow_other w g k cs (fun e => hne (by rw [e]))⟩
/-- what append and clear leave of the row -/
theorem OEnts.cut {w w' : World} {B g n cap : Nat} {es : List Ent} {i : Nat} (h : OEnts w B (.slice (some ⟨g, 0, none⟩) n cap) es) (hi : i < n) {cur' : Array Value} {us : List Value}
    (hal : AllO w B us (es.map Prod.fst)) (hgr : w.grownBy w' (some g)) (hc : w'.heap[g]? = some (.cells cur' 53 (0, 0))) (hs : cur'.size = cap * 2) (ht : cur'.toList.take ((n - 1) * 2) = (eCells us es).take (i * 2) ++ (eCells us es).drop ((i + 1) * 2)) :
    OEnts w' B (.slice (some ⟨g, 0, none⟩) (n - 1) cap) (es.eraseIdx i) := by
  have hrow := h.row
  obtain ⟨_, _, hB, _, hn, hnc, hm, _⟩ := h.open_
  have hul : us.length = es.length := by rw [hal.1]; simp
  refine ⟨us.eraseIdx i, ⟨?_, .inr ⟨g, cap, cur', ?_, hB, hc, by rw [List.length_eraseIdx_of_lt (by omega)]; omega, hm, hs, ?_⟩⟩, ?_⟩
  · rw [eCells_len _ _ (by rw [List.length_eraseIdx, List.length_eraseIdx, hul])]
  · rw [List.length_eraseIdx_of_lt (by omega), hn]
  · rw [List.length_eraseIdx_of_lt (by omega), ← hn, ht, eCells_erase us es i hul]
  · rw [map_erase]
    exact (hal.kept hgr hrow.noInts).erase i
theorem cut_list {X N R : List Value} {a b n : Nat} (hX : n ≤ X.length) (ha : a ≤ b) (hb : b ≤ n) (hN : N = (X.take n).drop b) : (X.take a ++ N ++ R).take (a + (n - b)) = (X.take n).take a ++ (X.take n).drop b := by
  subst hN
  have hl : (X.take a ++ (X.take n).drop b).length = a + (n - b) := by simp; omega
  rw [← hl, List.take_left, List.take_take, Nat.min_eq_left (by omega)]
theorem zeroEnt (w : World) : (zeroValue 53).run Try.prog w = .ok (.agg #[.slice none 0 0, .int .i64 0]) w := by kernel_rfl
theorem run_clear_ent (w : World) (ty : TypeId) (g o c : Nat) (cur : Array Value) (hg : w.heap[g]? = some (.cells cur 53 (0, 0))) (hl : o + 2 ≤ cur.size) :
    (Builtin.clear_ #[23] ty #[.slice (some ⟨g, o, none⟩) 1 c]).run Try.prog w = .ok (.tuple #[]) (w.setRow g (cur.toList.take o ++ Value.slice none 0 0 :: Value.int .i64 0 :: cur.toList.drop (o + 2)).toArray) := by
  have hst := run_storeCells_at Try.prog g o 53 [.slice none 0 0, .int .i64 0] 0 cur w hg (by simpa using hl) (by simp [Value.oneCell'])
  simp only [Nat.add_zero] at hst
  have hz : (Builtin.zeroCells (Value.agg #[.slice none 0 0, .int .i64 0]).cells 1).toList = [.slice none 0 0, .int .i64 0] := by kernel_rfl
  simp [Builtin.clear_, run_underlying Try.underlying23, hz, hst]

theorem wpList_append_run {P : Program} {ops : Array Oper} {rest : List Oper} {o : Oper} {a : Act} {Q : Exit → Act → World → Prop} {W w' : World} {t : TypeId} {v u v' : Value}
    (hgd : o.guard = none) (s x : Operand) (ho : o.op = .call { callee := .builtin .append, args := #[s, x], argTypes := #[t, t] }) (hs : a.eval s = v) (hx : a.eval x = u)
    (hrun : (Builtin.append_ #[t, t] o.type #[v, u]).run P W = .ok v' w') (h : wpList P ops Q rest (a.put o.dst v') w') : wpList P ops Q (o :: rest) a W := by
  refine wpList_plain hgd fun _ hK => ?_
  unfold Oper.wp execOp
  simp only [ho, resolve, invoke, builtin, Sem.run_bind, Sem.run_pure, Result.andThen_ok, List.map_toArray, List.map_cons, List.map_nil, hs, hx, hrun]
  exact hK _ _ h

set_option maxHeartbeats 1000000 in
set_option maxRecDepth 100000 in
theorem delete_c (g n cap i B : Nat) (es : List Ent) (w : World) (h : OEnts w B (.slice (some ⟨g, 0, none⟩) n cap) es) (hi : i < n) :
    Calls Try.prog 70 #[.slice (some ⟨g, 0, none⟩) n cap, .int .i64 i, .int .i64 (i + 1)] w
      fun e w' => e = .returned (.slice (some ⟨g, 0, none⟩) (n - 1) cap) ∧ OEnts w' B (.slice (some ⟨g, 0, none⟩) (n - 1) cap) (es.eraseIdx i) ∧ w.grownBy w' (some g) := by
  obtain ⟨us, cur, hB, hg, rfl, hnc, hm, hcs, ht, hal⟩ := h.open_
  unfold maxLen at hm
  have hne : ((i : Int) == (i : Int) + 1) = false := by rw [beq_eq_false_iff_ne]; omega
  have hic : i ≤ cap := by omega
  have hjc : i + 1 ≤ cap := by omega
  have hjl : i + 1 ≤ es.length := by omega
  have hjz : (0 : Int) ≤ (i : Int) + 1 := by omega
  have hjz2 : (i : Int) + 1 ≤ (es.length : Int) := by omega
  obtain ⟨news, hnews⟩ : ∃ news, news = (eCells us es).drop ((i + 1) * 2) := ⟨_, rfl⟩
  have hul : us.length = es.length := by rw [hal.1]; simp
  have hcl := eCells_len us es hul
  have hlen : news.length = (es.length - (i + 1)) * 2 := by rw [hnews, List.length_drop, hcl]; omega
  have hcell : ∀ (W : World), W.heap[g]? = some (.cells cur 53 (0, 0)) → ∀ j u, news[j]? = some u → W.cell? ⟨g, (i + 1) * 2 + j, none⟩ = some u := fun W hW j u hu => by
    have hj : j < news.length := (List.getElem?_eq_some_iff.1 hu).1
    rw [hnews, List.getElem?_drop, ← ht, List.getElem?_take, if_pos (by omega)] at hu
    simpa [World.cell?, hW] using hu
  obtain ⟨A, hA, hsrc⟩ : ∃ A : Addr, (if cap = i + 1 then some (⟨g, 0, none⟩ : Addr) else some ⟨g, (i + 1) * 2, none⟩) = some A ∧ Hid (∀ (W : World), W.heap[g]? = some (.cells cur 53 (0, 0)) → ∀ j u, news[j]? = some u → W.cell? (A.add j) = some u) := by
    by_cases hc : cap = i + 1
    · refine ⟨⟨g, 0, none⟩, by simp [hc], fun W hW t u hu => ?_⟩
      have h0 : news.length = 0 := by rw [hlen]; omega
      rw [List.length_eq_zero_iff.1 h0] at hu
      simp at hu
    · refine ⟨⟨g, (i + 1) * 2, none⟩, by simp [hc], fun W hW t u hu => ?_⟩
      rw [addr_add]; exact hcell W hW t u hu
  have h1 : ∀ u ∈ news, u.oneCell' = true := fun u hu => by
    rw [hnews] at hu
    obtain ⟨k, hk, he⟩ := List.mem_iff_getElem.1 (List.mem_of_mem_drop hu)
    have hk2 : (eCells us es)[k]? = some u := by rw [List.getElem?_eq_getElem hk, he]
    rcases Nat.mod_two_eq_zero_or_one k with h | h
    · obtain ⟨q, rfl⟩ : ∃ q, k = q * 2 := ⟨k / 2, by omega⟩
      rw [eCells_spec us es q hul] at hk2
      have := hal.2 q u hk2
      obtain ⟨_, _, rfl, _⟩ := this.ints; rfl
    · obtain ⟨q, rfl⟩ : ∃ q, k = q * 2 + 1 := ⟨k / 2, by omega⟩
      rw [eCells_form us es q hul (by omega)] at hk2
      injection hk2 with hk2; rw [← hk2]; rfl
  have H1 := Lib.hid h1; have HL := Lib.hid hlen; have HN := Lib.hid hnews; have HG := Lib.hid hg; have HT := Lib.hid ht; have HAL := Lib.hid hal; have HCL := Lib.hid hcl; have HUL := Lib.hid hul; have HCS := Lib.hid hcs
  clear h1 hlen hnews hg ht hal hcl hcell hul hcs
  have H := Lib.hid h; clear h
  go_enter Try.func70, Try.ntmps70
  go_wp2_with fail
  refine wp_region_peek (fun _ => True) (fun _ => True) [] [.peek 0, .peek 1, .peek 2, .peek 3, .peek 4, .peek 5, .go 6, .go 7] (by kernel_rfl) (by kernel_rfl) (by intro c a d v w h; cases d <;> exact h) ?_
  have T := True.intro
  (refine wpPeek_peek rfl ‹_› (fun K hK => ?_); go_simp; first | (refine hK _ ?_; clear hK K) | (refine ⟨_, fun _ => rfl, hK _ ?_⟩; clear hK K))
  (refine wpPeek_peek rfl ‹_› (fun K hK => ?_); go_simp; first | (refine hK _ ?_; clear hK K) | (refine ⟨_, fun _ => rfl, hK _ ?_⟩; clear hK K))
  (refine wpPeek_peek rfl ‹_› (fun K hK => ?_); go_simp; first | (refine hK _ ?_; clear hK K) | (refine ⟨_, fun _ => rfl, hK _ ?_⟩; clear hK K))
  (refine wpPeek_peek rfl ‹_› (fun K hK => ?_); go_simp; first | (refine hK _ ?_; clear hK K) | (refine ⟨_, fun _ => rfl, hK _ ?_⟩; clear hK K))
  (refine wpPeek_peek rfl ‹_› (fun K hK => ?_); go_simp; first | (refine hK _ ?_; clear hK K) | (refine ⟨_, fun _ => rfl, hK _ ?_⟩; clear hK K))
  (refine wpPeek_peek rfl ‹_› (fun K hK => ?_); go_simp; first | (refine hK _ ?_; clear hK K) | (refine ⟨_, fun _ => rfl, hK _ ?_⟩; clear hK K))
  have hgd : ({ w with drawn := w.drawn + 1 } : World).heap[g]? = some (.cells cur 53 (0, 0)) := HG.out
  have hgr0 : w.grownBy { w with drawn := w.drawn + 1 } (some g) := ⟨rfl, rfl, rfl, Nat.le_refl _, fun _ _ _ => rfl⟩
  generalize { w with drawn := w.drawn + 1 } = W1 at *
  refine wpPeek_go rfl rfl (fun K hK => ?_)
  obtain ⟨i0, hi0, hz0, hz1, hz2⟩ := info_parts elEnts.info
  have hrun := run_append_room (P := Try.prog) W1 23 23 53 i0 elEnts.ht hi0 g i cap cur hgd A (es.length - (i + 1)) (cap - (i + 1)) news (by rw [hz1]; exact HL.out) (hsrc.out W1 hgd) H1.out (by omega) (by rw [hz1, HL.out, HCS.out]; omega)
  rw [hz1, HL.out, show i + (es.length - (i + 1)) = es.length - 1 by omega] at hrun
  refine wpList_append_run rfl _ _ rfl rfl rfl hrun ?_
  clear hrun hi0 hz0 hz1 hz2
  have hsz : (cur.toList.take (i * 2) ++ news ++ cur.toList.drop (i * 2 + (es.length - (i + 1)) * 2)).toArray.size = cap * 2 := by
    have h1 := HL.out; have h2 := HCS.out
    simp only [List.size_toArray, List.length_append, List.length_take, List.length_drop, Array.length_toList, h1, h2]; omega
  have hg2 : (W1.setRow g (cur.toList.take (i * 2) ++ news ++ cur.toList.drop (i * 2 + (es.length - (i + 1)) * 2)).toArray).heap[g]? = some (.cells _ 53 (0, 0)) := setRow_heap W1 g cur _ _ _ hgd
  have hgr1 := ggrow hgr0 (grownBy_setRow W1 g (cur.toList.take (i * 2) ++ news ++ cur.toList.drop (i * 2 + (es.length - (i + 1)) * 2)).toArray)
  have htk : (cur.toList.take (i * 2) ++ news ++ cur.toList.drop (i * 2 + (es.length - (i + 1)) * 2)).take ((es.length - 1) * 2) = (eCells us es).take (i * 2) ++ (eCells us es).drop ((i + 1) * 2) := by
    have h2 : cur.toList.length = cap * 2 := by simp [HCS.out]
    have := cut_list (X := cur.toList) (N := news) (R := cur.toList.drop (i * 2 + (es.length - (i + 1)) * 2)) (a := i * 2) (b := (i + 1) * 2) (n := es.length * 2) (by omega) (by omega) (by omega) (by rw [HN.out, HT.out])
    rw [HT.out] at this
    rw [show (es.length - 1) * 2 = i * 2 + (es.length * 2 - (i + 1) * 2) by omega]; exact this
  obtain ⟨cur2, hc2⟩ : ∃ cur2, cur2 = (cur.toList.take (i * 2) ++ news ++ cur.toList.drop (i * 2 + (es.length - (i + 1)) * 2)).toArray := ⟨_, rfl⟩
  have htk2 : cur2.toList.take ((es.length - 1) * 2) = (eCells us es).take (i * 2) ++ (eCells us es).drop ((i + 1) * 2) := by rw [hc2]; exact htk
  rw [← hc2] at hsz hg2 hgr1 ⊢
  have HT2 := Lib.hid htk2; have HSZ := Lib.hid hsz
  generalize W1.setRow g cur2 = W2 at *
  clear htk htk2 hc2 hgr0 hgd hA hsz
  have hclr : ∀ ty, (Builtin.clear_ #[23] ty #[.slice (some ⟨g, (es.length - 1) * 2, none⟩) (es.length - (es.length - 1)) (cap - (es.length - 1))]).run Try.prog W2 = .ok (.tuple #[]) (W2.setRow g (cur2.toList.take ((es.length - 1) * 2) ++ Value.slice none 0 0 :: Value.int .i64 0 :: cur2.toList.drop ((es.length - 1) * 2 + 2)).toArray) :=
    fun ty => by rw [show es.length - (es.length - 1) = 1 by omega]; exact run_clear_ent W2 ty g ((es.length - 1) * 2) _ cur2 hg2 (by have := HSZ.out; omega)
  have hg3 : (W2.setRow g (cur2.toList.take ((es.length - 1) * 2) ++ Value.slice none 0 0 :: Value.int .i64 0 :: cur2.toList.drop ((es.length - 1) * 2 + 2)).toArray).heap[g]? = some (.cells _ 53 (0, 0)) := setRow_heap W2 g cur2 _ _ _ hg2
  have hgr2 := ggrow hgr1 (grownBy_setRow W2 g (cur2.toList.take ((es.length - 1) * 2) ++ Value.slice none 0 0 :: Value.int .i64 0 :: cur2.toList.drop ((es.length - 1) * 2 + 2)).toArray)
  have hfin := OEnts.cut H.out hi HAL.out hgr2 hg3 (by have := HSZ.out; simp; omega) (by
    rw [← HT2.out]
    have := HSZ.out
    rw [List.take_append_of_le_length (by simp; omega), List.take_take, Nat.min_self])
  have HFIN := Lib.hid (And.intro hfin hgr2)
  clear hfin hgr2 hg3 hg2 hgr1
  go_wp2_with fail
  refine ⟨KeepE.of (fun _ => trivial) (fun _ => trivial), ?_⟩
  refine wpPeek_go rfl rfl (fun K hK => ?_)
  go_wp2_with fail
  refine ⟨KeepE.of (fun _ => trivial) (fun _ => trivial), ?_⟩
  refine wpPeek_nil ?_
  go_wp2_with fail
  go_ret
  exact ⟨rfl, HFIN.out⟩
end Go.Proofs.Ytejklkhaplkblaa
