/- An item taken out of a row of one's own: slices.Delete; Without of the program. -/
import Derived.Test.YtgpggmcjggpmpaaTagDe
namespace Go.Proofs.Ytgpggmcjggpmpaa
open Go.RowKit Go.Shelf
set_option linter.unusedVariables false

theorem iCells_erase : ∀ (us : List Value) (es : List Itm) (i : Nat), us.length = es.length → iCells (us.eraseIdx i) (es.eraseIdx i) = (iCells us es).take (i * 3) ++ (iCells us es).drop ((i + 1) * 3)
  | [], [], i, _ => by simp [iCells]
  | [], _ :: _, _, h => by simp at h
  | _ :: _, [], _, h => by simp at h
  | u :: us, e :: es, 0, h => by simp [iCells]
  | u :: us, e :: es, i + 1, h => by
    have := iCells_erase us es i (by simpa using h)
    rw [List.eraseIdx_cons_succ, List.eraseIdx_cons_succ, iCells, iCells, this]
    rw [show (i + 1) * 3 = i * 3 + 1 + 1 + 1 by omega, show (i + 1 + 1) * 3 = (i + 1) * 3 + 1 + 1 + 1 by omega, show (i + 1) * 3 = i * 3 + 3 by omega]
    simp
theorem ggrow {a w w' : World} {r : Option Nat} (h : a.grownBy w r) (k : w.grownBy w' r) : a.grownBy w' r :=
  ⟨k.os.trans h.os, k.tape.trans h.tape, k.output.trans h.output, Nat.le_trans h.size k.size, fun x hx hne => (k.block x (Nat.lt_of_lt_of_le hx h.size) hne).trans (h.block x hx hne)⟩
theorem grownBy_setRow (w : World) (g : Nat) (cs : Array Value) : w.grownBy (w.setRow g cs) (some g) :=
  ⟨rfl, rfl, rfl, by simp, fun k hk hne => setRow_other w g k cs (fun e => hne (by rw [e]))⟩
theorem cut_list {X N R : List Value} {a b n : Nat} (hX : n ≤ X.length) (ha : a ≤ b) (hb : b ≤ n) (hN : N = (X.take n).drop b) : (X.take a ++ N ++ R).take (a + (n - b)) = (X.take n).take a ++ (X.take n).drop b := by
  subst hN
  have hl : (X.take a ++ (X.take n).drop b).length = a + (n - b) := by simp; omega
  rw [← hl, List.take_left, List.take_take, Nat.min_eq_left (by omega)]
theorem zeroItm (w : World) : (zeroValue 28).run Try.prog w = .ok (.agg #[.slice none 0 0, .int .i64 0, .int .i64 0]) w := by kernel_rfl
theorem run_clear_itm (w : World) (ty : TypeId) (g o c : Nat) (cur : Array Value) (hg : w.heap[g]? = some (.cells cur 28 (0, 0))) (hl : o + 3 ≤ cur.size) :
    (Builtin.clear_ #[22] ty #[.slice (some ⟨g, o, none⟩) 1 c]).run Try.prog w = .ok (.tuple #[]) (w.setRow g (cur.toList.take o ++ Value.slice none 0 0 :: Value.int .i64 0 :: Value.int .i64 0 :: cur.toList.drop (o + 3)).toArray) := by
  have hst := run_storeCells_at Try.prog g o 28 [.slice none 0 0, .int .i64 0, .int .i64 0] 0 cur w hg (by simpa using hl) (by simp [Value.oneCell'])
  simp only [Nat.add_zero] at hst
  have hz : (Builtin.zeroCells (Value.agg #[.slice none 0 0, .int .i64 0, .int .i64 0]).cells 1).toList = [.slice none 0 0, .int .i64 0, .int .i64 0] := by kernel_rfl
  simp [Builtin.clear_, run_underlying Try.underlying22, hz, hst]

theorem wpList_append_run {P : Program} {ops : Array Oper} {rest : List Oper} {o : Oper} {a : Act} {Q : Exit → Act → World → Prop} {W w' : World} {t : TypeId} {v u v' : Value}
    (hgd : o.guard = none) (s x : Operand) (ho : o.op = .call { callee := .builtin .append, args := #[s, x], argTypes := #[t, t] }) (hs : a.eval s = v) (hx : a.eval x = u)
    (hrun : (Builtin.append_ #[t, t] o.type #[v, u]).run P W = .ok v' w') (h : wpList P ops Q rest (a.put o.dst v') w') : wpList P ops Q (o :: rest) a W := by
  refine wpList_plain hgd fun _ hK => ?_
  unfold Oper.wp execOp
  simp only [ho, resolve, invoke, builtin, Sem.run_bind, Sem.run_pure, Result.andThen_ok, List.map_toArray, List.map_cons, List.map_nil, hs, hx, hrun]
  exact hK _ _ h

set_option maxHeartbeats 1000000 in
set_option maxRecDepth 100000 in
theorem delItm_c (g cap i B : Nat) (us : List Value) (es : List Itm) (w : World) (h : w.ownsRow B 28 3 (.slice (some ⟨g, 0, none⟩) es.length cap) es.length (iCells us es)) (hul : us.length = es.length) (h1 : ∀ u ∈ iCells us es, u.oneCell' = true) (hi : i < es.length) :
    Calls Try.prog 91 #[.slice (some ⟨g, 0, none⟩) es.length cap, .int .i64 i, .int .i64 (i + 1)] w
      fun e w' => e = .returned (.slice (some ⟨g, 0, none⟩) (es.length - 1) cap) ∧ w'.ownsRow B 28 3 (.slice (some ⟨g, 0, none⟩) (es.length - 1) cap) (es.length - 1) (iCells (us.eraseIdx i) (es.eraseIdx i)) ∧ w.grownBy w' (some g) := by
  obtain ⟨cur, hB, hg, hnc, hm, hcs, ht⟩ : ∃ cur, B ≤ g ∧ w.heap[g]? = some (.cells cur 28 (0, 0)) ∧ es.length ≤ cap ∧ cap ≤ maxLen ∧ cur.size = cap * 3 ∧ cur.toList.take (es.length * 3) = iCells us es := by
    rcases h.2 with ⟨h, _⟩ | ⟨g', cap', cur, hv, hg, hh, hnc, hm, hcs, ht⟩
    · cases h
    · injection hv with ha _ hc
      injection ha with ha; injection ha with ha _ _
      subst ha hc
      exact ⟨cur, hg, hh, hnc, hm, hcs, ht⟩
  unfold maxLen at hm
  have hne : ((i : Int) == (i : Int) + 1) = false := by rw [beq_eq_false_iff_ne]; omega
  have hic : i ≤ cap := by omega
  have hjc : i + 1 ≤ cap := by omega
  have hjl : i + 1 ≤ es.length := by omega
  have hjz : (0 : Int) ≤ (i : Int) + 1 := by omega
  have hjz2 : (i : Int) + 1 ≤ (es.length : Int) := by omega
  obtain ⟨news, hnews⟩ : ∃ news, news = (iCells us es).drop ((i + 1) * 3) := ⟨_, rfl⟩
  have hcl := iCells_len us es hul
  have hlen : news.length = (es.length - (i + 1)) * 3 := by rw [hnews, List.length_drop, hcl]; omega
  have hcell : ∀ (W : World), W.heap[g]? = some (.cells cur 28 (0, 0)) → ∀ j u, news[j]? = some u → W.cell? ⟨g, (i + 1) * 3 + j, none⟩ = some u := fun W hW j u hu => by
    have hj : j < news.length := (List.getElem?_eq_some_iff.1 hu).1
    rw [hnews, List.getElem?_drop, ← ht, List.getElem?_take, if_pos (by omega)] at hu
    simpa [World.cell?, hW] using hu
  obtain ⟨A, hA, hsrc⟩ : ∃ A : Addr, (if cap = i + 1 then some (⟨g, 0, none⟩ : Addr) else some ⟨g, (i + 1) * 3, none⟩) = some A ∧ Hid (∀ (W : World), W.heap[g]? = some (.cells cur 28 (0, 0)) → ∀ j u, news[j]? = some u → W.cell? (A.add j) = some u) := by
    by_cases hc : cap = i + 1
    · refine ⟨⟨g, 0, none⟩, by simp [hc], fun W hW t u hu => ?_⟩
      have h0 : news.length = 0 := by rw [hlen]; omega
      rw [List.length_eq_zero_iff.1 h0] at hu
      simp at hu
    · refine ⟨⟨g, (i + 1) * 3, none⟩, by simp [hc], fun W hW t u hu => ?_⟩
      rw [addr_add]; exact hcell W hW t u hu
  have h1n : ∀ u ∈ news, u.oneCell' = true := fun u hu => by
    rw [hnews] at hu
    exact h1 u (List.mem_of_mem_drop hu)
  have H1 := Lib.hid h1n; have HL := Lib.hid hlen; have HN := Lib.hid hnews; have HG := Lib.hid hg; have HT := Lib.hid ht; have HCL := Lib.hid hcl; have HUL := Lib.hid hul; have HCS := Lib.hid hcs
  have HBB := Lib.hid hB; have HNC := Lib.hid hnc; have HMM := Lib.hid hm
  clear h1 h1n hlen hnews hg ht hcl hcell hul hcs
  clear h
  go_enter Try.func91, Try.ntmps91
  go_wp2_with fail
  refine wp_region_peek (fun _ => True) (fun _ => True) [] [.peek 0, .peek 1, .peek 2, .peek 3, .peek 4, .peek 5, .go 6, .go 7] (by kernel_rfl) (by kernel_rfl) (by intro c a d v w h; cases d <;> exact h) ?_
  have T := True.intro
  (refine wpPeek_peek rfl ‹_› (fun K hK => ?_); go_simp; first | (refine hK _ ?_; clear hK K) | (refine ⟨_, fun _ => rfl, hK _ ?_⟩; clear hK K))
  (refine wpPeek_peek rfl ‹_› (fun K hK => ?_); go_simp; first | (refine hK _ ?_; clear hK K) | (refine ⟨_, fun _ => rfl, hK _ ?_⟩; clear hK K))
  (refine wpPeek_peek rfl ‹_› (fun K hK => ?_); go_simp; first | (refine hK _ ?_; clear hK K) | (refine ⟨_, fun _ => rfl, hK _ ?_⟩; clear hK K))
  (refine wpPeek_peek rfl ‹_› (fun K hK => ?_); go_simp; first | (refine hK _ ?_; clear hK K) | (refine ⟨_, fun _ => rfl, hK _ ?_⟩; clear hK K))
  (refine wpPeek_peek rfl ‹_› (fun K hK => ?_); go_simp; first | (refine hK _ ?_; clear hK K) | (refine ⟨_, fun _ => rfl, hK _ ?_⟩; clear hK K))
  (refine wpPeek_peek rfl ‹_› (fun K hK => ?_); go_simp; first | (refine hK _ ?_; clear hK K) | (refine ⟨_, fun _ => rfl, hK _ ?_⟩; clear hK K))
  have hgd : ({ w with drawn := w.drawn + 1 } : World).heap[g]? = some (.cells cur 28 (0, 0)) := HG.out
  have hgr0 : w.grownBy { w with drawn := w.drawn + 1 } (some g) := ⟨rfl, rfl, rfl, Nat.le_refl _, fun _ _ _ => rfl⟩
  generalize { w with drawn := w.drawn + 1 } = W1 at *
  refine wpPeek_go rfl rfl (fun K hK => ?_)
  obtain ⟨i0, hi0, hz0, hz1, hz2⟩ := info_parts elItems.info
  have hrun := run_append_room (P := Try.prog) W1 22 22 28 i0 elItems.ht hi0 g i cap cur hgd A (es.length - (i + 1)) (cap - (i + 1)) news (by rw [hz1]; exact HL.out) (hsrc.out W1 hgd) H1.out (by omega) (by rw [hz1, HL.out, HCS.out]; omega)
  rw [hz1, HL.out, show i + (es.length - (i + 1)) = es.length - 1 by omega] at hrun
  refine wpList_append_run rfl _ _ rfl rfl rfl hrun ?_
  clear hrun hi0 hz0 hz1 hz2
  have hsz : (cur.toList.take (i * 3) ++ news ++ cur.toList.drop (i * 3 + (es.length - (i + 1)) * 3)).toArray.size = cap * 3 := by
    have h1 := HL.out; have h2 := HCS.out
    simp only [List.size_toArray, List.length_append, List.length_take, List.length_drop, Array.length_toList, h1, h2]; omega
  have hg2 : (W1.setRow g (cur.toList.take (i * 3) ++ news ++ cur.toList.drop (i * 3 + (es.length - (i + 1)) * 3)).toArray).heap[g]? = some (.cells _ 28 (0, 0)) := setRow_heap W1 g cur _ _ _ hgd
  have hgr1 := ggrow hgr0 (grownBy_setRow W1 g (cur.toList.take (i * 3) ++ news ++ cur.toList.drop (i * 3 + (es.length - (i + 1)) * 3)).toArray)
  have htk : (cur.toList.take (i * 3) ++ news ++ cur.toList.drop (i * 3 + (es.length - (i + 1)) * 3)).take ((es.length - 1) * 3) = (iCells us es).take (i * 3) ++ (iCells us es).drop ((i + 1) * 3) := by
    have h2 : cur.toList.length = cap * 3 := by simp [HCS.out]
    have := cut_list (X := cur.toList) (N := news) (R := cur.toList.drop (i * 3 + (es.length - (i + 1)) * 3)) (a := i * 3) (b := (i + 1) * 3) (n := es.length * 3) (by omega) (by omega) (by omega) (by rw [HN.out, HT.out])
    rw [HT.out] at this
    rw [show (es.length - 1) * 3 = i * 3 + (es.length * 3 - (i + 1) * 3) by omega]; exact this
  obtain ⟨cur2, hc2⟩ : ∃ cur2, cur2 = (cur.toList.take (i * 3) ++ news ++ cur.toList.drop (i * 3 + (es.length - (i + 1)) * 3)).toArray := ⟨_, rfl⟩
  have htk2 : cur2.toList.take ((es.length - 1) * 3) = (iCells us es).take (i * 3) ++ (iCells us es).drop ((i + 1) * 3) := by rw [hc2]; exact htk
  rw [← hc2] at hsz hg2 hgr1 ⊢
  have HT2 := Lib.hid htk2; have HSZ := Lib.hid hsz
  generalize W1.setRow g cur2 = W2 at *
  clear htk htk2 hc2 hgr0 hgd hA hsz
  have hclr : ∀ ty, (Builtin.clear_ #[22] ty #[.slice (some ⟨g, (es.length - 1) * 3, none⟩) (es.length - (es.length - 1)) (cap - (es.length - 1))]).run Try.prog W2 = .ok (.tuple #[]) (W2.setRow g (cur2.toList.take ((es.length - 1) * 3) ++ Value.slice none 0 0 :: Value.int .i64 0 :: Value.int .i64 0 :: cur2.toList.drop ((es.length - 1) * 3 + 3)).toArray) :=
    fun ty => by rw [show es.length - (es.length - 1) = 1 by omega]; exact run_clear_itm W2 ty g ((es.length - 1) * 3) _ cur2 hg2 (by have := HSZ.out; omega)
  have hg3 : (W2.setRow g (cur2.toList.take ((es.length - 1) * 3) ++ Value.slice none 0 0 :: Value.int .i64 0 :: Value.int .i64 0 :: cur2.toList.drop ((es.length - 1) * 3 + 3)).toArray).heap[g]? = some (.cells _ 28 (0, 0)) := setRow_heap W2 g cur2 _ _ _ hg2
  have hgr2 := ggrow hgr1 (grownBy_setRow W2 g (cur2.toList.take ((es.length - 1) * 3) ++ Value.slice none 0 0 :: Value.int .i64 0 :: Value.int .i64 0 :: cur2.toList.drop ((es.length - 1) * 3 + 3)).toArray)
  have hlc : (iCells (us.eraseIdx i) (es.eraseIdx i)).length = (es.length - 1) * 3 := by
    rw [iCells_len _ _ (by rw [List.length_eraseIdx, List.length_eraseIdx, HUL.out]), List.length_eraseIdx_of_lt hi]
  have hfin := (⟨hlc, .inr ⟨g, cap, _, rfl, HBB.out, hg3, by have := HNC.out; omega, by have := HMM.out; unfold maxLen; omega, by have := HSZ.out; simp; omega, by
    rw [iCells_erase us es i HUL.out, ← HT2.out]
    have := HSZ.out
    rw [List.take_append_of_le_length (by simp; omega), List.take_take, Nat.min_self]⟩⟩ : World.ownsRow _ B 28 3 (.slice (some ⟨g, 0, none⟩) (es.length - 1) cap) (es.length - 1) (iCells (us.eraseIdx i) (es.eraseIdx i)))
  have HFIN := Lib.hid (And.intro hfin hgr2)
  clear hfin hgr2 hg3 hg2 hgr1
  go_wp2_with fail
  refine ⟨KeepE.of (fun _ => trivial) (fun _ => trivial), ?_⟩
  refine wpPeek_go rfl rfl (fun K hK => ?_)
  go_wp2_with fail
  refine ⟨KeepE.of (fun _ => trivial) (fun _ => trivial), ?_⟩
  refine wpPeek_nil ?_
  go_wp2_with fail
  go_ret
  exact ⟨rfl, HFIN.out⟩
end Go.Proofs.Ytgpggmcjggpmpaa
