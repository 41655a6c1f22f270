/- Concat; a rule applied at a place; both packages. -/
import Derived.Test.YtpmlcfgbfhgpgaaGreatDoorRulD
import Derived.Lib.AppendZerosOnto
namespace Go.Proofs.YtpmlcfgbfhgpgaaGreatDoor
open Go.RowKit Go.Shelf
set_option linter.unusedVariables false
theorem wpList_append_run {P : Program} {ops : Array Oper} {rest : List Oper} {o : Oper} {a : Act} {Q : Exit → Act → World → Prop} {W w' : World} {t t2 : TypeId} {v u v' : Value}
  (hgd : o.guard = none) (s x : Operand) (ho : o.op = .call { callee := .builtin .append, args := #[s, x], argTypes := #[t, t2] }) (hs : a.eval s = v) (hx : a.eval x = u)
  (hrun : (Builtin.append_ #[t, t2] o.type #[v, u]).run P W = .ok v' w') (h : wpList P ops Q rest (a.put o.dst v') w') : wpList P ops Q (o :: rest) a W := by
 refine wpList_plain hgd fun _ hK => ?_
 unfold Oper.wp execOp
 simp only [ho, resolve, invoke, builtin, Sem.run_bind, Sem.run_pure, Result.andThen_ok, List.map_toArray, List.map_cons, List.map_nil, hs, hx, hrun]
 exact hK _ _ h
set_option maxHeartbeats 1000000 in
set_option maxRecDepth 100000 in
theorem growNil_c (n : Nat) (w : World) (hn : n ≤ 100000) : Calls Tryz.prog 195 #[.slice none 0 0, .int .i64 n] w (ROInts 3 [] w) := by
 by_cases h0 : n = 0
 ·subst h0
  go_enter Tryz.func195, Tryz.ntmps195
  go_wp2_with fail
  go_ret
  exact ⟨_, rfl, OInts.nil _ _ _, Ext.refl _⟩
 ·obtain ⟨i0, hi0, hz0, hz1, hz2⟩ := info_parts elInts.info
  have hold : (Builtin.firstCells i0.size 0 (.slice none 0 0)).run Tryz.prog w.drew = .ok ([] : List Value).toArray w.drew := run_firstCells_none w.drew i0.size 0 0 0
  have hrun : ∀ ty, (Builtin.append_ #[34, 3] ty #[.slice none 0 0, .int .i64 n]).run Tryz.prog w = .ok (.slice (some ⟨w.heap.size, 0, none⟩) n (grownCap w n 0 3)) (w.drew.alloc (.cells (Builtin.zeroCells (Value.int .i64 0).cells n ++ Builtin.zeroCells (Value.int .i64 0).cells (grownCap w n 0 3 - n)) 3)) := fun ty => by
   have h := Lib.run_append_grow_zeros w 34 3 ty 3 i0 (.int .i64 0) .i64 .i64 Tryz.underlying34 Tryz.underlying3 hi0 hz0 none 0 0 [] hold n (by omega) (by rw [hz1]; omega) (by omega) (by omega) (by rw [hz2]; omega)
    (by rw [Nat.zero_add]; exact growslice_fits (by omega) (by rw [hz2]; omega))
   rw [Nat.zero_add] at h
   simpa using h
  have hG1 : n ≤ grownCap w n 0 3 := grownCap_ge w _ _ _
  have hG2 : grownCap w n 0 3 ≤ maxLen := grownCap_le_maxLen w n 0 3 (by unfold maxLen; omega)
  generalize grownCap w n 0 3 = G at *
  have hG3 : G ≤ 9223372036854775807 := by unfold maxLen at hG2; omega
  have hx : Ext w (w.drew.alloc (.cells (Builtin.zeroCells (Value.int .i64 0).cells n ++ Builtin.zeroCells (Value.int .i64 0).cells (G - n)) 3)) := (Ext.drewN w 1).trans (Ext.alloc _ _)
  have hown : OInts 3 (w.drew.alloc (.cells (Builtin.zeroCells (Value.int .i64 0).cells n ++ Builtin.zeroCells (Value.int .i64 0).cells (G - n)) 3)) w.heap.size (.slice (some ⟨w.heap.size, 0, none⟩) 0 G) [] :=
   ⟨rfl, .inr ⟨w.heap.size, G, _, rfl, Nat.le_refl _, World.alloc_heap_new w.drew _, Nat.zero_le _, hG2, by rw [Array.size_append, size_zeroCells, size_zeroCells, show (Value.int .i64 0).cells.size = 1 from rfl]; omega, by simp⟩⟩
  have HF := Lib.hid (And.intro hown hx); clear hown hx hold hz0 hi0 hz1 hz2
  have hnn : 0 < n := by omega
  have hnd : ((n : Int) < 0) = False := by simp
  go_enter Tryz.func195, Tryz.ntmps195
  go_wp2_with (at_builtin; refine wpList_append_run rfl _ _ rfl rfl rfl (hrun _) ?_)
  go_ret
  exact ⟨_, rfl, HF.out⟩
def sumLen (ls : List (List Int)) (k : Nat) : Nat := ((ls.take k).map List.length).sum
theorem sumLen_succ {ls : List (List Int)} {k : Nat} (hk : k < ls.length) : sumLen ls (k + 1) = sumLen ls k + (ls[k]?.getD []).length := by
 rw [sumLen, List.take_succ_eq_append_getElem hk, List.map_append, List.sum_append, List.getElem?_eq_getElem hk]
 simp only [List.map_cons, List.map_nil, List.sum_cons, List.sum_nil, Nat.add_zero, Option.getD_some]; rfl
theorem sumLen_all (ls : List (List Int)) : sumLen ls ls.length = ls.flatten.length := by simp [sumLen, List.length_flatten]
theorem sumLen_mono (ls : List (List Int)) : ∀ {k m : Nat}, k ≤ m → m ≤ ls.length → sumLen ls k ≤ sumLen ls m := fun {k m} h hm => by
 induction m with
 | zero => have : k = 0 := by omega
           subst this; exact Nat.le_refl _
 | succ m ih =>
  by_cases e : k = m + 1
  ·subst e; exact Nat.le_refl _
  ·rw [sumLen_succ (by omega)]
   have := ih (by omega) (by omega)
   omega
theorem take_flat {ls : List (List Int)} {k : Nat} (hk : k < ls.length) : (ls.take (k + 1)).flatten = (ls.take k).flatten ++ ls[k]?.getD [] := by
 rw [List.take_succ_eq_append_getElem hk, List.flatten_append, List.getElem?_eq_getElem hk]
 simp only [List.flatten_cons, List.flatten_nil, List.append_nil, Option.getD_some]
set_option maxHeartbeats 1000000 in
set_option maxRecDepth 100000 in
theorem concat_c (v : Value) (ls : List (List Int)) (w : World) (h : Rows w v ls) (hl : ls.length ≤ 1000) (hn : ls.flatten.length ≤ 100000) : Calls Tryz.prog 160 #[v] w (ROInts 3 ls.flatten w) := by
 obtain ⟨a, c, rfl, h1, h2, H⟩ := Rows.open_ h
 clear h
 have HM := Lib.hid (fun k (hk : k ≤ ls.length) => show sumLen ls k ≤ 100000 from Nat.le_trans (sumLen_mono ls hk (Nat.le_refl _)) (by rw [sumLen_all]; exact hn))
 go_enter Tryz.func160, Tryz.ntmps160
 go_wp2_with fail
 go_loopg [11, 3] ls.length (fun m i s wr => ∃ k : Nat, k ≤ ls.length ∧ ls.length ≤ k + m ∧ i = .int .i64 k ∧ s = .int .i64 (sumLen ls k) ∧ w = wr)
 case atStart => exact ⟨0, by omega, by omega, rfl, rfl, rfl⟩
 case round =>
  obtain ⟨k, hk, hk2, rfl, rfl, rfl⟩ := hrel
  by_cases hlt : k < ls.length
  ·obtain ⟨b, o, rfl, u, hc, hi⟩ := H.out k hlt
   obtain ⟨au, cu, rfl, _⟩ := hi.open_
   have HS := Lib.hid (sumLen_succ hlt)
   have hm1 := HM.out k (by omega)
   have hm2 : sumLen ls k + (ls[k]?.getD []).length ≤ 100000 := by have := HM.out (k + 1) (by omega); rw [HS.out] at this; exact this
   clear hi
   generalize (ls[k]?.getD []).length = n at *
   generalize sumLen ls k = S at *
   have hns : ¬ ((S : Int) + (n : Int) < 0) := by omega
   go_wp2_with fail
   go_roundg (gk-1)
   case measure => omega
   case rel => exact ⟨k+1, by omega, by omega, by go_num, by rw [HS.out]; go_num, rfl⟩
  ·obtain rfl : k = ls.length := by omega
   have hm1 := HM.out ls.length (Nat.le_refl _)
   have HG := Lib.hid (growNil_c (sumLen ls ls.length) w hm1)
   have HLL := Lib.hid (sumLen_all ls)
   generalize sumLen ls ls.length = S at *
   go_wp2_with fail
   refine HG.out.mono ?_; rintro e w1 ⟨v1, rfl, ho1, hx1⟩
   go_wp2_with fail
   go_loopg [27, 6] ls.length (fun m i v wr => ∃ k : Nat, k ≤ ls.length ∧ ls.length ≤ k + m ∧ i = .int .i64 k ∧ Ext w wr ∧ OInts 3 wr w.heap.size v (ls.take k).flatten)
   case atStart => exact ⟨0, by omega, by omega, rfl, hx1, ho1⟩
   case round =>
    obtain ⟨k, hk, hk2, rfl, hB, hown⟩ := hrel
    by_cases hlt : k < ls.length
    ·obtain ⟨b, o, rfl, u, hc, hi⟩ := H.out k hlt
     replace hc := hB.keep hc
     have hi := hi.ext hB
     have HS := Lib.hid (take_flat hlt)
     have hlen : (ls.take k).flatten.length + (ls[k]?.getD []).length ≤ 100000 := by
      have h1 := HM.out (k + 1) (by omega)
      rw [sumLen_succ hlt] at h1
      have : (ls.take k).flatten.length = sumLen ls k := by simp [sumLen, List.length_flatten]
      omega
     have hsz := hB.size
     have HR := Lib.hid hi.raw
     have HOWN := Lib.hid hown
     obtain ⟨au, cu, rfl, _⟩ := hi.open_
     clear hi hown
     generalize (ls.take k).flatten = L at *
     generalize ls[k]?.getD [] = x at *
     go_wp2_with (at_builtin; refine wpList_appendAll (m := x.length) elInts rfl _ _ rfl rfl rfl HOWN.out HR.out (ints_one x) hsz (by omega) (by omega) ?_; intro v' w' hown2 hb2; replace hown2 : OInts 3 w' w.heap.size v' (L ++ x) := (by unfold OInts; rw [ints_append, List.length_append]; exact hown2))
     go_roundg (gk-1)
     case measure => omega
     case rel => exact ⟨k+1, by omega, by omega, by go_num, hB.upto hb2 (Nat.le_refl _), by rw [HS.out]; exact hown2⟩
    ·obtain rfl : k = ls.length := by omega
     go_wp2_with fail
     go_ret
     rw [List.take_length] at hown
     exact ⟨_, rfl, hown, hB⟩
theorem Ints.take {w : World} {a : Option Addr} {c n : Nat} {l : List Int} (h : Ints w (.slice a n c) l) {i : Nat} (hi : i ≤ l.length) : Ints w (.slice a i c) (l.take i) := by
 obtain ⟨a', c', hv, hl, hm, H⟩ := h
 injection hv with ha hn hc; subst ha hc
 refine ⟨a, c, by rw [List.length_take, Nat.min_eq_left hi], by rw [List.length_take]; omega, hm, fun j hj => ?_⟩
 rw [List.length_take] at hj
 obtain ⟨b, o, hb, hcell⟩ := H j (by omega)
 exact ⟨b, o, hb, by show w.cell? _ = some (.int .i64 ((l.take i)[j]?.getD 0)); rw [List.getElem?_take, if_pos (by omega)]; exact hcell⟩
theorem Ints.drop {w : World} {b o c n : Nat} {l : List Int} (h : Ints w (.slice (some ⟨b, o, none⟩) n c) l) {k : Nat} (hk : k ≤ l.length) {A : Option Addr} (hA : (if c = k then some (⟨b, o, none⟩ : Addr) else some ⟨b, o + k, none⟩) = A) :
  Ints w (.slice A (l.length - k) (c - k)) (l.drop k) := by
 obtain ⟨a', c', hv, hl, hm, H⟩ := h
 injection hv with ha hn hc; subst ha hc
 refine ⟨A, c - k, by rw [List.length_drop], by rw [List.length_drop]; omega, by omega, fun j hj => ?_⟩
 rw [List.length_drop] at hj
 rw [if_neg (by omega)] at hA
 subst hA
 obtain ⟨b', o', hb, hcell⟩ := H (k + j) (by omega)
 injection hb with hb; injection hb with h1 h2 _; subst h1 h2
 exact ⟨b, o + k, rfl, by show w.cell? _ = some (.int .i64 ((l.drop k)[j]?.getD 0)); rw [List.getElem?_drop, Nat.add_assoc]; exact hcell⟩
theorem ints_empty {w : World} {a : Option Addr} {c : Nat} (hc : c ≤ 9223372036854775807) : Ints w (.slice a 0 c) [] := ⟨a, c, rfl, Nat.zero_le _, by unfold maxLen; omega, fun i hi => by simp at hi⟩
theorem rows_three {w : World} {g : Nat} {u1 u2 u3 : Value} {l1 l2 l3 : List Int} (hg : w.heap.size = g) (h1 : Ints w u1 l1) (h2 : Ints w u2 l2) (h3 : Ints w u3 l3) :
  Rows (w.alloc (.cells #[u1, u2, u3] 34)) (.slice (some ⟨g, 0, none⟩) 3 3) [l1, l2, l3] := by
 subst hg
 refine ⟨_, 3, rfl, Nat.le_refl _, by unfold maxLen; omega, fun i hi => ⟨_, _, rfl, ?_⟩⟩
 have hx := Ext.alloc w (.cells #[u1, u2, u3] 34)
 have hi' : i = 0 ∨ i = 1 ∨ i = 2 := by simp at hi; omega
 rcases hi' with rfl | rfl | rfl
 ·exact ⟨u1, alloc_cell w _ _ rfl, h1.ext hx⟩
 ·exact ⟨u2, alloc_cell w _ _ rfl, h2.ext hx⟩
 ·exact ⟨u3, alloc_cell w _ _ rfl, h3.ext hx⟩
theorem own_low {w : World} {B B' size n : Nat} {e : TypeId} {v : Value} {xs : List Value} (h : w.ownsRow B e size v n xs) (hB : B' ≤ B) : w.ownsRow B' e size v n xs := by
 refine ⟨h.1, ?_⟩
 rcases h.2 with h | ⟨g, cap, cur, h1, h2, h3⟩
 ·exact .inl h
 ·exact .inr ⟨g, cap, cur, h1, by omega, h3⟩
def putL (x : Rul) (l : List Int) (i : Nat) : List Int := l.take i ++ (x.t ++ l.drop (i + lng x))
theorem putL_len {x : Rul} {l : List Int} {i : Nat} (h : i + lng x ≤ l.length) : (putL x l i).length = l.length - lng x + x.t.length := by
 simp [putL]; omega
set_option maxHeartbeats 2000000 in
set_option maxRecDepth 100000 in
theorem put_c (tv lv rv wv : Value) (x : Rul) (l : List Int) (i : Nat) (w : World) (h : RulR w tv lv rv x) (hw : Ints w wv l) (hi : i + lng x ≤ l.length) (hl : l.length ≤ 10000) (ht : x.t.length ≤ 1000) :
  Calls Tryz.prog 108 #[.agg #[.int .i64 x.f, tv, lv, rv], wv, .int .i64 i] w (ROInts 3 (putL x l i) w) := by
 obtain ⟨wA, hwA⟩ : ∃ wA, wA = w.alloc (.cells #[.int .i64 x.f, tv, lv, rv] 70) := ⟨_, rfl⟩
 have hE0 : Ext w wA := by rw [hwA]; exact Ext.alloc _ _
 have k0 : ∀ W, Ext wA W → W.cell? ⟨w.heap.size, 0, none⟩ = some (.int .i64 x.f) := by rw [hwA]; exact kept_alloc w _ _ rfl
 have k1 : ∀ W, Ext wA W → W.cell? ⟨w.heap.size, 1, none⟩ = some tv := by rw [hwA]; exact kept_alloc w _ _ rfl
 have k2 : ∀ W, Ext wA W → W.cell? ⟨w.heap.size, 2, none⟩ = some lv := by rw [hwA]; exact kept_alloc w _ _ rfl
 have k3 : ∀ W, Ext wA W → W.cell? ⟨w.heap.size, 3, none⟩ = some rv := by rw [hwA]; exact kept_alloc w _ _ rfl
 have H0 : Ext wA wA := Ext.refl _
 have HI := Lib.hid (hw.ext hE0)
 have HR := Lib.hid (h.ext hE0)
 have HLC := Lib.hid (fun W => long_c tv lv rv x W)
 have hlg1 := lng_le x
 have HLX := Lib.hid (show putL x l i = [l.take i, x.t, l.drop (i + lng x)].flatten by simp [putL])
 have HPN := Lib.hid (show (putL x l i).length ≤ 100000 by rw [putL_len hi]; omega)
 have hs0 : w.heap.size ≤ wA.heap.size := hE0.size
 obtain ⟨aw, cw, rfl, hlc, hcm, H⟩ := hw.open_
 obtain ⟨at_, ct, rfl, _⟩ := h.t.open_
 have HW := Lib.hid hwA; clear hwA h hw
 have hic : i ≤ cw := by omega
 have hil : i ≤ l.length := by omega
 by_cases hfn : x.f = -1
 ·have HF := Lib.hid hfn
  have hf0 : (x.f == -1) = true := by simp [hfn]
  clear hfn
  by_cases h0 : l.length = 0
  ·obtain rfl : l = [] := List.eq_nil_of_length_eq_zero h0
   obtain rfl : i = 0 := by simp at hi; omega
   clear h0
   rcases aw with _ | ⟨b, o, sp⟩
   all_goals
    have hlg : lng x = 0 := by simp [lng, HF.out]
    rw [hlg] at HLC HLX
    have HLG := Lib.hid hlg; clear hlg
    have hw0 : IntKind.i64.wrap (0 : Int) = 0 := IntWalk.i64_in _ (by omega)
    go_enter Tryz.func108, Tryz.ntmps108
    go_wp2_with fail
    rw [← HW.out]
    refine wp_region_peek (Ext wA) (fun _ => True) [] [.look 0, .look 1, .look 2, .look 3, .look 4, .look 5, .look 6, .look 7, .go 8, .look 9, .look 10, .go 11, .go 12, .look 13] (by kernel_rfl) (by kernel_rfl) (by intro c a d v w h; cases d <;> exact h) ?_
    have hd : Ext wA { wA with drawn := wA.drawn + 1 } := drawn_ext wA
    have hs : ∀ s : InC (Ext wA), Ext wA s.w := fun s => s.h
    generalize { wA with drawn := wA.drawn + 1 } = W1 at *
    iterate 8 (refine wpPeek_look rfl ‹_› (fun K hK => ?_); go_simp; first | (refine hK _ ?_; clear hK K) | (refine ⟨_, fun _ => rfl, hK _ ?_⟩; clear hK K))
    refine wpPeek_go rfl rfl (fun K hK => ?_)
    go_wp2_with fail
    refine (HLC.out W1).mono ?_; rintro e W2 ⟨rfl, hx2⟩
    have hd2 := hd.trans hx2
    go_wp2_with fail
    refine ⟨KeepE.of (fun h => h.trans hx2) (fun _ => trivial), ?_⟩
    clear hd
    iterate 2 (refine wpPeek_look rfl ‹_› (fun K hK => ?_); go_simp; first | (refine hK _ ?_; clear hK K) | (refine ⟨_, fun _ => rfl, hK _ ?_⟩; clear hK K))
    refine wpPeek_go rfl rfl (fun K hK => ?_)
    go_wp2_with fail
    refine ⟨KeepE.of (fun h => h.trans (Ext.alloc _ _)) (fun _ => trivial), ?_⟩
    refine wpPeek_go rfl rfl (fun K hK => ?_)
    go_wp2_with fail
    refine (concat_c _ [[], x.t, []] _ (rows_three rfl (ints_empty (by omega)) (HR.out.t.ext hd2) (ints_empty (by omega))) (by simp) (by simp; omega)).mono ?_; rintro e W3 ⟨v3, rfl, ho3, hx3⟩
    have hd3 := (hd2.trans (Ext.alloc _ _)).trans hx3
    have hs2 := hd2.size
    go_wp2_with fail
    refine ⟨KeepE.of (fun h => h.trans hx3) (fun _ => trivial), ?_⟩
    clear hd2
    (refine wpPeek_look rfl ‹_› (fun K hK => ?_); go_simp; first | (refine hK _ ?_; clear hK K) | (refine ⟨_, fun _ => rfl, hK _ ?_⟩; clear hK K))
    refine wpPeek_nil ?_
    go_wp2_with fail
    go_ret
    exact ⟨_, rfl, by rw [show putL x [] 0 = [[], x.t, []].flatten by simp [putL]]; exact OInts.low ho3 (by simp; omega), hE0.trans hd3⟩
  ·obtain ⟨b, o, rfl, _⟩ := H.out 0 (by omega)
   obtain ⟨A, hA⟩ : ∃ A, (if cw = i then some (⟨b, o, none⟩ : Addr) else some ⟨b, o + i, none⟩) = A := ⟨_, rfl⟩
   have HD := Lib.hid (HI.out.drop (k := i) (by omega) hA)
   have hlg : lng x = 0 := by simp [lng, HF.out]
   rw [hlg] at HLC HLX hi hlg1
   rw [Nat.add_zero] at HLX hi
   have HLG := Lib.hid hlg; clear hlg
   have hkc : i ≤ cw := by omega
   have hw0 : IntKind.i64.wrap (i : Int) = (i : Int) := IntWalk.i64_in _ (by omega)
   have hw1 : IntKind.i64.wrap ((i : Int) + 1) = (i : Int) + 1 := IntWalk.i64_in _ (by omega)
   have htn : ((i : Int) + 1).toNat = i + 1 := by omega
   have hz1 : (0 : Int) ≤ (i : Int) + 1 := by omega
   have hz2 : (i : Int) + 0 ≤ (l.length : Int) := by omega
   go_enter Tryz.func108, Tryz.ntmps108
   go_wp2_with fail
   rw [← HW.out]
   refine wp_region_peek (Ext wA) (fun _ => True) [] [.look 0, .look 1, .look 2, .look 3, .look 4, .look 5, .look 6, .look 7, .go 8, .look 9, .look 10, .go 11, .go 12, .look 13] (by kernel_rfl) (by kernel_rfl) (by intro c a d v w h; cases d <;> exact h) ?_
   have hd : Ext wA { wA with drawn := wA.drawn + 1 } := drawn_ext wA
   have hs : ∀ s : InC (Ext wA), Ext wA s.w := fun s => s.h
   generalize { wA with drawn := wA.drawn + 1 } = W1 at *
   iterate 8 (refine wpPeek_look rfl ‹_› (fun K hK => ?_); go_simp; first | (refine hK _ ?_; clear hK K) | (refine ⟨_, fun _ => rfl, hK _ ?_⟩; clear hK K))
   refine wpPeek_go rfl rfl (fun K hK => ?_)
   go_wp2_with fail
   refine (HLC.out W1).mono ?_; rintro e W2 ⟨rfl, hx2⟩
   have hd2 := hd.trans hx2
   go_wp2_with fail
   refine ⟨KeepE.of (fun h => h.trans hx2) (fun _ => trivial), ?_⟩
   clear hd
   iterate 2 (refine wpPeek_look rfl ‹_› (fun K hK => ?_); go_simp; first | (refine hK _ ?_; clear hK K) | (refine ⟨_, fun _ => rfl, hK _ ?_⟩; clear hK K))
   refine wpPeek_go rfl rfl (fun K hK => ?_)
   go_wp2_with fail
   refine ⟨KeepE.of (fun h => h.trans (Ext.alloc _ _)) (fun _ => trivial), ?_⟩
   refine wpPeek_go rfl rfl (fun K hK => ?_)
   go_wp2_with fail
   refine (concat_c _ [l.take i, x.t, l.drop (i)] _ (rows_three rfl (((HI.out.take hil)).ext hd2) (HR.out.t.ext hd2) ((HD.out).ext hd2)) (by simp) (by rw [← HLX.out]; exact HPN.out)).mono ?_; rintro e W3 ⟨v3, rfl, ho3, hx3⟩
   have hd3 := (hd2.trans (Ext.alloc _ _)).trans hx3
   have hs2 := hd2.size
   go_wp2_with fail
   refine ⟨KeepE.of (fun h => h.trans hx3) (fun _ => trivial), ?_⟩
   clear hd2
   (refine wpPeek_look rfl ‹_› (fun K hK => ?_); go_simp; first | (refine hK _ ?_; clear hK K) | (refine ⟨_, fun _ => rfl, hK _ ?_⟩; clear hK K))
   refine wpPeek_nil ?_
   go_wp2_with fail
   go_ret
   exact ⟨_, rfl, by rw [HLX.out]; exact OInts.low ho3 (by simp; omega), hE0.trans hd3⟩
 ·have HF := Lib.hid hfn
  have hf0 : (x.f == -1) = false := by simp [hfn]
  clear hfn
  have hlg1' : lng x = 1 := by simp [lng, HF.out]
  obtain ⟨b, o, rfl, _⟩ := H.out 0 (by omega)
  obtain ⟨A, hA⟩ : ∃ A, (if cw = i + 1 then some (⟨b, o, none⟩ : Addr) else some ⟨b, o + (i + 1), none⟩) = A := ⟨_, rfl⟩
  have HD := Lib.hid (HI.out.drop (k := i + 1) (by omega) hA)
  clear hlg1'
  have hlg : lng x = 1 := by simp [lng, HF.out]
  rw [hlg] at HLC HLX hi hlg1
  have HLG := Lib.hid hlg; clear hlg
  have hkc : i + 1 ≤ cw := by omega
  have hw0 : IntKind.i64.wrap (i : Int) = (i : Int) := IntWalk.i64_in _ (by omega)
  have hw1 : IntKind.i64.wrap ((i : Int) + 1) = (i : Int) + 1 := IntWalk.i64_in _ (by omega)
  have htn : ((i : Int) + 1).toNat = i + 1 := by omega
  have hz1 : (0 : Int) ≤ (i : Int) + 1 := by omega
  have hz2 : (i : Int) + 1 ≤ (l.length : Int) := by omega
  go_enter Tryz.func108, Tryz.ntmps108
  go_wp2_with fail
  rw [← HW.out]
  refine wp_region_peek (Ext wA) (fun _ => True) [] [.look 0, .look 1, .look 2, .look 3, .look 4, .look 5, .look 6, .look 7, .go 8, .look 9, .look 10, .go 11, .go 12, .look 13] (by kernel_rfl) (by kernel_rfl) (by intro c a d v w h; cases d <;> exact h) ?_
  have hd : Ext wA { wA with drawn := wA.drawn + 1 } := drawn_ext wA
  have hs : ∀ s : InC (Ext wA), Ext wA s.w := fun s => s.h
  generalize { wA with drawn := wA.drawn + 1 } = W1 at *
  iterate 8 (refine wpPeek_look rfl ‹_› (fun K hK => ?_); go_simp; first | (refine hK _ ?_; clear hK K) | (refine ⟨_, fun _ => rfl, hK _ ?_⟩; clear hK K))
  refine wpPeek_go rfl rfl (fun K hK => ?_)
  go_wp2_with fail
  refine (HLC.out W1).mono ?_; rintro e W2 ⟨rfl, hx2⟩
  have hd2 := hd.trans hx2
  go_wp2_with fail
  refine ⟨KeepE.of (fun h => h.trans hx2) (fun _ => trivial), ?_⟩
  clear hd
  iterate 2 (refine wpPeek_look rfl ‹_› (fun K hK => ?_); go_simp; first | (refine hK _ ?_; clear hK K) | (refine ⟨_, fun _ => rfl, hK _ ?_⟩; clear hK K))
  refine wpPeek_go rfl rfl (fun K hK => ?_)
  go_wp2_with fail
  refine ⟨KeepE.of (fun h => h.trans (Ext.alloc _ _)) (fun _ => trivial), ?_⟩
  refine wpPeek_go rfl rfl (fun K hK => ?_)
  go_wp2_with fail
  refine (concat_c _ [l.take i, x.t, l.drop (i + 1)] _ (rows_three rfl (((HI.out.take hil)).ext hd2) (HR.out.t.ext hd2) ((HD.out).ext hd2)) (by simp) (by rw [← HLX.out]; exact HPN.out)).mono ?_; rintro e W3 ⟨v3, rfl, ho3, hx3⟩
  have hd3 := (hd2.trans (Ext.alloc _ _)).trans hx3
  have hs2 := hd2.size
  go_wp2_with fail
  refine ⟨KeepE.of (fun h => h.trans hx3) (fun _ => trivial), ?_⟩
  clear hd2
  (refine wpPeek_look rfl ‹_› (fun K hK => ?_); go_simp; first | (refine hK _ ?_; clear hK K) | (refine ⟨_, fun _ => rfl, hK _ ?_⟩; clear hK K))
  refine wpPeek_nil ?_
  go_wp2_with fail
  go_ret
  exact ⟨_, rfl, by rw [HLX.out]; exact OInts.low ho3 (by simp; omega), hE0.trans hd3⟩
set_option maxHeartbeats 2000000 in
set_option maxRecDepth 100000 in
theorem rput_c (tv lv rv wv : Value) (x : Rul) (l : List Int) (i : Nat) (w : World) (h : RulR w tv lv rv x) (hw : Ints w wv l) (hi : i + lng x ≤ l.length) (hl : l.length ≤ 10000) (ht : x.t.length ≤ 1000) (hf : nbB x.f = true) :
  Calls Tryz.prog 238 #[.agg #[.int .i64 x.f, tv, lv, rv], wv, .int .i64 i] w (ROInts 3 (putL x l i) w) := by
 obtain ⟨wA, hwA⟩ : ∃ wA, wA = w.alloc (.cells #[.int .i64 x.f, tv, lv, rv] 70) := ⟨_, rfl⟩
 have hE0 : Ext w wA := by rw [hwA]; exact Ext.alloc _ _
 have k0 : ∀ W, Ext wA W → W.cell? ⟨w.heap.size, 0, none⟩ = some (.int .i64 x.f) := by rw [hwA]; exact kept_alloc w _ _ rfl
 have k1 : ∀ W, Ext wA W → W.cell? ⟨w.heap.size, 1, none⟩ = some tv := by rw [hwA]; exact kept_alloc w _ _ rfl
 have k2 : ∀ W, Ext wA W → W.cell? ⟨w.heap.size, 2, none⟩ = some lv := by rw [hwA]; exact kept_alloc w _ _ rfl
 have k3 : ∀ W, Ext wA W → W.cell? ⟨w.heap.size, 3, none⟩ = some rv := by rw [hwA]; exact kept_alloc w _ _ rfl
 have H0 : Ext wA wA := Ext.refl _
 have HFN : x.f = -1 ∨ 0 ≤ x.f := by simp [nbB, inB] at hf; omega
 obtain ⟨aw, cw, rfl, hlc, hcm, H⟩ := hw.open_
 obtain ⟨at_, ct, rfl, _⟩ := h.t.open_
 have hic : i ≤ cw := by omega
 have hil : i ≤ l.length := by omega
 have hE1 : Ext w (wA.alloc (.cells #[] 3)) := hE0.trans (Ext.alloc _ _)
 have hown0 : (wA.alloc (.cells #[] 3)).ownsRow wA.heap.size 3 1 (.slice (some ⟨wA.heap.size, 0, none⟩) 0 0) 0 [] :=
  World.ownsRow_lit (size := 1) (e := 3) (base := wA.heap.size) wA #[] 0 (by omega) (by unfold maxLen; omega) rfl
 have hs0 : wA.heap.size = w.heap.size + 1 := by rw [hwA]; simp
 have hrt : Raw (wA.alloc (.cells #[] 3)) 1 (.slice aw i cw) i (ints (l.take i)) := by
  have := ((hw.take hil).ext hE1).raw; rwa [List.length_take, Nat.min_eq_left hil] at this
 have HXT := Lib.hid (fun W (hW : Ext wA W) => show Raw W 1 (.slice at_ x.t.length ct) x.t.length (ints x.t) from (h.t.ext (hE0.trans hW)).raw)
 have HX1 := Lib.hid (fun W (hW : Below (w.heap.size + 1) ((w.alloc (.cells #[.int .i64 x.f, .slice at_ x.t.length ct, lv, rv] 70)).alloc (.cells #[] 3)) W) => show Ext wA W from (Ext.alloc wA _).upto (by rw [hwA]; exact hW) (by omega))
 have HX2 := Lib.hid (fun W W' (hW : Ext wA W) (hb : Below wA.heap.size W W') => show Ext wA W' from hW.upto hb (Nat.le_refl _))
 have HEX := Lib.hid (fun W (hW : Ext wA W) => hE0.trans hW)
 have HHI := Lib.hid (fun W (hW : Ext wA W) => hw.ext (hE0.trans hW))
 have HSZ := Lib.hid (fun W (hW : Ext wA W) => show wA.heap.size ≤ W.heap.size from hW.size)
 have hsb : wA.heap.size ≤ (wA.alloc (.cells #[] 3)).heap.size := by simp
 rw [hs0] at hown0 HX2 hsb HSZ
 rw [hwA] at hown0 hrt hsb
 have HOWN0 := Lib.hid hown0; have HRT := Lib.hid hrt
 clear hown0 hrt H0 hs0 hwA hE1 h
 by_cases hfn : x.f = -1
 ·have HF := Lib.hid hfn
  have hf0 : decide (0 ≤ x.f) = false := by simp [hfn]
  have hlg : lng x = 0 := by simp [lng, hfn]
  have HPL := Lib.hid (show putL x l i = l.take i ++ (x.t ++ l.drop i) by rw [putL, hlg]; rfl)
  rw [hlg, Nat.add_zero] at hi
  clear hfn hf HFN hlg
  have hkc : i ≤ cw := by omega
  by_cases h0 : l.length = 0
  ·obtain rfl : l = [] := List.eq_nil_of_length_eq_zero h0
   obtain rfl : i = 0 := by simp at hi; omega
   clear h0
   rcases aw with _ | ⟨b, o, sp⟩
   ·have HRD := Lib.hid (fun W (hW : Ext wA W) => show Raw W 1 (.slice none 0 cw) 0 (ints ([].drop 0)) from ⟨none, cw, rfl, by simp, fun h => by omega⟩)
    go_enter Tryz.func238, Tryz.ntmps238
    go_wp2_with (first
     | (at_builtin; refine wpList_appendAll (n := 0) (m := 0) (B := w.heap.size + 1) elInts rfl (.tmp 8) (.tmp 11) rfl rfl rfl HOWN0.out HRT.out (ints_one _) hsb (by omega) (by omega) ?_; intro v1 w1 ho1 hb1; have hx1 := HX1.out w1 hb1; have hr1 := Lib.hid (HXT.out w1 hx1); have hs1 := HSZ.out w1 hx1; have HO1 := Lib.hid ho1; clear ho1 hb1)
     | (at_builtin; refine wpList_appendAll (m := x.t.length) (B := w.heap.size + 1) elInts rfl (.tmp 13) (.tmp 15) rfl rfl rfl HO1.out hr1.out (ints_one _) hs1 (by omega) (by omega) ?_; intro v2 w2 ho2 hb2; have hx2 := HX2.out w1 w2 hx1 hb2; have hs2 := HSZ.out w2 hx2; have HO2 := Lib.hid ho2; clear ho2 hb2)
     | (at_builtin; refine wpList_appendAll (m := 0) (B := w.heap.size + 1) elInts rfl (.tmp 22) (.tmp 25) rfl rfl rfl HO2.out (HRD.out w2 hx2) (ints_one _) hs2 (by omega) (by omega) ?_; intro v3 w3 ho3 hb3; have hx3 := HX2.out w2 w3 hx2 hb3; have HO3 := Lib.hid ho3; clear ho3 hb3))
    go_ret
    refine ⟨_, rfl, ?_, HEX.out w3 hx3⟩
    rw [HPL.out]
    have h3 := HO3.out
    unfold OInts
    rw [ints_append, ints_append, show (([] : List Int).take 0 ++ (x.t ++ ([] : List Int).drop 0)).length = 0 + 0 + x.t.length + (0) by simp only [List.length_append, List.length_take, List.length_drop, List.length_nil]; omega]
    exact own_low (by simpa using h3) (by omega)
   ·have HRD := Lib.hid (fun W (hW : Ext wA W) => show Raw W 1 (.slice (some ⟨b, o, sp⟩) 0 cw) 0 (ints ([].drop 0)) from ⟨_, cw, rfl, by simp, fun h => by omega⟩)
    go_enter Tryz.func238, Tryz.ntmps238
    go_wp2_with (first
     | (at_builtin; refine wpList_appendAll (n := 0) (m := 0) (B := w.heap.size + 1) elInts rfl (.tmp 8) (.tmp 11) rfl rfl rfl HOWN0.out HRT.out (ints_one _) hsb (by omega) (by omega) ?_; intro v1 w1 ho1 hb1; have hx1 := HX1.out w1 hb1; have hr1 := Lib.hid (HXT.out w1 hx1); have hs1 := HSZ.out w1 hx1; have HO1 := Lib.hid ho1; clear ho1 hb1)
     | (at_builtin; refine wpList_appendAll (m := x.t.length) (B := w.heap.size + 1) elInts rfl (.tmp 13) (.tmp 15) rfl rfl rfl HO1.out hr1.out (ints_one _) hs1 (by omega) (by omega) ?_; intro v2 w2 ho2 hb2; have hx2 := HX2.out w1 w2 hx1 hb2; have hs2 := HSZ.out w2 hx2; have HO2 := Lib.hid ho2; clear ho2 hb2)
     | (at_builtin; refine wpList_appendAll (m := 0) (B := w.heap.size + 1) elInts rfl (.tmp 22) (.tmp 25) rfl rfl rfl HO2.out (HRD.out w2 hx2) (ints_one _) hs2 (by omega) (by omega) ?_; intro v3 w3 ho3 hb3; have hx3 := HX2.out w2 w3 hx2 hb3; have HO3 := Lib.hid ho3; clear ho3 hb3))
    go_ret
    refine ⟨_, rfl, ?_, HEX.out w3 hx3⟩
    rw [HPL.out]
    have h3 := HO3.out
    unfold OInts
    rw [ints_append, ints_append, show (([] : List Int).take 0 ++ (x.t ++ ([] : List Int).drop 0)).length = 0 + 0 + x.t.length + (0) by simp only [List.length_append, List.length_take, List.length_drop, List.length_nil]; omega]
    exact own_low (by simpa using h3) (by omega)
  ·obtain ⟨b, o, rfl, _⟩ := H.out 0 (by omega)
   obtain ⟨A, hA⟩ : ∃ A, (if cw = i then some (⟨b, o, none⟩ : Addr) else some ⟨b, o + i, none⟩) = A := ⟨_, rfl⟩
   have HRD := Lib.hid (fun W (hW : Ext wA W) => show Raw W 1 (.slice A (l.length - i) (cw - i)) (l.length - i) (ints (l.drop i)) from by have := ((HHI.out W hW).drop (k := i) hi hA).raw; rwa [List.length_drop] at this)
   go_enter Tryz.func238, Tryz.ntmps238
   go_wp2_with (first
    | (at_builtin; refine wpList_appendAll (n := 0) (m := i) (B := w.heap.size + 1) elInts rfl (.tmp 8) (.tmp 11) rfl rfl rfl HOWN0.out HRT.out (ints_one _) hsb (by omega) (by omega) ?_; intro v1 w1 ho1 hb1; have hx1 := HX1.out w1 hb1; have hr1 := Lib.hid (HXT.out w1 hx1); have hs1 := HSZ.out w1 hx1; have HO1 := Lib.hid ho1; clear ho1 hb1)
    | (at_builtin; refine wpList_appendAll (m := x.t.length) (B := w.heap.size + 1) elInts rfl (.tmp 13) (.tmp 15) rfl rfl rfl HO1.out hr1.out (ints_one _) hs1 (by omega) (by omega) ?_; intro v2 w2 ho2 hb2; have hx2 := HX2.out w1 w2 hx1 hb2; have hs2 := HSZ.out w2 hx2; have HO2 := Lib.hid ho2; clear ho2 hb2)
    | (at_builtin; refine wpList_appendAll (m := l.length - i) (B := w.heap.size + 1) elInts rfl (.tmp 22) (.tmp 25) rfl rfl rfl HO2.out (HRD.out w2 hx2) (ints_one _) hs2 (by omega) (by omega) ?_; intro v3 w3 ho3 hb3; have hx3 := HX2.out w2 w3 hx2 hb3; have HO3 := Lib.hid ho3; clear ho3 hb3))
   go_ret
   refine ⟨_, rfl, ?_, HEX.out w3 hx3⟩
   rw [HPL.out]
   have h3 := HO3.out
   unfold OInts
   rw [ints_append, ints_append, show (l.take i ++ (x.t ++ l.drop i)).length = 0 + i + x.t.length + (l.length - i) by simp only [List.length_append, List.length_take, List.length_drop]; omega]
   exact own_low (by simpa using h3) (by omega)
 ·have hf0 : decide (0 ≤ x.f) = true := by simp; omega
  have hlg : lng x = 1 := by simp [lng, hfn]
  have HPL := Lib.hid (show putL x l i = l.take i ++ (x.t ++ l.drop (i + 1)) by rw [putL, hlg])
  rw [hlg] at hi
  clear hfn hf HFN hlg
  obtain ⟨b, o, rfl, _⟩ := H.out 0 (by omega)
  obtain ⟨A, hA⟩ : ∃ A, (if cw = i + 1 then some (⟨b, o, none⟩ : Addr) else some ⟨b, o + (i + 1), none⟩) = A := ⟨_, rfl⟩
  have HRD := Lib.hid (fun W (hW : Ext wA W) => show Raw W 1 (.slice A (l.length - (i + 1)) (cw - (i + 1))) (l.length - (i + 1)) (ints (l.drop (i + 1))) from by have := ((HHI.out W hW).drop (k := i + 1) hi hA).raw; rwa [List.length_drop] at this)
  have hkc : i + 1 ≤ cw := by omega
  have hw1 : IntKind.i64.wrap ((i : Int) + 1) = (i : Int) + 1 := IntWalk.i64_in _ (by omega)
  have htn : ((i : Int) + 1).toNat = i + 1 := by omega
  have hz1 : (0 : Int) ≤ (i : Int) + 1 := by omega
  have hz2 : (i : Int) + 1 ≤ (l.length : Int) := by omega
  go_enter Tryz.func238, Tryz.ntmps238
  go_wp2_with (first
   | (at_builtin; refine wpList_appendAll (n := 0) (m := i) (B := w.heap.size + 1) elInts rfl (.tmp 8) (.tmp 11) rfl rfl rfl HOWN0.out HRT.out (ints_one _) hsb (by omega) (by omega) ?_; intro v1 w1 ho1 hb1; have hx1 := HX1.out w1 hb1; have hr1 := Lib.hid (HXT.out w1 hx1); have hs1 := HSZ.out w1 hx1; have HO1 := Lib.hid ho1; clear ho1 hb1)
   | (at_builtin; refine wpList_appendAll (m := x.t.length) (B := w.heap.size + 1) elInts rfl (.tmp 13) (.tmp 15) rfl rfl rfl HO1.out hr1.out (ints_one _) hs1 (by omega) (by omega) ?_; intro v2 w2 ho2 hb2; have hx2 := HX2.out w1 w2 hx1 hb2; have hs2 := HSZ.out w2 hx2; have HO2 := Lib.hid ho2; clear ho2 hb2)
   | (at_builtin; refine wpList_appendAll (m := l.length - (i + 1)) (B := w.heap.size + 1) elInts rfl (.tmp 22) (.tmp 25) rfl rfl rfl HO2.out (HRD.out w2 hx2) (ints_one _) hs2 (by omega) (by omega) ?_; intro v3 w3 ho3 hb3; have hx3 := HX2.out w2 w3 hx2 hb3; have HO3 := Lib.hid ho3; clear ho3 hb3))
  go_ret
  refine ⟨_, rfl, ?_, HEX.out w3 hx3⟩
  rw [HPL.out]
  have h3 := HO3.out
  unfold OInts
  rw [ints_append, ints_append, show (l.take i ++ (x.t ++ l.drop (i + 1))).length = 0 + i + x.t.length + (l.length - (i + 1)) by simp only [List.length_append, List.length_take, List.length_drop]; omega]
  exact own_low (by simpa using h3) (by omega)
end Go.Proofs.YtpmlcfgbfhgpgaaGreatDoor
