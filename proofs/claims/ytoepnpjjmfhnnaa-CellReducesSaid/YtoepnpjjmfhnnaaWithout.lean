/- Walks: without, drop. -/
import Derived.Test.YtoepnpjjmfhnnaaDel
namespace Go.Proofs.Ytoepnpjjmfhnnaa
open Go.RowKit Go.Shelf
set_option linter.unusedVariables false

/-- the struct that is handed back lies in block g -/
theorem fin1 {w W : World} {g : Nat} {A B x y : Value} {S : List Int} {E : List Ent} (hrb : BoxP W g x y) (hg : w.heap.size ≤ g) (hs : OInts 3 W w.heap.size A S) (he : OEnts W w.heap.size B E) (hX : Ext w W) :
    RCopy S E w (.returned (.agg #[A, B])) ((W.setCell ⟨g, 0, none⟩ A).setCell ⟨g, 1, none⟩ B) ∧ BoxP ((W.setCell ⟨g, 0, none⟩ A).setCell ⟨g, 1, none⟩ B) g A B := by
  have h0 := hrb.set0 A
  exact ⟨⟨_, _, rfl, (hs.kept (grownBy_set W g 0 A) hrb.noInts).kept (grownBy_set _ g 1 B) h0.noInts, (he.kept (grownBy_set W g 0 A) hrb.neither).kept (grownBy_set _ g 1 B) h0.neither, (hX.setCell hg 0 A).setCell hg 1 B⟩, h0.set1 B⟩

set_option maxHeartbeats 1000000 in
set_option maxRecDepth 100000 in
theorem without_c (sv ev : Value) (sizes : List Int) (es : List Ent) (i : Nat) (w : World) (hp : Par w sv ev sizes es) (hi : i < es.length) (hn : es.length ≤ 1000) (hs : sizes.length ≤ 1000) (hsp : ∀ i, i < es.length → (ent es i).1.length ≤ 1000) :
    Calls Try.prog 96 #[.agg #[sv, ev], .int .i64 i] w (RCopy sizes (es.eraseIdx i) w) := by
  have HP := Lib.hid hp
  obtain ⟨wA, hwA⟩ : ∃ wA, wA = (w.alloc (.cells #[sv, ev] 25)).alloc (.cells #[.slice none 0 0, .slice none 0 0] 25) := ⟨_, rfl⟩
  have hE0 : Ext w wA := by rw [hwA]; exact (Ext.alloc _ _).trans (Ext.alloc _ _)
  have hz1 : BoxP wA w.heap.size sv ev := by rw [hwA]; exact (BoxP.new w _ _ rfl).ext (Ext.alloc _ _)
  have hz2 : BoxP wA (w.heap.size + 1) (.slice none 0 0) (.slice none 0 0) := by rw [hwA]; exact BoxP.new _ _ _ (by simp)
  have hs0 : wA.heap.size = w.heap.size + 2 := by rw [hwA]; simp
  have hb0 := hz1.c0
  have hb1 := hz1.c1
  have HCP := Lib.hid (copied_c sv ev sizes es wA (hp.ext hE0) hn hs hsp)
  have HW := Lib.hid hwA; clear hwA hz1 hp hsp
  go_enter Try.func96, Try.ntmps96
  go_wp2_with fail
  rw [← HW.out]
  refine HCP.out.mono ?_; rintro e w2 ⟨sv2, ev2, rfl, hov, hoe, hx2⟩
  obtain ⟨a2, c2, rfl, _⟩ := hov.ints.open_
  have hoe := OEnts.low hoe (show w.heap.size ≤ wA.heap.size by omega)
  have hov := OInts.low hov (show w.heap.size ≤ wA.heap.size by omega)
  obtain ⟨g, cap, ua, rfl, _⟩ := hoe.at_ hi
  have hA3 := Ext.alloc w2 (.cells #[.slice a2 sizes.length c2, .slice (some ⟨g, 0, none⟩) es.length cap] 25)
  have hbox := BoxP.new w2 (.slice a2 sizes.length c2) (.slice (some ⟨g, 0, none⟩) es.length cap) rfl
  have hrb := (hz2.ext hx2).ext hA3
  have hX3 := (hE0.trans hx2).trans hA3
  have hs2 := hx2.size
  have hoe := OEnts.ext hoe hA3
  have hov := OInts.ext hov hA3
  have hrow := hoe.row
  have c1 := hbox.c1
  have hbl := hbox.lt
  have HD := Lib.hid (fun W (h : OEnts W w.heap.size (.slice (some ⟨g, 0, none⟩) es.length cap) es) => delete_c g es.length cap i w.heap.size es W h hi)
  have hlen : es.length ≤ 9223372036854775807 := by omega
  have hie : (es.eraseIdx i).length = es.length - 1 := by rw [List.length_eraseIdx_of_lt hi]
  go_wp2_with fail
  generalize (w2.alloc (.cells #[.slice a2 sizes.length c2, .slice (some ⟨g, 0, none⟩) es.length cap] 25)) = W3 at *
  refine (HD.out W3 hoe).mono ?_; rintro e w4 ⟨rfl, ho4, hg4⟩
  have hbd := hbox.kept hg4 (fun e => by injection e with e; exact hrow.ne hbox e)
  have hrb4 := hrb.kept hg4 (fun e => by injection e with e; exact hrow.ne hrb e)
  have hov4 := OInts.kept2 hov hg4 hrow
  have hX4 : Ext w w4 := grown_below hX3 hg4 (fun r hr => by injection hr with hr; subst hr; exact hrow.1)
  have c1 := hbd.c1
  have f1 := hbd.frozen 1
  have hb5 := hbd.set1 (.slice (some ⟨g, 0, none⟩) (es.length - 1) cap)
  have hrb5 := hrb4.kept (grownBy_set w4 w2.heap.size 1 (.slice (some ⟨g, 0, none⟩) (es.length - 1) cap)) (by simp; omega)
  have hov5 := hov4.kept (grownBy_set w4 w2.heap.size 1 (.slice (some ⟨g, 0, none⟩) (es.length - 1) cap)) hbd.noInts
  have ho5 := ho4.kept (grownBy_set w4 w2.heap.size 1 (.slice (some ⟨g, 0, none⟩) (es.length - 1) cap)) hbd.neither
  have hX5 := hX4.setCell (c := w2.heap.size) (by omega) 1 (.slice (some ⟨g, 0, none⟩) (es.length - 1) cap)
  have d0 := hb5.c0
  have d1 := hb5.c1
  have r0 := hrb5.c0
  have r1 := hrb5.c1
  have rf0 := hrb5.frozen 0
  have rf1 := hrb5.frozen 1
  obtain ⟨HF, hp1⟩ := fin1 hrb5 (by omega) hov5 ho5 hX5
  have HFIN := Lib.hid HF; clear HF
  have p2 := hp1.c0
  have p3 := hp1.c1
  clear hp1 hie
  go_wp2_with fail
  refine bodyPost_ret (v := .agg #[.slice a2 sizes.length c2, .slice (some ⟨g, 0, none⟩) (es.length - 1) cap]) ?_ rfl HFIN.out
  simp [results, Try.results96, go_sem, p2, p3]

/-! ## drop -/
theorem Ents.cells_ {w : World} {a : Option Addr} {cap : Nat} {es : List Ent} (h : Ents w (.slice a es.length cap) es) (hne : 0 < es.length) :
    ∃ b o us, a = some ⟨b, o, none⟩ ∧ AllInts w us (es.map Prod.fst) ∧ ∀ j x, (eCells us es)[j]? = some x → w.cell? ⟨b, o + j, none⟩ = some x := by
  obtain ⟨a', cap', hv, hle, hme, He⟩ := h.open_
  injection hv with ha _ hc; subst ha hc
  obtain ⟨b, o, rfl, _⟩ := He.out 0 hne
  have He' : ∀ i, i < es.length → ∃ u, w.cell? ⟨b, o + i * 2, none⟩ = some u ∧ Ints w u (ent es i).1 ∧ w.cell? ⟨b, o + i * 2 + 1, none⟩ = some (.int .i64 (ent es i).2) := fun i hi => by
    obtain ⟨b', o', he, h⟩ := He.out i hi
    injection he with he; injection he with h1 h2 _; subst h1 h2; exact h
  refine ⟨b, o, (List.range es.length).map (fun i => (w.cell? ⟨b, o + i * 2, none⟩).getD undef), rfl, ⟨by simp, fun i u hu => ?_⟩, fun j x hx => ?_⟩
  · have hi : i < es.length := by have := (List.getElem?_eq_some_iff.1 hu).1; simpa using this
    obtain ⟨v, h1, h2, _⟩ := He' i hi
    rw [List.getElem?_map, List.getElem?_range hi] at hu
    simp only [Option.map_some, h1, Option.getD_some, Option.some.injEq] at hu
    subst hu; rw [map_fst_get]; exact h2
  · have hul : ((List.range es.length).map (fun i => (w.cell? ⟨b, o + i * 2, none⟩).getD undef)).length = es.length := by simp
    have hj : j < es.length * 2 := by have := (List.getElem?_eq_some_iff.1 hx).1; rwa [eCells_len _ _ hul] at this
    rcases Nat.mod_two_eq_zero_or_one j with h | h
    · obtain ⟨q, rfl⟩ : ∃ q, j = q * 2 := ⟨j / 2, by omega⟩
      obtain ⟨v, h1, _, _⟩ := He' q (by omega)
      rw [eCells_spec _ _ _ hul, List.getElem?_map, List.getElem?_range (by omega)] at hx
      simp only [Option.map_some, h1, Option.getD_some, Option.some.injEq] at hx
      subst hx; exact h1
    · obtain ⟨q, rfl⟩ : ∃ q, j = q * 2 + 1 := ⟨j / 2, by omega⟩
      obtain ⟨v, _, _, h1⟩ := He' q (by omega)
      rw [eCells_form _ _ _ hul (by omega)] at hx
      injection hx with hx; subst hx; rw [← Nat.add_assoc]; exact h1
theorem Ents.own {w : World} {B : Nat} {v : Value} {es : List Ent} {us : List Value} (ho : w.ownsRow B 54 2 v es.length (eCells us es)) (ha : AllInts w us (es.map Prod.fst)) : Ents w v es := by
  have hul : us.length = es.length := by rw [ha.1]; simp
  have hl := ho.1
  rcases ho.2 with ⟨rfl, h0⟩ | ⟨g, cap, cur, rfl, hg, hh, hnc, hm, hcs, ht⟩
  · exact ⟨none, 0, by rw [h0], by omega, by unfold maxLen; omega, fun i hi => by omega⟩
  · refine ⟨some ⟨g, 0, none⟩, cap, rfl, hnc, hm, fun i hi => ⟨g, 0, rfl, us[i], ?_, ?_, ?_⟩⟩
    · have := ho.cellAt (i * 2) (by omega)
      rw [Nat.zero_add, this, eCells_spec us es i hul, List.getElem?_eq_getElem (by omega)]
    · have := ha.2 i us[i] (List.getElem?_eq_getElem (by omega))
      rwa [map_fst_get] at this
    · have := ho.cellAt (i * 2 + 1) (by omega)
      rw [show 0 + i * 2 + 1 = i * 2 + 1 by omega, this, eCells_form us es i hul hi]
theorem AllInts.erase {w : World} {us : List Value} {ls : List (List Int)} (h : AllInts w us ls) (i : Nat) : AllInts w (us.eraseIdx i) (ls.eraseIdx i) := by
  obtain ⟨h1, h2⟩ := h
  refine ⟨by rw [List.length_eraseIdx, List.length_eraseIdx, h1], fun j x hx => ?_⟩
  rw [List.getElem?_eraseIdx] at hx ⊢
  split at hx
  · rename_i hj; rw [if_pos hj]; exact h2 j x hx
  · rename_i hj; rw [if_neg hj]; exact h2 (j + 1) x hx
theorem eCells_one {w : World} {us : List Value} {es : List Ent} (ha : AllInts w us (es.map Prod.fst)) : ∀ u ∈ eCells us es, u.oneCell' = true := fun u hu => by
  have hul : us.length = es.length := by rw [ha.1]; simp
  obtain ⟨k, hk, he⟩ := List.mem_iff_getElem.1 hu
  have hk2 : (eCells us es)[k]? = some u := by rw [List.getElem?_eq_getElem hk, he]
  rw [eCells_len us es hul] at hk
  rcases Nat.mod_two_eq_zero_or_one k with h | h
  · obtain ⟨q, rfl⟩ : ∃ q, k = q * 2 := ⟨k / 2, by omega⟩
    rw [eCells_spec us es q hul] at hk2
    obtain ⟨_, _, rfl, _⟩ := ha.2 q u hk2; rfl
  · obtain ⟨q, rfl⟩ : ∃ q, k = q * 2 + 1 := ⟨k / 2, by omega⟩
    rw [eCells_form us es q hul (by omega)] at hk2
    injection hk2 with hk2; rw [← hk2]; rfl
theorem own_ne {w : World} {B n g : Nat} {v : Value} {xs : List Value} (h : w.ownsRow B 54 2 v n xs) (hr : ∀ r, some g = some r → ∃ o : Obj, w.heap[r]? = some o ∧ Neither o) : v.ownBlock = none ∨ v.ownBlock ≠ some g := by
  rcases h.2 with ⟨rfl, _⟩ | ⟨g', cap, cur, rfl, _, hgb, _⟩
  · exact .inl rfl
  · refine .inr fun he => ?_
    simp only [Value.ownBlock] at he
    obtain ⟨o, ho, hne⟩ := hr g' he.symm
    rw [hgb] at ho; injection ho with ho
    exact (hne cur).2 ho.symm
/-- a paradigm whose sizes are those and whose entries lie elsewhere -/
def RDrop (sv : Value) (es : List Ent) (w : World) (e : Ending) (w' : World) : Prop := ∃ ev, e = .returned (.agg #[sv, ev]) ∧ Ents w' ev es ∧ Ext w w'

def RDropRaw (sv : Value) (us : List Value) (es : List Ent) (i : Nat) (w : World) (e : Ending) (w' : World) : Prop :=
  ∃ ev, e = .returned (.agg #[sv, ev]) ∧ w'.ownsRow w.heap.size 54 2 ev (es.eraseIdx i).length (eCells (us.eraseIdx i) (es.eraseIdx i)) ∧ Ext w w'
def RDropO (sv : Value) (es : List Ent) (B : Nat) (w : World) (e : Ending) (w' : World) : Prop := ∃ ev, e = .returned (.agg #[sv, ev]) ∧ OEnts w' B ev es ∧ Ext w w'
theorem own_low {w : World} {B B' size n : Nat} {e : TypeId} {v : Value} {xs : List Value} (h : w.ownsRow B e size v n xs) (hB : B' ≤ B) : w.ownsRow B' e size v n xs := by
  refine ⟨h.1, ?_⟩
  rcases h.2 with h | ⟨g, cap, cur, h1, h2, h3⟩
  · exact .inl h
  · exact .inr ⟨g, cap, cur, h1, by omega, h3⟩
set_option maxHeartbeats 1000000 in
set_option maxRecDepth 100000 in
theorem dropRaw_c (sv : Value) (b o ce : Nat) (us : List Value) (sizes : List Int) (es : List Ent) (i : Nat) (w : World) (hsv : Ints w sv sizes) (hai : AllInts w us (es.map Prod.fst)) (hce : ∀ j x, (eCells us es)[j]? = some x → w.cell? ⟨b, o + j, none⟩ = some x)
    (hle : es.length ≤ ce) (hme : ce ≤ 9223372036854775807) (hi : i < es.length) (hn : es.length ≤ 1000) :
    Calls Try.prog 97 #[.agg #[sv, .slice (some ⟨b, o, none⟩) es.length ce], .int .i64 i] w (RDropRaw sv us es i w) := by
  obtain ⟨az, cz, rfl, _⟩ := hsv.open_
  clear hsv
  obtain ⟨wA, hwA⟩ : ∃ wA, wA = (w.alloc (.cells #[.slice az sizes.length cz, .slice (some ⟨b, o, none⟩) es.length ce] 25)).alloc (.cells #[.slice none 0 0, .slice none 0 0] 25) := ⟨_, rfl⟩
  have hE0 : Ext w wA := by rw [hwA]; exact (Ext.alloc _ _).trans (Ext.alloc _ _)
  have hz1 : BoxP wA w.heap.size (.slice az sizes.length cz) (.slice (some ⟨b, o, none⟩) es.length ce) := by rw [hwA]; exact (BoxP.new w _ _ rfl).ext (Ext.alloc _ _)
  have hz2 : BoxP wA (w.heap.size + 1) (.slice none 0 0) (.slice none 0 0) := by rw [hwA]; exact BoxP.new _ _ _ (by simp)
  have hs0 : wA.heap.size = w.heap.size + 2 := by rw [hwA]; simp
  have hic : i ≤ ce := by omega
  have hjc : i + 1 ≤ ce := by omega
  have hjl : i + 1 ≤ es.length := by omega
  have hjz : (0 : Int) ≤ (i : Int) + 1 := by omega
  have hjz2 : (i : Int) + 1 ≤ (es.length : Int) := by omega
  have hul : us.length = es.length := by rw [hai.1]; simp
  have hcl := eCells_len us es hul
  have H1 := Lib.hid (eCells_one hai)
  obtain ⟨A, hA, hsrc⟩ : ∃ A : Addr, (if ce = i + 1 then some (⟨b, o, none⟩ : Addr) else some ⟨b, o + (i + 1) * 2, none⟩) = some A ∧ Hid (∀ (W : World), Ext w W → Raw W 2 (.slice (some A) (es.length - (i + 1)) (ce - (i + 1))) (es.length - (i + 1)) ((eCells us es).drop ((i + 1) * 2))) := by
    by_cases hc : ce = i + 1
    · refine ⟨⟨b, o, none⟩, by simp [hc], fun W hW => ⟨_, _, rfl, by rw [List.length_drop, hcl]; omega, fun h0 => by omega⟩⟩
    · refine ⟨⟨b, o + (i + 1) * 2, none⟩, by simp [hc], fun W hW => ⟨_, _, rfl, by rw [List.length_drop, hcl]; omega, fun h0 => ⟨_, rfl, fun j u hu => ?_⟩⟩⟩
      rw [addr_add, Nat.add_assoc]
      rw [List.getElem?_drop] at hu
      exact hW.keep (hce _ _ hu)
  have hfst : Hid (∀ (W : World), Ext w W → Raw W 2 (.slice (some ⟨b, o, none⟩) i ce) i ((eCells us es).take (i * 2))) := fun W hW => ⟨_, _, rfl, by rw [List.length_take, hcl]; omega, fun h0 => ⟨_, rfl, fun j u hu => by
    rw [addr_add]
    rw [List.getElem?_take] at hu
    split at hu
    · exact hW.keep (hce _ _ hu)
    · cases hu⟩⟩
  have HAI := Lib.hid hai; have HUL := Lib.hid hul
  have HW := Lib.hid hwA; clear hwA hai hce hcl hul
  go_enter Try.func97, Try.ntmps97
  go_wp2_with fail
  rw [← HW.out]
  refine wp_region_peek (Ext wA) (fun _ => True) [15] [.look 0, .look 1, .look 3, .look 4, .look 5, .look 6, .look 8, .look 9, .look 10, .look 11, .look 12, .go 2, .go 7, .go 13, .peek 14, .go 15] (by kernel_rfl) (by kernel_rfl) (by intro c a d v w h; cases d <;> exact h) ?_
  have T := True.intro
  have hd : Ext wA { wA with drawn := wA.drawn + 1 } := drawn_ext wA
  have q0 := fun s : InC (Ext wA) => (hz1.ext s.h).c0
  have q1 := fun s : InC (Ext wA) => (hz1.ext s.h).c1
  have hwr : IntKind.i64.wrap ((i : Int) + 1) = (i : Int) + 1 := IntWalk.i64_in _ (by omega)
  have htn : ((i : Int) + 1).toNat = i + 1 := by omega
  generalize { wA with drawn := wA.drawn + 1 } = W1 at *
  iterate 11 (refine wpPeek_look rfl ‹_› (fun K hK => ?_); go_simp; first | (refine hK _ ?_; clear hK K) | (refine ⟨_, fun _ => rfl, hK _ ?_⟩; clear hK K))
  clear q0 q1 hA hwr htn
  have hX1 := hE0.trans hd
  have hs1 : w.heap.size + 2 ≤ W1.heap.size := by have := hd.size; omega
  refine wpPeek_go rfl rfl (fun K hK => ?_)
  go_wp2_with fail
  refine ⟨KeepE.of (fun h => h.trans (Ext.alloc _ _)) (fun _ => trivial), ?_⟩
  have hown0 : (W1.alloc (.cells #[] 54)).ownsRow W1.heap.size 54 2 (.slice (some ⟨W1.heap.size, 0, none⟩) 0 0) 0 [] :=
    World.ownsRow_lit (size := 2) (e := 54) (base := W1.heap.size) W1 #[] 0 (by omega) (by unfold maxLen; omega) rfl
  have HO := Lib.hid hown0; clear hown0
  refine wpPeek_go rfl rfl (fun K hK => ?_)
  refine wpList_appendAll (n := 0) (m := i) (B := W1.heap.size) elEnts rfl _ _ rfl rfl rfl HO.out (hfst.out _ (hX1.trans (Ext.alloc _ _))) (fun u hu => H1.out u (List.mem_of_mem_take hu)) (by simp) (by omega) (by omega) ?_
  intro v2 W2 ho2 hb2
  have hx2 : Ext W1 W2 := (Ext.alloc _ _).upto hb2 (by omega)
  have HO2 := Lib.hid ho2
  have hKK : Below W1.heap.size (W1.alloc (.cells #[] 54)) W2 := hb2
  clear ho2
  go_wp2_with fail
  refine ⟨KeepE.of (fun h => h.upto hb2 hd.size) (fun _ => trivial), ?_⟩
  refine wpPeek_go rfl rfl (fun K hK => ?_)
  refine wpList_appendAll (m := es.length - (i + 1)) (B := W1.heap.size) elEnts rfl _ _ rfl rfl rfl HO2.out (hsrc.out _ (hX1.trans hx2)) (fun u hu => H1.out u (List.mem_of_mem_drop hu)) hx2.size (by omega) (by omega) ?_
  intro v3 W3 ho3 hb3
  have hx3 : Ext W1 W3 := hx2.upto hb3 (Nat.le_refl _)
  go_wp2_with fail
  refine ⟨KeepE.of (fun h => h.upto hb3 hd.size) (fun _ => trivial), ?_⟩
  have hie : (es.eraseIdx i).length = es.length - 1 := by rw [List.length_eraseIdx_of_lt hi]
  have ho3 : W3.ownsRow W1.heap.size 54 2 v3 (es.eraseIdx i).length (eCells (us.eraseIdx i) (es.eraseIdx i)) := by
    rw [eCells_erase us es i HUL.out, hie, show es.length - 1 = 0 + i + (es.length - (i + 1)) by omega]
    simpa using ho3
  obtain ⟨a3, c3, hv3⟩ : ∃ a3 c3, v3 = .slice a3 (es.length - 1) c3 := by
    rcases ho3.2 with ⟨rfl, h0⟩ | ⟨g, cap, cur, rfl, _⟩
    · exact ⟨none, 0, by rw [← hie, h0]⟩
    · exact ⟨_, _, by rw [hie]⟩
  subst hv3
  have HO3 := Lib.hid ho3; clear ho3 hie
  have hrb := (hz2.ext hd).ext hx3
  have hX3 := hX1.trans hx3
  (refine wpPeek_peek rfl ‹_› (fun K hK => ?_); go_simp; first | (refine hK _ ?_; clear hK K) | (refine ⟨_, fun _ => rfl, hK _ ?_⟩; clear hK K))
  have r0 := hrb.c0
  have r1 := hrb.c1
  have rf0 := hrb.frozen 0
  have rf1 := hrb.frozen 1
  have hp0 := hrb.set0 (.slice az sizes.length cz)
  have hp1 := hp0.set1 (.slice a3 (es.length - 1) c3)
  have q0 := hp1.c0
  have q1 := hp1.c1
  refine wpPeek_go rfl rfl (fun K hK => ?_)
  go_wp2_with fail
  refine ⟨⟨.inl (by decide), fun _ => trivial⟩, ?_⟩
  refine wpPeek_nil ?_
  go_wp2_with fail
  have hX4 := (hX3.setCell (c := w.heap.size + 1) (by omega) 0 (.slice az sizes.length cz)).setCell (c := w.heap.size + 1) (by omega) 1 (.slice a3 (es.length - 1) c3)
  have ho4 := World.ownsRow.kept (World.ownsRow.kept HO3.out (grownBy_set W3 (w.heap.size + 1) 0 (.slice az sizes.length cz)) (own_ne HO3.out hrb.neither)) (grownBy_set _ (w.heap.size + 1) 1 (.slice a3 (es.length - 1) c3)) (own_ne HO3.out hrb.neither)
  refine bodyPost_ret (v := .agg #[.slice az sizes.length cz, .slice a3 (es.length - 1) c3]) ?_ rfl ⟨_, rfl, own_low ho4 (by have := hd.size; omega), hX4⟩
  simp [results, Try.results97, go_sem, q0, q1]
theorem drop_c (sv ev : Value) (sizes : List Int) (es : List Ent) (i : Nat) (w : World) (hp : Par w sv ev sizes es) (hi : i < es.length) (hn : es.length ≤ 1000) :
    Calls Try.prog 97 #[.agg #[sv, ev], .int .i64 i] w (RDrop sv (es.eraseIdx i) w) := by
  obtain ⟨ae, ce, rfl, hle, hme, _⟩ := hp.e.open_
  obtain ⟨b, o, us, rfl, hai, hce⟩ := hp.e.cells_ (by omega)
  refine (dropRaw_c sv b o ce us sizes es i w hp.s hai hce hle hme hi hn).mono ?_
  rintro e w' ⟨ev, rfl, ho, hx⟩
  exact ⟨ev, rfl, Ents.own ho (by rw [map_erase]; exact (hai.ext hx).erase i), hx⟩
theorem dropOwn_c (sv ev : Value) (sizes : List Int) (es : List Ent) (i B : Nat) (w : World) (hs : OInts 3 w B sv sizes) (he : OEnts w B ev es) (hB : B ≤ w.heap.size) (hi : i < es.length) (hn : es.length ≤ 1000) :
    Calls Try.prog 97 #[.agg #[sv, ev], .int .i64 i] w (RDropO sv (es.eraseIdx i) B w) := by
  obtain ⟨g, cap, _, rfl, _⟩ := he.at_ hi
  obtain ⟨us, cur, hg, hh, hnn, hnc, hm, hcs, ht, hal⟩ := he.open_
  have hai : AllInts w us (es.map Prod.fst) := ⟨hal.1, fun i u hu => (hal.2 i u hu).ints⟩
  refine (dropRaw_c sv g 0 cap us sizes es i w hs.ints hai (fun j x hx => ?_) hnc hm hi hn).mono ?_
  · have hj : j < es.length * 2 := by have := (List.getElem?_eq_some_iff.1 hx).1; rwa [eCells_len us es (by rw [hal.1]; simp)] at this
    rw [← ht, List.getElem?_take, if_pos hj] at hx
    rw [Nat.zero_add]
    simpa [World.cell?, hh] using hx
  · rintro e w' ⟨ev, rfl, ho, hx⟩
    exact ⟨ev, rfl, ⟨us.eraseIdx i, own_low ho hB, by rw [map_erase]; exact (hal.ext hx).erase i⟩, hx⟩
end Go.Proofs.Ytoepnpjjmfhnnaa
