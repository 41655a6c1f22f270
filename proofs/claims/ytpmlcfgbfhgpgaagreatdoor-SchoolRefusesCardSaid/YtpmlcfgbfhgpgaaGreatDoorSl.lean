/- Small functions of package slices at ints, and of the first reference; words on memory. -/
import Derived.Test.YtpmlcfgbfhgpgaaGreatDoorOwn
import Derived.Test.YtpmlcfgbfhgpgaaGreatDoorRefOne
import Derived.Test.YtpmlcfgbfhgpgaaGreatDoorPeek
import Derived.Test.YtpmlcfgbfhgpgaaGreatDoorIter
import Derived.Deep.Cut
import Derived.RangeFuncBox
namespace Go.Proofs.YtpmlcfgbfhgpgaaGreatDoor
open Go.RowKit Go.Shelf
set_option linter.unusedVariables false
set_option maxHeartbeats 400000 in
theorem indexFunc_c (va : Value) (l : List Int) (g : Nat) (lb : Array Value) (p : Int → Bool) (w : World) (eg : Enters Tryz.prog g)
  (hg : ∀ W i, Ext w W → i < l.length → Calls Tryz.prog g (#[.int .i64 (l[i]?.getD 0)] ++ lb) W (RV (.bool (p (l[i]?.getD 0))) W)) (ha : Ints w va l) :
  Calls Tryz.prog 198 #[va, .func (.func g) #[] lb] w (RV (.int .i64 (firstIdx l.length fun i => p (l[i]?.getD 0))) w) := by
 obtain ⟨aa, ca, rfl, hla, hma, Ha⟩ := ha.open_
 clear ha
 unfold Enters at eg
 have Hg := Lib.hid hg; clear hg
 go_enter Tryz.func198, Tryz.ntmps198
 go_wp2_with fail
 go_loopg [8] l.length (fun m i wr => ∃ k : Nat, k ≤ l.length ∧ l.length ≤ k + m ∧ i = .int .i64 k ∧ Ext w wr ∧ Hid (∀ j, j < k → p (l[j]?.getD 0) = false))
 case atStart => exact ⟨0, by omega, by omega, rfl, Ext.refl _, fun j hj => by omega⟩
 case round =>
  obtain ⟨k, hk, hk2, rfl, hB, hE⟩ := hrel
  by_cases hlt : k < l.length
  ·obtain ⟨ba, oa, rfl, hc1⟩ := Ha.out k hlt
   replace hc1 := hB.keep hc1
   have HG := Lib.hid (Hg.out wr k hB hlt)
   generalize hx : l[k]?.getD 0 = x at *
   have Hx := Lib.hid hx; clear hx
   cases hxy : p x
   ·have HX := Lib.hid hxy; clear hxy
    go_wp2_with (go_at_fn g; refine (HG.out).mono ?_; rw [HX.out]; rintro e w' ⟨rfl, hB2⟩)
    go_roundg (gk-1)
    case measure => omega
    case rel => exact ⟨k+1, by omega, by omega, by go_num, hB.trans hB2, range_step hE.out (by rw [Hx.out]; exact HX.out)⟩
   ·have HX := Lib.hid hxy; clear hxy
    go_wp2_with (go_at_fn g; refine (HG.out).mono ?_; rw [HX.out]; rintro e w' ⟨rfl, hB2⟩)
    go_ret
    exact RV.int (by rw [firstIdx_at hlt (by rw [Hx.out]; exact HX.out) hE.out]) (hB.trans hB2)
  ·go_wp2_with fail
   go_ret
   exact RV.int (by rw [firstIdx_none (fun j hj => hE.out j (by omega))]) hB
theorem firstIdx_ge (n : Nat) (f : Nat → Bool) : decide (0 ≤ firstIdx n f) = (List.range n).any f := by
 rcases firstIdx_cases n f with ⟨j, hj, ht, _, he⟩ | ⟨h, he⟩
 ·rw [he]
  have : (List.range n).any f = true := by rw [List.any_eq_true]; exact ⟨j, by simp [hj], ht⟩
  rw [this]; simp
 ·rw [he]
  have : (List.range n).any f = false := by rw [List.any_eq_false]; intro x hx; simp [h x (by simpa using hx)]
  rw [this]; simp
set_option maxHeartbeats 400000 in
theorem containsFunc_c (va : Value) (l : List Int) (g : Nat) (lb : Array Value) (p : Int → Bool) (w : World) (eg : Enters Tryz.prog g)
  (hg : ∀ W i, Ext w W → i < l.length → Calls Tryz.prog g (#[.int .i64 (l[i]?.getD 0)] ++ lb) W (RV (.bool (p (l[i]?.getD 0))) W)) (ha : Ints w va l) :
  Calls Tryz.prog 162 #[va, .func (.func g) #[] lb] w (RV (.bool ((List.range l.length).any fun i => p (l[i]?.getD 0))) w) := by
 have HH := Lib.hid (indexFunc_c va l g lb p w eg hg ha); clear hg
 rw [← firstIdx_ge]
 generalize firstIdx l.length (fun i => p (l[i]?.getD 0)) = n at *
 go_enter Tryz.func162, Tryz.ntmps162
 go_wp2_with (go_at_call 198; refine HH.out.mono ?_; rintro e w' ⟨rfl, hB2⟩)
 go_ret
 exact RV.bool rfl hB2
theorem any_range (l : List Int) (p : Int → Bool) : ((List.range l.length).any fun i => p (l[i]?.getD 0)) = l.any p := by
 rw [Bool.eq_iff_iff, List.any_eq_true, List.any_eq_true]
 constructor
 ·rintro ⟨i, hi, hp⟩
  have hi : i < l.length := by simpa using hi
  exact ⟨l[i], List.getElem_mem hi, by simpa [hi] using hp⟩
 ·rintro ⟨x, hx, hp⟩
  obtain ⟨i, hi, rfl⟩ := List.mem_iff_getElem.1 hx
  exact ⟨i, by simpa using hi, by simpa [hi] using hp⟩
theorem elInts : ElTy Tryz.prog 34 3 1 8 (.int .i64 0) := ⟨Tryz.underlying34, by kernel_rfl, rfl, by omega⟩
def ROInts (e : TypeId) (l : List Int) (w : World) (en : Ending) (w' : World) : Prop := ∃ v, en = .returned v ∧ OInts e w' w.heap.size v l ∧ Ext w w'
set_option maxHeartbeats 400000 in
theorem cloneInts_c (va : Value) (l : List Int) (w : World) (ha : Ints w va l) (hn : l.length ≤ 100000000) :
  Calls Tryz.prog 69 #[va] w (ROInts 3 l w) := by
 have ha' := ha
 obtain ⟨aa, ca, rfl, hla, hma, Ha⟩ := ha.open_
 have HA := Lib.hid ha'
 clear ha' ha
 have hnil := fun (W : World) (a : Option Addr) (n c n' c' : Nat) => Lib.run_eql_slice_nil (P := Tryz.prog) W 34 3 a n c n' c' Tryz.underlying34
 cases aa with
 | none =>
  have hl : l = [] := by
   cases l with
   | nil => rfl
   | cons x xs => obtain ⟨b, o, h, _⟩ := Ha.out 0 (by simp); cases h
  subst hl
  clear Ha HA
  go_enter Tryz.func69, Tryz.ntmps69
  go_wp2_with fail
  go_ret
  exact ⟨_, rfl, OInts.nil _ _ _, Ext.refl _⟩
 | some ad =>
  have hown : (w.alloc (.cells #[] 3)).ownsRow w.heap.size 3 1 (.slice (some ⟨w.heap.size, 0, none⟩) 0 0) 0 [] :=
   World.ownsRow_lit (size := 1) w #[] 0 (Nat.le_refl _) (by unfold maxLen; omega) rfl
  go_enter Tryz.func69, Tryz.ntmps69
  go_wp2_with (at_builtin; refine wpList_appendAll elInts rfl _ _ rfl rfl rfl hown ((HA.out.ext (Ext.alloc _ _)).raw) (ints_one l) (by simp) (by omega) (by omega) ?_; intro v' w' hown2 hb2)
  go_ret
  exact ⟨_, rfl, by simpa [OInts] using hown2, (Ext.alloc _ _).upto hb2 (by simp)⟩
theorem grownBy_set (W : World) (c i : Nat) (v : Value) : W.grownBy (W.setCell ⟨c, i, none⟩ v) (some c) :=
 ⟨rfl, rfl, rfl, by simp [World.setCell], fun k _ hk => Below.heap_setCell _ _ _ k (fun e => hk (by rw [e]))⟩
theorem grown_below {w00 w0 W : World} {row : Option Nat} (hx : Ext w00 w0) (h : w0.grownBy W row) (hr : ∀ r, row = some r → w00.heap.size ≤ r) : Ext w00 W :=
 Below.trans hx ⟨h.os, h.tape, h.output, h.size, fun k hk => h.block k (Nat.lt_of_lt_of_le hk hx.size) (fun e => by have := hr k e.symm; omega)⟩
theorem ownBlock_cells {e : TypeId} {W : World} {B n size : Nat} {v : Value} {xs : List Value} (h : W.ownsRow B e size v n xs) : ∀ r, v.ownBlock = some r → ∃ cur, W.heap[r]? = some (.cells cur e (0, 0)) ∧ B ≤ r := by
 intro r hr
 rcases h.2 with ⟨rfl, _⟩ | ⟨g, cap, cur, rfl, hg, hgb, _⟩
 ·cases hr
 ·simp only [Value.ownBlock, Option.some.injEq] at hr
  subst hr; exact ⟨cur, hgb, hg⟩
theorem alloc_cell (W : World) (cs : Array Value) (t : TypeId) {i : Nat} {v : Value} (h : cs[i]? = some v) : (W.alloc (.cells cs t)).cell? ⟨W.heap.size, i, none⟩ = some v := by
 unfold World.cell?
 dsimp only
 rw [World.alloc_heap_new W (.cells cs t)]
 simp [h]
set_option maxHeartbeats 400000 in
theorem equalInts_c (va vb : Value) (a b : List Int) (w : World) (ha : Ints w va a) (hb : Ints w vb b) :
  Calls Tryz.prog 92 #[va, vb] w (RQ (sameIntsB a b) w) := by
 obtain ⟨aa, ca, rfl, hla, hma, Hca⟩ := ha.open_
 obtain ⟨ab, cb, rfl, hlb, hmb, Hcb⟩ := hb.open_
 clear ha hb
 by_cases hl : a.length = b.length
 ·have H1 : ((a.length : Int) != (b.length : Int)) = false := by simp [hl]
  have hl1 : b.length ≤ a.length := by omega
  have hl2 : a.length ≤ b.length := by omega
  have HL := Lib.hid hl; clear hl
  go_enter Tryz.func92, Tryz.ntmps92
  go_wp2_with fail
  go_loopg [13] a.length (fun m i wr => ∃ k : Nat, k ≤ a.length ∧ a.length ≤ k + m ∧ i = .int .i64 k ∧ (∃ n, wr = w.drewN n) ∧ Hid (∀ j, j < k → (a[j]?.getD 0 == b[j]?.getD 0) = true))
  case atStart => exact ⟨0, by omega, by omega, rfl, ⟨0, rfl⟩, fun j hj => by omega⟩
  case round =>
   obtain ⟨k, hk, hk2, rfl, ⟨nd, hwr⟩, hE⟩ := hrel
   have hwx : Ext w wr := by rw [hwr]; exact Ext.drewN _ _
   have HW := Lib.hid hwr; clear hwr
   by_cases hlt : k < a.length
   ·obtain ⟨ba, oa, rfl, hc1⟩ := Hca.out k hlt
    obtain ⟨bb, ob, rfl, hc2⟩ := Hcb.out k (by omega)
    replace hc1 := hwx.keep hc1
    replace hc2 := hwx.keep hc2
    generalize hx : a[k]?.getD 0 = x at *
    generalize hy : b[k]?.getD 0 = y at *
    have Hx := Lib.hid hx; have Hy := Lib.hid hy; clear hx hy
    by_cases hxy : x = y
    ·subst hxy
     have hn : (x != x) = false := by simp
     go_wp2_with fail
     go_quiet (fail)
     go_wp2_with fail
     go_roundg (gk-1)
     case measure => omega
     case rel => exact ⟨k+1, by omega, by omega, by go_num, ⟨_, by rw [HW.out, World.drewN_drewN]⟩, range_step hE.out (by rw [Hx.out, Hy.out]; simp)⟩
    ·have hn : (x != y) = true := by simp [hxy]
     have HX := Lib.hid hxy; clear hxy
     go_wp2_with fail
     go_quiet (fail)
     go_wp2_with fail
     go_ret
     exact RQ.mkW (n := nd) (by rw [sameIntsB, allB_false hlt (by rw [Hx.out, Hy.out]; simpa using HX.out)]; simp) HW.out _
   ·go_wp2_with fail
    go_ret
    exact RQ.mkV (n := nd) (by rw [sameIntsB, allB_true (fun j hj => hE.out j (by omega))]; simp [HL.out]) HW.out
 ·have H1 : ((a.length : Int) != (b.length : Int)) = true := by simp; omega
  have HL := Lib.hid hl; clear hl
  go_enter Tryz.func92, Tryz.ntmps92
  go_wp2_with fail
  go_ret
  exact RQ.mk0 (by have := HL.out; simp [sameIntsB, this])
def hasB (l : List Int) (x : Int) : Bool := (List.range l.length).any fun i => l[i]?.getD 0 == x
theorem hasB_eq (l : List Int) (x : Int) : hasB l x = l.contains x := by
 have := any_range l (fun y => y == x)
 rw [hasB, this, Bool.eq_iff_iff]
 simp
theorem hasB_yes {l : List Int} {x : Int} {k : Nat} (hk : k < l.length) (h : (l[k]?.getD 0 == x) = true) : hasB l x = true := by
 rw [hasB, List.any_eq_true]; exact ⟨k, by simpa using hk, h⟩
theorem hasB_no {l : List Int} {x : Int} (h : ∀ j, j < l.length → (l[j]?.getD 0 == x) = false) : hasB l x = false := by
 rw [hasB, List.any_eq_false]; intro j hj; rw [h j (by simpa using hj)]; decide
set_option maxHeartbeats 400000 in
theorem has_c (v : Value) (l : List Int) (x : Int) (w : World) (h : Ints w v l) : Calls Tryz.prog 263 #[v, .int .i64 x] w (RP (.bool (hasB l x)) w) := by
 obtain ⟨a, c, rfl, h1, h2, H⟩ := h.open_
 clear h
 go_enter Tryz.func263, Tryz.ntmps263
 go_wp2_with fail
 go_loopg [5] l.length (fun m i wr => ∃ k : Nat, k ≤ l.length ∧ l.length ≤ k + m ∧ i = .int .i64 k ∧ w = wr ∧ Hid (∀ j, j < k → (l[j]?.getD 0 == x) = false))
 case atStart => exact ⟨0, by omega, by omega, rfl, rfl, fun j hj => by omega⟩
 case round =>
  obtain ⟨k, hk, hk2, rfl, rfl, hE⟩ := hrel
  by_cases hlt : k < l.length
  ·obtain ⟨ba, oa, rfl, hc1⟩ := H.out k hlt
   generalize hy : l[k]?.getD 0 = y at *
   have HY := Lib.hid hy; clear hy
   cases hxy : (y == x)
   ·go_wp2_with fail
    have HX := Lib.hid hxy; clear hxy
    go_roundg (gk-1)
    case measure => omega
    case rel => exact ⟨k+1, by omega, by omega, by go_num, rfl, range_step hE.out (by rw [HY.out]; exact HX.out)⟩
   ·go_wp2_with fail
    go_ret
    exact RP.bool (by rw [hasB_yes hlt (by rw [HY.out]; exact hxy)])
  ·go_wp2_with fail
   go_ret
   exact RP.bool (by rw [hasB_no (fun j hj => hE.out j (by omega))])
set_option maxHeartbeats 400000 in
theorem index_c (va : Value) (l : List Int) (x : Int) (w : World) (ha : Ints w va l) :
  Calls Tryz.prog 155 #[va, .int .i64 x] w (RP (.int .i64 (firstIdx l.length fun i => x == l[i]?.getD 0)) w) := by
 obtain ⟨aa, ca, rfl, hla, hma, Ha⟩ := ha.open_
 clear ha
 go_enter Tryz.func155, Tryz.ntmps155
 go_wp2_with fail
 go_loopg [8] l.length (fun m i wr => ∃ k : Nat, k ≤ l.length ∧ l.length ≤ k + m ∧ i = .int .i64 k ∧ w = wr ∧ Hid (∀ j, j < k → (x == l[j]?.getD 0) = false))
 case atStart => exact ⟨0, by omega, by omega, rfl, rfl, fun j hj => by omega⟩
 case round =>
  obtain ⟨k, hk, hk2, rfl, rfl, hE⟩ := hrel
  by_cases hlt : k < l.length
  ·obtain ⟨ba, oa, rfl, hc1⟩ := Ha.out k hlt
   generalize hy : l[k]?.getD 0 = y at *
   have HY := Lib.hid hy; clear hy
   cases hxy : (x == y)
   ·go_wp2_with fail
    have HX := Lib.hid hxy; clear hxy
    go_roundg (gk-1)
    case measure => omega
    case rel => exact ⟨k+1, by omega, by omega, by go_num, rfl, range_step hE.out (by rw [HY.out]; exact HX.out)⟩
   ·go_wp2_with fail
    go_ret
    exact RP.int (by rw [firstIdx_at hlt (by rw [HY.out]; exact hxy) hE.out])
  ·go_wp2_with fail
   go_ret
   exact RP.int (by rw [firstIdx_none (fun j hj => hE.out j (by omega))])
set_option maxHeartbeats 400000 in
theorem contains_c (va : Value) (l : List Int) (x : Int) (w : World) (ha : Ints w va l) :
  Calls Tryz.prog 105 #[va, .int .i64 x] w (RP (.bool (hasB l x)) w) := by
 have HH := Lib.hid (index_c va l x w ha); clear ha
 have he : hasB l x = decide (0 ≤ firstIdx l.length fun i => x == l[i]?.getD 0) := by
  rw [firstIdx_ge, hasB]
  congr 1
  funext i
  exact Bool.beq_comm
 rw [he]
 generalize firstIdx l.length (fun i => x == l[i]?.getD 0) = n at *
 clear he
 go_enter Tryz.func105, Tryz.ntmps105
 go_wp2_with fail
 refine HH.out.mono ?_; rintro e w' ⟨rfl, rfl⟩
 go_wp2_with fail
 go_ret
 exact RP.bool (by first | rfl | simp)
theorem Ext.setCell {w W : World} (h : Ext w W) {c : Nat} (hc : w.heap.size ≤ c) (i : Nat) (v : Value) : Ext w (W.setCell ⟨c, i, none⟩ v) :=
 ⟨h.os, h.tape, h.output, by simpa [World.setCell] using h.size, fun k hk => (Below.heap_setCell _ _ _ k (fun e => by dsimp only at e; omega)).trans (h.block k hk)⟩
theorem OInts.kept {w w' : World} {B : Nat} {u : Value} {l : List Int} {row : Option Nat} (h : OInts 3 w B u l) (hg : w.grownBy w' row) (hr : ∀ r, row = some r → ∃ o : Obj, w.heap[r]? = some o ∧ ∀ cur, o ≠ .cells cur 3 (0, 0)) : OInts 3 w' B u l := by
 refine World.ownsRow.kept h hg ?_
 rcases h.2 with ⟨rfl, _⟩ | ⟨g, cap, cur, rfl, _, hgb, _⟩
 ·exact .inl rfl
 ·refine .inr fun he => ?_
  simp only [Value.ownBlock] at he
  obtain ⟨o, ho, hne⟩ := hr g he.symm
  rw [hgb] at ho
  injection ho with ho
  exact hne cur ho.symm
theorem OInts.low {e : TypeId} {w : World} {B B' : Nat} {v : Value} {l : List Int} (h : OInts e w B v l) (hB : B' ≤ B) : OInts e w B' v l := by
 refine ⟨h.1, ?_⟩
 rcases h.2 with h | ⟨g, cap, cur, h1, h2, h3⟩
 ·exact .inl h
 ·exact .inr ⟨g, cap, cur, h1, by omega, h3⟩
def R2 (S : World → Value → Prop) (k : Int) (w : World) (e : Ending) (w' : World) : Prop := ∃ v, e = .returned (.tuple #[v, .int .i64 k]) ∧ S w' v ∧ Ext w w'
theorem R2.mk {S : World → Value → Prop} {k : Int} {w w' : World} {v : Value} (hs : S w' v) (hx : Ext w w') : R2 S k w (.returned (.tuple #[v, .int .i64 k])) w' := ⟨v, rfl, hs, hx⟩
theorem ints_nil_c (w : World) : Ints w (.slice none 0 0) [] := ⟨none, 0, rfl, Nat.le_refl _, by unfold maxLen; omega, fun i hi => by simp at hi⟩
theorem sameIntsB_refl (l : List Int) : sameIntsB l l = true := by rw [sameIntsB_iff]; exact beq_self_eq_true l
end Go.Proofs.YtpmlcfgbfhgpgaaGreatDoor
