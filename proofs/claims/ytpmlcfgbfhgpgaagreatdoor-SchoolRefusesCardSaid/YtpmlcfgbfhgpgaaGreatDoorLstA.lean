/- Lists of a school: copies, insert, delete; the program's package slices. -/
import Derived.Test.YtpmlcfgbfhgpgaaGreatDoorStR
import Derived.Shelf.Spec.SlicesInsertGrow
namespace Go.Proofs.YtpmlcfgbfhgpgaaGreatDoor
open Go.RowKit Go.Shelf
set_option linter.unusedVariables false
theorem Cel.raw {α : Type} {enc : α → List Value} {k : Nat} (hk : ∀ x, (enc x).length = k) (hk0 : 0 < k) {w : World} {v : Value} {L : List α} (h : Cel enc k w v L) : Raw w k v L.length (L.flatMap enc) := by
 obtain ⟨a, cap, hv, _, _, hh⟩ := h
 refine ⟨a, cap, hv, flat_len enc hk L, fun h0 => ?_⟩
 obtain ⟨b, o, ha, _⟩ := hh 0 h0
 refine ⟨⟨b, o, none⟩, ha, fun j u hu => ?_⟩
 have hj : j < L.length * k := by
  have := (List.getElem?_eq_some_iff.1 hu).1
  rwa [flat_len enc hk] at this
 have hi : j / k < L.length := Nat.div_lt_of_lt_mul (by rw [Nat.mul_comm]; exact hj)
 obtain ⟨b', o', ha', hc⟩ := hh (j / k) hi
 rw [ha] at ha'; injection ha' with ha'; injection ha' with hb ho _
 subst hb ho
 have hjk : j / k * k + j % k = j := Nat.div_add_mod' j k
 have hx := List.getElem?_eq_getElem hi
 have h1 := flat_get enc hk L (j / k) (j % k) _ hx (Nat.mod_lt _ hk0)
 rw [hjk, hu] at h1
 have h2 := hc (j % k) _ u hx h1.symm
 rw [addr_add]
 rwa [Nat.add_assoc, hjk] at h2
theorem flat_one {α : Type} {enc : α → List Value} {L : List α} (h : ∀ x u, u ∈ enc x → u.oneCell' = true) : ∀ u ∈ L.flatMap enc, u.oneCell' = true := by
 intro u hu
 obtain ⟨x, _, hx⟩ := List.mem_flatMap.1 hu
 exact h x u hx
def encV (u : Value) : List Value := [u]
theorem encV_len (u : Value) : (encV u).length = 1 := rfl
theorem Rows.cel {w : World} {v : Value} {l : List (List Int)} (h : Rows w v l) : ∃ us, Cel encV 1 w v us ∧ AllInts w us l := by
 obtain ⟨a, c, hv, h1, h2, hh⟩ := h
 have hch : ∀ i, ∃ u, i < l.length → ∃ b o, a = some ⟨b, o, none⟩ ∧ w.cell? ⟨b, o + i, none⟩ = some u ∧ Ints w u (l[i]?.getD []) := by
  intro i
  by_cases hi : i < l.length
  ·obtain ⟨b, o, ha, u, hc, hu⟩ := hh i hi
   exact ⟨u, fun _ => ⟨b, o, ha, hc, hu⟩⟩
  ·exact ⟨.nilIface, fun h => absurd h hi⟩
 obtain ⟨f, hf⟩ := Classical.axiomOfChoice hch
 have hl : ((List.range l.length).map f).length = l.length := by simp
 have hat : ∀ i u, ((List.range l.length).map f)[i]? = some u → i < l.length ∧ f i = u := by
  intro i u hu
  have hi : i < l.length := by
   have := (List.getElem?_eq_some_iff.1 hu).1
   rwa [hl] at this
  rw [List.getElem?_map, List.getElem?_range hi] at hu
  injection hu with hu
  exact ⟨hi, hu⟩
 refine ⟨(List.range l.length).map f, ⟨a, c, by rw [hl]; exact hv, by rw [hl]; exact h1, h2, fun i hi => ?_⟩, hl, fun i u hu => ?_⟩
 ·rw [hl] at hi
  obtain ⟨b, o, ha, hc, _⟩ := hf i hi
  refine ⟨b, o, ha, fun j x u hx hu => ?_⟩
  obtain ⟨_, hx⟩ := hat i x hx
  subst hx
  have hj : j = 0 := by
   have := (List.getElem?_eq_some_iff.1 hu).1
   simp [encV] at this; omega
  subst hj
  simp only [encV, List.getElem?_cons_zero, Option.some.injEq] at hu
  subst hu
  rwa [Nat.mul_one, Nat.add_zero]
 ·obtain ⟨hi, hx⟩ := hat i u hu
  subst hx
  obtain ⟨_, _, _, _, hu⟩ := hf i hi
  exact hu
theorem Rows.of_cel {w : World} {v : Value} {us : List Value} {l : List (List Int)} (h : Cel encV 1 w v us) (ha : AllInts w us l) : Rows w v l := by
 obtain ⟨a, c, hv, h1, h2, hh⟩ := h
 refine ⟨a, c, by rw [← ha.1]; exact hv, by rw [← ha.1]; exact h1, h2, fun i hi => ?_⟩
 have hi' : i < us.length := by rw [ha.1]; exact hi
 obtain ⟨b, o, hb, hc⟩ := hh i hi'
 have hx := List.getElem?_eq_getElem hi'
 refine ⟨b, o, hb, us[i], ?_, ha.2 i _ hx⟩
 have := hc 0 _ us[i] hx rfl
 rwa [Nat.mul_one, Nat.add_zero] at this
theorem AllInts.sub {w w' : World} {us : List Value} {ls : List (List Int)} (h : AllInts w us ls) (hx : Sub w w') : AllInts w' us ls := ⟨h.1, fun i u hu => (h.2 i u hu).sub hx⟩
theorem AllInts.take {w : World} {us : List Value} {ls : List (List Int)} (h : AllInts w us ls) (n : Nat) : AllInts w (us.take n) (ls.take n) := by
 refine ⟨by simp [h.1], fun i u hu => ?_⟩
 have hi : i < n := by
  rcases Nat.lt_or_ge i n with hi | hi
  ·exact hi
  ·rw [List.getElem?_eq_none (by simp; omega)] at hu; cases hu
 rw [List.getElem?_take_of_lt hi] at hu
 rw [List.getElem?_take_of_lt hi]
 exact h.2 i u hu
theorem Cel.takeS {α : Type} {enc : α → List Value} {k : Nat} {w : World} {a : Option Addr} {c n : Nat} {L : List α} (h : Cel enc k w (.slice a n c) L) {m : Nat} (hm : m ≤ L.length) : Cel enc k w (.slice a m c) (L.take m) := by
 obtain ⟨a', c', hv, h1, h2, hh⟩ := h
 injection hv with e1 e2 e3
 subst e1 e3
 have hl : (L.take m).length = m := by simp; omega
 refine ⟨a, c, by rw [hl], by rw [hl]; omega, h2, fun i hi => ?_⟩
 rw [hl] at hi
 obtain ⟨b, o, ha, hc⟩ := hh i (by omega)
 refine ⟨b, o, ha, fun j x u hx hu => hc j x u ?_ hu⟩
 rwa [List.getElem?_take_of_lt hi] at hx
theorem elCh : ElTy Tryz.prog 37 46 3 24 (.agg #[.int .i64 0, .int .i64 0, .int .i64 0]) := ⟨Tryz.underlying37, by kernel_rfl, rfl, by omega⟩
theorem elRows : ElTy Tryz.prog 75 34 1 24 (.slice none 0 0) := ⟨Tryz.underlying75, by kernel_rfl, rfl, by omega⟩
theorem encCh_one (x : Ch) (u : Value) (h : u ∈ encCh x) : u.oneCell' = true := by
 simp only [encCh, List.mem_cons, List.not_mem_nil, or_false] at h
 rcases h with rfl | rfl | rfl <;> rfl
theorem encT_one (x : ByteArray) (u : Value) (h : u ∈ encT x) : u.oneCell' = true := by
 simp only [encT, List.mem_cons, List.not_mem_nil, or_false] at h
 subst h; rfl
theorem Ints.one' {w : World} {u : Value} {l : List Int} (h : Ints w u l) : u.oneCell' = true := by obtain ⟨_, _, rfl, _⟩ := h; rfl
theorem AllInts.one {w : World} {us : List Value} {ls : List (List Int)} (h : AllInts w us ls) : ∀ u ∈ us.flatMap encV, u.oneCell' = true := by
 intro u hu
 obtain ⟨x, hx, hu⟩ := List.mem_flatMap.1 hu
 simp only [encV, List.mem_cons, List.not_mem_nil, or_false] at hu
 subst hu
 obtain ⟨i, hi, rfl⟩ := List.mem_iff_getElem.1 hx
 exact (h.2 i _ (List.getElem?_eq_getElem hi)).one'
def ROCel {α : Type} (enc : α → List Value) (k : Nat) (e : TypeId) (L : List α) (w : World) (en : Ending) (w' : World) : Prop := ∃ v, en = .returned v ∧ OCel enc k e w' w.heap.size v L ∧ Ext w w'
set_option maxHeartbeats 1000000 in
set_option maxRecDepth 100000 in
theorem cloneChs_c (va : Value) (L : List Ch) (w : World) (ha : Chs w va L) (hn : L.length ≤ 100000) :
  Calls Tryz.prog 71 #[va] w (ROCel encCh 3 46 L w) := by
 have ha' := ha
 obtain ⟨aa, ca, rfl, hla, hma, Ha⟩ := ha.open_
 have HA := Lib.hid ha'
 clear ha' ha
 have hnil := fun (W : World) (a : Option Addr) (n c n' c' : Nat) => Lib.run_eql_slice_nil (P := Tryz.prog) W 37 46 a n c n' c' Tryz.underlying37
 cases aa with
 | none =>
  have hl : L = [] := by
   cases L with
   | nil => rfl
   | cons x xs => obtain ⟨b, o, h, _⟩ := Ha.out 0 x rfl; cases h
  subst hl
  clear Ha HA
  go_enter Tryz.func71, Tryz.ntmps71
  go_wp2_with fail
  go_ret
  exact ⟨_, rfl, OCel.nil _ _ _ _ _, Ext.refl _⟩
 | some ad =>
  have hown : (w.alloc (.cells #[] 46)).ownsRow w.heap.size 46 3 (.slice (some ⟨w.heap.size, 0, none⟩) 0 0) 0 [] :=
   World.ownsRow_lit (size := 3) w #[] 0 (Nat.le_refl _) (by unfold maxLen; omega) rfl
  go_enter Tryz.func71, Tryz.ntmps71
  go_wp2_with (at_builtin; refine wpList_appendAll elCh rfl _ _ rfl rfl rfl hown (Cel.raw encCh_len (by omega) (HA.out.ext (Ext.alloc _ _))) (flat_one encCh_one) (by simp) (by omega) (by omega) ?_; intro v' w' hown2 hb2)
  go_ret
  refine ⟨_, rfl, ?_, (Ext.alloc _ _).upto hb2 (by simp)⟩
  rw [Nat.zero_add, List.nil_append] at hown2
  exact hown2
set_option maxHeartbeats 1000000 in
set_option maxRecDepth 100000 in
theorem cloneStrs_c (va : Value) (L : List ByteArray) (w : World) (ha : Strs w va L) (hn : L.length ≤ 100000) :
  Calls Tryz.prog 103 #[va] w (ROCel encT 1 9 L w) := by
 have ha' := ha
 obtain ⟨aa, ca, rfl, hla, hma, Ha⟩ := ha.open_
 have HA := Lib.hid ha'
 clear ha' ha
 have hnil := fun (W : World) (a : Option Addr) (n c n' c' : Nat) => Lib.run_eql_slice_nil (P := Tryz.prog) W 23 9 a n c n' c' Tryz.underlying23
 cases aa with
 | none =>
  have hl : L = [] := by
   cases L with
   | nil => rfl
   | cons x xs => obtain ⟨b, o, h, _⟩ := Ha.out 0 x rfl; cases h
  subst hl
  clear Ha HA
  go_enter Tryz.func103, Tryz.ntmps103
  go_wp2_with fail
  go_ret
  exact ⟨_, rfl, OCel.nil _ _ _ _ _, Ext.refl _⟩
 | some ad =>
  have hown : (w.alloc (.cells #[] 9)).ownsRow w.heap.size 9 1 (.slice (some ⟨w.heap.size, 0, none⟩) 0 0) 0 [] :=
   World.ownsRow_lit (size := 1) w #[] 0 (Nat.le_refl _) (by unfold maxLen; omega) rfl
  go_enter Tryz.func103, Tryz.ntmps103
  go_wp2_with (at_builtin; refine wpList_appendAll elStr rfl _ _ rfl rfl rfl hown (Cel.raw encT_len (by omega) (HA.out.ext (Ext.alloc _ _))) (flat_one encT_one) (by simp) (by omega) (by omega) ?_; intro v' w' hown2 hb2)
  go_ret
  refine ⟨_, rfl, ?_, (Ext.alloc _ _).upto hb2 (by simp)⟩
  rw [Nat.zero_add, List.nil_append] at hown2
  exact hown2
set_option maxHeartbeats 1000000 in
set_option maxRecDepth 100000 in
theorem cloneRows_c (va : Value) (us : List Value) (L : List (List Int)) (w : World) (ha : Cel encV 1 w va us) (hu : AllInts w us L) (hn : us.length ≤ 100000) :
  Calls Tryz.prog 153 #[va] w (ROCel encV 1 34 us w) := by
 have ha' := ha
 obtain ⟨aa, ca, rfl, hla, hma, Ha⟩ := ha.open_
 have HA := Lib.hid ha'
 have HU := Lib.hid hu.one
 clear ha' ha hu
 have hnil := fun (W : World) (a : Option Addr) (n c n' c' : Nat) => Lib.run_eql_slice_nil (P := Tryz.prog) W 75 34 a n c n' c' Tryz.underlying75
 cases aa with
 | none =>
  have hl : us = [] := by
   cases us with
   | nil => rfl
   | cons x xs => obtain ⟨b, o, h, _⟩ := Ha.out 0 x rfl; cases h
  subst hl
  clear Ha HA
  go_enter Tryz.func153, Tryz.ntmps153
  go_wp2_with fail
  go_ret
  exact ⟨_, rfl, OCel.nil _ _ _ _ _, Ext.refl _⟩
 | some ad =>
  have hown : (w.alloc (.cells #[] 34)).ownsRow w.heap.size 34 1 (.slice (some ⟨w.heap.size, 0, none⟩) 0 0) 0 [] :=
   World.ownsRow_lit (size := 1) w #[] 0 (Nat.le_refl _) (by unfold maxLen; omega) rfl
  go_enter Tryz.func153, Tryz.ntmps153
  go_wp2_with (at_builtin; refine wpList_appendAll elRows rfl _ _ rfl rfl rfl hown (Cel.raw encV_len (by omega) (HA.out.ext (Ext.alloc _ _))) HU.out (by simp) (by omega) (by omega) ?_; intro v' w' hown2 hb2)
  go_ret
  refine ⟨_, rfl, ?_, (Ext.alloc _ _).upto hb2 (by simp)⟩
  rw [Nat.zero_add, List.nil_append] at hown2
  exact hown2
def setAll (l : List Value) : Nat → List Value → List Value
 | _, [] => l
 | o, v :: r => setAll (l.set o v) (o + 1) r
theorem Blk.setCells {W : World} {g : Nat} {ty : TypeId} : ∀ (vs : List Value) (o : Nat) {W : World} {l : List Value}, Blk W g ty l → Blk (W.setCells g o vs) g ty (setAll l o vs)
 | [], _, _, _, h => h
 | v :: r, o, _, _, h => Blk.setCells (W := W) r (o + 1) (h.set o v)
theorem setAll_eq : ∀ (vs : List Value) (l : List Value) (o : Nat), o + vs.length ≤ l.length → setAll l o vs = l.take o ++ (vs ++ l.drop (o + vs.length)) := by
 intro vs
 induction vs with
 | nil => intro l o _; simp [setAll]
 | cons v r ih =>
  intro l o h
  simp only [List.length_cons] at h
  rw [setAll, ih _ _ (by simp; omega)]
  have h1 : (l.set o v).take (o + 1) = l.take o ++ [v] := by
   rw [List.set_eq_take_append_cons_drop, if_pos (by omega), List.take_append, List.take_take, List.length_take, show min (o + 1) o = o by omega, show o + 1 - min o l.length = 1 by omega]
   rfl
  have h2 : (l.set o v).drop (o + 1 + r.length) = l.drop (o + (r.length + 1)) := by
   rw [List.drop_set_of_lt (by omega), show o + 1 + r.length = o + (r.length + 1) by omega]
  rw [h1, h2]; simp
theorem below_setCellsS {B g : Nat} (hg : B ≤ g) : ∀ (vs : List Value) (o : Nat) {W W' : World}, Below B W W' → Below B W (W'.setCells g o vs)
 | [], _, _, _, h => h
 | v :: r, o, _, _, h => below_setCellsS hg r (o + 1) (Below.trans h (by
   refine ⟨rfl, rfl, rfl, by simp [World.setCell], fun k hk => Below.heap_setCell _ _ _ k (fun e => by dsimp only at e; omega)⟩))
theorem blk_own {W : World} {g B cap n : Nat} {e : TypeId} {L xs : List Value} (h : Blk W g e L) (hB : B ≤ g) (hL : L.length = cap) (hn : n ≤ cap) (hc : cap ≤ maxLen) (hx : L.take n = xs) : W.ownsRow B e 1 (.slice (some ⟨g, 0, none⟩) n cap) n xs := by
 refine ⟨by rw [← hx]; simp; omega, .inr ⟨g, cap, L.toArray, rfl, hB, h, hn, hc, by simp [hL], by simp [hx]⟩⟩
def insRen : Go.Shelf.Ren := ⟨fun | 21 => 193 | 27 => 220 | 28 => 221 | 35 => 248 | 39 => 260 | n => n, fun | 0 => 0 | 3 => 3 | 4 => 4 | 22 => 34 | n => n, fun n => n⟩
theorem insLays : Lays2.n21 Tryz.prog insRen := { mixed := by kernel_rfl, f21 := by kernel_rfl, f27 := by kernel_rfl, f28 := by kernel_rfl, f35 := by kernel_rfl, f39 := by kernel_rfl, t0 := by kernel_rfl, a0 := fun _ => by kernel_rfl, z0 := fun _ => by kernel_rfl, v0 := fun _ => by kernel_rfl, t3 := by kernel_rfl, a3 := fun _ => by kernel_rfl, z3 := fun _ => by kernel_rfl, v3 := fun _ => by kernel_rfl, t4 := by kernel_rfl, a4 := fun _ => by kernel_rfl, z4 := fun _ => by kernel_rfl, v4 := fun _ => by kernel_rfl, t22 := by kernel_rfl, a22 := fun _ => by kernel_rfl, z22 := fun _ => by kernel_rfl, v22 := fun _ => by kernel_rfl, i3 := by kernel_rfl }
def RInsB (B : Nat) (l : List Int) (w : World) (e : Ending) (w' : World) : Prop := ∃ u, e = .returned u ∧ OInts 3 w' B u l ∧ Below B w w'
theorem ints_ins (l : List Int) (i : Nat) (n : Int) : ints (l.take i ++ n :: l.drop i) = (ints l).take i ++ .int .i64 n :: (ints l).drop i := by simp [ints, List.map_take, List.map_drop]
theorem drew_below (B : Nat) (W : World) : Below B W W.drew := ⟨rfl, rfl, rfl, Nat.le_refl _, fun _ _ => rfl⟩
theorem Blk.drew {W : World} {g : Nat} {ty : TypeId} {l : List Value} (h : Blk W g ty l) : Blk W.drew g ty l := h
theorem ints_end (l : List Int) (n : Int) : (ints l).take l.length ++ Value.int .i64 n :: (ints l).drop l.length = ints l ++ [Value.int .i64 n] := by
 rw [List.take_of_length_le (by simp), List.drop_eq_nil_of_le (by simp)]
theorem insert_c (B : Nat) (v : Value) (l : List Int) (i : Nat) (n : Int) (g : Nat) (w : World) (h : OInts 3 w B v l) (hg : Blk w g 3 [.int .i64 n]) (hne : v.ownBlock ≠ some g) (hi : i ≤ l.length) (hB : B ≤ w.heap.size) (hl : l.length ≤ 1000) :
  Calls Tryz.prog 193 #[v, .int .i64 i, .slice (some ⟨g, 0, none⟩) 1 1] w (RInsB B (l.take i ++ n :: l.drop i) w) := by
 have hvs : ∀ (j : Nat) (v : Value), [Value.int .i64 n][j]? = some v → w.cell? ⟨g, 0 + j, none⟩ = some v := fun j v hv => by rw [Nat.zero_add]; exact hg.cell hv
 have h1v : ∀ v ∈ [Value.int .i64 n], v.oneCell' = true := fun v hv => by simp only [List.mem_singleton] at hv; subst hv; rfl
 have h1c : ∀ v ∈ ints l, v.oneCell' = true := ints_one l
 have hcl : (ints l).length = l.length := ints_length l
 have hlen : (l.take i ++ n :: l.drop i).length = l.length + 1 := by simp; omega
 have hsa : w.shape? g = some (3, 1) := by unfold Blk at hg; simp [World.shape?, hg]
 rcases h.2 with ⟨rfl, h0⟩ | ⟨b, c, cur, rfl, hbB, hb, hnc, hc, hcs, ht⟩
 ·have hl0 : l = [] := List.length_eq_zero_iff.1 h0
  subst hl0
  obtain rfl : i = 0 := by simpa using hi
  refine (Any2.slices_Insert_int_end_grow insLays none 0 0 g 0 1 1 [] [.int .i64 n] w (by omega) (Nat.le_refl _) (by omega) (by omega) rfl rfl (fun _ => rfl) (fun a ha => by cases ha) hvs h1v).mono ?_
  rintro e w' ⟨rfl, rfl⟩
  simp only [show insRen.t 3 = 3 from rfl]
  refine ⟨_, rfl, ?_, (drew_below B w).alloc hB _⟩
  unfold OInts
  refine blk_own (L := [Value.int .i64 n] ++ (Builtin.zeroCells (Value.int .i64 0).cells (grownCap w (0 + 1) 0 3 - (0 + 1))).toList) ?_ hB ?_ (grownCap_ge _ _ _ _) (grownCap_le_maxLen _ _ _ _ (by unfold maxLen; omega)) ?_
  ·have := Blk.alloc w.drew (([] ++ [Value.int .i64 n] : List Value).toArray ++ Builtin.zeroCells (Value.int .i64 0).cells (grownCap w (0 + 1) 0 3 - (0 + 1))) 3
   simpa using this
  ·have := grownCap_ge w (0 + 1) 0 3
   have h2 : (Builtin.zeroCells (Value.int .i64 0).cells (grownCap w (0 + 1) 0 3 - (0 + 1))).size = (grownCap w (0 + 1) 0 3 - (0 + 1)) * 1 := size_zeroCells _ _
   simp only [List.length_append, List.length_cons, List.length_nil, Array.length_toList, h2]; omega
  ·simp [ints]
 ·have hB2 : Blk w b 3 cur.toList := hb
  have hcur : cur.toList.length = c := by simp [hcs]
  have ht' : cur.toList.take l.length = ints l := by simpa using ht
  have hcs' : ∀ (j : Nat) (v : Value), (ints l)[j]? = some v → w.cell? ⟨b, 0 + j, none⟩ = some v := fun j v hv => by
   rw [Nat.zero_add]
   refine hB2.cell ?_
   rw [← ht'] at hv
   have hj : j < l.length := by
    rcases Nat.lt_or_ge j l.length with hj | hj
    ·exact hj
    ·rw [List.getElem?_eq_none (by simp; omega)] at hv; cases hv
   rwa [List.getElem?_take_of_lt hj] at hv
  have hbg : g ≠ b := fun e => hne (by rw [e]; rfl)
  have htk : ∀ k, k ≤ l.length → cur.toList.take k = (ints l).take k := fun k hk => by rw [← ht', List.take_take, Nat.min_eq_left hk]
  by_cases hroom : l.length + 1 ≤ c
  ·have hfz : ∀ k, w.frozen? ⟨b, k, none⟩ = false := hB2.frozen
   have hsp : ∀ k, k < c → (w.cell? ⟨b, k, none⟩).isSome = true := fun k hk => by
    rw [hB2.cell (List.getElem?_eq_getElem (by rw [hcur]; exact hk))]; rfl
   by_cases hin : i < l.length
   ·have hsb : w.shape? b = some (3, c) := by simp [World.shape?, hb, hcs]
    refine (Any2.slices_Insert_int_shift insLays b 0 l.length c i g 0 1 1 (ints l) [.int .i64 n] w hin (by omega) hroom (by unfold maxLen at hc; omega) hbg hcl rfl hcs' (fun j hj => hsp _ (by omega)) (fun j _ => hfz _) hvs h1c h1v 3 3 1 c hsa hsb (by omega) (hg.frozen 0) (hg.frozen 1)).mono ?_
    rintro e w' ⟨rfl, rfl⟩
    refine ⟨_, rfl, ?_, below_setCellsS hbB _ _ (below_setCellsS hbB _ _ (drew_below B w))⟩
    unfold OInts
    rw [hlen]
    have hk := Blk.setCells (W := w) [.int .i64 n] (0 + i) (Blk.setCells (W := w) ((ints l).drop i) (0 + (i + 1)) hB2.drew)
    have hd : ((ints l).drop i).length = l.length - i := by simp
    have e1 : setAll cur.toList (0 + (i + 1)) ((ints l).drop i) = cur.toList.take (i + 1) ++ ((ints l).drop i ++ cur.toList.drop (l.length + 1)) := by
     rw [setAll_eq _ _ _ (by rw [hd, hcur]; omega), hd, Nat.zero_add, show i + 1 + (l.length - i) = l.length + 1 by omega]
    have hlen1 : (setAll cur.toList (0 + (i + 1)) ((ints l).drop i)).length = c := by
     rw [e1]; simp only [List.length_append, List.length_take, List.length_drop, hcur, hd]; omega
    refine blk_own hk hbB ?_ hroom hc ?_
    ·rw [setAll_eq [.int .i64 n] (setAll cur.toList (0 + (i + 1)) ((ints l).drop i)) (0 + i) (by rw [hlen1]; simp; omega)]
     simp only [List.length_append, List.length_take, List.length_drop, List.length_cons, List.length_nil, hlen1]; omega
    ·have q1 : (cur.toList.take (i + 1) ++ ((ints l).drop i ++ cur.toList.drop (l.length + 1))).take i = (ints l).take i := by
      rw [List.take_append_of_le_length (by simp [hcur]; omega), List.take_take, Nat.min_eq_left (by omega), htk i hi]
     have q2 : (cur.toList.take (i + 1) ++ ((ints l).drop i ++ cur.toList.drop (l.length + 1))).drop (i + 1) = (ints l).drop i ++ cur.toList.drop (l.length + 1) := by
      rw [List.drop_append_of_le_length (by simp [hcur]; omega), List.drop_eq_nil_of_le (by simp; omega)]; rfl
     have h3 : setAll (setAll cur.toList (0 + (i + 1)) ((ints l).drop i)) (0 + i) [.int .i64 n] = ((ints l).take i ++ Value.int .i64 n :: (ints l).drop i) ++ cur.toList.drop (l.length + 1) := by
      rw [setAll_eq [.int .i64 n] (setAll cur.toList (0 + (i + 1)) ((ints l).drop i)) (0 + i) (by rw [hlen1]; simp; omega), e1, Nat.zero_add]
      simp only [List.length_cons, List.length_nil, Nat.zero_add]
      rw [q1, q2]; simp
     rw [h3, ints_ins, List.take_append_of_le_length (by simp; omega), List.take_of_length_le (by simp; omega)]
   ·obtain rfl : i = l.length := by omega
    refine (Any2.slices_Insert_int_end_room insLays b 0 l.length c g 0 1 1 [.int .i64 n] w (by omega) hroom (by unfold maxLen at hc; omega) rfl (fun j hj => hsp _ (by omega)) (fun j _ => hfz _) hvs h1v).mono ?_
    rintro e w' ⟨rfl, rfl⟩
    refine ⟨_, rfl, ?_, below_setCellsS hbB _ _ (Below.refl B w)⟩
    unfold OInts
    rw [hlen]
    have hk := Blk.setCells (W := w) [.int .i64 n] (0 + l.length) hB2
    refine blk_own hk hbB ?_ hroom hc ?_
    ·rw [setAll_eq _ _ _ (by simp [hcur]; omega)]
     simp only [List.length_append, List.length_take, List.length_drop, List.length_cons, List.length_nil, hcur]; omega
    ·rw [setAll_eq _ _ _ (by simp [hcur]; omega), Nat.zero_add, ints_ins, ht', ints_end]
     rw [← List.append_assoc, List.take_append_of_le_length (by simp), List.take_of_length_le (by simp)]
  ·by_cases hin : i < l.length
   ·refine (Any2.slices_Insert_int_grow insLays b 0 l.length c i g 0 1 1 (ints l) [.int .i64 n] w hin (by omega) hnc (by omega) (by omega) hcl rfl hcs' hvs h1c h1v).mono ?_
    rintro e w' ⟨rfl, rfl⟩
    simp only [show insRen.t 3 = 3 from rfl]
    have hge := grownCap_ge w (l.length + 1) c 3
    refine ⟨_, rfl, ?_, ?_⟩
    ·unfold OInts
     rw [hlen]
     have h2 : ∀ k, (Builtin.zeroCells (Value.int .i64 0).cells k).size = k * 1 := fun k => size_zeroCells _ _
     have ha := Blk.alloc w (((ints l).take i).toArray ++ Builtin.zeroCells (Value.int .i64 0).cells (l.length + 1 - i) ++ Builtin.zeroCells (Value.int .i64 0).cells (grownCap w (l.length + 1) c 3 - (l.length + 1))) 3
     have hk := Blk.setCells (W := w) ((ints l).drop i) (i + 1) (Blk.drew (Blk.setCells (W := w) [.int .i64 n] i ha.drew))
     generalize hA : (((ints l).take i).toArray ++ Builtin.zeroCells (Value.int .i64 0).cells (l.length + 1 - i) ++ Builtin.zeroCells (Value.int .i64 0).cells (grownCap w (l.length + 1) c 3 - (l.length + 1))) = A at *
     have hAl : A.toList.length = grownCap w (l.length + 1) c 3 := by
      rw [← hA]
      simp only [Array.toList_append, List.length_append, Array.length_toList, h2, List.length_take, ints_length]; omega
     have hAt : A.toList.take i = (ints l).take i := by
      rw [← hA]
      simp only [Array.toList_append, List.append_assoc]
      rw [List.take_append_of_le_length (by simp; omega), List.take_of_length_le (by simp; omega)]
     have hd : ((ints l).drop i).length = l.length - i := by simp
     have e1 : setAll A.toList i [Value.int .i64 n] = (ints l).take i ++ ([Value.int .i64 n] ++ A.toList.drop (i + 1)) := by
      rw [setAll_eq _ _ _ (by rw [hAl]; simp; omega), hAt]; rfl
     have hl1 : (setAll A.toList i [Value.int .i64 n]).length = grownCap w (l.length + 1) c 3 := by
      rw [e1]; simp only [List.length_append, List.length_take, List.length_drop, List.length_cons, List.length_nil, hAl, ints_length]; omega
     refine blk_own hk hB ?_ hge (grownCap_le_maxLen _ _ _ _ (by unfold maxLen; omega)) ?_
     ·rw [setAll_eq _ _ _ (by rw [hl1, hd]; omega)]
      simp only [List.length_append, List.length_take, List.length_drop, hl1, ints_length]; omega
     ·rw [setAll_eq _ _ _ (by rw [hl1, hd]; omega), ints_ins]
      have h3 : (setAll A.toList i [Value.int .i64 n]).take (i + 1) = (ints l).take i ++ [Value.int .i64 n] := by
       rw [e1, ← List.append_assoc, List.take_append_of_le_length (by simp; omega), List.take_of_length_le (by simp; omega)]
      rw [h3, ← List.append_assoc, List.take_append_of_le_length (by simp; omega), List.take_of_length_le (by simp; omega)]
      simp
    ·exact below_setCellsS hB _ _ (Below.trans (below_setCellsS hB _ _ (Below.trans ((Below.refl B w).alloc hB _) (drew_below B _))) (drew_below B _))
   ·obtain rfl : i = l.length := by omega
    refine (Any2.slices_Insert_int_end_grow insLays (some ⟨b, 0, none⟩) l.length c g 0 1 1 (ints l) [.int .i64 n] w (by omega) hnc (by omega) (by omega) hcl rfl (fun h => by cases h) (fun a ha j v hv => by injection ha with ha; subst ha; rw [addr_add]; exact hcs' j v hv) hvs h1v).mono ?_
    rintro e w' ⟨rfl, rfl⟩
    simp only [show insRen.t 3 = 3 from rfl]
    have hge := grownCap_ge w (l.length + 1) c 3
    refine ⟨_, rfl, ?_, (drew_below B w).alloc hB _⟩
    unfold OInts
    rw [hlen]
    have h2 : ∀ k, (Builtin.zeroCells (Value.int .i64 0).cells k).size = k * 1 := fun k => size_zeroCells _ _
    have ha := Blk.alloc w.drew ((ints l ++ [Value.int .i64 n]).toArray ++ Builtin.zeroCells (Value.int .i64 0).cells (grownCap w (l.length + 1) c 3 - (l.length + 1))) 3
    refine blk_own ha hB ?_ hge (grownCap_le_maxLen _ _ _ _ (by unfold maxLen; omega)) ?_
    ·simp only [Array.toList_append, List.length_append, Array.length_toList, h2, ints_length, List.length_cons, List.length_nil]; omega
    ·rw [ints_ins, ints_end]
     simp only [Array.toList_append]
     rw [List.take_append_of_le_length (by simp), List.take_of_length_le (by simp)]
theorem ints_del (l : List Int) (i : Nat) : ints (l.take i ++ l.drop (i + 1)) = (ints l).take i ++ (ints l).drop (i + 1) := by simp [ints, List.map_take, List.map_drop]
theorem delete_c (B : Nat) (v : Value) (l : List Int) (i : Nat) (w : World) (h : OInts 3 w B v l) (hi : i < l.length) (hl : l.length ≤ 1000) :
  Calls Tryz.prog 191 #[v, .int .i64 i, .int .i64 ((i : Int) + 1)] w (RInsB B (l.take i ++ l.drop (i + 1)) w) := by
 rcases h.2 with ⟨rfl, h0⟩ | ⟨b, c, cur, rfl, hbB, hb, hnc, hc, hcs, ht⟩
 ·omega
 ·have hB2 : Blk w b 3 cur.toList := hb
  have hcur : cur.toList.length = c := by simp [hcs]
  have ht' : cur.toList.take l.length = ints l := by simpa using ht
  have hcells : ∀ j, j < l.length → w.cell? ⟨b, 0 + j, none⟩ = some (.int .i64 (l.getD j 0)) := fun j hj => by
   rw [Nat.zero_add]
   refine hB2.cell ?_
   have := ints_get l j hj
   rw [← ht', List.getElem?_take_of_lt hj] at this
   rw [this]; simp
  have := Tryz.slices_Delete_int_cells b 0 l.length c i (i + 1) l w (Nat.le_refl _) hnc (by unfold maxLen at hc; omega) (by omega) hi hcells (fun j _ => hB2.frozen _)
  refine Calls.mono this ?_
  rintro e w' ⟨rfl, q, rfl⟩
  rw [List.take_length]
  refine ⟨_, rfl, ?_, below_setCellsS hbB _ _ ((Ext.drewN w q).mono (by exact Nat.le_of_lt (Nat.lt_of_le_of_lt hbB hB2.lt)))⟩
  have hlen : (l.take i ++ l.drop (i + 1)).length = l.length - (i + 1 - i) := by simp; omega
  unfold OInts
  rw [hlen]
  have hd : Blk (w.drewN q) b 3 cur.toList := hB2
  have hk := Blk.setCells (W := w) ((l.take i ++ l.drop (i + 1) ++ List.replicate (i + 1 - i) 0).map (Value.int .i64)) 0 hd
  have hm : ((l.take i ++ l.drop (i + 1) ++ List.replicate (i + 1 - i) 0).map (Value.int .i64)).length = l.length := by simp; omega
  refine blk_own hk hbB ?_ (by omega) hc ?_
  ·rw [setAll_eq _ _ _ (by rw [hm]; omega)]
   simp only [List.length_append, List.length_take, List.length_drop, hm, hcur]; omega
  ·rw [setAll_eq _ _ _ (by rw [hm]; omega), ints_del]
   have h3 : (l.take i ++ l.drop (i + 1) ++ List.replicate (i + 1 - i) 0).map (Value.int .i64) = ((ints l).take i ++ (ints l).drop (i + 1)) ++ (List.replicate (i + 1 - i) (0 : Int)).map (Value.int .i64) := by
    simp [ints, List.map_take, List.map_drop]
   rw [List.take_zero, List.nil_append, h3, List.append_assoc, List.take_append_of_le_length (by simp; omega), List.take_of_length_le (by simp; omega)]
theorem bsearch_c (v : Value) (l : List Int) (x : Int) (w : World) (h : Ints w v l) (hs : l.Pairwise (· < ·)) (hl : l.length ≤ 1000) :
  Calls Tryz.prog 192 #[v, .int .i64 x] w (RV (.tuple #[.int .i64 (l.countP (· < x) : Nat), .bool (l.contains x)]) w) := by
 obtain ⟨a, c, rfl, h1, h2, H⟩ := h.open_
 rcases Nat.eq_zero_or_pos l.length with h0 | h0
 ·have hl0 : l = [] := List.length_eq_zero_iff.1 h0
  subst hl0
  refine (Tryz.slices_BinarySearch_int_empty a c x w).mono ?_
  rintro e w' ⟨rfl, rfl⟩
  exact ⟨rfl, Ext.refl _⟩
 ·obtain ⟨b, o, rfl, _⟩ := H.out 0 h0
  have hc : ∀ j, j < l.length → w.cell? ⟨b, o + j, none⟩ = some (.int .i64 (l.getD j 0)) := fun j hj => by
   obtain ⟨b', o', ha, hc⟩ := H.out j hj
   injection ha with ha; injection ha with e1 e2 _
   subst e1 e2
   rw [hc]; simp
  refine (Tryz.slices_BinarySearch_int b o l.length c l x w (Nat.le_refl _) (by omega) hc (by rw [List.take_length]; exact hs.imp fun h => Int.le_of_lt h)).mono ?_
  rintro e w' ⟨rfl, q, rfl⟩
  rw [List.take_length]
  exact ⟨rfl, Ext.drewN _ _⟩
theorem srt_take (n : Int) : ∀ {l : List Int}, l.Pairwise (· < ·) → l.filter (· < n) = l.take (l.countP (· < n))
 | [], _ => rfl
 | x :: l, h => by
  rw [List.pairwise_cons] at h
  by_cases hx : x < n
  ·rw [List.filter_cons_of_pos (by simpa using hx), List.countP_cons_of_pos (by simpa using hx), List.take_succ_cons, srt_take n h.2]
  ·have hn : ∀ y ∈ l, ¬ decide (y < n) = true := fun y hy => by have := h.1 y hy; simp; omega
   rw [List.filter_cons_of_neg (by simpa using hx), List.countP_cons_of_neg (by simpa using hx), List.filter_eq_nil_iff.2 hn, List.countP_eq_zero.2 hn]
   rfl
theorem srt_drop (n : Int) : ∀ {l : List Int}, l.Pairwise (· < ·) → n ∉ l → l.filter (n < ·) = l.drop (l.countP (· < n))
 | [], _, _ => rfl
 | x :: l, h, hn => by
  rw [List.pairwise_cons] at h
  have hne : n ≠ x := fun e => hn (by rw [e]; simp)
  by_cases hx : x < n
  ·rw [List.filter_cons_of_neg (by simp; omega), List.countP_cons_of_pos (by simpa using hx), List.drop_succ_cons, srt_drop n h.2 (fun hm => hn (by simp [hm]))]
  ·have h0 : ∀ y ∈ l, ¬ decide (y < n) = true := fun y hy => by have := h.1 y hy; simp; omega
   have h1 : ∀ y ∈ x :: l, decide (n < y) = true := fun y hy => by
    rcases List.mem_cons.1 hy with rfl | hy
    ·simp; omega
    ·have := h.1 y hy; simp; omega
   rw [List.filter_eq_self.2 h1, List.countP_cons_of_neg (by simpa using hx), List.countP_eq_zero.2 h0]
   rfl
theorem srt_ne (n : Int) : ∀ {l : List Int}, l.Pairwise (· < ·) → n ∈ l → l.filter (· != n) = l.take (l.countP (· < n)) ++ l.drop (l.countP (· < n) + 1) ∧ l.countP (· < n) < l.length
 | x :: l, h, hn => by
  rw [List.pairwise_cons] at h
  rcases List.mem_cons.1 hn with rfl | hm
  ·have h0 : ∀ y ∈ l, ¬ decide (y < n) = true := fun y hy => by have := h.1 y hy; simp; omega
   have h1 : ∀ y ∈ l, (y != n) = true := fun y hy => by have := h.1 y hy; simp; omega
   rw [List.filter_cons_of_neg (by simp), List.countP_cons_of_neg (by simp), List.countP_eq_zero.2 h0, List.filter_eq_self.2 h1]
   simp
  ·have hx := h.1 n hm
   obtain ⟨e1, e2⟩ := srt_ne n h.2 hm
   rw [List.filter_cons_of_pos (by simp; omega), List.countP_cons_of_pos (by simpa using hx), e1]
   simp; omega
theorem nodup_ne (n : Int) : ∀ {l : List Int} {i : Nat}, l.Nodup → i < l.length → l[i]?.getD 0 = n → l.filter (· != n) = l.take i ++ l.drop (i + 1)
 | [], i, _, hi, _ => by simp at hi
 | x :: l, 0, h, _, hn => by
  rw [List.nodup_cons] at h
  have hn : x = n := by simpa using hn
  subst hn
  have h1 : ∀ y ∈ l, (y != x) = true := fun y hy => by
   have : y ≠ x := fun e => h.1 (e ▸ hy)
   simpa using this
  rw [List.filter_cons_of_neg (by simp), List.filter_eq_self.2 h1]
  simp
 | x :: l, i + 1, h, hi, hn => by
  rw [List.nodup_cons] at h
  have hi : i < l.length := by simpa using hi
  have hn : l[i]?.getD 0 = n := by simpa using hn
  have hne : x ≠ n := fun e => h.1 (by rw [e, ← hn, List.getElem?_eq_getElem hi]; exact List.getElem_mem hi)
  rw [List.filter_cons_of_pos (by simpa using hne), nodup_ne n h.2 hi hn]
  simp
end Go.Proofs.YtpmlcfgbfhgpgaaGreatDoor
