/- Slices of the call's own: append, what they read as. Plain lemmas over any program. -/
import Derived.Test.YtpmlcfgbfhgpgaaGreatDoorLib
import Derived.Maps.AppendAt
import Derived.Deep.AppendLies
import Derived.OwnWalk
namespace Go.Proofs.YtpmlcfgbfhgpgaaGreatDoor
open Go.RowKit
set_option linter.unusedVariables false
structure ElTy (P : Program) (t e : TypeId) (size bytes : Nat) (z : Value) : Prop where
 ht : P.underlying t = some (.slice e)
 info : (P.info? e).map (fun i => (i.zero, i.size, i.bytes)) = some (some z, size, bytes)
 zc : z.cells.size = size
 pos : 0 < size
theorem Below.of_grownBy {B : Nat} {w w' : World} {v : Value} {e : TypeId} {size n : Nat} {xs : List Value} (hg : w.grownBy w' v.ownBlock) (hown : w.ownsRow B e size v n xs) (hB : B ≤ w.heap.size) : Below B w w' :=
 (Below.refl B w).grown hg hB fun k hk => (hown.lt k hk).1
theorem wpList_append1 {P : Program} {ops : Array Oper} {rest : List Oper} {o : Oper} {a : Act} {Q : Exit → Act → World → Prop} {W : World} {B : Nat} {t e : TypeId} {bytes : Nat} {z : Value} {v u : Value} {n g : Nat} {xs : List Value}
  (hT : ElTy P t e 1 bytes z) (hgd : o.guard = none) (s x : Operand) (ho : o.op = .call { callee := .builtin .append, args := #[s, x], argTypes := #[t, t] })
  (hs : a.eval s = v) (hx : a.eval x = .slice (some ⟨g, 0, none⟩) 1 1) (hown : W.ownsRow B e 1 v n xs) (hg : W.heap.size = g) (hu : u.oneCell' = true) (hB : B ≤ W.heap.size)
  (hlen : (n + 1) * bytes ≤ 140737488355328) (hn : n + 1 ≤ 9223372036854775807)
  (h : ∀ v' w', w'.ownsRow B e 1 v' (n + 1) (xs ++ [u]) → Below B W w' → wpList P ops Q rest (a.put o.dst v') w') : wpList P ops Q (o :: rest) a (W.alloc (.cells #[u] e)) := by
 subst hg
 obtain ⟨i0, hi, hz0, hz1, hz2⟩ := info_parts hT.info
 refine wpList_append_own (W.alloc (.cells #[u] e)) hgd s x t ho B e i0 z 1 bytes hT.ht hi hz0 hz1 hz2 hT.zc hT.pos v n xs hs (hown.alloc _) ⟨W.heap.size, 0, none⟩ 1 1 [u] hx rfl (cell_one_new W u e) (by simp [hu])
  (by unfold maxLen; omega) hlen (by simp; omega) (fun v' w' h1 h2 _ => ?_)
 refine h v' w' h1 ?_
 exact ((Below.refl B W).alloc hB _).trans (Below.of_grownBy h2 (hown.alloc _) (by simp; omega))
def Raw (w : World) (size : Nat) (v : Value) (n : Nat) (xs : List Value) : Prop :=
 ∃ (a : Option Addr) (cap : Nat), v = .slice a n cap ∧ xs.length = n * size ∧ (0 < n → ∃ ad, a = some ad ∧ ∀ j u, xs[j]? = some u → w.cell? (ad.add j) = some u)
theorem run_append_nil {P : Program} (w : World) (base : Nat) (t ty e : TypeId) (i : TypeInfo) (size : Nat) (ht : P.underlying t = some (.slice e)) (hi : P.info? e = some i)
  (v : Value) (n : Nat) (xs : List Value) (hown : w.ownsRow base e size v n xs) (c : Nat) : (Builtin.append_ #[t, t] ty #[v, .slice none 0 c]).run P w = .ok v w := by
 rcases hown.2 with ⟨rfl, rfl⟩ | ⟨g, cap, cur, rfl, _, _, hnc, _⟩
 ·simp [Builtin.append_, run_underlying ht, sizeOf, typeInfo, hi, Builtin.lenOf, Builtin.firstCells]
 ·simp [Builtin.append_, run_underlying ht, sizeOf, typeInfo, hi, Builtin.lenOf, Builtin.firstCells, hnc, storeCells]
theorem run_append_raw {P : Program} (w : World) (B : Nat) {t e : TypeId} (ty : TypeId) {size bytes : Nat} {z : Value} (hT : ElTy P t e size bytes z)
  (v : Value) (n : Nat) (xs : List Value) (hown : w.ownsRow B e size v n xs) (vx : Value) (m : Nat) (news : List Value) (hr : Raw w size vx m news) (h1 : ∀ u ∈ news, u.oneCell' = true)
  (hlen : (n + m) * bytes ≤ 140737488355328) (hn : n + m ≤ 9223372036854775807) (hB : B ≤ w.heap.size) :
  ∃ v' w', (Builtin.append_ #[t, t] ty #[v, vx]).run P w = .ok v' w' ∧ w'.ownsRow B e size v' (n + m) (xs ++ news) ∧ Below B w w' := by
 obtain ⟨i0, hi, hz0, hz1, hz2⟩ := info_parts hT.info
 obtain ⟨A, c, rfl, hl, hc⟩ := hr
 rcases A with _ | ad
 ·have hm : m = 0 := by
   rcases Nat.eq_zero_or_pos m with h0 | h0
   ·exact h0
   ·obtain ⟨ad, h, _⟩ := hc h0; cases h
  subst hm
  have hn : news = [] := List.eq_nil_of_length_eq_zero (by simpa using hl)
  subst hn
  exact ⟨v, w, run_append_nil w B t ty e i0 size hT.ht hi v n xs hown c, by simpa using hown, Below.refl _ _⟩
 ·have hcells : ∀ j u, news[j]? = some u → w.cell? (ad.add j) = some u := by
   intro j u hu
   rcases Nat.eq_zero_or_pos m with h0 | h0
   ·subst h0
    have hn : news = [] := List.eq_nil_of_length_eq_zero (by simpa using hl)
    subst hn; simp at hu
   ·obtain ⟨ad', h, hc⟩ := hc h0
    injection h with h; subst h
    exact hc j u hu
  obtain ⟨v', w', hrun, h2, h3, _, _⟩ := run_append_own_at (P := P) w B t ty e i0 z size bytes hT.ht hi hz0 hz1 hz2 hT.zc hT.pos v n xs hown ad m c news hl hcells h1 (by unfold maxLen; omega) hlen hB
  exact ⟨v', w', hrun, h2, Below.of_grownBy h3 hown hB⟩
theorem wpList_appendAll {P : Program} {ops : Array Oper} {rest : List Oper} {o : Oper} {a : Act} {Q : Exit → Act → World → Prop} {W : World} {B : Nat} {t e : TypeId} {size bytes : Nat} {z : Value} {v vx : Value} {n m : Nat} {xs news : List Value}
  (hT : ElTy P t e size bytes z) (hgd : o.guard = none) (s x : Operand) (ho : o.op = .call { callee := .builtin .append, args := #[s, x], argTypes := #[t, t] })
  (hs : a.eval s = v) (hx : a.eval x = vx) (hown : W.ownsRow B e size v n xs) (hr : Raw W size vx m news) (h1 : ∀ u ∈ news, u.oneCell' = true) (hB : B ≤ W.heap.size)
  (hlen : (n + m) * bytes ≤ 140737488355328) (hn : n + m ≤ 9223372036854775807)
  (h : ∀ v' w', w'.ownsRow B e size v' (n + m) (xs ++ news) → Below B W w' → wpList P ops Q rest (a.put o.dst v') w') : wpList P ops Q (o :: rest) a W := by
 refine wpList_plain hgd fun _ hK => ?_
 obtain ⟨v', w', hrun, h2, h3⟩ := run_append_raw (P := P) W B o.type hT v n xs hown vx m news hr h1 hlen hn hB
 unfold Oper.wp execOp
 simp only [ho, resolve, invoke, builtin, Sem.run_bind, Sem.run_pure, Result.andThen_ok, List.map_toArray, List.map_cons, List.map_nil, hs, hx, hrun]
 exact hK _ _ (h v' w' h2 h3)
def ints (l : List Int) : List Value := l.map (Value.int .i64)
@[simp] theorem ints_length (l : List Int) : (ints l).length = l.length := by simp [ints]
@[simp] theorem ints_nil : ints [] = [] := rfl
theorem ints_append (a b : List Int) : ints (a ++ b) = ints a ++ ints b := by simp [ints]
theorem ints_get (l : List Int) (i : Nat) (h : i < l.length) : (ints l)[i]? = some (.int .i64 (l[i]?.getD 0)) := by simp [ints, h]
theorem ints_one (l : List Int) : ∀ u ∈ ints l, u.oneCell' = true := by
 intro u hu; obtain ⟨x, _, rfl⟩ := List.mem_map.1 hu; rfl
theorem addr_add (b o j : Nat) : (⟨b, o, none⟩ : Addr).add j = ⟨b, o + j, none⟩ := by
 unfold Addr.add; split
 ·subst_vars; rfl
 ·rfl
theorem Sl.own {w : World} {B : Nat} {e : TypeId} {v : Value} {n : Nat} {xs : List Value} (h : w.ownsRow B e 1 v n xs) {R : Nat → Nat → Nat → Prop}
  (hr : ∀ i b u, i < n → xs[i]? = some u → w.cell? ⟨b, 0 + i, none⟩ = some u → R i b 0) : Sl v n R := by
 have hl := h.1
 rcases h.2 with ⟨rfl, rfl⟩ | ⟨g, cap, cur, rfl, hg, hh, hnc, hm, hcs, ht⟩
 ·exact ⟨none, 0, rfl, Nat.le_refl _, by unfold maxLen; omega, fun i hi => by omega⟩
 ·refine ⟨some ⟨g, 0, none⟩, cap, rfl, hnc, hm, fun i hi => ⟨g, 0, rfl, ?_⟩⟩
  have hi' : i < xs.length := by omega
  refine hr i g xs[i] hi (List.getElem?_eq_getElem hi') ?_
  have := h.cellAt i (by omega)
  rw [Nat.zero_add, this, List.getElem?_eq_getElem hi']
theorem Ints.own {w : World} {B : Nat} {e : TypeId} {v : Value} {l : List Int} (h : w.ownsRow B e 1 v l.length (ints l)) : Ints w v l :=
 Sl.own h fun i b u hi hu hc => by
  rw [ints_get l i hi] at hu; injection hu with hu; rw [hu]; exact hc
def OInts (e : TypeId) (w : World) (B : Nat) (v : Value) (l : List Int) : Prop := w.ownsRow B e 1 v l.length (ints l)
theorem OInts.nil (e : TypeId) (w : World) (B : Nat) : OInts e w B (.slice none 0 0) [] := World.ownsRow_nil _ _ _ _
theorem OInts.alloc {e : TypeId} {w : World} {B : Nat} {v : Value} {l : List Int} (h : OInts e w B v l) (o : Obj) : OInts e (w.alloc o) B v l := World.ownsRow.alloc h o
theorem OInts.ints {e : TypeId} {w : World} {B : Nat} {v : Value} {l : List Int} (h : OInts e w B v l) : Ints w v l := Ints.own h
theorem ownsRow_ext {e : TypeId} {w w' : World} {B size n : Nat} {v : Value} {xs : List Value} (h : w.ownsRow B e size v n xs) (hx : Ext w w') : w'.ownsRow B e size v n xs :=
 h.kept (row := none) ⟨hx.os, hx.tape, hx.output, hx.size, fun k hk _ => hx.block k hk⟩ (by
  rcases h.2 with ⟨rfl, _⟩ | ⟨g, cap, cur, rfl, _⟩
  ·exact .inl rfl
  ·exact .inr (by simp [Value.ownBlock]))
theorem OInts.ext {e : TypeId} {w w' : World} {B : Nat} {v : Value} {l : List Int} (h : OInts e w B v l) (hx : Ext w w') : OInts e w' B v l := ownsRow_ext h hx
theorem wpList_appendInt {P : Program} {ops : Array Oper} {rest : List Oper} {o : Oper} {a : Act} {Q : Exit → Act → World → Prop} {W : World} {B : Nat} {t e : TypeId} {v : Value} {g : Nat} {l : List Int} {n : Int}
  (hT : ElTy P t e 1 8 (.int .i64 0)) (hgd : o.guard = none) (s x : Operand) (ho : o.op = .call { callee := .builtin .append, args := #[s, x], argTypes := #[t, t] })
  (hs : a.eval s = v) (hx : a.eval x = .slice (some ⟨g, 0, none⟩) 1 1) (hown : OInts e W B v l) (hg : W.heap.size = g) (hB : B ≤ W.heap.size) (hn : l.length ≤ 1000000000)
  (h : ∀ v' w', OInts e w' B v' (l ++ [n]) → Below B W w' → wpList P ops Q rest (a.put o.dst v') w') : wpList P ops Q (o :: rest) a (W.alloc (.cells #[.int .i64 n] e)) :=
 wpList_append1 hT hgd s x ho hs hx hown hg rfl hB (by omega) (by omega) fun v' w' h1 h2 => h v' w' (by unfold OInts; rw [ints_append]; simpa [ints] using h1) h2
def AllInts (w : World) (us : List Value) (ls : List (List Int)) : Prop := us.length = ls.length ∧ ∀ (i : Nat) (u : Value), us[i]? = some u → Ints w u (ls[i]?.getD [])
theorem AllInts.ext {w w' : World} {us : List Value} {ls : List (List Int)} (h : AllInts w us ls) (hx : Ext w w') : AllInts w' us ls := ⟨h.1, fun i u hu => (h.2 i u hu).ext hx⟩
theorem AllInts.nil (w : World) : AllInts w [] [] := ⟨rfl, fun i u hu => by simp at hu⟩
theorem AllInts.snoc {w : World} {us : List Value} {ls : List (List Int)} {u : Value} {l : List Int} (h : AllInts w us ls) (hu : Ints w u l) : AllInts w (us ++ [u]) (ls ++ [l]) := by
 obtain ⟨h1, h2⟩ := h
 refine ⟨by simp [h1], fun i x hx => ?_⟩
 rcases Nat.lt_or_ge i us.length with hi | hi
 ·rw [List.getElem?_append_left hi] at hx
  rw [List.getElem?_append_left (by omega)]
  exact h2 i x hx
 ·rw [List.getElem?_append_right hi] at hx
  rw [List.getElem?_append_right (by omega)]
  rcases Nat.eq_zero_or_pos (i - us.length) with h0 | h0
  ·rw [h0] at hx; simp at hx; subst hx
   rw [show i - ls.length = 0 by omega]; exact hu
  ·rw [List.getElem?_eq_none (by simp; omega)] at hx; cases hx
theorem Rows.own {w : World} {B : Nat} {e : TypeId} {v : Value} {us : List Value} {ls : List (List Int)} (h : w.ownsRow B e 1 v ls.length us) (ha : AllInts w us ls) : Rows w v ls :=
 Sl.own h fun i b u hi hu hc => ⟨u, hc, ha.2 i u hu⟩
theorem Ints.raw {w : World} {v : Value} {l : List Int} (h : Ints w v l) : Raw w 1 v l.length (ints l) := by
 obtain ⟨a, cap, hv, _, _, hh⟩ := h
 refine ⟨a, cap, hv, by simp, fun h0 => ?_⟩
 obtain ⟨b, o, ha, _⟩ := hh 0 h0
 refine ⟨⟨b, o, none⟩, ha, fun j u hu => ?_⟩
 have hj : j < l.length := by
  rcases Nat.lt_or_ge j l.length with h | h
  ·exact h
  ·rw [List.getElem?_eq_none (by simpa using h)] at hu; cases hu
 obtain ⟨b', o', ha', hc⟩ := hh j hj
 rw [ha] at ha'; injection ha' with ha'; injection ha' with hb ho _
 subst hb ho
 rw [ints_get l j hj] at hu; injection hu with hu
 rw [addr_add, ← hu]; exact hc
abbrev Ent : Type := List Int × Int
def ent (es : List Ent) (i : Nat) : Ent := es[i]?.getD ([], 0)
def Ents (w : World) (v : Value) (es : List Ent) : Prop :=
 Sl v es.length fun i b o => ∃ u, w.cell? ⟨b, o + i * 2, none⟩ = some u ∧ Ints w u (ent es i).1 ∧ w.cell? ⟨b, o + i * 2 + 1, none⟩ = some (.int .i64 (ent es i).2)
theorem Ents.ext {w w' : World} {v : Value} {es : List Ent} (h : Ents w v es) (hb : Ext w w') : Ents w' v es :=
 h.mono fun _ _ _ _ ⟨u, hc, hi, hf⟩ => ⟨u, hb.keep hc, hi.ext hb, hb.keep hf⟩
theorem Ents.open_ {w : World} {v : Value} {es : List Ent} (h : Ents w v es) :
  ∃ (a : Option Addr) (cap : Nat), v = .slice a es.length cap ∧ es.length ≤ cap ∧ cap ≤ 9223372036854775807 ∧
   Hid (∀ i, i < es.length → ∃ b o, a = some ⟨b, o, none⟩ ∧ ∃ u, w.cell? ⟨b, o + i * 2, none⟩ = some u ∧ Ints w u (ent es i).1 ∧ w.cell? ⟨b, o + i * 2 + 1, none⟩ = some (.int .i64 (ent es i).2)) := h
def sel (n : Nat) (f : Nat → Bool) : List Int := ((List.range n).filter f).map fun (i : Nat) => (i : Int)
theorem sel_zero (f : Nat → Bool) : sel 0 f = [] := rfl
theorem sel_yes {k : Nat} {f : Nat → Bool} (h : f k = true) : sel (k + 1) f = sel k f ++ [(k : Int)] := by
 simp [sel, List.range_succ, List.filter_append, h]
theorem sel_no {k : Nat} {f : Nat → Bool} (h : f k = false) : sel (k + 1) f = sel k f := by
 simp [sel, List.range_succ, List.filter_append, h]
theorem sel_le (k : Nat) (f : Nat → Bool) : (sel k f).length ≤ k := by
 have := List.length_filter_le f (List.range k); simp [sel]; simpa using this
end Go.Proofs.YtpmlcfgbfhgpgaaGreatDoor
