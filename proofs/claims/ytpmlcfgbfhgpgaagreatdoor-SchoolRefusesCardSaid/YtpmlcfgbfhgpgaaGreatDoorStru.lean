/- Lists of structs in memory of the call's own: append, reading, what stays where a row of another type grows. -/
import Derived.Test.YtpmlcfgbfhgpgaaGreatDoorBlk
import Derived.Test.YtpmlcfgbfhgpgaaGreatDoorHol
namespace Go.Proofs.YtpmlcfgbfhgpgaaGreatDoor
open Go.RowKit Go.Shelf
set_option linter.unusedVariables false
theorem wpList_appendN {P : Program} {ops : Array Oper} {rest : List Oper} {o : Oper} {a : Act} {Q : Exit → Act → World → Prop} {W : World} {B : Nat} {t e : TypeId} {size bytes : Nat} {z : Value} {v : Value} {us : List Value} {n g : Nat} {xs : List Value}
  (hT : ElTy P t e size bytes z) (hgd : o.guard = none) (s x : Operand) (ho : o.op = .call { callee := .builtin .append, args := #[s, x], argTypes := #[t, t] })
  (hs : a.eval s = v) (hx : a.eval x = .slice (some ⟨g, 0, none⟩) 1 1) (hown : W.ownsRow B e size v n xs) (hg : W.heap.size = g) (hus : us.length = size) (h1 : ∀ u ∈ us, u.oneCell' = true) (hB : B ≤ W.heap.size)
  (hlen : (n + 1) * bytes ≤ 140737488355328) (hn : n + 1 ≤ 9223372036854775807)
  (h : ∀ v' w', w'.ownsRow B e size v' (n + 1) (xs ++ us) → Below B W w' → W.grownBy w' v.ownBlock → (∀ r, v'.ownBlock = some r → v.ownBlock = some r ∨ W.heap.size ≤ r) → wpList P ops Q rest (a.put o.dst v') w') :
  wpList P ops Q (o :: rest) a (W.alloc (.cells us.toArray e)) := by
 subst hg
 obtain ⟨i0, hi, hz0, hz1, hz2⟩ := info_parts hT.info
 refine wpList_plain hgd fun _ hK => ?_
 obtain ⟨v', w', hrun, h2, h3, _, h6⟩ := run_append_own_at (P := P) (W.alloc (.cells us.toArray e)) B t o.type e i0 z size bytes hT.ht hi hz0 hz1 hz2 hT.zc hT.pos v n xs (hown.alloc _)
  ⟨W.heap.size, 0, none⟩ 1 1 us (by omega) (by
   intro j z hz
   rw [addr_add]
   have hk : (W.alloc (.cells us.toArray e)).cell? ⟨W.heap.size, j, none⟩ = some z := alloc_cell W us.toArray e (by simpa using hz)
   show (W.alloc (.cells us.toArray e)).cell? ⟨W.heap.size, 0 + j, none⟩ = some z
   rw [Nat.zero_add]; exact hk) h1 (by unfold maxLen; omega) hlen (by simp; omega)
 have hown' := hown.alloc (.cells us.toArray e)
 unfold Oper.wp execOp
 simp only [ho, resolve, invoke, builtin, Sem.run_bind, Sem.run_pure, Result.andThen_ok, List.map_toArray, List.map_cons, List.map_nil, hs, hx, hrun]
 refine hK _ _ (h v' w' h2 ?_ ?_ ?_)
 ·exact ((Below.refl B W).alloc hB _).trans (Below.of_grownBy h3 hown' (by simp; omega))
 ·exact grownBy_trans_new (grownBy_of_ext (Ext.alloc W (.cells us.toArray e)) v.ownBlock) h3 (fun r hr => .inr hr)
 ·intro r hr
  rcases h6 with h6 | h6
  ·left; rw [← hr]; exact h6.symm
  ·right
   rw [hr] at h6
   injection h6 with h6
   rw [h6]; simp
theorem flat_get {α : Type} {k : Nat} (enc : α → List Value) (hk : ∀ x, (enc x).length = k) : ∀ (l : List α) (i j : Nat) (x : α), l[i]? = some x → j < k → (l.flatMap enc)[i * k + j]? = (enc x)[j]?
 | [], i, j, x, h, _ => by simp at h
 | y :: l, 0, j, x, h, hj => by
  simp only [List.getElem?_cons_zero, Option.some.injEq] at h
  subst h
  rw [List.flatMap_cons, List.getElem?_append_left (by rw [hk]; omega), Nat.zero_mul, Nat.zero_add]
 | y :: l, i + 1, j, x, h, hj => by
  rw [List.flatMap_cons, List.getElem?_append_right (by rw [hk, Nat.succ_mul]; omega), hk, show (i + 1) * k + j - k = i * k + j by rw [Nat.succ_mul]; omega]
  exact flat_get enc hk l i j x (by simpa using h) hj
theorem flat_len {α : Type} {k : Nat} (enc : α → List Value) (hk : ∀ x, (enc x).length = k) (l : List α) : (l.flatMap enc).length = l.length * k := by
 induction l with
 | nil => simp
 | cons x l ih => rw [List.flatMap_cons, List.length_append, hk, ih, List.length_cons, Nat.succ_mul]; omega
theorem flat_snoc {α : Type} (enc : α → List Value) (l : List α) (x : α) : (l ++ [x]).flatMap enc = l.flatMap enc ++ enc x := by simp
theorem drawnP_ext (w : World) : Ext w { w with drawn := w.drawn + 1 } := ⟨rfl, rfl, rfl, Nat.le_refl _, fun _ _ => rfl⟩
theorem row_ltS {w : World} {B n size : Nat} {e : TypeId} {v : Value} {xs : List Value} (h : w.ownsRow B e size v n xs) {g : Nat} (hg : v.ownBlock = some g) : g < w.heap.size := by
 obtain ⟨cur, h1, _⟩ := ownBlock_cells h g hg
 exact (Array.getElem?_eq_some_iff.1 h1).1
theorem Blk.rowKept {w w' : World} {g : Nat} {ty : TypeId} {l : List Value} (h : Blk w g ty l) {B n size : Nat} {e : TypeId} {v : Value} {xs : List Value} (hr : w.ownsRow B e size v n xs) (hg : w.grownBy w' v.ownBlock) (hne : ty ≠ e) : Blk w' g ty l := by
 refine (hg.block g h.lt (fun e' => ?_)).trans h
 obtain ⟨cur, h1, _⟩ := ownBlock_cells hr g e'.symm
 unfold Blk at h
 rw [h] at h1
 injection h1 with h1; injection h1 with _ h1 _
 exact hne h1
theorem rowKept {w w' : World} {B n size : Nat} {e : TypeId} {v : Value} {xs : List Value} (h : w.ownsRow B e size v n xs) {B2 n2 size2 : Nat} {e2 : TypeId} {v2 : Value} {xs2 : List Value} (hr : w.ownsRow B2 e2 size2 v2 n2 xs2) (hg : w.grownBy w' v2.ownBlock) (hne : e ≠ e2) : w'.ownsRow B e size v n xs := by
 refine World.ownsRow.kept h hg ?_
 rcases h.2 with ⟨rfl, _⟩ | ⟨g, cap, cur, rfl, _, hgb, _⟩
 ·exact .inl rfl
 ·refine .inr fun he => ?_
  simp only [Value.ownBlock] at he
  obtain ⟨cur2, h1, _⟩ := ownBlock_cells hr g he.symm
  rw [hgb] at h1
  injection h1 with h1; injection h1 with _ h1 _
  exact hne h1
theorem OInts.rowKept {w w' : World} {B : Nat} {u : Value} {l : List Int} (h : OInts 3 w B u l) {B2 n2 size2 : Nat} {e2 : TypeId} {v2 : Value} {xs2 : List Value} (hr : w.ownsRow B2 e2 size2 v2 n2 xs2) (hg : w.grownBy w' v2.ownBlock) (hne : 3 ≠ e2) : OInts 3 w' B u l := Go.Proofs.YtpmlcfgbfhgpgaaGreatDoor.rowKept h hr hg hne
theorem Ext.rowGrown {w0 w w' : World} (h : Ext w0 w) {n size : Nat} {e : TypeId} {v : Value} {xs : List Value} (hr : w.ownsRow w0.heap.size e size v n xs) (hg : w.grownBy w' v.ownBlock) : Ext w0 w' :=
 grown_below h hg fun r hr' => (ownBlock_cells hr r hr').choose_spec.2
def Cel {α : Type} (enc : α → List Value) (k : Nat) (w : World) (v : Value) (L : List α) : Prop :=
 Sl v L.length fun i b o => ∀ (j : Nat) (x : α) (u : Value), L[i]? = some x → (enc x)[j]? = some u → w.cell? ⟨b, o + i * k + j, none⟩ = some u
theorem Cel.sub {α : Type} {enc : α → List Value} {k : Nat} {w w' : World} {v : Value} {L : List α} (h : Cel enc k w v L) (hb : Sub w w') : Cel enc k w' v L :=
 h.mono fun _ _ _ _ hc j x u hx hu => hb _ _ (hc j x u hx hu)
theorem Cel.ext {α : Type} {enc : α → List Value} {k : Nat} {w w' : World} {v : Value} {L : List α} (h : Cel enc k w v L) (hb : Ext w w') : Cel enc k w' v L := h.sub hb.sub
theorem Cel.open_ {α : Type} {enc : α → List Value} {k : Nat} {w : World} {v : Value} {L : List α} (h : Cel enc k w v L) :
  ∃ (a : Option Addr) (cap : Nat), v = .slice a L.length cap ∧ L.length ≤ cap ∧ cap ≤ 9223372036854775807 ∧
   Hid (∀ i x, L[i]? = some x → ∃ b o, a = some ⟨b, o, none⟩ ∧ ∀ (j : Nat) (u : Value), (enc x)[j]? = some u → w.cell? ⟨b, o + i * k + j, none⟩ = some u) := by
 obtain ⟨a, c, hv, h1, h2, H⟩ := h
 refine ⟨a, c, hv, h1, by unfold maxLen at h2; omega, Lib.hid fun i x hx => ?_⟩
 obtain ⟨b, o, ha, hc⟩ := H i (List.getElem?_eq_some_iff.1 hx).1
 exact ⟨b, o, ha, fun j u hu => hc j x u hx hu⟩
theorem Cel.own {α : Type} {enc : α → List Value} {k : Nat} (hk : ∀ x, (enc x).length = k) {w : World} {B : Nat} {e : TypeId} {v : Value} {L : List α} (h : w.ownsRow B e k v L.length (L.flatMap enc)) : Cel enc k w v L := by
 rcases h.2 with ⟨rfl, h0⟩ | ⟨g, cap, cur, rfl, hg, hh, hnc, hm, hcs, ht⟩
 ·exact ⟨none, 0, by rw [h0], by omega, by unfold maxLen; omega, fun i hi => by omega⟩
 ·refine ⟨some ⟨g, 0, none⟩, cap, rfl, hnc, hm, fun i hi => ⟨g, 0, rfl, fun j x u hx hu => ?_⟩⟩
  have hj : j < k := by have := (List.getElem?_eq_some_iff.1 hu).1; rwa [hk] at this
  have hi2 : i * k + j < L.length * k := by
   have : (i + 1) * k ≤ L.length * k := Nat.mul_le_mul_right k hi
   rw [Nat.succ_mul] at this; omega
  have := h.cellAt (i * k + j) (by exact hi2)
  rw [flat_get enc hk L i j x hx hj] at this
  rw [Nat.zero_add, this, hu]
theorem Cel.nil {α : Type} (enc : α → List Value) (k : Nat) (w : World) : Cel enc k w (.slice none 0 0) [] := ⟨none, 0, rfl, by simp, by unfold maxLen; omega, fun i hi => by simp at hi⟩
def OCel {α : Type} (enc : α → List Value) (k : Nat) (e : TypeId) (w : World) (B : Nat) (v : Value) (L : List α) : Prop := w.ownsRow B e k v L.length (L.flatMap enc)
theorem OCel.nil {α : Type} (enc : α → List Value) (k : Nat) (e : TypeId) (w : World) (B : Nat) : OCel enc k e w B (.slice none 0 0) [] := World.ownsRow_nil _ _ _ _
theorem OCel.ext {α : Type} {enc : α → List Value} {k : Nat} {e : TypeId} {w w' : World} {B : Nat} {v : Value} {L : List α} (h : OCel enc k e w B v L) (hx : Ext w w') : OCel enc k e w' B v L := ownsRow_ext h hx
theorem OCel.low {α : Type} {enc : α → List Value} {k : Nat} {e : TypeId} {w : World} {B B' : Nat} {v : Value} {L : List α} (h : OCel enc k e w B v L) (hB : B' ≤ B) : OCel enc k e w B' v L := by
 refine ⟨h.1, ?_⟩
 rcases h.2 with h | ⟨g, cap, cur, h1, h2, h3⟩
 ·exact .inl h
 ·exact .inr ⟨g, cap, cur, h1, by omega, h3⟩
theorem wpList_appendS {α : Type} {P : Program} {ops : Array Oper} {rest : List Oper} {o : Oper} {a : Act} {Q : Exit → Act → World → Prop} {W : World} {B : Nat} {t e : TypeId} {size bytes : Nat} {z : Value} {v : Value} {enc : α → List Value} {L : List α} {cs : Array Value} (x : α) {g : Nat}
  (hT : ElTy P t e size bytes z) (hgd : o.guard = none) (s y : Operand) (ho : o.op = .call { callee := .builtin .append, args := #[s, y], argTypes := #[t, t] })
  (hs : a.eval s = v) (hx : a.eval y = .slice (some ⟨g, 0, none⟩) 1 1) (hown : OCel enc size e W B v L) (hg : W.heap.size = g) (hcs : cs = (enc x).toArray) (hus : (enc x).length = size) (h1 : ∀ u ∈ enc x, u.oneCell' = true) (hB : B ≤ W.heap.size)
  (hlen : (L.length + 1) * bytes ≤ 140737488355328) (hn : L.length + 1 ≤ 9223372036854775807)
  (h : ∀ v' w', OCel enc size e w' B v' (L ++ [x]) → Below B W w' → W.grownBy w' v.ownBlock → (∀ r, v'.ownBlock = some r → v.ownBlock = some r ∨ W.heap.size ≤ r) → wpList P ops Q rest (a.put o.dst v') w') :
  wpList P ops Q (o :: rest) a (W.alloc (.cells cs e)) := by
 subst hcs
 refine wpList_appendN hT hgd s y ho hs hx hown hg hus h1 hB hlen hn fun v' w' a1 a2 a3 a4 => h v' w' ?_ a2 a3 a4
 unfold OCel
 rw [flat_snoc, List.length_append]
 exact a1
end Go.Proofs.YtpmlcfgbfhgpgaaGreatDoor
