/- Several texts in one: RefP, RefQ, RefM, RefA, RefB, RefC, RefD, RefE, RefF, RefG, RefH. -/
import Derived.Test.YtpmlcfgbfhgpgaaGreatDoorSchQ
import Derived.Test.YtpmlcfgbfhgpgaaGreatDoorSysG
import Derived.Test.YtpmlcfgbfhgpgaaGreatDoorJoinD
import Derived.Test.YtpmlcfgbfhgpgaaGreatDoorJoinB
import Derived.ArgAppend
import Derived.Test.YtpmlcfgbfhgpgaaGreatDoorTreeT
/- How the reference reads an order: plain. -/
namespace Go.Proofs.YtpmlcfgbfhgpgaaGreatDoor
open Go.RowKit
set_option linter.unusedVariables false
def digitsB (r : Bs) (m : Nat) (z : Nat) : Bool := r.all (fun b => decide (48 ≤ b.toNat) && decide (b.toNat ≤ z)) && (decide (1 ≤ r.length) && decide (r.length ≤ m))
def headC : Cmd → Bs
 | .learn _ => wLearn
 | .forget _ => wForget
 | .change _ => wSwitch
 | .read _ => wRead
 | .step => wStep
 | .fin => wEnd
 | .undo => wUndo
 | .say => wSay
def noughtB (r : Bs) : Bool := decide (1 < r.length) && decide (r[0]? = some 48)
theorem numOf_digitsB (r : Bs) : (numOf r).isSome = (digitsB r 2 57 && !noughtB r) := by
 match r with
 | [] => rfl
 | [a] =>
  unfold numOf digitsB noughtB digB
  cases h : decide (48 ≤ a.toNat) && decide (a.toNat ≤ 57) <;> simp [h]
 | [a, b] =>
  unfold numOf digitsB noughtB digB
  have e : decide (a = 48) = decide (a.toNat = 48) := by
   rw [decide_eq_decide]
   exact ⟨fun h => by rw [h]; rfl, fun h => UInt8.toNat_inj.1 (by rw [h]; rfl)⟩
  cases h : decide (48 ≤ a.toNat) && decide (a.toNat ≤ 57) <;> cases h2 : decide (48 ≤ b.toNat) && decide (b.toNat ≤ 57) <;> by_cases h3 : a.toNat = 48 <;> simp [h, h2, h3, e]
 | a :: b :: c :: r =>
  unfold numOf digitsB
  simp
theorem numOf_val {r : Bs} {n : Nat} (h : numOf r = some n) : (∃ a, r = [a] ∧ 48 ≤ a.toNat ∧ a.toNat ≤ 57 ∧ n = a.toNat - 48) ∨ (∃ a b, r = [a, b] ∧ 48 ≤ a.toNat ∧ a.toNat ≤ 57 ∧ 48 ≤ b.toNat ∧ b.toNat ≤ 57 ∧ n = 10 * (a.toNat - 48) + (b.toNat - 48)) := by
 match r with
 | [] => cases h
 | [a] =>
  unfold numOf digB at h
  simp only at h
  split at h
  ·rename_i h1
   simp only [Bool.and_eq_true, decide_eq_true_eq] at h1
   injection h with h
   exact .inl ⟨a, rfl, h1.1, h1.2, h.symm⟩
  ·cases h
 | [a, b] =>
  unfold numOf digB at h
  simp only at h
  split at h
  ·rename_i h1
   simp only [Bool.and_eq_true, decide_eq_true_eq] at h1
   injection h with h
   exact .inr ⟨a, b, rfl, h1.1.1.1, h1.1.1.2, h1.1.2.1, h1.1.2.2, h.symm⟩
  ·cases h
 | a :: b :: c :: r => cases h
theorem sndOf_digitsB (r : Bs) : (sndOf r).isSome = digitsB r 8 53 := by
 unfold sndOf digitsB
 cases decide (1 ≤ r.length) <;> cases decide (r.length ≤ 8) <;> cases r.all (fun b => decide (48 ≤ b.toNat) && decide (b.toNat ≤ 53)) <;> rfl
theorem parse_parts {t : Bs} {c : Cmd} (h : parseB t = some c) : wordOf t = headC c ∧ t.length ≤ 30 ∧
  (match c with
   | .learn n => numOf (restOf t) = some n
   | .forget n => numOf (restOf t) = some n
   | .change n => numOf (restOf t) = some n
   | .read w => sndOf (restOf t) = some w
   | _ => True) := by
 unfold parseB at h
 by_cases h0 : 30 < t.length
 ·rw [if_pos h0] at h; cases h
 rw [if_neg h0] at h
 have num : ∀ (f : Nat → Cmd), (if moreOf t = true then (numOf (restOf t)).map f else none) = some c → ∃ n, numOf (restOf t) = some n ∧ f n = c := by
  intro f hf
  split at hf
  ·exact Option.map_eq_some_iff.1 hf
  ·cases hf
 by_cases h1 : wordOf t = wLearn
 ·rw [if_pos h1] at h
  obtain ⟨n, hn, rfl⟩ := num _ h
  exact ⟨h1, by omega, hn⟩
 rw [if_neg h1] at h
 by_cases h2 : wordOf t = wForget
 ·rw [if_pos h2] at h
  obtain ⟨n, hn, rfl⟩ := num _ h
  exact ⟨h2, by omega, hn⟩
 rw [if_neg h2] at h
 by_cases h3 : wordOf t = wSwitch
 ·rw [if_pos h3] at h
  obtain ⟨n, hn, rfl⟩ := num _ h
  exact ⟨h3, by omega, hn⟩
 rw [if_neg h3] at h
 by_cases h4 : wordOf t = wRead
 ·rw [if_pos h4] at h
  split at h
  ·obtain ⟨n, hn, rfl⟩ := Option.map_eq_some_iff.1 h
   exact ⟨h4, by omega, hn⟩
  ·cases h
 rw [if_neg h4] at h
 by_cases h5 : wordOf t = wStep
 ·rw [if_pos h5] at h
  split at h
  ·cases h
  ·injection h with h; subst h; exact ⟨h5, by omega, trivial⟩
 rw [if_neg h5] at h
 by_cases h6 : wordOf t = wEnd
 ·rw [if_pos h6] at h
  split at h
  ·cases h
  ·injection h with h; subst h; exact ⟨h6, by omega, trivial⟩
 rw [if_neg h6] at h
 by_cases h7 : wordOf t = wUndo
 ·rw [if_pos h7] at h
  split at h
  ·cases h
  ·injection h with h; subst h; exact ⟨h7, by omega, trivial⟩
 rw [if_neg h7] at h
 by_cases h8 : wordOf t = wSay
 ·rw [if_pos h8] at h
  split at h
  ·cases h
  ·injection h with h; subst h; exact ⟨h8, by omega, trivial⟩
 rw [if_neg h8] at h
 cases h
end Go.Proofs.YtpmlcfgbfhgpgaaGreatDoor
/- What the reference keeps of a school: which rules are known; plain. -/
namespace Go.Proofs.YtpmlcfgbfhgpgaaGreatDoor
open Go.RowKit
set_option linter.unusedVariables false
theorem asc_ext : ∀ {l m : List Int}, l.Pairwise (· < ·) → m.Pairwise (· < ·) → (∀ x, x ∈ l ↔ x ∈ m) → l = m := by
 intro l
 induction l with
 | nil =>
  intro m _ _ h
  cases m with
  | nil => rfl
  | cons b m => exact absurd ((h b).2 (by simp)) (by simp)
 | cons a l ih =>
  intro m hl hm h
  cases m with
  | nil => exact absurd ((h a).1 (by simp)) (by simp)
  | cons b m =>
   rw [List.pairwise_cons] at hl hm
   have e : a = b := by
    have h1 := (h a).1 (by simp)
    have h2 := (h b).2 (by simp)
    rw [List.mem_cons] at h1 h2
    rcases h1 with h1 | h1
    ·exact h1
    ·rcases h2 with h2 | h2
     ·exact h2.symm
     ·have := hl.1 b h2; have := hm.1 a h1; omega
   subst e
   congr 1
   refine ih hl.2 hm.2 (fun x => ?_)
   constructor
   ·intro hx
    have := (h x).1 (by simp [hx])
    rw [List.mem_cons] at this
    rcases this with rfl | h1
    ·exact absurd (hl.1 x hx) (by omega)
    ·exact h1
   ·intro hx
    have := (h x).2 (by simp [hx])
    rw [List.mem_cons] at this
    rcases this with rfl | h1
    ·exact absurd (hm.1 x hx) (by omega)
    ·exact h1
def knowsL (n : Nat) (kn : List Int) : List Bool := (List.range n).map fun (k : Nat) => hasB kn (k : Int)
theorem knowsL_len (n : Nat) (kn : List Int) : (knowsL n kn).length = n := by simp [knowsL]
theorem knowsL_at {n k : Nat} {kn : List Int} (h : k < n) : (knowsL n kn)[k]? = some (hasB kn (k : Int)) := by simp [knowsL, h]
theorem knowsL_nil (n : Nat) : knowsL n [] = List.replicate n false := by
 unfold knowsL
 rw [show (fun (k : Nat) => hasB [] (k : Int)) = fun _ => false from rfl]
 simp [List.map_const']
theorem knows_learned {n : Nat} {kn : List Int} (hp : kn.Pairwise (· < ·)) (hr : ∀ k ∈ kn, 0 ≤ k ∧ k < n) : sel n (fun k => hasB kn (k : Int)) = kn := by
 refine asc_ext ?_ hp (fun x => ?_)
 ·unfold sel
  rw [List.pairwise_map]
  refine List.Pairwise.filter _ ?_
  exact (List.pairwise_lt_range).imp fun h => by omega
 ·unfold sel
  rw [List.mem_map]
  constructor
  ·rintro ⟨k, hk, rfl⟩
   exact hasB_mem.1 (List.mem_filter.1 hk).2
  ·intro hx
   obtain ⟨k, rfl⟩ := Int.eq_ofNat_of_zero_le (hr x hx).1
   exact ⟨k, List.mem_filter.2 ⟨by simpa using (by have := (hr _ hx).2; omega : k < n), hasB_mem.2 hx⟩, rfl⟩
theorem knows_set {n : Nat} {kn kn' : List Int} {j : Nat} {b : Bool} (h : ∀ k : Nat, k < n → hasB kn' (k : Int) = if k = j then b else hasB kn (k : Int)) : knowsL n kn' = (knowsL n kn).set j b := by
 apply List.ext_getElem?
 intro k
 by_cases hk : k < n
 ·rw [knowsL_at hk, List.getElem?_set, knowsL_len, knowsL_at hk, h k hk]
  by_cases e : j = k
  ·subst e; rw [if_pos rfl, if_pos rfl, if_pos hk]
  ·rw [if_neg e, if_neg (fun h => e h.symm)]
 ·rw [List.getElem?_eq_none (by rw [knowsL_len]; omega), List.getElem?_eq_none (by rw [List.length_set, knowsL_len]; omega)]
theorem knows_learn (n : Nat) (kn : List Int) (j : Nat) : knowsL n (kn.filter (· < (j : Int)) ++ (j : Int) :: kn.filter ((j : Int) < ·)) = (knowsL n kn).set j true := by
 refine knows_set fun k hk => ?_
 rw [Bool.eq_iff_iff, hasB_mem]
 by_cases e : k = j
 ·subst e; simp
 ·rw [if_neg e, hasB_mem]
  simp only [List.mem_append, List.mem_filter, List.mem_cons, decide_eq_true_eq]
  constructor
  ·rintro (h | h | h)
   ·exact h.1
   ·exact absurd h (by omega)
   ·exact h.1
  ·intro h
   by_cases h1 : (k : Int) < j
   ·exact .inl ⟨h, h1⟩
   ·exact .inr (.inr ⟨h, by omega⟩)
theorem knows_forget (n : Nat) (kn : List Int) (j : Nat) : knowsL n (kn.filter (· != (j : Int))) = (knowsL n kn).set j false := by
 refine knows_set fun k hk => ?_
 rw [Bool.eq_iff_iff, hasB_mem]
 by_cases e : k = j
 ·subst e; simp
 ·rw [if_neg e, hasB_mem]
  simp only [List.mem_filter, bne_iff_ne, ne_eq]
  exact ⟨fun h => h.1, fun h => ⟨h, by omega⟩⟩
theorem InvE.learned {s : List Rul} {x : St} (h : InvE s x) : sel s.length (fun k => hasB x.kn (k : Int)) = x.kn := knows_learned h.knS h.knR
theorem without_len {l : List Int} {g : Int} : (l.filter (· != g)).length = l.length ↔ hasB l g = false := by
 rw [List.length_filter_eq_length_iff]
 cases h : hasB l g with
 | false =>
  simp only [iff_true]
  intro a ha
  simp only [bne_iff_ne, ne_eq]
  intro e
  subst e
  rw [hasB_mem.2 ha] at h
  cases h
 | true =>
  simp only [Bool.true_eq_false, iff_false]
  intro hn
  have := hn g (hasB_mem.1 h)
  simp at this
end Go.Proofs.YtpmlcfgbfhgpgaaGreatDoor
/- Rows that grow, of one's own or cut off; a school of the reference in memory. -/
namespace Go.Proofs.YtpmlcfgbfhgpgaaGreatDoor
open Go.RowKit Go.Shelf
set_option linter.unusedVariables false
def GRow {α : Type} (enc : α → List Value) (k : Nat) (e : TypeId) (w : World) (v : Value) (L : List α) : Prop :=
 OCel enc k e w 0 v L ∨ ∃ g cur, v = .slice (some ⟨g, 0, none⟩) L.length L.length ∧ w.heap[g]? = some (.cells cur e (0, 0)) ∧ L.length * k ≤ cur.size ∧ cur.toList.take (L.length * k) = L.flatMap enc ∧ L.length ≤ maxLen
theorem cell_at {w : World} {g : Nat} {cur : Array Value} {e : TypeId} {f : Nat × Nat} (h : w.heap[g]? = some (.cells cur e f)) (i : Nat) : w.cell? ⟨g, i, none⟩ = cur[i]? := by
 unfold World.cell?
 rw [h]; rfl
theorem GRow.nil {α : Type} (enc : α → List Value) (k : Nat) (e : TypeId) (w : World) : GRow enc k e w (.slice none 0 0) [] := .inl (OCel.nil _ _ _ _ _)
theorem GRow.own {α : Type} {enc : α → List Value} {k : Nat} {e : TypeId} {w : World} {B : Nat} {v : Value} {L : List α} (h : OCel enc k e w B v L) : GRow enc k e w v L := .inl (OCel.low h (Nat.zero_le _))
theorem GRow.block {α : Type} {enc : α → List Value} {k : Nat} {e : TypeId} {w : World} {v : Value} {L : List α} (h : GRow enc k e w v L) : ∀ r, v.ownBlock = some r → ∃ cur, w.heap[r]? = some (.cells cur e (0, 0)) := by
 intro r hr
 rcases h with h | ⟨g, cur, rfl, hh, _⟩
 ·obtain ⟨cur, h1, _⟩ := ownBlock_cells h r hr
  exact ⟨cur, h1⟩
 ·injection hr with hr
  subst hr
  exact ⟨cur, hh⟩
theorem GRow.lt {α : Type} {enc : α → List Value} {k : Nat} {e : TypeId} {w : World} {v : Value} {L : List α} (h : GRow enc k e w v L) {r : Nat} (hr : v.ownBlock = some r) : r < w.heap.size := by
 obtain ⟨cur, hc⟩ := h.block r hr
 rcases Nat.lt_or_ge r w.heap.size with hl | hl
 ·exact hl
 ·rw [Array.getElem?_eq_none hl] at hc; cases hc
theorem GRow.keep {α : Type} {enc : α → List Value} {k : Nat} {e : TypeId} {w w' : World} {v : Value} {L : List α} (h : GRow enc k e w v L) (hb : ∀ r, v.ownBlock = some r → w'.heap[r]? = w.heap[r]?) : GRow enc k e w' v L := by
 rcases h with ⟨h0, h | ⟨g, cap, cur, rfl, h2, h3, h4⟩⟩ | ⟨g, cur, rfl, hh, h2⟩
 ·exact .inl ⟨h0, .inl h⟩
 ·exact .inl ⟨h0, .inr ⟨g, cap, cur, rfl, h2, (hb g rfl).trans h3, h4⟩⟩
 ·exact .inr ⟨g, cur, rfl, (hb g rfl).trans hh, h2⟩
theorem GRow.ext {α : Type} {enc : α → List Value} {k : Nat} {e : TypeId} {w w' : World} {v : Value} {L : List α} (h : GRow enc k e w v L) (hx : Ext w w') : GRow enc k e w' v L := h.keep fun r hr => hx.block r (h.lt hr)
theorem GRow.cel {α : Type} {enc : α → List Value} {k : Nat} {e : TypeId} {w : World} {v : Value} {L : List α} (hk : ∀ x, (enc x).length = k) (h : GRow enc k e w v L) : Cel enc k w v L := by
 rcases h with h | ⟨g, cur, rfl, hh, h2, h3, h4⟩
 ·exact Cel.own hk h
 ·refine ⟨some ⟨g, 0, none⟩, L.length, rfl, Nat.le_refl _, h4, fun i hi => ⟨g, 0, rfl, fun j x u hx hu => ?_⟩⟩
  have hj : j < k := by have := (List.getElem?_eq_some_iff.1 hu).1; rwa [hk] at this
  have hi2 : i * k + j < L.length * k := by
   have : (i + 1) * k ≤ L.length * k := Nat.mul_le_mul_right k hi
   rw [Nat.succ_mul] at this; omega
  rw [show 0 + i * k + j = i * k + j by omega, cell_at hh]
  have h5 := flat_get enc hk L i j x hx hj
  rw [← h3, hu, List.getElem?_take_of_lt hi2] at h5
  simpa using h5
theorem flat_take {α : Type} {enc : α → List Value} {k : Nat} (hk : ∀ x, (enc x).length = k) : ∀ (L : List α) (m : Nat), (L.take m).flatMap enc = (L.flatMap enc).take (m * k)
 | [], m => by simp
 | x :: L, 0 => by simp
 | x :: L, m + 1 => by
  rw [List.take_succ_cons, List.flatMap_cons, List.flatMap_cons, flat_take hk L m, List.take_append, hk x, Nat.succ_mul, List.take_of_length_le (l := enc x) (by rw [hk]; omega), Nat.add_sub_cancel]
theorem GRow.cut {α : Type} {enc : α → List Value} {k : Nat} {e : TypeId} {w : World} {a : Option Addr} {n c : Nat} {L : List α} (hk : ∀ x, (enc x).length = k) (h : GRow enc k e w (.slice a n c) L) {m : Nat} (hm : m ≤ L.length) : GRow enc k e w (.slice a m m) (L.take m) := by
 have hl : (L.take m).length = m := by rw [List.length_take]; omega
 rcases h with ⟨h0, ⟨h1, h2⟩ | ⟨g, cap, cur, h1, h2, h3, h4, h5, h6, h7⟩⟩ | ⟨g, cur, h1, hh, h2, h3, h4⟩
 ·injection h1 with e1 e2 e3
  subst e1
  have : m = 0 := by omega
  subst this
  rw [List.take_zero]
  exact GRow.nil _ _ _ _
 ·injection h1 with e1 e2 e3
  subst e1
  refine .inr ⟨g, cur, by rw [hl], h3, ?_, ?_, by omega⟩
  ·rw [hl, h6]; exact Nat.mul_le_mul_right k (by omega)
  ·rw [hl, flat_take hk, ← h7, List.take_take, Nat.min_eq_left (Nat.mul_le_mul_right k hm)]
 ·injection h1 with e1 e2 e3
  subst e1
  refine .inr ⟨g, cur, by rw [hl], hh, ?_, ?_, by omega⟩
  ·rw [hl]; exact Nat.le_trans (Nat.mul_le_mul_right k hm) h2
  ·rw [hl, flat_take hk, ← h3, List.take_take, Nat.min_eq_left (Nat.mul_le_mul_right k hm)]
theorem wpList_appendGR {α : Type} {P : Program} {ops : Array Oper} {rest : List Oper} {o : Oper} {a : Act} {Q : Exit → Act → World → Prop} {W : World} {t e : TypeId} {size bytes : Nat} {z : Value} {v : Value} {enc : α → List Value} {L : List α} {cs : Array Value} (x : α) {g : Nat}
  (hT : ElTy P t e size bytes z) (hgd : o.guard = none) (s y : Operand) (ho : o.op = .call { callee := .builtin .append, args := #[s, y], argTypes := #[t, t] })
  (hs : a.eval s = v) (hx : a.eval y = .slice (some ⟨g, 0, none⟩) 1 1) (hown : GRow enc size e W v L) (hg : W.heap.size = g) (hcs : cs = (enc x).toArray) (hus : ∀ x, (enc x).length = size) (h1 : ∀ u ∈ enc x, u.oneCell' = true)
  (hlen : (L.length + 1) * bytes ≤ 140737488355328) (hn : L.length + 1 ≤ 9223372036854775807)
  (h : ∀ v' w', GRow enc size e w' v' (L ++ [x]) → W.grownBy w' v.ownBlock → (∀ r, v'.ownBlock = some r → v.ownBlock = some r ∨ W.heap.size ≤ r) → wpList P ops Q rest (a.put o.dst v') w') :
  wpList P ops Q (o :: rest) a (W.alloc (.cells cs e)) := by
 rcases hown with hown | ⟨g2, cur, hv, hh, h2, h3, h4⟩
 ·exact wpList_appendS x hT hgd s y ho hs hx hown hg hcs (hus x) h1 (Nat.zero_le _) hlen hn fun v' w' a1 _ a3 a4 => h v' w' (.inl a1) a3 a4
 ·subst hcs hg
  obtain ⟨i0, hi, hz0, hz1, hz2⟩ := info_parts hT.info
  have hlt : g2 < W.heap.size := by
   rcases Nat.lt_or_ge g2 W.heap.size with hl | hl
   ·exact hl
   ·rw [Array.getElem?_eq_none hl] at hh; cases hh
  have hh2 : (W.alloc (.cells (enc x).toArray e)).heap[g2]? = some (.cells cur e (0, 0)) := (heap_alloc_old W _ hlt).trans hh
  refine wpList_plain hgd fun _ hK => ?_
  obtain ⟨v', w', hrun, k2, k3⟩ := run_append_arg_grows (P := P) (W.alloc (.cells (enc x).toArray e)) t o.type e i0 z size bytes hT.ht hi hz0 hz1 hz2 hT.zc hT.pos ⟨g2, 0, none⟩ L.length L.length (L.flatMap enc) (flat_len enc hus L)
   (by
    intro j u hu
    rw [addr_add]
    show (W.alloc (.cells (enc x).toArray e)).cell? ⟨g2, 0 + j, none⟩ = some u
    rw [Nat.zero_add, cell_at hh2]
    have hjl := (List.getElem?_eq_some_iff.1 hu).1
    rw [← h3] at hu
    rw [← h3, List.length_take] at hjl
    rw [List.getElem?_take_of_lt (by omega)] at hu
    simpa using hu)
   ⟨W.heap.size, 0, none⟩ 1 1 (enc x) (by rw [hus]; omega) (by
    intro j z hz
    rw [addr_add]
    have hk : (W.alloc (.cells (enc x).toArray e)).cell? ⟨W.heap.size, j, none⟩ = some z := alloc_cell W (enc x).toArray e (by simpa using hz)
    show (W.alloc (.cells (enc x).toArray e)).cell? ⟨W.heap.size, 0 + j, none⟩ = some z
    rw [Nat.zero_add]; exact hk) (by omega) (by unfold maxLen; omega) hlen
  unfold Oper.wp execOp
  simp only [ho, resolve, invoke, builtin, Sem.run_bind, Sem.run_pure, Result.andThen_ok, List.map_toArray, List.map_cons, List.map_nil, hs, hx, hv, hrun]
  refine hK _ _ (h v' w' (.inl ?_) ?_ ?_)
  ·unfold OCel
   rw [flat_snoc, List.length_append]
   exact ⟨k2.1, by
    rcases k2.2 with k | ⟨g, cap, cur, e1, e2, e3⟩
    ·exact .inl k
    ·exact .inr ⟨g, cap, cur, e1, Nat.zero_le _, e3⟩⟩
  ·exact grownBy_trans_new (grownBy_of_ext (Ext.alloc W (.cells (enc x).toArray e)) v.ownBlock) k3 (fun r hr => by cases hr)
  ·intro r hr
   right
   have := (k2.lt r hr).1
   simp at this; omega
end Go.Proofs.YtpmlcfgbfhgpgaaGreatDoor
/- The reference's steps, and which of two lasts. -/
namespace Go.Proofs.YtpmlcfgbfhgpgaaGreatDoor
open Go.RowKit Go.Shelf
set_option linter.unusedVariables false
def stpTo (s : List Rul) (l : List Int) (k i : Nat) : List Stp := movesTo s l k ++ (sel i fun i => applyK (rulAt s k) l i == 0).map fun p => (k, p)
theorem stpTo_zero (s : List Rul) (l : List Int) (k : Nat) : stpTo s l k 0 = movesTo s l k := by simp [stpTo, sel_zero]
theorem stpTo_yes {s : List Rul} {l : List Int} {k i : Nat} (h : applyK (rulAt s k) l i = 0) : stpTo s l k (i + 1) = stpTo s l k i ++ [(k, (i : Int))] := by
 unfold stpTo
 rw [sel_yes (by simpa using h), List.map_append, ← List.append_assoc]; rfl
theorem stpTo_no {s : List Rul} {l : List Int} {k i : Nat} (h : applyK (rulAt s k) l i ≠ 0) : stpTo s l k (i + 1) = stpTo s l k i := by
 unfold stpTo
 rw [sel_no (by simpa using h)]
theorem stpTo_all (s : List Rul) (l : List Int) (k : Nat) : stpTo s l k (l.length + 1) = movesTo s l (k + 1) := by
 rw [movesTo_succ]; rfl
theorem stpTo_len {s : List Rul} {l : List Int} {k i : Nat} (hk : k ≤ 6) (hl : l.length ≤ 8) (hi : i ≤ l.length + 1) : (stpTo s l k i).length ≤ 100 := by
 unfold stpTo
 rw [List.length_append, List.length_map]
 have h1 := movesTo_len s l k
 have h2 := sel_le i (fun i => applyK (rulAt s k) l i == 0)
 have : k * (l.length + 1) ≤ 6 * 9 := Nat.mul_le_mul hk (by omega)
 omega
structure StpW (w wr : World) (v v2 : Value) (L : List Stp) (us : List Value) : Prop where
 ext : Ext w wr
 own : OCel encS 2 163 wr w.heap.size v L
 own2 : OCel encV 1 34 wr w.heap.size v2 us
 len : us.length = L.length
set_option maxHeartbeats 4000000 in
set_option maxRecDepth 100000 in
theorem rsteps_c (v wv : Value) (s : List Rul) (l : List Int) (w : World) (h : Ruls w v s) (hw : Ints w wv l) (hs : s.length ≤ 6) (hl : l.length ≤ 8) :
  Calls Tryz.prog 265 #[v, wv] w fun e w' => ∃ u u2, e = .returned (.tuple #[u, u2]) ∧ OCel encS 2 163 w' w.heap.size u (movesL s l) ∧ Ext w w' := by
 obtain ⟨a, c, rfl, h1, h2, H⟩ := h.lit
 obtain ⟨aw, cw, rfl, _⟩ := hw.open_
 have HI := Lib.hid hw
 clear h hw
 go_enter Tryz.func265, Tryz.ntmps265
 go_wp2_with fail
 go_loopg [8, 6, 7] s.length (fun m i t6 t7 wr => ∃ (k : Nat) (us : List Value), k ≤ s.length ∧ s.length ≤ k + m ∧ i = .int .i64 k ∧ StpW w wr t6 t7 (movesTo s l k) us)
 case atStart => exact ⟨0, [], by omega, by omega, rfl, ⟨Ext.refl _, OCel.nil _ _ _ _ _, OCel.nil _ _ _ _ _, rfl⟩⟩
 case round =>
  obtain ⟨k, us, hk, hk2, rfl, hW⟩ := hrel
  by_cases hlt : k < s.length
  ·obtain ⟨b, o, rfl, ta, tc, la, lc, ra, rc, c0, c1, c2, c3, hr⟩ := H.out k hlt
   have HR := Lib.hid hr; clear hr
   obtain ⟨g1, rfl⟩ : ∃ g : Nat, g = gk := ⟨_, rfl⟩
   have HW := Lib.hid hW; clear hW
   have HSZ := Lib.hid (stpTo_zero s l k)
   have HSA := Lib.hid (stpTo_all s l k)
   have HSL := Lib.hid (fun j (hj : j ≤ l.length + 1) => stpTo_len (s := s) (l := l) (k := k) (i := j) (by omega) hl hj)
   have HSY := Lib.hid (fun j => @stpTo_yes s l k j)
   have HSN := Lib.hid (fun j => @stpTo_no s l k j)
   generalize hx : rulAt s k = x at *
   have HX := Lib.hid hx; clear hx
   go_wp2_with fail
   go_loopg [9, 6, 7] (l.length + 1) (fun z i t6 t7 wr2 => ∃ (j : Nat) (us : List Value), j ≤ l.length + 1 ∧ l.length + 1 ≤ j + z ∧ i = .int .i64 j ∧ StpW w wr2 t6 t7 (stpTo s l k j) us)
   case atStart => exact ⟨0, us, by omega, by omega, rfl, by rw [HSZ.out]; exact HW.out⟩
   case round =>
    obtain ⟨j, us2, hj, hj2, rfl, hW2⟩ := hrel
    by_cases hjl : j < l.length + 1
    ·have hB := hW2.ext
     replace c0 := hB.keep c0
     replace c1 := hB.keep c1
     replace c2 := hB.keep c2
     replace c3 := hB.keep c3
     have HAP := Lib.hid (fun W (hx : Ext _ W) => rApply_c _ _ _ _ x l (j : Int) W (HR.out.ext (hB.trans hx)) (HI.out.ext (hB.trans hx)) (wf_mk ⟨by omega, by omega⟩))
     have hlen := HSL.out j (by omega)
     have HUS := Lib.hid hW2.len
     obtain ⟨pa, pc, hpv, _⟩ := (Cel.own encS_len hW2.own).open_
     subst hpv
     obtain ⟨qa, qc, hqv, _⟩ := (Cel.own encV_len hW2.own2).open_
     subst hqv
     have HW2 := Lib.hid hW2; clear hW2
     by_cases h0 : applyK x l (j : Int) = 0
     ·have HF := Lib.hid (HSY.out j h0)
      rw [h0] at HAP
      clear h0
      generalize stpTo s l k j = L at *
      go_wp2_with fail
      refine (HAP.out _ (Ext.refl _)).mono ?_; rintro e w3 ⟨nv, rfl, hno, hx3⟩
      obtain ⟨na, nc, hne, _⟩ := hno.ints.open_
      generalize (applyL x l j).length = nl at *
      subst hne
      clear hno
      have hB3 := hB.trans hx3
      have hs3 := hB3.size
      go_upto_region 12 with (at_builtin; refine wpList_appendS (enc := encS) (L := L) (k, (j : Int)) elStp rfl _ _ rfl rfl rfl (HW2.out.own.ext hx3) rfl rfl rfl (by intro u hu; simp only [encS, List.mem_cons, List.not_mem_nil, or_false] at hu; rcases hu with rfl | rfl <;> rfl) hs3 (by omega) (by omega) ?_; intro v4 w4 hown4 hb4 hg4 hn4)
      have hB4 : Ext w w4 := hB3.rowGrown (HW2.out.own.ext hx3) hg4
      have hown24 := rowKept (HW2.out.own2.ext hx3) (HW2.out.own.ext hx3) hg4 (by decide)
      have hs4 := hB4.size
      go_wp2_with (at_builtin; refine wpList_appendS (enc := encV) (L := us2) (.slice na nl nc) elRows rfl _ _ rfl rfl rfl hown24 rfl rfl rfl (by intro u hu; simp only [encV, List.mem_cons, List.not_mem_nil, or_false] at hu; subst hu; rfl) hs4 (by have := HUS.out; omega) (by have := HUS.out; omega) ?_; intro v5 w5 hown5 hb5 hg5 hn5)
      go_roundg (gk-1)
      case measure => omega
      case rel => exact ⟨j+1, _, by omega, by omega, by go_num, ⟨hB4.rowGrown hown24 hg5, by rw [HF.out]; exact rowKept hown4 hown24 hg5 (by decide), hown5, by rw [HF.out]; simp [HUS.out]⟩⟩
     ·have HF := Lib.hid (HSN.out j h0)
      have hd : (applyK x l (j : Int) == 0) = false := by simpa using h0
      clear h0
      generalize applyK x l (j : Int) = K at *
      go_wp2_with fail
      refine (HAP.out _ (Ext.refl _)).mono ?_; rintro e w3 ⟨nv, rfl, hno, hx3⟩
      clear hno
      go_wp2_with fail
      go_roundg (gk-1)
      case measure => omega
      case rel => exact ⟨j+1, us2, by omega, by omega, by go_num, ⟨hB.trans hx3, by rw [HF.out]; exact HW2.out.own.ext hx3, HW2.out.own2.ext hx3, by rw [HF.out]; exact HUS.out⟩⟩
    ·obtain rfl : j = l.length + 1 := by omega
     rw [HSA.out] at hW2
     have HW3 := Lib.hid hW2; clear hW2
     go_wp2_with fail
     go_roundg (g1-1)
     case measure => omega
     case rel => exact ⟨k+1, us2, by omega, by omega, by go_num, HW3.out⟩
  ·obtain rfl : k = s.length := by omega
   have HW := Lib.hid hW; clear hW
   go_wp2_with fail
   go_ret2
   exact ⟨_, _, rfl, HW.out.own, HW.out.ext⟩
set_option maxHeartbeats 2000000 in
set_option maxRecDepth 100000 in
theorem rSteps_c (v wv : Value) (s : List Rul) (l : List Int) (w : World) (h : Ruls w v s) (hw : Ints w wv l) :
  Calls Tryz.prog 256 #[v, wv] w fun e w' => ∃ u, e = .returned (.tuple #[u, .int .i64 (checkW s l)]) ∧ OCel encS 2 163 w' w.heap.size u (stpsL s l) ∧ Ext w w' := by
 have HW := Lib.hid (worded3_c v wv s l w h hw)
 have HS := Lib.hid (fun (hc : checkW s l = 0) W (q : Ext w W) => rsteps_c v wv s l W (h.ext q) (hw.ext q) (checkW_len hc).1 (checkW_len hc).2.1)
 have HL : Hid (stpsL s l = if checkW s l = 0 then movesL s l else []) := Lib.hid rfl
 obtain ⟨a, c, rfl, _⟩ := h.open_
 obtain ⟨aw, cw, rfl, _⟩ := hw.open_
 clear h hw
 rw [HL.out]
 by_cases h0 : checkW s l = 0
 ·rw [if_pos h0]
  have HS2 := Lib.hid (HS.out h0)
  rw [h0] at HW
  rw [h0]
  clear HS HL h0
  go_enter Tryz.func256, Tryz.ntmps256
  go_wp2_with fail
  refine HW.out.mono ?_; rintro e w1 ⟨rfl, hx1⟩
  go_wp2_with fail
  refine (HS2.out w1 hx1).mono ?_; rintro e w2 ⟨u, u2, rfl, ho, hx2⟩
  go_wp2_with fail
  go_ret2
  exact ⟨u, rfl, OCel.low ho hx1.size, hx1.trans hx2⟩
 ·rw [if_neg h0]
  have hn : (checkW s l != 0) = true := by simpa using h0
  clear HS HL h0
  generalize checkW s l = K at *
  go_enter Tryz.func256, Tryz.ntmps256
  go_wp2_with fail
  refine HW.out.mono ?_; rintro e w1 ⟨rfl, hx1⟩
  go_wp2_with fail
  go_ret2
  exact ⟨_, rfl, OCel.nil _ _ _ _ _, hx1⟩
set_option maxRecDepth 100000 in
theorem rcandidates_c (v wv : Value) (s : List Rul) (l : List Int) (w : World) (h : Ruls w v s) (hw : Ints w wv l) :
  Calls Tryz.prog 241 #[v, wv] w (ROCel encS 2 163 (stpsL s l) w) := by
 have HS := Lib.hid (rSteps_c v wv s l w h hw)
 obtain ⟨a, c, rfl, _⟩ := h.open_
 obtain ⟨aw, cw, rfl, _⟩ := hw.open_
 clear h hw
 go_enter Tryz.func241, Tryz.ntmps241
 go_wp2_with fail
 refine HS.out.mono ?_; rintro e w1 ⟨u, rfl, ho, hx1⟩
 obtain ⟨ua, uc, hul, _⟩ := (Cel.own encS_len ho).open_
 subst hul
 go_wp2_with fail
 go_ret
 exact ⟨_, rfl, ho, hx1⟩
set_option maxHeartbeats 2000000 in
set_option maxRecDepth 100000 in
theorem rafter_c (v wv : Value) (s : List Rul) (l : List Int) (a : Stp) (w : World) (h : Ruls w v s) (hw : Ints w wv l) (hk : a.1 < s.length) (hp : (Lit.int .i64 a.2).wf = true) :
  Calls Tryz.prog 272 #[v, wv, .agg #[.int .i64 a.1, .int .i64 a.2]] w (ROInts 3 (applyL (rulAt s a.1) l a.2) w) := by
 obtain ⟨wA, hwA⟩ : ∃ wA, wA = w.alloc (.cells #[.int .i64 a.1, .int .i64 a.2] 163) := ⟨_, rfl⟩
 have hE0 : Ext w wA := by rw [hwA]; exact Ext.alloc _ _
 have ka0 : ∀ W, Ext wA W → W.cell? ⟨w.heap.size, 0, none⟩ = some (.int .i64 a.1) := fun W q => q.keep (by rw [hwA]; exact alloc_cell w _ _ rfl)
 have ka1 : ∀ W, Ext wA W → W.cell? ⟨w.heap.size, 1, none⟩ = some (.int .i64 a.2) := fun W q => q.keep (by rw [hwA]; exact alloc_cell w _ _ rfl)
 have H0 : Ext wA wA := Ext.refl _
 have HWA := Lib.hid hwA; clear hwA
 obtain ⟨av, cv, rfl, h1, h2, H⟩ := h.lit
 obtain ⟨aw, cw, rfl, _⟩ := hw.open_
 obtain ⟨b, o, rfl, ta, tc, la, lc, ra, rc, c0, c1, c2, c3, hr⟩ := H.out a.1 hk
 have HAP := Lib.hid (fun W (hx : Ext w W) => rApply_c _ _ _ _ (rulAt s a.1) l a.2 W (hr.ext hx) (hw.ext hx) hp)
 clear h hw hr H
 replace c0 := fun W (q : Ext wA W) => q.keep (hE0.keep c0)
 replace c1 := fun W (q : Ext wA W) => q.keep (hE0.keep c1)
 replace c2 := fun W (q : Ext wA W) => q.keep (hE0.keep c2)
 replace c3 := fun W (q : Ext wA W) => q.keep (hE0.keep c3)
 generalize rulAt s a.1 = x at *
 obtain ⟨k, p⟩ := a
 dsimp only at *
 go_enter Tryz.func272, Tryz.ntmps272
 go_upto_region 1 with fail
 rw [← HWA.out]
 refine wp_region_treeR (fun a b => Ext a b) [] (.look 0 (.look 1 (.look 2 (.look 3 (.look 4 (.look 5 (.look 6 (.look 7 (.one 8 (.look 9 (.look 10 (.look 11 (.look 12 (.look 13 .done)))))))))))))) (fun w => Ext.refl w) (fun a b c h k => Ext.trans h k) (by kernel_rfl) (by kernel_rfl) (by intro c a d v w h; cases d <;> exact h) ?_
 have hxd := drawnP_ext wA
 generalize { wA with drawn := wA.drawn + 1 } = w1 at *
 have y0 : ∀ q : InC (fun c => Ext w1 c), q.w.cell? ⟨w.heap.size, 0, none⟩ = some (.int .i64 k) := fun q => ka0 _ (hxd.trans q.h)
 have y1 : ∀ q : InC (fun c => Ext w1 c), q.w.cell? ⟨w.heap.size, 1, none⟩ = some (.int .i64 p) := fun q => ka1 _ (hxd.trans q.h)
 have z0 : ∀ q : InC (fun c => Ext w1 c), q.w.cell? ⟨b, o + k * 4, none⟩ = some (.int .i64 x.f) := fun q => c0 _ (hxd.trans q.h)
 have z1 : ∀ q : InC (fun c => Ext w1 c), q.w.cell? ⟨b, o + k * 4 + 1, none⟩ = some (.slice ta x.t.length tc) := fun q => c1 _ (hxd.trans q.h)
 have z2 : ∀ q : InC (fun c => Ext w1 c), q.w.cell? ⟨b, o + k * 4 + 2, none⟩ = some (.slice la x.l.length lc) := fun q => c2 _ (hxd.trans q.h)
 have z3 : ∀ q : InC (fun c => Ext w1 c), q.w.cell? ⟨b, o + k * 4 + 3, none⟩ = some (.slice ra x.r.length rc) := fun q => c3 _ (hxd.trans q.h)
 iterate 8 (refine wpTreeR_look rfl (fun K hK => ?_); go_simp; first | (refine hK _ ?_; clear hK K) | (refine ⟨_, fun _ => rfl, hK _ ?_⟩; clear hK K))
 refine wpTreeR_one rfl rfl (fun K hK => ?_)
 go_wp2_with fail
 refine (HAP.out w1 (hE0.trans hxd)).mono ?_; rintro e w2 ⟨u, rfl, ho, hx2⟩
 obtain ⟨ua, uc, hul, _⟩ := ho.ints.open_
 subst hul
 go_wp2_with fail
 refine ⟨.inr hx2, ?_⟩
 iterate 5 (refine wpTreeR_look rfl (fun K hK => ?_); go_simp; first | (refine hK _ ?_; clear hK K) | (refine ⟨_, fun _ => rfl, hK _ ?_⟩; clear hK K))
 refine wpTreeR_done ?_
 go_wp2_with fail
 go_ret
 exact ⟨_, rfl, ho.low (hE0.trans hxd).size, (hE0.trans hxd).trans hx2⟩
set_option maxHeartbeats 4000000 in
set_option maxRecDepth 100000 in
theorem rlasts_c (v wv : Value) (s : List Rul) (l : List Int) (a b : Stp) (w : World) (h : Ruls w v s) (hw : Ints w wv l) (hka : a.1 < s.length) (hkb : b.1 < s.length) (hpa : 0 ≤ a.2) (hpa2 : a.2 ≤ 1000) (hpb : 0 ≤ b.2) (hpb2 : b.2 ≤ 1000) (ht : (rulAt s b.1).t.length ≤ 1000) :
  Calls Tryz.prog 269 #[v, wv, .agg #[.int .i64 a.1, .int .i64 a.2], .agg #[.int .i64 b.1, .int .i64 b.2]] w (RV (.bool (lastsB s l a b)) w) := by
 obtain ⟨wA, hwA⟩ : ∃ wA, wA = (w.alloc (.cells #[.int .i64 a.1, .int .i64 a.2] 163)).alloc (.cells #[.int .i64 b.1, .int .i64 b.2] 163) := ⟨_, rfl⟩
 have hE0 : Ext w wA := by rw [hwA]; exact (Ext.alloc _ _).trans (Ext.alloc _ _)
 have ka0 : ∀ W, Ext wA W → W.cell? ⟨w.heap.size, 0, none⟩ = some (.int .i64 a.1) := by rw [hwA]; exact keptA w _ _ _ _ rfl
 have ka1 : ∀ W, Ext wA W → W.cell? ⟨w.heap.size, 1, none⟩ = some (.int .i64 a.2) := by rw [hwA]; exact keptA w _ _ _ _ rfl
 have kb0 : ∀ W, Ext wA W → W.cell? ⟨w.heap.size + 1, 0, none⟩ = some (.int .i64 b.1) := by rw [hwA]; exact keptB w _ _ _ _ rfl
 have kb1 : ∀ W, Ext wA W → W.cell? ⟨w.heap.size + 1, 1, none⟩ = some (.int .i64 b.2) := by rw [hwA]; exact keptB w _ _ _ _ rfl
 have H0 : Ext wA wA := Ext.refl _
 have HWA := Lib.hid hwA; clear hwA
 have HAF := Lib.hid (fun W (hx : Ext w W) => rafter_c v wv s l b W (h.ext hx) (hw.ext hx) hkb (wf_mk ⟨by omega, by omega⟩))
 have HLB : Hid (lastsB s l a b = (applyK (rulAt s a.1) (applyL (rulAt s b.1) l b.2) (shiftP (rulAt s b.1) a b) == 0)) := Lib.hid rfl
 have HSH : Hid (shiftP (rulAt s b.1) a b = if b.2 < a.2 then (if 0 ≤ (rulAt s b.1).f then a.2 + (rulAt s b.1).t.length - 1 else a.2 + (rulAt s b.1).t.length) else a.2) := Lib.hid rfl
 obtain ⟨av, cv, rfl, h1, h2, H⟩ := h.lit
 obtain ⟨aw, cw, rfl, _⟩ := hw.open_
 obtain ⟨ba, oa, hae, ta, tc, la, lc, ra, rc, c0, c1, c2, c3, hra⟩ := H.out a.1 hka
 obtain ⟨bb, ob, hbe, ta2, tc2, la2, lc2, ra2, rc2, d0, d1, d2, d3, hrb⟩ := H.out b.1 hkb
 subst hae
 injection hbe with hbe
 injection hbe with hbe1 hbe2
 subst hbe1 hbe2
 generalize applyL (rulAt s b.1) l b.2 = af at *
 have HAP := Lib.hid (fun (u : Value) (i : Int) W (hx : Ext w W) (hu : Ints W u af) (hi : (Lit.int .i64 i).wf = true) => rApply_c _ _ _ u (rulAt s a.1) af i W (hra.ext hx) hu hi)
 clear h hw hra hrb H
 replace c0 := fun W (q : Ext wA W) => q.keep (hE0.keep c0)
 replace c1 := fun W (q : Ext wA W) => q.keep (hE0.keep c1)
 replace c2 := fun W (q : Ext wA W) => q.keep (hE0.keep c2)
 replace c3 := fun W (q : Ext wA W) => q.keep (hE0.keep c3)
 replace d0 := fun W (q : Ext wA W) => q.keep (hE0.keep d0)
 replace d1 := fun W (q : Ext wA W) => q.keep (hE0.keep d1)
 generalize lastsB s l a b = LB at *
 generalize rulAt s a.1 = x at *
 generalize shiftP (rulAt s b.1) a b = SH at *
 generalize rulAt s b.1 = y at *
 obtain ⟨ka, pa⟩ := a
 obtain ⟨kb, pb⟩ := b
 dsimp only at *
 by_cases hlt : pb < pa
 ·rw [if_pos hlt] at HSH
  by_cases hf : 0 ≤ y.f
  ·rw [if_pos hf] at HSH
   have hn : ((pa + (y.t.length : Int)) - 1) = pa + (y.t.length : Int) - 1 := rfl
   go_enter Tryz.func269, Tryz.ntmps269
   go_upto_region 1 with fail
   rw [← HWA.out]
   go_upto_region 6 with fail
   refine wp_region_treeR (fun a b => Ext a b) [] (.look 0 (.look 1 (.look 2 (.look 3 (.look 4 (.look 5 (.look 6 (.look 7 (.look 9 (.one 8 (.one 10 (.look 11 (.look 12 (.look 13 (.look 14 (.look 15 .done)))))))))))))))) (fun w => Ext.refl w) (fun a b c h k => Ext.trans h k) (by kernel_rfl) (by kernel_rfl) (by intro c a d v w h; cases d <;> exact h) ?_
   have hxd := drawnP_ext wA
   generalize { wA with drawn := wA.drawn + 1 } = w1 at *
   have y0 : ∀ q : InC (fun c => Ext w1 c), q.w.cell? ⟨w.heap.size, 0, none⟩ = some (.int .i64 ka) := fun q => ka0 _ (hxd.trans q.h)
   have y1 : ∀ q : InC (fun c => Ext w1 c), q.w.cell? ⟨w.heap.size, 1, none⟩ = some (.int .i64 pa) := fun q => ka1 _ (hxd.trans q.h)
   have y2 : ∀ q : InC (fun c => Ext w1 c), q.w.cell? ⟨w.heap.size + 1, 0, none⟩ = some (.int .i64 kb) := fun q => kb0 _ (hxd.trans q.h)
   have y3 : ∀ q : InC (fun c => Ext w1 c), q.w.cell? ⟨w.heap.size + 1, 1, none⟩ = some (.int .i64 pb) := fun q => kb1 _ (hxd.trans q.h)
   have z0 : ∀ q : InC (fun c => Ext w1 c), q.w.cell? ⟨ba, oa + ka * 4, none⟩ = some (.int .i64 x.f) := fun q => c0 _ (hxd.trans q.h)
   have z1 : ∀ q : InC (fun c => Ext w1 c), q.w.cell? ⟨ba, oa + ka * 4 + 1, none⟩ = some (.slice ta x.t.length tc) := fun q => c1 _ (hxd.trans q.h)
   have z2 : ∀ q : InC (fun c => Ext w1 c), q.w.cell? ⟨ba, oa + ka * 4 + 2, none⟩ = some (.slice la x.l.length lc) := fun q => c2 _ (hxd.trans q.h)
   have z3 : ∀ q : InC (fun c => Ext w1 c), q.w.cell? ⟨ba, oa + ka * 4 + 3, none⟩ = some (.slice ra x.r.length rc) := fun q => c3 _ (hxd.trans q.h)
   iterate 9 (refine wpTreeR_look rfl (fun K hK => ?_); go_simp; first | (refine hK _ ?_; clear hK K) | (refine ⟨_, fun _ => rfl, hK _ ?_⟩; clear hK K))
   refine wpTreeR_one rfl rfl (fun K hK => ?_)
   go_wp2_with fail
   refine (HAF.out w1 (hE0.trans hxd)).mono ?_; rintro e w2 ⟨u, rfl, ho, hx2⟩
   obtain ⟨ua, uc, hul, _⟩ := ho.ints.open_
   subst hul
   go_wp2_with fail
   refine ⟨.inr hx2, ?_⟩
   refine wpTreeR_one rfl rfl (fun K hK => ?_)
   go_wp2_with fail
   refine (HAP.out _ _ w2 ((hE0.trans hxd).trans hx2) ho.ints (wf_mk ⟨by omega, by omega⟩)).mono ?_; rintro e w3 ⟨u3, rfl, ho3, hx3⟩
   clear ho3
   go_wp2_with fail
   refine ⟨.inr hx3, ?_⟩
   iterate 5 (refine wpTreeR_look rfl (fun K hK => ?_); go_simp; first | (refine hK _ ?_; clear hK K) | (refine ⟨_, fun _ => rfl, hK _ ?_⟩; clear hK K))
   refine wpTreeR_done ?_
   go_wp2_with fail
   go_ret
   exact RV.bool (by rw [HLB.out, HSH.out]) (((hE0.trans hxd).trans hx2).trans hx3)
  ·rw [if_neg hf] at HSH
   go_enter Tryz.func269, Tryz.ntmps269
   go_upto_region 1 with fail
   rw [← HWA.out]
   go_upto_region 6 with fail
   refine wp_region_treeR (fun a b => Ext a b) [] (.look 0 (.look 1 (.look 2 (.look 3 (.look 4 (.look 5 (.look 6 (.look 7 (.look 9 (.one 8 (.one 10 (.look 11 (.look 12 (.look 13 (.look 14 (.look 15 .done)))))))))))))))) (fun w => Ext.refl w) (fun a b c h k => Ext.trans h k) (by kernel_rfl) (by kernel_rfl) (by intro c a d v w h; cases d <;> exact h) ?_
   have hxd := drawnP_ext wA
   generalize { wA with drawn := wA.drawn + 1 } = w1 at *
   have y0 : ∀ q : InC (fun c => Ext w1 c), q.w.cell? ⟨w.heap.size, 0, none⟩ = some (.int .i64 ka) := fun q => ka0 _ (hxd.trans q.h)
   have y1 : ∀ q : InC (fun c => Ext w1 c), q.w.cell? ⟨w.heap.size, 1, none⟩ = some (.int .i64 pa) := fun q => ka1 _ (hxd.trans q.h)
   have y2 : ∀ q : InC (fun c => Ext w1 c), q.w.cell? ⟨w.heap.size + 1, 0, none⟩ = some (.int .i64 kb) := fun q => kb0 _ (hxd.trans q.h)
   have y3 : ∀ q : InC (fun c => Ext w1 c), q.w.cell? ⟨w.heap.size + 1, 1, none⟩ = some (.int .i64 pb) := fun q => kb1 _ (hxd.trans q.h)
   have z0 : ∀ q : InC (fun c => Ext w1 c), q.w.cell? ⟨ba, oa + ka * 4, none⟩ = some (.int .i64 x.f) := fun q => c0 _ (hxd.trans q.h)
   have z1 : ∀ q : InC (fun c => Ext w1 c), q.w.cell? ⟨ba, oa + ka * 4 + 1, none⟩ = some (.slice ta x.t.length tc) := fun q => c1 _ (hxd.trans q.h)
   have z2 : ∀ q : InC (fun c => Ext w1 c), q.w.cell? ⟨ba, oa + ka * 4 + 2, none⟩ = some (.slice la x.l.length lc) := fun q => c2 _ (hxd.trans q.h)
   have z3 : ∀ q : InC (fun c => Ext w1 c), q.w.cell? ⟨ba, oa + ka * 4 + 3, none⟩ = some (.slice ra x.r.length rc) := fun q => c3 _ (hxd.trans q.h)
   iterate 9 (refine wpTreeR_look rfl (fun K hK => ?_); go_simp; first | (refine hK _ ?_; clear hK K) | (refine ⟨_, fun _ => rfl, hK _ ?_⟩; clear hK K))
   refine wpTreeR_one rfl rfl (fun K hK => ?_)
   go_wp2_with fail
   refine (HAF.out w1 (hE0.trans hxd)).mono ?_; rintro e w2 ⟨u, rfl, ho, hx2⟩
   obtain ⟨ua, uc, hul, _⟩ := ho.ints.open_
   subst hul
   go_wp2_with fail
   refine ⟨.inr hx2, ?_⟩
   refine wpTreeR_one rfl rfl (fun K hK => ?_)
   go_wp2_with fail
   refine (HAP.out _ _ w2 ((hE0.trans hxd).trans hx2) ho.ints (wf_mk ⟨by omega, by omega⟩)).mono ?_; rintro e w3 ⟨u3, rfl, ho3, hx3⟩
   clear ho3
   go_wp2_with fail
   refine ⟨.inr hx3, ?_⟩
   iterate 5 (refine wpTreeR_look rfl (fun K hK => ?_); go_simp; first | (refine hK _ ?_; clear hK K) | (refine ⟨_, fun _ => rfl, hK _ ?_⟩; clear hK K))
   refine wpTreeR_done ?_
   go_wp2_with fail
   go_ret
   exact RV.bool (by rw [HLB.out, HSH.out]) (((hE0.trans hxd).trans hx2).trans hx3)
 ·rw [if_neg hlt] at HSH
  go_enter Tryz.func269, Tryz.ntmps269
  go_upto_region 1 with fail
  rw [← HWA.out]
  go_upto_region 6 with fail
  refine wp_region_treeR (fun a b => Ext a b) [] (.look 0 (.look 1 (.look 2 (.look 3 (.look 4 (.look 5 (.look 6 (.look 7 (.look 9 (.one 8 (.one 10 (.look 11 (.look 12 (.look 13 (.look 14 (.look 15 .done)))))))))))))))) (fun w => Ext.refl w) (fun a b c h k => Ext.trans h k) (by kernel_rfl) (by kernel_rfl) (by intro c a d v w h; cases d <;> exact h) ?_
  have hxd := drawnP_ext wA
  generalize { wA with drawn := wA.drawn + 1 } = w1 at *
  have y0 : ∀ q : InC (fun c => Ext w1 c), q.w.cell? ⟨w.heap.size, 0, none⟩ = some (.int .i64 ka) := fun q => ka0 _ (hxd.trans q.h)
  have y1 : ∀ q : InC (fun c => Ext w1 c), q.w.cell? ⟨w.heap.size, 1, none⟩ = some (.int .i64 pa) := fun q => ka1 _ (hxd.trans q.h)
  have y2 : ∀ q : InC (fun c => Ext w1 c), q.w.cell? ⟨w.heap.size + 1, 0, none⟩ = some (.int .i64 kb) := fun q => kb0 _ (hxd.trans q.h)
  have y3 : ∀ q : InC (fun c => Ext w1 c), q.w.cell? ⟨w.heap.size + 1, 1, none⟩ = some (.int .i64 pb) := fun q => kb1 _ (hxd.trans q.h)
  have z0 : ∀ q : InC (fun c => Ext w1 c), q.w.cell? ⟨ba, oa + ka * 4, none⟩ = some (.int .i64 x.f) := fun q => c0 _ (hxd.trans q.h)
  have z1 : ∀ q : InC (fun c => Ext w1 c), q.w.cell? ⟨ba, oa + ka * 4 + 1, none⟩ = some (.slice ta x.t.length tc) := fun q => c1 _ (hxd.trans q.h)
  have z2 : ∀ q : InC (fun c => Ext w1 c), q.w.cell? ⟨ba, oa + ka * 4 + 2, none⟩ = some (.slice la x.l.length lc) := fun q => c2 _ (hxd.trans q.h)
  have z3 : ∀ q : InC (fun c => Ext w1 c), q.w.cell? ⟨ba, oa + ka * 4 + 3, none⟩ = some (.slice ra x.r.length rc) := fun q => c3 _ (hxd.trans q.h)
  iterate 9 (refine wpTreeR_look rfl (fun K hK => ?_); go_simp; first | (refine hK _ ?_; clear hK K) | (refine ⟨_, fun _ => rfl, hK _ ?_⟩; clear hK K))
  refine wpTreeR_one rfl rfl (fun K hK => ?_)
  go_wp2_with fail
  refine (HAF.out w1 (hE0.trans hxd)).mono ?_; rintro e w2 ⟨u, rfl, ho, hx2⟩
  obtain ⟨ua, uc, hul, _⟩ := ho.ints.open_
  subst hul
  go_wp2_with fail
  refine ⟨.inr hx2, ?_⟩
  refine wpTreeR_one rfl rfl (fun K hK => ?_)
  go_wp2_with fail
  refine (HAP.out _ _ w2 ((hE0.trans hxd).trans hx2) ho.ints (wf_mk ⟨by omega, by omega⟩)).mono ?_; rintro e w3 ⟨u3, rfl, ho3, hx3⟩
  clear ho3
  go_wp2_with fail
  refine ⟨.inr hx3, ?_⟩
  iterate 5 (refine wpTreeR_look rfl (fun K hK => ?_); go_simp; first | (refine hK _ ?_; clear hK K) | (refine ⟨_, fun _ => rfl, hK _ ?_⟩; clear hK K))
  refine wpTreeR_done ?_
  go_wp2_with fail
  go_ret
  exact RV.bool (by rw [HLB.out, HSH.out]) (((hE0.trans hxd).trans hx2).trans hx3)
end Go.Proofs.YtpmlcfgbfhgpgaaGreatDoor
/- The reference's grounds and its winner. -/
namespace Go.Proofs.YtpmlcfgbfhgpgaaGreatDoor
open Go.RowKit Go.Shelf
set_option linter.unusedVariables false
structure StpOk (s : List Rul) (a : Stp) : Prop where
 k : a.1 < s.length
 p0 : 0 ≤ a.2
 p1 : a.2 ≤ 1000
 t : (rulAt s a.1).t.length ≤ 1000
theorem StpOk.wf {s : List Rul} {a : Stp} (h : StpOk s a) : (Lit.int .i64 a.2).wf = true := by have := h.p0; have := h.p1; exact wf_mk ⟨by omega, by omega⟩
theorem stpsL_ok {s : List Rul} {l : List Int} {a : Stp} (hs : validS s = 0) (hl : l.length ≤ 8) (h : a ∈ stpsL s l) : StpOk s a := by
 obtain ⟨h1, h2, h3, _⟩ := stpsL_at h
 exact ⟨h1, h2, by omega, by have := validR_t (validS_rule hs h1); omega⟩
set_option maxHeartbeats 4000000 in
set_option maxRecDepth 100000 in
theorem rpro1_c (v wv : Value) (s : List Rul) (l : List Int) (a b : Stp) (w : World) (h : Ruls w v s) (hw : Ints w wv l) (ha : StpOk s a) (hb : StpOk s b) :
  Calls Tryz.prog 266 #[v, wv, .int .i64 1, .agg #[.int .i64 a.1, .int .i64 a.2], .agg #[.int .i64 b.1, .int .i64 b.2]] w (RV (.bool (proB s l 1 a b)) w) := by
 obtain ⟨wA, hwA⟩ : ∃ wA, wA = (w.alloc (.cells #[.int .i64 a.1, .int .i64 a.2] 163)).alloc (.cells #[.int .i64 b.1, .int .i64 b.2] 163) := ⟨_, rfl⟩
 have hE0 : Ext w wA := by rw [hwA]; exact (Ext.alloc _ _).trans (Ext.alloc _ _)
 have ka0 : ∀ W, Ext wA W → W.cell? ⟨w.heap.size, 0, none⟩ = some (.int .i64 a.1) := by rw [hwA]; exact keptA w _ _ _ _ rfl
 have ka1 : ∀ W, Ext wA W → W.cell? ⟨w.heap.size, 1, none⟩ = some (.int .i64 a.2) := by rw [hwA]; exact keptA w _ _ _ _ rfl
 have kb0 : ∀ W, Ext wA W → W.cell? ⟨w.heap.size + 1, 0, none⟩ = some (.int .i64 b.1) := by rw [hwA]; exact keptB w _ _ _ _ rfl
 have kb1 : ∀ W, Ext wA W → W.cell? ⟨w.heap.size + 1, 1, none⟩ = some (.int .i64 b.2) := by rw [hwA]; exact keptB w _ _ _ _ rfl
 have H0 : Ext wA wA := Ext.refl _
 have HWA := Lib.hid hwA; clear hwA
 have HP : Hid (proB s l 1 a b = (a.2 == b.2 && (spec (rulAt s a.1) (rulAt s b.1) && !spec (rulAt s b.1) (rulAt s a.1)))) := Lib.hid rfl
 have hka := ha.k
 have hkb := hb.k
 obtain ⟨av, cv, rfl, h1, h2, H⟩ := h.lit
 obtain ⟨aw, cw, rfl, _⟩ := hw.open_
 obtain ⟨ba, oa, hae, ta, tc, la, lc, ra, rc, c0, c1, c2, c3, hra⟩ := H.out a.1 hka
 obtain ⟨bb, ob, hbe, ta2, tc2, la2, lc2, ra2, rc2, d0, d1, d2, d3, hrb⟩ := H.out b.1 hkb
 subst hae
 injection hbe with hbe
 injection hbe with hbe1 hbe2
 subst hbe1 hbe2
 have HS1 := Lib.hid (fun W (hx : Ext w W) => rIsSpecial_c _ _ _ _ _ _ (rulAt s a.1) (rulAt s b.1) W (hra.ext hx) (hrb.ext hx))
 have HS2 := Lib.hid (fun W (hx : Ext w W) => rIsSpecial_c _ _ _ _ _ _ (rulAt s b.1) (rulAt s a.1) W (hrb.ext hx) (hra.ext hx))
 clear h hw hra hrb H ha hb
 replace c0 := fun W (q : Ext wA W) => q.keep (hE0.keep c0)
 replace c1 := fun W (q : Ext wA W) => q.keep (hE0.keep c1)
 replace c2 := fun W (q : Ext wA W) => q.keep (hE0.keep c2)
 replace c3 := fun W (q : Ext wA W) => q.keep (hE0.keep c3)
 replace d0 := fun W (q : Ext wA W) => q.keep (hE0.keep d0)
 replace d1 := fun W (q : Ext wA W) => q.keep (hE0.keep d1)
 replace d2 := fun W (q : Ext wA W) => q.keep (hE0.keep d2)
 replace d3 := fun W (q : Ext wA W) => q.keep (hE0.keep d3)
 generalize proB s l 1 a b = R at *
 generalize twoK (rulAt s a.1) (rulAt s b.1) = K1 at *
 generalize twoK (rulAt s b.1) (rulAt s a.1) = K2 at *
 generalize spec (rulAt s a.1) (rulAt s b.1) = S1 at *
 generalize spec (rulAt s b.1) (rulAt s a.1) = S2 at *
 generalize rulAt s a.1 = x at *
 generalize rulAt s b.1 = y at *
 obtain ⟨ka, pa⟩ := a
 obtain ⟨kb, pb⟩ := b
 dsimp only at *
 by_cases hpe : pa = pb
 ·subst hpe
  cases S1 with
  | true =>
   go_enter Tryz.func266, Tryz.ntmps266
   go_upto_region 3 with fail
   rw [← HWA.out]
   have hs : ∀ s : Later wA, Ext wA s.w := fun s => s.ext
   refine wp_region_later (by kernel_rfl) (by kernel_rfl) ?_
   repeat (go_big_quiet_step ((go_at_call 268; exact Later.call (HS1.out _ (hE0.trans (hs _))))))
   refine wpQuiet_nil ?_
   intro _ hw'
   obtain ⟨⟨w1, hx1⟩, rfl⟩ := hw'
   clear hs
   go_upto_region 4 with fail
   have hs : ∀ s : Later _, Ext wA s.w := fun s => hx1.trans s.ext
   refine wp_region_later (by kernel_rfl) (by kernel_rfl) ?_
   repeat (go_big_quiet_step ((go_at_call 268; exact Later.call (HS2.out _ (hE0.trans (hs _))))))
   refine wpQuiet_nil ?_
   intro _ hw'
   obtain ⟨⟨w2, hx2⟩, rfl⟩ := hw'
   clear hs
   have hX := hx1.trans hx2
   go_wp2_with fail
   go_ret
   exact RV.bool (by rw [HP.out]; simp) (hE0.trans hX)
  | false =>
   go_enter Tryz.func266, Tryz.ntmps266
   go_upto_region 3 with fail
   rw [← HWA.out]
   have hs : ∀ s : Later wA, Ext wA s.w := fun s => s.ext
   refine wp_region_later (by kernel_rfl) (by kernel_rfl) ?_
   repeat (go_big_quiet_step ((go_at_call 268; exact Later.call (HS1.out _ (hE0.trans (hs _))))))
   refine wpQuiet_nil ?_
   intro _ hw'
   obtain ⟨⟨w1, hx1⟩, rfl⟩ := hw'
   clear hs
   go_upto_region 4 with fail
   have hs : ∀ s : Later _, Ext wA s.w := fun s => hx1.trans s.ext
   refine wp_region_later (by kernel_rfl) (by kernel_rfl) ?_
   repeat (go_big_quiet_step ((go_at_call 268; exact Later.call (HS2.out _ (hE0.trans (hs _))))))
   refine wpQuiet_nil ?_
   intro _ hw'
   obtain ⟨⟨w2, hx2⟩, rfl⟩ := hw'
   clear hs
   have hX := hx1.trans hx2
   go_wp2_with fail
   go_ret
   exact RV.bool (by rw [HP.out]; simp) (hE0.trans hX)
 ·have hd : (pa == pb) = false := by simpa using hpe
  rw [hd] at HP
  clear hpe
  go_enter Tryz.func266, Tryz.ntmps266
  go_upto_region 3 with fail
  rw [← HWA.out]
  have hs : ∀ s : Later wA, Ext wA s.w := fun s => s.ext
  refine wp_region_later (by kernel_rfl) (by kernel_rfl) ?_
  repeat (go_big_quiet_step ((go_at_call 268; exact Later.call (HS1.out _ (hE0.trans (hs _))))))
  refine wpQuiet_nil ?_
  intro _ hw'
  obtain ⟨⟨w1, hx1⟩, rfl⟩ := hw'
  clear hs
  go_upto_region 4 with fail
  have hs : ∀ s : Later _, Ext wA s.w := fun s => hx1.trans s.ext
  refine wp_region_later (by kernel_rfl) (by kernel_rfl) ?_
  repeat (go_big_quiet_step ((go_at_call 268; exact Later.call (HS2.out _ (hE0.trans (hs _))))))
  refine wpQuiet_nil ?_
  intro _ hw'
  obtain ⟨⟨w2, hx2⟩, rfl⟩ := hw'
  clear hs
  have hX := hx1.trans hx2
  go_wp2_with fail
  go_ret
  exact RV.bool (by rw [HP.out]; simp) (hE0.trans hX)
set_option maxHeartbeats 2000000 in
set_option maxRecDepth 100000 in
theorem rpro2_c (v wv : Value) (s : List Rul) (l : List Int) (a b : Stp) (w : World) (h : Ruls w v s) (hw : Ints w wv l) (ha : StpOk s a) (hb : StpOk s b) :
  Calls Tryz.prog 266 #[v, wv, .int .i64 2, .agg #[.int .i64 a.1, .int .i64 a.2], .agg #[.int .i64 b.1, .int .i64 b.2]] w (RV (.bool (proB s l 2 a b)) w) := by
 obtain ⟨wA, hwA⟩ : ∃ wA, wA = (w.alloc (.cells #[.int .i64 a.1, .int .i64 a.2] 163)).alloc (.cells #[.int .i64 b.1, .int .i64 b.2] 163) := ⟨_, rfl⟩
 have hE0 : Ext w wA := by rw [hwA]; exact (Ext.alloc _ _).trans (Ext.alloc _ _)
 have ka0 : ∀ W, Ext wA W → W.cell? ⟨w.heap.size, 0, none⟩ = some (.int .i64 a.1) := by rw [hwA]; exact keptA w _ _ _ _ rfl
 have ka1 : ∀ W, Ext wA W → W.cell? ⟨w.heap.size, 1, none⟩ = some (.int .i64 a.2) := by rw [hwA]; exact keptA w _ _ _ _ rfl
 have kb0 : ∀ W, Ext wA W → W.cell? ⟨w.heap.size + 1, 0, none⟩ = some (.int .i64 b.1) := by rw [hwA]; exact keptB w _ _ _ _ rfl
 have kb1 : ∀ W, Ext wA W → W.cell? ⟨w.heap.size + 1, 1, none⟩ = some (.int .i64 b.2) := by rw [hwA]; exact keptB w _ _ _ _ rfl
 have H0 : Ext wA wA := Ext.refl _
 have HWA := Lib.hid hwA; clear hwA
 have HP : Hid (proB s l 2 a b = (lastsB s l a b && !lastsB s l b a)) := Lib.hid rfl
 have HL1 := Lib.hid (fun W (q : Ext w W) => rlasts_c v wv s l a b W (h.ext q) (hw.ext q) ha.k hb.k ha.p0 ha.p1 hb.p0 hb.p1 hb.t)
 have HL2 := Lib.hid (fun W (q : Ext w W) => rlasts_c v wv s l b a W (h.ext q) (hw.ext q) hb.k ha.k hb.p0 hb.p1 ha.p0 ha.p1 ha.t)
 obtain ⟨av, cv, rfl, _⟩ := h.open_
 obtain ⟨aw, cw, rfl, _⟩ := hw.open_
 clear h hw ha hb
 generalize proB s l 2 a b = R at *
 generalize lastsB s l b a = L2 at *
 cases hl : lastsB s l a b with
 | true =>
  rw [hl] at HL1 HP
  clear hl
  obtain ⟨ka, pa⟩ := a
  obtain ⟨kb, pb⟩ := b
  dsimp only at *
  go_enter Tryz.func266, Tryz.ntmps266
  go_upto_region 1 with fail
  rw [← HWA.out]
  go_wp2_with fail
  refine (HL1.out wA hE0).mono ?_; rintro e w1 ⟨rfl, hx1⟩
  have H1 : Ext wA w1 := hx1
  go_wp2_with fail
  refine (HL2.out w1 (hE0.trans hx1)).mono ?_; rintro e w2 ⟨rfl, hx2⟩
  go_wp2_with fail
  go_ret
  exact RV.bool (by rw [HP.out]; simp) ((hE0.trans hx1).trans hx2)
 | false =>
  rw [hl] at HL1 HP
  clear hl
  obtain ⟨ka, pa⟩ := a
  obtain ⟨kb, pb⟩ := b
  dsimp only at *
  go_enter Tryz.func266, Tryz.ntmps266
  go_upto_region 1 with fail
  rw [← HWA.out]
  go_wp2_with fail
  refine (HL1.out wA hE0).mono ?_; rintro e w1 ⟨rfl, hx1⟩
  go_wp2_with fail
  go_ret
  exact RV.bool (by rw [HP.out]; simp) (hE0.trans hx1)
set_option maxHeartbeats 2000000 in
set_option maxRecDepth 100000 in
theorem rpro3_c (v wv : Value) (s : List Rul) (l : List Int) (a b : Stp) (w : World) (h : Ruls w v s) (hw : Ints w wv l) :
  Calls Tryz.prog 266 #[v, wv, .int .i64 3, .agg #[.int .i64 a.1, .int .i64 a.2], .agg #[.int .i64 b.1, .int .i64 b.2]] w (RV (.bool (proB s l 3 a b)) w) := by
 obtain ⟨wA, hwA⟩ : ∃ wA, wA = (w.alloc (.cells #[.int .i64 a.1, .int .i64 a.2] 163)).alloc (.cells #[.int .i64 b.1, .int .i64 b.2] 163) := ⟨_, rfl⟩
 have hE0 : Ext w wA := by rw [hwA]; exact (Ext.alloc _ _).trans (Ext.alloc _ _)
 have ka0 : ∀ W, Ext wA W → W.cell? ⟨w.heap.size, 0, none⟩ = some (.int .i64 a.1) := by rw [hwA]; exact keptA w _ _ _ _ rfl
 have ka1 : ∀ W, Ext wA W → W.cell? ⟨w.heap.size, 1, none⟩ = some (.int .i64 a.2) := by rw [hwA]; exact keptA w _ _ _ _ rfl
 have kb0 : ∀ W, Ext wA W → W.cell? ⟨w.heap.size + 1, 0, none⟩ = some (.int .i64 b.1) := by rw [hwA]; exact keptB w _ _ _ _ rfl
 have kb1 : ∀ W, Ext wA W → W.cell? ⟨w.heap.size + 1, 1, none⟩ = some (.int .i64 b.2) := by rw [hwA]; exact keptB w _ _ _ _ rfl
 have H0 : Ext wA wA := Ext.refl _
 have HWA := Lib.hid hwA; clear hwA
 have HP : Hid (proB s l 3 a b = decide (a.2 < b.2)) := Lib.hid rfl
 obtain ⟨av, cv, rfl, _⟩ := h.open_
 obtain ⟨aw, cw, rfl, _⟩ := hw.open_
 clear h hw
 generalize proB s l 3 a b = R at *
 obtain ⟨ka, pa⟩ := a
 obtain ⟨kb, pb⟩ := b
 dsimp only at *
 go_enter Tryz.func266, Tryz.ntmps266
 go_upto_region 1 with fail
 rw [← HWA.out]
 go_wp2_with fail
 go_ret
 exact RV.bool (by rw [HP.out]; first | done | simp) hE0
set_option maxHeartbeats 2000000 in
set_option maxRecDepth 100000 in
theorem rpro4_c (v wv : Value) (s : List Rul) (l : List Int) (a b : Stp) (w : World) (h : Ruls w v s) (hw : Ints w wv l) :
  Calls Tryz.prog 266 #[v, wv, .int .i64 4, .agg #[.int .i64 a.1, .int .i64 a.2], .agg #[.int .i64 b.1, .int .i64 b.2]] w (RV (.bool (proB s l 4 a b)) w) := by
 obtain ⟨wA, hwA⟩ : ∃ wA, wA = (w.alloc (.cells #[.int .i64 a.1, .int .i64 a.2] 163)).alloc (.cells #[.int .i64 b.1, .int .i64 b.2] 163) := ⟨_, rfl⟩
 have hE0 : Ext w wA := by rw [hwA]; exact (Ext.alloc _ _).trans (Ext.alloc _ _)
 have ka0 : ∀ W, Ext wA W → W.cell? ⟨w.heap.size, 0, none⟩ = some (.int .i64 a.1) := by rw [hwA]; exact keptA w _ _ _ _ rfl
 have ka1 : ∀ W, Ext wA W → W.cell? ⟨w.heap.size, 1, none⟩ = some (.int .i64 a.2) := by rw [hwA]; exact keptA w _ _ _ _ rfl
 have kb0 : ∀ W, Ext wA W → W.cell? ⟨w.heap.size + 1, 0, none⟩ = some (.int .i64 b.1) := by rw [hwA]; exact keptB w _ _ _ _ rfl
 have kb1 : ∀ W, Ext wA W → W.cell? ⟨w.heap.size + 1, 1, none⟩ = some (.int .i64 b.2) := by rw [hwA]; exact keptB w _ _ _ _ rfl
 have H0 : Ext wA wA := Ext.refl _
 have HWA := Lib.hid hwA; clear hwA
 have HP : Hid (proB s l 4 a b = decide ((b.1 : Int) < (a.1 : Int))) := Lib.hid (by unfold proB; simp)
 obtain ⟨av, cv, rfl, _⟩ := h.open_
 obtain ⟨aw, cw, rfl, _⟩ := hw.open_
 clear h hw
 generalize proB s l 4 a b = R at *
 obtain ⟨ka, pa⟩ := a
 obtain ⟨kb, pb⟩ := b
 dsimp only at *
 go_enter Tryz.func266, Tryz.ntmps266
 go_upto_region 1 with fail
 rw [← HWA.out]
 go_wp2_with fail
 go_ret
 exact RV.bool (by rw [HP.out]; first | done | simp) hE0
theorem rpro_c (v wv : Value) (s : List Rul) (l : List Int) (g : Int) (a b : Stp) (w : World) (h : Ruls w v s) (hw : Ints w wv l) (ha : StpOk s a) (hb : StpOk s b) (h1 : 1 ≤ g) (h2 : g ≤ 4) :
  Calls Tryz.prog 266 #[v, wv, .int .i64 g, .agg #[.int .i64 a.1, .int .i64 a.2], .agg #[.int .i64 b.1, .int .i64 b.2]] w (RV (.bool (proB s l g a b)) w) := by
 have : g = 1 ∨ g = 2 ∨ g = 3 ∨ g = 4 := by omega
 rcases this with rfl | rfl | rfl | rfl
 ·exact rpro1_c v wv s l a b w h hw ha hb
 ·exact rpro2_c v wv s l a b w h hw ha hb
 ·exact rpro3_c v wv s l a b w h hw
 ·exact rpro4_c v wv s l a b w h hw
set_option maxHeartbeats 2000000 in
set_option maxRecDepth 100000 in
theorem rdecide_c (v wv : Value) (s : List Rul) (l : List Int) (g : Int) (a b : Stp) (w : World) (h : Ruls w v s) (hw : Ints w wv l) (ha : StpOk s a) (hb : StpOk s b) (h1 : 1 ≤ g) (h2 : g ≤ 4) :
  Calls Tryz.prog 257 #[v, wv, .int .i64 g, .agg #[.int .i64 a.1, .int .i64 a.2], .agg #[.int .i64 b.1, .int .i64 b.2]] w (RV (.int .i64 (decZ s l g a b)) w) := by
 obtain ⟨wA, hwA⟩ : ∃ wA, wA = (w.alloc (.cells #[.int .i64 a.1, .int .i64 a.2] 163)).alloc (.cells #[.int .i64 b.1, .int .i64 b.2] 163) := ⟨_, rfl⟩
 have hE0 : Ext w wA := by rw [hwA]; exact (Ext.alloc _ _).trans (Ext.alloc _ _)
 have ka0 : ∀ W, Ext wA W → W.cell? ⟨w.heap.size, 0, none⟩ = some (.int .i64 a.1) := by rw [hwA]; exact keptA w _ _ _ _ rfl
 have ka1 : ∀ W, Ext wA W → W.cell? ⟨w.heap.size, 1, none⟩ = some (.int .i64 a.2) := by rw [hwA]; exact keptA w _ _ _ _ rfl
 have kb0 : ∀ W, Ext wA W → W.cell? ⟨w.heap.size + 1, 0, none⟩ = some (.int .i64 b.1) := by rw [hwA]; exact keptB w _ _ _ _ rfl
 have kb1 : ∀ W, Ext wA W → W.cell? ⟨w.heap.size + 1, 1, none⟩ = some (.int .i64 b.2) := by rw [hwA]; exact keptB w _ _ _ _ rfl
 have H0 : Ext wA wA := Ext.refl _
 have HWA := Lib.hid hwA; clear hwA
 have HP1 := Lib.hid (fun W (q : Ext w W) => rpro_c v wv s l g a b W (h.ext q) (hw.ext q) ha hb h1 h2)
 have HP2 := Lib.hid (fun W (q : Ext w W) => rpro_c v wv s l g b a W (h.ext q) (hw.ext q) hb ha h1 h2)
 have hc := dec_cases s l g a b
 obtain ⟨av, cv, rfl, _⟩ := h.open_
 obtain ⟨aw, cw, rfl, _⟩ := hw.open_
 clear h hw ha hb h1 h2
 rcases hc with ⟨e1, e3⟩ | ⟨e1, e2, e3⟩ | ⟨e1, e2, e3⟩
 ·rw [e1] at HP1
  rw [e3]
  clear e1 e3
  obtain ⟨ka, pa⟩ := a
  obtain ⟨kb, pb⟩ := b
  dsimp only at *
  go_enter Tryz.func257, Tryz.ntmps257
  go_upto_region 1 with fail
  rw [← HWA.out]
  go_wp2_with fail
  refine (HP1.out wA hE0).mono ?_; rintro e w1 ⟨rfl, hx1⟩
  go_wp2_with fail
  go_ret
  exact ⟨rfl, hE0.trans hx1⟩
 ·rw [e1] at HP1
  rw [e2] at HP2
  rw [e3]
  clear e1 e2 e3
  obtain ⟨ka, pa⟩ := a
  obtain ⟨kb, pb⟩ := b
  dsimp only at *
  go_enter Tryz.func257, Tryz.ntmps257
  go_upto_region 1 with fail
  rw [← HWA.out]
  go_wp2_with fail
  refine (HP1.out wA hE0).mono ?_; rintro e w1 ⟨rfl, hx1⟩
  have H1 : Ext wA w1 := hx1
  go_wp2_with fail
  refine (HP2.out w1 (hE0.trans hx1)).mono ?_; rintro e w2 ⟨rfl, hx2⟩
  go_wp2_with fail
  go_ret
  exact ⟨rfl, (hE0.trans hx1).trans hx2⟩
 ·rw [e1] at HP1
  rw [e2] at HP2
  rw [e3]
  clear e1 e2 e3
  obtain ⟨ka, pa⟩ := a
  obtain ⟨kb, pb⟩ := b
  dsimp only at *
  go_enter Tryz.func257, Tryz.ntmps257
  go_upto_region 1 with fail
  rw [← HWA.out]
  go_wp2_with fail
  refine (HP1.out wA hE0).mono ?_; rintro e w1 ⟨rfl, hx1⟩
  have H1 : Ext wA w1 := hx1
  go_wp2_with fail
  refine (HP2.out w1 (hE0.trans hx1)).mono ?_; rintro e w2 ⟨rfl, hx2⟩
  go_wp2_with fail
  go_ret
  exact ⟨rfl, (hE0.trans hx1).trans hx2⟩
set_option maxHeartbeats 2000000 in
set_option maxRecDepth 100000 in
theorem rbeats_c (v wv gv : Value) (s : List Rul) (l gs : List Int) (a b : Stp) (w : World) (h : Ruls w v s) (hw : Ints w wv l) (hg : Ints w gv gs) (hgr : GrOk gs) (ha : StpOk s a) (hb : StpOk s b) :
  Calls Tryz.prog 243 #[v, wv, gv, .agg #[.int .i64 a.1, .int .i64 a.2], .agg #[.int .i64 b.1, .int .i64 b.2]] w (RV (.int .i64 (beatsZ s l gs a b)) w) := by
 obtain ⟨wA, hwA⟩ : ∃ wA, wA = (w.alloc (.cells #[.int .i64 a.1, .int .i64 a.2] 163)).alloc (.cells #[.int .i64 b.1, .int .i64 b.2] 163) := ⟨_, rfl⟩
 have hE0 : Ext w wA := by rw [hwA]; exact (Ext.alloc _ _).trans (Ext.alloc _ _)
 have ka0 : ∀ W, Ext wA W → W.cell? ⟨w.heap.size, 0, none⟩ = some (.int .i64 a.1) := by rw [hwA]; exact keptA w _ _ _ _ rfl
 have ka1 : ∀ W, Ext wA W → W.cell? ⟨w.heap.size, 1, none⟩ = some (.int .i64 a.2) := by rw [hwA]; exact keptA w _ _ _ _ rfl
 have kb0 : ∀ W, Ext wA W → W.cell? ⟨w.heap.size + 1, 0, none⟩ = some (.int .i64 b.1) := by rw [hwA]; exact keptB w _ _ _ _ rfl
 have kb1 : ∀ W, Ext wA W → W.cell? ⟨w.heap.size + 1, 1, none⟩ = some (.int .i64 b.2) := by rw [hwA]; exact keptB w _ _ _ _ rfl
 have H0 : Ext wA wA := Ext.refl _
 have HWA := Lib.hid hwA; clear hwA
 have HD := Lib.hid (fun g (h1 : 1 ≤ g) (h2 : g ≤ 4) W (q : Ext w W) => rdecide_c v wv s l g a b W (h.ext q) (hw.ext q) ha hb h1 h2)
 have HGR := Lib.hid hgr; clear hgr
 have HBZ : Hid (∀ k, k < gs.length → (∀ j, j < k → decZ s l (gs[j]?.getD 0) a b = 0) → decZ s l (gs[k]?.getD 0) a b ≠ 0 → beatsZ s l gs a b = decZ s l (gs[k]?.getD 0) a b * (gs[k]?.getD 0)) := Lib.hid fun k hk h hn => beats_at hk h hn
 have HBN : Hid ((∀ j, j < gs.length → decZ s l (gs[j]?.getD 0) a b = 0) → beatsZ s l gs a b = 0) := Lib.hid beats_none
 have HDR := Lib.hid (fun g => dec_range s l g a b)
 generalize beatsZ s l gs a b = Z at *
 obtain ⟨dz, hdz2⟩ : ∃ dz : Int → Int, ∀ g, decZ s l g a b = dz g := ⟨_, fun _ => rfl⟩
 simp only [hdz2] at HD HBZ HBN HDR
 clear hdz2
 obtain ⟨av, cv, rfl, _⟩ := h.open_
 obtain ⟨aw, cw, rfl, _⟩ := hw.open_
 obtain ⟨ag, cg, rfl, _, _, HG⟩ := hg.open_
 clear h hw hg ha hb
 obtain ⟨ka, pa⟩ := a
 obtain ⟨kb, pb⟩ := b
 dsimp only at *
 go_enter Tryz.func243, Tryz.ntmps243
 go_upto_region 1 with fail
 rw [← HWA.out]
 go_wp2_with fail
 go_loopg [11] gs.length (fun m i wr => ∃ k : Nat, k ≤ gs.length ∧ gs.length ≤ k + m ∧ i = .int .i64 k ∧ Ext wA wr ∧ Hid (∀ j, j < k → dz (gs[j]?.getD 0) = 0))
 case atStart => exact ⟨0, by omega, by omega, rfl, Ext.refl _, fun j hj => by omega⟩
 case round =>
  obtain ⟨k, hk, hk2, rfl, hB, hE⟩ := hrel
  by_cases hlt : k < gs.length
  ·obtain ⟨gb, go, rfl, hc⟩ := HG.out k hlt
   replace hc := (hE0.trans hB).keep hc
   obtain ⟨hg1, hg2⟩ := HGR.out k hlt
   have HDK := Lib.hid (HD.out (gs[k]?.getD 0) hg1 hg2)
   have HZK := Lib.hid (HBZ.out k hlt hE.out)
   have hdr := HDR.out (gs[k]?.getD 0)
   generalize hge : gs[k]?.getD 0 = g at *
   have HGE := Lib.hid hge; clear hge
   generalize hdg : dz g = d at *
   have HDG := Lib.hid hdg; clear hdg
   have hcc := fun s : Later wr => s.ext.keep hc
   have hs : ∀ s : Later wr, Ext wA s.w := fun s => hB.trans s.ext
   by_cases h0 : d = 0
   ·subst h0
    clear hdr
    go_wp2_with fail
    refine wp_region_later (by kernel_rfl) (by kernel_rfl) ?_
    repeat (go_big_quiet_step ((go_at_call 257; exact Later.call (HDK.out _ (hE0.trans (hs _))))))
    refine wpQuiet_nil ?_
    intro _ hw'
    obtain ⟨⟨w1, hx1⟩, rfl⟩ := hw'
    clear hcc hs
    go_wp2_with fail
    go_roundg (gk-1)
    case measure => omega
    case rel => exact ⟨k+1, by omega, by omega, by go_num, hB.trans hx1, fun j hj => by
     by_cases e : j = k
     ·subst e; rw [HGE.out]; exact HDG.out
     ·exact hE.out j (by omega)⟩
   ·have HZ := Lib.hid (HZK.out h0)
    have hd : (d != 0) = true := by simpa using h0
    clear h0
    have hwr : IntKind.i64.wrap (d * g) = d * g := IntWalk.i64_in _ (by rcases hdr with h | h | h <;> subst h <;> omega)
    clear hdr
    go_wp2_with fail
    refine wp_region_later (by kernel_rfl) (by kernel_rfl) ?_
    repeat (go_big_quiet_step ((go_at_call 257; exact Later.call (HDK.out _ (hE0.trans (hs _))))))
    refine wpQuiet_nil ?_
    intro _ hw'
    obtain ⟨⟨w1, hx1⟩, rfl⟩ := hw'
    clear hcc hs
    have hc1 := hx1.keep hc
    go_wp2_with fail
    go_ret
    exact RV.int HZ.out.symm (hE0.trans (hB.trans hx1))
  ·have HZ := Lib.hid (HBN.out fun j hj => hE.out j (by omega))
   go_wp2_with fail
   go_ret
   exact RV.int HZ.out.symm (hE0.trans hB)
end Go.Proofs.YtpmlcfgbfhgpgaaGreatDoor
/- The reference's best step and its winner. -/
namespace Go.Proofs.YtpmlcfgbfhgpgaaGreatDoor
open Go.RowKit Go.Shelf
set_option linter.unusedVariables false
theorem allB_succ (n : Nat) (f : Nat → Bool) : allB (n + 1) f = (allB n f && f n) := by
 unfold allB; rw [List.range_succ, List.all_append]; simp
theorem allB_up {k n : Nat} {f : Nat → Bool} (h : allB k f = false) (hk : k ≤ n) : allB n f = false := by
 cases e : allB n f with
 | false => rfl
 | true => rw [allB_iff.2 fun i hi => allB_iff.1 e i (by omega)] at h; exact h
theorem stp_cells {w : World} {v : Value} {L : List Stp} (h : Cel encS 2 w v L) : ∃ (a : Option Addr) (c : Nat), v = .slice a L.length c ∧ L.length ≤ c ∧ c ≤ 9223372036854775807 ∧
  Hid (∀ i, i < L.length → ∃ b o, a = some ⟨b, o, none⟩ ∧ w.cell? ⟨b, o + i * 2, none⟩ = some (.int .i64 (stpAt L i).1) ∧ w.cell? ⟨b, o + i * 2 + 1, none⟩ = some (.int .i64 (stpAt L i).2)) := by
 obtain ⟨a, c, hv, h1, h2, H⟩ := h.open_
 refine ⟨a, c, hv, h1, h2, Lib.hid fun i hi => ?_⟩
 obtain ⟨b, o, ha, hc⟩ := H.out i _ (List.getElem?_eq_getElem hi)
 have e : stpAt L i = L[i] := by unfold stpAt; rw [List.getElem?_eq_getElem hi]; rfl
 rw [e]
 exact ⟨b, o, ha, hc 0 _ rfl, hc 1 _ rfl⟩
theorem stp_mem {L : List Stp} {i : Nat} (hi : i < L.length) : stpAt L i ∈ L := by
 unfold stpAt; rw [List.getElem?_eq_getElem hi]; exact List.getElem_mem hi
set_option maxHeartbeats 4000000 in
set_option maxRecDepth 100000 in
theorem rbest_c (v wv gv lv : Value) (s : List Rul) (l gs : List Int) (L : List Stp) (w : World) (h : Ruls w v s) (hw : Ints w wv l) (hg : Ints w gv gs) (hgr : GrOk gs) (hL : Cel encS 2 w lv L) (hok : ∀ a ∈ L, StpOk s a) :
  Calls Tryz.prog 242 #[v, wv, gv, lv] w (RV (.int .i64 (bestI s l gs L)) w) := by
 have HB := Lib.hid (fun i k (hi : i < L.length) (hk : k < L.length) W (q : Ext w W) => rbeats_c v wv gv s l gs (stpAt L i) (stpAt L k) W (h.ext q) (hw.ext q) (hg.ext q) hgr (hok _ (stp_mem hi)) (hok _ (stp_mem hk)))
 have HBI : Hid (∀ j, j < L.length → bestB s l gs L j = true → (∀ i, i < j → bestB s l gs L i = false) → bestI s l gs L = j) := Lib.hid fun j hj h1 h2 => firstIdx_at hj h1 h2
 have HBN : Hid ((∀ i, i < L.length → bestB s l gs L i = false) → bestI s l gs L = -1) := Lib.hid fun h => firstIdx_none h
 have HBB : Hid (∀ i, bestB s l gs L i = allB L.length fun k => k == i || decide (0 < beatsZ s l gs (stpAt L i) (stpAt L k))) := Lib.hid fun i => rfl
 obtain ⟨av, cv, rfl, _⟩ := h.open_
 obtain ⟨aw, cw, rfl, _⟩ := hw.open_
 obtain ⟨ag, cg, rfl, _⟩ := hg.open_
 obtain ⟨al, cl, rfl, hl1, hl2, HC⟩ := stp_cells hL
 clear h hw hg hgr hL hok
 generalize bestI s l gs L = BI at *
 obtain ⟨bb, hbb⟩ : ∃ bb : Nat → Bool, ∀ i, bestB s l gs L i = bb i := ⟨_, fun _ => rfl⟩
 simp only [hbb] at HBI HBN HBB
 clear hbb
 obtain ⟨bz, hbz⟩ : ∃ bz : Nat → Nat → Int, ∀ i k, beatsZ s l gs (stpAt L i) (stpAt L k) = bz i k := ⟨_, fun _ _ => rfl⟩
 simp only [hbz] at HB HBB
 clear hbz
 go_enter Tryz.func242, Tryz.ntmps242
 go_wp2_with fail
 go_loopg [9] L.length (fun m i wr => ∃ k : Nat, k ≤ L.length ∧ L.length ≤ k + m ∧ i = .int .i64 k ∧ Ext w wr ∧ Hid (∀ j, j < k → bb j = false))
 case atStart => exact ⟨0, by omega, by omega, rfl, Ext.refl _, fun j hj => by omega⟩
 case round =>
  obtain ⟨i, hi, hi2, rfl, hB, hE⟩ := hrel
  by_cases hlt : i < L.length
  ·obtain ⟨bi, oi, rfl, ci0, ci1⟩ := HC.out i hlt
   have HBi := Lib.hid (HBB.out i)
   have HIi := Lib.hid (fun hh => HBI.out i hlt hh hE.out)
   have HBk := Lib.hid (fun k hk W q => HB.out i k hlt hk W q)
   obtain ⟨fz, hfz⟩ : ∃ fz : Nat → Int, ∀ k, bz i k = fz k := ⟨_, fun _ => rfl⟩
   simp only [hfz] at HBi HBk
   clear hfz
   generalize hbbi : bb i = R at *
   have HBBI := Lib.hid hbbi; clear hbbi
   obtain ⟨ff, hff⟩ : ∃ ff : Nat → Bool, ff = fun k => k == i || decide (0 < fz k) := ⟨_, rfl⟩
   have HFF : Hid (∀ k, ff k = (k == i || decide (0 < fz k))) := Lib.hid fun k => by rw [hff]
   have HRF : Hid (R = allB L.length ff) := Lib.hid (by rw [hff]; exact HBi.out)
   clear hff HBi
   generalize hsi : stpAt L i = si at *
   obtain ⟨ki, pi⟩ := si
   have HSI := Lib.hid hsi; clear hsi
   dsimp only at ci0 ci1
   obtain ⟨g1, rfl⟩ : ∃ g : Nat, g = gk := ⟨_, rfl⟩
   go_wp2_with fail
   go_loopg [11, 10] L.length (fun m k t wr => ∃ j : Nat, j ≤ L.length ∧ L.length ≤ j + m ∧ k = .int .i64 j ∧ t = .bool (allB j ff) ∧ Ext w wr)
   case atStart => exact ⟨0, by omega, by omega, rfl, rfl, hB⟩
   case round =>
    obtain ⟨j, hj, hj2, rfl, rfl, hW⟩ := hrel
    by_cases hjl : j < L.length
    ·cases hal : allB j ff with
     | true =>
      obtain ⟨bj, oj, hbj, cj0, cj1⟩ := HC.out j hjl
      injection hbj with hbj
      injection hbj with hb1 hb2
      subst hb1 hb2
      have HJ := Lib.hid (HBk.out j hjl)
      have HAS := Lib.hid (allB_succ j ff)
      rw [hal] at HAS
      generalize hsj : stpAt L j = sj at *
      obtain ⟨kj, pj⟩ := sj
      have HSJ := Lib.hid hsj; clear hsj
      dsimp only at cj0 cj1
      have e0 := fun s : Later wr => (hW.trans s.ext).keep ci0
      have e1 := fun s : Later wr => (hW.trans s.ext).keep ci1
      have f0 := fun s : Later wr => (hW.trans s.ext).keep cj0
      have f1 := fun s : Later wr => (hW.trans s.ext).keep cj1
      clear hal
      by_cases hji : j = i
      ·subst hji
       have HFJ : Hid (ff j = true) := Lib.hid (by rw [HFF.out]; simp)
       go_wp2_with fail
       refine wp_region_later (by kernel_rfl) (by kernel_rfl) ?_
       repeat (go_big_quiet_step (fail))
       refine wpQuiet_nil ?_
       intro _ hw'
       obtain ⟨⟨w1, hx1⟩, rfl⟩ := hw'
       clear e0 e1 f0 f1
       go_wp2_with fail
       go_roundg (gk-1)
       case measure => omega
       case rel => exact ⟨j+1, by omega, by omega, by go_num, by rw [HAS.out, HFJ.out]; rfl, hW.trans hx1⟩
      ·have hd : ((j : Int) == (i : Int)) = false := by simp; omega
       have HFJ : Hid (ff j = decide (0 < fz j)) := Lib.hid (by rw [HFF.out]; simp [hji])
       generalize fz j = Z at *
       clear hji
       go_wp2_with fail
       refine wp_region_later (by kernel_rfl) (by kernel_rfl) ?_
       repeat (go_big_quiet_step ((go_at_call 243; exact Later.call (HJ.out _ (hW.trans (Later.ext _))))))
       refine wpQuiet_nil ?_
       intro _ hw'
       obtain ⟨⟨w1, hx1⟩, rfl⟩ := hw'
       clear e0 e1 f0 f1
       go_wp2_with fail
       go_roundg (gk-1)
       case measure => omega
       case rel => exact ⟨j+1, by omega, by omega, by go_num, by rw [HAS.out, HFJ.out]; simp, hW.trans hx1⟩
     | false =>
      have HR0 : Hid (R = false) := Lib.hid (by rw [HRF.out]; exact allB_up hal hj)
      clear hal
      go_wp2_with fail
      go_roundg (g1-1)
      case measure => omega
      case rel => exact ⟨i+1, by omega, by omega, by go_num, hW, fun q hq => by
       by_cases e : q = i
       ·subst e; rw [HBBI.out]; exact HR0.out
       ·exact hE.out q (by omega)⟩
    ·obtain rfl : j = L.length := by omega
     rw [← HRF.out]
     cases hR : R with
     | true =>
      have HZ := Lib.hid (HIi.out hR)
      clear hR
      go_wp2_with fail
      go_ret
      exact RV.int HZ.out.symm hW
     | false =>
      have HR0 := Lib.hid hR
      clear hR
      go_wp2_with fail
      go_roundg (g1-1)
      case measure => omega
      case rel => exact ⟨i+1, by omega, by omega, by go_num, hW, fun q hq => by
       by_cases e : q = i
       ·subst e; rw [HBBI.out]; exact HR0.out
       ·exact hE.out q (by omega)⟩
  ·have HZ := Lib.hid (HBN.out fun j hj => hE.out j (by omega))
   go_wp2_with fail
   go_ret
   exact RV.int HZ.out.symm hB
end Go.Proofs.YtpmlcfgbfhgpgaaGreatDoor
/- The reference's winner. -/
namespace Go.Proofs.YtpmlcfgbfhgpgaaGreatDoor
open Go.RowKit Go.Shelf
set_option linter.unusedVariables false
theorem Blk.setO {w : World} {g : Nat} {ty : TypeId} {cs : List Value} (h : Blk w g ty cs) (b i : Nat) (v : Value) (hne : b ≠ g) : Blk (w.setCell ⟨b, i, none⟩ v) g ty cs := by
 unfold Blk at h ⊢
 rw [(ExtX.set w b i v).block g (by
  rcases Nat.lt_or_ge g w.heap.size with hl | hl
  ·exact hl
  ·rw [Array.getElem?_eq_none hl] at h; cases h) (by simp [one]; omega)]
 exact h
set_option maxHeartbeats 8000000 in
set_option maxRecDepth 100000 in
theorem rwinner_c (v wv gv : Value) (s : List Rul) (l gs : List Int) (w : World) (h : Ruls w v s) (hw : Ints w wv l) (hg : Ints w gv gs) (hgr : GrOk gs) (hvs : validS s = 0) (hl8 : l.length ≤ 8) :
  Calls Tryz.prog 212 #[v, wv, gv] w (RV (.tuple #[chV (winL s l gs (stpsL s l)), .bool (winL s l gs (stpsL s l)).isSome]) w) := by
 obtain ⟨wA, hwA⟩ : ∃ wA, wA = w.alloc (.cells #[.int .i64 0, .int .i64 0, .int .i64 0] 46) := ⟨_, rfl⟩
 have hEA : Ext w wA := by rw [hwA]; exact Ext.alloc _ _
 have hbA : Blk wA w.heap.size 46 [.int .i64 0, .int .i64 0, .int .i64 0] := by rw [hwA]; exact Blk.alloc _ _ _
 have HWA := Lib.hid hwA; clear hwA
 have HS6 := Lib.hid (fun (W : World) (i : Nat) (v : Value) (h : Ext w W) => h.setCell (c := w.heap.size) (Nat.le_refl _) i v)
 have HCA := Lib.hid (rcandidates_c v wv s l wA (h.ext hEA) (hw.ext hEA))
 have HBS := Lib.hid (fun lv W (q : Ext w W) (hL : Cel encS 2 W lv (stpsL s l)) => rbest_c v wv gv lv s l gs (stpsL s l) W (h.ext q) (hw.ext q) (hg.ext q) hgr hL (fun a ha => stpsL_ok hvs hl8 ha))
 have HBEA := Lib.hid (fun i k (hi : i < (stpsL s l).length) (hk : k < (stpsL s l).length) W (q : Ext w W) => rbeats_c v wv gv s l gs (stpAt (stpsL s l) i) (stpAt (stpsL s l) k) W (h.ext q) (hw.ext q) (hg.ext q) hgr (stpsL_ok hvs hl8 (stp_mem hi)) (stpsL_ok hvs hl8 (stp_mem hk)))
 have hL54 := stpsL_len s l
 have hbi := firstIdx_cases (stpsL s l).length (bestB s l gs (stpsL s l))
 have HWN := Lib.hid (fun h0 => winL_none (s := s) (w := l) (gs := gs) (l := stpsL s l) h0)
 have HWD : Hid ((stpsL s l).length ≠ 0 → winL s l gs (stpsL s l) = if bestI s l gs (stpsL s l) < 0 then some ((stpAt (stpsL s l) ((stpsL s l).length - 1)).1, (stpAt (stpsL s l) ((stpsL s l).length - 1)).2, 0)
   else some ((stpAt (stpsL s l) (bestI s l gs (stpsL s l)).toNat).1, (stpAt (stpsL s l) (bestI s l gs (stpsL s l)).toNat).2, groundI s l gs (stpsL s l) (bestI s l gs (stpsL s l)).toNat)) := Lib.hid fun h0 => by rw [winL, if_neg h0]
 have HGI : Hid (∀ i, groundI s l gs (stpsL s l) i = if 1 < (stpsL s l).length then beatsZ s l gs (stpAt (stpsL s l) i) (stpAt (stpsL s l) (if i = 0 then 1 else 0)) else 0) := Lib.hid fun i => rfl
 have hbidef : bestI s l gs (stpsL s l) = firstIdx (stpsL s l).length (bestB s l gs (stpsL s l)) := rfl
 rw [← hbidef] at hbi
 clear hbidef
 obtain ⟨av, cv, rfl, _⟩ := h.open_
 obtain ⟨aw, cw, rfl, _⟩ := hw.open_
 obtain ⟨ag, cg, rfl, _⟩ := hg.open_
 clear h hw hg hgr hvs
 generalize winL s l gs (stpsL s l) = WL at *
 generalize bestI s l gs (stpsL s l) = BI at *
 generalize stpsL s l = L at *
 generalize hg6 : w.heap.size = g6 at *
 have HG6 := Lib.hid hg6
 clear hg6
 by_cases h0 : L.length = 0
 ·have HE := Lib.hid (HWN.out h0)
  have hz : ((L.length : Int) == 0) = true := by simp [h0]
  rw [HE.out]
  go_enter Tryz.func212, Tryz.ntmps212
  go_upto_region 1 with fail
  rw [← HWA.out, HG6.out]
  go_wp2_with fail
  refine HCA.out.mono ?_; rintro e w1 ⟨u1, rfl, ho1, hx1⟩
  obtain ⟨a1, c1, hu1, _⟩ := (Cel.own encS_len ho1).open_
  subst hu1
  have hX1 := hEA.trans hx1
  have hb61 := hbA.ext hx1
  have x0 := hb61.cell (i := 0) rfl
  have x1 := hb61.cell (i := 1) rfl
  have x2 := hb61.cell (i := 2) rfl
  have z0 := hb61.frozen 0
  have z1 := hb61.frozen 1
  have z2 := hb61.frozen 2
  go_wp2_with fail
  have hfin := HS6.out _ 2 (.int .i64 0) (HS6.out _ 1 (.int .i64 0) (HS6.out _ 0 (.int .i64 0) hX1))
  have hbf := ((hb61.set 0 (.int .i64 0)).set 1 (.int .i64 0)).set 2 (.int .i64 0)
  have r0 := hbf.cell (i := 0) (v := .int .i64 0) rfl
  have r1 := hbf.cell (i := 1) (v := .int .i64 0) rfl
  have r2 := hbf.cell (i := 2) (v := .int .i64 0) rfl
  generalize World.setCell _ ⟨g6, 2, none⟩ _ = wF at *
  refine bodyPost_ret (v := .tuple #[.agg #[.int .i64 0, .int .i64 0, .int .i64 0], .bool false]) (by simp [results, Tryz.results212, go_sem, r0, r1, r2]) rfl ⟨rfl, hfin⟩
 ·have hWD := HWD.out h0
  have hz : ((L.length : Int) == 0) = false := by simp [h0]
  have hL1 : 1 ≤ L.length := by omega
  clear h0 HWN HWD
  rcases hbi with ⟨i, hi, _, _, hbi⟩ | ⟨_, hbi⟩
  ·rw [hbi, if_neg (by omega), Int.toNat_natCast] at hWD
   have hBIn : decide ((i : Int) < 0) = false := decide_eq_false (by omega)
   have hGI := HGI.out i
   have HBEi := Lib.hid (fun k hk W q => HBEA.out i k hi hk W q)
   generalize hGZ : groundI s l gs L i = GZ at *
   have HGZ := Lib.hid hGZ; clear hGZ
   have HWL := Lib.hid hWD; clear hWD
   subst hbi
   have HGI2 := Lib.hid hGI
   clear hGI HGI HBEA
   go_enter Tryz.func212, Tryz.ntmps212
   go_upto_region 1 with fail
   rw [← HWA.out, HG6.out]
   go_wp2_with fail
   refine HCA.out.mono ?_; rintro e w1 ⟨u1, rfl, ho1, hx1⟩
   have hX1 := hEA.trans hx1
   have hb61 := hbA.ext hx1
   obtain ⟨a1, c1, hu1, hk1, hk2, HC1⟩ := stp_cells (Cel.own encS_len ho1)
   have HBS1 := Lib.hid (HBS.out u1 w1 hX1 (Cel.own encS_len ho1))
   subst hu1
   clear ho1
   go_wp2_with fail
   refine HBS1.out.mono ?_; rintro e w2 ⟨rfl, hx2⟩
   have hX2 := hX1.trans hx2
   have hb62 := hb61.ext hx2
   obtain ⟨bi, oi, rfl, ci0, ci1⟩ := HC1.out i hi
   replace ci0 := hx2.keep ci0
   replace ci1 := hx2.keep ci1
   generalize hsi : stpAt L i = si at *
   obtain ⟨ki, pi⟩ := si
   have HSI := Lib.hid hsi; clear hsi
   dsimp only at ci0 ci1
   go_upto_region 8 with fail
   refine wp_region_treeR (fun a b => Below w2.heap.size a b) [12] (.look 0 (.look 1 (.look 2 (.look 3 (.look 4 (.look 5 (.look 6 (.look 7 (.look 8 (.look 9 (.look 10 (.one 11 (.one 12 .done))))))))))))) (fun w => Below.refl _ w) (fun a b c h k => Below.trans h k) (by kernel_rfl) (by kernel_rfl) (by intro c a d v w h; cases d <;> exact h) ?_
   have hd := drawnP_ext w2
   have hz0 := hd.size
   have hX3 := hX2.trans hd
   have hb63 := hb62.ext hd
   generalize { w2 with drawn := w2.drawn + 1 } = W0 at *
   have q0 : ∀ q : InC (fun c => Below w2.heap.size W0 c), q.w.cell? ⟨bi, oi + i * 2, none⟩ = some (.int .i64 ki) := fun q => Ext.keep (w := w2) (Below.trans hd q.h) ci0
   have q1 : ∀ q : InC (fun c => Below w2.heap.size W0 c), q.w.cell? ⟨bi, oi + i * 2 + 1, none⟩ = some (.int .i64 pi) := fun q => Ext.keep (w := w2) (Below.trans hd q.h) ci1
   iterate 11 (refine wpTreeR_look rfl (fun K hK => ?_); go_simp; first | (refine hK _ ?_; clear hK K) | (refine ⟨_, fun _ => rfl, hK _ ?_⟩; clear hK K))
   refine wpTreeR_one rfl rfl (fun K hK => ?_)
   go_wp2_with fail
   have hb11 := Blk.alloc W0 #[.int .i64 0, .int .i64 0, .int .i64 0] 46
   have hx11 := Ext.alloc W0 (.cells #[.int .i64 0, .int .i64 0, .int .i64 0] 46)
   refine ⟨.inr (hx11.mono hz0), ?_⟩
   have hb64 := hb63.ext hx11
   have hX4 := hX3.trans hx11
   generalize W0.alloc (.cells #[.int .i64 0, .int .i64 0, .int .i64 0] 46) = W1 at *
   have hY4 := hd.trans hx11
   have hlt63 := hb63.lt
   generalize W0.heap.size = g11 at *
   have hg6n : g11 ≠ g6 := by omega
   have hgw : w2.heap.size ≤ g11 := hz0
   have y0 := hb11.frozen 0
   have y1 := hb11.frozen 1
   have y2 := hb11.frozen 2
   have v0 := hb11.cell (i := 0) rfl
   have v1 := hb11.cell (i := 1) rfl
   have v2 := hb11.cell (i := 2) rfl
   refine wpTreeR_one rfl rfl (fun K hK => ?_)
   go_wp2_with fail
   refine ⟨.inl (by simp), ?_⟩
   refine wpTreeR_done ?_
   have hb12 := ((hb11.set 0 (.int .i64 ki)).set 1 (.int .i64 pi)).set 2 (.int .i64 0)
   have hb65 := ((hb64.setO g11 0 (.int .i64 ki) hg6n).setO g11 1 (.int .i64 pi) hg6n).setO g11 2 (.int .i64 0) hg6n
   have hX5 : Ext w _ := ((hX4.setCell (c := g11) (by have := hX2.size; omega) 0 (.int .i64 ki)).setCell (c := g11) (by have := hX2.size; omega) 1 (.int .i64 pi)).setCell (c := g11) (by have := hX2.size; omega) 2 (.int .i64 0)
   have hY5 : Ext w2 _ := ((hY4.setCell (c := g11) hgw 0 (.int .i64 ki)).setCell (c := g11) hgw 1 (.int .i64 pi)).setCell (c := g11) hgw 2 (.int .i64 0)
   generalize World.setCell _ ⟨g11, 2, none⟩ _ = w5 at *
   clear y0 y1 y2 v0 v1 v2 q0 q1 hb64 hb11
   have y0 := hb12.cell (i := 0) (v := .int .i64 ki) rfl
   have y1 := hb12.cell (i := 1) (v := .int .i64 pi) rfl
   have y2 := hb12.cell (i := 2) (v := .int .i64 0) rfl
   have u0 := hb12.frozen 0
   have u1 := hb12.frozen 1
   have u2 := hb12.frozen 2
   by_cases h1 : 1 < L.length
   ·have hz1 : decide ((1 : Int) < (L.length : Int)) = true := decide_eq_true (by omega)
    by_cases hi0 : i = 0
    ·have hz2 : ((i : Int) == 0) = true := by simp [hi0]
     have HI0 := Lib.hid hi0
     clear hi0
     obtain ⟨bo, oo, hbo, co0, co1⟩ := HC1.out 1 h1
     injection hbo with hbo
     injection hbo with hb1 hb2
     subst hb1 hb2
     replace co0 := hx2.keep co0
     replace co1 := hx2.keep co1
     have hgz0 : GZ = beatsZ s l gs (ki, pi) (stpAt L 1) := by have := HGI2.out; rw [if_pos h1, if_pos HI0.out] at this; exact this
     have HBE := Lib.hid (fun W q => HBEi.out 1 h1 W q)
     rw [← hgz0] at HBE
     have HGZ2 := Lib.hid hgz0
     clear hgz0
     generalize hso : stpAt L 1 = so at *
     obtain ⟨ko, po⟩ := so
     have HSO := Lib.hid hso; clear hso
     dsimp only at co0 co1 HBE
     go_upto_region 13 with fail
     refine wp_region_treeR (fun a b => Ext a b) [13] (.look 0 (.look 1 (.look 2 (.look 3 (.look 4 (.look 5 (.look 6 (.look 7 (.look 8 (.look 9 (.look 10 (.one 11 (.look 12 (.one 13 .done)))))))))))))) (fun w => Ext.refl w) (fun a b c h k => Ext.trans h k) (by kernel_rfl) (by kernel_rfl) (by intro c a d v w h; cases d <;> exact h) ?_
     have hd5 := drawnP_ext w5
     have hX6 := hX5.trans hd5
     have hY6 := hY5.trans hd5
     have hb66 := hb65.ext hd5
     have hb13 := hb12.ext hd5
     generalize { w5 with drawn := w5.drawn + 1 } = W5 at *
     have q0 : ∀ q : InC (fun c => Ext W5 c), q.w.cell? ⟨bi, oi + i * 2, none⟩ = some (.int .i64 ki) := fun q => (hY6.trans q.h).keep ci0
     have q1 : ∀ q : InC (fun c => Ext W5 c), q.w.cell? ⟨bi, oi + i * 2 + 1, none⟩ = some (.int .i64 pi) := fun q => (hY6.trans q.h).keep ci1
     have q2 : ∀ q : InC (fun c => Ext W5 c), q.w.cell? ⟨bi, oi + 1 * 2, none⟩ = some (.int .i64 ko) := fun q => (hY6.trans q.h).keep co0
     have q2b : ∀ q : InC (fun c => Ext W5 c), q.w.cell? ⟨bi, oi + 2, none⟩ = some (.int .i64 ko) := fun q => (hY6.trans q.h).keep co0
     have q3 : ∀ q : InC (fun c => Ext W5 c), q.w.cell? ⟨bi, oi + 1 * 2 + 1, none⟩ = some (.int .i64 po) := fun q => (hY6.trans q.h).keep co1
     have q3b : ∀ q : InC (fun c => Ext W5 c), q.w.cell? ⟨bi, oi + 2 + 1, none⟩ = some (.int .i64 po) := fun q => (hY6.trans q.h).keep co1
     have q3c : ∀ q : InC (fun c => Ext W5 c), q.w.cell? ⟨bi, oi + 3, none⟩ = some (.int .i64 po) := fun q => (hY6.trans q.h).keep co1
     have hzl : 0 < L.length := by omega
     have hzi : (1 : Int) < (L.length : Int) := by omega
     iterate 11 (refine wpTreeR_look rfl (fun K hK => ?_); go_simp; first | (refine hK _ ?_; clear hK K) | (refine ⟨_, fun _ => rfl, hK _ ?_⟩; clear hK K))
     refine wpTreeR_one rfl rfl (fun K hK => ?_)
     go_wp2_with fail
     refine (HBE.out W5 hX6).mono ?_; rintro e w6 ⟨rfl, hx6⟩
     go_wp2_with fail
     refine ⟨.inr hx6, ?_⟩
     have hX7 := hX6.trans hx6
     have hb67 := hb66.ext hx6
     have hb14 := hb13.ext hx6
     have u2' := hb14.frozen 2
     have v2 := hb14.cell (i := 2) (v := .int .i64 0) rfl
     (refine wpTreeR_look rfl (fun K hK => ?_); go_simp; first | (refine hK _ ?_; clear hK K) | (refine ⟨_, fun _ => rfl, hK _ ?_⟩; clear hK K))
     refine wpTreeR_one rfl rfl (fun K hK => ?_)
     go_wp2_with fail
     refine ⟨.inl (by simp), ?_⟩
     refine wpTreeR_done ?_
     have hb15 := hb14.set 2 (.int .i64 GZ)
     have hb68 := hb67.setO g11 2 (.int .i64 GZ) hg6n
     have hX8 : Ext w _ := hX7.setCell (c := g11) (by have := hX2.size; omega) 2 (.int .i64 GZ)
     generalize World.setCell _ ⟨g11, 2, none⟩ _ = w7 at *
     clear q0 q1 q2 q3 q2b q3b q3c y0 y1 y2 u0 u1 u2 u2' v2
     have y0 := hb15.cell (i := 0) (v := .int .i64 ki) rfl
     have y1 := hb15.cell (i := 1) (v := .int .i64 pi) rfl
     have y2 := hb15.cell (i := 2) (v := .int .i64 GZ) rfl
     have x0 := hb68.cell (i := 0) rfl
     have x1 := hb68.cell (i := 1) rfl
     have x2 := hb68.cell (i := 2) rfl
     have z0 := hb68.frozen 0
     have z1 := hb68.frozen 1
     have z2 := hb68.frozen 2
     go_wp2_with fail
     have hfin := HS6.out _ 2 (.int .i64 GZ) (HS6.out _ 1 (.int .i64 pi) (HS6.out _ 0 (.int .i64 ki) hX8))
     have hbf := ((hb68.set 0 (.int .i64 ki)).set 1 (.int .i64 pi)).set 2 (.int .i64 GZ)
     have r0 := hbf.cell (i := 0) (v := .int .i64 ki) rfl
     have r1 := hbf.cell (i := 1) (v := .int .i64 pi) rfl
     have r2 := hbf.cell (i := 2) (v := .int .i64 GZ) rfl
     generalize World.setCell _ ⟨g6, 2, none⟩ _ = wF at *
     refine bodyPost_ret (v := .tuple #[.agg #[.int .i64 ki, .int .i64 pi, .int .i64 GZ], .bool true]) (by simp [results, Tryz.results212, go_sem, r0, r1, r2]) rfl ⟨by rw [HWL.out]; rfl, hfin⟩
    ·have hz2 : ((i : Int) == 0) = false := by simp [hi0]
     have HI0 := Lib.hid hi0
     clear hi0
     obtain ⟨bo, oo, hbo, co0, co1⟩ := HC1.out 0 (by omega)
     injection hbo with hbo
     injection hbo with hb1 hb2
     subst hb1 hb2
     replace co0 := hx2.keep co0
     replace co1 := hx2.keep co1
     have hgz0 : GZ = beatsZ s l gs (ki, pi) (stpAt L 0) := by have := HGI2.out; rw [if_pos h1, if_neg HI0.out] at this; exact this
     have HBE := Lib.hid (fun W q => HBEi.out 0 (by omega) W q)
     rw [← hgz0] at HBE
     have HGZ2 := Lib.hid hgz0
     clear hgz0
     generalize hso : stpAt L 0 = so at *
     obtain ⟨ko, po⟩ := so
     have HSO := Lib.hid hso; clear hso
     dsimp only at co0 co1 HBE
     go_upto_region 13 with fail
     refine wp_region_treeR (fun a b => Ext a b) [13] (.look 0 (.look 1 (.look 2 (.look 3 (.look 4 (.look 5 (.look 6 (.look 7 (.look 8 (.look 9 (.look 10 (.one 11 (.look 12 (.one 13 .done)))))))))))))) (fun w => Ext.refl w) (fun a b c h k => Ext.trans h k) (by kernel_rfl) (by kernel_rfl) (by intro c a d v w h; cases d <;> exact h) ?_
     have hd5 := drawnP_ext w5
     have hX6 := hX5.trans hd5
     have hY6 := hY5.trans hd5
     have hb66 := hb65.ext hd5
     have hb13 := hb12.ext hd5
     generalize { w5 with drawn := w5.drawn + 1 } = W5 at *
     have q0 : ∀ q : InC (fun c => Ext W5 c), q.w.cell? ⟨bi, oi + i * 2, none⟩ = some (.int .i64 ki) := fun q => (hY6.trans q.h).keep ci0
     have q1 : ∀ q : InC (fun c => Ext W5 c), q.w.cell? ⟨bi, oi + i * 2 + 1, none⟩ = some (.int .i64 pi) := fun q => (hY6.trans q.h).keep ci1
     have q2 : ∀ q : InC (fun c => Ext W5 c), q.w.cell? ⟨bi, oi + 0 * 2, none⟩ = some (.int .i64 ko) := fun q => (hY6.trans q.h).keep co0
     have q2b : ∀ q : InC (fun c => Ext W5 c), q.w.cell? ⟨bi, oi, none⟩ = some (.int .i64 ko) := fun q => (hY6.trans q.h).keep co0
     have q3 : ∀ q : InC (fun c => Ext W5 c), q.w.cell? ⟨bi, oi + 0 * 2 + 1, none⟩ = some (.int .i64 po) := fun q => (hY6.trans q.h).keep co1
     have q3b : ∀ q : InC (fun c => Ext W5 c), q.w.cell? ⟨bi, oi + 1, none⟩ = some (.int .i64 po) := fun q => (hY6.trans q.h).keep co1
     have q3c : ∀ q : InC (fun c => Ext W5 c), q.w.cell? ⟨bi, oi + 0 + 1, none⟩ = some (.int .i64 po) := fun q => (hY6.trans q.h).keep co1
     have hzl : 0 < L.length := by omega
     have hzi : (1 : Int) < (L.length : Int) := by omega
     iterate 11 (refine wpTreeR_look rfl (fun K hK => ?_); go_simp; first | (refine hK _ ?_; clear hK K) | (refine ⟨_, fun _ => rfl, hK _ ?_⟩; clear hK K))
     refine wpTreeR_one rfl rfl (fun K hK => ?_)
     go_wp2_with fail
     refine (HBE.out W5 hX6).mono ?_; rintro e w6 ⟨rfl, hx6⟩
     go_wp2_with fail
     refine ⟨.inr hx6, ?_⟩
     have hX7 := hX6.trans hx6
     have hb67 := hb66.ext hx6
     have hb14 := hb13.ext hx6
     have u2' := hb14.frozen 2
     have v2 := hb14.cell (i := 2) (v := .int .i64 0) rfl
     (refine wpTreeR_look rfl (fun K hK => ?_); go_simp; first | (refine hK _ ?_; clear hK K) | (refine ⟨_, fun _ => rfl, hK _ ?_⟩; clear hK K))
     refine wpTreeR_one rfl rfl (fun K hK => ?_)
     go_wp2_with fail
     refine ⟨.inl (by simp), ?_⟩
     refine wpTreeR_done ?_
     have hb15 := hb14.set 2 (.int .i64 GZ)
     have hb68 := hb67.setO g11 2 (.int .i64 GZ) hg6n
     have hX8 : Ext w _ := hX7.setCell (c := g11) (by have := hX2.size; omega) 2 (.int .i64 GZ)
     generalize World.setCell _ ⟨g11, 2, none⟩ _ = w7 at *
     clear q0 q1 q2 q3 q2b q3b q3c y0 y1 y2 u0 u1 u2 u2' v2
     have y0 := hb15.cell (i := 0) (v := .int .i64 ki) rfl
     have y1 := hb15.cell (i := 1) (v := .int .i64 pi) rfl
     have y2 := hb15.cell (i := 2) (v := .int .i64 GZ) rfl
     have x0 := hb68.cell (i := 0) rfl
     have x1 := hb68.cell (i := 1) rfl
     have x2 := hb68.cell (i := 2) rfl
     have z0 := hb68.frozen 0
     have z1 := hb68.frozen 1
     have z2 := hb68.frozen 2
     go_wp2_with fail
     have hfin := HS6.out _ 2 (.int .i64 GZ) (HS6.out _ 1 (.int .i64 pi) (HS6.out _ 0 (.int .i64 ki) hX8))
     have hbf := ((hb68.set 0 (.int .i64 ki)).set 1 (.int .i64 pi)).set 2 (.int .i64 GZ)
     have r0 := hbf.cell (i := 0) (v := .int .i64 ki) rfl
     have r1 := hbf.cell (i := 1) (v := .int .i64 pi) rfl
     have r2 := hbf.cell (i := 2) (v := .int .i64 GZ) rfl
     generalize World.setCell _ ⟨g6, 2, none⟩ _ = wF at *
     refine bodyPost_ret (v := .tuple #[.agg #[.int .i64 ki, .int .i64 pi, .int .i64 GZ], .bool true]) (by simp [results, Tryz.results212, go_sem, r0, r1, r2]) rfl ⟨by rw [HWL.out]; rfl, hfin⟩
   ·have hz1 : decide ((1 : Int) < (L.length : Int)) = false := decide_eq_false (by omega)
    have hg0 : GZ = 0 := by have := HGI2.out; rw [if_neg h1] at this; exact this
    subst hg0
    have x0 := hb65.cell (i := 0) rfl
    have x1 := hb65.cell (i := 1) rfl
    have x2 := hb65.cell (i := 2) rfl
    have z0 := hb65.frozen 0
    have z1 := hb65.frozen 1
    have z2 := hb65.frozen 2
    go_wp2_with fail
    have hfin := HS6.out _ 2 (.int .i64 0) (HS6.out _ 1 (.int .i64 pi) (HS6.out _ 0 (.int .i64 ki) hX5))
    have hbf := ((hb65.set 0 (.int .i64 ki)).set 1 (.int .i64 pi)).set 2 (.int .i64 0)
    have r0 := hbf.cell (i := 0) (v := .int .i64 ki) rfl
    have r1 := hbf.cell (i := 1) (v := .int .i64 pi) rfl
    have r2 := hbf.cell (i := 2) (v := .int .i64 0) rfl
    generalize World.setCell _ ⟨g6, 2, none⟩ _ = wF at *
    refine bodyPost_ret (v := .tuple #[.agg #[.int .i64 ki, .int .i64 pi, .int .i64 0], .bool true]) (by simp [results, Tryz.results212, go_sem, r0, r1, r2]) rfl ⟨by rw [HWL.out]; rfl, hfin⟩
  ·rw [hbi, if_pos (by decide)] at hWD
   subst hbi
   have HWL := Lib.hid hWD; clear hWD
   clear HGI HBEA
   obtain ⟨n, hn⟩ : ∃ n, L.length = n + 1 := ⟨L.length - 1, by omega⟩
   have hnl : n < L.length := by omega
   have hsub : ((L.length : Int) - 1) = (n : Int) := by omega
   rw [show L.length - 1 = n by omega] at HWL
   have HN := Lib.hid hn
   clear hn
   go_enter Tryz.func212, Tryz.ntmps212
   go_upto_region 1 with fail
   rw [← HWA.out, HG6.out]
   go_wp2_with fail
   refine HCA.out.mono ?_; rintro e w1 ⟨u1, rfl, ho1, hx1⟩
   have hX1 := hEA.trans hx1
   have hb61 := hbA.ext hx1
   obtain ⟨a1, c1, hu1, hk1, hk2, HC1⟩ := stp_cells (Cel.own encS_len ho1)
   have HBS1 := Lib.hid (HBS.out u1 w1 hX1 (Cel.own encS_len ho1))
   subst hu1
   clear ho1
   go_wp2_with fail
   refine HBS1.out.mono ?_; rintro e w2 ⟨rfl, hx2⟩
   have hX2 := hX1.trans hx2
   have hb62 := hb61.ext hx2
   obtain ⟨bi, oi, rfl, ci0, ci1⟩ := HC1.out n hnl
   replace ci0 := hx2.keep ci0
   replace ci1 := hx2.keep ci1
   generalize hsi : stpAt L n = si at *
   obtain ⟨ki, pi⟩ := si
   have HSI := Lib.hid hsi; clear hsi
   dsimp only at ci0 ci1
   go_upto_region 7 with fail
   have hb10 := Blk.alloc w2 #[.int .i64 ki, .int .i64 pi] 163
   have hx10 := Ext.alloc w2 (.cells #[.int .i64 ki, .int .i64 pi] 163)
   have hb63 := hb62.ext hx10
   have hX3 := hX2.trans hx10
   generalize w2.alloc (.cells #[.int .i64 ki, .int .i64 pi] 163) = w3 at *
   generalize w2.heap.size = g10 at *
   have y0 := hb10.cell (i := 0) rfl
   have y1 := hb10.cell (i := 1) rfl
   have x0 := hb63.cell (i := 0) rfl
   have x1 := hb63.cell (i := 1) rfl
   have x2 := hb63.cell (i := 2) rfl
   have z0 := hb63.frozen 0
   have z1 := hb63.frozen 1
   have z2 := hb63.frozen 2
   go_wp2_with fail
   have hfin := HS6.out _ 2 (.int .i64 0) (HS6.out _ 1 (.int .i64 pi) (HS6.out _ 0 (.int .i64 ki) hX3))
   have hbf := ((hb63.set 0 (.int .i64 ki)).set 1 (.int .i64 pi)).set 2 (.int .i64 0)
   have r0 := hbf.cell (i := 0) (v := .int .i64 ki) rfl
   have r1 := hbf.cell (i := 1) (v := .int .i64 pi) rfl
   have r2 := hbf.cell (i := 2) (v := .int .i64 0) rfl
   generalize World.setCell _ ⟨g6, 2, none⟩ _ = wF at *
   refine bodyPost_ret (v := .tuple #[.agg #[.int .i64 ki, .int .i64 pi, .int .i64 0], .bool true]) (by simp [results, Tryz.results212, go_sem, r0, r1, r2]) rfl ⟨by rw [HWL.out]; rfl, hfin⟩
set_option maxHeartbeats 4000000 in
set_option maxRecDepth 100000 in
theorem rWinner_c (v wv gv : Value) (s : List Rul) (l gs : List Int) (w : World) (h : Ruls w v s) (hw : Ints w wv l) (hg : Ints w gv gs) (hK : checkK s l gs = 0) :
  Calls Tryz.prog 174 #[v, wv, gv] w (RV (.tuple #[chV (winS s l gs), .bool (winS s l gs).isSome, .int .i64 0]) w) := by
 obtain ⟨wA, hwA⟩ : ∃ wA, wA = w.alloc (.cells #[.int .i64 0, .int .i64 0, .int .i64 0] 46) := ⟨_, rfl⟩
 have hEA : Ext w wA := by rw [hwA]; exact Ext.alloc _ _
 have hbA : Blk wA w.heap.size 46 [.int .i64 0, .int .i64 0, .int .i64 0] := by rw [hwA]; exact Blk.alloc _ _ _
 have HWA := Lib.hid hwA; clear hwA
 have HS6 := Lib.hid (fun (W : World) (i : Nat) (v : Value) (h : Ext w W) => h.setCell (c := w.heap.size) (Nat.le_refl _) i v)
 have HAL := Lib.hid (rall_c4 v wv gv s l gs wA (h.ext hEA) (hw.ext hEA) (hg.ext hEA))
 rw [hK] at HAL
 obtain ⟨hcw, hvg⟩ := checkK_zero hK
 obtain ⟨_, hl8, hvs, _⟩ := checkW_len hcw
 have HWI := Lib.hid (fun W (q : Ext w W) => rwinner_c v wv gv s l gs W (h.ext q) (hw.ext q) (hg.ext q) (validG_gr hvg) hvs hl8)
 rw [show stpsL s l = movesL s l by rw [stpsL, if_pos hcw], show winL s l gs (movesL s l) = winS s l gs from rfl] at HWI
 have HCH : Hid (∃ x y z, chV (winS s l gs) = .agg #[.int .i64 x, .int .i64 y, .int .i64 z]) := Lib.hid (by
  cases winS s l gs with
  | none => exact ⟨0, 0, 0, rfl⟩
  | some c => exact ⟨c.1, c.2.1, c.2.2, rfl⟩)
 obtain ⟨av, cv, rfl, _⟩ := h.open_
 obtain ⟨aw, cw, rfl, _⟩ := hw.open_
 obtain ⟨ag, cg, rfl, _⟩ := hg.open_
 clear h hw hg hK hcw hvg hl8 hvs
 generalize winS s l gs = R at *
 obtain ⟨x, y, z, hxyz⟩ := HCH.out
 rw [hxyz] at HWI ⊢
 generalize R.isSome = B at *
 clear hxyz HCH
 go_enter Tryz.func174, Tryz.ntmps174
 go_upto_region 1 with fail
 rw [← HWA.out]
 generalize w.heap.size = g6 at *
 go_wp2_with fail
 refine HAL.out.mono ?_; rintro e w1 ⟨rfl, hx1⟩
 have hX1 := hEA.trans hx1
 go_wp2_with fail
 refine (HWI.out w1 hX1).mono ?_; rintro e w2 ⟨rfl, hx2⟩
 have hX2 := hX1.trans hx2
 have hb62 := (hbA.ext hx1).ext hx2
 obtain ⟨wC, hwC⟩ : ∃ wC, wC = w2.alloc (.cells #[.int .i64 x, .int .i64 y, .int .i64 z] 46) := ⟨_, rfl⟩
 have hEC : Ext w2 wC := by rw [hwC]; exact Ext.alloc _ _
 have hb10 : Blk wC w2.heap.size 46 [.int .i64 x, .int .i64 y, .int .i64 z] := by rw [hwC]; exact Blk.alloc _ _ _
 have HWC := Lib.hid hwC; clear hwC
 go_upto_region 5 with fail
 rw [← HWC.out]
 have hb63 := hb62.ext hEC
 have hX3 := hX2.trans hEC
 have x0 := hb10.cell (i := 0) rfl
 have x1 := hb10.cell (i := 1) rfl
 have x2 := hb10.cell (i := 2) rfl
 have y0 := hb63.cell (i := 0) rfl
 have y1 := hb63.cell (i := 1) rfl
 have y2 := hb63.cell (i := 2) rfl
 have z0 := hb63.frozen 0
 have z1 := hb63.frozen 1
 have z2 := hb63.frozen 2
 go_wp2_with fail
 have hfin := HS6.out _ 2 (.int .i64 z) (HS6.out _ 1 (.int .i64 y) (HS6.out _ 0 (.int .i64 x) hX3))
 have hbf := ((hb63.set 0 (.int .i64 x)).set 1 (.int .i64 y)).set 2 (.int .i64 z)
 have r0 := hbf.cell (i := 0) (v := .int .i64 x) rfl
 have r1 := hbf.cell (i := 1) (v := .int .i64 y) rfl
 have r2 := hbf.cell (i := 2) (v := .int .i64 z) rfl
 generalize World.setCell _ ⟨g6, 2, none⟩ _ = wF at *
 refine bodyPost_ret (v := .tuple #[.agg #[.int .i64 x, .int .i64 y, .int .i64 z], .bool B, .int .i64 0]) (by simp [results, Tryz.results174, go_sem, r0, r1, r2]) rfl ⟨rfl, hfin⟩
end Go.Proofs.YtpmlcfgbfhgpgaaGreatDoor
/- A school of the reference in memory: what it knows, its word, its winner. -/
namespace Go.Proofs.YtpmlcfgbfhgpgaaGreatDoor
open Go.RowKit Go.Shelf
set_option linter.unusedVariables false
structure WRow (R : Nat → Bool) (b : Nat) (w : World) (v : Value) (ls : List (List Int)) : Prop where
 row : ∃ us, GRow encV 1 34 w v us ∧ AllInts (hole (more R b) w) us ls
 inR : ∀ r, v.ownBlock = some r → R r = true
theorem WRow.rows {R : Nat → Bool} {b : Nat} {w : World} {v : Value} {ls : List (List Int)} (h : WRow R b w v ls) : Rows w v ls := by
 obtain ⟨us, h1, h2⟩ := h.row
 exact Rows.of_cel (h1.cel encV_len) ⟨h2.1, fun i u hu => (h2.2 i u hu).sub (hole_sub _ w)⟩
theorem WRow.ext {R : Nat → Bool} {b : Nat} {w w' : World} {v : Value} {ls : List (List Int)} (h : WRow R b w v ls) (hx : Ext w w') : WRow R b w' v ls := by
 obtain ⟨us, h1, h2⟩ := h.row
 exact ⟨⟨us, h1.ext hx, h2.ext (hx.hole _)⟩, h.inR⟩
structure RefR (R : Nat → Bool) (b rb : Nat) (rv : Value) (v : SV) (x : St) (s : List Rul) (w : World) : Prop where
 hb : Blk w rb 77 [rv, v.kn, v.gr, .bool x.has, v.base, v.words, v.slate, v.forms, v.orders]
 Rrb : R rb = true
 Rb : R b = false
 Rl : ∀ k, R k = true → k < w.heap.size
 hr : Ruls (hole (more R b) w) rv s
 kn : ∃ kb, v.kn = .slice (some ⟨kb, 0, none⟩) s.length s.length ∧ R kb = true ∧ Blk w kb 4 ((knowsL s.length x.kn).map .bool)
 gr : Ints (hole (more R b) w) v.gr x.gr
 base : Ints (hole (more R b) w) v.base x.base
 words : WRow R b w v.words x.words
 forms : WRow R b w v.forms x.forms
 slate : GRow encCh 3 46 w v.slate x.slate
 slateR : ∀ r, v.slate.ownBlock = some r → R r = true
 orders : GRow encT 1 9 w v.orders x.orders
 ordersR : ∀ r, v.orders.ownBlock = some r → R r = true
 apart : ∀ r, v.words.ownBlock = some r → v.forms.ownBlock ≠ some r
theorem RefR.ext {R : Nat → Bool} {b rb : Nat} {rv : Value} {v : SV} {x : St} {s : List Rul} {w w' : World} (h : RefR R b rb rv v x s w) (hx : Ext w w') : RefR R b rb rv v x s w' := by
 obtain ⟨kb, k1, k2, k3⟩ := h.kn
 exact ⟨h.hb.ext hx, h.Rrb, h.Rb, fun k hk => Nat.lt_of_lt_of_le (h.Rl k hk) hx.size, h.hr.ext (hx.hole _), ⟨kb, k1, k2, k3.ext hx⟩, h.gr.ext (hx.hole _), h.base.ext (hx.hole _), h.words.ext hx, h.forms.ext hx, h.slate.ext hx, h.slateR, h.orders.ext hx, h.ordersR, h.apart⟩
set_option maxHeartbeats 2000000 in
set_option maxRecDepth 100000 in
theorem rLearned_c {R : Nat → Bool} {b rb : Nat} {rv : Value} {v : SV} {x : St} {s : List Rul} {w : World} (h : RefR R b rb rv v x s w) (hI : InvE s x) :
  Calls Tryz.prog 85 #[.pointer (some ⟨rb, 0, none⟩)] w (ROInts 3 x.kn w) := by
 have HLN := Lib.hid hI.learned
 have HS6 : Hid (s.length ≤ 6) := Lib.hid hI.s6
 obtain ⟨kb, hkv, _, hkb⟩ := h.kn
 have c1 := h.hb.cell (i := 1) rfl
 rw [hkv] at c1
 have HKB : Hid (∀ k, k < s.length → w.cell? ⟨kb, k, none⟩ = some (.bool (hasB x.kn (k : Int)))) := Lib.hid fun k hk => hkb.cell (by rw [List.getElem?_map, knowsL_at hk]; rfl)
 clear h hI hkv hkb
 generalize hN : s.length = N at *
 obtain ⟨fk, hfk⟩ : ∃ fk : Nat → Bool, ∀ k, hasB x.kn ((k : Nat) : Int) = fk k := ⟨_, fun _ => rfl⟩
 simp only [hfk] at HKB HLN
 clear hfk hN
 rw [← HLN.out]
 clear HLN
 go_enter Tryz.func85, Tryz.ntmps85
 go_wp2_with fail
 go_loopg [4, 3] N (fun m i t wr => ∃ k : Nat, k ≤ N ∧ N ≤ k + m ∧ i = .int .i64 k ∧ Ext w wr ∧ OInts 3 wr w.heap.size t (sel k fk))
 case atStart => exact ⟨0, by omega, by omega, rfl, Ext.refl _, OInts.nil _ _ _⟩
 case round =>
  obtain ⟨k, hk, hk2, rfl, hX, ho⟩ := hrel
  replace c1 := hX.keep c1
  by_cases hlt : k < N
  ·have c2 := hX.keep (HKB.out k hlt)
   have hsl := sel_le k fk
   have HY := Lib.hid (@sel_yes k fk)
   have HNO := Lib.hid (@sel_no k fk)
   have hz := hX.size
   have HS7 : k ≤ 1000 := by have := HS6.out; omega
   obtain ⟨ta, tc, htv, _⟩ := ho.ints.open_
   generalize sel k fk = L at *
   subst htv
   have HO := Lib.hid ho
   clear ho
   cases hf : fk k with
   | true =>
    rw [hf] at c2
    have HF := Lib.hid (HY.out hf)
    clear hf
    go_wp2_with (at_builtin; refine wpList_appendInt elInts rfl _ _ rfl rfl rfl HO.out rfl hz (by omega) ?_; intro v' w' ho' hb')
    go_roundg (gk-1)
    case measure => omega
    case rel => exact ⟨k+1, by omega, by omega, by go_num, hX.upto hb' (Nat.le_refl _), by rw [HF.out]; exact ho'⟩
   | false =>
    rw [hf] at c2
    have HF := Lib.hid (HNO.out hf)
    clear hf
    go_wp2_with fail
    go_roundg (gk-1)
    case measure => omega
    case rel => exact ⟨k+1, by omega, by omega, by go_num, hX, by rw [HF.out]; exact HO.out⟩
  ·obtain rfl : k = N := by omega
   have HO := Lib.hid ho
   clear ho
   go_wp2_with fail
   go_ret
   exact ⟨_, rfl, HO.out, hX⟩
set_option maxHeartbeats 2000000 in
set_option maxRecDepth 100000 in
theorem rWord_c {R : Nat → Bool} {b rb : Nat} {rv : Value} {v : SV} {x : St} {s : List Rul} {w : World} (h : RefR R b rb rv v x s w) (hI : InvE s x) :
  ∃ u, Ints (hole (more R b) w) u (lastW x) ∧ ∀ W, Ext w W → Calls Tryz.prog 86 #[.pointer (some ⟨rb, 0, none⟩)] W (RV u W) := by
 cases hh : x.has with
 | false =>
  refine ⟨.slice none 0 0, ?_, fun W hx => ?_⟩
  ·rw [hI.last_none hh]; exact ⟨none, 0, rfl, Nat.le_refl _, by unfold maxLen; omega, fun i hi => by simp at hi⟩
  ·have c3 := hx.keep (h.hb.cell (i := 3) rfl)
   rw [hh] at c3
   clear h hI hh
   go_enter Tryz.func86, Tryz.ntmps86
   go_wp2_with fail
   go_ret
   exact ⟨rfl, Ext.refl _⟩
 | true =>
  have hwl := hI.wlen hh
  obtain ⟨us, h1, h2⟩ := h.words.row
  have hul : us.length = x.words.length := h2.1
  have hlt : us.length - 1 < us.length := by omega
  have hu := h2.2 (us.length - 1) _ (List.getElem?_eq_getElem hlt)
  obtain ⟨a, c, hv, hc1, hc2, H⟩ := (h1.cel encV_len).open_
  obtain ⟨bb, oo, ha, hc⟩ := H.out _ _ (List.getElem?_eq_getElem hlt)
  refine ⟨us[us.length - 1], ?_, fun W hx => ?_⟩
  ·rw [show lastW x = x.words[us.length - 1]?.getD [] by rw [hul]; rfl]; exact hu
  ·have c3 := hx.keep (h.hb.cell (i := 3) rfl)
   have c5 := hx.keep (h.hb.cell (i := 5) rfl)
   have hc' := hx.keep (hc 0 _ rfl)
   rw [hh] at c3
   rw [hv, ha] at c5
   generalize us[us.length - 1] = u at *
   obtain ⟨n, hn⟩ : ∃ n, us.length = n + 1 := ⟨us.length - 1, by omega⟩
   rw [hn] at c5 hc'
   rw [Nat.mul_one, Nat.add_zero, Nat.add_sub_cancel] at hc'
   have hn61 : n ≤ 100 := by have := hI.slen; omega
   have hwr : IntKind.i64.wrap (n : Int) = (n : Int) := IntWalk.i64_in _ (by omega)
   clear h hI hh hwl h1 h2 hul hlt hu H hc hv ha hn
   have hs1 : (((n + 1 : Nat) : Int) - 1) = (n : Int) := by omega
   have hs2 : n < n + 1 := by omega
   have hs3 : (n : Int) < (n : Int) + 1 := by omega
   go_enter Tryz.func86, Tryz.ntmps86
   go_upto_region 3 with fail
   refine wp_region_treeR (fun a b => Ext a b) [] (.look 0 (.look 1 (.look 2 (.look 3 (.look 4 (.look 5 (.look 6 (.look 7 (.look 8 (.look 9 (.look 10 (.look 11 (.look 12 .done))))))))))))) (fun w => Ext.refl w) (fun a b c h k => Ext.trans h k) (by kernel_rfl) (by kernel_rfl) (by intro c a d v w h; cases d <;> exact h) ?_
   have hxd := drawnP_ext W
   generalize { W with drawn := W.drawn + 1 } = W1 at *
   have k5 : ∀ q : InC (fun c => Ext W1 c), q.w.cell? ⟨rb, 5, none⟩ = some (.slice (some ⟨bb, oo, none⟩) (n + 1) c) := fun q => (hxd.trans q.h).keep c5
   have kc : ∀ q : InC (fun c => Ext W1 c), q.w.cell? ⟨bb, oo + n, none⟩ = some u := fun q => (hxd.trans q.h).keep hc'
   iterate 13 (refine wpTreeR_look rfl (fun K hK => ?_); go_simp; first | (refine hK _ ?_; clear hK K) | (refine ⟨_, fun _ => rfl, hK _ ?_⟩; clear hK K))
   refine wpTreeR_done ?_
   go_wp2_with fail
   go_ret
   exact ⟨rfl, hxd⟩
end Go.Proofs.YtpmlcfgbfhgpgaaGreatDoor
/- The winner of a school of the reference; whether it has ended. -/
namespace Go.Proofs.YtpmlcfgbfhgpgaaGreatDoor
open Go.RowKit Go.Shelf
set_option linter.unusedVariables false
set_option maxHeartbeats 16000000 in
set_option maxRecDepth 100000 in
theorem rwin_c {R : Nat → Bool} {b rb : Nat} {rv : Value} {v : SV} {x : St} {s : List Rul} {w : World} (h : RefR R b rb rv v x s w) (hI : InvE s x) (hh : x.has = true) :
  Calls Tryz.prog 128 #[.pointer (some ⟨rb, 0, none⟩)] w (RV (.tuple #[chV (chooseS s x), .bool (chooseS s x).isSome]) w) := by
 have hk : ∀ k ∈ x.kn, 0 ≤ k ∧ k < s.length := hI.knR
 have HKR := Lib.hid hk
 have HKL : Hid (x.kn.length ≤ 6) := Lib.hid (by have := hI.kl; have := hI.s6; omega)
 have HK0 : Hid (∀ n, n < x.kn.length → 0 ≤ x.kn[n]?.getD 0) := Lib.hid fun n hn => by rw [List.getElem?_eq_getElem hn]; exact (hk _ (List.getElem_mem hn)).1
 have HR1 : Hid (∀ c, winS (sysL s x) (lastW x) x.gr = some c → c.1 < x.kn.length) := Lib.hid fun c h => by have := (win_some h hI.gOk).1; rwa [sysL_len] at this
 obtain ⟨uw, hu0, HWD0⟩ := rWord_c h hI
 have hu := hu0.sub (hole_sub _ w)
 have HWD := Lib.hid HWD0
 have hgr := h.gr.sub (hole_sub _ w)
 have HWI := Lib.hid (fun (q : Value) W (hq : Ruls W q (sysL s x)) (k : Ext w W) => rWinner_c q uw v.gr (sysL s x) (lastW x) x.gr W hq (hu.ext k) (hgr.ext k) hI.check)
 have HCS : Hid (chooseS s x = (winS (sysL s x) (lastW x) x.gr).map fun c => ((x.kn[c.1]?.getD 0).toNat, c.2.1, c.2.2)) := Lib.hid rfl
 generalize winS (sysL s x) (lastW x) x.gr = RR at *
 generalize chooseS s x = RC at *
 obtain ⟨A1, A2, A3, hA⟩ : ∃ A1 A2 A3 : Int, chV RR = .agg #[.int .i64 A1, .int .i64 A2, .int .i64 A3] := by cases RR <;> exact ⟨_, _, _, rfl⟩
 have HA := Lib.hid hA
 simp only [hA] at HWI
 clear hA
 obtain ⟨wA, hwA⟩ : ∃ wA, wA = w.alloc (.cells #[.int .i64 0, .int .i64 0, .int .i64 0] 46) := ⟨_, rfl⟩
 have hEA : Ext w wA := by rw [hwA]; exact Ext.alloc _ _
 have hbA : Blk wA w.heap.size 46 [.int .i64 0, .int .i64 0, .int .i64 0] := by rw [hwA]; exact Blk.alloc _ _ _
 have HWA := Lib.hid hwA; clear hwA
 have HS6 := Lib.hid (fun (W : World) (i : Nat) (v : Value) (h : Ext w W) => h.setCell (c := w.heap.size) (Nat.le_refl _) i v)
 have HLE := Lib.hid (rLearned_c (h.ext hEA) hI)
 have hc0 := h.hb.cell (i := 0) rfl
 have hc2 := h.hb.cell (i := 2) rfl
 obtain ⟨ag, cg, hgv, _⟩ := hgr.open_
 rw [hgv] at hc2 HWI
 obtain ⟨au, cu, huv, _⟩ := hu.open_
 subst huv
 have hrr := h.hr.sub (hole_sub _ w)
 obtain ⟨ar, cr, hrv, hr1, hr2, H⟩ := hrr.lit
 rw [hrv] at hc0
 have HSY := Lib.hid (sysL.eq_1 s x)
 clear h hI hh hk hu0 HWD0 hu hgr hgv hrr hrv
 generalize sysL s x = SY at *
 generalize x.kn = KN at *
 generalize x.gr.length = gl at *
 generalize (lastW x).length = ul at *
 generalize hg3 : w.heap.size = g3 at *
 have HG3 := Lib.hid hg3; clear hg3
 replace hc0 := hEA.keep hc0
 replace hc2 := hEA.keep hc2
 go_enter Tryz.func128, Tryz.ntmps128
 go_upto_region 1 with fail
 rw [← HWA.out, HG3.out]
 go_wp2_with fail
 refine HLE.out.mono ?_; rintro e w0 ⟨u1, rfl, ho1, hx0⟩
 obtain ⟨ak, ck, hu1, hk1, hk2, HK⟩ := ho1.ints.open_
 subst hu1
 clear ho1
 replace hc0 := hx0.keep hc0
 replace hc2 := hx0.keep hc2
 have hX0 := hEA.trans hx0
 have hb60 := hbA.ext hx0
 have HX0 := Lib.hid hX0
 go_wp2_with fail
 go_loopg [6, 5] KN.length (fun m i u wr => ∃ (k : Nat) (RS : List RlC), k ≤ KN.length ∧ KN.length ≤ k + m ∧ i = .int .i64 k ∧ Ext w0 wr ∧ OCel encR 4 70 wr w0.heap.size u RS ∧ Hid (RsOk w0 RS ((KN.take k).map fun q => rulAt s q.toNat)))
 case atStart => exact ⟨0, [], by omega, by omega, rfl, Ext.refl _, OCel.nil _ _ _ _ _, Lib.hid ⟨rfl, fun i x h => by cases h⟩⟩
 case round =>
  obtain ⟨k, RS, hk1', hk2', rfl, hX, hown, hRS⟩ := hrel
  by_cases hlt : k < KN.length
  ·obtain ⟨n, hn⟩ : ∃ n : Nat, KN[k] = (n : Int) := ⟨KN[k].toNat, by have := (HKR.out _ (List.getElem_mem hlt)).1; omega⟩
   have hns : n < s.length := by have := (HKR.out _ (List.getElem_mem hlt)).2; omega
   obtain ⟨bk, ok, rfl, hck⟩ := HK.out k hlt
   rw [List.getElem?_eq_getElem hlt, Option.getD_some, hn] at hck
   obtain ⟨b1, o1, rfl, ta, tc, la, lc, ra, rc, d0, d1, d2, d3, hrr⟩ := H.out n hns
   have HN := Lib.hid hn; clear hn
   have HRR := Lib.hid (hrr.ext HX0.out); clear hrr
   replace d0 := HX0.out.keep d0
   replace d1 := HX0.out.keep d1
   replace d2 := HX0.out.keep d2
   replace d3 := HX0.out.keep d3
   generalize hru : rulAt s n = y at *
   have HRU := Lib.hid hru; clear hru
   have hRSl : RS.length = k := by rw [hRS.out.1, List.length_map, List.length_take]; omega
   have hkl := HKL.out
   have hk7 : RS.length ≤ 6 := by omega
   obtain ⟨ua, uc, huc, hu1, hu2, _⟩ := (Cel.own encR_len hown).open_
   have HRSL := Lib.hid hRSl
   clear hRSl
   subst huc
   have hs2 := hX.size
   go_upto_region 6 with fail
   refine wp_region_treeR (fun a b => Below w0.heap.size a b) [] (.look 0 (.look 1 (.look 2 (.look 3 (.look 4 (.look 5 (.look 6 (.look 7 (.look 8 (.look 9 (.look 10 (.one 11 (.one 12 (.look 13 .done)))))))))))))) (fun w => Below.refl _ w) (fun a b c h k => Below.trans h k) (by kernel_rfl) (by kernel_rfl) (by intro c a d v w h; cases d <;> exact h) ?_
   have hd := drawnP_ext wr
   have hz0 := Nat.le_trans hs2 hd.size
   have hY0 : Ext w0 _ := hX.trans hd
   have hown1 := OCel.ext hown hd
   generalize { wr with drawn := wr.drawn + 1 } = W0 at *
   have q0 : ∀ q : InC (fun c => Below w0.heap.size W0 c), q.w.cell? ⟨rb, 0, none⟩ = some (.slice (some ⟨b1, o1, none⟩) s.length cr) := fun q => Ext.keep (w := w0) (Below.trans hY0 q.h) hc0
   have q1 : ∀ q : InC (fun c => Below w0.heap.size W0 c), q.w.cell? ⟨bk, ok + k, none⟩ = some (.int .i64 n) := fun q => Ext.keep (w := w0) (Below.trans hY0 q.h) hck
   have q2 : ∀ q : InC (fun c => Below w0.heap.size W0 c), q.w.cell? ⟨b1, o1 + n * 4, none⟩ = some (.int .i64 y.f) := fun q => Ext.keep (w := w0) (Below.trans hY0 q.h) d0
   have q3 : ∀ q : InC (fun c => Below w0.heap.size W0 c), q.w.cell? ⟨b1, o1 + n * 4 + 1, none⟩ = some (.slice ta y.t.length tc) := fun q => Ext.keep (w := w0) (Below.trans hY0 q.h) d1
   have q4 : ∀ q : InC (fun c => Below w0.heap.size W0 c), q.w.cell? ⟨b1, o1 + n * 4 + 2, none⟩ = some (.slice la y.l.length lc) := fun q => Ext.keep (w := w0) (Below.trans hY0 q.h) d2
   have q5 : ∀ q : InC (fun c => Below w0.heap.size W0 c), q.w.cell? ⟨b1, o1 + n * 4 + 3, none⟩ = some (.slice ra y.r.length rc) := fun q => Ext.keep (w := w0) (Below.trans hY0 q.h) d3
   iterate 11 (refine wpTreeR_look rfl (fun K hK => ?_); go_simp; first | (refine hK _ ?_; clear hK K) | (refine ⟨_, fun _ => rfl, hK _ ?_⟩; clear hK K))
   refine wpTreeR_one rfl rfl (fun K hK => ?_)
   go_wp2_with fail
   have hbn := Blk.alloc W0 #[.int .i64 y.f, .slice ta y.t.length tc, .slice la y.l.length lc, .slice ra y.r.length rc] 70
   have hx10 := Ext.alloc W0 (.cells #[.int .i64 y.f, .slice ta y.t.length tc, .slice la y.l.length lc, .slice ra y.r.length rc] 70)
   refine ⟨.inr (hx10.mono hz0), ?_⟩
   have hown2 := OCel.ext hown1 hx10
   have hz1 := Nat.le_trans hz0 hx10.size
   have hY1 := hY0.trans hx10
   generalize W0.alloc (.cells #[.int .i64 y.f, .slice ta y.t.length tc, .slice la y.l.length lc, .slice ra y.r.length rc] 70) = W1 at *
   generalize W0.heap.size = gn at *
   refine wpTreeR_one rfl rfl (fun K hK => ?_)
   refine wpList_appendAll (v := .slice ua RS.length uc) (vx := .slice (some ⟨gn, 0, none⟩) 1 1) elRul rfl _ _ rfl rfl rfl hown2 (raw_one rfl hbn) (by intro u hu; simp only [List.mem_cons, List.not_mem_nil, or_false] at hu; rcases hu with rfl | rfl | rfl | rfl <;> rfl) (by omega) (by omega) (by omega) ?_; intro u11 v11 ho11 hb11; replace ho11 := ocel_snoc (enc := encR) (x := (⟨y.f, .slice ta y.t.length tc, .slice la y.l.length lc, .slice ra y.r.length rc⟩ : RlC)) ho11
   go_wp2_with fail
   refine ⟨.inr hb11, ?_⟩
   (refine wpTreeR_look rfl (fun K hK => ?_); go_simp; first | (refine hK _ ?_; clear hK K) | (refine ⟨_, fun _ => rfl, hK _ ?_⟩; clear hK K))
   refine wpTreeR_done ?_
   go_wp2_with fail
   go_roundg (gk-1)
   case measure => omega
   case rel =>
    refine ⟨k + 1, _, by omega, by omega, by go_num, Below.trans hY1 hb11, ho11, Lib.hid ?_⟩
    rw [List.take_add_one, List.getElem?_eq_getElem hlt, Option.toList_some, List.map_append, List.map_cons, List.map_nil, HN.out, show ((n : Int)).toNat = n from rfl, HRU.out]
    exact hRS.out.snoc rfl HRR.out
  ·obtain rfl : k = KN.length := by omega
   rw [List.take_length] at hRS
   have HF : Hid (Ruls wr _ SY) := Lib.hid (by rw [HSY.out]; exact Ruls.of_cel (Cel.own encR_len hown) (hRS.out.ext hX))
   obtain ⟨us, uz, huv, _⟩ := HF.out.open_
   have hXr := hX0.trans hX
   have hcr0 := hX.keep hc2
   have hb6r := hb60.ext hX
   clear hown hRS
   subst huv
   go_upto_region 7 with fail
   refine wp_region_treeR (fun a b => Below wr.heap.size a b) [] (.look 0 (.look 1 (.look 3 (.look 4 (.look 5 (.look 6 (.two 2 (.two 7 (.look 8 (.look 9 (.look 10 (.look 11 (.one 12 (.one 13 (.look 14 (.look 15 .done)))))))) 12 (.one 7 (.look 8 (.look 9 (.look 10 (.look 11 (.one 13 (.look 14 (.look 15 .done))))))))) 12 (.one 2 (.one 7 (.look 8 (.look 9 (.look 10 (.look 11 (.one 13 (.look 14 (.look 15 .done)))))))))))))))) (fun w => Below.refl _ w) (fun a b c h k => Below.trans h k) (by kernel_rfl) (by kernel_rfl) (by intro c a d v w h; cases d <;> exact h) ?_
   have hd := drawnP_ext wr
   have HZR : Hid (g3 ≤ wr.heap.size) := Lib.hid (by have := hXr.size; have := HG3.out; omega)
   generalize { wr with drawn := wr.drawn + 1 } = W0 at *
   have q0 : ∀ q : InC (fun c => Below wr.heap.size W0 c), q.w.cell? ⟨rb, 2, none⟩ = some (.slice ag gl cg) := fun q => Ext.keep (w := wr) (Below.trans hd q.h) hcr0
   iterate 6 (refine wpTreeR_look rfl (fun K hK => ?_); go_simp; first | (refine hK _ ?_; clear hK K) | (refine ⟨_, fun _ => rfl, hK _ ?_⟩; clear hK K))
   refine wpTreeR_two rfl rfl rfl rfl (fun K hK => ?_) (fun K hK => ?_)
   ·go_wp2_with fail
    refine (HWD.out W0 (hXr.trans hd)).mono ?_; rintro e z21 ⟨rfl, hx21⟩
    go_wp2_with fail
    have hX21 := ((hXr.trans hd)).trans hx21
    have hz21 := Nat.le_trans (hd.size) hx21.size
    have hq21 := ((HF.out.ext hd)).ext hx21
    have hY21 := Below.trans (hd) (hx21.mono (by first | omega | exact hd.size))
    refine ⟨.inr (hx21.mono (by first | omega | exact hd.size)), ?_⟩
    refine wpTreeR_two rfl rfl rfl rfl (fun K hK => ?_) (fun K hK => ?_)
    ·go_wp2_with fail
     refine (HWI.out _ z21 hq21 hX21).mono ?_; rintro e z22 ⟨rfl, hx22⟩
     go_wp2_with fail
     have hX22 := (hX21).trans hx22
     have hz22 := Nat.le_trans (hz21) hx22.size
     have hq22 := (hq21).ext hx22
     have hY22 := Below.trans (hY21) (hx22.mono (by first | omega | exact hz21))
     refine ⟨.inr (hx22.mono (by first | omega | exact hz21)), ?_⟩
     iterate 4 (refine wpTreeR_look rfl (fun K hK => ?_); go_simp; first | (refine hK _ ?_; clear hK K) | (refine ⟨_, fun _ => rfl, hK _ ?_⟩; clear hK K))
     refine wpTreeR_one rfl rfl (fun K hK => ?_)
     go_wp2_with fail
     have hb23 := Blk.alloc z22 #[.int .i64 0, .int .i64 0, .int .i64 0] 46
     have hx23 := Ext.alloc z22 (.cells #[.int .i64 0, .int .i64 0, .int .i64 0] 46)
     have hzg23 : wr.heap.size ≤ z22.heap.size := hz22
     have hz23 := Nat.le_trans (hz22) hx23.size
     refine ⟨.inr (hx23.mono (hz22)), ?_⟩
     have hX23 := (hX22).trans hx23
     have hq23 := (hq22).ext hx23
     have hY23 := Below.trans (hY22) (hx23.mono (by first | omega | exact hz22))
     generalize z22.alloc (.cells #[.int .i64 0, .int .i64 0, .int .i64 0] 46) = z23 at *
     generalize hgg23 : z22.heap.size = g23 at *
     have c0 := hb23.cell (i := 0) rfl
     have c1 := hb23.cell (i := 1) rfl
     have c2 := hb23.cell (i := 2) rfl
     have d0 := hb23.frozen 0
     have d1 := hb23.frozen 1
     have d2 := hb23.frozen 2
     refine wpTreeR_one rfl rfl (fun K hK => ?_)
     go_wp2_with fail
     have hg0 : wr.heap.size ≤ g23 := by first | omega | (have := hzg23; omega)
     have hgw : g3 ≤ g23 := by have := HZR.out; omega
     refine ⟨.inr (below_set (below_set (below_set (Below.refl _ _) hg0 _ _) hg0 _ _) hg0 _ _), ?_⟩
     have hbz : Below wr.heap.size z23 ((((z23).setCell ⟨g23, 0, none⟩ (.int .i64 A1)).setCell ⟨g23, 1, none⟩ (.int .i64 A2)).setCell ⟨g23, 2, none⟩ (.int .i64 A3)) := below_set (below_set (below_set (Below.refl _ _) hg0 _ _) hg0 _ _) hg0 _ _
     have hbW : Below wr.heap.size wr z23 := hY23
     have HW3 : Ext wr _ := Below.trans hbW hbz
     have hbg := ((hb23.set 0 (.int .i64 A1)).set 1 (.int .i64 A2)).set 2 (.int .i64 A3)
     generalize World.setCell _ ⟨g23, 2, none⟩ _ = wZ at *
     iterate 2 (refine wpTreeR_look rfl (fun K hK => ?_); go_simp; first | (refine hK _ ?_; clear hK K) | (refine ⟨_, fun _ => rfl, hK _ ?_⟩; clear hK K))
     refine wpTreeR_done ?_
     have hb4 : Blk wZ g3 46 [.int .i64 0, .int .i64 0, .int .i64 0] := hb6r.ext HW3
     have HXZ := hXr.trans HW3
     have hne : g23 ≠ g3 := by have := hb6r.lt; omega
     have e0 := hbg.cell (i := 0) (v := .int .i64 A1) rfl
     have e1 := hbg.cell (i := 1) (v := .int .i64 A2) rfl
     have e2 := hbg.cell (i := 2) (v := .int .i64 A3) rfl
     have q0 := hbg.frozen 0
     have y0 := hb4.frozen 0
     have y1 := hb4.frozen 1
     have y2 := hb4.frozen 2
     have x0 := hb4.cell (i := 0) rfl
     have x1 := hb4.cell (i := 1) rfl
     have x2 := hb4.cell (i := 2) rfl
     clear hbz hbW c0 c1 c2 d0 d1 d2
     cases RR with
     | none =>
      obtain ⟨rfl, rfl, rfl⟩ := chV_none HA.out
      try simp only [Option.isSome_none]
      go_wp2_with fail
      have hfin := HS6.out _ 2 (.int .i64 0) (HS6.out _ 1 (.int .i64 0) (HS6.out _ 0 (.int .i64 0) HXZ))
      have hbf := ((hb4.set 0 (.int .i64 0)).set 1 (.int .i64 0)).set 2 (.int .i64 0)
      have r0 := hbf.cell (i := 0) (v := .int .i64 0) rfl
      have r1 := hbf.cell (i := 1) (v := .int .i64 0) rfl
      have r2 := hbf.cell (i := 2) (v := .int .i64 0) rfl
      generalize World.setCell _ ⟨g3, 2, none⟩ _ = wF at *
      refine bodyPost_ret (v := .tuple #[.agg #[.int .i64 0, .int .i64 0, .int .i64 0], .bool false]) (by simp [results, Tryz.results128, go_sem, r0, r1, r2]) rfl ?_
      exact ⟨by rw [HCS.out]; rfl, hfin⟩
     | some c =>
      have hc1 := HR1.out c rfl
      obtain ⟨n1, p1, k1'⟩ := c
      obtain ⟨rfl, rfl, rfl⟩ := chV_some HA.out
      dsimp only at hc1
      try simp only [Option.isSome_some]
      obtain ⟨bk, ok, rfl, hck⟩ := HK.out n1 hc1
      replace hck := HW3.keep (hX.keep hck)
      have HKV : Hid (RC = some ((KN[n1]?.getD 0).toNat, A2, A3) ∧ 0 ≤ KN[n1]?.getD 0) := Lib.hid ⟨HCS.out, HK0.out n1 hc1⟩
      generalize KN[n1]?.getD 0 = kv at *
      generalize KN.length = KL at *
      go_wp2_with fail
      have HW4 := HXZ.setCell (c := g23) (by have := HG3.out; omega) 0 (.int .i64 kv)
      have hbg5 := hbg.set 0 (.int .i64 kv)
      have hb45 := hb4.other hne 0 (.int .i64 kv)
      generalize World.setCell wZ ⟨g23, 0, none⟩ _ = wY at *
      have e0 := hbg5.cell (i := 0) (v := .int .i64 kv) rfl
      have e1 := hbg5.cell (i := 1) (v := .int .i64 A2) rfl
      have e2 := hbg5.cell (i := 2) (v := .int .i64 A3) rfl
      have y0 := hb45.frozen 0
      have y1 := hb45.frozen 1
      have y2 := hb45.frozen 2
      have x0 := hb45.cell (i := 0) rfl
      have x1 := hb45.cell (i := 1) rfl
      have x2 := hb45.cell (i := 2) rfl
      go_wp2_with fail
      have hfin := HS6.out _ 2 (.int .i64 A3) (HS6.out _ 1 (.int .i64 A2) (HS6.out _ 0 (.int .i64 kv) HW4))
      have hbf := ((hb45.set 0 (.int .i64 kv)).set 1 (.int .i64 A2)).set 2 (.int .i64 A3)
      have r0 := hbf.cell (i := 0) (v := .int .i64 kv) rfl
      have r1 := hbf.cell (i := 1) (v := .int .i64 A2) rfl
      have r2 := hbf.cell (i := 2) (v := .int .i64 A3) rfl
      generalize World.setCell _ ⟨g3, 2, none⟩ _ = wF at *
      refine bodyPost_ret (v := .tuple #[.agg #[.int .i64 kv, .int .i64 A2, .int .i64 A3], .bool true]) (by simp [results, Tryz.results128, go_sem, r0, r1, r2]) rfl ?_
      exact ⟨by rw [HKV.out.1]; exact chV_ret HKV.out.2, hfin⟩
    ·go_wp2_with fail
     have hb24 := Blk.alloc z21 #[.int .i64 0, .int .i64 0, .int .i64 0] 46
     have hx24 := Ext.alloc z21 (.cells #[.int .i64 0, .int .i64 0, .int .i64 0] 46)
     have hzg24 : wr.heap.size ≤ z21.heap.size := hz21
     have hz24 := Nat.le_trans (hz21) hx24.size
     refine ⟨.inr (hx24.mono (hz21)), ?_⟩
     have hX24 := (hX21).trans hx24
     have hq24 := (hq21).ext hx24
     have hY24 := Below.trans (hY21) (hx24.mono (by first | omega | exact hz21))
     generalize z21.alloc (.cells #[.int .i64 0, .int .i64 0, .int .i64 0] 46) = z24 at *
     generalize hgg24 : z21.heap.size = g24 at *
     refine wpTreeR_one rfl rfl (fun K hK => ?_)
     go_wp2_with fail
     refine (HWI.out _ z24 hq24 hX24).mono ?_; rintro e z25 ⟨rfl, hx25⟩
     go_wp2_with fail
     have hX25 := (hX24).trans hx25
     have hz25 := Nat.le_trans (hz24) hx25.size
     have hq25 := (hq24).ext hx25
     have hb25 := hb24.ext hx25
     have hY25 := Below.trans (hY24) (hx25.mono (by first | omega | exact hz24))
     refine ⟨.inr (hx25.mono (by first | omega | exact hz24)), ?_⟩
     iterate 4 (refine wpTreeR_look rfl (fun K hK => ?_); go_simp; first | (refine hK _ ?_; clear hK K) | (refine ⟨_, fun _ => rfl, hK _ ?_⟩; clear hK K))
     have c0 := hb25.cell (i := 0) rfl
     have c1 := hb25.cell (i := 1) rfl
     have c2 := hb25.cell (i := 2) rfl
     have d0 := hb25.frozen 0
     have d1 := hb25.frozen 1
     have d2 := hb25.frozen 2
     refine wpTreeR_one rfl rfl (fun K hK => ?_)
     go_wp2_with fail
     have hg0 : wr.heap.size ≤ g24 := by first | omega | (have := hzg24; omega)
     have hgw : g3 ≤ g24 := by have := HZR.out; omega
     refine ⟨.inr (below_set (below_set (below_set (Below.refl _ _) hg0 _ _) hg0 _ _) hg0 _ _), ?_⟩
     have hbz : Below wr.heap.size z25 ((((z25).setCell ⟨g24, 0, none⟩ (.int .i64 A1)).setCell ⟨g24, 1, none⟩ (.int .i64 A2)).setCell ⟨g24, 2, none⟩ (.int .i64 A3)) := below_set (below_set (below_set (Below.refl _ _) hg0 _ _) hg0 _ _) hg0 _ _
     have hbW : Below wr.heap.size wr z25 := hY25
     have HW3 : Ext wr _ := Below.trans hbW hbz
     have hbg := ((hb25.set 0 (.int .i64 A1)).set 1 (.int .i64 A2)).set 2 (.int .i64 A3)
     generalize World.setCell _ ⟨g24, 2, none⟩ _ = wZ at *
     iterate 2 (refine wpTreeR_look rfl (fun K hK => ?_); go_simp; first | (refine hK _ ?_; clear hK K) | (refine ⟨_, fun _ => rfl, hK _ ?_⟩; clear hK K))
     refine wpTreeR_done ?_
     have hb4 : Blk wZ g3 46 [.int .i64 0, .int .i64 0, .int .i64 0] := hb6r.ext HW3
     have HXZ := hXr.trans HW3
     have hne : g24 ≠ g3 := by have := hb6r.lt; omega
     have e0 := hbg.cell (i := 0) (v := .int .i64 A1) rfl
     have e1 := hbg.cell (i := 1) (v := .int .i64 A2) rfl
     have e2 := hbg.cell (i := 2) (v := .int .i64 A3) rfl
     have q0 := hbg.frozen 0
     have y0 := hb4.frozen 0
     have y1 := hb4.frozen 1
     have y2 := hb4.frozen 2
     have x0 := hb4.cell (i := 0) rfl
     have x1 := hb4.cell (i := 1) rfl
     have x2 := hb4.cell (i := 2) rfl
     clear hbz hbW c0 c1 c2 d0 d1 d2
     cases RR with
     | none =>
      obtain ⟨rfl, rfl, rfl⟩ := chV_none HA.out
      try simp only [Option.isSome_none]
      go_wp2_with fail
      have hfin := HS6.out _ 2 (.int .i64 0) (HS6.out _ 1 (.int .i64 0) (HS6.out _ 0 (.int .i64 0) HXZ))
      have hbf := ((hb4.set 0 (.int .i64 0)).set 1 (.int .i64 0)).set 2 (.int .i64 0)
      have r0 := hbf.cell (i := 0) (v := .int .i64 0) rfl
      have r1 := hbf.cell (i := 1) (v := .int .i64 0) rfl
      have r2 := hbf.cell (i := 2) (v := .int .i64 0) rfl
      generalize World.setCell _ ⟨g3, 2, none⟩ _ = wF at *
      refine bodyPost_ret (v := .tuple #[.agg #[.int .i64 0, .int .i64 0, .int .i64 0], .bool false]) (by simp [results, Tryz.results128, go_sem, r0, r1, r2]) rfl ?_
      exact ⟨by rw [HCS.out]; rfl, hfin⟩
     | some c =>
      have hc1 := HR1.out c rfl
      obtain ⟨n1, p1, k1'⟩ := c
      obtain ⟨rfl, rfl, rfl⟩ := chV_some HA.out
      dsimp only at hc1
      try simp only [Option.isSome_some]
      obtain ⟨bk, ok, rfl, hck⟩ := HK.out n1 hc1
      replace hck := HW3.keep (hX.keep hck)
      have HKV : Hid (RC = some ((KN[n1]?.getD 0).toNat, A2, A3) ∧ 0 ≤ KN[n1]?.getD 0) := Lib.hid ⟨HCS.out, HK0.out n1 hc1⟩
      generalize KN[n1]?.getD 0 = kv at *
      generalize KN.length = KL at *
      go_wp2_with fail
      have HW4 := HXZ.setCell (c := g24) (by have := HG3.out; omega) 0 (.int .i64 kv)
      have hbg5 := hbg.set 0 (.int .i64 kv)
      have hb45 := hb4.other hne 0 (.int .i64 kv)
      generalize World.setCell wZ ⟨g24, 0, none⟩ _ = wY at *
      have e0 := hbg5.cell (i := 0) (v := .int .i64 kv) rfl
      have e1 := hbg5.cell (i := 1) (v := .int .i64 A2) rfl
      have e2 := hbg5.cell (i := 2) (v := .int .i64 A3) rfl
      have y0 := hb45.frozen 0
      have y1 := hb45.frozen 1
      have y2 := hb45.frozen 2
      have x0 := hb45.cell (i := 0) rfl
      have x1 := hb45.cell (i := 1) rfl
      have x2 := hb45.cell (i := 2) rfl
      go_wp2_with fail
      have hfin := HS6.out _ 2 (.int .i64 A3) (HS6.out _ 1 (.int .i64 A2) (HS6.out _ 0 (.int .i64 kv) HW4))
      have hbf := ((hb45.set 0 (.int .i64 kv)).set 1 (.int .i64 A2)).set 2 (.int .i64 A3)
      have r0 := hbf.cell (i := 0) (v := .int .i64 kv) rfl
      have r1 := hbf.cell (i := 1) (v := .int .i64 A2) rfl
      have r2 := hbf.cell (i := 2) (v := .int .i64 A3) rfl
      generalize World.setCell _ ⟨g3, 2, none⟩ _ = wF at *
      refine bodyPost_ret (v := .tuple #[.agg #[.int .i64 kv, .int .i64 A2, .int .i64 A3], .bool true]) (by simp [results, Tryz.results128, go_sem, r0, r1, r2]) rfl ?_
      exact ⟨by rw [HKV.out.1]; exact chV_ret HKV.out.2, hfin⟩
   ·go_wp2_with fail
    have hb26 := Blk.alloc W0 #[.int .i64 0, .int .i64 0, .int .i64 0] 46
    have hx26 := Ext.alloc W0 (.cells #[.int .i64 0, .int .i64 0, .int .i64 0] 46)
    have hzg26 : wr.heap.size ≤ W0.heap.size := hd.size
    have hz26 := Nat.le_trans (hd.size) hx26.size
    refine ⟨.inr (hx26.mono (hd.size)), ?_⟩
    have hX26 := ((hXr.trans hd)).trans hx26
    have hq26 := ((HF.out.ext hd)).ext hx26
    have hY26 := Below.trans (hd) (hx26.mono (by first | omega | exact hd.size))
    generalize W0.alloc (.cells #[.int .i64 0, .int .i64 0, .int .i64 0] 46) = z26 at *
    generalize hgg26 : W0.heap.size = g26 at *
    refine wpTreeR_one rfl rfl (fun K hK => ?_)
    go_wp2_with fail
    refine (HWD.out z26 hX26).mono ?_; rintro e z27 ⟨rfl, hx27⟩
    go_wp2_with fail
    have hX27 := (hX26).trans hx27
    have hz27 := Nat.le_trans (hz26) hx27.size
    have hq27 := (hq26).ext hx27
    have hb27 := hb26.ext hx27
    have hY27 := Below.trans (hY26) (hx27.mono (by first | omega | exact hz26))
    refine ⟨.inr (hx27.mono (by first | omega | exact hz26)), ?_⟩
    refine wpTreeR_one rfl rfl (fun K hK => ?_)
    go_wp2_with fail
    refine (HWI.out _ z27 hq27 hX27).mono ?_; rintro e z28 ⟨rfl, hx28⟩
    go_wp2_with fail
    have hX28 := (hX27).trans hx28
    have hz28 := Nat.le_trans (hz27) hx28.size
    have hq28 := (hq27).ext hx28
    have hb28 := hb27.ext hx28
    have hY28 := Below.trans (hY27) (hx28.mono (by first | omega | exact hz27))
    refine ⟨.inr (hx28.mono (by first | omega | exact hz27)), ?_⟩
    iterate 4 (refine wpTreeR_look rfl (fun K hK => ?_); go_simp; first | (refine hK _ ?_; clear hK K) | (refine ⟨_, fun _ => rfl, hK _ ?_⟩; clear hK K))
    have c0 := hb28.cell (i := 0) rfl
    have c1 := hb28.cell (i := 1) rfl
    have c2 := hb28.cell (i := 2) rfl
    have d0 := hb28.frozen 0
    have d1 := hb28.frozen 1
    have d2 := hb28.frozen 2
    refine wpTreeR_one rfl rfl (fun K hK => ?_)
    go_wp2_with fail
    have hg0 : wr.heap.size ≤ g26 := by first | omega | (have := hzg26; omega)
    have hgw : g3 ≤ g26 := by have := HZR.out; omega
    refine ⟨.inr (below_set (below_set (below_set (Below.refl _ _) hg0 _ _) hg0 _ _) hg0 _ _), ?_⟩
    have hbz : Below wr.heap.size z28 ((((z28).setCell ⟨g26, 0, none⟩ (.int .i64 A1)).setCell ⟨g26, 1, none⟩ (.int .i64 A2)).setCell ⟨g26, 2, none⟩ (.int .i64 A3)) := below_set (below_set (below_set (Below.refl _ _) hg0 _ _) hg0 _ _) hg0 _ _
    have hbW : Below wr.heap.size wr z28 := hY28
    have HW3 : Ext wr _ := Below.trans hbW hbz
    have hbg := ((hb28.set 0 (.int .i64 A1)).set 1 (.int .i64 A2)).set 2 (.int .i64 A3)
    generalize World.setCell _ ⟨g26, 2, none⟩ _ = wZ at *
    iterate 2 (refine wpTreeR_look rfl (fun K hK => ?_); go_simp; first | (refine hK _ ?_; clear hK K) | (refine ⟨_, fun _ => rfl, hK _ ?_⟩; clear hK K))
    refine wpTreeR_done ?_
    have hb4 : Blk wZ g3 46 [.int .i64 0, .int .i64 0, .int .i64 0] := hb6r.ext HW3
    have HXZ := hXr.trans HW3
    have hne : g26 ≠ g3 := by have := hb6r.lt; omega
    have e0 := hbg.cell (i := 0) (v := .int .i64 A1) rfl
    have e1 := hbg.cell (i := 1) (v := .int .i64 A2) rfl
    have e2 := hbg.cell (i := 2) (v := .int .i64 A3) rfl
    have q0 := hbg.frozen 0
    have y0 := hb4.frozen 0
    have y1 := hb4.frozen 1
    have y2 := hb4.frozen 2
    have x0 := hb4.cell (i := 0) rfl
    have x1 := hb4.cell (i := 1) rfl
    have x2 := hb4.cell (i := 2) rfl
    clear hbz hbW c0 c1 c2 d0 d1 d2
    cases RR with
    | none =>
     obtain ⟨rfl, rfl, rfl⟩ := chV_none HA.out
     try simp only [Option.isSome_none]
     go_wp2_with fail
     have hfin := HS6.out _ 2 (.int .i64 0) (HS6.out _ 1 (.int .i64 0) (HS6.out _ 0 (.int .i64 0) HXZ))
     have hbf := ((hb4.set 0 (.int .i64 0)).set 1 (.int .i64 0)).set 2 (.int .i64 0)
     have r0 := hbf.cell (i := 0) (v := .int .i64 0) rfl
     have r1 := hbf.cell (i := 1) (v := .int .i64 0) rfl
     have r2 := hbf.cell (i := 2) (v := .int .i64 0) rfl
     generalize World.setCell _ ⟨g3, 2, none⟩ _ = wF at *
     refine bodyPost_ret (v := .tuple #[.agg #[.int .i64 0, .int .i64 0, .int .i64 0], .bool false]) (by simp [results, Tryz.results128, go_sem, r0, r1, r2]) rfl ?_
     exact ⟨by rw [HCS.out]; rfl, hfin⟩
    | some c =>
     have hc1 := HR1.out c rfl
     obtain ⟨n1, p1, k1'⟩ := c
     obtain ⟨rfl, rfl, rfl⟩ := chV_some HA.out
     dsimp only at hc1
     try simp only [Option.isSome_some]
     obtain ⟨bk, ok, rfl, hck⟩ := HK.out n1 hc1
     replace hck := HW3.keep (hX.keep hck)
     have HKV : Hid (RC = some ((KN[n1]?.getD 0).toNat, A2, A3) ∧ 0 ≤ KN[n1]?.getD 0) := Lib.hid ⟨HCS.out, HK0.out n1 hc1⟩
     generalize KN[n1]?.getD 0 = kv at *
     generalize KN.length = KL at *
     go_wp2_with fail
     have HW4 := HXZ.setCell (c := g26) (by have := HG3.out; omega) 0 (.int .i64 kv)
     have hbg5 := hbg.set 0 (.int .i64 kv)
     have hb45 := hb4.other hne 0 (.int .i64 kv)
     generalize World.setCell wZ ⟨g26, 0, none⟩ _ = wY at *
     have e0 := hbg5.cell (i := 0) (v := .int .i64 kv) rfl
     have e1 := hbg5.cell (i := 1) (v := .int .i64 A2) rfl
     have e2 := hbg5.cell (i := 2) (v := .int .i64 A3) rfl
     have y0 := hb45.frozen 0
     have y1 := hb45.frozen 1
     have y2 := hb45.frozen 2
     have x0 := hb45.cell (i := 0) rfl
     have x1 := hb45.cell (i := 1) rfl
     have x2 := hb45.cell (i := 2) rfl
     go_wp2_with fail
     have hfin := HS6.out _ 2 (.int .i64 A3) (HS6.out _ 1 (.int .i64 A2) (HS6.out _ 0 (.int .i64 kv) HW4))
     have hbf := ((hb45.set 0 (.int .i64 kv)).set 1 (.int .i64 A2)).set 2 (.int .i64 A3)
     have r0 := hbf.cell (i := 0) (v := .int .i64 kv) rfl
     have r1 := hbf.cell (i := 1) (v := .int .i64 A2) rfl
     have r2 := hbf.cell (i := 2) (v := .int .i64 A3) rfl
     generalize World.setCell _ ⟨g3, 2, none⟩ _ = wF at *
     refine bodyPost_ret (v := .tuple #[.agg #[.int .i64 kv, .int .i64 A2, .int .i64 A3], .bool true]) (by simp [results, Tryz.results128, go_sem, r0, r1, r2]) rfl ?_
     exact ⟨by rw [HKV.out.1]; exact chV_ret HKV.out.2, hfin⟩
end Go.Proofs.YtpmlcfgbfhgpgaaGreatDoor
/- A school and one of the reference with the same state are told to be equal. -/
namespace Go.Proofs.YtpmlcfgbfhgpgaaGreatDoor
open Go.RowKit Go.Shelf
set_option linter.unusedVariables false
set_option maxHeartbeats 4000000 in
set_option maxRecDepth 100000 in
theorem rEnded_c {R : Nat → Bool} {b rb : Nat} {rv : Value} {v : SV} {x : St} {s : List Rul} {w : World} (h : RefR R b rb rv v x s w) (hI : InvE s x) :
  Calls Tryz.prog 87 #[.pointer (some ⟨rb, 0, none⟩)] w (RV (.bool (endedS s x)) w) := by
 have c3 := h.hb.cell (i := 3) rfl
 cases hh : x.has with
 | false =>
  rw [show endedS s x = false by unfold endedS; rw [hh]; rfl]
  rw [hh] at c3
  clear h hI hh
  go_enter Tryz.func87, Tryz.ntmps87
  go_wp2_with fail
  go_ret
  exact ⟨rfl, Ext.refl _⟩
 | true =>
  rw [show endedS s x = !(chooseS s x).isSome by unfold endedS; rw [hh]; cases chooseS s x <;> rfl]
  rw [hh] at c3
  have HW := Lib.hid (rwin_c h hI hh)
  obtain ⟨A1, A2, A3, hA⟩ : ∃ A1 A2 A3 : Int, chV (chooseS s x) = .agg #[.int .i64 A1, .int .i64 A2, .int .i64 A3] := by cases chooseS s x <;> exact ⟨_, _, _, rfl⟩
  rw [hA] at HW
  clear hA h hI hh
  generalize (chooseS s x).isSome = B at *
  go_enter Tryz.func87, Tryz.ntmps87
  go_wp2_with fail
  refine HW.out.mono ?_; rintro e w1 ⟨rfl, hx1⟩
  go_wp2_with fail
  go_ret
  exact ⟨rfl, hx1.trans (Ext.alloc _ _)⟩
set_option maxHeartbeats 16000000 in
set_option maxRecDepth 100000 in
theorem Equal_c {S R : Nat → Bool} {b b2 rb : Nat} {m1 rv rv2 : Value} {v v2 : SV} {x : St} {s : List Rul} {w : World} (h : SchF S b m1 rv v x s w) (k : RefR R b2 rb rv2 v2 x s w) (hE : Env w) :
  Calls Tryz.prog 47 #[.pointer (some ⟨b, 0, none⟩), .pointer (some ⟨rb, 0, none⟩)] w (RV (.bool true) w) := by
 have hI := h.hI
 have HB1 := Lib.hid (Base_c h)
 have HW1 := Lib.hid (fun W (q : Ext w W) => Word_c (h.ext q))
 have HK1 := Lib.hid (fun W (q : Ext w W) => Learned_c (h.ext q))
 have HK2 := Lib.hid (fun W (q : Ext w W) => rLearned_c (k.ext q) hI.toInvE)
 have HG1 := Lib.hid (fun W (q : Ext w W) => Grounds_c (h.ext q))
 have HS1 := Lib.hid (fun W (q : Ext w W) => Slate_c (h.ext q))
 have HF1 := Lib.hid (fun W (q : Ext w W) => Forms_c (h.ext q))
 have HE1 := Lib.hid (fun W (q : Ext w W) => Ended_c (h.ext q))
 have HE2 := Lib.hid (fun W (q : Ext w W) => rEnded_c (k.ext q) hI.toInvE)
 have HO1 := Lib.hid (fun W (q : Ext w W) => Book_c (h.ext q) (hE.ext q))
 obtain ⟨uw, hu0, HW20⟩ := rWord_c k hI.toInvE
 have HW2 := Lib.hid HW20
 have iu := Lib.hid (hu0.sub (hole_sub _ w))
 have ig := Lib.hid (k.gr.sub (hole_sub _ w))
 have ib := Lib.hid (k.base.sub (hole_sub _ w))
 have is_ := Lib.hid (k.slate.cel encCh_len)
 have if_ := Lib.hid k.forms.rows
 have io := Lib.hid (k.orders.cel encT_len)
 have HO2 := Lib.hid (fun W (q : Ext w W) => rText_c v2.orders x.orders W (io.out.ext q) (hE.ext q) (fun t ht => by have := hI.bookOk.1 t ht; omega) (by have := hI.olen; omega))
 have c2 := k.hb.cell (i := 2) rfl
 have c3 := k.hb.cell (i := 3) rfl
 have c4 := k.hb.cell (i := 4) rfl
 have c6 := k.hb.cell (i := 6) rfl
 have c7 := k.hb.cell (i := 7) rfl
 have c8 := k.hb.cell (i := 8) rfl
 obtain ⟨g2, h2, e2, _⟩ := ig.out.open_
 rw [e2] at c2 ig
 obtain ⟨g4, h4, e4, _⟩ := ib.out.open_
 rw [e4] at c4 ib
 obtain ⟨g6, h6, e6, _⟩ := is_.out.open_
 rw [e6] at c6 is_
 obtain ⟨g7, h7, e7, _⟩ := Rows.open_ if_.out
 rw [e7] at c7 if_
 obtain ⟨g8, h8, e8, _⟩ := io.out.open_
 rw [e8] at c8 io HO2
 obtain ⟨gu, hu, eu, _⟩ := iu.out.open_
 subst eu
 clear h k hE hI hu0 HW20 e2 e4 e6 e7 e8
 have hnc : ∀ B : Bool, (B == B) = true := fun B => by cases B <;> rfl
 generalize endedS s x = EN at *
 generalize x.has = HAS at *
 generalize x.base = BA at *
 generalize lastW x = LW at *
 generalize x.kn = KN at *
 generalize x.gr = GR at *
 generalize x.forms = FO at *
 generalize bookB x.orders = BO at *
 generalize x.orders.length = OL at *
 generalize x.slate = SL at *
 have hnt : ((⟨BO.toArray⟩ : ByteArray).toList == (⟨BO.toArray⟩ : ByteArray).toList) = true := by simp
 go_enter Tryz.func47, Tryz.ntmps47
 go_wp2_with fail
 refine HB1.out.mono ?_; rintro e w1 ⟨u1, rfl, o1, hx1⟩
 obtain ⟨a1, d1, hu1, _⟩ := o1.ints.open_
 subst hu1
 have i1 := Lib.hid o1.ints
 clear o1
 go_wp2_with fail
 refine (HW1.out w1 hx1).mono ?_; rintro e w2 ⟨u2, rfl, o2, hx2⟩
 obtain ⟨a2, d2, hu2, _⟩ := o2.ints.open_
 subst hu2
 have i2 := Lib.hid o2.ints
 clear o2
 go_upto_region 3 with fail
 have X2 := hx1.trans hx2
 have i1z := Lib.hid ((i1.out.ext hx2).ext (drawnP_ext w2))
 have i2z := Lib.hid (i2.out.ext (drawnP_ext w2))
 refine wp_region_treeR (fun a b => Ext a b) [] (.look 0 (.look 2 (.one 1 (.one 3 (.one 4 (.look 5 (.look 6 (.look 8 (.look 9 (.look 10 (.look 11 (.one 7 (.one 12 (.look 13 (.look 14 (.look 15 (.look 16 (.look 17 (.look 18 (.look 19 (.look 20 (.look 21 (.look 22 (.look 23 (.look 24 (.look 25 (.look 26 (.look 27 (.look 28 (.look 29 (.look 30 (.look 31 (.look 32 (.look 33 (.look 34 (.look 35 (.one 36 (.look 37 (.look 38 (.look 39 (.look 40 (.one 41 (.one 42 (.look 43 (.look 44 (.look 45 (.look 47 (.look 48 (.look 49 (.look 50 (.one 46 (.one 51 (.look 52 (.look 53 (.look 54 (.look 56 (.look 57 (.look 58 (.look 59 (.one 55 (.one 60 (.look 61 (.look 62 (.look 63 (.look 65 (.one 64 (.one 66 (.look 67 (.look 68 (.look 69 (.look 70 (.look 72 (.look 73 (.look 74 (.look 75 (.one 71 (.one 76 (.look 77 (.look 78 (.look 79 .done)))))))))))))))))))))))))))))))))))))))))))))))))))))))))))))))))))))))))))))))) (fun w => Ext.refl w) (fun a b c h k => Ext.trans h k) (by kernel_rfl) (by kernel_rfl) (by intro c a d v w h; cases d <;> exact h) ?_
 have X0 := X2.trans (drawnP_ext w2)
 clear i1 i2
 generalize { w2 with drawn := w2.drawn + 1 } = W0 at *
 have iB := i1z
 have iW := i2z
 have k2 : ∀ q : InC (fun c => Ext W0 c), q.w.cell? ⟨rb, 2, none⟩ = some (.slice g2 GR.length h2) := fun q => (X0.trans q.h).keep c2
 have k3 : ∀ q : InC (fun c => Ext W0 c), q.w.cell? ⟨rb, 3, none⟩ = some (.bool HAS) := fun q => (X0.trans q.h).keep c3
 have k4 : ∀ q : InC (fun c => Ext W0 c), q.w.cell? ⟨rb, 4, none⟩ = some (.slice g4 BA.length h4) := fun q => (X0.trans q.h).keep c4
 have k6 : ∀ q : InC (fun c => Ext W0 c), q.w.cell? ⟨rb, 6, none⟩ = some (.slice g6 SL.length h6) := fun q => (X0.trans q.h).keep c6
 have k7 : ∀ q : InC (fun c => Ext W0 c), q.w.cell? ⟨rb, 7, none⟩ = some (.slice g7 FO.length h7) := fun q => (X0.trans q.h).keep c7
 have k8 : ∀ q : InC (fun c => Ext W0 c), q.w.cell? ⟨rb, 8, none⟩ = some (.slice g8 OL h8) := fun q => (X0.trans q.h).keep c8
 iterate 2 (refine wpTreeR_look rfl (fun K hK => ?_); go_simp; first | (refine hK _ ?_; clear hK K) | (refine ⟨_, fun _ => rfl, hK _ ?_⟩; clear hK K))
 refine wpTreeR_one rfl rfl (fun K hK => ?_)
 go_wp2_with fail
 refine (HK1.out W0 X0).mono ?_; rintro e z1 ⟨u1, rfl, o1, hz1⟩
 obtain ⟨p1, q1, hv1, _⟩ := o1.ints.open_
 subst hv1
 have i1 := Lib.hid o1.ints
 clear o1
 have X1 := X0.trans hz1
 go_wp2_with fail
 refine ⟨.inr hz1, ?_⟩
 clear k2 k3 k4 k6 k7 k8
 have k2 : ∀ q : InC (fun c => Ext z1 c), q.w.cell? ⟨rb, 2, none⟩ = some (.slice g2 GR.length h2) := fun q => (X1.trans q.h).keep c2
 have k3 : ∀ q : InC (fun c => Ext z1 c), q.w.cell? ⟨rb, 3, none⟩ = some (.bool HAS) := fun q => (X1.trans q.h).keep c3
 have k4 : ∀ q : InC (fun c => Ext z1 c), q.w.cell? ⟨rb, 4, none⟩ = some (.slice g4 BA.length h4) := fun q => (X1.trans q.h).keep c4
 have k6 : ∀ q : InC (fun c => Ext z1 c), q.w.cell? ⟨rb, 6, none⟩ = some (.slice g6 SL.length h6) := fun q => (X1.trans q.h).keep c6
 have k7 : ∀ q : InC (fun c => Ext z1 c), q.w.cell? ⟨rb, 7, none⟩ = some (.slice g7 FO.length h7) := fun q => (X1.trans q.h).keep c7
 have k8 : ∀ q : InC (fun c => Ext z1 c), q.w.cell? ⟨rb, 8, none⟩ = some (.slice g8 OL h8) := fun q => (X1.trans q.h).keep c8
 refine wpTreeR_one rfl rfl (fun K hK => ?_)
 go_wp2_with fail
 refine (HK2.out z1 X1).mono ?_; rintro e z2 ⟨u2, rfl, o2, hz2⟩
 obtain ⟨p2, q2, hv2, _⟩ := o2.ints.open_
 subst hv2
 have i2 := Lib.hid o2.ints
 clear o2
 have X2 := X1.trans hz2
 go_wp2_with fail
 refine ⟨.inr hz2, ?_⟩
 clear k2 k3 k4 k6 k7 k8
 have k2 : ∀ q : InC (fun c => Ext z2 c), q.w.cell? ⟨rb, 2, none⟩ = some (.slice g2 GR.length h2) := fun q => (X2.trans q.h).keep c2
 have k3 : ∀ q : InC (fun c => Ext z2 c), q.w.cell? ⟨rb, 3, none⟩ = some (.bool HAS) := fun q => (X2.trans q.h).keep c3
 have k4 : ∀ q : InC (fun c => Ext z2 c), q.w.cell? ⟨rb, 4, none⟩ = some (.slice g4 BA.length h4) := fun q => (X2.trans q.h).keep c4
 have k6 : ∀ q : InC (fun c => Ext z2 c), q.w.cell? ⟨rb, 6, none⟩ = some (.slice g6 SL.length h6) := fun q => (X2.trans q.h).keep c6
 have k7 : ∀ q : InC (fun c => Ext z2 c), q.w.cell? ⟨rb, 7, none⟩ = some (.slice g7 FO.length h7) := fun q => (X2.trans q.h).keep c7
 have k8 : ∀ q : InC (fun c => Ext z2 c), q.w.cell? ⟨rb, 8, none⟩ = some (.slice g8 OL h8) := fun q => (X2.trans q.h).keep c8
 refine wpTreeR_one rfl rfl (fun K hK => ?_)
 go_wp2_with fail
 refine (sameInts4_t _ _ KN z2 (i1.out.ext hz2) i2.out).mono ?_; rintro e z3 ⟨rfl, hz3⟩
 have X3 := X2.trans hz3
 go_wp2_with fail
 refine ⟨.inr hz3, ?_⟩
 clear k2 k3 k4 k6 k7 k8
 have k2 : ∀ q : InC (fun c => Ext z3 c), q.w.cell? ⟨rb, 2, none⟩ = some (.slice g2 GR.length h2) := fun q => (X3.trans q.h).keep c2
 have k3 : ∀ q : InC (fun c => Ext z3 c), q.w.cell? ⟨rb, 3, none⟩ = some (.bool HAS) := fun q => (X3.trans q.h).keep c3
 have k4 : ∀ q : InC (fun c => Ext z3 c), q.w.cell? ⟨rb, 4, none⟩ = some (.slice g4 BA.length h4) := fun q => (X3.trans q.h).keep c4
 have k6 : ∀ q : InC (fun c => Ext z3 c), q.w.cell? ⟨rb, 6, none⟩ = some (.slice g6 SL.length h6) := fun q => (X3.trans q.h).keep c6
 have k7 : ∀ q : InC (fun c => Ext z3 c), q.w.cell? ⟨rb, 7, none⟩ = some (.slice g7 FO.length h7) := fun q => (X3.trans q.h).keep c7
 have k8 : ∀ q : InC (fun c => Ext z3 c), q.w.cell? ⟨rb, 8, none⟩ = some (.slice g8 OL h8) := fun q => (X3.trans q.h).keep c8
 iterate 6 (refine wpTreeR_look rfl (fun K hK => ?_); go_simp; first | (refine hK _ ?_; clear hK K) | (refine ⟨_, fun _ => rfl, hK _ ?_⟩; clear hK K))
 refine wpTreeR_one rfl rfl (fun K hK => ?_)
 go_wp2_with fail
 refine (HG1.out z3 X3).mono ?_; rintro e z4 ⟨u4, rfl, o4, hz4⟩
 obtain ⟨p4, q4, hv4, _⟩ := o4.ints.open_
 subst hv4
 have i4 := Lib.hid o4.ints
 clear o4
 have X4 := X3.trans hz4
 go_wp2_with fail
 refine ⟨.inr hz4, ?_⟩
 clear k2 k3 k4 k6 k7 k8
 have k2 : ∀ q : InC (fun c => Ext z4 c), q.w.cell? ⟨rb, 2, none⟩ = some (.slice g2 GR.length h2) := fun q => (X4.trans q.h).keep c2
 have k3 : ∀ q : InC (fun c => Ext z4 c), q.w.cell? ⟨rb, 3, none⟩ = some (.bool HAS) := fun q => (X4.trans q.h).keep c3
 have k4 : ∀ q : InC (fun c => Ext z4 c), q.w.cell? ⟨rb, 4, none⟩ = some (.slice g4 BA.length h4) := fun q => (X4.trans q.h).keep c4
 have k6 : ∀ q : InC (fun c => Ext z4 c), q.w.cell? ⟨rb, 6, none⟩ = some (.slice g6 SL.length h6) := fun q => (X4.trans q.h).keep c6
 have k7 : ∀ q : InC (fun c => Ext z4 c), q.w.cell? ⟨rb, 7, none⟩ = some (.slice g7 FO.length h7) := fun q => (X4.trans q.h).keep c7
 have k8 : ∀ q : InC (fun c => Ext z4 c), q.w.cell? ⟨rb, 8, none⟩ = some (.slice g8 OL h8) := fun q => (X4.trans q.h).keep c8
 refine wpTreeR_one rfl rfl (fun K hK => ?_)
 go_wp2_with fail
 refine (sameInts4_t _ _ GR z4 i4.out (ig.out.ext X4)).mono ?_; rintro e z5 ⟨rfl, hz5⟩
 have X5 := X4.trans hz5
 go_wp2_with fail
 refine ⟨.inr hz5, ?_⟩
 clear k2 k3 k4 k6 k7 k8
 have k2 : ∀ q : InC (fun c => Ext z5 c), q.w.cell? ⟨rb, 2, none⟩ = some (.slice g2 GR.length h2) := fun q => (X5.trans q.h).keep c2
 have k3 : ∀ q : InC (fun c => Ext z5 c), q.w.cell? ⟨rb, 3, none⟩ = some (.bool HAS) := fun q => (X5.trans q.h).keep c3
 have k4 : ∀ q : InC (fun c => Ext z5 c), q.w.cell? ⟨rb, 4, none⟩ = some (.slice g4 BA.length h4) := fun q => (X5.trans q.h).keep c4
 have k6 : ∀ q : InC (fun c => Ext z5 c), q.w.cell? ⟨rb, 6, none⟩ = some (.slice g6 SL.length h6) := fun q => (X5.trans q.h).keep c6
 have k7 : ∀ q : InC (fun c => Ext z5 c), q.w.cell? ⟨rb, 7, none⟩ = some (.slice g7 FO.length h7) := fun q => (X5.trans q.h).keep c7
 have k8 : ∀ q : InC (fun c => Ext z5 c), q.w.cell? ⟨rb, 8, none⟩ = some (.slice g8 OL h8) := fun q => (X5.trans q.h).keep c8
 iterate 23 (refine wpTreeR_look rfl (fun K hK => ?_); go_simp; first | (refine hK _ ?_; clear hK K) | (refine ⟨_, fun _ => rfl, hK _ ?_⟩; clear hK K))
 refine wpTreeR_one rfl rfl (fun K hK => ?_)
 go_wp2_with fail
 refine (sameInts4_t _ _ BA z5 (((((iB.out.ext hz1).ext hz2).ext hz3).ext hz4).ext hz5) (ib.out.ext X5)).mono ?_; rintro e z6 ⟨rfl, hz6⟩
 have X6 := X5.trans hz6
 go_wp2_with fail
 refine ⟨.inr hz6, ?_⟩
 clear k2 k3 k4 k6 k7 k8
 have k2 : ∀ q : InC (fun c => Ext z6 c), q.w.cell? ⟨rb, 2, none⟩ = some (.slice g2 GR.length h2) := fun q => (X6.trans q.h).keep c2
 have k3 : ∀ q : InC (fun c => Ext z6 c), q.w.cell? ⟨rb, 3, none⟩ = some (.bool HAS) := fun q => (X6.trans q.h).keep c3
 have k4 : ∀ q : InC (fun c => Ext z6 c), q.w.cell? ⟨rb, 4, none⟩ = some (.slice g4 BA.length h4) := fun q => (X6.trans q.h).keep c4
 have k6 : ∀ q : InC (fun c => Ext z6 c), q.w.cell? ⟨rb, 6, none⟩ = some (.slice g6 SL.length h6) := fun q => (X6.trans q.h).keep c6
 have k7 : ∀ q : InC (fun c => Ext z6 c), q.w.cell? ⟨rb, 7, none⟩ = some (.slice g7 FO.length h7) := fun q => (X6.trans q.h).keep c7
 have k8 : ∀ q : InC (fun c => Ext z6 c), q.w.cell? ⟨rb, 8, none⟩ = some (.slice g8 OL h8) := fun q => (X6.trans q.h).keep c8
 iterate 4 (refine wpTreeR_look rfl (fun K hK => ?_); go_simp; first | (refine hK _ ?_; clear hK K) | (refine ⟨_, fun _ => rfl, hK _ ?_⟩; clear hK K))
 refine wpTreeR_one rfl rfl (fun K hK => ?_)
 go_wp2_with fail
 refine (HW2.out z6 X6).mono ?_; rintro e z7 ⟨rfl, hz7⟩
 have X7 := X6.trans hz7
 go_wp2_with fail
 refine ⟨.inr hz7, ?_⟩
 clear k2 k3 k4 k6 k7 k8
 have k2 : ∀ q : InC (fun c => Ext z7 c), q.w.cell? ⟨rb, 2, none⟩ = some (.slice g2 GR.length h2) := fun q => (X7.trans q.h).keep c2
 have k3 : ∀ q : InC (fun c => Ext z7 c), q.w.cell? ⟨rb, 3, none⟩ = some (.bool HAS) := fun q => (X7.trans q.h).keep c3
 have k4 : ∀ q : InC (fun c => Ext z7 c), q.w.cell? ⟨rb, 4, none⟩ = some (.slice g4 BA.length h4) := fun q => (X7.trans q.h).keep c4
 have k6 : ∀ q : InC (fun c => Ext z7 c), q.w.cell? ⟨rb, 6, none⟩ = some (.slice g6 SL.length h6) := fun q => (X7.trans q.h).keep c6
 have k7 : ∀ q : InC (fun c => Ext z7 c), q.w.cell? ⟨rb, 7, none⟩ = some (.slice g7 FO.length h7) := fun q => (X7.trans q.h).keep c7
 have k8 : ∀ q : InC (fun c => Ext z7 c), q.w.cell? ⟨rb, 8, none⟩ = some (.slice g8 OL h8) := fun q => (X7.trans q.h).keep c8
 refine wpTreeR_one rfl rfl (fun K hK => ?_)
 go_wp2_with fail
 refine (sameInts4_t _ _ LW z7 (((((((iW.out.ext hz1).ext hz2).ext hz3).ext hz4).ext hz5).ext hz6).ext hz7) (iu.out.ext X7)).mono ?_; rintro e z8 ⟨rfl, hz8⟩
 have X8 := X7.trans hz8
 go_wp2_with fail
 refine ⟨.inr hz8, ?_⟩
 clear k2 k3 k4 k6 k7 k8
 have k2 : ∀ q : InC (fun c => Ext z8 c), q.w.cell? ⟨rb, 2, none⟩ = some (.slice g2 GR.length h2) := fun q => (X8.trans q.h).keep c2
 have k3 : ∀ q : InC (fun c => Ext z8 c), q.w.cell? ⟨rb, 3, none⟩ = some (.bool HAS) := fun q => (X8.trans q.h).keep c3
 have k4 : ∀ q : InC (fun c => Ext z8 c), q.w.cell? ⟨rb, 4, none⟩ = some (.slice g4 BA.length h4) := fun q => (X8.trans q.h).keep c4
 have k6 : ∀ q : InC (fun c => Ext z8 c), q.w.cell? ⟨rb, 6, none⟩ = some (.slice g6 SL.length h6) := fun q => (X8.trans q.h).keep c6
 have k7 : ∀ q : InC (fun c => Ext z8 c), q.w.cell? ⟨rb, 7, none⟩ = some (.slice g7 FO.length h7) := fun q => (X8.trans q.h).keep c7
 have k8 : ∀ q : InC (fun c => Ext z8 c), q.w.cell? ⟨rb, 8, none⟩ = some (.slice g8 OL h8) := fun q => (X8.trans q.h).keep c8
 iterate 7 (refine wpTreeR_look rfl (fun K hK => ?_); go_simp; first | (refine hK _ ?_; clear hK K) | (refine ⟨_, fun _ => rfl, hK _ ?_⟩; clear hK K))
 refine wpTreeR_one rfl rfl (fun K hK => ?_)
 go_wp2_with fail
 refine (HS1.out z8 X8).mono ?_; rintro e z9 ⟨u9, rfl, o9, hz9⟩
 have i9 := Lib.hid (Cel.own encCh_len o9)
 obtain ⟨p9, q9, hv9, _⟩ := i9.out.open_
 subst hv9
 clear o9
 have X9 := X8.trans hz9
 go_wp2_with fail
 refine ⟨.inr hz9, ?_⟩
 clear k2 k3 k4 k6 k7 k8
 have k2 : ∀ q : InC (fun c => Ext z9 c), q.w.cell? ⟨rb, 2, none⟩ = some (.slice g2 GR.length h2) := fun q => (X9.trans q.h).keep c2
 have k3 : ∀ q : InC (fun c => Ext z9 c), q.w.cell? ⟨rb, 3, none⟩ = some (.bool HAS) := fun q => (X9.trans q.h).keep c3
 have k4 : ∀ q : InC (fun c => Ext z9 c), q.w.cell? ⟨rb, 4, none⟩ = some (.slice g4 BA.length h4) := fun q => (X9.trans q.h).keep c4
 have k6 : ∀ q : InC (fun c => Ext z9 c), q.w.cell? ⟨rb, 6, none⟩ = some (.slice g6 SL.length h6) := fun q => (X9.trans q.h).keep c6
 have k7 : ∀ q : InC (fun c => Ext z9 c), q.w.cell? ⟨rb, 7, none⟩ = some (.slice g7 FO.length h7) := fun q => (X9.trans q.h).keep c7
 have k8 : ∀ q : InC (fun c => Ext z9 c), q.w.cell? ⟨rb, 8, none⟩ = some (.slice g8 OL h8) := fun q => (X9.trans q.h).keep c8
 refine wpTreeR_one rfl rfl (fun K hK => ?_)
 go_wp2_with fail
 refine (sameChs4_t _ _ SL z9 i9.out (is_.out.ext X9)).mono ?_; rintro e z10 ⟨rfl, hz10⟩
 have X10 := X9.trans hz10
 go_wp2_with fail
 refine ⟨.inr hz10, ?_⟩
 clear k2 k3 k4 k6 k7 k8
 have k2 : ∀ q : InC (fun c => Ext z10 c), q.w.cell? ⟨rb, 2, none⟩ = some (.slice g2 GR.length h2) := fun q => (X10.trans q.h).keep c2
 have k3 : ∀ q : InC (fun c => Ext z10 c), q.w.cell? ⟨rb, 3, none⟩ = some (.bool HAS) := fun q => (X10.trans q.h).keep c3
 have k4 : ∀ q : InC (fun c => Ext z10 c), q.w.cell? ⟨rb, 4, none⟩ = some (.slice g4 BA.length h4) := fun q => (X10.trans q.h).keep c4
 have k6 : ∀ q : InC (fun c => Ext z10 c), q.w.cell? ⟨rb, 6, none⟩ = some (.slice g6 SL.length h6) := fun q => (X10.trans q.h).keep c6
 have k7 : ∀ q : InC (fun c => Ext z10 c), q.w.cell? ⟨rb, 7, none⟩ = some (.slice g7 FO.length h7) := fun q => (X10.trans q.h).keep c7
 have k8 : ∀ q : InC (fun c => Ext z10 c), q.w.cell? ⟨rb, 8, none⟩ = some (.slice g8 OL h8) := fun q => (X10.trans q.h).keep c8
 iterate 7 (refine wpTreeR_look rfl (fun K hK => ?_); go_simp; first | (refine hK _ ?_; clear hK K) | (refine ⟨_, fun _ => rfl, hK _ ?_⟩; clear hK K))
 refine wpTreeR_one rfl rfl (fun K hK => ?_)
 go_wp2_with fail
 refine (HF1.out z10 X10).mono ?_; rintro e z11 ⟨u11, rfl, o11, hz11⟩
 have i11 := Lib.hid o11.rows
 obtain ⟨p11, q11, hv11, _⟩ := Rows.open_ i11.out
 subst hv11
 clear o11
 have X11 := X10.trans hz11
 go_wp2_with fail
 refine ⟨.inr hz11, ?_⟩
 clear k2 k3 k4 k6 k7 k8
 have k2 : ∀ q : InC (fun c => Ext z11 c), q.w.cell? ⟨rb, 2, none⟩ = some (.slice g2 GR.length h2) := fun q => (X11.trans q.h).keep c2
 have k3 : ∀ q : InC (fun c => Ext z11 c), q.w.cell? ⟨rb, 3, none⟩ = some (.bool HAS) := fun q => (X11.trans q.h).keep c3
 have k4 : ∀ q : InC (fun c => Ext z11 c), q.w.cell? ⟨rb, 4, none⟩ = some (.slice g4 BA.length h4) := fun q => (X11.trans q.h).keep c4
 have k6 : ∀ q : InC (fun c => Ext z11 c), q.w.cell? ⟨rb, 6, none⟩ = some (.slice g6 SL.length h6) := fun q => (X11.trans q.h).keep c6
 have k7 : ∀ q : InC (fun c => Ext z11 c), q.w.cell? ⟨rb, 7, none⟩ = some (.slice g7 FO.length h7) := fun q => (X11.trans q.h).keep c7
 have k8 : ∀ q : InC (fun c => Ext z11 c), q.w.cell? ⟨rb, 8, none⟩ = some (.slice g8 OL h8) := fun q => (X11.trans q.h).keep c8
 refine wpTreeR_one rfl rfl (fun K hK => ?_)
 go_wp2_with fail
 refine (sameWords4_t _ _ FO z11 i11.out (if_.out.ext X11)).mono ?_; rintro e z12 ⟨rfl, hz12⟩
 have X12 := X11.trans hz12
 go_wp2_with fail
 refine ⟨.inr hz12, ?_⟩
 clear k2 k3 k4 k6 k7 k8
 have k2 : ∀ q : InC (fun c => Ext z12 c), q.w.cell? ⟨rb, 2, none⟩ = some (.slice g2 GR.length h2) := fun q => (X12.trans q.h).keep c2
 have k3 : ∀ q : InC (fun c => Ext z12 c), q.w.cell? ⟨rb, 3, none⟩ = some (.bool HAS) := fun q => (X12.trans q.h).keep c3
 have k4 : ∀ q : InC (fun c => Ext z12 c), q.w.cell? ⟨rb, 4, none⟩ = some (.slice g4 BA.length h4) := fun q => (X12.trans q.h).keep c4
 have k6 : ∀ q : InC (fun c => Ext z12 c), q.w.cell? ⟨rb, 6, none⟩ = some (.slice g6 SL.length h6) := fun q => (X12.trans q.h).keep c6
 have k7 : ∀ q : InC (fun c => Ext z12 c), q.w.cell? ⟨rb, 7, none⟩ = some (.slice g7 FO.length h7) := fun q => (X12.trans q.h).keep c7
 have k8 : ∀ q : InC (fun c => Ext z12 c), q.w.cell? ⟨rb, 8, none⟩ = some (.slice g8 OL h8) := fun q => (X12.trans q.h).keep c8
 iterate 4 (refine wpTreeR_look rfl (fun K hK => ?_); go_simp; first | (refine hK _ ?_; clear hK K) | (refine ⟨_, fun _ => rfl, hK _ ?_⟩; clear hK K))
 refine wpTreeR_one rfl rfl (fun K hK => ?_)
 go_wp2_with fail
 refine (HE1.out z12 X12).mono ?_; rintro e z13 ⟨rfl, hz13⟩
 have X13 := X12.trans hz13
 go_wp2_with fail
 refine ⟨.inr hz13, ?_⟩
 clear k2 k3 k4 k6 k7 k8
 have k2 : ∀ q : InC (fun c => Ext z13 c), q.w.cell? ⟨rb, 2, none⟩ = some (.slice g2 GR.length h2) := fun q => (X13.trans q.h).keep c2
 have k3 : ∀ q : InC (fun c => Ext z13 c), q.w.cell? ⟨rb, 3, none⟩ = some (.bool HAS) := fun q => (X13.trans q.h).keep c3
 have k4 : ∀ q : InC (fun c => Ext z13 c), q.w.cell? ⟨rb, 4, none⟩ = some (.slice g4 BA.length h4) := fun q => (X13.trans q.h).keep c4
 have k6 : ∀ q : InC (fun c => Ext z13 c), q.w.cell? ⟨rb, 6, none⟩ = some (.slice g6 SL.length h6) := fun q => (X13.trans q.h).keep c6
 have k7 : ∀ q : InC (fun c => Ext z13 c), q.w.cell? ⟨rb, 7, none⟩ = some (.slice g7 FO.length h7) := fun q => (X13.trans q.h).keep c7
 have k8 : ∀ q : InC (fun c => Ext z13 c), q.w.cell? ⟨rb, 8, none⟩ = some (.slice g8 OL h8) := fun q => (X13.trans q.h).keep c8
 refine wpTreeR_one rfl rfl (fun K hK => ?_)
 go_wp2_with fail
 refine (HE2.out z13 X13).mono ?_; rintro e z14 ⟨rfl, hz14⟩
 have X14 := X13.trans hz14
 go_wp2_with fail
 refine ⟨.inr hz14, ?_⟩
 clear k2 k3 k4 k6 k7 k8
 have k2 : ∀ q : InC (fun c => Ext z14 c), q.w.cell? ⟨rb, 2, none⟩ = some (.slice g2 GR.length h2) := fun q => (X14.trans q.h).keep c2
 have k3 : ∀ q : InC (fun c => Ext z14 c), q.w.cell? ⟨rb, 3, none⟩ = some (.bool HAS) := fun q => (X14.trans q.h).keep c3
 have k4 : ∀ q : InC (fun c => Ext z14 c), q.w.cell? ⟨rb, 4, none⟩ = some (.slice g4 BA.length h4) := fun q => (X14.trans q.h).keep c4
 have k6 : ∀ q : InC (fun c => Ext z14 c), q.w.cell? ⟨rb, 6, none⟩ = some (.slice g6 SL.length h6) := fun q => (X14.trans q.h).keep c6
 have k7 : ∀ q : InC (fun c => Ext z14 c), q.w.cell? ⟨rb, 7, none⟩ = some (.slice g7 FO.length h7) := fun q => (X14.trans q.h).keep c7
 have k8 : ∀ q : InC (fun c => Ext z14 c), q.w.cell? ⟨rb, 8, none⟩ = some (.slice g8 OL h8) := fun q => (X14.trans q.h).keep c8
 iterate 8 (refine wpTreeR_look rfl (fun K hK => ?_); go_simp; first | (refine hK _ ?_; clear hK K) | (refine ⟨_, fun _ => rfl, hK _ ?_⟩; clear hK K))
 refine wpTreeR_one rfl rfl (fun K hK => ?_)
 go_wp2_with fail
 refine (HO1.out z14 X14).mono ?_; rintro e z15 ⟨rfl, hz15⟩
 have X15 := X14.trans hz15
 go_wp2_with fail
 refine ⟨.inr hz15, ?_⟩
 clear k2 k3 k4 k6 k7 k8
 have k2 : ∀ q : InC (fun c => Ext z15 c), q.w.cell? ⟨rb, 2, none⟩ = some (.slice g2 GR.length h2) := fun q => (X15.trans q.h).keep c2
 have k3 : ∀ q : InC (fun c => Ext z15 c), q.w.cell? ⟨rb, 3, none⟩ = some (.bool HAS) := fun q => (X15.trans q.h).keep c3
 have k4 : ∀ q : InC (fun c => Ext z15 c), q.w.cell? ⟨rb, 4, none⟩ = some (.slice g4 BA.length h4) := fun q => (X15.trans q.h).keep c4
 have k6 : ∀ q : InC (fun c => Ext z15 c), q.w.cell? ⟨rb, 6, none⟩ = some (.slice g6 SL.length h6) := fun q => (X15.trans q.h).keep c6
 have k7 : ∀ q : InC (fun c => Ext z15 c), q.w.cell? ⟨rb, 7, none⟩ = some (.slice g7 FO.length h7) := fun q => (X15.trans q.h).keep c7
 have k8 : ∀ q : InC (fun c => Ext z15 c), q.w.cell? ⟨rb, 8, none⟩ = some (.slice g8 OL h8) := fun q => (X15.trans q.h).keep c8
 refine wpTreeR_one rfl rfl (fun K hK => ?_)
 go_wp2_with fail
 refine (HO2.out z15 X15).mono ?_; rintro e z16 ⟨rfl, hz16⟩
 have X16 := X15.trans hz16
 go_wp2_with fail
 refine ⟨.inr hz16, ?_⟩
 clear k2 k3 k4 k6 k7 k8
 have k2 : ∀ q : InC (fun c => Ext z16 c), q.w.cell? ⟨rb, 2, none⟩ = some (.slice g2 GR.length h2) := fun q => (X16.trans q.h).keep c2
 have k3 : ∀ q : InC (fun c => Ext z16 c), q.w.cell? ⟨rb, 3, none⟩ = some (.bool HAS) := fun q => (X16.trans q.h).keep c3
 have k4 : ∀ q : InC (fun c => Ext z16 c), q.w.cell? ⟨rb, 4, none⟩ = some (.slice g4 BA.length h4) := fun q => (X16.trans q.h).keep c4
 have k6 : ∀ q : InC (fun c => Ext z16 c), q.w.cell? ⟨rb, 6, none⟩ = some (.slice g6 SL.length h6) := fun q => (X16.trans q.h).keep c6
 have k7 : ∀ q : InC (fun c => Ext z16 c), q.w.cell? ⟨rb, 7, none⟩ = some (.slice g7 FO.length h7) := fun q => (X16.trans q.h).keep c7
 have k8 : ∀ q : InC (fun c => Ext z16 c), q.w.cell? ⟨rb, 8, none⟩ = some (.slice g8 OL h8) := fun q => (X16.trans q.h).keep c8
 iterate 3 (refine wpTreeR_look rfl (fun K hK => ?_); go_simp; first | (refine hK _ ?_; clear hK K) | (refine ⟨_, fun _ => rfl, hK _ ?_⟩; clear hK K))
 refine wpTreeR_done ?_
 go_wp2_with fail
 go_ret
 exact ⟨rfl, X16⟩
end Go.Proofs.YtpmlcfgbfhgpgaaGreatDoor
/- A new school of the reference, as its parts. -/
namespace Go.Proofs.YtpmlcfgbfhgpgaaGreatDoor
open Go.RowKit Go.Shelf
set_option linter.unusedVariables false
def two9 (gh gq : Nat) (k : Nat) : Bool := k == gh || k == gq
def svN (gq n : Nat) : SV := ⟨.slice (some ⟨gq, 0, none⟩) n n, .slice none 0 0, .slice none 0 0, .slice none 0 0, .slice none 0 0, .slice none 0 0, .slice none 0 0⟩
theorem WRow.nil (R : Nat → Bool) (b : Nat) (w : World) : WRow R b w (.slice none 0 0) [] := ⟨⟨[], GRow.nil _ _ _ _, AllInts.nil _⟩, fun r hr => by cases hr⟩
theorem ints_none (w : World) : Ints w (.slice none 0 0) [] := ⟨none, 0, rfl, Nat.le_refl _, by unfold maxLen; omega, fun i hi => by simp at hi⟩
theorem refR_new {S : Nat → Bool} {b gh gq : Nat} {u : Value} {s : List Rul} {w : World} (h : NewR S gh gq u s w) (hb : b ≠ gh) (hb2 : b ≠ gq) (hS : S = more (more (more (fun _ => false) b) gh) gq) : RefR (two9 gh gq) b gh u (svN gq s.length) st0 s w where
 hb := h.hh
 Rrb := by simp [two9]
 Rb := by simp [two9]; exact ⟨hb, hb2⟩
 Rl := fun k hk => by
  simp only [two9, Bool.or_eq_true, beq_iff_eq] at hk
  rcases hk with rfl | rfl
  ·exact h.hh.lt
  ·exact h.hq.lt
 hr := by
  have e : more (two9 gh gq) b = S := by
   rw [hS]; funext k
   unfold more two9
   cases k == b <;> cases k == gh <;> cases k == gq <;> rfl
  rw [e]; exact h.hr
 kn := ⟨gq, rfl, by simp [two9], by
  have := h.hq
  rw [show st0.kn = [] from rfl, knowsL_nil, List.map_replicate]
  exact this⟩
 gr := ints_none _
 base := ints_none _
 words := WRow.nil _ _ _
 forms := WRow.nil _ _ _
 slate := GRow.nil _ _ _ _
 slateR := fun r hr => by cases hr
 orders := GRow.nil _ _ _ _
 ordersR := fun r hr => by cases hr
 apart := fun r hr => by cases hr
end Go.Proofs.YtpmlcfgbfhgpgaaGreatDoor
