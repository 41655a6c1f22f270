/- Rows of one's own from which the head was taken (queue = queue[1:]): append, what lies in them. Over any program. -/
import Derived.Test.YtgpggmcjggpmpaaOwn
import Derived.Test.YtgpggmcjggpmpaaWr
namespace Go.Proofs.Ytgpggmcjggpmpaa
open Go.RowKit
set_option linter.unusedVariables false

/-- v is a slice of n elements in a block of one's own, anywhere in it; nothing lies behind its room -/
def OTail (w : World) (B : Nat) (e : TypeId) (size : Nat) (v : Value) (n : Nat) (xs : List Value) : Prop :=
  xs.length = n * size ∧ ((v = .slice none 0 0 ∧ n = 0) ∨
    ∃ g o cap cur, v = .slice (some ⟨g, o, none⟩) n cap ∧ B ≤ g ∧ w.heap[g]? = some (.cells cur e (0, 0)) ∧ n ≤ cap ∧ cap ≤ maxLen ∧ o + cap * size ≤ cur.size ∧ (cur.toList.drop o).take (n * size) = xs)
theorem OTail.nil (w : World) (B : Nat) (e : TypeId) (size : Nat) : OTail w B e size (.slice none 0 0) 0 [] := ⟨by simp, .inl ⟨rfl, rfl⟩⟩
theorem OTail.of_row {w : World} {B : Nat} {e : TypeId} {size n : Nat} {v : Value} {xs : List Value} (h : w.ownsRow B e size v n xs) : OTail w B e size v n xs := by
  refine ⟨h.1, ?_⟩
  rcases h.2 with h | ⟨g, cap, cur, rfl, hb, hg, hn, hm, hs, ht⟩
  · exact .inl h
  · exact .inr ⟨g, 0, cap, cur, rfl, hb, hg, hn, hm, by omega, by simpa using ht⟩
theorem OTail.kept {w w' : World} {B : Nat} {e : TypeId} {size n : Nat} {v : Value} {xs : List Value} {row : Option Nat} (h : OTail w B e size v n xs) (hg : w.grownBy w' row) (hr : ∀ r, row = some r → v.ownBlock ≠ some r) : OTail w' B e size v n xs := by
  refine ⟨h.1, ?_⟩
  rcases h.2 with h | ⟨g, o, cap, cur, rfl, hb, hgb, hrest⟩
  · exact .inl h
  · exact .inr ⟨g, o, cap, cur, rfl, hb, (hg.block g (Array.getElem?_eq_some_iff.1 hgb).1 (fun e => hr g e.symm rfl)).trans hgb, hrest⟩
theorem OTail.ext {w w' : World} {B : Nat} {e : TypeId} {size n : Nat} {v : Value} {xs : List Value} (h : OTail w B e size v n xs) (hx : Ext w w') : OTail w' B e size v n xs :=
  h.kept (grownBy_of_ext hx none) (fun r e => by cases e)
theorem OTail.blk {w : World} {B : Nat} {e : TypeId} {size n : Nat} {v : Value} {xs : List Value} (h : OTail w B e size v n xs) : ∀ r, v.ownBlock = some r → B ≤ r ∧ ∃ cur, w.heap[r]? = some (.cells cur e (0, 0)) := by
  intro r hr
  rcases h.2 with ⟨rfl, _⟩ | ⟨g, o, cap, cur, rfl, hb, hgb, _⟩
  · cases hr
  · simp only [Value.ownBlock, Option.some.injEq] at hr
    subst hr; exact ⟨hb, cur, hgb⟩
theorem OTail.open_ {w : World} {B : Nat} {e : TypeId} {size n : Nat} {v : Value} {xs : List Value} (h : OTail w B e size v n xs) (hn : 0 < n) :
    ∃ g o cap, v = .slice (some ⟨g, o, none⟩) n cap ∧ n ≤ cap ∧ cap ≤ 9223372036854775807 ∧ B ≤ g ∧ Hid (∀ j u, xs[j]? = some u → w.cell? ⟨g, o + j, none⟩ = some u) := by
  rcases h.2 with ⟨_, h0⟩ | ⟨g, o, cap, cur, rfl, hb, hgb, hnc, hm, hs, ht⟩
  · omega
  · refine ⟨g, o, cap, rfl, hnc, hm, hb, Lib.hid fun j u hu => ?_⟩
    rw [← ht] at hu
    have hj : j < n * size := by
      rcases Nat.lt_or_ge j (n * size) with hj | hj
      · exact hj
      · rw [List.getElem?_take, if_neg (by omega)] at hu; cases hu
    rw [List.getElem?_take, if_pos hj, List.getElem?_drop, Array.getElem?_toList] at hu
    unfold World.cell?
    simp [hgb, hu]
theorem OTail.drop1 {w : World} {B : Nat} {e : TypeId} {size n g o cap : Nat} {xs : List Value} (h : OTail w B e size (.slice (some ⟨g, o, none⟩) n cap) n xs) (hn : 0 < n) {A : Option Addr} (hA : (if cap = 1 then (some ⟨g, o, none⟩ : Option Addr) else some ⟨g, o + size, none⟩) = A) :
    OTail w B e size (.slice A (n - 1) (cap - 1)) (n - 1) (xs.drop size) := by
  have hmul : n * size = (n - 1) * size + size := by
    obtain ⟨m, rfl⟩ : ∃ m, n = m + 1 := ⟨n - 1, by omega⟩
    rw [Nat.add_sub_cancel, Nat.add_mul, Nat.one_mul]
  refine ⟨by rw [List.length_drop, h.1]; omega, ?_⟩
  rcases h.2 with ⟨_, h0⟩ | ⟨g', o', cap', cur, hv, hb, hgb, hnc, hm, hs, ht⟩
  · omega
  · injection hv with ha _ hc
    injection ha with ha; injection ha with h1 h2 _
    subst h1 h2 hc
    by_cases h1 : cap = 1
    · rw [if_pos h1] at hA
      subst hA h1
      have hn1 : n = 1 := by omega
      subst hn1
      refine .inr ⟨g, o, 0, cur, rfl, hb, hgb, by omega, by unfold maxLen; omega, by omega, ?_⟩
      rw [← ht]; simp
    · rw [if_neg h1] at hA
      subst hA
      refine .inr ⟨g, o + size, cap - 1, cur, rfl, hb, hgb, by omega, by omega, ?_, ?_⟩
      · obtain ⟨m, rfl⟩ : ∃ m, cap = m + 1 := ⟨cap - 1, by omega⟩
        rw [Nat.add_sub_cancel]; rw [Nat.add_mul] at hs; omega
      · rw [← ht, hmul, List.drop_take, Nat.add_sub_cancel, List.drop_drop]

theorem run_append_tail {P : Program} (w : World) (B : Nat) {t e : TypeId} (ty : TypeId) {size bytes : Nat} {z : Value} (hT : ElTy P t e size bytes z)
    (v : Value) (n : Nat) (xs : List Value) (hown : OTail w B e size v n xs) (ad : Addr) (news : List Value) (hl : news.length = size) (hnews : ∀ j u, news[j]? = some u → w.cell? (ad.add j) = some u) (h1 : ∀ u ∈ news, u.oneCell' = true)
    (hlen : (n + 1) * bytes ≤ 140737488355328) (hn : n + 1 ≤ 1000000000) (hB : B ≤ w.heap.size) :
    ∃ v' w', (Builtin.append_ #[t, t] ty #[v, .slice (some ad) 1 1]).run P w = .ok v' w' ∧ OTail w' B e size v' (n + 1) (xs ++ news) ∧ w.grownBy w' v.ownBlock ∧ (v'.ownBlock = v.ownBlock ∨ v'.ownBlock = some w.heap.size) := by
  obtain ⟨i, hi, hz0, hz1, hz2⟩ := info_parts hT.info
  have hl1 : news.length = 1 * size := by omega
  rcases hown.2 with ⟨rfl, rfl⟩ | ⟨g, o, cap, cur, rfl, hb, hgb, hnc, hm, hs, ht⟩
  · have hx : xs = [] := List.eq_nil_of_length_eq_zero (by simpa using hown.1)
    subst hx
    obtain ⟨v', w', hrun, h2, h3, _, h5⟩ := run_append_own_at (P := P) w B t ty e i z size bytes hT.ht hi hz0 hz1 hz2 hT.zc hT.pos _ 0 [] (World.ownsRow_nil _ _ _ _) ad 1 1 news hl1 hnews h1 (by unfold maxLen; omega) hlen hB
    exact ⟨v', w', hrun, OTail.of_row h2, h3, h5⟩
  · subst hz1
    have hxl : xs.length = n * i.size := hown.1
    have hcl : (xs ++ news).length = (n + 1) * i.size := by rw [List.length_append, hown.1, hl, Nat.add_mul, Nat.one_mul]
    by_cases hroom : n + 1 ≤ cap
    · have hmul : n * i.size + i.size ≤ cap * i.size := by
        have := Nat.mul_le_mul_right i.size hroom
        rw [Nat.add_mul, Nat.one_mul] at this; exact this
      have hf := run_firstCells_some (P := P) w i.size 1 ad 1 1 news hl1 hnews
      have hst := run_storeCells_at P g (o + n * i.size) e news 0 cur w hgb (by omega) h1
      simp only [Nat.add_zero] at hst
      have hadd : (⟨g, o, none⟩ : Addr).add (n * i.size) = ⟨g, o + n * i.size, none⟩ := addr_add g o _
      refine ⟨.slice (some ⟨g, o, none⟩) (n + 1) cap, w.setRow g (cur.toList.take (o + n * i.size) ++ news ++ cur.toList.drop (o + n * i.size + news.length)).toArray, ?_, ⟨hcl, .inr ⟨g, o, cap, _, rfl, hb, setRow_heap w g cur _ e _ hgb, hroom, hm, ?_, ?_⟩⟩, ⟨rfl, rfl, rfl, by simp, fun k _ hk => setRow_other w g k _ (fun e => hk (by simp [Value.ownBlock, e]))⟩, .inl rfl⟩
      · simp [Builtin.append_, run_underlying hT.ht, sizeOf, typeInfo, hi, Builtin.lenOf, hroom, hf, hadd, hst]
      · simp only [List.size_toArray, List.length_append, List.length_take, List.length_drop, Array.length_toList]; omega
      · have h5 : (cur.toList.take (o + n * i.size)).drop o = xs := by rw [List.drop_take, show o + n * i.size - o = n * i.size by omega, ht]
        have h6 : (cur.toList.take (o + n * i.size)).length = o + n * i.size := by rw [List.length_take, Array.length_toList]; omega
        show ((cur.toList.take (o + n * i.size) ++ news ++ cur.toList.drop (o + n * i.size + news.length)).drop o).take ((n + 1) * i.size) = xs ++ news
        rw [List.append_assoc, List.drop_append_of_le_length (by omega), h5, ← List.append_assoc, ← hcl]
        exact List.take_left
    · have holds : ∀ j u, xs[j]? = some u → w.cell? ((⟨g, o, none⟩ : Addr).add j) = some u := by
        rcases Nat.eq_zero_or_pos n with h0 | h0
        · subst h0
          have hx : xs = [] := List.eq_nil_of_length_eq_zero (by omega)
          subst hx; intro j u hu; simp at hu
        · obtain ⟨g', o', cap', hv, _, _, _, HC⟩ := hown.open_ h0
          injection hv with ha _ _
          injection ha with ha; injection ha with h1 h2 _
          subst h1 h2
          intro j u hu; rw [addr_add]; exact HC.out j u hu
      have hr := run_append_grow (P := P) w t ty e i z hT.ht hi hz0 ⟨g, o, none⟩ n cap xs hxl holds ad 1 1 news hl1 hnews (by omega) (by omega) (growslice_fits (by omega) (by rw [hz2]; exact hlen))
      refine ⟨_, _, hr, ⟨hcl, .inr ⟨w.heap.size, 0, _, _, rfl, hB, heap_alloc_new w.drew _, grownCap_ge _ _ _ _, grownCap_le_maxLen _ _ _ _ (by unfold maxLen; omega), ?_, ?_⟩⟩, ⟨rfl, rfl, rfl, by simp, fun k hk _ => heap_alloc_old w.drew _ hk⟩, .inr rfl⟩
      · have hge := grownCap_ge w (n + 1) cap e
        rw [Array.size_append, Array.size_append, List.size_toArray, List.size_toArray, size_zeroCells, hT.zc, hxl, hl, Nat.zero_add]
        generalize grownCap w (n + 1) cap e = c at *
        obtain ⟨m, rfl⟩ : ∃ m, c = (n + 1) + m := ⟨c - (n + 1), by omega⟩
        rw [Nat.add_sub_cancel_left, Nat.add_mul, Nat.add_mul, Nat.one_mul]; omega
      · simp only [List.drop_zero, Array.toList_append, List.append_assoc]
        rw [← List.append_assoc, ← hcl]
        exact List.take_left
/-- append of one element that lies in a block of its own -/
theorem wpList_appendTail {P : Program} {ops : Array Oper} {rest : List Oper} {o : Oper} {a : Act} {Q : Exit → Act → World → Prop} {W : World} {B : Nat} {t e : TypeId} {size bytes : Nat} {z : Value} {v : Value} {n g : Nat} {xs : List Value} {news : List Value}
    (hT : ElTy P t e size bytes z) (hgd : o.guard = none) (s x : Operand) (ho : o.op = .call { callee := .builtin .append, args := #[s, x], argTypes := #[t, t] })
    (hs : a.eval s = v) (hx : a.eval x = .slice (some ⟨g, 0, none⟩) 1 1) (hown : OTail W B e size v n xs) (hg : W.heap.size = g) (hl : news.length = size) (h1 : ∀ u ∈ news, u.oneCell' = true) (hB : B ≤ W.heap.size)
    (hlen : (n + 1) * bytes ≤ 140737488355328) (hn : n + 1 ≤ 1000000000)
    (h : ∀ v' w', OTail w' B e size v' (n + 1) (xs ++ news) → W.grownBy w' v.ownBlock → (∀ r, v'.ownBlock = some r → v.ownBlock = some r ∨ W.heap.size ≤ r) → wpList P ops Q rest (a.put o.dst v') w') : wpList P ops Q (o :: rest) a (W.alloc (.cells news.toArray e)) := by
  subst hg
  refine wpList_plain hgd fun _ hK => ?_
  have hE : Ext W (W.alloc (.cells news.toArray e)) := Ext.alloc _ _
  obtain ⟨v', w', hrun, h2, h3, h4⟩ := run_append_tail (P := P) (W.alloc (.cells news.toArray e)) B o.type hT v n xs (hown.ext hE) ⟨W.heap.size, 0, none⟩ news hl (fun j u hu => by rw [addr_add, Nat.zero_add]; exact alloc_cell W _ _ (by simpa using hu)) h1 hlen hn (by simp; omega)
  unfold Oper.wp execOp
  simp only [ho, resolve, invoke, builtin, Sem.run_bind, Sem.run_pure, Result.andThen_ok, List.map_toArray, List.map_cons, List.map_nil, hs, hx, hrun]
  refine hK _ _ (h v' w' h2 ?_ (fun r hr => ?_))
  rotate_left
  · rcases h4 with h4 | h4
    · exact .inl (h4 ▸ hr)
    · rw [h4] at hr; injection hr with hr; simp at hr; exact .inr (by omega)
  exact ⟨h3.os.trans hE.os, h3.tape.trans hE.tape, h3.output.trans hE.output, Nat.le_trans hE.size h3.size, fun k hk hne => (h3.block k (by simp; omega) hne).trans (hE.block k hk)⟩
end Go.Proofs.Ytgpggmcjggpmpaa
