/- The search for a word with two images: plain; its queue in memory. -/
import Derived.Test.YtpbflkbelhlogaaMacT
namespace Go.Proofs.Ytpbflkbelhlogaa
open Go.RowKit Go.Shelf
set_option linter.unusedVariables false

/-! ## plain -/
def nextD (d : Dbl) (x y : Arc) : Dbl := (x.t, y.t, d.2.2 || x.o != y.o)
def lastD (d : Dbl) (x y : Arc) : Lst := ⟨d, x.i, x.o, y.o, false⟩
def fitD (d : Dbl) (x y : Arc) : Bool := x.f == d.1 && (y.f == d.2.1 && x.i == y.i)
def stepY (d : Dbl) (x : Arc) (q : Que) (y : Arc) : Que := if fitD d x y then (if hasD q (nextD d x y) then q else q ++ [(nextD d x y, lastD d x y)]) else q
def stepX (ar : List Arc) (d : Dbl) (q : Que) (x : Arc) : Que := ar.foldl (stepY d x) q
def stepD (ar : List Arc) (q : Que) (d : Dbl) : Que := ar.foldl (stepX ar d) q
def goalD (e : List Int) (d : Dbl) : Bool := d.2.2 && (hasB e d.1 && hasB e d.2.1)
def dAt (q : Que) (i : Nat) : Dbl := ((q[i]?).map Prod.fst).getD (0, 0, false)
def bfs (m : Mac) : Nat → Nat → Que → Option (Dbl × Que)
  | 0, _, _ => none
  | f + 1, i, q => if i < q.length then (if goalD m.e (dAt q i) then some (dAt q i, q) else bfs m f (i + 1) (stepD m.a q (dAt q i))) else none
def first0 : Lst := ⟨(0, 0, false), 0, 0, 0, true⟩
def begin0 : Que := [((0, 0, false), first0)]
def bfsM (m : Mac) : Option (Dbl × Que) := bfs m 200 0 begin0
/-- from the end to the beginning -/
def chain (q : Que) : Nat → Dbl → List Lst
  | 0, _ => []
  | f + 1, d => if (findL q d).fst then [] else findL q d :: chain q f (findL q d).fr

theorem nodup_lt : ∀ (N : Nat) (l : List Nat), l.Nodup → (∀ x ∈ l, x < N) → l.length ≤ N
  | 0, l, _, h => by
    cases l with
    | nil => simp
    | cons x l => have := h x (by simp); omega
  | N + 1, l, hd, h => by
    by_cases hN : N ∈ l
    · have h1 := nodup_lt N (l.erase N) (hd.erase N) (fun x hx => by
        have := (hd.mem_erase_iff).1 hx
        have := h x this.2
        omega)
      rw [List.length_erase_of_mem hN] at h1
      omega
    · have := nodup_lt N l hd (fun x hx => by
        have := h x hx
        have : x ≠ N := fun e => hN (e ▸ hx)
        omega)
      omega
theorem hasD_iff {q : Que} {d : Dbl} : hasD q d = true ↔ d ∈ q.map Prod.fst := by
  unfold hasD
  rw [List.any_eq_true, List.mem_map]
  constructor
  · rintro ⟨p, hp, h⟩; exact ⟨p, hp, by simpa using h⟩
  · rintro ⟨p, hp, h⟩; exact ⟨p, hp, by simpa using h⟩
/-- how a double was reached -/
def Edge (ar : List Arc) (q : Que) (j : Nat) (p : Dbl × Lst) : Prop :=
  p.2.fst = false ∧ ∃ i p', i < j ∧ q[i]? = some p' ∧ p'.1 = p.2.fr ∧ ∃ x ∈ ar, ∃ y ∈ ar, x.f = p.2.fr.1 ∧ y.f = p.2.fr.2.1 ∧ x.i = p.2.i ∧ y.i = p.2.i ∧ x.o = p.2.u ∧ y.o = p.2.v ∧ p.1 = nextD p.2.fr x y
structure QOk (n : Nat) (ar : List Arc) (q : Que) : Prop where
  nd : (q.map Prod.fst).Nodup
  in_ : ∀ p ∈ q, (0 ≤ p.1.1 ∧ p.1.1 < n) ∧ (0 ≤ p.1.2.1 ∧ p.1.2.1 < n)
  ch : ∀ j p, q[j]? = some p → 0 < j → Edge ar q j p
  h0 : q[0]? = some ((0, 0, false), first0)
theorem QOk.pos {n : Nat} {ar : List Arc} {q : Que} (h : QOk n ar q) : 0 < q.length := (List.getElem?_eq_some_iff.1 h.h0).1
theorem QOk.begin {n : Nat} (ar : List Arc) (h : 0 < n) : QOk n ar begin0 :=
  ⟨by simp [begin0], fun p hp => by simp [begin0] at hp; subst hp; simp; omega, fun j p hp hj => by
    rcases j with _ | j
    · omega
    · simp [begin0] at hp, rfl⟩
def codeD (d : Dbl) : Nat := (d.1.toNat * 9 + d.2.1.toNat) * 2 + (if d.2.2 then 1 else 0)
theorem QOk.len {n : Nat} {ar : List Arc} {q : Que} (h : QOk n ar q) (hn : n ≤ 9) : q.length ≤ 162 := by
  have hc : ((q.map Prod.fst).map codeD).Nodup := by
    unfold List.Nodup
    rw [List.pairwise_map]
    refine h.nd.imp_of_mem ?_
    intro d d' hd hd' hne he
    obtain ⟨p, hp, rfl⟩ := List.mem_map.1 hd
    obtain ⟨p', hp', rfl⟩ := List.mem_map.1 hd'
    have h1 := h.in_ p hp
    have h2 := h.in_ p' hp'
    apply hne
    obtain ⟨⟨a, b, c⟩, l⟩ := p
    obtain ⟨⟨a', b', c'⟩, l'⟩ := p'
    simp only [codeD] at *
    have h3 : a.toNat * 9 + b.toNat = a'.toNat * 9 + b'.toNat ∧ c = c' := by
      cases c <;> cases c' <;> simp at he ⊢ <;> omega
    have h4 : a = a' := by omega
    have h5 : b = b' := by omega
    rw [h4, h5, h3.2]
  have := nodup_lt 162 _ hc (fun x hx => by
    obtain ⟨d, hd, rfl⟩ := List.mem_map.1 hx
    obtain ⟨p, hp, rfl⟩ := List.mem_map.1 hd
    have h1 := h.in_ p hp
    unfold codeD
    split <;> omega)
  simpa using this
theorem Edge.more {ar : List Arc} {q r : Que} {j : Nat} {p : Dbl × Lst} (h : Edge ar q j p) : Edge ar (q ++ r) j p := by
  obtain ⟨h1, i, p', hi, hq, h2⟩ := h
  refine ⟨h1, i, p', hi, ?_, h2⟩
  rw [List.getElem?_append_left (List.getElem?_eq_some_iff.1 hq).1]; exact hq
theorem stepY_pre (d : Dbl) (x : Arc) (q : Que) (y : Arc) : q <+: stepY d x q y := by
  unfold stepY
  split
  · split
    · exact List.prefix_refl _
    · exact List.prefix_append _ _
  · exact List.prefix_refl _
theorem stepX_pre (d : Dbl) (x : Arc) : ∀ (ar : List Arc) (q : Que), q <+: ar.foldl (stepY d x) q
  | [], q => List.prefix_refl q
  | y :: ar, q => (stepY_pre d x q y).trans (stepX_pre d x ar _)
theorem stepD_pre (ar : List Arc) (d : Dbl) : ∀ (br : List Arc) (q : Que), q <+: br.foldl (stepX ar d) q
  | [], q => List.prefix_refl q
  | x :: br, q => (stepX_pre d x ar q).trans (stepD_pre ar d br _)
theorem dAt_mem {q : Que} {i : Nat} (h : i < q.length) : dAt q i ∈ q.map Prod.fst := by
  unfold dAt
  rw [List.getElem?_eq_getElem h]
  exact List.mem_map.2 ⟨q[i], List.getElem_mem h, rfl⟩
theorem dAt_pre {q q' : Que} (h : q <+: q') {i : Nat} (hi : i < q.length) : dAt q' i = dAt q i := by
  obtain ⟨r, rfl⟩ := h
  unfold dAt
  rw [List.getElem?_append_left hi]
theorem QOk.stepY {n : Nat} {ar : List Arc} {q : Que} (h : QOk n ar q) (har : ∀ a ∈ ar, (0 ≤ a.f ∧ a.f < n) ∧ (0 ≤ a.t ∧ a.t < n)) {d : Dbl} (hd : d ∈ q.map Prod.fst) {x y : Arc} (hx : x ∈ ar) (hy : y ∈ ar) : QOk n ar (stepY d x q y) := by
  unfold Go.Proofs.Ytpbflkbelhlogaa.stepY
  split
  · rename_i hf
    split
    · exact h
    · rename_i hno
      have hnm : nextD d x y ∉ q.map Prod.fst := fun hm => hno (hasD_iff.2 hm)
      refine ⟨?_, ?_, ?_, ?_⟩
      · rw [List.map_append, List.nodup_append]
        refine ⟨h.nd, by simp, fun a ha b hb => ?_⟩
        simp only [List.map_cons, List.map_nil, List.mem_cons, List.not_mem_nil, or_false] at hb
        subst hb
        exact fun e => hnm (e ▸ ha)
      · intro p hp
        rcases List.mem_append.1 hp with hp | hp
        · exact h.in_ p hp
        · simp only [List.mem_cons, List.not_mem_nil, or_false] at hp
          subst hp
          exact ⟨(har x hx).2, (har y hy).2⟩
      · intro j p hp hj
        rcases Nat.lt_or_ge j q.length with hjl | hjl
        · rw [List.getElem?_append_left hjl] at hp
          exact (h.ch j p hp hj).more
        · rw [List.getElem?_append_right hjl] at hp
          have hj0 : j - q.length = 0 := by
            rcases Nat.eq_zero_or_pos (j - q.length) with e | e
            · exact e
            · rw [List.getElem?_eq_none (by simp; omega)] at hp; cases hp
          rw [hj0] at hp
          simp only [List.getElem?_cons_zero, Option.some.injEq] at hp
          subst hp
          obtain ⟨p', hp', rfl⟩ := List.mem_map.1 hd
          obtain ⟨i, hi, rfl⟩ := List.mem_iff_getElem.1 hp'
          have hf' : x.f = (q[i]).1.1 ∧ y.f = (q[i]).1.2.1 ∧ x.i = y.i := by simpa [fitD] using hf
          exact ⟨rfl, i, q[i], by omega, by rw [List.getElem?_append_left hi, List.getElem?_eq_getElem hi], rfl, x, hx, y, hy, hf'.1, hf'.2.1, rfl, hf'.2.2.symm, rfl, rfl, rfl⟩
      · rw [List.getElem?_append_left h.pos]; exact h.h0
  · exact h
theorem mem_pre {q q' : Que} (h : q <+: q') {d : Dbl} (hd : d ∈ q.map Prod.fst) : d ∈ q'.map Prod.fst := by
  obtain ⟨r, rfl⟩ := h
  rw [List.map_append]; exact List.mem_append_left _ hd
theorem QOk.stepX {n : Nat} {ar : List Arc} (har : ∀ a ∈ ar, (0 ≤ a.f ∧ a.f < n) ∧ (0 ≤ a.t ∧ a.t < n)) {d : Dbl} {x : Arc} (hx : x ∈ ar) : ∀ (br : List Arc) (q : Que), (∀ y ∈ br, y ∈ ar) → QOk n ar q → d ∈ q.map Prod.fst → QOk n ar (br.foldl (Go.Proofs.Ytpbflkbelhlogaa.stepY d x) q)
  | [], q, _, h, _ => h
  | y :: br, q, hb, h, hd => QOk.stepX har hx br _ (fun z hz => hb z (by simp [hz])) (h.stepY har hd hx (hb y (by simp))) (mem_pre (stepY_pre d x q y) hd)
theorem QOk.stepD {n : Nat} {ar : List Arc} (har : ∀ a ∈ ar, (0 ≤ a.f ∧ a.f < n) ∧ (0 ≤ a.t ∧ a.t < n)) {d : Dbl} : ∀ (br : List Arc) (q : Que), (∀ y ∈ br, y ∈ ar) → QOk n ar q → d ∈ q.map Prod.fst → QOk n ar (br.foldl (Go.Proofs.Ytpbflkbelhlogaa.stepX ar d) q)
  | [], q, _, h, _ => h
  | x :: br, q, hb, h, hd => QOk.stepD har br _ (fun z hz => hb z (by simp [hz])) (QOk.stepX har (hb x (by simp)) ar q (fun _ h => h) h hd) (mem_pre (stepX_pre d x ar q) hd)
theorem MacIn.arcs {m : Mac} {n : Nat} (h : MacIn m n) : ∀ a ∈ m.a, (0 ≤ a.f ∧ a.f < n) ∧ (0 ≤ a.t ∧ a.t < n) := by
  intro a ha
  obtain ⟨j, hj, rfl⟩ := List.mem_iff_getElem.1 ha
  have := h.arc j hj
  simpa [arcA, hj] using this
theorem arcA_mem {l : List Arc} {k : Nat} (h : k < l.length) : arcA l k ∈ l := by
  unfold arcA; rw [List.getElem?_eq_getElem h]; exact List.getElem_mem h
theorem foldA_next {α : Type} {ar : List Arc} {k : Nat} (h : k < ar.length) (f : α → Arc → α) (l : α) : (ar.take (k + 1)).foldl f l = f ((ar.take k).foldl f l) (arcA ar k) := by
  rw [take_next h ⟨0, 0, 0, 0⟩, List.foldl_append]; rfl
/-- what is found at a place -/
theorem QOk.find {n : Nat} {ar : List Arc} {q : Que} (h : QOk n ar q) {j : Nat} {p : Dbl × Lst} (hp : q[j]? = some p) : findL q p.1 = p.2 := by
  obtain ⟨hj, hpe⟩ := List.getElem?_eq_some_iff.1 hp
  unfold findL
  have : q.find? (fun x => x.1 == p.1) = some p := by
    rw [List.find?_eq_some_iff_append]
    refine ⟨by simp, q.take j, q.drop (j + 1), ?_, ?_⟩
    · rw [← hpe]; simp
    · intro a ha
      obtain ⟨i, hi, rfl⟩ := List.mem_iff_getElem.1 ha
      have hi : i < j ∧ i < q.length := by simp at hi; omega
      have hnd := h.nd
      unfold List.Nodup at hnd
      rw [List.pairwise_iff_getElem] at hnd
      have := hnd i j (by simpa using hi.2) (by simpa using hj) hi.1
      simp only [List.getElem_map] at this
      rw [hpe] at this
      simpa using this
  rw [this]; rfl
theorem chain_eq {n : Nat} {ar : List Arc} {q : Que} (h : QOk n ar q) : ∀ (j : Nat) (p : Dbl × Lst) (f g : Nat), q[j]? = some p → j < f → j < g → chain q f p.1 = chain q g p.1 := by
  intro j
  induction j using Nat.strongRecOn with
  | ind j ih =>
    intro p f g hp hf hg
    obtain ⟨f, rfl⟩ : ∃ f', f = f' + 1 := ⟨f - 1, by omega⟩
    obtain ⟨g, rfl⟩ : ∃ g', g = g' + 1 := ⟨g - 1, by omega⟩
    rw [chain, chain, h.find hp]
    rcases Nat.eq_zero_or_pos j with rfl | hj
    · have := h.h0
      rw [hp] at this
      injection this with this
      rw [this]; rfl
    · obtain ⟨h1, i, p', hi, hq, hfr, _⟩ := h.ch j p hp hj
      rw [h1]
      simp only [Bool.false_eq_true, if_false]
      rw [← hfr, ih i hi p' f g hq (by omega) (by omega)]

/-! ## lists of structs in memory -/
/-- append of one struct: which block was written -/
theorem wpList_appendN {P : Program} {ops : Array Oper} {rest : List Oper} {o : Oper} {a : Act} {Q : Exit → Act → World → Prop} {W : World} {B : Nat} {t e : TypeId} {size bytes : Nat} {z : Value} {v : Value} {us : List Value} {n g : Nat} {xs : List Value}
    (hT : ElTy P t e size bytes z) (hgd : o.guard = none) (s x : Operand) (ho : o.op = .call { callee := .builtin .append, args := #[s, x], argTypes := #[t, t] })
    (hs : a.eval s = v) (hx : a.eval x = .slice (some ⟨g, 0, none⟩) 1 1) (hown : W.ownsRow B e size v n xs) (hg : W.heap.size = g) (hus : us.length = size) (h1 : ∀ u ∈ us, u.oneCell' = true) (hB : B ≤ W.heap.size)
    (hlen : (n + 1) * bytes ≤ 140737488355328) (hn : n + 1 ≤ 9223372036854775807)
    (h : ∀ v' w', w'.ownsRow B e size v' (n + 1) (xs ++ us) → Below B W w' → W.grownBy w' v.ownBlock → (∀ r, v'.ownBlock = some r → v.ownBlock = some r ∨ W.heap.size ≤ r) → wpList P ops Q rest (a.put o.dst v') w') :
    wpList P ops Q (o :: rest) a (W.alloc (.cells us.toArray e)) := by
  subst hg
  obtain ⟨i0, hi, hz0, hz1, hz2⟩ := info_parts hT.info
  refine wpList_plain hgd fun _ hK => ?_
  obtain ⟨v', w', hrun, h2, h3, _, h6⟩ := run_append_own_at (P := P) (W.alloc (.cells us.toArray e)) B t o.type e i0 z size bytes hT.ht hi hz0 hz1 hz2 hT.zc hT.pos v n xs (hown.alloc _)
    ⟨W.heap.size, 0, none⟩ 1 1 us (by omega) (by
      intro j z hz
      rw [addr_add]
      have hk : (W.alloc (.cells us.toArray e)).cell? ⟨W.heap.size, j, none⟩ = some z := alloc_cell W us.toArray e (by simpa using hz)
      show (W.alloc (.cells us.toArray e)).cell? ⟨W.heap.size, 0 + j, none⟩ = some z
      rw [Nat.zero_add]; exact hk) h1 (by unfold maxLen; omega) hlen (by simp; omega)
  have hown' := hown.alloc (.cells us.toArray e)
  unfold Oper.wp execOp
  simp only [ho, resolve, invoke, builtin, Sem.run_bind, Sem.run_pure, Result.andThen_ok, List.map_toArray, List.map_cons, List.map_nil, hs, hx, hrun]
  refine hK _ _ (h v' w' h2 ?_ ?_ ?_)
  · exact ((Below.refl B W).alloc hB _).trans (Below.of_grownBy h3 hown' (by simp; omega))
  · exact grownBy_trans_new (grownBy_of_ext (Ext.alloc W (.cells us.toArray e)) v.ownBlock) h3 (fun r hr => .inr hr)
  · intro r hr
    rcases h6 with h6 | h6
    · left; rw [← hr]; exact h6.symm
    · right
      rw [hr] at h6
      injection h6 with h6
      rw [h6]; simp
/-- cells of a list of things of k cells each -/
theorem flat_get {α : Type} {k : Nat} (enc : α → List Value) (hk : ∀ x, (enc x).length = k) : ∀ (l : List α) (i j : Nat) (x : α), l[i]? = some x → j < k → (l.flatMap enc)[i * k + j]? = (enc x)[j]?
  | [], i, j, x, h, _ => by simp at h
  | y :: l, 0, j, x, h, hj => by
    simp only [List.getElem?_cons_zero, Option.some.injEq] at h
    subst h
    rw [List.flatMap_cons, List.getElem?_append_left (by rw [hk]; omega), Nat.zero_mul, Nat.zero_add]
  | y :: l, i + 1, j, x, h, hj => by
    rw [List.flatMap_cons, List.getElem?_append_right (by rw [hk, Nat.succ_mul]; omega), hk, show (i + 1) * k + j - k = i * k + j by rw [Nat.succ_mul]; omega]
    exact flat_get enc hk l i j x (by simpa using h) hj
theorem flat_len {α : Type} {k : Nat} (enc : α → List Value) (hk : ∀ x, (enc x).length = k) (l : List α) : (l.flatMap enc).length = l.length * k := by
  induction l with
  | nil => simp
  | cons x l ih => rw [List.flatMap_cons, List.length_append, hk, ih, List.length_cons, Nat.succ_mul]; omega
theorem flat_snoc {α : Type} (enc : α → List Value) (l : List α) (x : α) : (l ++ [x]).flatMap enc = l.flatMap enc ++ enc x := by simp

/-! ## the queue -/
def encQ (p : Dbl × Lst) : List Value := [.int .i64 p.1.1, .int .i64 p.1.2.1, .bool p.1.2.2]
theorem encQ_len (p : Dbl × Lst) : (encQ p).length = 3 := rfl
structure TwoS (wA w : World) (r : Nat) (q : Que) (qv : Value) : Prop where
  ext : Ext wA w
  rlt : wA.heap.size ≤ r
  map : MapQ w r q
  row : w.ownsRow wA.heap.size 110 3 qv q.length (q.flatMap encQ)
theorem MapQ.lt {W : World} {r : Nat} {q : Que} (h : MapQ W r q) : r < W.heap.size := by
  obtain ⟨arr, c, hb, _⟩ := h; exact (Array.getElem?_eq_some_iff.1 hb).1
theorem MapQ.ext {W W' : World} {r : Nat} {q : Que} (h : MapQ W r q) (hx : Ext W W') : MapQ W' r q := by
  have hl := h.lt
  obtain ⟨arr, c, hb, he⟩ := h; exact ⟨arr, c, (hx.block r hl).trans hb, he⟩
theorem TwoS.later {wA w w' : World} {r : Nat} {q : Que} {qv : Value} (h : TwoS wA w r q qv) (hx : Ext w w') : TwoS wA w' r q qv :=
  ⟨h.ext.trans hx, h.rlt, h.map.ext hx, ownsRow_ext h.row hx⟩
/-- a block that stays where the queue and the map grow -/
def Held (w : World) (qv : Value) (b : Nat) (ty : TypeId) (l : List Value) : Prop := Blk w b ty l ∧ ∀ g, qv.ownBlock = some g → g ≠ b
theorem Held.later {w w' : World} {qv : Value} {b : Nat} {ty : TypeId} {l : List Value} (h : Held w qv b ty l) (hx : Ext w w') : Held w' qv b ty l := ⟨h.1.ext hx, h.2⟩
theorem row_lt {w : World} {B n size : Nat} {e : TypeId} {v : Value} {xs : List Value} (h : w.ownsRow B e size v n xs) {g : Nat} (hg : v.ownBlock = some g) : g < w.heap.size := by
  obtain ⟨cur, h1, _⟩ := ownBlock_cells h g hg
  exact (Array.getElem?_eq_some_iff.1 h1).1
theorem Held.new {wA w : World} {r : Nat} {q : Que} {qv : Value} (h : TwoS wA w r q qv) (cs : Array Value) (ty : TypeId) : Held (w.alloc (.cells cs ty)) qv w.heap.size ty cs.toList :=
  ⟨Blk.alloc w cs ty, fun g hg => Nat.ne_of_lt (row_lt h.row hg)⟩
theorem Held.newL {wA w : World} {r : Nat} {q : Que} {qv : Value} (h : TwoS wA w r q qv) (us : List Value) (ty : TypeId) : Held (w.alloc (.cells us.toArray ty)) qv w.heap.size ty us :=
  ⟨by have := Blk.alloc w us.toArray ty; simpa using this, fun g hg => Nat.ne_of_lt (row_lt h.row hg)⟩
/-- the map is stored into -/
theorem TwoS.put {wA w w' : World} {r : Nat} {q q' : Que} {qv : Value} (h : TwoS wA w r q qv) (hm : MapQ w' r q') (hg : w.grownBy w' (some r)) : Ext wA w' ∧ MapQ w' r q' ∧ w'.ownsRow wA.heap.size 110 3 qv q.length (q.flatMap encQ) := by
  refine ⟨h.ext.grown hg h.ext.size (fun k hk => by cases hk; exact h.rlt), hm, World.ownsRow.kept h.row hg ?_⟩
  rcases h.row.2 with ⟨he, _⟩ | ⟨g, cap, cur, he, _, hgb, _⟩
  · left; rw [he]; rfl
  · right
    rw [he]
    intro e
    simp only [Value.ownBlock, Option.some.injEq] at e
    subst e
    obtain ⟨arr, c, hb, _⟩ := h.map
    rw [hgb] at hb
    injection hb with hb
    cases hb
theorem Held.put {wA w w' : World} {r : Nat} {q : Que} {qv : Value} {b : Nat} {ty : TypeId} {l : List Value} (hh : Held w qv b ty l) (h : TwoS wA w r q qv) (hg : w.grownBy w' (some r)) : Held w' qv b ty l := by
  refine ⟨(hg.block b hh.1.lt (fun e => ?_)).trans hh.1, hh.2⟩
  injection e with e
  subst e
  obtain ⟨arr, c, hb, _⟩ := h.map
  have := hh.1
  unfold Blk at this
  rw [this] at hb
  injection hb with hb
  cases hb
/-- the queue grows -/
theorem Held.push {w w' : World} {qv qv' : Value} {b : Nat} {ty : TypeId} {l : List Value} (hh : Held w qv b ty l) (hg : w.grownBy w' qv.ownBlock) (hb : ∀ r, qv'.ownBlock = some r → qv.ownBlock = some r ∨ w.heap.size ≤ r) : Held w' qv' b ty l := by
  refine ⟨(hg.block b hh.1.lt (fun e => hh.2 b e.symm rfl)).trans hh.1, fun g h => ?_⟩
  rcases hb g h with h | h
  · exact hh.2 g h
  · have := hh.1.lt; omega
theorem MapQ.push {w w' : World} {B : Nat} {r : Nat} {q : Que} {qv : Value} {n : Nat} {xs : List Value} (h : MapQ w r q) (hr : w.ownsRow B 110 3 qv n xs) (hg : w.grownBy w' qv.ownBlock) : MapQ w' r q := by
  have hl := h.lt
  obtain ⟨arr, c, hb, he⟩ := h
  refine ⟨arr, c, (hg.block r hl (fun e => ?_)).trans hb, he⟩
  obtain ⟨cur, h1, _⟩ := ownBlock_cells hr r e.symm
  rw [hb] at h1
  injection h1 with h1
  cases h1
theorem elDbl : ElTy Try.prog 114 110 3 24 (.agg #[.int .i64 0, .int .i64 0, .bool false]) := ⟨Try.underlying114, by kernel_rfl, rfl, by omega⟩
/-- the queue as a slice -/
theorem TwoS.open_ {wA w : World} {r : Nat} {q : Que} {qv : Value} (h : TwoS wA w r q qv) (h0 : 0 < q.length) : ∃ g cap, qv = .slice (some ⟨g, 0, none⟩) q.length cap ∧ q.length ≤ cap ∧ cap ≤ 9223372036854775807 ∧
    ∀ i, i < q.length → w.cell? ⟨g, i * 3, none⟩ = some (.int .i64 (dAt q i).1) ∧ w.cell? ⟨g, i * 3 + 1, none⟩ = some (.int .i64 (dAt q i).2.1) ∧ w.cell? ⟨g, i * 3 + 2, none⟩ = some (.bool (dAt q i).2.2) := by
  have hfl := flat_len encQ encQ_len q
  rcases h.row.2 with ⟨_, h1⟩ | ⟨g, cap, cur, rfl, hg, hh, hnc, hm, hcs, ht⟩
  · omega
  · refine ⟨g, cap, rfl, hnc, hm, fun i hi => ?_⟩
    have hp : q[i]? = some q[i] := List.getElem?_eq_getElem hi
    have hd : dAt q i = (q[i]).1 := by unfold dAt; rw [hp]; rfl
    rw [hd]
    refine ⟨?_, ?_, ?_⟩
    · have := h.row.cellAt (i * 3) (by omega)
      have h2 := flat_get encQ encQ_len q i 0 q[i] hp (by omega)
      rw [Nat.add_zero] at h2
      rw [this, h2]; rfl
    · have := h.row.cellAt (i * 3 + 1) (by omega)
      rw [this, flat_get encQ encQ_len q i 1 q[i] hp (by omega)]; rfl
    · have := h.row.cellAt (i * 3 + 2) (by omega)
      rw [this, flat_get encQ encQ_len q i 2 q[i] hp (by omega)]; rfl
end Go.Proofs.Ytpbflkbelhlogaa
