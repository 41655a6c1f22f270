/- Doubles: pairs of states of two runs; the map and the queue of a search, in memory. -/
import Derived.Test.YtpbflkbelhlogaaMacF
import Derived.Laws.StructEq
namespace Go.Proofs.Ytpbflkbelhlogaa
open Go.RowKit Go.Shelf
set_option linter.unusedVariables false

/-! ## the map of a search -/
abbrev Dbl : Type := Int × Int × Bool
structure Lst where
  fr : Dbl
  i : Int
  u : Int
  v : Int
  fst : Bool
abbrev Que : Type := List (Dbl × Lst)
def encD (d : Dbl) : Value := .agg #[.int .i64 d.1, .int .i64 d.2.1, .bool d.2.2]
def encL (l : Lst) : Value := .agg #[.int .i64 l.fr.1, .int .i64 l.fr.2.1, .bool l.fr.2.2, .int .i64 l.i, .int .i64 l.u, .int .i64 l.v, .bool l.fst]
def lst0 : Lst := ⟨(0, 0, false), 0, 0, 0, false⟩
def findL (q : Que) (d : Dbl) : Lst := ((q.find? (fun p => p.1 == d)).map Prod.snd).getD lst0
def hasD (q : Que) (d : Dbl) : Bool := q.any (fun p => p.1 == d)
theorem run_equal_dbl (W : World) (x y : Dbl) : (Op.equal 110 (encD x) (encD y)).run Try.prog W = .ok (x == y) W := by
  have u3 : Try.prog.underlying 3 = some (.int .i64) := Try.underlying3
  have u4 : Try.prog.underlying 4 = some .bool := Try.underlying4
  have hS : Try.prog.underlying 110 = some (.struct (Try.prog.fieldsOf 110)) := by kernel_rfl
  have hp : Try.prog.stoodInHeld 110 = false := by kernel_rfl
  simp only [Op.equal, Op.maxDepth, encD]
  rw [show (10000 : Nat) = 9999 + 1 from rfl, run_equalIn_agg W 9999 110 _ _ hS hp]
  simp only [Program.fieldsOf, Try.underlying110]
  go_simp
  obtain ⟨a, b, c⟩ := x
  obtain ⟨a', b', c'⟩ := y
  by_cases h1 : a = a' <;> by_cases h2 : b = b' <;> by_cases h3 : c = c' <;> simp [h1, h2, h3]
theorem run_checkKey_aux (W : World) (x : Dbl) (em : Bool) (n : Nat) : (Instr.checkKey em (n + 2) 110 (encD x)).run Try.prog W = .ok () W := by
  have u3 : Try.prog.underlying 3 = some (.int .i64) := Try.underlying3
  have u4 : Try.prog.underlying 4 = some .bool := Try.underlying4
  simp only [encD, Instr.checkKey]
  go_simp
theorem run_checkKey_dbl (W : World) (x : Dbl) (em : Bool) : (Instr.checkKey em 10000 110 (encD x)).run Try.prog W = .ok () W := run_checkKey_aux W x em 9998
theorem run_findAsking (W : World) (d : Dbl) : ∀ (es : List MapEntry) (q : Que) (i : Nat), es.map (fun e => (e.key, e.val)) = q.map (fun p => (encD p.1, encL p.2)) →
    ∃ j, (Instr.findAsking 110 (encD d) es i).run Try.prog W = .ok (if hasD q d then some (j, encL (findL q d)) else none) W
  | [], [], i, _ => ⟨0, by simp [Instr.findAsking, hasD]⟩
  | [], _ :: _, _, h => by simp at h
  | _ :: _, [], _, h => by simp at h
  | e :: es, p :: q, i, h => by
    simp only [List.map_cons, List.cons.injEq, Prod.mk.injEq] at h
    obtain ⟨⟨hk, hv⟩, h⟩ := h
    unfold Instr.findAsking
    rw [hk, hv]
    simp only [Sem.run_bind, run_equal_dbl, Result.andThen_ok]
    by_cases hd : p.1 = d
    · refine ⟨i, ?_⟩
      have h1 : (d == p.1) = true := by simp [hd]
      have h2 : hasD (p :: q) d = true := by simp [hasD, hd]
      have h3 : findL (p :: q) d = p.2 := by simp [findL, hd]
      rw [h1, h2, h3]; simp
    · obtain ⟨j, hj⟩ := run_findAsking W d es q (i + 1) h
      refine ⟨j, ?_⟩
      have h1 : (d == p.1) = false := by rw [beq_eq_false_iff_ne]; exact fun e => hd e.symm
      have h1' : (p.1 == d) = false := by rw [beq_eq_false_iff_ne]; exact hd
      have h2 : hasD (p :: q) d = hasD q d := by simp [hasD, h1']
      have h3 : findL (p :: q) d = findL q d := by simp [findL, h1']
      rw [h1, h2, h3]; simpa using hj
def MapQ (W : World) (r : Nat) (q : Que) : Prop := ∃ arr clock, W.heap[r]? = some (.map arr clock) ∧ arr.toList.map (fun e => (e.key, e.val)) = q.map (fun p => (encD p.1, encL p.2))
theorem run_findKey (W : World) (d : Dbl) (es : List MapEntry) (q : Que) (h : es.map (fun e => (e.key, e.val)) = q.map (fun p => (encD p.1, encL p.2))) :
    ∃ j, (Instr.findKey 110 (encD d) es).run Try.prog W = .ok (if hasD q d then some (j, encL (findL q d)) else none) W := by
  unfold Instr.findKey
  simp only [Sem.run_bind, run_underlying Try.underlying110, Result.andThen_ok]
  cases es with
  | nil =>
    cases q with
    | nil => exact ⟨0, by simp [Instr.findNow, hasD]⟩
    | cons p q => simp at h
  | cons e es =>
    have hn : ∀ a, Instr.findNow (.struct a) (encD d) (e :: es) 0 = none := fun a => by simp [Instr.findNow, Instr.sameNow]
    rw [hn]
    exact run_findAsking W d (e :: es) q 0 h
theorem run_lookupQ {W : World} {r : Nat} {q : Que} (h : MapQ W r q) (d : Dbl) (ok : Bool) : (Instr.lookup 113 (.map (some r)) (encD d) ok).run Try.prog W = .ok (if ok then .tuple #[encL (findL q d), .bool (hasD q d)] else encL (findL q d)) W := by
  obtain ⟨arr, clock, hb, he⟩ := h
  obtain ⟨j, hj⟩ := run_findKey W d arr.toList q he
  have hz : (zeroValue 112).run Try.prog W = .ok (encL lst0) W := by kernel_rfl
  have hgo : (getObj r).run Try.prog W = .ok (.map arr clock) W := Go.MapKept.run_getObj_map hb
  have hck : (Instr.checkKey arr.isEmpty 10000 110 (encD d)).run Try.prog W = .ok () W := run_checkKey_dbl W d _
  cases hd : hasD q d
  · have hf : findL q d = lst0 := by
      unfold hasD at hd
      rw [List.any_eq_false] at hd
      unfold findL
      rw [List.find?_eq_none.2 (fun x hx => by simpa using hd x hx)]; rfl
    rw [hd] at hj
    rw [hf]
    cases ok <;> simp [Instr.lookup, run_underlying Try.underlying113, hgo, hck, hj, hz]
  · rw [hd] at hj
    cases ok <;> simp [Instr.lookup, run_underlying Try.underlying113, hgo, hck, hj]
theorem run_updateQ {W : World} {r : Nat} {q : Que} (h : MapQ W r q) {d : Dbl} (hd : hasD q d = false) (l : Lst) : ∃ W', (Instr.mapUpdate 113 (.map (some r)) (encD d) (encL l)).run Try.prog W = .ok () W' ∧ MapQ W' r (q ++ [(d, l)]) ∧ W.grownBy W' (some r) ∧ W'.heap.size = W.heap.size := by
  obtain ⟨arr, clock, hb, he⟩ := h
  obtain ⟨j, hj⟩ := run_findKey W d arr.toList q he
  rw [hd] at hj
  refine ⟨_, ?_, ?_, grownBy_putObj' W r (.map (arr.push ⟨encD d, encL l, clock⟩) (clock + 1)), by simp⟩
  · have hgo : (getObj r).run Try.prog W = .ok (.map arr clock) W := Go.MapKept.run_getObj_map hb
    have hst : ∀ o, (setObj r o).run Try.prog W = .ok () (W.putObj r o) := fun o => Go.MapKept.run_setObj_map o hb
    simp [Instr.mapUpdate, run_underlying Try.underlying113, hgo, run_checkKey_dbl, hj, hst]
  · refine ⟨_, _, World.putObj_heap_same (Array.getElem?_eq_some_iff.1 hb).1, ?_⟩
    simp [he]
end Go.Proofs.Ytpbflkbelhlogaa
