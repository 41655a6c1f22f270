/- Several lists of one's own that lie apart, and single values waiting to be appended. -/
import Derived.Test.YtpbflkbelhlogaaBlk
import Derived.Test.YtpbflkbelhlogaaRev
import Derived.Test.YtpbflkbelhlogaaFree
namespace Go.Proofs.Ytpbflkbelhlogaa
open Go.Shelf Go.RowKit Go.Lib Go.Sort
set_option linter.unusedVariables false

def Apart (v u : Value) : Prop := ∀ r, v.ownBlock = some r → u.ownBlock ≠ some r
theorem Apart.symm {v u : Value} (h : Apart v u) : Apart u v := fun r hr e => h r e hr
structure OSet (w : World) (B : Nat) (rs : List (Value × List Int)) (cs : List (Nat × Int)) : Prop where
  rows : ∀ p ∈ rs, OInts 3 w B p.1 p.2
  apart : rs.Pairwise (fun p q => Apart p.1 q.1)
  cells : ∀ c ∈ cs, Blk w c.1 3 [.int .i64 c.2] ∧ ∀ p ∈ rs, p.1.ownBlock ≠ some c.1
theorem oints_lt {w : World} {B : Nat} {v : Value} {l : List Int} (h : OInts 3 w B v l) {g : Nat} (hg : v.ownBlock = some g) : g < w.heap.size := by
  obtain ⟨cur, h1, _⟩ := ownBlock_cells h g hg
  exact (Array.getElem?_eq_some_iff.1 h1).1
theorem OSet.later {w w' : World} {B : Nat} {rs : List (Value × List Int)} {cs : List (Nat × Int)} (h : OSet w B rs cs) (hx : Ext w w') : OSet w' B rs cs :=
  ⟨fun p hp => (h.rows p hp).ext hx, h.apart, fun c hc => ⟨(h.cells c hc).1.ext hx, (h.cells c hc).2⟩⟩
theorem OSet.drop {w : World} {B : Nat} {rs : List (Value × List Int)} {cs : List (Nat × Int)} (h : OSet w B rs cs) : OSet w B rs [] := ⟨h.rows, h.apart, fun c hc => by simp at hc⟩
theorem OSet.build {w : World} {B : Nat} {rs : List (Value × List Int)} {cs : List (Nat × Int)} (h : OSet w B rs cs) (x : Int) : OSet (w.alloc (.cells #[.int .i64 x] 3)) B rs ((w.heap.size, x) :: cs) := by
  have h1 := h.later (Ext.alloc w (.cells #[.int .i64 x] 3))
  refine ⟨h1.rows, h1.apart, fun c hc => ?_⟩
  rcases List.mem_cons.1 hc with rfl | hc
  · exact ⟨Blk.alloc w #[.int .i64 x] 3, fun p hp e => by have := oints_lt (h.rows p hp) e; dsimp only at this; omega⟩
  · exact h1.cells c hc
theorem OSet.change {w w' : World} {B : Nat} {pre post : List (Value × List Int)} {v v' : Value} {l l' : List Int} {cs : List (Nat × Int)} (h : OSet w B (pre ++ (v, l) :: post) cs) (ho : OInts 3 w' B v' l') (hg : w.grownBy w' v.ownBlock)
    (hb : ∀ r, v'.ownBlock = some r → v.ownBlock = some r ∨ w.heap.size ≤ r) : OSet w' B (pre ++ (v', l') :: post) cs := by
  have hap := h.apart
  rw [List.pairwise_append, List.pairwise_cons] at hap
  obtain ⟨ha1, ⟨ha2, ha3⟩, ha4⟩ := hap
  have hold : ∀ p : Value × List Int, p ∈ pre ∨ p ∈ post → OInts 3 w B p.1 p.2 ∧ Apart p.1 v := fun p hp => by
    rcases hp with hp | hp
    · exact ⟨h.rows p (by simp [hp]), ha4 p hp (v, l) (by simp)⟩
    · exact ⟨h.rows p (by simp [hp]), (ha2 p hp).symm⟩
  have hkept : ∀ p : Value × List Int, p ∈ pre ∨ p ∈ post → OInts 3 w' B p.1 p.2 := fun p hp => by
    obtain ⟨h1, h2⟩ := hold p hp
    refine World.ownsRow.kept h1 hg ?_
    cases hob : p.1.ownBlock with
    | none => exact .inl rfl
    | some r => exact .inr (fun e => h2 r hob e.symm)
  have hnew : ∀ p : Value × List Int, p ∈ pre ∨ p ∈ post → Apart p.1 v' := fun p hp r hr e => by
    obtain ⟨h1, h2⟩ := hold p hp
    rcases hb r e with h3 | h3
    · exact h2 r hr h3
    · have := oints_lt h1 hr; omega
  refine ⟨fun p hp => ?_, ?_, fun c hc => ?_⟩
  · rcases List.mem_append.1 hp with hp | hp
    · exact hkept p (.inl hp)
    · rcases List.mem_cons.1 hp with rfl | hp
      · exact ho
      · exact hkept p (.inr hp)
  · rw [List.pairwise_append, List.pairwise_cons]
    refine ⟨ha1, ⟨fun p hp => (hnew p (.inr hp)).symm, ha3⟩, fun p hp x hx => ?_⟩
    rcases List.mem_cons.1 hx with rfl | hx
    · exact hnew p (.inl hp)
    · exact ha4 p hp x (by simp [hx])
  · obtain ⟨h1, h2⟩ := h.cells c hc
    refine ⟨(hg.block c.1 h1.lt (fun e => h2 (v, l) (by simp) e.symm)).trans h1, fun p hp => ?_⟩
    rcases List.mem_append.1 hp with hp | hp
    · exact h2 p (by simp [hp])
    · rcases List.mem_cons.1 hp with rfl | hp
      · intro e
        rcases hb c.1 e with h3 | h3
        · exact h2 (v, l) (by simp) h3
        · have := h1.lt; omega
      · exact h2 p (by simp [hp])
/-- a block of another kind stays where such a list grows -/
theorem Blk.kept {w w' : World} {B b : Nat} {ty : TypeId} {us : List Value} {v : Value} {l : List Int} (h : Blk w b ty us) (hne : ty ≠ 3) (ho : OInts 3 w B v l) (hg : w.grownBy w' v.ownBlock) : Blk w' b ty us := by
  refine (hg.block b h.lt (fun e => ?_)).trans h
  obtain ⟨cur, h1, _⟩ := ownBlock_cells ho b e.symm
  unfold Blk at h
  rw [h] at h1
  injection h1 with h1
  injection h1 with _ h2 _
  exact hne h2
/-- append of a value that waits -/
theorem wpList_appendSet {P : Program} {ops : Array Oper} {rest : List Oper} {o : Oper} {a : Act} {Q : Exit → Act → World → Prop} {W : World} {B : Nat} {t : TypeId} {v : Value} {l : List Int} {g : Nat} {y : Int} {cs : List (Nat × Int)} (pre post : List (Value × List Int))
    (hT : ElTy P t 3 1 8 (.int .i64 0)) (hgd : o.guard = none) (s x : Operand) (ho : o.op = .call { callee := .builtin .append, args := #[s, x], argTypes := #[t, t] })
    (hs : a.eval s = v) (hx : a.eval x = .slice (some ⟨g, 0, none⟩) 1 1) (hset : OSet W B (pre ++ (v, l) :: post) cs) (hc : (g, y) ∈ cs) (hB : B ≤ W.heap.size) (hn : l.length ≤ 1000000)
    (h : ∀ v' w', OSet w' B (pre ++ (v', l ++ [y]) :: post) cs → OInts 3 W B v l → W.grownBy w' v.ownBlock → Below B W w' → wpList P ops Q rest (a.put o.dst v') w') : wpList P ops Q (o :: rest) a W := by
  obtain ⟨i0, hi, hz0, hz1, hz2⟩ := info_parts hT.info
  have hown : OInts 3 W B v l := hset.rows (v, l) (by simp)
  obtain ⟨hblk, _⟩ := hset.cells (g, y) hc
  refine wpList_plain hgd fun _ hK => ?_
  obtain ⟨v', w', hrun, h2, h3, _, h6⟩ := run_append_own_at (P := P) W B t o.type 3 i0 (.int .i64 0) 1 8 hT.ht hi hz0 hz1 hz2 hT.zc hT.pos v l.length (ints l) hown
    ⟨g, 0, none⟩ 1 1 [.int .i64 y] rfl (by
      intro j z hz
      rw [addr_add]
      show W.cell? ⟨g, 0 + j, none⟩ = some z
      rw [Nat.zero_add]; exact hblk.cell hz) (by intro u hu; simp at hu; subst hu; rfl) (by unfold maxLen; omega) (by omega) hB
  unfold Oper.wp execOp
  simp only [ho, resolve, invoke, builtin, Sem.run_bind, Sem.run_pure, Result.andThen_ok, List.map_toArray, List.map_cons, List.map_nil, hs, hx, hrun]
  have ho2 : OInts 3 w' B v' (l ++ [y]) := by unfold OInts; rw [ints_append, List.length_append]; simpa [ints] using h2
  refine hK _ _ (h v' w' (hset.change ho2 h3 (fun r hr => ?_)) hown h3 (Below.of_grownBy h3 hown hB))
  rcases h6 with h6 | h6
  · left; rw [← hr]; exact h6.symm
  · right
    rw [hr] at h6
    injection h6 with h6
    omega
/-- turned round in place -/
theorem reverse_g (v : Value) (l : List Int) (w : World) (B : Nat) (h : OInts 3 w B v l) :
    Calls Try.prog 96 #[v] w fun e w' => e = .returned (.tuple #[]) ∧ OInts 3 w' B v l.reverse ∧ w.grownBy w' v.ownBlock := by
  have h0 := h
  rcases h.2 with ⟨rfl, hl⟩ | ⟨g, cap, cur, rfl, hg, hh, hnc, hm, hcs, ht⟩
  · obtain rfl : l = [] := List.length_eq_zero_iff.1 hl
    refine (reverse_empty _ _ w).mono ?_
    rintro e w' ⟨rfl, rfl⟩
    exact ⟨rfl, h0, World.grownBy.refl _ _⟩
  · have hr := reverse_arr g 0 cap l.toArray w (holds_own h0) (by have h9 : cap ≤ 9223372036854775807 := hm; rw [List.size_toArray]; omega)
    rw [List.size_toArray] at hr
    refine hr.mono ?_
    rintro e w' ⟨rfl, n, rfl⟩
    rw [List.reverse_toArray]
    refine ⟨rfl, putRow_own h0 (by simp) n, ?_⟩
    refine ⟨rfl, rfl, rfl, by simp [putRow, mapBlock, Sort.ahead], fun k hk hne => ?_⟩
    simp only [putRow, mapBlock, Sort.ahead, Array.getElem?_modify]
    rw [if_neg (fun e => hne (by rw [← e]; rfl))]
end Go.Proofs.Ytpbflkbelhlogaa
