/- A range backward over a list of ints. -/
import Derived.Test.YthmdecgkbjdabaaRulE
import Derived.Test.YthmdecgkbjdabaaIterN
import Derived.LoopIn
import Derived.OwnWalkIn
namespace Go.Proofs.Ythmdecgkbjdabaa
open Go.RowKit Go.Shelf
set_option linter.unusedVariables false

/-- the numbers and elements, from the last one on -/
def bwd (l : List Int) : List (Nat × Int) := (List.range l.length).reverse.map fun i => (i, l[i]?.getD 0)
theorem bwd_len (l : List Int) : (bwd l).length = l.length := by simp [bwd]
theorem bwd_at (l : List Int) {k : Nat} (hk : k < l.length) : (bwd l)[k]? = some (l.length - 1 - k, l[l.length - 1 - k]?.getD 0) := by
  have hk2 : k < (List.range l.length).reverse.length := by simpa using hk
  rw [bwd, List.getElem?_map, List.getElem?_eq_getElem hk2]
  simp
set_option maxHeartbeats 1000000 in
set_option maxRecDepth 100000 in
theorem backward1_c (v : Value) (l : List Int) (bp : Nat) (w0 : World) (row : Option Nat) (hrow : ∀ r, row = some r → r ≠ bp) (hb : w0.cell? ⟨bp, 0, none⟩ = some v) (hs : ∀ W, w0.grownBy W row → Ints W v l) :
    IterN Try.prog 72 #[.pointer (some ⟨bp, 0, none⟩)] (fun x : Nat × Int => .int .i64 x.1) (fun x => .int .i64 x.2) (bwd l) w0 row := by
  intro lp J W hW hJ hY h0
  have HJ := Lib.hid hJ; have HY := Lib.hid hY; have H0 := Lib.hid h0
  clear hJ hY h0
  have hkb : ∀ wr, w0.grownBy wr row → wr.cell? ⟨bp, 0, none⟩ = some v := fun wr h => (World.cell?_of_block (w := w0) (h.block bp (cell_lt hb) (fun e => hrow bp e.symm rfl))).trans hb
  have HKB := Lib.hid hkb; have HKS := Lib.hid hs; clear hkb
  have hbW := HKB.out W hW
  obtain ⟨a, c, rfl, hlc, hcm, _⟩ := (hs W hW).open_
  rw [bwd_len]
  clear hb hrow hs
  refine callsIn_of_wp Try.func72 rfl trivial ?_ rfl
  simp only [Try.ntmps72, List.size_toArray, List.length_cons, List.length_nil, Nat.reduceAdd, Nat.reduceSub, Array.replicate_succ, Array.replicate_zero, List.push_toArray, List.append_toArray, List.nil_append, List.cons_append]
  gi_wp2_with fail
  gi_loopw [3] (fun i wr => ∃ (k : Nat) (z : Int), k ≤ l.length ∧ z = (l.length : Int) - 1 - k ∧ i = .int .i64 z ∧ J k wr ∧ w0.grownBy wr row) (fun i wr => (intOf i + 1).toNat)
  case atStart => exact ⟨0, _, by omega, by simp, rfl, H0.out, hW⟩
  case round =>
    obtain ⟨k, z, hk, hz, rfl, hJr, hxr⟩ := hrel
    by_cases hlt : k < l.length
    · obtain ⟨n, rfl⟩ : ∃ n : Nat, z = n := ⟨z.toNat, by omega⟩
      have hn : n = l.length - 1 - k := by omega
      obtain ⟨a', c', hv, _, _, H⟩ := (HKS.out wr hxr).open_
      injection hv with hv1 _ hv2; subst hv1 hv2
      obtain ⟨b, o, rfl, hc⟩ := H.out n (by omega)
      have hcb := HKB.out wr hxr
      obtain ⟨fn, tmps, assign, body, hy, hR⟩ := HY.out k (n, l[n]?.getD 0) wr (by rw [bwd_at l hlt, hn]) hJr hxr
      have HR := Lib.hid hR; clear hR
      have hnl : n < l.length := by omega
      generalize l[n]?.getD 0 = y at *
      have HNN := Lib.hid hn
      clear hz hn
      gi_wp2_with fail
      refine ⟨rfl, HR.out.mono ?_⟩
      rintro e W3 ⟨rfl, hJ3, hx3⟩
      gi_wp2_with fail
      refine ⟨⟨k + 1, (n : Int) - 1, by omega, by have := HNN.out; omega, by go_num, hJ3, hx3⟩, ?_⟩
      simp [intOf]
    · obtain rfl : k = l.length := by omega
      obtain rfl : z = -1 := by omega
      clear hz
      gi_wp2_with fail
      exact bodyPost_end (results_none rfl _ _ _) rfl ⟨⟨_, rfl⟩, hJr⟩
end Go.Proofs.Ythmdecgkbjdabaa
