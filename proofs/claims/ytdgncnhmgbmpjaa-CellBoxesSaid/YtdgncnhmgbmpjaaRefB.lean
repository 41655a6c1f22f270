/- Walk of the reference's cells. -/
import Derived.Test.YtdgncnhmgbmpjaaRefA
namespace Go.Proofs.Ytdgncnhmgbmpjaa
open Go.RowKit Go.Shelf
set_option linter.unusedVariables false

def exts (n : Nat) (c : List Int) : List (List Int) := (List.range n).map fun (x : Nat) => c ++ [(x : Int)]
def stepC (out : List (List Int)) (s : Int) : List (List Int) := out.flatMap fun c => exts s.toNat c
def cellsR (sizes : List Int) : List (List Int) := sizes.foldl stepC [[]]
theorem cellsR_eq {sizes : List Int} (h : sizesOk sizes) : cellsR sizes = cellsOf sizes := by
  have := sizes_all (p := fun l => decide (cellsR l = cellsOf l)) (by decide +kernel) h
  simpa using this
theorem cellsR_take {sizes : List Int} (h : sizesOk sizes) {i : Nat} (hi : i ≤ sizes.length) : (cellsR (sizes.take i)).length ≤ 27 ∧ ∀ k, k < (cellsR (sizes.take i)).length → ((cellsR (sizes.take i))[k]?.getD []).length ≤ 3 := by
  have := sizes_all (p := fun l => (List.range (l.length + 1)).all fun i => decide ((cellsR (l.take i)).length ≤ 27) && (List.range (cellsR (l.take i)).length).all fun k => decide (((cellsR (l.take i))[k]?.getD []).length ≤ 3)) (by decide +kernel) h
  have := List.all_eq_true.1 this i (by simp; omega)
  simp only [Bool.and_eq_true, decide_eq_true_eq, List.all_eq_true, List.mem_range] at this
  exact this
theorem cellsR_succ (sizes : List Int) {i : Nat} (hi : i < sizes.length) : cellsR (sizes.take (i + 1)) = stepC (cellsR (sizes.take i)) (sizes[i]?.getD 0) := by
  rw [List.take_add_one, cellsR, List.foldl_append]
  simp [hi, cellsR]
/-- what stands in next after k rows and n values of the row k -/
def pre (out : List (List Int)) (s : Int) (k n : Nat) : List (List Int) := (out.take k).flatMap (fun c => exts s.toNat c) ++ exts n (out[k]?.getD [])
theorem pre_zero (out : List (List Int)) (s : Int) (k : Nat) : pre out s k 0 = (out.take k).flatMap (fun c => exts s.toNat c) := by simp [pre, exts]
theorem pre_succ (out : List (List Int)) (s : Int) (k n : Nat) : pre out s k (n + 1) = pre out s k n ++ [(out[k]?.getD []) ++ [(n : Int)]] := by
  simp [pre, exts, List.range_succ]
theorem pre_next (out : List (List Int)) (s : Int) {k : Nat} (hk : k < out.length) : pre out s k s.toNat = pre out s (k + 1) 0 := by
  rw [pre_zero, pre, List.take_add_one, List.flatMap_append]
  simp [hk]
theorem pre_all (out : List (List Int)) (s : Int) : pre out s out.length 0 = stepC out s := by rw [pre_zero, List.take_length]; rfl
theorem exts_len (n : Nat) (c : List Int) : (exts n c).length = n := by simp [exts]
theorem flat_len (n : Nat) : ∀ l : List (List Int), (l.flatMap (fun c => exts n c)).length = l.length * n
  | [] => by simp
  | c :: cs => by rw [List.flatMap_cons, List.length_append, flat_len n cs, exts_len, List.length_cons, Nat.succ_mul, Nat.add_comm]
theorem pre_len (out : List (List Int)) (s : Int) (k n : Nat) : (pre out s k n).length ≤ out.length * s.toNat + n := by
  rw [pre, List.length_append, flat_len, exts_len, List.length_take]
  exact Nat.add_le_add_right (Nat.mul_le_mul_right s.toNat (Nat.min_le_right k out.length)) n

/-- values that read as these lists, each in rows of type e -/
def TB (e : TypeId) (W : World) (v : Value) : Prop := ∀ r, v.ownBlock = some r → ∃ cur fr, W.heap[r]? = some (.cells cur e fr)
def AllU (e : TypeId) (W : World) (us : List Value) (ls : List (List Int)) : Prop := us.length = ls.length ∧ ∀ (i : Nat) (u : Value), us[i]? = some u → Ints W u (ls[i]?.getD []) ∧ TB e W u
theorem AllU.nil (e : TypeId) (W : World) : AllU e W [] [] := ⟨rfl, fun i u hu => by simp at hu⟩
theorem AllU.kept {e : TypeId} {W W' : World} {us : List Value} {ls : List (List Int)} {row : Option Nat} (h : AllU e W us ls) (hg : W.grownBy W' row)
    (hr : ∀ r, row = some r → ∃ o : Obj, W.heap[r]? = some o ∧ ∀ cur fr, o ≠ .cells cur e fr) : AllU e W' us ls := by
  refine ⟨h.1, fun i u hu => ?_⟩
  obtain ⟨h1, h2⟩ := h.2 i u hu
  have hne : ∀ r, row = some r → u.ownBlock ≠ some r := fun r hrow hv => by
    obtain ⟨cur, fr, h3⟩ := h2 r hv
    obtain ⟨o, h4, h5⟩ := hr r hrow
    rw [h3] at h4; cases h4; exact h5 cur fr rfl
  refine ⟨h1.kept_row hg ?_, fun r hv => ?_⟩
  · cases row with
    | none => cases hv : u.ownBlock with
      | none => exact .inl rfl
      | some r => exact .inr (by simp)
    | some r => exact .inr (hne r rfl)
  · obtain ⟨cur, fr, h3⟩ := h2 r hv
    exact ⟨cur, fr, (hg.block r (Array.getElem?_eq_some_iff.1 h3).1 (fun e => hne r e.symm hv)).trans h3⟩
theorem AllU.ext {e : TypeId} {W W' : World} {us : List Value} {ls : List (List Int)} (h : AllU e W us ls) (hx : Ext W W') : AllU e W' us ls := h.kept (grownBy_of_ext hx none) (fun r e => by cases e)
theorem AllU.row {e t : TypeId} {W W' : World} {us xs : List Value} {ls : List (List Int)} {B size n : Nat} {v : Value} (h : AllU e W us ls) (ho : W.ownsRow B t size v n xs) (hne : t ≠ e) (hg : W.grownBy W' v.ownBlock) : AllU e W' us ls :=
  h.kept hg fun r hr => by obtain ⟨cur, hh, _⟩ := ownBlock_cells ho r hr; exact ⟨_, hh, fun c f h => hne (by injection h)⟩
theorem AllU.snoc {e : TypeId} {W : World} {us : List Value} {ls : List (List Int)} {u : Value} {l : List Int} (h : AllU e W us ls) (hu : Ints W u l) (ht : TB e W u) : AllU e W (us ++ [u]) (ls ++ [l]) := by
  obtain ⟨h1, h2⟩ := h
  refine ⟨by simp [h1], fun i x hx => ?_⟩
  rcases Nat.lt_or_ge i us.length with hi | hi
  · rw [List.getElem?_append_left hi] at hx
    rw [List.getElem?_append_left (by omega)]
    exact h2 i x hx
  · rw [List.getElem?_append_right hi] at hx
    rw [List.getElem?_append_right (by omega)]
    rcases Nat.eq_zero_or_pos (i - us.length) with h0 | h0
    · rw [h0] at hx; simp at hx; subst hx
      rw [show i - ls.length = 0 by omega]; exact ⟨hu, ht⟩
    · rw [List.getElem?_eq_none (by simp; omega)] at hx; cases hx
theorem AllU.all {e : TypeId} {W : World} {us : List Value} {ls : List (List Int)} (h : AllU e W us ls) : AllInts W us ls := ⟨h.1, fun i u hu => (h.2 i u hu).1⟩
theorem OInts.tb {e : TypeId} {W : World} {B : Nat} {v : Value} {l : List Int} (h : OInts e W B v l) : TB e W v := fun r hr => by
  obtain ⟨cur, hh, _⟩ := ownBlock_cells h r hr; exact ⟨cur, _, hh⟩

/-- next: rows of the call's own made since wi -/
def NextR (wi : World) (v : Value) (ls : List (List Int)) (wr : World) : Prop := Ext wi wr ∧ ∃ us, wr.ownsRow wi.heap.size 22 1 v us.length us ∧ AllU 3 wr us ls

set_option maxHeartbeats 2000000 in
theorem rcells_c (sv ev : Value) (sizes : List Int) (w : World) (hs : Ints w sv sizes) (hok : sizesOk sizes) :
    Calls Try.prog 32 #[.agg #[sv, ev]] w (RRows (cellsR sizes) w) := by
  have HOK := Lib.hid hok; clear hok
  obtain ⟨az, cz, rfl, hlz, hmz, Hz⟩ := hs.open_
  clear hs
  have hlen3 : sizes.length ≤ 3 := HOK.out.2.1
  have hA := Ext.alloc w (.cells #[.slice az sizes.length cz, ev] 25)
  have hb0 := alloc_cell w #[.slice az sizes.length cz, ev] 25 (i := 0) rfl
  go_enter Try.func32, Try.ntmps32
  go_wp2_with fail
  generalize hwA : w.alloc (.cells #[.slice az sizes.length cz, ev] 25) = wA at *
  have HWA := Lib.hid hwA; clear hwA
  have hrow0 : Rows (wA.alloc (.cells #[.slice none 0 0] 22)) (.slice (some ⟨w.heap.size + 1, 0, none⟩) 1 1) [[]] := by
    refine ⟨some ⟨w.heap.size + 1, 0, none⟩, 1, rfl, Nat.le_refl _, by unfold maxLen; omega, fun i hi => ⟨_, _, rfl, .slice none 0 0, ?_, ?_⟩⟩
    · have hi0 : i = 0 := by simpa using hi
      subst hi0
      rw [← HWA.out]
      simp
    · have hi0 : i = 0 := by simpa using hi
      subst hi0
      exact ⟨none, 0, rfl, Nat.le_refl _, by unfold maxLen; omega, fun i hi => by simp at hi⟩
  go_loopg [4, 3] sizes.length (fun m i v wr => ∃ k : Nat, k ≤ sizes.length ∧ sizes.length ≤ k + m ∧ i = .int .i64 k ∧ Ext wA wr ∧ Rows wr v (cellsR (sizes.take k)))
  case atStart => exact ⟨0, by omega, by omega, rfl, Ext.alloc _ _, hrow0⟩
  case round =>
    clear hrow0
    obtain ⟨g1, rfl⟩ : ∃ g : Nat, g = gk := ⟨_, rfl⟩
    obtain ⟨k, hk, hk2, rfl, hB, hrow⟩ := hrel
    have hb0' := hB.keep hb0
    by_cases hlt : k < sizes.length
    · obtain ⟨bz, oz, rfl, hcz⟩ := Hz.out k hlt
      replace hcz := (hA.trans hB).keep hcz
      obtain ⟨hr1, hr2⟩ := HOK.out.2.2 k hlt
      have hcount := cellsR_take HOK.out (Nat.le_of_lt hlt)
      have HSUCC := Lib.hid (cellsR_succ sizes hlt)
      generalize hout : cellsR (sizes.take k) = out at *
      generalize hsk : sizes[k]?.getD 0 = s at *
      have HOUT := Lib.hid hout; have HSK := Lib.hid hsk; clear hout hsk
      obtain ⟨ao, co, rfl, hlo, hmo, Ho⟩ := hrow.open_
      obtain ⟨hc1, hc2⟩ := hcount
      have HC2 := Lib.hid hc2; clear hc2
      have HR := Lib.hid hrow; clear hrow
      go_wp2_with fail
      go_loopg [6, 5] out.length (fun m i v wq => ∃ j : Nat, j ≤ out.length ∧ out.length ≤ j + m ∧ i = .int .i64 j ∧ NextR wr v (pre out s j 0) wq)
      case atStart => exact ⟨0, by omega, by omega, rfl, Ext.refl _, [], World.ownsRow_nil _ _ _ _, by rw [pre_zero]; exact AllU.nil _ _⟩
      case round =>
        obtain ⟨wo, rfl⟩ : ∃ wo : World, wo = wr := ⟨_, rfl⟩
        obtain ⟨g2, rfl⟩ : ∃ g : Nat, g = gk := ⟨_, rfl⟩
        obtain ⟨j, hj, hj2, rfl, hN⟩ := hrel
        have hNx := hN.1
        by_cases hjl : j < out.length
        · obtain ⟨bo, oo, rfl, u, hcu, hiu⟩ := Ho.out j hjl
          have hlenj := HC2.out j hjl
          have HPN := Lib.hid (pre_next out s hjl)
          have hpl := pre_len out s j
          have HPS := Lib.hid (pre_succ out s j)
          generalize hrj : out[j]?.getD [] = rj at *
          have HRJ := Lib.hid hrj; clear hrj
          have hlenr : rj.length ≤ 3 := by rw [← HRJ.out]; exact HC2.out j hjl
          have HHN := Lib.hid hN; clear hN
          have HPL := Lib.hid hpl; clear hpl
          have hs27 : out.length * s.toNat ≤ 81 := by
            have h1 : s.toNat ≤ 3 := by omega
            have := Nat.mul_le_mul hc1 h1
            omega
          have HS27 := Lib.hid hs27; clear hs27
          have HRR := HR
          go_wp2_with fail
          go_loopg [7, 5] s.toNat (fun m i v wq => ∃ n : Nat, n ≤ s.toNat ∧ s.toNat ≤ n + m ∧ i = .int .i64 n ∧ NextR wr v (pre out s j n) wq)
          case atStart => exact ⟨0, by omega, by omega, rfl, HHN.out⟩
          case round =>
            obtain ⟨wp, rfl⟩ : ∃ wp : World, wp = wr := ⟨_, rfl⟩
            obtain ⟨n, hn, hn2, rfl, hN⟩ := hrel
            have hwp := hN.1
            have hb3 := hwp.keep hb0'
            have hcz3 := hwp.keep hcz
            have hcu3 := hwp.keep hcu
            by_cases hns : n < s.toNat
            · have hlt3 : (n : Int) < s := by omega
              obtain ⟨hx0, us, hon, hus⟩ := hN
              have hlus : us.length ≤ 84 := by
                have h1 := hus.1; have h2 := HPL.out n; have h3 := HS27.out; omega
              have hiu3 := (hiu.ext hwp)
              obtain ⟨au, cu, rfl, _⟩ := hiu.open_
              have hE0 : Ext wp (wp.alloc (.cells #[] 3)) := Ext.alloc _ _
              have hown0 : (wp.alloc (.cells #[] 3)).ownsRow wp.heap.size 3 1 (.slice (some ⟨wp.heap.size, 0, none⟩) 0 0) 0 [] :=
                World.ownsRow_lit (size := 1) wp #[] 0 (Nat.le_refl _) (by unfold maxLen; omega) rfl
              have hcu4 := hE0.keep hcu3
              have HUS := Lib.hid (And.intro hon hus); clear hon hus
              have HIU := Lib.hid hiu3; clear hiu3
              clear hcu3
              go_wp2_with (first
                | (at_builtin
                   refine wpList_appendAll elInts rfl _ _ rfl rfl rfl hown0 ((HIU.out.ext hE0).raw) (ints_one _) hE0.size (by omega) (by omega) ?_
                   intro v1 w1 ho1 hbl1
                   have ho1' : OInts 3 w1 wp.heap.size v1 rj := by simpa [OInts] using ho1
                   have hx1 : Ext wp w1 := hE0.upto hbl1 (Nat.le_refl _)
                   clear ho1 hown0 hcu4)
                | (at_builtin
                   refine wpList_appendInt elInts rfl _ _ rfl rfl rfl ho1' rfl hx1.size (by omega) ?_
                   intro v2 w2 ho2 hbl2
                   have hx2 : Ext wp w2 := hx1.upto hbl2 (Nat.le_refl _)
                   obtain ⟨a2, c2, hv2, _⟩ := ho2.ints.open_
                   subst hv2
                   clear ho1')
                | (at_builtin
                   refine wpList_append1G elRows rfl _ _ rfl rfl rfl (ownsRow_ext HUS.out.1 hx2) rfl rfl (by have := hx0.size; have := hx2.size; omega) (by omega) (by omega) ?_
                   intro g' cap' w3 ho3 hg3 _))
              have hus2 := (((HUS.out.2.ext hx2).snoc ho2.ints ho2.tb).row (ownsRow_ext HUS.out.1 hx2) (by decide) hg3)
              have hx3 : Ext wr w3 := (hx0.trans hx2).upto (Below.of_grownBy hg3 (ownsRow_ext HUS.out.1 hx2) (by have := hx0.size; have := hx2.size; omega)) (Nat.le_refl _)
              have hl1 : (rj ++ [(n : Int)]).length = rj.length + 1 := by simp
              rw [hl1] at hus2
              have HF := Lib.hid (And.intro hx3 (And.intro ho3 hus2))
              clear ho2 ho3 hg3 hus2 hx3
              go_roundg (gk-1)
              case measure => omega
              case rel => exact ⟨n+1, by omega, by omega, by go_num, HF.out.1, us ++ [_], by simpa using HF.out.2.1, by rw [HPS.out]; exact HF.out.2.2⟩
            · have hge3 : ¬ (n : Int) < s := by omega
              obtain rfl : n = s.toNat := by omega
              go_wp2_with fail
              go_roundg (g2-1)
              case measure => omega
              case rel => exact ⟨j+1, by omega, by omega, by go_num, by rw [← HPN.out]; exact hN⟩
        · go_wp2_with fail
          go_roundg (g1-1)
          case measure => omega
          case rel =>
            obtain rfl : j = out.length := by omega
            obtain ⟨hx0, us, hon, hus⟩ := hN
            rw [pre_all] at hus
            exact ⟨k+1, by omega, by omega, by go_num, hB.trans hx0, by rw [HSUCC.out]; exact Rows.own (by rw [← hus.1]; exact hon) hus.all⟩
    · go_wp2_with fail
      go_ret
      obtain rfl : k = sizes.length := by omega
      rw [List.take_length] at hrow
      exact ⟨_, rfl, hrow, hA.trans hB⟩
end Go.Proofs.Ytdgncnhmgbmpjaa
