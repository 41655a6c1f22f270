/- Walk: the iterator over all cells. -/
import Derived.Test.YtdgncnhmgbmpjaaCellE
import Derived.Test.YtdgncnhmgbmpjaaCellP
import Derived.Test.YtdgncnhmgbmpjaaIter
import Derived.LoopIn
import Derived.Deep.LoopGhost
import Derived.OwnWalkIn
namespace Go.Proofs.Ytdgncnhmgbmpjaa
open Go.RowKit Go.Shelf
set_option linter.unusedVariables false

/-- block c is just these ints -/
def CB (e : TypeId) (W : World) (c : Nat) (l : List Int) : Prop := W.heap[c]? = some (.cells (ints l).toArray e (0, 0))
theorem CB.lt {e : TypeId} {W : World} {c : Nat} {l : List Int} (h : CB e W c l) : c < W.heap.size := (Array.getElem?_eq_some_iff.1 h).1
theorem CB.cell {e : TypeId} {W : World} {c : Nat} {l : List Int} (h : CB e W c l) {i : Nat} (hi : i < l.length) : W.cell? ⟨c, i, none⟩ = some (.int .i64 (l[i]?.getD 0)) := by
  unfold CB at h
  simp [World.cell?, h, ints, hi]
theorem CB.frozen {e : TypeId} {W : World} {c : Nat} {l : List Int} (h : CB e W c l) (i : Nat) : W.frozen? ⟨c, i, none⟩ = false := by
  unfold CB at h
  simp [World.frozen?, h]
theorem CB.ints {e : TypeId} {W : World} {c : Nat} {l : List Int} (h : CB e W c l) (hm : l.length ≤ 1000000) : Ints W (.slice (some ⟨c, 0, none⟩) l.length l.length) l :=
  ⟨some ⟨c, 0, none⟩, l.length, rfl, Nat.le_refl _, by unfold maxLen; omega, fun i hi => ⟨c, 0, rfl, by show W.cell? ⟨c, 0 + i, none⟩ = _; rw [Nat.zero_add]; exact h.cell hi⟩⟩
theorem CB.set {e : TypeId} {W : World} {c : Nat} {l : List Int} (h : CB e W c l) (i : Nat) (x : Int) : CB e (W.setCell ⟨c, i, none⟩ (.int .i64 x)) c (l.set i x) := by
  unfold CB at *
  simp [World.setCell, Array.getElem?_modify, h, Go.Proofs.Ytdgncnhmgbmpjaa.ints, List.map_set]
theorem CB.of_heap {e : TypeId} {W W' : World} {c : Nat} {l : List Int} (h : CB e W c l) (he : W'.heap[c]? = W.heap[c]?) : CB e W' c l := he.trans h
theorem CB.of_row {e : TypeId} {W : World} {B g n : Nat} {l : List Int} (h : W.ownsRow B e 1 (.slice (some ⟨g, 0, none⟩) n n) n (Go.Proofs.Ytdgncnhmgbmpjaa.ints l)) : CB e W g l := by
  obtain ⟨h1, h2⟩ := h
  rcases h2 with ⟨h, _⟩ | ⟨g', cap, cur, hv, hg, hh, hnc, hm, hcs, ht⟩
  · cases h
  · injection hv with ha hn hc
    injection ha with ha; injection ha with ha _ _
    subst ha hc
    unfold CB
    rw [hh]
    have : cur = (Go.Proofs.Ytdgncnhmgbmpjaa.ints l).toArray := by
      rw [← ht, List.take_of_length_le (by simp; omega)]
    rw [this]

theorem grownBy_set (W : World) (c i : Nat) (v : Value) : W.grownBy (W.setCell ⟨c, i, none⟩ v) (some c) :=
  ⟨rfl, rfl, rfl, by simp [World.setCell], fun k _ hk => Below.heap_setCell _ _ _ k (fun e => hk (by rw [e]))⟩

theorem grown_setCell {w0 W : World} {row : Option Nat} (h : w0.grownBy W row) {c : Nat} (hc : w0.heap.size ≤ c) (i : Nat) (v : Value) : w0.grownBy (W.setCell ⟨c, i, none⟩ v) row := grownBy_trans_new h (grownBy_set W c i v) (fun x e => by cases e; exact .inl hc)
theorem grown_ext {w0 W W' : World} {row : Option Nat} (h : w0.grownBy W row) (k : Ext W W') : w0.grownBy W' row := grownBy_trans_new h (grownBy_of_ext k none) (fun x e => by cases e)
/-- what lies in w00 lies there still -/
theorem grown_below {w00 w0 W : World} {row : Option Nat} (hx : Ext w00 w0) (h : w0.grownBy W row) (hr : ∀ r, row = some r → w00.heap.size ≤ r) : Ext w00 W :=
  Below.trans hx ⟨h.os, h.tape, h.output, h.size, fun k hk => h.block k (Nat.lt_of_lt_of_le hk hx.size) (fun e => by have := hr k e.symm; omega)⟩
theorem ownBlock_cells {e : TypeId} {W : World} {B n size : Nat} {v : Value} {xs : List Value} (h : W.ownsRow B e size v n xs) : ∀ r, v.ownBlock = some r → ∃ cur, W.heap[r]? = some (.cells cur e (0, 0)) ∧ B ≤ r := by
  intro r hr
  rcases h.2 with ⟨rfl, _⟩ | ⟨g, cap, cur, rfl, hg, hgb, _⟩
  · cases hr
  · simp only [Value.ownBlock, Option.some.injEq] at hr
    subst hr; exact ⟨cur, hgb, hg⟩
/-- what an iterator hands out: ints in a row of this type, not block c -/
def IntsT (e : TypeId) (c : Nat) (x : List Int) (v : Value) (W : World) : Prop := Ints W v x ∧ ∀ r, v.ownBlock = some r → r ≠ c ∧ ∃ cur fr, W.heap[r]? = some (.cells cur e fr)
theorem IntsT.of {e : TypeId} {c : Nat} {x : List Int} {v : Value} {W : World} {B : Nat} (h : OInts e W B v x) (hc : c < B) : IntsT e c x v W :=
  ⟨h.ints, fun r hr => by obtain ⟨cur, h1, h2⟩ := ownBlock_cells h r hr; exact ⟨by omega, cur, _, h1⟩⟩
theorem Ints.kept_row {W W' : World} {v : Value} {l : List Int} {row : Option Nat} (h : Ints W v l) (hg : W.grownBy W' row) (hr : v.ownBlock = none ∨ v.ownBlock ≠ row) : Ints W' v l := by
  obtain ⟨a, cap, rfl, hl, hc, hh⟩ := h
  refine ⟨a, cap, rfl, hl, hc, fun i hi => ?_⟩
  obtain ⟨b, o, rfl, hcell⟩ := hh i hi
  refine ⟨b, o, rfl, ?_⟩
  have hb := cell_lt hcell
  have : W'.heap[b]? = W.heap[b]? := hg.block b hb (fun e => by
    rcases hr with h | h
    · cases h
    · exact h (by simp [Value.ownBlock]; exact e))
  exact (World.cell?_of_block (w := W) (a := ⟨b, o + i, none⟩) this).trans hcell
theorem IntsT.kept {e : TypeId} {c : Nat} {x : List Int} {v : Value} {W W' : World} {row : Option Nat} (h : IntsT e c x v W) (hg : W.grownBy W' row)
    (hr : ∀ r, row = some r → v.ownBlock ≠ some r) : IntsT e c x v W' := by
  refine ⟨h.1.kept_row hg ?_, fun r hr' => ?_⟩
  · cases row with
    | none => cases hv : v.ownBlock with
      | none => exact .inl rfl
      | some r => exact .inr (by simp)
    | some r => exact .inr (hr r rfl)
  · obtain ⟨h1, cur, fr, h2⟩ := h.2 r hr'
    exact ⟨h1, cur, fr, (hg.block r (Array.getElem?_eq_some_iff.1 h2).1 (fun e => hr r e.symm hr')).trans h2⟩
theorem IntsT.kept_non {e : TypeId} {c : Nat} {x : List Int} {v : Value} {W W' : World} {row : Option Nat} (h : IntsT e c x v W) (hg : W.grownBy W' row)
    (hr : ∀ r, row = some r → r = c ∨ ∃ o : Obj, W.heap[r]? = some o ∧ o.isCells = false) : IntsT e c x v W' :=
  h.kept hg fun r hrow hv => by
    obtain ⟨h1, cur, fr, h2⟩ := h.2 r hv
    rcases hr r hrow with h3 | ⟨o, h3, h4⟩
    · exact h1 h3
    · rw [h2] at h3; cases h3; cases h4
theorem IntsT.ext {e : TypeId} {c : Nat} {x : List Int} {v : Value} {W W' : World} (h : IntsT e c x v W) (hx : Ext W W') : IntsT e c x v W' := h.kept (grownBy_of_ext hx none) (fun r h => by cases h)
theorem made_ints (n : Nat) : (madeCells (Value.int .i64 0).cells (n * 1)).toList = Go.Proofs.Ytdgncnhmgbmpjaa.ints (List.replicate n 0) := by
  simp [madeCells, Value.cells, Go.Proofs.Ytdgncnhmgbmpjaa.ints, Nat.mod_one, List.map_const']
def CellRel (e : TypeId) (J : Nat → Nat → World → Prop) (c : Nat) (w0 : World) (sizes : List Int) (row : Option Nat) (m : Nat) (wr : World) : Prop :=
  ∃ k cur, k + m + 1 = (cellsOf sizes).length ∧ (cellsOf sizes)[k]? = some cur ∧ CB e wr c cur ∧ J c k wr ∧ w0.grownBy wr row

def IncRel (e : TypeId) (J : Nat → Nat → World → Prop) (c k : Nat) (w0 : World) (sizes : List Int) (nx : Option (List Int)) (row : Option Nat) (m : Nat) (t : Value) (wr : World) : Prop :=
  ∃ (x : Int) (n : Nat) (cu : List Int), t = .int .i64 x ∧ x + 1 = n ∧ n ≤ m ∧ n ≤ sizes.length ∧ cu.length = sizes.length ∧ inc sizes cu n = nx ∧ CB e wr c cu ∧ J c (k + 1) wr ∧ w0.grownBy wr row

set_option maxHeartbeats 1000000 in
theorem cells1_c (sv : Value) (sizes : List Int) (bp : Nat) (w00 w0 : World) (row : Option Nat) (hx00 : Ext w00 w0) (hrow : ∀ r, row = some r → w00.heap.size ≤ r ∧ r ≠ bp) (hb : w0.cell? ⟨bp, 0, none⟩ = some sv) (hs : Ints w00 sv sizes) (hok : sizesOk sizes) :
    IterC Try.prog 52 #[.pointer (some ⟨bp, 0, none⟩)] (IntsT 3) (cellsOf sizes) w0 row := by
  intro l J W hW hJ hY h0
  have HJ := Lib.hid hJ; have HY := Lib.hid hY; have H0 := Lib.hid h0; have HOK := Lib.hid hok
  have hlen : sizes.length ≤ 3 := hok.2.1
  clear hJ hY h0 hok
  have hkb : ∀ wr, w0.grownBy wr row → wr.cell? ⟨bp, 0, none⟩ = some sv := fun wr h => (World.cell?_of_block (w := w0) (h.block bp (cell_lt hb) (fun e => (hrow bp e.symm).2 rfl))).trans hb
  have hks : ∀ wr, w0.grownBy wr row → Ext w00 wr := fun wr h => grown_below hx00 h (fun r e => (hrow r e).1)
  have HKB := Lib.hid hkb; have HKS := Lib.hid hks; clear hkb hks
  have hbW := HKB.out W hW
  obtain ⟨az, cz, rfl, hlz, hmz, Hz⟩ := hs.open_
  clear hb hrow
  obtain ⟨i0, hi, hz0, hz1, hz2⟩ := info_parts elInts.info
  refine callsIn_of_wp Try.func52 rfl trivial ?_ rfl
  simp only [Try.ntmps52, List.size_toArray, List.length_cons, List.length_nil, Nat.reduceAdd, Nat.reduceSub, Array.replicate_succ, Array.replicate_zero, List.push_toArray, List.append_toArray, List.nil_append, List.cons_append]
  refine wpIn_seq_k (fun K hK => ?_)
  refine wpIn_wide.2 ?_
  go_wp2_with (at_make; refine wpList_make_full _ rfl _ _ _ rfl W.heap.size 3 i0 (.int .i64 0) 1 Try.underlying22 hi hz0 hz1 .i64 .i64 _ _ sizes.length rfl rfl rfl rfl (by rw [hz2]; omega) (by unfold maxLen; omega) (Nat.le_refl _) ?_; intro w1 hown hgr)
  have hcb : CB 3 w1 W.heap.size (List.replicate sizes.length 0) := CB.of_row (l := List.replicate sizes.length 0) (by rw [made_ints] at hown; exact hown)
  have hE1 : Ext W w1 := ⟨hgr.os, hgr.tape, hgr.output, hgr.size, fun k hk => hgr.block k hk (by simp)⟩
  have hJ1 := HJ.out W.heap.size 0 W w1 (H0.out _ (Nat.le_refl _)) (Nat.le_refl _) (grownBy_of_ext hE1 _)
  have hx1 : w0.grownBy w1 row := grown_ext hW hE1
  have hfirst := cells_first HOK.out
  have hcount := cells_count HOK.out
  clear hown hgr hi hz0 hz1 hz2
  have Hsz := Lib.hid hW.size
  refine wpIn_block ?_
  gi_loopw [] (fun wr => ∃ m, CellRel 3 J W.heap.size w0 sizes row m wr) (fun wr => leastOf fun m => CellRel 3 J W.heap.size w0 sizes row m wr)
  case atStart => exact ⟨(cellsOf sizes).length - 1, 0, _, by omega, hfirst, hcb, hJ1, hx1⟩
  case round =>
    have hm := (leastOf_spec hrel).1
    generalize leastOf (fun m => CellRel 3 J W.heap.size w0 sizes row m wr) = gm at *
    obtain ⟨k, cur, hkm, hcur, hcbr, hJr, hxr⟩ := hm
    clear hrel hcb hJ1 hE1 hx1 hfirst
    have hlc : cur.length = sizes.length := by
      have := cells_len HOK.out (k := k) (by omega)
      rw [hcur] at this; exact this
    have hcl := cloneInts_c _ cur wr (hcbr.ints (by omega)) (by omega)
    rw [hlc] at hcl
    have HCL := Lib.hid hcl; clear hcl
    gi_wp2_with fail
    refine ⟨trivial, rfl, (callsIn_wide.2 HCL.out).mono ?_⟩
    rintro e w2 ⟨v, rfl, hov, hx2⟩
    have hsz2 := hx2.size
    have hclt := hcbr.lt
    have hJ2 := HJ.out _ k wr w2 hJr (Nat.le_refl _) (grownBy_of_ext hx2 _)
    obtain ⟨fn, tmps, assign, body, hy, hR⟩ := HY.out W.heap.size k cur v w2 hcur hJ2 (Nat.le_refl _) (by omega) (grown_ext hxr hx2) (IntsT.of hov hclt)
    have HR := Lib.hid hR; clear hR
    gi_wp2_with fail
    refine ⟨rfl, HR.out.mono ?_⟩
    rintro e W3 ⟨rfl, hJ3, hc3, hx3⟩
    have hcb3 : CB 3 W3 W.heap.size cur := hcbr.of_heap (hc3.trans (hx2.block _ hclt))
    have hinc := cells_next HOK.out (k := k) (by omega)
    simp only [hcur, Option.getD_some] at hinc
    have HINC := Lib.hid hinc; clear hinc
    have HCUR := Lib.hid hcur; clear hcur
    clear hJr hcbr hxr hJ2 hx2 hov hclt hsz2 HCL HR hy hc3
    have HBW := Lib.hid (And.intro hW hbW); clear hW hbW
    gi_wp2_with fail
    refine wpIn_wide.2 ?_
    go_loopg [4] sizes.length (fun m t wr => IncRel 3 J W.heap.size k w0 sizes (inc sizes cur sizes.length) row m t wr)
    case atStart => exact ⟨(sizes.length : Int) - 1, sizes.length, cur, rfl, by omega, by omega, Nat.le_refl _, hlc, rfl, hcb3, hJ3, hx3⟩
    case round =>
      clear hcb3 hJ3 hx3
      obtain ⟨x, n, cu, rfl, hxn, hnm, hns, hcul, hin, hcb, hJr, hxr⟩ := hrel
      have HIN := Lib.hid hin; clear hin
      have HCUL := Lib.hid hcul; clear hcul
      cases n with
      | zero =>
        obtain rfl : x = -1 := by omega
        have hend : k + 1 = (cellsOf sizes).length := by
          have h1 := HIN.out; rw [HINC.out] at h1
          have h2 : (cellsOf sizes)[k+1]? = none := by rw [← h1]; rfl
          have := List.getElem?_eq_none_iff.1 h2
          omega
        have HEND := Lib.hid hend; clear hend
        have hfin := fun nd => HJ.out W.heap.size (k+1) wr (wr.drewN nd) hJr (Nat.le_refl _) (grownBy_of_ext (Ext.drewN _ _) _)
        have HFIN := Lib.hid hfin; clear hfin hJr
        go_wp2_with fail
        go_quiet (fail)
        go_wp2_with fail
        gi_wp2_with fail
        refine bodyPost_ret (results_none rfl _ _ _) rfl ?_
        exact ⟨⟨_, rfl⟩, _, Nat.le_refl _, by rw [← HEND.out]; exact HFIN.out _⟩
      | succ n =>
        obtain rfl : x = n := by omega
        obtain ⟨ba, oa, rfl, hc2⟩ := Hz.out n (by omega)
        have hc2 := (HKS.out _ hxr).keep hc2
        have hb1 := HKB.out _ hxr
        have hc1 := hcb.cell (i := n) (by rw [HCUL.out]; omega)
        have hfz := hcb.frozen n
        have hsk := HOK.out.2.2 n (by omega)
        obtain ⟨hs1, hs2⟩ := hsk
        generalize hv1 : cu[n]?.getD 0 = y at *
        generalize hv2 : sizes[n]?.getD 0 = z at *
        have HV1 := Lib.hid hv1; clear hv1
        have HV2 := Lib.hid hv2; clear hv2
        by_cases hyz : y = z - 1
        · have hyz' : (y == z - 1) = true := by simp [hyz]
          have HYZ := Lib.hid hyz; clear hyz
          have hdec : decide (0 ≤ (n : Int)) = true := by simp
          go_wp2_with fail
          go_quiet (fail)
          go_wp2_with fail
          go_roundg (gk-1)
          case measure => omega
          case rel =>
            refine ⟨(n : Int) - 1, n, cu.set n 0, rfl, by omega, by omega, by omega, by rw [List.length_set]; exact HCUL.out, ?_, (CB.set (hcb.of_heap rfl) n 0), ?_, ?_⟩
            · rw [← HIN.out]; simp only [inc]; rw [if_pos (by rw [HV1.out, HV2.out]; exact HYZ.out)]
            · exact HJ.out _ _ _ _ (HJ.out _ _ _ _ hJr (Nat.le_refl _) (grownBy_of_ext (Ext.drewN _ _) _)) (Nat.le_refl _) (grownBy_set _ _ _ _)
            · exact grown_setCell (grown_ext hxr (Ext.drewN _ _)) HBW.out.1.size _ _
        · have hyz' : (y == z - 1) = false := by simp [hyz]
          have HYZ := Lib.hid hyz; clear hyz
          have hdec : decide (0 ≤ (n : Int)) = true := by simp
          have hnext : (cellsOf sizes)[k+1]? = some (cu.set n (y + 1)) := by
            rw [← HINC.out, ← HIN.out]; simp only [inc]; rw [if_neg (by rw [HV1.out, HV2.out]; exact HYZ.out), HV1.out]
          have hklt : k + 1 < (cellsOf sizes).length := (List.getElem?_eq_some_iff.1 hnext).1
          have hyb : -1 ≤ y ∧ y ≤ 3 := by
            have h1 := cells_ok HOK.out hklt
            rw [hnext] at h1
            simp only [Option.getD_some, cellOk, Bool.and_eq_true, List.all_eq_true, List.mem_range, decide_eq_true_eq] at h1
            have h2 := h1.2 n (by rw [List.length_set, HCUL.out]; omega)
            rw [List.getElem?_set_self (by rw [HCUL.out]; omega), HV2.out] at h2
            simp only [Option.getD_some] at h2
            omega
          obtain ⟨hy1, hy2⟩ := hyb
          have HNX := Lib.hid hnext; clear hnext
          go_wp2_with fail
          go_quiet (fail)
          go_wp2_with fail
          gi_wp2_with fail
          have hrel2 : CellRel 3 J W.heap.size w0 sizes row (gm - 1) ((wr.drewN nq).setCell ⟨W.heap.size, n, none⟩ (.int .i64 (y + 1))) :=
            ⟨k + 1, _, by omega, HNX.out, CB.set (hcb.of_heap rfl) n (y + 1),
              HJ.out _ _ _ _ (HJ.out _ _ _ _ hJr (Nat.le_refl _) (grownBy_of_ext (Ext.drewN _ _) _)) (Nat.le_refl _) (grownBy_set _ _ _ _),
              grown_setCell (grown_ext hxr (Ext.drewN _ _)) HBW.out.1.size _ _⟩
          exact ⟨⟨_, hrel2⟩, Nat.lt_of_le_of_lt ((leastOf_spec ⟨_, hrel2⟩).2 _ hrel2) (by omega)⟩
end Go.Proofs.Ytdgncnhmgbmpjaa
