/- The table of least costs of the program. -/
import Derived.Test.YtgpggmcjggpmpaaTagG
import Derived.Test.YtgpggmcjggpmpaaTagW
import Derived.Test.YtgpggmcjggpmpaaRep
namespace Go.Proofs.Ytgpggmcjggpmpaa
open Go.RowKit Go.Shelf
set_option linter.unusedVariables false

/-! ## a row that is made from the left -/
def padTo (row : List Int) (z : Int) (k : Nat) : List Int := row.take k ++ List.replicate (row.length - k) z
theorem padTo_len {row : List Int} {z : Int} {k : Nat} (h : k ≤ row.length) : (padTo row z k).length = row.length := by
  unfold padTo; rw [List.length_append, List.length_take, List.length_replicate]; omega
theorem padTo_zero (row : List Int) (z : Int) : padTo row z 0 = List.replicate row.length z := by simp [padTo]
theorem padTo_all (row : List Int) (z : Int) : padTo row z row.length = row := by simp [padTo]
theorem padTo_next {row : List Int} {z : Int} {k : Nat} (h : k < row.length) : (padTo row z k).set k (row[k]?.getD 0) = padTo row z (k + 1) := by
  unfold padTo
  rw [take_next h 0, List.append_assoc, List.set_append, if_neg (by rw [List.length_take]; omega)]
  congr 1
  rw [List.length_take, Nat.min_eq_left (by omega), Nat.sub_self, show row.length - k = (row.length - (k + 1)) + 1 by omega, List.replicate_succ]; rfl
theorem padTo_cell {row : List Int} {z : Int} {k : Nat} (h : k < row.length) : (padTo row z k)[k]?.getD 0 = z := by
  unfold padTo
  rw [List.getElem?_append_right (by rw [List.length_take]; omega), List.getElem?_replicate, if_pos (by rw [List.length_take]; omega)]; rfl
theorem padTo_keep {row : List Int} {z : Int} {k : Nat} (h : k < row.length) : (padTo row z k).set k z = padTo row z k := by
  have h1 := padTo_cell (z := z) h
  have hb : k < (padTo row z k).length := by rw [padTo_len (by omega)]; exact h
  rw [List.getElem?_eq_getElem hb, Option.getD_some] at h1
  have h2 := List.set_getElem_self hb
  rw [h1] at h2
  exact h2
/-! ## where a word ends -/
theorem endsAt_take {l : Lex} {t : List Int} {p j : Nat} (h : p + (wrd l (j : Int)).length ≤ t.length) : endsAt l t (p + (wrd l (j : Int)).length) j = decide ((t.drop p).take (wrd l (j : Int)).length = wrd l (j : Int)) := by
  rw [Bool.eq_iff_iff, decide_eq_true_eq]
  unfold endsAt
  rw [suffix_take h, Nat.add_sub_cancel, List.take_add]
  constructor
  · rintro ⟨_, e⟩; exact List.append_cancel_left e
  · intro e; exact ⟨by omega, by rw [e]⟩
def begI (l : Lex) (t : List Int) (j i : Nat) : Int := if endsAt l t i j then (i : Int) - (wrd l (j : Int)).length else 0
set_option maxHeartbeats 2000000 in
set_option maxRecDepth 100000 in
theorem begins_c (iv fv tv : Value) (l : Lex) (t : List Int) (j i : Nat) (w : World) (h : LexR w iv fv l) (hl : LexOk l) (ht : Ints w tv t) (hj : j < l.i.length) (hi : i ≤ t.length) (h12 : t.length ≤ 1000) :
    Calls Try.prog 71 #[.agg #[iv, fv], tv, .int .i64 (j : Int), .int .i64 (i : Int)] w (RV (.tuple #[.int .i64 (begI l t j i), .bool (endsAt l t i j)]) w) := by
  obtain ⟨wA, hwA⟩ : ∃ wA, wA = w.alloc (.cells #[iv, fv] 25) := ⟨_, rfl⟩
  have hE0 : Ext w wA := by rw [hwA]; exact Ext.alloc _ _
  have k0 : ∀ W, Ext wA W → W.cell? ⟨w.heap.size, 0, none⟩ = some iv := by rw [hwA]; exact kept_alloc w _ _ rfl
  have k1 : ∀ W, Ext wA W → W.cell? ⟨w.heap.size, 1, none⟩ = some fv := by rw [hwA]; exact kept_alloc w _ _ rfl
  have H0 : Ext wA wA := Ext.refl _
  have HR := Lib.hid (h.ext hE0)
  obtain ⟨ai, ci, rfl, hli, hmi, HI⟩ := (h.ext hE0).i.open_
  obtain ⟨af, cf, rfl, hlf, hmf, HF⟩ := Rows.open_ (h.ext hE0).f
  have HT := Lib.hid (ht.ext hE0)
  obtain ⟨at_, ct, rfl, hlt0, hmt0, HTO⟩ := (ht.ext hE0).open_
  have HW := Lib.hid hwA; clear hwA h ht
  obtain ⟨bi, oi, rfl, u, hc0, hu, _, _⟩ := HI.out j hj
  have hL := hl.wo j hj
  have HWD : Hid (wrd l (j : Int) = (itm l.i j).w) := Lib.hid rfl
  rw [← HWD.out] at hu hL
  have HU := Lib.hid hu
  have HBI : Hid (begI l t j i = if endsAt l t i j then (i : Int) - (wrd l (j : Int)).length else 0) := Lib.hid rfl
  have HET := Lib.hid (fun (p : Nat) h => endsAt_take (l := l) (t := t) (p := p) (j := j) h)
  have HEL := Lib.hid (fun h => endsAt_le (l := l) (t := t) (i := i) (j := j) hi h)
  obtain ⟨au, cu, rfl, _, _, _⟩ := hu.open_
  clear hu hl
  generalize hLL : (wrd l (j : Int)).length = L at *
  have HLL := Lib.hid hLL; clear hLL
  have hjI : (j : Int) < (l.i.length : Int) := by omega
  have hc0' : (w.alloc (.cells #[.slice (some ⟨bi, oi, none⟩) l.i.length ci, .slice af l.f.length cf] 25)).cell? ⟨bi, oi + j * 3, none⟩ = some (.slice au L cu) := by rw [← HW.out]; exact hc0
  by_cases hLi : L ≤ i
  · obtain ⟨p, hp⟩ : ∃ p, i = p + L := ⟨i - L, by omega⟩
    have hsub : (i : Int) - (L : Int) = (p : Int) := by omega
    obtain ⟨bt, ot, rfl, _⟩ := HTO.out p (by omega)
    have hA' : (if ct = p then (some ⟨bt, ot, none⟩ : Option Addr) else some ⟨bt, ot + p, none⟩) = some ⟨bt, ot + p, none⟩ := if_neg (by omega)
    have hip : i - p = L := by omega
    have HEQ := Lib.hid (equal_v (.slice (some ⟨bt, ot + p, none⟩) (i - p) (ct - p)) (.slice au L cu) ((t.drop p).take L) (wrd l (j : Int)) wA (by rw [hip]; exact ints_take (ints_drop HT.out (k := p) (by omega) hA') (i := L) (by rw [List.length_drop]; omega)) HU.out)
    have hE := HET.out p (by omega)
    rw [← hp] at hE
    rw [← hE] at HEQ
    rw [hsub] at HBI
    generalize endsAt l t i j = b at *
    have hpi : p ≤ i := by omega
    have hpI : (p : Int) ≤ (i : Int) := by omega
    have hi2 : (i : Int) ≤ (t.length : Int) := by omega
    have hict : i ≤ ct := by omega
    clear hE HET HEL hip hA'
    have HP := Lib.hid hp; clear hp
    rw [HBI.out]
    cases b
    all_goals
      simp only [Bool.false_eq_true, if_false, if_true]
      go_enter Try.func71, Try.ntmps71
      go_wp2_with fail
      rw [← HW.out]
      refine HEQ.out.mono ?_; rintro e w1 ⟨rfl, hx1⟩
      go_wp2_with fail
      go_ret2
      exact ⟨rfl, hE0.trans hx1⟩
  · have hb : endsAt l t i j = false := by
      cases hb : endsAt l t i j with
      | false => rfl
      | true => exact absurd (HEL.out hb) hLi
    rw [hb] at HBI
    have hn : ¬ (0 : Int) ≤ (i : Int) - (L : Int) := by omega
    have hd : decide ((0 : Int) ≤ (i : Int) - (L : Int)) = false := decide_eq_false hn
    have hd2 : decide ((L : Int) ≤ (i : Int)) = false := by simp; omega
    have hd3 : decide (L ≤ i) = false := by simp; omega
    rw [HBI.out, hb]
    simp only [Bool.false_eq_true, if_false]
    clear HEL HET hb
    go_enter Try.func71, Try.ntmps71
    go_wp2_with fail
    rw [← HW.out]
    go_ret2
    exact ⟨rfl, hE0⟩

/-! ## the table -/
def tR (l : Lex) (t : List Int) (i : Nat) : List Int := tabRow l t (tabT l t i) i
theorem tR_len (l : Lex) (t : List Int) (i : Nat) : (tR l t i).length = l.i.length := by simp [tR, tabRow]
theorem tR_at {l : Lex} {t : List Int} {i j : Nat} (hj : j < l.i.length) : (tR l t i)[j]?.getD 0 = if endsAt l t i j then (if i = (wrd l (j : Int)).length then cst l j else stepMin l j ((tabT l t i)[i - (wrd l (j : Int)).length]?.getD []) l.i.length) else big := by
  unfold tR; rw [tabRow_at hj]; rfl
theorem gridI_len {rows : Nat → List Int} {j n : Nat} (h : (rows j).length = n) : (gridI rows j).length = n := by unfold gridI; rw [List.length_map, h]
/-- the table comes back -/
def RTable (l : Lex) (t : List Int) (w : World) (e : Ending) (w' : World) : Prop := ∃ A vs, e = .returned (.slice (some ⟨A, 0, none⟩) (t.length + 1) (t.length + 1)) ∧ GrD w' A (t.length + 1) 26 3 (fun _ => True) (gridI (tR l t)) vs ∧ Ext w w'

set_option maxHeartbeats 8000000 in
set_option maxRecDepth 100000 in
theorem table_c (iv fv tv : Value) (l : Lex) (t : List Int) (w : World) (h : LexR w iv fv l) (hl : LexOk l) (ht : Ints w tv t) (ht12 : t.length ≤ 12) : Calls Try.prog 63 #[.agg #[iv, fv], tv] w (RTable l t w) := by
  obtain ⟨wA, hwA⟩ : ∃ wA, wA = w.alloc (.cells #[iv, fv] 25) := ⟨_, rfl⟩
  have hE0 : Ext w wA := by rw [hwA]; exact Ext.alloc _ _
  have k0 : ∀ W, Ext wA W → W.cell? ⟨w.heap.size, 0, none⟩ = some iv := by rw [hwA]; exact kept_alloc w _ _ rfl
  have k1 : ∀ W, Ext wA W → W.cell? ⟨w.heap.size, 1, none⟩ = some fv := by rw [hwA]; exact kept_alloc w _ _ rfl
  have H0 : Ext wA wA := Ext.refl _
  have HR := Lib.hid (h.ext hE0)
  obtain ⟨ai, ci, rfl, hli, hmi, HI⟩ := (h.ext hE0).i.open_
  obtain ⟨af, cf, rfl, hlf, hmf, HF⟩ := Rows.open_ (h.ext hE0).f
  have HT := Lib.hid (ht.ext hE0)
  obtain ⟨at_, ct, rfl, hlt0, hmt0, HTO⟩ := (ht.ext hE0).open_
  have HW := Lib.hid hwA; clear hwA h ht
  have HL := Lib.hid hl
  have hn8 : l.i.length ≤ 8 := hl.n8
  have hn1 : 1 ≤ l.i.length := hl.n1
  clear hl
  have hzA := hE0.size
  go_enter Try.func63, Try.ntmps63
  go_wp2_with (at_make; refine wpList_make_blkL (t.length + 1) elRows rfl rfl _ _ rfl rfl rfl (by simp) (by omega) (by omega) ?_; intro A w2 hA hblk hx2 hA2; rw [← HW.out] at hA hx2)
  have hgd : GrD w2 A (t.length + 1) 26 3 (fun j => j < 0) (gridI (tR l t)) _ := GrD.new hblk (fun i h1 h2 => by omega)
  clear hblk hA2
  go_loopg [20] (t.length + 1) (fun z i wr => ∃ (k : Nat) (vs : List Value), k ≤ t.length + 1 ∧ t.length + 1 ≤ k + z ∧ i = .int .i64 k ∧ Ext wA wr ∧ GrD wr A (t.length + 1) 26 3 (fun j => j < k) (gridI (tR l t)) vs)
  case atStart => exact ⟨0, _, by omega, by omega, rfl, hx2, hgd⟩
  case round =>
    clear hx2 hgd
    obtain ⟨i, vs, hiN0, hiz, rfl, hEr, hg⟩ := hrel
    obtain ⟨g1, rfl⟩ : ∃ g : Nat, g = gk := ⟨_, rfl⟩
    by_cases hiN : i < t.length + 1
    · obtain ⟨vi, hvi⟩ : ∃ v, vs[i]? = some v := ⟨_, List.getElem?_eq_getElem (by rw [hg.len]; exact hiN)⟩
      have hAs := hg.blk.lt
      have HVI := Lib.hid hvi; clear hvi
      have hEa := Ext.alloc wr (.cells #[.int .i64 100000] 3)
      have hza := hEa.size
      have hiI : (i : Int) < (t.length : Int) + 1 := by omega
      have hXa := hEr.trans hEa
      go_wp2_with fail
      go_step3
      go_wp2_with fail
      refine (repeat_c wr.heap.size l.i.length 100000 _ (alloc_cell wr #[.int .i64 100000] 3 rfl) hn1 (by omega)).mono ?_; rintro e w3 ⟨g, rfl, hblk3, hgs, hx3⟩
      have hx3' := hEa.trans hx3
      obtain ⟨hR, hbR⟩ := GrD.begin (g := g) (n := l.i.length) hg (by decide) hiN (by omega) hx3' hblk3
      have hRc := hR.cell
      have hbc := (hg.blk.ext hx3').cell HVI.out
      have hbf := (hg.blk.ext hx3').frozen i
      have hE4 : Ext wA (w3.setCell ⟨A, i, none⟩ (.slice (some ⟨g, 0, none⟩) l.i.length l.i.length)) := (hEr.trans hx3').setCell hA _ _
      have hgA : wA.heap.size ≤ g := by have := hEr.size; omega
      have hrt : BInts (w3.setCell ⟨A, i, none⟩ (.slice (some ⟨g, 0, none⟩) l.i.length l.i.length)) g (padTo (tR l t i) big 0) := by rw [padTo_zero, tR_len]; exact hbR
      clear hbR hg hblk3 hx3 hx3'
      generalize hvs2 : vs.set i (.slice (some ⟨g, 0, none⟩) l.i.length l.i.length) = vs2 at *
      clear hvs2
      go_wp2_with fail
      go_step3
      go_wp2_with fail
      clear hRc hbc hbf hEr hXa
      go_loopg [34] l.i.length (fun z jj wr => ∃ j : Nat, j ≤ l.i.length ∧ l.i.length ≤ j + z ∧ jj = .int .i64 j ∧ Ext wA wr ∧ GrR wr A (t.length + 1) 26 3 (fun j => j < i) (gridI (tR l t)) vs2 i g l.i.length ∧ BInts wr g (padTo (tR l t i) big j))
      case atStart => exact ⟨0, by omega, by omega, rfl, hE4, hR, hrt⟩
      case round =>
        clear hE4 hR hrt
        obtain ⟨j, hj, hjz, rfl, hEr, hR, hrt⟩ := hrel
        obtain ⟨g2, rfl⟩ : ∃ g : Nat, g = gk := ⟨_, rfl⟩
        obtain ⟨W2, rfl⟩ : ∃ W : World, W = wr := ⟨_, rfl⟩
        by_cases hlt : j < l.i.length
        · obtain ⟨bi, oi, rfl, u, hc0, hu, hc1, hc2⟩ := HI.out j hlt
          replace hc0 := hEr.keep hc0
          replace hc1 := hEr.keep hc1
          replace hc2 := hEr.keep hc2
          have HNX := Lib.hid (padTo_next (row := tR l t i) (z := big) (k := j) (by rw [tR_len]; exact hlt))
          have HKP := Lib.hid (padTo_keep (row := tR l t i) (z := big) (k := j) (by rw [tR_len]; exact hlt))
          have HAT := Lib.hid (tR_at (l := l) (t := t) (i := i) hlt)
          have HLN := Lib.hid (padTo_len (row := tR l t i) (z := big) (k := j) (by rw [tR_len]; omega))
          rw [tR_len] at HLN
          have hxc := HL.out.cst (a := j) hlt
          have HCX : Hid (cst l (j : Int) = (itm l.i j).c) := Lib.hid rfl
          rw [HCX.out] at hxc HAT
          have HBG := Lib.hid (fun W (hW : Ext wA W) => begins_c _ _ _ l t j i W (HR.out.ext hW) HL.out (HT.out.ext hW) hlt (by omega) (by omega))
          have HBI : Hid (begI l t j i = if endsAt l t i j then (i : Int) - (wrd l (j : Int)).length else 0) := Lib.hid rfl
          have HEL := Lib.hid (fun h => endsAt_le (l := l) (t := t) (i := i) (j := j) (by omega) h)
          have hL1 := HL.out.wo j hlt
          have hwl : (wrd l (j : Int)).length = (itm l.i j).w.length := rfl
          rw [← hwl] at hL1
          have HST := Lib.hid (fun k => show stepMin l j ((tabT l t i)[i - (wrd l (j : Int)).length]?.getD []) (k + 1) = if 0 ≤ fol l k j ∧ ((tabT l t i)[i - (wrd l (j : Int)).length]?.getD [])[k]?.getD 0 < big then min (stepMin l j ((tabT l t i)[i - (wrd l (j : Int)).length]?.getD []) k) (((tabT l t i)[i - (wrd l (j : Int)).length]?.getD [])[k]?.getD 0 + fol l k j + cst l j) else stepMin l j ((tabT l t i)[i - (wrd l (j : Int)).length]?.getD []) k from rfl)
          obtain ⟨au, cu, rfl, hlu, hmu, _⟩ := hu.open_
          clear hu hwl
          generalize hLL : (wrd l (j : Int)).length = L at *
          have HLL := Lib.hid hLL; clear hLL
          generalize (itm l.i j).w.length = Lw at *
          generalize (itm l.i j).k = xk at *
          generalize (itm l.i j).c = xc at *
          obtain ⟨wB, hwB⟩ : ∃ wB, wB = W2.alloc (.cells #[.slice au Lw cu, .int .i64 xk, .int .i64 xc] 28) := ⟨_, rfl⟩
          have hEB : Ext W2 wB := by rw [hwB]; exact Ext.alloc _ _
          have hBX : Blk wB W2.heap.size 28 [.slice au Lw cu, .int .i64 xk, .int .i64 xc] := by rw [hwB]; exact Blk.alloc W2 _ _
          have HWB := Lib.hid hwB; clear hwB
          have hXB : Ext wA wB := hEr.trans hEB
          have hgr : g < W2.heap.size := Blk.lt hrt
          have HRB := Lib.hid (hR.ext hEB)
          have HBB : Hid (BInts wB g (padTo (tR l t i) big j)) := Lib.hid (Blk.ext hrt hEB)
          clear hR hrt
          have hXl : Ext wA (W2.alloc (.cells #[.slice au Lw cu, .int .i64 xk, .int .i64 xc] 28)) := by rw [← HWB.out]; exact hXB
          generalize hbe : endsAt l t i j = b at *
          go_wp2_with fail
          rw [← HWB.out]
          refine (HBG.out wB hXB).mono ?_; rintro e w5 ⟨rfl, hx5⟩
          have hX5 := hXB.trans hx5
          have hR5 := HRB.out.ext hx5
          have hB5 : BInts w5 g (padTo (tR l t i) big j) := Blk.ext HBB.out hx5
          have hBX5 := hBX.ext hx5
          clear hc0 hc1 hc2 hBX hXl
          cases b
          · have hval : Hid ((tR l t i)[j]?.getD 0 = big) := Lib.hid (by rw [HAT.out]; rfl)
            rw [hval.out, HKP.out] at HNX
            have HR5 := Lib.hid hR5; have HB5 := Lib.hid hB5
            clear hR5 hB5 hBX5
            go_wp2_with fail
            go_roundg (g2-1)
            case measure => omega
            case rel => exact ⟨j+1, by omega, by omega, by go_num, hX5, HR5.out, by rw [← HNX.out]; exact HB5.out⟩
          · simp only [if_true] at HAT HBI
            by_cases hiL : i = L
            · have hb0 : begI l t j i = 0 := by rw [HBI.out]; omega
              have hval : Hid ((tR l t i)[j]?.getD 0 = xc) := Lib.hid (by rw [HAT.out, if_pos hiL])
              rw [hval.out] at HNX
              rw [hb0]
              clear hb0
              have hrc := hR5.cell
              have hbx2 := hBX5.cell (i := 2) rfl
              have hcg := hB5.cell (i := j) (by rw [HLN.out]; exact hlt)
              generalize (padTo (tR l t i) big j)[j]?.getD 0 = y at *
              have HR5 := Lib.hid hR5; have HB5 := Lib.hid hB5
              clear hR5 hB5 hBX5 hiL
              have hs5 : ∀ s : Later w5, Ext wA s.w := fun s => hX5.trans s.ext
              have q0 := fun s : Later w5 => s.ext.keep hrc
              have q1 := fun s : Later w5 => s.ext.keep hbx2
              have q2 := fun s : Later w5 => s.ext.keep hcg
              have hjI : (j : Int) < (l.i.length : Int) := by omega
              go_wp2_with fail
              refine wp_region_later_tail 8 (by kernel_rfl) (by kernel_rfl) ?_
              simp only [List.take_succ_cons, List.take_zero, List.drop_succ_cons, List.drop_zero]
              repeat (go_big_quiet_step (fail))
              refine wpQuiet_nil ?_
              intro w6 hw'
              obtain ⟨⟨_, hx6⟩, rfl⟩ := hw'
              clear q0 q1 q2 hs5
              have hbb6 : BInts w6 g (padTo (tR l t i) big j) := Blk.ext HB5.out hx6
              have hcg6 := hx6.keep hcg
              have hf6 := Blk.frozen hbb6 j
              have HSET := Lib.hid (hbb6.set j xc)
              have HR6 := Lib.hid ((HR5.out.ext hx6).set j (.int .i64 xc))
              clear hbb6 hrc hbx2 hcg
              go_wp2_with fail
              go_roundg (g2-1)
              case measure => omega
              case rel => exact ⟨j+1, by omega, by omega, by go_num, (hX5.trans hx6).setCell hgA _ _, HR6.out, by rw [← HNX.out]; exact HSET.out⟩
            · obtain ⟨p, hp⟩ : ∃ p, i = p + L := ⟨i - L, by have := HEL.out rfl; omega⟩
              have hp0 : 0 < p := by omega
              have hbp : begI l t j i = (p : Int) := by rw [HBI.out]; omega
              have hdp : ((p : Int) == 0) = false := by simp; omega
              have hiL2 : i - L = p := by omega
              have hrow : (tabT l t i)[i - L]?.getD [] = tR l t p := by rw [hiL2, tabT_at l t (by omega)]; rfl
              rw [hrow] at HST HAT
              rw [if_neg hiL] at HAT
              rw [HAT.out] at HNX
              rw [hbp]
              have hpN : p < t.length + 1 := by omega
              have hpi : p < i := by omega
              have HPP := Lib.hid hp
              clear hbp hiL hiL2 hrow hp
              obtain ⟨gp, _, hvp, _⟩ := hR5.row p hpN hpi (by omega)
              have HVP := Lib.hid hvp
              have hcA := hR5.blk.cell hvp
              rw [gridI_len (tR_len l t p)] at hcA
              have hcs0 : BInts w5 g ((padTo (tR l t i) big j).set j (stepMin l j (tR l t p) 0)) := by rw [show stepMin l j (tR l t p) 0 = big from rfl, HKP.out]; exact hB5
              clear hB5 hvp
              go_wp2_with fail
              clear hcA
              go_loopg [64] l.i.length (fun z kk wr => ∃ k : Nat, k ≤ l.i.length ∧ l.i.length ≤ k + z ∧ kk = .int .i64 k ∧ Ext wA wr ∧ GrR wr A (t.length + 1) 26 3 (fun j => j < i) (gridI (tR l t)) vs2 i g l.i.length ∧ BInts wr g ((padTo (tR l t i) big j).set j (stepMin l j (tR l t p) k)) ∧ Blk wr W2.heap.size 28 [.slice au Lw cu, .int .i64 xk, .int .i64 xc])
              case atStart => exact ⟨0, by omega, by omega, rfl, hX5, hR5, hcs0, hBX5⟩
              case round =>
                clear hX5 hR5 hcs0 hBX5 hx5
                obtain ⟨k, hk, hkz, rfl, hX7, hR7, hB7, hBX7⟩ := hrel
                by_cases hkl : k < l.i.length
                · obtain ⟨gp', _, hvp, hbp⟩ := hR7.row p hpN hpi (by omega)
                  have hge : gp' = gp := by
                    have := hvp.symm.trans HVP.out
                    injection this with h1; injection h1 with h2; injection h2 with h2; injection h2
                  subst hge
                  have hck := Blk.cell hbp (i := k) (v := .int .i64 ((tR l t p)[k]?.getD 0)) (by unfold gridI; rw [List.getElem?_map, List.getElem?_eq_getElem (by rw [tR_len]; exact hkl)]; rfl)
                  have hrb := tabAt_bd HL.out ht12 (i := p) (by omega) hkl
                  rw [← tabRow_at hkl] at hrb
                  have hrb2 : 0 ≤ (tR l t p)[k]?.getD 0 ∧ (tR l t p)[k]?.getD 0 ≤ 100000 := hrb
                  have hSTk := HST.out k
                  have HFC := Lib.hid (fun W (hW : Ext wA W) => follows_c _ _ l k j W (HR.out.ext hW) HL.out hkl hlt)
                  have hfb := HL.out.fol (a := k) (b := j) hkl hlt
                  have hcur := stepMin_big (l := l) (j := j) (row := tR l t p) k
                  clear hvp hbp hrb
                  generalize (tR l t p)[k]?.getD 0 = rk at *
                  generalize fol l (k : Int) (j : Int) = f at *
                  generalize hcc : stepMin l j (tR l t p) k = cur at *
                  rw [HCX.out] at hSTk
                  have HSK := Lib.hid hSTk
                  have HCC := Lib.hid hcc
                  have HR7 := Lib.hid hR7
                  have HB7 := Lib.hid hB7
                  have hBX7 := Lib.hid hBX7
                  have hrc := HR7.out.cell
                  have hbx2 := hBX7.out.cell (i := 2) rfl
                  have hcg := HB7.out.cell (i := j) (by rw [List.length_set, HLN.out]; exact hlt)
                  rw [List.getElem?_set_self (by rw [HLN.out]; exact hlt), Option.getD_some] at hcg
                  clear hSTk hcc hR7 hB7
                  obtain ⟨hr0, hr1⟩ := hrb2
                  obtain ⟨hf0, hf1⟩ := hfb
                  obtain ⟨hc0, hc1⟩ := hxc
                  have hbigc : cur ≤ 100000 := hcur
                  clear hcur
                  by_cases hcond : 0 ≤ f ∧ rk < big
                  · have hd1 : decide (0 ≤ f) = true := by simp [hcond.1]
                    have hd2 : decide (rk < 100000) = true := by have h2 := hcond.2; unfold big at h2; simp [h2]
                    have HMN : Hid (stepMin l j (tR l t p) (k + 1) = min cur (rk + f + xc)) := Lib.hid (by rw [HSK.out, if_pos hcond])
                    have hf00 : 0 ≤ f := hcond.1
                    clear hcond
                    have hw1 : IntKind.i64.wrap (rk + f) = rk + f := IntWalk.i64_in _ (by omega)
                    have hw2 : IntKind.i64.wrap (rk + f + xc) = rk + f + xc := IntWalk.i64_in _ (by omega)
                    have hs5 : ∀ s : Later wr, Ext wA s.w := fun s => hX7.trans s.ext
                    go_wp2_with fail
                    refine (HFC.out wr hX7).mono ?_; rintro e w7 ⟨rfl, hx7⟩
                    clear hs5 hck
                    have hX7 := hX7.trans hx7
                    have HR7 := Lib.hid (HR7.out.ext hx7)
                    have HB7 : Hid (BInts w7 g ((padTo (tR l t i) big j).set j cur)) := Lib.hid (Blk.ext HB7.out hx7)
                    have hBX7 := Lib.hid (hBX7.out.ext hx7)
                    replace hrc := hx7.keep hrc
                    replace hbx2 := hx7.keep hbx2
                    replace hcg := hx7.keep hcg
                    have hs5 : ∀ s : Later w7, Ext wA s.w := fun s => hX7.trans s.ext
                    have q0 := fun s : Later w7 => s.ext.keep hrc
                    have q1 := fun s : Later w7 => s.ext.keep hbx2
                    have q2 := fun s : Later w7 => s.ext.keep hcg
                    rcases Int.lt_or_le (rk + f + xc) cur with hmm | hmm
                    · have HSM : Hid (stepMin l j (tR l t p) (k + 1) = rk + f + xc) := Lib.hid (by rw [HMN.out]; omega)
                      go_wp2_with fail
                      refine wp_region_later_tail 20 (by kernel_rfl) (by kernel_rfl) ?_
                      simp only [List.take_succ_cons, List.take_zero, List.drop_succ_cons, List.drop_zero]
                      repeat (go_big_quiet_step (fail))
                      refine wpQuiet_nil ?_
                      intro w6 hw'
                      obtain ⟨⟨_, hx6⟩, rfl⟩ := hw'
                      clear q0 q1 q2 hs5 hmm
                      have hbb6 : BInts w6 g ((padTo (tR l t i) big j).set j cur) := Blk.ext HB7.out hx6
                      have hcg6 := hx6.keep hcg
                      have hf6 := Blk.frozen hbb6 j
                      have HSET := Lib.hid (hbb6.set j (rk + f + xc))
                      have HR8 := Lib.hid ((HR7.out.ext hx6).set j (.int .i64 (rk + f + xc)))
                      have HBX8 := Lib.hid (Blk.other (hBX7.out.ext hx6) (c := g) (by omega) j (.int .i64 (rk + f + xc)))
                      clear hbb6 hrc hbx2 hcg
                      go_wp2_with fail
                      go_roundg (gk-1)
                      case measure => omega
                      case rel => exact ⟨k+1, by omega, by omega, by go_num, (hX7.trans hx6).setCell hgA _ _, HR8.out, by rw [HSM.out]; have h9 := HSET.out; rw [List.set_set] at h9; exact h9, HBX8.out⟩
                    · have HSM : Hid (stepMin l j (tR l t p) (k + 1) = cur) := Lib.hid (by rw [HMN.out]; omega)
                      go_wp2_with fail
                      refine wp_region_later_tail 20 (by kernel_rfl) (by kernel_rfl) ?_
                      simp only [List.take_succ_cons, List.take_zero, List.drop_succ_cons, List.drop_zero]
                      repeat (go_big_quiet_step (fail))
                      refine wpQuiet_nil ?_
                      intro w6 hw'
                      obtain ⟨⟨_, hx6⟩, rfl⟩ := hw'
                      clear q0 q1 q2 hs5 hmm
                      have hbb6 : BInts w6 g ((padTo (tR l t i) big j).set j cur) := Blk.ext HB7.out hx6
                      have hcg6 := hx6.keep hcg
                      have hf6 := Blk.frozen hbb6 j
                      have HSET := Lib.hid (hbb6.set j (cur))
                      have HR8 := Lib.hid ((HR7.out.ext hx6).set j (.int .i64 (cur)))
                      have HBX8 := Lib.hid (Blk.other (hBX7.out.ext hx6) (c := g) (by omega) j (.int .i64 (cur)))
                      clear hbb6 hrc hbx2 hcg
                      go_wp2_with fail
                      go_roundg (gk-1)
                      case measure => omega
                      case rel => exact ⟨k+1, by omega, by omega, by go_num, (hX7.trans hx6).setCell hgA _ _, HR8.out, by rw [HSM.out]; have h9 := HSET.out; rw [List.set_set] at h9; exact h9, HBX8.out⟩
                  · have HSM : Hid (stepMin l j (tR l t p) (k + 1) = cur) := Lib.hid (by rw [HSK.out, if_neg hcond])
                    by_cases hff : 0 ≤ f
                    · have hd1 : decide (0 ≤ f) = true := by simp [hff]
                      have hd2 : decide (rk < 100000) = false := by
                        have : ¬ rk < big := fun h => hcond ⟨hff, h⟩
                        unfold big at this
                        simp; omega
                      clear hcond hff
                      go_wp2_with fail
                      refine (HFC.out wr hX7).mono ?_; rintro e w7 ⟨rfl, hx7⟩
                      clear hck hrc hbx2 hcg
                      go_wp2_with fail
                      go_roundg (gk-1)
                      case measure => omega
                      case rel => exact ⟨k+1, by omega, by omega, by go_num, hX7.trans hx7, HR7.out.ext hx7, by rw [HSM.out]; exact Blk.ext HB7.out hx7, hBX7.out.ext hx7⟩
                    · have hd1 : decide (0 ≤ f) = false := by simp; omega
                      clear hcond hff
                      go_wp2_with fail
                      refine (HFC.out wr hX7).mono ?_; rintro e w7 ⟨rfl, hx7⟩
                      clear hck hrc hbx2 hcg
                      go_wp2_with fail
                      go_roundg (gk-1)
                      case measure => omega
                      case rel => exact ⟨k+1, by omega, by omega, by go_num, hX7.trans hx7, HR7.out.ext hx7, by rw [HSM.out]; exact Blk.ext HB7.out hx7, hBX7.out.ext hx7⟩
                · have hkn : k = l.i.length := by omega
                  subst hkn
                  have hbb : BInts wr g (padTo (tR l t i) big (j + 1)) := by rw [← HNX.out]; exact hB7
                  clear hB7 hBX7
                  go_wp2_with fail
                  go_roundg (g2-1)
                  case measure => omega
                  case rel => exact ⟨j+1, by omega, by omega, by go_num, hX7, hR7, hbb⟩
        · have hjl : j = l.i.length := by omega
          subst hjl
          have hbb : BInts W2 g (tR l t i) := by
            have := padTo_all (tR l t i) big
            rw [tR_len] at this
            rw [← this]; exact hrt
          have HGD : Hid (GrD W2 A (t.length + 1) 26 3 (fun j => j < i + 1) (gridI (tR l t)) vs2) := Lib.hid (hR.done (gridI_len (tR_len l t i)) hbb (fun j hj => by
            by_cases e : j = i
            · exact .inr e
            · exact .inl (by show j < i; have : j < i + 1 := hj; omega)))
          clear hrt hR hbb
          go_wp2_with fail
          rw [Exit.noGoto_normal]
          go_wp2_with fail
          go_roundg (g1-1)
          case measure => omega
          case rel => exact ⟨i+1, vs2, by omega, by omega, by go_num, hEr, HGD.out⟩
    · have hiN2 : i = t.length + 1 := by omega
      subst hiN2
      go_wp2_with fail
      go_ret
      exact ⟨A, vs, rfl, ⟨hg.len, hg.blk, fun j h1 _ => hg.row j h1 h1⟩, hE0.trans hEr⟩
end Go.Proofs.Ytgpggmcjggpmpaa
