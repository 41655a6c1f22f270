/- How many ways go on from each place: the table of the program, and Count. -/
import Derived.Test.YtgpggmcjggpmpaaGrd
import Derived.Test.YtgpggmcjggpmpaaTagE
import Derived.Test.YtgpggmcjggpmpaaTagQ
namespace Go.Proofs.Ytgpggmcjggpmpaa
open Go.RowKit Go.Shelf
set_option linter.unusedVariables false

theorem elRows : ElTy Try.prog 23 26 1 24 (.slice none 0 0) := ⟨Try.underlying23, by kernel_rfl, rfl, by omega⟩
/-- the number that stands for the item before: the last one for none -/
def befI (l : Lex) (k : Nat) : Int := if k = l.i.length then -1 else (k : Int)
def restRow (l : Lex) (t : List Int) (i : Nat) : List Int := (List.range (l.i.length + 1)).map fun k => cntR l (t.drop i) (befI l k)
theorem restRow_len (l : Lex) (t : List Int) (i : Nat) : (restRow l t i).length = l.i.length + 1 := by simp [restRow]
theorem restRow_at {l : Lex} {t : List Int} {i k : Nat} (h : k < l.i.length + 1) : (restRow l t i)[k]?.getD 0 = cntR l (t.drop i) (befI l k) := by
  unfold restRow; rw [List.getElem?_map, List.getElem?_range h]; rfl
/-- the row while it is made -/
def rowTo (l : Lex) (t : List Int) (i k : Nat) : List Int := (restRow l t i).take k ++ List.replicate (l.i.length + 1 - k) 0
theorem rowTo_len {l : Lex} {t : List Int} {i k : Nat} (h : k ≤ l.i.length + 1) : (rowTo l t i k).length = l.i.length + 1 := by
  unfold rowTo; rw [List.length_append, List.length_take, restRow_len, List.length_replicate]; omega
theorem rowTo_zero (l : Lex) (t : List Int) (i : Nat) : rowTo l t i 0 = List.replicate (l.i.length + 1) 0 := by simp [rowTo]
theorem rowTo_all (l : Lex) (t : List Int) (i : Nat) : rowTo l t i (l.i.length + 1) = restRow l t i := by
  unfold rowTo; rw [List.take_of_length_le (by rw [restRow_len]; omega)]; simp
theorem rowTo_next {l : Lex} {t : List Int} {i k : Nat} (h : k < l.i.length + 1) : (rowTo l t i k).set k (cntR l (t.drop i) (befI l k)) = rowTo l t i (k + 1) := by
  have hl := restRow_len l t i
  unfold rowTo
  rw [take_next (by omega) 0, restRow_at h, List.append_assoc, List.set_append, if_neg (by rw [List.length_take]; omega)]
  congr 1
  rw [List.length_take, Nat.min_eq_left (by omega), Nat.sub_self, show l.i.length + 1 - k = (l.i.length + 1 - (k + 1)) + 1 by omega, List.replicate_succ]; rfl
theorem rowTo_cell {l : Lex} {t : List Int} {i k : Nat} (h : k < l.i.length + 1) : (rowTo l t i k)[k]?.getD 0 = 0 := by
  have hl := restRow_len l t i
  unfold rowTo
  rw [List.getElem?_append_right (by rw [List.length_take]; omega)]
  rw [List.getElem?_replicate]
  split <;> rfl
/-- a word stands at a place -/
theorem at_place {w t : List Int} {i : Nat} (h : i + w.length ≤ t.length) : decide ((t.drop i).take w.length = w) = w.isPrefixOf (t.drop i) := by
  rw [Bool.eq_iff_iff, decide_eq_true_eq, List.isPrefixOf_iff_prefix, List.prefix_iff_eq_take]
  constructor
  · intro e; exact e.symm
  · intro e; exact e.symm
theorem past_end {w t : List Int} {i : Nat} (hi : i ≤ t.length) (h : ¬ i + w.length ≤ t.length) : w.isPrefixOf (t.drop i) = false := by
  rw [← Bool.not_eq_true, List.isPrefixOf_iff_prefix]
  intro hp
  have := hp.length_le
  rw [List.length_drop] at this; omega
def gridI (rows : Nat → List Int) (j : Nat) : List Value := (rows j).map (.int .i64)
/-- a grid of numbers comes back -/
def RRests (l : Lex) (t : List Int) (w : World) (e : Ending) (w' : World) : Prop := ∃ A vs, e = .returned (.slice (some ⟨A, 0, none⟩) (t.length + 1) (t.length + 1)) ∧ GrD w' A (t.length + 1) 26 3 (fun _ => True) (gridI (restRow l t)) vs ∧ Ext w w'

set_option maxHeartbeats 8000000 in
set_option maxRecDepth 100000 in
theorem rests_c (iv fv tv : Value) (l : Lex) (t : List Int) (w : World) (h : LexR w iv fv l) (hl : LexOk l) (ht : Ints w tv t) (ht12 : t.length ≤ 12) : Calls Try.prog 57 #[.agg #[iv, fv], tv] w (RRests l t w) := by
  obtain ⟨wA, hwA⟩ : ∃ wA, wA = w.alloc (.cells #[iv, fv] 25) := ⟨_, rfl⟩
  have hE0 : Ext w wA := by rw [hwA]; exact Ext.alloc _ _
  have k0 : ∀ W, Ext wA W → W.cell? ⟨w.heap.size, 0, none⟩ = some iv := by rw [hwA]; exact kept_alloc w _ _ rfl
  have k1 : ∀ W, Ext wA W → W.cell? ⟨w.heap.size, 1, none⟩ = some fv := by rw [hwA]; exact kept_alloc w _ _ rfl
  have H0 : Ext wA wA := Ext.refl _
  have HR := Lib.hid (h.ext hE0)
  obtain ⟨ai, ci, rfl, hli, hmi, HI⟩ := (h.ext hE0).i.open_
  obtain ⟨af, cf, rfl, hlf, hmf, HF⟩ := Rows.open_ (h.ext hE0).f
  have HT := Lib.hid (ht.ext hE0)
  obtain ⟨at_, ct, rfl, hlt0, hmt0, HTO⟩ := (ht.ext hE0).open_
  have HW := Lib.hid hwA; clear hwA h ht
  have HL := Lib.hid hl
  have hn8 : l.i.length ≤ 8 := hl.n8
  have hn1 : 1 ≤ l.i.length := hl.n1
  clear hl
  have hzA := hE0.size
  go_enter Try.func57, Try.ntmps57
  go_wp2_with (at_make; refine wpList_make_blkL (t.length + 1) elRows rfl rfl _ _ rfl rfl rfl (by simp) (by omega) (by omega) ?_; intro A w2 hA hblk hx2 hA2; rw [← HW.out] at hA hx2)
  have hgd : GrD w2 A (t.length + 1) 26 3 (fun j => t.length + 1 ≤ j) (gridI (restRow l t)) _ := GrD.new hblk (fun i h1 h2 => by omega)
  clear hblk hA2
  go_loopg [6] (t.length + 1) (fun z i wr => ∃ (k : Nat) (x : Int) (vs : List Value), k ≤ t.length + 1 ∧ k ≤ z ∧ x = (k : Int) - 1 ∧ i = .int .i64 x ∧ Ext wA wr ∧ GrD wr A (t.length + 1) 26 3 (fun j => k ≤ j) (gridI (restRow l t)) vs)
  case atStart => exact ⟨t.length + 1, t.length, _, by omega, by omega, by omega, rfl, hx2, hgd⟩
  case round =>
    clear hx2 hgd
    obtain ⟨k, x, vs, hk, hkz, hxk, rfl, hEr, hg⟩ := hrel
    by_cases hk0 : k = 0
    · subst hk0
      obtain rfl : x = -1 := by omega
      clear hxk
      go_wp2_with fail
      go_ret
      exact ⟨A, vs, rfl, ⟨hg.len, hg.blk, fun j h1 _ => hg.row j h1 (by omega)⟩, hE0.trans hEr⟩
    · obtain ⟨i, rfl⟩ : ∃ i, k = i + 1 := ⟨k - 1, by omega⟩
      obtain rfl : x = (i : Int) := by omega
      clear hxk hk0
      obtain ⟨g1, rfl⟩ : ∃ g : Nat, g = gk := ⟨_, rfl⟩
      have hiN : i < t.length + 1 := by omega
      obtain ⟨vi, hvi⟩ : ∃ v, vs[i]? = some v := ⟨_, List.getElem?_eq_getElem (by rw [hg.len]; exact hiN)⟩
      have hAs := hg.blk.lt
      have HVI := Lib.hid hvi; clear hvi
      go_wp2_with (at_make; refine wpList_make_blkL (l.i.length + 1) elInts rfl rfl _ _ rfl rfl rfl (by simp) (by omega) (by omega) ?_; intro g w3 hgs hblk3 hx3 hg4; obtain ⟨hR, hbR⟩ := GrD.begin (g := g) (n := l.i.length + 1) hg (by decide) hiN hgs hx3 hblk3; have hRc := hR.cell; have hbc := (hg.blk.ext hx3).cell HVI.out; have hbf := (hg.blk.ext hx3).frozen i; have hE4 : Ext wA (w3.setCell ⟨A, i, none⟩ (.slice (some ⟨g, 0, none⟩) (l.i.length + 1) (l.i.length + 1))) := (hEr.trans hx3).setCell hA _ _)
      have hrt : BInts (w3.setCell ⟨A, i, none⟩ (.slice (some ⟨g, 0, none⟩) (l.i.length + 1) (l.i.length + 1))) g (rowTo l t i 0) := by rw [rowTo_zero]; unfold BInts; simpa using hbR
      have hgA : wA.heap.size ≤ g := by have := hEr.size; omega
      clear hbR hg hbc hbf hx3 hg4 hblk3 hRc
      generalize hvs2 : vs.set i (.slice (some ⟨g, 0, none⟩) (l.i.length + 1) (l.i.length + 1)) = vs2 at *
      clear hvs2 hEr
      go_loopg [34] (l.i.length + 1) (fun z kk wr => ∃ k : Nat, k ≤ l.i.length + 1 ∧ l.i.length + 1 ≤ k + z ∧ kk = .int .i64 k ∧ Ext wA wr ∧ GrR wr A (t.length + 1) 26 3 (fun j => i + 1 ≤ j) (gridI (restRow l t)) vs2 i g (l.i.length + 1) ∧ BInts wr g (rowTo l t i k))
      case atStart => exact ⟨0, by omega, by omega, rfl, hE4, hR, hrt⟩
      case round =>
        clear hE4 hR hrt
        obtain ⟨k, hk2, hkz2, rfl, hEr, hR, hrt⟩ := hrel
        obtain ⟨g2, rfl⟩ : ∃ g : Nat, g = gk := ⟨_, rfl⟩
        by_cases hkn : k < l.i.length + 1
        · have hRc := hR.cell
          have hLN := rowTo_len (l := l) (t := t) (i := i) (k := k) (by omega)
          have HNX := Lib.hid (rowTo_next (l := l) (t := t) (i := i) hkn)
          by_cases hit : i = t.length
          · have hd : ((i : Int) == (t.length : Int)) = true := by simp [hit]
            have HC1 : Hid (cntR l (t.drop i) (befI l k) = 1) := Lib.hid (by rw [hit, List.drop_length, cntR, spl_nil]; rfl)
            rw [HC1.out] at HNX
            have hcc := hrt.cell (i := k) (by rw [hLN]; exact hkn)
            have hcf := Blk.frozen hrt k
            have HST := Lib.hid (hrt.set k 1)
            have HRS := Lib.hid (hR.set k (.int .i64 1))
            rw [HNX.out] at HST
            generalize (rowTo l t i k)[k]?.getD 0 = y at *
            clear hit hrt hR hLN HC1
            go_wp2_with fail
            go_roundg (g2-1)
            case measure => omega
            case rel => exact ⟨k+1, by omega, by omega, by go_num, hEr.setCell hgA _ _, HRS.out, HST.out⟩
          · have hd : ((i : Int) == (t.length : Int)) = false := by simp; omega
            have hil : i < t.length := by omega
            have hrne : t.drop i ≠ [] := by intro e; have := congrArg List.length e; rw [List.length_drop] at this; simp at this; omega
            have HCA := Lib.hid (cntTo_all HL.out.noE hrne (befI l k))
            have hbase : BInts wr g ((rowTo l t i k).set k (cntTo l (t.drop i) (befI l k) 0)) := by
              have : (rowTo l t i k).set k (cntTo l (t.drop i) (befI l k) 0) = rowTo l t i k := by
                have h1 := rowTo_cell (l := l) (t := t) (i := i) (k := k) hkn
                have hb : k < (rowTo l t i k).length := by omega
                rw [List.getElem?_eq_getElem hb, Option.getD_some] at h1
                show (rowTo l t i k).set k 0 = _
                rw [← h1]; exact List.set_getElem_self hb
              rw [this]; exact hrt
            obtain ⟨A', hA'⟩ : ∃ A', (if ct = i then (at_ : Option Addr) else at_.map fun a => a.add i) = A' := ⟨_, rfl⟩
            clear hit hrt hRc hrne hA' A'
            go_wp2_with fail
            go_loopg [50] l.i.length (fun z jj wr => ∃ j : Nat, j ≤ l.i.length ∧ l.i.length ≤ j + z ∧ jj = .int .i64 j ∧ Ext wA wr ∧ GrR wr A (t.length + 1) 26 3 (fun j => i + 1 ≤ j) (gridI (restRow l t)) vs2 i g (l.i.length + 1) ∧ BInts wr g ((rowTo l t i k).set k (cntTo l (t.drop i) (befI l k) j)))
            case atStart => exact ⟨0, by omega, by omega, rfl, hEr, hR, hbase⟩
            case round =>
              clear hEr hR hbase
              obtain ⟨j, hj, hjz, rfl, hEr, hR, hrt⟩ := hrel
              by_cases hlt : j < l.i.length
              · obtain ⟨bi, oi, rfl, u, hc0, hu, hc1, hc2⟩ := HI.out j hlt
                obtain ⟨bt, ot, rfl, _⟩ := HTO.out i hil
                obtain ⟨A', hA'⟩ : ∃ A', (if ct = i then (some ⟨bt, ot, none⟩ : Option Addr) else some ⟨bt, ot + i, none⟩) = A' := ⟨_, rfl⟩
                replace hc0 := hEr.keep hc0
                replace hc1 := hEr.keep hc1
                replace hc2 := hEr.keep hc2
                have HWD : Hid (wrd l (j : Int) = (itm l.i j).w) := Lib.hid rfl
                have HOK : Hid (okNext l (t.drop i) (befI l k) j = ((wrd l (j : Int)).isPrefixOf (t.drop i) && (decide (befI l k < 0) || decide (0 ≤ fol l (befI l k) j)))) := Lib.hid rfl
                have HCN : Hid (cntTo l (t.drop i) (befI l k) (j + 1) = cntTo l (t.drop i) (befI l k) j + (if okNext l (t.drop i) (befI l k) j then ((spl l ((t.drop i).drop (wrd l (j : Int)).length) j).length : Int) else 0)) := Lib.hid rfl
                have hL1 := HL.out.wo j hlt
                have HPL := Lib.hid (fun h => at_place (w := wrd l (j : Int)) (t := t) (i := i) h)
                have HPE := Lib.hid (fun h => past_end (w := wrd l (j : Int)) (t := t) (i := i) (by omega) h)
                have HEQ := Lib.hid (fun W (hW : Ext wA W) (h : i + (wrd l (j : Int)).length ≤ t.length) => equal_v (.slice A' (wrd l (j : Int)).length (ct - i)) u ((t.drop i).take (wrd l (j : Int)).length) (wrd l (j : Int)) W
                  (by have h1 := ints_take (ints_drop (HT.out.ext hW) (k := i) (by omega) hA') (i := (wrd l (j : Int)).length) (by rw [List.length_drop]; omega)
                      exact h1) (by rw [HWD.out]; exact hu.ext hW))
                rw [← HWD.out] at hL1 hu
                have hbd1 := cntTo_bd HL.out.n8 (r := t.drop i) (by rw [List.length_drop]; omega) (befI l k) j
                have hlen2 : (rowTo l t i k).length = l.i.length + 1 := hLN
                have HN := Lib.hid hLN
                obtain ⟨au, cu, rfl, hlu, hmu, _⟩ := hu.open_
                clear hu
                generalize (itm l.i j).k = xk at *
                generalize (itm l.i j).c = xc at *
                generalize hLL : (wrd l (j : Int)).length = L at *
                have HLL := Lib.hid hLL; clear hLL
                obtain ⟨wB, hwB⟩ : ∃ wB, wB = wr.alloc (.cells #[.slice au L cu, .int .i64 xk, .int .i64 xc] 28) := ⟨_, rfl⟩
                have hEB : Ext wr wB := by rw [hwB]; exact Ext.alloc _ _
                have b0 : ∀ W, Ext wB W → W.cell? ⟨wr.heap.size, 0, none⟩ = some (.slice au L cu) := by rw [hwB]; exact kept_alloc wr _ _ rfl
                have b1 : ∀ W, Ext wB W → W.cell? ⟨wr.heap.size, 1, none⟩ = some (.int .i64 xk) := by rw [hwB]; exact kept_alloc wr _ _ rfl
                have b2 : ∀ W, Ext wB W → W.cell? ⟨wr.heap.size, 2, none⟩ = some (.int .i64 xc) := by rw [hwB]; exact kept_alloc wr _ _ rfl
                have HWB := Lib.hid hwB; clear hwB
                have hXB : Ext wA wB := hEr.trans hEB
                have HRB := Lib.hid (hR.ext hEB)
                have HBB : Hid (BInts wB g ((rowTo l t i k).set k (cntTo l (t.drop i) (befI l k) j))) := Lib.hid (Blk.ext hrt hEB)
                clear hR hrt hLN
                have hjI : (j : Int) < (l.i.length : Int) := by omega
                have hsA : ∀ s : Later wB, Ext wA s.w := fun s => hXB.trans s.ext
                have hsB : ∀ s : Later wB, Ext wB s.w := fun s => s.ext
                by_cases hend : i + L ≤ t.length
                · have hdE : decide ((i : Int) + (L : Int) ≤ (t.length : Int)) = true := by simp; omega
                  have hpl := HPL.out hend
                  have HEQ2 := Lib.hid (fun s : Later wB => HEQ.out s.w (hXB.trans s.ext) hend)
                  rw [hpl] at HEQ2
                  generalize hpp : (wrd l (j : Int)).isPrefixOf (t.drop i) = pb at *
                  clear hpl HPL HPE HEQ
                  cases pb
                  · have HSM : Hid (cntTo l (t.drop i) (befI l k) (j + 1) = cntTo l (t.drop i) (befI l k) j) := Lib.hid (by rw [HCN.out, HOK.out, Bool.false_and, if_neg (by decide), Int.add_zero])
                    clear hpp
                    go_wp2_with fail
                    rw [← HWB.out]
                    clear hc0 hc1 hc2
                    refine wp_region_later (by kernel_rfl) (by kernel_rfl) ?_
                    repeat (go_big_quiet_step ((first | (go_at_call 59; first | with_reducible exact Later.call (HEQ2.out _)))))
                    refine wpQuiet_nil ?_
                    intro w5 hw'
                    obtain ⟨⟨_, hx5⟩, rfl⟩ := hw'
                    clear hsA hsB
                    go_wp2_with fail
                    go_roundg (gk-1)
                    case measure => omega
                    case rel => exact ⟨j+1, by omega, by omega, by go_num, hXB.trans hx5, HRB.out.ext hx5, by rw [HSM.out]; exact Blk.ext HBB.out hx5⟩
                  · have hbef : befI l k = -1 ∨ (befI l k = (k : Int) ∧ k < l.i.length) := by
                      unfold befI
                      by_cases e : k = l.i.length
                      · left; rw [if_pos e]
                      · right; exact ⟨by rw [if_neg e], by omega⟩
                    have hgeJ : i + L < t.length + 1 := by omega
                    obtain ⟨ge, hgne, hve, hbe⟩ := HRB.out.row (i + L) hgeJ (by show i + 1 ≤ i + L; omega) (by omega)
                    have hce := HRB.out.blk.cell hve
                    rw [show (gridI (restRow l t) (i + L)).length = l.i.length + 1 by unfold gridI; rw [List.length_map, restRow_len]] at hce
                    have hbe2 : BInts wB ge (restRow l t (i + L)) := hbe
                    have hcx := hbe2.cell (i := j) (by rw [restRow_len]; omega)
                    have hRV : Hid ((restRow l t (i + L))[j]?.getD 0 = ((spl l ((t.drop i).drop L) j).length : Int)) := Lib.hid (by rw [restRow_at (by omega), befI, if_neg (by omega), List.drop_drop]; rfl)
                    have hbd2 := cntR_bd HL.out.n8 (r := (t.drop i).drop L) (by rw [List.length_drop, List.length_drop]; omega) j
                    unfold cntR at hbd2
                    rw [hRV.out] at hcx
                    have hrc := HRB.out.cell
                    have hcg := HBB.out.cell (i := k) (by rw [List.length_set, hlen2]; exact hkn)
                    rw [List.getElem?_set_self (by rw [hlen2]; exact hkn), Option.getD_some] at hcg
                    rcases hbef with hbf | ⟨hbf, hk'⟩
                    · have hkn2 : k = l.i.length := by
                        unfold befI at hbf
                        split at hbf
                        · assumption
                        · omega
                      have hdk : ((k : Int) == (l.i.length : Int)) = true := by simp [hkn2]
                      have HSM : Hid (cntTo l (t.drop i) (befI l k) (j + 1) = cntTo l (t.drop i) (befI l k) j + ((spl l ((t.drop i).drop L) j).length : Int)) := Lib.hid (by rw [HCN.out, HOK.out, hbf]; rfl)
                      clear HCN HOK hkn2 hbf
                      have hb1 : 0 ≤ cntTo l (t.drop i) (befI l k) j := hbd1.1
                      have hb2 : cntTo l (t.drop i) (befI l k) j ≤ 549755813888 := by have := hbd1.2; omega
                      clear hbd1 hend hpp
                      generalize cntTo l (t.drop i) (befI l k) j = c1 at *
                      generalize ((spl l ((t.drop i).drop L) j).length : Int) = c2 at *
                      obtain ⟨hb3, hb4⟩ := hbd2
                      go_wp2_with fail
                      rw [← HWB.out]
                      clear hc0 hc1 hc2
                      refine wp_region_later (by kernel_rfl) (by kernel_rfl) ?_
                      repeat (go_big_quiet_step ((first | (go_at_call 59; first | with_reducible exact Later.call (HEQ2.out _)))))
                      refine wpQuiet_nil ?_
                      intro w5 hw'
                      obtain ⟨⟨_, hx5⟩, rfl⟩ := hw'
                      have hX5 := hXB.trans hx5
                      have HR5 := Lib.hid (HRB.out.ext hx5)
                      have HB5 : Hid (BInts w5 g ((rowTo l t i k).set k c1)) := Lib.hid (Blk.ext HBB.out hx5)
                      have hrc5 := hx5.keep hrc
                      have hcg5 := hx5.keep hcg
                      have hce5 := hx5.keep hce
                      have hcx5 := hx5.keep hcx
                      clear hsA hsB hrc hcg hce hcx hbe hbe2
                      have hs5 : ∀ s : Later w5, Ext wA s.w := fun s => hX5.trans s.ext
                      have q0 := fun s : Later w5 => s.ext.keep hrc5
                      have q1 := fun s : Later w5 => s.ext.keep hcg5
                      have q2 := fun s : Later w5 => s.ext.keep hce5
                      have q3 := fun s : Later w5 => s.ext.keep hcx5
                      clear hrc5 hce5 hcx5
                      have hwS : IntKind.i64.wrap (c1 + c2) = c1 + c2 := IntWalk.i64_in _ (by omega)
                      go_wp2_with fail
                      refine wp_region_later_tail 16 (by kernel_rfl) (by kernel_rfl) ?_
                      simp only [List.take_succ_cons, List.take_zero, List.drop_succ_cons, List.drop_zero]
                      repeat (go_big_quiet_step (fail))
                      refine wpQuiet_nil ?_
                      intro w6 hw'
                      obtain ⟨⟨_, hx6⟩, rfl⟩ := hw'
                      clear q0 q1 q2 q3 hs5
                      have hbb6 : BInts w6 g ((rowTo l t i k).set k c1) := Blk.ext HB5.out hx6
                      have hcg6 := hx6.keep hcg5
                      have hf6 := Blk.frozen hbb6 k
                      have HSET := Lib.hid (hbb6.set k (c1 + c2))
                      have HR6 := Lib.hid ((HR5.out.ext hx6).set k (.int .i64 (c1 + c2)))
                      clear hbb6 hcg5 hwS
                      go_wp2_with fail
                      go_roundg (gk-1)
                      case measure => omega
                      case rel => exact ⟨j+1, by omega, by omega, by go_num, (hX5.trans hx6).setCell hgA _ _, HR6.out, by rw [HSM.out]; have h9 := HSET.out; rw [List.set_set] at h9; exact h9⟩
                    · have hdk : ((k : Int) == (l.i.length : Int)) = false := by simp; omega
                      have HFO := Lib.hid (fun s : Later wB => follows_c _ _ l k j s.w (HR.out.ext (hXB.trans s.ext)) HL.out hk' hlt)
                      have HOK2 : Hid (okNext l (t.drop i) (befI l k) j = decide (0 ≤ fol l (k : Int) (j : Int))) := Lib.hid (by rw [HOK.out, hbf, decide_eq_false (show ¬ ((k : Int) < 0) by omega), Bool.true_and, Bool.false_or])
                      generalize fol l (k : Int) (j : Int) = f at *
                      by_cases hf : 0 ≤ f
                      · have hdf : decide (0 ≤ f) = true := by simp [hf]
                        have HSM : Hid (cntTo l (t.drop i) (befI l k) (j + 1) = cntTo l (t.drop i) (befI l k) j + ((spl l ((t.drop i).drop L) j).length : Int)) := Lib.hid (by rw [HCN.out, HOK2.out, hdf]; rfl)
                        clear HCN HOK HOK2 hbf hf
                        have hb1 : 0 ≤ cntTo l (t.drop i) (befI l k) j := hbd1.1
                        have hb2 : cntTo l (t.drop i) (befI l k) j ≤ 549755813888 := by have := hbd1.2; omega
                        clear hbd1 hend hpp
                        generalize cntTo l (t.drop i) (befI l k) j = c1 at *
                        generalize ((spl l ((t.drop i).drop L) j).length : Int) = c2 at *
                        obtain ⟨hb3, hb4⟩ := hbd2
                        go_wp2_with fail
                        rw [← HWB.out]
                        clear hc0 hc1 hc2
                        refine wp_region_later (by kernel_rfl) (by kernel_rfl) ?_
                        repeat (go_big_quiet_step ((first | (go_at_call 59; first | with_reducible exact Later.call (HEQ2.out _)) | (go_at_call 60; first | with_reducible exact Later.call (HFO.out _)))))
                        refine wpQuiet_nil ?_
                        intro w5 hw'
                        obtain ⟨⟨_, hx5⟩, rfl⟩ := hw'
                        have hX5 := hXB.trans hx5
                        have HR5 := Lib.hid (HRB.out.ext hx5)
                        have HB5 : Hid (BInts w5 g ((rowTo l t i k).set k c1)) := Lib.hid (Blk.ext HBB.out hx5)
                        have hrc5 := hx5.keep hrc
                        have hcg5 := hx5.keep hcg
                        have hce5 := hx5.keep hce
                        have hcx5 := hx5.keep hcx
                        clear hsA hsB hrc hcg hce hcx hbe hbe2
                        have hs5 : ∀ s : Later w5, Ext wA s.w := fun s => hX5.trans s.ext
                        have q0 := fun s : Later w5 => s.ext.keep hrc5
                        have q1 := fun s : Later w5 => s.ext.keep hcg5
                        have q2 := fun s : Later w5 => s.ext.keep hce5
                        have q3 := fun s : Later w5 => s.ext.keep hcx5
                        clear hrc5 hce5 hcx5
                        have hwS : IntKind.i64.wrap (c1 + c2) = c1 + c2 := IntWalk.i64_in _ (by omega)
                        go_wp2_with fail
                        refine wp_region_later_tail 16 (by kernel_rfl) (by kernel_rfl) ?_
                        simp only [List.take_succ_cons, List.take_zero, List.drop_succ_cons, List.drop_zero]
                        repeat (go_big_quiet_step (fail))
                        refine wpQuiet_nil ?_
                        intro w6 hw'
                        obtain ⟨⟨_, hx6⟩, rfl⟩ := hw'
                        clear q0 q1 q2 q3 hs5
                        have hbb6 : BInts w6 g ((rowTo l t i k).set k c1) := Blk.ext HB5.out hx6
                        have hcg6 := hx6.keep hcg5
                        have hf6 := Blk.frozen hbb6 k
                        have HSET := Lib.hid (hbb6.set k (c1 + c2))
                        have HR6 := Lib.hid ((HR5.out.ext hx6).set k (.int .i64 (c1 + c2)))
                        clear hbb6 hcg5 hwS
                        go_wp2_with fail
                        go_roundg (gk-1)
                        case measure => omega
                        case rel => exact ⟨j+1, by omega, by omega, by go_num, (hX5.trans hx6).setCell hgA _ _, HR6.out, by rw [HSM.out]; have h9 := HSET.out; rw [List.set_set] at h9; exact h9⟩
                      · have hdf : decide (0 ≤ f) = false := by simp; omega
                        have HSM : Hid (cntTo l (t.drop i) (befI l k) (j + 1) = cntTo l (t.drop i) (befI l k) j) := Lib.hid (by rw [HCN.out, HOK2.out, hdf, if_neg (by decide), Int.add_zero])
                        clear HCN HOK HOK2 hbf hf hbd1 hbd2 hend hpp hrc hcg hce hcx hbe hbe2
                        go_wp2_with fail
                        rw [← HWB.out]
                        clear hc0 hc1 hc2
                        refine wp_region_later (by kernel_rfl) (by kernel_rfl) ?_
                        repeat (go_big_quiet_step ((first | (go_at_call 59; first | with_reducible exact Later.call (HEQ2.out _)) | (go_at_call 60; first | with_reducible exact Later.call (HFO.out _)))))
                        refine wpQuiet_nil ?_
                        intro w5 hw'
                        obtain ⟨⟨_, hx5⟩, rfl⟩ := hw'
                        clear hsA hsB
                        go_wp2_with fail
                        go_roundg (gk-1)
                        case measure => omega
                        case rel => exact ⟨j+1, by omega, by omega, by go_num, hXB.trans hx5, HRB.out.ext hx5, by rw [HSM.out]; exact Blk.ext HBB.out hx5⟩
                · have hdE : decide ((i : Int) + (L : Int) ≤ (t.length : Int)) = false := by simp; omega
                  have hpl := HPE.out hend
                  have HSM : Hid (cntTo l (t.drop i) (befI l k) (j + 1) = cntTo l (t.drop i) (befI l k) j) := Lib.hid (by rw [HCN.out, HOK.out, hpl, Bool.false_and, if_neg (by decide), Int.add_zero])
                  clear hpl HPL HPE HEQ hend
                  go_wp2_with fail
                  rw [← HWB.out]
                  clear hc0 hc1 hc2
                  refine wp_region_later (by kernel_rfl) (by kernel_rfl) ?_
                  repeat (go_big_quiet_step ((first | (go_at_call 59; first | with_reducible exact Later.call (trivial)))))
                  refine wpQuiet_nil ?_
                  intro w5 hw'
                  obtain ⟨⟨_, hx5⟩, rfl⟩ := hw'
                  clear hsA hsB
                  go_wp2_with fail
                  go_roundg (gk-1)
                  case measure => omega
                  case rel => exact ⟨j+1, by omega, by omega, by go_num, hXB.trans hx5, HRB.out.ext hx5, by rw [HSM.out]; exact Blk.ext HBB.out hx5⟩
              · have hjl : j = l.i.length := by omega
                subst hjl
                have hbb : BInts wr g (rowTo l t i (k + 1)) := by rw [← HNX.out, ← HCA.out]; exact hrt
                clear hrt
                go_wp2_with fail
                go_roundg (g2-1)
                case measure => omega
                case rel => exact ⟨k+1, by omega, by omega, by go_num, hEr, hR, hbb⟩
        · have hkl : k = l.i.length + 1 := by omega
          subst hkl
          rw [rowTo_all] at hrt
          have HGD : Hid (GrD wr A (t.length + 1) 26 3 (fun j => i ≤ j) (gridI (restRow l t)) vs2) := Lib.hid (hR.done (by unfold gridI; rw [List.length_map, restRow_len]) hrt (fun j hj => by
            by_cases e : j = i
            · exact .inr e
            · exact .inl (by show i + 1 ≤ j; have : i ≤ j := hj; omega)))
          clear hrt hR
          go_wp2_with fail
          go_roundg (g1-1)
          case measure => omega
          case rel => exact ⟨i, _, vs2, by omega, by omega, rfl, by go_num, hEr, HGD.out⟩

def countN (l : Lex) (t : List Int) : Int := if textK l t = 0 then cntR l t (-1) else 0
set_option maxHeartbeats 1000000 in
theorem Count_c (iv fv tv : Value) (l : Lex) (t : List Int) (w : World) (h : LexR w iv fv l) (ht : Ints w tv t) : Calls Try.prog 21 #[.agg #[iv, fv], tv] w (RV (.tuple #[.int .i64 (countN l t), .int .i64 (textK l t)]) w) := by
  obtain ⟨wA, hwA⟩ : ∃ wA, wA = w.alloc (.cells #[iv, fv] 25) := ⟨_, rfl⟩
  have hE0 : Ext w wA := by rw [hwA]; exact Ext.alloc _ _
  have k0 : ∀ W, Ext wA W → W.cell? ⟨w.heap.size, 0, none⟩ = some iv := by rw [hwA]; exact kept_alloc w _ _ rfl
  have k1 : ∀ W, Ext wA W → W.cell? ⟨w.heap.size, 1, none⟩ = some fv := by rw [hwA]; exact kept_alloc w _ _ rfl
  have H0 : Ext wA wA := Ext.refl _
  have HR := Lib.hid (h.ext hE0)
  obtain ⟨ai, ci, rfl, hli, hmi, HI⟩ := (h.ext hE0).i.open_
  obtain ⟨af, cf, rfl, hlf, hmf, HF⟩ := Rows.open_ (h.ext hE0).f
  have HT := Lib.hid (ht.ext hE0)
  obtain ⟨at_, ct, rfl, hlt0, hmt0, HTO⟩ := (ht.ext hE0).open_
  have HC1 := Lib.hid (check_c _ _ _ l t wA HR.out HT.out)
  have HW := Lib.hid hwA; clear hwA h ht
  by_cases h0 : textK l t = 0
  · obtain ⟨hl, h12, _⟩ := textK_ok h0
    have hn8 : l.i.length ≤ 8 := hl.n8
    rw [show countN l t = cntR l t (-1) by rw [countN, if_pos h0], h0]
    rw [h0] at HC1
    have HRC := Lib.hid (fun W (hW : Ext wA W) => rests_c _ _ _ l t W (HR.out.ext hW) hl (HT.out.ext hW) h12)
    clear h0 hl
    go_enter Try.func21, Try.ntmps21
    go_wp2_with fail
    rw [← HW.out]
    refine HC1.out.mono ?_; rintro e w1 ⟨rfl, hx1⟩
    go_wp2_with fail
    refine wp_region_peek (Ext wA) (fun _ => True) [] [.look 0, .look 1, .look 5, .look 6, .look 7, .go 2, .go 3, .go 4, .go 8, .go 9, .go 10, .go 11] (by kernel_rfl) (by kernel_rfl) (by intro c a d v w h; cases d <;> exact h) ?_
    have hX1 : Ext wA { w1 with drawn := w1.drawn + 1 } := hx1.trans (drawn_ext w1)
    have hs : ∀ t : InC (Ext wA), Ext wA t.w := fun t => t.h
    generalize { w1 with drawn := w1.drawn + 1 } = W1 at *
    iterate 5 (refine wpPeek_look rfl ‹_› (fun K hK => ?_); go_simp; first | (refine hK _ ?_; clear hK K) | (refine ⟨_, fun _ => rfl, hK _ ?_⟩; clear hK K))
    clear hs
    refine wpPeek_go rfl rfl (fun K hK => ?_)
    go_wp2_with fail
    refine (HRC.out W1 hX1).mono ?_; rintro e W2 ⟨A, vs, rfl, hgd, hx2⟩
    have HX2 := Lib.hid (hX1.trans hx2)
    obtain ⟨g, hv, hbv⟩ := hgd.row 0 (by omega) trivial
    have hcA := hgd.blk.cell hv
    rw [show (gridI (restRow l t) 0).length = l.i.length + 1 by unfold gridI; rw [List.length_map, restRow_len]] at hcA
    have hbi : BInts W2 g (restRow l t 0) := hbv
    have hcg := hbi.cell (i := l.i.length) (by rw [restRow_len]; omega)
    rw [restRow_at (by omega), befI, if_pos rfl, List.drop_zero] at hcg
    clear hbi hbv hgd hv
    generalize cntR l t (-1) = c at *
    have hlI : (l.i.length : Int) < (l.i.length : Int) + 1 := by omega
    go_wp2_with fail
    refine ⟨KeepE.of (fun h => h.trans hx2) (fun _ => trivial), ?_⟩
    iterate 6
      refine wpPeek_go rfl rfl (fun K hK => ?_)
      go_wp2_with fail
      refine ⟨KeepE.refl, ?_⟩
    refine wpPeek_nil ?_
    go_wp2_with fail
    go_ret2
    exact ⟨rfl, hE0.trans HX2.out⟩
  · rw [show countN l t = 0 by rw [countN, if_neg h0]]
    generalize textK l t = k at *
    have hk : (k != 0) = true := by simpa using h0
    clear h0
    go_enter Try.func21, Try.ntmps21
    go_wp2_with fail
    rw [← HW.out]
    refine HC1.out.mono ?_; rintro e w1 ⟨rfl, hx1⟩
    go_wp2_with fail
    go_ret2
    exact ⟨rfl, hE0.trans hx1⟩
end Go.Proofs.Ytgpggmcjggpmpaa
