/- IsCode of the reference. -/
import Derived.Test.YtgpggmcjggpmpaaTagRs
import Derived.Test.YtgpggmcjggpmpaaTagM
namespace Go.Proofs.Ytgpggmcjggpmpaa
open Go.RowKit Go.Shelf
set_option linter.unusedVariables false

/-- what begins hands back -/
def bgV (bb ob cb : Nat) (a b : List Int) : Value := if a.isPrefixOf b then .slice (if cb = a.length then (some ⟨bb, ob, none⟩ : Option Addr) else some ⟨bb, ob + a.length, none⟩) (b.length - a.length) (cb - a.length) else .slice none 0 0
theorem bgV_ints {w : World} {bb ob cb : Nat} {a b : List Int} (hb : Ints w (.slice (some ⟨bb, ob, none⟩) b.length cb) b) (h : a.isPrefixOf b = true) : Ints w (bgV bb ob cb a b) (b.drop a.length) := by
  unfold bgV; rw [if_pos h]
  have hl : a.length ≤ b.length := by rw [List.isPrefixOf_iff_prefix] at h; exact h.length_le
  exact ints_drop hb hl rfl
theorem bgV_form (bb ob cb : Nat) (a b : List Int) : ∃ A n c, bgV bb ob cb a b = .slice A n c := by
  unfold bgV; split
  · exact ⟨_, _, _, rfl⟩
  · exact ⟨_, _, _, rfl⟩
set_option maxHeartbeats 1000000 in
theorem begins_rc (va : Value) (bb ob cb : Nat) (a b : List Int) (w : World) (ha : Ints w va a) (hb : Ints w (.slice (some ⟨bb, ob, none⟩) b.length cb) b) (h1 : 0 < b.length) (h9 : b.length ≤ 1000) :
    Calls Try.prog 77 #[va, .slice (some ⟨bb, ob, none⟩) b.length cb] w (RV (.tuple #[bgV bb ob cb a b, .bool (a.isPrefixOf b)]) w) := by
  by_cases hl : b.length < a.length
  · have hp := pre_not hl
    rw [show bgV bb ob cb a b = .slice none 0 0 by unfold bgV; rw [hp]; rfl, hp]
    obtain ⟨aa, ca, rfl, hla, hma, _⟩ := ha.open_
    obtain ⟨_, _, hv, hlb, hmb, _⟩ := hb.open_
    injection hv with hv1 hv2 hv3; subst hv1 hv3
    have hd : decide ((b.length : Int) < (a.length : Int)) = true := by simp; omega
    clear ha hb hp
    generalize b.length = lb at *
    generalize a.length = la at *
    go_enter Try.func77, Try.ntmps77
    go_wp2_with fail
    go_ret2
    exact ⟨rfl, Ext.refl _⟩
  · have hd : decide ((b.length : Int) < (a.length : Int)) = false := by simp; omega
    have HS := Lib.hid (same_v va (.slice (some ⟨bb, ob, none⟩) a.length cb) a (b.take a.length) w ha (ints_take hb (by omega)))
    rw [pre_take (by omega)] at HS
    obtain ⟨aa, ca, rfl, hla, hma, _⟩ := ha.open_
    obtain ⟨_, _, hv, hlb, hmb, _⟩ := hb.open_
    injection hv with hv1 hv2 hv3; subst hv1 hv3
    have hlI : (a.length : Int) ≤ (b.length : Int) := by omega
    cases hp : a.isPrefixOf b with
    | false =>
      rw [hp] at HS
      rw [show bgV bb ob cb a b = .slice none 0 0 by unfold bgV; rw [hp]; rfl]
      clear ha hb hp
      generalize b.length = lb at *
      generalize a.length = la at *
      go_enter Try.func77, Try.ntmps77
      go_wp2_with fail
      refine HS.out.mono ?_; rintro e w1 ⟨rfl, hx1⟩
      go_wp2_with fail
      go_ret2
      exact ⟨rfl, hx1⟩
    | true =>
      rw [hp] at HS
      have HBV : Hid (bgV bb ob cb a b = .slice (if cb = a.length then (some ⟨bb, ob, none⟩ : Option Addr) else some ⟨bb, ob + a.length, none⟩) (b.length - a.length) (cb - a.length)) := Lib.hid (by unfold bgV; rw [if_pos hp])
      rw [HBV.out]
      clear ha hb hp HBV
      generalize b.length = lb at *
      generalize a.length = la at *
      generalize hA : (if cb = la then (some ⟨bb, ob, none⟩ : Option Addr) else some ⟨bb, ob + la, none⟩) = A
      go_enter Try.func77, Try.ntmps77
      go_wp2_with fail
      refine HS.out.mono ?_; rintro e w1 ⟨rfl, hx1⟩
      go_wp2_with fail
      go_ret2
      exact ⟨rfl, hx1⟩
set_option maxHeartbeats 1000000 in
theorem has_rc (rv xv : Value) (ls : List (List Int)) (x : List Int) (w : World) (hr : Rows w rv ls) (hx : Ints w xv x) : Calls Try.prog 78 #[rv, xv] w (RV (.bool (decide (x ∈ ls))) w) := by
  obtain ⟨ar, cr, rfl, hlr, hmr, HRO⟩ := Rows.open_ hr
  obtain ⟨bv, hbv⟩ : ∃ b, decide (x ∈ ls) = b := ⟨_, rfl⟩
  rw [hbv]
  have HB := Lib.hid hbv; clear hbv
  have HX := Lib.hid hx; clear hx hr
  go_enter Try.func78, Try.ntmps78
  go_wp2_with fail
  go_loopg [5] ls.length (fun m i wr => ∃ k : Nat, k ≤ ls.length ∧ ls.length ≤ k + m ∧ i = .int .i64 k ∧ Ext w wr ∧ Hid (∀ j, j < k → lf ls j ≠ x))
  case atStart => exact ⟨0, by omega, by omega, rfl, Ext.refl _, Lib.hid (fun j hj => by omega)⟩
  case round =>
    obtain ⟨k, hk, hk2, rfl, hX, hE⟩ := hrel
    by_cases hlt : k < ls.length
    · obtain ⟨ba, oa, rfl, u, hc1, hu⟩ := HRO.out k hlt
      replace hc1 := hX.keep hc1
      have HS := Lib.hid (same_v u xv _ x wr (hu.ext hX) (HX.out.ext hX))
      clear hu
      have HL : Hid (ls[k]?.getD [] = lf ls k) := Lib.hid rfl
      rw [HL.out] at HS
      have HM := Lib.hid (lf_mem hlt)
      by_cases he : lf ls k = x
      · rw [decide_eq_true he] at HS
        have HBT : Hid (bv = true) := Lib.hid (by rw [← HB.out, decide_eq_true (by rw [← he]; exact HM.out)])
        rw [HBT.out]
        clear he HL HM
        go_wp2_with fail
        refine HS.out.mono ?_; rintro e w1 ⟨rfl, hx1⟩
        go_wp2_with fail
        go_ret
        exact RV.bool rfl (hX.trans hx1)
      · rw [decide_eq_false he] at HS
        have HE2 : Hid (∀ j, j < k + 1 → lf ls j ≠ x) := Lib.hid (fun j hj => by
          by_cases e : j = k
          · subst e; exact he
          · exact hE.out j (by omega))
        clear he HL HM
        go_wp2_with fail
        refine HS.out.mono ?_; rintro e w1 ⟨rfl, hx1⟩
        go_wp2_with fail
        go_roundg (gk-1)
        case measure => omega
        case rel => exact ⟨k+1, by omega, by omega, by go_num, hX.trans hx1, HE2⟩
    · have hkl : k = ls.length := by omega
      subst hkl
      have HBF : Hid (bv = false) := Lib.hid (by
        rw [← HB.out, decide_eq_false]
        intro hm
        obtain ⟨j, hj, e⟩ := mem_lf hm
        exact hE.out j hj e)
      go_wp2_with fail
      go_ret
      exact RV.bool (by rw [HBF.out]) hX
/-- collected so far: rows of the list's own, of what lay before -/
def PicksT (w0 : World) (v : Value) (ls : List (List Int)) (wr : World) : Prop := Ext w0 wr ∧ ∃ us, wr.ownsRow w0.heap.size 26 1 v us.length us ∧ AllInts w0 us ls
theorem PicksT.nil {w w' : World} (h : Ext w w') : PicksT w (.slice none 0 0) [] w' := ⟨h, [], World.ownsRow_nil _ _ _ _, rfl, fun i u h => by simp at h⟩
theorem PicksT.ext {w0 wr w' : World} {v : Value} {ls : List (List Int)} (h : PicksT w0 v ls wr) (hx : Ext wr w') : PicksT w0 v ls w' := by
  obtain ⟨h1, us, h2, h3⟩ := h
  exact ⟨h1.trans hx, us, ownsRow_ext h2 hx, h3⟩
theorem PicksT.rows {w0 wr : World} {v : Value} {ls : List (List Int)} (h : PicksT w0 v ls wr) : Rows wr v ls := by
  obtain ⟨h1, us, h2, h3⟩ := h
  exact Rows.own (by rw [← h3.1]; exact h2) (h3.ext h1)
theorem PicksT.at_ {w0 wr : World} {v : Value} {ls : List (List Int)} (h : PicksT w0 v ls wr) {k : Nat} (hk : k < ls.length) : ∃ g o cap u, v = .slice (some ⟨g, o, none⟩) ls.length cap ∧ ls.length ≤ cap ∧ cap ≤ 9223372036854775807 ∧ wr.cell? ⟨g, o + k, none⟩ = some u ∧ Ints w0 u (lf ls k) := by
  obtain ⟨a, c, rfl, h3, h4, H⟩ := Rows.open_ h.rows
  obtain ⟨h1, us, h2, h5⟩ := h
  have hS : Sl (.slice a ls.length c) us.length fun i b o => ∃ u, us[i]? = some u ∧ wr.cell? ⟨b, o + i, none⟩ = some u := Sl.own h2 fun i b u hi hu hc => ⟨u, hu, hc⟩
  obtain ⟨a', c', hv, _, _, H2⟩ := hS
  injection hv with hv1 _ hv3; subst hv1 hv3
  have hkl : k < us.length := by rw [h5.1]; exact hk
  obtain ⟨b, o, e, u, hu, hc⟩ := H2 k hkl
  exact ⟨b, o, c, u, by rw [e], h3, h4, hc, h5.2 k u hu⟩
theorem PicksT.len {w0 wr : World} {v : Value} {ls : List (List Int)} (h : PicksT w0 v ls wr) : ∃ a cap, v = .slice a ls.length cap ∧ ls.length ≤ cap ∧ cap ≤ 9223372036854775807 := by
  obtain ⟨a, c, e, h3, h4, _⟩ := Rows.open_ h.rows; exact ⟨a, c, e, h3, h4⟩
/-- append of one row -/
theorem wpList_appendRowT {ops : Array Oper} {rest : List Oper} {o : Oper} {a : Act} {Q : Exit → Act → World → Prop} {W w0 : World} {v u : Value} {g : Nat} {ls : List (List Int)} {l : List Int}
    (hgd : o.guard = none) (s x : Operand) (ho : o.op = .call { callee := .builtin .append, args := #[s, x], argTypes := #[23, 23] })
    (hs : a.eval s = v) (hx : a.eval x = .slice (some ⟨g, 0, none⟩) 1 1) (hc : PicksT w0 v ls W) (hg : W.heap.size = g) (hu : Ints w0 u l) (hn : ls.length ≤ 1000000)
    (h : ∀ v' w', PicksT w0 v' (ls ++ [l]) w' → wpList Try.prog ops Q rest (a.put o.dst v') w') : wpList Try.prog ops Q (o :: rest) a (W.alloc (.cells #[u] 26)) := by
  obtain ⟨h1, us, h2, h3⟩ := hc
  have hlen := h3.1
  refine wpList_append1 elRows hgd s x ho hs hx h2 hg (by obtain ⟨a, c, rfl, _⟩ := hu; rfl) h1.size (by omega) (by omega) ?_
  intro v' w' h4 h5
  exact h v' w' ⟨h1.upto h5 (Nat.le_refl _), us ++ [u], by simpa using h4, h3.snoc hu⟩
theorem tails_six {l : Lex} (h : LexOk l) {o : List Int} (ho : o ∈ tails l) : o.length ≤ 6 := by
  unfold tails at ho
  simp only [List.mem_flatMap, List.mem_map, List.mem_range] at ho
  obtain ⟨j, hj, k, hk, rfl⟩ := ho
  have := (h.wo j hj).2
  have e : wrd l (j : Nat) = (itm l.i j).w := rfl
  rw [List.length_drop, e]; omega
set_option maxHeartbeats 8000000 in
set_option maxRecDepth 100000 in
theorem rIsCode_c (iv fv : Value) (l : Lex) (w : World) (h : LexR w iv fv l) : Calls Try.prog 34 #[.agg #[iv, fv]] w (RV (.tuple #[.bool (isC l), .int .i64 (validL l)]) w) := by
  obtain ⟨wA, hwA⟩ : ∃ wA, wA = w.alloc (.cells #[iv, fv] 25) := ⟨_, rfl⟩
  have hE0 : Ext w wA := by rw [hwA]; exact Ext.alloc _ _
  have k0 : ∀ W, Ext wA W → W.cell? ⟨w.heap.size, 0, none⟩ = some iv := by rw [hwA]; exact kept_alloc w _ _ rfl
  have k1 : ∀ W, Ext wA W → W.cell? ⟨w.heap.size, 1, none⟩ = some fv := by rw [hwA]; exact kept_alloc w _ _ rfl
  have H0 : Ext wA wA := Ext.refl _
  have HR := Lib.hid (h.ext hE0)
  obtain ⟨ai, ci, rfl, hli, hmi, HI⟩ := (h.ext hE0).i.open_
  obtain ⟨af, cf, rfl, hlf, hmf, HF⟩ := Rows.open_ (h.ext hE0).f
  have HV := Lib.hid (rValidate_c _ _ l wA HR.out)
  have hz0 := hE0.size
  have HW := Lib.hid hwA; clear hwA h
  by_cases h0 : validL l = 0
  · have HC := Lib.hid (isC_ok h0)
    have HL := Lib.hid (validL_ok h0)
    have HTL := Lib.hid (fun o (h : o ∈ tails l) => tails_six HL.out h)
    have hn8 : l.i.length ≤ 8 := HL.out.n8
    rw [h0] at HV ⊢
    clear h0
    go_enter Try.func34, Try.ntmps34
    go_wp2_with fail
    rw [← HW.out]
    refine HV.out.mono ?_; rintro e w1 ⟨rfl, hx1⟩
    go_wp2_with fail
    go_loopg [6, 5] l.i.length (fun z ii lv wr => ∃ (i : Nat) (v : Value), v = lv ∧ i ≤ l.i.length ∧ l.i.length ≤ i + z ∧ ii = .int .i64 i ∧ PicksT wA v (leftTo l i 0) wr)
    case atStart => exact ⟨0, _, rfl, by omega, by omega, rfl, PicksT.nil hx1⟩
    case round =>
      clear hx1
      obtain ⟨i, lv, rfl, hi, hiz, rfl, hP⟩ := hrel
      obtain ⟨g1, rfl⟩ : ∃ g : Nat, g = gk := ⟨_, rfl⟩
      have hX := hP.1
      by_cases hwi : i < l.i.length
      · go_wp2_with fail
        go_loopg [7, 5] l.i.length (fun z jj lv wr => ∃ (j : Nat) (v : Value), v = lv ∧ j ≤ l.i.length ∧ l.i.length ≤ j + z ∧ jj = .int .i64 j ∧ PicksT wA v (leftTo l i j) wr)
        case atStart => exact ⟨0, _, rfl, by omega, by omega, rfl, hP⟩
        case round =>
          clear hP hX
          clear lv
          obtain ⟨j, lv, rfl, hj, hjz, rfl, hP⟩ := hrel
          have hX := hP.1
          by_cases hwj : j < l.i.length
          · by_cases hij : i = j
            · have hd : ((i : Int) == (j : Int)) = true := by simp [hij]
              have HLT := Lib.hid (leftTo_none (l := l) (i := i) (j := j) (by unfold firstP; rw [if_pos hij]))
              have HP := Lib.hid hP; clear hP
              clear hij
              go_wp2_with fail
              go_roundg (gk-1)
              case measure => omega
              case rel => exact ⟨j+1, _, rfl, by omega, by omega, by go_num, by rw [HLT.out]; exact HP.out⟩
            · have hd : ((i : Int) == (j : Int)) = false := by simp; omega
              obtain ⟨bi, oi, rfl, uwi, hcwi, huwi, _⟩ := HI.out i hwi
              have HWwi : Hid (wrd l (i : Int) = (itm l.i i).w) := Lib.hid rfl
              have hwlwi := HL.out.wo i hwi
              rw [← HWwi.out] at huwi hwlwi
              obtain ⟨awi, cwi, rfl, hlwi, hmwi, HUwi⟩ := huwi.open_
              obtain ⟨bwi, owi, rfl, _⟩ := HUwi.out 0 (by omega)
              obtain ⟨bi', oi', he, uwj, hcwj, huwj, _⟩ := HI.out j hwj
              injection he with he; injection he with he1 he2; subst he1 he2
              have HWwj : Hid (wrd l (j : Int) = (itm l.i j).w) := Lib.hid rfl
              have hwlwj := HL.out.wo j hwj
              rw [← HWwj.out] at huwj hwlwj
              obtain ⟨awj, cwj, rfl, hlwj, hmwj, HUwj⟩ := huwj.open_
              obtain ⟨bwj, owj, rfl, _⟩ := HUwj.out 0 (by omega)
              have hle := leftTo_len HL.out (i := i) (j := j) (by omega) (by omega)
              have hiI : (i : Int) < (l.i.length : Int) := by omega
              have hjI : (j : Int) < (l.i.length : Int) := by omega
              have HBG := Lib.hid (fun s : Later wr => begins_rc _ _ _ _ _ _ s.w (huwi.ext (hX.trans s.ext)) (huwj.ext (hX.trans s.ext)) (by omega) (by omega))
              have HBI := Lib.hid (bgV_ints (a := wrd l (i : Int)) huwj)
              have HFS : Hid (firstP l i j = if (wrd l (i : Int)).isPrefixOf (wrd l (j : Int)) then some ((wrd l (j : Int)).drop (wrd l (i : Int)).length) else none) := Lib.hid (by unfold firstP; rw [if_neg hij])
              have HLS := Lib.hid (fun x => leftTo_some (l := l) (i := i) (j := j) (x := x))
              have HLN := Lib.hid (leftTo_none (l := l) (i := i) (j := j))
              have q0 := fun s : Later wr => (hX.trans s.ext).keep hcwi
              have q1 := fun s : Later wr => (hX.trans s.ext).keep hcwj
              have hs : ∀ s : Later wr, Ext wA s.w := fun s => hX.trans s.ext
              obtain ⟨Ab, nb, cb, hbg⟩ := bgV_form bwj owj cwj (wrd l (i : Int)) (wrd l (j : Int))
              rw [hbg] at HBG HBI
              clear hbg huwi huwj hij
              have HP := Lib.hid hP; clear hP
              generalize leftTo l i j = left at *
              cases hp : (wrd l (i : Int)).isPrefixOf (wrd l (j : Int)) with
              | false =>
                rw [hp] at HBG HFS
                have HNX := Lib.hid (HLN.out HFS.out)
                clear hp HLS HLN HFS HBI
                generalize (wrd l (i : Int)).length = Li at *
                generalize (wrd l (j : Int)).length = Lj at *
                go_wp2_with fail
                refine wp_region_later (by kernel_rfl) (by kernel_rfl) ?_
                repeat (go_big_quiet_step ((first | (go_at_call 77; first | with_reducible exact Later.call (HBG.out _)))))
                refine wpQuiet_nil ?_
                intro w5 hw'
                obtain ⟨⟨_, hx5⟩, rfl⟩ := hw'
                clear q0 q1 hs HBG
                have hX5 := hX.trans hx5
                go_wp2_with fail
                go_roundg (gk-1)
                case measure => omega
                case rel => exact ⟨j+1, _, rfl, by omega, by omega, by go_num, by rw [HNX.out]; exact HP.out.ext hx5⟩
              | true =>
                rw [hp] at HBG HFS HBI
                have HNX := Lib.hid (HLS.out _ HFS.out)
                have HB2 := Lib.hid (HBI.out rfl)
                clear hp HLS HLN HFS HBI
                generalize (wrd l (j : Int)).drop (wrd l (i : Int)).length = x at *
                generalize (wrd l (i : Int)).length = Li at *
                generalize (wrd l (j : Int)).length = Lj at *
                go_wp2_with fail
                refine wp_region_later (by kernel_rfl) (by kernel_rfl) ?_
                repeat (go_big_quiet_step ((first | (go_at_call 77; first | with_reducible exact Later.call (HBG.out _)))))
                refine wpQuiet_nil ?_
                intro w5 hw'
                obtain ⟨⟨_, hx5⟩, rfl⟩ := hw'
                clear q0 q1 hs HBG
                have hX5 := hX.trans hx5
                have HP5 := Lib.hid (HP.out.ext hx5)
                go_wp2_with (at_builtin; refine wpList_appendRowT rfl _ _ rfl rfl rfl HP5.out rfl HB2.out (by omega) ?_; intro v' w' hp2; have hX6 := hp2.1)
                go_roundg (gk-1)
                case measure => omega
                case rel => exact ⟨j+1, _, rfl, by omega, by omega, by go_num, by rw [HNX.out]; exact hp2⟩
          · have hjl : j = l.i.length := by omega
            subst hjl
            have HLR : Hid (leftTo l i l.i.length = leftTo l (i + 1) 0) := Lib.hid (leftTo_row l i)
            rw [HLR.out] at hP
            have HP := Lib.hid hP; clear hP
            go_wp2_with fail
            go_roundg (g1-1)
            case measure => omega
            case rel => exact ⟨i+1, _, rfl, by omega, by omega, by go_num, HP.out⟩
      · have hil : i = l.i.length := by omega
        subst hil
        have HS0 := Lib.hid (RSrch.start HL.out)
        have HP : Hid (PicksT wA lv (leftTo l l.n 0) wr) := Lib.hid hP
        clear hP
        generalize leftTo l l.n 0 = left0 at *
        go_wp2_with fail
        go_loopg [10, 5] 128 (fun z nn lv wr => ∃ (n : Nat) (left : List (List Int)) (v : Value), v = lv ∧ 128 ≤ n + z ∧ n ≤ left.length ∧ nn = .int .i64 n ∧ PicksT wA v left wr ∧ Hid (RSrch l left n 0))
        case atStart => exact ⟨0, left0, _, rfl, by omega, by omega, rfl, HP.out, HS0⟩
        case round =>
          clear HP HS0 hX
          clear lv left0
          obtain ⟨n, left0, lv, rfl, hnz, hnl, rfl, hP, hS⟩ := hrel
          obtain ⟨g2, rfl⟩ : ∃ g : Nat, g = gk := ⟨_, rfl⟩
          have hlen := hS.out.len HL.out
          have hX := hP.1
          by_cases hn : n < left0.length
          · obtain ⟨g, o, cap, u, rfl, hc1, hc2, hc, hu⟩ := hP.at_ hn
            have hP0 := hP
            have HP := Lib.hid hP0; clear hP0 hP
            obtain ⟨au, cu, rfl, hlu, hmu, _⟩ := hu.open_
            clear hu
            have HNE := Lib.hid (fun h => hS.out.found hn h)
            have HST := Lib.hid (fun L (s : RSrch l L n l.n) (h1 : n < L.length) (h2 : lf L n ≠ []) => s.step h1 h2)
            have HLF : Hid (lf left0 n = lf left0 n) := Lib.hid rfl
            have hnI : (n : Int) < (left0.length : Int) := by omega
            generalize hov : lf left0 n = ov at *
            have HOV := Lib.hid hov; clear hov HLF
            by_cases hne : ov = []
            · have hd : ((ov.length : Int) == 0) = true := by simp [hne]
              have HCF := Lib.hid (codeB_no (HNE.out hne))
              clear hne HNE HST
              go_wp2_with fail
              go_ret2
              exact ⟨by rw [HC.out, HCF.out]; rfl, hE0.trans hX⟩
            · have hd : ((ov.length : Int) == 0) = false := by simp [hne]
              have hop : 0 < ov.length := by
                cases ov with
                | nil => exact absurd rfl hne
                | cons a b => simp
              have HNN := Lib.hid hne
              have hol : ov.length ≤ 6 := HTL.out ov (hS.out.hq _ (by rw [← HOV.out]; exact lf_mem hn)).2
              clear hne HNE
              go_wp2_with fail
              go_loopg [11, 5] l.i.length (fun z ii lv wr => ∃ (i : Nat) (left : List (List Int)) (v : Value), v = lv ∧ i ≤ l.i.length ∧ l.i.length ≤ i + z ∧ ii = .int .i64 i ∧ n < left.length ∧ PicksT wA v left wr ∧ Hid (RSrch l left n i) ∧ Hid (lf left n = ov))
              case atStart => exact ⟨0, left0, _, rfl, by omega, by omega, rfl, hn, HP.out, hS, HOV⟩
              case round =>
                clear HP hS hX hc hn hnI HOV hlu hmu hc1 hc2 hnl hlen
                obtain ⟨i, left, lv, rfl, hi, hiz, rfl, hn, hP, hS, HOV⟩ := hrel
                have hlen := hS.out.len HL.out
                have hX := hP.1
                have hnI : (n : Int) < (left.length : Int) := by omega
                by_cases hwi : i < l.i.length
                · obtain ⟨g', o', cap', u', rfl, hc1, hc2, hc, hu⟩ := hP.at_ hn
                  have HP := Lib.hid hP; clear hP
                  rw [HOV.out] at hu
                  obtain ⟨au', cu', rfl, hlu, hmu, HUO⟩ := hu.open_
                  obtain ⟨bo, oo, rfl, _⟩ := HUO.out 0 hop
                  obtain ⟨bi, oi, rfl, uwi, hcwi, huwi, _⟩ := HI.out i hwi
                  have HWwi : Hid (wrd l (i : Int) = (itm l.i i).w) := Lib.hid rfl
                  have hwlwi := HL.out.wo i hwi
                  rw [← HWwi.out] at huwi hwlwi
                  obtain ⟨awi, cwi, rfl, hlwi, hmwi, HUwi⟩ := huwi.open_
                  obtain ⟨bwi, owi, rfl, _⟩ := HUwi.out 0 (by omega)
                  replace hcwi := hX.keep hcwi
                  have hiI : (i : Int) < (l.i.length : Int) := by omega
                  have HB1 := Lib.hid (fun W (hW : Ext wA W) => begins_rc _ _ _ _ _ _ W (hu.ext hW) (huwi.ext hW) (by omega) (by omega))
                  have HB2 := Lib.hid (fun W (hW : Ext wA W) => begins_rc _ _ _ _ _ _ W (huwi.ext hW) (hu.ext hW) hop (by omega))
                  have HI1 := Lib.hid (bgV_ints (a := ov) huwi)
                  have HI2 := Lib.hid (bgV_ints (a := wrd l (i : Int)) hu)
                  obtain ⟨A1, n1, d1, hb1⟩ := bgV_form bwi owi cwi ov (wrd l (i : Int))
                  rw [hb1] at HB1 HI1
                  obtain ⟨A2, n2, d2, hb2⟩ := bgV_form bo oo cu' (wrd l (i : Int)) ov
                  rw [hb2] at HB2 HI2
                  have HHS := Lib.hid (fun W (hW : Ext wr W) xv x (hx : Ints wA xv x) => has_rc _ xv left x W (HP.out.ext hW).rows (hx.ext (hX.trans hW)))
                  have HKP := Lib.hid (fun h => hS.out.keep h)
                  have HAD := Lib.hid (fun x => hS.out.add (x := x) HL.out hn hwi)
                  have HLA := Lib.hid (fun x => lf_app (x := x) hn)
                  rw [HOV.out] at HKP HAD HLA
                  clear hb1 hb2 huwi hu hS
                  have hcA := hc
                  generalize hww : wrd l (i : Int) = ww at *
                  have HWW := Lib.hid hww; clear hww
                  cases hp1 : ov.isPrefixOf ww with
                  | true =>
                    rw [hp1] at HB1 HI1
                    have HV := Lib.hid (HI1.out rfl)
                    have HOO := Lib.hid (over_one hp1)
                    clear hp1 HI1 HI2 HB2
                    generalize ww.drop ov.length = x at *
                    generalize ww.length = Lw at *
                    generalize ov.length = Lo at *
                    have HHX := Lib.hid (fun W hW => HHS.out W hW _ x HV.out)
                    by_cases hm : x ∈ left
                    · rw [decide_eq_true hm] at HHX
                      have HSN := Lib.hid (HKP.out (fun o ho => by rw [HOO.out] at ho; injection ho with ho; subst ho; exact hm))
                      clear hm HKP HAD HLA HOO HHS
                      go_wp2_with fail
                      refine (HB1.out _ hX).mono ?_; rintro e w5 ⟨rfl, hx5⟩
                      have hX5 := hX.trans hx5
                      have hc5 := hx5.keep hc
                      go_wp2_with fail
                      have hx56 := hx5
                      refine (HHX.out _ hx56).mono ?_; rintro e w7 ⟨rfl, hx7⟩
                      have hx8 := hx56.trans hx7
                      have hX8 := hX.trans hx8
                      go_wp2_with fail
                      go_roundg (gk-1)
                      case measure => omega
                      case rel => exact ⟨i+1, left, _, rfl, by omega, by omega, by go_num, hn, HP.out.ext hx8, HSN, HOV⟩
                    · rw [decide_eq_false hm] at HHX
                      have HSN := Lib.hid (HAD.out x HOO.out hm)
                      have HLX := Lib.hid (HLA.out x)
                      have hnx : n < (left ++ [x]).length := by simp; omega
                      clear hm HKP HAD HLA HOO HHS
                      go_wp2_with fail
                      refine (HB1.out _ hX).mono ?_; rintro e w5 ⟨rfl, hx5⟩
                      have hX5 := hX.trans hx5
                      have hc5 := hx5.keep hc
                      go_wp2_with fail
                      have hx56 := hx5
                      refine (HHX.out _ hx56).mono ?_; rintro e w7 ⟨rfl, hx7⟩
                      have hx8 := hx56.trans hx7
                      have hX8 := hX.trans hx8
                      have HP8 := Lib.hid (HP.out.ext hx8)
                      go_wp2_with (at_builtin; refine wpList_appendRowT rfl _ _ rfl rfl rfl HP8.out rfl HV.out (by omega) ?_; intro v' w' hp2; have hX9 := hp2.1)
                      go_roundg (gk-1)
                      case measure => omega
                      case rel => exact ⟨i+1, left ++ [x], _, rfl, by omega, by omega, by go_num, hnx, hp2, HSN, HLX⟩
                  | false =>
                    rw [hp1] at HB1
                    cases hp2 : ww.isPrefixOf ov with
                    | true =>
                      rw [hp2] at HB2 HI2
                      have HV := Lib.hid (HI2.out rfl)
                      have HOO := Lib.hid (over_two hp1 hp2)
                      clear hp1 hp2 HI1 HI2
                      generalize ov.drop ww.length = x at *
                      generalize ww.length = Lw at *
                      generalize ov.length = Lo at *
                      have HHX := Lib.hid (fun W hW => HHS.out W hW _ x HV.out)
                      by_cases hm : x ∈ left
                      · rw [decide_eq_true hm] at HHX
                        have HSN := Lib.hid (HKP.out (fun o ho => by rw [HOO.out] at ho; injection ho with ho; subst ho; exact hm))
                        clear hm HKP HAD HLA HOO HHS
                        go_wp2_with fail
                        refine (HB1.out _ hX).mono ?_; rintro e w5 ⟨rfl, hx5⟩
                        have hX5 := hX.trans hx5
                        have hc5 := hx5.keep hc
                        go_wp2_with fail
                        refine (HB2.out _ hX5).mono ?_; rintro e w6 ⟨rfl, hx6⟩
                        have hX6 := hX5.trans hx6
                        have hx56 := hx5.trans hx6
                        go_wp2_with fail
                        refine (HHX.out _ hx56).mono ?_; rintro e w7 ⟨rfl, hx7⟩
                        have hx8 := hx56.trans hx7
                        have hX8 := hX.trans hx8
                        go_wp2_with fail
                        go_roundg (gk-1)
                        case measure => omega
                        case rel => exact ⟨i+1, left, _, rfl, by omega, by omega, by go_num, hn, HP.out.ext hx8, HSN, HOV⟩
                      · rw [decide_eq_false hm] at HHX
                        have HSN := Lib.hid (HAD.out x HOO.out hm)
                        have HLX := Lib.hid (HLA.out x)
                        have hnx : n < (left ++ [x]).length := by simp; omega
                        clear hm HKP HAD HLA HOO HHS
                        go_wp2_with fail
                        refine (HB1.out _ hX).mono ?_; rintro e w5 ⟨rfl, hx5⟩
                        have hX5 := hX.trans hx5
                        have hc5 := hx5.keep hc
                        go_wp2_with fail
                        refine (HB2.out _ hX5).mono ?_; rintro e w6 ⟨rfl, hx6⟩
                        have hX6 := hX5.trans hx6
                        have hx56 := hx5.trans hx6
                        go_wp2_with fail
                        refine (HHX.out _ hx56).mono ?_; rintro e w7 ⟨rfl, hx7⟩
                        have hx8 := hx56.trans hx7
                        have hX8 := hX.trans hx8
                        have HP8 := Lib.hid (HP.out.ext hx8)
                        go_wp2_with (at_builtin; refine wpList_appendRowT rfl _ _ rfl rfl rfl HP8.out rfl HV.out (by omega) ?_; intro v' w' hp2; have hX9 := hp2.1)
                        go_roundg (gk-1)
                        case measure => omega
                        case rel => exact ⟨i+1, left ++ [x], _, rfl, by omega, by omega, by go_num, hnx, hp2, HSN, HLX⟩
                    | false =>
                      rw [hp2] at HB2
                      have HSN := Lib.hid (HKP.out (fun o ho => by rw [over_not hp1 hp2] at ho; cases ho))
                      clear hp1 hp2 HI1 HI2
                      generalize ww.length = Lw at *
                      generalize ov.length = Lo at *
                      go_wp2_with fail
                      refine (HB1.out _ hX).mono ?_; rintro e w5 ⟨rfl, hx5⟩
                      have hX5 := hX.trans hx5
                      have hc5 := hx5.keep hc
                      go_wp2_with fail
                      refine (HB2.out _ hX5).mono ?_; rintro e w6 ⟨rfl, hx6⟩
                      have hX6 := hX5.trans hx6
                      go_wp2_with fail
                      go_roundg (gk-1)
                      case measure => omega
                      case rel => exact ⟨i+1, left, _, rfl, by omega, by omega, by go_num, hn, HP.out.ext (hx5.trans hx6), HSN, HOV⟩
                · have hil : i = l.i.length := by omega
                  subst hil
                  obtain ⟨al, cl, rfl, _, _⟩ := hP.len
                  have HP := Lib.hid hP; clear hP
                  have HSX := Lib.hid (HST.out left hS.out hn (by rw [HOV.out]; exact HNN.out))
                  clear hS
                  go_wp2_with fail
                  go_roundg (g2-1)
                  case measure => omega
                  case rel => exact ⟨n+1, left, _, rfl, by omega, by omega, by go_num, HP.out, HSX⟩
          · obtain ⟨al, cl, rfl, _, _⟩ := hP.len
            have hnn : n = left0.length := by omega
            subst hnn
            have HCT := Lib.hid (codeB_yes (hS.out.end_ HL.out))
            clear hS hP
            go_wp2_with fail
            go_ret2
            exact ⟨by rw [HC.out, HCT.out]; rfl, hE0.trans hX⟩
  · rw [isC_bad h0]
    generalize validL l = k at *
    have hk : (k != 0) = true := by simpa using h0
    clear h0
    go_enter Try.func34, Try.ntmps34
    go_wp2_with fail
    rw [← HW.out]
    refine HV.out.mono ?_; rintro e w1 ⟨rfl, hx1⟩
    go_wp2_with fail
    go_ret2
    exact ⟨rfl, hE0.trans hx1⟩
end Go.Proofs.Ytgpggmcjggpmpaa
