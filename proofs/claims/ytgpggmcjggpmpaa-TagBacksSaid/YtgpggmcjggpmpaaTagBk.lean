/- The lexicon turned round: Back of the program. -/
import Derived.Test.YtgpggmcjggpmpaaTagCf
import Derived.Test.YtgpggmcjggpmpaaTagB
import Derived.Test.YtgpggmcjggpmpaaRev
namespace Go.Proofs.Ytgpggmcjggpmpaa
open Go.RowKit Go.Shelf Go.Sort
set_option linter.unusedVariables false

/-- a list of one's own, turned round in place: nothing else is written -/
theorem reverse_own (v : Value) (l : List Int) (w : World) (B : Nat) (h : OInts 3 w B v l) :
    Calls Try.prog 64 #[v] w fun e w' => e = .returned (.tuple #[]) ∧ OInts 3 w' B v l.reverse ∧ w.grownBy w' v.ownBlock := by
  have h0 := h
  rcases h.2 with ⟨rfl, hl⟩ | ⟨g, cap, cur, rfl, hg, hh, hnc, hm, hcs, ht⟩
  · obtain rfl : l = [] := List.length_eq_zero_iff.1 hl
    refine (reverse_empty _ _ w).mono ?_
    rintro e w' ⟨rfl, rfl⟩
    exact ⟨rfl, h0, ⟨rfl, rfl, rfl, Nat.le_refl _, fun _ _ _ => rfl⟩⟩
  · have hr := reverse_arr g 0 cap l.toArray w (holds_own h0) (by have h9 : cap ≤ 9223372036854775807 := hm; rw [List.size_toArray]; omega)
    rw [List.size_toArray] at hr
    refine hr.mono ?_
    rintro e w' ⟨rfl, n, rfl⟩
    rw [List.reverse_toArray]
    refine ⟨rfl, putRow_own h0 (by simp) n, ⟨rfl, rfl, rfl, by simp [putRow, mapBlock, Sort.ahead], fun k hk hne => ?_⟩⟩
    simp only [putRow, mapBlock, Sort.ahead, Array.getElem?_modify]
    rw [if_neg (by rintro rfl; exact hne rfl)]
def revX (x : Itm) : Itm := ⟨x.w.reverse, x.k, x.c⟩
def revI (is : List Itm) (k : Nat) : List Itm := (is.take k).map revX ++ is.drop k
theorem revI_zero (is : List Itm) : revI is 0 = is := by simp [revI]
theorem revI_all (is : List Itm) : revI is is.length = is.map revX := by simp [revI]
theorem revI_len (is : List Itm) (k : Nat) : (revI is k).length = is.length := by simp [revI]; omega
theorem revI_at {is : List Itm} {k : Nat} (h : k < is.length) : itm (revI is k) k = itm is k := by
  unfold itm revI
  rw [List.getElem?_append_right (by simp; omega), List.getElem?_drop]
  congr 2
  simp; omega
theorem revI_next {is : List Itm} {k : Nat} (h : k < is.length) : (revI is k).set k (revX (itm is k)) = revI is (k + 1) := by
  unfold revI
  have hl : ((is.take k).map revX).length = k := by simp; omega
  rw [List.set_append_right _ _ (by omega), hl, Nat.sub_self, List.drop_eq_getElem_cons h, List.set_cons_zero, List.take_add_one, List.getElem?_eq_getElem h, List.map_append, List.append_assoc, itm_lt h]
  rfl
def tRow (f : List (List Int)) (i : Nat) : List Int := (List.range (f[i]?.getD []).length).map fun k => (f[k]?.getD [])[i]?.getD 0
def tTo (f : List (List Int)) (i : Nat) : List (List Int) := (List.range i).map (tRow f) ++ f.drop i
def tPart (f : List (List Int)) (i k : Nat) : List Int := (tRow f i).take k ++ (f[i]?.getD []).drop k
theorem tRow_len (f : List (List Int)) (i : Nat) : (tRow f i).length = (f[i]?.getD []).length := by simp [tRow]
theorem tRow_at {f : List (List Int)} {i k : Nat} (h : k < (f[i]?.getD []).length) : (tRow f i)[k]? = some ((f[k]?.getD [])[i]?.getD 0) := by
  unfold tRow; rw [List.getElem?_map, List.getElem?_range h]; rfl
theorem tTo_zero (f : List (List Int)) : tTo f 0 = f := by simp [tTo]
theorem tTo_all (f : List (List Int)) : tTo f f.length = turnF f := by unfold tTo turnF; rw [List.drop_length, List.append_nil]; rfl
theorem tTo_len {f : List (List Int)} {i : Nat} (h : i ≤ f.length) : (tTo f i).length = f.length := by simp [tTo]; omega
theorem tTo_at {f : List (List Int)} {i : Nat} (h : i < f.length) : (tTo f i)[i]?.getD [] = f[i]?.getD [] := by
  unfold tTo
  rw [List.getElem?_append_right (by simp), List.getElem?_drop]
  congr 2
  simp
theorem tTo_next {f : List (List Int)} {i : Nat} (h : i < f.length) : (tTo f i).set i (tRow f i) = tTo f (i + 1) := by
  unfold tTo
  have hl : ((List.range i).map (tRow f)).length = i := by simp
  rw [List.set_append_right _ _ (by omega), hl, Nat.sub_self, List.drop_eq_getElem_cons h, List.set_cons_zero, show List.range (i + 1) = List.range i ++ [i] from List.range_succ, List.map_append, List.append_assoc]
  rfl
theorem tPart_len {f : List (List Int)} {i k : Nat} (h : k ≤ (f[i]?.getD []).length) : (tPart f i k).length = (f[i]?.getD []).length := by
  unfold tPart; rw [List.length_append, List.length_take, tRow_len, List.length_drop]; omega
theorem tPart_next {f : List (List Int)} {i k : Nat} (h : k < (f[i]?.getD []).length) : (tPart f i k).set k ((f[k]?.getD [])[i]?.getD 0) = tPart f i (k + 1) := by
  unfold tPart
  have hl : ((tRow f i).take k).length = k := by rw [List.length_take, tRow_len]; omega
  rw [List.set_append_right _ _ (by omega), hl, Nat.sub_self, List.drop_eq_getElem_cons h, List.set_cons_zero, List.take_add_one, tRow_at h, List.append_assoc]
  rfl
theorem tPart_all {f : List (List Int)} {i : Nat} : tPart f i (f[i]?.getD []).length = tRow f i := by
  unfold tPart; rw [List.drop_length, List.append_nil, ← tRow_len, List.take_length]
theorem tPart_zero (f : List (List Int)) (i : Nat) : tPart f i 0 = f[i]?.getD [] := by simp [tPart]
theorem back_eq (l : Lex) : backX l = ⟨l.i.map revX, turnF l.f⟩ := rfl
/-- what Back answers -/
def backL (l : Lex) : Lex := if validL l = 0 then backX l else ⟨[], []⟩
/-- a word is turned round -/
theorem FSt.rev {wA w w' : World} {G a g cap : Nat} {iv fv : Value} {l : Lex} {us vs : List Value} (h : FSt wA w G iv fv l us vs) (hu : us[a]? = some (.slice (some ⟨g, 0, none⟩) (itm l.i a).w.length cap)) (hgr : w.grownBy w' (some g)) (hg : wA.heap.size ≤ g)
    (ha : OInts 3 w' wA.heap.size (.slice (some ⟨g, 0, none⟩) (itm l.i a).w.length cap) (itm l.i a).w.reverse) : FSt wA w' G iv fv ⟨l.i.set a (revX (itm l.i a)), l.f⟩ us vs := by
  have hou := h.l.wi.2 a _ hu
  exact ⟨grown_below h.x hgr (fun r e1 => by injection e1 with e1; omega), h.o.kept hgr (fun e1 => by injection e1 with e1; exact (h.o.notInt hou rfl) e1.symm), h.l.updI hu rfl hgr ha⟩
set_option maxHeartbeats 8000000 in
set_option maxRecDepth 100000 in
theorem Back_c (iv fv : Value) (l : Lex) (w : World) (h : LexR w iv fv l) : Calls Try.prog 46 #[.agg #[iv, fv]] w (RLexE (backL l) (validL l) w) := by
  obtain ⟨wL, hwL⟩ : ∃ wL, wL = w.alloc (.cells #[iv, fv] 25) := ⟨_, rfl⟩
  have hEL : Ext w wL := by rw [hwL]; exact Ext.alloc _ _
  have hzL : wL.heap.size = w.heap.size + 1 := by rw [hwL]; simp
  obtain ⟨wA, hwA⟩ : ∃ wA, wA = wL.alloc (.cells #[.slice none 0 0, .slice none 0 0] 25) := ⟨_, rfl⟩
  have hEA : Ext wL wA := by rw [hwA]; exact Ext.alloc _ _
  have hE0 : Ext w wA := hEL.trans hEA
  have k0 : ∀ W, Ext wA W → W.cell? ⟨w.heap.size, 0, none⟩ = some iv := by rw [hwL] at hEA; exact fun W hW => kept_alloc w _ _ rfl W (hEA.trans hW)
  have k1 : ∀ W, Ext wA W → W.cell? ⟨w.heap.size, 1, none⟩ = some fv := by rw [hwL] at hEA; exact fun W hW => kept_alloc w _ _ rfl W (hEA.trans hW)
  have HB0 : Hid (Blk wA (w.heap.size + 1) 25 [.slice none 0 0, .slice none 0 0]) := Lib.hid (by rw [hwA, ← hzL]; exact Blk.alloc _ _ _)
  have H0 : Ext wA wA := Ext.refl _
  have HWW : Hid (wA = (w.alloc (.cells #[iv, fv] 25)).alloc (.cells #[.slice none 0 0, .slice none 0 0] 25)) := Lib.hid (by rw [hwA, hwL])
  have hzA : wA.heap.size = w.heap.size + 1 + 1 := by rw [hwA]; simp [hzL]
  have HR := Lib.hid (h.ext hE0)
  obtain ⟨ai, ci, rfl, hli, hmi, HI⟩ := (h.ext hE0).i.open_
  obtain ⟨af, cf, rfl, hlf, hmf, HF⟩ := Rows.open_ (h.ext hE0).f
  have HZA := Lib.hid hzA
  clear hwL hwA hzL hEA hEL wL h hzA
  have HV := Lib.hid (Validate_c _ _ l wA HR.out)
  by_cases h0 : validL l = 0
  · have hl := validL_ok h0
    have HL := Lib.hid hl
    have HCP := Lib.hid (fun W (hW : Ext wA W) => copied_c _ _ l W (HR.out.ext hW) (copy_bounds hl))
    have hn1 : 0 < l.i.length := hl.n1
    have hn8 : l.i.length ≤ 8 := hl.n8
    have hf4 : l.f.length = 4 := hl.f4
    have hf0 : 0 < l.f.length := by omega
    have HRL : Hid (∀ a, a < l.f.length → (l.f[a]?.getD []).length = 4) := Lib.hid (fun a ha => (hl.ff a (by omega)).1)
    have hr0 : 0 < (l.f[0]?.getD []).length := by rw [HRL.out 0 hf0]; omega
    have HF4 := Lib.hid hf4
    have hf4i : l.f.length ≤ 4 := by omega
    have HFE : Hid (backL l = ⟨l.i.map revX, turnF l.f⟩) := Lib.hid (by unfold backL; rw [if_pos h0]; rfl)
    rw [h0] at HV
    rw [h0, HFE.out]
    clear h0 hl hf4
    go_enter Try.func46, Try.ntmps46
    go_wp2_with fail
    rw [← HWW.out]
    refine HV.out.mono ?_; rintro e w1 ⟨rfl, hx1⟩
    go_wp2_with fail
    refine (HCP.out w1 hx1).mono ?_; rintro e w2 ⟨iv, fv, rfl, ho2, hx2⟩
    obtain ⟨us, vs, hF⟩ := FSt.begin hx1 hx2 ho2
    clear ho2
    obtain ⟨gi, ci2, u0, rfl, _, hmi2, hgi, _⟩ := hF.l.spotI (j := 0) hn1
    obtain ⟨gf, cf2, g0, cg0, rfl, _, hmf2, _⟩ := hF.l.spotF (a := 0) hf0 hr0
    have HG := Lib.hid hF.o.lt
    have hX3 := hF.x
    have HFS := Lib.hid hF; clear hF hx2
    have hb0 := HFS.out.o
    have c0 := hb0.cell (i := 0) rfl
    clear hb0
    go_wp2_with fail
    clear c0
    go_loopg [21] l.i.length (fun z jj wr => ∃ k : Nat, k ≤ l.i.length ∧ l.i.length ≤ k + z ∧ jj = .int .i64 k ∧ FSt wA wr w2.heap.size (.slice (some ⟨gi, 0, none⟩) l.i.length ci2) (.slice (some ⟨gf, 0, none⟩) l.f.length cf2) ⟨revI l.i k, l.f⟩ us vs)
    case atStart => exact ⟨0, by omega, by omega, rfl, by rw [revI_zero]; exact HFS.out⟩
    case round =>
      clear HFS hX3
      obtain ⟨k, hk, hkz, rfl, hS⟩ := hrel
      have hX := hS.x
      by_cases hlt : k < l.i.length
      · have hzk := revI_at hlt
        obtain ⟨u, hu, hou, hc0, hc1, hc2, _⟩ := hS.l.spotI2 (j := k) (by show k < (revI l.i k).length; rw [revI_len]; exact hlt)
        have e1 : itm (Lex.mk (revI l.i k) l.f).i k = itm l.i k := hzk
        rw [e1] at hou hc1 hc2
        have hw1 := HL.out.wo k hlt
        obtain ⟨g, cap, rfl, hcap, hmcap, hgB, _, _, _⟩ := hou.spot (i := 0) (by omega)
        have hkI : (k : Int) < (l.i.length : Int) := by omega
        have hrv := fun W h => reverse_own (.slice (some ⟨g, 0, none⟩) (itm l.i k).w.length cap) (itm l.i k).w W wA.heap.size h
        have HRV := Lib.hid hrv; clear hrv
        have hpos : 0 < (itm l.i k).w.length := by omega
        have hw6 : (itm l.i k).w.length ≤ 6 := hw1.2
        have HNX : Hid ((revI l.i k).set k (revX (itm l.i k)) = revI l.i (k + 1)) := Lib.hid (revI_next hlt)
        have HREV := Lib.hid (fun W w' (h : FSt wA W w2.heap.size (.slice (some ⟨gi, 0, none⟩) l.i.length ci2) (.slice (some ⟨gf, 0, none⟩) l.f.length cf2) ⟨revI l.i k, l.f⟩ us vs) hgr ha => h.rev (w' := w') (a := k) (g := g) (cap := cap) (by rw [e1]; exact hu) hgr hgB (by rw [e1]; exact ha))
        rw [show (Lex.mk (revI l.i k) l.f).i.set k (revX (itm (Lex.mk (revI l.i k) l.f).i k)) = (revI l.i k).set k (revX (itm l.i k)) by rw [e1], HNX.out] at HREV
        have HOU := Lib.hid hou
        have HS := Lib.hid hS
        clear hou hu hw1 hzk e1 hS
        obtain ⟨xk, hxk⟩ : ∃ x, x = (itm l.i k).k := ⟨_, rfl⟩
        obtain ⟨xc, hxc⟩ : ∃ x, x = (itm l.i k).c := ⟨_, rfl⟩
        rw [← hxk] at hc1
        rw [← hxc] at hc2
        clear hxk hxc
        generalize hLL : (itm l.i k).w.length = L at *
        have HLL := Lib.hid hLL; clear hLL
        have hEB : Ext wr (wr.alloc (.cells #[.slice (some ⟨g, 0, none⟩) L cap, .int .i64 xk, .int .i64 xc] 28)) := Ext.alloc _ _
        have HOB := Lib.hid (HOU.out.ext hEB)
        have HSB := Lib.hid (HS.out.ext hEB)
        go_wp2_with fail
        refine (HRV.out _ HOB.out).mono ?_; rintro e w5 ⟨rfl, ho5, hg5⟩
        have HS5 := Lib.hid (HREV.out _ w5 HSB.out hg5 ho5)
        clear ho5 hg5 HREV HRV HOB HSB HOU HS hc0 hc1 hc2
        go_wp2_with fail
        go_roundg (gk-1)
        case measure => omega
        case rel => exact ⟨k+1, by omega, by omega, by go_num, HS5.out⟩
      · have hkl : k = l.i.length := by omega
        subst hkl
        rw [revI_all] at hS
        have HS := Lib.hid hS
        have c1 := hS.o.cell (i := 1) rfl
        clear hS
        go_wp2_with fail
        clear c1
        go_loopg [32] l.f.length (fun z jj wr => ∃ a : Nat, a ≤ l.f.length ∧ l.f.length ≤ a + z ∧ jj = .int .i64 a ∧ ∃ us, FSt wA wr w2.heap.size (.slice (some ⟨gi, 0, none⟩) l.i.length ci2) (.slice (some ⟨gf, 0, none⟩) l.f.length cf2) ⟨l.i.map revX, tTo l.f a⟩ us vs)
        case atStart => exact ⟨0, by omega, by omega, rfl, us, by rw [tTo_zero]; exact HS.out⟩
        case round =>
          clear HS hX
          obtain ⟨a, ha, haz, rfl, us, hS⟩ := hrel
          obtain ⟨g1, rfl⟩ : ∃ g : Nat, g = gk := ⟨_, rfl⟩
          have hX := hS.x
          have d1 := hS.o.cell (i := 1) rfl
          have HS := Lib.hid hS
          by_cases hlt : a < l.f.length
          · have haI : (a : Int) < (l.f.length : Int) := by omega
            have hza := tTo_at hlt
            have hzl : a < (tTo l.f a).length := by rw [tTo_len (by omega)]; exact hlt
            have hr4 := HRL.out a hlt
            obtain ⟨g, cg, hcell, hcg, hmg, hgB, hvs, hou⟩ := hS.l.spotF2 (a := a) hzl (by show 0 < ((tTo l.f a)[a]?.getD []).length; rw [hza, hr4]; omega)
            rw [show (Lex.mk (l.i.map revX) (tTo l.f a)).f[a]?.getD [] = l.f[a]?.getD [] from hza, hr4] at hcell hcg
            clear hou hvs hS hza
            go_wp2_with fail
            clear d1 hcell
            go_loopg [41] 4 (fun z ii wr => ∃ b : Nat, b ≤ 4 ∧ 4 ≤ b + z ∧ ii = .int .i64 b ∧ FSt wA wr w2.heap.size (.slice (some ⟨gi, 0, none⟩) l.i.length ci2) (.slice (some ⟨gf, 0, none⟩) l.f.length cf2) ⟨l.i.map revX, (tTo l.f a).set a (tPart l.f a b)⟩ us vs)
            case atStart =>
              refine ⟨0, by omega, by omega, rfl, ?_⟩
              have e : (tTo l.f a).set a (tPart l.f a 0) = tTo l.f a := by
                apply set_self
                have h1 := tTo_at hlt
                rw [List.getElem?_eq_getElem hzl, Option.getD_some] at h1
                rw [List.getElem?_eq_getElem hzl, h1, tPart_zero]
              rw [e]; exact HS.out
            case round =>
              clear HS hX
              obtain ⟨b, hb, hbz, rfl, hS⟩ := hrel
              have hX := hS.x
              have e1 : (Lex.mk (l.i.map revX) ((tTo l.f a).set a (tPart l.f a b))).f[a]?.getD [] = tPart l.f a b := by
                show ((tTo l.f a).set a _)[a]?.getD [] = _
                rw [List.getElem?_set_self hzl]; rfl
              have e2 : (tPart l.f a b).length = 4 := by rw [tPart_len (by omega)]; exact hr4
              obtain ⟨g2, cg2, hcell, hcg2, hmg2, hgB2, hvs, hou⟩ := hS.l.spotF2 (a := a) (by show a < ((tTo l.f a).set a _).length; rw [List.length_set]; exact hzl) (by rw [e1, e2]; omega)
              have d1 := hS.o.cell (i := 1) rfl
              by_cases hb4 : b < 4
              · have hbl : b < l.f.length := by have := HF4.out; omega
                obtain ⟨bf, of, rfl, uf, hcf, huf⟩ := HF.out b hbl
                replace hcf := hX.keep hcf
                obtain ⟨auf, cuf, hufv, _, _, HUF⟩ := huf.open_
                have hrb := HRL.out b hbl
                have ha4 : a < 4 := by have := HF4.out; omega
                obtain ⟨bu, ou, rfl, hcu⟩ := HUF.out a (by rw [hrb]; exact ha4)
                subst hufv
                rw [hrb] at hcf
                replace hcu := hX.keep hcu
                have hst := hS.setF (a := a) (i := b) hvs hgB2 (by rw [e1, e2]; exact hb4) ((l.f[b]?.getD [])[a]?.getD 0)
                rw [e1] at hst
                have e3 : (Lex.mk (l.i.map revX) ((tTo l.f a).set a (tPart l.f a b))).f.set a ((tPart l.f a b).set b ((l.f[b]?.getD [])[a]?.getD 0)) = (tTo l.f a).set a (tPart l.f a (b + 1)) := by
                  show ((tTo l.f a).set a _).set a _ = _
                  rw [List.set_set, tPart_next (by omega)]
                rw [e3] at hst
                obtain ⟨hc, hf⟩ := hou.spot2 (i := b) (by rw [e1, e2]; exact hb4)
                rw [e1, e2] at hcell hcg2
                have HXN0 : (tPart l.f a b).set b ((l.f[b]?.getD [])[a]?.getD 0) = tPart l.f a (b + 1) := tPart_next (by omega)
                generalize (l.f[b]?.getD [])[a]?.getD 0 = x at *
                have HXN := Lib.hid HXN0; clear HXN0
                have hbI : (b : Int) < (l.f.length : Int) := by omega
                have hbJ : (b : Int) < 4 := by omega
                have haJ : (a : Int) < 4 := by omega
                have hs : ∀ s : Later wr, Ext wA s.w := fun s => hX.trans s.ext
                have q0 := fun s : Later wr => s.ext.keep d1
                have q1 := fun s : Later wr => s.ext.keep hcell
                have q2 := fun s : Later wr => s.ext.keep hcf
                have q3 := fun s : Later wr => s.ext.keep hcu
                have HSS := Lib.hid hS
                have HVS := Lib.hid hvs
                clear hou hS e3 hst huf HUF hr4 hrb hvs
                go_wp2_with fail
                refine wp_region_later_tail 15 (by kernel_rfl) (by kernel_rfl) ?_
                simp only [List.take_succ_cons, List.take_zero, List.drop_succ_cons, List.drop_zero]
                repeat (go_big_quiet_step (fail))
                refine wpQuiet_nil ?_
                intro w6 hw'
                obtain ⟨⟨_, hx6⟩, rfl⟩ := hw'
                clear q0 q1 q2 q3 hs d1 hcell hcf hcu
                have hc6 := hx6.keep hc
                have hst6 := (HSS.out.ext hx6).setF (a := a) (i := b) HVS.out hgB2 (by rw [e1, e2]; exact hb4) x
                rw [e1] at hst6
                have hf6 : w6.frozen? ⟨g2, b, none⟩ = false := ((HSS.out.ext hx6).l.wf.2 a _ HVS.out).spot2 (i := b) (by show b < ((Lex.mk (l.i.map revX) ((tTo l.f a).set a (tPart l.f a b))).f[a]?.getD []).length; rw [e1, e2]; exact hb4) |>.2
                have e3 : (Lex.mk (l.i.map revX) ((tTo l.f a).set a (tPart l.f a b))).f.set a ((tPart l.f a b).set b x) = (tTo l.f a).set a ((tPart l.f a b).set b x) := by
                  show ((tTo l.f a).set a _).set a _ = _
                  rw [List.set_set]
                rw [e3] at hst6
                have HST := Lib.hid hst6
                clear hst6 e1 e2 e3 hc hf
                go_wp2_with fail
                go_roundg (gk-1)
                case measure => omega
                case rel => exact ⟨b+1, by omega, by omega, by go_num, by rw [← HXN.out]; exact HST.out⟩
              · have hb4' : b = 4 := by omega
                subst hb4'
                have e3 : (tTo l.f a).set a (tPart l.f a 4) = tTo l.f (a + 1) := by
                  rw [← tTo_next hlt, ← hr4, tPart_all]
                rw [e1, e2] at hcell
                rw [e3] at hS
                have HS := Lib.hid hS
                clear hou hvs hS e1 e2 e3 hr4 hcg2
                go_wp2_with fail
                go_roundg (g1-1)
                case measure => omega
                case rel => exact ⟨a+1, by omega, by omega, by go_num, us, HS.out⟩
          · have hal : a = l.f.length := by omega
            subst hal
            rw [tTo_all] at HS
            have d0 := HS.out.o.cell (i := 0) rfl
            have HO := Lib.hid HS.out.l
            clear hS
            have hrb := HB0.out.ext (hX)
            have hrz : w.heap.size ≤ wA.heap.size := hE0.size
            have r0 := hrb.cell (i := 0) rfl
            have r1 := hrb.cell (i := 1) rfl
            have rf0 := hrb.frozen 0
            have rf1 := hrb.frozen 1
            have hr2 : Blk ((wr.setCell ⟨w.heap.size + 1, 0, none⟩ (.slice (some ⟨gi, 0, none⟩) l.i.length ci2)).setCell ⟨w.heap.size + 1, 1, none⟩ (.slice (some ⟨gf, 0, none⟩) l.f.length cf2)) (w.heap.size + 1) 25 [(.slice (some ⟨gi, 0, none⟩) l.i.length ci2), (.slice (some ⟨gf, 0, none⟩) l.f.length cf2)] := by have := (hrb.set 0 (.slice (some ⟨gi, 0, none⟩) l.i.length ci2)).set 1 (.slice (some ⟨gf, 0, none⟩) l.f.length cf2); exact this
            have e0 := hr2.cell (i := 0) rfl
            have e1 := hr2.cell (i := 1) rfl
            have hO1 := (HO.out).keptN (grownBy_set wr (w.heap.size + 1) 0 (.slice (some ⟨gi, 0, none⟩) l.i.length ci2)) hrb ⟨by decide, by decide, by decide⟩
            have hO2 := hO1.keptN (grownBy_set _ (w.heap.size + 1) 1 (.slice (some ⟨gf, 0, none⟩) l.f.length cf2)) (by have := hrb.set 0 (.slice (some ⟨gi, 0, none⟩) l.i.length ci2); exact this) ⟨by decide, by decide, by decide⟩
            have HOL := Lib.hid (OLex.low ⟨_, _, hO2⟩ hrz)
            have HXE := Lib.hid (((hE0.trans (hX)).setCell (by omega : w.heap.size ≤ w.heap.size + 1) 0 (.slice (some ⟨gi, 0, none⟩) l.i.length ci2)).setCell (by omega : w.heap.size ≤ w.heap.size + 1) 1 (.slice (some ⟨gf, 0, none⟩) l.f.length cf2))
            clear hr2 hO1 hO2 hrb
            go_wp2_with fail
            refine bodyPost_ret (v := .tuple #[.agg #[(.slice (some ⟨gi, 0, none⟩) l.i.length ci2), (.slice (some ⟨gf, 0, none⟩) l.f.length cf2)], .int .i64 0]) (by simp [results, Try.results46, go_sem, e0, e1]) rfl ?_
            exact ⟨_, _, rfl, HOL.out, HXE.out⟩
  · have HFE : Hid (backL l = ⟨[], []⟩) := Lib.hid (by unfold backL; rw [if_neg h0])
    rw [HFE.out]
    generalize validL l = k at *
    have hk : (k != 0) = true := by simpa using h0
    clear h0
    go_enter Try.func46, Try.ntmps46
    go_wp2_with fail
    rw [← HWW.out]
    refine HV.out.mono ?_; rintro e w1 ⟨rfl, hx1⟩
    have hrb := HB0.out.ext (hx1)
    have hrz : w.heap.size ≤ wA.heap.size := hE0.size
    have r0 := hrb.cell (i := 0) rfl
    have r1 := hrb.cell (i := 1) rfl
    have rf0 := hrb.frozen 0
    have rf1 := hrb.frozen 1
    have hr2 : Blk ((w1.setCell ⟨w.heap.size + 1, 0, none⟩ (.slice none 0 0)).setCell ⟨w.heap.size + 1, 1, none⟩ (.slice none 0 0)) (w.heap.size + 1) 25 [(.slice none 0 0), (.slice none 0 0)] := by have := (hrb.set 0 (.slice none 0 0)).set 1 (.slice none 0 0); exact this
    have e0 := hr2.cell (i := 0) rfl
    have e1 := hr2.cell (i := 1) rfl
    have hO1 := (OLexP.nil w1 wA.heap.size).keptN (grownBy_set w1 (w.heap.size + 1) 0 (.slice none 0 0)) hrb ⟨by decide, by decide, by decide⟩
    have hO2 := hO1.keptN (grownBy_set _ (w.heap.size + 1) 1 (.slice none 0 0)) (by have := hrb.set 0 (.slice none 0 0); exact this) ⟨by decide, by decide, by decide⟩
    have HOL := Lib.hid (OLex.low ⟨_, _, hO2⟩ hrz)
    have HXE := Lib.hid (((hE0.trans (hx1)).setCell (by omega : w.heap.size ≤ w.heap.size + 1) 0 (.slice none 0 0)).setCell (by omega : w.heap.size ≤ w.heap.size + 1) 1 (.slice none 0 0))
    clear hr2 hO1 hO2 hrb
    go_wp2_with fail
    refine bodyPost_ret (v := .tuple #[.agg #[(.slice none 0 0), (.slice none 0 0)], .int .i64 k]) (by simp [results, Try.results46, go_sem, e0, e1]) rfl ?_
    exact ⟨_, _, rfl, HOL.out, HXE.out⟩
end Go.Proofs.Ytgpggmcjggpmpaa
