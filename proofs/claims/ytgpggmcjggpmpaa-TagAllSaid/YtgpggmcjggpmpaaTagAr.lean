/- All splits: rest and All of the reference. -/
import Derived.Test.YtgpggmcjggpmpaaTagAm
import Derived.Test.YtgpggmcjggpmpaaTagS
namespace Go.Proofs.Ytgpggmcjggpmpaa
open Go.RowKit Go.Shelf
set_option linter.unusedVariables false

/-- a list of lists: a row from B on, of lists that are blocks of ints -/
def SRz (w : World) (B : Nat) (sv : Value) (q : List (List Int)) : Prop := ∃ us, OTail w B 26 1 sv q.length us ∧ AllS w 0 us q
theorem NoI.zero {w : World} {B r : Nat} (h : NoI w B r) : NoI w 0 r := ⟨Nat.zero_le _, h.2⟩
theorem SRz.row {w : World} {B : Nat} {sv : Value} {q : List (List Int)} (h : SRz w B sv q) : RowT w B 26 sv := by obtain ⟨vs, h, _⟩ := h; exact h.blk
theorem SRz.nil (w : World) (B : Nat) : SRz w B (.slice none 0 0) [] := ⟨[], OTail.nil _ _ _ _, trivial⟩
theorem SRz.keptN {w w' : World} {B : Nat} {sv : Value} {q : List (List Int)} {row : Option Nat} (h : SRz w B sv q) (hg : w.grownBy w' row) (hr : ∀ r, row = some r → NoI w 0 r ∧ sv.ownBlock ≠ some r) : SRz w' B sv q := by
  obtain ⟨vs, h1, h2⟩ := h
  exact ⟨vs, h1.kept hg (fun r e => (hr r e).2), h2.kept hg (fun r e => (hr r e).1)⟩
theorem SRz.ext {w w' : World} {B : Nat} {sv : Value} {q : List (List Int)} (h : SRz w B sv q) (hx : Ext w w') : SRz w' B sv q := h.keptN (grownBy_of_ext hx none) (fun r e => by cases e)
theorem SRz.more {w w' : World} {B : Nat} {sv v' : Value} {q : List (List Int)} {us : List Value} {u : Value} {l : List Int} (h1 : OTail w B 26 1 sv q.length us) (h2 : AllS w 0 us q) (hh : SInts w 0 u l)
    (ho : OTail w' B 26 1 v' (q.length + 1) (us ++ [u])) (hg : w.grownBy w' sv.ownBlock) : SRz w' B v' (q ++ [l]) := by
  have hn : ∀ r, sv.ownBlock = some r → NoI w 0 r := fun r e => (RowT.noI h1.blk (by decide) r e).zero
  refine ⟨us ++ [u], ?_, (h2.kept hg hn).snoc (hh.kept hg hn)⟩
  rw [List.length_append]; exact ho
theorem SRz.low {w : World} {B B' : Nat} {v : Value} {q : List (List Int)} (h : SRz w B v q) (hB : B' ≤ B) : SRz w B' v q := by
  obtain ⟨vs, h1, h2⟩ := h
  refine ⟨vs, ⟨h1.1, ?_⟩, h2⟩
  rcases h1.2 with h | ⟨g, o, cap, cur, e, hb, r⟩
  · exact .inl h
  · exact .inr ⟨g, o, cap, cur, e, by omega, r⟩
/-- a list of lists in memory of the call's own comes back -/
def RSR (L : List (List Int)) (w : World) (e : Ending) (w' : World) : Prop := ∃ v, e = .returned v ∧ SRz w' w.heap.size v L ∧ Ext w w'
theorem SRz.one (w : World) (B g : Nat) (u : Value) (x : List Int) (hx : SInts w 0 u x) (hb : Blk w g 26 [u]) (hB : B ≤ g) : SRz w B (.slice (some ⟨g, 0, none⟩) 1 1) [x] :=
  ⟨[u], ⟨rfl, .inr ⟨g, 0, 1, [u].toArray, rfl, hB, hb, Nat.le_refl _, by unfold maxLen; omega, by simp, by simp⟩⟩, hx, trivial⟩
/-- the class of worlds in which one of the lists is read -/
def RCls (wA : World) (a : Addr) (u : Value) (w : World) : Prop := Ext wA w ∧ w.cell? a = some u
theorem RCls.ext {wA w w' : World} {a : Addr} {u : Value} (h : RCls wA a u w) (hx : Ext w w') : RCls wA a u w' := ⟨h.1.trans hx, hx.keep h.2⟩
theorem SRz.at_ {w : World} {B : Nat} {sv : Value} {q : List (List Int)} (h : SRz w B sv q) {i : Nat} (hi : i < q.length) : ∃ g o cap u, sv = .slice (some ⟨g, o, none⟩) q.length cap ∧ q.length ≤ cap ∧ cap ≤ 9223372036854775807 ∧ w.cell? ⟨g, o + i, none⟩ = some u ∧ SInts w 0 u (q[i]?.getD []) := by
  obtain ⟨us, h1, h2⟩ := h
  obtain ⟨g, o, cap, rfl, hn, hm, hB, HC⟩ := h1.open_ (by omega)
  obtain ⟨u, hu, hs⟩ := h2.at_ i hi
  exact ⟨g, o, cap, u, rfl, hn, hm, HC.out i u hu, hs⟩
theorem AllS.lowz {w : World} {B : Nat} : ∀ {vs : List Value} {q : List (List Int)}, AllS w 0 vs q → AllS w B vs q
  | [], [], _ => trivial
  | _ :: _, _ :: _, h => ⟨h.1.low (Nat.zero_le _), AllS.lowz h.2⟩
  | [], _ :: _, h => h
  | _ :: _, [], h => h
theorem SRz.rows {w : World} {B : Nat} {sv : Value} {q : List (List Int)} (h : SRz w B sv q) : Rows w sv q := by
  obtain ⟨us, h1, h2⟩ := h
  exact SR.rows (B := B) ⟨us, h1, AllS.lowz h2⟩
theorem SRz.len {w : World} {B : Nat} {sv : Value} {q : List (List Int)} (h : SRz w B sv q) : ∃ a cap, sv = .slice a q.length cap := by
  obtain ⟨a, cap, e, _⟩ := h.rows; exact ⟨a, cap, e⟩
theorem SRz.lt {w : World} {B r : Nat} {sv : Value} {q : List (List Int)} (h : SRz w B sv q) (hr : sv.ownBlock = some r) : r < w.heap.size := h.row.lt hr
theorem one_row (V : World) (j : Int) : OInts 3 (V.alloc (.cells #[.int .i64 j] 3)) V.heap.size (.slice (some ⟨V.heap.size, 0, none⟩) 1 1) [j] :=
  ⟨rfl, .inr ⟨V.heap.size, 1, #[.int .i64 j], rfl, Nat.le_refl _, World.alloc_heap_new V _, Nat.le_refl _, by unfold maxLen; omega, rfl, rfl⟩⟩
theorem take_map_next {q : List (List Int)} {i : Nat} (h : i < q.length) (f : List Int → List Int) : (q.take (i + 1)).map f = (q.take i).map f ++ [f (q[i]?.getD [])] := by
  rw [take_next h [], List.map_append]; rfl
set_option maxHeartbeats 8000000 in
set_option maxRecDepth 100000 in
theorem rest_c (l : Lex) (t : List Int) (iv fv tv : Value) (hl : LexOk l) (h12 : t.length ≤ 12) : ∀ (m : Nat) (p bn : Nat) (b : Int) (w : World), t.length ≤ p + m → p ≤ t.length → (b = -1 ∨ (b = (bn : Int) ∧ bn < l.i.length)) → LexR w iv fv l → Ints w tv t →
    (spl l (t.drop p) b).length ≤ 50 → Calls Try.prog 92 #[.agg #[iv, fv], tv, .int .i64 (p : Int), .int .i64 b] w (RSR (spl l (t.drop p) b) w) := by
  intro m
  induction m using Nat.strongRecOn with
  | _ m ih =>
  intro p bn b w hm hp hbb h ht h50
  obtain ⟨wA, hwA⟩ : ∃ wA, wA = w.alloc (.cells #[iv, fv] 25) := ⟨_, rfl⟩
  have hE0 : Ext w wA := by rw [hwA]; exact Ext.alloc _ _
  have k0 : ∀ W, Ext wA W → W.cell? ⟨w.heap.size, 0, none⟩ = some iv := by rw [hwA]; exact kept_alloc w _ _ rfl
  have k1 : ∀ W, Ext wA W → W.cell? ⟨w.heap.size, 1, none⟩ = some fv := by rw [hwA]; exact kept_alloc w _ _ rfl
  have H0 : Ext wA wA := Ext.refl _
  have HR := Lib.hid (h.ext hE0)
  obtain ⟨ai, ci, rfl, hli, hmi, HI⟩ := (h.ext hE0).i.open_
  obtain ⟨af, cf, rfl, hlf, hmf, HF⟩ := Rows.open_ (h.ext hE0).f
  have HT := Lib.hid (ht.ext hE0)
  obtain ⟨at_, ct, rfl, hlt0, hmt0, HTO⟩ := (ht.ext hE0).open_
  have HL := Lib.hid hl
  have HBB := Lib.hid hbb
  have hn8 : l.i.length ≤ 8 := hl.n8
  have HW := Lib.hid hwA; clear hwA h ht hbb
  by_cases hpt : p = t.length
  · have hd : ((p : Int) == (t.length : Int)) = true := by simp [hpt]
    have HRE : Hid (spl l (t.drop p) b = [[]]) := Lib.hid (by rw [hpt, List.drop_length, spl_nil])
    rw [HRE.out]
    clear hpt ih h50
    go_enter Try.func92, Try.ntmps92
    go_wp2_with fail
    rw [← HW.out]
    go_ret
    have hz : wA.heap.size = w.heap.size + 1 := by rw [HW.out]; simp
    have hb := Blk.alloc (wA.alloc (.cells #[] 3)) #[.slice (some ⟨w.heap.size + 1, 0, none⟩) 0 0] 26
    rw [show (wA.alloc (.cells #[] 3)).heap.size = w.heap.size + 1 + 1 by simp [hz]] at hb
    exact ⟨_, rfl, SRz.one _ _ _ (.slice (some ⟨w.heap.size + 1, 0, none⟩) 0 0) [] ⟨ints_none (by omega), fun h => by simp at h⟩ hb (by omega), hE0.trans ((Ext.alloc _ _).trans (Ext.alloc _ _))⟩
  · have hd : ((p : Int) == (t.length : Int)) = false := by simp; omega
    have hpl : p < t.length := by omega
    obtain ⟨r, hr⟩ : ∃ r, r = t.drop p := ⟨_, rfl⟩
    have HRD := Lib.hid hr
    have HRL : Hid (r.length = t.length - p) := Lib.hid (by rw [hr, List.length_drop])
    have HRNE : Hid (r ≠ []) := Lib.hid (by rw [hr]; intro e; have := congrArg List.length e; rw [List.length_drop] at this; simp at this; omega)
    rw [← hr] at h50 ⊢
    clear hr hpt
    go_enter Try.func92, Try.ntmps92
    go_wp2_with fail
    rw [← HW.out]
    go_loopg [10, 9] l.i.length (fun z jj ov wr => ∃ (j : Nat) (v : Value), v = ov ∧ j ≤ l.i.length ∧ l.i.length ≤ j + z ∧ jj = .int .i64 j ∧ Ext wA wr ∧ SRz wr wA.heap.size v (outTo l r b [] j))
    case atStart => exact ⟨0, _, rfl, by omega, by omega, rfl, Ext.refl _, SRz.nil _ _⟩
    case round =>
      obtain ⟨j, ov, rfl, hj, hjz, rfl, hX, hO⟩ := hrel
      have HO := Lib.hid hO; clear hO
      obtain ⟨g1, rfl⟩ : ∃ g : Nat, g = gk := ⟨_, rfl⟩
      by_cases hlt : j < l.i.length
      · have HCM := Lib.hid (comes_c _ _ _ l t (p : Int) j wr (HR.out.ext hX) HL.out (HT.out.ext hX) hlt (by omega) (by omega) (by omega))
        rw [comesB_fits hp, ← HRD.out] at HCM
        have HOK : Hid (okNext l r b j = ((wrd l (j : Int)).isPrefixOf r && (decide (b < 0) || decide (0 ≤ fol l b j)))) := Lib.hid rfl
        have HNO := Lib.hid (fun h => outTo_no (l := l) (r := r) (b := b) (s := []) (j := j) h)
        cases hpb : (wrd l (j : Int)).isPrefixOf r with
        | false =>
          rw [hpb] at HCM
          have HSM := Lib.hid (HNO.out (by rw [HOK.out, hpb, Bool.false_and]))
          clear hpb HNO HOK
          go_wp2_with fail
          refine HCM.out.mono ?_; rintro e w5 ⟨rfl, hx5⟩
          have hX5 := hX.trans hx5
          go_wp2_with fail
          go_roundg (g1-1)
          case measure => omega
          case rel => exact ⟨j+1, ov, rfl, by omega, by omega, by go_num, hX5, by rw [HSM.out]; exact HO.out.ext hx5⟩
        | true =>
          rw [hpb] at HCM
          rw [hpb, Bool.true_and] at HOK
          have HPF := Lib.hid hpb
          clear hpb
          rcases HBB.out with hb1 | ⟨hbk, hbn⟩
          · have HOT : Hid (okNext l r b j = true) := Lib.hid (by rw [HOK.out, hb1]; rfl)
            have hdb : decide (0 ≤ b) = false := by rw [hb1]; rfl
            have hbB : -1 ≤ b := by omega
            clear hb1
            clear HNO HOK
            have HNX : Hid (outTo l r b [] (j + 1) = outTo l r b [] j ++ (spl l (r.drop (wrd l (j : Int)).length) j).map (fun x => [] ++ ([(j : Int)] ++ x))) := Lib.hid (by rw [outTo_take HOT.out]; rfl)
            have hroom := outTo_room HL.out.noE HRNE.out b [] hlt HOT.out
            have hoj := outTo_len HL.out.noE HRNE.out b [] (Nat.le_of_lt hlt)
            obtain ⟨bi, oi, rfl, u, hc0, hu, _⟩ := HI.out j hlt
            have HWD : Hid (wrd l (j : Int) = (itm l.i j).w) := Lib.hid rfl
            have hL1 := HL.out.wo j hlt
            rw [← HWD.out] at hu hL1
            have hpre := HPF.out
            have hLr : (wrd l (j : Int)).length ≤ r.length := by rw [List.isPrefixOf_iff_prefix] at hpre; exact hpre.length_le
            obtain ⟨au, cu, rfl, _, _, _⟩ := hu.open_
            clear hu hpre
            generalize hLL : (wrd l (j : Int)).length = L at *
            have HLL := Lib.hid hLL; clear hLL
            have hrl := HRL.out
            have HREC : Hid (∀ W, Ext wA W → Calls Try.prog 92 #[.agg #[.slice (some ⟨bi, oi, none⟩) l.i.length ci, .slice af l.f.length cf], .slice at_ t.length ct, .int .i64 ((p : Int) + (L : Int)), .int .i64 (j : Int)] W (RSR (spl l (r.drop L) j) W)) := Lib.hid (fun W hW => by
              have h1 := ih (m - 1) (by omega) (p + L) j (j : Int) W (by omega) (by omega) (.inr ⟨rfl, hlt⟩) (HR.out.ext hW) (HT.out.ext hW) (by rw [← List.drop_drop, ← HRD.out]; omega)
              rw [← List.drop_drop, ← HRD.out] at h1
              have e : ((p + L : Nat) : Int) = (p : Int) + (L : Int) := by omega
              rw [e] at h1; exact h1)
            have HML : Hid (∀ i, i < (spl l (r.drop L) j).length → ((spl l (r.drop L) j)[i]?.getD []).length ≤ 12) := Lib.hid (fun i hi => by
              rw [List.getElem?_eq_getElem hi, Option.getD_some]
              have h1 := (splF_mem HL.out.noE _ _ _ _ (Nat.le_refl _)).1 (show (spl l (r.drop L) j)[i] ∈ splF l (r.drop L).length (r.drop L) j from List.getElem_mem hi)
              have h2 := h1.len HL.out.noE
              rw [List.length_drop] at h2; omega)
            have hjI : (j : Int) < (l.i.length : Int) := by omega
            go_wp2_with fail
            refine HCM.out.mono ?_; rintro e W7 ⟨rfl, hx7⟩
            have hX7 := hX.trans hx7
            have HO6 := Lib.hid (HO.out.ext hx7)
            clear HO HCM
            go_wp2_with fail
            refine wp_region_tree (Ext W7) (.look 0 (.look 1 (.look 2 (.look 3 (.look 4 (.look 5 (.look 6 (.look 7 (.look 8 (.look 9 (.look 10 (.look 11 (.one 12 (.look 13 .done)))))))))))))) (by kernel_rfl) (by kernel_rfl) (by intro c a d v w h; cases d <;> exact h) ?_
            have hd1 : Ext W7 { W7 with drawn := W7.drawn + 1 } := drawn_ext W7
            have HO7 := Lib.hid (HO6.out.ext hd1)
            have hs : ∀ s : InC (Ext W7), Ext wA s.w := fun s => hX7.trans s.h
            have q0 := fun s : InC (Ext W7) => (hX7.trans s.h).keep hc0
            have hX8 := hX7.trans hd1
            generalize { W7 with drawn := W7.drawn + 1 } = W8 at *
            iterate 12 (refine wpTree_look rfl ‹_› (fun K hK => ?_); go_simp; first | (refine hK _ ?_; clear hK K) | (refine ⟨_, fun _ => rfl, hK _ ?_⟩; clear hK K))
            clear q0 hs
            refine wpTree_one rfl rfl (fun K hK => ?_)
            have HC8 := Lib.hid (HREC.out W8 hX8)
            have hz8 := hX8.size
            go_wp2_with fail
            refine HC8.out.mono ?_; rintro e W9 ⟨mv, rfl, hm9, hx9⟩
            have hAP9 : ∀ r, ov.ownBlock = some r → mv.ownBlock ≠ some r := fun r h1 h2 => by
              have h3 := HO7.out.lt h1
              have h4 := (hm9.row r h2).1
              omega
            have HM8 := Lib.hid (hm9.low hz8)
            have HO8 := Lib.hid (HO7.out.ext hx9)
            have HAP8 := Lib.hid hAP9
            obtain ⟨am, cm, hmv⟩ := HM8.out.len
            clear hm9 hAP9 HO7 HC8
            have hX9 := hX8.trans hx9
            subst hmv
            go_wp2_with fail
            refine ⟨fun h => h.trans hx9, ?_⟩
            have hX79 : Ext W7 W9 := hd1.trans hx9
            (refine wpTree_look rfl ‹_› (fun K hK => ?_); go_simp; first | (refine hK _ ?_; clear hK K) | (refine ⟨_, fun _ => rfl, hK _ ?_⟩; clear hK K))
            clear hX79
            refine wpTree_done ?_
            have hX8' := hX9
            clear hX8
            have hX8 := hX8'
            clear hX8' hX9
            obtain ⟨more, hmore⟩ : ∃ more, more = spl l (r.drop L) j := ⟨_, rfl⟩
            rw [← hmore] at HM8 HAP8 HNX HML hroom
            rw [← hmore]
            clear hmore
            go_wp2_with fail
            go_loopg [12, 9] more.length (fun z ii ov wr => ∃ (i : Nat) (v : Value), v = ov ∧ i ≤ more.length ∧ more.length ≤ i + z ∧ ii = .int .i64 i ∧ Ext wA wr ∧ SRz wr wA.heap.size v (outTo l r b [] j ++ (more.take i).map (fun x => [] ++ ([(j : Int)] ++ x))) ∧ SRz wr wA.heap.size (.slice am more.length cm) more ∧ (∀ r, v.ownBlock = some r → (Value.slice am more.length cm).ownBlock ≠ some r))
            case atStart => exact ⟨0, ov, rfl, by omega, by omega, rfl, hX8, by rw [List.take_zero, List.map_nil, List.append_nil]; exact HO8.out, HM8.out, HAP8.out⟩
            case round =>
              clear hX8 HO8 HM8 HAP8 HO6
              clear ov
              obtain ⟨i, ov, rfl, hi, hiz, rfl, hX, hO, hM, hA⟩ := hrel
              have HO := Lib.hid hO; have HM := Lib.hid hM; have HAP := Lib.hid hA
              clear hO hM hA
              by_cases hil : i < more.length
              · obtain ⟨mg, mo, mc, u, hme, hm1, hm2, hmc, hmu⟩ := HM.out.at_ hil
                injection hme with hm3 _ hm4; subst hm3 hm4
                have HMX := Lib.hid (take_map_next hil (fun x => [] ++ ([(j : Int)] ++ x)))
                have HXI := Lib.hid hmu.ints
                have hxl := HML.out _ hil
                obtain ⟨au, cu, rfl, _, _, _⟩ := hmu.ints.open_
                have hmI : (i : Int) < (more.length : Int) := by omega
                have hsz := hX.size
                clear hmu
                generalize more[i]?.getD [] = x at *
                have hx2 : x.length ≤ 12 := hxl
                clear hxl
                have hEa : Ext wr (wr.alloc (.cells #[.int .i64 (j : Int)] 3)) := Ext.alloc _ _
                have hmc2 := hEa.keep hmc
                have hza := hEa.size
                have HJO : Hid (OInts 3 (wr.alloc (.cells #[.int .i64 (j : Int)] 3)) wr.heap.size (.slice (some ⟨wr.heap.size, 0, none⟩) 1 1) [(j : Int)]) := Lib.hid (one_row wr (j : Int))
                have HXR := Lib.hid ((HXI.out.ext hEa).raw)
                have hll : (outTo l r b [] j ++ (more.take i).map (fun x => [] ++ ([(j : Int)] ++ x))).length ≤ 1000 := by
                  rw [List.length_append, List.length_map, List.length_take]; have := hoj; omega
                go_wp2_with (at_builtin; first
                  | (refine wpList_appendAll (m := x.length) (B := wr.heap.size) elInts rfl (.tmp 64) (.tmp 68) rfl rfl rfl HJO.out HXR.out (ints_one _) hza (by simp only [List.length_singleton]; omega) (by simp only [List.length_singleton]; omega) ?_; intro v7 V2 ho7 hb7; have hE2 : Ext wr V2 := hEa.upto hb7 (Nat.le_refl _); have ho7' : OInts 3 V2 wr.heap.size v7 ([(j : Int)] ++ x) := (by unfold OInts; rw [ints_append, List.length_append]; exact ho7); have HS7 : Hid (SInts V2 0 v7 ([(j : Int)] ++ x)) := Lib.hid (SInts.own ho7'); obtain ⟨a7, c7, rfl, _, _, _⟩ := ho7'.ints.open_; obtain ⟨us, hu1, hu2⟩ := HO.out.ext hE2; have HU1 := Lib.hid hu1; have HU2 := Lib.hid hu2; have HM2 := Lib.hid (HM.out.ext hE2); have hX2 := hX.trans hE2; have hsz2 := hX2.size; clear hu1 hu2 ho7 ho7' hb7)
                  | (refine wpList_appendTail (news := [_]) elRows rfl (.tmp 62) (.tmp 70) rfl rfl rfl HU1.out rfl rfl (by intro u hu; rw [List.mem_singleton] at hu; subst hu; rfl) hsz2 (by omega) (by omega) ?_; intro v9 V3 ho9 hg9 hr9))
                have hX3 : Ext wA V3 := RowT.below HU1.out.blk hX2 hg9
                have hM3 : SRz V3 wA.heap.size (.slice (some ⟨mg, mo, none⟩) more.length cm) more := HM2.out.keptN hg9 (fun r e => ⟨((RowT.noI HU1.out.blk (by decide)) r e).zero, HAP.out r e⟩)
                have hO3 := SRz.more HU1.out HU2.out HS7.out ho9 hg9
                have hA3 : ∀ r, v9.ownBlock = some r → (Value.slice (some ⟨mg, mo, none⟩) more.length cm).ownBlock ≠ some r := fun r hr he => by
                  rcases hr9 r hr with h | h
                  · exact HAP.out r h he
                  · have := HM2.out.lt he; omega
                have HO3 := Lib.hid hO3; have HM3 := Lib.hid hM3; have HA3 := Lib.hid hA3
                clear hO3 hM3 hA3 ho9 hg9 hr9
                go_wp2_with fail
                go_roundg (gk-1)
                case measure => omega
                case rel => exact ⟨i+1, v9, rfl, by omega, by omega, by go_num, hX3, by rw [HMX.out, ← List.append_assoc]; exact HO3.out, HM3.out, HA3.out⟩
              · have him : i = more.length := by omega
                subst him
                rw [List.take_length] at HO
                have HNX2 : Hid (outTo l r b [] (j + 1) = outTo l r b [] j ++ more.map (fun x => [] ++ ([(j : Int)] ++ x))) := HNX
                rw [← HNX2.out] at HO
                go_wp2_with fail
                go_roundg (g1-1)
                case measure => omega
                case rel => exact ⟨j+1, ov, rfl, by omega, by omega, by go_num, hX, HO.out⟩
          · have HFO := Lib.hid (fun W (hW : Ext wA W) => by
              have := follow_c _ _ l bn j W (HR.out.ext hW) HL.out hbn hlt
              rw [← hbk] at this; exact this)
            have hdb : decide (0 ≤ b) = true := by rw [hbk]; simp
            rw [decide_eq_false (show ¬ (b < 0) by omega), Bool.false_or] at HOK
            clear hbk hbn
            by_cases hf : 0 ≤ fol l b (j : Int)
            · have HOT : Hid (okNext l r b j = true) := Lib.hid (by rw [HOK.out, decide_eq_true hf])
              have hdf : decide (fol l b (j : Int) < 0) = false := decide_eq_false (by omega)
              clear HNO HOK hf
              have HNX : Hid (outTo l r b [] (j + 1) = outTo l r b [] j ++ (spl l (r.drop (wrd l (j : Int)).length) j).map (fun x => [] ++ ([(j : Int)] ++ x))) := Lib.hid (by rw [outTo_take HOT.out]; rfl)
              have hroom := outTo_room HL.out.noE HRNE.out b [] hlt HOT.out
              have hoj := outTo_len HL.out.noE HRNE.out b [] (Nat.le_of_lt hlt)
              obtain ⟨bi, oi, rfl, u, hc0, hu, _⟩ := HI.out j hlt
              have HWD : Hid (wrd l (j : Int) = (itm l.i j).w) := Lib.hid rfl
              have hL1 := HL.out.wo j hlt
              rw [← HWD.out] at hu hL1
              have hpre := HPF.out
              have hLr : (wrd l (j : Int)).length ≤ r.length := by rw [List.isPrefixOf_iff_prefix] at hpre; exact hpre.length_le
              obtain ⟨au, cu, rfl, _, _, _⟩ := hu.open_
              clear hu hpre
              generalize hLL : (wrd l (j : Int)).length = L at *
              have HLL := Lib.hid hLL; clear hLL
              have hrl := HRL.out
              have HREC : Hid (∀ W, Ext wA W → Calls Try.prog 92 #[.agg #[.slice (some ⟨bi, oi, none⟩) l.i.length ci, .slice af l.f.length cf], .slice at_ t.length ct, .int .i64 ((p : Int) + (L : Int)), .int .i64 (j : Int)] W (RSR (spl l (r.drop L) j) W)) := Lib.hid (fun W hW => by
                have h1 := ih (m - 1) (by omega) (p + L) j (j : Int) W (by omega) (by omega) (.inr ⟨rfl, hlt⟩) (HR.out.ext hW) (HT.out.ext hW) (by rw [← List.drop_drop, ← HRD.out]; omega)
                rw [← List.drop_drop, ← HRD.out] at h1
                have e : ((p + L : Nat) : Int) = (p : Int) + (L : Int) := by omega
                rw [e] at h1; exact h1)
              have HML : Hid (∀ i, i < (spl l (r.drop L) j).length → ((spl l (r.drop L) j)[i]?.getD []).length ≤ 12) := Lib.hid (fun i hi => by
                rw [List.getElem?_eq_getElem hi, Option.getD_some]
                have h1 := (splF_mem HL.out.noE _ _ _ _ (Nat.le_refl _)).1 (show (spl l (r.drop L) j)[i] ∈ splF l (r.drop L).length (r.drop L) j from List.getElem_mem hi)
                have h2 := h1.len HL.out.noE
                rw [List.length_drop] at h2; omega)
              have hjI : (j : Int) < (l.i.length : Int) := by omega
              generalize fol l b (j : Int) = f at *
              go_wp2_with fail
              refine HCM.out.mono ?_; rintro e w5 ⟨rfl, hx5⟩
              have hX5 := hX.trans hx5
              go_wp2_with fail
              refine (HFO.out w5 hX5).mono ?_; rintro e W7 ⟨rfl, hx7⟩
              have hX7 := hX5.trans hx7
              have HO6 := Lib.hid ((HO.out.ext hx5).ext hx7)
              clear HO HCM HFO
              go_wp2_with fail
              refine wp_region_tree (Ext W7) (.look 0 (.look 1 (.look 2 (.look 3 (.look 4 (.look 5 (.look 6 (.look 7 (.look 8 (.look 9 (.look 10 (.look 11 (.one 12 (.look 13 .done)))))))))))))) (by kernel_rfl) (by kernel_rfl) (by intro c a d v w h; cases d <;> exact h) ?_
              have hd1 : Ext W7 { W7 with drawn := W7.drawn + 1 } := drawn_ext W7
              have HO7 := Lib.hid (HO6.out.ext hd1)
              have hs : ∀ s : InC (Ext W7), Ext wA s.w := fun s => hX7.trans s.h
              have q0 := fun s : InC (Ext W7) => (hX7.trans s.h).keep hc0
              have hX8 := hX7.trans hd1
              generalize { W7 with drawn := W7.drawn + 1 } = W8 at *
              iterate 12 (refine wpTree_look rfl ‹_› (fun K hK => ?_); go_simp; first | (refine hK _ ?_; clear hK K) | (refine ⟨_, fun _ => rfl, hK _ ?_⟩; clear hK K))
              clear q0 hs
              refine wpTree_one rfl rfl (fun K hK => ?_)
              have HC8 := Lib.hid (HREC.out W8 hX8)
              have hz8 := hX8.size
              go_wp2_with fail
              refine HC8.out.mono ?_; rintro e W9 ⟨mv, rfl, hm9, hx9⟩
              have hAP9 : ∀ r, ov.ownBlock = some r → mv.ownBlock ≠ some r := fun r h1 h2 => by
                have h3 := HO7.out.lt h1
                have h4 := (hm9.row r h2).1
                omega
              have HM8 := Lib.hid (hm9.low hz8)
              have HO8 := Lib.hid (HO7.out.ext hx9)
              have HAP8 := Lib.hid hAP9
              obtain ⟨am, cm, hmv⟩ := HM8.out.len
              clear hm9 hAP9 HO7 HC8
              have hX9 := hX8.trans hx9
              subst hmv
              go_wp2_with fail
              refine ⟨fun h => h.trans hx9, ?_⟩
              have hX79 : Ext W7 W9 := hd1.trans hx9
              (refine wpTree_look rfl ‹_› (fun K hK => ?_); go_simp; first | (refine hK _ ?_; clear hK K) | (refine ⟨_, fun _ => rfl, hK _ ?_⟩; clear hK K))
              clear hX79
              refine wpTree_done ?_
              have hX8' := hX9
              clear hX8
              have hX8 := hX8'
              clear hX8' hX9
              obtain ⟨more, hmore⟩ : ∃ more, more = spl l (r.drop L) j := ⟨_, rfl⟩
              rw [← hmore] at HM8 HAP8 HNX HML hroom
              rw [← hmore]
              clear hmore
              go_wp2_with fail
              go_loopg [12, 9] more.length (fun z ii ov wr => ∃ (i : Nat) (v : Value), v = ov ∧ i ≤ more.length ∧ more.length ≤ i + z ∧ ii = .int .i64 i ∧ Ext wA wr ∧ SRz wr wA.heap.size v (outTo l r b [] j ++ (more.take i).map (fun x => [] ++ ([(j : Int)] ++ x))) ∧ SRz wr wA.heap.size (.slice am more.length cm) more ∧ (∀ r, v.ownBlock = some r → (Value.slice am more.length cm).ownBlock ≠ some r))
              case atStart => exact ⟨0, ov, rfl, by omega, by omega, rfl, hX8, by rw [List.take_zero, List.map_nil, List.append_nil]; exact HO8.out, HM8.out, HAP8.out⟩
              case round =>
                clear hX8 HO8 HM8 HAP8 HO6
                clear ov
                obtain ⟨i, ov, rfl, hi, hiz, rfl, hX, hO, hM, hA⟩ := hrel
                have HO := Lib.hid hO; have HM := Lib.hid hM; have HAP := Lib.hid hA
                clear hO hM hA
                by_cases hil : i < more.length
                · obtain ⟨mg, mo, mc, u, hme, hm1, hm2, hmc, hmu⟩ := HM.out.at_ hil
                  injection hme with hm3 _ hm4; subst hm3 hm4
                  have HMX := Lib.hid (take_map_next hil (fun x => [] ++ ([(j : Int)] ++ x)))
                  have HXI := Lib.hid hmu.ints
                  have hxl := HML.out _ hil
                  obtain ⟨au, cu, rfl, _, _, _⟩ := hmu.ints.open_
                  have hmI : (i : Int) < (more.length : Int) := by omega
                  have hsz := hX.size
                  clear hmu
                  generalize more[i]?.getD [] = x at *
                  have hx2 : x.length ≤ 12 := hxl
                  clear hxl
                  have hEa : Ext wr (wr.alloc (.cells #[.int .i64 (j : Int)] 3)) := Ext.alloc _ _
                  have hmc2 := hEa.keep hmc
                  have hza := hEa.size
                  have HJO : Hid (OInts 3 (wr.alloc (.cells #[.int .i64 (j : Int)] 3)) wr.heap.size (.slice (some ⟨wr.heap.size, 0, none⟩) 1 1) [(j : Int)]) := Lib.hid (one_row wr (j : Int))
                  have HXR := Lib.hid ((HXI.out.ext hEa).raw)
                  have hll : (outTo l r b [] j ++ (more.take i).map (fun x => [] ++ ([(j : Int)] ++ x))).length ≤ 1000 := by
                    rw [List.length_append, List.length_map, List.length_take]; have := hoj; omega
                  go_wp2_with (at_builtin; first
                    | (refine wpList_appendAll (m := x.length) (B := wr.heap.size) elInts rfl (.tmp 64) (.tmp 68) rfl rfl rfl HJO.out HXR.out (ints_one _) hza (by simp only [List.length_singleton]; omega) (by simp only [List.length_singleton]; omega) ?_; intro v7 V2 ho7 hb7; have hE2 : Ext wr V2 := hEa.upto hb7 (Nat.le_refl _); have ho7' : OInts 3 V2 wr.heap.size v7 ([(j : Int)] ++ x) := (by unfold OInts; rw [ints_append, List.length_append]; exact ho7); have HS7 : Hid (SInts V2 0 v7 ([(j : Int)] ++ x)) := Lib.hid (SInts.own ho7'); obtain ⟨a7, c7, rfl, _, _, _⟩ := ho7'.ints.open_; obtain ⟨us, hu1, hu2⟩ := HO.out.ext hE2; have HU1 := Lib.hid hu1; have HU2 := Lib.hid hu2; have HM2 := Lib.hid (HM.out.ext hE2); have hX2 := hX.trans hE2; have hsz2 := hX2.size; clear hu1 hu2 ho7 ho7' hb7)
                    | (refine wpList_appendTail (news := [_]) elRows rfl (.tmp 62) (.tmp 70) rfl rfl rfl HU1.out rfl rfl (by intro u hu; rw [List.mem_singleton] at hu; subst hu; rfl) hsz2 (by omega) (by omega) ?_; intro v9 V3 ho9 hg9 hr9))
                  have hX3 : Ext wA V3 := RowT.below HU1.out.blk hX2 hg9
                  have hM3 : SRz V3 wA.heap.size (.slice (some ⟨mg, mo, none⟩) more.length cm) more := HM2.out.keptN hg9 (fun r e => ⟨((RowT.noI HU1.out.blk (by decide)) r e).zero, HAP.out r e⟩)
                  have hO3 := SRz.more HU1.out HU2.out HS7.out ho9 hg9
                  have hA3 : ∀ r, v9.ownBlock = some r → (Value.slice (some ⟨mg, mo, none⟩) more.length cm).ownBlock ≠ some r := fun r hr he => by
                    rcases hr9 r hr with h | h
                    · exact HAP.out r h he
                    · have := HM2.out.lt he; omega
                  have HO3 := Lib.hid hO3; have HM3 := Lib.hid hM3; have HA3 := Lib.hid hA3
                  clear hO3 hM3 hA3 ho9 hg9 hr9
                  go_wp2_with fail
                  go_roundg (gk-1)
                  case measure => omega
                  case rel => exact ⟨i+1, v9, rfl, by omega, by omega, by go_num, hX3, by rw [HMX.out, ← List.append_assoc]; exact HO3.out, HM3.out, HA3.out⟩
                · have him : i = more.length := by omega
                  subst him
                  rw [List.take_length] at HO
                  have HNX2 : Hid (outTo l r b [] (j + 1) = outTo l r b [] j ++ more.map (fun x => [] ++ ([(j : Int)] ++ x))) := HNX
                  rw [← HNX2.out] at HO
                  go_wp2_with fail
                  go_roundg (g1-1)
                  case measure => omega
                  case rel => exact ⟨j+1, ov, rfl, by omega, by omega, by go_num, hX, HO.out⟩
            · have HSM := Lib.hid (HNO.out (by rw [HOK.out, decide_eq_false hf]))
              have hdf : decide (fol l b (j : Int) < 0) = true := decide_eq_true (by omega)
              clear HNO HOK hf
              generalize fol l b (j : Int) = f at *
              go_wp2_with fail
              refine HCM.out.mono ?_; rintro e w5 ⟨rfl, hx5⟩
              have hX5 := hX.trans hx5
              go_wp2_with fail
              refine (HFO.out w5 hX5).mono ?_; rintro e w6 ⟨rfl, hx6⟩
              have hX6 := hX5.trans hx6
              go_wp2_with fail
              go_roundg (g1-1)
              case measure => omega
              case rel => exact ⟨j+1, ov, rfl, by omega, by omega, by go_num, hX6, by rw [HSM.out]; exact (HO.out.ext hx5).ext hx6⟩
      · have hjl : j = l.i.length := by omega
        subst hjl
        have HOA : Hid (outTo l r b [] l.i.length = spl l r b) := Lib.hid (by
          have := outTo_all HL.out.noE HRNE.out b []
          rw [show (fun x : List Int => [] ++ x) = id from by funext x; rfl, List.map_id] at this; exact this)
        rw [HOA.out] at HO
        go_wp2_with fail
        go_ret
        exact ⟨_, rfl, HO.out.low hE0.size, hE0.trans hX⟩
theorem cnt_zero {l : Lex} {t : List Int} (h : cntR l t (-1) = 0) : spl l t (-1) = [] := by
  unfold cntR at h; exact List.length_eq_zero_iff.1 (by omega)
set_option maxHeartbeats 2000000 in
theorem rAll_c (iv fv tv : Value) (l : Lex) (t : List Int) (w : World) (h : LexR w iv fv l) (ht : Ints w tv t) : Calls Try.prog 55 #[.agg #[iv, fv], tv] w (R2 (isRowsT (allL l t)) (allK l t) w) := by
  obtain ⟨wA, hwA⟩ : ∃ wA, wA = w.alloc (.cells #[iv, fv] 25) := ⟨_, rfl⟩
  have hE0 : Ext w wA := by rw [hwA]; exact Ext.alloc _ _
  have k0 : ∀ W, Ext wA W → W.cell? ⟨w.heap.size, 0, none⟩ = some iv := by rw [hwA]; exact kept_alloc w _ _ rfl
  have k1 : ∀ W, Ext wA W → W.cell? ⟨w.heap.size, 1, none⟩ = some fv := by rw [hwA]; exact kept_alloc w _ _ rfl
  have H0 : Ext wA wA := Ext.refl _
  have HR := Lib.hid (h.ext hE0)
  obtain ⟨ai, ci, rfl, hli, hmi, HI⟩ := (h.ext hE0).i.open_
  obtain ⟨af, cf, rfl, hlf, hmf, HF⟩ := Rows.open_ (h.ext hE0).f
  have HT := Lib.hid (ht.ext hE0)
  obtain ⟨at_, ct, rfl, hlt0, hmt0, HTO⟩ := (ht.ext hE0).open_
  have HC1 := Lib.hid (rCount_c _ _ _ l t wA HR.out HT.out)
  have HW := Lib.hid hwA; clear hwA h ht
  by_cases h0 : textK l t = 0
  · obtain ⟨hl, h12, _⟩ := textK_ok h0
    rw [h0, show countN l t = cntR l t (-1) by unfold countN; rw [if_pos h0]] at HC1
    by_cases hbig : 50 < cntR l t (-1)
    · obtain ⟨e1, e2⟩ := all_b h0 hbig
      rw [e1, e2]
      have hdb : decide (50 < cntR l t (-1)) = true := decide_eq_true hbig
      clear h0 e1 e2 hl
      generalize cntR l t (-1) = cn at *
      go_enter Try.func55, Try.ntmps55
      go_wp2_with fail
      rw [← HW.out]
      refine HC1.out.mono ?_; rintro e w1 ⟨rfl, hx1⟩
      go_wp2_with fail
      go_ret2
      exact R2.mk (rows_nil_t _) (hE0.trans hx1)
    · obtain ⟨e1, e2⟩ := all_c h0 hbig
      rw [e1, e2]
      have hdb : decide (50 < cntR l t (-1)) = false := decide_eq_false hbig
      by_cases hz : cntR l t (-1) = 0
      · have HZ := Lib.hid (cnt_zero hz)
        rw [HZ.out]
        have hdz : (cntR l t (-1) == 0) = true := by simp [hz]
        clear h0 e1 e2 hl hbig hz
        generalize cntR l t (-1) = cn at *
        go_enter Try.func55, Try.ntmps55
        go_wp2_with fail
        rw [← HW.out]
        refine HC1.out.mono ?_; rintro e w1 ⟨rfl, hx1⟩
        go_wp2_with fail
        go_ret2
        exact R2.mk (rows_nil_t _) (hE0.trans hx1)
      · have hdz : (cntR l t (-1) == 0) = false := by simp [hz]
        have HRS := Lib.hid (fun W (hW : Ext wA W) => by
          have := rest_c l t _ _ _ hl h12 t.length 0 0 (-1) W (by omega) (by omega) (.inl rfl) (HR.out.ext hW) (HT.out.ext hW) (by rw [List.drop_zero]; have e : cntR l t (-1) = ((spl l t (-1)).length : Int) := rfl; omega)
          rw [List.drop_zero, show ((0 : Nat) : Int) = (0 : Int) from rfl] at this; exact this)
        clear h0 e1 e2 hl hbig hz
        generalize cntR l t (-1) = cn at *
        go_enter Try.func55, Try.ntmps55
        go_wp2_with fail
        rw [← HW.out]
        refine HC1.out.mono ?_; rintro e w1 ⟨rfl, hx1⟩
        go_wp2_with fail
        refine (HRS.out w1 hx1).mono ?_; rintro e w2 ⟨v2, rfl, hs2, hx2⟩
        have HRW := Lib.hid hs2.rows
        clear hs2
        go_wp2_with fail
        go_ret2
        exact R2.mk HRW.out (hE0.trans (hx1.trans hx2))
  · obtain ⟨e1, e2⟩ := all_a (t := t) h0
    rw [e1, e2]
    generalize countN l t = cn at *
    generalize textK l t = k at *
    have hk : (k != 0) = true := by simpa using h0
    clear h0 e1 e2
    go_enter Try.func55, Try.ntmps55
    go_wp2_with fail
    rw [← HW.out]
    refine HC1.out.mono ?_; rintro e w1 ⟨rfl, hx1⟩
    go_wp2_with fail
    go_ret2
    exact R2.mk (rows_nil_t _) (hE0.trans hx1)
end Go.Proofs.Ytgpggmcjggpmpaa
