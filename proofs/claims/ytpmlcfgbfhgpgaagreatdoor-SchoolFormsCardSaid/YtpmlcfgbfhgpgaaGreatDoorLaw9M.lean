/- apply and derive of order. -/
import Derived.Test.YtpmlcfgbfhgpgaaGreatDoorLaw9J
import Derived.Test.YtpmlcfgbfhgpgaaGreatDoorTreeT
namespace Go.Proofs.YtpmlcfgbfhgpgaaGreatDoor
open Go.RowKit Go.Shelf
set_option linter.unusedVariables false
set_option maxHeartbeats 4000000 in
set_option maxRecDepth 100000 in
theorem oapply_c (v wv : Value) (s : List Rul) (l : List Int) (c1 : Nat) (c2 c3 : Int) (w : World) (h : Ruls w v s) (hw : Ints w wv l) (hc : c1 < s.length) :
    Calls Tryz.prog 177 #[v, wv, .agg #[.int .i64 c1, .int .i64 c2, .int .i64 c3]] w (ROInts 3 (applyL (rulAt s c1) l c2) w) := by
  obtain ⟨ar, cr, rfl, _, _, HRL⟩ := h.lit
  obtain ⟨br, or, har, ta, tc, la, lc, ra, rc, z0, z1, z2, z3, hrr⟩ := HRL.out c1 hc
  subst har
  have HAP0 := Lib.hid (fun W (q : Ext w W) => Apply_c _ _ _ wv (rulAt s c1) l c2 W (hrr.ext q) (hw.ext q))
  obtain ⟨aw, cw, rfl, _⟩ := hw.open_
  clear hrr h hw HRL
  generalize rulAt s c1 = y at *
  go_enter Tryz.func177, Tryz.ntmps177
  go_upto_region 1 with fail
  have hb6 := Blk.alloc w #[.int .i64 c1, .int .i64 c2, .int .i64 c3] 46
  have hx6 := Ext.alloc w (.cells #[.int .i64 c1, .int .i64 c2, .int .i64 c3] 46)
  have hsz := hx6.size
  generalize w.alloc (.cells #[.int .i64 c1, .int .i64 c2, .int .i64 c3] 46) = w6 at *
  refine wp_region_treeR (fun a c => Ext a c) [] (.look 0 (.look 1 (.look 2 (.look 3 (.look 4 (.look 5 (.look 6 (.look 7 (.one 8 (.look 9 (.look 10 (.look 11 (.look 12 (.look 13 .done)))))))))))))) (fun w => Ext.refl w) (fun a b c h k => Ext.trans h k) (by kernel_rfl) (by kernel_rfl) (by intro c a d v w h; cases d <;> exact h) ?_
  have hX0 := drawnP_ext w6
  generalize { w6 with drawn := w6.drawn + 1 } = W0 at *
  have HAP := Lib.hid (fun W (q : Ext w6 W) => HAP0.out W (hx6.trans q))
  have kc0 : ∀ q : InC (fun c => Ext W0 c), q.w.cell? ⟨w.heap.size, 0, none⟩ = some (.int .i64 c1) := fun q => (hb6.ext (hX0.trans q.h)).cell rfl
  have kc1 : ∀ q : InC (fun c => Ext W0 c), q.w.cell? ⟨w.heap.size, 1, none⟩ = some (.int .i64 c2) := fun q => (hb6.ext (hX0.trans q.h)).cell rfl
  have kd0 : ∀ q : InC (fun c => Ext W0 c), q.w.cell? _ = some _ := fun q => ((hx6.trans hX0).trans q.h).keep z0
  have kd1 : ∀ q : InC (fun c => Ext W0 c), q.w.cell? _ = some _ := fun q => ((hx6.trans hX0).trans q.h).keep z1
  have kd2 : ∀ q : InC (fun c => Ext W0 c), q.w.cell? _ = some _ := fun q => ((hx6.trans hX0).trans q.h).keep z2
  have kd3 : ∀ q : InC (fun c => Ext W0 c), q.w.cell? _ = some _ := fun q => ((hx6.trans hX0).trans q.h).keep z3
  iterate 8 (refine wpTreeR_look rfl (fun K hK => ?_); go_simp; first | (refine hK _ ?_; clear hK K) | (refine ⟨_, fun _ => rfl, hK _ ?_⟩; clear hK K))
  refine wpTreeR_one rfl rfl (fun K hK => ?_)
  go_wp2_with fail
  refine (HAP.out W0 hX0).mono ?_; rintro e w7 ⟨u7, rfl, ho7, hx7⟩
  obtain ⟨a7, c7, hu7, _⟩ := ho7.ints.open_
  subst hu7
  go_wp2_with fail
  refine ⟨.inr hx7, ?_⟩
  have hX7 := hX0.trans hx7
  iterate 5 (refine wpTreeR_look rfl (fun K hK => ?_); go_simp; first | (refine hK _ ?_; clear hK K) | (refine ⟨_, fun _ => rfl, hK _ ?_⟩; clear hK K))
  refine wpTreeR_done ?_
  go_wp2_with fail
  go_ret
  exact ⟨_, rfl, ho7.low (Nat.le_trans hsz hX0.size), (hx6.trans hX0).trans hx7⟩
theorem checkW_word {s : List Rul} {l : List Int} (h : checkW s l = 0) : validW l = 0 := by
  unfold checkW at h
  split at h
  · exact h
  · rename_i h1; exact absurd h h1
theorem checkW_rules {s : List Rul} {l : List Int} (h : checkW s l = 0) : validS s = 0 := by
  unfold checkW at h
  split at h
  · assumption
  · exact h
theorem own_ne {w : World} {B B' n n' k k' : Nat} {e e' : TypeId} {v v' : Value} {xs ys : List Value} (h : w.ownsRow B e k v n xs) (h' : w.ownsRow B' e' k' v' n' ys) (hne : e ≠ e') {r : Nat} (hr : v.ownBlock = some r) : v'.ownBlock ≠ some r := fun hr' => by
  obtain ⟨cur, h1, _⟩ := ownBlock_cells h r hr
  obtain ⟨cur', h2, _⟩ := ownBlock_cells h' r hr'
  rw [h1] at h2
  injection h2 with h2
  injection h2 with _ h3 _
  exact hne h3
def derS (s : List Rul) (gs : List Int) : Nat → List Int → Option (List Int)
  | 0, w => match winS s w gs with
    | none => some w
    | some _ => none
  | n + 1, w => match winS s w gs with
    | none => some w
    | some c => derS s gs n (applyL (rulAt s c.1) w c.2.1)
theorem derS_none {s : List Rul} {gs l : List Int} (h : winS s l gs = none) : ∀ n, derS s gs n l = some l := by
  intro n; cases n <;> simp [derS, h]
theorem derS_some {s : List Rul} {gs l : List Int} {c : Ch} (h : winS s l gs = some c) (n : Nat) : derS s gs (n + 1) l = derS s gs n (applyL (rulAt s c.1) l c.2.1) := by
  simp [derS, h]
theorem derS_full {s : List Rul} {gs l : List Int} {c : Ch} (h : winS s l gs = some c) : derS s gs 0 l = none := by
  simp [derS, h]
set_option maxHeartbeats 8000000 in
set_option maxRecDepth 100000 in
theorem derive_c (v wv gv : Value) (s : List Rul) (l gs : List Int) (w : World) (h : Ruls w v s) (hw : Ints w wv l) (hg : Ints w gv gs) (hK : checkK s l gs = 0) (hgr : GrOk gs) :
    Calls Tryz.prog 130 #[v, wv, gv] w fun e w' => Ext w w' ∧ ((derS s gs 60 l = none ∧ e = .returned (.tuple #[.slice none 0 0, .slice none 0 0, .int .i64 3])) ∨
      (∃ u vc wv', derS s gs 60 l = some u ∧ e = .returned (.tuple #[vc, wv', .int .i64 0]) ∧ OInts 3 w' w.heap.size wv' u)) := by
  obtain ⟨hW0, hG0⟩ := checkK_zero hK
  have hgb : ∀ g ∈ gs, 1 ≤ g ∧ g ≤ 4 := (validG_zero.1 hG0).2.1
  have HC := Lib.hid (cloneInts_c wv l w hw (by have := validW_len (checkW_word hW0); omega))
  have HCH := Lib.hid (fun (u : List Int) (uv : Value) W (q : Ext w W) (hu : Ints W uv u) (hc : checkW s u = 0) => by
    have := choice_c v uv gv s u gs W (h.ext q) hu (hg.ext q) hgr
    rw [show stpsL s u = movesL s u by unfold stpsL; rw [if_pos hc], show winL s u gs (movesL s u) = winS s u gs from rfl] at this
    exact this)
  have HAP := Lib.hid (fun (u : List Int) (uv : Value) (c1 : Nat) (c2 c3 : Int) W (q : Ext w W) (hu : Ints W uv u) (hc : c1 < s.length) => oapply_c v uv s u c1 c2 c3 W (h.ext q) hu hc)
  obtain ⟨ar, cr, rfl, _⟩ := h.open_
  obtain ⟨aw, cw, rfl, _⟩ := hw.open_
  obtain ⟨ag, cg, rfl, _⟩ := hg.open_
  have HW0 := Lib.hid hW0
  clear h hw hg hK hG0 hW0 hgr
  have HGB := Lib.hid hgb; clear hgb
  go_enter Tryz.func130, Tryz.ntmps130
  go_wp2_with fail
  refine HC.out.mono ?_; rintro e w1 ⟨u1, rfl, ho1, hx1⟩
  obtain ⟨a1, c1, hu1, _⟩ := ho1.ints.open_
  subst hu1
  go_wp2_with fail
  go_loopg [1, 9] 60 (fun m t1 t9 wr => ∃ (k : Nat) (u : List Int) (au : Option Addr) (cu : Nat) (ao : Option Addr) (co : Nat) (C : List Ch), k ≤ 60 ∧ 60 ≤ k + m ∧ t1 = .slice au u.length cu ∧ OInts 3 wr w.heap.size (.slice au u.length cu) u ∧ t9 = .slice ao k co ∧ C.length = k ∧ OCel encCh 3 46 wr w.heap.size (.slice ao k co) C ∧ Ext w wr ∧ Hid (checkW s u = 0 ∧ derS s gs (60 - k) u = derS s gs 60 l))
  case atStart => exact ⟨0, l, a1, c1, none, 0, [], by omega, by omega, rfl, ho1, rfl, rfl, OCel.nil _ _ _ _ _, hx1, Lib.hid ⟨HW0.out, rfl⟩⟩
  case round =>
    obtain ⟨k, u, au, cu, ao, co, C, hk1, hk2, rfl, hou, rfl, hCl, hoC, hX, hHD⟩ := hrel
    have HCR := Lib.hid (HCH.out u _ wr hX hou.ints hHD.out.1)
    cases hwin : winS s u gs with
    | none =>
      rw [hwin] at HCR
      simp only [chV, Option.isSome_none] at HCR
      have HDN : Hid (derS s gs 60 l = some u) := Lib.hid (by rw [← hHD.out.2]; exact derS_none hwin _)
      clear hwin
      go_wp2_with fail
      refine HCR.out.mono ?_; rintro e w2 ⟨rfl, hx2⟩
      go_upto_region 4 with fail
      have hx3 := Ext.alloc w2 (.cells #[.int .i64 0, .int .i64 0, .int .i64 0] 46)
      generalize w2.alloc (.cells #[.int .i64 0, .int .i64 0, .int .i64 0] 46) = w3 at *
      go_wp2_with fail
      go_ret3
      exact ⟨(hX.trans hx2).trans hx3, .inr ⟨u, _, _, HDN.out, rfl, (hou.ext hx2).ext hx3⟩⟩
    | some c =>
      obtain ⟨c1, c2, c3⟩ := c
      rw [hwin] at HCR
      simp only [chV, Option.isSome_some] at HCR
      obtain ⟨y1, _, _, y4, _⟩ := win_some hwin HGB.out
      dsimp only at y1 y4
      have HHD2 := Lib.hid hHD.out
      have HWN := Lib.hid hwin
      clear hwin hHD
      by_cases h60 : k = 60
      · subst h60
        have HDN : Hid (derS s gs 60 l = none) := Lib.hid (by rw [← HHD2.out.2]; exact derS_full HWN.out)
        go_wp2_with fail
        refine HCR.out.mono ?_; rintro e w2 ⟨rfl, hx2⟩
        go_upto_region 4 with fail
        have hx3 := Ext.alloc w2 (.cells #[.int .i64 c1, .int .i64 c2, .int .i64 c3] 46)
        generalize w2.alloc (.cells #[.int .i64 c1, .int .i64 c2, .int .i64 c3] 46) = w3 at *
        go_wp2_with fail
        go_ret3
        exact ⟨(hX.trans hx2).trans hx3, .inl ⟨HDN.out, rfl⟩⟩
      · have hq1 : ((k : Int) == 60) = false := by simp; omega
        have hq2 : ¬ ((k : Int) = 60) := by omega
        have HNX : Hid (checkW s (applyL (rulAt s c1) u c2) = 0 ∧ derS s gs (60 - (k + 1)) (applyL (rulAt s c1) u c2) = derS s gs 60 l) := Lib.hid ⟨by
          unfold checkW; rw [if_pos (checkW_rules HHD2.out.1)]; exact apply_valid y4, by
          rw [← HHD2.out.2, show 60 - k = (60 - (k + 1)) + 1 by omega, derS_some HWN.out]⟩
        have HK60 : Hid (k < 60) := Lib.hid (by omega)
        have HCl := Lib.hid hCl
        clear hCl h60
        go_wp2_with fail
        refine HCR.out.mono ?_; rintro e w2 ⟨rfl, hx2⟩
        go_upto_region 4 with fail
        have hb3 := Blk.alloc w2 #[.int .i64 c1, .int .i64 c2, .int .i64 c3] 46
        have hx3 := Ext.alloc w2 (.cells #[.int .i64 c1, .int .i64 c2, .int .i64 c3] 46)
        generalize w2.alloc (.cells #[.int .i64 c1, .int .i64 c2, .int .i64 c3] 46) = w3 at *
        have hneG : ∀ r, (Value.slice ao k co).ownBlock = some r → r ≠ w2.heap.size := fun r hr e => by have := (ownsRow_lt (hoC.ext hx2) hr).2; omega
        generalize w2.heap.size = g3 at *
        have hX3 := (hX.trans hx2).trans hx3
        replace hoC := (hoC.ext hx2).ext hx3
        replace hou := (hou.ext hx2).ext hx3
        have hz3 := hX3.size
        have y0 := hb3.cell (i := 0) rfl
        have y1' := hb3.cell (i := 1) rfl
        have y2 := hb3.cell (i := 2) rfl
        have hlC : (C.length + 1) * 24 ≤ 140737488355328 ∧ C.length + 1 ≤ 9223372036854775807 := by have := HCl.out; omega
        go_wp2_with (at_builtin; refine wpList_appendS (enc := encCh) (L := C) (v := .slice ao k co) ((c1, c2, c3) : Ch) elCh rfl _ _ rfl rfl rfl hoC rfl rfl rfl (fun u hu => encCh_one (c1, c2, c3) u hu) hz3 hlC.1 hlC.2 ?_; intro v6 w6 hO6 hb6 hg6 hn6; obtain ⟨a6, c6, hv6, _⟩ := (Cel.own encCh_len hO6).open_; rw [List.length_append, List.length_singleton, HCl.out] at hv6; subst hv6; have hb36 := Blk.kept2 hb3 hg6 (fun e => hneG g3 e rfl); have t0 := hb36.cell (i := 0) rfl; have t1 := hb36.cell (i := 1) rfl; have t2 := hb36.cell (i := 2) rfl)
        have hou6 := ownsRow_kept2 hou hg6 (fun r hr e => own_ne hou hoC (by decide) hr e)
        have hX6 : Ext w w6 := Below.trans hX3 hb6
        refine (HAP.out u _ c1 c2 c3 w6 hX6 (OInts.ints hou6) y1).mono ?_; rintro e w7 ⟨u7, rfl, ho7, hx7⟩
        obtain ⟨a7, c7, hu7, _⟩ := ho7.ints.open_
        subst hu7
        go_wp2_with fail
        go_roundg (gk-1)
        case measure => have := HK60.out; omega
        case rel => exact ⟨k + 1, _, a7, c7, a6, c6, C ++ [((c1, c2, c3) : Ch)], by have := HK60.out; omega, by omega, rfl, ho7.low hX6.size, rfl, by simp [HCl.out], hO6.ext hx7, hX6.trans hx7, Lib.hid HNX.out⟩
set_option maxHeartbeats 2000000 in
set_option maxRecDepth 100000 in
theorem Derive_c (v wv gv : Value) (s : List Rul) (l gs : List Int) (w : World) (h : Ruls w v s) (hw : Ints w wv l) (hg : Ints w gv gs) (hK : checkK s l gs = 0) :
    Calls Tryz.prog 89 #[v, wv, gv] w fun e w' => Ext w w' ∧ ((derS s gs 60 l = none ∧ e = .returned (.tuple #[.slice none 0 0, .slice none 0 0, .int .i64 3])) ∨
      (∃ u vc wv', derS s gs 60 l = some u ∧ e = .returned (.tuple #[vc, wv', .int .i64 0]) ∧ OInts 3 w' w.heap.size wv' u)) := by
  have HD := Lib.hid (fun W (q : Ext w W) => derive_c v wv gv s l gs W (h.ext q) (hw.ext q) (hg.ext q) hK (validG_gr (checkK_zero hK).2))
  have HCK := Lib.hid (fun W (q : Ext w W) u (hu : OneW W u gs) => ocheck_c v wv u s l gs W (h.ext q) (hw.ext q) hu)
  rw [hK] at HCK
  obtain ⟨ar, cr, rfl, _⟩ := h.open_
  obtain ⟨aw, cw, rfl, _⟩ := hw.open_
  have hg0 := hg
  obtain ⟨ag, cg, rfl, _⟩ := hg.open_
  clear h hw hg hK
  go_enter Tryz.func89, Tryz.ntmps89
  go_wp2_with fail
  have hx1 := Ext.alloc w (.cells #[.slice ag gs.length cg] 34)
  refine (HCK.out _ hx1 _ (OneW.new w (.slice ag gs.length cg) gs 34 hg0)).mono ?_; rintro e w2 ⟨rfl, hx2⟩
  have hX2 := hx1.trans hx2
  go_wp2_with fail
  refine (HD.out w2 hX2).mono ?_; rintro e w3 ⟨hx3, ⟨h1, rfl⟩ | ⟨u, vc, wv', h1, rfl, ho⟩⟩
  · go_wp2_with fail
    go_ret3
    exact ⟨hX2.trans hx3, .inl ⟨h1, rfl⟩⟩
  · have HO := Lib.hid h1; clear h1
    go_wp2_with fail
    go_ret3
    exact ⟨hX2.trans hx3, .inr ⟨u, vc, wv', HO.out, rfl, ho.low hX2.size⟩⟩
set_option maxHeartbeats 2000000 in
set_option maxRecDepth 100000 in
theorem Form_c (v wv gv : Value) (s : List Rul) (l gs : List Int) (w : World) (h : Ruls w v s) (hw : Ints w wv l) (hg : Ints w gv gs) (hK : checkK s l gs = 0) :
    Calls Tryz.prog 53 #[v, wv, gv] w fun e w' => Ext w w' ∧ ((derS s gs 60 l = none ∧ e = .returned (.tuple #[.slice none 0 0, .int .i64 3])) ∨
      (∃ u wv', derS s gs 60 l = some u ∧ e = .returned (.tuple #[wv', .int .i64 0]) ∧ OInts 3 w' w.heap.size wv' u)) := by
  have HD := Lib.hid (Derive_c v wv gv s l gs w h hw hg hK)
  obtain ⟨ar, cr, rfl, _⟩ := h.open_
  obtain ⟨aw, cw, rfl, _⟩ := hw.open_
  obtain ⟨ag, cg, rfl, _⟩ := hg.open_
  clear h hw hg hK
  go_enter Tryz.func53, Tryz.ntmps53
  go_wp2_with fail
  refine HD.out.mono ?_; rintro e w3 ⟨hx3, ⟨h1, rfl⟩ | ⟨u, vc, wv', h1, rfl, ho⟩⟩
  · go_wp2_with fail
    go_ret2
    exact ⟨hx3, .inl ⟨h1, rfl⟩⟩
  · have HO := Lib.hid h1; clear h1
    go_wp2_with fail
    go_ret2
    exact ⟨hx3, .inr ⟨u, wv', HO.out, rfl, ho⟩⟩
end Go.Proofs.YtpmlcfgbfhgpgaaGreatDoor
