/- All sources of a word; whether a list has a word. -/
import Derived.Test.YtpbflkbelhlogaaMacL
import Derived.Test.YtpbflkbelhlogaaMacF
import Derived.Test.YtpbflkbelhlogaaMacI
namespace Go.Proofs.Ytpbflkbelhlogaa
open Go.RowKit Go.Shelf
set_option linter.unusedVariables false

/-! ## plain -/
theorem arcA_map (l : List Arc) (k : Nat) : arcA (l.map tA) k = tA (arcA l k) := by
  unfold arcA
  rw [List.getElem?_map]
  cases l[k]? <;> rfl
theorem tA_inj (a b : Arc) : (tA a == tA b) = (a == b) := by
  rw [Bool.eq_iff_iff, beq_iff_eq, beq_iff_eq]
  constructor
  · intro h
    have := congrArg tA h
    simpa [tA_tA] using this
  · rintro rfl; rfl
theorem arcOk_t2 (s : Int) (a : Arc) : arcOk s (tA a) = arcOk s a := by
  unfold arcOk tA
  rw [Bool.and_comm (inB a.o 0 5)]
theorem validM_turn (m : Mac) : validM (turnM m) = validM m := by
  have h1 : (turnM m).a.length = m.a.length := by simp [turnM]
  have h2 : ∀ k, arcOk (turnM m).s (arcA (turnM m).a k) = arcOk m.s (arcA m.a k) := fun k => by
    show arcOk m.s (arcA (m.a.map tA) k) = _
    rw [arcA_map, arcOk_t2]
  have h3 : onceB (turnM m).a = onceB m.a := by
    unfold onceB
    rw [h1]
    congr 1
    funext i
    congr 1
    unfold hasA
    congr 1
    funext j
    show (arcA (m.a.map tA) j == arcA (m.a.map tA) i) = _
    rw [arcA_map, arcA_map, tA_inj]
  unfold validM
  rw [h1, h3]
  simp only [h2]
  rfl
theorem checkK_turn (m : Mac) (l : List (List Int)) : checkK (turnM m) l = checkK m l := by unfold checkK; rw [validM_turn]
theorem relP_turn {m : Mac} : ∀ {u v : List Int} {s : Int}, relP (turnM m) u v s → relP m v u s
  | [], [], _, h => h
  | i :: u, o :: v, s, ⟨a, ha, h1, h2, h3, h4⟩ => by
    obtain ⟨b, hb, rfl⟩ := List.mem_map.1 ha
    exact ⟨b, hb, h1, h3, h2, relP_turn h4⟩
  | [], _ :: _, _, h => h.elim
  | _ :: _, [], _, h => h.elim
theorem relP_turn' {m : Mac} {u v : List Int} {s : Int} (h : relP m u v s) : relP (turnM m) v u s := by
  have : relP (turnM (turnM m)) u v s := by rw [turn_turn]; exact h
  exact relP_turn this
theorem relP_in {m : Mac} (hm : MacOk m) : ∀ {u v : List Int} {s : Int}, relP m u v s → ∀ x ∈ u, 0 ≤ x ∧ x ≤ 5
  | [], [], _, _, x, hx => by simp at hx
  | i :: u, o :: v, s, ⟨a, ha, h1, h2, h3, h4⟩, x, hx => by
    rcases List.mem_cons.1 hx with rfl | hx
    · have := hm.mem ha
      omega
    · exact relP_in hm h4 x hx
  | [], _ :: _, _, h, _, _ => h.elim
  | _ :: _, [], _, h, _, _ => h.elim
theorem sndB_in5 {l : List Int} (h : ∀ x ∈ l, 0 ≤ x ∧ x ≤ 5) : sndB l = true := by
  unfold sndB
  refine allB_true fun j hj => ?_
  have := h l[j] (List.getElem_mem hj)
  rw [List.getElem?_eq_getElem hj]
  show inB l[j] 0 5 = true
  unfold inB
  simp; omega
theorem checkK_of {m : Mac} {u : List Int} (h : validM m = 0) (hl : u.length ≤ 8) (hs : sndB u = true) : checkK m [u] = 0 := by
  rw [checkK_one, if_pos h]
  unfold wordK
  rw [if_neg (by omega), if_pos hs]
theorem checkK_valid {m : Mac} {l : List (List Int)} (h : checkK m l = 0) : validM m = 0 := by
  unfold checkK at h
  split at h
  · assumption
  · exact absurd h (by assumption)
/-- what is a source has the word as an image -/
theorem source_image {m : Mac} {v : List Int} {x : List Int} (hx : x ∈ imagesL (turnM m) v) : (imagesK m x = 0 ∧ v ∈ imagesL m x) ∨ imagesK m x = 3 := by
  unfold imagesL at hx
  split at hx
  · rename_i h0
    obtain ⟨hmt, hlv, hsv⟩ := checkK_ok h0
    have hv : validM m = 0 := by rw [← validM_turn]; exact checkK_valid h0
    have hm := validM_mac hv
    cases ho : imagesO (turnM m).s.toNat (turnM m) v with
    | none => rw [ho] at hx; simp at hx
    | some L =>
      rw [ho] at hx
      have hr := relP_turn ((images_mem hmt.in_ hmt.outIn ho x).1 hx)
      have hl := relP_len hr
      have hs := sndB_in5 (relP_in hm hr)
      have hc := checkK_of hv (by omega) hs
      unfold imagesK imagesL
      rw [if_pos hc, if_pos hc]
      cases ho2 : imagesO m.s.toNat m x with
      | none => right; rfl
      | some L2 => left; exact ⟨rfl, (images_mem hm.in_ hm.outIn ho2 v).2 hr⟩
  · simp at hx

set_option maxHeartbeats 2000000 in
theorem Sources_c (av ev uv : Value) (m : Mac) (u : List Int) (w : World) (h : MacR w av ev m) (hu : Ints w uv u) (hal : m.a.length ≤ 100000) (hel : m.e.length ≤ 100000) : Calls Try.prog 32 #[.agg #[.int .i64 m.s, av, ev], uv] w (R2 (isRows (imagesL (turnM m) u)) (imagesK (turnM m) u) w) := by
  obtain ⟨wA, hwA⟩ : ∃ wA, wA = w.alloc (.cells #[.int .i64 m.s, av, ev] 25) := ⟨_, rfl⟩
  have hE0 : Ext w wA := by rw [hwA]; exact Ext.alloc _ _
  have k0 : ∀ W, Ext wA W → W.cell? ⟨w.heap.size, 0, none⟩ = some (.int .i64 m.s) := by rw [hwA]; exact kept_alloc w _ _ rfl
  have k1 : ∀ W, Ext wA W → W.cell? ⟨w.heap.size, 1, none⟩ = some av := by rw [hwA]; exact kept_alloc w _ _ rfl
  have k2 : ∀ W, Ext wA W → W.cell? ⟨w.heap.size, 2, none⟩ = some ev := by rw [hwA]; exact kept_alloc w _ _ rfl
  have H0 : Ext wA wA := Ext.refl _
  have HR := Lib.hid (h.ext hE0)
  have HI := Lib.hid (hu.ext hE0)
  obtain ⟨aa, ca, rfl, hla, hma, HA⟩ := (h.ext hE0).a.open_
  obtain ⟨ae, ce, rfl, hle, hme, HE⟩ := (h.ext hE0).e.open_
  obtain ⟨au, cu, rfl, hlu, hmu, HU⟩ := (hu.ext hE0).open_
  have hxL := Ext.alloc wA (.cells #[.slice au u.length cu] 23)
  have HC := Lib.hid (by have := check_c _ _ _ m [u] _ (HR.out.ext hxL) (rows_one wA HI.out); rw [show wA.heap.size = w.heap.size + 1 by rw [hwA]; simp] at this; exact this)
  have HT := Lib.hid (fun W (hW : Ext wA W) => turned_c _ _ m W (HR.out.ext hW) hal hel)
  have HW := Lib.hid hwA; clear hwA h hu
  have hce := checkK_turn m [u]
  by_cases h0 : checkK m [u] = 0
  · have h1 : checkK (turnM m) [u] = 0 := by rw [hce, h0]
    obtain ⟨hm, hul, _⟩ := checkK_ok h1
    have HIM := Lib.hid (fun av2 ev2 W (hW : Ext wA W) (hM : MacR W av2 ev2 (turnM m)) => images_c av2 ev2 _ (turnM m) (turnM m).s.toNat u W hM hm.in_ (HI.out.ext hW) (by omega))
    have hL : Hid (imagesL (turnM m) u = (imagesO (turnM m).s.toNat (turnM m) u).getD []) := by rw [imagesL, if_pos h1]; exact rfl
    have hK : Hid (imagesK (turnM m) u = if (imagesO (turnM m).s.toNat (turnM m) u).isSome then 0 else 3) := by rw [imagesK, if_pos h1]; exact rfl
    rw [h0] at HC
    clear h0 h1 hm hce
    generalize imagesO (turnM m).s.toNat (turnM m) u = o at *
    go_enter Try.func32, Try.ntmps32
    go_wp2_with fail
    rw [← HW.out]
    refine HC.out.mono ?_; rintro e w1 ⟨rfl, hx1⟩
    have hx1 := hxL.trans hx1
    go_wp2_with fail
    refine (HT.out w1 hx1).mono ?_; rintro e w2 ⟨av2, ev2, rfl, hM2, hx2⟩
    have hx2 := hx1.trans hx2
    have HM2 := Lib.hid hM2.mac; clear hM2
    go_wp2_with fail
    refine (HIM.out av2 ev2 w2 hx2 HM2.out).mono ?_; rintro e w3 ⟨v, rfl, hv, hx3⟩
    cases o with
    | none =>
      go_wp2_with fail
      go_ret2
      exact ⟨_, by rw [hK.out]; rfl, by rw [hL.out]; exact Rows.nil _, hE0.trans (hx2.trans hx3)⟩
    | some l =>
      go_wp2_with fail
      go_ret2
      exact ⟨_, by rw [hK.out]; rfl, by rw [hL.out]; exact hv, hE0.trans (hx2.trans hx3)⟩
  · have h1 : checkK (turnM m) [u] ≠ 0 := by rw [hce]; exact h0
    rw [show imagesL (turnM m) u = [] by rw [imagesL, if_neg h1], show imagesK (turnM m) u = checkK m [u] by rw [imagesK, if_neg h1, hce]]
    have hk : (checkK m [u] != 0) = true := by simp [h0]
    clear hce h1
    generalize checkK m [u] = k at *
    clear h0
    go_enter Try.func32, Try.ntmps32
    go_wp2_with fail
    rw [← HW.out]
    refine HC.out.mono ?_; rintro e w1 ⟨rfl, hx1⟩
    have hx1 := hxL.trans hx1
    go_wp2_with fail
    go_ret2
    exact ⟨_, rfl, Rows.nil _, hE0.trans hx1⟩

set_option maxHeartbeats 2000000 in
theorem rSources_c (av ev uv : Value) (m : Mac) (u : List Int) (w : World) (h : MacR w av ev m) (hu : Ints w uv u) (hal : m.a.length ≤ 100000) (hel : m.e.length ≤ 100000) : Calls Try.prog 33 #[.agg #[.int .i64 m.s, av, ev], uv] w (R2 (isRows (imagesL (turnM m) u)) (imagesK (turnM m) u) w) := by
  obtain ⟨wA, hwA⟩ : ∃ wA, wA = w.alloc (.cells #[.int .i64 m.s, av, ev] 25) := ⟨_, rfl⟩
  have hE0 : Ext w wA := by rw [hwA]; exact Ext.alloc _ _
  have k0 : ∀ W, Ext wA W → W.cell? ⟨w.heap.size, 0, none⟩ = some (.int .i64 m.s) := by rw [hwA]; exact kept_alloc w _ _ rfl
  have k1 : ∀ W, Ext wA W → W.cell? ⟨w.heap.size, 1, none⟩ = some av := by rw [hwA]; exact kept_alloc w _ _ rfl
  have k2 : ∀ W, Ext wA W → W.cell? ⟨w.heap.size, 2, none⟩ = some ev := by rw [hwA]; exact kept_alloc w _ _ rfl
  have H0 : Ext wA wA := Ext.refl _
  have HR := Lib.hid (h.ext hE0)
  have HI := Lib.hid (hu.ext hE0)
  obtain ⟨aa, ca, rfl, hla, hma, HA⟩ := (h.ext hE0).a.open_
  obtain ⟨ae, ce, rfl, hle, hme, HE⟩ := (h.ext hE0).e.open_
  obtain ⟨au, cu, rfl, hlu, hmu, HU⟩ := (hu.ext hE0).open_
  have HC := Lib.hid (by have := worded_c _ _ _ _ m u [] wA HR.out HI.out (ints_nil_c wA); rw [checkK_nil] at this; exact this)
  have HT := Lib.hid (fun W (hW : Ext wA W) => rturn_c _ _ m W (HR.out.ext hW) hal hel)
  have HIM := Lib.hid (fun av2 ev2 W (hW : Ext wA W) (hM : MacR W av2 ev2 (turnM m)) => rImages_c av2 ev2 _ (turnM m) u W hM (HI.out.ext hW))
  have HW := Lib.hid hwA; clear hwA h hu
  have hce := checkK_turn m [u]
  by_cases h0 : checkK m [u] = 0
  · rw [h0] at HC
    clear h0 hce
    generalize imagesL (turnM m) u = L at *
    generalize imagesK (turnM m) u = k at *
    go_enter Try.func33, Try.ntmps33
    go_wp2_with fail
    rw [← HW.out]
    refine HC.out.mono ?_; rintro e w1 ⟨rfl, hx1⟩
    go_wp2_with fail
    refine (HT.out w1 hx1).mono ?_; rintro e w2 ⟨av2, ev2, rfl, hM2, hx2⟩
    have hx2 := hx1.trans hx2
    have HM2 := Lib.hid hM2.mac; clear hM2
    go_wp2_with fail
    refine (HIM.out av2 ev2 w2 hx2 HM2.out).mono ?_; rintro e w3 ⟨v, rfl, hv, hx3⟩
    go_wp2_with fail
    go_ret2
    exact ⟨_, rfl, hv, hE0.trans (hx2.trans hx3)⟩
  · have h1 : checkK (turnM m) [u] ≠ 0 := by rw [hce]; exact h0
    rw [show imagesL (turnM m) u = [] by rw [imagesL, if_neg h1], show imagesK (turnM m) u = checkK m [u] by rw [imagesK, if_neg h1, hce]]
    have hk : (checkK m [u] != 0) = true := by simp [h0]
    clear hce h1
    generalize checkK m [u] = k at *
    clear h0
    go_enter Try.func33, Try.ntmps33
    go_wp2_with fail
    rw [← HW.out]
    refine HC.out.mono ?_; rintro e w1 ⟨rfl, hx1⟩
    go_wp2_with fail
    go_ret2
    exact ⟨_, rfl, Rows.nil _, hE0.trans hx1⟩
def hasW (l : List (List Int)) (x : List Int) : Bool := (List.range l.length).any fun i => sameIntsB (l[i]?.getD []) x
theorem hasW_eq (l : List (List Int)) (x : List Int) : hasW l x = l.contains x := by
  unfold hasW
  rw [Bool.eq_iff_iff, List.any_eq_true, List.contains_iff_mem]
  constructor
  · rintro ⟨i, hi, h⟩
    have hi : i < l.length := by simpa using hi
    rw [sameIntsB_iff, List.getElem?_eq_getElem hi] at h
    have : l[i] = x := by simpa using h
    rw [← this]; exact List.getElem_mem hi
  · intro h
    obtain ⟨i, hi, rfl⟩ := List.mem_iff_getElem.1 h
    exact ⟨i, by simpa using hi, by rw [sameIntsB_iff, List.getElem?_eq_getElem hi]; simp⟩
theorem rany_true {n k : Nat} {f : Nat → Bool} (hk : k < n) (h : f k = true) : (List.range n).any f = true := List.any_eq_true.2 ⟨k, by simpa using hk, h⟩
theorem rany_false {n : Nat} {f : Nat → Bool} (h : ∀ j, j < n → f j = false) : (List.range n).any f = false := by
  rw [List.any_eq_false]; intro x hx; rw [h x (by simpa using hx)]; exact Bool.false_ne_true

set_option maxHeartbeats 1000000 in
set_option maxRecDepth 100000 in
theorem hasWord_c (lv xv : Value) (l : List (List Int)) (x : List Int) (w : World) (hl : Rows w lv l) (hx : Ints w xv x) : Calls Try.prog 34 #[lv, xv] w (RV (.bool (l.contains x)) w) := by
  rw [← hasW_eq]
  obtain ⟨a, c, rfl, hlc, hmc, H⟩ := Rows.open_ hl
  obtain ⟨ax, cx, rfl, _, _, _⟩ := hx.open_
  have HX := Lib.hid hx
  clear hl hx
  go_enter Try.func34, Try.ntmps34
  go_wp2_with fail
  go_loopg [5] l.length (fun z i wr => ∃ k : Nat, k ≤ l.length ∧ l.length ≤ k + z ∧ i = .int .i64 k ∧ Ext w wr ∧ Hid (∀ j, j < k → sameIntsB (l[j]?.getD []) x = false))
  case atStart => exact ⟨0, by omega, by omega, rfl, Ext.refl _, Lib.hid (fun j hj => by omega)⟩
  case round =>
    obtain ⟨k, hk, hkz, rfl, hX, hall⟩ := hrel
    by_cases hlt : k < l.length
    · obtain ⟨b, o, rfl, u, hc, hi⟩ := H.out k hlt
      replace hc := hX.keep hc
      have hiW := hi.ext hX
      have HS := Lib.hid (sameInts_c _ _ _ x wr hiW (HX.out.ext hX))
      obtain ⟨au, cu, rfl, _, _, _⟩ := hi.open_
      clear hi hiW
      cases hb : sameIntsB (l[k]?.getD []) x
      · have HBB := Lib.hid (range_step (f := fun j => sameIntsB (l[j]?.getD []) x) hall.out hb)
        rw [hb] at HS
        clear hb hall
        generalize hy : l[k]?.getD [] = y at HS hc ⊢
        clear hy
        go_wp2_with fail
        refine HS.out.mono ?_; rintro e w4 ⟨rfl, n4, hw4⟩
        have hx4 : Ext w w4 := hX.trans (by rw [hw4]; exact Ext.drewN _ _)
        clear hw4
        go_wp2_with fail
        go_roundg (gk-1)
        case measure => omega
        case rel => exact ⟨k+1, by omega, by omega, by go_num, hx4, HBB⟩
      · have HBB := Lib.hid hb
        rw [hb] at HS
        clear hb
        have HANY : Hid (hasW l x = true) := Lib.hid (rany_true hlt HBB.out)
        generalize l[k]?.getD [] = y at *
        go_wp2_with fail
        refine HS.out.mono ?_; rintro e w4 ⟨rfl, n4, hw4⟩
        have hx4 : Ext w w4 := hX.trans (by rw [hw4]; exact Ext.drewN _ _)
        clear hw4
        go_wp2_with fail
        go_ret
        exact RV.bool (by rw [HANY.out]) hx4
    · go_wp2_with fail
      go_ret
      exact RV.bool (by rw [hasW, rany_false (fun j hj => hall.out j (by omega))]) hX
end Go.Proofs.Ytpbflkbelhlogaa
