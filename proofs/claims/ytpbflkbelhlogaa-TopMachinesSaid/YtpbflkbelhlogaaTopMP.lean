/- TopMachines, plain: what the functions of machines say together. -/
import Derived.Test.YtpbflkbelhlogaaJoinedRowTopMachines
import Derived.Test.YtpbflkbelhlogaaMacN
import Derived.Test.YtpbflkbelhlogaaMacQ2
namespace Go.Proofs.Ytpbflkbelhlogaa
open Go.RowKit Go.Shelf
set_option linter.unusedVariables false

theorem checkK_v {m : Mac} {l : List (List Int)} (h : checkK m l = 0) : validM m = 0 := by
  unfold checkK at h
  split at h
  · assumption
  · exact h
theorem goRun_at {m : Mac} : ∀ {R u v : List Int} {s : Int}, goRun m R u v s → u.length = R.length ∧ v.length = R.length ∧
    (∀ k, k < R.length → ∃ t : Nat, R[k]?.getD 0 = t ∧ t < m.a.length ∧ (arcA m.a t).i = u[k]?.getD 0 ∧ (arcA m.a t).o = v[k]?.getD 0 ∧ (arcA m.a t).f = (match k with | 0 => s | j + 1 => (arcA m.a (R[j]?.getD 0).toNat).t)) ∧
    (match R.length with | 0 => s | j + 1 => (arcA m.a (R[j]?.getD 0).toNat).t) ∈ m.e
  | [], [], [], s, h => ⟨rfl, rfl, fun k hk => by simp at hk, h⟩
  | x :: R, i :: u, o :: v, s, ⟨t, hx, ht, h1, h2, h3, h4⟩ => by
    obtain ⟨e1, e2, e3, e4⟩ := goRun_at h4
    refine ⟨by simp [e1], by simp [e2], fun k hk => ?_, ?_⟩
    · cases k with
      | zero => exact ⟨t, by simpa using hx, ht, by simpa using h2, by simpa using h3, h1⟩
      | succ k =>
        obtain ⟨t', f1, f2, f3, f4, f5⟩ := e3 k (by simpa using hk)
        refine ⟨t', by simpa using f1, f2, by simpa using f3, by simpa using f4, ?_⟩
        cases k with
        | zero => rw [f5]; simp [hx]
        | succ k => rw [f5]; simp
    · show (arcA m.a ((x :: R)[R.length]?.getD 0).toNat).t ∈ m.e
      cases hR : R with
      | nil => subst hR; simpa [hx] using e4
      | cons y R' => subst hR; simpa using e4
theorem goRun_run {m : Mac} (hm : validM m = 0) {R u v : List Int} (h : goRun m R u v 0) (hl : u.length ≤ 200) : runK m R = 0 ∧ runI m R = u ∧ runO m R = v := by
  obtain ⟨e1, e2, e3, e4⟩ := goRun_at h
  have h1 : allB R.length (inRun m R) = true := allB_true fun j hj => by
    obtain ⟨t, f1, f2, _⟩ := e3 j hj
    unfold inRun inB
    rw [f1]; simp; omega
  have hat : ∀ k, rAt m.a R k = (match k with | 0 => 0 | j + 1 => (arcA m.a (R[j]?.getD 0).toNat).t) := fun k => by cases k <;> rfl
  have h2 : allB R.length (onRun m R) = true := allB_true fun j hj => by
    obtain ⟨t, f1, f2, _, _, f5⟩ := e3 j hj
    unfold onRun
    rw [f1, hat, beq_iff_eq]; exact f5
  have h3 : hasB m.e (rAt m.a R R.length) = true := by
    rw [hasB_eq, List.contains_iff_mem, hat]; exact e4
  have hk : runK m R = 0 := by
    unfold runK
    rw [if_pos hm, if_neg (by omega), h1, if_pos rfl, h2, if_pos rfl, h3, if_pos rfl]
  refine ⟨hk, ?_, ?_⟩
  · rw [runI, if_pos hk, rIn, List.take_length]
    refine List.ext_getElem (by simp [e1]) fun j g1 g2 => ?_
    simp only [List.length_map] at g1
    obtain ⟨t, f1, f2, f3, f4, _⟩ := e3 j g1
    simp only [g1, g2, List.getElem?_eq_getElem, Option.getD_some] at f1 f3
    rw [List.getElem_map, f1]; exact f3
  · rw [runO, if_pos hk, rOut, List.take_length]
    refine List.ext_getElem (by simp [e2]) fun j g1 g2 => ?_
    simp only [List.length_map] at g1
    obtain ⟨t, f1, f2, f3, f4, _⟩ := e3 j g1
    simp only [g1, g2, List.getElem?_eq_getElem, Option.getD_some] at f1 f4
    rw [List.getElem_map, f1]; exact f4

theorem two_checks {m : Mac} (h : validM m = 0) (ht : twoB m = true) : checkTwoK m (twoL m Lst.i) (twoL m Lst.u) (twoL m Lst.v) = 0 := by
  unfold twoB at ht
  rw [if_pos h] at ht
  obtain ⟨p, hp⟩ := Option.isSome_iff_exists.1 ht
  have := two_ok (validM_mac h) (d := p.1) (q := p.2) hp
  rw [if_pos h] at this
  unfold twoL
  simp only [if_pos h, hp, Option.map_some, Option.getD_some]
  exact this
theorem two_none {m : Mac} (ht : twoB m = false) (f : Lst → Int) : twoL m f = [] := by
  unfold twoB at ht
  unfold twoL
  split
  · rename_i h
    rw [if_pos h] at ht
    have : bfsM m = none := by simpa using ht
    rw [this]; rfl
  · rfl
theorem two_fun {m : Mac} (h : validM m = 0) : isFunB m = !twoB m := by
  unfold isFunB twoB
  rw [if_pos h, if_pos h]
  cases bfsM m <;> rfl

theorem turnX_len (m : Mac) : (turnX m).a.length ≤ m.a.length ∧ (turnX m).e.length ≤ m.e.length := by
  unfold turnX
  split
  · simp [turnM]
  · simp
theorem turnX_ok {m : Mac} (h : validM m = 0) : turnM m = turnX m ∧ turnX (turnX m) = m ∧ validM (turnX m) = 0 := by
  have h1 : turnX m = turnM m := by rw [turnX, if_pos h]
  have h2 : validM (turnM m) = 0 := by rw [validM_turn, h]
  rw [h1]
  exact ⟨rfl, by rw [turnX, if_pos h2, turn_turn], h2⟩
theorem imgGo_len {n : Nat} {m : Mac} : ∀ (u : List Int) (hs L : List Hd), hs.length ≤ 300 → imgGo n m u hs = some L → L.length ≤ 300
  | [], hs, L, h, he => by
    rw [imgGo] at he; injection he with he; rw [← he]; exact h
  | s :: u, hs, L, h, he => by
    rw [imgGo] at he
    split at he
    · cases he
    · exact imgGo_len u _ L (by omega) he
theorem imagesL_len {m : Mac} {u : List Int} : (imagesL m u).length ≤ 300 := by
  unfold imagesL
  split
  · cases ho : imagesO m.s.toNat m u with
    | none => simp
    | some L =>
      unfold imagesO at ho
      split at ho
      · cases hg : imgGo m.s.toNat m u [([], beginB m.s.toNat)] with
        | none => rw [hg] at ho; cases ho
        | some hs =>
          rw [hg] at ho
          injection ho with ho
          have := imgGo_len u _ hs (by simp) hg
          show L.length ≤ 300
          rw [← ho, List.length_map]; exact this
      · injection ho with ho; rw [← ho]; simp
  · simp
theorem imgGo_apart {n : Nat} {m : Mac} : ∀ (u : List Int) (hs ks : List Hd), HApart hs → imgGo n m u hs = some ks → HApart ks
  | [], hs, ks, h, he => by rw [imgGo] at he; injection he with he; rw [← he]; exact h
  | s :: u, hs, ks, h, he => by
    rw [imgGo] at he
    split at he
    · cases he
    · exact imgGo_apart u _ ks (HApart.next h) he
theorem images_nodup {n : Nat} {m : Mac} {u : List Int} {L : List (List Int)} (h : imagesO n m u = some L) : L.Nodup := by
  unfold imagesO at h
  split at h
  · cases hg : imgGo n m u [([], beginB n)] with
    | none => rw [hg] at h; cases h
    | some hs =>
      rw [hg] at h
      injection h with h
      rw [← h]
      exact List.pairwise_map.2 (imgGo_apart u _ hs (List.pairwise_singleton _ _) hg)
  · injection h with h; rw [← h]; exact List.nodup_nil
theorem fun_one {m : Mac} (h0 : validM m = 0) (hf : isFunB m = true) {w u v : List Int} (h1 : relP m w u 0) (h2 : relP m w v 0) : u = v := by
  have hm := validM_mac h0
  unfold isFunB at hf
  rw [if_pos h0] at hf
  cases he : bfsM m with
  | some p => rw [he] at hf; cases hf
  | none =>
    refine Classical.byContradiction fun hne => ?_
    obtain ⟨q', hp, hc⟩ := bfs_none hm.in_ 200 0 begin0 (QOk.begin m.a hm.in_.n1) (by omega) (fun j hj => by omega) he
    exact closed_none hc w u v 0 0 false (mem_pre hp (by simp [begin0])) h1 h2 (.inr hne)
theorem fun_len {m : Mac} {u : List Int} (hf : isFunB m = true) (hi : imagesK m u = 0) : (imagesL m u).length ≤ 1 := by
  obtain ⟨h0, L, ho, hL⟩ := imagesK_ok hi
  have hv := checkK_v h0
  have hnd := images_nodup ho
  have hmem : ∀ v, v ∈ L → relP m u v 0 := fun v hv => (images_iff hi v).1 (by rw [hL]; exact hv)
  rw [hL]
  match L, hnd, hmem with
  | [], _, _ => simp
  | [a], _, _ => simp
  | a :: b :: l, hnd, hmem =>
    exfalso
    have h1 := fun_one hv hf (hmem a (by simp)) (hmem b (by simp))
    subst h1
    simp at hnd
theorem accepts_len {m : Mac} {u : List Int} (hi : imagesK m u = 0) : acceptsB m u = decide (0 < (imagesL m u).length) := by
  obtain ⟨h0, L, ho, hL⟩ := imagesK_ok hi
  obtain ⟨hm, _, _⟩ := checkK_ok h0
  rw [acceptsB, if_pos h0, hL]
  exact images_ne hm.in_ hm.outIn ho
theorem accepts_rel {m : Mac} {u : List Int} (ha : acceptsB m u = true) : ∃ v, relP m u v 0 := by
  unfold acceptsB at ha
  split at ha
  · rename_i h0
    obtain ⟨hm, _, _⟩ := checkK_ok h0
    exact canP_rel ((getB_can hm.in_ u (Int.le_refl 0)).1 ha)
  · cases ha
theorem check_word {m : Mac} {u : List Int} (h : checkK m [u] = 0) : wordK 8 u = 0 := by
  have hv := checkK_v h
  rw [checkK_one, if_pos hv] at h; exact h
theorem check_two {m : Mac} {u v : List Int} (hv : validM m = 0) (h1 : wordK 8 u = 0) (h2 : wordK 8 v = 0) : checkK m [u, v] = 0 := by
  rw [checkK, if_pos hv, wordsK, if_pos h1, wordsK, if_pos h2]; rfl
theorem relates_of {m : Mac} {u v : List Int} (h : checkK m [u, v] = 0) (hr : relP m u v 0) : relatesB m u v = true := by
  obtain ⟨hm, hul, _⟩ := checkK_ok (checkK_ok2 h).1
  rw [relatesB, if_pos h, decide_eq_true_eq]
  exact (cntUV_iff hm hul).2 hr
structure TopImg (m : Mac) (u v : List Int) : Prop where
  r1 : relatesB m u v = true
  c1 : checkK m [u, v] = 0
  r2 : relatesB (turnX m) v u = true
  c2 : checkK (turnX m) [v, u] = 0
  r3 : relatesB (trimM m) u v = true
  c3 : checkK (trimM m) [u, v] = 0
  run : ∀ R, goRun m R u v 0 → runK m R = 0 ∧ runI m R = u ∧ runO m R = v
theorem top_img {m : Mac} {u v : List Int} (hi : imagesK m u = 0) (hv : v ∈ imagesL m u) : TopImg m u v := by
  obtain ⟨h0, L, ho, hL⟩ := imagesK_ok hi
  obtain ⟨hm, hu8, _⟩ := checkK_ok h0
  have hV := checkK_v h0
  have hr := (images_iff hi v).1 hv
  have hwu := check_word h0
  have hwv : wordK 8 v = 0 := wordK_of8 (by rw [← relP_len hr]; exact hu8) (relP_out hm hr)
  have c1 := check_two hV hwu hwv
  have c2 := check_two (turnX_ok hV).2.2 hwv hwu
  have hT := trimM_valid hV
  have c3 := check_two hT hwu hwv
  have hti : imagesK (trimM m) u = 0 := by rw [(trims_same hV u).2]; exact hi
  refine ⟨relates_of c1 hr, c1, relates_of c2 ?_, c2, relates_of c3 ((images_iff hti v).1 (by rw [(trims_same hV u).1]; exact hv)), c3, fun R hR => goRun_run hV hR (by omega)⟩
  rw [← (turnX_ok hV).1]
  exact relP_turn' hr
theorem top_round {m : Mac} {u : List Int} (hf : checkK m [u] = 0) (ha : acceptsB m u = true) (hc : composeK m (turnX m) = 0) : relatesB (composeM m (turnX m)) u u = true ∧ checkK (composeM m (turnX m)) [u, u] = 0 := by
  obtain ⟨hm, hn, v1, v2, v3, hcc⟩ := compose_ok hc
  have hwu := check_word hf
  have c1 := check_two v3 hwu hwu
  obtain ⟨v, hv⟩ := accepts_rel ha
  refine ⟨relates_of c1 ((compose_rel0 hc u u).2 ⟨v, hv, ?_⟩), c1⟩
  rw [← (turnX_ok v1).1]
  exact relP_turn' hv
theorem compose_none {m n : Mac} (h : composeK m n ≠ 0) : composeM m n = ⟨0, [], []⟩ := by
  unfold composeM
  by_cases hb : bothK m n = 0
  · rw [if_pos hb]
    unfold composeK at h
    rw [if_pos hb] at h
    rw [madeM, if_neg h]
  · rw [if_neg hb]
theorem images_bad {m : Mac} {u : List Int} (h : checkK m [u] ≠ 0) : imagesL m u = [] ∧ imagesK m u = checkK m [u] := by
  rw [imagesL, imagesK, if_neg h, if_neg h]; exact ⟨rfl, rfl⟩
theorem plain2_len : (plainM 2).a.length = 2 := by decide +kernel
theorem plain2_K : plainK 2 = 0 := by decide +kernel
end Go.Proofs.Ytpbflkbelhlogaa
