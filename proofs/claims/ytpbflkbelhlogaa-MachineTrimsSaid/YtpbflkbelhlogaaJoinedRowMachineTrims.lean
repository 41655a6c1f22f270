/- Several texts in one: PlnP, ShoL, EithP, MacZ, EithL, FeedAll, TrimP, TrimQ, TrimL, TrimR, Sub. -/
import Derived.Test.YtpbflkbelhlogaaRPlain
import Derived.Test.YtpbflkbelhlogaaShoP
import Derived.Test.YtpbflkbelhlogaaOSet
import Derived.Deep.CutRange
import Derived.Deep.CutBlock
import Derived.Test.YtpbflkbelhlogaaMacB
import Derived.Test.YtpbflkbelhlogaaMacI
import Derived.Test.YtpbflkbelhlogaaMacF
import Derived.Test.YtpbflkbelhlogaaMacS
import Derived.Test.YtpbflkbelhlogaaMade
import Derived.Test.YtpbflkbelhlogaaSl
/- Machines: a machine with Plain 6 behind it; machines with the same arcs in another order. Plain laws. -/
namespace Go.Proofs.Ytpbflkbelhlogaa
open Go.RowKit Go.Shelf
set_option linter.unusedVariables false
theorem plain6 : plainM 6 = ⟨1, plainA 6, [0]⟩ := by decide +kernel
theorem plain6_valid : validM (plainM 6) = 0 := by decide +kernel
theorem plain6_K : plainK 6 = 0 := by decide +kernel
theorem compX_plain {x : Arc} (h0 : 0 ≤ x.o) (h5 : x.o ≤ 5) : compX (plainM 6) x (plainM 6).a = [x] := by
  obtain ⟨f, t, i, o⟩ := x
  have h : o = 0 ∨ o = 1 ∨ o = 2 ∨ o = 3 ∨ o = 4 ∨ o = 5 := by simp only at h0 h5; omega
  rw [plain6]
  rcases h with rfl | rfl | rfl | rfl | rfl | rfl <;> simp [compX, compOf, plainA, List.range, List.range.loop]
theorem flat_self : ∀ l : List Arc, (∀ x ∈ l, 0 ≤ x.o ∧ x.o ≤ 5) → (l.flatMap fun x => compX (plainM 6) x (plainM 6).a) = l
  | [], _ => rfl
  | x :: l, h => by
    rw [List.flatMap_cons, compX_plain (h x (by simp)).1 (h x (by simp)).2, flat_self l fun y hy => h y (by simp [hy])]; rfl
theorem flat_end (l : List Int) : (l.flatMap fun a => (plainM 6).e.map fun b => a * (plainM 6).s + b) = l := by
  rw [plain6]
  induction l with
  | nil => rfl
  | cons a l ih => rw [List.flatMap_cons, ih]; simp
theorem compose_plain {m : Mac} (h : validM m = 0) : composeM m (plainM 6) = ⟨m.s, arcsU m.a, m.e⟩ ∧ composeK m (plainM 6) = 0 := by
  have hm := validM_mac h
  have hb : bothK m (plainM 6) = 0 := by rw [bothK, if_pos h, plain6_valid]
  have hA : compA m (plainM 6) = m.a := by
    unfold compA
    exact flat_self m.a fun x hx => hm.outIn x hx
  have hE : compE m (plainM 6) = m.e := flat_end m.e
  have hs : m.s * (plainM 6).s = m.s := by rw [plain6]; exact Int.mul_one _
  have h9 := hm.s2
  have hl : (arcsU m.a).length ≤ 60 := Nat.le_trans (arcsU_len m.a) hm.a
  have hK : madeK m.s m.a = 0 := by rw [madeK, if_neg (by omega), if_neg (by omega)]
  rw [composeM, composeK, if_pos hb, if_pos hb, hA, hE, hs, madeM, if_pos hK]
  exact ⟨rfl, hK⟩
theorem compose_bad {m n : Mac} (h : validM m ≠ 0) : composeM m n = ⟨0, [], []⟩ ∧ composeK m n = validM m := by
  have hb : bothK m n = validM m := by rw [bothK, if_neg h]
  rw [composeM, composeK, hb, if_neg h, if_neg h]
  exact ⟨rfl, rfl⟩
theorem allB_iff2 {n : Nat} {f : Nat → Bool} : allB n f = true ↔ ∀ j, j < n → f j = true := by simp [allB]
theorem once_nodup {l : List Arc} : onceB l = true ↔ l.Nodup := by
  unfold onceB List.Nodup
  rw [allB_iff2, List.pairwise_iff_getElem]
  constructor
  · intro h i j hi hj hij he
    have := h j hj
    unfold hasA at this
    simp only [Bool.not_eq_true', List.any_eq_false, List.mem_range] at this
    have := this i hij
    unfold arcA at this
    rw [List.getElem?_eq_getElem hi, List.getElem?_eq_getElem hj] at this
    simp [he] at this
  · intro h j hj
    unfold hasA
    simp only [Bool.not_eq_true', List.any_eq_false, List.mem_range]
    intro i hij
    unfold arcA
    rw [List.getElem?_eq_getElem (by omega), List.getElem?_eq_getElem hj]
    simpa using h i j (by omega) hj hij
theorem arcsU_perm {l : List Arc} (h : l.Nodup) : (arcsU l).Perm l := by
  refine (List.perm_ext_iff_of_nodup ?_ h).2 fun x => arcsU_mem l x
  exact List.Pairwise.imp (fun {a b : Arc} (hab : LtA a b) (he : a = b) => by subst he; exact LtA.irrefl _ hab) (arcsU_asc l)
theorem onsB_perm {n : Nat} {a b : List Arc} (p : a.Perm b) (c : Arc → Bool) (tgt : Arc → Int) : onsB n a c tgt = onsB n b c tgt := by
  unfold onsB
  refine p.foldl_eq' (fun x _ y _ z => ?_) _
  unfold onB
  by_cases h1 : c x = true <;> by_cases h2 : c y = true <;> simp only [h1, h2, if_true, if_false, Bool.false_eq_true]
  by_cases he : (tgt x).toNat = (tgt y).toNat
  · rw [he]
  · rw [List.set_comm _ _ he]
theorem any_perm {a b : List Arc} (p : a.Perm b) (c : Arc → Bool) : a.any c = b.any c := by
  rw [Bool.eq_iff_iff, List.any_eq_true, List.any_eq_true]
  constructor
  · rintro ⟨x, hx, h⟩; exact ⟨x, p.mem_iff.1 hx, h⟩
  · rintro ⟨x, hx, h⟩; exact ⟨x, p.mem_iff.2 hx, h⟩
theorem canL_perm {n : Nat} {m c : Mac} (p : c.a.Perm m.a) (he : c.e = m.e) : ∀ u, canL n c u = canL n m u
  | [] => by rw [canL, canL, he]
  | s :: u => by rw [canL, canL, canL_perm p he u, onsB_perm p]
theorem nextL_perm {n : Nat} {a b : List Arc} (p : a.Perm b) (s : Int) (nx : List Bool) (hs : List Hd) : nextL n a s nx hs = nextL n b s nx hs := by
  have h : nextH n a s nx = nextH n b s nx := by
    funext h
    unfold nextH
    congr 1
    funext o
    unfold nextO
    rw [any_perm p, onsB_perm p]
  unfold nextL
  rw [h]
theorem imgGo_perm {n : Nat} {m c : Mac} (p : c.a.Perm m.a) (he : c.e = m.e) : ∀ u hs, imgGo n c u hs = imgGo n m u hs
  | [], hs => rfl
  | s :: u, hs => by rw [imgGo, imgGo, canL_perm p he, nextL_perm p, imgGo_perm p he u]
theorem images_perm {n : Nat} {m c : Mac} (p : c.a.Perm m.a) (he : c.e = m.e) (u : List Int) : imagesO n c u = imagesO n m u := by
  unfold imagesO
  rw [canL_perm p he, imgGo_perm p he]
theorem valid_perm {m : Mac} {U : List Arc} (p : U.Perm m.a) (h : validM m = 0) : validM ⟨m.s, U, m.e⟩ = 0 := by
  have hm := validM_mac h
  have h1 : inB m.s 1 9 = true := by have := hm.s1; have := hm.s2; simp [inB]; omega
  have h2 : ¬ 60 < U.length := by rw [p.length_eq]; have := hm.a; omega
  have h3 : allB U.length (fun k => arcOk m.s (arcA U k)) = true := allB_true fun j hj => by
    have hx : arcA U j ∈ m.a := p.mem_iff.1 (by unfold arcA; rw [List.getElem?_eq_getElem hj]; exact List.getElem_mem hj)
    obtain ⟨i, hi, he⟩ := List.mem_iff_getElem.1 hx
    have := hm.ok i hi
    unfold arcA at this
    rw [List.getElem?_eq_getElem hi] at this
    rw [← he]; exact this
  have h5 : onceB U = true := once_nodup.2 (p.nodup_iff.2 (once_nodup.1 hm.once))
  unfold validM
  rw [if_pos h1, if_neg h2, if_pos h3, if_pos hm.e, if_pos h5]
theorem images_same {m : Mac} (h : validM m = 0) (u : List Int) : imagesL (composeM m (plainM 6)) u = imagesL m u ∧ imagesK (composeM m (plainM 6)) u = imagesK m u := by
  have p := arcsU_perm (once_nodup.1 (validM_mac h).once)
  rw [(compose_plain h).1]
  have hv := valid_perm p h
  have hc : checkK ⟨m.s, arcsU m.a, m.e⟩ [u] = checkK m [u] := by rw [checkK, checkK, if_pos hv, if_pos h]
  have hi : imagesO m.s.toNat ⟨m.s, arcsU m.a, m.e⟩ u = imagesO m.s.toNat m u := images_perm (m := m) (c := ⟨m.s, arcsU m.a, m.e⟩) p rfl u
  unfold imagesL imagesK
  rw [hc]
  constructor
  · split
    · rw [show (⟨m.s, arcsU m.a, m.e⟩ : Mac).s = m.s from rfl, hi]
    · rfl
  · split
    · rw [show (⟨m.s, arcsU m.a, m.e⟩ : Mac).s = m.s from rfl, hi]
    · rfl
end Go.Proofs.Ytpbflkbelhlogaa
/- Machines: whether some run from a state reads a word, of the program. -/
namespace Go.Proofs.Ytpbflkbelhlogaa
open Go.RowKit Go.Shelf
set_option linter.unusedVariables false
theorem endsL_c (av ev : Value) (m : Mac) (s : Int) (w : World) (h : MacR w av ev m) : Calls Try.prog 73 #[.agg #[.int .i64 m.s, av, ev], .int .i64 s] w (RV (.bool (hasB m.e s)) w) := by
  obtain ⟨wA, hwA⟩ : ∃ wA, wA = w.alloc (.cells #[.int .i64 m.s, av, ev] 25) := ⟨_, rfl⟩
  have hE0 : Ext w wA := by rw [hwA]; exact Ext.alloc _ _
  have k0 : ∀ W, Ext wA W → W.cell? ⟨w.heap.size, 0, none⟩ = some (.int .i64 m.s) := by rw [hwA]; exact kept_alloc w _ _ rfl
  have k1 : ∀ W, Ext wA W → W.cell? ⟨w.heap.size, 1, none⟩ = some av := by rw [hwA]; exact kept_alloc w _ _ rfl
  have k2 : ∀ W, Ext wA W → W.cell? ⟨w.heap.size, 2, none⟩ = some ev := by rw [hwA]; exact kept_alloc w _ _ rfl
  have H0 : Ext wA wA := Ext.refl _
  have HC := Lib.hid (fun W (hW : Ext wA W) => contains_c ev m.e s W (h.e.ext (hE0.trans hW)))
  have HW := Lib.hid hwA; clear hwA h
  generalize hasB m.e s = b at *
  go_enter Try.func73, Try.ntmps73
  go_wp2_with fail
  rw [← HW.out]
  refine (HC.out wA H0).mono ?_; rintro e w1 ⟨rfl, rfl⟩
  go_wp2_with fail
  go_ret
  exact RV.bool rfl hE0
theorem leads1_c (av ev : Value) (m : Mac) (s : Int) (g : Nat) (w : World) (h : MacR w av ev m) (k0 : w.cell? ⟨g, 0, none⟩ = some (.int .i64 m.s)) (k1 : w.cell? ⟨g, 1, none⟩ = some av) (k2 : w.cell? ⟨g, 2, none⟩ = some ev) :
    Calls Try.prog 116 #[.int .i64 s, .pointer (some ⟨g, 0, none⟩)] w (RV (.bool (hasB m.e s)) w) := by
  have HEC := Lib.hid (endsL_c av ev m s w h)
  obtain ⟨aa, ca, rfl, hla, hma, HA⟩ := h.a.open_
  obtain ⟨ae, ce, rfl, hle, hme, HE⟩ := h.e.open_
  clear h
  go_enter Try.func116, Try.ntmps116
  go_wp2_with fail
  refine HEC.out.mono ?_; rintro e w1 ⟨rfl, hx1⟩
  go_wp2_with fail
  go_ret
  exact RV.bool rfl hx1
theorem hasB_contains (l : List Int) (x : Int) : hasB l x = l.contains x := by rw [hasB_eq, Bool.eq_iff_iff, List.contains_iff_mem]
theorem leadNext_eq (ar : List Arc) (s : Int) (now : List Int) : leadNext ar s now = (ar.filter fun a => hasB now a.f && a.i == s).map Arc.t := by
  unfold leadNext; simp only [hasB_contains]
theorem pick_next {ar : List Arc} {k : Nat} (h : k < ar.length) (c : Arc → Bool) (f : Arc → Int) : ((ar.take (k + 1)).filter c).map f = if c (arcA ar k) then ((ar.take k).filter c).map f ++ [f (arcA ar k)] else ((ar.take k).filter c).map f := by
  rw [take_next h ⟨0, 0, 0, 0⟩, List.filter_append, List.map_append]
  show _ ++ List.map f (List.filter c [arcA ar k]) = _
  cases hc : c (arcA ar k) <;> simp [hc]
theorem pick_len (ar : List Arc) (c : Arc → Bool) (f : Arc → Int) : ((ar.filter c).map f).length ≤ ar.length := by rw [List.length_map]; exact List.length_filter_le _ _
set_option maxHeartbeats 4000000 in
set_option maxRecDepth 100000 in
theorem leads_c (av ev uv : Value) (m : Mac) (s : Int) (u : List Int) (w : World) (h : MacR w av ev m) (hu : Ints w uv u) (hal : m.a.length ≤ 100000) :
    Calls Try.prog 108 #[.agg #[.int .i64 m.s, av, ev], .int .i64 s, uv] w (RV (.bool ((leadGo m.a u [s]).any (fun x => m.e.contains x))) w) := by
  obtain ⟨wA, hwA⟩ : ∃ wA, wA = w.alloc (.cells #[.int .i64 m.s, av, ev] 25) := ⟨_, rfl⟩
  have hE0 : Ext w wA := by rw [hwA]; exact Ext.alloc _ _
  have k0 : ∀ W, Ext wA W → W.cell? ⟨w.heap.size, 0, none⟩ = some (.int .i64 m.s) := by rw [hwA]; exact kept_alloc w _ _ rfl
  have k1 : ∀ W, Ext wA W → W.cell? ⟨w.heap.size, 1, none⟩ = some av := by rw [hwA]; exact kept_alloc w _ _ rfl
  have k2 : ∀ W, Ext wA W → W.cell? ⟨w.heap.size, 2, none⟩ = some ev := by rw [hwA]; exact kept_alloc w _ _ rfl
  have H0 : Ext wA wA := Ext.refl _
  have HR := Lib.hid (h.ext hE0)
  obtain ⟨aa, ca, rfl, hla, hma, HA⟩ := (h.ext hE0).a.open_
  obtain ⟨ae, ce, rfl, hle, hme, HE⟩ := (h.ext hE0).e.open_
  obtain ⟨au, cu, rfl, hlu, hmu, HU⟩ := (hu.ext hE0).open_
  have HW := Lib.hid hwA; clear hwA h hu
  have hx0 := Ext.alloc wA (.cells #[.int .i64 s] 3)
  have hI0 : Ints (wA.alloc (.cells #[.int .i64 s] 3)) (.slice (some ⟨wA.heap.size, 0, none⟩) 1 1) [s] := by
    have := BInts.ints (W := wA.alloc (.cells #[.int .i64 s] 3)) (g := wA.heap.size) (l := [s]) (Blk.alloc wA _ _) (by simp)
    exact this
  rw [show wA.heap.size = w.heap.size + 1 by rw [HW.out]; simp] at hI0
  have HI0 := Lib.hid hI0; clear hI0
  obtain ⟨S0, hS0⟩ : ∃ S0, S0 = [s] := ⟨_, rfl⟩
  rw [← hS0] at HI0
  rw [← hS0]
  clear hS0
  go_enter Try.func108, Try.ntmps108
  go_wp2_with fail
  rw [← HW.out]
  go_loopg [17, 7] u.length (fun z i v7 wr => ∃ (k : Nat) (t7 : Value) (S : List Int), k ≤ u.length ∧ u.length ≤ k + z ∧ i = .int .i64 k ∧ t7 = v7 ∧ Ext wA wr ∧ Ints wr t7 S ∧ Hid (leadGo m.a (u.drop k) S = leadGo m.a u S0))
  case atStart => exact ⟨0, _, S0, by omega, by omega, rfl, rfl, hx0, HI0.out, Lib.hid rfl⟩
  case round =>
    clear hx0 HI0
    obtain ⟨k, t7, S, hk, hkz, rfl, rfl, hEr, hI7, HGO⟩ := hrel
    obtain ⟨g1, rfl⟩ : ∃ g : Nat, g = gk := ⟨_, rfl⟩
    have HI7 := Lib.hid hI7
    obtain ⟨a7, c7, rfl, _, _, _⟩ := hI7.open_
    clear hI7
    by_cases hltk : k < u.length
    · obtain ⟨bu, ou, rfl, hcu⟩ := HU.out k hltk
      have HNX : Hid (leadGo m.a (u.drop (k + 1)) (leadNext m.a (u[k]?.getD 0) S) = leadGo m.a u S0) := Lib.hid (by rw [← HGO.out, drop_one hltk]; rfl)
      generalize u[k]?.getD 0 = us at *
      obtain ⟨W1, rfl⟩ : ∃ W : World, W = wr := ⟨_, rfl⟩
      replace hcu := hEr.keep hcu
      rw [leadNext_eq] at HNX
      generalize hc_ : (fun a : Arc => hasB S a.f && a.i == us) = c at HNX
      have HC_ := Lib.hid hc_; clear hc_
      go_wp2_with fail
      go_loopg [24, 10] m.a.length (fun z i v9 wr => ∃ (t : Nat) (t9 : Value), t ≤ m.a.length ∧ m.a.length ≤ t + z ∧ i = .int .i64 t ∧ t9 = v9 ∧ Ext W1 wr ∧ OInts 3 wr W1.heap.size t9 (((m.a.take t).filter c).map Arc.t))
      case atStart => exact ⟨0, _, by omega, by omega, rfl, rfl, Ext.refl _, OInts.nil _ _ _⟩
      case round =>
        obtain ⟨t, t9, ht, htz, rfl, rfl, hX1, ho9⟩ := hrel
        have hEr2 : Ext wA wr := hEr.trans hX1
        obtain ⟨a9, c9, rfl, _, _, _⟩ := ho9.ints.open_
        by_cases hlt : t < m.a.length
        · obtain ⟨ba, oa, rfl, hc0, hc1, hc2, hc3⟩ := HA.out t hlt
          replace hc0 := hEr2.keep hc0
          replace hc1 := hEr2.keep hc1
          replace hc2 := hEr2.keep hc2
          replace hc3 := hEr2.keep hc3
          have HST := Lib.hid (pick_next hlt c Arc.t)
          have hlen := pick_len (m.a.take t) c Arc.t
          have hlt9 : (m.a.take t).length ≤ m.a.length := by simp; omega
          generalize arcA m.a t = y at *
          generalize ((m.a.take t).filter c).map Arc.t = N at *
          have hlN : N.length ≤ 1000000 := by omega
          clear hlen hlt9
          obtain ⟨yf, yt, yi, yo⟩ := y
          simp only at hc0 hc1 hc2 hc3
          obtain ⟨wB, hwB⟩ : ∃ wB, wB = wr.alloc (.cells #[.int .i64 yf, .int .i64 yt, .int .i64 yi, .int .i64 yo] 50) := ⟨_, rfl⟩
          have hEB : Ext wr wB := by rw [hwB]; exact Ext.alloc _ _
          have b0 : ∀ W, Ext wB W → W.cell? ⟨wr.heap.size, 0, none⟩ = some (.int .i64 yf) := by rw [hwB]; exact kept_alloc wr _ _ rfl
          have b1 : ∀ W, Ext wB W → W.cell? ⟨wr.heap.size, 1, none⟩ = some (.int .i64 yt) := by rw [hwB]; exact kept_alloc wr _ _ rfl
          have b2 : ∀ W, Ext wB W → W.cell? ⟨wr.heap.size, 2, none⟩ = some (.int .i64 yi) := by rw [hwB]; exact kept_alloc wr _ _ rfl
          have HWB := Lib.hid hwB; clear hwB
          have hsB : Ext wB wB := Ext.refl _
          have HC1 := Lib.hid (contains_c _ S yf wB (HI7.out.ext (hX1.trans hEB)))
          have HCC : Hid (c ⟨yf, yt, yi, yo⟩ = (hasB S yf && yi == us)) := Lib.hid (by rw [← HC_.out])
          generalize hasB S yf = b1_ at *
          have HO9 := Lib.hid (ho9.ext hEB)
          have hX5 : Ext W1 wB := hX1.trans hEB
          clear ho9
          cases b1_
          · go_upto_region 9 with fail
            rw [← HWB.out]
            clear hc0 hc1 hc2 hc3
            go_wp2_with (go_at_call 90; refine HC1.out.mono ?_; rintro e w5 ⟨rfl, rfl⟩)
            go_roundg (gk-1)
            case measure => omega
            case rel => exact ⟨t+1, _, by omega, by omega, by go_num, rfl, hX5, by rw [HST.out, if_neg (by rw [HCC.out]; simp)]; exact HO9.out⟩
          · by_cases hi : yi = us
            · subst hi
              have hi1 : (yi == yi) = true := by simp
              have hB5 : W1.heap.size ≤ wB.heap.size := hX5.size
              go_upto_region 9 with fail
              rw [← HWB.out]
              clear hc0 hc1 hc2 hc3
              go_wp2_with (first
                | (go_at_call 90; refine HC1.out.mono ?_; rintro e w5 ⟨rfl, rfl⟩)
                | (at_builtin; refine wpList_appendInt elInts rfl _ _ rfl rfl rfl HO9.out rfl hB5 (by omega) ?_; intro v6 w6 ho6 hb6))
              go_roundg (gk-1)
              case measure => omega
              case rel => exact ⟨t+1, _, by omega, by omega, by go_num, rfl, hX5.upto hb6 (Nat.le_refl _), by rw [HST.out, if_pos (by rw [HCC.out]; simp)]; exact ho6⟩
            · have hi1 : (yi == us) = false := by simp [hi]
              have HI := Lib.hid hi; clear hi
              go_upto_region 9 with fail
              rw [← HWB.out]
              clear hc0 hc1 hc2 hc3
              go_wp2_with (go_at_call 90; refine HC1.out.mono ?_; rintro e w5 ⟨rfl, rfl⟩)
              go_roundg (gk-1)
              case measure => omega
              case rel => exact ⟨t+1, _, by omega, by omega, by go_num, rfl, hX5, by rw [HST.out, if_neg (by rw [HCC.out]; simp [HI.out])]; exact HO9.out⟩
        · have HI9 : Hid (∃ N, N = (m.a.filter c).map Arc.t ∧ Ints wr (.slice a9 (((m.a.take t).filter c).map Arc.t).length c9) N) := by
            refine Lib.hid ⟨_, rfl, ?_⟩
            have := ho9.ints; rwa [List.take_of_length_le (by omega)] at this ⊢
          clear ho9
          generalize (((m.a.take t).filter c).map Arc.t).length = nl at *
          go_wp2_with fail
          go_roundg (g1-1)
          case measure => omega
          case rel =>
            obtain ⟨N, hN, hI⟩ := HI9.out
            exact ⟨k+1, _, N, by omega, by omega, by go_num, rfl, hEr2, hI, Lib.hid (by rw [hN]; exact HNX.out)⟩
    · have hku : k = u.length := by omega
      subst hku
      have HCF := Lib.hid (containsFunc_c _ S 116 #[.pointer (some ⟨w.heap.size, 0, none⟩)] (fun s => hasB m.e s) wr (enters_of Try.func116 (by kernel_rfl) rfl)
        (fun W i hW _ => leads1_c _ _ m _ w.heap.size W (HR.out.ext (hEr.trans hW)) (k0 W (hEr.trans hW)) (k1 W (hEr.trans hW)) (k2 W (hEr.trans hW))) HI7.out)
      have HIB : Hid (((List.range S.length).any fun i => (fun s => hasB m.e s) (S[i]?.getD 0)) = (leadGo m.a u S0).any (fun x => m.e.contains x)) := Lib.hid (by
        rw [any_range S (fun s => hasB m.e s), ← HGO.out, List.drop_length]
        simp only [hasB_contains]; rfl)
      rw [HIB.out] at HCF
      generalize hBq : (leadGo m.a u S0).any (fun x => m.e.contains x) = B at HCF
      have HBQ := Lib.hid hBq; clear hBq HIB
      go_wp2_with fail
      refine HCF.out.mono ?_; rintro e w5 ⟨rfl, hx5⟩
      go_wp2_with fail
      go_ret
      exact RV.bool HBQ.out.symm (hE0.trans (hEr.trans hx5))
end Go.Proofs.Ytpbflkbelhlogaa
/- Machines: Either of the program. -/
namespace Go.Proofs.Ytpbflkbelhlogaa
open Go.RowKit Go.Shelf
set_option linter.unusedVariables false

def mov1 (f : Int) (a : Arc) : Arc := ⟨a.f + f, a.t + f, a.i, a.o⟩
def mov0 (f : Int) (a : Arc) : Arc := ⟨0, a.t + f, a.i, a.o⟩
def eith1 (f : Int) (a : Arc) : List Arc := if a.f = 0 then [mov1 f a, mov0 f a] else [mov1 f a]
def eithX (f : Int) (l : List Arc) : List Arc := l.flatMap (eith1 f)
def eithE (f : Int) (l : List Int) : List Int := l.map fun e => e + f
def eithA (m n : Mac) : List Arc := eithX 1 m.a ++ eithX (1 + m.s) n.a
def eith0 (m n : Mac) : List Int := if hasB m.e 0 then [0] else if hasB n.e 0 then [0] else []
def eithEs (m n : Mac) : List Int := eith0 m n ++ (eithE 1 m.e ++ eithE (1 + m.s) n.e)
def eitherK (m n : Mac) : Int := if bothK m n = 0 then madeK (1 + m.s + n.s) (eithA m n) else bothK m n
def eitherM (m n : Mac) : Mac := if bothK m n = 0 then madeM (1 + m.s + n.s) (eithA m n) (eithEs m n) else ⟨0, [], []⟩
def frN (m n : Mac) (j : Nat) : Int := if j = 0 then 1 else if j = 1 then 1 + m.s else 1 + m.s + n.s
def eaN (m n : Mac) (j : Nat) : List Arc := if j = 0 then [] else if j = 1 then eithX 1 m.a else eithA m n
def eeN (m n : Mac) (j : Nat) : List Int := if j = 0 then eith0 m n else if j = 1 then eith0 m n ++ eithE 1 m.e else eithEs m n
theorem eith1_len (f : Int) (a : Arc) : (eith1 f a).length ≤ 2 := by unfold eith1; split <;> simp
theorem eithX_len (f : Int) (l : List Arc) : (eithX f l).length ≤ l.length * 2 := flat_leA (eith1 f) 2 l (eith1_len f)
theorem eith0_len (m n : Mac) : (eith0 m n).length ≤ 1 := by unfold eith0; by_cases h1 : hasB m.e 0 = true <;> by_cases h2 : hasB n.e 0 = true <;> simp [h1, h2]
theorem eithA_len {m n : Mac} (hm : MacOk m) (hn : MacOk n) : (eithA m n).length ≤ 240 := by
  have h1 := eithX_len 1 m.a
  have h2 := eithX_len (1 + m.s) n.a
  have h3 := hm.a
  have h4 := hn.a
  unfold eithA; rw [List.length_append]; omega
/-- the J-th machine of two -/
theorem eith_step {m n : Mac} (hm : MacOk m) (hn : MacOk n) {w : World} {av ev bv fv : Value} (h : MacR w av ev m) (k : MacR w bv fv n) {j : Nat} (hj : j < 2) :
    ∃ (x : Mac) (xv yv : Value) (fr : Int), MacR w xv yv x ∧ MacOk x ∧ [.int .i64 m.s, av, ev, .int .i64 n.s, bv, fv][j * 3]? = some (.int .i64 x.s) ∧ [.int .i64 m.s, av, ev, .int .i64 n.s, bv, fv][j * 3 + 1]? = some xv ∧ [.int .i64 m.s, av, ev, .int .i64 n.s, bv, fv][j * 3 + 2]? = some yv ∧
      frN m n j = fr ∧ frN m n (j + 1) = fr + x.s ∧ eaN m n (j + 1) = eaN m n j ++ eithX fr x.a ∧ eeN m n (j + 1) = eeN m n j ++ eithE fr x.e ∧ 1 ≤ fr ∧ fr ≤ 10 ∧ (eaN m n j).length ≤ 120 ∧ (eeN m n j).length ≤ 10 := by
  have h1 := hm.s1
  have h2 := hm.s2
  have h0 := eith0_len m n
  have hA := eithX_len 1 m.a
  have ha := hm.a
  have he := end_bd hm
  obtain rfl | rfl : j = 0 ∨ j = 1 := by omega
  · exact ⟨m, av, ev, 1, h, hm, rfl, rfl, rfl, rfl, rfl, by simp [eaN], rfl, by omega, by omega, by simp [eaN], by show (eith0 m n).length ≤ 10; omega⟩
  · exact ⟨n, bv, fv, 1 + m.s, k, hn, rfl, rfl, rfl, rfl, rfl, rfl, by show eithEs m n = (eith0 m n ++ eithE 1 m.e) ++ _; rw [eithEs, List.append_assoc], by omega, by omega, by show (eithX 1 m.a).length ≤ 120; omega, by show (eith0 m n ++ eithE 1 m.e).length ≤ 10; rw [List.length_append]; unfold eithE; rw [List.length_map]; omega⟩
theorem row_setN {w : World} {B n size g : Nat} {e : TypeId} {xs : List Value} {v : Value} (h : w.ownsRow B e size v n xs) (hn : v.ownBlock ≠ some g) (i : Nat) (x : Value) : (w.setCell ⟨g, i, none⟩ x).ownsRow B e size v n xs :=
  World.ownsRow.kept h (grownBy_set w g i x) (.inr hn)
structure EI (w1 w : World) (gL : Nat) (us : List Value) (gB : Nat) (vs : List Value) (t7 t8 : Value) (A : List Arc) (E : List Int) : Prop where
  ext : Ext w1 w
  lit : Blk w gL 25 us
  box : Blk w gB 25 vs
  arcs : OArcs w w1.heap.size t7 A
  all : OInts 3 w w1.heap.size t8 E
theorem EI.later {w1 w w' : World} {gL gB : Nat} {us vs : List Value} {t7 t8 : Value} {A : List Arc} {E : List Int} (h : EI w1 w gL us gB vs t7 t8 A E) (hx : Ext w w') : EI w1 w' gL us gB vs t7 t8 A E :=
  ⟨h.ext.trans hx, h.lit.ext hx, h.box.ext hx, h.arcs.ext hx, h.all.ext hx⟩
theorem EI.pushA {w1 w w' : World} {gL gB : Nat} {us vs : List Value} {t7 t7' t8 : Value} {A A' : List Arc} {E : List Int} (h : EI w1 w gL us gB vs t7 t8 A E) (hr : OArcs w' w1.heap.size t7' A') (hb : Below w1.heap.size w w') (hg : w.grownBy w' t7.ownBlock) : EI w1 w' gL us gB vs t7' t8 A' E :=
  ⟨h.ext.upto hb (Nat.le_refl _), h.lit.keptR (by decide) h.arcs hg, h.box.keptR (by decide) h.arcs hg, hr, row_keptR h.all (by decide) h.arcs hg⟩
theorem EI.pushE {w1 w w' : World} {gL gB : Nat} {us vs : List Value} {t7 t8 t8' : Value} {A : List Arc} {E E' : List Int} (h : EI w1 w gL us gB vs t7 t8 A E) (hr : OInts 3 w' w1.heap.size t8' E') (hb : Below w1.heap.size w w') (hg : w.grownBy w' t8.ownBlock) : EI w1 w' gL us gB vs t7 t8' A E' :=
  ⟨h.ext.upto hb (Nat.le_refl _), h.lit.keptR (by decide) h.all hg, h.box.keptR (by decide) h.all hg, row_keptR h.arcs (by decide) h.all hg, hr⟩
theorem blk_ne {w : World} {a b : Nat} {us vs : List Value} (h : Blk w a 25 us) (k : Blk w b 50 vs) : a ≠ b := fun e => by
  subst e
  unfold Blk at h k
  rw [h] at k
  injection k with k
  injection k with _ k
  exact absurd k (by decide)
theorem EI.set {w1 w : World} {gL gB b : Nat} {us vs ys : List Value} {t7 t8 : Value} {A : List Arc} {E : List Int} (h : EI w1 w gL us gB vs t7 t8 A E) (hb : Blk w b 50 ys) (hge : w1.heap.size ≤ b) (hn : t7.ownBlock ≠ some b) (i : Nat) (x : Value) : EI w1 (w.setCell ⟨b, i, none⟩ x) gL us gB vs t7 t8 A E :=
  ⟨h.ext.setCell hge _ _, h.lit.other (fun e => blk_ne h.lit hb e.symm) i x, h.box.other (fun e => blk_ne h.box hb e.symm) i x, row_setN h.arcs hn i x, row_setR h.all hb (by decide) i x⟩

end Go.Proofs.Ytpbflkbelhlogaa
/- How many runs read a word and write another one, and whether some does: the program. -/
namespace Go.Proofs.Ytpbflkbelhlogaa
open Go.RowKit Go.Shelf
set_option linter.unusedVariables false

/-! ## plain -/
def uvC (i o : Int) (a : Arc) : Bool := a.i == i && a.o == o
def condUV : List Int → List Int → List (Arc → Bool)
  | i :: u, o :: v => uvC i o :: condUV u v
  | _, _ => []
theorem condUV_nil (v : List Int) : condUV [] v = [] := by cases v <;> rfl
def cntN (n : Nat) (m : Mac) (u v : List Int) : List Int := bwLs n m.a (endsL n m.e) (condUV u v)
def cntUV (m : Mac) (u v : List Int) : Int := if u.length = v.length then (cntN m.s.toNat m u v)[0]?.getD 0 else 0
def relatesB (m : Mac) (u v : List Int) : Bool := if checkK m [u, v] = 0 then decide (0 < cntUV m u v) else false
theorem cntN_len (n : Nat) (m : Mac) (u v : List Int) : (cntN n m u v).length = n := bwLs_len (endsL_len _ _) _
theorem cntN_drop {n : Nat} {m : Mac} {u v : List Int} {k : Nat} (h : k < u.length) (h2 : k < v.length) : cntN n m (u.drop k) (v.drop k) = bwL n m.a (uvC (u[k]?.getD 0) (v[k]?.getD 0)) (cntN n m (u.drop (k + 1)) (v.drop (k + 1))) := by
  rw [drop_one (l := u) h, drop_one (l := v) h2]; rfl
theorem sumL_pos {α : Type} {f : α → Int} : ∀ {l : List α}, (∀ x ∈ l, 0 ≤ f x) → (0 < sumL f l ↔ ∃ x ∈ l, 0 < f x)
  | [], _ => by simp [sumL]
  | y :: l, h => by
    have h1 := h y (by simp)
    have h2 := sumL_nonneg (f := f) (l := l) (fun x hx => h x (by simp [hx]))
    have ih := sumL_pos (f := f) (l := l) (fun x hx => h x (by simp [hx]))
    show 0 < f y + sumL f l ↔ _
    constructor
    · intro hp
      by_cases hy : 0 < f y
      · exact ⟨y, by simp, hy⟩
      · obtain ⟨x, hx, hfx⟩ := ih.1 (by omega)
        exact ⟨x, by simp [hx], hfx⟩
    · rintro ⟨x, hx, hfx⟩
      rcases List.mem_cons.1 hx with rfl | hx
      · omega
      · have := ih.2 ⟨x, hx, hfx⟩
        omega
theorem sumL_le {α : Type} {f : α → Int} {B : Int} : ∀ {l : List α}, (∀ x ∈ l, f x ≤ B) → sumL f l ≤ l.length * B
  | [], _ => by simp [sumL]
  | y :: l, h => by
    have h1 := h y (by simp)
    have ih := sumL_le (f := f) (B := B) (l := l) (fun x hx => h x (by simp [hx]))
    show f y + sumL f l ≤ _
    rw [List.length_cons, Int.natCast_add, Int.add_mul]
    omega
theorem bws_iff {m : Mac} (h : MacOk m) : ∀ (u v : List Int), u.length = v.length → ∀ s : Nat, 0 ≤ bwsE m.a (endE m.e) (condUV u v) s ∧ bwsE m.a (endE m.e) (condUV u v) s ≤ 60 ^ u.length ∧ (0 < bwsE m.a (endE m.e) (condUV u v) s ↔ relP m u v s)
  | [], [], _, s => by
    show 0 ≤ endE m.e s ∧ endE m.e s ≤ 1 ∧ (0 < endE m.e s ↔ (s : Int) ∈ m.e)
    unfold endE
    by_cases hs : (s : Int) ∈ m.e
    · rw [if_pos (List.contains_iff_mem.2 hs)]; simp [hs]
    · rw [if_neg (fun hc => hs (List.contains_iff_mem.1 hc))]; simp [hs]
  | i :: u, o :: v, hl, s => by
    have ih := bws_iff h u v (by simpa using hl)
    have hnn : ∀ a ∈ m.a, 0 ≤ (if (uvC i o a && a.f.toNat == s) = true then bwsE m.a (endE m.e) (condUV u v) a.t.toNat else 0) := fun a _ => by
      split
      · exact (ih _).1
      · omega
    have hle : ∀ a ∈ m.a, (if (uvC i o a && a.f.toNat == s) = true then bwsE m.a (endE m.e) (condUV u v) a.t.toNat else 0) ≤ 60 ^ u.length := fun a _ => by
      split
      · exact (ih _).2.1
      · exact Int.le_of_lt (Int.pow_pos (by decide))
    refine ⟨sumL_nonneg hnn, ?_, ?_⟩
    · have h1 := sumL_le hle
      have h2 : (m.a.length : Int) * 60 ^ u.length ≤ 60 * 60 ^ u.length := Int.mul_le_mul_of_nonneg_right (by have := h.a; omega) (Int.le_of_lt (Int.pow_pos (by decide)))
      show sumL _ _ ≤ (60 : Int) ^ (u.length + 1)
      rw [Int.pow_succ, Int.mul_comm]
      exact Int.le_trans h1 h2
    · show 0 < sumL _ _ ↔ _
      rw [sumL_pos hnn]
      constructor
      · rintro ⟨a, ha, hp⟩
        split at hp
        · rename_i hc
          simp only [uvC, Bool.and_eq_true, beq_iff_eq] at hc
          have hm := h.mem ha
          have hr := (ih a.t.toNat).2.2.1 hp
          rw [Int.toNat_of_nonneg hm.2.1.1] at hr
          exact ⟨a, ha, by omega, hc.1.1, hc.1.2, hr⟩
        · omega
      · rintro ⟨a, ha, h1, h2, h3, hr⟩
        have hm := h.mem ha
        refine ⟨a, ha, ?_⟩
        rw [if_pos (by simp only [uvC, Bool.and_eq_true, beq_iff_eq]; exact ⟨⟨h2, h3⟩, by omega⟩)]
        refine (ih a.t.toNat).2.2.2 ?_
        rw [Int.toNat_of_nonneg hm.2.1.1]; exact hr
theorem cntUV_iff {m : Mac} (h : MacOk m) {u v : List Int} (hu : u.length ≤ 8) : 0 < cntUV m u v ↔ relP m u v 0 := by
  unfold cntUV
  split
  · rename_i hl
    obtain ⟨h1, h2, h3⟩ := bws_iff h u v hl 0
    have hV := (Vec.bwLs h.states (Vec.ends h.ends) (condUV u v)).2 0 (by have := h.s1; omega)
    have hp : (60 : Int) ^ u.length ≤ 60 ^ 8 := by
      have := Nat.pow_le_pow_right (n := 60) (by omega) hu
      exact_mod_cast this
    have hw : wr64 (bwsE m.a (endE m.e) (condUV u v) 0) = bwsE m.a (endE m.e) (condUV u v) 0 := by
      unfold wr64
      exact IntWalk.i64_in _ (by omega)
    unfold cntN
    rw [hV, hw, h3]; rfl
  · rename_i hl
    constructor
    · intro h; omega
    · intro hr; exact absurd (relP_len hr) hl
/-- a row of ints in a new block comes back -/
def RNew (l : List Int) (w : World) (e : Ending) (w' : World) : Prop := ∃ g, e = .returned (.slice (some ⟨g, 0, none⟩) l.length l.length) ∧ BInts w' g l ∧ Ext w w'

set_option maxHeartbeats 8000000 in
set_option maxRecDepth 100000 in
theorem runs_c (av ev uv vv : Value) (m : Mac) (n : Nat) (u v : List Int) (w : World) (h : MacR w av ev m) (hM : MacIn m n) (hu : Ints w uv u) (hv : Ints w vv v) (hul : u.length = v.length) (hu8 : u.length ≤ 1000) :
    Calls Try.prog 98 #[.agg #[.int .i64 m.s, av, ev], uv, vv] w (RNew (cntN n m u v) w) := by
  rw [hM.s]
  obtain ⟨wA, hwA⟩ : ∃ wA, wA = w.alloc (.cells #[.int .i64 (n : Int), av, ev] 25) := ⟨_, rfl⟩
  have hE0 : Ext w wA := by rw [hwA]; exact Ext.alloc _ _
  have k0 : ∀ W, Ext wA W → W.cell? ⟨w.heap.size, 0, none⟩ = some (.int .i64 (n : Int)) := by rw [hwA]; exact kept_alloc w _ _ rfl
  have k1 : ∀ W, Ext wA W → W.cell? ⟨w.heap.size, 1, none⟩ = some av := by rw [hwA]; exact kept_alloc w _ _ rfl
  have k2 : ∀ W, Ext wA W → W.cell? ⟨w.heap.size, 2, none⟩ = some ev := by rw [hwA]; exact kept_alloc w _ _ rfl
  have H0 : Ext wA wA := Ext.refl _
  obtain ⟨aa, ca, rfl, hla, hma, HA⟩ := (h.ext hE0).a.open_
  obtain ⟨ae, ce, rfl, hle, hme, HE⟩ := (h.ext hE0).e.open_
  obtain ⟨au, cu, rfl, hlu, hmu, HU⟩ := (hu.ext hE0).open_
  obtain ⟨av2, cv, rfl, hlv, hmv, HV⟩ := (hv.ext hE0).open_
  have HW := Lib.hid hwA; clear hwA h hu hv
  have hn1 := hM.n1
  have hn9 := hM.n9
  have HM := Lib.hid hM; clear hM
  have HL := Lib.hid hul; clear hul
  have hw1 : IntKind.i64.wrap ((u.length : Int) - 1) = (u.length : Int) - 1 := IntWalk.i64_in _ (by omega)
  go_enter Try.func98, Try.ntmps98
  go_wp2_with (at_make; refine wpList_make_blk n elInts rfl rfl _ _ rfl rfl rfl (by omega) (by omega) ?_; intro g w2 hg hblk hx2 hg2; rw [← HW.out] at hg hx2)
  have hbk : BInts w2 g (onesL (m.e.take 0) (List.replicate n 0)) := by unfold BInts; rw [List.take_zero]; simpa [onesL] using hblk
  clear hblk hg2
  go_loopg [20] m.e.length (fun z i wr => ∃ k : Nat, k ≤ m.e.length ∧ m.e.length ≤ k + z ∧ i = .int .i64 k ∧ Ext wA wr ∧ BInts wr g (onesL (m.e.take k) (List.replicate n 0)))
  case atStart => exact ⟨0, by omega, by omega, rfl, hx2, hbk⟩
  case round =>
    clear hx2 hbk
    obtain ⟨k, hk, hk2, rfl, hEr, hbk⟩ := hrel
    by_cases hlt : k < m.e.length
    · obtain ⟨be, oe, rfl, hc⟩ := HE.out k hlt
      replace hc := hEr.keep hc
      have hx := HM.out.ends k hlt
      have hN := Lib.hid (onesL_next hlt (List.replicate n 0))
      generalize m.e[k]?.getD 0 = x at *
      obtain ⟨j, rfl⟩ : ∃ j : Nat, x = j := ⟨x.toNat, by omega⟩
      have hj : j < n := by omega
      have hjl : j < (onesL (m.e.take k) (List.replicate n 0)).length := by rw [onesL_len]; simpa using hj
      have hbc := hbk.cell hjl
      have hbf := Blk.frozen hbk j
      have hset := Lib.hid (hbk.set j 1)
      rw [Int.toNat_natCast] at hN
      generalize onesL (m.e.take k) (List.replicate n 0) = O at *
      clear hx hjl hbk
      go_wp2_with fail
      go_roundg (gk-1)
      case measure => omega
      case rel => exact ⟨k+1, by omega, by omega, by go_num, hEr.setCell hg _ _, by rw [hN.out]; exact hset.out⟩
    · have hbE : BInts wr g (cntN n m (u.drop u.length) (v.drop u.length)) := by
        rw [List.take_of_length_le (by omega)] at hbk; rw [List.drop_length, cntN, condUV_nil]; exact hbk
      clear hbk
      obtain ⟨W0, rfl⟩ : ∃ W : World, W = wr := ⟨_, rfl⟩
      go_wp2_with fail
      clear hk hk2 hlt
      go_loopg [10, 7] u.length (fun z i v7 wr => ∃ (k gn : Nat) (x : Int), k ≤ u.length ∧ k ≤ z ∧ x = (k : Int) - 1 ∧ i = .int .i64 x ∧ v7 = .slice (some ⟨gn, 0, none⟩) n n ∧ Ext wA wr ∧ BInts wr gn (cntN n m (u.drop k) (v.drop k)))
      case atStart => exact ⟨u.length, g, _, by omega, by omega, rfl, rfl, rfl, hEr, hbE⟩
      case round =>
        clear hEr hbE hg
        obtain ⟨k, gn, x, hk, hkz, hxk, rfl, rfl, hEr, hbn⟩ := hrel
        by_cases hk0 : k = 0
        · subst hk0
          obtain rfl : x = -1 := by omega
          clear hxk
          have hb0 : BInts wr gn (cntN n m u v) := by simpa using hbn
          have HB0 := Lib.hid hb0
          have HLN := Lib.hid (cntN_len n m u v)
          clear hbn hb0
          go_wp2_with fail
          go_ret
          exact ⟨gn, by rw [HLN.out]; rfl, HB0.out, hE0.trans hEr⟩
        · obtain ⟨j, rfl⟩ : ∃ j, k = j + 1 := ⟨k - 1, by omega⟩
          obtain rfl : x = (j : Int) := by omega
          clear hxk hk0
          obtain ⟨g1, rfl⟩ : ∃ g : Nat, g = gk := ⟨_, rfl⟩
          obtain ⟨bu, ou, rfl, hcu⟩ := HU.out j (by omega)
          obtain ⟨bv, ov, rfl, hcv⟩ := HV.out j (by rw [← HL.out]; omega)
          have hjv : j < v.length := by rw [← HL.out]; omega
          have HNX := Lib.hid (cntN_drop (n := n) (m := m) (u := u) (v := v) (k := j) (by omega) hjv)
          have hln := cntN_len n m (u.drop (j + 1)) (v.drop (j + 1))
          generalize cntN n m (u.drop (j + 1)) (v.drop (j + 1)) = now at *
          generalize u[j]?.getD 0 = us at *
          generalize v[j]?.getD 0 = vs at *
          have HLN := Lib.hid hln; clear hln
          obtain ⟨W1, rfl⟩ : ∃ W : World, W = wr := ⟨_, rfl⟩
          replace hcu := hEr.keep hcu
          replace hcv := hEr.keep hcv
          go_wp2_with (at_make; refine wpList_make_blk n elInts rfl rfl _ _ rfl rfl rfl (by omega) (by omega) ?_; intro gb w2 hgb hblk hx2 hg2; have hE2 := hEr.trans hx2)
          have hbb : BInts w2 gb ((m.a.take 0).foldl (bwStep (uvC us vs) now) (List.replicate n 0)) := by unfold BInts; rw [List.take_zero]; simpa using hblk
          clear hblk hg2 hE2
          go_loopg [41] m.a.length (fun z i wr => ∃ t : Nat, t ≤ m.a.length ∧ m.a.length ≤ t + z ∧ i = .int .i64 t ∧ Ext W1 wr ∧ BInts wr gb ((m.a.take t).foldl (bwStep (uvC us vs) now) (List.replicate n 0)))
          case atStart => exact ⟨0, by omega, by omega, rfl, hx2, hbb⟩
          case round =>
            clear hx2 hbb
            obtain ⟨t, ht, htz, rfl, hX1, hbb⟩ := hrel
            have hEr2 : Ext wA wr := hEr.trans hX1
            by_cases hlt : t < m.a.length
            · obtain ⟨ba, oa, rfl, hc0, hc1, hc2, hc3⟩ := HA.out t hlt
              replace hc0 := hEr2.keep hc0
              replace hc1 := hEr2.keep hc1
              replace hc2 := hEr2.keep hc2
              replace hc3 := hEr2.keep hc3
              have hst := HM.out.arc t hlt
              have HST := Lib.hid (fold_next hlt (bwStep (uvC us vs) now) (List.replicate n 0))
              have hol : ((m.a.take t).foldl (bwStep (uvC us vs) now) (List.replicate n 0)).length = n := by rw [bwF_len]; simp
              generalize arcA m.a t = y at *
              generalize (m.a.take t).foldl (bwStep (uvC us vs) now) (List.replicate n 0) = O at *
              have HOL := Lib.hid hol; clear hol
              obtain ⟨yf, yt, yi, yo⟩ := y
              simp only at hc0 hc1 hc2 hc3 hst
              obtain ⟨p, rfl⟩ : ∃ p : Nat, yf = p := ⟨yf.toNat, by omega⟩
              obtain ⟨q, rfl⟩ : ∃ q : Nat, yt = q := ⟨yt.toNat, by omega⟩
              have hp : p < n := by omega
              have hq : q < n := by omega
              clear hst
              obtain ⟨wB, hwB⟩ : ∃ wB, wB = wr.alloc (.cells #[.int .i64 (p : Int), .int .i64 (q : Int), .int .i64 yi, .int .i64 yo] 50) := ⟨_, rfl⟩
              have hEB : Ext wr wB := by rw [hwB]; exact Ext.alloc _ _
              have b0 : ∀ W, Ext wB W → W.cell? ⟨wr.heap.size, 0, none⟩ = some (.int .i64 p) := by rw [hwB]; exact kept_alloc wr _ _ rfl
              have b1 : ∀ W, Ext wB W → W.cell? ⟨wr.heap.size, 1, none⟩ = some (.int .i64 q) := by rw [hwB]; exact kept_alloc wr _ _ rfl
              have b2 : ∀ W, Ext wB W → W.cell? ⟨wr.heap.size, 2, none⟩ = some (.int .i64 yi) := by rw [hwB]; exact kept_alloc wr _ _ rfl
              have b3 : ∀ W, Ext wB W → W.cell? ⟨wr.heap.size, 3, none⟩ = some (.int .i64 yo) := by rw [hwB]; exact kept_alloc wr _ _ rfl
              have HWB := Lib.hid hwB; clear hwB
              have HNO : Hid (bwStep (uvC us vs) now O ⟨(p : Int), (q : Int), yi, yo⟩ = if (yi == us && yo == vs) = true then O.set p (wrap64 (O[p]?.getD 0 + now[q]?.getD 0)) else O) := by
                rw [← wr64_eq]; exact Lib.hid rfl
              have hs : ∀ s : Later wB, Ext wB s.w := fun s => s.ext
              have q0 := fun s : Later wB => (hX1.trans (hEB.trans s.ext)).keep hcu
              have q1 := fun s : Later wB => (hX1.trans (hEB.trans s.ext)).keep hcv
              by_cases hi : yi = us
              · by_cases ho : yo = vs
                · subst hi ho
                  have hi1 : (yi == yi) = true := by simp
                  have ho1 : (yo == yo) = true := by simp
                  go_wp2_with fail
                  rw [← HWB.out]
                  clear hc0 hc1 hc2 hc3
                  refine wp_region_later (by kernel_rfl) (by kernel_rfl) ?_
                  repeat (go_big_quiet_step (fail))
                  refine wpQuiet_nil ?_
                  intro w5 hw'
                  obtain ⟨⟨_, hx5⟩, rfl⟩ := hw'
                  clear hs q0 q1
                  have hX5 : Ext W1 w5 := hX1.trans (hEB.trans hx5)
                  have hbb5 : BInts w5 gb O := Blk.ext hbb (hEB.trans hx5)
                  clear hbb
                  have hs : ∀ s : Later w5, Ext wB s.w := fun s => hx5.trans s.ext
                  have hbn5 : BInts w5 gn now := Blk.ext hbn hX5
                  have q0 := fun s : Later w5 => s.ext.keep (hbn5.cell (i := q) (by rw [HLN.out]; exact hq))
                  have q1 := fun s : Later w5 => s.ext.keep (hbb5.cell (i := p) (by rw [HOL.out]; exact hp))
                  generalize now[q]?.getD 0 = xq at *
                  generalize O[p]?.getD 0 = xp at *
                  go_wp2_with fail
                  refine wp_region_later_tail 12 (by kernel_rfl) (by kernel_rfl) ?_
                  simp only [List.take_succ_cons, List.take_zero, List.drop_succ_cons, List.drop_zero]
                  repeat (go_big_quiet_step (fail))
                  refine wpQuiet_nil ?_
                  intro w6 hw'
                  obtain ⟨⟨_, hx6⟩, rfl⟩ := hw'
                  clear hs q0 q1
                  have hbb6 : BInts w6 gb O := Blk.ext hbb5 hx6
                  have hn2 := hbb6.cell (i := p) (by rw [HOL.out]; exact hp)
                  have hf2 := Blk.frozen hbb6 p
                  have HSET := Lib.hid (hbb6.set p (wrap64 (xp + xq)))
                  have hX6 := hX5.trans hx6
                  clear hbb5 hbb6 hbn5
                  go_wp2_with fail
                  go_roundg (gk-1)
                  case measure => omega
                  case rel => exact ⟨t+1, by omega, by omega, by go_num, hX6.setCell hgb _ _, by rw [HST.out, HNO.out, if_pos (by simp)]; exact HSET.out⟩
                · subst hi
                  have hi1 : (yi == yi) = true := by simp
                  have ho1 : (yo == vs) = false := by simp [ho]
                  have HO := Lib.hid ho; clear ho
                  go_wp2_with fail
                  rw [← HWB.out]
                  clear hc0 hc1 hc2 hc3
                  refine wp_region_later (by kernel_rfl) (by kernel_rfl) ?_
                  repeat (go_big_quiet_step (fail))
                  refine wpQuiet_nil ?_
                  intro w5 hw'
                  obtain ⟨⟨_, hx5⟩, rfl⟩ := hw'
                  clear hs q0 q1
                  have hX5 : Ext W1 w5 := hX1.trans (hEB.trans hx5)
                  have hbb5 : BInts w5 gb O := Blk.ext hbb (hEB.trans hx5)
                  clear hbb
                  go_wp2_with fail
                  go_roundg (gk-1)
                  case measure => omega
                  case rel => exact ⟨t+1, by omega, by omega, by go_num, hX5, by rw [HST.out, HNO.out, if_neg (by simp [HO.out])]; exact hbb5⟩
              · have hi1 : (yi == us) = false := by simp [hi]
                have HI := Lib.hid hi; clear hi
                go_wp2_with fail
                rw [← HWB.out]
                clear hc0 hc1 hc2 hc3
                refine wp_region_later (by kernel_rfl) (by kernel_rfl) ?_
                repeat (go_big_quiet_step (fail))
                refine wpQuiet_nil ?_
                intro w5 hw'
                obtain ⟨⟨_, hx5⟩, rfl⟩ := hw'
                clear hs q0 q1
                have hX5 : Ext W1 w5 := hX1.trans (hEB.trans hx5)
                have hbb5 : BInts w5 gb O := Blk.ext hbb (hEB.trans hx5)
                clear hbb
                go_wp2_with fail
                go_roundg (gk-1)
                case measure => omega
                case rel => exact ⟨t+1, by omega, by omega, by go_num, hX5, by rw [HST.out, HNO.out, if_neg (by simp [HI.out])]; exact hbb5⟩
            · have hbN : BInts wr gb (cntN n m (u.drop j) (v.drop j)) := by rw [HNX.out, bwL]; rw [List.take_of_length_le (by omega)] at hbb; exact hbb
              clear hbb
              go_wp2_with fail
              go_roundg (g1-1)
              case measure => omega
              case rel => exact ⟨j, gb, _, by omega, by omega, rfl, by go_num, rfl, hEr2, hbN⟩

set_option maxHeartbeats 2000000 in
theorem count_c (av ev uv vv : Value) (m : Mac) (u v : List Int) (w : World) (h : MacR w av ev m) (hM : MacIn m m.s.toNat) (hu : Ints w uv u) (hv : Ints w vv v) (hu8 : u.length ≤ 1000) :
    Calls Try.prog 78 #[.agg #[.int .i64 m.s, av, ev], uv, vv] w (RV (.int .i64 (cntUV m u v)) w) := by
  obtain ⟨wA, hwA⟩ : ∃ wA, wA = w.alloc (.cells #[.int .i64 m.s, av, ev] 25) := ⟨_, rfl⟩
  have hE0 : Ext w wA := by rw [hwA]; exact Ext.alloc _ _
  have k0 : ∀ W, Ext wA W → W.cell? ⟨w.heap.size, 0, none⟩ = some (.int .i64 m.s) := by rw [hwA]; exact kept_alloc w _ _ rfl
  have k1 : ∀ W, Ext wA W → W.cell? ⟨w.heap.size, 1, none⟩ = some av := by rw [hwA]; exact kept_alloc w _ _ rfl
  have k2 : ∀ W, Ext wA W → W.cell? ⟨w.heap.size, 2, none⟩ = some ev := by rw [hwA]; exact kept_alloc w _ _ rfl
  have H0 : Ext wA wA := Ext.refl _
  have HR := Lib.hid (h.ext hE0)
  have HIU := Lib.hid (hu.ext hE0)
  have HIV := Lib.hid (hv.ext hE0)
  obtain ⟨aa, ca, rfl, hla, hma, HA⟩ := (h.ext hE0).a.open_
  obtain ⟨ae, ce, rfl, hle, hme, HE⟩ := (h.ext hE0).e.open_
  obtain ⟨au, cu, rfl, hlu, hmu, HU⟩ := (hu.ext hE0).open_
  obtain ⟨av2, cv, rfl, hlv, hmv, HV⟩ := (hv.ext hE0).open_
  have HW := Lib.hid hwA; clear hwA h hu hv
  by_cases hl : u.length = v.length
  · have hd : ((u.length : Int) != (v.length : Int)) = false := by simp [hl]
    have HC : Hid (cntUV m u v = (cntN m.s.toNat m u v)[0]?.getD 0) := Lib.hid (by rw [cntUV, if_pos hl])
    have HRU := Lib.hid (runs_c _ _ _ _ m m.s.toNat u v wA HR.out hM HIU.out HIV.out hl hu8)
    have HLN := Lib.hid (cntN_len m.s.toNat m u v)
    have hn1 := hM.n1
    clear hl hM
    generalize cntN m.s.toNat m u v = L at *
    have hL0 : 0 < L.length := by rw [HLN.out]; exact hn1
    go_enter Try.func78, Try.ntmps78
    go_wp2_with fail
    rw [← HW.out]
    refine HRU.out.mono ?_; rintro e w1 ⟨g, rfl, hb, hx1⟩
    have c0 := hb.cell (i := 0) hL0
    rw [← HC.out] at c0
    clear hb
    go_wp2_with fail
    go_ret
    exact RV.int rfl (hE0.trans hx1)
  · have hd : ((u.length : Int) != (v.length : Int)) = true := by simp; omega
    have HC : Hid (cntUV m u v = 0) := Lib.hid (by rw [cntUV, if_neg hl])
    clear hl
    go_enter Try.func78, Try.ntmps78
    go_wp2_with fail
    rw [← HW.out]
    go_ret
    exact RV.int (by rw [HC.out]) hE0

theorem checkK_ok2 {m : Mac} {u v : List Int} (h : checkK m [u, v] = 0) : checkK m [u] = 0 ∧ checkK m [v] = 0 := by
  rw [checkK_two] at h
  rw [checkK_one, checkK_one]
  split at h
  · rename_i h1
    split at h
    · rename_i h2; exact ⟨by rw [if_pos h1]; exact h2, by rw [if_pos h1]; exact h⟩
    · rename_i h2; exact absurd h h2
  · rename_i h1; exact absurd h h1
set_option maxHeartbeats 2000000 in
theorem Relates_c (av ev uv vv : Value) (m : Mac) (u v : List Int) (w : World) (h : MacR w av ev m) (hu : Ints w uv u) (hv : Ints w vv v) :
    Calls Try.prog 44 #[.agg #[.int .i64 m.s, av, ev], uv, vv] w (RV (.tuple #[.bool (relatesB m u v), .int .i64 (checkK m [u, v])]) w) := by
  obtain ⟨wA, hwA⟩ : ∃ wA, wA = w.alloc (.cells #[.int .i64 m.s, av, ev] 25) := ⟨_, rfl⟩
  have hE0 : Ext w wA := by rw [hwA]; exact Ext.alloc _ _
  have k0 : ∀ W, Ext wA W → W.cell? ⟨w.heap.size, 0, none⟩ = some (.int .i64 m.s) := by rw [hwA]; exact kept_alloc w _ _ rfl
  have k1 : ∀ W, Ext wA W → W.cell? ⟨w.heap.size, 1, none⟩ = some av := by rw [hwA]; exact kept_alloc w _ _ rfl
  have k2 : ∀ W, Ext wA W → W.cell? ⟨w.heap.size, 2, none⟩ = some ev := by rw [hwA]; exact kept_alloc w _ _ rfl
  have H0 : Ext wA wA := Ext.refl _
  have HR := Lib.hid (h.ext hE0)
  have HIU := Lib.hid (hu.ext hE0)
  have HIV := Lib.hid (hv.ext hE0)
  obtain ⟨aa, ca, rfl, hla, hma, HA⟩ := (h.ext hE0).a.open_
  obtain ⟨ae, ce, rfl, hle, hme, HE⟩ := (h.ext hE0).e.open_
  obtain ⟨au, cu, rfl, hlu, hmu, HU⟩ := (hu.ext hE0).open_
  obtain ⟨av2, cv, rfl, hlv, hmv, HV⟩ := (hv.ext hE0).open_
  have hxL := Ext.alloc wA (.cells #[.slice au u.length cu, .slice av2 v.length cv] 23)
  have HC := Lib.hid (by have := check_c _ _ _ m [u, v] _ (HR.out.ext hxL) (rows_new wA [.slice au u.length cu, .slice av2 v.length cv] [u, v] (AllInts.cons HIU.out (AllInts.cons HIV.out (AllInts.nil _))) (by simp)); rw [show wA.heap.size = w.heap.size + 1 by rw [hwA]; simp] at this; exact this)
  have HW := Lib.hid hwA; clear hwA h hu hv
  by_cases h0 : checkK m [u, v] = 0
  · obtain ⟨hm, hul, _⟩ := checkK_ok (checkK_ok2 h0).1
    have HCN := Lib.hid (fun W (hW : Ext wA W) => count_c _ _ _ _ m u v W (HR.out.ext hW) hm.in_ (HIU.out.ext hW) (HIV.out.ext hW) (by omega))
    have HB : Hid (relatesB m u v = decide (0 < cntUV m u v)) := Lib.hid (by rw [relatesB, if_pos h0])
    rw [h0] at HC ⊢
    clear h0 hm
    generalize cntUV m u v = c at *
    go_enter Try.func44, Try.ntmps44
    go_wp2_with fail
    rw [← HW.out]
    refine HC.out.mono ?_; rintro e w1 ⟨rfl, hx1⟩
    have hx1 := hxL.trans hx1
    go_wp2_with fail
    refine (HCN.out w1 hx1).mono ?_; rintro e w2 ⟨rfl, hx2⟩
    go_wp2_with fail
    go_ret2
    exact ⟨by rw [HB.out]; rfl, hE0.trans (hx1.trans hx2)⟩
  · rw [show relatesB m u v = false by rw [relatesB, if_neg h0]]
    have hk : (checkK m [u, v] != 0) = true := by simp [h0]
    generalize checkK m [u, v] = k at *
    clear h0
    go_enter Try.func44, Try.ntmps44
    go_wp2_with fail
    rw [← HW.out]
    refine HC.out.mono ?_; rintro e w1 ⟨rfl, hx1⟩
    have hx1 := hxL.trans hx1
    go_wp2_with fail
    go_ret2
    exact ⟨rfl, hE0.trans hx1⟩
end Go.Proofs.Ytpbflkbelhlogaa
/- Machines: what either of two relates. Plain laws. -/
namespace Go.Proofs.Ytpbflkbelhlogaa
open Go.RowKit Go.Shelf
set_option linter.unusedVariables false
theorem setB_pair {l : List Int} {n : Int} (h : setB l n = true) : l.Pairwise (· < ·) := by
  rw [List.pairwise_iff_getElem]
  intro i j hi hj hij
  have := setB_lt h hj i hij
  simpa only [hi, hj, List.getElem?_eq_getElem, Option.getD_some] using this
theorem setB_of {l : List Int} {n : Int} (h : ∀ x ∈ l, 0 ≤ x ∧ x < n) (hp : l.Pairwise (· < ·)) : setB l n = true := by
  unfold setB
  refine allB_true fun i hi => ?_
  have h1 := h l[i] (List.getElem_mem hi)
  unfold setAt inB
  rw [List.getElem?_eq_getElem hi]
  simp only [Option.getD_some, Bool.and_eq_true, decide_eq_true_eq, Bool.not_eq_true', Bool.and_eq_false_iff, decide_eq_false_iff_not]
  refine ⟨by omega, ?_⟩
  by_cases h0 : 0 < i
  · right
    rw [List.getElem?_eq_getElem (by omega), Option.getD_some]
    have := (List.pairwise_iff_getElem.1 hp) (i - 1) i (by omega) hi (by omega)
    omega
  · exact .inl h0
theorem mem_eith1 {f : Int} {a b : Arc} : a ∈ eith1 f b ↔ a = mov1 f b ∨ (b.f = 0 ∧ a = mov0 f b) := by
  unfold eith1
  split <;> rename_i h <;> simp [h]
theorem mem_eithA {m n : Mac} {a : Arc} : a ∈ eithA m n ↔ (∃ b ∈ m.a, a = mov1 1 b ∨ (b.f = 0 ∧ a = mov0 1 b)) ∨ (∃ b ∈ n.a, a = mov1 (1 + m.s) b ∨ (b.f = 0 ∧ a = mov0 (1 + m.s) b)) := by
  unfold eithA eithX
  rw [List.mem_append, List.mem_flatMap, List.mem_flatMap]
  simp only [mem_eith1]
theorem mem_eith0 {m n : Mac} {s : Int} : s ∈ eith0 m n ↔ s = 0 ∧ (0 ∈ m.e ∨ 0 ∈ n.e) := by
  unfold eith0
  rw [hasB_eq, hasB_eq]
  by_cases h1 : (0 : Int) ∈ m.e <;> by_cases h2 : (0 : Int) ∈ n.e <;> simp [h1, h2]
theorem mem_eithEs {m n : Mac} {s : Int} : s ∈ eithEs m n ↔ (s = 0 ∧ (0 ∈ m.e ∨ 0 ∈ n.e)) ∨ (∃ e ∈ m.e, e + 1 = s) ∨ (∃ e ∈ n.e, e + (1 + m.s) = s) := by
  unfold eithEs eithE
  rw [List.mem_append, List.mem_append, mem_eith0, List.mem_map, List.mem_map]
/-- either of two, as the list of its arcs lies in order -/
structure IsE (m n c : Mac) : Prop where
  s : c.s = 1 + m.s + n.s
  a : ∀ a, a ∈ c.a ↔ a ∈ eithA m n
  e : c.e = eithEs m n
theorem eith_pair {m n : Mac} (hm : MacOk m) (hn : MacOk n) : (eithEs m n).Pairwise (· < ·) := by
  unfold eithEs eithE
  have h1 := setB_in hm.e
  have h2 := setB_in hn.e
  have h3 := hm.s1
  have h4 := hn.s1
  have h0 : (eith0 m n).Pairwise (· < ·) := by
    unfold eith0
    by_cases h1 : hasB m.e 0 = true <;> by_cases h2 : hasB n.e 0 = true <;> simp [h1, h2]
  rw [List.pairwise_append]
  refine ⟨h0, ?_, fun x hx y hy => ?_⟩
  · rw [List.pairwise_append]
    refine ⟨List.pairwise_map.2 ((setB_pair hm.e).imp fun {a b} h => by omega), List.pairwise_map.2 ((setB_pair hn.e).imp fun {a b} h => by omega), fun x hx y hy => ?_⟩
    obtain ⟨p, hp, rfl⟩ := List.mem_map.1 hx
    obtain ⟨q, hq, rfl⟩ := List.mem_map.1 hy
    have := h1 p hp
    have := h2 q hq
    omega
  · obtain ⟨rfl, _⟩ := mem_eith0.1 hx
    rw [List.mem_append, List.mem_map, List.mem_map] at hy
    rcases hy with ⟨q, hq, rfl⟩ | ⟨q, hq, rfl⟩
    · have := h1 q hq; omega
    · have := h2 q hq; omega
theorem arcOk_of {s : Int} {a : Arc} (h : (0 ≤ a.f ∧ a.f < s) ∧ (0 ≤ a.t ∧ a.t < s) ∧ (0 ≤ a.i ∧ a.i ≤ 5) ∧ (0 ≤ a.o ∧ a.o ≤ 5)) : arcOk s a = true := by
  simp only [arcOk, Bool.and_eq_true, inB, decide_eq_true_eq]
  omega
theorem either_ok {m n : Mac} (h : eitherK m n = 0) : MacOk m ∧ MacOk n ∧ validM m = 0 ∧ validM n = 0 ∧ validM (eitherM m n) = 0 ∧ IsE m n (eitherM m n) := by
  unfold eitherK at h
  by_cases hb : bothK m n = 0
  · rw [if_pos hb] at h
    obtain ⟨hm, hn⟩ := both_ok hb
    have hv : validM m = 0 := by
      unfold bothK at hb
      split at hb
      · assumption
      · rename_i h0; exact absurd hb h0
    have hv2 : validM n = 0 := by rw [bothK, if_pos hv] at hb; exact hb
    have hk := h
    unfold madeK at h
    split at h
    · omega
    · rename_i h9
      split at h
      · omega
      · rename_i h60
        have hC : eitherM m n = ⟨1 + m.s + n.s, arcsU (eithA m n), eithEs m n⟩ := by rw [eitherM, if_pos hb, madeM, if_pos hk]
        have hm1 := hm.s1
        have hn1 := hn.s1
        refine ⟨hm, hn, hv, hv2, ?_, by rw [hC], fun a => by rw [hC]; exact arcsU_mem _ _, by rw [hC]⟩
        rw [hC]
        have g1 : inB (1 + m.s + n.s) 1 9 = true := by simp [inB]; omega
        have g3 : allB (arcsU (eithA m n)).length (fun k => arcOk (1 + m.s + n.s) (arcA (arcsU (eithA m n)) k)) = true := allB_true fun j hj => by
          have hx : arcA (arcsU (eithA m n)) j ∈ eithA m n := (arcsU_mem _ _).1 (by unfold arcA; rw [List.getElem?_eq_getElem hj]; exact List.getElem_mem hj)
          refine arcOk_of ?_
          rcases mem_eithA.1 hx with ⟨b, hb, he | ⟨h0, he⟩⟩ | ⟨b, hb, he | ⟨h0, he⟩⟩ <;> rw [he]
          · have := hm.mem hb; simp only [mov1]; omega
          · have := hm.mem hb; simp only [mov0]; omega
          · have := hn.mem hb; simp only [mov1]; omega
          · have := hn.mem hb; simp only [mov0]; omega
        have g4 : setB (eithEs m n) (1 + m.s + n.s) = true := setB_of (fun x hx => by
          rcases mem_eithEs.1 hx with ⟨rfl, _⟩ | ⟨e, he, rfl⟩ | ⟨e, he, rfl⟩
          · omega
          · have := setB_in hm.e e he; omega
          · have := setB_in hn.e e he; omega) (eith_pair hm hn)
        have g5 : onceB (arcsU (eithA m n)) = true := once_nodup.2 (List.Pairwise.imp (fun {a b : Arc} (hab : LtA a b) (he : a = b) => by subst he; exact LtA.irrefl _ hab) (arcsU_asc (eithA m n)))
        unfold validM
        rw [if_pos g1, if_neg h60, if_pos g3, if_pos g4, if_pos g5]
  · rw [if_neg hb] at h; exact absurd h hb
theorem either_in1 {m n c : Mac} (hm : MacOk m) (hn : MacOk n) (hc : IsE m n c) : ∀ (u v : List Int) (s : Int), 0 ≤ s → s < m.s → (relP c u v (s + 1) ↔ relP m u v s)
  | [], [], s, h0, h1 => by
    show s + 1 ∈ c.e ↔ s ∈ m.e
    rw [hc.e, mem_eithEs]
    constructor
    · rintro (⟨h, _⟩ | ⟨e, he, h⟩ | ⟨e, he, h⟩)
      · omega
      · obtain rfl : e = s := by omega
        exact he
      · have := setB_in hn.e e he; omega
    · intro h; exact .inr (.inl ⟨s, h, rfl⟩)
  | i :: u, o :: v, s, h0, h1 => by
    show (∃ a ∈ c.a, a.f = s + 1 ∧ a.i = i ∧ a.o = o ∧ relP c u v a.t) ↔ ∃ a ∈ m.a, a.f = s ∧ a.i = i ∧ a.o = o ∧ relP m u v a.t
    constructor
    · rintro ⟨a, ha, h2, h3, h4, h5⟩
      rcases mem_eithA.1 ((hc.a a).1 ha) with ⟨b, hb, rfl | ⟨hf, rfl⟩⟩ | ⟨b, hb, rfl | ⟨hf, rfl⟩⟩
      · have hbm := hm.mem hb
        simp only [mov1] at h2 h3 h4 h5
        exact ⟨b, hb, by omega, h3, h4, (either_in1 hm hn hc u v b.t hbm.2.1.1 hbm.2.1.2).1 h5⟩
      · simp only [mov0] at h2; omega
      · have := hn.mem hb; simp only [mov1] at h2; omega
      · simp only [mov0] at h2; omega
    · rintro ⟨b, hb, h2, h3, h4, h5⟩
      have hbm := hm.mem hb
      exact ⟨mov1 1 b, (hc.a _).2 (mem_eithA.2 (.inl ⟨b, hb, .inl rfl⟩)), by simp only [mov1]; omega, h3, h4, (either_in1 hm hn hc u v b.t hbm.2.1.1 hbm.2.1.2).2 h5⟩
  | [], _ :: _, _, _, _ => Iff.rfl
  | _ :: _, [], _, _, _ => Iff.rfl
theorem either_in2 {m n c : Mac} (hm : MacOk m) (hn : MacOk n) (hc : IsE m n c) : ∀ (u v : List Int) (s : Int), 0 ≤ s → s < n.s → (relP c u v (s + (1 + m.s)) ↔ relP n u v s)
  | [], [], s, h0, h1 => by
    show s + (1 + m.s) ∈ c.e ↔ s ∈ n.e
    have hm1 := hm.s1
    rw [hc.e, mem_eithEs]
    constructor
    · rintro (⟨h, _⟩ | ⟨e, he, h⟩ | ⟨e, he, h⟩)
      · omega
      · have := setB_in hm.e e he; omega
      · obtain rfl : e = s := by omega
        exact he
    · intro h; exact .inr (.inr ⟨s, h, rfl⟩)
  | i :: u, o :: v, s, h0, h1 => by
    have hm1 := hm.s1
    show (∃ a ∈ c.a, a.f = s + (1 + m.s) ∧ a.i = i ∧ a.o = o ∧ relP c u v a.t) ↔ ∃ a ∈ n.a, a.f = s ∧ a.i = i ∧ a.o = o ∧ relP n u v a.t
    constructor
    · rintro ⟨a, ha, h2, h3, h4, h5⟩
      rcases mem_eithA.1 ((hc.a a).1 ha) with ⟨b, hb, rfl | ⟨hf, rfl⟩⟩ | ⟨b, hb, rfl | ⟨hf, rfl⟩⟩
      · have := hm.mem hb; simp only [mov1] at h2; omega
      · simp only [mov0] at h2; omega
      · have hbm := hn.mem hb
        simp only [mov1] at h2 h3 h4 h5
        exact ⟨b, hb, by omega, h3, h4, (either_in2 hm hn hc u v b.t hbm.2.1.1 hbm.2.1.2).1 h5⟩
      · simp only [mov0] at h2; omega
    · rintro ⟨b, hb, h2, h3, h4, h5⟩
      have hbm := hn.mem hb
      exact ⟨mov1 (1 + m.s) b, (hc.a _).2 (mem_eithA.2 (.inr ⟨b, hb, .inl rfl⟩)), by simp only [mov1]; omega, h3, h4, (either_in2 hm hn hc u v b.t hbm.2.1.1 hbm.2.1.2).2 h5⟩
  | [], _ :: _, _, _, _ => Iff.rfl
  | _ :: _, [], _, _, _ => Iff.rfl
theorem either_rel {m n c : Mac} (hm : MacOk m) (hn : MacOk n) (hc : IsE m n c) : ∀ (u v : List Int), relP c u v 0 ↔ relP m u v 0 ∨ relP n u v 0
  | [], [] => by
    have hm1 := hm.s1
    show 0 ∈ c.e ↔ 0 ∈ m.e ∨ 0 ∈ n.e
    rw [hc.e, mem_eithEs]
    constructor
    · rintro (⟨_, h⟩ | ⟨e, he, h⟩ | ⟨e, he, h⟩)
      · exact h
      · have := setB_in hm.e e he; omega
      · have := setB_in hn.e e he; omega
    · intro h; exact .inl ⟨rfl, h⟩
  | i :: u, o :: v => by
    have hm1 := hm.s1
    show (∃ a ∈ c.a, a.f = 0 ∧ a.i = i ∧ a.o = o ∧ relP c u v a.t) ↔ (∃ a ∈ m.a, a.f = 0 ∧ a.i = i ∧ a.o = o ∧ relP m u v a.t) ∨ ∃ a ∈ n.a, a.f = 0 ∧ a.i = i ∧ a.o = o ∧ relP n u v a.t
    constructor
    · rintro ⟨a, ha, h2, h3, h4, h5⟩
      rcases mem_eithA.1 ((hc.a a).1 ha) with ⟨b, hb, rfl | ⟨hf, rfl⟩⟩ | ⟨b, hb, rfl | ⟨hf, rfl⟩⟩
      · have := hm.mem hb; simp only [mov1] at h2; omega
      · have hbm := hm.mem hb
        exact .inl ⟨b, hb, hf, h3, h4, (either_in1 hm hn hc u v b.t hbm.2.1.1 hbm.2.1.2).1 h5⟩
      · have := hn.mem hb; simp only [mov1] at h2; omega
      · have hbm := hn.mem hb
        exact .inr ⟨b, hb, hf, h3, h4, (either_in2 hm hn hc u v b.t hbm.2.1.1 hbm.2.1.2).1 h5⟩
    · rintro (⟨b, hb, h2, h3, h4, h5⟩ | ⟨b, hb, h2, h3, h4, h5⟩)
      · have hbm := hm.mem hb
        exact ⟨mov0 1 b, (hc.a _).2 (mem_eithA.2 (.inl ⟨b, hb, .inr ⟨h2, rfl⟩⟩)), rfl, h3, h4, (either_in1 hm hn hc u v b.t hbm.2.1.1 hbm.2.1.2).2 h5⟩
      · have hbm := hn.mem hb
        exact ⟨mov0 (1 + m.s) b, (hc.a _).2 (mem_eithA.2 (.inr ⟨b, hb, .inr ⟨h2, rfl⟩⟩)), rfl, h3, h4, (either_in2 hm hn hc u v b.t hbm.2.1.1 hbm.2.1.2).2 h5⟩
  | [], _ :: _ => ⟨fun h => h.elim, fun h => h.elim id id⟩
  | _ :: _, [] => ⟨fun h => h.elim, fun h => h.elim id id⟩
theorem relatesB_iff {m : Mac} {u v : List Int} (h : checkK m [u, v] = 0) : relatesB m u v = true ↔ relP m u v 0 := by
  obtain ⟨hm, hu, _⟩ := checkK_ok (checkK_ok2 h).1
  rw [relatesB, if_pos h, decide_eq_true_iff]
  exact cntUV_iff hm hu
theorem either_law {m n : Mac} (h : eitherK m n = 0) (u v : List Int) : checkK n [u, v] = checkK m [u, v] ∧ checkK (eitherM m n) [u, v] = checkK m [u, v] ∧
    (checkK m [u, v] = 0 → relatesB (eitherM m n) u v = (relatesB m u v || relatesB n u v)) := by
  obtain ⟨hm, hn, h1, h2, h3, hc⟩ := either_ok h
  have e1 : checkK n [u, v] = checkK m [u, v] := by rw [checkK, checkK, if_pos h1, if_pos h2]
  have e2 : checkK (eitherM m n) [u, v] = checkK m [u, v] := by rw [checkK, checkK, if_pos h1, if_pos h3]
  refine ⟨e1, e2, fun h0 => ?_⟩
  rw [Bool.eq_iff_iff, Bool.or_eq_true, relatesB_iff (m := m) h0, relatesB_iff (m := n) (by rw [e1]; exact h0), relatesB_iff (m := eitherM m n) (by rw [e2]; exact h0)]
  exact either_rel hm hn hc u v
end Go.Proofs.Ytpbflkbelhlogaa
/- Several texts in one: FeedL, FeedH, FeedP. -/
/- Machines: what two one after another relate. Plain laws. -/
namespace Go.Proofs.Ytpbflkbelhlogaa
open Go.RowKit Go.Shelf
set_option linter.unusedVariables false
theorem pair_inj {p q p' q' N : Int} (h0 : 0 ≤ q) (h1 : q < N) (h2 : 0 ≤ q') (h3 : q' < N) (h : p * N + q = p' * N + q') : p = p' ∧ q = q' := by
  have key : ∀ a b : Int, a < b → a * N + N ≤ b * N := fun a b hab => by
    have := Int.mul_le_mul_of_nonneg_right (show a + 1 ≤ b by omega) (show 0 ≤ N by omega)
    rw [Int.add_mul, Int.one_mul] at this
    exact this
  have hp : p = p' := by
    rcases Int.lt_trichotomy p p' with hlt | heq | hgt
    · have := key p p' hlt; omega
    · exact heq
    · have := key p' p hgt; omega
  subst hp
  exact ⟨rfl, by omega⟩
theorem pair_bd {p q M N : Int} (h0 : 0 ≤ p) (h1 : p < M) (h2 : 0 ≤ q) (h3 : q < N) : 0 ≤ p * N + q ∧ p * N + q < M * N := by
  have h4 := Int.mul_nonneg h0 (show 0 ≤ N by omega)
  have h5 := Int.mul_le_mul_of_nonneg_right (show p + 1 ≤ M by omega) (show 0 ≤ N by omega)
  rw [Int.add_mul, Int.one_mul] at h5
  omega
structure IsC (m n c : Mac) : Prop where
  s : c.s = m.s * n.s
  a : ∀ a, a ∈ c.a ↔ ∃ x ∈ m.a, ∃ y ∈ n.a, x.o = y.i ∧ a = compOf n x y
  e : ∀ s, s ∈ c.e ↔ ∃ a ∈ m.e, ∃ b ∈ n.e, s = a * n.s + b
theorem mem_compA {m n : Mac} {a : Arc} : a ∈ compA m n ↔ ∃ x ∈ m.a, ∃ y ∈ n.a, x.o = y.i ∧ a = compOf n x y := by
  unfold compA compX
  rw [List.mem_flatMap]
  constructor
  · rintro ⟨x, hx, h⟩
    obtain ⟨y, hy, rfl⟩ := List.mem_map.1 h
    rw [List.mem_filter] at hy
    exact ⟨x, hx, y, hy.1, by simpa using hy.2, rfl⟩
  · rintro ⟨x, hx, y, hy, he, rfl⟩
    exact ⟨x, hx, List.mem_map.2 ⟨y, List.mem_filter.2 ⟨hy, by simpa using he⟩, rfl⟩⟩
theorem mem_compE {m n : Mac} {s : Int} : s ∈ compE m n ↔ ∃ a ∈ m.e, ∃ b ∈ n.e, s = a * n.s + b := by
  unfold compE
  rw [List.mem_flatMap]
  constructor
  · rintro ⟨a, ha, h⟩
    obtain ⟨b, hb, rfl⟩ := List.mem_map.1 h
    exact ⟨a, ha, b, hb, rfl⟩
  · rintro ⟨a, ha, b, hb, rfl⟩
    exact ⟨a, ha, List.mem_map.2 ⟨b, hb, rfl⟩⟩
theorem comp_pair {N : Int} {eb : List Int} (hb : ∀ b ∈ eb, 0 ≤ b ∧ b < N) (hp : eb.Pairwise (· < ·)) : ∀ {ea : List Int}, (∀ a ∈ ea, 0 ≤ a) → ea.Pairwise (· < ·) → (ea.flatMap fun a => eb.map fun b => a * N + b).Pairwise (· < ·)
  | [], _, _ => List.Pairwise.nil
  | a :: ea, h, hpa => by
    rw [List.flatMap_cons, List.pairwise_append]
    rw [List.pairwise_cons] at hpa
    refine ⟨List.pairwise_map.2 (hp.imp fun {x y} h => by omega), comp_pair hb hp (fun x hx => h x (by simp [hx])) hpa.2, fun x hx y hy => ?_⟩
    obtain ⟨b, hb1, rfl⟩ := List.mem_map.1 hx
    obtain ⟨a2, ha2, hy⟩ := List.mem_flatMap.1 hy
    obtain ⟨b2, hb2, rfl⟩ := List.mem_map.1 hy
    have h1 := hb b hb1
    have h2 := hb b2 hb2
    have h3 := Int.mul_le_mul_of_nonneg_right (show a + 1 ≤ a2 by have := hpa.1 a2 ha2; omega) (show 0 ≤ N by omega)
    rw [Int.add_mul, Int.one_mul] at h3
    omega
theorem compose_ok {m n : Mac} (h : composeK m n = 0) : MacOk m ∧ MacOk n ∧ validM m = 0 ∧ validM n = 0 ∧ validM (composeM m n) = 0 ∧ IsC m n (composeM m n) := by
  unfold composeK at h
  by_cases hb : bothK m n = 0
  · rw [if_pos hb] at h
    obtain ⟨hm, hn⟩ := both_ok hb
    have hv : validM m = 0 := by
      unfold bothK at hb
      split at hb
      · assumption
      · rename_i h0; exact absurd hb h0
    have hv2 : validM n = 0 := by rw [bothK, if_pos hv] at hb; exact hb
    have hk := h
    unfold madeK at h
    split at h
    · omega
    · rename_i h9
      split at h
      · omega
      · rename_i h60
        have hC : composeM m n = ⟨m.s * n.s, arcsU (compA m n), compE m n⟩ := by rw [composeM, if_pos hb, madeM, if_pos hk]
        have hm1 := hm.s1
        have hn1 := hn.s1
        refine ⟨hm, hn, hv, hv2, ?_, by rw [hC], fun a => by rw [hC]; exact (arcsU_mem _ _).trans mem_compA, fun s => by rw [hC]; exact mem_compE⟩
        rw [hC]
        have hpos : 1 ≤ m.s * n.s := by
          have := Int.mul_le_mul_of_nonneg_right hm1 (show 0 ≤ n.s by omega)
          rw [Int.one_mul] at this; omega
        have g1 : inB (m.s * n.s) 1 9 = true := by simp [inB]; omega
        have g3 : allB (arcsU (compA m n)).length (fun k => arcOk (m.s * n.s) (arcA (arcsU (compA m n)) k)) = true := allB_true fun j hj => by
          have hx : arcA (arcsU (compA m n)) j ∈ compA m n := (arcsU_mem _ _).1 (by unfold arcA; rw [List.getElem?_eq_getElem hj]; exact List.getElem_mem hj)
          refine arcOk_of ?_
          obtain ⟨x, hx, y, hy, he, hxy⟩ := mem_compA.1 hx
          rw [hxy]
          have h1 := hm.mem hx
          have h2 := hn.mem hy
          exact ⟨pair_bd h1.1.1 h1.1.2 h2.1.1 h2.1.2, pair_bd h1.2.1.1 h1.2.1.2 h2.2.1.1 h2.2.1.2, h1.2.2.1, h2.2.2.2⟩
        have g4 : setB (compE m n) (m.s * n.s) = true := setB_of (fun x hx => by
          obtain ⟨a, ha, b, hb, rfl⟩ := mem_compE.1 hx
          have h1 := setB_in hm.e a ha
          have h2 := setB_in hn.e b hb
          exact pair_bd h1.1 h1.2 h2.1 h2.2) (comp_pair (fun b hb => setB_in hn.e b hb) (setB_pair hn.e) (fun a ha => (setB_in hm.e a ha).1) (setB_pair hm.e))
        have g5 : onceB (arcsU (compA m n)) = true := once_nodup.2 (List.Pairwise.imp (fun {a b : Arc} (hab : LtA a b) (he : a = b) => by subst he; exact LtA.irrefl _ hab) (arcsU_asc (compA m n)))
        unfold validM
        rw [if_pos g1, if_neg h60, if_pos g3, if_pos g4, if_pos g5]
  · rw [if_neg hb] at h; exact absurd h hb
theorem compose_rel {m n c : Mac} (hm : MacOk m) (hn : MacOk n) (hc : IsC m n c) : ∀ (u v : List Int) (p q : Int), 0 ≤ p → p < m.s → 0 ≤ q → q < n.s → (relP c u v (p * n.s + q) ↔ ∃ w, relP m u w p ∧ relP n w v q)
  | [], [], p, q, h0, h1, h2, h3 => by
    show p * n.s + q ∈ c.e ↔ _
    rw [hc.e]
    constructor
    · rintro ⟨a, ha, b, hb, he⟩
      have := setB_in hn.e b hb
      obtain ⟨rfl, rfl⟩ := pair_inj h2 h3 this.1 this.2 he
      exact ⟨[], ha, hb⟩
    · rintro ⟨w, hw1, hw2⟩
      cases w with
      | nil => exact ⟨p, hw1, q, hw2, rfl⟩
      | cons _ _ => exact hw1.elim
  | i :: u, o :: v, p, q, h0, h1, h2, h3 => by
    show (∃ a ∈ c.a, a.f = p * n.s + q ∧ a.i = i ∧ a.o = o ∧ relP c u v a.t) ↔ _
    constructor
    · rintro ⟨a, ha, g1, g2, g3, g4⟩
      obtain ⟨x, hx, y, hy, he, rfl⟩ := (hc.a a).1 ha
      have bx := hm.mem hx
      have by_ := hn.mem hy
      obtain ⟨e1, e2⟩ := pair_inj by_.1.1 by_.1.2 h2 h3 g1
      obtain ⟨w, w1, w2⟩ := (compose_rel hm hn hc u v x.t y.t bx.2.1.1 bx.2.1.2 by_.2.1.1 by_.2.1.2).1 g4
      exact ⟨x.o :: w, ⟨x, hx, e1, g2, rfl, w1⟩, ⟨y, hy, e2, he.symm, g3, w2⟩⟩
    · rintro ⟨w, hw1, hw2⟩
      cases w with
      | nil => exact hw1.elim
      | cons z w =>
        obtain ⟨x, hx, e1, e2, e3, e4⟩ := hw1
        obtain ⟨y, hy, f1, f2, f3, f4⟩ := hw2
        have bx := hm.mem hx
        have by_ := hn.mem hy
        exact ⟨compOf n x y, (hc.a _).2 ⟨x, hx, y, hy, by rw [e3, f2], rfl⟩, by show x.f * n.s + y.f = _; rw [e1, f1], e2, f3, (compose_rel hm hn hc u v x.t y.t bx.2.1.1 bx.2.1.2 by_.2.1.1 by_.2.1.2).2 ⟨w, e4, f4⟩⟩
  | [], o :: v, p, q, _, _, _, _ => by
    constructor
    · exact fun h => h.elim
    · rintro ⟨w, hw1, hw2⟩
      cases w with
      | nil => exact hw2.elim
      | cons _ _ => exact hw1.elim
  | i :: u, [], p, q, _, _, _, _ => by
    constructor
    · exact fun h => h.elim
    · rintro ⟨w, hw1, hw2⟩
      cases w with
      | nil => exact hw1.elim
      | cons _ _ => exact hw2.elim
theorem compose_rel0 {m n : Mac} (h : composeK m n = 0) (u v : List Int) : relP (composeM m n) u v 0 ↔ ∃ w, relP m u w 0 ∧ relP n w v 0 := by
  obtain ⟨hm, hn, _, _, _, hc⟩ := compose_ok h
  have := compose_rel hm hn hc u v 0 0 (by omega) (by have := hm.s1; omega) (by omega) (by have := hn.s1; omega)
  rwa [show (0 : Int) * n.s + 0 = 0 by simp] at this
end Go.Proofs.Ytpbflkbelhlogaa
/- Machines: the second of two has no more heads than the composed one. Plain. -/
namespace Go.Proofs.Ytpbflkbelhlogaa
open Go.RowKit Go.Shelf
set_option linter.unusedVariables false
theorem nodup_sub_len {α : Type} [DecidableEq α] : ∀ {l k : List α}, l.Nodup → (∀ x ∈ l, x ∈ k) → l.length ≤ k.length
  | [], _, _, _ => Nat.zero_le _
  | x :: l, k, hd, hs => by
    have hx := hs x (by simp)
    have h1 := List.length_erase_of_mem hx
    have h2 : 0 < k.length := List.length_pos_of_mem hx
    have h3 := nodup_sub_len (l := l) (k := k.erase x) (List.nodup_cons.1 hd).2 fun y hy => by
      have hne : y ≠ x := fun e => (List.nodup_cons.1 hd).1 (e ▸ hy)
      exact (List.mem_erase_of_ne hne).2 (hs y (by simp [hy]))
    rw [List.length_cons]; omega
def HApart (hs : List Hd) : Prop := hs.Pairwise fun x y => x.1 ≠ y.1
theorem HApart.next {n : Nat} {ar : List Arc} {s : Int} {nx : List Bool} {hs : List Hd} (h : HApart hs) : HApart (nextL n ar s nx hs) := by
  have hO : ∀ (g : Hd) (o : Nat) (x : Hd), x ∈ nextO n ar s nx g o → x.1 = g.1 ++ [(o : Int)] := fun g o x hx => by
    unfold nextO at hx
    split at hx
    · rw [List.mem_singleton] at hx; rw [hx]
    · cases hx
  have hH : ∀ (g : Hd) (x : Hd), x ∈ nextH n ar s nx g → ∃ o : Nat, x.1 = g.1 ++ [(o : Int)] := fun g x hx => by
    unfold nextH at hx
    obtain ⟨o, _, hx⟩ := List.mem_flatMap.1 hx
    exact ⟨o, hO g o x hx⟩
  unfold HApart nextL
  rw [List.pairwise_flatMap]
  refine ⟨fun g hg => ?_, h.imp fun {g g'} hne x hx y hy e => ?_⟩
  · unfold nextH
    rw [List.pairwise_flatMap]
    refine ⟨fun o _ => ?_, (List.pairwise_lt_range (n := 6)).imp fun {o o'} hlt x hx y hy e => ?_⟩
    · unfold nextO
      split
      · exact List.pairwise_singleton _ _
      · exact List.Pairwise.nil
    · rw [hO g o x hx, hO g o' y hy] at e
      have := List.append_cancel_left e
      injection this with this
      omega
  · obtain ⟨o, ho⟩ := hH g x hx
    obtain ⟨o', ho'⟩ := hH g' y hy
    rw [ho, ho'] at e
    exact hne (List.append_inj_left' e rfl)
theorem HApart.len {ks hs : List Hd} (h : HApart ks) (hs' : ∀ x ∈ ks, ∃ y ∈ hs, y.1 = x.1) : ks.length ≤ hs.length := by
  have h1 : (ks.map Prod.fst).Nodup := by unfold List.Nodup; rw [List.pairwise_map]; exact h
  have h2 := nodup_sub_len (k := hs.map Prod.fst) h1 fun v hv => by
    obtain ⟨x, hx, rfl⟩ := List.mem_map.1 hv
    obtain ⟨y, hy, he⟩ := hs' x hx
    rw [← he]; exact List.mem_map_of_mem hy
  rwa [List.length_map, List.length_map] at h2
/-- each head of the second is a head of the composed machine, whose states hold those of the second beside the first's -/
def Sim (n : Mac) (p : Int) (hs ks : List Hd) : Prop := ∀ x ∈ ks, ∃ y ∈ hs, y.1 = x.1 ∧ ∀ q, 0 ≤ q → q < n.s → getB x.2 q = true → getB y.2 (p * n.s + q) = true
theorem sim_go {m n c : Mac} (hm : MacOk m) (hn : MacOk n) (hcm : MacOk c) (hc : IsC m n c) : ∀ (u w : List Int) (p : Int) (hs ks : List Hd), 0 ≤ p → p < m.s → relP m u w p → HApart ks → Sim n p hs ks → (imgGo c.s.toNat c u hs).isSome = true → (imgGo n.s.toNat n w ks).isSome = true
  | [], w, p, hs, ks, _, _, hr, _, _, _ => by
    cases w with
    | nil => rfl
    | cons _ _ => exact hr.elim
  | i :: u, w, p, hs, ks, h0, h1, hr, ha, hsim, hgo => by
    cases w with
    | nil => exact hr.elim
    | cons o w =>
      obtain ⟨x, hx, e1, e2, e3, e4⟩ := hr
      have bx := hm.mem hx
      have hn0 : n.s.toNat = n.s := by have := hn.s1; omega
      have hc0 : (c.s.toNat : Int) = c.s := by have := hcm.s1; omega
      have hsim2 : Sim n x.t (nextL c.s.toNat c.a i (canL c.s.toNat c u) hs) (nextL n.s.toNat n.a o (canL n.s.toNat n w) ks) := fun z hz => by
        obtain ⟨g, hg, ov, hov, hany, rfl⟩ := mem_nextL.1 hz
        obtain ⟨g2, hg2, hw2, hst⟩ := hsim g hg
        have key : ∀ y ∈ n.a, goC o ov g.2 (canL n.s.toNat n w) y = true → compOf n x y ∈ c.a ∧ goC i ov g2.2 (canL c.s.toNat c u) (compOf n x y) = true := fun y hy hgy => by
          have by_ := hn.mem hy
          obtain ⟨f1, f2, f3, f4⟩ := goC_iff.1 hgy
          refine ⟨(hc.a _).2 ⟨x, hx, y, hy, by rw [e3, f2], rfl⟩, goC_iff.2 ⟨?_, e2, f3, ?_⟩⟩
          · show getB g2.2 (x.f * n.s + y.f) = true
            rw [e1]; exact hst y.f by_.1.1 by_.1.2 f1
          · show getB _ (x.t * n.s + y.t) = true
            have hcan := (getB_can hn.in_ w by_.2.1.1).1 f4
            obtain ⟨v', hv'⟩ := canP_rel hcan
            exact (getB_can hcm.in_ u (pair_bd bx.2.1.1 bx.2.1.2 by_.2.1.1 by_.2.1.2).1).2 (relP_can ((compose_rel hm hn hc u v' x.t y.t bx.2.1.1 bx.2.1.2 by_.2.1.1 by_.2.1.2).2 ⟨w, e4, hv'⟩))
        refine ⟨_, mem_nextL.2 ⟨g2, hg2, ov, hov, ?_, rfl⟩, by simp only [hw2], fun q hq0 hq1 hq => ?_⟩
        · obtain ⟨y, hy, hgy⟩ := List.any_eq_true.1 hany
          exact List.any_eq_true.2 ⟨_, (key y hy hgy).1, (key y hy hgy).2⟩
        · obtain ⟨y, hy, hgy, hyt⟩ := (getB_ons _ (fun a : Arc => a.t) (fun a ha => by have := (hn.mem ha).2.1; omega) hq0).1 hq
          have by_ := hn.mem hy
          refine (getB_ons _ (fun a : Arc => a.t) (fun a ha => by have := (hcm.mem ha).2.1; omega) (pair_bd bx.2.1.1 bx.2.1.2 hq0 hq1).1).2 ⟨_, (key y hy hgy).1, (key y hy hgy).2, ?_⟩
          show x.t * n.s + y.t = x.t * n.s + q
          rw [hyt]
      have hap := ha.next (n := n.s.toNat) (ar := n.a) (s := o) (nx := canL n.s.toNat n w)
      have hlen := hap.len fun z hz => by
        obtain ⟨y, hy, he, _⟩ := hsim2 z hz
        exact ⟨y, hy, he⟩
      rw [imgGo] at hgo ⊢
      split at hgo
      · cases hgo
      · rename_i hle
        rw [if_neg (by omega)]
        exact sim_go hm hn hcm hc u w x.t _ _ bx.2.1.1 bx.2.1.2 e4 hap hsim2 hgo
end Go.Proofs.Ytpbflkbelhlogaa
/- MachineFeeds: the plain law. -/
namespace Go.Proofs.Ytpbflkbelhlogaa
open Go.RowKit Go.Shelf
set_option linter.unusedVariables false
theorem relP_out {m : Mac} (hm : MacOk m) : ∀ {u v : List Int} {s : Int}, relP m u v s → ∀ x ∈ v, 0 ≤ x ∧ x ≤ 5
  | [], [], _, _, x, hx => by simp at hx
  | i :: u, o :: v, s, ⟨a, ha, h1, h2, h3, h4⟩, x, hx => by
    rcases List.mem_cons.1 hx with rfl | hx
    · have := hm.mem ha
      omega
    · exact relP_out hm h4 x hx
  | [], _ :: _, _, h, _, _ => h.elim
  | _ :: _, [], _, h, _, _ => h.elim
theorem wordK_of8 {w : List Int} (h : w.length ≤ 8) (hs : ∀ x ∈ w, 0 ≤ x ∧ x ≤ 5) : wordK 8 w = 0 := by
  have h1 : sndB w = true := by
    unfold sndB
    refine allB_true fun j hj => ?_
    rw [List.getElem?_eq_getElem hj]
    have := hs w[j] (List.getElem_mem hj)
    simp [inB]; omega
  rw [wordK, if_neg (by omega), if_pos h1]
theorem imagesK_ok {m : Mac} {u : List Int} (h : imagesK m u = 0) : checkK m [u] = 0 ∧ ∃ L, imagesO m.s.toNat m u = some L ∧ imagesL m u = L := by
  unfold imagesK at h
  split at h
  · rename_i h0
    refine ⟨h0, ?_⟩
    cases ho : imagesO m.s.toNat m u with
    | none => rw [ho] at h; simp at h
    | some L => exact ⟨L, rfl, by rw [imagesL, if_pos h0, ho]; rfl⟩
  · rename_i h0; exact absurd h h0
theorem images_iff {m : Mac} {u : List Int} (h : imagesK m u = 0) (v : List Int) : v ∈ imagesL m u ↔ relP m u v 0 := by
  obtain ⟨h0, L, ho, hL⟩ := imagesK_ok h
  obtain ⟨hm, _, _⟩ := checkK_ok h0
  rw [hL]
  exact images_mem hm.in_ hm.outIn ho v
theorem sim_begin {n : Mac} {M N : Nat} (hM : 0 < M) (hN : 0 < N) : Sim n 0 [([], beginB M)] [([], beginB N)] := fun x hx => by
  rw [List.mem_singleton] at hx
  subst hx
  refine ⟨_, List.mem_singleton.2 rfl, rfl, fun q h0 _ hq => ?_⟩
  have := (getB_begin hN h0).1 hq
  subst this
  rw [Int.zero_mul, Int.add_zero]
  exact (getB_begin hM (Int.le_refl 0)).2 rfl
structure Feeds (m n : Mac) (u : List Int) : Prop where
  check : ∀ w ∈ imagesL m u, ∀ v ∈ imagesL (composeM m n) u, checkK n [w, v] = 0
  some_ : ∀ v ∈ imagesL (composeM m n) u, ∃ w ∈ imagesL m u, relatesB n w v = true
  ok : ∀ w ∈ imagesL m u, imagesK n w = 0
  back : ∀ w ∈ imagesL m u, ∀ v ∈ imagesL n w, v ∈ imagesL (composeM m n) u
  found : imagesL (composeM m n) u ≠ [] → ∃ w ∈ imagesL m u, imagesL n w ≠ []
theorem feeds {m n : Mac} {u : List Int} (h : composeK m n = 0) (h1 : imagesK (composeM m n) u = 0) (h2 : imagesK m u = 0) : Feeds m n u := by
  obtain ⟨hm, hn, v1, v2, v3, hc⟩ := compose_ok h
  obtain ⟨k1, L, ho, hL⟩ := imagesK_ok h1
  obtain ⟨hcm, hu8, _⟩ := checkK_ok k1
  have hw : ∀ w, relP m u w 0 → w.length ≤ 8 ∧ ∀ x ∈ w, 0 ≤ x ∧ x ≤ 5 := fun w hr => ⟨by rw [← relP_len hr]; exact hu8, relP_out hm hr⟩
  have hv : ∀ v, relP (composeM m n) u v 0 → v.length ≤ 8 ∧ ∀ x ∈ v, 0 ≤ x ∧ x ≤ 5 := fun v hr => ⟨by rw [← relP_len hr]; exact hu8, relP_out hcm hr⟩
  have hcheck : ∀ w, relP m u w 0 → ∀ v, relP (composeM m n) u v 0 → checkK n [w, v] = 0 := fun w hw1 v hv1 => by
    have a1 := wordK_of8 (hw w hw1).1 (hw w hw1).2
    have a2 := wordK_of8 (hv v hv1).1 (hv v hv1).2
    rw [checkK, if_pos v2, wordsK, if_pos a1, wordsK, if_pos a2]; rfl
  have hok : ∀ w, relP m u w 0 → imagesK n w = 0 := fun w hw1 => by
    have a1 := wordK_of8 (hw w hw1).1 (hw w hw1).2
    have a2 : checkK n [w] = 0 := by rw [checkK, if_pos v2, wordsK, if_pos a1]; rfl
    have a3 : (imagesO n.s.toNat n w).isSome = true := by
      unfold imagesO
      split
      · have hc1 : getB (canL (composeM m n).s.toNat (composeM m n) u) 0 = true := by
          rename_i hcan
          obtain ⟨v', hv'⟩ := canP_rel ((getB_can hn.in_ w (Int.le_refl 0)).1 hcan)
          exact (getB_can hcm.in_ u (Int.le_refl 0)).2 (relP_can ((compose_rel0 h u v').2 ⟨w, hw1, hv'⟩))
        have hgo : (imgGo (composeM m n).s.toNat (composeM m n) u [([], beginB (composeM m n).s.toNat)]).isSome = true := by
          unfold imagesO at ho
          rw [if_pos hc1] at ho
          cases hg : imgGo (composeM m n).s.toNat (composeM m n) u [([], beginB (composeM m n).s.toNat)] with
          | none => rw [hg] at ho; cases ho
          | some _ => rfl
        have := sim_go hm hn hcm hc u w 0 _ [([], beginB n.s.toNat)] (Int.le_refl 0) (by have := hm.s1; omega) hw1 (List.pairwise_singleton _ _) (sim_begin (by have := hcm.s1; omega) (by have := hn.s1; omega)) hgo
        simpa using this
      · rfl
    rw [imagesK, if_pos a2, if_pos a3]
  refine ⟨fun w hw1 v hv1 => hcheck w ((images_iff h2 w).1 hw1) v ((images_iff h1 v).1 hv1), fun v hv1 => ?_, fun w hw1 => hok w ((images_iff h2 w).1 hw1), fun w hw1 v hv1 => ?_, fun hne => ?_⟩
  · have hr := (images_iff h1 v).1 hv1
    obtain ⟨w, hw1, hw2⟩ := (compose_rel0 h u v).1 hr
    exact ⟨w, (images_iff h2 w).2 hw1, (relatesB_iff (hcheck w hw1 v hr)).2 hw2⟩
  · have hr := (images_iff h2 w).1 hw1
    exact (images_iff h1 v).2 ((compose_rel0 h u v).2 ⟨w, hr, (images_iff (hok w hr) v).1 hv1⟩)
  · obtain ⟨v, hv1⟩ := List.exists_mem_of_ne_nil _ hne
    obtain ⟨w, hw1, hw2⟩ := (compose_rel0 h u v).1 ((images_iff h1 v).1 hv1)
    exact ⟨w, (images_iff h2 w).2 hw1, List.ne_nil_of_mem ((images_iff (hok w hw1) v).2 hw2)⟩
end Go.Proofs.Ytpbflkbelhlogaa
/- Machines: Trim, plain: which states are reached, which are of use, their numbers. -/
namespace Go.Proofs.Ytpbflkbelhlogaa
open Go.RowKit Go.Shelf
set_option linter.unusedVariables false
def tS (l : List Bool) (a : Arc) : List Bool := if getB l a.f = true then l.set a.t.toNat true else l
def thR (ar : List Arc) (l : List Bool) : Nat → List Bool
  | 0 => l
  | r + 1 => ar.foldl tS (thR ar l r)
def thL (m : Mac) : List Bool := thR m.a (beginB m.s.toNat) m.s.toNat
theorem tS_len (l : List Bool) (a : Arc) : (tS l a).length = l.length := by unfold tS; split <;> simp
theorem tSF_len : ∀ (ar : List Arc) (l : List Bool), (ar.foldl tS l).length = l.length
  | [], _ => rfl
  | a :: ar, l => by rw [List.foldl_cons, tSF_len ar, tS_len]
theorem thR_len (ar : List Arc) (l : List Bool) : ∀ r, (thR ar l r).length = l.length
  | 0 => rfl
  | r + 1 => by rw [thR, tSF_len, thR_len ar l r]
theorem thL_len (m : Mac) : (thL m).length = m.s.toNat := by unfold thL; rw [thR_len, beginB_len]
/-- from 0, in so many arcs -/
def Frm (ar : List Arc) (k s : Nat) : Prop := Rch tN fN ar (fun s => s = 0) k s
def FrmP (ar : List Arc) (s : Nat) : Prop := ∃ k, Frm ar k s
theorem FrmP.step {ar : List Arc} {a : Arc} (ha : a ∈ ar) (h : FrmP ar (fN a)) : FrmP ar (tN a) := by
  obtain ⟨k, hk⟩ := h
  exact ⟨k + 1, a, ha, rfl, hk⟩
theorem tS_mono {l : List Bool} {a : Arc} {k : Int} (h : getB l k = true) : getB (tS l a) k = true := by
  unfold tS
  split
  · unfold getB at *
    rw [List.getElem?_set]
    split
    · rename_i e
      split
      · rfl
      · rename_i hlt
        rw [List.getElem?_eq_none (by omega)] at h
        exact h
    · exact h
  · exact h
theorem tSF_mono {k : Int} : ∀ (ar : List Arc) (l : List Bool), getB l k = true → getB (ar.foldl tS l) k = true
  | [], _, h => h
  | a :: ar, l, h => tSF_mono ar _ (tS_mono h)
theorem tSF_hit : ∀ (br : List Arc) (l : List Bool) {a : Arc}, a ∈ br → a.t.toNat < l.length → 0 ≤ a.t → getB l a.f = true → getB (br.foldl tS l) a.t = true
  | b :: br, l, a, ha, ht, h0, hf => by
    rw [List.foldl_cons]
    rcases List.mem_cons.1 ha with rfl | ha
    · refine tSF_mono br _ ?_
      unfold tS
      rw [if_pos hf]
      unfold getB
      rw [List.getElem?_set_self ht]; rfl
    · exact tSF_hit br _ ha (by rw [tS_len]; exact ht) h0 (tS_mono hf)
theorem tSF_sound {ar : List Arc} {n : Nat} (hr : ∀ a ∈ ar, 0 ≤ a.f ∧ 0 ≤ a.t) : ∀ (br : List Arc) (l : List Bool), (∀ a ∈ br, a ∈ ar) → (∀ s : Nat, getB l s = true → FrmP ar s) → ∀ s : Nat, getB (br.foldl tS l) s = true → FrmP ar s
  | [], l, _, h => h
  | a :: br, l, hb, h => by
    rw [List.foldl_cons]
    refine tSF_sound (n := n) hr br _ (fun x hx => hb x (by simp [hx])) fun s hs => ?_
    have ha := hb a (by simp)
    have h0 := hr a ha
    unfold tS at hs
    split at hs
    · rename_i hf
      by_cases e : a.t.toNat = s
      · subst e
        have hf' : getB l ((a.f.toNat : Nat) : Int) = true := by rwa [Int.toNat_of_nonneg h0.1]
        exact FrmP.step ha (h _ hf')
      · refine h s ?_
        unfold getB at hs ⊢
        rwa [List.getElem?_set_ne (by simpa using e)] at hs
    · exact h s hs
theorem thR_sound {m : Mac} (hm : MacOk m) : ∀ (r s : Nat), getB (thR m.a (beginB m.s.toNat) r) s = true → FrmP m.a s
  | 0, s, h => by
    have := (getB_begin (by have := hm.s1; omega) (by omega)).1 h
    exact ⟨0, by show s = 0; omega⟩
  | r + 1, s, h => tSF_sound (n := m.s.toNat) (fun a ha => by have := hm.mem ha; omega) m.a _ (fun _ h => h) (thR_sound hm r) s h
theorem thR_full {m : Mac} (hm : MacOk m) : ∀ (r k s : Nat), k ≤ r → Frm m.a k s → getB (thR m.a (beginB m.s.toNat) r) s = true
  | 0, k, s, hk, h => by
    obtain rfl : k = 0 := by omega
    have e : s = 0 := h
    subst e
    exact (getB_begin (by have := hm.s1; omega) (by omega)).2 rfl
  | r + 1, k, s, hk, h => by
    rw [thR]
    cases k with
    | zero => exact tSF_mono _ _ (thR_full hm r 0 s (by omega) h)
    | succ k =>
      obtain ⟨a, ha, rfl, h2⟩ := h
      have hb := hm.mem ha
      have h3 := thR_full hm r k (fN a) (by omega) h2
      have h4 : ((fN a : Nat) : Int) = a.f := by unfold fN; omega
      have h5 : ((tN a : Nat) : Int) = a.t := by unfold tN; omega
      rw [h5]
      rw [h4] at h3
      exact tSF_hit m.a _ ha (by rw [thR_len, beginB_len]; omega) hb.2.1.1 h3
theorem thL_iff {m : Mac} (hm : MacOk m) {s : Nat} (hs : s < m.s.toNat) : getB (thL m) s = true ↔ FrmP m.a s := by
  constructor
  · exact thR_sound hm _ s
  · rintro ⟨k, hk⟩
    obtain ⟨d, _, hd⟩ := Dst.least k s hk
    have hlt := Dst.lt (f := tN) (t := fN) (n := m.s.toNat) (fun a ha => (hm.states a ha).symm) hs hd
    exact thR_full hm _ d s (by omega) hd.1
end Go.Proofs.Ytpbflkbelhlogaa
/- Machines: Trim, plain: the states that are of use, and their numbers. -/
namespace Go.Proofs.Ytpbflkbelhlogaa
open Go.RowKit Go.Shelf
set_option linter.unusedVariables false
def useB (m : Mac) (s : Nat) : Bool := getB (thL m) s && decide (0 ≤ at0 (farL m) s)
def cntU (m : Mac) (k : Nat) : Nat := ((List.range k).filter (useB m)).length
def numN (m : Mac) (s : Nat) : Int := if useB m s then (cntU m s : Int) else -1
def numsL (m : Mac) (k : Nat) : List Int := (List.range k).map (numN m) ++ List.replicate (m.s.toNat - k) 0
def renum (m : Mac) (a : Arc) : Arc := ⟨numN m (fN a), numN m (tN a), a.i, a.o⟩
def trimA (m : Mac) : List Arc := (m.a.filter fun a => decide (0 ≤ numN m (fN a)) && decide (0 ≤ numN m (tN a))).map (renum m)
def trimE (m : Mac) : List Int := (m.e.filter fun s => decide (0 ≤ numN m s.toNat)).map fun s => numN m s.toNat
def trimM (m : Mac) : Mac := if validM m = 0 then (if at0 (farL m) 0 < 0 then ⟨1, [], []⟩ else ⟨cntU m m.s.toNat, arcsU (trimA m), trimE m⟩) else ⟨0, [], []⟩
theorem cntU_next (m : Mac) (k : Nat) : cntU m (k + 1) = cntU m k + if useB m k then 1 else 0 := by
  unfold cntU
  rw [List.range_succ, List.filter_append, List.length_append]
  congr 1
  cases h : useB m k <;> simp [h]
theorem cntU_le (m : Mac) : ∀ k, cntU m k ≤ k
  | 0 => Nat.le_refl _
  | k + 1 => by rw [cntU_next]; have := cntU_le m k; split <;> omega
theorem cntU_mono (m : Mac) {j k : Nat} (h : j ≤ k) : cntU m j ≤ cntU m k := by
  induction k with
  | zero => obtain rfl : j = 0 := by omega
            exact Nat.le_refl _
  | succ k ih =>
    by_cases e : j = k + 1
    · subst e; exact Nat.le_refl _
    · have := ih (by omega); rw [cntU_next]; omega
theorem cntU_lt (m : Mac) {j k : Nat} (h : j < k) (hu : useB m j = true) : cntU m j < cntU m k := by
  have h1 := cntU_mono m (show j + 1 ≤ k by omega)
  rw [cntU_next, if_pos hu] at h1; omega
theorem numN_ge (m : Mac) (s : Nat) : -1 ≤ numN m s := by unfold numN; split <;> omega
theorem numN_pos {m : Mac} {s : Nat} : 0 ≤ numN m s ↔ useB m s = true := by
  unfold numN
  cases h : useB m s
  · simp
  · simp
theorem numN_lt {m : Mac} {s k : Nat} (h : s < k) : numN m s < (cntU m k : Int) ∨ useB m s = false := by
  cases hu : useB m s
  · exact .inr rfl
  · left
    have := cntU_lt m h hu
    rw [numN, if_pos hu]; omega
theorem numN_inj {m : Mac} {s t : Nat} (hs : useB m s = true) (ht : useB m t = true) (h : numN m s = numN m t) : s = t := by
  rw [numN, numN, if_pos hs, if_pos ht] at h
  rcases Nat.lt_trichotomy s t with h1 | h1 | h1
  · have := cntU_lt m h1 hs; omega
  · exact h1
  · have := cntU_lt m h1 ht; omega
theorem numN_mono {m : Mac} {s t : Nat} (hs : useB m s = true) (ht : useB m t = true) (h : s < t) : numN m s < numN m t := by
  rw [numN, numN, if_pos hs, if_pos ht]
  have := cntU_lt m h hs; omega
/-- of use: reached from 0, and an end is reached from it -/
theorem useB_iff {m : Mac} (hm : MacOk m) {s : Nat} (hs : s < m.s.toNat) : useB m s = true ↔ FrmP m.a s ∧ ∃ k, Rch fN tN m.a (endP m) k s := by
  unfold useB
  rw [Bool.and_eq_true, thL_iff hm hs, decide_eq_true_eq]
  refine and_congr_right fun _ => ?_
  rcases (far_is hm).2 s hs with ⟨h1, h2⟩ | ⟨d, h1, h2⟩
  · rw [h1]
    exact ⟨fun h => by omega, fun ⟨k, hk⟩ => absurd hk (h2 k)⟩
  · rw [h1]
    exact ⟨fun _ => ⟨d, h2.1⟩, fun _ => by omega⟩
theorem useB_zero {m : Mac} (hm : MacOk m) : useB m 0 = decide (0 ≤ at0 (farL m) 0) := by
  have h : getB (thL m) (0 : Nat) = true := (thL_iff hm (by have := hm.s1; omega)).2 ⟨0, rfl⟩
  rw [useB, h]; rfl
theorem numN_zero {m : Mac} (h : useB m 0 = true) : numN m 0 = 0 := by rw [numN, if_pos h]; rfl
theorem numsL_len (m : Mac) {k : Nat} (hk : k ≤ m.s.toNat) : (numsL m k).length = m.s.toNat := by unfold numsL; simp; omega
theorem numsL_zero (m : Mac) : numsL m 0 = List.replicate m.s.toNat 0 := by simp [numsL]
theorem numsL_next (m : Mac) {k : Nat} (hk : k < m.s.toNat) : (numsL m k).set k (numN m k) = numsL m (k + 1) := by
  unfold numsL
  rw [List.set_append_right _ _ (by simp), List.length_map, List.length_range, Nat.sub_self, List.range_succ, List.map_append, List.append_assoc]
  congr 1
  rw [show m.s.toNat - k = (m.s.toNat - (k + 1)) + 1 by omega, List.replicate_succ, List.set_cons_zero]
  rfl
theorem numsL_at (m : Mac) {s : Nat} (hs : s < m.s.toNat) : at0 (numsL m m.s.toNat) s = numN m s := by
  unfold at0 numsL
  rw [Nat.sub_self, List.replicate_zero, List.append_nil, List.getElem?_map, List.getElem?_range hs]; rfl
end Go.Proofs.Ytpbflkbelhlogaa
/- Machines: Trim, plain laws: the trimmed machine is one, has the same images, and is trimmed. -/
namespace Go.Proofs.Ytpbflkbelhlogaa
open Go.RowKit Go.Shelf
set_option linter.unusedVariables false
/-- the trimmed machine, when an end is reached -/
def trimC (m : Mac) : Mac := ⟨cntU m m.s.toNat, arcsU (trimA m), trimE m⟩
theorem mem_trimC {m : Mac} {a : Arc} : a ∈ (trimC m).a ↔ ∃ b ∈ m.a, useB m (fN b) = true ∧ useB m (tN b) = true ∧ a = renum m b := by
  show a ∈ arcsU (trimA m) ↔ _
  rw [arcsU_mem, trimA, List.mem_map]
  constructor
  · rintro ⟨b, hb, rfl⟩
    rw [List.mem_filter, Bool.and_eq_true, decide_eq_true_eq, decide_eq_true_eq] at hb
    exact ⟨b, hb.1, numN_pos.1 hb.2.1, numN_pos.1 hb.2.2, rfl⟩
  · rintro ⟨b, hb, h1, h2, rfl⟩
    refine ⟨b, ?_, rfl⟩
    rw [List.mem_filter, Bool.and_eq_true, decide_eq_true_eq, decide_eq_true_eq]
    exact ⟨hb, numN_pos.2 h1, numN_pos.2 h2⟩
theorem mem_trimE {m : Mac} {x : Int} : x ∈ (trimC m).e ↔ ∃ s ∈ m.e, useB m s.toNat = true ∧ x = numN m s.toNat := by
  show x ∈ trimE m ↔ _
  rw [trimE, List.mem_map]
  constructor
  · rintro ⟨s, hs, rfl⟩
    rw [List.mem_filter, decide_eq_true_eq] at hs
    exact ⟨s, hs.1, numN_pos.1 hs.2, rfl⟩
  · rintro ⟨s, hs, h1, rfl⟩
    refine ⟨s, ?_, rfl⟩
    rw [List.mem_filter, decide_eq_true_eq]
    exact ⟨hs, numN_pos.2 h1⟩
theorem numN_in {m : Mac} {s n : Nat} (h : useB m s = true) (hs : s < n) : 0 ≤ numN m s ∧ numN m s < (cntU m n : Int) := by
  refine ⟨numN_pos.2 h, ?_⟩
  rcases numN_lt (m := m) hs with h1 | h1
  · exact h1
  · rw [h] at h1; cases h1
theorem arcsU_nodup (l : List Arc) : (arcsU l).Nodup := List.Pairwise.imp (fun {a b : Arc} (hab : LtA a b) (he : a = b) => by subst he; exact LtA.irrefl _ hab) (arcsU_asc l)
theorem arcsU_le (l : List Arc) : (arcsU l).length ≤ l.length := nodup_sub_len (arcsU_nodup l) fun x hx => (arcsU_mem l x).1 hx
theorem trimA_len (m : Mac) : (trimA m).length ≤ m.a.length := by rw [trimA, List.length_map]; exact List.length_filter_le _ _
theorem trimC_valid {m : Mac} (hm : MacOk m) (h0 : useB m 0 = true) : validM (trimC m) = 0 := by
  have h1 := hm.s1
  have h2 := hm.s2
  have hle := cntU_le m m.s.toNat
  have hpos := cntU_lt m (show 0 < m.s.toNat by omega) h0
  have g1 : inB (trimC m).s 1 9 = true := by
    show inB (cntU m m.s.toNat : Int) 1 9 = true
    simp only [inB, Bool.and_eq_true, decide_eq_true_eq]
    omega
  have g2 : ¬ 60 < (trimC m).a.length := by
    have : (trimC m).a.length ≤ (trimA m).length := arcsU_le _
    have := trimA_len m
    have := hm.a
    omega
  have g3 : allB (trimC m).a.length (fun k => arcOk (trimC m).s (arcA (trimC m).a k)) = true := allB_true fun j hj => by
    have hx : arcA (trimC m).a j ∈ (trimC m).a := by unfold arcA; rw [List.getElem?_eq_getElem hj]; exact List.getElem_mem hj
    obtain ⟨b, hb, hf, ht, he⟩ := mem_trimC.1 hx
    rw [he]
    have hbm := hm.mem hb
    have hst := hm.states b hb
    refine arcOk_of ⟨numN_in hf hst.1, numN_in ht hst.2, hbm.2.2.1, hbm.2.2.2⟩
  have g4 : setB (trimC m).e (trimC m).s = true := setB_of (fun x hx => by
    obtain ⟨s, hs, hu, rfl⟩ := mem_trimE.1 hx
    have := setB_in hm.e s hs
    exact numN_in hu (by omega)) (by
    show (trimE m).Pairwise (· < ·)
    rw [trimE, List.pairwise_map, List.pairwise_filter]
    refine List.Pairwise.imp_of_mem (fun {a b} ha hb hab h3 h4 => ?_) (setB_pair hm.e)
    rw [decide_eq_true_eq] at h3 h4
    have := setB_in hm.e a ha
    have := setB_in hm.e b hb
    exact numN_mono (numN_pos.1 h3) (numN_pos.1 h4) (by omega))
  have g5 : onceB (trimC m).a = true := once_nodup.2 (arcsU_nodup _)
  unfold validM
  rw [if_pos g1, if_neg g2, if_pos g3, if_pos g4, if_pos g5]
/-- from there an end is reached -/
abbrev ToEnd (m : Mac) (s : Nat) : Prop := ∃ k, Rch fN tN m.a (endP m) k s
theorem ToEnd.step {m : Mac} {a : Arc} (ha : a ∈ m.a) (h : ToEnd m (tN a)) : ToEnd m (fN a) := by
  obtain ⟨k, hk⟩ := h
  exact ⟨k + 1, a, ha, rfl, hk⟩
theorem canP_toEnd {m : Mac} (hm : MacOk m) : ∀ (u : List Int) (s : Nat), canP m u s → ToEnd m s
  | [], s, h => ⟨0, h⟩
  | x :: u, s, h => by
    obtain ⟨a, ha, hf, _, hr⟩ := h
    have hb := hm.mem ha
    have h1 : fN a = s := by unfold fN; omega
    have h2 : ((tN a : Nat) : Int) = a.t := by unfold tN; omega
    rw [← h1]
    exact ToEnd.step ha (canP_toEnd hm u (tN a) (by rw [h2]; exact hr))
theorem use_of {m : Mac} (hm : MacOk m) {s : Nat} (hs : s < m.s.toNat) (h1 : FrmP m.a s) (h2 : ToEnd m s) : useB m s = true := (useB_iff hm hs).2 ⟨h1, h2⟩
/-- what a useful state reads -/
theorem trim_can {m : Mac} (hm : MacOk m) : ∀ (u : List Int) (s : Nat), s < m.s.toNat → useB m s = true → (canP (trimC m) u (numN m s) ↔ canP m u s)
  | [], s, hs, hu => by
    show numN m s ∈ (trimC m).e ↔ (s : Int) ∈ m.e
    rw [mem_trimE]
    constructor
    · rintro ⟨t, ht, htu, he⟩
      have h1 := numN_inj hu htu he
      have h2 := setB_in hm.e t ht
      have : (s : Int) = t := by omega
      rw [this]; exact ht
    · intro h
      exact ⟨s, h, by simpa using hu, by simp⟩
  | x :: u, s, hs, hu => by
    constructor
    · rintro ⟨a, ha, hf, hi, hr⟩
      obtain ⟨b, hb, h1, h2, rfl⟩ := mem_trimC.1 ha
      have hbm := hm.mem hb
      have hst := hm.states b hb
      have h3 : fN b = s := numN_inj h1 hu hf
      have h4 := (trim_can hm u (tN b) hst.2 h2).1 hr
      refine ⟨b, hb, by unfold fN at h3; omega, hi, ?_⟩
      have : ((tN b : Nat) : Int) = b.t := by unfold tN; omega
      rwa [this] at h4
    · rintro ⟨b, hb, hf, hi, hr⟩
      have hbm := hm.mem hb
      have hst := hm.states b hb
      have h3 : fN b = s := by unfold fN; omega
      have h4 : ((tN b : Nat) : Int) = b.t := by unfold tN; omega
      have hr' : canP m u (tN b : Nat) := by rw [h4]; exact hr
      have h2 : useB m (tN b) = true := use_of hm hst.2 (FrmP.step hb (by rw [h3]; exact ((useB_iff hm hs).1 hu).1)) (canP_toEnd hm u _ hr')
      refine ⟨renum m b, mem_trimC.2 ⟨b, hb, by rw [h3]; exact hu, h2, rfl⟩, by show numN m (fN b) = _; rw [h3], hi, ?_⟩
      exact (trim_can hm u (tN b) hst.2 h2).2 hr'
theorem trim_getB {m : Mac} (hm : MacOk m) (h0 : useB m 0 = true) (u : List Int) {s : Nat} (hs : s < m.s.toNat) (hu : useB m s = true) :
    getB (canL (trimC m).s.toNat (trimC m) u) (numN m s) = getB (canL m.s.toNat m u) s := by
  have hc := validM_mac (trimC_valid hm h0)
  rw [Bool.eq_iff_iff, getB_can hc.in_ u (numN_pos.2 hu), getB_can hm.in_ u (by omega)]
  exact trim_can hm u s hs hu
/-! ## the same images -/
inductive F2 {α β : Type} (R : α → β → Prop) : List α → List β → Prop
  | nil : F2 R [] []
  | cons {x y l k} : R x y → F2 R l k → F2 R (x :: l) (y :: k)
theorem F2.append {α β : Type} {R : α → β → Prop} {a : List α} {b : List β} {c : List α} {d : List β} (h : F2 R a b) (k : F2 R c d) : F2 R (a ++ c) (b ++ d) := by
  induction h with
  | nil => exact k
  | cons h _ ih => exact F2.cons h ih
theorem F2.flat {α β γ δ : Type} {R : α → β → Prop} {S : γ → δ → Prop} {f : α → List γ} {g : β → List δ} (hf : ∀ x y, R x y → F2 S (f x) (g y)) {a : List α} {b : List β} (h : F2 R a b) : F2 S (a.flatMap f) (b.flatMap g) := by
  induction h with
  | nil => exact F2.nil
  | cons h _ ih => rw [List.flatMap_cons, List.flatMap_cons]; exact F2.append (hf _ _ h) ih
theorem F2.len {α β : Type} {R : α → β → Prop} {a : List α} {b : List β} (h : F2 R a b) : a.length = b.length := by
  induction h with
  | nil => rfl
  | cons _ _ ih => simp [ih]
theorem F2.flat_same {α γ δ : Type} {S : γ → δ → Prop} {f : α → List γ} {g : α → List δ} : ∀ l : List α, (∀ x ∈ l, F2 S (f x) (g x)) → F2 S (l.flatMap f) (l.flatMap g)
  | [], _ => F2.nil
  | x :: l, h => by
    rw [List.flatMap_cons, List.flatMap_cons]
    exact F2.append (h x (by simp)) (F2.flat_same l fun y hy => h y (by simp [hy]))
/-- a head of the trimmed machine, and one of the machine -/
structure HdT (m : Mac) (y x : Hd) : Prop where
  w : y.1 = x.1
  b : ∀ s : Nat, s < m.s.toNat → useB m s = true → getB y.2 (numN m s) = getB x.2 s
  from_ : ∀ s : Nat, getB x.2 s = true → FrmP m.a s
theorem trim_goC {m : Mac} (hm : MacOk m) (h0 : useB m 0 = true) {u : List Int} {s o : Int} {y x : Hd} (h : HdT m y x) {a : Arc} :
    (a ∈ (trimC m).a ∧ goC s o y.2 (canL (trimC m).s.toNat (trimC m) u) a = true) ↔ ∃ b ∈ m.a, useB m (fN b) = true ∧ useB m (tN b) = true ∧ a = renum m b ∧ goC s o x.2 (canL m.s.toNat m u) b = true := by
  constructor
  · rintro ⟨ha, hg⟩
    obtain ⟨b, hb, h1, h2, rfl⟩ := mem_trimC.1 ha
    have hbm := hm.mem hb
    have hst := hm.states b hb
    have h4 : ((tN b : Nat) : Int) = b.t := by unfold tN; omega
    have h5 : ((fN b : Nat) : Int) = b.f := by unfold fN; omega
    obtain ⟨g1, g2, g3, g4⟩ := goC_iff.1 hg
    refine ⟨b, hb, h1, h2, rfl, goC_iff.2 ⟨?_, g2, g3, ?_⟩⟩
    · rw [← h5, ← h.b (fN b) hst.1 h1]; exact g1
    · rw [← h4, ← trim_getB hm h0 u (s := tN b) hst.2 h2]; exact g4
  · rintro ⟨b, hb, h1, h2, rfl, hg⟩
    have hbm := hm.mem hb
    have hst := hm.states b hb
    have h4 : ((tN b : Nat) : Int) = b.t := by unfold tN; omega
    have h5 : ((fN b : Nat) : Int) = b.f := by unfold fN; omega
    obtain ⟨g1, g2, g3, g4⟩ := goC_iff.1 hg
    refine ⟨mem_trimC.2 ⟨b, hb, h1, h2, rfl⟩, goC_iff.2 ⟨?_, g2, g3, ?_⟩⟩
    · show getB y.2 (numN m (fN b)) = true
      rw [h.b (fN b) hst.1 h1, h5]; exact g1
    · show getB _ (numN m (tN b)) = true
      rw [trim_getB hm h0 u (s := tN b) hst.2 h2, h4]; exact g4
theorem go_use {m : Mac} (hm : MacOk m) {u : List Int} {s o : Int} {y x : Hd} (h : HdT m y x) {b : Arc} (hb : b ∈ m.a) (hg : goC s o x.2 (canL m.s.toNat m u) b = true) : useB m (fN b) = true ∧ useB m (tN b) = true := by
  have hbm := hm.mem hb
  have hst := hm.states b hb
  have h4 : ((tN b : Nat) : Int) = b.t := by unfold tN; omega
  have h5 : ((fN b : Nat) : Int) = b.f := by unfold fN; omega
  obtain ⟨g1, g2, g3, g4⟩ := goC_iff.1 hg
  have k1 : FrmP m.a (fN b) := h.from_ _ (by rw [h5]; exact g1)
  have k2 : ToEnd m (tN b) := canP_toEnd hm u _ (by rw [h4]; exact (getB_can hm.in_ u hbm.2.1.1).1 g4)
  exact ⟨use_of hm hst.1 k1 (ToEnd.step hb k2), use_of hm hst.2 (FrmP.step hb k1) k2⟩
theorem trim_next {m : Mac} (hm : MacOk m) (h0 : useB m 0 = true) {u : List Int} {s : Int} {hs' hs : List Hd} (h : F2 (HdT m) hs' hs) :
    F2 (HdT m) (nextL (trimC m).s.toNat (trimC m).a s (canL (trimC m).s.toNat (trimC m) u) hs') (nextL m.s.toNat m.a s (canL m.s.toNat m u) hs) := by
  have hc := validM_mac (trimC_valid hm h0)
  refine F2.flat (fun y x hyx => F2.flat_same _ fun o _ => ?_) h
  have hany : (trimC m).a.any (goC s o y.2 (canL (trimC m).s.toNat (trimC m) u)) = m.a.any (goC s o x.2 (canL m.s.toNat m u)) := by
    rw [Bool.eq_iff_iff, List.any_eq_true, List.any_eq_true]
    constructor
    · rintro ⟨a, ha, hg⟩
      obtain ⟨b, hb, _, _, _, hg2⟩ := (trim_goC hm h0 hyx).1 ⟨ha, hg⟩
      exact ⟨b, hb, hg2⟩
    · rintro ⟨b, hb, hg⟩
      obtain ⟨k1, k2⟩ := go_use hm hyx hb hg
      obtain ⟨ha, hg2⟩ := (trim_goC hm h0 hyx).2 ⟨b, hb, k1, k2, rfl, hg⟩
      exact ⟨_, ha, hg2⟩
  unfold nextO
  rw [hany]
  split
  · refine F2.cons ⟨?_, fun t ht hu => ?_, fun t ht => ?_⟩ F2.nil
    · show y.1 ++ _ = x.1 ++ _
      rw [hyx.w]
    · show getB (onsB _ _ _ _) (numN m t) = getB (onsB _ _ _ _) t
      rw [Bool.eq_iff_iff, getB_ons _ _ (fun a ha => (hc.in_.arcs a ha).2) (numN_pos.2 hu), getB_ons _ _ (fun a ha => (hm.in_.arcs a ha).2) (by omega)]
      constructor
      · rintro ⟨a, ha, hg, hat⟩
        obtain ⟨b, hb, k1, k2, rfl, hg2⟩ := (trim_goC hm h0 hyx).1 ⟨ha, hg⟩
        refine ⟨b, hb, hg2, ?_⟩
        have hbm := hm.mem hb
        have := numN_inj k2 hu hat
        unfold tN at this; omega
      · rintro ⟨b, hb, hg, hbt⟩
        obtain ⟨k1, k2⟩ := go_use hm hyx hb hg
        obtain ⟨ha, hg2⟩ := (trim_goC hm h0 hyx).2 ⟨b, hb, k1, k2, rfl, hg⟩
        refine ⟨_, ha, hg2, ?_⟩
        show numN m (tN b) = numN m t
        congr 1
        unfold tN; omega
    · obtain ⟨b, hb, hg, hbt⟩ := (getB_ons _ _ (fun a ha => (hm.in_.arcs a ha).2) (by omega)).1 ht
      have hbm := hm.mem hb
      have e : tN b = t := by unfold tN; omega
      have h5 : ((fN b : Nat) : Int) = b.f := by unfold fN; omega
      rw [← e]
      exact FrmP.step hb (hyx.from_ _ (by rw [h5]; exact (goC_iff.1 hg).1))
  · exact F2.nil
def O2 {α β : Type} (R : α → β → Prop) : Option α → Option β → Prop
  | none, none => True
  | some a, some b => R a b
  | _, _ => False
theorem trim_go {m : Mac} (hm : MacOk m) (h0 : useB m 0 = true) : ∀ (u : List Int) (hs' hs : List Hd), F2 (HdT m) hs' hs → O2 (F2 (HdT m)) (imgGo (trimC m).s.toNat (trimC m) u hs') (imgGo m.s.toNat m u hs)
  | [], _, _, h => h
  | s :: u, hs', hs, h => by
    have hn := trim_next hm h0 (u := u) (s := s) h
    rw [imgGo, imgGo, hn.len]
    split
    · trivial
    · exact trim_go hm h0 u _ _ hn
theorem F2.words {m : Mac} {a b : List Hd} (h : F2 (HdT m) a b) : a.map Prod.fst = b.map Prod.fst := by
  induction h with
  | nil => rfl
  | cons h _ ih => rw [List.map_cons, List.map_cons, h.w, ih]
theorem trim_images {m : Mac} (hm : MacOk m) (h0 : useB m 0 = true) (u : List Int) : imagesO (trimC m).s.toNat (trimC m) u = imagesO m.s.toNat m u := by
  have h1 := hm.s1
  have hc := validM_mac (trimC_valid hm h0)
  have h2 := hc.s1
  have hz := numN_zero h0
  have hg : getB (canL (trimC m).s.toNat (trimC m) u) 0 = getB (canL m.s.toNat m u) 0 := by
    have := trim_getB hm h0 u (show 0 < m.s.toNat by omega) h0
    rwa [hz] at this
  unfold imagesO
  rw [hg]
  split
  · have h := trim_go hm h0 u [([], beginB (trimC m).s.toNat)] [([], beginB m.s.toNat)] (F2.cons ⟨rfl, fun s hs hu => ?_, fun s hs => ?_⟩ F2.nil)
    · generalize imgGo (trimC m).s.toNat (trimC m) u _ = A at h ⊢
      generalize imgGo m.s.toNat m u _ = B at h ⊢
      cases A <;> cases B
      · rfl
      · exact h.elim
      · exact h.elim
      · exact congrArg some (F2.words h)
    · rw [Bool.eq_iff_iff, getB_begin (by omega) (numN_pos.2 hu), getB_begin (by omega) (by omega)]
      constructor
      · intro h
        have := numN_inj hu h0 (by rw [h, hz])
        omega
      · intro h
        obtain rfl : s = 0 := by omega
        exact hz
    · have := (getB_begin (by omega) (by omega)).1 hs
      exact ⟨0, by show s = 0; omega⟩
  · rfl
/-! ## a trimmed machine is trimmed -/
theorem cntU_onto (m : Mac) : ∀ (n t : Nat), t < cntU m n → ∃ s, s < n ∧ useB m s = true ∧ numN m s = t
  | 0, t, h => absurd h (by show ¬ t < 0; omega)
  | n + 1, t, h => by
    rw [cntU_next] at h
    by_cases e : t < cntU m n
    · obtain ⟨s, h1, h2, h3⟩ := cntU_onto m n t e
      exact ⟨s, by omega, h2, h3⟩
    · split at h
      · rename_i hu
        exact ⟨n, by omega, hu, by rw [numN, if_pos hu]; omega⟩
      · omega
theorem num_ren {m : Mac} {b : Arc} (hu : useB m (fN b) = true) : ((fN (renum m b) : Nat) : Int) = numN m (fN b) := by
  have := numN_pos.2 hu
  show (((numN m (fN b)).toNat : Nat) : Int) = _
  omega
theorem num_ren2 {m : Mac} {b : Arc} (hu : useB m (tN b) = true) : ((tN (renum m b) : Nat) : Int) = numN m (tN b) := by
  have := numN_pos.2 hu
  show (((numN m (tN b)).toNat : Nat) : Int) = _
  omega
theorem trim_from {m : Mac} (hm : MacOk m) (h0 : useB m 0 = true) : ∀ (k s : Nat), s < m.s.toNat → useB m s = true → Frm m.a k s → Frm (trimC m).a k (numN m s).toNat
  | 0, s, hs, hu, h => by
    have e : s = 0 := h
    subst e
    show (numN m 0).toNat = 0
    rw [numN_zero h0]; rfl
  | k + 1, s, hs, hu, h => by
    obtain ⟨b, hb, rfl, hr⟩ := h
    have hst := hm.states b hb
    have h1 : useB m (fN b) = true := use_of hm hst.1 ⟨k, hr⟩ (ToEnd.step hb ((useB_iff hm hs).1 hu).2)
    refine ⟨renum m b, mem_trimC.2 ⟨b, hb, h1, hu, rfl⟩, rfl, ?_⟩
    exact trim_from hm h0 k (fN b) hst.1 h1 hr
theorem trim_to {m : Mac} (hm : MacOk m) : ∀ (k s : Nat), s < m.s.toNat → useB m s = true → Rch fN tN m.a (endP m) k s → Rch fN tN (trimC m).a (endP (trimC m)) k (numN m s).toNat
  | 0, s, hs, hu, h => by
    have h' : (s : Int) ∈ m.e := h
    show ((numN m s).toNat : Int) ∈ (trimC m).e
    have := numN_pos.2 hu
    rw [Int.toNat_of_nonneg this]
    exact mem_trimE.2 ⟨s, h', by simpa using hu, by simp⟩
  | k + 1, s, hs, hu, h => by
    obtain ⟨b, hb, rfl, hr⟩ := h
    have hst := hm.states b hb
    have h1 : useB m (tN b) = true := use_of hm hst.2 (FrmP.step hb ((useB_iff hm hs).1 hu).1) ⟨k, hr⟩
    refine ⟨renum m b, mem_trimC.2 ⟨b, hb, hu, h1, rfl⟩, rfl, ?_⟩
    exact trim_to hm k (tN b) hst.2 h1 hr
theorem trim_use {m : Mac} (hm : MacOk m) (h0 : useB m 0 = true) {t : Nat} (ht : t < (trimC m).s.toNat) : useB (trimC m) t = true := by
  obtain ⟨s, h1, h2, h3⟩ := cntU_onto m m.s.toNat t (by simpa [trimC] using ht)
  have e : (numN m s).toNat = t := by omega
  have hc := validM_mac (trimC_valid hm h0)
  obtain ⟨⟨k, hk⟩, ⟨j, hj⟩⟩ := (useB_iff hm h1).1 h2
  refine use_of hc ht ?_ ?_
  · rw [← e]; exact ⟨k, trim_from hm h0 k s h1 h2 hk⟩
  · rw [← e]; exact ⟨j, trim_to hm j s h1 h2 hj⟩
theorem cntU_all (m : Mac) : ∀ n, (∀ s, s < n → useB m s = true) → cntU m n = n
  | 0, _ => rfl
  | n + 1, h => by rw [cntU_next, cntU_all m n fun s hs => h s (by omega), if_pos (h n (by omega))]
theorem numN_all {m : Mac} {n : Nat} (h : ∀ s, s < n → useB m s = true) {s : Nat} (hs : s < n) : numN m s = s := by
  rw [numN, if_pos (h s hs), cntU_all m s fun t ht => h t (by omega)]
theorem trimC_idem {c : Mac} (hc : MacOk c) (hall : ∀ s, s < c.s.toNat → useB c s = true) (hasc : c.a.Pairwise LtA) : trimC c = c := by
  have h1 := hc.s1
  have e1 : ((cntU c c.s.toNat : Nat) : Int) = c.s := by rw [cntU_all c _ hall]; omega
  have e2 : trimA c = c.a := by
    unfold trimA
    rw [List.filter_eq_self.2 fun a ha => ?_]
    · refine (List.map_congr_left fun a ha => ?_).trans (List.map_id _)
      have hst := hc.states a ha
      have hb := hc.mem ha
      unfold renum
      rw [numN_all (s := fN a) hall hst.1, numN_all (s := tN a) hall hst.2]
      unfold fN tN
      rw [Int.toNat_of_nonneg hb.1.1, Int.toNat_of_nonneg hb.2.1.1]; rfl
    · have hst := hc.states a ha
      rw [Bool.and_eq_true, decide_eq_true_eq, decide_eq_true_eq]
      exact ⟨numN_pos.2 (hall _ hst.1), numN_pos.2 (hall _ hst.2)⟩
  have e3 : trimE c = c.e := by
    unfold trimE
    rw [List.filter_eq_self.2 fun a ha => ?_]
    · refine (List.map_congr_left fun a ha => ?_).trans (List.map_id _)
      have hb := hc.ends a ha
      rw [numN_all hall (by omega), Int.toNat_of_nonneg hb.1]; rfl
    · have hb := hc.ends a ha
      rw [decide_eq_true_eq]
      exact numN_pos.2 (hall _ (by omega))
  have e4 : arcsU c.a = c.a := asc_uniq (arcsU_asc _) hasc fun x => arcsU_mem _ x
  unfold trimC
  rw [e1, e2, e3, e4]
theorem trimM_good {m : Mac} (h : validM m = 0) (h0 : useB m 0 = true) : trimM m = trimC m := by
  have h2 := useB_zero (validM_mac h)
  rw [h0] at h2
  have := of_decide_eq_true h2.symm
  rw [trimM, if_pos h, if_neg (by omega)]; rfl
theorem trimM_none {m : Mac} (h : validM m = 0) (h0 : ¬ useB m 0 = true) : trimM m = ⟨1, [], []⟩ := by
  have h2 := useB_zero (validM_mac h)
  rw [Bool.not_eq_true] at h0
  rw [h0] at h2
  have := of_decide_eq_false h2.symm
  rw [trimM, if_pos h, if_pos (by omega)]
theorem none_valid : validM ⟨1, [], []⟩ = 0 := by decide +kernel
theorem none_can : ∀ u, getB (canL 1 ⟨1, [], []⟩ u) 0 = false
  | [] => rfl
  | s :: u => rfl
theorem trimM_valid {m : Mac} (h : validM m = 0) : validM (trimM m) = 0 := by
  by_cases h0 : useB m 0 = true
  · rw [trimM_good h h0]; exact trimC_valid (validM_mac h) h0
  · rw [trimM_none h h0]; exact none_valid
theorem trimM_images {m : Mac} (h : validM m = 0) (u : List Int) : imagesO (trimM m).s.toNat (trimM m) u = imagesO m.s.toNat m u := by
  have hm := validM_mac h
  have h1 := hm.s1
  by_cases h0 : useB m 0 = true
  · rw [trimM_good h h0]; exact trim_images hm h0 u
  · rw [trimM_none h h0]
    have e1 : getB (canL m.s.toNat m u) 0 = false := by
      rw [← Bool.not_eq_true]
      intro hg
      exact h0 (use_of hm (by omega) ⟨0, rfl⟩ (canP_toEnd hm u 0 ((getB_can hm.in_ u (by omega)).1 hg)))
    unfold imagesO
    rw [e1, show ((⟨1, [], []⟩ : Mac).s.toNat) = 1 from rfl, none_can]
    rfl
theorem trimM_idem {m : Mac} (h : validM m = 0) : trimM (trimM m) = trimM m := by
  have hm := validM_mac h
  by_cases h0 : useB m 0 = true
  · have hc := trimC_valid hm h0
    have hall : ∀ s, s < (trimC m).s.toNat → useB (trimC m) s = true := fun s hs => trim_use hm h0 hs
    rw [trimM_good h h0, trimM_good hc (hall 0 (by have := (validM_mac hc).s1; omega))]
    exact trimC_idem (validM_mac hc) hall (arcsU_asc _)
  · rw [trimM_none h h0]
    decide +kernel
theorem trims_same {m : Mac} (h : validM m = 0) (u : List Int) : imagesL (trimM m) u = imagesL m u ∧ imagesK (trimM m) u = imagesK m u := by
  have hc : checkK (trimM m) [u] = checkK m [u] := by rw [checkK, checkK, if_pos (trimM_valid h), if_pos h]
  unfold imagesL imagesK
  rw [hc, trimM_images h u]
  exact ⟨rfl, rfl⟩
end Go.Proofs.Ytpbflkbelhlogaa
/- Machines: Trim, plain: what its loops hold. -/
namespace Go.Proofs.Ytpbflkbelhlogaa
open Go.RowKit Go.Shelf
set_option linter.unusedVariables false
def thF (ar : List Arc) (l : List Bool) (k : Nat) : List Bool := (ar.take k).foldl tS l
theorem thF_next {ar : List Arc} {k : Nat} (h : k < ar.length) (l : List Bool) : thF ar l (k + 1) = tS (thF ar l k) (arcA ar k) := by
  unfold thF
  rw [take_next h ⟨0, 0, 0, 0⟩, List.foldl_append]; rfl
theorem thF_len (ar : List Arc) (l : List Bool) (k : Nat) : (thF ar l k).length = l.length := tSF_len _ _
theorem thF_all (ar : List Arc) (l : List Bool) : thF ar l ar.length = ar.foldl tS l := by unfold thF; rw [List.take_length]
theorem thR_next (ar : List Arc) (l : List Bool) (r : Nat) : thR ar l (r + 1) = thF ar (thR ar l r) ar.length := by rw [thF_all, thR]
theorem tS_or {l : List Bool} {a : Arc} (h : a.t.toNat < l.length) : l.set a.t.toNat (getB l a.t || getB l a.f) = tS l a := by
  unfold tS
  by_cases hf : getB l a.f = true
  · rw [if_pos hf, hf, Bool.or_true]
  · rw [if_neg hf]
    rw [Bool.not_eq_true] at hf
    rw [hf, Bool.or_false]
    unfold getB
    rw [List.getElem?_eq_getElem h, Option.getD_some, List.set_getElem_self]
theorem tS_yes {l : List Bool} {a : Arc} (h : getB l a.f = true) : tS l a = l.set a.t.toNat true := by unfold tS; rw [if_pos h]
theorem tS_no {l : List Bool} {a : Arc} (h : getB l a.f = false) : tS l a = l := by unfold tS; rw [h]; rfl
def tAT (m : Mac) (k : Nat) : List Arc := ((m.a.take k).filter fun a => decide (0 ≤ numN m (fN a)) && decide (0 ≤ numN m (tN a))).map (renum m)
def tET (m : Mac) (k : Nat) : List Int := ((m.e.take k).filter fun s => decide (0 ≤ numN m s.toNat)).map fun s => numN m s.toNat
theorem tAT_next {m : Mac} {k : Nat} (h : k < m.a.length) : tAT m (k + 1) = if 0 ≤ numN m (fN (arcA m.a k)) ∧ 0 ≤ numN m (tN (arcA m.a k)) then tAT m k ++ [renum m (arcA m.a k)] else tAT m k := by
  unfold tAT
  rw [take_next h ⟨0, 0, 0, 0⟩, List.filter_append, List.map_append]
  unfold arcA
  by_cases h1 : 0 ≤ numN m (fN (m.a[k]?.getD ⟨0, 0, 0, 0⟩)) <;> by_cases h2 : 0 ≤ numN m (tN (m.a[k]?.getD ⟨0, 0, 0, 0⟩)) <;> simp [h1, h2]
theorem tET_next {m : Mac} {k : Nat} (h : k < m.e.length) : tET m (k + 1) = if 0 ≤ numN m (m.e[k]?.getD 0).toNat then tET m k ++ [numN m (m.e[k]?.getD 0).toNat] else tET m k := by
  unfold tET
  rw [take_next h 0, List.filter_append, List.map_append]
  by_cases h1 : 0 ≤ numN m (m.e[k]?.getD 0).toNat <;> simp [h1]
theorem tAT_all (m : Mac) : tAT m m.a.length = trimA m := by unfold tAT trimA; rw [List.take_length]
theorem tET_all (m : Mac) : tET m m.e.length = trimE m := by unfold tET trimE; rw [List.take_length]
theorem tAT_len (m : Mac) (k : Nat) : (tAT m k).length ≤ m.a.length := by
  unfold tAT
  rw [List.length_map]
  refine Nat.le_trans (List.length_filter_le _ _) ?_
  rw [List.length_take]; omega
theorem tET_len (m : Mac) (k : Nat) : (tET m k).length ≤ m.e.length := by
  unfold tET
  rw [List.length_map]
  refine Nat.le_trans (List.length_filter_le _ _) ?_
  rw [List.length_take]; omega
theorem tAT_put {m : Mac} {k : Nat} (h : k < m.a.length) : arcsU (tAT m (k + 1)) = if 0 ≤ numN m (fN (arcA m.a k)) ∧ 0 ≤ numN m (tN (arcA m.a k)) then putA (arcsU (tAT m k)) (renum m (arcA m.a k)) else arcsU (tAT m k) := by
  rw [tAT_next h]
  split
  · unfold arcsU; rw [List.foldl_append]; rfl
  · rfl
theorem num_bd {m : Mac} {s n : Nat} (hs : s < n) : -1 ≤ numN m s ∧ numN m s < n := by
  have h1 := numN_ge m s
  refine ⟨h1, ?_⟩
  unfold numN
  split
  · have := cntU_le m s; omega
  · omega
theorem nums_use {m : Mac} {k : Nat} (hk : k < m.s.toNat) (hu : useB m k = true) : ((numsL m k).set k (-1)).set k (cntU m k : Int) = numsL m (k + 1) ∧ cntU m (k + 1) = cntU m k + 1 := by
  refine ⟨?_, by rw [cntU_next, if_pos hu]⟩
  rw [List.set_set, ← numsL_next m hk, numN, if_pos hu]
theorem nums_not {m : Mac} {k : Nat} (hk : k < m.s.toNat) (hu : useB m k = false) : (numsL m k).set k (-1) = numsL m (k + 1) ∧ cntU m (k + 1) = cntU m k := by
  refine ⟨?_, by rw [cntU_next, if_neg (by rw [hu]; decide)]; rfl⟩
  rw [← numsL_next m hk, numN, if_neg (by rw [hu]; decide)]
theorem use_parts (m : Mac) (k : Nat) : useB m k = (getB (thL m) k && decide (0 ≤ at0 (farL m) k)) := rfl
theorem trim_made {m : Mac} (hm : MacOk m) (h : validM m = 0) (h0 : ¬ at0 (farL m) 0 < 0) : madeM (cntU m m.s.toNat) (trimA m) (trimE m) = trimM m ∧ madeK (cntU m m.s.toNat) (trimA m) = 0 := by
  have h1 := hm.s1
  have h2 := hm.s2
  have h3 := cntU_le m m.s.toNat
  have h4 := arcsU_le (trimA m)
  have h5 := trimA_len m
  have h6 := hm.a
  have hk : madeK (cntU m m.s.toNat) (trimA m) = 0 := by rw [madeK, if_neg (by omega), if_neg (by omega)]
  exact ⟨by rw [madeM, if_pos hk, trimM, if_pos h, if_neg h0], hk⟩
end Go.Proofs.Ytpbflkbelhlogaa
/- Parts of a slice of ints: s[:i], s[k:]. -/
namespace Go.Proofs.Ytpbflkbelhlogaa
open Go.RowKit Go.Shelf
set_option linter.unusedVariables false
theorem ints_take {w : World} {a : Option Addr} {c n : Nat} {l : List Int} (h : Ints w (.slice a n c) l) {i : Nat} (hi : i ≤ l.length) : Ints w (.slice a i c) (l.take i) := by
  obtain ⟨a', c', hv, hl, hm, H⟩ := h
  injection hv with ha hn hc; subst ha hc
  refine ⟨a, c, by rw [List.length_take, Nat.min_eq_left hi], by rw [List.length_take]; omega, hm, fun j hj => ?_⟩
  rw [List.length_take] at hj
  obtain ⟨b, o, hb, hcell⟩ := H j (by omega)
  exact ⟨b, o, hb, by show w.cell? _ = some (.int .i64 ((l.take i)[j]?.getD 0)); rw [List.getElem?_take, if_pos (by omega)]; exact hcell⟩
theorem ints_drop {w : World} {b o c n : Nat} {l : List Int} (h : Ints w (.slice (some ⟨b, o, none⟩) n c) l) {k : Nat} (hk : k ≤ l.length) {A : Option Addr} (hA : (if c = k then some (⟨b, o, none⟩ : Addr) else some ⟨b, o + k, none⟩) = A) :
    Ints w (.slice A (l.length - k) (c - k)) (l.drop k) := by
  obtain ⟨a', c', hv, hl, hm, H⟩ := h
  injection hv with ha hn hc; subst ha hc
  refine ⟨A, c - k, by rw [List.length_drop], by rw [List.length_drop]; omega, by omega, fun j hj => ?_⟩
  rw [List.length_drop] at hj
  rw [if_neg (by omega)] at hA
  subst hA
  obtain ⟨b', o', hb, hcell⟩ := H (k + j) (by omega)
  injection hb with hb; injection hb with h1 h2 _; subst h1 h2
  exact ⟨b, o + k, rfl, by show w.cell? _ = some (.int .i64 ((l.drop k)[j]?.getD 0)); rw [List.getElem?_drop, Nat.add_assoc]; exact hcell⟩
theorem ints_none {w : World} {a : Option Addr} {c : Nat} (hc : c ≤ 9223372036854775807) : Ints w (.slice a 0 c) [] := ⟨a, c, rfl, Nat.zero_le _, by unfold maxLen; omega, fun i hi => by simp at hi⟩
end Go.Proofs.Ytpbflkbelhlogaa
