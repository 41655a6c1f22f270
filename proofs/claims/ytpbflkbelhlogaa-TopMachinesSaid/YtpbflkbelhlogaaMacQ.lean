/- A run that reads a word and writes another one: the search that stops by a panic, and Run. -/
import Derived.Test.YtpbflkbelhlogaaJoinedRowTopMachines
import Derived.Test.YtpbflkbelhlogaaMacV
import Derived.Recover
namespace Go.Proofs.Ytpbflkbelhlogaa
open Go.RowKit Go.Shelf
set_option linter.unusedVariables false

/-! ## plain -/
/-- these arcs are a run from a state -/
def goRun (m : Mac) : List Int → List Int → List Int → Int → Prop
  | [], [], [], s => s ∈ m.e
  | k :: r, i :: u, o :: v, s => ∃ t : Nat, k = t ∧ t < m.a.length ∧ (arcA m.a t).f = s ∧ (arcA m.a t).i = i ∧ (arcA m.a t).o = o ∧ goRun m r u v (arcA m.a t).t
  | _, _, _, _ => False
theorem cntN_pos {m : Mac} (h : MacOk m) {u v : List Int} (hl : u.length = v.length) (hu : u.length ≤ 8) {s : Nat} (hs : s < m.s.toNat) : 0 < (cntN m.s.toNat m u v)[s]?.getD 0 ↔ relP m u v s := by
  obtain ⟨h1, h2, h3⟩ := bws_iff h u v hl s
  have hV := (Vec.bwLs h.states (Vec.ends h.ends) (condUV u v)).2 s hs
  have hp : (60 : Int) ^ u.length ≤ 60 ^ 8 := by
    have := Nat.pow_le_pow_right (n := 60) (by omega) hu
    exact_mod_cast this
  have hw : wr64 (bwsE m.a (endE m.e) (condUV u v) s) = bwsE m.a (endE m.e) (condUV u v) s := by
    unfold wr64
    exact IntWalk.i64_in _ (by omega)
  unfold cntN
  rw [hV, hw, h3]
/-- an arc leads on -/
def leadsB (m : Mac) (u v : List Int) (k : Nat) (s : Int) (t : Nat) : Prop := (arcA m.a t).f = s ∧ (arcA m.a t).i = u[k]?.getD 0 ∧ (arcA m.a t).o = v[k]?.getD 0 ∧ relP m (u.drop (k + 1)) (v.drop (k + 1)) (arcA m.a t).t
theorem relP_leads {m : Mac} {u v : List Int} {k : Nat} {s : Int} (h1 : k < u.length) (h2 : k < v.length) : relP m (u.drop k) (v.drop k) s ↔ ∃ t, t < m.a.length ∧ leadsB m u v k s t := by
  rw [drop_one h1, drop_one h2]
  constructor
  · rintro ⟨a, ha, e1, e2, e3, hr⟩
    obtain ⟨t, ht, rfl⟩ := List.mem_iff_getElem.1 ha
    have hat : arcA m.a t = m.a[t] := by simp [arcA, ht]
    exact ⟨t, ht, by rw [leadsB, hat]; exact ⟨e1, e2, e3, hr⟩⟩
  · rintro ⟨t, ht, e1, e2, e3, hr⟩
    exact ⟨arcA m.a t, by simp [arcA, ht], e1, e2, e3, hr⟩
theorem goRun_next {m : Mac} {u v r : List Int} {k : Nat} {s : Int} {t : Nat} (h1 : k < u.length) (h2 : k < v.length) (ht : t < m.a.length) (hf : (arcA m.a t).f = s) (hi : (arcA m.a t).i = u[k]?.getD 0) (ho : (arcA m.a t).o = v[k]?.getD 0) (hr : goRun m r (u.drop (k + 1)) (v.drop (k + 1)) (arcA m.a t).t) :
    goRun m ((t : Int) :: r) (u.drop k) (v.drop k) s := by
  rw [drop_one h1, drop_one h2]
  exact ⟨t, rfl, ht, hf, hi, ho, hr⟩

theorem int1_new (W : World) (x : Int) : Ints (W.alloc (.cells #[.int .i64 x] 3)) (.slice (some ⟨W.heap.size, 0, none⟩) 1 1) [x] := by
  refine ints_lit rfl (by omega) (fun i hi => ?_)
  obtain rfl : i = 0 := by omega
  exact alloc_cell W _ _ rfl
/-- the search stops with a run, or there is none -/
def RSearch (m : Mac) (run u v : List Int) (s : Int) (w : World) (e : Ending) (w' : World) : Prop :=
  Ext w w' ∧ ((∃ rv r, e = .panicked [{ v := .iface 93 (.agg #[rv]), recovered := false }] ∧ Ints w' rv (run ++ r) ∧ goRun m r (u.drop run.length) (v.drop run.length) s) ∨
    (e = .returned (.tuple #[]) ∧ ¬ relP m (u.drop run.length) (v.drop run.length) s))

set_option maxHeartbeats 8000000 in
set_option maxRecDepth 100000 in
theorem search_c (m : Mac) (u v : List Int) (hM : MacOk m) (hul : u.length = v.length) (hu8 : u.length ≤ 8) (n : Nat) : ∀ (k : Nat) (s : Int) (run : List Int) (rv av ev uv vv : Value) (w : World), MacR w av ev m → Ints w uv u → Ints w vv v → Ints w rv run → run.length = k → k + n = u.length → 0 ≤ s → s < m.s →
    Calls Try.prog 86 #[.agg #[.int .i64 m.s, av, ev], .int .i64 s, rv, uv, vv] w (RSearch m run u v s w) := by
  have hmb := hM.s2
  have hmb1 := hM.s1
  have hmal := hM.a
  induction n with
  | zero =>
    intro k s run rv av ev uv vv w h hu hv hr hk hn hs0 hs1
    obtain ⟨wA, hwA⟩ : ∃ wA, wA = w.alloc (.cells #[.int .i64 m.s, av, ev] 25) := ⟨_, rfl⟩
    have hE0 : Ext w wA := by rw [hwA]; exact Ext.alloc _ _
    have k0 : ∀ W, Ext wA W → W.cell? ⟨w.heap.size, 0, none⟩ = some (.int .i64 m.s) := by rw [hwA]; exact kept_alloc w _ _ rfl
    have k1 : ∀ W, Ext wA W → W.cell? ⟨w.heap.size, 1, none⟩ = some av := by rw [hwA]; exact kept_alloc w _ _ rfl
    have k2 : ∀ W, Ext wA W → W.cell? ⟨w.heap.size, 2, none⟩ = some ev := by rw [hwA]; exact kept_alloc w _ _ rfl
    have H0 : Ext wA wA := Ext.refl _
    have HR := Lib.hid (h.ext hE0)
    have HIU := Lib.hid (hu.ext hE0)
    have HIV := Lib.hid (hv.ext hE0)
    have HIR := Lib.hid (hr.ext hE0)
    obtain ⟨aa, ca, rfl, hla, hma, HA⟩ := (h.ext hE0).a.open_
    obtain ⟨ae, ce, rfl, hle, hme, HE⟩ := (h.ext hE0).e.open_
    obtain ⟨au, cu, rfl, hlu, hmu, HU⟩ := (hu.ext hE0).open_
    obtain ⟨av2, cv, rfl, hlv, hmv, HV⟩ := (hv.ext hE0).open_
    obtain ⟨ar, cr, rfl, hlr, hmr, HRN⟩ := (hr.ext hE0).open_
    have HEN := Lib.hid (fun W (hW : Ext wA W) => ends_c _ _ m s W (HR.out.ext hW))
    have HW := Lib.hid hwA; clear hwA h hu hv hr
    obtain rfl : k = u.length := by omega
    have hd : ((run.length : Int) == (u.length : Int)) = true := by simp [hk]
    have HDU := Lib.hid (show u.drop run.length = [] by rw [List.drop_eq_nil_iff]; omega)
    have HDV := Lib.hid (show v.drop run.length = [] by rw [List.drop_eq_nil_iff]; omega)
    have HBE := Lib.hid (hasB_eq m.e s)
    have HK := Lib.hid hk
    clear hk hn hul
    generalize hasB m.e s = b at *
    cases b
    all_goals
      go_enter Try.func86, Try.ntmps86
      go_wp2_with fail
      rw [← HW.out]
      refine (HEN.out wA H0).mono ?_; rintro e w1 ⟨rfl, hx1⟩
      go_wp2_with fail
    · go_end0
      refine ⟨hE0.trans hx1, .inr ⟨rfl, ?_⟩⟩
      rw [HDU.out, HDV.out]
      intro hc
      have h1 := HBE.out
      have hc' : s ∈ m.e := hc
      rw [List.contains_iff_mem.2 hc'] at h1
      cases h1
    · refine ⟨rfl, hE0.trans hx1, .inl ⟨_, [], rfl, ?_, ?_⟩⟩
      · rw [List.append_nil]; exact HIR.out.ext hx1
      · rw [HDU.out, HDV.out]
        have h1 := HBE.out.symm
        rw [List.contains_iff_mem] at h1
        exact h1
  | succ n ih =>
    intro k s run rv av ev uv vv w h hu hv hr hk hn hs0 hs1
    obtain ⟨wA, hwA⟩ : ∃ wA, wA = w.alloc (.cells #[.int .i64 m.s, av, ev] 25) := ⟨_, rfl⟩
    have hE0 : Ext w wA := by rw [hwA]; exact Ext.alloc _ _
    have k0 : ∀ W, Ext wA W → W.cell? ⟨w.heap.size, 0, none⟩ = some (.int .i64 m.s) := by rw [hwA]; exact kept_alloc w _ _ rfl
    have k1 : ∀ W, Ext wA W → W.cell? ⟨w.heap.size, 1, none⟩ = some av := by rw [hwA]; exact kept_alloc w _ _ rfl
    have k2 : ∀ W, Ext wA W → W.cell? ⟨w.heap.size, 2, none⟩ = some ev := by rw [hwA]; exact kept_alloc w _ _ rfl
    have H0 : Ext wA wA := Ext.refl _
    have HR := Lib.hid (h.ext hE0)
    have HIU := Lib.hid (hu.ext hE0)
    have HIV := Lib.hid (hv.ext hE0)
    have HIR := Lib.hid (hr.ext hE0)
    obtain ⟨aa, ca, rfl, hla, hma, HA⟩ := (h.ext hE0).a.open_
    obtain ⟨ae, ce, rfl, hle, hme, HE⟩ := (h.ext hE0).e.open_
    obtain ⟨au, cu, rfl, hlu, hmu, HU⟩ := (hu.ext hE0).open_
    obtain ⟨av2, cv, rfl, hlv, hmv, HV⟩ := (hv.ext hE0).open_
    obtain ⟨ar, cr, rfl, hlr, hmr, HRN⟩ := (hr.ext hE0).open_
    have HW := Lib.hid hwA; clear hwA h hu hv hr
    have hku : k < u.length := by omega
    have hkv : k < v.length := by omega
    obtain ⟨bu, ou, rfl, hcu⟩ := HU.out k hku
    obtain ⟨bv, ov, rfl, hcv⟩ := HV.out k hkv
    have hd : ((k : Int) == (u.length : Int)) = false := by simp; omega
    rw [hk] at HRN hlr ⊢
    obtain ⟨A, hA⟩ : ∃ A, (if cu = k + 1 then some (⟨bu, ou, none⟩ : Addr) else some ⟨bu, ou + (k + 1), none⟩) = A := ⟨_, rfl⟩
    obtain ⟨B, hB⟩ : ∃ B, (if cv = k + 1 then some (⟨bv, ov, none⟩ : Addr) else some ⟨bv, ov + (k + 1), none⟩) = B := ⟨_, rfl⟩
    have HDU := Lib.hid (ints_drop (k := k + 1) HIU.out (by omega) hA)
    have HDV := Lib.hid (ints_drop (k := k + 1) HIV.out (by omega) hB)
    have hw1 : IntKind.i64.wrap ((k : Int) + 1) = (k : Int) + 1 := IntWalk.i64_in _ (by omega)
    have htn : ((k : Int) + 1).toNat = k + 1 := by omega
    have hz1 : (0 : Int) ≤ (k : Int) + 1 := by omega
    have hz2 : (k : Int) + 1 ≤ (u.length : Int) := by omega
    have hz3 : (k : Int) + 1 ≤ (v.length : Int) := by omega
    have hz4 : k + 1 ≤ cu := by omega
    have hz5 : k + 1 ≤ cv := by omega
    have HM := Lib.hid hM; clear hM
    have HUL := Lib.hid hul; clear hul
    have HK := Lib.hid hk; clear hk
    have HIH := Lib.hid ih; clear ih
    have HRL := Lib.hid (relP_leads (m := m) (s := s) hku hkv)
    have HGN := Lib.hid (fun (r : List Int) (t : Nat) ht hf hi ho hr => goRun_next (m := m) (u := u) (v := v) (r := r) (k := k) (s := s) (t := t) hku hkv ht hf hi ho hr)
    have hkn : k + 1 + n = u.length := by omega
    clear hn
    generalize hus : u[k]?.getD 0 = us at *
    generalize hvs : v[k]?.getD 0 = vs at *
    have HUS := Lib.hid hus; have HVS := Lib.hid hvs; clear hus hvs
    go_enter Try.func86, Try.ntmps86
    go_wp2_with fail
    rw [← HW.out]
    go_loopg [27] m.a.length (fun z i wr => ∃ t : Nat, t ≤ m.a.length ∧ m.a.length ≤ t + z ∧ i = .int .i64 t ∧ Ext wA wr ∧ Hid (∀ j, j < t → ¬ leadsB m u v k s j))
    case atStart => exact ⟨0, by omega, by omega, rfl, H0, Lib.hid (fun j hj => by omega)⟩
    case round =>
      obtain ⟨t, ht, htz, rfl, hEr, HN⟩ := hrel
      by_cases hlt : t < m.a.length
      · obtain ⟨ba, oa, rfl, hc0, hc1, hc2, hc3⟩ := HA.out t hlt
        replace hc0 := hEr.keep hc0
        replace hc1 := hEr.keep hc1
        replace hc2 := hEr.keep hc2
        replace hc3 := hEr.keep hc3
        replace hcu := hEr.keep hcu
        replace hcv := hEr.keep hcv
        have hst := HM.out.arc hlt
        have HLB : Hid (leadsB m u v k s t ↔ (arcA m.a t).f = s ∧ (arcA m.a t).i = us ∧ (arcA m.a t).o = vs ∧ relP m (u.drop (k + 1)) (v.drop (k + 1)) (arcA m.a t).t) := Lib.hid (by rw [leadsB, HUS.out, HVS.out])
        have HGT := Lib.hid (fun (r : List Int) hf hi ho hr => HGN.out r t hlt hf hi ho hr)
        generalize arcA m.a t = y at *
        obtain ⟨yf, yt, yi, yo⟩ := y
        simp only at hc0 hc1 hc2 hc3 hst
        obtain ⟨q, rfl⟩ : ∃ q : Nat, yt = q := ⟨yt.toNat, by omega⟩
        have hq : q < m.s.toNat := by omega
        have hq2 : (q : Int) < m.s := by omega
        have hq3 : (0 : Int) ≤ q := by omega
        clear hst
        obtain ⟨wB, hwB⟩ : ∃ wB, wB = wr.alloc (.cells #[.int .i64 yf, .int .i64 (q : Int), .int .i64 yi, .int .i64 yo] 50) := ⟨_, rfl⟩
        have hEB : Ext wr wB := by rw [hwB]; exact Ext.alloc _ _
        have b0 : ∀ W, Ext wB W → W.cell? ⟨wr.heap.size, 0, none⟩ = some (.int .i64 yf) := by rw [hwB]; exact kept_alloc wr _ _ rfl
        have b1 : ∀ W, Ext wB W → W.cell? ⟨wr.heap.size, 1, none⟩ = some (.int .i64 q) := by rw [hwB]; exact kept_alloc wr _ _ rfl
        have b2 : ∀ W, Ext wB W → W.cell? ⟨wr.heap.size, 2, none⟩ = some (.int .i64 yi) := by rw [hwB]; exact kept_alloc wr _ _ rfl
        have b3 : ∀ W, Ext wB W → W.cell? ⟨wr.heap.size, 3, none⟩ = some (.int .i64 yo) := by rw [hwB]; exact kept_alloc wr _ _ rfl
        have HWB := Lib.hid hwB; clear hwB
        by_cases hf : yf = s
        · subst hf
          have hf1 : (yf == yf) = true := by simp
          by_cases hi : yi = us
          · subst hi
            have hi1 : (yi == yi) = true := by simp
            by_cases ho : yo = vs
            · subst ho
              have ho1 : (yo == yo) = true := by simp
              have HCP := Lib.hid (cntN_pos (u := u.drop (k + 1)) (v := v.drop (k + 1)) HM.out (by rw [List.length_drop, List.length_drop, HUL.out]) (by rw [List.length_drop]; omega) hq)
              have HRU := Lib.hid (fun W (hW : Ext wA W) => runs_c _ _ _ _ m m.s.toNat (u.drop (k + 1)) (v.drop (k + 1)) W (HR.out.ext hW) HM.out.in_ (HDU.out.ext hW) (HDV.out.ext hW) (by rw [List.length_drop, List.length_drop, HUL.out]) (by rw [List.length_drop]; omega))
              have HLN := Lib.hid (cntN_len m.s.toNat m (u.drop (k + 1)) (v.drop (k + 1)))
              generalize cntN m.s.toNat m (u.drop (k + 1)) (v.drop (k + 1)) = CN at *
              have hqn : q < CN.length := by rw [HLN.out]; exact hq
              generalize hcq : CN[q]?.getD 0 = cq at *
              have HCQ := Lib.hid hcq; clear hcq
              obtain ⟨b, hb⟩ : ∃ b, decide (0 < cq) = b := ⟨_, rfl⟩
              cases b
              all_goals
                go_wp2_with fail
                rw [← HWB.out]
                clear hc0 hc1 hc2 hc3
                refine wp_region_peek (Ext wB) (fun _ => True) [] [.look 0, .look 1, .look 2, .look 3, .look 4, .look 5, .look 6, .look 7, .look 8, .look 9, .look 10, .look 11, .look 12, .look 13, .look 14, .look 15, .look 16, .look 17, .look 18, .look 19, .look 20, .look 21, .look 22, .look 23, .look 24, .look 25, .look 26, .look 27, .look 28, .look 29, .look 30, .look 31, .look 33, .look 34, .go 32, .go 35, .go 36, .go 37, .go 38] (by kernel_rfl) (by kernel_rfl) (by intro c a d v w h; cases d <;> exact h) ?_
                have hd1 : Ext wB { wB with drawn := wB.drawn + 1 } := drawn_ext wB
                have hs : ∀ s : InC (Ext wB), Ext wB s.w := fun s => s.h
                have hs2 : ∀ s : InC (Ext wB), Ext wA s.w := fun s => hEr.trans (hEB.trans s.h)
                have q0 := fun s : InC (Ext wB) => (hEB.trans s.h).keep hcu
                have q1 := fun s : InC (Ext wB) => (hEB.trans s.h).keep hcv
                generalize { wB with drawn := wB.drawn + 1 } = W1 at *
                iterate 34 (refine wpPeek_look rfl ‹_› (fun K hK => ?_); go_simp; first | (refine hK _ ?_; clear hK K) | (refine ⟨_, fun _ => rfl, hK _ ?_⟩; clear hK K))
                clear q0 q1
                refine wpPeek_go rfl rfl (fun K hK => ?_)
                go_wp2_with fail
                refine (HRU.out W1 (hEr.trans (hEB.trans hd1))).mono ?_; rintro e W2 ⟨g, rfl, hbl, hx5⟩
                have hcell := hbl.cell (i := q) hqn
                rw [HCQ.out] at hcell
                have hd2 : Ext wB W2 := hd1.trans hx5
                clear hbl
                go_wp2_with fail
                refine ⟨KeepE.of (fun h => h.trans hx5) (fun _ => trivial), ?_⟩
                refine wpPeek_go rfl rfl (fun K hK => ?_)
                go_wp2_with fail
                refine ⟨KeepE.refl, ?_⟩
                refine wpPeek_go rfl rfl (fun K hK => ?_)
                go_wp2_with fail
                refine ⟨KeepE.refl, ?_⟩
                refine wpPeek_go rfl rfl (fun K hK => ?_)
                go_wp2_with fail
                refine ⟨KeepE.refl, ?_⟩
                refine wpPeek_go rfl rfl (fun K hK => ?_)
                go_wp2_with fail
                refine ⟨KeepE.refl, ?_⟩
                refine wpPeek_nil ?_
                clear hs hs2 hcell
                have hs2 : Ext wA W2 := hEr.trans (hEB.trans hd2)
                go_wp2_with fail
              · go_roundg (gk-1)
                case measure => omega
                case rel => exact ⟨t+1, by omega, by omega, by go_num, hs2, Lib.hid (fun j hj => by
                  by_cases e : j = t
                  · subst e
                    rw [HLB.out]
                    rintro ⟨_, _, _, hr⟩
                    have := HCP.out.2 hr
                    simp at hb; omega
                  · exact HN.out j (by omega))⟩
              · have HRP : Hid (relP m (u.drop (k + 1)) (v.drop (k + 1)) (q : Int)) := Lib.hid (HCP.out.1 (by simpa using hb))
                have HCL := Lib.hid (fun W (hW : Ext wA W) => cloneInts_c _ run W (HIR.out.ext hW) (by rw [HK.out]; omega))
                rw [HK.out] at HCL
                clear hb HCP HRU HLN HCQ hqn
                refine wp_region_peek (Ext W2) (fun _ => True) [] [.look 0, .look 1, .look 2, .look 3, .look 5, .look 8, .look 9, .par 4 6, .go 7, .go 10] (by kernel_rfl) (by kernel_rfl) (by intro c a d v w h; cases d <;> exact h) ?_
                have hd3 : Ext W2 { W2 with drawn := W2.drawn + 1 } := drawn_ext W2
                have hs : ∀ s : InC (Ext W2), Ext wB s.w := fun s => hd2.trans s.h
                have hs3 : ∀ s : InC (Ext W2), Ext wA s.w := fun s => hs2.trans s.h
                generalize { W2 with drawn := W2.drawn + 1 } = W3 at *
                iterate 7 (refine wpPeek_look rfl ‹_› (fun K hK => ?_); go_simp; first | (refine hK _ ?_; clear hK K) | (refine ⟨_, fun _ => rfl, hK _ ?_⟩; clear hK K))
                clear hs hs3
                have hE3 : Ext wA W3 := hs2.trans hd3
                have hz3 := hd3.size
                have HI1 : Hid (∀ (W : World) (v : Value), W.ownsRow W2.heap.size 3 1 v (k + 1) (ints run ++ ints [(t : Int)]) → Ints W v (run ++ [(t : Int)])) := Lib.hid (fun W v h => Ints.own (B := W2.heap.size) (e := 3) (by rw [ints_append, List.length_append, HK.out]; exact h))
                refine ⟨wpOp_of_list rfl rfl (fun K hK => ?_), wpOp_of_list rfl rfl (fun K hK => ?_)⟩
                · go_wp2_with fail
                  refine (HCL.out W3 hE3).mono ?_; rintro e W4 ⟨v4, rfl, ho4, hx4⟩
                  have hO4 := OInts.low ho4 hz3
                  clear ho4
                  go_wp2_with fail
                  refine ⟨KeepE.of (fun h => h.trans hx4) (fun _ => trivial), ?_⟩
                  refine wpOp_of_list rfl rfl (fun K hK => ?_)
                  go_wp2_with fail
                  refine ⟨KeepE.of (fun h => h.trans (Ext.alloc _ _)) (fun _ => trivial), ?_⟩
                  have HO : Hid (OInts 3 (W4.alloc (.cells #[.int .i64 (t : Int)] 3)) W2.heap.size v4 run) := Lib.hid (hO4.alloc _)
                  have HRW := Lib.hid (int1_new W4 (t : Int)).raw
                  have hEE : Ext W2 (W4.alloc (.cells #[.int .i64 (t : Int)] 3)) := hd3.trans (hx4.trans (Ext.alloc _ _))
                  clear hO4
                  unfold OInts at HO
                  rw [HK.out] at HO
                  generalize W4.alloc (.cells #[.int .i64 (t : Int)] 3) = W5 at *
                  generalize W4.heap.size = g4 at *
                  clear hx4 hd3 hE3 hz3
                  have hsz := hEE.size
                  refine wpPeek_go rfl rfl (fun K hK => ?_)
                  refine wpList_appendAll (n := k) (m := 1) (B := W2.heap.size) elInts rfl (.tmp 77) (.tmp 79) rfl rfl rfl HO.out HRW.out (ints_one _) hsz (by omega) (by omega) (fun v5 W6 ho5 hb5 => ?_)
                  go_wp2_with fail
                  have hE6 : Ext W2 W6 := hEE.upto hb5 (Nat.le_refl _)
                  have HI5 := Lib.hid (HI1.out W6 v5 ho5)
                  refine ⟨KeepE.of (fun h => h.upto hb5 (Nat.le_refl _)) (fun _ => trivial), ?_⟩
                  clear ho5 hb5
                  refine wpPeek_go rfl rfl (fun K hK => ?_)
                  go_wp2_with fail
                  have hX6 : Ext wA W6 := hs2.trans hE6
                  refine (HIH.out (k + 1) q (run ++ [(t : Int)]) v5 _ _ _ _ W6 (HR.out.ext hX6) (HIU.out.ext hX6) (HIV.out.ext hX6) HI5.out (by rw [List.length_append, HK.out]; rfl) hkn hq3 hq2).mono ?_
                  rintro e W7 ⟨hx7, ⟨rv6, r, rfl, hi6, hg6⟩ | ⟨rfl, hno⟩⟩
                  · go_wp2_with fail
                    refine ⟨rfl, hE0.trans (hX6.trans hx7), .inl ⟨_, (t : Int) :: r, rfl, by rw [List.append_assoc] at hi6; exact hi6, ?_⟩⟩
                    rw [HK.out]
                    refine HGT.out r trivial trivial trivial ?_
                    have := hg6
                    rw [List.length_append, HK.out] at this
                    exact this
                  · exfalso
                    apply hno
                    rw [List.length_append, HK.out]
                    exact HRP.out
                · go_wp2_with fail
                  refine ⟨KeepE.of (fun h => h.trans (Ext.alloc _ _)) (fun _ => trivial), ?_⟩
                  have hX4 := Ext.alloc W3 (.cells #[.int .i64 (t : Int)] 3)
                  have HRI := Lib.hid (int1_new W3 (t : Int))
                  have hz4 := hX4.size
                  generalize W3.alloc (.cells #[.int .i64 (t : Int)] 3) = W4 at *
                  generalize W3.heap.size = g4 at *
                  refine wpOp_of_list rfl rfl (fun K hK => ?_)
                  go_wp2_with fail
                  refine (HCL.out W4 (hE3.trans hX4)).mono ?_; rintro e W5 ⟨v4, rfl, ho4, hx4⟩
                  have HO := Lib.hid (OInts.low ho4 (show W2.heap.size ≤ W4.heap.size by omega))
                  have HRW := Lib.hid (HRI.out.ext hx4).raw
                  unfold OInts at HO
                  rw [HK.out] at HO
                  clear ho4
                  go_wp2_with fail
                  refine ⟨KeepE.of (fun h => h.trans hx4) (fun _ => trivial), ?_⟩
                  have hEE : Ext W2 W5 := hd3.trans (hX4.trans hx4)
                  clear hX4 hx4 hd3 hE3 hz3 hz4 HRI
                  have hsz := hEE.size
                  refine wpPeek_go rfl rfl (fun K hK => ?_)
                  refine wpList_appendAll (n := k) (m := 1) (B := W2.heap.size) elInts rfl (.tmp 77) (.tmp 79) rfl rfl rfl HO.out HRW.out (ints_one _) hsz (by omega) (by omega) (fun v5 W6 ho5 hb5 => ?_)
                  go_wp2_with fail
                  have hE6 : Ext W2 W6 := hEE.upto hb5 (Nat.le_refl _)
                  have HI5 := Lib.hid (HI1.out W6 v5 ho5)
                  refine ⟨KeepE.of (fun h => h.upto hb5 (Nat.le_refl _)) (fun _ => trivial), ?_⟩
                  clear ho5 hb5
                  refine wpPeek_go rfl rfl (fun K hK => ?_)
                  go_wp2_with fail
                  have hX6 : Ext wA W6 := hs2.trans hE6
                  refine (HIH.out (k + 1) q (run ++ [(t : Int)]) v5 _ _ _ _ W6 (HR.out.ext hX6) (HIU.out.ext hX6) (HIV.out.ext hX6) HI5.out (by rw [List.length_append, HK.out]; rfl) hkn hq3 hq2).mono ?_
                  rintro e W7 ⟨hx7, ⟨rv6, r, rfl, hi6, hg6⟩ | ⟨rfl, hno⟩⟩
                  · go_wp2_with fail
                    refine ⟨rfl, hE0.trans (hX6.trans hx7), .inl ⟨_, (t : Int) :: r, rfl, by rw [List.append_assoc] at hi6; exact hi6, ?_⟩⟩
                    rw [HK.out]
                    refine HGT.out r trivial trivial trivial ?_
                    have := hg6
                    rw [List.length_append, HK.out] at this
                    exact this
                  · exfalso
                    apply hno
                    rw [List.length_append, HK.out]
                    exact HRP.out
            · have ho1 : (yo == vs) = false := by simp [ho]
              have HNO : Hid (¬ leadsB m u v k yf t) := Lib.hid (by rw [HLB.out]; rintro ⟨_, _, h3, _⟩; exact ho h3)
              clear ho
              go_wp2_with fail
              rw [← HWB.out]
              clear hc0 hc1 hc2 hc3
              have hs : ∀ s : Later wB, Ext wB s.w := fun s => s.ext
              have q0 := fun s : Later wB => (hEB.trans s.ext).keep hcu
              have q1 := fun s : Later wB => (hEB.trans s.ext).keep hcv
              refine wp_region_later (by kernel_rfl) (by kernel_rfl) ?_
              repeat (go_big_quiet_step (fail))
              refine wpQuiet_nil ?_
              intro w5 hw'
              obtain ⟨⟨_, hx5⟩, rfl⟩ := hw'
              clear hs q0 q1
              have hX5 : Ext wA w5 := hEr.trans (hEB.trans hx5)
              go_wp2_with fail
              go_roundg (gk-1)
              case measure => omega
              case rel => exact ⟨t+1, by omega, by omega, by go_num, hX5, Lib.hid (fun j hj => by
                by_cases e : j = t
                · subst e; exact HNO.out
                · exact HN.out j (by omega))⟩
          · have hi1 : (yi == us) = false := by simp [hi]
            have HNO : Hid (¬ leadsB m u v k yf t) := Lib.hid (by rw [HLB.out]; rintro ⟨_, h3, _, _⟩; exact hi h3)
            clear hi
            go_wp2_with fail
            rw [← HWB.out]
            clear hc0 hc1 hc2 hc3
            have hs : ∀ s : Later wB, Ext wB s.w := fun s => s.ext
            have q0 := fun s : Later wB => (hEB.trans s.ext).keep hcu
            have q1 := fun s : Later wB => (hEB.trans s.ext).keep hcv
            refine wp_region_later (by kernel_rfl) (by kernel_rfl) ?_
            repeat (go_big_quiet_step (fail))
            refine wpQuiet_nil ?_
            intro w5 hw'
            obtain ⟨⟨_, hx5⟩, rfl⟩ := hw'
            clear hs q0 q1
            have hX5 : Ext wA w5 := hEr.trans (hEB.trans hx5)
            go_wp2_with fail
            go_roundg (gk-1)
            case measure => omega
            case rel => exact ⟨t+1, by omega, by omega, by go_num, hX5, Lib.hid (fun j hj => by
              by_cases e : j = t
              · subst e; exact HNO.out
              · exact HN.out j (by omega))⟩
        · have hf1 : (yf == s) = false := by simp [hf]
          have HNO : Hid (¬ leadsB m u v k s t) := Lib.hid (by rw [HLB.out]; rintro ⟨h3, _, _, _⟩; exact hf h3)
          clear hf
          go_wp2_with fail
          rw [← HWB.out]
          clear hc0 hc1 hc2 hc3
          have hs : ∀ s : Later wB, Ext wB s.w := fun s => s.ext
          have q0 := fun s : Later wB => (hEB.trans s.ext).keep hcu
          have q1 := fun s : Later wB => (hEB.trans s.ext).keep hcv
          refine wp_region_later (by kernel_rfl) (by kernel_rfl) ?_
          repeat (go_big_quiet_step (fail))
          refine wpQuiet_nil ?_
          intro w5 hw'
          obtain ⟨⟨_, hx5⟩, rfl⟩ := hw'
          clear hs q0 q1
          have hX5 : Ext wA w5 := hEr.trans (hEB.trans hx5)
          go_wp2_with fail
          go_roundg (gk-1)
          case measure => omega
          case rel => exact ⟨t+1, by omega, by omega, by go_num, hX5, Lib.hid (fun j hj => by
            by_cases e : j = t
            · subst e; exact HNO.out
            · exact HN.out j (by omega))⟩
      · go_wp2_with fail
        go_end0
        refine ⟨hE0.trans hEr, .inr ⟨rfl, ?_⟩⟩
        rw [HK.out, HRL.out]
        rintro ⟨j, hj, hl⟩
        exact HN.out j (by omega) hl
end Go.Proofs.Ytpbflkbelhlogaa
