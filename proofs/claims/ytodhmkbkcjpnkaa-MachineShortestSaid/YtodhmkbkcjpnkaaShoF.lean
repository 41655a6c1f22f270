/- Machines: the first one of the words that are written by shortest runs that read a word, of the program. -/
import Derived.Test.YtodhmkbkcjpnkaaShoL
import Derived.Test.YtodhmkbkcjpnkaaShoA
namespace Go.Proofs.Ytodhmkbkcjpnkaa
open Go.RowKit Go.Shelf
set_option linter.unusedVariables false
theorem arcA_get {l : List Arc} {k : Nat} (h : k < l.length) : l[k] = arcA l k := by simp [arcA, h]
/-- another row of ints of one's own stays where one grows -/
theorem oints_stay {w w' W1 : World} {B B1 : Nat} {v u : Value} {l l1 : List Int} (hu : OInts 3 w B1 u l) (hv : OInts 3 W1 B v l1) (h1 : W1.heap.size ≤ B1) (hg : w.grownBy w' v.ownBlock) : OInts 3 w' B1 u l := by
  refine World.ownsRow.kept hu hg ?_
  cases hob : u.ownBlock with
  | none => exact .inl rfl
  | some r =>
    refine .inr (fun e => ?_)
    have h2 := oints_lt hv e.symm
    obtain ⟨cur, _, h3⟩ := ownBlock_cells hu r hob
    omega
def selH (N : List Int) (us : Int) (good : List Bool) (a : Arc) : Bool := hasB N a.f && (a.i == us && getB good a.t)
theorem selH_eq (N : List Int) (us : Int) (good : List Bool) : selH N us good = selWP us good N := by funext a; unfold selH selWP; rw [hasB_contains]
def nxW : List Int → Arc → List Int := fun l a => l ++ [a.t]
theorem selTo_len {c : Arc → Bool} {key : Arc → Int} (ar : List Arc) : (selTo c key nxW [] ar).2.length ≤ ar.length := by
  rw [selTo_is]
  dsimp only
  unfold nxW
  rw [acc_list]
  exact pick_len _ _ _
theorem selStep_no {c : Arc → Bool} {key : Arc → Int} {S : Type} {add : S → Arc → S} {S0 : S} {p : Int × S} {a : Arc} (h : (c a && decide (key a ≤ p.1)) = false) : selStep c key add S0 p a = p := by unfold selStep; rw [if_neg (by rw [h]; simp)]
theorem selStep_new {c : Arc → Bool} {key : Arc → Int} {S : Type} {add : S → Arc → S} {S0 : S} {p : Int × S} {a : Arc} (h1 : c a = true) (h : key a < p.1) : selStep c key add S0 p a = (key a, add S0 a) := by unfold selStep; rw [if_pos (by rw [h1]; simp; omega), if_pos h]
theorem selStep_add {c : Arc → Bool} {key : Arc → Int} {S : Type} {add : S → Arc → S} {S0 : S} {p : Int × S} {a : Arc} (h1 : c a = true) (h : key a = p.1) : selStep c key add S0 p a = (p.1, add p.2 a) := by unfold selStep; rw [if_pos (by rw [h1]; simp; omega), if_neg (by omega)]

set_option maxHeartbeats 8000000 in
set_option maxRecDepth 100000 in
theorem first_c (av ev uv lv : Value) (m : Mac) (u : List Int) (w : World) (h : MacR w av ev m) (hM : MacOk m) (hu : Ints w uv u) (hul : u.length ≤ 1000) :
    Calls Try.prog 88 #[.agg #[.int .i64 m.s, av, ev], uv, lv] w (RInts (writeGo m u (beginB m.s.toNat)) w) := by
  have hal : m.a.length ≤ 100000 := by have := hM.a; omega
  obtain ⟨wA, hwA⟩ : ∃ wA, wA = w.alloc (.cells #[.int .i64 m.s, av, ev] 25) := ⟨_, rfl⟩
  have hE0 : Ext w wA := by rw [hwA]; exact Ext.alloc _ _
  have k0 : ∀ W, Ext wA W → W.cell? ⟨w.heap.size, 0, none⟩ = some (.int .i64 m.s) := by rw [hwA]; exact kept_alloc w _ _ rfl
  have k1 : ∀ W, Ext wA W → W.cell? ⟨w.heap.size, 1, none⟩ = some av := by rw [hwA]; exact kept_alloc w _ _ rfl
  have k2 : ∀ W, Ext wA W → W.cell? ⟨w.heap.size, 2, none⟩ = some ev := by rw [hwA]; exact kept_alloc w _ _ rfl
  have H0 : Ext wA wA := Ext.refl _
  have hzA : wA.heap.size = w.heap.size + 1 := by rw [hwA]; simp
  have HR := Lib.hid (h.ext hE0)
  obtain ⟨aa, ca, rfl, hla, hma, HA⟩ := (h.ext hE0).a.open_
  obtain ⟨ae, ce, rfl, hle, hme, HE⟩ := (h.ext hE0).e.open_
  have HIU := Lib.hid (hu.ext hE0)
  obtain ⟨au, cu, rfl, hlu, hmu, HU⟩ := (hu.ext hE0).open_
  have HW := Lib.hid hwA; clear hwA h hu
  have HM := Lib.hid hM; clear hM
  have hx0 := Ext.alloc wA (.cells #[.int .i64 0] 3)
  have hI0 : Ints (wA.alloc (.cells #[.int .i64 0] 3)) (.slice (some ⟨wA.heap.size, 0, none⟩) 1 1) [0] := by
    have := BInts.ints (W := wA.alloc (.cells #[.int .i64 0] 3)) (g := wA.heap.size) (l := [0]) (Blk.alloc wA _ _) (by simp)
    exact this
  rw [hzA] at hI0
  have HI0 := Lib.hid hI0; clear hI0
  have HS0 : Hid (SameS m.s.toNat [0] (beginB m.s.toNat)) := Lib.hid (SameS.begin (by have := HM.out.s1; omega))
  go_enter Try.func88, Try.ntmps88
  go_wp2_with fail
  rw [← HW.out]
  go_loopg [17, 7, 8] u.length (fun z i v7 v8 wr => ∃ (k : Nat) (t7 t8 : Value) (L N : List Int) (S : List Bool), k ≤ u.length ∧ u.length ≤ k + z ∧ i = .int .i64 k ∧ t7 = v7 ∧ t8 = v8 ∧ Ext wA wr ∧ OInts 3 wr wA.heap.size t7 L ∧ L.length = k ∧ Ints wr t8 N ∧ Hid (SameS m.s.toNat N S ∧ L ++ writeGo m (u.drop k) S = writeGo m u (beginB m.s.toNat)))
  case atStart => exact ⟨0, _, _, [], [0], beginB m.s.toNat, by omega, by omega, rfl, rfl, rfl, hx0, OInts.nil _ _ _, rfl, HI0.out, Lib.hid ⟨HS0.out, rfl⟩⟩
  case round =>
    clear hx0 HI0 HS0
    obtain ⟨k, t7, t8, L, N, S, hk, hkz, rfl, rfl, rfl, hEr, ho7, hL, hI8, HGO⟩ := hrel
    obtain ⟨g1, rfl⟩ : ∃ g : Nat, g = gk := ⟨_, rfl⟩
    have HI8 := Lib.hid hI8
    obtain ⟨a8, c8, rfl, _, _, _⟩ := hI8.open_
    have HO7 := Lib.hid ho7
    obtain ⟨a7, c7, rfl, _, _, _⟩ := ho7.ints.open_
    clear hI8 ho7
    have HL := Lib.hid hL; clear hL
    by_cases hltk : k < u.length
    · obtain ⟨bu, ou, rfl, hcu⟩ := HU.out k hltk
      obtain ⟨good, hgood⟩ : ∃ good, good = canL m.s.toNat m (u.drop (k + 1)) := ⟨_, rfl⟩
      have HNX : Hid (L ++ bestW m (u[k]?.getD 0) good S :: writeGo m (u.drop (k + 1)) (nextW m (u[k]?.getD 0) good S) = writeGo m u (beginB m.s.toNat)) := Lib.hid (by rw [← HGO.out.2, drop_one hltk, hgood]; rfl)
      have HSS : Hid (SameS m.s.toNat N S) := Lib.hid HGO.out.1
      have HGD := Lib.hid hgood; clear hgood HGO
      generalize u[k]?.getD 0 = us at *
      obtain ⟨W1, rfl⟩ : ∃ W : World, W = wr := ⟨_, rfl⟩
      replace hcu := hEr.keep hcu
      obtain ⟨A, hA⟩ : ∃ A, (if cu = k + 1 then some (⟨bu, ou, none⟩ : Addr) else some ⟨bu, ou + (k + 1), none⟩) = A := ⟨_, rfl⟩
      have HDU := Lib.hid (ints_drop (k := k + 1) HIU.out (by omega) hA)
      have hw1 : IntKind.i64.wrap ((k : Int) + 1) = (k : Int) + 1 := IntWalk.i64_in _ (by omega)
      have htn : ((k : Int) + 1).toNat = k + 1 := by omega
      have hz1 : (0 : Int) ≤ (k : Int) + 1 := by omega
      have hz2 : (k : Int) + 1 ≤ (u.length : Int) := by omega
      have hz4 : k + 1 ≤ cu := by omega
      obtain ⟨cc, hcc⟩ : ∃ cc, cc = selH N us good := ⟨_, rfl⟩
      have HCD := Lib.hid hcc.symm; clear hcc
      go_wp2_with fail
      go_loopg [23, 10, 11] m.a.length (fun z i v10 v9 wr => ∃ (t : Nat) (x10 t11 : Value), t ≤ m.a.length ∧ m.a.length ≤ t + z ∧ i = .int .i64 t ∧ x10 = v10 ∧ t11 = v9 ∧ Ext W1 wr ∧ OInts 3 wr W1.heap.size t11 (selTo cc Arc.o nxW [] (m.a.take t)).2 ∧ x10 = .int .i64 (selTo cc Arc.o nxW [] (m.a.take t)).1)
      case atStart => exact ⟨0, _, _, by omega, by omega, rfl, rfl, rfl, Ext.refl _, OInts.nil _ _ _, rfl⟩
      case round =>
        obtain ⟨t, v10, t11, ht, htz, rfl, rfl, rfl, hX1, ho11, hv10⟩ := hrel
        have hEr2 : Ext wA wr := hEr.trans hX1
        by_cases hlt : t < m.a.length
        · obtain ⟨ba, oa, rfl, hc0, hc1, hc2, hc3⟩ := HA.out t hlt
          replace hc0 := hEr2.keep hc0
          replace hc1 := hEr2.keep hc1
          replace hc2 := hEr2.keep hc2
          replace hc3 := hEr2.keep hc3
          have hst := HM.out.arc hlt
          have HST0 := Lib.hid (selTo_next (sel := cc) (key := Arc.o) (add := nxW) (S0 := ([] : List Int)) hlt)
          have hlen := selTo_len (c := cc) (key := Arc.o) (m.a.take t)
          have hlt9 : (m.a.take t).length ≤ m.a.length := by simp; omega
          have hst1 := HST0.out
          rw [arcA_get hlt] at hst1
          have HLD0 := Lib.hid (fun W (hW : Ext wA W) (s : Int) (h0 : 0 ≤ s) => by have := leads_c _ _ _ m s (u.drop (k + 1)) W (HR.out.ext hW) (HDU.out.ext hW) hal; rw [lead_is HM.out h0] at this; exact this)
          clear HST0
          generalize arcA m.a t = y at *
          generalize selTo cc Arc.o nxW [] (m.a.take t) = P at *
          obtain ⟨bst, N2⟩ := P
          obtain ⟨h10, h11⟩ : v10 = .int .i64 bst ∧ OInts 3 wr W1.heap.size t11 N2 := ⟨hv10, ho11⟩
          clear hv10 ho11
          subst h10
          have HST := Lib.hid hst1; clear hst1
          obtain ⟨a9, c9, rfl, _, _, _⟩ := h11.ints.open_
          have hlN : N2.length ≤ 1000000 := by dsimp only at hlen; omega
          clear hlen hlt9
          obtain ⟨yf, yt, yi, yo⟩ := y
          simp only at hc0 hc1 hc2 hc3 hst
          obtain ⟨wB, hwB⟩ : ∃ wB, wB = wr.alloc (.cells #[.int .i64 yf, .int .i64 yt, .int .i64 yi, .int .i64 yo] 50) := ⟨_, rfl⟩
          have hEB : Ext wr wB := by rw [hwB]; exact Ext.alloc _ _
          have b0 : ∀ W, Ext wB W → W.cell? ⟨wr.heap.size, 0, none⟩ = some (.int .i64 yf) := by rw [hwB]; exact kept_alloc wr _ _ rfl
          have b1 : ∀ W, Ext wB W → W.cell? ⟨wr.heap.size, 1, none⟩ = some (.int .i64 yt) := by rw [hwB]; exact kept_alloc wr _ _ rfl
          have b2 : ∀ W, Ext wB W → W.cell? ⟨wr.heap.size, 2, none⟩ = some (.int .i64 yi) := by rw [hwB]; exact kept_alloc wr _ _ rfl
          have b3 : ∀ W, Ext wB W → W.cell? ⟨wr.heap.size, 3, none⟩ = some (.int .i64 yo) := by rw [hwB]; exact kept_alloc wr _ _ rfl
          have HWB := Lib.hid hwB; clear hwB
          have hsB : Ext wB wB := Ext.refl _

          have hs : ∀ s : Later wB, Ext wB s.w := fun s => s.ext
          have hs2 : ∀ s : Later wB, Ext wA s.w := fun s => hEr2.trans (hEB.trans s.ext)
          have q0 := fun s : Later wB => (hX1.trans (hEB.trans s.ext)).keep hcu
          have HC1 := Lib.hid (fun s : Later wB => contains_c _ N yf s.w (HI8.out.ext (hX1.trans (hEB.trans s.ext))))
          have HLD := Lib.hid (fun s : Later wB => HLD0.out s.w (hEr2.trans (hEB.trans s.ext)) yt hst.2.1.1)
          have HCC : Hid (cc ⟨yf, yt, yi, yo⟩ = (hasB N yf && (yi == us && getB good yt))) := Lib.hid (by rw [← HCD.out]; rfl)
          rw [← HGD.out] at HLD
          have HO9 := Lib.hid h11; clear h11 hst HLD0
          generalize hasB N yf = b1_ at *
          generalize getB good yt = b4_ at *
          cases b1_
          · have HSN := Lib.hid (selStep_no (c := cc) (key := Arc.o) (add := nxW) (S0 := ([] : List Int)) (p := (bst, N2)) (a := ⟨yf, yt, yi, yo⟩) (by rw [HCC.out]; simp))
            clear HCC
            go_upto_region 11 with fail
            rw [← HWB.out]
            clear hc0 hc1 hc2 hc3
            go_wp2_with fail
            refine wp_region_later (by kernel_rfl) (by kernel_rfl) ?_
            repeat (go_big_quiet_step ((first | (go_at_call 87; first | with_reducible exact Later.callP (HC1.out _)) | (go_at_call 104; first | with_reducible exact Later.call (HLD.out _)))))
            refine wpQuiet_nil ?_
            intro w5 hw'
            obtain ⟨⟨_, hx5⟩, rfl⟩ := hw'
            clear hs q0
            have hX5 : Ext W1 w5 := hX1.trans (hEB.trans hx5)
            have HO9b := Lib.hid (HO9.out.ext (hEB.trans hx5))
            have hsB2 : Ext wB w5 := hx5
            have hB5 : W1.heap.size ≤ w5.heap.size := hX5.size

            go_wp2_with fail
            go_roundg (gk-1)
            case measure => omega
            case rel => exact ⟨t+1, _, _, by omega, by omega, by go_num, rfl, rfl, hX5, by rw [HST.out, HSN.out]; exact HO9b.out, by rw [HST.out, HSN.out]⟩
          · by_cases hi : yi = us
            · subst hi
              have hi1 : (yi != yi) = false := by simp
              by_cases hg : bst < yo
              · have hgd : decide (yo > bst) = true := by simpa using hg
                have hgd2 : decide (bst < yo) = true := by simpa using hg
                have HSN := Lib.hid (selStep_no (c := cc) (key := Arc.o) (add := nxW) (S0 := ([] : List Int)) (p := (bst, N2)) (a := ⟨yf, yt, yi, yo⟩) (by simp; omega))
                clear HCC
                go_upto_region 11 with fail
                rw [← HWB.out]
                clear hc0 hc1 hc2 hc3
                go_wp2_with fail
                refine wp_region_later (by kernel_rfl) (by kernel_rfl) ?_
                repeat (go_big_quiet_step ((first | (go_at_call 87; first | with_reducible exact Later.callP (HC1.out _)) | (go_at_call 104; first | with_reducible exact Later.call (HLD.out _)))))
                refine wpQuiet_nil ?_
                intro w5 hw'
                obtain ⟨⟨_, hx5⟩, rfl⟩ := hw'
                clear hs q0
                have hX5 : Ext W1 w5 := hX1.trans (hEB.trans hx5)
                have HO9b := Lib.hid (HO9.out.ext (hEB.trans hx5))
                have hsB2 : Ext wB w5 := hx5
                have hB5 : W1.heap.size ≤ w5.heap.size := hX5.size

                go_wp2_with fail
                go_roundg (gk-1)
                case measure => omega
                case rel => exact ⟨t+1, _, _, by omega, by omega, by go_num, rfl, rfl, hX5, by rw [HST.out, HSN.out]; exact HO9b.out, by rw [HST.out, HSN.out]⟩
              · have hgd : decide (yo > bst) = false := by simp; omega
                have hgd2 : decide (bst < yo) = false := by simp; omega
                cases b4_
                · have HSN := Lib.hid (selStep_no (c := cc) (key := Arc.o) (add := nxW) (S0 := ([] : List Int)) (p := (bst, N2)) (a := ⟨yf, yt, yi, yo⟩) (by rw [HCC.out]; simp))
                  clear HCC
                  go_upto_region 11 with fail
                  rw [← HWB.out]
                  clear hc0 hc1 hc2 hc3
                  go_wp2_with fail
                  refine wp_region_later (by kernel_rfl) (by kernel_rfl) ?_
                  repeat (go_big_quiet_step ((first | (go_at_call 87; first | with_reducible exact Later.callP (HC1.out _)) | (go_at_call 104; first | with_reducible exact Later.call (HLD.out _)))))
                  refine wpQuiet_nil ?_
                  intro w5 hw'
                  obtain ⟨⟨_, hx5⟩, rfl⟩ := hw'
                  clear hs q0
                  have hX5 : Ext W1 w5 := hX1.trans (hEB.trans hx5)
                  have HO9b := Lib.hid (HO9.out.ext (hEB.trans hx5))
                  have hsB2 : Ext wB w5 := hx5
                  have hB5 : W1.heap.size ≤ w5.heap.size := hX5.size

                  go_wp2_with fail
                  go_roundg (gk-1)
                  case measure => omega
                  case rel => exact ⟨t+1, _, _, by omega, by omega, by go_num, rfl, rfl, hX5, by rw [HST.out, HSN.out]; exact HO9b.out, by rw [HST.out, HSN.out]⟩
                · by_cases hlo : yo < bst
                  · have hlod : decide (yo < bst) = true := by simpa using hlo
                    have HSN := Lib.hid (selStep_new (c := cc) (key := Arc.o) (add := nxW) (S0 := ([] : List Int)) (p := (bst, N2)) (a := ⟨yf, yt, yi, yo⟩) (by rw [HCC.out]; simp) hlo)
                    clear HCC
                    go_upto_region 11 with fail
                    rw [← HWB.out]
                    clear hc0 hc1 hc2 hc3
                    go_wp2_with fail
                    refine wp_region_later (by kernel_rfl) (by kernel_rfl) ?_
                    repeat (go_big_quiet_step ((first | (go_at_call 87; first | with_reducible exact Later.callP (HC1.out _)) | (go_at_call 104; first | with_reducible exact Later.call (HLD.out _)))))
                    refine wpQuiet_nil ?_
                    intro w5 hw'
                    obtain ⟨⟨_, hx5⟩, rfl⟩ := hw'
                    clear hs q0
                    have hX5 : Ext W1 w5 := hX1.trans (hEB.trans hx5)
                    have HO9b := Lib.hid (HO9.out.ext (hEB.trans hx5))
                    have hsB2 : Ext wB w5 := hx5
                    have hB5 : W1.heap.size ≤ w5.heap.size := hX5.size

                    go_wp2_with (at_builtin; refine wpList_appendInt elInts rfl _ _ rfl rfl rfl (OInts.nil _ _ _) rfl hB5 (by simp) ?_; intro v6 w6 ho6 hb6)
                    go_roundg (gk-1)
                    case measure => omega
                    case rel => exact ⟨t+1, _, _, by omega, by omega, by go_num, rfl, rfl, hX5.upto hb6 (Nat.le_refl _), by rw [HST.out, HSN.out]; exact ho6, by rw [HST.out, HSN.out]⟩
                  · have hlod : decide (yo < bst) = false := by simp; omega
                    have HSN := Lib.hid (selStep_add (c := cc) (key := Arc.o) (add := nxW) (S0 := ([] : List Int)) (p := (bst, N2)) (a := ⟨yf, yt, yi, yo⟩) (by rw [HCC.out]; simp) (show yo = bst by omega))
                    clear HCC
                    go_upto_region 11 with fail
                    rw [← HWB.out]
                    clear hc0 hc1 hc2 hc3
                    go_wp2_with fail
                    refine wp_region_later (by kernel_rfl) (by kernel_rfl) ?_
                    repeat (go_big_quiet_step ((first | (go_at_call 87; first | with_reducible exact Later.callP (HC1.out _)) | (go_at_call 104; first | with_reducible exact Later.call (HLD.out _)))))
                    refine wpQuiet_nil ?_
                    intro w5 hw'
                    obtain ⟨⟨_, hx5⟩, rfl⟩ := hw'
                    clear hs q0
                    have hX5 : Ext W1 w5 := hX1.trans (hEB.trans hx5)
                    have HO9b := Lib.hid (HO9.out.ext (hEB.trans hx5))
                    have hsB2 : Ext wB w5 := hx5
                    have hB5 : W1.heap.size ≤ w5.heap.size := hX5.size

                    go_wp2_with (at_builtin; refine wpList_appendInt elInts rfl _ _ rfl rfl rfl HO9b.out rfl hB5 (by omega) ?_; intro v6 w6 ho6 hb6)
                    go_roundg (gk-1)
                    case measure => omega
                    case rel => exact ⟨t+1, _, _, by omega, by omega, by go_num, rfl, rfl, hX5.upto hb6 (Nat.le_refl _), by rw [HST.out, HSN.out]; exact ho6, by rw [HST.out, HSN.out]⟩
            · have hi1 : (yi != us) = true := by simp [hi]
              have HSN := Lib.hid (selStep_no (c := cc) (key := Arc.o) (add := nxW) (S0 := ([] : List Int)) (p := (bst, N2)) (a := ⟨yf, yt, yi, yo⟩) (by rw [HCC.out]; simp [hi]))
              have HI := Lib.hid hi; clear hi HCC
              go_upto_region 11 with fail
              rw [← HWB.out]
              clear hc0 hc1 hc2 hc3
              go_wp2_with fail
              refine wp_region_later (by kernel_rfl) (by kernel_rfl) ?_
              repeat (go_big_quiet_step ((first | (go_at_call 87; first | with_reducible exact Later.callP (HC1.out _)) | (go_at_call 104; first | with_reducible exact Later.call (HLD.out _)))))
              refine wpQuiet_nil ?_
              intro w5 hw'
              obtain ⟨⟨_, hx5⟩, rfl⟩ := hw'
              clear hs q0
              have hX5 : Ext W1 w5 := hX1.trans (hEB.trans hx5)
              have HO9b := Lib.hid (HO9.out.ext (hEB.trans hx5))
              have hsB2 : Ext wB w5 := hx5
              have hB5 : W1.heap.size ≤ w5.heap.size := hX5.size

              go_wp2_with fail
              go_roundg (gk-1)
              case measure => omega
              case rel => exact ⟨t+1, _, _, by omega, by omega, by go_num, rfl, rfl, hX5, by rw [HST.out, HSN.out]; exact HO9b.out, by rw [HST.out, HSN.out]⟩
        · have hSEL : Hid (selTo cc Arc.o nxW [] (m.a.take t) = (bestW m us good S, (m.a.filter fun a => selWP us good N a && a.o == bestW m us good S).map Arc.t)) := Lib.hid (by
            rw [List.take_of_length_le (by omega), selTo_is, ← HCD.out, selH_eq, bestWP_eq HM.out HSS.out]
            unfold nxW; rw [acc_list])
          rw [hSEL.out] at ho11 hv10
          dsimp only at ho11 hv10
          have HNS := Lib.hid (nextWP_same HM.out HSS.out us good)
          obtain ⟨N2, hN2⟩ : ∃ N2, N2 = (m.a.filter fun a => selWP us good N a && a.o == bestW m us good S).map Arc.t := ⟨_, rfl⟩
          rw [← hN2] at ho11 HNS
          subst hv10
          clear hN2 hSEL
          have HO11 := Lib.hid ho11
          obtain ⟨a9, c9, rfl, _, _, _⟩ := ho11.ints.open_
          clear ho11
          generalize bestW m us good S = bst at *
          generalize nextW m us good S = S2 at *
          have hsz : wA.heap.size ≤ wr.heap.size := hEr2.size
          have HO7b := Lib.hid (HO7.out.ext hX1)
          have hLk : L.length ≤ 1000 := by rw [HL.out]; omega
          go_wp2_with (at_builtin; refine wpList_append1G elInts rfl _ _ rfl rfl rfl HO7b.out rfl rfl hsz (by omega) (by omega) ?_; intro g' cap' w6 ho6 hg6 hb6)
          go_roundg (g1-1)
          case measure => omega
          case rel => exact ⟨k+1, _, _, L ++ [bst], N2, S2, by omega, by omega, by go_num, rfl, rfl, hEr2.upto (Below.of_grownBy hg6 HO7b.out hsz) (Nat.le_refl _), by unfold OInts; rw [ints_append, List.length_append]; simpa [ints] using ho6, by rw [List.length_append]; simp [HL.out], (oints_stay HO11.out HO7.out (Nat.le_refl _) hg6).ints, Lib.hid ⟨HNS.out, by rw [List.append_assoc]; exact HNX.out⟩⟩
    · have hku : k = u.length := by omega
      subst hku
      have HEND : Hid (L = writeGo m u (beginB m.s.toNat)) := Lib.hid (by rw [← HGO.out.2, List.drop_length]; simp [writeGo])
      go_wp2_with fail
      go_ret
      exact ⟨_, rfl, by rw [← HEND.out]; exact HO7.out.ints, hE0.trans hEr⟩
end Go.Proofs.Ytodhmkbkcjpnkaa
