/- MachineFeeds: for every input the call returns true. No condition. -/
import Derived.Test.YtodhmkbkcjpnkaaMacS
import Derived.Test.YtodhmkbkcjpnkaaMacN
import Derived.Test.YtodhmkbkcjpnkaaFeedAll
namespace Go.Proofs.Ytodhmkbkcjpnkaa
open Go.RowKit Go.Shelf
set_option linter.unusedVariables false
theorem imgGo_len {n : Nat} {m : Mac} : ∀ (u : List Int) (hs L : List Hd), hs.length ≤ 300 → imgGo n m u hs = some L → L.length ≤ 300
  | [], hs, L, h, he => by
    rw [imgGo] at he; injection he with he; rw [← he]; exact h
  | s :: u, hs, L, h, he => by
    rw [imgGo] at he
    split at he
    · cases he
    · exact imgGo_len u _ L (by omega) he
theorem imagesL_len {m : Mac} {u : List Int} : (imagesL m u).length ≤ 300 := by
  unfold imagesL
  split
  · cases ho : imagesO m.s.toNat m u with
    | none => simp
    | some L =>
      unfold imagesO at ho
      split at ho
      · cases hg : imgGo m.s.toNat m u [([], beginB m.s.toNat)] with
        | none => rw [hg] at ho; cases ho
        | some hs =>
          rw [hg] at ho
          injection ho with ho
          have := imgGo_len u _ hs (by simp) hg
          show L.length ≤ 300
          rw [← ho, List.length_map]; exact this
      · injection ho with ho; rw [← ho]; simp
  · simp
theorem RMac2.open7 {m : Mac} {k : Int} {w w' : World} {e : Ending} (h : RMac2 m k w e w') : ∃ a1 c1 a2 c2, e = .returned (.tuple #[.agg #[.int .i64 m.s, .slice a1 m.a.length c1, .slice a2 m.e.length c2], .int .i64 k]) ∧ MacR w' (.slice a1 m.a.length c1) (.slice a2 m.e.length c2) m ∧ Ext w w' := by
  obtain ⟨av, ev, rfl, hM, hx⟩ := h
  obtain ⟨a1, c1, rfl, _⟩ := hM.a.open_
  obtain ⟨a2, c2, rfl, _⟩ := hM.e.open_
  exact ⟨a1, c1, a2, c2, rfl, hM, hx⟩
set_option maxHeartbeats 4000000 in
set_option maxRecDepth 100000 in
theorem machineFeeds_c (av ev : Value) (m : Mac) (bv fv : Value) (n : Mac) (uv : Value) (u : List Int) (w : World) (h : MacR w av ev m) (k : MacR w bv fv n) (hu : Ints w uv u) :
    Calls Try.prog 15 #[.agg #[.int .i64 m.s, av, ev], .agg #[.int .i64 n.s, bv, fv], uv] w (RV (.bool true) w) := by
  obtain ⟨aa, ca, rfl, hla, hma, HA⟩ := h.a.open_
  obtain ⟨ae, ce, rfl, hle, hme, HE⟩ := h.e.open_
  obtain ⟨ba, da, rfl, hlb, hmb, HB⟩ := k.a.open_
  obtain ⟨be, de, rfl, hlf, hmf, HF⟩ := k.e.open_
  obtain ⟨au, cu, rfl, _, _, _⟩ := hu.open_
  obtain ⟨wA1, hwA1⟩ : ∃ W, W = w.alloc (.cells #[.int .i64 m.s, .slice aa m.a.length ca, .slice ae m.e.length ce] 25) := ⟨_, rfl⟩
  obtain ⟨wA, hwA⟩ : ∃ W, W = wA1.alloc (.cells #[.int .i64 n.s, .slice ba n.a.length da, .slice be n.e.length de] 25) := ⟨_, rfl⟩
  have z1 : wA1.heap.size = w.heap.size + 1 := by rw [hwA1]; simp
  have z2 : wA.heap.size = w.heap.size + 2 := by rw [hwA]; simp [z1]
  have x1_ : Ext w wA1 := by rw [hwA1]; exact Ext.alloc _ _
  have x2_ : Ext wA1 wA := by rw [hwA]; exact Ext.alloc _ _
  have hE0 : Ext w wA := x1_.trans x2_
  have hb1 : Blk wA w.heap.size 25 _ := (show Blk wA1 w.heap.size 25 [.int .i64 m.s, .slice aa m.a.length ca, .slice ae m.e.length ce] by rw [hwA1]; exact Blk.alloc w _ _).ext x2_
  have hb2 : Blk wA (w.heap.size + 1) 25 [.int .i64 n.s, .slice ba n.a.length da, .slice be n.e.length de] := by rw [hwA, ← z1]; exact Blk.alloc wA1 _ _
  have k0 := fun W (hW : Ext wA W) => hW.keep (hb1.cell (i := 0) rfl)
  have k1 := fun W (hW : Ext wA W) => hW.keep (hb1.cell (i := 1) rfl)
  have k2 := fun W (hW : Ext wA W) => hW.keep (hb1.cell (i := 2) rfl)
  have l0 := fun W (hW : Ext wA W) => hW.keep (hb2.cell (i := 0) rfl)
  have l1 := fun W (hW : Ext wA W) => hW.keep (hb2.cell (i := 1) rfl)
  have l2 := fun W (hW : Ext wA W) => hW.keep (hb2.cell (i := 2) rfl)
  have H0 := Ext.refl wA
  have HR := Lib.hid (h.ext hE0)
  have HRN := Lib.hid (k.ext hE0)
  have HIU := Lib.hid (hu.ext hE0)
  have hxL := Ext.alloc wA (.cells #[.slice au u.length cu] 23)
  have HLM := Lib.hid (by have := Long_c _ _ _ m [u] _ (HR.out.ext hxL) (rows_new wA [.slice au u.length cu] [u] (AllInts.cons HIU.out (AllInts.nil _)) (by simp)); rw [z2] at this; exact this)
  have HLN := Lib.hid (fun W (hW : Ext wA W) => Long_c _ _ _ n [] W (HRN.out.ext hW) (Rows.nil W))
  have HW := Lib.hid (show wA = (w.alloc (.cells #[.int .i64 m.s, .slice aa m.a.length ca, .slice ae m.e.length ce] 25)).alloc (.cells #[.int .i64 n.s, .slice ba n.a.length da, .slice be n.e.length de] 25) by rw [hwA, hwA1])
  clear hwA hwA1 z1 z2 x1_ x2_ hb1 hb2 h k hu
  generalize longM m [u] = b1 at *
  generalize longM n [] = b2 at *
  cases b1
  · cases b2
    · go_enter Try.func15, Try.ntmps15
      go_wp2_with fail
      rw [← HW.out]
      refine HLM.out.mono ?_; rintro e w2 ⟨rfl, hx2⟩
      replace hx2 := hxL.trans hx2
      clear HLM
      go_wp2_with fail
      refine (HLN.out w2 hx2).mono ?_; rintro e w3 ⟨rfl, hx3⟩
      have hX3 := hx2.trans hx3
      go_wp2_with fail
      have HFD := Lib.hid (fun h h1 h2 => feeds (m := m) (n := n) (u := u) h h1 h2)
      have HC1 := Lib.hid (Compose_c _ _ _ _ m n w3 (HR.out.ext hX3) (HRN.out.ext hX3))
      have HFD2 : Hid (composeK m n = 0 → imagesK (composeM m n) u = 0 → imagesK m u = 0 → (∀ w ∈ imagesL m u, ∀ v ∈ imagesL (composeM m n) u, checkK n [w, v] = 0) ∧ (∀ v ∈ imagesL (composeM m n) u, ∃ w ∈ imagesL m u, relatesB n w v = true) ∧ (∀ w ∈ imagesL m u, imagesK n w = 0) ∧ (∀ w ∈ imagesL m u, ∀ v ∈ imagesL n w, v ∈ imagesL (composeM m n) u) ∧ (imagesL (composeM m n) u ≠ [] → ∃ w ∈ imagesL m u, imagesL n w ≠ [])) :=
        Lib.hid (fun h h1 h2 => ⟨(HFD.out h h1 h2).check, (HFD.out h h1 h2).some_, (HFD.out h h1 h2).ok, (HFD.out h h1 h2).back, (HFD.out h h1 h2).found⟩)
      clear HFD
      generalize composeM m n = CM at *
      generalize composeK m n = ck at *
      refine HC1.out.mono ?_; intro e w4 hr
      obtain ⟨a4, c4, b4, d4, rfl, hM4, hx4⟩ := hr.open7
      clear hr HC1
      obtain ⟨w5, hw5⟩ : ∃ W, W = w4.alloc (.cells #[.int .i64 CM.s, .slice a4 CM.a.length c4, .slice b4 CM.e.length d4] 25) := ⟨_, rfl⟩
      have hY5 : Ext w4 w5 := by rw [hw5]; exact Ext.alloc _ _
      have p0 : ∀ W, Ext w5 W → W.cell? ⟨w4.heap.size, 0, none⟩ = some (.int .i64 CM.s) := by rw [hw5]; exact kept_alloc w4 _ _ rfl
      have p1 : ∀ W, Ext w5 W → W.cell? ⟨w4.heap.size, 1, none⟩ = some (.slice a4 CM.a.length c4) := by rw [hw5]; exact kept_alloc w4 _ _ rfl
      have p2 : ∀ W, Ext w5 W → W.cell? ⟨w4.heap.size, 2, none⟩ = some (.slice b4 CM.e.length d4) := by rw [hw5]; exact kept_alloc w4 _ _ rfl
      have HM5 := Lib.hid (hM4.ext hY5)
      have hX5 : Ext wA w5 := hX3.trans (hx4.trans hY5)
      have H55 : Ext w5 w5 := Ext.refl _
      have HW5 := Lib.hid hw5; clear hw5 hM4
      by_cases hck : ck = 0
      · subst hck
        go_upto_region 6 with fail
        rw [← HW5.out]
        go_wp2_with fail
        refine (Images_c _ _ _ CM u w5 HM5.out (HIU.out.ext hX5)).mono ?_; rintro e w6 ⟨v6, rfl, hv6, hx6⟩
        have hv6' : Rows w6 v6 _ := hv6
        obtain ⟨a6, c6, rfl, _, _, HA6⟩ := Rows.open_ hv6'
        have HV6 := Lib.hid hv6'; clear hv6 hv6'
        have hX6 := hX5.trans hx6
        go_wp2_with fail
        refine (Images_c _ _ _ m u w6 (HR.out.ext hX6) (HIU.out.ext hX6)).mono ?_; rintro e w7 ⟨v7, rfl, hv7, hx7⟩
        have hv7' : Rows w7 v7 _ := hv7
        obtain ⟨a7, c7, rfl, _, _, HA7⟩ := Rows.open_ hv7'
        have HV7 := Lib.hid hv7'; clear hv7 hv7'
        have hX7 := hX6.trans hx7
        have HX67 := Lib.hid hx7
        generalize imagesL CM u = LA at *
        generalize imagesL m u = LF at *
        generalize imagesK CM u = ik1 at *
        generalize imagesK m u = ik2 at *
        clear p0 p1 p2
        by_cases h1 : ik1 = 0
        · subst h1
          by_cases h2 : ik2 = 0
          · subst h2
            by_cases h40 : 40 < LF.length
            · have hd1 : decide ((LF.length : Int) > 40) = true := by simp; omega
              have hd2 : decide ((40 : Int) < (LF.length : Int)) = true := by simp; omega
              clear h40
              go_wp2_with fail
              refine (sane_c _).mono ?_; rintro e wK ⟨rfl, hxK⟩
              go_wp2_with fail
              go_ret
              exact RV.bool rfl (hE0.trans (hX7.trans hxK))

            · have hd1 : decide ((LF.length : Int) > 40) = false := by simp; omega
              have hd2 : decide ((40 : Int) < (LF.length : Int)) = false := by simp; omega
              obtain ⟨F1, F2, F3, F4, F5⟩ := HFD2.out (by first | exact rfl | exact trivial) (by first | exact rfl | exact trivial) (by first | exact rfl | exact trivial)
              have HF1 := Lib.hid F1
              have HF2 := Lib.hid F2
              have HF3 := Lib.hid F3
              have HF4 := Lib.hid F4
              have HF5 := Lib.hid F5
              clear F1 F2 F3 F4 F5 HFD2
              go_wp2_with fail
              go_loopg [14] LA.length (fun z i wr => ∃ k : Nat, k ≤ LA.length ∧ LA.length ≤ k + z ∧ i = .int .i64 k ∧ Ext w7 wr)
              case atStart => exact ⟨0, by omega, by omega, rfl, Ext.refl _⟩
              case round =>
                obtain ⟨k, hk, hkz, rfl, hX7r⟩ := hrel
                obtain ⟨g1, rfl⟩ : ∃ g : Nat, g = gk := ⟨_, rfl⟩
                have hXr : Ext wA wr := hX7.trans hX7r
                by_cases hlt : k < LA.length
                · obtain ⟨bv6, ov6, rfl, u6, hc6, hi6⟩ := HA6.out k hlt
                  replace hc6 := HX67.out.keep hc6
                  have hiv := Lib.hid (hi6.ext HX67.out)
                  obtain ⟨av6, cv6, rfl, _⟩ := hi6.open_
                  have hmem : LA[k]?.getD [] ∈ LA := by rw [List.getElem?_eq_getElem hlt]; exact List.getElem_mem hlt
                  have HF1k := Lib.hid (fun w hw => HF1.out w hw _ hmem)
                  have HF2k := Lib.hid (HF2.out _ hmem)
                  clear hi6 hmem
                  generalize hy : LA[k]?.getD [] = y at *
                  clear hy
                  go_wp2_with fail
                  go_loopg [16, 15] LF.length (fun z i v15 wr => ∃ (j : Nat) (sb : Bool), j ≤ LF.length ∧ LF.length ≤ j + z ∧ i = .int .i64 j ∧ v15 = .bool sb ∧ Hid (sb = false → ∀ w ∈ LF.take j, relatesB n w y = false) ∧ Ext w7 wr)
                  case atStart => exact ⟨0, false, by omega, by omega, rfl, rfl, Lib.hid (fun _ w hw => by simp at hw), hX7r⟩
                  case round =>
                    clear hX7r hXr
                    obtain ⟨j, sb, hj, hjz, rfl, rfl, HNO, hX7r⟩ := hrel
                    have hXr : Ext wA wr := hX7.trans hX7r
                    by_cases hlj : j < LF.length
                    · cases sb
                      · obtain ⟨bv7, ov7, rfl, u7, hc7, hi7⟩ := HA7.out j hlj
                        have hd6 := hX7r.keep hc6
                        have hd7 := hX7r.keep hc7
                        have hiw := Lib.hid (hi7.ext hX7r)
                        obtain ⟨av7, cv7, rfl, _⟩ := hi7.open_
                        have hmem : LF[j]?.getD [] ∈ LF := by rw [List.getElem?_eq_getElem hlj]; exact List.getElem_mem hlj
                        have hck := HF1k.out _ hmem
                        have HTK : Hid (LF.take (j + 1) = LF.take j ++ [LF[j]?.getD []]) := Lib.hid (take_next hlj [])
                        clear hi7 hmem hc7
                        generalize LF[j]?.getD [] = x at *
                        have HRL := Lib.hid (fun W (hW : Ext wr W) => Relates_c _ _ _ _ n x y W (HRN.out.ext (hXr.trans hW)) (hiw.out.ext hW) (hiv.out.ext (hX7r.trans hW)))
                        rw [hck] at HRL
                        clear hck
                        generalize hrb : relatesB n x y = rb at *
                        have HRB := Lib.hid hrb; clear hrb
                        go_wp2_with fail
                        refine wp_region_peek (Ext wr) (fun _ => True) [] [.look 0, .look 1, .look 2, .look 3, .look 4, .look 5, .look 6, .look 7, .look 8, .go 9, .look 10, .look 11, .look 12, .look 13, .look 14] (by kernel_rfl) (by kernel_rfl) (by intro c a d v w h; cases d <;> exact h) ?_
                        have hd : Ext wr { wr with drawn := wr.drawn + 1 } := drawn_ext wr
                        have hs : ∀ s : InC (Ext wr), Ext wA s.w := fun s => hXr.trans s.h
                        have q0 := fun s : InC (Ext wr) => s.h.keep hd6
                        have q1 := fun s : InC (Ext wr) => s.h.keep hd7
                        generalize { wr with drawn := wr.drawn + 1 } = V1 at *
                        iterate 9 (refine wpPeek_look rfl ‹_› (fun K hK => ?_); go_simp; first | (refine hK _ ?_; clear hK K) | (refine ⟨_, fun _ => rfl, hK _ ?_⟩; clear hK K))
                        refine wpPeek_go rfl rfl (fun K hK => ?_)
                        clear hs q0 q1
                        go_wp2_with fail
                        refine (HRL.out V1 hd).mono ?_; rintro e w8 ⟨rfl, hx8⟩
                        go_wp2_with fail
                        refine ⟨KeepE.of (fun h => h.trans hx8) (fun _ => trivial), ?_⟩
                        replace hd := hd.trans hx8
                        iterate 5 (refine wpPeek_look rfl ‹_› (fun K hK => ?_); go_simp; first | (refine hK _ ?_; clear hK K) | (refine ⟨_, fun _ => rfl, hK _ ?_⟩; clear hK K))
                        refine wpPeek_nil ?_
                        have hX8 := hX7r.trans hd
                        clear hd hd6 hd7
                        go_wp2_with fail
                        go_roundg (gk-1)
                        case measure => omega
                        case rel => exact ⟨j+1, rb, by omega, by omega, by go_num, rfl, Lib.hid (fun hf w hw => by
                          rw [HTK.out, List.mem_append, List.mem_singleton] at hw
                          rcases hw with hw | rfl
                          · exact HNO.out (by first | exact rfl | exact trivial) w hw
                          · rw [HRB.out]; exact hf), hX8⟩
                      · go_wp2_with fail
                        go_roundg (g1-1)
                        case measure => omega
                        case rel => exact ⟨k+1, by omega, by omega, by go_num, hX7r⟩
                    · cases sb
                      · exfalso
                        obtain ⟨w, hw1, hw2⟩ := HF2k.out
                        have := HNO.out (by first | exact rfl | exact trivial) w (by rw [List.take_of_length_le (by omega)]; exact hw1)
                        rw [this] at hw2; cases hw2
                      · go_wp2_with fail
                        go_roundg (g1-1)
                        case measure => omega
                        case rel => exact ⟨k+1, by omega, by omega, by go_num, hX7r⟩
                · go_wp2_with fail
                  clear hlt hk hkz hX7 hXr
                  have hX7 : Ext wA w7 := hX6.trans HX67.out
                  go_loopg [19, 13] LF.length (fun z i v13 wr => ∃ (j : Nat) (c : Nat), j ≤ LF.length ∧ LF.length ≤ j + z ∧ i = .int .i64 j ∧ v13 = .int .i64 c ∧ c ≤ j * 300 ∧ Hid ((∃ w ∈ LF.take j, imagesL n w ≠ []) → 0 < c) ∧ Ext w7 wr)
                  case atStart => exact ⟨0, 0, by omega, by omega, rfl, rfl, by omega, Lib.hid (fun ⟨w, hw, _⟩ => by simp at hw), hX7r⟩
                  case round =>
                    clear hX7r
                    obtain ⟨j, c, hj, hjz, rfl, rfl, hcj, HFO, hX7r⟩ := hrel
                    obtain ⟨g1, rfl⟩ : ∃ g : Nat, g = gk := ⟨_, rfl⟩
                    have hXr : Ext wA wr := hX7.trans hX7r
                    by_cases hlj : j < LF.length
                    · obtain ⟨bv7, ov7, rfl, u7, hc7, hi7⟩ := HA7.out j hlj
                      have hd7 := hX7r.keep hc7
                      have hiw := Lib.hid (hi7.ext hX7r)
                      obtain ⟨av7, cv7, rfl, _⟩ := hi7.open_
                      have hmem : LF[j]?.getD [] ∈ LF := by rw [List.getElem?_eq_getElem hlj]; exact List.getElem_mem hlj
                      have hik := HF3.out _ hmem
                      have HBK := Lib.hid (HF4.out _ hmem)
                      have HTK : Hid (LF.take (j + 1) = LF.take j ++ [LF[j]?.getD []]) := Lib.hid (take_next hlj [])
                      clear hi7 hmem hc7
                      generalize LF[j]?.getD [] = x at *
                      have HIM := Lib.hid (fun W (hW : Ext wr W) => Images_c _ _ _ n x W (HRN.out.ext (hXr.trans hW)) (hiw.out.ext hW))
                      rw [hik] at HIM
                      clear hik
                      have hsl := imagesL_len (m := n) (u := x)
                      generalize hLS : imagesL n x = LS at *
                      have HLS := Lib.hid hLS; clear hLS
                      go_wp2_with fail
                      refine wp_region_peek (Ext wr) (fun _ => True) [] [.look 0, .look 1, .look 2, .look 3, .look 4, .go 5, .look 6, .look 7, .look 8, .look 9, .look 10] (by kernel_rfl) (by kernel_rfl) (by intro c a d v w h; cases d <;> exact h) ?_
                      have hd : Ext wr { wr with drawn := wr.drawn + 1 } := drawn_ext wr
                      have hs : ∀ s : InC (Ext wr), Ext wA s.w := fun s => hXr.trans s.h
                      have q0 := fun s : InC (Ext wr) => s.h.keep hd7
                      generalize { wr with drawn := wr.drawn + 1 } = V1 at *
                      iterate 5 (refine wpPeek_look rfl ‹_› (fun K hK => ?_); go_simp; first | (refine hK _ ?_; clear hK K) | (refine ⟨_, fun _ => rfl, hK _ ?_⟩; clear hK K))
                      refine wpPeek_go rfl rfl (fun K hK => ?_)
                      clear hs q0
                      go_wp2_with fail
                      refine (HIM.out V1 hd).mono ?_; rintro e w8 ⟨v8, rfl, hv8, hx8⟩
                      have hv8' : Rows w8 v8 _ := hv8
                      obtain ⟨a8, c8, rfl, _, _, HA8⟩ := Rows.open_ hv8'
                      clear hv8 hv8'
                      go_wp2_with fail
                      refine ⟨KeepE.of (fun h => h.trans hx8) (fun _ => trivial), ?_⟩
                      replace hd := hd.trans hx8
                      iterate 5 (refine wpPeek_look rfl ‹_› (fun K hK => ?_); go_simp; first | (refine hK _ ?_; clear hK K) | (refine ⟨_, fun _ => rfl, hK _ ?_⟩; clear hK K))
                      refine wpPeek_nil ?_
                      have hX8 := hX7r.trans hd
                      clear hd hd7 hX7r hXr
                      go_wp2_with fail
                      go_loopg [22, 13] LS.length (fun z i v13 wr => ∃ (k : Nat), k ≤ LS.length ∧ LS.length ≤ k + z ∧ i = .int .i64 k ∧ v13 = .int .i64 (c + k : Nat) ∧ Ext w8 wr)
                      case atStart => exact ⟨0, by omega, by omega, rfl, rfl, Ext.refl _⟩
                      case round =>
                        obtain ⟨k, hk, hkz, rfl, rfl, hX8r⟩ := hrel
                        by_cases hlk : k < LS.length
                        · obtain ⟨b9, o9, rfl, u9, hc9, hi9⟩ := HA8.out k hlk
                          replace hc9 := hX8r.keep hc9
                          have hX9 := hX7.trans (hX8.trans hX8r)
                          have hmem : LS[k]?.getD [] ∈ LS := by rw [List.getElem?_eq_getElem hlk]; exact List.getElem_mem hlk
                          have hcon : LA.contains (LS[k]?.getD []) = true := List.contains_iff_mem.2 (HBK.out _ hmem)
                          have HHW := Lib.hid (hasWord_c _ _ LA _ wr (HV6.out.ext (HX67.out.trans (hX8.trans hX8r))) (hi9.ext hX8r))
                          rw [hcon] at HHW
                          obtain ⟨a9, c9, rfl, _⟩ := hi9.open_
                          clear hcon hmem hi9
                          generalize LS[k]?.getD [] = y at *
                          have hwr : IntKind.i64.wrap (((c + k : Nat) : Int) + 1) = ((c + k + 1 : Nat) : Int) := by rw [IntWalk.i64_in _ (by omega)]; omega
                          go_wp2_with fail
                          refine HHW.out.mono ?_; rintro e w9 ⟨rfl, hx9⟩
                          go_wp2_with fail
                          go_roundg (gk-1)
                          case measure => omega
                          case rel => exact ⟨k+1, by omega, by omega, by go_num, by first | rfl | (congr 1; omega) | go_num, hX8r.trans hx9⟩
                        · obtain rfl : k = LS.length := by omega
                          go_wp2_with fail
                          go_roundg (g1-1)
                          case measure => omega
                          case rel => exact ⟨j+1, c + LS.length, by omega, by omega, by go_num, by first | rfl | go_num, by omega, Lib.hid (fun ⟨w, hw, hne⟩ => by
                            rw [HTK.out, List.mem_append, List.mem_singleton] at hw
                            rcases hw with hw | rfl
                            · have := HFO.out ⟨w, hw, hne⟩; omega
                            · rw [HLS.out] at hne
                              have := List.length_pos_iff.2 hne; omega), hX8.trans hX8r⟩
                    · have HFE : Hid (LA ≠ [] → 0 < c) := Lib.hid (fun hne => HFO.out (by rw [List.take_of_length_le (by omega)]; exact HF5.out hne))
                      by_cases hc0 : 0 < c
                      · have hcI : (0 : Int) < (c : Int) := by omega
                        have hd3 : decide ((c : Int) > 0) = true := by simp; omega
                        clear hcj
                        go_wp2_with fail
                        refine (sane_c _).mono ?_; rintro e wK ⟨rfl, hxK⟩
                        go_wp2_with fail
                        go_ret
                        exact RV.bool rfl (hE0.trans (hXr.trans hxK))
                      · obtain rfl : LA = [] := by
                          cases LA with
                          | nil => rfl
                          | cons a l => exact absurd (HFE.out (by simp)) hc0
                        obtain rfl : c = 0 := by omega
                        clear hcj
                        go_wp2_with fail
                        refine (sane_c _).mono ?_; rintro e wK ⟨rfl, hxK⟩
                        go_wp2_with fail
                        go_ret
                        exact RV.bool rfl (hE0.trans (hXr.trans hxK))

          · have hk : (ik2 != 0) = true := by simp [h2]
            clear h2 HFD2
            go_wp2_with fail
            refine (sane_c _).mono ?_; rintro e wK ⟨rfl, hxK⟩
            go_wp2_with fail
            go_ret
            exact RV.bool rfl (hE0.trans (hX7.trans hxK))

        · have hk : (ik1 != 0) = true := by simp [h1]
          clear h1 HFD2
          go_wp2_with fail
          refine (sane_c _).mono ?_; rintro e wK ⟨rfl, hxK⟩
          go_wp2_with fail
          go_ret
          exact RV.bool rfl (hE0.trans (hX7.trans hxK))

      · have hk : (ck != 0) = true := by simp [hck]
        clear hck HFD2
        go_upto_region 4 with fail
        rw [← HW5.out]
        go_wp2_with fail
        refine (sane_c _).mono ?_; rintro e wK ⟨rfl, hxK⟩
        go_wp2_with fail
        go_ret
        exact RV.bool rfl (hE0.trans (hX5.trans hxK))

    · go_enter Try.func15, Try.ntmps15
      go_wp2_with fail
      rw [← HW.out]
      refine HLM.out.mono ?_; rintro e w2 ⟨rfl, hx2⟩
      replace hx2 := hxL.trans hx2
      go_wp2_with fail
      refine (HLN.out w2 hx2).mono ?_; rintro e w3 ⟨rfl, hx3⟩
      have hX3 := hx2.trans hx3
      go_wp2_with fail
      refine (sane_c _).mono ?_; rintro e wK ⟨rfl, hxK⟩
      go_wp2_with fail
      go_ret
      exact RV.bool rfl (hE0.trans (hX3.trans hxK))

  · go_enter Try.func15, Try.ntmps15
    go_wp2_with fail
    rw [← HW.out]
    refine HLM.out.mono ?_; rintro e w2 ⟨rfl, hx2⟩
    replace hx2 := hxL.trans hx2
    go_wp2_with fail
    refine (sane_c _).mono ?_; rintro e wK ⟨rfl, hxK⟩
    go_wp2_with fail
    go_ret
    exact RV.bool rfl (hE0.trans (hx2.trans hxK))

end Go.Proofs.Ytodhmkbkcjpnkaa
