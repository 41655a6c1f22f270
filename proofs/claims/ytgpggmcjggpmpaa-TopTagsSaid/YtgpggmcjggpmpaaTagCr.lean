/- A lexicon copied into new memory: Copy of the reference. -/
import Derived.Test.YtgpggmcjggpmpaaTagCp
namespace Go.Proofs.Ytgpggmcjggpmpaa
open Go.RowKit Go.Shelf
set_option linter.unusedVariables false

set_option maxHeartbeats 8000000 in
set_option maxRecDepth 100000 in
theorem rCopy_c (iv fv : Value) (l : Lex) (w : World) (h : LexR w iv fv l) (hbd : (∀ j, j < l.i.length → (itm l.i j).w.length ≤ 1000) ∧ (∀ j, j < l.f.length → (l.f[j]?.getD []).length ≤ 1000) ∧ l.i.length ≤ 1000 ∧ l.f.length ≤ 1000) : Calls Try.prog 45 #[.agg #[iv, fv]] w (RLexC l w) := by
  obtain ⟨wL, hwL⟩ : ∃ wL, wL = w.alloc (.cells #[iv, fv] 25) := ⟨_, rfl⟩
  have hE0 : Ext w wL := by rw [hwL]; exact Ext.alloc _ _
  have hzL : wL.heap.size = w.heap.size + 1 := by rw [hwL]; simp
  have k0 : ∀ W, Ext wL W → W.cell? ⟨w.heap.size, 0, none⟩ = some iv := by rw [hwL]; exact kept_alloc w _ _ rfl
  have k1 : ∀ W, Ext wL W → W.cell? ⟨w.heap.size, 1, none⟩ = some fv := by rw [hwL]; exact kept_alloc w _ _ rfl
  obtain ⟨wM, hwM⟩ : ∃ wM, wM = wL.alloc (.cells #[.slice none 0 0, .slice none 0 0] 25) := ⟨_, rfl⟩
  have hzM : wM.heap.size = w.heap.size + 1 + 1 := by rw [hwM]; simp [hzL]
  have hbM : Blk wM (w.heap.size + 1) 25 [.slice none 0 0, .slice none 0 0] := by rw [hwM, ← hzL]; exact Blk.alloc _ _ _
  have hEM : Ext wL wM := by rw [hwM]; exact Ext.alloc _ _
  obtain ⟨wA, hwA⟩ : ∃ wA, wA = wM.alloc (.cells #[.slice none 0 0, .slice none 0 0] 25) := ⟨_, rfl⟩
  have hbA : Blk wA (w.heap.size + 1 + 1) 25 [.slice none 0 0, .slice none 0 0] := by rw [hwA, ← hzM]; exact Blk.alloc _ _ _
  have hEA : Ext wM wA := by rw [hwA]; exact Ext.alloc _ _
  have HS0 : Hid (CpS w wL wA (.slice none 0 0) (.slice none 0 0) ⟨[], []⟩) := Lib.hid ⟨hEM.trans hEA, hbM.ext hEA, hbA, OLex.nil _ _⟩
  have HWW : Hid (wA = ((w.alloc (.cells #[iv, fv] 25)).alloc (.cells #[.slice none 0 0, .slice none 0 0] 25)).alloc (.cells #[.slice none 0 0, .slice none 0 0] 25)) := Lib.hid (by rw [hwA, hwM, hwL])
  have hXA : Ext wL wA := hEM.trans hEA
  have hLR := h.ext hE0
  obtain ⟨ai, ci, rfl, hli, hmi, HI⟩ := hLR.i.open_
  obtain ⟨af, cf, rfl, hlf, hmf, HF⟩ := Rows.open_ hLR.f
  have HZL := Lib.hid hzL
  have hwz : w.heap.size + 1 ≤ wL.heap.size := by omega
  have hzw : wL.heap.size ≤ w.heap.size + 1 := by omega
  have HBD := Lib.hid hbd
  clear hwL hwM hwA hbM hEM hbA hEA hzM hzL hLR h wM hbd
  go_enter Try.func45, Try.ntmps45
  go_wp2_with fail
  rw [← HWW.out]
  go_loopg [4] l.i.length (fun z jj wr => ∃ (k : Nat) (iv : Value), k ≤ l.i.length ∧ l.i.length ≤ k + z ∧ jj = .int .i64 k ∧ CpS w wL wr iv (.slice none 0 0) ⟨l.i.take k, []⟩)
  case atStart => exact ⟨0, _, by omega, by omega, rfl, by rw [List.take_zero]; exact HS0.out⟩
  case round =>
    clear HS0 hXA
    obtain ⟨k, iv, hk, hkz, rfl, hS⟩ := hrel
    have hX := hS.x
    by_cases hlt : k < l.i.length
    · obtain ⟨bi, oi, rfl, u, hc0, hu, hc1, hc2⟩ := HI.out k hlt
      replace hc0 := hX.keep hc0
      replace hc1 := hX.keep hc1
      replace hc2 := hX.keep hc2
      have hwl : (itm l.i k).w.length ≤ 1000 := HBD.out.1 k hlt
      have hnl := HBD.out.2.2.1
      have HT := Lib.hid (take_itm l.i hlt)
      have htl : (l.i.take k).length = k := by simp; omega
      have HTL := Lib.hid htl
      have HU := Lib.hid (hu.ext hX)
      obtain ⟨au, cu, rfl, _, _, _⟩ := hu.open_
      clear hu
      obtain ⟨us, vs, hO⟩ := hS.l
      obtain rfl : vs = [] := List.length_eq_zero_iff.1 (by rw [hO.len.2]; rfl)
      obtain ⟨a0, c0, hiv, _, _, _⟩ := ownsRow_form hO.i
      have hivl : (Lex.mk (l.i.take k) []).i.length = k := htl
      rw [hivl] at hiv
      generalize hxx : itm l.i k = x at *
      have HXX := Lib.hid hxx; clear hxx
      have hkI : (k : Int) < (l.i.length : Int) := by omega
      have hEB : Ext wr (wr.alloc (.cells #[.slice au x.w.length cu, .int .i64 x.k, .int .i64 x.c] 28)) := Ext.alloc _ _
      have hb0 : Blk (wr.alloc (.cells #[.slice au x.w.length cu, .int .i64 x.k, .int .i64 x.c] 28)) wr.heap.size 28 [.slice au x.w.length cu, .int .i64 x.k, .int .i64 x.c] := Blk.alloc wr _ _
      have HO := Lib.hid hO
      have HS := Lib.hid hS
      have hsz := hX.size
      have HZB : Hid ((wr.alloc (.cells #[.slice au x.w.length cu, .int .i64 x.k, .int .i64 x.c] 28)).heap.size = wr.heap.size + 1) := Lib.hid (by simp)
      have HB0 := Lib.hid hb0
      have q0 := hb0.cell (i := 0) rfl
      have q1 := hb0.frozen 0
      have hXB := hX.trans hEB
      clear hO hS hb0 hivl htl
      subst hiv
      have HEB2 : Ext wr ((wr.alloc (.cells #[.slice au x.w.length cu, .int .i64 x.k, .int .i64 x.c] 28)).alloc (.cells #[] 3)) := hEB.trans (Ext.alloc _ _)
      have HRW := Lib.hid ((HU.out.ext HEB2).raw)
      have HEM := Lib.hid (empty_row (wr.alloc (.cells #[.slice au x.w.length cu, .int .i64 x.k, .int .i64 x.c] 28)))
      rw [HZB.out] at HEM
      have hzE : wr.heap.size + 1 ≤ ((wr.alloc (.cells #[.slice au x.w.length cu, .int .i64 x.k, .int .i64 x.c] 28)).alloc (.cells #[] 3)).heap.size := by simp
      have q3 := (Ext.alloc (wr.alloc (.cells #[.slice au x.w.length cu, .int .i64 x.k, .int .i64 x.c] 28)) (.cells #[] 3)).keep q0
      have hEBB : Ext (wr.alloc (.cells #[.slice au x.w.length cu, .int .i64 x.k, .int .i64 x.c] 28)) ((wr.alloc (.cells #[.slice au x.w.length cu, .int .i64 x.k, .int .i64 x.c] 28)).alloc (.cells #[] 3)) := Ext.alloc _ _
      have hXB2 := hX.trans HEB2
      go_wp2_with (at_builtin; first | (refine wpList_appendAll (m := x.w.length) (B := wr.heap.size + 1) elInts rfl (.tmp 19) (.tmp 21) rfl rfl rfl HEM.out HRW.out (ints_one _) hzE (by simp only [List.length_nil]; omega) (by simp only [List.length_nil]; omega) ?_; intro v9 W9 ho9 hb9; have hxB9 : Ext (wr.alloc (.cells #[.slice au x.w.length cu, .int .i64 x.k, .int .i64 x.c] 28)) W9 := hEBB.upto hb9 (Nat.le_of_eq HZB.out); have ho9b : OInts 3 W9 (wr.heap.size + 1) v9 x.w := (by unfold OInts; have h9 := ho9; rw [List.length_nil, Nat.zero_add] at h9; exact h9); have hne9 : v9.ownBlock ≠ some wr.heap.size := (fun hb => by have h1 := (ho9b.blkInt hb).1; omega); have hO9 : OInts 3 W9 wr.heap.size v9 x.w := ownsRow_low ho9b (Nat.le_succ _); clear ho9 ho9b hb9; obtain ⟨a9, c9, rfl, _, _, _⟩ := hO9.ints.open_; have hb9 := HB0.out.ext hxB9; have hE9 := hEB.trans hxB9; have f0 := hb9.frozen 0; have g0 := hb9.cell (i := 0) rfl; have hb10 : Blk (W9.setCell ⟨wr.heap.size, 0, none⟩ (.slice a9 x.w.length c9)) wr.heap.size 28 [.slice a9 x.w.length c9, .int .i64 x.k, .int .i64 x.c] := (by have := hb9.set 0 (.slice a9 x.w.length c9); exact this); have hE10 : Ext wr (W9.setCell ⟨wr.heap.size, 0, none⟩ (.slice a9 x.w.length c9)) := hE9.setCell (Nat.le_refl _) _ _; have hE11 : Ext wr ((W9.setCell ⟨wr.heap.size, 0, none⟩ (.slice a9 x.w.length c9)).alloc (.cells #[.slice a9 x.w.length c9, .int .i64 x.k, .int .i64 x.c] 28)) := hE10.trans (Ext.alloc _ _); have hO10 : OInts 3 (W9.setCell ⟨wr.heap.size, 0, none⟩ (.slice a9 x.w.length c9)) wr.heap.size (.slice a9 x.w.length c9) x.w := hO9.keptB (grownBy_set _ _ _ _) (fun r e => by injection e with e; subst e; exact hne9); have HO11 := Lib.hid (hO10.alloc (.cells #[.slice a9 x.w.length c9, .int .i64 x.k, .int .i64 x.c] 28)); have p0 := hb10.cell (i := 0) rfl; have p1 := hb10.cell (i := 1) rfl; have p2 := hb10.cell (i := 2) rfl; have ho10 := (HS.out.ext hE10).o; have o0 := ho10.cell (i := 0) rfl; have hX11 := hX.trans hE11; have hsz11 := hX11.size; have hcN : Blk ((W9.setCell ⟨wr.heap.size, 0, none⟩ (.slice a9 x.w.length c9)).alloc (.cells #[.slice a9 x.w.length c9, .int .i64 x.k, .int .i64 x.c] 28)) W9.heap.size 28 [.slice a9 x.w.length c9, .int .i64 x.k, .int .i64 x.c] := (by have := Blk.alloc (W9.setCell ⟨wr.heap.size, 0, none⟩ (.slice a9 x.w.length c9)) #[.slice a9 x.w.length c9, .int .i64 x.k, .int .i64 x.c] 28; rwa [show (W9.setCell ⟨wr.heap.size, 0, none⟩ (.slice a9 x.w.length c9)).heap.size = W9.heap.size by simp] at this); have HCN := Lib.hid hcN; have HOI := Lib.hid (by have := (HO.out.ext hE11).i; rw [show (Lex.mk (l.i.take k) []).i.length = k from HTL.out] at this; exact this); have HE11 := Lib.hid hE11; clear hb9 hO9 hb10 hO10 ho10 hE9 hE10 hE11 hcN hne9) | (refine wpList_appendN elItems rfl _ _ rfl rfl rfl HOI.out rfl HCN.out (by intro u hu; simp only [List.mem_cons, List.not_mem_nil, or_false] at hu; rcases hu with rfl | rfl | rfl <;> rfl) hsz11 (by omega) (by omega) ?_; intro g' cap' W12 ho12 hg12; have hcp := CpS.item (x := x) HTL.out.symm HS.out HO.out HE11.out HZL.out HO11.out ho12 hg12; have hq12 := hcp.1.cell (i := 0) rfl; have hf12 := hcp.1.frozen 0; have HCP := Lib.hid hcp.2; clear hcp ho12 hg12))
      clear q0 q1 g0 f0 p0 p1 p2 o0
      go_roundg (gk-1)
      case measure => omega
      case rel => exact ⟨k+1, _, by omega, by omega, by go_num, by rw [HT.out]; exact HCP.out⟩
    · have hkl : k = l.i.length := by omega
      subst hkl
      rw [List.take_length] at hS
      have HS := Lib.hid hS; clear hS
      go_wp2_with fail
      go_loopg [6] l.f.length (fun z jj wr => ∃ (k : Nat) (fo : Value), k ≤ l.f.length ∧ l.f.length ≤ k + z ∧ jj = .int .i64 k ∧ CpS w wL wr iv fo ⟨l.i, l.f.take k⟩)
      case atStart => exact ⟨0, _, by omega, by omega, rfl, by rw [List.take_zero]; exact HS.out⟩
      case round =>
        clear HS hX
        obtain ⟨k, fo, hk, hkz, rfl, hS⟩ := hrel
        have hX := hS.x
        by_cases hlt : k < l.f.length
        · obtain ⟨bf, of, rfl, u, hc0, hu⟩ := HF.out k hlt
          have hrl : (l.f[k]?.getD []).length ≤ 1000 := HBD.out.2.1 k hlt
          have hnl := HBD.out.2.2.2
          have HT := Lib.hid (take_row l.f hlt)
          have htl : (l.f.take k).length = k := by simp; omega
          have HTL := Lib.hid htl
          have HU := Lib.hid (hu.ext hX)
          obtain ⟨au, cu, rfl, _, _, _⟩ := hu.open_
          clear hu
          obtain ⟨us, vs, hO⟩ := hS.l
          obtain ⟨a0, c0, hfv, _, _, _⟩ := ownsRow_form hO.f
          have hfl : (Lex.mk l.i (l.f.take k)).f.length = k := htl
          rw [hfl] at hfv
          generalize l.f[k]?.getD [] = x at *
          have hkI : (k : Int) < (l.f.length : Int) := by omega
          have HO := Lib.hid hO
          have HS := Lib.hid hS
          have hsz := hX.size
          have HOB := Lib.hid hS.o
          have hltL : bf < wL.heap.size := by have := cell_lt hc0; exact this
          have hcr := hX.keep hc0
          have hl0 := k0 wr hX
          have hl1 := k1 wr hX
          have hwz := HZL.out
          clear hO hS htl hfl
          subst hfv
          go_wp2_with fail
          refine wp_region_play wr.heap.size [10, 12] [.calc 0, .look 1, .calc 3, .look 4, .calc 5, .calc 6, .look 7, .go 2, .go 8, .go 9, .go 10, .calc 11, .go 12] (by kernel_rfl) (by kernel_rfl) (by intro c a d v w h; cases d <;> exact h) ?_
          have hd : Ext wr { wr with drawn := wr.drawn + 1 } := drawn_ext wr
          have hzd : ({ wr with drawn := wr.drawn + 1 } : World).heap.size = wr.heap.size := rfl
          generalize { wr with drawn := wr.drawn + 1 } = W1 at *
          have hob := HOB.out.ext hd
          have o1 := hob.cell (i := 1) rfl
          have hcd := hd.keep hcr
          have hl1d := hd.keep hl1
          have hlto : w.heap.size + 1 + 1 < wr.heap.size := HOB.out.lt
          have qo := fun s : Since wr.heap.size W1 => s.keep hlto o1
          have ql := fun s : Since wr.heap.size W1 => s.keep (by show w.heap.size < _; omega) hl1d
          have qc := fun s : Since wr.heap.size W1 => s.keep (by show bf < _; omega) hcd
          (refine wpPlay_calc rfl (fun K hK => ?_); go_simp; first | (refine hK _ ?_; clear hK K) | (refine ⟨_, fun _ => rfl, hK _ ?_⟩; clear hK K))
          (refine wpPlay_look rfl (fun K hK => ?_); go_simp; first | (refine hK _ ?_; clear hK K) | (refine ⟨_, fun _ => rfl, hK _ ?_⟩; clear hK K))
          (refine wpPlay_calc rfl (fun K hK => ?_); go_simp; first | (refine hK _ ?_; clear hK K) | (refine ⟨_, fun _ => rfl, hK _ ?_⟩; clear hK K))
          (refine wpPlay_look rfl (fun K hK => ?_); go_simp; first | (refine hK _ ?_; clear hK K) | (refine ⟨_, fun _ => rfl, hK _ ?_⟩; clear hK K))
          (refine wpPlay_calc rfl (fun K hK => ?_); go_simp; first | (refine hK _ ?_; clear hK K) | (refine ⟨_, fun _ => rfl, hK _ ?_⟩; clear hK K))
          (refine wpPlay_calc rfl (fun K hK => ?_); go_simp; first | (refine hK _ ?_; clear hK K) | (refine ⟨_, fun _ => rfl, hK _ ?_⟩; clear hK K))
          (refine wpPlay_look rfl (fun K hK => ?_); go_simp; first | (refine hK _ ?_; clear hK K) | (refine ⟨_, fun _ => rfl, hK _ ?_⟩; clear hK K))
          clear qo ql qc
          refine wpPlay_go rfl rfl (fun K hK => ?_)
          go_wp2_with fail
          refine ⟨.inr ((Ext.alloc _ _).mono (by omega)), ?_⟩
          have hEe : Ext wr (W1.alloc (.cells #[] 3)) := hd.trans (Ext.alloc _ _)
          have HEM := Lib.hid (by have := empty_row W1; rw [hzd] at this; exact this)
          have HRW := Lib.hid (((HU.out.ext hEe)).raw)
          have hze : wr.heap.size ≤ (W1.alloc (.cells #[] 3)).heap.size := by simp; omega
          refine wpPlay_go rfl rfl (fun K hK => ?_)
          refine wpList_appendAll (m := x.length) (B := wr.heap.size) elInts rfl (.tmp 39) (.tmp 44) rfl rfl rfl HEM.out HRW.out (ints_one _) hze (by simp only [List.length_nil]; omega) (by simp only [List.length_nil]; omega) (fun v2 W2 ho2 hb2 => ?_)
          have hx2 : Ext W1 W2 := (Ext.alloc W1 (.cells #[] 3)).upto hb2 (by omega)
          have hO2 : OInts 3 W2 wr.heap.size v2 x := by
            have h9 := ho2; rw [List.length_nil, Nat.zero_add] at h9
            exact ownsRow_low h9 (by omega)
          have hE2 := hd.trans hx2
          obtain ⟨a2, c2, rfl, _, _, _⟩ := hO2.ints.open_
          have HO2 := Lib.hid hO2
          have hzb := hb2
          clear ho2 hO2 hb2
          go_wp2_with fail
          refine ⟨.inr hzb, ?_⟩
          clear hzb
          refine wpPlay_go rfl rfl (fun K hK => ?_)
          go_wp2_with fail
          have hz2 := hE2.size
          refine ⟨.inr ((Ext.alloc _ _).mono (by omega)), ?_⟩
          have hE3 : Ext wr (W2.alloc (.cells #[.slice a2 x.length c2] 26)) := hE2.trans (Ext.alloc _ _)
          have hX3 := hX.trans hE3
          have hsz3 := hX3.size
          have HOF := Lib.hid (by have := (HO.out.ext hE3).f; rw [show (Lex.mk l.i (l.f.take k)).f.length = k from HTL.out] at this; exact this)
          have HO3 := Lib.hid (HO2.out.alloc (.cells #[.slice a2 x.length c2] 26))
          refine wpPlay_go rfl rfl (fun K hK => ?_)
          refine wpList_appendN elRows rfl (.tmp 38) (.tmp 46) rfl rfl rfl HOF.out rfl (Blk.alloc W2 #[.slice a2 x.length c2] 26) (by intro u hu; simp only [List.mem_cons, List.not_mem_nil, or_false] at hu; subst hu; rfl) hsz3 (by omega) (by omega) (fun g' cap' W4 ho4 hg4 => ?_)
          have hcp := CpS.row HTL.out.symm HS.out HO.out hE3 HZL.out HO3.out ho4 hg4
          have hq4 := hcp.1.cell (i := 1) rfl
          have hf4 := hcp.1.frozen 1
          have HCP := Lib.hid hcp.2
          clear hcp ho4 hg4 HOF HO3
          go_wp2_with fail
          try refine ⟨.inl (by decide), ?_⟩
          (refine wpPlay_calc rfl (fun K hK => ?_); go_simp; first | (refine hK _ ?_; clear hK K) | (refine ⟨_, fun _ => rfl, hK _ ?_⟩; clear hK K))
          refine wpPlay_go rfl rfl (fun K hK => ?_)
          go_wp2_with fail
          refine ⟨.inl (by decide), ?_⟩
          refine wpPlay_nil ?_
          go_wp2_with fail
          go_roundg (gk-1)
          case measure => omega
          case rel => exact ⟨k+1, _, by omega, by omega, by go_num, by rw [HT.out]; exact HCP.out⟩
        · have hkl : k = l.f.length := by omega
          subst hkl
          rw [List.take_length] at hS
          have d0 := hS.o.cell (i := 0) rfl
          have d1 := hS.o.cell (i := 1) rfl
          have r0 := hS.r.cell (i := 0) rfl
          have r1 := hS.r.cell (i := 1) rfl
          have rf0 := hS.r.frozen 0
          have rf1 := hS.r.frozen 1
          have hr2 : Blk ((wr.setCell ⟨w.heap.size + 1, 0, none⟩ iv).setCell ⟨w.heap.size + 1, 1, none⟩ fo) (w.heap.size + 1) 25 [iv, fo] := by have := (hS.r.set 0 iv).set 1 fo; exact this
          have e0 := hr2.cell (i := 0) rfl
          have e1 := hr2.cell (i := 1) rfl
          obtain ⟨us, vs, hO⟩ := hS.l
          have hO1 := hO.keptN (grownBy_set wr (w.heap.size + 1) 0 iv) hS.r ⟨by decide, by decide, by decide⟩
          have hO2 := hO1.keptN (grownBy_set _ (w.heap.size + 1) 1 fo) (by have := hS.r.set 0 iv; exact this) ⟨by decide, by decide, by decide⟩
          have HOL := Lib.hid (OLex.low ⟨us, vs, hO2⟩ hE0.size)
          have HXE := Lib.hid (((hE0.trans hX).setCell (by omega : w.heap.size ≤ w.heap.size + 1) 0 iv).setCell (by omega : w.heap.size ≤ w.heap.size + 1) 1 fo)
          obtain ⟨ai2, ci2, hiv2, _⟩ := ownsRow_form hO.i
          obtain ⟨af2, cf2, hfv2, _⟩ := ownsRow_form hO.f
          subst hiv2 hfv2
          clear hS hO hO1 hO2 hr2
          go_wp2_with fail
          refine bodyPost_ret (v := .agg #[.slice ai2 l.i.length ci2, .slice af2 l.f.length cf2]) (by simp [results, Try.results45, go_sem, e0, e1]) rfl ?_
          exact ⟨_, _, rfl, HOL.out, HXE.out⟩
end Go.Proofs.Ytgpggmcjggpmpaa
