/- Audit of a school. -/
import Derived.Test.YtpmlcfgbfhgpgaaGreatDoorLaw9K
import Derived.Test.YtpmlcfgbfhgpgaaGreatDoorJoinC
namespace Go.Proofs.YtpmlcfgbfhgpgaaGreatDoor
open Go.RowKit Go.Shelf
set_option linter.unusedVariables false
theorem rows_take {w : World} {a : Option Addr} {n c m : Nat} {l : List (List Int)} (h : Rows w (.slice a n c) l) (hm : m ≤ l.length) : Rows w (.slice a m c) (l.take m) := by
  obtain ⟨a', c', hv, h1, h2, H⟩ := h
  injection hv with e1 e2 e3
  subst e1 e2 e3
  have hl : (l.take m).length = m := by rw [List.length_take]; omega
  refine ⟨a, c, by rw [hl], by rw [hl]; omega, h2, fun i hi => ?_⟩
  rw [hl] at hi
  obtain ⟨b, o, ha, u, hc, hu⟩ := H i (by omega)
  exact ⟨b, o, ha, u, hc, by rw [List.getElem?_take_of_lt hi]; exact hu⟩
theorem nodup_take {l : List (List Int)} (h : l.Nodup) {k : Nat} (hk : k < l.length) : (l.take k).contains (l[k]?.getD []) = false := by
  cases e : (l.take k).contains (l[k]?.getD [])
  · rfl
  · exfalso
    rw [List.getElem?_eq_getElem hk, Option.getD_some] at e
    obtain ⟨i, hi, hx⟩ := List.mem_iff_getElem.1 (List.contains_iff_mem.1 e)
    rw [List.length_take] at hi
    rw [List.getElem_take] at hx
    unfold List.Nodup at h
    rw [List.pairwise_iff_getElem] at h
    exact h i k (by omega) hk (by omega) hx
theorem book_read {s : List Rul} {x : St} (h : Inv s x) : readOrders (bookB x.orders) = x.orders ∧ (readB (bookB x.orders)).2 = [] ∧ (bookB x.orders).length ≤ 3900 := by
  have hR : ∀ o ∈ x.orders.map txt, rightB o = true := by
    intro o ho
    obtain ⟨t, ht, rfl⟩ := List.mem_map.1 ho
    exact h.right t ht
  have hl := h.olen
  have hread := readB_text hR (by simp; omega)
  refine ⟨?_, ?_, ?_⟩
  · unfold readOrders bookB; rw [hread]; exact map_ofBs _
  · unfold bookB; rw [hread]
  · have := textF_short (x.orders.map txt) 0 hR
    unfold bookB; simp at this ⊢; omega
theorem ok_at {s : List Rul} {L : List ByteArray} (h : okS s st0 L = true) {k : Nat} {t : ByteArray} (hk : L[k]? = some t) : (doS s (runS s st0 (L.take k)) t).2 = 0 := by
  have hlt : k < L.length := by
    rcases Nat.lt_or_ge k L.length with h | h
    · exact h
    · rw [List.getElem?_eq_none h] at hk; cases hk
  rw [List.getElem?_eq_getElem hlt] at hk
  injection hk with hk
  rw [← List.take_append_drop k L, okS_append, List.drop_eq_getElem_cons hlt, hk, Bool.and_eq_true] at h
  have h2 := h.2
  simp only [okS, Bool.and_eq_true, beq_iff_eq] at h2
  exact h2.1
set_option maxHeartbeats 16000000 in
set_option maxRecDepth 100000 in
theorem Audit_c {S : Nat → Bool} {b : Nat} {m1 rv : Value} {v : SV} {x : St} {s : List Rul} {w : World} (h : SchF S b m1 rv v x s w) (hM : MadeS s x) (hE : Env w) (hT : ErrT w) (h7 : 7 ≤ w.heap.size) :
    Calls Tryz.prog 58 #[.pointer (some ⟨b, 0, none⟩)] w (RV (.bool true) w) := by
  have HL := Lib.hid (look_c h)
  have HI := Lib.hid h.hI
  have hfull := h.hs.sub (hole_sub S w)
  have HST := Lib.hid hfull
  obtain ⟨q1, q2, q3⟩ := book_read h.hI
  have HWR0 : Hid (∀ W, Ext w W → Calls Tryz.prog 77 #[v.orders] W (RV (.string ⟨(bookB x.orders).toArray⟩) W)) := Lib.hid (fun W q => write_c v.orders x.orders W (hfull.orders.ext q) (hE.ext q) (fun t ht => by have := h.hI.bookOk.1 t ht; omega) (by have := h.hI.olen; omega))
  have hb2 := h.hb.cell (i := 2) rfl
  have hrr := h.hr.sub (hole_sub S w)
  have hRP := fun W (q : Ext w W) => Replay_c S rv s ⟨(bookB x.orders).toArray⟩ W (fun k hk => Nat.lt_of_lt_of_le (h.hSl k hk) q.size) (hrr.ext q) (hE.ext q) (hT.ext q) (Nat.le_trans h7 q.size) (by rw [show (⟨(bookB x.orders).toArray⟩ : ByteArray).size = (bookB x.orders).length from ofBs_size _]; omega)
  rw [show txt (⟨(bookB x.orders).toArray⟩ : ByteArray) = bookB x.orders from txt_of _, q1, q2] at hRP
  have HRES : Hid (∀ (e : Ending) (w0 w' : World), RRepL S s x.orders [] w0 e w' → Ext w0 w' ∧ ∃ g2 m2 rv2 v2, w0.heap.size ≤ g2 ∧ e = .returned (.tuple #[.pointer (some ⟨g2, 0, none⟩), .int .i64 x.orders.length, .int .i64 0]) ∧ SchF (more S g2) g2 m2 rv2 v2 x s w') := Lib.hid (fun e w0 w' hres => by
    obtain ⟨hx, hres⟩ := hres
    refine ⟨hx, ?_⟩
    rcases hres with ⟨h0, _⟩ | ⟨_, h0, _⟩ | ⟨_, _, k, t, h1, _, h2, _⟩ | ⟨_, _, _, g2, m2, rv2, v2, h1, h2, h3⟩
    · exact absurd h.hI.rules h0
    · exact absurd rfl h0
    · exact absurd (ok_at hM.ok h1) h2
    · rw [hM.run] at h3; exact ⟨g2, m2, rv2, v2, h1, h2, h3⟩)
  have HRP0 := Lib.hid hRP; clear hRP q1 q2 q3
  obtain ⟨ar, cr, hrv, _, _, HRL⟩ := hrr.lit
  subst hrv
  obtain ⟨b0, d0, b1, d1, b2, d2, b3, d3, b4, d4, b5, d5, b6, d6, hvl⟩ := SV.lit h.hs
  subst hvl
  simp only [SV.cells] at HL
  have hf := hfull.forms
  have hsl := hfull.slate
  have hba := hfull.base
  have HBW := fun (hh : x.has = true) => word_c _ x w hfull (by have := h.hI.wlen hh; omega)
  dsimp only at hf hsl hba HWR0 HST
  have HIh := HI.out.toInvE
  clear h hfull hE hT hrr hM
  obtain ⟨bo, hbo⟩ : ∃ bo, bo = x.has := ⟨_, rfl⟩
  rw [← hbo] at HL
  have HBO := Lib.hid hbo; clear hbo
  cases bo with
  | false =>
    clear HBW HIh
    go_enter Tryz.func58, Tryz.ntmps58
    go_wp2_with fail
    refine HL.out.mono ?_; rintro e w1 ⟨rfl, hx1⟩
    go_upto_region 4 with fail
    have hgB := Blk.alloc w1 #[.slice b0 x.kn.length d0, .slice b1 x.gr.length d1, .bool false, .slice b2 x.base.length d2, .slice b3 x.words.length d3, .slice b4 x.slate.length d4, .slice b5 x.forms.length d5, .slice b6 x.orders.length d6] 106
    have hxB := Ext.alloc w1 (.cells #[.slice b0 x.kn.length d0, .slice b1 x.gr.length d1, .bool false, .slice b2 x.base.length d2, .slice b3 x.words.length d3, .slice b4 x.slate.length d4, .slice b5 x.forms.length d5, .slice b6 x.orders.length d6] 106)
    generalize w1.alloc (.cells #[.slice b0 x.kn.length d0, .slice b1 x.gr.length d1, .bool false, .slice b2 x.base.length d2, .slice b3 x.words.length d3, .slice b4 x.slate.length d4, .slice b5 x.forms.length d5, .slice b6 x.orders.length d6] 106) = wB at *
    generalize w1.heap.size = gB at *
    have HXB := Lib.hid (hx1.trans hxB)
    clear hx1 hxB
    have HWR := Lib.hid (fun W (q : Ext wB W) => HWR0.out W (HXB.out.trans q))
    have HRP := Lib.hid (fun W (q : Ext wB W) => HRP0.out W (HXB.out.trans q))
    have HFR := Lib.hid (hf.ext HXB.out)
    obtain ⟨af0, cf0, hfv, _, _, HF⟩ := Sl.open_ HFR.out
    injection hfv with y1 y2 y3
    subst y1 y3
    clear y2
    have hX1 := Ext.refl wB
    have kB6 : ∀ W, Ext wB W → W.cell? ⟨gB, 6, none⟩ = some (.slice b5 x.forms.length d5) := fun W q => (hgB.ext q).cell rfl
    have kB2 : ∀ W, Ext wB W → W.cell? ⟨gB, 2, none⟩ = some (.bool false) := fun W q => (hgB.ext q).cell rfl
    go_wp2_with fail
    go_loopg [56] x.forms.length (fun m i wr => ∃ k : Nat, k ≤ x.forms.length ∧ x.forms.length ≤ k + m ∧ i = .int .i64 k ∧ Ext wB wr)
    case atStart => exact ⟨0, by omega, by omega, rfl, hX1⟩
    case round =>
      obtain ⟨k, hk, hk2, rfl, hwx⟩ := hrel
      by_cases hlt : k < x.forms.length
      · obtain ⟨bf, of, hbf, uf, hcf, hif⟩ := HF.out k hlt
        subst hbf
        replace hcf := hwx.keep hcf
        have hfr := rows_take (HFR.out.ext hwx) (Nat.le_of_lt hlt)
        have HND : Hid ((x.forms.take k).contains (x.forms[k]?.getD []) = false) := Lib.hid (nodup_take HI.out.formsN hlt)
        have hif2 := hif.ext hwx
        obtain ⟨af, cf, huf, _⟩ := hif.open_
        subst huf
        clear hif
        generalize x.forms[k]?.getD [] = fk at *
        go_upto_region 19 with fail
        have hb10 := Blk.alloc wr #[.slice af fk.length cf] 34
        have hx10 := Ext.alloc wr (.cells #[.slice af fk.length cf] 34)
        generalize wr.alloc (.cells #[.slice af fk.length cf] 34) = w10 at *
        generalize wr.heap.size = g10 at *
        have hwx10 := hwx.trans hx10
        have HCF := Lib.hid (containsFuncR_c _ (x.forms.take k) 94 #[.pointer (some ⟨g10, 0, none⟩)] (fun l => sameIntsB l fk) w10 (enters_of Tryz.func94 (by kernel_rfl) rfl)
          (fun W y yv hW hy => auditF_c yv (.slice af fk.length cf) g10 y fk W hy ((hif2.ext hx10).ext hW) ((hb10.ext hW).cell rfl)) (hfr.ext hx10))
        rw [any_same, HND.out] at HCF
        clear hfr
        go_wp2_with fail
        refine HCF.out.mono ?_; rintro e w11 ⟨rfl, hx11⟩
        go_wp2_with fail
        go_roundg (gk-1)
        case measure => omega
        case rel => exact ⟨k + 1, by omega, by omega, by go_num, hwx10.trans hx11⟩
      · go_upto_region 22 with fail
        refine wp_region_treeR (fun a c => Ext a c) [] (.look 0 (.look 1 (.look 2 (.look 3 (.look 4 (.look 5 (.one 6 (.one 7 (.look 8 (.look 9 (.look 10 (.look 11 (.look 12 (.look 13 (.look 14 .done))))))))))))))) (fun w => Ext.refl w) (fun a b c h k => Ext.trans h k) (by kernel_rfl) (by kernel_rfl) (by intro c a d v w h; cases d <;> exact h) ?_
        have hX0 := drawnP_ext wr
        have hXb := (hwx).trans hX0
        generalize { wr with drawn := wr.drawn + 1 } = W0 at *
        have kb2 : ∀ q : InC (fun c => Ext W0 c), q.w.cell? ⟨b, 2, none⟩ = some (.slice ar s.length cr) := fun q => ((HXB.out.trans hXb).trans q.h).keep hb2
        have kg7 : ∀ q : InC (fun c => Ext W0 c), q.w.cell? ⟨gB, 7, none⟩ = some (.slice b6 x.orders.length d6) := fun q => (hgB.ext (hXb.trans q.h)).cell rfl
        iterate 6 (refine wpTreeR_look rfl (fun K hK => ?_); go_simp; first | (refine hK _ ?_; clear hK K) | (refine ⟨_, fun _ => rfl, hK _ ?_⟩; clear hK K))
        refine wpTreeR_one rfl rfl (fun K hK => ?_)
        go_wp2_with fail
        refine (HWR.out W0 hXb).mono ?_; rintro e w8 ⟨rfl, hx8⟩
        go_wp2_with fail
        refine ⟨.inr hx8, ?_⟩
        have hXc := hXb.trans hx8
        refine wpTreeR_one rfl rfl (fun K hK => ?_)
        go_wp2_with fail
        refine (HRP.out w8 hXc).mono ?_; rintro e w9 hres
        obtain ⟨hx9, g2, m2, rv2, v2, hg2, he, hS2⟩ := HRES.out e _ _ hres
        subst he
        go_wp2_with fail
        refine ⟨.inr hx9, ?_⟩
        have hXd := hXc.trans hx9
        iterate 7 (refine wpTreeR_look rfl (fun K hK => ?_); go_simp; first | (refine hK _ ?_; clear hK K) | (refine ⟨_, fun _ => rfl, hK _ ?_⟩; clear hK K))
        refine wpTreeR_done ?_
        obtain ⟨e0, f0, e1, f1, e2, f2, e3, f3, e4, f4, e5, f5, e6, f6, hv2⟩ := SV.lit hS2.hs
        have HSM := Lib.hid (fun W (q : Ext w9 W) => same_c v2 ⟨.slice b0 x.kn.length d0, .slice b1 x.gr.length d1, .slice b2 x.base.length d2, .slice b3 x.words.length d3, .slice b4 x.slate.length d4, .slice b5 x.forms.length d5, .slice b6 x.orders.length d6⟩ x W ((hS2.hs.sub (hole_sub _ w9)).ext q) (HST.out.ext ((HXB.out.trans hXd).trans q)))
        have hb9 := hS2.hb
        subst hv2
        simp only [SV.cells] at HSM hb9
        rw [← HBO.out] at HSM hb9
        clear hres
        generalize hW9 : w9 = wN at *
        go_upto_region 23 with fail
        refine wp_region_treeR (fun a c => Ext a c) [] (.look 0 (.look 1 (.look 2 (.look 3 (.look 4 (.look 5 (.look 6 (.look 7 (.one 8 (.look 9 (.look 10 .done))))))))))) (fun w => Ext.refl w) (fun a b c h k => Ext.trans h k) (by kernel_rfl) (by kernel_rfl) (by intro c a d v w h; cases d <;> exact h) ?_
        have hX0 := drawnP_ext wN
        have hXb := (hXd).trans hX0
        generalize { wN with drawn := wN.drawn + 1 } = W0 at *
        replace HSM := HSM
        have ka0 : ∀ q : InC (fun c => Ext W0 c), q.w.cell? ⟨g2, 3, none⟩ = some (.slice e0 x.kn.length f0) := fun q => (hb9.ext (hX0.trans q.h)).cell rfl
        have ka1 : ∀ q : InC (fun c => Ext W0 c), q.w.cell? ⟨g2, 4, none⟩ = some (.slice e1 x.gr.length f1) := fun q => (hb9.ext (hX0.trans q.h)).cell rfl
        have ka2 : ∀ q : InC (fun c => Ext W0 c), q.w.cell? ⟨g2, 5, none⟩ = some (.bool false) := fun q => (hb9.ext (hX0.trans q.h)).cell rfl
        have ka3 : ∀ q : InC (fun c => Ext W0 c), q.w.cell? ⟨g2, 6, none⟩ = some (.slice e2 x.base.length f2) := fun q => (hb9.ext (hX0.trans q.h)).cell rfl
        have ka4 : ∀ q : InC (fun c => Ext W0 c), q.w.cell? ⟨g2, 7, none⟩ = some (.slice e3 x.words.length f3) := fun q => (hb9.ext (hX0.trans q.h)).cell rfl
        have ka5 : ∀ q : InC (fun c => Ext W0 c), q.w.cell? ⟨g2, 8, none⟩ = some (.slice e4 x.slate.length f4) := fun q => (hb9.ext (hX0.trans q.h)).cell rfl
        have ka6 : ∀ q : InC (fun c => Ext W0 c), q.w.cell? ⟨g2, 9, none⟩ = some (.slice e5 x.forms.length f5) := fun q => (hb9.ext (hX0.trans q.h)).cell rfl
        have ka7 : ∀ q : InC (fun c => Ext W0 c), q.w.cell? ⟨g2, 10, none⟩ = some (.slice e6 x.orders.length f6) := fun q => (hb9.ext (hX0.trans q.h)).cell rfl
        have kb0 : ∀ q : InC (fun c => Ext W0 c), q.w.cell? ⟨gB, 0, none⟩ = some (.slice b0 x.kn.length d0) := fun q => (hgB.ext (hXb.trans q.h)).cell rfl
        have kb1 : ∀ q : InC (fun c => Ext W0 c), q.w.cell? ⟨gB, 1, none⟩ = some (.slice b1 x.gr.length d1) := fun q => (hgB.ext (hXb.trans q.h)).cell rfl
        have kb2 : ∀ q : InC (fun c => Ext W0 c), q.w.cell? ⟨gB, 2, none⟩ = some (.bool false) := fun q => (hgB.ext (hXb.trans q.h)).cell rfl
        have kb3 : ∀ q : InC (fun c => Ext W0 c), q.w.cell? ⟨gB, 3, none⟩ = some (.slice b2 x.base.length d2) := fun q => (hgB.ext (hXb.trans q.h)).cell rfl
        have kb4 : ∀ q : InC (fun c => Ext W0 c), q.w.cell? ⟨gB, 4, none⟩ = some (.slice b3 x.words.length d3) := fun q => (hgB.ext (hXb.trans q.h)).cell rfl
        have kb5 : ∀ q : InC (fun c => Ext W0 c), q.w.cell? ⟨gB, 5, none⟩ = some (.slice b4 x.slate.length d4) := fun q => (hgB.ext (hXb.trans q.h)).cell rfl
        have kb6 : ∀ q : InC (fun c => Ext W0 c), q.w.cell? ⟨gB, 6, none⟩ = some (.slice b5 x.forms.length d5) := fun q => (hgB.ext (hXb.trans q.h)).cell rfl
        have kb7 : ∀ q : InC (fun c => Ext W0 c), q.w.cell? ⟨gB, 7, none⟩ = some (.slice b6 x.orders.length d6) := fun q => (hgB.ext (hXb.trans q.h)).cell rfl
        iterate 8 (refine wpTreeR_look rfl (fun K hK => ?_); go_simp; first | (refine hK _ ?_; clear hK K) | (refine ⟨_, fun _ => rfl, hK _ ?_⟩; clear hK K))
        refine wpTreeR_one rfl rfl (fun K hK => ?_)
        go_wp2_with fail
        refine (HSM.out W0 hX0).mono ?_; rintro e w10 ⟨rfl, hx10⟩
        go_wp2_with fail
        refine ⟨.inr hx10, ?_⟩
        have hXe := hXb.trans hx10
        iterate 2 (refine wpTreeR_look rfl (fun K hK => ?_); go_simp; first | (refine hK _ ?_; clear hK K) | (refine ⟨_, fun _ => rfl, hK _ ?_⟩; clear hK K))
        refine wpTreeR_done ?_
        go_wp2_with fail
        go_ret
        exact ⟨rfl, HXB.out.trans hXe⟩
  | true =>
    obtain ⟨uW, huW, hWD⟩ := HBW HBO.out.symm
    have HWD := Lib.hid hWD
    simp only [SV.cells] at HWD
    rw [← HBO.out] at HWD
    have hwl := HIh.wlen HBO.out.symm
    have hw0 := HIh.w0 HBO.out.symm
    have HMD := Lib.hid HIh.made
    have HLW : Hid (x.words[x.slate.length]?.getD [] = lastW x) := Lib.hid (by unfold lastW; rw [hwl]; rfl)
    have HW0 : Hid (x.words[0]?.getD [] = x.base) := Lib.hid (by rw [hw0]; rfl)
    have HSLn : Hid (x.slate.length ≤ 60) := Lib.hid HIh.slen
    clear HBW HIh hWD hwl hw0
    go_enter Tryz.func58, Tryz.ntmps58
    go_wp2_with fail
    refine HL.out.mono ?_; rintro e w1 ⟨rfl, hx1⟩
    go_upto_region 4 with fail
    have hgB := Blk.alloc w1 #[.slice b0 x.kn.length d0, .slice b1 x.gr.length d1, .bool true, .slice b2 x.base.length d2, .slice b3 x.words.length d3, .slice b4 x.slate.length d4, .slice b5 x.forms.length d5, .slice b6 x.orders.length d6] 106
    have hxB := Ext.alloc w1 (.cells #[.slice b0 x.kn.length d0, .slice b1 x.gr.length d1, .bool true, .slice b2 x.base.length d2, .slice b3 x.words.length d3, .slice b4 x.slate.length d4, .slice b5 x.forms.length d5, .slice b6 x.orders.length d6] 106)
    generalize w1.alloc (.cells #[.slice b0 x.kn.length d0, .slice b1 x.gr.length d1, .bool true, .slice b2 x.base.length d2, .slice b3 x.words.length d3, .slice b4 x.slate.length d4, .slice b5 x.forms.length d5, .slice b6 x.orders.length d6] 106) = wB at *
    generalize w1.heap.size = gB at *
    have HXB := Lib.hid (hx1.trans hxB)
    clear hx1 hxB
    have HWR := Lib.hid (fun W (q : Ext wB W) => HWR0.out W (HXB.out.trans q))
    have HRP := Lib.hid (fun W (q : Ext wB W) => HRP0.out W (HXB.out.trans q))
    have HFR := Lib.hid (hf.ext HXB.out)
    obtain ⟨af0, cf0, hfv, _, _, HF⟩ := Sl.open_ HFR.out
    injection hfv with y1 y2 y3
    subst y1 y3
    clear y2
    have hX1 := Ext.refl wB
    have kB0 : ∀ W, Ext wB W → W.cell? ⟨gB, 0, none⟩ = some (.slice b0 x.kn.length d0) := fun W q => (hgB.ext q).cell rfl
    have kB1 : ∀ W, Ext wB W → W.cell? ⟨gB, 1, none⟩ = some (.slice b1 x.gr.length d1) := fun W q => (hgB.ext q).cell rfl
    have kB2 : ∀ W, Ext wB W → W.cell? ⟨gB, 2, none⟩ = some (.bool true) := fun W q => (hgB.ext q).cell rfl
    have kB3 : ∀ W, Ext wB W → W.cell? ⟨gB, 3, none⟩ = some (.slice b2 x.base.length d2) := fun W q => (hgB.ext q).cell rfl
    have kB4 : ∀ W, Ext wB W → W.cell? ⟨gB, 4, none⟩ = some (.slice b3 x.words.length d3) := fun W q => (hgB.ext q).cell rfl
    have kB5 : ∀ W, Ext wB W → W.cell? ⟨gB, 5, none⟩ = some (.slice b4 x.slate.length d4) := fun W q => (hgB.ext q).cell rfl
    have kB6 : ∀ W, Ext wB W → W.cell? ⟨gB, 6, none⟩ = some (.slice b5 x.forms.length d5) := fun W q => (hgB.ext q).cell rfl
    have kB7 : ∀ W, Ext wB W → W.cell? ⟨gB, 7, none⟩ = some (.slice b6 x.orders.length d6) := fun W q => (hgB.ext q).cell rfl
    obtain ⟨aw, cw, huWl, _⟩ := huW.open_
    subst huWl
    obtain ⟨_, _, hsv, _, _, HCH⟩ := (hsl.ext HXB.out).open_
    injection hsv with y1 y2 y3
    subst y1 y3
    clear y2
    have HBA := Lib.hid (hba.ext HXB.out)
    go_wp2_with fail
    go_loopg [4, 25] x.slate.length (fun m t4 i wr => ∃ (k : Nat) (ab : Option Addr) (cb : Nat), k ≤ x.slate.length ∧ x.slate.length ≤ k + m ∧ i = .int .i64 k ∧ t4 = .slice ab (x.words[k]?.getD []).length cb ∧ Ints wr (.slice ab (x.words[k]?.getD []).length cb) (x.words[k]?.getD []) ∧ Ext wB wr)
    case atStart => exact ⟨0, _, _, by omega, by omega, rfl, by rw [HW0.out], by rw [HW0.out]; exact HBA.out, Ext.refl _⟩
    case round =>
      obtain ⟨k, ab, cb, hk1, hk2, rfl, rfl, hba, hwx⟩ := hrel
      by_cases hlt : k < x.slate.length
      · obtain ⟨b3', o3, ha3, hcc⟩ := HCH.out k _ (List.getElem?_eq_getElem hlt)
        subst ha3
        obtain ⟨m1', ⟨m2, m3⟩, m4, m5⟩ := HMD.out k _ (List.getElem?_eq_getElem hlt)
        generalize x.slate[k] = ch at *
        obtain ⟨c1', c2', c3'⟩ := ch
        have p0 := hwx.keep (hcc 0 _ rfl)
        have p1 := hwx.keep (hcc 1 _ rfl)
        have p2 := hwx.keep (hcc 2 _ rfl)
        rw [Nat.add_zero] at p0
        clear hcc
        dsimp only at m1' m2 m3 m4 m5 p0 p1 p2
        obtain ⟨br, or, har, ta, tc, la, lc, ra, rc, z0, z1, z2, z3, hrr⟩ := HRL.out c1' m1'
        subst har
        have hXr := HXB.out.trans hwx
        have HAP0 := Lib.hid (fun W (q : Ext wr W) => Apply_c _ _ _ (.slice ab (x.words[k]?.getD []).length cb) (rulAt s c1') (x.words[k]?.getD []) c2' W ((hrr.ext hXr).ext q) (hba.ext q))
        rw [m4] at HAP0
        have HNX : Hid (x.words[k + 1]?.getD [] = applyL (rulAt s c1') (x.words[k]?.getD []) c2') := Lib.hid (by rw [m5]; rfl)
        replace z0 := hXr.keep z0
        replace z1 := hXr.keep z1
        replace z2 := hXr.keep z2
        replace z3 := hXr.keep z3
        clear m4 m5 hrr hba
        generalize rulAt s c1' = y at *
        generalize x.words[k]?.getD [] = wk at *
        go_upto_region 9 with fail
        have hb6 := Blk.alloc wr #[.int .i64 c1', .int .i64 c2', .int .i64 c3'] 46
        have hx6 := Ext.alloc wr (.cells #[.int .i64 c1', .int .i64 c2', .int .i64 c3'] 46)
        generalize wr.alloc (.cells #[.int .i64 c1', .int .i64 c2', .int .i64 c3'] 46) = w6 at *
        generalize wr.heap.size = g6 at *
        have hXs := hwx.trans hx6
        refine wp_region_treeR (fun a c => Ext a c) [] (.look 0 (.look 1 (.look 2 (.look 3 (.look 4 (.look 5 (.look 6 (.look 7 (.look 8 (.look 9 (.look 10 (.one 11 (.look 12 (.look 13 (.look 14 (.look 15 (.look 16 .done))))))))))))))))) (fun w => Ext.refl w) (fun a b c h k => Ext.trans h k) (by kernel_rfl) (by kernel_rfl) (by intro c a d v w h; cases d <;> exact h) ?_
        have hX0 := drawnP_ext w6
        have hXb := (hXs).trans hX0
        generalize { w6 with drawn := w6.drawn + 1 } = W0 at *
        have HAP := Lib.hid (fun W (q : Ext W0 W) => HAP0.out W ((hx6.trans hX0).trans q))
        replace HAP := Lib.hid (fun W (q : Ext w6 W) => HAP0.out W (hx6.trans q))
        have kb2 : ∀ q : InC (fun c => Ext W0 c), q.w.cell? ⟨b, 2, none⟩ = some _ := fun q => ((HXB.out.trans hXb).trans q.h).keep hb2
        have kc0 : ∀ q : InC (fun c => Ext W0 c), q.w.cell? ⟨g6, 0, none⟩ = some (.int .i64 c1') := fun q => (hb6.ext (hX0.trans q.h)).cell rfl
        have kc1 : ∀ q : InC (fun c => Ext W0 c), q.w.cell? ⟨g6, 1, none⟩ = some (.int .i64 c2') := fun q => (hb6.ext (hX0.trans q.h)).cell rfl
        have kd0 : ∀ q : InC (fun c => Ext W0 c), q.w.cell? _ = some _ := fun q => ((hx6.trans hX0).trans q.h).keep z0
        have kd1 : ∀ q : InC (fun c => Ext W0 c), q.w.cell? _ = some _ := fun q => ((hx6.trans hX0).trans q.h).keep z1
        have kd2 : ∀ q : InC (fun c => Ext W0 c), q.w.cell? _ = some _ := fun q => ((hx6.trans hX0).trans q.h).keep z2
        have kd3 : ∀ q : InC (fun c => Ext W0 c), q.w.cell? _ = some _ := fun q => ((hx6.trans hX0).trans q.h).keep z3
        iterate 11 (refine wpTreeR_look rfl (fun K hK => ?_); go_simp; first | (refine hK _ ?_; clear hK K) | (refine ⟨_, fun _ => rfl, hK _ ?_⟩; clear hK K))
        refine wpTreeR_one rfl rfl (fun K hK => ?_)
        go_wp2_with fail
        refine (HAP.out W0 hX0).mono ?_; rintro e w7 ⟨u7, rfl, ho7, hx7⟩
        obtain ⟨a7, c7, hu7, _⟩ := ho7.ints.open_
        subst hu7
        go_wp2_with fail
        refine ⟨.inr hx7, ?_⟩
        have hX7 := hX0.trans hx7
        iterate 5 (refine wpTreeR_look rfl (fun K hK => ?_); go_simp; first | (refine hK _ ?_; clear hK K) | (refine ⟨_, fun _ => rfl, hK _ ?_⟩; clear hK K))
        refine wpTreeR_done ?_
        go_wp2_with fail
        go_roundg (gk-1)
        case measure => omega
        case rel => exact ⟨k + 1, _, _, by omega, by omega, by go_num, by rw [HNX.out], by rw [HNX.out]; exact ho7.ints, (hXs.trans hX0).trans hx7⟩
      · obtain rfl : k = x.slate.length := by omega
        have hwe := HLW.out
        generalize x.words[x.slate.length]?.getD [] = wk at *
        have HEQ := Lib.hid (fun W (q : Ext wr W) => equalInts_c (.slice ab wk.length cb) (.slice aw (lastW x).length cw) wk (lastW x) W (hba.ext q) (huW.ext ((HXB.out.trans hwx).trans q)))
        rw [hwe, sameIntsB_refl] at HEQ
        have HWE := Lib.hid hwe
        subst hwe
        clear hba
        go_wp2_with fail
        refine (HWD.out wr (HXB.out.trans hwx)).mono ?_; rintro e v1 ⟨rfl, hxa⟩
        go_wp2_with fail
        refine (HEQ.out v1 hxa).mono ?_; rintro e v2' ⟨rfl, nv, hwv⟩
        have hXt : Ext wB v2' := by rw [hwv]; exact (hwx.trans hxa).trans (Ext.drewN _ _)
        clear hwv
        go_wp2_with fail
        go_loopg [56] x.forms.length (fun m i wr => ∃ k : Nat, k ≤ x.forms.length ∧ x.forms.length ≤ k + m ∧ i = .int .i64 k ∧ Ext wB wr)
        case atStart => exact ⟨0, by omega, by omega, rfl, hXt⟩
        case round =>
          obtain ⟨k, hk, hk2, rfl, hwx⟩ := hrel
          by_cases hlt : k < x.forms.length
          · obtain ⟨bf, of, hbf, uf, hcf, hif⟩ := HF.out k hlt
            subst hbf
            replace hcf := hwx.keep hcf
            have hfr := rows_take (HFR.out.ext hwx) (Nat.le_of_lt hlt)
            have HND : Hid ((x.forms.take k).contains (x.forms[k]?.getD []) = false) := Lib.hid (nodup_take HI.out.formsN hlt)
            have hif2 := hif.ext hwx
            obtain ⟨af, cf, huf, _⟩ := hif.open_
            subst huf
            clear hif
            generalize x.forms[k]?.getD [] = fk at *
            go_upto_region 19 with fail
            have hb10 := Blk.alloc wr #[.slice af fk.length cf] 34
            have hx10 := Ext.alloc wr (.cells #[.slice af fk.length cf] 34)
            generalize wr.alloc (.cells #[.slice af fk.length cf] 34) = w10 at *
            generalize wr.heap.size = g10 at *
            have hwx10 := hwx.trans hx10
            have HCF := Lib.hid (containsFuncR_c _ (x.forms.take k) 94 #[.pointer (some ⟨g10, 0, none⟩)] (fun l => sameIntsB l fk) w10 (enters_of Tryz.func94 (by kernel_rfl) rfl)
              (fun W y yv hW hy => auditF_c yv (.slice af fk.length cf) g10 y fk W hy ((hif2.ext hx10).ext hW) ((hb10.ext hW).cell rfl)) (hfr.ext hx10))
            rw [any_same, HND.out] at HCF
            clear hfr
            go_wp2_with fail
            refine HCF.out.mono ?_; rintro e w11 ⟨rfl, hx11⟩
            go_wp2_with fail
            go_roundg (gk-1)
            case measure => omega
            case rel => exact ⟨k + 1, by omega, by omega, by go_num, hwx10.trans hx11⟩
          · go_upto_region 22 with fail
            refine wp_region_treeR (fun a c => Ext a c) [] (.look 0 (.look 1 (.look 2 (.look 3 (.look 4 (.look 5 (.one 6 (.one 7 (.look 8 (.look 9 (.look 10 (.look 11 (.look 12 (.look 13 (.look 14 .done))))))))))))))) (fun w => Ext.refl w) (fun a b c h k => Ext.trans h k) (by kernel_rfl) (by kernel_rfl) (by intro c a d v w h; cases d <;> exact h) ?_
            have hX0 := drawnP_ext wr
            have hXb := (hwx).trans hX0
            generalize { wr with drawn := wr.drawn + 1 } = W0 at *
            have kb2 : ∀ q : InC (fun c => Ext W0 c), q.w.cell? ⟨b, 2, none⟩ = some (.slice ar s.length cr) := fun q => ((HXB.out.trans hXb).trans q.h).keep hb2
            have kg7 : ∀ q : InC (fun c => Ext W0 c), q.w.cell? ⟨gB, 7, none⟩ = some (.slice b6 x.orders.length d6) := fun q => (hgB.ext (hXb.trans q.h)).cell rfl
            iterate 6 (refine wpTreeR_look rfl (fun K hK => ?_); go_simp; first | (refine hK _ ?_; clear hK K) | (refine ⟨_, fun _ => rfl, hK _ ?_⟩; clear hK K))
            refine wpTreeR_one rfl rfl (fun K hK => ?_)
            go_wp2_with fail
            refine (HWR.out W0 hXb).mono ?_; rintro e w8 ⟨rfl, hx8⟩
            go_wp2_with fail
            refine ⟨.inr hx8, ?_⟩
            have hXc := hXb.trans hx8
            refine wpTreeR_one rfl rfl (fun K hK => ?_)
            go_wp2_with fail
            refine (HRP.out w8 hXc).mono ?_; rintro e w9 hres
            obtain ⟨hx9, g2, m2, rv2, v2, hg2, he, hS2⟩ := HRES.out e _ _ hres
            subst he
            go_wp2_with fail
            refine ⟨.inr hx9, ?_⟩
            have hXd := hXc.trans hx9
            iterate 7 (refine wpTreeR_look rfl (fun K hK => ?_); go_simp; first | (refine hK _ ?_; clear hK K) | (refine ⟨_, fun _ => rfl, hK _ ?_⟩; clear hK K))
            refine wpTreeR_done ?_
            obtain ⟨e0, f0, e1, f1, e2, f2, e3, f3, e4, f4, e5, f5, e6, f6, hv2⟩ := SV.lit hS2.hs
            have HSM := Lib.hid (fun W (q : Ext w9 W) => same_c v2 ⟨.slice b0 x.kn.length d0, .slice b1 x.gr.length d1, .slice b2 x.base.length d2, .slice b3 x.words.length d3, .slice b4 x.slate.length d4, .slice b5 x.forms.length d5, .slice b6 x.orders.length d6⟩ x W ((hS2.hs.sub (hole_sub _ w9)).ext q) (HST.out.ext ((HXB.out.trans hXd).trans q)))
            have hb9 := hS2.hb
            subst hv2
            simp only [SV.cells] at HSM hb9
            rw [← HBO.out] at HSM hb9
            clear hres
            generalize hW9 : w9 = wN at *
            go_upto_region 23 with fail
            refine wp_region_treeR (fun a c => Ext a c) [] (.look 0 (.look 1 (.look 2 (.look 3 (.look 4 (.look 5 (.look 6 (.look 7 (.one 8 (.look 9 (.look 10 .done))))))))))) (fun w => Ext.refl w) (fun a b c h k => Ext.trans h k) (by kernel_rfl) (by kernel_rfl) (by intro c a d v w h; cases d <;> exact h) ?_
            have hX0 := drawnP_ext wN
            have hXb := (hXd).trans hX0
            generalize { wN with drawn := wN.drawn + 1 } = W0 at *
            replace HSM := HSM
            have ka0 : ∀ q : InC (fun c => Ext W0 c), q.w.cell? ⟨g2, 3, none⟩ = some (.slice e0 x.kn.length f0) := fun q => (hb9.ext (hX0.trans q.h)).cell rfl
            have ka1 : ∀ q : InC (fun c => Ext W0 c), q.w.cell? ⟨g2, 4, none⟩ = some (.slice e1 x.gr.length f1) := fun q => (hb9.ext (hX0.trans q.h)).cell rfl
            have ka2 : ∀ q : InC (fun c => Ext W0 c), q.w.cell? ⟨g2, 5, none⟩ = some (.bool true) := fun q => (hb9.ext (hX0.trans q.h)).cell rfl
            have ka3 : ∀ q : InC (fun c => Ext W0 c), q.w.cell? ⟨g2, 6, none⟩ = some (.slice e2 x.base.length f2) := fun q => (hb9.ext (hX0.trans q.h)).cell rfl
            have ka4 : ∀ q : InC (fun c => Ext W0 c), q.w.cell? ⟨g2, 7, none⟩ = some (.slice e3 x.words.length f3) := fun q => (hb9.ext (hX0.trans q.h)).cell rfl
            have ka5 : ∀ q : InC (fun c => Ext W0 c), q.w.cell? ⟨g2, 8, none⟩ = some (.slice e4 x.slate.length f4) := fun q => (hb9.ext (hX0.trans q.h)).cell rfl
            have ka6 : ∀ q : InC (fun c => Ext W0 c), q.w.cell? ⟨g2, 9, none⟩ = some (.slice e5 x.forms.length f5) := fun q => (hb9.ext (hX0.trans q.h)).cell rfl
            have ka7 : ∀ q : InC (fun c => Ext W0 c), q.w.cell? ⟨g2, 10, none⟩ = some (.slice e6 x.orders.length f6) := fun q => (hb9.ext (hX0.trans q.h)).cell rfl
            have kb0 : ∀ q : InC (fun c => Ext W0 c), q.w.cell? ⟨gB, 0, none⟩ = some (.slice b0 x.kn.length d0) := fun q => (hgB.ext (hXb.trans q.h)).cell rfl
            have kb1 : ∀ q : InC (fun c => Ext W0 c), q.w.cell? ⟨gB, 1, none⟩ = some (.slice b1 x.gr.length d1) := fun q => (hgB.ext (hXb.trans q.h)).cell rfl
            have kb2 : ∀ q : InC (fun c => Ext W0 c), q.w.cell? ⟨gB, 2, none⟩ = some (.bool true) := fun q => (hgB.ext (hXb.trans q.h)).cell rfl
            have kb3 : ∀ q : InC (fun c => Ext W0 c), q.w.cell? ⟨gB, 3, none⟩ = some (.slice b2 x.base.length d2) := fun q => (hgB.ext (hXb.trans q.h)).cell rfl
            have kb4 : ∀ q : InC (fun c => Ext W0 c), q.w.cell? ⟨gB, 4, none⟩ = some (.slice b3 x.words.length d3) := fun q => (hgB.ext (hXb.trans q.h)).cell rfl
            have kb5 : ∀ q : InC (fun c => Ext W0 c), q.w.cell? ⟨gB, 5, none⟩ = some (.slice b4 x.slate.length d4) := fun q => (hgB.ext (hXb.trans q.h)).cell rfl
            have kb6 : ∀ q : InC (fun c => Ext W0 c), q.w.cell? ⟨gB, 6, none⟩ = some (.slice b5 x.forms.length d5) := fun q => (hgB.ext (hXb.trans q.h)).cell rfl
            have kb7 : ∀ q : InC (fun c => Ext W0 c), q.w.cell? ⟨gB, 7, none⟩ = some (.slice b6 x.orders.length d6) := fun q => (hgB.ext (hXb.trans q.h)).cell rfl
            iterate 8 (refine wpTreeR_look rfl (fun K hK => ?_); go_simp; first | (refine hK _ ?_; clear hK K) | (refine ⟨_, fun _ => rfl, hK _ ?_⟩; clear hK K))
            refine wpTreeR_one rfl rfl (fun K hK => ?_)
            go_wp2_with fail
            refine (HSM.out W0 hX0).mono ?_; rintro e w10 ⟨rfl, hx10⟩
            go_wp2_with fail
            refine ⟨.inr hx10, ?_⟩
            have hXe := hXb.trans hx10
            iterate 2 (refine wpTreeR_look rfl (fun K hK => ?_); go_simp; first | (refine hK _ ?_; clear hK K) | (refine ⟨_, fun _ => rfl, hK _ ?_⟩; clear hK K))
            refine wpTreeR_done ?_
            go_wp2_with fail
            go_ret
            exact ⟨rfl, HXB.out.trans hXe⟩
end Go.Proofs.YtpmlcfgbfhgpgaaGreatDoor
