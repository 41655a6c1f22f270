/- Whether no word has two images: the reference. -/
import Derived.Test.YtodhmkbkcjpnkaaMacI
import Derived.Test.YtodhmkbkcjpnkaaMacX
namespace Go.Proofs.Ytodhmkbkcjpnkaa
open Go.RowKit Go.Shelf
set_option linter.unusedVariables false

theorem run_eql_pairs (W : World) (x y : Dbl) : (binOp .eql 82 (encD x) (encD y)).run Try.prog W = .ok (.bool (x == y)) W ∧ (binOp .neq 82 (encD x) (encD y)).run Try.prog W = .ok (.bool (x != y)) W := by
  have u3 : Try.prog.underlying 3 = some (.int .i64) := Try.underlying3
  have u4 : Try.prog.underlying 4 = some .bool := Try.underlying4
  have hS : Try.prog.underlying 82 = some (.struct (Try.prog.fieldsOf 82)) := by kernel_rfl
  have hp : Try.prog.stoodInHeld 82 = false := by kernel_rfl
  have key : (Op.equalIn 10000 82 (encD x) (encD y)).run Try.prog W = .ok (x == y) W := by
    simp only [encD]
    rw [show (10000 : Nat) = 9999 + 1 from rfl, run_equalIn_agg W 9999 82 _ _ hS hp]
    simp only [Program.fieldsOf, Try.underlying82]
    go_simp
    obtain ⟨a, b, c⟩ := x
    obtain ⟨a', b', c'⟩ := y
    by_cases h1 : a = a' <;> by_cases h2 : b = b' <;> by_cases h3 : c = c' <;> simp [h1, h2, h3]
  constructor
  · have := run_eql_struct (P := Try.prog) W 82 #[.int .i64 x.1, .int .i64 x.2.1, .bool x.2.2] #[.int .i64 y.1, .int .i64 y.2.1, .bool y.2.2]
    simp only [encD] at key ⊢
    rw [this, key]; rfl
  · have := run_neq_struct (P := Try.prog) W 82 #[.int .i64 x.1, .int .i64 x.2.1, .bool x.2.2] #[.int .i64 y.1, .int .i64 y.2.1, .bool y.2.2]
    simp only [encD] at key ⊢
    rw [this, key]; rfl
structure PairS (wA w : World) (q : Que) (qv : Value) : Prop where
  ext : Ext wA w
  row : w.ownsRow wA.heap.size 82 3 qv q.length (q.flatMap encQ)
theorem PairS.later {wA w w' : World} {q : Que} {qv : Value} (h : PairS wA w q qv) (hx : Ext w w') : PairS wA w' q qv := ⟨h.ext.trans hx, ownsRow_ext h.row hx⟩
theorem PairS.new {wA w : World} {q : Que} {qv : Value} (h : PairS wA w q qv) (us : List Value) (ty : TypeId) : Held (w.alloc (.cells us.toArray ty)) qv w.heap.size ty us :=
  ⟨by have := Blk.alloc w us.toArray ty; simpa using this, fun g hg => Nat.ne_of_lt (row_lt h.row hg)⟩
theorem PairS.held {wA w w' : World} {q : Que} {qv : Value} (h : PairS wA w q qv) {b : Nat} {ty : TypeId} {us : List Value} (hb : Blk w' b ty us) (hl : w.heap.size ≤ b) : Held w' qv b ty us :=
  ⟨hb, fun g hg => by have := row_lt h.row hg; omega⟩
theorem elPair : ElTy Try.prog 83 82 3 24 (.agg #[.int .i64 0, .int .i64 0, .bool false]) := ⟨Try.underlying83, by kernel_rfl, rfl, by omega⟩
theorem PairS.open_ {wA w : World} {q : Que} {qv : Value} (h : PairS wA w q qv) (h0 : 0 < q.length) : ∃ g cap, qv = .slice (some ⟨g, 0, none⟩) q.length cap ∧ q.length ≤ cap ∧ cap ≤ 9223372036854775807 ∧
    Hid (∀ i, i < q.length → w.cell? ⟨g, i * 3, none⟩ = some (.int .i64 (dAt q i).1) ∧ w.cell? ⟨g, i * 3 + 1, none⟩ = some (.int .i64 (dAt q i).2.1) ∧ w.cell? ⟨g, i * 3 + 2, none⟩ = some (.bool (dAt q i).2.2)) := by
  have hfl := flat_len encQ encQ_len q
  rcases h.row.2 with ⟨_, h1⟩ | ⟨g, cap, cur, rfl, hg, hh, hnc, hm, hcs, ht⟩
  · omega
  · refine ⟨g, cap, rfl, hnc, hm, Lib.hid fun i hi => ?_⟩
    have hp : q[i]? = some q[i] := List.getElem?_eq_getElem hi
    have hd : dAt q i = (q[i]).1 := by unfold dAt; rw [hp]; rfl
    rw [hd]
    refine ⟨?_, ?_, ?_⟩
    · have := h.row.cellAt (i * 3) (by omega)
      have h2 := flat_get encQ encQ_len q i 0 q[i] hp (by omega)
      rw [Nat.add_zero] at h2
      rw [this, h2]; rfl
    · have := h.row.cellAt (i * 3 + 1) (by omega)
      rw [this, flat_get encQ encQ_len q i 1 q[i] hp (by omega)]; rfl
    · have := h.row.cellAt (i * 3 + 2) (by omega)
      rw [this, flat_get encQ encQ_len q i 2 q[i] hp (by omega)]; rfl
theorem goalD_ends {m : Mac} {n : Nat} (h : MacIn m n) {d : Dbl} (h1 : 0 ≤ d.1) (h2 : 0 ≤ d.2.1) : goalD m.e d = (d.2.2 && (getB (endsB n m.e) d.1 && getB (endsB n m.e) d.2.1)) := by
  have key : ∀ k : Int, 0 ≤ k → hasB m.e k = getB (endsB n m.e) k := fun k hk => by
    rw [Bool.eq_iff_iff, getB_ends h hk, hasB_eq]; simp
  unfold goalD
  rw [key _ h1, key _ h2]
theorem Blk.store4 {w : World} {g : Nat} {ty : TypeId} {a0 a1 a2 a3 : Value} (h : Blk w g ty [a0, a1, a2, a3]) (b0 b1 b2 b3 : Value) :
    Blk ((((w.setCell ⟨g, 0, none⟩ b0).setCell ⟨g, 1, none⟩ b1).setCell ⟨g, 2, none⟩ b2).setCell ⟨g, 3, none⟩ b3) g ty [b0, b1, b2, b3] := by
  have := (((h.set 0 b0).set 1 b1).set 2 b2).set 3 b3
  simpa using this
theorem Blk.other4 {w : World} {g c : Nat} {ty : TypeId} {l : List Value} (h : Blk w g ty l) (hne : c ≠ g) (b0 b1 b2 b3 : Value) :
    Blk ((((w.setCell ⟨c, 0, none⟩ b0).setCell ⟨c, 1, none⟩ b1).setCell ⟨c, 2, none⟩ b2).setCell ⟨c, 3, none⟩ b3) g ty l :=
  (((h.other hne 0 b0).other hne 1 b1).other hne 2 b2).other hne 3 b3
theorem Ext.store4 {w W : World} (h : Ext w W) {g : Nat} (hg : w.heap.size ≤ g) (b0 b1 b2 b3 : Value) :
    Ext w ((((W.setCell ⟨g, 0, none⟩ b0).setCell ⟨g, 1, none⟩ b1).setCell ⟨g, 2, none⟩ b2).setCell ⟨g, 3, none⟩ b3) :=
  (((h.setCell hg 0 b0).setCell hg 1 b1).setCell hg 2 b2).setCell hg 3 b3
/-- how far a double is none of the first j -/
def freshT (q : Que) (d : Dbl) (j : Nat) : Bool := !((List.range j).any fun t => dAt q t == d)
theorem freshT_zero (q : Que) (d : Dbl) : freshT q d 0 = true := rfl
theorem freshT_next (q : Que) (d : Dbl) (j : Nat) : freshT q d (j + 1) = (freshT q d j && (dAt q j != d)) := by
  unfold freshT
  rw [List.range_succ, List.any_append]
  simp [Bool.not_or, bne]
theorem freshT_all (q : Que) (d : Dbl) : freshT q d q.length = !hasD q d := by
  unfold freshT hasD
  congr 1
  rw [Bool.eq_iff_iff, List.any_eq_true, List.any_eq_true]
  constructor
  · rintro ⟨t, ht, h⟩
    have ht : t < q.length := by simpa using ht
    refine ⟨q[t], List.getElem_mem ht, ?_⟩
    unfold dAt at h
    rwa [List.getElem?_eq_getElem ht] at h
  · rintro ⟨p, hp, h⟩
    obtain ⟨t, ht, rfl⟩ := List.mem_iff_getElem.1 hp
    refine ⟨t, by simpa using ht, ?_⟩
    unfold dAt
    rwa [List.getElem?_eq_getElem ht]

set_option maxHeartbeats 8000000 in
set_option maxRecDepth 100000 in
theorem rIsFunction_c (av ev : Value) (m : Mac) (w : World) (h : MacR w av ev m) : Calls Try.prog 28 #[.agg #[.int .i64 m.s, av, ev]] w (RV (.tuple #[.bool (isFunB m), .int .i64 (validM m)]) w) := by
  obtain ⟨wA, hwA⟩ : ∃ wA, wA = w.alloc (.cells #[.int .i64 m.s, av, ev] 25) := ⟨_, rfl⟩
  have hE0 : Ext w wA := by rw [hwA]; exact Ext.alloc _ _
  have k0 : ∀ W, Ext wA W → W.cell? ⟨w.heap.size, 0, none⟩ = some (.int .i64 m.s) := by rw [hwA]; exact kept_alloc w _ _ rfl
  have k1 : ∀ W, Ext wA W → W.cell? ⟨w.heap.size, 1, none⟩ = some av := by rw [hwA]; exact kept_alloc w _ _ rfl
  have k2 : ∀ W, Ext wA W → W.cell? ⟨w.heap.size, 2, none⟩ = some ev := by rw [hwA]; exact kept_alloc w _ _ rfl
  have H0 : Ext wA wA := Ext.refl _
  have HV := Lib.hid (rValidate_c av ev m wA (h.ext hE0))
  have HR := Lib.hid (h.ext hE0)
  obtain ⟨aa, ca, rfl, hla, hma, HA⟩ := (h.ext hE0).a.open_
  obtain ⟨ae, ce, rfl, hle, hme, HE⟩ := (h.ext hE0).e.open_
  have HW := Lib.hid hwA; clear hwA h
  by_cases h0 : validM m = 0
  · obtain ⟨n, hMI⟩ : ∃ n, MacIn m n := ⟨_, (validM_mac h0).in_⟩
    have hn1 := hMI.n1
    have hn9 := hMI.n9
    have HM := Lib.hid hMI
    have HEN := Lib.hid (fun W (hW : Ext wA W) => rends_c _ _ m n W (HR.out.ext hW) hMI)
    have H0V := Lib.hid h0
    have HIF : Hid (isFunB m = (bfsM m).isNone) := by rw [isFunB, if_pos h0]; exact rfl
    rw [h0] at HV ⊢
    clear h0 hMI
    go_enter Try.func28, Try.ntmps28
    go_wp2_with fail
    rw [← HW.out]
    refine HV.out.mono ?_; rintro e w1 ⟨rfl, hx1⟩
    go_wp2_with fail
    refine (HEN.out w1 hx1).mono ?_; rintro e w2 ⟨gE, rfl, hbE, hgE, hx2⟩
    rw [endsB_len]
    have hE2 : Ext wA w2 := hx1.trans hx2
    have HT0 : Hid (PairS wA (w2.alloc (.cells #[.int .i64 0, .int .i64 0, .bool false] 82)) begin0 (.slice (some ⟨w2.heap.size, 0, none⟩) 1 1)) :=
      Lib.hid ⟨hE2.trans (Ext.alloc _ _), World.ownsRow_lit (size := 3) w2 #[.int .i64 0, .int .i64 0, .bool false] 1 hE2.size (by unfold maxLen; omega) rfl⟩
    have HBE : Hid (Held (w2.alloc (.cells #[.int .i64 0, .int .i64 0, .bool false] 82)) (.slice (some ⟨w2.heap.size, 0, none⟩) 1 1) gE 4 ((endsB n m.e).map Value.bool)) :=
      Lib.hid ⟨Blk.ext hbE (Ext.alloc _ _), fun g hg => by have := Blk.lt hbE; simp only [Value.ownBlock, Option.some.injEq] at hg; omega⟩
    clear hx1 hx2 hbE hgE hE2
    go_wp2_with fail
    have HQ0 := Lib.hid (QOk.begin (n := n) m.a (by omega))
    go_loopg [7, 6] 200 (fun z i v wr => ∃ (i' : Nat) (q : Que), i' ≤ q.length ∧ 200 ≤ i' + z ∧ i = .int .i64 i' ∧ PairS wA wr q v ∧ Held wr v gE 4 ((endsB n m.e).map Value.bool) ∧ Hid (QOk n m.a q) ∧ Hid (bfs m (200 - i') i' q = bfsM m))
    case atStart => exact ⟨0, begin0, by simp, by omega, rfl, HT0.out, HBE.out, HQ0, Lib.hid rfl⟩
    case round =>
      clear HT0 HQ0 HBE
      obtain ⟨i, q, hi, hiz, rfl, hT, hBE, hQ, hBF⟩ := hrel
      have hlen := hQ.out.len hn9
      have HT := Lib.hid hT
      obtain ⟨gq, cq, rfl, hcq, hcm, hcells⟩ := hT.open_ hQ.out.pos
      have hEr : Ext wA wr := hT.ext
      clear hT
      obtain ⟨g1, rfl⟩ : ∃ g : Nat, g = gk := ⟨_, rfl⟩
      obtain ⟨W0, rfl⟩ : ∃ W : World, W = wr := ⟨_, rfl⟩
      by_cases hlt : i < q.length
      · have HST : Hid (bfs m (200 - i) i q = if goalD m.e (dAt q i) then some (dAt q i, q) else bfs m (200 - (i + 1)) (i + 1) (stepD m.a q (dAt q i))) := by rw [show 200 - i = (200 - (i + 1)) + 1 by omega, bfs, if_pos hlt]; exact rfl
        have HDM := Lib.hid (dAt_mem hlt)
        have HDI := Lib.hid (by have := hQ.out.in_ q[i] (List.getElem_mem hlt); rwa [show (q[i]).1 = dAt q i by unfold dAt; rw [List.getElem?_eq_getElem hlt]; rfl] at this)
        obtain ⟨hd0, hd1, hd2⟩ := hcells.out i hlt
        generalize hdq : dAt q i = d at *
        obtain ⟨da, db, dd⟩ := d
        simp only at hd0 hd1 hd2
        have HGD := Lib.hid (goalD_ends HM.out (d := (da, db, dd)) HDI.out.1.1 HDI.out.2.1)
        simp only at HGD
        obtain ⟨wd, hwd⟩ : ∃ wd, wd = W0.alloc (.cells #[.int .i64 da, .int .i64 db, .bool dd] 82) := ⟨_, rfl⟩
        have hHd := HT.out.new [.int .i64 da, .int .i64 db, .bool dd] 82
        rw [← hwd] at hHd
        have hXd : Ext W0 wd := by rw [hwd]; exact Ext.alloc _ _
        have HWD := Lib.hid hwd; clear hwd
        go_upto_region 10 with fail
        rw [← HWD.out]
        have e0 := hHd.1.cell (i := 0) rfl
        have e1 := hHd.1.cell (i := 1) rfl
        have e2 := hHd.1.cell (i := 2) rfl
        have hEd : Ext wA wd := hEr.trans hXd
        have hBd := hBE.later hXd
        generalize goalD m.e (da, db, dd) = G at *
        have hda : 0 ≤ da := HDI.out.1.1
        have hdb : 0 ≤ db := HDI.out.2.1
        have hdp : da < n := HDI.out.1.2
        have hdr : db < n := HDI.out.2.2
        obtain ⟨p, hpa⟩ : ∃ p : Nat, da = p := ⟨da.toNat, by omega⟩
        obtain ⟨r, hrb⟩ : ∃ r : Nat, db = r := ⟨db.toNat, by omega⟩
        have hp : p < n := by omega
        have hr : r < n := by omega
        clear hda hdb hdp hdr
        subst hpa hrb
        have b0 := BBools.cell (W := wd) (g := gE) hBd.1 (i := p) (by rw [endsB_len]; exact hp)
        have b1 := BBools.cell (W := wd) (g := gE) hBd.1 (i := r) (by rw [endsB_len]; exact hr)
        have HGD2 : Hid (G = (dd && ((endsB n m.e)[p]?.getD false && (endsB n m.e)[r]?.getD false))) := Lib.hid HGD.out
        clear HGD
        generalize (endsB n m.e)[p]?.getD false = vp at *
        generalize (endsB n m.e)[r]?.getD false = vr at *
        go_cut [50] from 25 to 127 (fun s50 wx => s50 = .bool G ∧ wd = wx)
        case first =>
          cases dd
          · go_wp2_with fail
            go_meet
            case rel => exact ⟨by rw [HGD2.out]; rfl, rfl⟩
          · cases vp
            · go_wp2_with fail
              go_meet
              case rel => exact ⟨by rw [HGD2.out]; rfl, rfl⟩
            · go_wp2_with fail
              go_meet
              case rel => exact ⟨by rw [HGD2.out]; rfl, rfl⟩
        case rest =>
          clear e0 e1 e2 HGD2 b0 b1
          obtain ⟨rfl, rfl⟩ := hcut
          cases G
          · have HST2 : Hid (bfs m (200 - i) i q = bfs m (200 - (i + 1)) (i + 1) (stepD m.a q ((p : Int), (r : Int), dd))) := by rw [HST.out]; exact Lib.hid rfl
            have HTc := HT.out.later hXd
            clear hXd hEr hd0 hd1 hd2 hBE
            go_wp2_with fail
            clear hEd
            go_loopg [9, 6] m.a.length (fun z i v wr => ∃ (t : Nat) (q' : Que), t ≤ m.a.length ∧ m.a.length ≤ t + z ∧ i = .int .i64 t ∧ PairS wA wr q' v ∧ Held wr v W0.heap.size 82 [.int .i64 (p : Int), .int .i64 (r : Int), .bool dd] ∧ Held wr v gE 4 ((endsB n m.e).map Value.bool) ∧ Hid (QOk n m.a q') ∧ Hid (q <+: q') ∧ Hid (q' = (m.a.take t).foldl (stepX m.a ((p : Int), (r : Int), dd)) q))
            case atStart => exact ⟨0, q, by omega, by omega, rfl, HTc, hHd, hBd, hQ, Lib.hid (List.prefix_refl _), Lib.hid rfl⟩
            case round =>
              clear HTc hHd hBd
              obtain ⟨t, qx, ht, htz, rfl, hTx, hHx, hBx, hQx, hPx, hFx⟩ := hrel
              obtain ⟨g2, rfl⟩ : ∃ g : Nat, g = gk := ⟨_, rfl⟩
              obtain ⟨W1, rfl⟩ : ∃ W : World, W = wr := ⟨_, rfl⟩
              have hE1 : Ext wA W1 := hTx.ext
              by_cases hlt : t < m.a.length
              · obtain ⟨ba, oa, rfl, hc0, hc1, hc2, hc3⟩ := HA.out t hlt
                have HXM := Lib.hid (arcA_mem hlt)
                have HXN := Lib.hid (foldA_next hlt (stepX m.a ((p : Int), (r : Int), dd)) q)
                generalize arcA m.a t = x at *
                go_wp2_with fail
                clear hE1
                go_loopg [10, 6] m.a.length (fun z i v wr => ∃ (s : Nat) (q' : Que), s ≤ m.a.length ∧ m.a.length ≤ s + z ∧ i = .int .i64 s ∧ PairS wA wr q' v ∧ Held wr v W0.heap.size 82 [.int .i64 (p : Int), .int .i64 (r : Int), .bool dd] ∧ Held wr v gE 4 ((endsB n m.e).map Value.bool) ∧ Hid (QOk n m.a q') ∧ Hid (q <+: q') ∧ Hid (q' = (m.a.take s).foldl (stepY ((p : Int), (r : Int), dd) x) qx))
                case atStart => exact ⟨0, qx, by omega, by omega, rfl, hTx, hHx, hBx, hQx, hPx, Lib.hid rfl⟩
                case round =>
                  clear hTx hHx hBx
                  obtain ⟨s, qy, hs, hsz, rfl, hTy, hHd, hBy, hQy, hPy, hFy⟩ := hrel
                  have hEr : Ext wA wr := hTy.ext
                  have HTY := Lib.hid hTy
                  obtain ⟨gy, cy, rfl, hcy, hcym, hcellsy⟩ := hTy.open_ hQy.out.pos
                  clear hTy
                  obtain ⟨g3, rfl⟩ : ∃ g : Nat, g = gk := ⟨_, rfl⟩
                  obtain ⟨W2, rfl⟩ : ∃ W : World, W = wr := ⟨_, rfl⟩
                  by_cases hlts : s < m.a.length
                  · obtain ⟨_, _, he, hy0, hy1, hy2, hy3⟩ := HA.out s hlts
                    injection he with he; injection he with he1 he2 _; subst he1 he2
                    have HYM := Lib.hid (arcA_mem hlts)
                    have HYN := Lib.hid (foldA_next hlts (stepY ((p : Int), (r : Int), dd) x) qx)
                    generalize arcA m.a s = y at *
                    go_upto_region 18 with fail
                    go_cut [11, 12] from 58 to 127 (fun s11 s12 wx => ∃ bx by_ : Nat, s11 = .pointer (some ⟨bx, 0, none⟩) ∧ s12 = .pointer (some ⟨by_, 0, none⟩) ∧ W2.heap.size ≤ bx ∧ W2.heap.size ≤ by_ ∧ Blk wx bx 50 [.int .i64 x.f, .int .i64 x.t, .int .i64 x.i, .int .i64 x.o] ∧ Blk wx by_ 50 [.int .i64 y.f, .int .i64 y.t, .int .i64 y.i, .int .i64 y.o] ∧ Ext W2 wx)
                    case first =>
                      refine wp_region_free (Ext W2) (fun _ => True) [] [0, 1, 2, 3, 4, 5, 6, 7, 8, 9] 4 (by kernel_rfl) (by kernel_rfl) (by intro c a d v w h; cases d <;> exact h) ?_
                      have hd : Ext W2 { W2 with drawn := W2.drawn + 1 } := drawn_ext W2
                      have hs : ∀ s : InC (Ext W2), Ext wA s.w := fun s => hEr.trans s.h
                      have q0 := fun s : InC (Ext W2) => (hEr.trans s.h).keep hc0
                      have q1 := fun s : InC (Ext W2) => (hEr.trans s.h).keep hc1
                      have q2 := fun s : InC (Ext W2) => (hEr.trans s.h).keep hc2
                      have q3 := fun s : InC (Ext W2) => (hEr.trans s.h).keep hc3
                      have q4 := fun s : InC (Ext W2) => (hEr.trans s.h).keep hy0
                      have q5 := fun s : InC (Ext W2) => (hEr.trans s.h).keep hy1
                      have q6 := fun s : InC (Ext W2) => (hEr.trans s.h).keep hy2
                      have q7 := fun s : InC (Ext W2) => (hEr.trans s.h).keep hy3
                      generalize { W2 with drawn := W2.drawn + 1 } = V0 at *
                      iterate 10 (refine wpPeek_look rfl ‹_› (fun K hK => ?_); go_simp; first | (refine hK _ ?_; clear hK K) | (refine ⟨_, fun _ => rfl, hK _ ?_⟩; clear hK K))
                      have HV0 := Lib.hid hd
                      clear hd hs q0 q1 q2 q3 q4 q5 q6 q7 hc0 hc1 hc2 hc3 hy0 hy1 hy2 hy3
                      refine wpPeek_nilK ?_
                      refine wpAnyE_each (i := 10) (is := [11]) (by kernel_rfl) ⟨?_, ?_, trivial⟩
                      · refine wpOp_of_list rfl rfl (fun K hK => ?_)
                        go_wp2_with fail
                        refine ⟨KeepE.of (fun h => h.trans (Ext.alloc _ _)) (fun _ => trivial), ?_⟩
                        have zx := Blk.alloc V0 #[.int .i64 0, .int .i64 0, .int .i64 0, .int .i64 0] 50
                        have hv1 : Ext W2 (V0.alloc (.cells #[.int .i64 0, .int .i64 0, .int .i64 0, .int .i64 0] 50)) := HV0.out.trans (Ext.alloc _ _)
                        have hlx : W2.heap.size ≤ V0.heap.size := HV0.out.size
                        have hz1 : V0.heap.size < (V0.alloc (.cells #[.int .i64 0, .int .i64 0, .int .i64 0, .int .i64 0] 50)).heap.size := by simp
                        generalize V0.alloc (.cells #[.int .i64 0, .int .i64 0, .int .i64 0, .int .i64 0] 50) = V1 at *
                        generalize V0.heap.size = bx at *
                        refine wpAnyE_each (i := 11) (is := []) (by kernel_rfl) ⟨?_, trivial⟩
                        refine wpOp_of_list rfl rfl (fun K hK => ?_)
                        go_wp2_with fail
                        refine ⟨KeepE.of (fun h => h.trans (Ext.alloc _ _)) (fun _ => trivial), ?_⟩
                        have zy := Blk.alloc V1 #[.int .i64 0, .int .i64 0, .int .i64 0, .int .i64 0] 50
                        replace zx := zx.ext (Ext.alloc V1 (.cells #[.int .i64 0, .int .i64 0, .int .i64 0, .int .i64 0] 50))
                        have hv2 : Ext W2 (V1.alloc (.cells #[.int .i64 0, .int .i64 0, .int .i64 0, .int .i64 0] 50)) := hv1.trans (Ext.alloc _ _)
                        have hly : W2.heap.size ≤ V1.heap.size := hv1.size
                        generalize V1.alloc (.cells #[.int .i64 0, .int .i64 0, .int .i64 0, .int .i64 0] 50) = V2 at *
                        generalize V1.heap.size = by_ at *
                        clear hv1
                        refine wpAnyE_each (i := 12) (is := []) (by kernel_rfl) ⟨?_, trivial⟩
                        refine wpOp_of_list rfl rfl (fun K hK => ?_)
                        have c0 := zx.cell (i := 0) rfl
                        have c1 := zx.cell (i := 1) rfl
                        have c2 := zx.cell (i := 2) rfl
                        have c3 := zx.cell (i := 3) rfl
                        have f0 := zx.frozen 0
                        have f1 := zx.frozen 1
                        have f2 := zx.frozen 2
                        have f3 := zx.frozen 3
                        have zn := zx.store4 (.int .i64 x.f) (.int .i64 x.t) (.int .i64 x.i) (.int .i64 x.o)
                        have zo := zy.other4 (c := bx) (by omega) (.int .i64 x.f) (.int .i64 x.t) (.int .i64 x.i) (.int .i64 x.o)
                        have hvn := Ext.store4 hv2 hlx (.int .i64 x.f) (.int .i64 x.t) (.int .i64 x.i) (.int .i64 x.o)
                        have HZ := Lib.hid (And.intro zn (And.intro zo hvn))
                        clear zn zo hvn zx zy
                        go_wp2_with fail
                        refine ⟨KeepE.of (fun h => Ext.store4 h hlx _ _ _ _) (fun _ => trivial), ?_⟩
                        obtain ⟨zx, zy, hv3⟩ := HZ.out
                        clear c0 c1 c2 c3 f0 f1 f2 f3 HZ
                        generalize ((((V2.setCell ⟨bx, 0, none⟩ (.int .i64 x.f)).setCell ⟨bx, 1, none⟩ (.int .i64 x.t)).setCell ⟨bx, 2, none⟩ (.int .i64 x.i)).setCell ⟨bx, 3, none⟩ (.int .i64 x.o)) = V3 at *
                        refine wpAnyE_each (i := 13) (is := []) (by kernel_rfl) ⟨?_, trivial⟩
                        refine wpOp_of_list rfl rfl (fun K hK => ?_)
                        have c0 := zy.cell (i := 0) rfl
                        have c1 := zy.cell (i := 1) rfl
                        have c2 := zy.cell (i := 2) rfl
                        have c3 := zy.cell (i := 3) rfl
                        have f0 := zy.frozen 0
                        have f1 := zy.frozen 1
                        have f2 := zy.frozen 2
                        have f3 := zy.frozen 3
                        have zn := zy.store4 (.int .i64 y.f) (.int .i64 y.t) (.int .i64 y.i) (.int .i64 y.o)
                        have zo := zx.other4 (c := by_) (by omega) (.int .i64 y.f) (.int .i64 y.t) (.int .i64 y.i) (.int .i64 y.o)
                        have hvn := Ext.store4 hv3 hly (.int .i64 y.f) (.int .i64 y.t) (.int .i64 y.i) (.int .i64 y.o)
                        have HZ := Lib.hid (And.intro zn (And.intro zo hvn))
                        clear zn zo hvn zy zx
                        go_wp2_with fail
                        refine ⟨KeepE.of (fun h => Ext.store4 h hly _ _ _ _) (fun _ => trivial), ?_⟩
                        obtain ⟨zy, zx, hv4⟩ := HZ.out
                        clear c0 c1 c2 c3 f0 f1 f2 f3 HZ
                        generalize ((((V3.setCell ⟨by_, 0, none⟩ (.int .i64 y.f)).setCell ⟨by_, 1, none⟩ (.int .i64 y.t)).setCell ⟨by_, 2, none⟩ (.int .i64 y.i)).setCell ⟨by_, 3, none⟩ (.int .i64 y.o)) = V4 at *
                        refine wpAnyE_done (by kernel_rfl) ?_
                        go_wp2_with fail
                        go_meet
                        case rel => exact ⟨bx, by_, rfl, rfl, hlx, hly, zx, zy, hv4⟩
                      · refine wpOp_of_list rfl rfl (fun K hK => ?_)
                        go_wp2_with fail
                        refine ⟨KeepE.of (fun h => h.trans (Ext.alloc _ _)) (fun _ => trivial), ?_⟩
                        have zy := Blk.alloc V0 #[.int .i64 0, .int .i64 0, .int .i64 0, .int .i64 0] 50
                        have hv1 : Ext W2 (V0.alloc (.cells #[.int .i64 0, .int .i64 0, .int .i64 0, .int .i64 0] 50)) := HV0.out.trans (Ext.alloc _ _)
                        have hly : W2.heap.size ≤ V0.heap.size := HV0.out.size
                        have hz1 : V0.heap.size < (V0.alloc (.cells #[.int .i64 0, .int .i64 0, .int .i64 0, .int .i64 0] 50)).heap.size := by simp
                        generalize V0.alloc (.cells #[.int .i64 0, .int .i64 0, .int .i64 0, .int .i64 0] 50) = V1 at *
                        generalize V0.heap.size = by_ at *
                        refine wpAnyE_each (i := 10) (is := []) (by kernel_rfl) ⟨?_, trivial⟩
                        refine wpOp_of_list rfl rfl (fun K hK => ?_)
                        go_wp2_with fail
                        refine ⟨KeepE.of (fun h => h.trans (Ext.alloc _ _)) (fun _ => trivial), ?_⟩
                        have zx := Blk.alloc V1 #[.int .i64 0, .int .i64 0, .int .i64 0, .int .i64 0] 50
                        replace zy := zy.ext (Ext.alloc V1 (.cells #[.int .i64 0, .int .i64 0, .int .i64 0, .int .i64 0] 50))
                        have hv2 : Ext W2 (V1.alloc (.cells #[.int .i64 0, .int .i64 0, .int .i64 0, .int .i64 0] 50)) := hv1.trans (Ext.alloc _ _)
                        have hlx : W2.heap.size ≤ V1.heap.size := hv1.size
                        generalize V1.alloc (.cells #[.int .i64 0, .int .i64 0, .int .i64 0, .int .i64 0] 50) = V2 at *
                        generalize V1.heap.size = bx at *
                        clear hv1
                        refine wpAnyE_each (i := 12) (is := []) (by kernel_rfl) ⟨?_, trivial⟩
                        refine wpOp_of_list rfl rfl (fun K hK => ?_)
                        have c0 := zx.cell (i := 0) rfl
                        have c1 := zx.cell (i := 1) rfl
                        have c2 := zx.cell (i := 2) rfl
                        have c3 := zx.cell (i := 3) rfl
                        have f0 := zx.frozen 0
                        have f1 := zx.frozen 1
                        have f2 := zx.frozen 2
                        have f3 := zx.frozen 3
                        have zn := zx.store4 (.int .i64 x.f) (.int .i64 x.t) (.int .i64 x.i) (.int .i64 x.o)
                        have zo := zy.other4 (c := bx) (by omega) (.int .i64 x.f) (.int .i64 x.t) (.int .i64 x.i) (.int .i64 x.o)
                        have hvn := Ext.store4 hv2 hlx (.int .i64 x.f) (.int .i64 x.t) (.int .i64 x.i) (.int .i64 x.o)
                        have HZ := Lib.hid (And.intro zn (And.intro zo hvn))
                        clear zn zo hvn zx zy
                        go_wp2_with fail
                        refine ⟨KeepE.of (fun h => Ext.store4 h hlx _ _ _ _) (fun _ => trivial), ?_⟩
                        obtain ⟨zx, zy, hv3⟩ := HZ.out
                        clear c0 c1 c2 c3 f0 f1 f2 f3 HZ
                        generalize ((((V2.setCell ⟨bx, 0, none⟩ (.int .i64 x.f)).setCell ⟨bx, 1, none⟩ (.int .i64 x.t)).setCell ⟨bx, 2, none⟩ (.int .i64 x.i)).setCell ⟨bx, 3, none⟩ (.int .i64 x.o)) = V3 at *
                        refine wpAnyE_each (i := 13) (is := []) (by kernel_rfl) ⟨?_, trivial⟩
                        refine wpOp_of_list rfl rfl (fun K hK => ?_)
                        have c0 := zy.cell (i := 0) rfl
                        have c1 := zy.cell (i := 1) rfl
                        have c2 := zy.cell (i := 2) rfl
                        have c3 := zy.cell (i := 3) rfl
                        have f0 := zy.frozen 0
                        have f1 := zy.frozen 1
                        have f2 := zy.frozen 2
                        have f3 := zy.frozen 3
                        have zn := zy.store4 (.int .i64 y.f) (.int .i64 y.t) (.int .i64 y.i) (.int .i64 y.o)
                        have zo := zx.other4 (c := by_) (by omega) (.int .i64 y.f) (.int .i64 y.t) (.int .i64 y.i) (.int .i64 y.o)
                        have hvn := Ext.store4 hv3 hly (.int .i64 y.f) (.int .i64 y.t) (.int .i64 y.i) (.int .i64 y.o)
                        have HZ := Lib.hid (And.intro zn (And.intro zo hvn))
                        clear zn zo hvn zy zx
                        go_wp2_with fail
                        refine ⟨KeepE.of (fun h => Ext.store4 h hly _ _ _ _) (fun _ => trivial), ?_⟩
                        obtain ⟨zy, zx, hv4⟩ := HZ.out
                        clear c0 c1 c2 c3 f0 f1 f2 f3 HZ
                        generalize ((((V3.setCell ⟨by_, 0, none⟩ (.int .i64 y.f)).setCell ⟨by_, 1, none⟩ (.int .i64 y.t)).setCell ⟨by_, 2, none⟩ (.int .i64 y.i)).setCell ⟨by_, 3, none⟩ (.int .i64 y.o)) = V4 at *
                        refine wpAnyE_done (by kernel_rfl) ?_
                        go_wp2_with fail
                        go_meet
                        case rel => exact ⟨bx, by_, rfl, rfl, hlx, hly, zx, zy, hv4⟩
                    case rest =>
                      obtain ⟨bx, by_, rfl, rfl, hbx, hby, hKX, hKY, hXc⟩ := hcut
                      have hEc : Ext wA wc := hEr.trans hXc
                      have hHdc := hHd.later hXc
                      have hByc := hBy.later hXc
                      have HTc := HTY.out.later hXc
                      have d0 := hHdc.1.cell (i := 0) rfl
                      have d1 := hHdc.1.cell (i := 1) rfl
                      have d2 := hHdc.1.cell (i := 2) rfl
                      have x0 := hKX.cell (i := 0) rfl
                      have x1 := hKX.cell (i := 1) rfl
                      have x2 := hKX.cell (i := 2) rfl
                      have x3 := hKX.cell (i := 3) rfl
                      have y0 := hKY.cell (i := 0) rfl
                      have y1 := hKY.cell (i := 1) rfl
                      have y2 := hKY.cell (i := 2) rfl
                      have y3 := hKY.cell (i := 3) rfl
                      clear hc0 hc1 hc2 hc3 hy0 hy1 hy2 hy3 hEr hHd hBy hbx hby hKX hKY
                      have HFD : Hid (fitD ((p : Int), (r : Int), dd) x y = (x.f == (p : Int) && (y.f == (r : Int) && x.i == y.i))) := Lib.hid rfl
                      by_cases hxf : x.f = (p : Int)
                      · by_cases hyf : y.f = (r : Int)
                        · by_cases hxi : x.i = y.i
                          · have hf1 : (x.f != (p : Int)) = false := by simp [hxf]
                            have hf2 : (y.f != (r : Int)) = false := by simp [hyf]
                            have hf3 : (x.i != y.i) = false := by simp [hxi]
                            have HF := Lib.hid (show fitD ((p : Int), (r : Int), dd) x y = true by rw [HFD.out]; simp [hxf, hyf, hxi])
                            clear hxf hyf hxi HFD
                            cases dd
                            · have HND : Hid (nextD ((p : Int), (r : Int), false) x y = (x.t, y.t, (x.o != y.o))) := Lib.hid rfl
                              go_upto_region 21 with fail
                              generalize (x.o != y.o) = bo at *
                              obtain ⟨wN, hwN⟩ : ∃ wN, wN = wc.alloc (.cells #[.int .i64 x.t, .int .i64 y.t, .bool bo] 82) := ⟨_, rfl⟩
                              have hXN : Ext wc wN := by rw [hwN]; exact Ext.alloc _ _
                              have c0 : wN.cell? ⟨wc.heap.size, 0, none⟩ = some (.int .i64 x.t) := by rw [hwN]; exact alloc_cell wc _ _ rfl
                              have c1 : wN.cell? ⟨wc.heap.size, 1, none⟩ = some (.int .i64 y.t) := by rw [hwN]; exact alloc_cell wc _ _ (i := 1) rfl
                              have c2 : wN.cell? ⟨wc.heap.size, 2, none⟩ = some (.bool bo) := by rw [hwN]; exact alloc_cell wc _ _ (i := 2) rfl
                              have HWN := Lib.hid hwN; clear hwN
                              rw [← HWN.out]
                              have hTN := HTc.later hXN
                              have hHdN := hHdc.later hXN
                              have hByN := hByc.later hXN
                              have hX2N : Ext W2 wN := hXc.trans hXN
                              have hEN : Ext wA wN := hTN.ext
                              clear HTc hHdc hByc d0 d1 d2 x0 x1 x2 x3 y0 y1 y2 y3 hXc hEc
                              have hql := hQy.out.len hn9
                              go_wp2_with fail
                              generalize hD : ((x.t, y.t, bo) : Dbl) = D at *
                              go_loopg [15, 14] qy.length (fun z j f wr => ∃ t : Nat, t ≤ qy.length ∧ qy.length ≤ t + z ∧ j = .int .i64 t ∧ f = .bool (freshT qy D t) ∧ Ext wN wr)
                              case atStart => exact ⟨0, by omega, by omega, rfl, rfl, Ext.refl _⟩
                              case round =>
                                obtain ⟨t2, ht2, htz2, rfl, rfl, hXt⟩ := hrel
                                by_cases hlt2 : t2 < qy.length
                                · obtain ⟨e0, e1, e2⟩ := hcellsy.out t2 hlt2
                                  have HFN := freshT_next qy D t2
                                  generalize dAt qy t2 = E at *
                                  obtain ⟨ea, eb, ed⟩ := E
                                  simp only at e0 e1 e2
                                  have hs : ∀ s : Later wr, Ext wA s.w := fun s => hEN.trans (hXt.trans s.ext)
                                  have hneq := fun W => (run_eql_pairs W (ea, eb, ed) (x.t, y.t, bo)).2
                                  simp only [encD] at hneq
                                  rw [hD] at hneq
                                  have q0 := fun s : Later wr => (hX2N.trans (hXt.trans s.ext)).keep e0
                                  have q1 := fun s : Later wr => (hX2N.trans (hXt.trans s.ext)).keep e1
                                  have q2 := fun s : Later wr => (hX2N.trans (hXt.trans s.ext)).keep e2
                                  have q3 := fun s : Later wr => (hXt.trans s.ext).keep c0
                                  have q4 := fun s : Later wr => (hXt.trans s.ext).keep c1
                                  have q5 := fun s : Later wr => (hXt.trans s.ext).keep c2
                                  have HFN := Lib.hid HFN
                                  cases hft : freshT qy D t2
                                  · rw [hft] at HFN
                                    go_wp2_with fail
                                    refine wp_region_later (by kernel_rfl) (by kernel_rfl) ?_
                                    repeat (go_big_quiet_step (fail))
                                    refine wpQuiet_nil ?_
                                    intro w5 hw'
                                    obtain ⟨⟨_, hx5⟩, rfl⟩ := hw'
                                    clear hs q0 q1 q2 q3 q4 q5 hneq
                                    go_wp2_with fail
                                    go_roundg (gk-1)
                                    case measure => omega
                                    case rel => exact ⟨t2+1, by omega, by omega, by go_num, by rw [HFN.out]; rfl, hXt.trans hx5⟩
                                  · rw [hft] at HFN
                                    go_wp2_with fail
                                    refine wp_region_later (by kernel_rfl) (by kernel_rfl) ?_
                                    repeat (go_big_quiet_step (fail))
                                    refine wpQuiet_nil ?_
                                    intro w5 hw'
                                    obtain ⟨⟨_, hx5⟩, rfl⟩ := hw'
                                    clear hs q0 q1 q2 q3 q4 q5 hneq
                                    go_wp2_with fail
                                    go_roundg (gk-1)
                                    case measure => omega
                                    case rel => exact ⟨t2+1, by omega, by omega, by go_num, by rw [HFN.out, Bool.true_and], hXt.trans hx5⟩
                                · have hte : t2 = qy.length := by omega
                                  subst hte
                                  have HFA := Lib.hid (freshT_all qy D)
                                  have hTr := hTN.later hXt
                                  have hHdr := hHdN.later hXt
                                  have hByr := hByN.later hXt
                                  replace c0 := hXt.keep c0
                                  replace c1 := hXt.keep c1
                                  replace c2 := hXt.keep c2
                                  generalize freshT qy D qy.length = fr at *
                                  subst hD
                                  cases fr
                                  · have HHS : Hid (hasD qy (x.t, y.t, bo) = true) := Lib.hid (by have := HFA.out; simpa using this.symm)
                                    go_wp2_with fail
                                    go_roundg (g3-1)
                                    case measure => omega
                                    case rel => exact ⟨s+1, qy, by omega, by omega, by go_num, hTr, hHdr, hByr, hQy, hPy, by rw [HYN.out, ← hFy.out, stepY, HF.out, if_pos rfl, HND.out, HHS.out, if_pos rfl]; exact rfl⟩
                                  · have HHS : Hid (hasD qy (x.t, y.t, bo) = false) := Lib.hid (by have := HFA.out; simpa using this.symm)
                                    have HSTEP : Hid (stepY ((p : Int), (r : Int), false) x qy y = qy ++ [((x.t, y.t, bo), ⟨((p : Int), (r : Int), false), x.i, x.o, y.o, false⟩)]) := by
                                      rw [stepY, HF.out, if_pos rfl, HND.out, HHS.out]; exact Lib.hid rfl
                                    have hB4 : wA.heap.size ≤ wr.heap.size := hTr.ext.size
                                    have HROW4 := Lib.hid hTr.row
                                    have HONE : Hid (∀ u ∈ [Value.int .i64 x.t, .int .i64 y.t, .bool bo], u.oneCell' = true) := Lib.hid (by intro u hu; simp only [List.mem_cons, List.not_mem_nil, or_false] at hu; rcases hu with rfl | rfl | rfl <;> rfl)
                                    go_wp2_with (at_builtin; refine wpList_appendN (us := [.int .i64 x.t, .int .i64 y.t, .bool bo]) elPair rfl _ _ rfl rfl rfl HROW4.out rfl rfl HONE.out hB4 (by omega) (by omega) ?_; intro qv5 w5 hrow5 hb5 hgr5 hob5)
                                    go_roundg (g3-1)
                                    case measure => omega
                                    case rel =>
                                      have hq5 : QOk n m.a (qy ++ [((x.t, y.t, bo), ⟨((p : Int), (r : Int), false), x.i, x.o, y.o, false⟩)]) := by
                                        rw [← HSTEP.out]; exact hQy.out.stepY HM.out.arcs (mem_pre hPy.out HDM.out) HXM.out HYM.out
                                      exact ⟨s+1, _, by omega, by omega, by go_num, ⟨hTr.ext.upto hb5 (Nat.le_refl _), by rw [List.length_append, flat_snoc]; exact hrow5⟩, hHdr.push hgr5 hob5, hByr.push hgr5 hob5, Lib.hid hq5,
                                        Lib.hid (hPy.out.trans (List.prefix_append _ _)), by rw [HYN.out, ← hFy.out, HSTEP.out]; exact rfl⟩
                            · have HND : Hid (nextD ((p : Int), (r : Int), true) x y = (x.t, y.t, true)) := Lib.hid rfl
                              go_upto_region 21 with fail
                              obtain ⟨wN, hwN⟩ : ∃ wN, wN = wc.alloc (.cells #[.int .i64 x.t, .int .i64 y.t, .bool true] 82) := ⟨_, rfl⟩
                              have hXN : Ext wc wN := by rw [hwN]; exact Ext.alloc _ _
                              have c0 : wN.cell? ⟨wc.heap.size, 0, none⟩ = some (.int .i64 x.t) := by rw [hwN]; exact alloc_cell wc _ _ rfl
                              have c1 : wN.cell? ⟨wc.heap.size, 1, none⟩ = some (.int .i64 y.t) := by rw [hwN]; exact alloc_cell wc _ _ (i := 1) rfl
                              have c2 : wN.cell? ⟨wc.heap.size, 2, none⟩ = some (.bool true) := by rw [hwN]; exact alloc_cell wc _ _ (i := 2) rfl
                              have HWN := Lib.hid hwN; clear hwN
                              rw [← HWN.out]
                              have hTN := HTc.later hXN
                              have hHdN := hHdc.later hXN
                              have hByN := hByc.later hXN
                              have hX2N : Ext W2 wN := hXc.trans hXN
                              have hEN : Ext wA wN := hTN.ext
                              clear HTc hHdc hByc d0 d1 d2 x0 x1 x2 x3 y0 y1 y2 y3 hXc hEc
                              have hql := hQy.out.len hn9
                              go_wp2_with fail
                              generalize hD : ((x.t, y.t, true) : Dbl) = D at *
                              go_loopg [15, 14] qy.length (fun z j f wr => ∃ t : Nat, t ≤ qy.length ∧ qy.length ≤ t + z ∧ j = .int .i64 t ∧ f = .bool (freshT qy D t) ∧ Ext wN wr)
                              case atStart => exact ⟨0, by omega, by omega, rfl, rfl, Ext.refl _⟩
                              case round =>
                                obtain ⟨t2, ht2, htz2, rfl, rfl, hXt⟩ := hrel
                                by_cases hlt2 : t2 < qy.length
                                · obtain ⟨e0, e1, e2⟩ := hcellsy.out t2 hlt2
                                  have HFN := freshT_next qy D t2
                                  generalize dAt qy t2 = E at *
                                  obtain ⟨ea, eb, ed⟩ := E
                                  simp only at e0 e1 e2
                                  have hs : ∀ s : Later wr, Ext wA s.w := fun s => hEN.trans (hXt.trans s.ext)
                                  have hneq := fun W => (run_eql_pairs W (ea, eb, ed) (x.t, y.t, true)).2
                                  simp only [encD] at hneq
                                  rw [hD] at hneq
                                  have q0 := fun s : Later wr => (hX2N.trans (hXt.trans s.ext)).keep e0
                                  have q1 := fun s : Later wr => (hX2N.trans (hXt.trans s.ext)).keep e1
                                  have q2 := fun s : Later wr => (hX2N.trans (hXt.trans s.ext)).keep e2
                                  have q3 := fun s : Later wr => (hXt.trans s.ext).keep c0
                                  have q4 := fun s : Later wr => (hXt.trans s.ext).keep c1
                                  have q5 := fun s : Later wr => (hXt.trans s.ext).keep c2
                                  have HFN := Lib.hid HFN
                                  cases hft : freshT qy D t2
                                  · rw [hft] at HFN
                                    go_wp2_with fail
                                    refine wp_region_later (by kernel_rfl) (by kernel_rfl) ?_
                                    repeat (go_big_quiet_step (fail))
                                    refine wpQuiet_nil ?_
                                    intro w5 hw'
                                    obtain ⟨⟨_, hx5⟩, rfl⟩ := hw'
                                    clear hs q0 q1 q2 q3 q4 q5 hneq
                                    go_wp2_with fail
                                    go_roundg (gk-1)
                                    case measure => omega
                                    case rel => exact ⟨t2+1, by omega, by omega, by go_num, by rw [HFN.out]; rfl, hXt.trans hx5⟩
                                  · rw [hft] at HFN
                                    go_wp2_with fail
                                    refine wp_region_later (by kernel_rfl) (by kernel_rfl) ?_
                                    repeat (go_big_quiet_step (fail))
                                    refine wpQuiet_nil ?_
                                    intro w5 hw'
                                    obtain ⟨⟨_, hx5⟩, rfl⟩ := hw'
                                    clear hs q0 q1 q2 q3 q4 q5 hneq
                                    go_wp2_with fail
                                    go_roundg (gk-1)
                                    case measure => omega
                                    case rel => exact ⟨t2+1, by omega, by omega, by go_num, by rw [HFN.out, Bool.true_and], hXt.trans hx5⟩
                                · have hte : t2 = qy.length := by omega
                                  subst hte
                                  have HFA := Lib.hid (freshT_all qy D)
                                  have hTr := hTN.later hXt
                                  have hHdr := hHdN.later hXt
                                  have hByr := hByN.later hXt
                                  replace c0 := hXt.keep c0
                                  replace c1 := hXt.keep c1
                                  replace c2 := hXt.keep c2
                                  generalize freshT qy D qy.length = fr at *
                                  subst hD
                                  cases fr
                                  · have HHS : Hid (hasD qy (x.t, y.t, true) = true) := Lib.hid (by have := HFA.out; simpa using this.symm)
                                    go_wp2_with fail
                                    go_roundg (g3-1)
                                    case measure => omega
                                    case rel => exact ⟨s+1, qy, by omega, by omega, by go_num, hTr, hHdr, hByr, hQy, hPy, by rw [HYN.out, ← hFy.out, stepY, HF.out, if_pos rfl, HND.out, HHS.out, if_pos rfl]; exact rfl⟩
                                  · have HHS : Hid (hasD qy (x.t, y.t, true) = false) := Lib.hid (by have := HFA.out; simpa using this.symm)
                                    have HSTEP : Hid (stepY ((p : Int), (r : Int), true) x qy y = qy ++ [((x.t, y.t, true), ⟨((p : Int), (r : Int), true), x.i, x.o, y.o, false⟩)]) := by
                                      rw [stepY, HF.out, if_pos rfl, HND.out, HHS.out]; exact Lib.hid rfl
                                    have hB4 : wA.heap.size ≤ wr.heap.size := hTr.ext.size
                                    have HROW4 := Lib.hid hTr.row
                                    have HONE : Hid (∀ u ∈ [Value.int .i64 x.t, .int .i64 y.t, .bool true], u.oneCell' = true) := Lib.hid (by intro u hu; simp only [List.mem_cons, List.not_mem_nil, or_false] at hu; rcases hu with rfl | rfl | rfl <;> rfl)
                                    go_wp2_with (at_builtin; refine wpList_appendN (us := [.int .i64 x.t, .int .i64 y.t, .bool true]) elPair rfl _ _ rfl rfl rfl HROW4.out rfl rfl HONE.out hB4 (by omega) (by omega) ?_; intro qv5 w5 hrow5 hb5 hgr5 hob5)
                                    go_roundg (g3-1)
                                    case measure => omega
                                    case rel =>
                                      have hq5 : QOk n m.a (qy ++ [((x.t, y.t, true), ⟨((p : Int), (r : Int), true), x.i, x.o, y.o, false⟩)]) := by
                                        rw [← HSTEP.out]; exact hQy.out.stepY HM.out.arcs (mem_pre hPy.out HDM.out) HXM.out HYM.out
                                      exact ⟨s+1, _, by omega, by omega, by go_num, ⟨hTr.ext.upto hb5 (Nat.le_refl _), by rw [List.length_append, flat_snoc]; exact hrow5⟩, hHdr.push hgr5 hob5, hByr.push hgr5 hob5, Lib.hid hq5,
                                        Lib.hid (hPy.out.trans (List.prefix_append _ _)), by rw [HYN.out, ← hFy.out, HSTEP.out]; exact rfl⟩
                          · have hf1 : (x.f != (p : Int)) = false := by simp [hxf]
                            have hf2 : (y.f != (r : Int)) = false := by simp [hyf]
                            have hf3 : (x.i != y.i) = true := by simp [hxi]
                            have HNEG := Lib.hid hxi; clear hxi
                            clear hxf
                            clear hyf
                            go_wp2_with fail
                            go_roundg (g3-1)
                            case measure => omega
                            case rel => exact ⟨s+1, qy, by omega, by omega, by go_num, HTc, hHdc, hByc, hQy, hPy, by rw [HYN.out, ← hFy.out, stepY, HFD.out, if_neg (by simp [HNEG.out])]; exact rfl⟩
                        · have hf1 : (x.f != (p : Int)) = false := by simp [hxf]
                          have hf2 : (y.f != (r : Int)) = true := by simp [hyf]
                          have HNEG := Lib.hid hyf; clear hyf
                          clear hxf
                          go_wp2_with fail
                          go_roundg (g3-1)
                          case measure => omega
                          case rel => exact ⟨s+1, qy, by omega, by omega, by go_num, HTc, hHdc, hByc, hQy, hPy, by rw [HYN.out, ← hFy.out, stepY, HFD.out, if_neg (by simp [HNEG.out])]; exact rfl⟩
                      · have hf1 : (x.f != (p : Int)) = true := by simp [hxf]
                        have HNEG := Lib.hid hxf; clear hxf
                        go_wp2_with fail
                        go_roundg (g3-1)
                        case measure => omega
                        case rel => exact ⟨s+1, qy, by omega, by omega, by go_num, HTc, hHdc, hByc, hQy, hPy, by rw [HYN.out, ← hFy.out, stepY, HFD.out, if_neg (by simp [HNEG.out])]; exact rfl⟩
                  · have HXE : Hid (qy = (m.a.take (t + 1)).foldl (stepX m.a ((p : Int), (r : Int), dd)) q) := by rw [HXN.out, ← hFx.out, hFy.out, List.take_of_length_le (by omega)]; exact rfl
                    go_wp2_with fail
                    go_roundg (g2-1)
                    case measure => omega
                    case rel => exact ⟨t+1, qy, by omega, by omega, by go_num, HTY.out, hHd, hBy, hQy, hPy, HXE⟩
              · have HFE : Hid (qx = stepD m.a q ((p : Int), (r : Int), dd)) := by rw [hFx.out, List.take_of_length_le (by omega)]; exact rfl
                have hle : i + 1 ≤ qx.length := by have := hPx.out.length_le; omega
                go_wp2_with fail
                go_roundg (g1-1)
                case measure => omega
                case rel => exact ⟨i+1, qx, hle, by omega, by go_num, hTx, hBx, hQx, by rw [HFE.out, ← HST2.out, hBF.out]; exact rfl⟩
          · have HST2 : Hid (bfs m (200 - i) i q = some (((p : Int), (r : Int), dd), q)) := by rw [HST.out]; exact Lib.hid rfl
            have HBM : Hid (bfsM m = some (((p : Int), (r : Int), dd), q)) := by rw [← hBF.out, HST2.out]; exact rfl
            go_wp2_with fail
            go_ret2
            exact ⟨by rw [HIF.out, HBM.out]; rfl, hE0.trans hEd⟩
      · have HST2 : Hid (bfs m (200 - i) i q = none) := by rw [show 200 - i = (200 - (i + 1)) + 1 by omega, bfs, if_neg hlt]; exact rfl
        have HN : Hid (bfsM m = none) := by rw [← hBF.out, HST2.out]; exact rfl
        go_wp2_with fail
        go_ret2
        exact ⟨by rw [HIF.out, HN.out]; rfl, hE0.trans hEr⟩
  · have hk : (validM m != 0) = true := by simp [h0]
    have HIF : Hid (isFunB m = false) := by rw [isFunB, if_neg h0]; exact rfl
    generalize validM m = k at *
    clear h0
    go_enter Try.func28, Try.ntmps28
    go_wp2_with fail
    rw [← HW.out]
    refine HV.out.mono ?_; rintro e w1 ⟨rfl, hx1⟩
    go_wp2_with fail
    go_ret2
    exact ⟨by rw [HIF.out]; rfl, hE0.trans hx1⟩
end Go.Proofs.Ytodhmkbkcjpnkaa
