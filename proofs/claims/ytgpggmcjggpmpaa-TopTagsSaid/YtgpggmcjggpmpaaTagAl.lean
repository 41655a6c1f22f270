/- All splits: All of the program. -/
import Derived.Test.YtgpggmcjggpmpaaTagAp
import Derived.Test.YtgpggmcjggpmpaaTagJ
import Derived.Test.YtgpggmcjggpmpaaTagM
namespace Go.Proofs.Ytgpggmcjggpmpaa
open Go.RowKit Go.Shelf
set_option linter.unusedVariables false

/-- the function that grows the splits, with what it holds -/
def growF (bt bo bl br bg : Nat) : Value := .func (.func 58) #[] #[.pointer (some ⟨bt, 0, none⟩), .pointer (some ⟨bo, 0, none⟩), .pointer (some ⟨bl, 0, none⟩), .pointer (some ⟨br, 0, none⟩), .pointer (some ⟨bg, 0, none⟩)]
/-- what holds while the splits are grown: W1 is the world before the list of splits was there -/
structure GInv (W1 w : World) (FV ov : Value) (outs : List (List Int)) : Prop where
  x : Ext W1 w
  o : Blk w W1.heap.size 23 [ov]
  g : Blk w (W1.heap.size + 1) 71 [FV]
  s : SR w W1.heap.size ov outs
theorem GInv.ext {W1 w w' : World} {FV ov : Value} {outs : List (List Int)} (h : GInv W1 w FV ov outs) (hx : Ext w w') : GInv W1 w' FV ov outs :=
  ⟨h.x.trans hx, h.o.ext hx, h.g.ext hx, h.s.ext hx⟩
theorem Blk.apart {w : World} {g B : Nat} {ty e : TypeId} {vs : List Value} {v : Value} (h : Blk w g ty vs) (hr : RowT w B e v) (he : e ≠ ty) : v.ownBlock ≠ some g := fun hv => by
  obtain ⟨_, cur, h2⟩ := hr g hv
  have h3 : w.heap[g]? = _ := h
  rw [h2] at h3; injection h3 with h3; injection h3 with _ h3 _; exact he h3
theorem Blk.kept {w w' : World} {g : Nat} {ty : TypeId} {vs : List Value} {row : Option Nat} (h : Blk w g ty vs) (hg : w.grownBy w' row) (hr : row ≠ some g) : Blk w' g ty vs :=
  (hg.block g h.lt (fun e => hr e.symm)).trans h
theorem GInv.mid {W1 w w' : World} {FV ov : Value} {outs : List (List Int)} (h : GInv W1 w FV ov outs) (hg : w.grownBy w' ov.ownBlock) : Blk w' W1.heap.size 23 [ov] :=
  h.o.kept hg (h.o.apart h.s.row (by decide))
theorem OTail.form {w : World} {B : Nat} {e : TypeId} {size n : Nat} {v : Value} {xs : List Value} (h : OTail w B e size v n xs) : ∃ a c, v = .slice a n c := by
  rcases h.2 with ⟨rfl, h0⟩ | ⟨g, o, cap, cur, rfl, _⟩
  · exact ⟨_, _, by rw [h0]⟩
  · exact ⟨_, _, rfl⟩
/-- one more -/
theorem GInv.push {W1 w w' : World} {FV ov v' sv : Value} {outs : List (List Int)} {s : List Int} {us : List Value} (h : GInv W1 w FV ov outs) (hs : SInts w W1.heap.size sv s) (h1 : OTail w W1.heap.size 26 1 ov outs.length us) (h2 : AllS w W1.heap.size us outs)
    (ho : OTail w' W1.heap.size 26 1 v' (outs.length + 1) (us ++ [sv])) (hg : w.grownBy w' ov.ownBlock) :
    GInv W1 (w'.setCell ⟨W1.heap.size, 0, none⟩ v') FV v' (outs ++ [s]) ∧ ∀ v x, SInts w W1.heap.size v x → SInts (w'.setCell ⟨W1.heap.size, 0, none⟩ v') W1.heap.size v x := by
  have hrow := h.s.row
  have hmid := h.mid hg
  have hg2 := grownBy_set w' W1.heap.size 0 v'
  have hgB : Blk w' (W1.heap.size + 1) 71 [FV] := h.g.kept hg (h.g.apart hrow (by decide))
  have hS : SR w' W1.heap.size v' (outs ++ [s]) := SR.more h1 h2 hs ho hg
  have hn : NoI w' W1.heap.size W1.heap.size := noI_set hmid (Nat.le_refl _) (by decide)
  refine ⟨⟨(hrow.below h.x hg).setCell (Nat.le_refl _) _ _, by have := hmid.set 0 v'; exact this, Blk.other hgB (by omega) _ _, ?_⟩, fun v x hv => ?_⟩
  · exact hS.keptN hg2 (fun r e => by injection e with e; subst e; exact ⟨hn, hmid.apart hS.row (by decide)⟩)
  · exact (hv.kept hg (hrow.noI (by decide))).kept hg2 (fun r e => by injection e with e; subst e; exact hn)
/-- the class of worlds in which the last region is walked -/
def GCls (W1 : World) (FV : Value) (w : World) : Prop := Ext W1 w ∧ w.cell? ⟨W1.heap.size + 1, 0, none⟩ = some FV
theorem GInv.cls {W1 w : World} {FV ov : Value} {outs : List (List Int)} (h : GInv W1 w FV ov outs) : GCls W1 FV w := ⟨h.x, h.g.cell rfl⟩
theorem GCls.ext {W1 w w' : World} {FV : Value} (h : GCls W1 FV w) (hx : Ext w w') : GCls W1 FV w' := ⟨h.1.trans hx, hx.keep h.2⟩
def RGrow (W1 : World) (FV : Value) (L : List (List Int)) (w : World) (e : Ending) (w' : World) : Prop := e = .returned (.tuple #[]) ∧ ∃ ov', GInv W1 w' FV ov' L ∧ ∀ v x, SInts w W1.heap.size v x → SInts w' W1.heap.size v x
theorem last_at {s : List Int} {k : Nat} (h : s.length = k + 1) : s[k]?.getD 0 = lastI s := by unfold lastI; rw [h]; rfl
set_option maxHeartbeats 8000000 in
set_option maxRecDepth 100000 in
theorem grow_c (W1 : World) (bt bl br A : Nat) (iv fv tv : Value) (vs : List Value) (l : Lex) (t : List Int) (hR : LexR W1 iv fv l) (hl : LexOk l) (ht : Ints W1 tv t) (h12 : t.length ≤ 12)
    (hc0 : W1.cell? ⟨bl, 0, none⟩ = some iv) (hc1 : W1.cell? ⟨bl, 1, none⟩ = some fv) (hct : W1.cell? ⟨bt, 0, none⟩ = some tv) (hcr : W1.cell? ⟨br, 0, none⟩ = some (.slice (some ⟨A, 0, none⟩) (t.length + 1) (t.length + 1)))
    (hgd : GrD W1 A (t.length + 1) 26 3 (fun _ => True) (gridI (restRow l t)) vs) (FV : Value) (hFV : FV = growF bt W1.heap.size bl br (W1.heap.size + 1)) :
    ∀ (m : Nat) (s : List Int) (p : Nat) (sv ov : Value) (outs : List (List Int)) (w : World), t.length ≤ p + m → p ≤ t.length → GInv W1 w FV ov outs → SInts w W1.heap.size sv s → allIn l s →
      outs.length + (spl l (t.drop p) (befS s)).length ≤ 50 → s.length ≤ p →
      Calls Try.prog 58 #[sv, .int .i64 (p : Int), .pointer (some ⟨bt, 0, none⟩), .pointer (some ⟨W1.heap.size, 0, none⟩), .pointer (some ⟨bl, 0, none⟩), .pointer (some ⟨br, 0, none⟩), .pointer (some ⟨W1.heap.size + 1, 0, none⟩)] w
        (RGrow W1 FV (outs ++ (spl l (t.drop p) (befS s)).map (s ++ ·)) w) := by
  have HR := Lib.hid hR
  have HL := Lib.hid hl
  have HT := Lib.hid ht
  have HGD := Lib.hid hgd
  have HFV : Hid (FV = .func (.func 58) #[] #[.pointer (some ⟨bt, 0, none⟩), .pointer (some ⟨W1.heap.size, 0, none⟩), .pointer (some ⟨bl, 0, none⟩), .pointer (some ⟨br, 0, none⟩), .pointer (some ⟨W1.heap.size + 1, 0, none⟩)]) := Lib.hid hFV
  obtain ⟨ai, ci, rfl, hli, hmi, HI⟩ := hR.i.open_
  obtain ⟨af, cf, rfl, hlf, hmf, HF⟩ := Rows.open_ hR.f
  obtain ⟨at_, ct, rfl, hlt0, hmt0, HTO⟩ := ht.open_
  have k0 : ∀ W, Ext W1 W → W.cell? ⟨bl, 0, none⟩ = some (.slice ai l.i.length ci) := fun W hW => hW.keep hc0
  have k1 : ∀ W, Ext W1 W → W.cell? ⟨bl, 1, none⟩ = some (.slice af l.f.length cf) := fun W hW => hW.keep hc1
  have k2 : ∀ W, Ext W1 W → W.cell? ⟨bt, 0, none⟩ = some (.slice at_ t.length ct) := fun W hW => hW.keep hct
  have k3 : ∀ W, Ext W1 W → W.cell? ⟨br, 0, none⟩ = some (.slice (some ⟨A, 0, none⟩) (t.length + 1) (t.length + 1)) := fun W hW => hW.keep hcr
  have HLC : Hid (∀ (W : World) (k bs os xn : Nat) {c n : Nat} {s : List Int}, True → Ints W (.slice (some ⟨bs, os, none⟩) n c) s → k < s.length → s[k]?.getD 0 = (xn : Int) → W.cell? ⟨bs, os + k, none⟩ = some (.int .i64 (xn : Int))) := Lib.hid (fun W k bs os xn {c n s} _ h hk hx => by
    obtain ⟨a', c', hv, _, _, H⟩ := h
    injection hv with ha _ _
    obtain ⟨b, o, hb, hc⟩ := H k hk
    rw [hb] at ha; injection ha with ha; injection ha with h1 h2 _; subst h1 h2
    rw [hx] at hc; exact hc)
  have hn8 : l.i.length ≤ 8 := hl.n8
  clear hR hl ht hgd hFV hc0 hc1 hct hcr
  intro m
  induction m using Nat.strongRecOn with
  | _ m ih =>
  intro s p sv ov outs w hm hp hG hsv hsi hroom hsp
  have HG := Lib.hid hG
  have HSV := Lib.hid hsv
  have HSI := Lib.hid hsi
  have hX := hG.x
  have hsv2 := hsv.ints
  obtain ⟨as_, cs, rfl, hls, hms, HSO⟩ := hsv2.open_
  clear hsv2
  by_cases hpt : p = t.length
  · have hd : ((p : Int) == (t.length : Int)) = true := by simp [hpt]
    have hol : outs.length ≤ 50 := by omega
    have HRE : Hid ((spl l (t.drop p) (befS s)).map (s ++ ·) = [s]) := Lib.hid (by rw [hpt, List.drop_length, spl_nil]; simp)
    rw [HRE.out]
    have hoc := hG.o.cell (i := 0) rfl
    obtain ⟨us, h1, h2⟩ := hG.s
    have HU1 := Lib.hid h1
    have HU2 := Lib.hid h2
    have hsz := hX.size
    clear hG hsv hsi hpt h1 h2 hroom
    clear ih
    go_enter Try.func58, Try.ntmps58
    go_wp2_with (at_builtin; go_loud (refine wpList_appendTail (news := [_]) elRows rfl _ _ rfl rfl rfl HU1.out rfl rfl (by intro u hu; rw [List.mem_singleton] at hu; subst hu; rfl) hsz (by omega) (by omega) ?_); intro v4 w4 ho4 hg4 _; obtain ⟨a4, c4, rfl⟩ := OTail.form ho4; have hbo := HG.out.mid hg4; have hc4 := hbo.cell (i := 0) rfl; have hf4 := hbo.frozen 0)
    obtain ⟨hp1, hp2⟩ := GInv.push HG.out HSV.out HU1.out HU2.out ho4 hg4
    ((try simp only [Exit.inBlock, Exit.then]); refine bodyPost_ret (results_none rfl _ _ _) rfl ?_)
    exact ⟨rfl, _, hp1, hp2⟩
  · have hd : ((p : Int) == (t.length : Int)) = false := by simp; omega
    have hpl : p < t.length := by omega
    obtain ⟨r, hr⟩ : ∃ r, r = t.drop p := ⟨_, rfl⟩
    have HRD := Lib.hid hr
    have HRNE : Hid (r ≠ []) := Lib.hid (by rw [hr]; intro e; have := congrArg List.length e; rw [List.length_drop] at this; simp at this; omega)
    rw [← hr] at hroom ⊢
    clear hr hG hsv hsi hpt
    go_enter Try.func58, Try.ntmps58
    go_wp2_with fail
    go_loopg [23] l.i.length (fun z jj wr => ∃ (j : Nat) (ov' : Value), j ≤ l.i.length ∧ l.i.length ≤ j + z ∧ jj = .int .i64 j ∧ GInv W1 wr FV ov' (outs ++ outTo l r (befS s) s j) ∧ Hid (∀ v x, SInts w W1.heap.size v x → SInts wr W1.heap.size v x))
    case atStart => exact ⟨0, ov, by omega, by omega, rfl, by rw [outTo_zero, List.append_nil]; exact HG.out, Lib.hid (fun v x h => h)⟩
    case round =>
      clear hX HG
      clear ov
      obtain ⟨j, ov, hj, hjz, rfl, hG, hS⟩ := hrel
      have hX := hG.x
      have HG := Lib.hid hG; clear hG
      by_cases hlt : j < l.i.length
      · obtain ⟨bi, oi, rfl, u, hc0, hu, hc1, hc2⟩ := HI.out j hlt
        replace hc0 := hX.keep hc0
        replace hc1 := hX.keep hc1
        replace hc2 := hX.keep hc2
        have HWD : Hid (wrd l (j : Int) = (itm l.i j).w) := Lib.hid rfl
        have hL1 := HL.out.wo j hlt
        have HPL := Lib.hid (fun h => at_place (w := wrd l (j : Int)) (t := t) (i := p) h)
        have HPE := Lib.hid (fun h => past_end (w := wrd l (j : Int)) (t := t) (i := p) (by omega) h)
        rw [← HRD.out] at HPL HPE
        have HOK : Hid (okNext l r (befS s) j = ((wrd l (j : Int)).isPrefixOf r && (decide (befS s < 0) || decide (0 ≤ fol l (befS s) j)))) := Lib.hid rfl
        have HNO := Lib.hid (fun h => outTo_no (l := l) (r := r) (b := befS s) (s := s) (j := j) h)
        obtain ⟨bt_, ot, rfl, _⟩ := HTO.out p hpl
        obtain ⟨A', hA'⟩ : ∃ A', (if ct = p then (some ⟨bt_, ot, none⟩ : Option Addr) else some ⟨bt_, ot + p, none⟩) = A' := ⟨_, rfl⟩
        have HEQ := Lib.hid (fun W (hW : Ext W1 W) (h : p + (wrd l (j : Int)).length ≤ t.length) => equal_v (.slice A' (wrd l (j : Int)).length (ct - p)) u (r.take (wrd l (j : Int)).length) (wrd l (j : Int)) W
          (by have h1 := ints_take (ints_drop (HT.out.ext hW) (k := p) (by omega) hA') (i := (wrd l (j : Int)).length) (by rw [List.length_drop]; omega)
              rw [HRD.out]; exact h1) (by rw [HWD.out]; exact hu.ext hW))
        rw [← HWD.out] at hL1 hu
        obtain ⟨au, cu, rfl, hlu, hmu, _⟩ := hu.open_
        clear hu
        generalize (itm l.i j).k = xk at *
        generalize (itm l.i j).c = xc at *
        generalize hLL : (wrd l (j : Int)).length = L at *
        have HLL := Lib.hid hLL; clear hLL
        have HRW : Hid ((wrd l (j : Int)).length = L) := HLL
        obtain ⟨wB, hwB⟩ : ∃ wB, wB = wr.alloc (.cells #[.slice au L cu, .int .i64 xk, .int .i64 xc] 28) := ⟨_, rfl⟩
        have hEB : Ext wr wB := by rw [hwB]; exact Ext.alloc _ _
        have b0 : ∀ W, Ext wB W → W.cell? ⟨wr.heap.size, 0, none⟩ = some (.slice au L cu) := by rw [hwB]; exact kept_alloc wr _ _ rfl
        have HWB := Lib.hid hwB; clear hwB
        have hXB : Ext W1 wB := hX.trans hEB
        have HGB := Lib.hid (HG.out.ext hEB)
        have HSB : Hid (∀ v x, SInts w W1.heap.size v x → SInts wB W1.heap.size v x) := Lib.hid (fun v x h => (hS.out v x h).ext hEB)
        clear HG hS
        have hjI : (j : Int) < (l.i.length : Int) := by omega
        have hsA : ∀ s : Later wB, Ext W1 s.w := fun s => hXB.trans s.ext
        have hsB : ∀ s : Later wB, Ext wB s.w := fun s => s.ext
        have H0B : Ext wB wB := Ext.refl _
        by_cases hend : p + L ≤ t.length
        · have hdE : decide ((t.length : Int) < (p : Int) + (L : Int)) = false := by simp; omega
          have hpl2 := HPL.out hend
          have HEQ2 := Lib.hid (fun s : Later wB => HEQ.out s.w (hXB.trans s.ext) hend)
          rw [hpl2] at HEQ2
          generalize hpp : (wrd l (j : Int)).isPrefixOf r = pb at *
          clear hpl2 HPL HPE HEQ
          cases pb
          · have HSM := Lib.hid (HNO.out (by rw [HOK.out, Bool.false_and]))
            clear hpp HNO HOK
            go_wp2_with fail
            rw [← HWB.out]
            clear hc0 hc1 hc2
            refine wp_region_later (by kernel_rfl) (by kernel_rfl) ?_
            repeat (go_big_quiet_step ((first | (go_at_call 59; first | with_reducible exact Later.call (HEQ2.out _)))))
            refine wpQuiet_nil ?_
            intro w5 hw'
            obtain ⟨⟨_, hx5⟩, rfl⟩ := hw'
            clear hsA hsB
            have hX5 := hXB.trans hx5
            go_wp2_with fail
            go_roundg (gk-1)
            case measure => omega
            case rel => exact ⟨j+1, ov, by omega, by omega, by go_num, by rw [HSM.out]; exact HGB.out.ext hx5, Lib.hid (fun v x h => (HSB.out v x h).ext hx5)⟩
          · rw [Bool.true_and] at HOK
            have hgeJ : p + L < t.length + 1 := by omega
            obtain ⟨ge, hve, hbe⟩ := HGD.out.row (p + L) hgeJ trivial
            have hce := HGD.out.blk.cell hve
            rw [show (gridI (restRow l t) (p + L)).length = l.i.length + 1 by unfold gridI; rw [List.length_map, restRow_len]] at hce
            have hbe2 : BInts W1 ge (restRow l t (p + L)) := hbe
            have hcx := hbe2.cell (i := j) (by rw [restRow_len]; omega)
            have hRV : Hid ((restRow l t (p + L))[j]?.getD 0 = ((spl l (r.drop L) j).length : Int)) := Lib.hid (by rw [restRow_at (by omega), befI, if_neg (by omega), HRD.out, List.drop_drop]; rfl)
            rw [hRV.out] at hcx
            have q2 := fun s : Later wB => (hXB.trans s.ext).keep hce
            have q3 := fun s : Later wB => (hXB.trans s.ext).keep hcx
            have HZ := Lib.hid (fun (h : ((spl l (r.drop L) j).length : Int) = 0) => outTo_none (l := l) (r := r) (b := befS s) (s := s) (j := j) (by rw [HRW.out]; exact h))
            have heJ : (p : Int) + (L : Int) < (t.length : Int) + 1 := by omega
            have hjJ : (j : Int) < (l.i.length : Int) + 1 := by omega
            clear hbe hbe2 hve hce hcx hpp
            generalize hcn : ((spl l (r.drop L) j).length : Int) = cn at *
            have HCN := Lib.hid hcn; clear hcn
            by_cases hz : cn = 0
            · have hdz : (cn == 0) = true := by simp [hz]
              have HSM := Lib.hid (HZ.out hz)
              clear hz HZ HNO HOK
              go_wp2_with fail
              rw [← HWB.out]
              clear hc0 hc1 hc2
              refine wp_region_later (by kernel_rfl) (by kernel_rfl) ?_
              repeat (go_big_quiet_step ((first | (go_at_call 59; first | with_reducible exact Later.call (HEQ2.out _)))))
              refine wpQuiet_nil ?_
              intro w5 hw'
              obtain ⟨⟨_, hx5⟩, rfl⟩ := hw'
              clear hsA hsB q2 q3
              have hX5 := hXB.trans hx5
              go_wp2_with fail
              go_roundg (gk-1)
              case measure => omega
              case rel => exact ⟨j+1, ov, by omega, by omega, by go_num, by rw [HSM.out]; exact HGB.out.ext hx5, Lib.hid (fun v x h => (HSB.out v x h).ext hx5)⟩
            · have hdz : (cn == 0) = false := by simp [hz]
              clear hz HZ
              by_cases hsn : s = []
              · have HOT : Hid (okNext l r (befS s) j = true) := Lib.hid (by rw [HOK.out, show befS s = -1 by unfold befS; rw [if_pos hsn]]; rfl)
                have hds : ((s.length : Int) == 0) = true := by simp [hsn]
                clear hsn HNO HOK
                go_wp2_with fail
                rw [← HWB.out]
                clear hc0 hc1 hc2
                refine wp_region_later (by kernel_rfl) (by kernel_rfl) ?_
                repeat (go_big_quiet_step ((first | (go_at_call 59; first | with_reducible exact Later.call (HEQ2.out _)))))
                refine wpQuiet_nil ?_
                intro w5 hw'
                obtain ⟨⟨_, hx5⟩, rfl⟩ := hw'
                clear hsA hsB q2 q3
                have hX5 := hXB.trans hx5
                have HG5 := Lib.hid (HGB.out.ext hx5)
                have hs5 : ∀ s : Later w5, Ext W1 s.w := fun s => hX5.trans s.ext
                go_wp2_with fail
                refine wp_region_later (by kernel_rfl) (by kernel_rfl) ?_
                repeat (go_big_quiet_step (fail))
                refine wpQuiet_nil ?_
                intro w7 hw'
                obtain ⟨⟨_, hx7⟩, rfl⟩ := hw'
                clear hs5
                have hX7 := hX5.trans hx7
                have HG7 := Lib.hid (HG5.out.ext hx7)
                have HS7 : Hid (∀ v x, SInts w W1.heap.size v x → SInts w7 W1.heap.size v x) := Lib.hid (fun v x h => ((HSB.out v x h).ext hx5).ext hx7)
                have HSV7 := Lib.hid (HS7.out _ _ HSV.out)
                obtain ⟨W7, rfl⟩ : ∃ W : World, W = w7 := ⟨_, rfl⟩
                go_wp2_with fail
                have HSM := Lib.hid (outTo_take (s := s) HOT.out)
                rw [HRW.out] at HSM
                have hroom := outTo_room HL.out.noE HRNE.out (befS s) s hlt HOT.out
                rw [HRW.out] at hroom
                have HREC : Hid (∀ v11 w11, GInv W1 w11 FV ov (outs ++ outTo l r (befS s) s j) → SInts w11 W1.heap.size v11 (s ++ [(j : Int)]) → Calls Try.prog 58 #[v11, .int .i64 ((p : Int) + (L : Int)), .pointer (some ⟨bt, 0, none⟩), .pointer (some ⟨W1.heap.size, 0, none⟩), .pointer (some ⟨bl, 0, none⟩), .pointer (some ⟨br, 0, none⟩), .pointer (some ⟨W1.heap.size + 1, 0, none⟩)] w11 (RGrow W1 FV ((outs ++ outTo l r (befS s) s j) ++ (spl l (r.drop L) j).map ((s ++ [(j : Int)]) ++ ·)) w11)) := Lib.hid (fun v11 w11 hg hs => by
                  have h1 := ih (m - 1) (by omega) (s ++ [(j : Int)]) (p + L) v11 ov (outs ++ outTo l r (befS s) s j) w11 (by omega) hend hg hs (allIn_snoc HSI.out ⟨by omega, by omega⟩) (by
                    rw [befS_snoc, List.length_append, ← List.drop_drop, ← HRD.out]; omega) (by rw [List.length_append, List.length_singleton]; omega)
                  rw [befS_snoc, ← List.drop_drop, ← HRD.out] at h1
                  have e : ((p + L : Nat) : Int) = (p : Int) + (L : Int) := by omega
                  rw [e] at h1; exact h1)
                clear HOT hroom
                have HCL := Lib.hid (fun W v (h : Ints W v s) => cloneInts_c v s W h (by omega))
                have HSV8 := Lib.hid HSV7.out.ints
                refine wp_region_tree (GCls W1 FV) (.look 0 (.look 1 (.look 3 (.look 6 (.two 2 (.one 4 (.one 5 (.one 7 .done))) 4 (.one 2 (.one 5 (.one 7 .done)))))))) (by kernel_rfl) (by kernel_rfl) (by intro c a d v w h; cases d <;> exact h) ?_
                have hd1 : Ext W7 { W7 with drawn := W7.drawn + 1 } := drawn_ext W7
                have HG8 := Lib.hid (HG7.out.ext hd1)
                have HS8 : Hid (∀ v x, SInts w W1.heap.size v x → SInts { W7 with drawn := W7.drawn + 1 } W1.heap.size v x) := Lib.hid (fun v x h => (HS7.out v x h).ext hd1)
                have HV8 := Lib.hid (HSV8.out.ext hd1)
                have qg := fun s : InC (GCls W1 FV) => s.h.2.trans (congrArg some HFV.out)
                clear HG7 HS7 HSV8 HSV7
                generalize { W7 with drawn := W7.drawn + 1 } = W8 at *
                have hC8 := HG8.out.cls
                have hX8 := hC8.1
                iterate 4 (refine wpTree_look rfl ‹_› (fun K hK => ?_); go_simp; first | (refine hK _ ?_; clear hK K) | (refine ⟨_, fun _ => rfl, hK _ ?_⟩; clear hK K))
                clear qg
                refine wpTree_two rfl rfl rfl rfl (fun K hK => ?_) (fun K hK => ?_)
                · go_wp2_with fail
                  refine (HCL.out W8 _ HV8.out).mono ?_; rintro e w9 ⟨v9, rfl, ho9, hx9⟩
                  have HO9' := Lib.hid ho9
                  clear ho9
                  go_wp2_with fail
                  refine ⟨fun h => h.ext hx9, ?_⟩
                  refine wpTree_one rfl rfl (fun K hK => ?_)
                  go_wp2_with fail
                  refine ⟨fun h => h.ext (Ext.alloc _ _), ?_⟩
                  have HO9 := Lib.hid (HO9'.out.alloc (.cells #[.int .i64 (j : Int)] 3))
                  have HJ := Lib.hid (Ints.raw (ints_new w9 [(j : Int)] 1 rfl (by omega)))
                  have hE10 : Ext W8 (w9.alloc (.cells #[.int .i64 (j : Int)] 3)) := hx9.trans (Ext.alloc _ _)
                  have hz9 := hE10.size
                  clear HO9' hx9
                  refine wpTree_one rfl rfl (fun K hK => ?_)
                  refine wpList_appendAll (m := 1) (B := W8.heap.size) elInts rfl (.tmp 74) (.tmp 76) rfl rfl rfl HO9.out HJ.out (ints_one _) hz9 (by omega) (by omega) (fun v11 w11 ho11 hb11 => ?_)
                  have hE11 : Ext W8 w11 := hE10.upto hb11 (Nat.le_refl _)
                  have ho11' : OInts 3 w11 W8.heap.size v11 (s ++ [(j : Int)]) := by unfold OInts; rw [ints_append, List.length_append]; exact ho11
                  go_wp2_with fail
                  refine ⟨fun _ => (HG8.out.ext hE11).cls, ?_⟩
                  refine wpTree_one rfl rfl (fun K hK => ?_)
                  have HIH := Lib.hid (HREC.out v11 w11 (HG8.out.ext hE11) (SInts.own ho11'))
                  clear hb11 ho11 hE10 ho11'
                  go_wp2_with fail
                  refine HIH.out.mono ?_; rintro e W12 ⟨rfl, ov12, hg12, hk12⟩
                  have HG12 := Lib.hid hg12
                  have HK12 := Lib.hid hk12
                  clear hg12 hk12
                  go_wp2_with fail
                  refine ⟨fun _ => HG12.out.cls, ?_⟩
                  refine wpTree_done ?_
                  have HSS12 : Hid (∀ v x, SInts w W1.heap.size v x → SInts W12 W1.heap.size v x) := Lib.hid (fun v x h => HK12.out v x ((HS8.out v x h).ext hE11))
                  clear HK12 HIH
                  have hX12 := HG12.out.x
                  go_wp2_with fail
                  go_roundg (gk-1)
                  case measure => omega
                  case rel => exact ⟨j+1, ov12, by omega, by omega, by go_num, by rw [HSM.out, ← List.append_assoc]; exact HG12.out, HSS12⟩
                · go_wp2_with fail
                  refine ⟨fun h => h.ext (Ext.alloc _ _), ?_⟩
                  have HJ0 := Lib.hid (ints_new W8 [(j : Int)] 1 rfl (by omega))
                  have hEa : Ext W8 (W8.alloc (.cells #[.int .i64 (j : Int)] 3)) := Ext.alloc _ _
                  have HV9 := Lib.hid (HV8.out.ext hEa)
                  refine wpTree_one rfl rfl (fun K hK => ?_)
                  go_wp2_with fail
                  refine (HCL.out (W8.alloc (.cells #[.int .i64 (j : Int)] 3)) _ HV9.out).mono ?_; rintro e w9 ⟨v9, rfl, ho9, hx9⟩
                  have HO9 := Lib.hid (OInts.low ho9 hEa.size)
                  have HJ := Lib.hid (Ints.raw (HJ0.out.ext hx9))
                  have hE10 : Ext W8 w9 := hEa.trans hx9
                  have hz9 := hE10.size
                  clear ho9 HJ0
                  go_wp2_with fail
                  refine ⟨fun h => h.ext hx9, ?_⟩
                  clear hx9
                  refine wpTree_one rfl rfl (fun K hK => ?_)
                  refine wpList_appendAll (m := 1) (B := W8.heap.size) elInts rfl (.tmp 74) (.tmp 76) rfl rfl rfl HO9.out HJ.out (ints_one _) hz9 (by omega) (by omega) (fun v11 w11 ho11 hb11 => ?_)
                  have hE11 : Ext W8 w11 := hE10.upto hb11 (Nat.le_refl _)
                  have ho11' : OInts 3 w11 W8.heap.size v11 (s ++ [(j : Int)]) := by unfold OInts; rw [ints_append, List.length_append]; exact ho11
                  go_wp2_with fail
                  refine ⟨fun _ => (HG8.out.ext hE11).cls, ?_⟩
                  refine wpTree_one rfl rfl (fun K hK => ?_)
                  have HIH := Lib.hid (HREC.out v11 w11 (HG8.out.ext hE11) (SInts.own ho11'))
                  clear hb11 ho11 hE10 ho11'
                  go_wp2_with fail
                  refine HIH.out.mono ?_; rintro e W12 ⟨rfl, ov12, hg12, hk12⟩
                  have HG12 := Lib.hid hg12
                  have HK12 := Lib.hid hk12
                  clear hg12 hk12
                  go_wp2_with fail
                  refine ⟨fun _ => HG12.out.cls, ?_⟩
                  refine wpTree_done ?_
                  have HSS12 : Hid (∀ v x, SInts w W1.heap.size v x → SInts W12 W1.heap.size v x) := Lib.hid (fun v x h => HK12.out v x ((HS8.out v x h).ext hE11))
                  clear HK12 HIH
                  have hX12 := HG12.out.x
                  go_wp2_with fail
                  go_roundg (gk-1)
                  case measure => omega
                  case rel => exact ⟨j+1, ov12, by omega, by omega, by go_num, by rw [HSM.out, ← List.append_assoc]; exact HG12.out, HSS12⟩
              · obtain ⟨k, hk⟩ : ∃ k, s.length = k + 1 := ⟨s.length - 1, by
                  have : 0 < s.length := List.length_pos_iff.2 hsn
                  omega⟩
                have HBS : Hid (befS s = lastI s) := Lib.hid (by unfold befS; rw [if_neg hsn])
                obtain ⟨bs, os, rfl, hcs⟩ := HSO.out k (by omega)
                rw [last_at hk] at hcs
                obtain ⟨xn, hxn, hxl⟩ := inN_at HSI.out (k := k) (by omega)
                rw [last_at hk] at hxn
                have HXN : Hid (s[k]?.getD 0 = (xn : Int)) := Lib.hid (by rw [last_at hk]; exact hxn)
                rw [hxn] at hcs HBS
                have hds : ((s.length : Int) == 0) = false := by simp [hsn]
                have hwk : IntKind.i64.wrap ((s.length : Int) - 1) = (k : Int) := by rw [IntWalk.i64_in _ (by omega)]; omega
                have hkI : (k : Int) < (s.length : Int) := by omega
                have HFO0 := Lib.hid (fun W (hW : Ext W1 W) => follows_c _ _ l xn j W (HR.out.ext hW) HL.out hxl hlt)
                rw [HBS.out, decide_eq_false (show ¬ ((xn : Int) < 0) by omega), Bool.false_or] at HOK
                rw [HBS.out] at HNO
                have hfv := HOK.out
                generalize hff : fol l (xn : Int) (j : Int) = f at *
                have HFF := Lib.hid hff; clear hff hfv
                have HKK := Lib.hid hk
                clear hsn hk hxn
                by_cases hf : 0 ≤ f
                · have hdf : decide (0 ≤ f) = true := decide_eq_true hf
                  have HOT : Hid (okNext l r (befS s) j = true) := Lib.hid (by rw [HBS.out, HOK.out, hdf])
                  clear HNO HOK
                  go_wp2_with fail
                  rw [← HWB.out]
                  clear hc0 hc1 hc2
                  refine wp_region_later (by kernel_rfl) (by kernel_rfl) ?_
                  repeat (go_big_quiet_step ((first | (go_at_call 59; first | with_reducible exact Later.call (HEQ2.out _)))))
                  refine wpQuiet_nil ?_
                  intro w5 hw'
                  obtain ⟨⟨_, hx5⟩, rfl⟩ := hw'
                  clear hsA hsB q2 q3
                  have hX5 := hXB.trans hx5
                  have HG5 := Lib.hid (HGB.out.ext hx5)
                  have hs5 : ∀ s : Later w5, Ext W1 s.w := fun s => hX5.trans s.ext
                  have hcs5 := ((HSB.out _ _ HSV.out).ext hx5).ints
                  have hcs6 : w5.cell? ⟨bs, os + k, none⟩ = some (.int .i64 (xn : Int)) := HLC.out w5 k bs os xn trivial hcs5 (by omega) HXN.out
                  have q5 := fun s : Later w5 => s.ext.keep hcs6
                  have HFO := Lib.hid (fun s : Later w5 => HFO0.out s.w (hX5.trans s.ext))
                  clear hcs5
                  go_wp2_with fail
                  refine wp_region_later (by kernel_rfl) (by kernel_rfl) ?_
                  repeat (go_big_quiet_step ((first | (go_at_call 60; first | with_reducible exact Later.call (HFO.out _)))))
                  refine wpQuiet_nil ?_
                  intro w7 hw'
                  obtain ⟨⟨_, hx7⟩, rfl⟩ := hw'
                  clear hs5 q5
                  have hX7 := hX5.trans hx7
                  have HG7 := Lib.hid (HG5.out.ext hx7)
                  have HS7 : Hid (∀ v x, SInts w W1.heap.size v x → SInts w7 W1.heap.size v x) := Lib.hid (fun v x h => ((HSB.out v x h).ext hx5).ext hx7)
                  have HSV7 := Lib.hid (HS7.out _ _ HSV.out)
                  obtain ⟨W7, rfl⟩ : ∃ W : World, W = w7 := ⟨_, rfl⟩
                  clear hcs hcs6
                  go_wp2_with fail
                  have HSM := Lib.hid (outTo_take (s := s) HOT.out)
                  rw [HRW.out] at HSM
                  have hroom := outTo_room HL.out.noE HRNE.out (befS s) s hlt HOT.out
                  rw [HRW.out] at hroom
                  have HREC : Hid (∀ v11 w11, GInv W1 w11 FV ov (outs ++ outTo l r (befS s) s j) → SInts w11 W1.heap.size v11 (s ++ [(j : Int)]) → Calls Try.prog 58 #[v11, .int .i64 ((p : Int) + (L : Int)), .pointer (some ⟨bt, 0, none⟩), .pointer (some ⟨W1.heap.size, 0, none⟩), .pointer (some ⟨bl, 0, none⟩), .pointer (some ⟨br, 0, none⟩), .pointer (some ⟨W1.heap.size + 1, 0, none⟩)] w11 (RGrow W1 FV ((outs ++ outTo l r (befS s) s j) ++ (spl l (r.drop L) j).map ((s ++ [(j : Int)]) ++ ·)) w11)) := Lib.hid (fun v11 w11 hg hs => by
                    have h1 := ih (m - 1) (by omega) (s ++ [(j : Int)]) (p + L) v11 ov (outs ++ outTo l r (befS s) s j) w11 (by omega) hend hg hs (allIn_snoc HSI.out ⟨by omega, by omega⟩) (by
                      rw [befS_snoc, List.length_append, ← List.drop_drop, ← HRD.out]; omega) (by rw [List.length_append, List.length_singleton]; omega)
                    rw [befS_snoc, ← List.drop_drop, ← HRD.out] at h1
                    have e : ((p + L : Nat) : Int) = (p : Int) + (L : Int) := by omega
                    rw [e] at h1; exact h1)
                  clear HOT hroom
                  have HCL := Lib.hid (fun W v (h : Ints W v s) => cloneInts_c v s W h (by omega))
                  have HSV8 := Lib.hid HSV7.out.ints
                  refine wp_region_tree (GCls W1 FV) (.look 0 (.look 1 (.look 3 (.look 6 (.two 2 (.one 4 (.one 5 (.one 7 .done))) 4 (.one 2 (.one 5 (.one 7 .done)))))))) (by kernel_rfl) (by kernel_rfl) (by intro c a d v w h; cases d <;> exact h) ?_
                  have hd1 : Ext W7 { W7 with drawn := W7.drawn + 1 } := drawn_ext W7
                  have HG8 := Lib.hid (HG7.out.ext hd1)
                  have HS8 : Hid (∀ v x, SInts w W1.heap.size v x → SInts { W7 with drawn := W7.drawn + 1 } W1.heap.size v x) := Lib.hid (fun v x h => (HS7.out v x h).ext hd1)
                  have HV8 := Lib.hid (HSV8.out.ext hd1)
                  have qg := fun s : InC (GCls W1 FV) => s.h.2.trans (congrArg some HFV.out)
                  clear HG7 HS7 HSV8 HSV7
                  generalize { W7 with drawn := W7.drawn + 1 } = W8 at *
                  have hC8 := HG8.out.cls
                  have hX8 := hC8.1
                  iterate 4 (refine wpTree_look rfl ‹_› (fun K hK => ?_); go_simp; first | (refine hK _ ?_; clear hK K) | (refine ⟨_, fun _ => rfl, hK _ ?_⟩; clear hK K))
                  clear qg
                  refine wpTree_two rfl rfl rfl rfl (fun K hK => ?_) (fun K hK => ?_)
                  · go_wp2_with fail
                    refine (HCL.out W8 _ HV8.out).mono ?_; rintro e w9 ⟨v9, rfl, ho9, hx9⟩
                    have HO9' := Lib.hid ho9
                    clear ho9
                    go_wp2_with fail
                    refine ⟨fun h => h.ext hx9, ?_⟩
                    refine wpTree_one rfl rfl (fun K hK => ?_)
                    go_wp2_with fail
                    refine ⟨fun h => h.ext (Ext.alloc _ _), ?_⟩
                    have HO9 := Lib.hid (HO9'.out.alloc (.cells #[.int .i64 (j : Int)] 3))
                    have HJ := Lib.hid (Ints.raw (ints_new w9 [(j : Int)] 1 rfl (by omega)))
                    have hE10 : Ext W8 (w9.alloc (.cells #[.int .i64 (j : Int)] 3)) := hx9.trans (Ext.alloc _ _)
                    have hz9 := hE10.size
                    clear HO9' hx9
                    refine wpTree_one rfl rfl (fun K hK => ?_)
                    refine wpList_appendAll (m := 1) (B := W8.heap.size) elInts rfl (.tmp 74) (.tmp 76) rfl rfl rfl HO9.out HJ.out (ints_one _) hz9 (by omega) (by omega) (fun v11 w11 ho11 hb11 => ?_)
                    have hE11 : Ext W8 w11 := hE10.upto hb11 (Nat.le_refl _)
                    have ho11' : OInts 3 w11 W8.heap.size v11 (s ++ [(j : Int)]) := by unfold OInts; rw [ints_append, List.length_append]; exact ho11
                    go_wp2_with fail
                    refine ⟨fun _ => (HG8.out.ext hE11).cls, ?_⟩
                    refine wpTree_one rfl rfl (fun K hK => ?_)
                    have HIH := Lib.hid (HREC.out v11 w11 (HG8.out.ext hE11) (SInts.own ho11'))
                    clear hb11 ho11 hE10 ho11'
                    go_wp2_with fail
                    refine HIH.out.mono ?_; rintro e W12 ⟨rfl, ov12, hg12, hk12⟩
                    have HG12 := Lib.hid hg12
                    have HK12 := Lib.hid hk12
                    clear hg12 hk12
                    go_wp2_with fail
                    refine ⟨fun _ => HG12.out.cls, ?_⟩
                    refine wpTree_done ?_
                    have HSS12 : Hid (∀ v x, SInts w W1.heap.size v x → SInts W12 W1.heap.size v x) := Lib.hid (fun v x h => HK12.out v x ((HS8.out v x h).ext hE11))
                    clear HK12 HIH
                    have hX12 := HG12.out.x
                    go_wp2_with fail
                    go_roundg (gk-1)
                    case measure => omega
                    case rel => exact ⟨j+1, ov12, by omega, by omega, by go_num, by rw [HSM.out, ← List.append_assoc]; exact HG12.out, HSS12⟩
                  · go_wp2_with fail
                    refine ⟨fun h => h.ext (Ext.alloc _ _), ?_⟩
                    have HJ0 := Lib.hid (ints_new W8 [(j : Int)] 1 rfl (by omega))
                    have hEa : Ext W8 (W8.alloc (.cells #[.int .i64 (j : Int)] 3)) := Ext.alloc _ _
                    have HV9 := Lib.hid (HV8.out.ext hEa)
                    refine wpTree_one rfl rfl (fun K hK => ?_)
                    go_wp2_with fail
                    refine (HCL.out (W8.alloc (.cells #[.int .i64 (j : Int)] 3)) _ HV9.out).mono ?_; rintro e w9 ⟨v9, rfl, ho9, hx9⟩
                    have HO9 := Lib.hid (OInts.low ho9 hEa.size)
                    have HJ := Lib.hid (Ints.raw (HJ0.out.ext hx9))
                    have hE10 : Ext W8 w9 := hEa.trans hx9
                    have hz9 := hE10.size
                    clear ho9 HJ0
                    go_wp2_with fail
                    refine ⟨fun h => h.ext hx9, ?_⟩
                    clear hx9
                    refine wpTree_one rfl rfl (fun K hK => ?_)
                    refine wpList_appendAll (m := 1) (B := W8.heap.size) elInts rfl (.tmp 74) (.tmp 76) rfl rfl rfl HO9.out HJ.out (ints_one _) hz9 (by omega) (by omega) (fun v11 w11 ho11 hb11 => ?_)
                    have hE11 : Ext W8 w11 := hE10.upto hb11 (Nat.le_refl _)
                    have ho11' : OInts 3 w11 W8.heap.size v11 (s ++ [(j : Int)]) := by unfold OInts; rw [ints_append, List.length_append]; exact ho11
                    go_wp2_with fail
                    refine ⟨fun _ => (HG8.out.ext hE11).cls, ?_⟩
                    refine wpTree_one rfl rfl (fun K hK => ?_)
                    have HIH := Lib.hid (HREC.out v11 w11 (HG8.out.ext hE11) (SInts.own ho11'))
                    clear hb11 ho11 hE10 ho11'
                    go_wp2_with fail
                    refine HIH.out.mono ?_; rintro e W12 ⟨rfl, ov12, hg12, hk12⟩
                    have HG12 := Lib.hid hg12
                    have HK12 := Lib.hid hk12
                    clear hg12 hk12
                    go_wp2_with fail
                    refine ⟨fun _ => HG12.out.cls, ?_⟩
                    refine wpTree_done ?_
                    have HSS12 : Hid (∀ v x, SInts w W1.heap.size v x → SInts W12 W1.heap.size v x) := Lib.hid (fun v x h => HK12.out v x ((HS8.out v x h).ext hE11))
                    clear HK12 HIH
                    have hX12 := HG12.out.x
                    go_wp2_with fail
                    go_roundg (gk-1)
                    case measure => omega
                    case rel => exact ⟨j+1, ov12, by omega, by omega, by go_num, by rw [HSM.out, ← List.append_assoc]; exact HG12.out, HSS12⟩
                · have hdf : decide (0 ≤ f) = false := decide_eq_false hf
                  have HSM : Hid (outTo l r (befS s) s (j + 1) = outTo l r (befS s) s j) := Lib.hid (by rw [HBS.out]; exact HNO.out (by rw [HOK.out, hdf]))
                  clear HNO HOK hf
                  go_wp2_with fail
                  rw [← HWB.out]
                  clear hc0 hc1 hc2
                  refine wp_region_later (by kernel_rfl) (by kernel_rfl) ?_
                  repeat (go_big_quiet_step ((first | (go_at_call 59; first | with_reducible exact Later.call (HEQ2.out _)))))
                  refine wpQuiet_nil ?_
                  intro w5 hw'
                  obtain ⟨⟨_, hx5⟩, rfl⟩ := hw'
                  clear hsA hsB q2 q3
                  have hX5 := hXB.trans hx5
                  have HG5 := Lib.hid (HGB.out.ext hx5)
                  have hs5 : ∀ s : Later w5, Ext W1 s.w := fun s => hX5.trans s.ext
                  have hcs5 := ((HSB.out _ _ HSV.out).ext hx5).ints
                  have hcs6 : w5.cell? ⟨bs, os + k, none⟩ = some (.int .i64 (xn : Int)) := HLC.out w5 k bs os xn trivial hcs5 (by omega) HXN.out
                  have q5 := fun s : Later w5 => s.ext.keep hcs6
                  have HFO := Lib.hid (fun s : Later w5 => HFO0.out s.w (hX5.trans s.ext))
                  clear hcs5
                  go_wp2_with fail
                  refine wp_region_later (by kernel_rfl) (by kernel_rfl) ?_
                  repeat (go_big_quiet_step ((first | (go_at_call 60; first | with_reducible exact Later.call (HFO.out _)))))
                  refine wpQuiet_nil ?_
                  intro w7 hw'
                  obtain ⟨⟨_, hx7⟩, rfl⟩ := hw'
                  clear hs5 q5
                  have hX7 := hX5.trans hx7
                  have HG7 := Lib.hid (HG5.out.ext hx7)
                  clear hcs hcs6
                  go_wp2_with fail
                  go_roundg (gk-1)
                  case measure => omega
                  case rel => exact ⟨j+1, ov, by omega, by omega, by go_num, by rw [HSM.out]; exact HG7.out, Lib.hid (fun v x h => ((HSB.out v x h).ext hx5).ext hx7)⟩
        · have hdE : decide ((t.length : Int) < (p : Int) + (L : Int)) = true := by simp; omega
          have hpl2 := HPE.out hend
          have HSM := Lib.hid (HNO.out (by rw [HOK.out, hpl2, Bool.false_and]))
          clear hpl2 HPL HPE HEQ hend HNO HOK
          go_wp2_with fail
          rw [← HWB.out]
          clear hc0 hc1 hc2
          refine wp_region_later (by kernel_rfl) (by kernel_rfl) ?_
          repeat (go_big_quiet_step (fail))
          refine wpQuiet_nil ?_
          intro w5 hw'
          obtain ⟨⟨_, hx5⟩, rfl⟩ := hw'
          clear hsA hsB
          have hX5 := hXB.trans hx5
          go_wp2_with fail
          go_roundg (gk-1)
          case measure => omega
          case rel => exact ⟨j+1, ov, by omega, by omega, by go_num, by rw [HSM.out]; exact HGB.out.ext hx5, Lib.hid (fun v x h => (HSB.out v x h).ext hx5)⟩
      · have hjl : j = l.i.length := by omega
        subst hjl
        have HOA : Hid (outTo l r (befS s) s l.i.length = (spl l r (befS s)).map (s ++ ·)) := Lib.hid (outTo_all HL.out.noE HRNE.out _ _)
        go_wp2_with fail
        go_end0
        exact ⟨rfl, ov, by rw [← HOA.out]; exact HG.out, hS.out⟩

end Go.Proofs.Ytgpggmcjggpmpaa
