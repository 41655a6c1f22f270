/- The lexicon in which everything may follow: Free of both packages. -/
import Derived.Test.YtgpggmcjggpmpaaTagCs
namespace Go.Proofs.Ytgpggmcjggpmpaa
open Go.RowKit Go.Shelf
set_option linter.unusedVariables false

theorem OLexP.nil (w : World) (B : Nat) : OLexP w B (.slice none 0 0) (.slice none 0 0) ⟨[], []⟩ [] [] := ⟨World.ownsRow_nil _ _ _ _, World.ownsRow_nil _ _ _ _, AllO.nil _ _, AllO.nil _ _, List.Pairwise.nil⟩
/-- the copy in its box, while it is changed -/
structure FSt (wA wr : World) (G : Nat) (iv fv : Value) (l : Lex) (us vs : List Value) : Prop where
  x : Ext wA wr
  o : Blk wr G 25 [iv, fv]
  l : OLexP wr wA.heap.size iv fv l us vs
theorem FSt.ext {wA wr w' : World} {G : Nat} {iv fv : Value} {l : Lex} {us vs : List Value} (h : FSt wA wr G iv fv l us vs) (hx : Ext wr w') : FSt wA w' G iv fv l us vs := ⟨h.x.trans hx, h.o.ext hx, h.l.ext hx⟩
theorem FSt.begin {wA w1 w2 : World} {iv fv : Value} {l : Lex} (hx1 : Ext wA w1) (hx2 : Ext w1 w2) (h : OLex w2 w1.heap.size iv fv l) : ∃ us vs, FSt wA (w2.alloc (.cells #[iv, fv] 25)) w2.heap.size iv fv l us vs := by
  obtain ⟨us, vs, ho⟩ := OLex.low h hx1.size
  exact ⟨us, vs, (hx1.trans hx2).trans (Ext.alloc _ _), Blk.alloc _ _ _, ho.ext (Ext.alloc _ _)⟩
theorem Blk.notInt {w : World} {B g G : Nat} {u : Value} {l : List Int} {cs : List Value} (h : Blk w G 25 cs) (hu : OInts 3 w B u l) (hg : u.ownBlock = some g) : G ≠ g := by
  rintro rfl
  obtain ⟨_, _, cur, h1⟩ := hu.blkInt hg
  have h2 : w.heap[G]? = _ := h
  rw [h1] at h2; injection h2 with h2; injection h2 with _ h2 _; exact absurd h2 (by decide)
/-- an element of a row is stored -/
theorem FSt.setF {wA w : World} {G a i g cg : Nat} {iv fv : Value} {l : Lex} {us vs : List Value} (h : FSt wA w G iv fv l us vs) (hu : vs[a]? = some (.slice (some ⟨g, 0, none⟩) (l.f[a]?.getD []).length cg)) (hg : wA.heap.size ≤ g) (hi : i < (l.f[a]?.getD []).length) (x : Int) :
    FSt wA (w.setCell ⟨g, i, none⟩ (.int .i64 x)) G iv fv ⟨l.i, l.f.set a ((l.f[a]?.getD []).set i x)⟩ us vs :=
  ⟨h.x.setCell hg _ _, h.o.other (h.o.notInt (h.l.wf.2 a _ hu) rfl).symm _ _, h.l.setF hu hi x⟩
theorem OLexP.spotF2 {w : World} {B a gf n cf : Nat} {iv : Value} {l : Lex} {us vs : List Value} (h : OLexP w B iv (.slice (some ⟨gf, 0, none⟩) n cf) l us vs) (ha : a < l.f.length) (hi : 0 < (l.f[a]?.getD []).length) :
    ∃ g cg, w.cell? ⟨gf, a, none⟩ = some (.slice (some ⟨g, 0, none⟩) (l.f[a]?.getD []).length cg) ∧ (l.f[a]?.getD []).length ≤ cg ∧ cg ≤ 9223372036854775807 ∧ B ≤ g ∧
      vs[a]? = some (.slice (some ⟨g, 0, none⟩) (l.f[a]?.getD []).length cg) ∧ OInts 3 w B (.slice (some ⟨g, 0, none⟩) (l.f[a]?.getD []).length cg) (l.f[a]?.getD []) := by
  obtain ⟨gf', cf', g, cg, hfv, _, _, h1, h2, h3, h4, h5, h6⟩ := h.spotF ha hi
  injection hfv with hfv1 _ _
  injection hfv1 with hfv1; injection hfv1 with hfv1 _ _
  subst hfv1
  exact ⟨g, cg, h1, h2, h3, h4, h5, h6⟩
theorem OInts.spot2 {w : World} {B g n cg : Nat} {l : List Int} (h : OInts 3 w B (.slice (some ⟨g, 0, none⟩) n cg) l) {i : Nat} (hi : i < l.length) : w.cell? ⟨g, i, none⟩ = some (.int .i64 (l[i]?.getD 0)) ∧ w.frozen? ⟨g, i, none⟩ = false := by
  obtain ⟨r, cap, hv, _, _, _, _, hc, hf⟩ := h.spot hi
  injection hv with hv1 _ _; injection hv1 with hv1; injection hv1 with hv1 _ _; subst hv1
  exact ⟨hc, hf⟩
theorem setCells_grown (g : Nat) : ∀ (vs : List Value) (o : Nat) (w : World), w.grownBy (w.setCells g o vs) (some g)
  | [], _, w => ⟨rfl, rfl, rfl, Nat.le_refl _, fun _ _ _ => rfl⟩
  | v :: r, o, w => by
    have h1 := grownBy_set w g o v
    have h2 := setCells_grown g r (o + 1) (w.setCell ⟨g, o, none⟩ v)
    exact ⟨h2.os.trans h1.os, h2.tape.trans h1.tape, h2.output.trans h1.output, Nat.le_trans h1.size h2.size, fun k hk hne => (h2.block k (Nat.lt_of_lt_of_le hk h1.size) hne).trans (h1.block k hk hne)⟩
theorem setCells_ints {B g cap : Nat} : ∀ (n o : Nat) (l : List Int) (w : World), OInts 3 w B (.slice (some ⟨g, 0, none⟩) l.length cap) l → o + n ≤ l.length → OInts 3 (w.setCells g o (List.replicate n (.int .i64 0))) B (.slice (some ⟨g, 0, none⟩) l.length cap) (l.take o ++ List.replicate n 0 ++ l.drop (o + n))
  | 0, o, l, w, h, _ => by simpa [World.setCells] using h
  | n + 1, o, l, w, h, hn => by
    have h1 := OInts.setAt (x := 0) (i := o) h (by omega)
    have h2 := setCells_ints n (o + 1) (l.set o 0) (w.setCell ⟨g, o, none⟩ (.int .i64 0)) (by rw [List.length_set]; exact h1) (by rw [List.length_set]; omega)
    rw [List.length_set] at h2
    have e : (l.set o 0).take (o + 1) ++ List.replicate n 0 ++ (l.set o 0).drop (o + 1 + n) = l.take o ++ List.replicate (n + 1) 0 ++ l.drop (o + (n + 1)) := by
      rw [List.drop_set_of_lt (by omega), show o + 1 + n = o + (n + 1) by omega, List.replicate_succ, List.take_add_one, List.getElem?_set_self (by omega), List.take_set_of_le (Nat.le_refl _)]
      simp
    rw [e] at h2
    exact h2
/-- the cost of an item is stored -/
theorem FSt.setC {wA w : World} {G j gi ci : Nat} {fv : Value} {l : Lex} {us vs : List Value} (h : FSt wA w G (.slice (some ⟨gi, 0, none⟩) l.i.length ci) fv l us vs) (hj : j < l.i.length) (hg : wA.heap.size ≤ gi) (c : Int) :
    FSt wA (w.setCell ⟨gi, j * 3 + 2, none⟩ (.int .i64 c)) G (.slice (some ⟨gi, 0, none⟩) l.i.length ci) fv ⟨l.i.set j ⟨(itm l.i j).w, (itm l.i j).k, c⟩, l.f⟩ us vs := by
  obtain ⟨cur, h1, _⟩ := ownBlock_cells h.l.i gi rfl
  refine ⟨h.x.setCell hg _ _, h.o.other ?_ _ _, h.l.setC hj c⟩
  rintro rfl
  have h2 : w.heap[gi]? = _ := h.o
  rw [h1] at h2; injection h2 with h2; injection h2 with _ h2 _; exact absurd h2 (by decide)
theorem OLexP.spotI2 {w : World} {B j gi ci n : Nat} {fv : Value} {l : Lex} {us vs : List Value} (h : OLexP w B (.slice (some ⟨gi, 0, none⟩) n ci) fv l us vs) (hj : j < l.i.length) :
    ∃ u, us[j]? = some u ∧ OInts 3 w B u (itm l.i j).w ∧ w.cell? ⟨gi, j * 3, none⟩ = some u ∧ w.cell? ⟨gi, j * 3 + 1, none⟩ = some (.int .i64 (itm l.i j).k) ∧ w.cell? ⟨gi, j * 3 + 2, none⟩ = some (.int .i64 (itm l.i j).c) ∧ ∀ i, w.frozen? ⟨gi, i, none⟩ = false := by
  obtain ⟨gi', ci', u, hv, _, _, _, h1, h2, h3, h4, h5, h6⟩ := h.spotI hj
  injection hv with hv1 _ _; injection hv1 with hv1; injection hv1 with hv1 _ _; subst hv1
  exact ⟨u, h1, h2, h3, h4, h5, h6⟩
/-- a row is cleared -/
theorem FSt.clearF {wA w : World} {G a g cg : Nat} {iv fv : Value} {l : Lex} {us vs : List Value} (h : FSt wA w G iv fv l us vs) (hu : vs[a]? = some (.slice (some ⟨g, 0, none⟩) (l.f[a]?.getD []).length cg)) (hg : wA.heap.size ≤ g) :
    FSt wA (w.setCells g 0 (List.replicate (l.f[a]?.getD []).length (.int .i64 0))) G iv fv ⟨l.i, l.f.set a ((l.f[a]?.getD []).map fun _ => 0)⟩ us vs := by
  have hgr := setCells_grown g (List.replicate (l.f[a]?.getD []).length (.int .i64 0)) 0 w
  have hou := h.l.wf.2 a _ hu
  have hz := setCells_ints (l.f[a]?.getD []).length 0 (l.f[a]?.getD []) w hou (by omega)
  have e : (l.f[a]?.getD []).take 0 ++ List.replicate (l.f[a]?.getD []).length 0 ++ (l.f[a]?.getD []).drop (0 + (l.f[a]?.getD []).length) = (l.f[a]?.getD []).map fun _ => (0 : Int) := by
    rw [Nat.zero_add, List.drop_length]; simp [List.map_const']
  rw [e] at hz
  refine ⟨grown_below h.x hgr (fun r e1 => by injection e1 with e1; omega), h.o.kept hgr (fun e1 => by injection e1 with e1; exact (h.o.notInt hou rfl) e1.symm), h.l.updF hu rfl hgr ?_⟩
  have := hz
  unfold OInts at this ⊢
  simpa using this
def zRow (r : List Int) : List Int := r.map fun _ => 0
def zTo (f : List (List Int)) (k : Nat) : List (List Int) := (f.take k).map zRow ++ f.drop k
theorem zTo_zero (f : List (List Int)) : zTo f 0 = f := by simp [zTo]
theorem zTo_all (f : List (List Int)) : zTo f f.length = f.map zRow := by simp [zTo]
theorem zTo_len (f : List (List Int)) (k : Nat) : (zTo f k).length = f.length := by simp [zTo]; omega
theorem zTo_at {f : List (List Int)} {k : Nat} (h : k < f.length) : (zTo f k)[k]?.getD [] = f[k]?.getD [] := by
  unfold zTo
  rw [List.getElem?_append_right (by simp; omega), List.getElem?_drop]
  congr 2
  simp; omega
theorem zTo_next {f : List (List Int)} {k : Nat} (h : k < f.length) : (zTo f k).set k (zRow (f[k]?.getD [])) = zTo f (k + 1) := by
  unfold zTo
  have hl : ((f.take k).map zRow).length = k := by simp; omega
  rw [List.set_append_right _ _ (by omega), hl, Nat.sub_self, List.drop_eq_getElem_cons h, List.set_cons_zero, List.take_add_one, List.getElem?_eq_getElem h, List.map_append, List.append_assoc]
  rfl
theorem free_eq (l : Lex) : freeX l = ⟨l.i, l.f.map zRow⟩ := rfl
def zPart (r : List Int) (i : Nat) : List Int := List.replicate i 0 ++ r.drop i
theorem zPart_len {r : List Int} {i : Nat} (h : i ≤ r.length) : (zPart r i).length = r.length := by simp [zPart]; omega
theorem zPart_next {r : List Int} {i : Nat} (h : i < r.length) : (zPart r i).set i 0 = zPart r (i + 1) := by
  unfold zPart
  rw [List.set_append_right _ _ (by simp), List.length_replicate, Nat.sub_self, List.drop_eq_getElem_cons h, List.set_cons_zero, List.replicate_succ', List.append_assoc]
  rfl
theorem zPart_all (r : List Int) : zPart r r.length = zRow r := by simp [zPart, zRow, List.map_const']
/-- what Free answers -/
def freeL (l : Lex) : Lex := if validL l = 0 then freeX l else ⟨[], []⟩
set_option maxHeartbeats 4000000 in
set_option maxRecDepth 100000 in
theorem Free_c (iv fv : Value) (l : Lex) (w : World) (h : LexR w iv fv l) : Calls Try.prog 31 #[.agg #[iv, fv]] w (RLexE (freeL l) (validL l) w) := by
  obtain ⟨wL, hwL⟩ : ∃ wL, wL = w.alloc (.cells #[iv, fv] 25) := ⟨_, rfl⟩
  have hEL : Ext w wL := by rw [hwL]; exact Ext.alloc _ _
  have hzL : wL.heap.size = w.heap.size + 1 := by rw [hwL]; simp
  obtain ⟨wA, hwA⟩ : ∃ wA, wA = wL.alloc (.cells #[.slice none 0 0, .slice none 0 0] 25) := ⟨_, rfl⟩
  have hEA : Ext wL wA := by rw [hwA]; exact Ext.alloc _ _
  have hE0 : Ext w wA := hEL.trans hEA
  have k0 : ∀ W, Ext wA W → W.cell? ⟨w.heap.size, 0, none⟩ = some iv := by rw [hwL] at hEA; exact fun W hW => kept_alloc w _ _ rfl W (hEA.trans hW)
  have k1 : ∀ W, Ext wA W → W.cell? ⟨w.heap.size, 1, none⟩ = some fv := by rw [hwL] at hEA; exact fun W hW => kept_alloc w _ _ rfl W (hEA.trans hW)
  have HB0 : Hid (Blk wA (w.heap.size + 1) 25 [.slice none 0 0, .slice none 0 0]) := Lib.hid (by rw [hwA, ← hzL]; exact Blk.alloc _ _ _)
  have H0 : Ext wA wA := Ext.refl _
  have HWW : Hid (wA = (w.alloc (.cells #[iv, fv] 25)).alloc (.cells #[.slice none 0 0, .slice none 0 0] 25)) := Lib.hid (by rw [hwA, hwL])
  have hzA : wA.heap.size = w.heap.size + 1 + 1 := by rw [hwA]; simp [hzL]
  have HR := Lib.hid (h.ext hE0)
  obtain ⟨ai, ci, rfl, hli, hmi, HI⟩ := (h.ext hE0).i.open_
  obtain ⟨af, cf, rfl, hlf, hmf, HF⟩ := Rows.open_ (h.ext hE0).f
  have HZA := Lib.hid hzA
  clear hwL hwA hzL hEA hEL wL h hzA
  have HV := Lib.hid (Validate_c _ _ l wA HR.out)
  by_cases h0 : validL l = 0
  · have hl := validL_ok h0
    have HL := Lib.hid hl
    have HCP := Lib.hid (fun W (hW : Ext wA W) => copied_c _ _ l W (HR.out.ext hW) (copy_bounds hl))
    have hn1 : 0 < l.i.length := hl.n1
    have hf4 : l.f.length = 4 := hl.f4
    have hf0 : 0 < l.f.length := by omega
    have HRL : Hid (∀ a, a < l.f.length → (l.f[a]?.getD []).length = 4) := Lib.hid (fun a ha => (hl.ff a (by omega)).1)
    have hr0 : 0 < (l.f[0]?.getD []).length := by rw [HRL.out 0 hf0]; omega
    have HF4 := Lib.hid hf4
    have HFE : Hid (freeL l = ⟨l.i, l.f.map zRow⟩) := Lib.hid (by unfold freeL; rw [if_pos h0]; rfl)
    rw [h0] at HV
    rw [h0, HFE.out]
    clear h0 hl hf4
    go_enter Try.func31, Try.ntmps31
    go_wp2_with fail
    rw [← HWW.out]
    refine HV.out.mono ?_; rintro e w1 ⟨rfl, hx1⟩
    go_wp2_with fail
    refine (HCP.out w1 hx1).mono ?_; rintro e w2 ⟨iv, fv, rfl, ho2, hx2⟩
    obtain ⟨us, vs, hF⟩ := FSt.begin hx1 hx2 ho2
    clear ho2
    obtain ⟨gi, ci2, u0, rfl, _, hmi2, hgi, _⟩ := hF.l.spotI (j := 0) hn1
    obtain ⟨gf, cf2, g0, cg0, rfl, _, hmf2, _⟩ := hF.l.spotF (a := 0) hf0 hr0
    have HG := Lib.hid hF.o.lt
    have hX3 := hF.x
    have HFS := Lib.hid hF; clear hF hx2
    have hb0 := HFS.out.o
    have c1 := hb0.cell (i := 1) rfl
    clear hb0
    go_wp2_with fail
    clear c1
    go_loopg [19] l.f.length (fun z jj wr => ∃ k : Nat, k ≤ l.f.length ∧ l.f.length ≤ k + z ∧ jj = .int .i64 k ∧ FSt wA wr w2.heap.size (.slice (some ⟨gi, 0, none⟩) l.i.length ci2) (.slice (some ⟨gf, 0, none⟩) l.f.length cf2) ⟨l.i, zTo l.f k⟩ us vs)
    case atStart => exact ⟨0, by omega, by omega, rfl, by rw [zTo_zero]; exact HFS.out⟩
    case round =>
      clear HFS hX3
      obtain ⟨k, hk, hkz, rfl, hS⟩ := hrel
      have hX := hS.x
      by_cases hlt : k < l.f.length
      · have hrk := HRL.out k hlt
        have hzk := zTo_at hlt
        obtain ⟨g, cg, hcell, hcg, hmg, hgB, hvs, hou⟩ := hS.l.spotF2 (a := k) (by show k < (zTo l.f k).length; rw [zTo_len]; exact hlt) (by show 0 < ((zTo l.f k)[k]?.getD []).length; rw [hzk, hrk]; omega)
        have hcl := hS.clearF (a := k) hvs hgB
        have e1 : (Lex.mk l.i (zTo l.f k)).f[k]?.getD [] = l.f[k]?.getD [] := hzk
        rw [e1, hrk] at hcell
        rw [e1] at hcl
        have e2 : (zTo l.f k).set k ((l.f[k]?.getD []).map fun _ => 0) = zTo l.f (k + 1) := zTo_next hlt
        have e3 : (Lex.mk l.i (zTo l.f k)).f.set k ((l.f[k]?.getD []).map fun _ => 0) = zTo l.f (k + 1) := e2
        rw [e3, hrk] at hcl
        rw [e1, hrk] at hou hcg
        have hclr : ∀ ty, (Builtin.clear_ #[26] ty #[.slice (some ⟨g, 0, none⟩) 4 cg]).run Try.prog wr = .ok (.tuple #[]) (wr.setCells g 0 (List.replicate 4 (.int .i64 0))) := fun ty =>
          Lib.run_clear_slice wr 26 3 ty (.int .i64 0) Try.underlying26 (fun W => by kernel_rfl) rfl rfl g 0 4 cg (by omega) (fun j hj => by rw [Nat.zero_add, (hou.spot2 (i := j) (by rw [hrk]; exact hj)).1]; rfl) (fun j hj => by rw [Nat.zero_add]; exact (hou.spot2 (i := j) (by rw [hrk]; exact hj)).2)
        have HCL := Lib.hid hcl
        have hkI : (k : Int) < (l.f.length : Int) := by omega
        clear hcl hou hvs hS hzk e1 e2 e3 hrk
        go_wp2_with fail
        go_roundg (gk-1)
        case measure => omega
        case rel => exact ⟨k+1, by omega, by omega, by go_num, HCL.out⟩
      · have hkl : k = l.f.length := by omega
        subst hkl
        rw [zTo_all] at hS
        have d0 := hS.o.cell (i := 0) rfl
        have d1 := hS.o.cell (i := 1) rfl
        have HO := Lib.hid hS.l
        clear hS
        have hrb := HB0.out.ext (hX)
        have hrz : w.heap.size ≤ wA.heap.size := hE0.size
        have r0 := hrb.cell (i := 0) rfl
        have r1 := hrb.cell (i := 1) rfl
        have rf0 := hrb.frozen 0
        have rf1 := hrb.frozen 1
        have hr2 : Blk ((wr.setCell ⟨w.heap.size + 1, 0, none⟩ (.slice (some ⟨gi, 0, none⟩) l.i.length ci2)).setCell ⟨w.heap.size + 1, 1, none⟩ (.slice (some ⟨gf, 0, none⟩) l.f.length cf2)) (w.heap.size + 1) 25 [(.slice (some ⟨gi, 0, none⟩) l.i.length ci2), (.slice (some ⟨gf, 0, none⟩) l.f.length cf2)] := by have := (hrb.set 0 (.slice (some ⟨gi, 0, none⟩) l.i.length ci2)).set 1 (.slice (some ⟨gf, 0, none⟩) l.f.length cf2); exact this
        have e0 := hr2.cell (i := 0) rfl
        have e1 := hr2.cell (i := 1) rfl
        have hO1 := (HO.out).keptN (grownBy_set wr (w.heap.size + 1) 0 (.slice (some ⟨gi, 0, none⟩) l.i.length ci2)) hrb ⟨by decide, by decide, by decide⟩
        have hO2 := hO1.keptN (grownBy_set _ (w.heap.size + 1) 1 (.slice (some ⟨gf, 0, none⟩) l.f.length cf2)) (by have := hrb.set 0 (.slice (some ⟨gi, 0, none⟩) l.i.length ci2); exact this) ⟨by decide, by decide, by decide⟩
        have HOL := Lib.hid (OLex.low ⟨_, _, hO2⟩ hrz)
        have HXE := Lib.hid (((hE0.trans (hX)).setCell (by omega : w.heap.size ≤ w.heap.size + 1) 0 (.slice (some ⟨gi, 0, none⟩) l.i.length ci2)).setCell (by omega : w.heap.size ≤ w.heap.size + 1) 1 (.slice (some ⟨gf, 0, none⟩) l.f.length cf2))
        clear hr2 hO1 hO2 hrb
        go_wp2_with fail
        refine bodyPost_ret (v := .tuple #[.agg #[(.slice (some ⟨gi, 0, none⟩) l.i.length ci2), (.slice (some ⟨gf, 0, none⟩) l.f.length cf2)], .int .i64 0]) (by simp [results, Try.results31, go_sem, e0, e1]) rfl ?_
        exact ⟨_, _, rfl, HOL.out, HXE.out⟩
  · have HFE : Hid (freeL l = ⟨[], []⟩) := Lib.hid (by unfold freeL; rw [if_neg h0])
    rw [HFE.out]
    generalize validL l = k at *
    have hk : (k != 0) = true := by simpa using h0
    clear h0
    go_enter Try.func31, Try.ntmps31
    go_wp2_with fail
    rw [← HWW.out]
    refine HV.out.mono ?_; rintro e w1 ⟨rfl, hx1⟩
    have hrb := HB0.out.ext (hx1)
    have hrz : w.heap.size ≤ wA.heap.size := hE0.size
    have r0 := hrb.cell (i := 0) rfl
    have r1 := hrb.cell (i := 1) rfl
    have rf0 := hrb.frozen 0
    have rf1 := hrb.frozen 1
    have hr2 : Blk ((w1.setCell ⟨w.heap.size + 1, 0, none⟩ (.slice none 0 0)).setCell ⟨w.heap.size + 1, 1, none⟩ (.slice none 0 0)) (w.heap.size + 1) 25 [(.slice none 0 0), (.slice none 0 0)] := by have := (hrb.set 0 (.slice none 0 0)).set 1 (.slice none 0 0); exact this
    have e0 := hr2.cell (i := 0) rfl
    have e1 := hr2.cell (i := 1) rfl
    have hO1 := (OLexP.nil w1 wA.heap.size).keptN (grownBy_set w1 (w.heap.size + 1) 0 (.slice none 0 0)) hrb ⟨by decide, by decide, by decide⟩
    have hO2 := hO1.keptN (grownBy_set _ (w.heap.size + 1) 1 (.slice none 0 0)) (by have := hrb.set 0 (.slice none 0 0); exact this) ⟨by decide, by decide, by decide⟩
    have HOL := Lib.hid (OLex.low ⟨_, _, hO2⟩ hrz)
    have HXE := Lib.hid (((hE0.trans (hx1)).setCell (by omega : w.heap.size ≤ w.heap.size + 1) 0 (.slice none 0 0)).setCell (by omega : w.heap.size ≤ w.heap.size + 1) 1 (.slice none 0 0))
    clear hr2 hO1 hO2 hrb
    go_wp2_with fail
    refine bodyPost_ret (v := .tuple #[.agg #[(.slice none 0 0), (.slice none 0 0)], .int .i64 k]) (by simp [results, Try.results31, go_sem, e0, e1]) rfl ?_
    exact ⟨_, _, rfl, HOL.out, HXE.out⟩
set_option maxHeartbeats 4000000 in
set_option maxRecDepth 100000 in
theorem rFree_c (iv fv : Value) (l : Lex) (w : World) (h : LexR w iv fv l) : Calls Try.prog 40 #[.agg #[iv, fv]] w (RLexE (freeL l) (validL l) w) := by
  obtain ⟨wL, hwL⟩ : ∃ wL, wL = w.alloc (.cells #[iv, fv] 25) := ⟨_, rfl⟩
  have hEL : Ext w wL := by rw [hwL]; exact Ext.alloc _ _
  have hzL : wL.heap.size = w.heap.size + 1 := by rw [hwL]; simp
  obtain ⟨wA, hwA⟩ : ∃ wA, wA = wL.alloc (.cells #[.slice none 0 0, .slice none 0 0] 25) := ⟨_, rfl⟩
  have hEA : Ext wL wA := by rw [hwA]; exact Ext.alloc _ _
  have hE0 : Ext w wA := hEL.trans hEA
  have k0 : ∀ W, Ext wA W → W.cell? ⟨w.heap.size, 0, none⟩ = some iv := by rw [hwL] at hEA; exact fun W hW => kept_alloc w _ _ rfl W (hEA.trans hW)
  have k1 : ∀ W, Ext wA W → W.cell? ⟨w.heap.size, 1, none⟩ = some fv := by rw [hwL] at hEA; exact fun W hW => kept_alloc w _ _ rfl W (hEA.trans hW)
  have HB0 : Hid (Blk wA (w.heap.size + 1) 25 [.slice none 0 0, .slice none 0 0]) := Lib.hid (by rw [hwA, ← hzL]; exact Blk.alloc _ _ _)
  have H0 : Ext wA wA := Ext.refl _
  have HWW : Hid (wA = (w.alloc (.cells #[iv, fv] 25)).alloc (.cells #[.slice none 0 0, .slice none 0 0] 25)) := Lib.hid (by rw [hwA, hwL])
  have hzA : wA.heap.size = w.heap.size + 1 + 1 := by rw [hwA]; simp [hzL]
  have HR := Lib.hid (h.ext hE0)
  obtain ⟨ai, ci, rfl, hli, hmi, HI⟩ := (h.ext hE0).i.open_
  obtain ⟨af, cf, rfl, hlf, hmf, HF⟩ := Rows.open_ (h.ext hE0).f
  have HZA := Lib.hid hzA
  clear hwL hwA hzL hEA hEL wL h hzA
  have HV := Lib.hid (rValidate_c _ _ l wA HR.out)
  by_cases h0 : validL l = 0
  · have hl := validL_ok h0
    have HL := Lib.hid hl
    have HCP := Lib.hid (fun W (hW : Ext wA W) => rCopy_c _ _ l W (HR.out.ext hW) (copy_bounds hl))
    have hn1 : 0 < l.i.length := hl.n1
    have hf4 : l.f.length = 4 := hl.f4
    have hf0 : 0 < l.f.length := by omega
    have HRL : Hid (∀ a, a < l.f.length → (l.f[a]?.getD []).length = 4) := Lib.hid (fun a ha => (hl.ff a (by omega)).1)
    have hr0 : 0 < (l.f[0]?.getD []).length := by rw [HRL.out 0 hf0]; omega
    have HF4 := Lib.hid hf4
    have HFE : Hid (freeL l = ⟨l.i, l.f.map zRow⟩) := Lib.hid (by unfold freeL; rw [if_pos h0]; rfl)
    rw [h0] at HV
    rw [h0, HFE.out]
    clear h0 hl hf4
    go_enter Try.func40, Try.ntmps40
    go_wp2_with fail
    rw [← HWW.out]
    refine HV.out.mono ?_; rintro e w1 ⟨rfl, hx1⟩
    go_wp2_with fail
    refine (HCP.out w1 hx1).mono ?_; rintro e w2 ⟨iv, fv, rfl, ho2, hx2⟩
    obtain ⟨us, vs, hF⟩ := FSt.begin hx1 hx2 ho2
    clear ho2
    obtain ⟨gi, ci2, u0, rfl, _, hmi2, hgi, _⟩ := hF.l.spotI (j := 0) hn1
    obtain ⟨gf, cf2, g0, cg0, rfl, _, hmf2, _⟩ := hF.l.spotF (a := 0) hf0 hr0
    have HG := Lib.hid hF.o.lt
    have hX3 := hF.x
    have HFS := Lib.hid hF; clear hF hx2
    go_wp2_with fail
    go_loopg [6] l.f.length (fun z jj wr => ∃ k : Nat, k ≤ l.f.length ∧ l.f.length ≤ k + z ∧ jj = .int .i64 k ∧ FSt wA wr w2.heap.size (.slice (some ⟨gi, 0, none⟩) l.i.length ci2) (.slice (some ⟨gf, 0, none⟩) l.f.length cf2) ⟨l.i, zTo l.f k⟩ us vs)
    case atStart => exact ⟨0, by omega, by omega, rfl, by rw [zTo_zero]; exact HFS.out⟩
    case round =>
      clear HFS hX3
      obtain ⟨k, hk, hkz, rfl, hS⟩ := hrel
      obtain ⟨g1, rfl⟩ : ∃ g : Nat, g = gk := ⟨_, rfl⟩
      have hX := hS.x
      have d1 := hS.o.cell (i := 1) rfl
      have HS := Lib.hid hS; clear hS
      by_cases hlt : k < l.f.length
      · have hkI : (k : Int) < (l.f.length : Int) := by omega
        go_wp2_with fail
        clear d1
        go_loopg [7] 4 (fun z ii wr => ∃ i : Nat, i ≤ 4 ∧ 4 ≤ i + z ∧ ii = .int .i64 i ∧ FSt wA wr w2.heap.size (.slice (some ⟨gi, 0, none⟩) l.i.length ci2) (.slice (some ⟨gf, 0, none⟩) l.f.length cf2) ⟨l.i, (zTo l.f k).set k (zPart (l.f[k]?.getD []) i)⟩ us vs)
        case atStart =>
          refine ⟨0, by omega, by omega, rfl, ?_⟩
          have e : (zTo l.f k).set k (zPart (l.f[k]?.getD []) 0) = zTo l.f k := by
            apply set_self
            have h1 := zTo_at hlt
            have h2 : k < (zTo l.f k).length := by rw [zTo_len]; exact hlt
            rw [List.getElem?_eq_getElem h2, Option.getD_some] at h1
            rw [List.getElem?_eq_getElem h2, h1]; simp [zPart]
          rw [e]; exact HS.out
        case round =>
          clear HS hX
          obtain ⟨i, hi, hiz, rfl, hS⟩ := hrel
          have hX := hS.x
          have d1 := hS.o.cell (i := 1) rfl
          have hzl : k < (zTo l.f k).length := by rw [zTo_len]; exact hlt
          have hr4 := HRL.out k hlt
          have e1 : (Lex.mk l.i ((zTo l.f k).set k (zPart (l.f[k]?.getD []) i))).f[k]?.getD [] = zPart (l.f[k]?.getD []) i := by
            show ((zTo l.f k).set k _)[k]?.getD [] = _
            rw [List.getElem?_set_self hzl]; rfl
          have e2 : (zPart (l.f[k]?.getD []) i).length = 4 := by rw [zPart_len (by omega)]; exact hr4
          obtain ⟨g, cg, hcell, hcg, hmg, hgB, hvs, hou⟩ := hS.l.spotF2 (a := k) (by show k < ((zTo l.f k).set k _).length; rw [List.length_set]; exact hzl) (by rw [e1, e2]; omega)
          by_cases hi4 : i < 4
          · have hst := hS.setF (a := k) (i := i) hvs hgB (by rw [e1, e2]; exact hi4) 0
            rw [e1] at hst
            have e3 : (Lex.mk l.i ((zTo l.f k).set k (zPart (l.f[k]?.getD []) i))).f.set k ((zPart (l.f[k]?.getD []) i).set i 0) = (zTo l.f k).set k (zPart (l.f[k]?.getD []) (i + 1)) := by
              show ((zTo l.f k).set k _).set k _ = _
              rw [List.set_set, zPart_next (by omega)]
            rw [e3] at hst
            have HST := Lib.hid hst
            obtain ⟨hc, hf⟩ := hou.spot2 (i := i) (by rw [e1, e2]; exact hi4)
            rw [e1, e2] at hcell hcg
            have hiI : (i : Int) < 4 := by omega
            clear hou hvs hS e1 e2 e3 hst hr4 hzl
            go_wp2_with fail
            go_roundg (gk-1)
            case measure => omega
            case rel => exact ⟨i+1, by omega, by omega, by go_num, HST.out⟩
          · have hi4' : i = 4 := by omega
            subst hi4'
            have e3 : (zTo l.f k).set k (zPart (l.f[k]?.getD []) 4) = zTo l.f (k + 1) := by
              rw [← zTo_next hlt, ← hr4, zPart_all]
            rw [e1, e2] at hcell
            rw [e3] at hS
            have HS := Lib.hid hS
            clear hou hvs hS e1 e2 e3 hr4 hzl hcg
            go_wp2_with fail
            go_roundg (g1-1)
            case measure => omega
            case rel => exact ⟨k+1, by omega, by omega, by go_num, HS.out⟩
      · have hkl : k = l.f.length := by omega
        subst hkl
        rw [zTo_all] at HS
        have d0 := HS.out.o.cell (i := 0) rfl
        have HO := Lib.hid HS.out.l
        have hrb := HB0.out.ext (hX)
        have hrz : w.heap.size ≤ wA.heap.size := hE0.size
        have r0 := hrb.cell (i := 0) rfl
        have r1 := hrb.cell (i := 1) rfl
        have rf0 := hrb.frozen 0
        have rf1 := hrb.frozen 1
        have hr2 : Blk ((wr.setCell ⟨w.heap.size + 1, 0, none⟩ (.slice (some ⟨gi, 0, none⟩) l.i.length ci2)).setCell ⟨w.heap.size + 1, 1, none⟩ (.slice (some ⟨gf, 0, none⟩) l.f.length cf2)) (w.heap.size + 1) 25 [(.slice (some ⟨gi, 0, none⟩) l.i.length ci2), (.slice (some ⟨gf, 0, none⟩) l.f.length cf2)] := by have := (hrb.set 0 (.slice (some ⟨gi, 0, none⟩) l.i.length ci2)).set 1 (.slice (some ⟨gf, 0, none⟩) l.f.length cf2); exact this
        have e0 := hr2.cell (i := 0) rfl
        have e1 := hr2.cell (i := 1) rfl
        have hO1 := (HO.out).keptN (grownBy_set wr (w.heap.size + 1) 0 (.slice (some ⟨gi, 0, none⟩) l.i.length ci2)) hrb ⟨by decide, by decide, by decide⟩
        have hO2 := hO1.keptN (grownBy_set _ (w.heap.size + 1) 1 (.slice (some ⟨gf, 0, none⟩) l.f.length cf2)) (by have := hrb.set 0 (.slice (some ⟨gi, 0, none⟩) l.i.length ci2); exact this) ⟨by decide, by decide, by decide⟩
        have HOL := Lib.hid (OLex.low ⟨_, _, hO2⟩ hrz)
        have HXE := Lib.hid (((hE0.trans (hX)).setCell (by omega : w.heap.size ≤ w.heap.size + 1) 0 (.slice (some ⟨gi, 0, none⟩) l.i.length ci2)).setCell (by omega : w.heap.size ≤ w.heap.size + 1) 1 (.slice (some ⟨gf, 0, none⟩) l.f.length cf2))
        clear hr2 hO1 hO2 hrb
        go_wp2_with fail
        refine bodyPost_ret (v := .tuple #[.agg #[(.slice (some ⟨gi, 0, none⟩) l.i.length ci2), (.slice (some ⟨gf, 0, none⟩) l.f.length cf2)], .int .i64 0]) (by simp [results, Try.results40, go_sem, e0, e1]) rfl ?_
        exact ⟨_, _, rfl, HOL.out, HXE.out⟩
  · have HFE : Hid (freeL l = ⟨[], []⟩) := Lib.hid (by unfold freeL; rw [if_neg h0])
    rw [HFE.out]
    generalize validL l = k at *
    have hk : (k != 0) = true := by simpa using h0
    clear h0
    go_enter Try.func40, Try.ntmps40
    go_wp2_with fail
    rw [← HWW.out]
    refine HV.out.mono ?_; rintro e w1 ⟨rfl, hx1⟩
    have hrb := HB0.out.ext (hx1)
    have hrz : w.heap.size ≤ wA.heap.size := hE0.size
    have r0 := hrb.cell (i := 0) rfl
    have r1 := hrb.cell (i := 1) rfl
    have rf0 := hrb.frozen 0
    have rf1 := hrb.frozen 1
    have hr2 : Blk ((w1.setCell ⟨w.heap.size + 1, 0, none⟩ (.slice none 0 0)).setCell ⟨w.heap.size + 1, 1, none⟩ (.slice none 0 0)) (w.heap.size + 1) 25 [(.slice none 0 0), (.slice none 0 0)] := by have := (hrb.set 0 (.slice none 0 0)).set 1 (.slice none 0 0); exact this
    have e0 := hr2.cell (i := 0) rfl
    have e1 := hr2.cell (i := 1) rfl
    have hO1 := (OLexP.nil w1 wA.heap.size).keptN (grownBy_set w1 (w.heap.size + 1) 0 (.slice none 0 0)) hrb ⟨by decide, by decide, by decide⟩
    have hO2 := hO1.keptN (grownBy_set _ (w.heap.size + 1) 1 (.slice none 0 0)) (by have := hrb.set 0 (.slice none 0 0); exact this) ⟨by decide, by decide, by decide⟩
    have HOL := Lib.hid (OLex.low ⟨_, _, hO2⟩ hrz)
    have HXE := Lib.hid (((hE0.trans (hx1)).setCell (by omega : w.heap.size ≤ w.heap.size + 1) 0 (.slice none 0 0)).setCell (by omega : w.heap.size ≤ w.heap.size + 1) 1 (.slice none 0 0))
    clear hr2 hO1 hO2 hrb
    go_wp2_with fail
    refine bodyPost_ret (v := .tuple #[.agg #[(.slice none 0 0), (.slice none 0 0)], .int .i64 k]) (by simp [results, Try.results40, go_sem, e0, e1]) rfl ?_
    exact ⟨_, _, rfl, HOL.out, HXE.out⟩
end Go.Proofs.Ytgpggmcjggpmpaa
