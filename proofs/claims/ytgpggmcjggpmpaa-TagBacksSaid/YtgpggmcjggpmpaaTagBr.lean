/- The lexicon turned round: Turned and Back of the reference. -/
import Derived.Test.YtgpggmcjggpmpaaTagBk
namespace Go.Proofs.Ytgpggmcjggpmpaa
open Go.RowKit Go.Shelf
set_option linter.unusedVariables false

theorem rev_next {l : List Int} {m : Nat} (h : m < l.length) : l.reverse.take (l.length - m) = l.reverse.take (l.length - (m + 1)) ++ [l[m]?.getD 0] := by
  have h2 : l.length - (m + 1) < l.reverse.length := by rw [List.length_reverse]; omega
  rw [show l.length - m = (l.length - (m + 1)) + 1 by omega, List.take_add_one, List.getElem?_reverse (by omega)]
  congr 2
  rw [show l.length - 1 - (l.length - (m + 1)) = m by omega, List.getElem?_eq_getElem h]; rfl
set_option maxHeartbeats 1000000 in
theorem Turned_c (v : Value) (l : List Int) (w : World) (h : Ints w v l) (hn : l.length ≤ 1000) : Calls Try.prog 48 #[v] w (ROInts 3 l.reverse w) := by
  obtain ⟨a, c, rfl, hl, hm, H⟩ := h.open_
  clear h
  have hw : IntKind.i64.wrap ((l.length : Int) - 1) = (l.length : Int) - 1 := IntWalk.i64_in _ (by omega)
  go_enter Try.func48, Try.ntmps48
  go_wp2_with fail
  go_loopg [4, 3] l.length (fun z ii ov wr => ∃ (m : Nat) (v : Value), v = ov ∧ m ≤ l.length ∧ m ≤ z ∧ ii = .int .i64 ((m : Int) - 1) ∧ Ext w wr ∧ OInts 3 wr w.heap.size v (l.reverse.take (l.length - m)))
  case atStart => exact ⟨l.length, _, rfl, by omega, by omega, rfl, Ext.refl _, by rw [Nat.sub_self, List.take_zero]; exact OInts.nil _ _ _⟩
  case round =>
    obtain ⟨m, ov, rfl, hml, hmz, rfl, hX, hown⟩ := hrel
    have HOW := Lib.hid hown; clear hown
    rcases Nat.eq_zero_or_pos m with hm0 | hm0
    · subst hm0
      rw [Nat.sub_zero, show l.length = l.reverse.length by simp, List.take_length] at HOW
      have hd : decide ((0 : Int) ≤ ((0 : Nat) : Int) - 1) = false := by decide
      rw [show (((0 : Nat) : Int) - 1) = -1 from rfl]
      go_wp2_with fail
      go_ret
      exact ⟨_, rfl, HOW.out, hX⟩
    · obtain ⟨k, rfl⟩ : ∃ k, m = k + 1 := ⟨m - 1, by omega⟩
      have e : (((k + 1 : Nat) : Int) - 1) = (k : Int) := by omega
      rw [e]
      have hlt : k < l.length := by omega
      obtain ⟨b, o, rfl, hc⟩ := H.out k hlt
      replace hc := hX.keep hc
      have HNX := Lib.hid (rev_next hlt)
      have hkI : (k : Int) < (l.length : Int) := by omega
      have hd : decide ((0 : Int) ≤ (k : Int)) = true := by simp
      have hw2 : IntKind.i64.wrap ((k : Int) - 1) = (k : Int) - 1 := IntWalk.i64_in _ (by omega)
      have hsz := hX.size
      generalize l[k]?.getD 0 = x at *
      clear e
      go_wp2_with (at_builtin; refine wpList_appendInt elInts rfl _ _ rfl rfl rfl HOW.out rfl hsz (by rw [List.length_take, List.length_reverse]; omega) ?_; intro v' w' ho2 hb2)
      have hX2 : Ext w w' := hX.upto hb2 (Nat.le_refl _)
      go_wp2_with fail
      go_roundg (gk-1)
      case measure => omega
      case rel => exact ⟨k, _, rfl, by omega, by omega, by go_num, hX2, by rw [HNX.out]; exact ho2⟩
/-- an item has a new word -/
theorem FSt.word {wA w w' : World} {G j gi ci : Nat} {fv u : Value} {l : Lex} {us vs : List Value} {l' : List Int} (h : FSt wA w G (.slice (some ⟨gi, 0, none⟩) l.i.length ci) fv l us vs) (hx : Ext w w') (hj : j < l.i.length) (hg : wA.heap.size ≤ gi) (hu : OInts 3 w' w.heap.size u l') :
    FSt wA (w'.setCell ⟨gi, j * 3, none⟩ u) G (.slice (some ⟨gi, 0, none⟩) l.i.length ci) fv ⟨l.i.set j ⟨l', (itm l.i j).k, (itm l.i j).c⟩, l.f⟩ (us.set j u) vs := by
  have h2 := h.ext hx
  obtain ⟨cur, h1, _⟩ := ownBlock_cells h2.l.i gi rfl
  refine ⟨h2.x.setCell hg _ _, h2.o.other ?_ _ _, h2.l.setW hj (ownsRow_low hu h.x.size) (fun x hx r hr => (List.mem_append.1 hx).elim (fun hx => hu.fresh h.l.wi x hx r hr) (fun hx => hu.fresh h.l.wf x hx r hr))⟩
  rintro rfl
  have h3 : w'.heap[gi]? = _ := h2.o
  rw [h1] at h3; injection h3 with h3; injection h3 with _ h3 _; exact absurd h3 (by decide)
theorem Ext.frozenK {w w' wr : World} (_ : Ext w w') (hx : Ext wr w') {a : Addr} (h : wr.frozen? a = false) (hlt : a.block < wr.heap.size) : w'.frozen? a = false := by
  unfold World.frozen? at *
  rw [hx.block a.block hlt]; exact h
set_option maxHeartbeats 8000000 in
set_option maxRecDepth 100000 in
theorem rBack_c (iv fv : Value) (l : Lex) (w : World) (h : LexR w iv fv l) : Calls Try.prog 47 #[.agg #[iv, fv]] w (RLexE (backL l) (validL l) w) := by
  obtain ⟨wL, hwL⟩ : ∃ wL, wL = w.alloc (.cells #[iv, fv] 25) := ⟨_, rfl⟩
  have hEL : Ext w wL := by rw [hwL]; exact Ext.alloc _ _
  have hzL : wL.heap.size = w.heap.size + 1 := by rw [hwL]; simp
  obtain ⟨wA, hwA⟩ : ∃ wA, wA = wL.alloc (.cells #[.slice none 0 0, .slice none 0 0] 25) := ⟨_, rfl⟩
  have hEA : Ext wL wA := by rw [hwA]; exact Ext.alloc _ _
  have hE0 : Ext w wA := hEL.trans hEA
  have k0 : ∀ W, Ext wA W → W.cell? ⟨w.heap.size, 0, none⟩ = some iv := by rw [hwL] at hEA; exact fun W hW => kept_alloc w _ _ rfl W (hEA.trans hW)
  have k1 : ∀ W, Ext wA W → W.cell? ⟨w.heap.size, 1, none⟩ = some fv := by rw [hwL] at hEA; exact fun W hW => kept_alloc w _ _ rfl W (hEA.trans hW)
  have HB0 : Hid (Blk wA (w.heap.size + 1) 25 [.slice none 0 0, .slice none 0 0]) := Lib.hid (by rw [hwA, ← hzL]; exact Blk.alloc _ _ _)
  have H0 : Ext wA wA := Ext.refl _
  have HWW : Hid (wA = (w.alloc (.cells #[iv, fv] 25)).alloc (.cells #[.slice none 0 0, .slice none 0 0] 25)) := Lib.hid (by rw [hwA, hwL])
  have hzA : wA.heap.size = w.heap.size + 1 + 1 := by rw [hwA]; simp [hzL]
  have HR := Lib.hid (h.ext hE0)
  obtain ⟨ai, ci, rfl, hli, hmi, HI⟩ := (h.ext hE0).i.open_
  obtain ⟨af, cf, rfl, hlf, hmf, HF⟩ := Rows.open_ (h.ext hE0).f
  have HZA := Lib.hid hzA
  clear hwL hwA hzL hEA hEL wL h hzA
  have HV := Lib.hid (rValidate_c _ _ l wA HR.out)
  by_cases h0 : validL l = 0
  · have hl := validL_ok h0
    have HL := Lib.hid hl
    have HCP := Lib.hid (fun W (hW : Ext wA W) => rCopy_c _ _ l W (HR.out.ext hW) (copy_bounds hl))
    have hn1 : 0 < l.i.length := hl.n1
    have hn8 : l.i.length ≤ 8 := hl.n8
    have hf4 : l.f.length = 4 := hl.f4
    have hf0 : 0 < l.f.length := by omega
    have HRL : Hid (∀ a, a < l.f.length → (l.f[a]?.getD []).length = 4) := Lib.hid (fun a ha => (hl.ff a (by omega)).1)
    have hr0 : 0 < (l.f[0]?.getD []).length := by rw [HRL.out 0 hf0]; omega
    have HF4 := Lib.hid hf4
    have hf4i : l.f.length ≤ 4 := by omega
    have HFE : Hid (backL l = ⟨l.i.map revX, turnF l.f⟩) := Lib.hid (by unfold backL; rw [if_pos h0]; rfl)
    rw [h0] at HV
    rw [h0, HFE.out]
    clear h0 hl hf4
    go_enter Try.func47, Try.ntmps47
    go_wp2_with fail
    rw [← HWW.out]
    refine HV.out.mono ?_; rintro e w1 ⟨rfl, hx1⟩
    go_wp2_with fail
    refine (HCP.out w1 hx1).mono ?_; rintro e w2 ⟨iv, fv, rfl, ho2, hx2⟩
    obtain ⟨us, vs, hF⟩ := FSt.begin hx1 hx2 ho2
    clear ho2
    obtain ⟨gi, ci2, u0, rfl, _, hmi2, hgi, _⟩ := hF.l.spotI (j := 0) hn1
    obtain ⟨gf, cf2, g0, cg0, rfl, _, hmf2, _⟩ := hF.l.spotF (a := 0) hf0 hr0
    have HG := Lib.hid hF.o.lt
    have hX3 := hF.x
    have HFS := Lib.hid hF; clear hF hx2
    go_wp2_with fail
    go_loopg [6] l.i.length (fun z jj wr => ∃ (k : Nat) (us : List Value), k ≤ l.i.length ∧ l.i.length ≤ k + z ∧ jj = .int .i64 k ∧ FSt wA wr w2.heap.size (.slice (some ⟨gi, 0, none⟩) l.i.length ci2) (.slice (some ⟨gf, 0, none⟩) l.f.length cf2) ⟨revI l.i k, l.f⟩ us vs)
    case atStart => exact ⟨0, us, by omega, by omega, rfl, by rw [revI_zero]; exact HFS.out⟩
    case round =>
      clear HFS hX3
      obtain ⟨k, us, hk, hkz, rfl, hS⟩ := hrel
      have hX := hS.x
      have c0 := hS.o.cell (i := 0) rfl
      by_cases hlt : k < l.i.length
      · have hzk := revI_at hlt
        have e1 : itm (Lex.mk (revI l.i k) l.f).i k = itm l.i k := hzk
        have e2 : (Lex.mk (revI l.i k) l.f).i.length = l.i.length := revI_len _ _
        obtain ⟨uo, _, _, hco, _, _, hfz⟩ := hS.l.spotI2 (j := k) (by rw [e2]; exact hlt)
        obtain ⟨bi, oi, rfl, u, hc0, hu, _, _⟩ := HI.out k hlt
        replace hc0 := hX.keep hc0
        have hw1 := HL.out.wo k hlt
        have HU := Lib.hid (hu.ext hX)
        obtain ⟨au, cu, rfl, _, _, _⟩ := hu.open_
        have hkI : (k : Int) < (l.i.length : Int) := by omega
        have HNX : Hid ((revI l.i k).set k (revX (itm l.i k)) = revI l.i (k + 1)) := Lib.hid (revI_next hlt)
        have HST := Lib.hid (fun w' u' (hx : Ext wr w') hu' => by
          have h9 := hS
          rw [← e2] at h9
          have := h9.word (w' := w') (j := k) (u := u') (l' := (itm l.i k).w.reverse) hx (by rw [e2]; exact hlt) hgi hu'
          rw [e1, e2] at this
          rw [show (Lex.mk (revI l.i k) l.f).i.set k ⟨(itm l.i k).w.reverse, (itm l.i k).k, (itm l.i k).c⟩ = revI l.i (k + 1) from HNX.out] at this
          exact this)
        have hlen : (itm l.i k).w.length ≤ 1000 := by have := hw1.2; omega
        have HBO := Lib.hid hS.o
        have HGL : Hid (gi < wr.heap.size) := Lib.hid (by have := cell_lt hco; exact this)
        have hf0 := hfz (k * 3)
        have hl0 := k0 wr hX
        have HTN := Lib.hid (fun W v h => Turned_c v (itm l.i k).w W h hlen)
        have hbl : bi < wr.heap.size := by have := cell_lt hc0; exact this
        have hwl : w.heap.size < wr.heap.size := by have := cell_lt hl0; exact this
        have HZW := Lib.hid hX.size
        clear hu hS hzk e1 e2 hw1 hfz hlen
        generalize (itm l.i k).w = x at *
        go_wp2_with fail
        refine wp_region_play wr.heap.size [12] [.calc 0, .look 1, .calc 2, .calc 3, .look 4, .calc 5, .calc 6, .calc 7, .look 8, .go 9, .calc 10, .calc 11, .go 12] (by kernel_rfl) (by kernel_rfl) (by intro c a d v w h; cases d <;> exact h) ?_
        have hd : Ext wr { wr with drawn := wr.drawn + 1 } := drawn_ext wr
        have hzd : wr.heap.size ≤ ({ wr with drawn := wr.drawn + 1 } : World).heap.size := Nat.le_refl _
        generalize { wr with drawn := wr.drawn + 1 } = V1 at *
        have p0 := hd.keep c0
        have p1 := hd.keep hl0
        have p2 := hd.keep hc0
        have q0 := fun s : Since wr.heap.size V1 => s.keep (by show w2.heap.size < _; have := HBO.out.lt; exact this) p0
        have q1 := fun s : Since wr.heap.size V1 => s.keep (by show w.heap.size < _; exact hwl) p1
        have q2 := fun s : Since wr.heap.size V1 => s.keep (by show bi < _; exact hbl) p2
        (refine wpPlay_calc rfl (fun K hK => ?_); go_simp; first | (refine hK _ ?_; clear hK K) | (refine ⟨_, fun _ => rfl, hK _ ?_⟩; clear hK K))
        (refine wpPlay_look rfl (fun K hK => ?_); go_simp; first | (refine hK _ ?_; clear hK K) | (refine ⟨_, fun _ => rfl, hK _ ?_⟩; clear hK K))
        (refine wpPlay_calc rfl (fun K hK => ?_); go_simp; first | (refine hK _ ?_; clear hK K) | (refine ⟨_, fun _ => rfl, hK _ ?_⟩; clear hK K))
        (refine wpPlay_calc rfl (fun K hK => ?_); go_simp; first | (refine hK _ ?_; clear hK K) | (refine ⟨_, fun _ => rfl, hK _ ?_⟩; clear hK K))
        (refine wpPlay_look rfl (fun K hK => ?_); go_simp; first | (refine hK _ ?_; clear hK K) | (refine ⟨_, fun _ => rfl, hK _ ?_⟩; clear hK K))
        (refine wpPlay_calc rfl (fun K hK => ?_); go_simp; first | (refine hK _ ?_; clear hK K) | (refine ⟨_, fun _ => rfl, hK _ ?_⟩; clear hK K))
        (refine wpPlay_calc rfl (fun K hK => ?_); go_simp; first | (refine hK _ ?_; clear hK K) | (refine ⟨_, fun _ => rfl, hK _ ?_⟩; clear hK K))
        (refine wpPlay_calc rfl (fun K hK => ?_); go_simp; first | (refine hK _ ?_; clear hK K) | (refine ⟨_, fun _ => rfl, hK _ ?_⟩; clear hK K))
        (refine wpPlay_look rfl (fun K hK => ?_); go_simp; first | (refine hK _ ?_; clear hK K) | (refine ⟨_, fun _ => rfl, hK _ ?_⟩; clear hK K))
        clear q0 q1 q2 p0 p1 p2 c0 hl0 hc0
        refine wpPlay_go rfl rfl (fun K hK => ?_)
        have HT9 := Lib.hid (HTN.out V1 _ (HU.out.ext hd))
        go_wp2_with fail
        refine HT9.out.mono ?_; rintro e W9 ⟨v9, rfl, ho9, hx9⟩
        have hE9 := hd.trans hx9
        have hO9 : OInts 3 W9 wr.heap.size v9 x.reverse := ownsRow_low ho9 hzd
        obtain ⟨a9, c9, hv9, _, _, _⟩ := hO9.ints.open_
        rw [List.length_reverse] at hv9
        subst hv9
        have hst := HST.out W9 _ hE9 hO9
        have HS9 := Lib.hid hst
        have hco9 := hE9.keep hco
        have hf9 : W9.frozen? ⟨gi, k * 3, none⟩ = false := (hx9.trans (Ext.refl _)).frozenK hE9 hf0 HGL.out
        clear ho9 hO9 hst HT9 hco
        go_wp2_with fail
        refine ⟨.inr (hx9.mono hzd), ?_⟩
        (refine wpPlay_calc rfl (fun K hK => ?_); go_simp; first | (refine hK _ ?_; clear hK K) | (refine ⟨_, fun _ => rfl, hK _ ?_⟩; clear hK K))
        (refine wpPlay_calc rfl (fun K hK => ?_); go_simp; first | (refine hK _ ?_; clear hK K) | (refine ⟨_, fun _ => rfl, hK _ ?_⟩; clear hK K))
        refine wpPlay_go rfl rfl (fun K hK => ?_)
        go_wp2_with fail
        refine ⟨.inl (by decide), ?_⟩
        refine wpPlay_nil ?_
        go_wp2_with fail
        go_roundg (gk-1)
        case measure => omega
        case rel => exact ⟨k+1, _, by omega, by omega, by go_num, HS9.out⟩
      · have hkl : k = l.i.length := by omega
        subst hkl
        rw [revI_all] at hS
        have HS := Lib.hid hS
        have c1 := hS.o.cell (i := 1) rfl
        clear hS
        go_wp2_with fail
        clear c1
        go_loopg [7] l.f.length (fun z jj wr => ∃ a : Nat, a ≤ l.f.length ∧ l.f.length ≤ a + z ∧ jj = .int .i64 a ∧ ∃ us, FSt wA wr w2.heap.size (.slice (some ⟨gi, 0, none⟩) l.i.length ci2) (.slice (some ⟨gf, 0, none⟩) l.f.length cf2) ⟨l.i.map revX, tTo l.f a⟩ us vs)
        case atStart => exact ⟨0, by omega, by omega, rfl, us, by rw [tTo_zero]; exact HS.out⟩
        case round =>
          clear HS hX
          obtain ⟨a, ha, haz, rfl, us, hS⟩ := hrel
          obtain ⟨g1, rfl⟩ : ∃ g : Nat, g = gk := ⟨_, rfl⟩
          have hX := hS.x
          have d1 := hS.o.cell (i := 1) rfl
          have HS := Lib.hid hS
          by_cases hlt : a < l.f.length
          · have haI : (a : Int) < (l.f.length : Int) := by omega
            have hza := tTo_at hlt
            have hzl : a < (tTo l.f a).length := by rw [tTo_len (by omega)]; exact hlt
            have hr4 := HRL.out a hlt
            obtain ⟨g, cg, hcell, hcg, hmg, hgB, hvs, hou⟩ := hS.l.spotF2 (a := a) hzl (by show 0 < ((tTo l.f a)[a]?.getD []).length; rw [hza, hr4]; omega)
            rw [show (Lex.mk (l.i.map revX) (tTo l.f a)).f[a]?.getD [] = l.f[a]?.getD [] from hza, hr4] at hcell hcg
            clear hou hvs hS hza
            go_wp2_with fail
            clear d1 hcell
            go_loopg [8] 4 (fun z ii wr => ∃ b : Nat, b ≤ 4 ∧ 4 ≤ b + z ∧ ii = .int .i64 b ∧ FSt wA wr w2.heap.size (.slice (some ⟨gi, 0, none⟩) l.i.length ci2) (.slice (some ⟨gf, 0, none⟩) l.f.length cf2) ⟨l.i.map revX, (tTo l.f a).set a (tPart l.f a b)⟩ us vs)
            case atStart =>
              refine ⟨0, by omega, by omega, rfl, ?_⟩
              have e : (tTo l.f a).set a (tPart l.f a 0) = tTo l.f a := by
                apply set_self
                have h1 := tTo_at hlt
                rw [List.getElem?_eq_getElem hzl, Option.getD_some] at h1
                rw [List.getElem?_eq_getElem hzl, h1, tPart_zero]
              rw [e]; exact HS.out
            case round =>
              clear HS hX
              obtain ⟨b, hb, hbz, rfl, hS⟩ := hrel
              have hX := hS.x
              have e1 : (Lex.mk (l.i.map revX) ((tTo l.f a).set a (tPart l.f a b))).f[a]?.getD [] = tPart l.f a b := by
                show ((tTo l.f a).set a _)[a]?.getD [] = _
                rw [List.getElem?_set_self hzl]; rfl
              have e2 : (tPart l.f a b).length = 4 := by rw [tPart_len (by omega)]; exact hr4
              obtain ⟨g2, cg2, hcell, hcg2, hmg2, hgB2, hvs, hou⟩ := hS.l.spotF2 (a := a) (by show a < ((tTo l.f a).set a _).length; rw [List.length_set]; exact hzl) (by rw [e1, e2]; omega)
              have d1 := hS.o.cell (i := 1) rfl
              by_cases hb4 : b < 4
              · have hbl : b < l.f.length := by have := HF4.out; omega
                obtain ⟨bf, of, rfl, uf, hcf, huf⟩ := HF.out b hbl
                replace hcf := hX.keep hcf
                obtain ⟨auf, cuf, hufv, _, _, HUF⟩ := huf.open_
                have hrb := HRL.out b hbl
                have ha4 : a < 4 := by have := HF4.out; omega
                obtain ⟨bu, ou, rfl, hcu⟩ := HUF.out a (by rw [hrb]; exact ha4)
                subst hufv
                rw [hrb] at hcf
                replace hcu := hX.keep hcu
                have hst := hS.setF (a := a) (i := b) hvs hgB2 (by rw [e1, e2]; exact hb4) ((l.f[b]?.getD [])[a]?.getD 0)
                rw [e1] at hst
                have e3 : (Lex.mk (l.i.map revX) ((tTo l.f a).set a (tPart l.f a b))).f.set a ((tPart l.f a b).set b ((l.f[b]?.getD [])[a]?.getD 0)) = (tTo l.f a).set a (tPart l.f a (b + 1)) := by
                  show ((tTo l.f a).set a _).set a _ = _
                  rw [List.set_set, tPart_next (by omega)]
                rw [e3] at hst
                obtain ⟨hc, hf⟩ := hou.spot2 (i := b) (by rw [e1, e2]; exact hb4)
                rw [e1, e2] at hcell hcg2
                have HXN0 : (tPart l.f a b).set b ((l.f[b]?.getD [])[a]?.getD 0) = tPart l.f a (b + 1) := tPart_next (by omega)
                generalize (l.f[b]?.getD [])[a]?.getD 0 = x at *
                have HXN := Lib.hid HXN0; clear HXN0
                have hbI : (b : Int) < (l.f.length : Int) := by omega
                have hbJ : (b : Int) < 4 := by omega
                have haJ : (a : Int) < 4 := by omega
                have hs : ∀ s : Later wr, Ext wA s.w := fun s => hX.trans s.ext
                have q0 := fun s : Later wr => s.ext.keep d1
                have q1 := fun s : Later wr => s.ext.keep hcell
                have q2 := fun s : Later wr => s.ext.keep hcf
                have q3 := fun s : Later wr => s.ext.keep hcu
                have HSS := Lib.hid hS
                have HVS := Lib.hid hvs
                clear hou hS e3 hst huf HUF hr4 hrb hvs
                go_wp2_with fail
                refine wp_region_later_tail 15 (by kernel_rfl) (by kernel_rfl) ?_
                simp only [List.take_succ_cons, List.take_zero, List.drop_succ_cons, List.drop_zero]
                repeat (go_big_quiet_step (fail))
                refine wpQuiet_nil ?_
                intro w6 hw'
                obtain ⟨⟨_, hx6⟩, rfl⟩ := hw'
                clear q0 q1 q2 q3 hs d1 hcell hcf hcu
                have hc6 := hx6.keep hc
                have hst6 := (HSS.out.ext hx6).setF (a := a) (i := b) HVS.out hgB2 (by rw [e1, e2]; exact hb4) x
                rw [e1] at hst6
                have hf6 : w6.frozen? ⟨g2, b, none⟩ = false := ((HSS.out.ext hx6).l.wf.2 a _ HVS.out).spot2 (i := b) (by show b < ((Lex.mk (l.i.map revX) ((tTo l.f a).set a (tPart l.f a b))).f[a]?.getD []).length; rw [e1, e2]; exact hb4) |>.2
                have e3 : (Lex.mk (l.i.map revX) ((tTo l.f a).set a (tPart l.f a b))).f.set a ((tPart l.f a b).set b x) = (tTo l.f a).set a ((tPart l.f a b).set b x) := by
                  show ((tTo l.f a).set a _).set a _ = _
                  rw [List.set_set]
                rw [e3] at hst6
                have HST := Lib.hid hst6
                clear hst6 e1 e2 e3 hc hf
                go_wp2_with fail
                go_roundg (gk-1)
                case measure => omega
                case rel => exact ⟨b+1, by omega, by omega, by go_num, by rw [← HXN.out]; exact HST.out⟩
              · have hb4' : b = 4 := by omega
                subst hb4'
                have e3 : (tTo l.f a).set a (tPart l.f a 4) = tTo l.f (a + 1) := by
                  rw [← tTo_next hlt, ← hr4, tPart_all]
                rw [e1, e2] at hcell
                rw [e3] at hS
                have HS := Lib.hid hS
                clear hou hvs hS e1 e2 e3 hr4 hcg2
                go_wp2_with fail
                go_roundg (g1-1)
                case measure => omega
                case rel => exact ⟨a+1, by omega, by omega, by go_num, us, HS.out⟩
          · have hal : a = l.f.length := by omega
            subst hal
            rw [tTo_all] at HS
            have d0 := HS.out.o.cell (i := 0) rfl
            have HO := Lib.hid HS.out.l
            clear hS
            have hrb := HB0.out.ext (hX)
            have hrz : w.heap.size ≤ wA.heap.size := hE0.size
            have r0 := hrb.cell (i := 0) rfl
            have r1 := hrb.cell (i := 1) rfl
            have rf0 := hrb.frozen 0
            have rf1 := hrb.frozen 1
            have hr2 : Blk ((wr.setCell ⟨w.heap.size + 1, 0, none⟩ (.slice (some ⟨gi, 0, none⟩) l.i.length ci2)).setCell ⟨w.heap.size + 1, 1, none⟩ (.slice (some ⟨gf, 0, none⟩) l.f.length cf2)) (w.heap.size + 1) 25 [(.slice (some ⟨gi, 0, none⟩) l.i.length ci2), (.slice (some ⟨gf, 0, none⟩) l.f.length cf2)] := by have := (hrb.set 0 (.slice (some ⟨gi, 0, none⟩) l.i.length ci2)).set 1 (.slice (some ⟨gf, 0, none⟩) l.f.length cf2); exact this
            have e0 := hr2.cell (i := 0) rfl
            have e1 := hr2.cell (i := 1) rfl
            have hO1 := (HO.out).keptN (grownBy_set wr (w.heap.size + 1) 0 (.slice (some ⟨gi, 0, none⟩) l.i.length ci2)) hrb ⟨by decide, by decide, by decide⟩
            have hO2 := hO1.keptN (grownBy_set _ (w.heap.size + 1) 1 (.slice (some ⟨gf, 0, none⟩) l.f.length cf2)) (by have := hrb.set 0 (.slice (some ⟨gi, 0, none⟩) l.i.length ci2); exact this) ⟨by decide, by decide, by decide⟩
            have HOL := Lib.hid (OLex.low ⟨_, _, hO2⟩ hrz)
            have HXE := Lib.hid (((hE0.trans (hX)).setCell (by omega : w.heap.size ≤ w.heap.size + 1) 0 (.slice (some ⟨gi, 0, none⟩) l.i.length ci2)).setCell (by omega : w.heap.size ≤ w.heap.size + 1) 1 (.slice (some ⟨gf, 0, none⟩) l.f.length cf2))
            clear hr2 hO1 hO2 hrb
            go_wp2_with fail
            refine bodyPost_ret (v := .tuple #[.agg #[(.slice (some ⟨gi, 0, none⟩) l.i.length ci2), (.slice (some ⟨gf, 0, none⟩) l.f.length cf2)], .int .i64 0]) (by simp [results, Try.results47, go_sem, e0, e1]) rfl ?_
            exact ⟨_, _, rfl, HOL.out, HXE.out⟩
  · have HFE : Hid (backL l = ⟨[], []⟩) := Lib.hid (by unfold backL; rw [if_neg h0])
    rw [HFE.out]
    generalize validL l = k at *
    have hk : (k != 0) = true := by simpa using h0
    clear h0
    go_enter Try.func47, Try.ntmps47
    go_wp2_with fail
    rw [← HWW.out]
    refine HV.out.mono ?_; rintro e w1 ⟨rfl, hx1⟩
    have hrb := HB0.out.ext (hx1)
    have hrz : w.heap.size ≤ wA.heap.size := hE0.size
    have r0 := hrb.cell (i := 0) rfl
    have r1 := hrb.cell (i := 1) rfl
    have rf0 := hrb.frozen 0
    have rf1 := hrb.frozen 1
    have hr2 : Blk ((w1.setCell ⟨w.heap.size + 1, 0, none⟩ (.slice none 0 0)).setCell ⟨w.heap.size + 1, 1, none⟩ (.slice none 0 0)) (w.heap.size + 1) 25 [(.slice none 0 0), (.slice none 0 0)] := by have := (hrb.set 0 (.slice none 0 0)).set 1 (.slice none 0 0); exact this
    have e0 := hr2.cell (i := 0) rfl
    have e1 := hr2.cell (i := 1) rfl
    have hO1 := (OLexP.nil w1 wA.heap.size).keptN (grownBy_set w1 (w.heap.size + 1) 0 (.slice none 0 0)) hrb ⟨by decide, by decide, by decide⟩
    have hO2 := hO1.keptN (grownBy_set _ (w.heap.size + 1) 1 (.slice none 0 0)) (by have := hrb.set 0 (.slice none 0 0); exact this) ⟨by decide, by decide, by decide⟩
    have HOL := Lib.hid (OLex.low ⟨_, _, hO2⟩ hrz)
    have HXE := Lib.hid (((hE0.trans (hx1)).setCell (by omega : w.heap.size ≤ w.heap.size + 1) 0 (.slice none 0 0)).setCell (by omega : w.heap.size ≤ w.heap.size + 1) 1 (.slice none 0 0))
    clear hr2 hO1 hO2 hrb
    go_wp2_with fail
    refine bodyPost_ret (v := .tuple #[.agg #[(.slice none 0 0), (.slice none 0 0)], .int .i64 k]) (by simp [results, Try.results47, go_sem, e0, e1]) rfl ?_
    exact ⟨_, _, rfl, HOL.out, HXE.out⟩
/-! A lexicon of one's own, whose parts are overwritten. -/
/-- the state, with the lexicon and its blocks -/
structure WSt (W4 wr : World) (G gi n ci gf m cf : Nat) (l : Lex) (us vs : List Value) : Prop where
  s : FSt W4 wr G (.slice (some ⟨gi, 0, none⟩) n ci) (.slice (some ⟨gf, 0, none⟩) m cf) l us vs
  hn : l.i.length = n
  hm : l.f.length = m
  g : W4.heap.size ≤ gi
  w : ∀ j, j < n → 1 ≤ (itm l.i j).w.length ∧ (itm l.i j).w.length ≤ 1000
  f : ∀ a, a < m → (l.f[a]?.getD []).length = 4
def WS (W4 wr : World) (G gi n ci gf m cf : Nat) : Prop := ∃ l us vs, WSt W4 wr G gi n ci gf m cf l us vs
/-- the same, with the word of item j -/
def WSI (W4 wr : World) (G gi n ci gf m cf j q g cg : Nat) : Prop := ∃ l us vs, WSt W4 wr G gi n ci gf m cf l us vs ∧ j < n ∧ (itm l.i j).w.length = q ∧ us[j]? = some (.slice (some ⟨g, 0, none⟩) q cg) ∧ W4.heap.size ≤ g
def WSF (W4 wr : World) (G gi n ci gf m cf a g cg : Nat) : Prop := ∃ l us vs, WSt W4 wr G gi n ci gf m cf l us vs ∧ a < m ∧ vs[a]? = some (.slice (some ⟨g, 0, none⟩) 4 cg) ∧ W4.heap.size ≤ g
section
variable {W4 wr w' : World} {G gi n ci gf m cf j q g cg k a : Nat}
theorem WS.x (h : WS W4 wr G gi n ci gf m cf) : Ext W4 wr := by obtain ⟨l, us, vs, h⟩ := h; exact h.s.x
theorem WS.ext (h : WS W4 wr G gi n ci gf m cf) (hx : Ext wr w') : WS W4 w' G gi n ci gf m cf := by obtain ⟨l, us, vs, h⟩ := h; exact ⟨l, us, vs, h.s.ext hx, h.hn, h.hm, h.g, h.w, h.f⟩
theorem WS.box (h : WS W4 wr G gi n ci gf m cf) : wr.cell? ⟨G, 0, none⟩ = some (.slice (some ⟨gi, 0, none⟩) n ci) ∧ wr.cell? ⟨G, 1, none⟩ = some (.slice (some ⟨gf, 0, none⟩) m cf) := by
  obtain ⟨l, us, vs, h⟩ := h
  exact ⟨h.s.o.cell (i := 0) rfl, h.s.o.cell (i := 1) rfl⟩
theorem WS.costAt (h : WS W4 wr G gi n ci gf m cf) (hj : j < n) : (∃ c, wr.cell? ⟨gi, j * 3 + 2, none⟩ = some (.int .i64 c)) ∧ wr.frozen? ⟨gi, j * 3 + 2, none⟩ = false ∧ ∀ c, WS W4 (wr.setCell ⟨gi, j * 3 + 2, none⟩ (.int .i64 c)) G gi n ci gf m cf := by
  obtain ⟨l, us, vs, h⟩ := h
  obtain ⟨hs, rfl, rfl, hg, hw, hf⟩ := h
  obtain ⟨u, h1, h2, h3, h4, h5, h6⟩ := hs.l.spotI2 hj
  refine ⟨⟨_, h5⟩, h6 _, fun c => ?_⟩
  have h7 := hs.setC hj hg c
  have e : (l.i.set j ⟨(itm l.i j).w, (itm l.i j).k, c⟩).length = l.i.length := List.length_set
  refine ⟨_, us, vs, h7, e, rfl, hg, fun i hi => ?_, hf⟩
  by_cases hij : j = i
  · subst hij
    show 1 ≤ (itm (l.i.set j _) j).w.length ∧ _
    rw [show itm (l.i.set j ⟨(itm l.i j).w, (itm l.i j).k, c⟩) j = ⟨(itm l.i j).w, (itm l.i j).k, c⟩ by unfold itm; rw [List.getElem?_set_self hj]; rfl]
    exact hw j hj
  · show 1 ≤ (itm (l.i.set j _) i).w.length ∧ _
    rw [show itm (l.i.set j ⟨(itm l.i j).w, (itm l.i j).k, c⟩) i = itm l.i i by unfold itm; rw [List.getElem?_set_ne hij]]
    exact hw i hi
theorem WS.word (h : WS W4 wr G gi n ci gf m cf) (hj : j < n) : ∃ q g cg, WSI W4 wr G gi n ci gf m cf j q g cg ∧ 1 ≤ q ∧ q ≤ 1000 ∧ q ≤ cg ∧ cg ≤ 9223372036854775807 := by
  obtain ⟨l, us, vs, h⟩ := h
  have h0 := h
  obtain ⟨hs, rfl, rfl, hg, hw, hf⟩ := h
  obtain ⟨u, h1, h2, h3, h4, h5, h6⟩ := hs.l.spotI2 hj
  obtain ⟨h7, h8⟩ := hw j hj
  obtain ⟨g, cg, rfl, h9, h10, h11, _⟩ := h2.spot (i := 0) (by omega)
  exact ⟨_, g, cg, ⟨l, us, vs, h0, hj, rfl, h1, h11⟩, h7, h8, h9, h10⟩
theorem WSI.ws (h : WSI W4 wr G gi n ci gf m cf j q g cg) : WS W4 wr G gi n ci gf m cf := by obtain ⟨l, us, vs, h, _⟩ := h; exact ⟨l, us, vs, h⟩
theorem WSI.at_ (h : WSI W4 wr G gi n ci gf m cf j q g cg) : wr.cell? ⟨gi, j * 3, none⟩ = some (.slice (some ⟨g, 0, none⟩) q cg) := by
  obtain ⟨l, us, vs, ⟨hs, rfl, rfl, hg, hw, hf⟩, hj, hq, hu, hgB⟩ := h
  obtain ⟨u, h1, h2, h3, _⟩ := hs.l.spotI2 hj
  rw [hu] at h1
  rw [h3, ← h1]
theorem WSI.put (h : WSI W4 wr G gi n ci gf m cf j q g cg) (hk : k < q) : (∃ c, wr.cell? ⟨g, k, none⟩ = some (.int .i64 c)) ∧ wr.frozen? ⟨g, k, none⟩ = false ∧ ∀ c, WSI W4 (wr.setCell ⟨g, k, none⟩ (.int .i64 c)) G gi n ci gf m cf j q g cg := by
  obtain ⟨l, us, vs, ⟨hs, rfl, rfl, hg, hw, hf⟩, hj, rfl, hu, hgB⟩ := h
  have hou := hs.l.wi.2 j _ hu
  rw [wsI_at] at hou
  obtain ⟨h1, h2⟩ := hou.spot2 hk
  refine ⟨⟨_, h1⟩, h2, fun c => ?_⟩
  have hgr := grownBy_set wr g k (.int .i64 c)
  have ha := OInts.setAt (x := c) hou hk
  have h3 : FSt W4 (wr.setCell ⟨g, k, none⟩ (.int .i64 c)) G (.slice (some ⟨gi, 0, none⟩) l.i.length ci) (.slice (some ⟨gf, 0, none⟩) l.f.length cf) ⟨l.i.set j ⟨(itm l.i j).w.set k c, (itm l.i j).k, (itm l.i j).c⟩, l.f⟩ us vs :=
    ⟨hs.x.setCell hgB _ _, hs.o.kept hgr (fun e1 => by injection e1 with e1; exact (hs.o.notInt hou rfl) e1.symm), hs.l.updI hu rfl hgr ha⟩
  have e1 : itm (l.i.set j ⟨(itm l.i j).w.set k c, (itm l.i j).k, (itm l.i j).c⟩) j = ⟨(itm l.i j).w.set k c, (itm l.i j).k, (itm l.i j).c⟩ := by unfold itm; rw [List.getElem?_set_self hj]; rfl
  refine ⟨_, us, vs, ⟨h3, List.length_set, rfl, hg, fun i hi => ?_, hf⟩, hj, ?_, hu, hgB⟩
  · by_cases hij : j = i
    · subst hij
      show 1 ≤ (itm (l.i.set j _) j).w.length ∧ (itm (l.i.set j _) j).w.length ≤ 1000
      rw [e1]; show 1 ≤ ((itm l.i j).w.set k c).length ∧ ((itm l.i j).w.set k c).length ≤ 1000
      rw [List.length_set]; exact hw j hj
    · show 1 ≤ (itm (l.i.set j _) i).w.length ∧ _
      rw [show itm (l.i.set j ⟨(itm l.i j).w.set k c, (itm l.i j).k, (itm l.i j).c⟩) i = itm l.i i by unfold itm; rw [List.getElem?_set_ne hij]]
      exact hw i hi
  · show (itm (l.i.set j _) j).w.length = _
    rw [e1]; exact List.length_set
theorem WS.row (h : WS W4 wr G gi n ci gf m cf) (ha : a < m) : ∃ g cg, WSF W4 wr G gi n ci gf m cf a g cg ∧ 4 ≤ cg ∧ cg ≤ 9223372036854775807 := by
  obtain ⟨l, us, vs, h⟩ := h
  have h0 := h
  obtain ⟨hs, rfl, rfl, hg, hw, hf⟩ := h
  have h4 := hf a ha
  obtain ⟨g, cg, h1, h2, h3, h5, h6, _⟩ := hs.l.spotF2 ha (by omega)
  rw [h4] at h6 h2
  exact ⟨g, cg, ⟨l, us, vs, h0, ha, h6, h5⟩, h2, h3⟩
theorem WSF.ws (h : WSF W4 wr G gi n ci gf m cf a g cg) : WS W4 wr G gi n ci gf m cf := by obtain ⟨l, us, vs, h, _⟩ := h; exact ⟨l, us, vs, h⟩
theorem WSF.at_ (h : WSF W4 wr G gi n ci gf m cf a g cg) : wr.cell? ⟨gf, a, none⟩ = some (.slice (some ⟨g, 0, none⟩) 4 cg) := by
  obtain ⟨l, us, vs, ⟨hs, rfl, rfl, hg, hw, hf⟩, ha, hu, hgB⟩ := h
  obtain ⟨g', cg', h1, h2, h3, h5, h6, _⟩ := hs.l.spotF2 ha (by have := hf a ha; omega)
  rw [hu] at h6
  rw [h1, ← h6]
theorem WSF.put (h : WSF W4 wr G gi n ci gf m cf a g cg) (hk : k < 4) : (∃ c, wr.cell? ⟨g, k, none⟩ = some (.int .i64 c)) ∧ wr.frozen? ⟨g, k, none⟩ = false ∧ ∀ c, WSF W4 (wr.setCell ⟨g, k, none⟩ (.int .i64 c)) G gi n ci gf m cf a g cg := by
  obtain ⟨l, us, vs, ⟨hs, rfl, rfl, hg, hw, hf⟩, ha, hu, hgB⟩ := h
  have h4 := hf a ha
  have hu2 := hu
  rw [← h4] at hu2
  have hou := hs.l.wf.2 a _ hu2
  obtain ⟨h1, h2⟩ := hou.spot2 (i := k) (by omega)
  refine ⟨⟨_, h1⟩, h2, fun c => ?_⟩
  have h3 := hs.setF hu2 hgB (by omega : k < _) c
  refine ⟨_, us, vs, ⟨h3, rfl, List.length_set, hg, hw, fun b hb => ?_⟩, ha, hu, hgB⟩
  show ((l.f.set a _)[b]?.getD []).length = 4
  by_cases hab : a = b
  · subst hab
    rw [List.getElem?_set_self ha]; show (List.set _ _ _).length = 4; rw [List.length_set]; exact h4
  · rw [List.getElem?_set_ne hab]; exact hf b hb
end
end Go.Proofs.Ytgpggmcjggpmpaa
