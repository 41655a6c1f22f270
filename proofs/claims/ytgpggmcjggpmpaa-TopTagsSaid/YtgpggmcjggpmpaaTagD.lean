/- Items of a lexicon: which numbers are items, their words, what may follow; both packages. -/
import Derived.Test.YtgpggmcjggpmpaaTagA
namespace Go.Proofs.Ytgpggmcjggpmpaa
open Go.RowKit Go.Shelf
set_option linter.unusedVariables false

theorem take_next {α : Type} {l : List α} {k : Nat} (h : k < l.length) (d : α) : l.take (k + 1) = l.take k ++ [l[k]?.getD d] := by
  rw [List.take_succ_eq_append_getElem h]; simp [h]
theorem wordsL_next {l : Lex} {s : List Int} {k : Nat} (h : k < s.length) : wordsL l (s.take (k + 1)) = wordsL l (s.take k) ++ wrd l (s[k]?.getD 0) := by
  rw [take_next h 0, wordsL_snoc]
theorem inN_at {l : Lex} {s : List Int} (h : allIn l s) {k : Nat} (hk : k < s.length) : ∃ x : Nat, s[k]?.getD 0 = (x : Int) ∧ x < l.i.length := by
  have h1 := h (s[k]?.getD 0) (by rw [List.getElem?_eq_getElem hk]; exact List.getElem_mem hk)
  exact ⟨(s[k]?.getD 0).toNat, by have := h1.1; omega, by have := h1.1; have : s[k]?.getD 0 < (l.n : Int) := h1.2; show _ < l.n; omega⟩
theorem wrd_len {l : Lex} (h : LexOk l) {x : Nat} (hx : x < l.n) : (wrd l (x : Int)).length ≤ 6 := (h.wo x hx).2
theorem words_max {l : Lex} (h : LexOk l) : ∀ {s : List Int}, allIn l s → (wordsL l s).length ≤ 6 * s.length
  | [], _ => by simp [wordsL]
  | x :: s, hs => by
    have h1 := hs x (by simp)
    have h2 := words_max h (s := s) (fun y hy => hs y (by simp [hy]))
    obtain ⟨j, rfl⟩ : ∃ j : Nat, x = j := ⟨x.toNat, by have := h1.1; omega⟩
    have h3 := wrd_len h (x := j) (by have : ((j : Int)) < (l.n : Int) := h1.2; omega)
    rw [wordsL_cons]; simp; omega
theorem take_allIn {l : Lex} {s : List Int} (h : allIn l s) (k : Nat) : allIn l (s.take k) := fun x hx => h x (List.mem_of_mem_take hx)
/-! ## numbers of items -/
theorem areItems1_c (b : Nat) (n : Int) (L : Nat) (iv : Value) (w : World) (a : Option Addr) (c : Nat) (hiv : iv = .slice a L c) (hL : L ≤ 9223372036854775807) (hc : w.cell? ⟨b, 0, none⟩ = some iv) :
    Calls Try.prog 98 #[.int .i64 n, .pointer (some ⟨b, 0, none⟩)] w (RP (.bool (!inB n 0 ((L : Int) - 1))) w) := by
  subst hiv
  have hw1 : IntKind.i64.wrap ((L : Int) - 1) = (L : Int) - 1 := IntWalk.i64_in _ (by omega)
  go_enter Try.func98, Try.ntmps98
  go_wp2_with fail
  refine (within_c _ _ _ _).mono ?_; rintro e w1 ⟨rfl, rfl⟩
  go_wp2_with fail
  go_ret
  exact RP.bool rfl
theorem areItems_c (iv fv sv : Value) (l : Lex) (s : List Int) (w : World) (h : LexR w iv fv l) (hs : Ints w sv s) : Calls Try.prog 66 #[.agg #[iv, fv], sv] w (RV (.bool (areB l s)) w) := by
  obtain ⟨wA, hwA⟩ : ∃ wA, wA = w.alloc (.cells #[iv, fv] 25) := ⟨_, rfl⟩
  have hE0 : Ext w wA := by rw [hwA]; exact Ext.alloc _ _
  have k0 : ∀ W, Ext wA W → W.cell? ⟨w.heap.size, 0, none⟩ = some iv := by rw [hwA]; exact kept_alloc w _ _ rfl
  have k1 : ∀ W, Ext wA W → W.cell? ⟨w.heap.size, 1, none⟩ = some fv := by rw [hwA]; exact kept_alloc w _ _ rfl
  have H0 : Ext wA wA := Ext.refl _
  have HR := Lib.hid (h.ext hE0)
  obtain ⟨ai, ci, rfl, hli, hmi, HI⟩ := (h.ext hE0).i.open_
  obtain ⟨af, cf, rfl, hlf, hmf, HF⟩ := Rows.open_ (h.ext hE0).f
  have HS := Lib.hid (hs.ext hE0)
  have HC := Lib.hid (containsFunc_c sv s 98 #[.pointer (some ⟨w.heap.size, 0, none⟩)] (fun n => !inB n 0 ((l.i.length : Int) - 1)) wA (enters_of Try.func98 (by kernel_rfl) rfl)
    (fun W i hW _ => (areItems1_c w.heap.size _ l.i.length _ W ai ci rfl (by omega) (k0 W hW)).mono fun _ _ h => h.rv) HS.out)
  have he : (!areB l s) = ((List.range s.length).any fun i => !inB (s[i]?.getD 0) 0 ((l.i.length : Int) - 1)) := (any_not s (fun x => inB x 0 ((l.i.length : Int) - 1))).symm
  rw [← he] at HC
  have hmf : ∀ (fn : Fn) (first cap : Array Value) (w : World), (Instr.makeFunc fn first cap).run Try.prog w = .ok (.func fn first cap) w := fun _ _ _ _ => rfl
  have HW := Lib.hid hwA; clear hwA h hs he
  generalize areB l s = b at *
  go_enter Try.func66, Try.ntmps66
  go_wp2_with fail
  rw [← HW.out]
  refine HC.out.mono ?_; rintro e w1 ⟨rfl, hx1⟩
  go_wp2_with fail
  go_ret
  exact RV.bool (by simp) (hE0.trans hx1)
set_option maxHeartbeats 1000000 in
theorem items_c (iv fv sv : Value) (l : Lex) (s : List Int) (w : World) (h : LexR w iv fv l) (hs : Ints w sv s) : Calls Try.prog 75 #[.agg #[iv, fv], sv] w (RV (.bool (areB l s)) w) := by
  obtain ⟨wA, hwA⟩ : ∃ wA, wA = w.alloc (.cells #[iv, fv] 25) := ⟨_, rfl⟩
  have hE0 : Ext w wA := by rw [hwA]; exact Ext.alloc _ _
  have k0 : ∀ W, Ext wA W → W.cell? ⟨w.heap.size, 0, none⟩ = some iv := by rw [hwA]; exact kept_alloc w _ _ rfl
  have k1 : ∀ W, Ext wA W → W.cell? ⟨w.heap.size, 1, none⟩ = some fv := by rw [hwA]; exact kept_alloc w _ _ rfl
  have H0 : Ext wA wA := Ext.refl _
  have HR := Lib.hid (h.ext hE0)
  obtain ⟨ai, ci, rfl, hli, hmi, HI⟩ := (h.ext hE0).i.open_
  obtain ⟨af, cf, rfl, hlf, hmf, HF⟩ := Rows.open_ (h.ext hE0).f
  obtain ⟨as_, cs, rfl, hls, hms, HS⟩ := (hs.ext hE0).open_
  have HW := Lib.hid hwA; clear hwA h hs
  have HB : Hid (areB l s = allB s.length fun i => inB (s[i]?.getD 0) 0 ((l.i.length : Int) - 1)) := Lib.hid rfl
  go_enter Try.func75, Try.ntmps75
  go_wp2_with fail
  rw [← HW.out]
  go_loopg [5] s.length (fun m i wr => ∃ k : Nat, k ≤ s.length ∧ s.length ≤ k + m ∧ i = .int .i64 k ∧ Ext wA wr ∧ Hid (∀ j, j < k → inB (s[j]?.getD 0) 0 ((l.i.length : Int) - 1) = true))
  case atStart => exact ⟨0, by omega, by omega, rfl, H0, fun j hj => by omega⟩
  case round =>
    obtain ⟨k, hk, hk2, rfl, hX, hE⟩ := hrel
    by_cases hlt : k < s.length
    · obtain ⟨bs, os, rfl, hcs⟩ := HS.out k hlt
      have q0 := fun t : Later wr => (hX.trans t.ext).keep hcs
      have hs1 : ∀ t : Later wr, Ext wA t.w := fun t => hX.trans t.ext
      have HC := Lib.hid (fun t : Later wr => (rwithin_c (s[k]?.getD 0) 0 ((l.i.length : Int) - 1) t.w).mono fun _ _ h => h.rv)
      generalize hy : s[k]?.getD 0 = y at *
      have HY := Lib.hid hy; clear hy hcs
      generalize hb : inB y 0 ((l.i.length : Int) - 1) = b at *
      have HBB := Lib.hid hb; clear hb
      have hw1 : IntKind.i64.wrap ((l.i.length : Int) - 1) = (l.i.length : Int) - 1 := IntWalk.i64_in _ (by omega)
      cases b
      · go_wp2_with fail
        refine wp_region_later (by kernel_rfl) (by kernel_rfl) ?_
        repeat (go_big_quiet_step ((first | (go_at_call 81; first | with_reducible exact Later.call (HC.out _)))))
        refine wpQuiet_nil ?_
        intro w5 hw'
        obtain ⟨⟨_, hx5⟩, rfl⟩ := hw'
        clear q0 hs1 hw1
        go_wp2_with fail
        go_ret
        exact RV.bool (by rw [HB.out, allB_false hlt (by rw [HY.out]; exact HBB.out)]) (hE0.trans (hX.trans hx5))
      · go_wp2_with fail
        refine wp_region_later (by kernel_rfl) (by kernel_rfl) ?_
        repeat (go_big_quiet_step ((first | (go_at_call 81; first | with_reducible exact Later.call (HC.out _)))))
        refine wpQuiet_nil ?_
        intro w5 hw'
        obtain ⟨⟨_, hx5⟩, rfl⟩ := hw'
        clear q0 hs1 hw1
        go_wp2_with fail
        go_roundg (gk-1)
        case measure => omega
        case rel => exact ⟨k+1, by omega, by omega, by go_num, hX.trans hx5, range_step hE.out (by rw [HY.out]; exact HBB.out)⟩
    · go_wp2_with fail
      go_ret
      exact RV.bool (by rw [HB.out, allB_true (fun j hj => hE.out j (by omega))]) (hE0.trans hX)
/-! ## what may follow -/
set_option maxHeartbeats 1000000 in
theorem follows_c (iv fv : Value) (l : Lex) (a b : Nat) (w : World) (h : LexR w iv fv l) (hl : LexOk l) (ha : a < l.i.length) (hb : b < l.i.length) : Calls Try.prog 60 #[.agg #[iv, fv], .int .i64 (a : Int), .int .i64 (b : Int)] w (RV (.int .i64 (fol l a b)) w) := by
  obtain ⟨wA, hwA⟩ : ∃ wA, wA = w.alloc (.cells #[iv, fv] 25) := ⟨_, rfl⟩
  have hE0 : Ext w wA := by rw [hwA]; exact Ext.alloc _ _
  have k0 : ∀ W, Ext wA W → W.cell? ⟨w.heap.size, 0, none⟩ = some iv := by rw [hwA]; exact kept_alloc w _ _ rfl
  have k1 : ∀ W, Ext wA W → W.cell? ⟨w.heap.size, 1, none⟩ = some fv := by rw [hwA]; exact kept_alloc w _ _ rfl
  have H0 : Ext wA wA := Ext.refl _
  have HR := Lib.hid (h.ext hE0)
  obtain ⟨ai, ci, rfl, hli, hmi, HI⟩ := (h.ext hE0).i.open_
  obtain ⟨af, cf, rfl, hlf, hmf, HF⟩ := Rows.open_ (h.ext hE0).f
  have HW := Lib.hid hwA; clear hwA h
  obtain ⟨ba, oa, rfl, ua, _, _, hca, _⟩ := HI.out a ha
  obtain ⟨bb, ob, he, ub, _, _, hcb, _⟩ := HI.out b hb
  injection he with he; injection he with he1 he2; subst he1 he2
  have hka := hl.ki a ha
  have hkb := hl.ki b hb
  have HFO : Hid (fol l a b = (l.f[(itm l.i a).k.toNat]?.getD [])[(itm l.i b).k.toNat]?.getD 0) := Lib.hid rfl
  obtain ⟨ka, hka2⟩ : ∃ k : Nat, (itm l.i a).k = (k : Int) := ⟨(itm l.i a).k.toNat, by omega⟩
  obtain ⟨kb, hkb2⟩ : ∃ k : Nat, (itm l.i b).k = (k : Int) := ⟨(itm l.i b).k.toNat, by omega⟩
  rw [hka2, hkb2] at HFO
  rw [hka2] at hca hka
  rw [hkb2] at hcb hkb
  simp only [Int.toNat_natCast] at HFO
  have hf4 := hl.f4
  have hr4 := (hl.ff ka (by omega)).1
  have hkal : ka < l.f.length := by omega
  obtain ⟨bf, of, rfl, uf, hcf, huf⟩ := HF.out ka hkal
  obtain ⟨ar, cr, rfl, _, _, HRW⟩ := huf.open_
  obtain ⟨br, or_, rfl, hcr⟩ := HRW.out kb (by omega)
  have hkbl : kb < (l.f[ka]?.getD []).length := by omega
  generalize l.f[ka]?.getD [] = r at *
  generalize r[kb]?.getD 0 = y at *
  rw [HFO.out]
  have hs : ∀ t : Later wA, Ext wA t.w := fun t => t.ext
  have q0 := fun t : Later wA => t.ext.keep hca
  have q1 := fun t : Later wA => t.ext.keep hcb
  have q2 := fun t : Later wA => t.ext.keep hcf
  have q3 := fun t : Later wA => t.ext.keep hcr
  clear hca hcb hcf hcr huf hka2 hkb2 hl hf4 hr4
  have hkaI : (ka : Int) < (l.f.length : Int) := by omega
  have hkbI : (kb : Int) < (r.length : Int) := by omega
  have haI : (a : Int) < (l.i.length : Int) := by omega
  have hbI : (b : Int) < (l.i.length : Int) := by omega
  go_enter Try.func60, Try.ntmps60
  go_wp2_with fail
  rw [← HW.out]
  refine wp_region_later (by kernel_rfl) (by kernel_rfl) ?_
  repeat (go_big_quiet_step (fail))
  refine wpQuiet_nil ?_
  intro w5 hw'
  obtain ⟨⟨_, hx5⟩, rfl⟩ := hw'
  go_wp2_with fail
  go_ret
  exact RV.int rfl (hE0.trans hx5)
set_option maxHeartbeats 1000000 in
theorem follow_c (iv fv : Value) (l : Lex) (a b : Nat) (w : World) (h : LexR w iv fv l) (hl : LexOk l) (ha : a < l.i.length) (hb : b < l.i.length) : Calls Try.prog 83 #[.agg #[iv, fv], .int .i64 (a : Int), .int .i64 (b : Int)] w (RV (.int .i64 (fol l a b)) w) := by
  obtain ⟨wA, hwA⟩ : ∃ wA, wA = w.alloc (.cells #[iv, fv] 25) := ⟨_, rfl⟩
  have hE0 : Ext w wA := by rw [hwA]; exact Ext.alloc _ _
  have k0 : ∀ W, Ext wA W → W.cell? ⟨w.heap.size, 0, none⟩ = some iv := by rw [hwA]; exact kept_alloc w _ _ rfl
  have k1 : ∀ W, Ext wA W → W.cell? ⟨w.heap.size, 1, none⟩ = some fv := by rw [hwA]; exact kept_alloc w _ _ rfl
  have H0 : Ext wA wA := Ext.refl _
  have HR := Lib.hid (h.ext hE0)
  obtain ⟨ai, ci, rfl, hli, hmi, HI⟩ := (h.ext hE0).i.open_
  obtain ⟨af, cf, rfl, hlf, hmf, HF⟩ := Rows.open_ (h.ext hE0).f
  have HW := Lib.hid hwA; clear hwA h
  obtain ⟨ba, oa, rfl, ua, _, _, hca, _⟩ := HI.out a ha
  obtain ⟨bb, ob, he, ub, _, _, hcb, _⟩ := HI.out b hb
  injection he with he; injection he with he1 he2; subst he1 he2
  have hka := hl.ki a ha
  have hkb := hl.ki b hb
  have HFO : Hid (fol l a b = (l.f[(itm l.i a).k.toNat]?.getD [])[(itm l.i b).k.toNat]?.getD 0) := Lib.hid rfl
  obtain ⟨ka, hka2⟩ : ∃ k : Nat, (itm l.i a).k = (k : Int) := ⟨(itm l.i a).k.toNat, by omega⟩
  obtain ⟨kb, hkb2⟩ : ∃ k : Nat, (itm l.i b).k = (k : Int) := ⟨(itm l.i b).k.toNat, by omega⟩
  rw [hka2, hkb2] at HFO
  rw [hka2] at hca hka
  rw [hkb2] at hcb hkb
  simp only [Int.toNat_natCast] at HFO
  have hf4 := hl.f4
  have hr4 := (hl.ff ka (by omega)).1
  have hkal : ka < l.f.length := by omega
  obtain ⟨bf, of, rfl, uf, hcf, huf⟩ := HF.out ka hkal
  obtain ⟨ar, cr, rfl, _, _, HRW⟩ := huf.open_
  obtain ⟨br, or_, rfl, hcr⟩ := HRW.out kb (by omega)
  have hkbl : kb < (l.f[ka]?.getD []).length := by omega
  generalize l.f[ka]?.getD [] = r at *
  generalize r[kb]?.getD 0 = y at *
  rw [HFO.out]
  have hs : ∀ t : Later wA, Ext wA t.w := fun t => t.ext
  have q0 := fun t : Later wA => t.ext.keep hca
  have q1 := fun t : Later wA => t.ext.keep hcb
  have q2 := fun t : Later wA => t.ext.keep hcf
  have q3 := fun t : Later wA => t.ext.keep hcr
  clear hca hcb hcf hcr huf hka2 hkb2 hl hf4 hr4
  have hkaI : (ka : Int) < (l.f.length : Int) := by omega
  have hkbI : (kb : Int) < (r.length : Int) := by omega
  have haI : (a : Int) < (l.i.length : Int) := by omega
  have hbI : (b : Int) < (l.i.length : Int) := by omega
  go_enter Try.func83, Try.ntmps83
  go_wp2_with fail
  rw [← HW.out]
  refine wp_region_later (by kernel_rfl) (by kernel_rfl) ?_
  repeat (go_big_quiet_step (fail))
  refine wpQuiet_nil ?_
  intro w5 hw'
  obtain ⟨⟨_, hx5⟩, rfl⟩ := hw'
  go_wp2_with fail
  go_ret
  exact RV.int rfl (hE0.trans hx5)
/-! ## words -/
set_option maxHeartbeats 1000000 in
set_option maxRecDepth 100000 in
theorem words_c (iv fv sv : Value) (l : Lex) (s : List Int) (w : World) (h : LexR w iv fv l) (hl : LexOk l) (hs : Ints w sv s) (ha : allIn l s) (hsl : s.length ≤ 1000) : Calls Try.prog 67 #[.agg #[iv, fv], sv] w (ROInts 3 (wordsL l s) w) := by
  obtain ⟨wA, hwA⟩ : ∃ wA, wA = w.alloc (.cells #[iv, fv] 25) := ⟨_, rfl⟩
  have hE0 : Ext w wA := by rw [hwA]; exact Ext.alloc _ _
  have k0 : ∀ W, Ext wA W → W.cell? ⟨w.heap.size, 0, none⟩ = some iv := by rw [hwA]; exact kept_alloc w _ _ rfl
  have k1 : ∀ W, Ext wA W → W.cell? ⟨w.heap.size, 1, none⟩ = some fv := by rw [hwA]; exact kept_alloc w _ _ rfl
  have H0 : Ext wA wA := Ext.refl _
  have HR := Lib.hid (h.ext hE0)
  obtain ⟨ai, ci, rfl, hli, hmi, HI⟩ := (h.ext hE0).i.open_
  obtain ⟨af, cf, rfl, hlf, hmf, HF⟩ := Rows.open_ (h.ext hE0).f
  obtain ⟨as_, cs, rfl, hls, hms, HS⟩ := (hs.ext hE0).open_
  have HW := Lib.hid hwA; clear hwA h hs
  have HA := Lib.hid ha; clear ha
  have HL := Lib.hid hl; clear hl
  have hz0 := hE0.size
  go_enter Try.func67, Try.ntmps67
  go_wp2_with fail
  rw [← HW.out]
  go_loopg [10, 5] s.length (fun m i v wr => ∃ k : Nat, k ≤ s.length ∧ s.length ≤ k + m ∧ i = .int .i64 k ∧ Ext wA wr ∧ OInts 3 wr wA.heap.size v (wordsL l (s.take k)))
  case atStart => exact ⟨0, by omega, by omega, rfl, H0, OInts.nil _ _ _⟩
  case round =>
    obtain ⟨k, hk, hk2, rfl, hX, hown⟩ := hrel
    by_cases hlt : k < s.length
    · obtain ⟨bs, os, rfl, hcs⟩ := HS.out k hlt
      have HNX := Lib.hid (wordsL_next (l := l) hlt)
      have hwl := words_max HL.out (take_allIn HA.out k)
      have htl : (s.take k).length ≤ 1000 := by rw [List.length_take]; omega
      obtain ⟨x, hx, hxl⟩ := inN_at HA.out hlt
      rw [hx] at hcs HNX
      have hw6 := wrd_len HL.out hxl
      have HWD : Hid (wrd l (x : Int) = (itm l.i x).w) := Lib.hid rfl
      obtain ⟨bi, oi, rfl, u, hci, hu, _⟩ := HI.out x hxl
      rw [← HWD.out] at hu
      have hcs0 := hcs
      have hci0 := hci
      replace hcs := hX.keep hcs
      replace hci := hX.keep hci
      have hu' := hu.ext hX
      obtain ⟨au, cu, rfl, _⟩ := hu.open_
      have HRW := Lib.hid hu'.raw
      have HXL : Hid (wordsL l (s.take (k + 1)) = wordsL l (s.take k) ++ wrd l (x : Int)) := HNX
      clear hu hx
      have HOW := Lib.hid hown; clear hown
      have hsz := hX.size
      have hxI : (x : Int) < (l.i.length : Int) := by omega
      have HU := Lib.hid hu'; clear hu'
      go_wp2_with (at_builtin; refine wpList_appendAll (m := (wrd l (x : Int)).length) (B := wA.heap.size) elInts rfl (.tmp 14) (.tmp 20) rfl rfl rfl HOW.out HRW.out (ints_one _) (by omega) (by omega) (by omega) ?_; intro v' w' ho2 hb2)
      have hX2 : Ext wA w' := hX.upto hb2 (Nat.le_refl _)
      have ho3 : OInts 3 w' wA.heap.size v' (wordsL l (s.take (k + 1))) := by
        rw [HXL.out]; unfold OInts; rw [ints_append, List.length_append]; exact ho2
      clear ho2 hb2
      go_wp2_with fail
      go_roundg (gk-1)
      case measure => omega
      case rel => exact ⟨k+1, by omega, by omega, by go_num, hX2, ho3⟩
    · have hkl : k = s.length := by omega
      subst hkl
      rw [List.take_length] at hown
      have HOW := Lib.hid hown; clear hown
      go_wp2_with fail
      go_ret
      exact ⟨_, rfl, OInts.low HOW.out (by omega), hE0.trans hX⟩
set_option maxHeartbeats 1000000 in
set_option maxRecDepth 100000 in
theorem rwords_c (iv fv sv : Value) (l : Lex) (s : List Int) (w : World) (h : LexR w iv fv l) (hl : LexOk l) (hs : Ints w sv s) (ha : allIn l s) (hsl : s.length ≤ 1000) : Calls Try.prog 76 #[.agg #[iv, fv], sv] w (ROInts 3 (wordsL l s) w) := by
  obtain ⟨wA, hwA⟩ : ∃ wA, wA = w.alloc (.cells #[iv, fv] 25) := ⟨_, rfl⟩
  have hE0 : Ext w wA := by rw [hwA]; exact Ext.alloc _ _
  have k0 : ∀ W, Ext wA W → W.cell? ⟨w.heap.size, 0, none⟩ = some iv := by rw [hwA]; exact kept_alloc w _ _ rfl
  have k1 : ∀ W, Ext wA W → W.cell? ⟨w.heap.size, 1, none⟩ = some fv := by rw [hwA]; exact kept_alloc w _ _ rfl
  have H0 : Ext wA wA := Ext.refl _
  have HR := Lib.hid (h.ext hE0)
  obtain ⟨ai, ci, rfl, hli, hmi, HI⟩ := (h.ext hE0).i.open_
  obtain ⟨af, cf, rfl, hlf, hmf, HF⟩ := Rows.open_ (h.ext hE0).f
  obtain ⟨as_, cs, rfl, hls, hms, HS⟩ := (hs.ext hE0).open_
  have HW := Lib.hid hwA; clear hwA h hs
  have HA := Lib.hid ha; clear ha
  have HL := Lib.hid hl; clear hl
  have hz0 := hE0.size
  go_enter Try.func76, Try.ntmps76
  go_wp2_with fail
  rw [← HW.out]
  go_loopg [6, 5] s.length (fun m i v wr => ∃ k : Nat, k ≤ s.length ∧ s.length ≤ k + m ∧ i = .int .i64 k ∧ Ext wA wr ∧ OInts 3 wr wA.heap.size v (wordsL l (s.take k)))
  case atStart => exact ⟨0, by omega, by omega, rfl, H0, OInts.nil _ _ _⟩
  case round =>
    obtain ⟨k, hk, hk2, rfl, hX, hown⟩ := hrel
    by_cases hlt : k < s.length
    · obtain ⟨bs, os, rfl, hcs⟩ := HS.out k hlt
      have HNX := Lib.hid (wordsL_next (l := l) hlt)
      have hwl := words_max HL.out (take_allIn HA.out k)
      have htl : (s.take k).length ≤ 1000 := by rw [List.length_take]; omega
      obtain ⟨x, hx, hxl⟩ := inN_at HA.out hlt
      rw [hx] at hcs HNX
      have hw6 := wrd_len HL.out hxl
      have HWD : Hid (wrd l (x : Int) = (itm l.i x).w) := Lib.hid rfl
      obtain ⟨bi, oi, rfl, u, hci, hu, _⟩ := HI.out x hxl
      rw [← HWD.out] at hu
      have hcs0 := hcs
      have hci0 := hci
      replace hcs := hX.keep hcs
      replace hci := hX.keep hci
      have hu' := hu.ext hX
      obtain ⟨au, cu, rfl, _⟩ := hu.open_
      have HRW := Lib.hid hu'.raw
      have HXL : Hid (wordsL l (s.take (k + 1)) = wordsL l (s.take k) ++ wrd l (x : Int)) := HNX
      clear hu hx
      have HOW := Lib.hid hown; clear hown
      have hsz := hX.size
      have hxI : (x : Int) < (l.i.length : Int) := by omega
      have HU := Lib.hid hu'; clear hu'
      go_wp2_with fail
      refine wp_region_peek (Ext wA) (fun _ => True) [] [.look 0, .look 1, .look 2, .look 3, .look 4, .look 5, .look 6, .look 7, .look 8, .look 9, .go 10, .look 11] (by kernel_rfl) (by kernel_rfl) (by intro c a d v w h; cases d <;> exact h) ?_
      have hd0 : Ext wr { wr with drawn := wr.drawn + 1 } := drawn_ext wr
      have hd1 : Ext wA { wr with drawn := wr.drawn + 1 } := hX.trans hd0
      have hs1 : ∀ t : InC (Ext wA), Ext wA t.w := fun t => t.h
      have q0 := fun t : InC (Ext wA) => t.h.keep hcs0
      have q1 := fun t : InC (Ext wA) => t.h.keep hci0
      have HO1 := Lib.hid (OInts.ext HOW.out hd0)
      have HR1 := Lib.hid ((HU.out.ext hd0).raw)
      generalize { wr with drawn := wr.drawn + 1 } = W1 at *
      clear hcs hci hd0
      iterate 10 (refine wpPeek_look rfl ‹_› (fun K hK => ?_); go_simp; first | (refine hK _ ?_; clear hK K) | (refine ⟨_, fun _ => rfl, hK _ ?_⟩; clear hK K))
      clear q0 q1 hs1
      have hsz1 := hd1.size
      refine wpPeek_go rfl rfl (fun K hK => ?_)
      refine wpList_appendAll (m := (wrd l (x : Int)).length) (B := wA.heap.size) elInts rfl (.tmp 13) (.tmp 22) rfl rfl rfl HO1.out HR1.out (ints_one _) (by omega) (by omega) (by omega) (fun v' w' ho2 hb2 => ?_)
      have hX2 : Ext wA w' := hd1.upto hb2 (Nat.le_refl _)
      have ho3 : OInts 3 w' wA.heap.size v' (wordsL l (s.take (k + 1))) := by
        rw [HXL.out]; unfold OInts; rw [ints_append, List.length_append]; exact ho2
      go_wp2_with fail
      refine ⟨KeepE.of (fun h => h.upto hb2 (Nat.le_refl _)) (fun _ => trivial), ?_⟩
      clear hd1 ho2 hb2
      (refine wpPeek_look rfl ‹_› (fun K hK => ?_); go_simp; first | (refine hK _ ?_; clear hK K) | (refine ⟨_, fun _ => rfl, hK _ ?_⟩; clear hK K))
      refine wpPeek_nil ?_
      go_wp2_with fail
      go_roundg (gk-1)
      case measure => omega
      case rel => exact ⟨k+1, by omega, by omega, by go_num, hX2, ho3⟩
    · have hkl : k = s.length := by omega
      subst hkl
      rw [List.take_length] at hown
      have HOW := Lib.hid hown; clear hown
      go_wp2_with fail
      go_ret
      exact ⟨_, rfl, OInts.low HOW.out (by omega), hE0.trans hX⟩
end Go.Proofs.Ytgpggmcjggpmpaa
