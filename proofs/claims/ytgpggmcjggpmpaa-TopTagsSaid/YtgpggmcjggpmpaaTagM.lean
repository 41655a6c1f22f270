/- IsCode and Two of the program; what the laws of chapter 08 share: Long, the first example, sane. -/
import Derived.Test.YtgpggmcjggpmpaaTagK
import Derived.Test.YtgpggmcjggpmpaaTagF
import Derived.Test.YtgpggmcjggpmpaaTagI
namespace Go.Proofs.Ytgpggmcjggpmpaa
open Go.RowKit Go.Shelf
set_option linter.unusedVariables false

theorem ints_new (w : World) (l : List Int) (n : Nat) (hn : n = l.length) (hm : n ≤ 1000) : Ints (w.alloc (.cells (l.map (fun i => Value.int .i64 i)).toArray 3)) (.slice (some ⟨w.heap.size, 0, none⟩) n n) l := by
  refine ints_lit hn hm fun i hi => alloc_cell w _ 3 ?_
  rw [List.getElem?_toArray, List.getElem?_map, List.getElem?_eq_getElem (by omega)]
  simp

noncomputable def isC (l : Lex) : Bool := decide (validL l = 0) && codeB l
theorem codeB_no {l : Lex} (h : notCode l) : codeB l = false := by simp [codeB, h]
theorem codeB_yes {l : Lex} (h : ¬ notCode l) : codeB l = true := by simp [codeB, h]
theorem codeB_iff {l : Lex} : codeB l = true ↔ ¬ notCode l := by simp [codeB]
theorem isC_bad {l : Lex} (h : validL l ≠ 0) : isC l = false := by unfold isC; rw [decide_eq_false h]; rfl
theorem isC_ok {l : Lex} (h : validL l = 0) : isC l = codeB l := by unfold isC; rw [decide_eq_true h]; rfl
set_option maxHeartbeats 1000000 in
theorem IsCode_c (iv fv : Value) (l : Lex) (w : World) (h : LexR w iv fv l) : Calls Try.prog 25 #[.agg #[iv, fv]] w (RV (.tuple #[.bool (isC l), .int .i64 (validL l)]) w) := by
  obtain ⟨wA, hwA⟩ : ∃ wA, wA = w.alloc (.cells #[iv, fv] 25) := ⟨_, rfl⟩
  have hE0 : Ext w wA := by rw [hwA]; exact Ext.alloc _ _
  have k0 : ∀ W, Ext wA W → W.cell? ⟨w.heap.size, 0, none⟩ = some iv := by rw [hwA]; exact kept_alloc w _ _ rfl
  have k1 : ∀ W, Ext wA W → W.cell? ⟨w.heap.size, 1, none⟩ = some fv := by rw [hwA]; exact kept_alloc w _ _ rfl
  have H0 : Ext wA wA := Ext.refl _
  have HR := Lib.hid (h.ext hE0)
  have HV := Lib.hid (Validate_c _ _ l wA HR.out)
  have HW := Lib.hid hwA; clear hwA h
  by_cases h0 : validL l = 0
  · have HC := Lib.hid (isC_ok h0)
    have HT := Lib.hid (fun W (hW : Ext wA W) => two_c _ _ l W (HR.out.ext hW) (validL_ok h0))
    rw [h0] at HV ⊢
    clear h0
    go_enter Try.func25, Try.ntmps25
    go_wp2_with fail
    rw [← HW.out]
    refine HV.out.mono ?_; rintro e w1 ⟨rfl, hx1⟩
    go_wp2_with fail
    refine (HT.out w1 hx1).mono ?_; rintro e w2 ⟨hx2, ⟨rfl, hn⟩ | ⟨a, b, av, bv, rfl, _, _, ht, _⟩⟩
    · have HN := Lib.hid (codeB_yes hn); clear hn
      go_wp2_with fail
      go_ret2
      exact ⟨by rw [HC.out, HN.out]; rfl, hE0.trans (hx1.trans hx2)⟩
    · have HN := Lib.hid (codeB_no ⟨a, b, ht⟩); clear ht
      go_wp2_with fail
      go_ret2
      exact ⟨by rw [HC.out, HN.out]; rfl, hE0.trans (hx1.trans hx2)⟩
  · rw [isC_bad h0]
    generalize validL l = k at *
    have hk : (k != 0) = true := by simpa using h0
    clear h0
    go_enter Try.func25, Try.ntmps25
    go_wp2_with fail
    rw [← HW.out]
    refine HV.out.mono ?_; rintro e w1 ⟨rfl, hx1⟩
    go_wp2_with fail
    go_ret2
    exact ⟨rfl, hE0.trans hx1⟩
def RTwo4 (l : Lex) (w : World) (e : Ending) (w' : World) : Prop := Ext w w' ∧ ((e = .returned (.tuple #[.slice none 0 0, .slice none 0 0, .bool false, .int .i64 (validL l)]) ∧ (validL l = 0 → ¬ notCode l)) ∨
  ∃ a b av bv, e = .returned (.tuple #[av, bv, .bool true, .int .i64 0]) ∧ validL l = 0 ∧ Ints w' av a ∧ Ints w' bv b ∧ TwoOf l a b ∧ a.length ≤ 200 ∧ b.length ≤ 200)
set_option maxHeartbeats 1000000 in
theorem Two_c (iv fv : Value) (l : Lex) (w : World) (h : LexR w iv fv l) : Calls Try.prog 35 #[.agg #[iv, fv]] w (RTwo4 l w) := by
  obtain ⟨wA, hwA⟩ : ∃ wA, wA = w.alloc (.cells #[iv, fv] 25) := ⟨_, rfl⟩
  have hE0 : Ext w wA := by rw [hwA]; exact Ext.alloc _ _
  have k0 : ∀ W, Ext wA W → W.cell? ⟨w.heap.size, 0, none⟩ = some iv := by rw [hwA]; exact kept_alloc w _ _ rfl
  have k1 : ∀ W, Ext wA W → W.cell? ⟨w.heap.size, 1, none⟩ = some fv := by rw [hwA]; exact kept_alloc w _ _ rfl
  have H0 : Ext wA wA := Ext.refl _
  have HR := Lib.hid (h.ext hE0)
  have HV := Lib.hid (Validate_c _ _ l wA HR.out)
  have HW := Lib.hid hwA; clear hwA h
  by_cases h0 : validL l = 0
  · have H00 := Lib.hid h0
    have HT := Lib.hid (fun W (hW : Ext wA W) => two_c _ _ l W (HR.out.ext hW) (validL_ok h0))
    rw [h0] at HV
    clear h0
    go_enter Try.func35, Try.ntmps35
    go_wp2_with fail
    rw [← HW.out]
    refine HV.out.mono ?_; rintro e w1 ⟨rfl, hx1⟩
    go_wp2_with fail
    refine (HT.out w1 hx1).mono ?_; rintro e w2 ⟨hx2, ⟨rfl, hn⟩ | ⟨a, b, av, bv, rfl, ha, hb, ht, hal, hbl⟩⟩
    · have HN := Lib.hid hn; clear hn
      go_wp2_with fail
      ((try simp only [Exit.inBlock, Exit.then]); refine bodyPost_ret (results_tmp4 rfl _ _ _) rfl ?_)
      exact ⟨hE0.trans (hx1.trans hx2), .inl ⟨by rw [H00.out]; rfl, fun _ => HN.out⟩⟩
    · have HA := Lib.hid ha; have HB := Lib.hid hb; have HTT := Lib.hid ht; have HAL := Lib.hid hal; have HBL := Lib.hid hbl
      clear ha hb ht hal hbl
      go_wp2_with fail
      ((try simp only [Exit.inBlock, Exit.then]); refine bodyPost_ret (results_tmp4 rfl _ _ _) rfl ?_)
      exact ⟨hE0.trans (hx1.trans hx2), .inr ⟨a, b, _, _, rfl, H00.out, HA.out, HB.out, HTT.out, HAL.out, HBL.out⟩⟩
  · have H00 := Lib.hid h0
    have HKK : Hid (RTwo4 l w = RTwo4 l w) := Lib.hid rfl
    generalize hkk : validL l = k at *
    have HK := Lib.hid hkk
    have hk : (k != 0) = true := by simpa using h0
    clear h0 hkk
    go_enter Try.func35, Try.ntmps35
    go_wp2_with fail
    rw [← HW.out]
    refine HV.out.mono ?_; rintro e w1 ⟨rfl, hx1⟩
    go_wp2_with fail
    ((try simp only [Exit.inBlock, Exit.then]); refine bodyPost_ret (results_tmp4 rfl _ _ _) rfl ?_)
    exact ⟨hE0.trans hx1, .inl ⟨by rw [HK.out]; rfl, fun h => absurd (HK.out.symm.trans h) H00.out⟩⟩

/-! ## what is too long -/
theorem anyR_yes {n j : Nat} {f : Nat → Bool} (hj : j < n) (h : f j = true) : (List.range n).any f = true := by rw [List.any_eq_true]; exact ⟨j, by simpa using hj, h⟩
theorem anyR_no {n : Nat} {f : Nat → Bool} (h : ∀ j, j < n → f j = false) : (List.range n).any f = false := by
  rw [List.any_eq_false]; intro j hj; rw [h j (by simpa using hj)]; simp
def longL (ls : List (List Int)) : Bool := (List.range ls.length).any fun j => decide (300 < (ls[j]?.getD []).length)
def longI (l : Lex) : Bool := (List.range l.i.length).any fun j => decide (50 < (itm l.i j).w.length)
def longF (l : Lex) : Bool := (List.range l.f.length).any fun j => decide (50 < (l.f[j]?.getD []).length)
def longX (l : Lex) (ls : List (List Int)) : Bool := longL ls || (longI l || (longF l || (decide (50 < l.i.length) || decide (50 < l.f.length))))
theorem longX_lists {l : Lex} {ls : List (List Int)} (h : longX l ls = false) : ∀ t ∈ ls, t.length ≤ 300 := by
  unfold longX at h
  rw [Bool.or_eq_false_iff] at h
  intro t ht
  obtain ⟨j, hj, rfl⟩ := List.getElem_of_mem ht
  have := h.1
  unfold longL at this
  rw [List.any_eq_false] at this
  have := this j (by simpa using hj)
  simpa [hj] using this
theorem longX_fol {l : Lex} {ls : List (List Int)} (h : longX l ls = false) : l.i.length ≤ 50 ∧ l.f.length ≤ 50 ∧ (∀ j, j < l.i.length → (itm l.i j).w.length ≤ 50) ∧ (∀ j, j < l.f.length → (l.f[j]?.getD []).length ≤ 50) := by
  unfold longX at h
  simp only [Bool.or_eq_false_iff] at h
  obtain ⟨_, h1, h2, h3, h4⟩ := h
  unfold longI at h1; unfold longF at h2
  rw [List.any_eq_false] at h1 h2
  exact ⟨by simpa using h3, by simpa using h4, fun j hj => by simpa using h1 j (by simpa using hj), fun j hj => by have := h2 j (by simpa using hj); simp only [decide_eq_true_eq] at this; omega⟩
set_option maxHeartbeats 2000000 in
theorem Long_c (iv fv lv : Value) (l : Lex) (ls : List (List Int)) (w : World) (h : LexR w iv fv l) (hl : Rows w lv ls) : Calls Try.prog 20 #[.agg #[iv, fv], lv] w (RV (.bool (longX l ls)) w) := by
  obtain ⟨wA, hwA⟩ : ∃ wA, wA = w.alloc (.cells #[iv, fv] 25) := ⟨_, rfl⟩
  have hE0 : Ext w wA := by rw [hwA]; exact Ext.alloc _ _
  have k0 : ∀ W, Ext wA W → W.cell? ⟨w.heap.size, 0, none⟩ = some iv := by rw [hwA]; exact kept_alloc w _ _ rfl
  have k1 : ∀ W, Ext wA W → W.cell? ⟨w.heap.size, 1, none⟩ = some fv := by rw [hwA]; exact kept_alloc w _ _ rfl
  have H0 : Ext wA wA := Ext.refl _
  have HR := Lib.hid (h.ext hE0)
  obtain ⟨ai, ci, rfl, hli, hmi, HI⟩ := (h.ext hE0).i.open_
  obtain ⟨af, cf, rfl, hlf, hmf, HF⟩ := Rows.open_ (h.ext hE0).f
  obtain ⟨al, cl, rfl, h1, h2, H⟩ := Rows.open_ (hl.ext hE0)
  have HW := Lib.hid hwA; clear hwA h hl
  have HD : Hid (longX l ls = (longL ls || (longI l || (longF l || (decide (50 < l.i.length) || decide (50 < l.f.length)))))) := Lib.hid rfl
  go_enter Try.func20, Try.ntmps20
  go_wp2_with fail
  rw [← HW.out]
  go_loopg [5] ls.length (fun z i wr => ∃ k : Nat, k ≤ ls.length ∧ ls.length ≤ k + z ∧ i = .int .i64 k ∧ wA = wr ∧ Hid (∀ j, j < k → decide (300 < (ls[j]?.getD []).length) = false))
  case atStart => exact ⟨0, by omega, by omega, rfl, rfl, fun j hj => by omega⟩
  case round =>
    obtain ⟨k, hk, hk2, rfl, rfl, hE⟩ := hrel
    by_cases hlt : k < ls.length
    · obtain ⟨b, o, rfl, u, hc, hi⟩ := H.out k hlt
      obtain ⟨au, cu, rfl, _, _, _⟩ := hi.open_
      clear hi
      generalize hx : ls[k]?.getD [] = x at *
      have HX := Lib.hid hx; clear hx
      by_cases hb : 300 < x.length
      · have HY : Hid (longL ls = true) := Lib.hid (anyR_yes hlt (by rw [HX.out]; exact decide_eq_true hb))
        go_wp2_with fail
        go_ret
        exact RV.bool (by rw [HD.out, HY.out]; rfl) hE0
      · go_wp2_with fail
        go_roundg (gk-1)
        case measure => omega
        case rel => exact ⟨k+1, by omega, by omega, by go_num, rfl, range_step hE.out (by rw [HX.out]; simpa using hb)⟩
    · have HL1 : Hid (longL ls = false) := Lib.hid (anyR_no (fun j hj => hE.out j (by omega)))
      clear hE
      go_wp2_with fail
      go_loopg [6] l.i.length (fun z i wr => ∃ k : Nat, k ≤ l.i.length ∧ l.i.length ≤ k + z ∧ i = .int .i64 k ∧ wA = wr ∧ Hid (∀ j, j < k → decide (50 < (itm l.i j).w.length) = false))
      case atStart => exact ⟨0, by omega, by omega, rfl, rfl, fun j hj => by omega⟩
      case round =>
        obtain ⟨k2, hk, hk2, rfl, rfl, hE⟩ := hrel
        by_cases hlt : k2 < l.i.length
        · obtain ⟨b, o, rfl, u, hc, hi, _, _⟩ := HI.out k2 hlt
          obtain ⟨au, cu, rfl, _, _, _⟩ := hi.open_
          clear hi
          generalize hx : (itm l.i k2).w = x at *
          have HX := Lib.hid hx; clear hx
          have hltI : (k2 : Int) < (l.i.length : Int) := by omega
          by_cases hb : 50 < x.length
          · have HY : Hid (longI l = true) := Lib.hid (anyR_yes hlt (by rw [HX.out]; exact decide_eq_true hb))
            go_wp2_with fail
            go_ret
            exact RV.bool (by rw [HD.out, HL1.out, HY.out]; rfl) hE0
          · go_wp2_with fail
            go_roundg (gk-1)
            case measure => omega
            case rel => exact ⟨k2+1, by omega, by omega, by go_num, rfl, range_step hE.out (by rw [HX.out]; simpa using hb)⟩
        · have HL2 : Hid (longI l = false) := Lib.hid (anyR_no (fun j hj => hE.out j (by omega)))
          have hk2n : k2 = l.i.length := by omega
          subst hk2n
          clear hE
          go_wp2_with fail
          go_loopg [7] l.f.length (fun z i wr => ∃ k : Nat, k ≤ l.f.length ∧ l.f.length ≤ k + z ∧ i = .int .i64 k ∧ wA = wr ∧ Hid (∀ j, j < k → decide (50 < (l.f[j]?.getD []).length) = false))
          case atStart => exact ⟨0, by omega, by omega, rfl, rfl, fun j hj => by omega⟩
          case round =>
            obtain ⟨k3, hk, hk2, rfl, rfl, hE⟩ := hrel
            by_cases hlt : k3 < l.f.length
            · obtain ⟨b, o, rfl, u, hc, hi⟩ := HF.out k3 hlt
              obtain ⟨au, cu, rfl, _, _, _⟩ := hi.open_
              clear hi
              generalize hx : l.f[k3]?.getD [] = x at *
              have HX := Lib.hid hx; clear hx
              have hltI : (k3 : Int) < (l.f.length : Int) := by omega
              by_cases hb : 50 < x.length
              · have HY : Hid (longF l = true) := Lib.hid (anyR_yes hlt (by rw [HX.out]; exact decide_eq_true hb))
                go_wp2_with fail
                go_ret
                exact RV.bool (by rw [HD.out, HL1.out, HL2.out, HY.out]; rfl) hE0
              · go_wp2_with fail
                go_roundg (gk-1)
                case measure => omega
                case rel => exact ⟨k3+1, by omega, by omega, by go_num, rfl, range_step hE.out (by rw [HX.out]; simpa using hb)⟩
            · have HL3 : Hid (longF l = false) := Lib.hid (anyR_no (fun j hj => hE.out j (by omega)))
              have hk3n : k3 = l.f.length := by omega
              subst hk3n
              clear hE
              by_cases hb : 50 < l.i.length
              · have hd : decide ((50 : Int) < l.i.length) = true := decide_eq_true (by omega)
                go_wp2_with fail
                go_ret
                exact RV.bool (by rw [HD.out, HL1.out, HL2.out, HL3.out]; simp [hb]) hE0
              · have hd : decide ((50 : Int) < l.i.length) = false := decide_eq_false (by omega)
                go_wp2_with fail
                go_ret
                exact RV.bool (by rw [HD.out, HL1.out, HL2.out, HL3.out, decide_eq_false hb, Bool.false_or, Bool.false_or, Bool.false_or, Bool.false_or, decide_eq_decide]; omega) hE0

/-! ## the first example -/
def threeL : Lex := ⟨[⟨[0], 0, 1⟩, ⟨[0, 1], 0, 3⟩, ⟨[1], 0, 1⟩], List.replicate 4 [0, 0, 0, 0]⟩
theorem three_valid : validL threeL = 0 := by decide +kernel
theorem three_count : countN threeL [0, 1] = 2 := by decide +kernel
theorem three_text : textK threeL [0, 1] = 0 := by decide +kernel
theorem three_least : leastO threeL [0, 1] = (2, true) := by decide +kernel
theorem three_two : twoK threeL [0, 2] [1] = 0 := by decide +kernel
theorem three_code : isC threeL = false := by rw [isC_ok three_valid, codeB_no (twoK_not three_two).1]
theorem Blk.keptT {w w' : World} {g B : Nat} {ty e : TypeId} {vs : List Value} {v : Value} (h : Blk w g ty vs) (hg : w.grownBy w' v.ownBlock) (hr : RowT w B e v) (he : e ≠ ty) : Blk w' g ty vs :=
  (hg.block g h.lt (fun hv => by
    obtain ⟨_, cur, h2⟩ := hr g hv.symm
    have h3 : w.heap[g]? = _ := h
    rw [h2] at h3; injection h3 with h3; injection h3 with _ h3 _; exact he h3)).trans h
/-- two worlds that differ in one block, which holds no ints -/
structure Moved (g : Nat) (W W' : World) : Prop where
  oth : ∀ b o, b ≠ g → W'.cell? ⟨b, o, none⟩ = W.cell? ⟨b, o, none⟩
  no : ∀ o n, W.cell? ⟨g, o, none⟩ ≠ some (.int .i64 n)
theorem Moved.ints {g : Nat} {W W' : World} (m : Moved g W W') {v : Value} {l : List Int} (h : Ints W v l) : Ints W' v l :=
  h.mono fun i b o _ hc => (m.oth b _ (fun e => by subst e; exact m.no _ _ hc)).trans hc
theorem Moved.rows {g B : Nat} {W W' : World} (m : Moved g W W') {v : Value} {ls : List (List Int)} (h : SR W B v ls) (hg : g < B) : Rows W' v ls := by
  obtain ⟨us, h1, h2⟩ := h
  rcases Nat.eq_zero_or_pos ls.length with h0 | h0
  · rcases h1.2 with ⟨rfl, _⟩ | ⟨g, o, cap, cur, rfl, _, _, hn, hm, _⟩
    · exact ⟨none, 0, by rw [h0], by omega, by unfold maxLen; omega, fun i hi => by omega⟩
    · exact ⟨_, cap, rfl, hn, hm, fun i hi => by omega⟩
  · obtain ⟨r, o, cap, rfl, hn, hm, hB, HC⟩ := h1.open_ h0
    refine ⟨_, cap, rfl, hn, hm, fun i hi => ⟨r, o, rfl, ?_⟩⟩
    obtain ⟨u, hu, hs⟩ := h2.at_ i hi
    exact ⟨u, (m.oth _ _ (by omega)).trans (HC.out i u hu), m.ints hs.ints⟩
theorem Moved.items {g G o n c : Nat} {W W' : World} (m : Moved g W W') {l : List Itm} (h : Items W (.slice (some ⟨G, o, none⟩) n c) l) (hG : G ≠ g) : Items W' (.slice (some ⟨G, o, none⟩) n c) l := by
  obtain ⟨a, cap, hv, hn, hm, H⟩ := h
  injection hv with ha hn' hc
  subst ha
  refine ⟨_, cap, by rw [hn', hc], hn, hm, fun i hi => ?_⟩
  obtain ⟨b, o', he, u, h1, h2, h3, h4⟩ := H i hi
  injection he with he; injection he with he1 he2 _; subst he1 he2
  exact ⟨_, _, rfl, u, (m.oth _ _ hG).trans h1, m.ints h2, (m.oth _ _ hG).trans h3, (m.oth _ _ hG).trans h4⟩
theorem Blk.moved {W : World} {g : Nat} {ty : TypeId} {a b : Value} (h : Blk W g ty [a, b]) (ha : ∀ n, a ≠ .int .i64 n) (hb : ∀ n, b ≠ .int .i64 n) (u v : Value) : Moved g W ((W.setCell ⟨g, 0, none⟩ u).setCell ⟨g, 1, none⟩ v) := by
  refine ⟨fun x o hx => ?_, fun o n hc => ?_⟩
  · rw [World.cell?_setCell_other _ _ _ _ (fun e => by have := congrArg Addr.block e; simp only at this; omega), World.cell?_setCell_other _ _ _ _ (fun e => by have := congrArg Addr.block e; simp only at this; omega)]
  · unfold Blk at h
    unfold World.cell? at hc
    simp only [h] at hc
    match o, hc with
    | 0, hc => simp at hc; exact ha _ hc
    | 1, hc => simp at hc; exact hb _ hc
    | o + 2, hc => simp at hc
def RLex (l : Lex) (w : World) (e : Ending) (w' : World) : Prop := ∃ iv fv, e = .returned (.agg #[iv, fv]) ∧ LexR w' iv fv l ∧ Ext w w'
set_option maxHeartbeats 2000000 in
set_option maxRecDepth 100000 in
theorem three_c (w : World) : Calls Try.prog 74 #[] w (RLex threeL w) := by
  go_enter Try.func74, Try.ntmps74
  go_wp2_with fail
  obtain ⟨wa, ha⟩ : ∃ W, W = w.alloc (.cells #[.slice none 0 0, .slice none 0 0] 25) := ⟨_, rfl⟩
  obtain ⟨wb, hb⟩ : ∃ W, W = wa.alloc (.cells #[.int .i64 0] 3) := ⟨_, rfl⟩
  obtain ⟨wc, hc⟩ : ∃ W, W = wb.alloc (.cells #[.int .i64 0, .int .i64 1] 3) := ⟨_, rfl⟩
  obtain ⟨wd, hd⟩ : ∃ W, W = wc.alloc (.cells #[.int .i64 1] 3) := ⟨_, rfl⟩
  obtain ⟨we, he⟩ : ∃ W, W = wd.alloc (.cells #[.slice (some ⟨w.heap.size + 1, 0, none⟩) 1 1, .int .i64 0, .int .i64 1, .slice (some ⟨w.heap.size + 1 + 1, 0, none⟩) 2 2, .int .i64 0, .int .i64 3, .slice (some ⟨w.heap.size + 1 + 1 + 1, 0, none⟩) 1 1, .int .i64 0, .int .i64 1] 28) := ⟨_, rfl⟩
  obtain ⟨wf, hf⟩ : ∃ W, W = we.alloc (.cells #[.slice (some ⟨w.heap.size + 1 + 1 + 1 + 1, 0, none⟩) 3 3, .slice none 0 0] 25) := ⟨_, rfl⟩
  rw [← ha, ← hb, ← hc, ← hd, ← he, ← hf]
  have za : wa.heap.size = w.heap.size + 1 := by rw [ha]; simp
  have zb : wb.heap.size = w.heap.size + 1 + 1 := by rw [hb]; simp [za]
  have zc : wc.heap.size = w.heap.size + 1 + 1 + 1 := by rw [hc]; simp [zb]
  have zd : wd.heap.size = w.heap.size + 1 + 1 + 1 + 1 := by rw [hd]; simp [zc]
  have ze : we.heap.size = w.heap.size + 1 + 1 + 1 + 1 + 1 := by rw [he]; simp [zd]
  have xa : Ext w wa := by rw [ha]; exact Ext.alloc _ _
  have xb : Ext wa wb := by rw [hb]; exact Ext.alloc _ _
  have xc : Ext wb wc := by rw [hc]; exact Ext.alloc _ _
  have xd : Ext wc wd := by rw [hd]; exact Ext.alloc _ _
  have xe : Ext wd we := by rw [he]; exact Ext.alloc _ _
  have xf : Ext we wf := by rw [hf]; exact Ext.alloc _ _
  have i1 : Ints wb (.slice (some ⟨w.heap.size + 1, 0, none⟩) 1 1) [0] := by rw [hb, ← za]; exact ints_new wa [0] 1 rfl (by omega)
  have i2 : Ints wc (.slice (some ⟨w.heap.size + 1 + 1, 0, none⟩) 2 2) [0, 1] := by rw [hc, ← zb]; exact ints_new wb [0, 1] 2 rfl (by omega)
  have i3 : Ints wd (.slice (some ⟨w.heap.size + 1 + 1 + 1, 0, none⟩) 1 1) [1] := by rw [hd, ← zc]; exact ints_new wc [1] 1 rfl (by omega)
  have hblk : Blk we (w.heap.size + 1 + 1 + 1 + 1) 28 [.slice (some ⟨w.heap.size + 1, 0, none⟩) 1 1, .int .i64 0, .int .i64 1, .slice (some ⟨w.heap.size + 1 + 1, 0, none⟩) 2 2, .int .i64 0, .int .i64 3, .slice (some ⟨w.heap.size + 1 + 1 + 1, 0, none⟩) 1 1, .int .i64 0, .int .i64 1] := by rw [he, ← zd]; exact Blk.alloc wd _ _
  have HIT : Hid (Items we (.slice (some ⟨w.heap.size + 1 + 1 + 1 + 1, 0, none⟩) 3 3) threeL.i) := Lib.hid ⟨_, _, rfl, Nat.le_refl _, by unfold maxLen; omega, fun i hi => ⟨_, 0, rfl, by
    have hi3 : i < 3 := hi
    match i, hi3 with
    | 0, _ => exact ⟨_, hblk.cell (i := 0) rfl, i1.ext (xc.trans (xd.trans xe)), hblk.cell (i := 1) rfl, hblk.cell (i := 2) rfl⟩
    | 1, _ => exact ⟨_, hblk.cell (i := 3) rfl, i2.ext (xd.trans xe), hblk.cell (i := 4) rfl, hblk.cell (i := 5) rfl⟩
    | 2, _ => exact ⟨_, hblk.cell (i := 6) rfl, i3.ext xe, hblk.cell (i := 7) rfl, hblk.cell (i := 8) rfl⟩⟩⟩
  have hbf : Blk wf we.heap.size 25 [.slice (some ⟨w.heap.size + 1 + 1 + 1 + 1, 0, none⟩) 3 3, .slice none 0 0] := by rw [hf]; exact Blk.alloc we _ _
  have XE := xa.trans (xb.trans (xc.trans (xd.trans xe)))
  have hba : Blk we w.heap.size 25 [.slice none 0 0, .slice none 0 0] := by
    have h0 : Blk wa w.heap.size 25 [.slice none 0 0, .slice none 0 0] := by rw [ha]; exact Blk.alloc w _ _
    exact h0.ext (xb.trans (xc.trans (xd.trans xe)))
  rw [← ze]
  have hzw : w.heap.size < we.heap.size := by omega
  generalize hGG : w.heap.size + 1 + 1 + 1 + 1 = G at *
  have HGG := Lib.hid hGG
  clear hGG ha hb hc hd he hf za zb zc zd ze xa xb xc xd xe i1 i2 i3 hblk
  go_loopg [2] 4 (fun z kk wr => ∃ (k : Nat) (fv : Value), k ≤ 4 ∧ 4 ≤ k + z ∧ kk = .int .i64 k ∧ Ext we wr ∧ Blk wr we.heap.size 25 [.slice (some ⟨G, 0, none⟩) 3 3, fv] ∧ SR wr we.heap.size fv (List.replicate k [0, 0, 0, 0]))
  case atStart => exact ⟨0, _, by omega, by omega, rfl, xf, hbf, SR.nil _ _⟩
  case round =>
    clear hbf xf
    obtain ⟨k, fv, hk, hkz, rfl, hX, hbl, hS⟩ := hrel
    by_cases hlt : k < 4
    · have hlI : (k : Int) ≤ 3 := by omega
      obtain ⟨af, cf, hfv⟩ := hS.len
      rw [List.length_replicate] at hfv
      subst hfv
      have t1 := hbl.cell (i := 1) rfl
      have HBL := Lib.hid hbl; have HS := Lib.hid hS
      have q1 := fun s : InC (Ext wr) => s.h.keep t1
      clear hbl hS
      go_upto_region 5 with fail
      refine wp_region_peek (Ext wr) (fun _ => True) [4, 6] [.look 0, .look 1, .go 2, .go 3, .go 4, .peek 5, .go 6] (by kernel_rfl) (by kernel_rfl) (by intro c a d v w h; cases d <;> exact h) ?_
      have hdr : Ext wr { wr with drawn := wr.drawn + 1 } := drawn_ext wr
      have htr : (fun _ : World => True) wr := trivial
      generalize { wr with drawn := wr.drawn + 1 } = W1 at *
      iterate 2 (refine wpPeek_look rfl ‹_› (fun K hK => ?_); go_simp; first | (refine hK _ ?_; clear hK K) | (refine ⟨_, fun _ => rfl, hK _ ?_⟩; clear hK K))
      refine wpPeek_go rfl rfl (fun K hK => ?_)
      refine wpList_make_blkL 4 elInts rfl rfl _ _ rfl rfl rfl (by decide) (by omega) (by omega) ?_; intro g2 w2 hg2 hblk2 hx2 hgl2
      go_wp2_with fail
      refine ⟨KeepE.of (fun h => h.trans hx2) (fun _ => trivial), ?_⟩
      have hXr2 := hdr.trans hx2
      refine wpPeek_go rfl rfl (fun K hK => ?_)
      go_wp2_with fail
      refine ⟨KeepE.of (fun h => h.trans (Ext.alloc _ _)) (fun _ => trivial), ?_⟩
      have hS2 := HS.out.ext hXr2
      have hrow2 := hS2.row
      obtain ⟨us, hs1, hs2⟩ := hS2
      have HS1 := Lib.hid hs1; have HS2 := Lib.hid hs2; clear hs1 hs2
      have hX2 := hX.trans hXr2
      have hsz2 := hX2.size
      have hb2 := HBL.out.ext hXr2
      have HROW := Lib.hid hrow2; have HB2 := Lib.hid hb2
      clear hrow2 hb2
      have HSI : Hid (SInts w2 we.heap.size (.slice (some ⟨g2, 0, none⟩) 4 4) [0, 0, 0, 0]) := Lib.hid ⟨ints_lit (n := 4) rfl (by omega) (fun i hi => by
        have hl : ([0, 0, 0, 0] : List Int)[i]?.getD 0 = 0 := by
          match i, hi with
          | 0, _ => rfl
          | 1, _ => rfl
          | 2, _ => rfl
          | 3, _ => rfl
        rw [hl]
        exact hblk2.cell (by rw [List.getElem?_replicate, if_pos hi])), fun _ b hb => .inr (by simp only [Value.ownBlock, Option.some.injEq] at hb; subst hb; exact ⟨_, _, hblk2⟩)⟩
      rw [List.length_replicate] at HS1
      clear hdr hblk2
      refine wpPeek_go rfl rfl (fun K hK => ?_)
      refine wpList_appendTail (v := .slice af k cf) (news := [_]) elRows rfl _ _ rfl rfl rfl HS1.out rfl rfl (by intro u hu; rw [List.mem_singleton] at hu; subst hu; rfl) hsz2 (by omega) (by omega) ?_; intro v4 w4 ho4 hg4 hf4; clear hf4
      go_wp2_with fail
      refine ⟨⟨.inl (by simp), fun _ => trivial⟩, ?_⟩
      have hS4 := SR.more (q := List.replicate k [0, 0, 0, 0]) (by rw [List.length_replicate]; exact HS1.out) HS2.out HSI.out (by rw [List.length_replicate]; exact ho4) hg4
      have hb4 := HB2.out.keptT hg4 HROW.out (by decide)
      have hX4 : Ext we w4 := RowT.below HROW.out hX2 hg4
      obtain ⟨a4, c4, hfv⟩ := hS4.len
      rw [List.length_append, List.length_replicate, List.length_singleton] at hfv
      subst hfv
      have HS4 := Lib.hid hS4
      have t1 := hb4.cell (i := 1) rfl
      have f1 := hb4.frozen 1
      have htr4 : (fun _ : World => True) w4 := trivial
      clear ho4 hg4 q1 hS4
      (refine wpPeek_peek rfl ‹_› (fun K hK => ?_); go_simp; first | (refine hK _ ?_; clear hK K) | (refine ⟨_, fun _ => rfl, hK _ ?_⟩; clear hK K))
      refine wpPeek_go rfl rfl (fun K hK => ?_)
      go_wp2_with fail
      refine ⟨⟨.inl (by simp), fun _ => trivial⟩, ?_⟩
      refine wpPeek_nil ?_
      have hS5 := HS4.out.kept (v := .slice (some ⟨we.heap.size, 0, none⟩) 0 0) (grownBy_set w4 we.heap.size 1 (.slice a4 (k + 1) c4)) (e := 25) (fun r hr => by simp only [Value.ownBlock, Option.some.injEq] at hr; subst hr; exact ⟨Nat.le_refl _, _, hb4⟩) (by decide) (by decide)
      have hb5 := hb4.set 1 (.slice a4 (k + 1) c4)
      have hX5 : Ext we (w4.setCell ⟨we.heap.size, 1, none⟩ (.slice a4 (k + 1) c4)) := hX4.setCell (Nat.le_refl _) _ _
      have HS5 := Lib.hid hS5; have HB5 := Lib.hid hb5
      clear hS5 hb5 t1 f1 hb4 hX4 HS4 htr4
      generalize w4.setCell ⟨we.heap.size, 1, none⟩ (.slice a4 (k + 1) c4) = w5 at *
      go_wp2_with fail
      go_roundg (gk-1)
      case measure => omega
      case rel => exact ⟨k+1, _, by omega, by omega, by go_num, hX5, HB5.out, by rw [List.replicate_succ']; exact HS5.out⟩
    · have hk4 : k = 4 := by omega
      subst hk4
      obtain ⟨af, cf, hfv⟩ := hS.len
      rw [List.length_replicate] at hfv
      subst hfv
      have t0 := hbl.cell (i := 0) rfl
      have t1 := hbl.cell (i := 1) rfl
      have hbr := hba.ext hX
      have r0 := hbr.cell (i := 0) rfl
      have r1 := hbr.cell (i := 1) rfl
      have f0 := hbr.frozen 0
      have f1 := hbr.frozen 1
      have hbs := (hbr.set 0 (.slice (some ⟨G, 0, none⟩) 3 3)).set 1 (.slice af 4 cf)
      have d0 := hbs.cell (i := 0) rfl
      have d1 := hbs.cell (i := 1) rfl
      have hxr := ((XE.trans hX).setCell (Nat.le_refl _) 0 (.slice (some ⟨G, 0, none⟩) 3 3)).setCell (Nat.le_refl _) 1 (.slice af 4 cf)
      have hmv := hbr.moved (by intro n e; cases e) (by intro n e; cases e) (.slice (some ⟨G, 0, none⟩) 3 3) (.slice af 4 cf)
      have hRW := hmv.rows hS hzw
      have hIW := hmv.items (HIT.out.ext hX) (by have := HGG.out; omega)
      have HFIN : Hid (RLex threeL w (.returned (.agg #[.slice (some ⟨G, 0, none⟩) 3 3, .slice af 4 cf])) ((wr.setCell ⟨w.heap.size, 0, none⟩ (.slice (some ⟨G, 0, none⟩) 3 3)).setCell ⟨w.heap.size, 1, none⟩ (.slice af 4 cf))) := Lib.hid ⟨_, _, rfl, ⟨hIW, hRW⟩, hxr⟩
      clear hS hbl hbr hmv hRW hIW hxr hbs
      go_wp2_with fail
      refine bodyPost_ret (v := .agg #[.slice (some ⟨G, 0, none⟩) 3 3, .slice af 4 cf]) (by simp [results, Try.results74, go_sem, d0, d1]) rfl ?_
      exact HFIN.out

set_option maxHeartbeats 2000000 in
theorem sane_c (w : World) : Calls Try.prog 32 #[] w (RV (.bool true) w) := by
  have HCN := Lib.hid three_count; have HTX := Lib.hid three_text; have HLE := Lib.hid three_least; have HCO := Lib.hid three_code; have HTW := Lib.hid three_two; have HVA := Lib.hid three_valid
  have HTH := Lib.hid (fun W => three_c W)
  go_enter Try.func32, Try.ntmps32
  go_wp2_with fail
  refine (HTH.out w).mono ?_; rintro e w1 ⟨iv, fv, rfl, hl1, hx1⟩
  have HL1 := Lib.hid (hl1.ext (Ext.alloc w1 (.cells #[.int .i64 0, .int .i64 1] 3)))
  have hi1 := ints_new w1 [0, 1] 2 rfl (by omega)
  have HC := Lib.hid (Count_c _ _ _ threeL [0, 1] _ HL1.out hi1)
  rw [HCN.out, HTX.out] at HC
  clear hl1 hi1
  go_wp2_with fail
  refine HC.out.mono ?_; rintro e w2 ⟨rfl, hx2⟩
  have hX2 := hx1.trans ((Ext.alloc _ _).trans hx2)
  clear HL1 HC
  go_wp2_with fail
  refine (HTH.out w2).mono ?_; rintro e w3 ⟨iv, fv, rfl, hl3, hx3⟩
  have HL3 := Lib.hid (hl3.ext (Ext.alloc w3 (.cells #[.int .i64 0, .int .i64 1] 3)))
  have hi3 := ints_new w3 [0, 1] 2 rfl (by omega)
  have HC := Lib.hid (Least_c _ _ _ threeL [0, 1] _ HL3.out hi3)
  rw [HLE.out, HTX.out] at HC
  clear hl3 hi3
  go_wp2_with fail
  refine HC.out.mono ?_; rintro e w4 ⟨rfl, hx4⟩
  have hX4 := hX2.trans (hx3.trans ((Ext.alloc _ _).trans hx4))
  clear HL3 HC
  go_wp2_with fail
  refine (HTH.out w4).mono ?_; rintro e w5 ⟨iv, fv, rfl, hl5, hx5⟩
  have HC := Lib.hid (IsCode_c _ _ threeL w5 hl5)
  rw [HCO.out, HVA.out] at HC
  clear hl5
  go_wp2_with fail
  refine HC.out.mono ?_; rintro e w6 ⟨rfl, hx6⟩
  have hX6 := hX4.trans (hx5.trans hx6)
  clear HC
  go_wp2_with fail
  refine (HTH.out w6).mono ?_; rintro e w7 ⟨iv, fv, rfl, hl7, hx7⟩
  obtain ⟨w8, hw8⟩ : ∃ W, W = w7.alloc (.cells #[.int .i64 0, .int .i64 2] 3) := ⟨_, rfl⟩
  obtain ⟨w9, hw9⟩ : ∃ W, W = w8.alloc (.cells #[.int .i64 1] 3) := ⟨_, rfl⟩
  have x8 : Ext w7 w8 := by rw [hw8]; exact Ext.alloc _ _
  have x9 : Ext w8 w9 := by rw [hw9]; exact Ext.alloc _ _
  have z8 : w8.heap.size = w7.heap.size + 1 := by rw [hw8]; simp
  have i8 : Ints w8 (.slice (some ⟨w7.heap.size, 0, none⟩) 2 2) [0, 2] := by rw [hw8]; exact ints_new w7 [0, 2] 2 rfl (by omega)
  have i9 : Ints w9 (.slice (some ⟨w7.heap.size + 1, 0, none⟩) 1 1) [1] := by rw [hw9, ← z8]; exact ints_new w8 [1] 1 rfl (by omega)
  have HC := Lib.hid (CheckTwo_c _ _ _ _ threeL [0, 2] [1] w9 (hl7.ext (x8.trans x9)) (i8.ext x9) i9)
  rw [HTW.out] at HC
  have hX9 := hX6.trans (hx7.trans (x8.trans x9))
  have HW9 : Hid (w9 = (w7.alloc (.cells #[.int .i64 0, .int .i64 2] 3)).alloc (.cells #[.int .i64 1] 3)) := Lib.hid (by rw [hw9, hw8])
  clear hl7 i8 i9 x8 x9 z8 hw8 hw9 w8
  go_wp2_with fail
  rw [← HW9.out]
  refine HC.out.mono ?_; rintro e w10 ⟨rfl, hx10⟩
  go_wp2_with fail
  go_ret
  exact RV.bool rfl (hX9.trans hx10)
end Go.Proofs.Ytgpggmcjggpmpaa
