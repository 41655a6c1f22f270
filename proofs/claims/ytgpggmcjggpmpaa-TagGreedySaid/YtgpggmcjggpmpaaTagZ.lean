/- The longest words first: Greedy of both packages. -/
import Derived.Test.YtgpggmcjggpmpaaTagG
import Derived.Test.YtgpggmcjggpmpaaTagR
import Derived.Test.YtgpggmcjggpmpaaTagW
namespace Go.Proofs.Ytgpggmcjggpmpaa
open Go.RowKit Go.Shelf
set_option linter.unusedVariables false

def bestI : Option Nat → Int
  | none => -1
  | some b => (b : Int)
def lngI (l : Lex) : Option Nat → Int
  | none => 0
  | some b => ((wrd l (b : Int)).length : Int)
theorem longer_iff {l : Lex} (h : NoE l) {o : Option Nat} {j : Nat} (hj : j < l.n) : longerB l o j = decide (lngI l o < ((wrd l (j : Int)).length : Int)) := by
  cases o with
  | none =>
    have := h j hj
    show true = decide ((0 : Int) < _)
    rw [decide_eq_true]
    have e : (wrd l (j : Int)).length = (itm l.i j).w.length := rfl
    omega
  | some b => simp [longerB, lngI]
theorem longest_next (l : Lex) (r : List Int) (j : Nat) : longest l r (j + 1) = if fits l r j && longerB l (longest l r j) j then some j else longest l r j := rfl
theorem greedy_none {l : Lex} {r : List Int} (h : longest l r l.n = none) (f : Nat) : greedyF l f r = [] := by
  cases f with
  | zero => rfl
  | succ f => rw [greedyF, h]
theorem greedy_some {l : Lex} (hl : NoE l) {r : List Int} {b f : Nat} (h : longest l r l.n = some b) (hf : r.length ≤ f) :
    b < l.n ∧ 1 ≤ (wrd l (b : Int)).length ∧ (wrd l (b : Int)).length ≤ r.length ∧ 1 ≤ f ∧ greedyF l f r = (b : Int) :: greedyF l (f - 1) (r.drop (wrd l (b : Int)).length) := by
  obtain ⟨hb, hfit⟩ := longest_fits _ _ h
  have h1 : 0 < (wrd l (b : Int)).length := hl b hb
  have h2 : (wrd l (b : Int)).length ≤ r.length := by
    have := (prefix_drop.1 hfit)
    have h3 := congrArg List.length this
    rw [List.length_append, List.length_drop] at h3
    omega
  refine ⟨hb, h1, h2, by omega, ?_⟩
  obtain ⟨f', rfl⟩ : ∃ f', f = f' + 1 := ⟨f - 1, by omega⟩
  rw [greedyF, h]; rfl
/-- what Greedy answers -/
def greedyA (l : Lex) (t : List Int) : List Int := if textK l t = 0 then greedyL l t else []
def greedyB (l : Lex) (t : List Int) : Int := if textK l t = 0 then greedyN l t else 0
def RGr (L : List Int) (n k : Int) (w : World) (e : Ending) (w' : World) : Prop := ∃ v, e = .returned (.tuple #[v, .int .i64 n, .int .i64 k]) ∧ Ints w' v L ∧ Ext w w'
theorem ints_nil_g (w : World) : Ints w (.slice none 0 0) [] := ⟨none, 0, rfl, Nat.zero_le _, by unfold maxLen; omega, fun i hi => by simp at hi⟩
set_option maxHeartbeats 4000000 in
set_option maxRecDepth 100000 in
theorem Greedy_c (iv fv tv : Value) (l : Lex) (t : List Int) (w : World) (h : LexR w iv fv l) (ht : Ints w tv t) : Calls Try.prog 38 #[.agg #[iv, fv], tv] w (RGr (greedyA l t) (greedyB l t) (textK l t) w) := by
  obtain ⟨wA, hwA⟩ : ∃ wA, wA = w.alloc (.cells #[iv, fv] 25) := ⟨_, rfl⟩
  have hE0 : Ext w wA := by rw [hwA]; exact Ext.alloc _ _
  have k0 : ∀ W, Ext wA W → W.cell? ⟨w.heap.size, 0, none⟩ = some iv := by rw [hwA]; exact kept_alloc w _ _ rfl
  have k1 : ∀ W, Ext wA W → W.cell? ⟨w.heap.size, 1, none⟩ = some fv := by rw [hwA]; exact kept_alloc w _ _ rfl
  have H0 : Ext wA wA := Ext.refl _
  have HR := Lib.hid (h.ext hE0)
  obtain ⟨ai, ci, rfl, hli, hmi, HI⟩ := (h.ext hE0).i.open_
  obtain ⟨af, cf, rfl, hlf, hmf, HF⟩ := Rows.open_ (h.ext hE0).f
  have HT := Lib.hid (ht.ext hE0)
  obtain ⟨at_, ct, rfl, hlt0, hmt0, HTO⟩ := (ht.ext hE0).open_
  have HC1 := Lib.hid (check_c _ _ _ l t wA HR.out HT.out)
  have hz0 := hE0.size
  have HW := Lib.hid hwA; clear hwA h ht
  by_cases h0 : textK l t = 0
  · obtain ⟨hl, h12, _⟩ := textK_ok h0
    rw [h0] at HC1
    rw [h0, show greedyA l t = greedyL l t by unfold greedyA; rw [if_pos h0], show greedyB l t = greedyN l t by unfold greedyB; rw [if_pos h0]]
    have HL := Lib.hid hl
    have hn8 : l.i.length ≤ 8 := hl.n8
    clear h0 hl
    go_enter Try.func38, Try.ntmps38
    go_wp2_with fail
    rw [← HW.out]
    refine HC1.out.mono ?_; rintro e w1 ⟨rfl, hx1⟩
    go_wp2_with fail
    go_loopg [8, 9] t.length (fun z ov aa wr => ∃ (pre : List Int) (p f : Nat) (v : Value), v = ov ∧ p ≤ t.length ∧ t.length ≤ p + z ∧ t.length ≤ p + f ∧ pre.length ≤ p ∧ aa = .int .i64 (p : Int) ∧ Ext wA wr ∧ OInts 3 wr wA.heap.size v pre ∧ Hid (greedyL l t = pre ++ greedyF l f (t.drop p)) ∧ Hid ((wordsL l pre).length = p))
    case atStart => exact ⟨[], 0, t.length, _, rfl, by omega, by omega, by omega, by simp, rfl, hx1, OInts.nil _ _ _, Lib.hid rfl, Lib.hid rfl⟩
    case round =>
      clear hx1
      obtain ⟨pre, p, f, ov, rfl, hp, hz, hf, hpl, rfl, hX, hown, hg, hwl⟩ := hrel
      obtain ⟨g1, rfl⟩ : ∃ g : Nat, g = gk := ⟨_, rfl⟩
      obtain ⟨r, hr⟩ : ∃ r, r = t.drop p := ⟨_, rfl⟩
      have HRD := Lib.hid hr; clear hr
      have HRL : Hid (r.length = t.length - p) := Lib.hid (by rw [HRD.out, List.length_drop])
      rw [← HRD.out] at hg
      go_wp2_with fail
      go_loopg [24, 10, 11] l.i.length (fun z jj bb ll wr => ∃ j : Nat, j ≤ l.i.length ∧ l.i.length ≤ j + z ∧ jj = .int .i64 j ∧ bb = .int .i64 (bestI (longest l r j)) ∧ ll = .int .i64 (lngI l (longest l r j)) ∧ Ext wA wr ∧ OInts 3 wr wA.heap.size ov pre)
      case atStart => exact ⟨0, by omega, by omega, rfl, rfl, rfl, hX, hown⟩
      case round =>
        clear hX hown
        obtain ⟨j, hj, hjz, rfl, rfl, rfl, hX, hown⟩ := hrel
        by_cases hlt : j < l.i.length
        · obtain ⟨bi, oi, rfl, u, hc0, hu, hc1, hc2⟩ := HI.out j hlt
          obtain ⟨A', hA'⟩ : ∃ A', (if ct = p then (at_ : Option Addr) else at_.map fun a => a.add p) = A' := ⟨_, rfl⟩
          replace hc0 := hX.keep hc0
          replace hc1 := hX.keep hc1
          replace hc2 := hX.keep hc2
          have HWD : Hid (wrd l (j : Int) = (itm l.i j).w) := Lib.hid rfl
          have hL1 := HL.out.wo j hlt
          have HFI : Hid (fits l r j = (wrd l (j : Int)).isPrefixOf r) := Lib.hid rfl
          have HPL := Lib.hid (fun h => at_place (w := wrd l (j : Int)) (t := t) (i := p) h)
          have HPE := Lib.hid (fun h => past_end (w := wrd l (j : Int)) (t := t) (i := p) (by omega) h)
          rw [← HRD.out] at HPL HPE
          have HLI := Lib.hid (longer_iff HL.out.noE (o := longest l r j) hlt)
          have HNX := Lib.hid (longest_next l r j)
          have HEQ := Lib.hid (fun W (hW : Ext wA W) A' (hA' : p < t.length → (∃ b o, at_ = some ⟨b, o, none⟩ ∧ (if ct = p then (some ⟨b, o, none⟩ : Option Addr) else some ⟨b, o + p, none⟩) = A')) (h : p + (wrd l (j : Int)).length ≤ t.length) (hlp : p < t.length) => equal_v (.slice A' (wrd l (j : Int)).length (ct - p)) u (r.take (wrd l (j : Int)).length) (wrd l (j : Int)) W
            (by obtain ⟨b, o, e1, e2⟩ := hA' hlp
                have ht2 := HT.out.ext hW
                rw [e1] at ht2
                have h1 := ints_take (ints_drop ht2 (k := p) (by omega) e2) (i := (wrd l (j : Int)).length) (by rw [List.length_drop]; omega)
                rw [HRD.out]; exact h1) (by rw [HWD.out]; exact hu.ext hW))
          rw [← HWD.out] at hL1 hu
          obtain ⟨au, cu, rfl, hlu, hmu, _⟩ := hu.open_
          clear hu
          generalize (itm l.i j).k = xk at *
          generalize (itm l.i j).c = xc at *
          generalize hLL : (wrd l (j : Int)).length = L at *
          have HLL := Lib.hid hLL; clear hLL
          generalize longest l r j = o at *
          generalize hlg : lngI l o = lg at *
          have HLG := Lib.hid hlg; clear hlg
          obtain ⟨wB, hwB⟩ : ∃ wB, wB = wr.alloc (.cells #[.slice au L cu, .int .i64 xk, .int .i64 xc] 28) := ⟨_, rfl⟩
          have hEB : Ext wr wB := by rw [hwB]; exact Ext.alloc _ _
          have b0 : ∀ W, Ext wB W → W.cell? ⟨wr.heap.size, 0, none⟩ = some (.slice au L cu) := by rw [hwB]; exact kept_alloc wr _ _ rfl
          have b1 : ∀ W, Ext wB W → W.cell? ⟨wr.heap.size, 1, none⟩ = some (.int .i64 xk) := by rw [hwB]; exact kept_alloc wr _ _ rfl
          have b2 : ∀ W, Ext wB W → W.cell? ⟨wr.heap.size, 2, none⟩ = some (.int .i64 xc) := by rw [hwB]; exact kept_alloc wr _ _ rfl
          have HWB := Lib.hid hwB; clear hwB
          have hXB : Ext wA wB := hX.trans hEB
          have HOB := Lib.hid (hown.ext hEB)
          clear hown
          have hjI : (j : Int) < (l.i.length : Int) := by omega
          have hsA : ∀ s : Later wB, Ext wA s.w := fun s => hXB.trans s.ext
          have hsB : ∀ s : Later wB, Ext wB s.w := fun s => s.ext
          have H0B : Ext wB wB := Ext.refl _
          clear A' hA'
          by_cases hlong : lg < (L : Int)
          · have hdL : decide (lg < (L : Int)) = true := decide_eq_true hlong
            rw [hdL] at HLI
            by_cases hend : p + L ≤ t.length
            · have hdE : decide ((p : Int) + (L : Int) ≤ (t.length : Int)) = true := by simp; omega
              have hpl := HPL.out hend
              obtain ⟨bt, ot, rfl, _⟩ := HTO.out p (by omega)
              obtain ⟨A', hA'⟩ : ∃ A', (if ct = p then (some ⟨bt, ot, none⟩ : Option Addr) else some ⟨bt, ot + p, none⟩) = A' := ⟨_, rfl⟩
              have HEQ2 := Lib.hid (fun s : Later wB => HEQ.out s.w (hXB.trans s.ext) A' (fun _ => ⟨bt, ot, rfl, hA'⟩) hend (by omega))
              rw [hpl] at HEQ2
              generalize hpp : (wrd l (j : Int)).isPrefixOf r = pb at *
              clear hpl HPL HPE HEQ
              cases pb
              · have HSM : Hid (longest l r (j + 1) = o) := Lib.hid (by rw [HNX.out, HFI.out, Bool.false_and]; rfl)
                clear hpp HNX HFI HLI
                go_wp2_with fail
                rw [← HWB.out]
                clear hc0 hc1 hc2
                refine wp_region_later (by kernel_rfl) (by kernel_rfl) ?_
                repeat (go_big_quiet_step ((first | (go_at_call 59; first | with_reducible exact Later.call (HEQ2.out _)))))
                refine wpQuiet_nil ?_
                intro w5 hw'
                obtain ⟨⟨_, hx5⟩, rfl⟩ := hw'
                clear hsA hsB
                go_wp2_with fail
                go_roundg (gk-1)
                case measure => omega
                case rel => exact ⟨j+1, by omega, by omega, by go_num, by rw [HSM.out], by rw [HSM.out, HLG.out], hXB.trans hx5, HOB.out.ext hx5⟩
              · have HSM : Hid (longest l r (j + 1) = some j) := Lib.hid (by rw [HNX.out, HFI.out, HLI.out, Bool.true_and]; rfl)
                clear hpp HNX HFI HLI
                go_wp2_with fail
                rw [← HWB.out]
                clear hc0 hc1 hc2
                refine wp_region_later (by kernel_rfl) (by kernel_rfl) ?_
                repeat (go_big_quiet_step ((first | (go_at_call 59; first | with_reducible exact Later.call (HEQ2.out _)))))
                refine wpQuiet_nil ?_
                intro w5 hw'
                obtain ⟨⟨_, hx5⟩, rfl⟩ := hw'
                have hX5 := hXB.trans hx5
                have HO5 := Lib.hid (HOB.out.ext hx5)
                clear hsA hsB
                have hs5 : ∀ s : Later w5, Ext wB s.w := fun s => hx5.trans s.ext
                go_wp2_with fail
                refine wp_region_later (by kernel_rfl) (by kernel_rfl) ?_
                repeat (go_big_quiet_step (fail))
                refine wpQuiet_nil ?_
                intro w6 hw'
                obtain ⟨⟨_, hx6⟩, rfl⟩ := hw'
                clear hs5
                go_wp2_with fail
                go_roundg (gk-1)
                case measure => omega
                case rel => exact ⟨j+1, by omega, by omega, by go_num, by rw [HSM.out]; rfl, by rw [HSM.out]; first | rfl | (show _ = Value.int .i64 ((wrd l (j : Int)).length : Int); rw [HLL.out]), hX5.trans hx6, HO5.out.ext hx6⟩
            · have hdE : decide ((p : Int) + (L : Int) ≤ (t.length : Int)) = false := by simp; omega
              have hpl := HPE.out hend
              have HSM : Hid (longest l r (j + 1) = o) := Lib.hid (by rw [HNX.out, HFI.out, hpl, Bool.false_and]; rfl)
              clear hpl HPL HPE HEQ hend HNX HFI HLI
              go_wp2_with fail
              rw [← HWB.out]
              clear hc0 hc1 hc2
              refine wp_region_later (by kernel_rfl) (by kernel_rfl) ?_
              repeat (go_big_quiet_step (fail))
              refine wpQuiet_nil ?_
              intro w5 hw'
              obtain ⟨⟨_, hx5⟩, rfl⟩ := hw'
              clear hsA hsB
              go_wp2_with fail
              go_roundg (gk-1)
              case measure => omega
              case rel => exact ⟨j+1, by omega, by omega, by go_num, by rw [HSM.out], by rw [HSM.out, HLG.out], hXB.trans hx5, HOB.out.ext hx5⟩
          · have hdL : decide (lg < (L : Int)) = false := decide_eq_false hlong
            rw [hdL] at HLI
            have HSM : Hid (longest l r (j + 1) = o) := Lib.hid (by rw [HNX.out, HLI.out, Bool.and_false]; rfl)
            clear HPL HPE HEQ HNX HFI HLI
            go_wp2_with fail
            rw [← HWB.out]
            clear hc0 hc1 hc2
            refine wp_region_later (by kernel_rfl) (by kernel_rfl) ?_
            repeat (go_big_quiet_step (fail))
            refine wpQuiet_nil ?_
            intro w5 hw'
            obtain ⟨⟨_, hx5⟩, rfl⟩ := hw'
            clear hsA hsB
            go_wp2_with fail
            go_roundg (gk-1)
            case measure => omega
            case rel => exact ⟨j+1, by omega, by omega, by go_num, by rw [HSM.out], by rw [HSM.out, HLG.out], hXB.trans hx5, HOB.out.ext hx5⟩
        · have hjl : j = l.i.length := by omega
          subst hjl
          have HOB := Lib.hid hown; clear hown
          have hsz := hX.size
          cases ho : longest l r l.i.length with
          | none =>
            have HGN := Lib.hid (greedy_none ho f)
            simp only [bestI, lngI]
            go_wp2_with fail
            go_ret3
            refine ⟨ov, by rw [show greedyN l t = (p : Int) by unfold greedyN; rw [hg.out, HGN.out, List.append_nil, hwl.out]]; rfl, ?_, hE0.trans hX⟩
            rw [hg.out, HGN.out, List.append_nil]; exact HOB.out.ints
          | some b =>
            obtain ⟨hb1, hb2, hb3, hb4, hb5⟩ := greedy_some HL.out.noE (f := f) ho (by rw [HRL.out]; omega)
            have HGS := Lib.hid hb5; clear hb5
            rw [HRL.out] at hb3
            simp only [bestI, lngI]
            have hdb : decide ((b : Int) < 0) = false := by simp
            have hwS : IntKind.i64.wrap ((p : Int) + ((wrd l (b : Int)).length : Int)) = ((p + (wrd l (b : Int)).length : Nat) : Int) := by rw [IntWalk.i64_in _ (by omega)]; omega
            have HWL : Hid ((wordsL l (pre ++ [(b : Int)])).length = p + (wrd l (b : Int)).length) := Lib.hid (by rw [wordsL_app, List.length_append, hwl.out]; simp [wordsL])
            have HDR : Hid (r.drop (wrd l (b : Int)).length = t.drop (p + (wrd l (b : Int)).length)) := Lib.hid (by rw [HRD.out, List.drop_drop])
            rw [HDR.out] at HGS
            generalize (wrd l (b : Int)).length = L at *
            go_wp2_with (at_builtin; refine wpList_appendInt elInts rfl _ _ rfl rfl rfl HOB.out rfl hsz (by omega) ?_; intro v' w' ho2 hb2)
            have hX2 : Ext wA w' := hX.upto hb2 (Nat.le_refl _)
            go_wp2_with fail
            go_roundg (g1-1)
            case measure => omega
            case rel => exact ⟨pre ++ [(b : Int)], p + L, f - 1, _, rfl, by omega, by omega, by omega, by simp; omega, by go_num, hX2, ho2, Lib.hid (by rw [hg.out, HGS.out]; simp), HWL⟩

  · rw [show greedyA l t = [] by unfold greedyA; rw [if_neg h0], show greedyB l t = 0 by unfold greedyB; rw [if_neg h0]]
    generalize textK l t = k at *
    have hk : (k != 0) = true := by simpa using h0
    clear h0
    go_enter Try.func38, Try.ntmps38
    go_wp2_with fail
    rw [← HW.out]
    refine HC1.out.mono ?_; rintro e w1 ⟨rfl, hx1⟩
    go_wp2_with fail
    go_ret3
    exact ⟨_, rfl, ints_nil_g _, hE0.trans hx1⟩
set_option maxHeartbeats 4000000 in
set_option maxRecDepth 100000 in
theorem rGreedy_c (iv fv tv : Value) (l : Lex) (t : List Int) (w : World) (h : LexR w iv fv l) (ht : Ints w tv t) : Calls Try.prog 39 #[.agg #[iv, fv], tv] w (RGr (greedyA l t) (greedyB l t) (textK l t) w) := by
  obtain ⟨wA, hwA⟩ : ∃ wA, wA = w.alloc (.cells #[iv, fv] 25) := ⟨_, rfl⟩
  have hE0 : Ext w wA := by rw [hwA]; exact Ext.alloc _ _
  have k0 : ∀ W, Ext wA W → W.cell? ⟨w.heap.size, 0, none⟩ = some iv := by rw [hwA]; exact kept_alloc w _ _ rfl
  have k1 : ∀ W, Ext wA W → W.cell? ⟨w.heap.size, 1, none⟩ = some fv := by rw [hwA]; exact kept_alloc w _ _ rfl
  have H0 : Ext wA wA := Ext.refl _
  have HR := Lib.hid (h.ext hE0)
  obtain ⟨ai, ci, rfl, hli, hmi, HI⟩ := (h.ext hE0).i.open_
  obtain ⟨af, cf, rfl, hlf, hmf, HF⟩ := Rows.open_ (h.ext hE0).f
  have HT := Lib.hid (ht.ext hE0)
  obtain ⟨at_, ct, rfl, hlt0, hmt0, HTO⟩ := (ht.ext hE0).open_
  have HC1 := Lib.hid (texted_c _ _ _ l t wA HR.out HT.out)
  have hz0 := hE0.size
  have HW := Lib.hid hwA; clear hwA h ht
  by_cases h0 : textK l t = 0
  · obtain ⟨hl, h12, _⟩ := textK_ok h0
    rw [h0] at HC1
    rw [h0, show greedyA l t = greedyL l t by unfold greedyA; rw [if_pos h0], show greedyB l t = greedyN l t by unfold greedyB; rw [if_pos h0]]
    have HL := Lib.hid hl
    have hn8 : l.i.length ≤ 8 := hl.n8
    clear h0 hl
    go_enter Try.func39, Try.ntmps39
    go_wp2_with fail
    rw [← HW.out]
    refine HC1.out.mono ?_; rintro e w1 ⟨rfl, hx1⟩
    go_wp2_with fail
    go_loopg [8, 9] t.length (fun z ov aa wr => ∃ (pre : List Int) (p f : Nat) (v : Value), v = ov ∧ p ≤ t.length ∧ t.length ≤ p + z ∧ t.length ≤ p + f ∧ pre.length ≤ p ∧ aa = .int .i64 (p : Int) ∧ Ext wA wr ∧ OInts 3 wr wA.heap.size v pre ∧ Hid (greedyL l t = pre ++ greedyF l f (t.drop p)) ∧ Hid ((wordsL l pre).length = p))
    case atStart => exact ⟨[], 0, t.length, _, rfl, by omega, by omega, by omega, by simp, rfl, hx1, OInts.nil _ _ _, Lib.hid rfl, Lib.hid rfl⟩
    case round =>
      clear hx1
      obtain ⟨pre, p, f, ov, rfl, hp, hz, hf, hpl, rfl, hX, hown, hg, hwl⟩ := hrel
      obtain ⟨g1, rfl⟩ : ∃ g : Nat, g = gk := ⟨_, rfl⟩
      obtain ⟨r, hr⟩ : ∃ r, r = t.drop p := ⟨_, rfl⟩
      have HRD := Lib.hid hr; clear hr
      have HRL : Hid (r.length = t.length - p) := Lib.hid (by rw [HRD.out, List.length_drop])
      rw [← HRD.out] at hg
      go_wp2_with fail
      go_loopg [11, 10] l.i.length (fun z jj bb wr => ∃ j : Nat, j ≤ l.i.length ∧ l.i.length ≤ j + z ∧ jj = .int .i64 j ∧ bb = .int .i64 (bestI (longest l r j)) ∧ Ext wA wr ∧ OInts 3 wr wA.heap.size ov pre)
      case atStart => exact ⟨0, by omega, by omega, rfl, rfl, hX, hown⟩
      case round =>
        clear hX hown
        obtain ⟨j, hj, hjz, rfl, rfl, hX, hown⟩ := hrel
        have HOB := Lib.hid hown; clear hown
        by_cases hlt : j < l.i.length
        · have HCM := Lib.hid (fun W (hW : Ext wA W) => comes_c _ _ _ l t (p : Int) j W (HR.out.ext hW) HL.out (HT.out.ext hW) hlt (by omega) (by omega) (by omega))
          rw [comesB_fits hp, ← HRD.out] at HCM
          have HFI : Hid (fits l r j = (wrd l (j : Int)).isPrefixOf r) := Lib.hid rfl
          have HNX := Lib.hid (longest_next l r j)
          have HCM2 := Lib.hid (fun s : Later wr => HCM.out s.w (hX.trans s.ext))
          clear HCM
          have hsA : ∀ s : Later wr, Ext wA s.w := fun s => hX.trans s.ext
          have hjI : (j : Int) < (l.i.length : Int) := by omega
          generalize (wrd l (j : Int)).isPrefixOf r = pb at *
          cases pb
          · have HSM : Hid (longest l r (j + 1) = longest l r j) := Lib.hid (by rw [HNX.out, HFI.out, Bool.false_and]; rfl)
            clear HNX HFI
            generalize longest l r j = o at *
            generalize hbi : bestI o = bi at *
            have HBI := Lib.hid hbi; clear hbi
            go_wp2_with fail
            refine wp_region_later (by kernel_rfl) (by kernel_rfl) ?_
            repeat (go_big_quiet_step ((first | (go_at_call 82; first | with_reducible exact Later.call (HCM2.out _)))))
            refine wpQuiet_nil ?_
            intro w5 hw'
            obtain ⟨⟨_, hx5⟩, rfl⟩ := hw'
            clear HCM2 hsA
            have hX5 := hX.trans hx5
            go_wp2_with fail
            go_roundg (gk-1)
            case measure => omega
            case rel => exact ⟨j+1, by omega, by omega, by go_num, by rw [HSM.out, HBI.out], hX5, HOB.out.ext hx5⟩
          · obtain ⟨bi, oi, rfl, u, hc0, hu, _⟩ := HI.out j hlt
            have q0 := fun s : Later wr => (hX.trans s.ext).keep hc0
            have HWD : Hid (wrd l (j : Int) = (itm l.i j).w) := Lib.hid rfl
            rw [← HWD.out] at hu
            obtain ⟨au, cu, rfl, _⟩ := hu.open_
            clear hu
            cases ho : longest l r j with
            | none =>
              have HSM : Hid (longest l r (j + 1) = some j) := Lib.hid (by rw [HNX.out, HFI.out, ho]; rfl)
              clear HNX HFI
              simp only [bestI]
              go_wp2_with fail
              refine wp_region_later (by kernel_rfl) (by kernel_rfl) ?_
              repeat (go_big_quiet_step ((first | (go_at_call 82; first | with_reducible exact Later.call (HCM2.out _)))))
              refine wpQuiet_nil ?_
              intro w5 hw'
              obtain ⟨⟨_, hx5⟩, rfl⟩ := hw'
              clear HCM2 hsA q0
              have hX5 := hX.trans hx5
              go_wp2_with fail
              go_roundg (gk-1)
              case measure => omega
              case rel => exact ⟨j+1, by omega, by omega, by go_num, by rw [HSM.out]; rfl, hX5, HOB.out.ext hx5⟩
            | some b =>
              have hbn : b < l.i.length := by have := (longest_fits _ _ ho).1; omega
              obtain ⟨bi', oi', he, ub, hcb, hub, _⟩ := HI.out b hbn
              injection he with he; injection he with he1 he2; subst he1 he2
              have q1 := fun s : Later wr => (hX.trans s.ext).keep hcb
              have HWB : Hid (wrd l (b : Int) = (itm l.i b).w) := Lib.hid rfl
              rw [← HWB.out] at hub
              obtain ⟨ab, cb, rfl, _⟩ := hub.open_
              clear hub
              have hbI : (b : Int) < (l.i.length : Int) := by omega
              have hdb : decide ((b : Int) < 0) = false := by simp
              have HLB : Hid (longerB l (some b) j = decide ((wrd l (b : Int)).length < (wrd l (j : Int)).length)) := Lib.hid rfl
              rw [ho, HLB.out] at HNX
              simp only [bestI]
              by_cases hlg : (wrd l (b : Int)).length < (wrd l (j : Int)).length
              · have HSM : Hid (longest l r (j + 1) = some j) := Lib.hid (by rw [HNX.out, HFI.out, decide_eq_true hlg]; rfl)
                clear HNX HFI HLB
                generalize (wrd l (b : Int)).length = Lb at *
                generalize (wrd l (j : Int)).length = Lj at *
                have hd1 : decide ((Lb : Int) < (Lj : Int)) = true := by simp; omega
                go_wp2_with fail
                refine wp_region_later (by kernel_rfl) (by kernel_rfl) ?_
                repeat (go_big_quiet_step ((first | (go_at_call 82; first | with_reducible exact Later.call (HCM2.out _)))))
                refine wpQuiet_nil ?_
                intro w5 hw'
                obtain ⟨⟨_, hx5⟩, rfl⟩ := hw'
                clear HCM2 hsA q0 q1
                have hX5 := hX.trans hx5
                go_wp2_with fail
                go_roundg (gk-1)
                case measure => omega
                case rel => exact ⟨j+1, by omega, by omega, by go_num, by rw [HSM.out]; rfl, hX5, HOB.out.ext hx5⟩
              · have HSM : Hid (longest l r (j + 1) = some b) := Lib.hid (by rw [HNX.out, HFI.out, decide_eq_false hlg]; rfl)
                clear HNX HFI HLB
                generalize (wrd l (b : Int)).length = Lb at *
                generalize (wrd l (j : Int)).length = Lj at *
                have hd1 : decide ((Lb : Int) < (Lj : Int)) = false := by simp; omega
                go_wp2_with fail
                refine wp_region_later (by kernel_rfl) (by kernel_rfl) ?_
                repeat (go_big_quiet_step ((first | (go_at_call 82; first | with_reducible exact Later.call (HCM2.out _)))))
                refine wpQuiet_nil ?_
                intro w5 hw'
                obtain ⟨⟨_, hx5⟩, rfl⟩ := hw'
                clear HCM2 hsA q0 q1
                have hX5 := hX.trans hx5
                go_wp2_with fail
                go_roundg (gk-1)
                case measure => omega
                case rel => exact ⟨j+1, by omega, by omega, by go_num, by rw [HSM.out]; rfl, hX5, HOB.out.ext hx5⟩
        · have hjl : j = l.i.length := by omega
          subst hjl
          have hsz := hX.size
          cases ho : longest l r l.i.length with
          | none =>
            have HGN := Lib.hid (greedy_none ho f)
            simp only [bestI]
            go_wp2_with fail
            go_ret3
            refine ⟨ov, by rw [show greedyN l t = (p : Int) by unfold greedyN; rw [hg.out, HGN.out, List.append_nil, hwl.out]]; rfl, ?_, hE0.trans hX⟩
            rw [hg.out, HGN.out, List.append_nil]; exact HOB.out.ints
          | some b =>
            obtain ⟨hb1, hb2, hb3, hb4, hb5⟩ := greedy_some HL.out.noE (f := f) ho (by rw [HRL.out]; omega)
            have HGS := Lib.hid hb5; clear hb5
            rw [HRL.out] at hb3
            simp only [bestI]
            have hb1' : b < l.i.length := hb1
            obtain ⟨bi, oi, rfl, u, hc0, hu, _⟩ := HI.out b hb1'
            have HWD : Hid (wrd l (b : Int) = (itm l.i b).w) := Lib.hid rfl
            rw [← HWD.out] at hu
            obtain ⟨au, cu, rfl, _⟩ := hu.open_
            clear hu
            have hbI : (b : Int) < (l.i.length : Int) := by omega
            have hdb : decide ((b : Int) < 0) = false := by simp
            have hwS : IntKind.i64.wrap ((p : Int) + ((wrd l (b : Int)).length : Int)) = ((p + (wrd l (b : Int)).length : Nat) : Int) := by rw [IntWalk.i64_in _ (by omega)]; omega
            have HWL : Hid ((wordsL l (pre ++ [(b : Int)])).length = p + (wrd l (b : Int)).length) := Lib.hid (by rw [wordsL_app, List.length_append, hwl.out]; simp [wordsL])
            have HDR : Hid (r.drop (wrd l (b : Int)).length = t.drop (p + (wrd l (b : Int)).length)) := Lib.hid (by rw [HRD.out, List.drop_drop])
            rw [HDR.out] at HGS
            generalize (wrd l (b : Int)).length = L at *
            go_wp2_with (at_builtin; refine wpList_appendInt elInts rfl _ _ rfl rfl rfl HOB.out rfl hsz (by omega) ?_; intro v' w' ho2 hb2; have hX2 : Ext wA w' := hX.upto hb2 (Nat.le_refl _); have hc02 := hX2.keep hc0)
            go_wp2_with fail
            go_roundg (g1-1)
            case measure => omega
            case rel => exact ⟨pre ++ [(b : Int)], p + L, f - 1, _, rfl, by omega, by omega, by omega, by simp; omega, by go_num, hX2, ho2, Lib.hid (by rw [hg.out, HGS.out]; simp), HWL⟩

  · rw [show greedyA l t = [] by unfold greedyA; rw [if_neg h0], show greedyB l t = 0 by unfold greedyB; rw [if_neg h0]]
    generalize textK l t = k at *
    have hk : (k != 0) = true := by simpa using h0
    clear h0
    go_enter Try.func39, Try.ntmps39
    go_wp2_with fail
    rw [← HW.out]
    refine HC1.out.mono ?_; rintro e w1 ⟨rfl, hx1⟩
    go_wp2_with fail
    go_ret3
    exact ⟨_, rfl, ints_nil_g _, hE0.trans hx1⟩
end Go.Proofs.Ytgpggmcjggpmpaa
