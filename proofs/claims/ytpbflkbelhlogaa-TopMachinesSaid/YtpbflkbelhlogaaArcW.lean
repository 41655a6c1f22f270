/- slices.Compact at arcs: the walk. -/
import Derived.Test.YtpbflkbelhlogaaArcC
import Derived.Deep.CutRange
import Derived.Deep.CutBlock
namespace Go.Proofs.Ytpbflkbelhlogaa
open Go.RowKit Go.Shelf
set_option linter.unusedVariables false
theorem ddTo_all {l : List Arc} : ∀ {k : Nat}, k ≤ l.length → (∀ j, j < k → ddK l j = true) → ddTo l k = l.take k
  | 0, _, _ => by rw [List.take_zero]; rfl
  | k + 1, hk, h => by
    rw [ddTo_next, h k (by omega), if_pos rfl, ddTo_all (by omega) (fun j hj => h j (by omega)), take_next (by omega) ⟨0, 0, 0, 0⟩]; rfl
theorem ddK_beq {l : List Arc} {j : Nat} (h : 1 ≤ j) : ddK l j = !(arcA l j == arcA l (j - 1)) := by
  unfold ddK
  have : (j == 0) = false := by rw [beq_eq_false_iff_ne]; omega
  rw [this, Bool.false_or]
theorem run_neq_arcW (W : World) (x y : Arc) : (binOp .neq 50 (.agg #[.int .i64 x.f, .int .i64 x.t, .int .i64 x.i, .int .i64 x.o]) (.agg #[.int .i64 y.f, .int .i64 y.t, .int .i64 y.i, .int .i64 y.o])).run Try.prog W = .ok (.bool (!(x == y))) W := by
  have u3 : Try.prog.underlying 3 = some (.int .i64) := Try.underlying3
  have hS : Try.prog.underlying 50 = some (.struct (Try.prog.fieldsOf 50)) := by kernel_rfl
  have hp : Try.prog.stoodInHeld 50 = false := by kernel_rfl
  rw [run_neq_struct, show (10000 : Nat) = 9999 + 1 from rfl, run_equalIn_agg W 9999 50 _ _ hS hp]
  simp only [Program.fieldsOf, Try.underlying50]
  go_simp
  obtain ⟨a, b, c, d⟩ := x
  obtain ⟨a', b', c', d'⟩ := y
  by_cases h1 : a = a' <;> by_cases h2 : b = b' <;> by_cases h3 : c = c' <;> by_cases h4 : d = d' <;> simp [h1, h2, h3, h4]
set_option maxHeartbeats 4000000 in
set_option maxRecDepth 100000 in
theorem compact_c (v : Value) (l : List Arc) (w : World) (B : Nat) (h : OArcs w B v l) (hl9 : l.length ≤ 100000) :
    Calls Try.prog 105 #[v] w fun e w' => ∃ v', e = .returned v' ∧ OArcs w' B v' (ddTo l l.length) ∧ w.grownBy w' v.ownBlock := by
  by_cases h2 : l.length < 2
  · have HD : Hid (ddTo l l.length = l) := Lib.hid (by
      rw [ddTo_all (Nat.le_refl _) (fun j hj => ?_), List.take_length]
      obtain rfl : j = 0 := by omega
      rfl)
    have HO := Lib.hid h
    obtain ⟨a, c, rfl⟩ := row_open h
    clear h
    have hd : decide ((l.length : Int) < 2) = true := by simp; omega
    go_enter Try.func105, Try.ntmps105
    go_wp2_with fail
    go_ret
    exact ⟨_, rfl, by rw [HD.out]; exact HO.out, World.grownBy.refl _ _⟩
  · rcases h.2 with ⟨_, h0⟩ | ⟨g, cap, cur0, rfl, hg, hh, hnc, hm, hcs, ht⟩
    · omega
    obtain ⟨n, hn⟩ : ∃ n, n = l.length := ⟨_, rfl⟩
    have HROW : Hid (w.ownsRow B 50 4 (.slice (some ⟨g, 0, none⟩) n cap) n (l.flatMap encA)) := Lib.hid (by rw [hn]; exact h)
    have hcap : cap ≤ 9223372036854775807 := hm
    rw [← hn] at hl9 h2 hnc ⊢
    have HLN : Hid (l.length = n) := Lib.hid hn.symm
    clear h hh hcs ht hm hn cur0
    have hd : decide ((n : Int) < 2) = false := by simp; omega
    have HK0 : Hid (∀ j, j < 0 + 1 → ddK l j = true) := Lib.hid (fun j hj => by
      obtain rfl : j = 0 := by omega
      rfl)
    have heq := fun W x y => run_eql_arc W x y
    have hne := fun W x y => run_neq_arcW W x y
    go_enter Try.func105, Try.ntmps105
    go_wp2_with fail
    go_loopg [3] n (fun z i wr => ∃ p : Nat, p + 1 ≤ n ∧ n ≤ p + 1 + z ∧ i = .int .i64 ((p : Int) + 1) ∧ Ext w wr ∧ Hid (∀ j, j < p + 1 → ddK l j = true))
    case atStart => exact ⟨0, by omega, by omega, rfl, Ext.refl _, HK0.out⟩
    case round =>
      obtain ⟨p, hp, hpz, rfl, hX, HK⟩ := hrel
      by_cases hlt : p + 1 < n
      · have hlt1 : (p : Int) + 1 < (n : Int) := by omega
        have hC0 : CompS w wr B g n cap l l 1 2 → True := fun _ => trivial
        have hrow := ownsRow_ext HROW.out hX
        have hw1 : IntKind.i64.wrap ((p : Int) + 1 - 1) = (p : Int) := by rw [Int.add_sub_cancel]; exact IntWalk.i64_in _ (by omega)
        have hw2 : ((p : Int) + 1).toNat = p + 1 := by omega
        have hw3 : (0 : Int) ≤ (p : Int) + 1 := by omega
        have hw4 : (p : Int) < (n : Int) := by omega
        obtain ⟨a0, c0, hv0, _, _, HA⟩ := (Arcs.own (by rw [HLN.out]; exact hrow) : Arcs wr (.slice (some ⟨g, 0, none⟩) n cap) l).open_
        obtain ⟨b1, o1, e1, x0, x1, x2, x3⟩ := HA.out (p + 1) (by rw [HLN.out]; exact hlt)
        obtain ⟨b2, o2, e2, y0, y1, y2, y3⟩ := HA.out p (by rw [HLN.out]; omega)
        injection hv0 with hv0 hv1 hv2
        clear hv1 hv2
        rw [← hv0] at e1 e2
        injection e1 with e1; injection e1 with e1 e1b _; subst e1 e1b
        injection e2 with e2; injection e2 with e2 e2b _; subst e2 e2b
        rw [Nat.zero_add] at x0 x1 x2 x3 y0 y1 y2 y3
        have hs : ∀ s : Later wr, Ext w s.w := fun s => hX.trans s.ext
        have q0 := fun s : Later wr => s.ext.keep x0
        have q1 := fun s : Later wr => s.ext.keep x1
        have q2 := fun s : Later wr => s.ext.keep x2
        have q3 := fun s : Later wr => s.ext.keep x3
        have q4 := fun s : Later wr => s.ext.keep y0
        have q5 := fun s : Later wr => s.ext.keep y1
        have q6 := fun s : Later wr => s.ext.keep y2
        have q7 := fun s : Later wr => s.ext.keep y3
        clear x0 x1 x2 x3 y0 y1 y2 y3 hrow hC0 hv0 HA
        have HDK : Hid (ddK l (p + 1) = !(arcA l (p + 1) == arcA l p)) := Lib.hid (ddK_beq (by omega))
        obtain ⟨x, hx⟩ : ∃ x, arcA l (p + 1) = x := ⟨_, rfl⟩
        obtain ⟨y, hy⟩ : ∃ y, arcA l p = y := ⟨_, rfl⟩
        rw [hx] at q0 q1 q2 q3 HDK
        rw [hy] at q4 q5 q6 q7 HDK
        clear hx hy
        cases hxy : (x == y)
        · rw [hxy] at HDK
          go_wp2_with fail
          refine wp_region_later (by kernel_rfl) (by kernel_rfl) ?_
          repeat (go_big_quiet_step (fail))
          refine wpQuiet_nil ?_
          intro w5 hw'
          obtain ⟨⟨_, hx5⟩, rfl⟩ := hw'
          clear hs q0 q1 q2 q3 q4 q5 q6 q7 hxy
          go_wp2_with fail
          go_roundg (gk-1)
          case measure => omega
          case rel => exact ⟨p+1, by omega, by omega, by go_num, hX.trans hx5, Lib.hid (fun j hj => by
            by_cases e : j = p + 1
            · subst e; rw [HDK.out]; rfl
            · exact HK.out j (by omega))⟩
        · rw [hxy] at HDK
          have hcp : ¬ cap = p + 1 := by omega
          go_wp2_with fail
          refine wp_region_later (by kernel_rfl) (by kernel_rfl) ?_
          repeat (go_big_quiet_step (fail))
          refine wpQuiet_nil ?_
          intro w5 hw'
          obtain ⟨⟨_, hx5⟩, rfl⟩ := hw'
          clear hs q0 q1 q2 q3 q4 q5 q6 q7 hxy
          have hX5 : Ext w w5 := hX.trans hx5
          have hS0 : CompS w w5 B g n cap l l (p + 1) (p + 1 + 1) := ⟨ownsRow_ext HROW.out hX5, HLN.out, ⟨hX5.os, hX5.tape, hX5.output, hX5.size, fun k hk _ => hX5.block k hk⟩, by rw [ddTo_next, HDK.out, if_neg (by simp), ddTo_all (by rw [HLN.out]; omega) HK.out], fun _ _ => rfl, by omega, by omega⟩
          have HS0 := Lib.hid hS0
          clear hS0 hx5 hX hX5
          obtain ⟨N2, hN2⟩ : ∃ N2, n - (p + 1) = N2 := ⟨_, rfl⟩
          obtain ⟨C2, hC2⟩ : ∃ C2, cap - (p + 1) = C2 := ⟨_, rfl⟩
          have hN3 : N2 + (p + 1) = n := by omega
          have HN3 := Lib.hid hN3; clear hN3
          go_wp2_with fail
          clear hw1 hw2 hw3 hw4 hlt1 hcp
          obtain ⟨g1, rfl⟩ : ∃ g : Nat, g = gk := ⟨_, rfl⟩
          go_loopg [5, 3] N2 (fun z i v3 wr => ∃ (q m : Nat) (M : List Arc), q + 1 ≤ N2 ∧ N2 ≤ q + 1 + z ∧ i = .int .i64 ((q : Int) + 1) ∧ v3 = .int .i64 (m : Int) ∧ CompS w wr B g n cap l M m (p + 1 + q + 1))
          case atStart => exact ⟨0, p + 1, l, by have := HN3.out; omega, by omega, rfl, rfl, HS0.out⟩
          case round =>
            clear HS0
            obtain ⟨q, m, M, hq, hqz, rfl, rfl, hS⟩ := hrel
            have HNQ := HN3.out
            have hmj := hS.mj
            have hmn : m < n := by omega
            by_cases hlq : q + 1 < N2
            · have hlt1 : (q : Int) + 1 < (N2 : Int) := by omega
              have hw1 : IntKind.i64.wrap ((q : Int) + 1 - 1) = (q : Int) := by rw [Int.add_sub_cancel]; exact IntWalk.i64_in _ (by omega)
              have hw2 : ((q : Int) + 1).toNat = q + 1 := by omega
              have hw3 : (0 : Int) ≤ (q : Int) + 1 := by omega
              have hw4 : (q : Int) < (N2 : Int) := by omega
              have hw5 : (m : Int) < (n : Int) := by omega
              obtain ⟨x0, x1, x2, x3⟩ := hS.cells (i := p + 1 + q + 1) (by omega)
              obtain ⟨y0, y1, y2, y3⟩ := hS.cells (i := p + 1 + q) (by omega)
              rw [hS.rest (p + 1 + q + 1) (by omega)] at x0 x1 x2 x3
              rw [hS.rest (p + 1 + q) (by omega)] at y0 y1 y2 y3
              rw [show (p + 1 + q + 1) * 4 = (p + 1) * 4 + (q + 1) * 4 by omega] at x0 x1 x2 x3
              rw [show (p + 1 + q) * 4 = (p + 1) * 4 + q * 4 by omega] at y0 y1 y2 y3
              have HDK : Hid (ddK l (p + 1 + q + 1) = !(arcA l (p + 1 + q + 1) == arcA l (p + 1 + q))) := Lib.hid (ddK_beq (by omega))
              have HPUT := Lib.hid (fun W (h : CompS w W B g n cap l M m (p + 1 + q + 1)) hd => h.put (by omega) HLN.out hd)
              have HSK := Lib.hid (fun W (h : CompS w W B g n cap l M m (p + 1 + q + 1)) hd => h.skip hd)
              have HS := Lib.hid hS; clear hS
              have hs : ∀ s : Later wr, Ext wr s.w := fun s => s.ext
              have q0 := fun s : Later wr => s.ext.keep x0
              have q1 := fun s : Later wr => s.ext.keep x1
              have q2 := fun s : Later wr => s.ext.keep x2
              have q3 := fun s : Later wr => s.ext.keep x3
              have q4 := fun s : Later wr => s.ext.keep y0
              have q5 := fun s : Later wr => s.ext.keep y1
              have q6 := fun s : Later wr => s.ext.keep y2
              have q7 := fun s : Later wr => s.ext.keep y3
              clear y0 y1 y2 y3 HNQ hmj
              generalize arcA l (p + 1 + q + 1) = x at *
              generalize arcA l (p + 1 + q) = y at *
              have HX := Lib.hid (And.intro x0 (And.intro x1 (And.intro x2 x3))); clear x0 x1 x2 x3
              cases hxy : (x == y)
              · rw [hxy] at HDK
                go_wp2_with fail
                refine wp_region_later (by kernel_rfl) (by kernel_rfl) ?_
                repeat (go_big_quiet_step (fail))
                refine wpQuiet_nil ?_
                intro w5 hw'
                obtain ⟨⟨_, hx5⟩, rfl⟩ := hw'
                clear hs q0 q1 q2 q3 q4 q5 q6 q7 hxy
                have HS5 := Lib.hid (HS.out.ext hx5)
                obtain ⟨x0, x1, x2, x3⟩ := HX.out
                replace x0 := hx5.keep x0
                replace x1 := hx5.keep x1
                replace x2 := hx5.keep x2
                replace x3 := hx5.keep x3
                obtain ⟨u0, z0⟩ := row_cellN HS5.out.row HS5.out.len hmn (c := 0) (by omega)
                obtain ⟨u1, z1⟩ := row_cellN HS5.out.row HS5.out.len hmn (c := 1) (by omega)
                obtain ⟨u2, z2⟩ := row_cellN HS5.out.row HS5.out.len hmn (c := 2) (by omega)
                obtain ⟨u3, z3⟩ := row_cellN HS5.out.row HS5.out.len hmn (c := 3) (by omega)
                rw [Nat.add_zero] at z0
                have f0 := row_frozen HS5.out.row (m * 4)
                have f1 := row_frozen HS5.out.row (m * 4 + 1)
                have f2 := row_frozen HS5.out.row (m * 4 + 2)
                have f3 := row_frozen HS5.out.row (m * 4 + 3)
                have HP := Lib.hid (HPUT.out w5 HS5.out (by rw [HDK.out]; rfl))
                clear hx5
                go_wp2_with fail
                go_roundg (gk-1)
                case measure => omega
                case rel => exact ⟨q+1, m+1, _, by omega, by omega, by go_num, by go_num, HP.out⟩
              · rw [hxy] at HDK
                go_wp2_with fail
                refine wp_region_later (by kernel_rfl) (by kernel_rfl) ?_
                repeat (go_big_quiet_step (fail))
                refine wpQuiet_nil ?_
                intro w5 hw'
                obtain ⟨⟨_, hx5⟩, rfl⟩ := hw'
                clear hs q0 q1 q2 q3 q4 q5 q6 q7 hxy
                have HP := Lib.hid (HSK.out w5 (HS.out.ext hx5) (by rw [HDK.out]; rfl))
                clear hx5
                go_wp2_with fail
                go_roundg (gk-1)
                case measure => omega
                case rel => exact ⟨q+1, m, M, by omega, by omega, by go_num, rfl, HP.out⟩
            · have hlt1 : ¬ (q : Int) + 1 < (N2 : Int) := by omega
              have hpq : p + 1 + q + 1 = n := by omega
              obtain ⟨w6, hclr0, hrow6, hgr6⟩ := clear_arcs hS.row hS.len hmn
              have hclr := fun ty => hclr0 (some ⟨g, m * 4, none⟩) (n - m) (cap - m) ty rfl rfl
              have HEND : Hid (OArcs w6 B (.slice (some ⟨g, 0, none⟩) m cap) (ddTo l n) ∧ w.grownBy w6 (some g)) := Lib.hid (by
                have h1 := hS.head
                rw [hpq] at h1
                have h2 : (M.take m).length = m := by rw [List.length_take, hS.len]; omega
                refine ⟨?_, grown_tr hS.grown hgr6⟩
                unfold OArcs
                rw [← h1, h2]; exact hrow6)
              have hcm : ¬ cap = m := by omega
              have hmI : (m : Int) ≤ (n : Int) := by omega
              have hmI2 : m ≤ n := by omega
              have hmc : m ≤ cap := by omega
              have hmcI : (m : Int) ≤ (cap : Int) := by omega
              clear hrow6 hgr6 hclr0 hS HNQ hmj hpq
              go_wp2_with fail
              go_ret
              exact ⟨_, rfl, HEND.out.1, HEND.out.2⟩
      · have hpn : p + 1 = n := by omega
        have hlt1 : ¬ (p : Int) + 1 < (n : Int) := by omega
        have HDA : Hid (ddTo l l.length = l) := Lib.hid (by rw [ddTo_all (Nat.le_refl _) (fun j hj => HK.out j (by rw [HLN.out] at hj; omega)), List.take_length])
        go_wp2_with fail
        go_ret
        exact ⟨_, rfl, by have h9 := HDA.out; rw [HLN.out] at h9; rw [h9]; have := ownsRow_ext HROW.out hX; unfold OArcs; rw [HLN.out]; exact this, ⟨hX.os, hX.tape, hX.output, hX.size, fun k hk _ => hX.block k hk⟩⟩
end Go.Proofs.Ytpbflkbelhlogaa
