/- Machines: Plain and Compose of the program. -/
import Derived.Test.YtpbflkbelhlogaaCompA
import Derived.Test.YtpbflkbelhlogaaShoP
import Derived.Deep.CutRange
import Derived.Deep.CutBlock
namespace Go.Proofs.Ytpbflkbelhlogaa
open Go.RowKit Go.Shelf
set_option linter.unusedVariables false
def plainA (n : Nat) : List Arc := (List.range n).map fun (s : Nat) => ⟨0, 0, s, s⟩
def plainM (n : Int) : Mac := if inB n 1 6 then ⟨1, plainA n.toNat, [0]⟩ else ⟨0, [], []⟩
def plainK (n : Int) : Int := if inB n 1 6 then 0 else 1
instance : DecidableEq Mac := fun a b => decidable_of_iff (a.s = b.s ∧ a.a = b.a ∧ a.e = b.e) (by cases a; cases b; simp)
theorem plain_made {n : Nat} (h : n ≤ 6) : madeM 1 (plainA n) [0] = ⟨1, plainA n, [0]⟩ ∧ madeK 1 (plainA n) = 0 := by
  have key : (List.range 7).all (fun n => decide (madeM 1 (plainA n) [0] = ⟨1, plainA n, [0]⟩ ∧ madeK 1 (plainA n) = 0)) = true := by decide +kernel
  have := (List.all_eq_true.1 key) n (by simp; omega)
  simpa using this
theorem plainA_next (k : Nat) : plainA (k + 1) = plainA k ++ [⟨0, 0, k, k⟩] := by unfold plainA; rw [List.range_succ, List.map_append]; rfl
theorem plainA_len (k : Nat) : (plainA k).length = k := by simp [plainA]
set_option maxHeartbeats 2000000 in
set_option maxRecDepth 100000 in
theorem Plain_c (n : Int) (w : World) : Calls Try.prog 50 #[.int .i64 n] w (RMac2 (plainM n) (plainK n) w) := by
  obtain ⟨wR, hwR⟩ : ∃ wR, wR = w.alloc (.cells #[.int .i64 0, .slice none 0 0, .slice none 0 0] 25) := ⟨_, rfl⟩
  have hER : Ext w wR := by rw [hwR]; exact Ext.alloc _ _
  have HBX : Hid (Blk wR w.heap.size 25 [.int .i64 0, .slice none 0 0, .slice none 0 0]) := Lib.hid (by rw [hwR]; exact Blk.alloc w _ _)
  have HW := Lib.hid hwR; clear hwR
  have HIN := Lib.hid (within_c n 1 6 wR)
  cases hb : inB n 1 6
  · have HK : Hid (plainM n = ⟨0, [], []⟩ ∧ plainK n = 1) := Lib.hid ⟨by rw [plainM, hb]; rfl, by rw [plainK, hb]; rfl⟩
    rw [hb] at HIN
    clear hb
    have hxx : Ext wR wR := Ext.refl _
    have hM0 : OMac wR wR.heap.size (.slice none 0 0) (.slice none 0 0) ⟨0, [], []⟩ := OMac.nil _ _
    go_enter Try.func50, Try.ntmps50
    go_wp2_with fail
    rw [← HW.out]
    refine HIN.out.mono ?_; rintro e w1 ⟨rfl, rfl⟩
    have hb := HBX.out.ext hxx
    have z0 := hb.cell (i := 0) rfl
    have z1 := hb.cell (i := 1) rfl
    have z2 := hb.cell (i := 2) rfl
    have f0 := hb.frozen 0
    have f1 := hb.frozen 1
    have f2 := hb.frozen 2
    have HBE := Lib.hid (And.intro (hb.store3 (.int .i64 ((⟨0, [], []⟩ : Mac)).s) (.slice none 0 0) (.slice none 0 0)) (And.intro (Ext.store3 (hER.trans hxx) (show w.heap.size ≤ w.heap.size by omega) (.int .i64 ((⟨0, [], []⟩ : Mac)).s) (.slice none 0 0) (.slice none 0 0))
      (hM0.store3 hb (.int .i64 ((⟨0, [], []⟩ : Mac)).s) (.slice none 0 0) (.slice none 0 0))))
    clear hb
    go_wp2_with fail
    obtain ⟨hb2, hx2', hM2⟩ := HBE.out
    clear z0 z1 z2 f0 f1 f2 HBE
    have d0 := hb2.cell (i := 0) rfl
    have d1 := hb2.cell (i := 1) rfl
    have d2 := hb2.cell (i := 2) rfl
    generalize (((wR.setCell ⟨w.heap.size, 0, none⟩ (.int .i64 ((⟨0, [], []⟩ : Mac)).s)).setCell ⟨w.heap.size, 1, none⟩ (.slice none 0 0)).setCell ⟨w.heap.size, 2, none⟩ (.slice none 0 0)) = w4 at *
    refine bodyPost_ret (v := .tuple #[.agg #[.int .i64 ((⟨0, [], []⟩ : Mac)).s, .slice none 0 0, .slice none 0 0], .int .i64 (1)]) (by simp [results, Try.results50, go_sem, d0, d1, d2]) rfl ?_
    exact RMac2.mk HK.out.1 HK.out.2 hM2.mac hx2'
  · obtain ⟨hn1, hn2⟩ := inB_bd hb
    obtain ⟨N, rfl⟩ : ∃ N : Nat, n = N := ⟨n.toNat, by omega⟩
    have HK : Hid (plainM N = ⟨1, plainA N, [0]⟩ ∧ plainK N = 0) := Lib.hid ⟨by rw [plainM, hb, if_pos rfl, Int.toNat_natCast], by rw [plainK, hb]; rfl⟩
    have HPM := Lib.hid (plain_made (n := N) (by omega))
    rw [hb] at HIN
    clear hb
    go_enter Try.func50, Try.ntmps50
    go_wp2_with fail
    rw [← HW.out]
    refine HIN.out.mono ?_; rintro e w1 ⟨rfl, rfl⟩
    go_wp2_with fail
    go_loopg [11, 4] N (fun z i v wr => ∃ (k : Nat) (t4 : Value), k ≤ N ∧ N ≤ k + z ∧ i = .int .i64 k ∧ t4 = v ∧ Ext wR wr ∧ OArcs wr wR.heap.size t4 (plainA k))
    case atStart => exact ⟨0, _, by omega, by omega, rfl, rfl, Ext.refl _, World.ownsRow_nil _ _ _ _⟩
    case round =>
      obtain ⟨k, t4, hk, hkz, rfl, rfl, hX, ho⟩ := hrel
      have HO := Lib.hid ho
      obtain ⟨a4, c4, rfl⟩ := row_open ho
      clear ho
      have hsz : wR.heap.size ≤ wr.heap.size := hX.size
      by_cases hlt : k < N
      · have hltI : (k : Int) < (N : Int) := by omega
        have HNX := Lib.hid (plainA_next k)
        go_wp2_with (at_builtin; refine wpList_appendArc elArc rfl _ _ rfl rfl rfl HO.out rfl hsz (by rw [plainA_len]; omega) ?_; intro v6 w6 ho6 hb6 hg6 _)
        go_roundg (gk-1)
        case measure => omega
        case rel => exact ⟨k+1, _, by omega, by omega, by go_num, rfl, hX.upto hb6 (Nat.le_refl _), by rw [HNX.out]; exact ho6⟩
      · obtain rfl : k = N := by omega
        have hltI : ¬ (k : Int) < (k : Int) := by omega
        have hq := Ext.alloc wr (.cells #[.int .i64 0] 3)
        have hown : OInts 3 (wr.alloc (.cells #[.int .i64 0] 3)) wR.heap.size (.slice (some ⟨wr.heap.size, 0, none⟩) 1 1) [0] := World.ownsRow_lit (size := 1) (e := 3) (base := wR.heap.size) wr #[.int .i64 0] 1 hsz (by unfold maxLen; omega) rfl
        have HMD := Lib.hid (made_c 1 _ _ (plainA k) [0] wR _ (hX.trans hq) (HO.out.ext hq) hown (by rw [plainA_len]; omega))
        rw [HPM.out.1, HPM.out.2] at HMD
        clear hown hq
        go_wp2_with fail
        refine HMD.out.mono ?_; rintro e w7 ⟨av7, ev7, rfl, hM7, hx7⟩
        obtain ⟨⟨a1, c1, rfl⟩, a2, c2, rfl⟩ := hM7.open_
        have hb := HBX.out.ext hx7
        have z0 := hb.cell (i := 0) rfl
        have z1 := hb.cell (i := 1) rfl
        have z2 := hb.cell (i := 2) rfl
        have f0 := hb.frozen 0
        have f1 := hb.frozen 1
        have f2 := hb.frozen 2
        have HBE := Lib.hid (And.intro (hb.store3 (.int .i64 ((⟨1, plainA k, [0]⟩ : Mac)).s) (.slice a1 (plainA k).length c1) (.slice a2 1 c2)) (And.intro (Ext.store3 (hER.trans hx7) (show w.heap.size ≤ w.heap.size by omega) (.int .i64 ((⟨1, plainA k, [0]⟩ : Mac)).s) (.slice a1 (plainA k).length c1) (.slice a2 1 c2))
          (hM7.store3 hb (.int .i64 ((⟨1, plainA k, [0]⟩ : Mac)).s) (.slice a1 (plainA k).length c1) (.slice a2 1 c2))))
        clear hb
        go_wp2_with fail
        obtain ⟨hb2, hx2', hM2⟩ := HBE.out
        clear z0 z1 z2 f0 f1 f2 HBE
        have d0 := hb2.cell (i := 0) rfl
        have d1 := hb2.cell (i := 1) rfl
        have d2 := hb2.cell (i := 2) rfl
        generalize (((w7.setCell ⟨w.heap.size, 0, none⟩ (.int .i64 ((⟨1, plainA k, [0]⟩ : Mac)).s)).setCell ⟨w.heap.size, 1, none⟩ (.slice a1 (plainA k).length c1)).setCell ⟨w.heap.size, 2, none⟩ (.slice a2 1 c2)) = w4 at *
        refine bodyPost_ret (v := .tuple #[.agg #[.int .i64 ((⟨1, plainA k, [0]⟩ : Mac)).s, .slice a1 (plainA k).length c1, .slice a2 1 c2], .int .i64 (0)]) (by simp [results, Try.results50, go_sem, d0, d1, d2]) rfl ?_
        exact RMac2.mk HK.out.1 HK.out.2 hM2.mac hx2'


/-! ## two machines one after another -/
def compOf (n : Mac) (x y : Arc) : Arc := ⟨x.f * n.s + y.f, x.t * n.s + y.t, x.i, y.o⟩
def compX (n : Mac) (x : Arc) (l : List Arc) : List Arc := (l.filter fun y => x.o == y.i).map (compOf n x)
def compA (m n : Mac) : List Arc := m.a.flatMap fun x => compX n x n.a
def compE (m n : Mac) : List Int := m.e.flatMap fun a => n.e.map fun b => a * n.s + b
def composeK (m n : Mac) : Int := if bothK m n = 0 then madeK (m.s * n.s) (compA m n) else bothK m n
def composeM (m n : Mac) : Mac := if bothK m n = 0 then madeM (m.s * n.s) (compA m n) (compE m n) else ⟨0, [], []⟩
theorem compX_next (n : Mac) (x : Arc) {l : List Arc} {k : Nat} (h : k < l.length) : compX n x (l.take (k + 1)) = if (x.o == (arcA l k).i) = true then compX n x (l.take k) ++ [compOf n x (arcA l k)] else compX n x (l.take k) := by
  unfold compX
  rw [take_next h ⟨0, 0, 0, 0⟩, List.filter_append, List.map_append]
  show _ ++ List.map (compOf n x) (List.filter (fun y => x.o == y.i) [arcA l k]) = _
  cases hc : (x.o == (arcA l k).i) <;> simp [hc]
theorem compX_len (n : Mac) (x : Arc) (l : List Arc) : (compX n x l).length ≤ l.length := by unfold compX; rw [List.length_map]; exact List.length_filter_le _ _
theorem flat_leA {α β : Type} (f : α → List β) (b : Nat) : ∀ l : List α, (∀ x, (f x).length ≤ b) → (l.flatMap f).length ≤ l.length * b
  | [], _ => by simp
  | x :: l, h => by
    rw [List.flatMap_cons, List.length_append, List.length_cons, Nat.add_mul]
    have := h x
    have := flat_leA f b l h
    omega
theorem mul_bd {a b : Int} (h1 : 0 ≤ a ∧ a ≤ 9) (h2 : 0 ≤ b ∧ b ≤ 9) : 0 ≤ a * b ∧ a * b ≤ 81 := by
  refine ⟨Int.mul_nonneg h1.1 h2.1, ?_⟩
  have := Int.mul_le_mul h1.2 h2.2 h2.1 (by omega)
  omega
theorem both_ok {m n : Mac} (h : bothK m n = 0) : MacOk m ∧ MacOk n := by
  unfold bothK at h
  split at h
  · rename_i h0; exact ⟨validM_mac h0, validM_mac h⟩
  · rename_i h0; exact absurd h h0
theorem end_bd {m : Mac} (h : MacOk m) : m.e.length ≤ 9 := by
  have h1 := setB_nodup h.e
  have h2 := far_nodup_lt m.s.toNat (m.e.map Int.toNat) (by
    refine (List.pairwise_map).2 (h1.imp_of_mem fun {a b} ha hb hne e => hne ?_)
    have := h.ends a ha; have := h.ends b hb; omega) (fun x hx => by
    obtain ⟨y, hy, rfl⟩ := List.mem_map.1 hx
    have := h.ends y hy; omega)
  rw [List.length_map] at h2
  have := h.s2; omega
set_option maxHeartbeats 8000000 in
set_option maxRecDepth 100000 in
theorem Compose_c (av ev bv fv : Value) (m n : Mac) (w : World) (h : MacR w av ev m) (k : MacR w bv fv n) : Calls Try.prog 52 #[.agg #[.int .i64 m.s, av, ev], .agg #[.int .i64 n.s, bv, fv]] w (RMac2 (composeM m n) (composeK m n) w) := by
  obtain ⟨w1_, hw1_⟩ : ∃ W, W = w.alloc (.cells #[.int .i64 m.s, av, ev] 25) := ⟨_, rfl⟩
  obtain ⟨w2_, hw2_⟩ : ∃ W, W = w1_.alloc (.cells #[.int .i64 n.s, bv, fv] 25) := ⟨_, rfl⟩
  obtain ⟨wR, hwR⟩ : ∃ W, W = w2_.alloc (.cells #[.int .i64 0, .slice none 0 0, .slice none 0 0] 25) := ⟨_, rfl⟩
  have hz1_ : w1_.heap.size = w.heap.size + 1 := by rw [hw1_]; simp
  have hz2_ : w2_.heap.size = w.heap.size + 2 := by rw [hw2_]; simp [hz1_]
  have x1_ : Ext w w1_ := by rw [hw1_]; exact Ext.alloc _ _
  have x2_ : Ext w1_ w2_ := by rw [hw2_]; exact Ext.alloc _ _
  have x3_ : Ext w2_ wR := by rw [hwR]; exact Ext.alloc _ _
  have hER : Ext w wR := x1_.trans (x2_.trans x3_)
  have kk : ∀ i v, #[Value.int .i64 m.s, av, ev][i]? = some v → ∀ W, Ext wR W → W.cell? ⟨w.heap.size, i, none⟩ = some v := fun i v h W hW => kept_alloc w _ _ h W (by rw [← hw1_]; exact x2_.trans (x3_.trans hW))
  have ll : ∀ i v, #[Value.int .i64 n.s, bv, fv][i]? = some v → ∀ W, Ext wR W → W.cell? ⟨w.heap.size + 1, i, none⟩ = some v := fun i v h W hW => by
    have := kept_alloc w1_ _ _ h W (by rw [← hw2_]; exact x3_.trans hW)
    rwa [hz1_] at this
  have k0 := kk 0 _ rfl
  have k1 := kk 1 _ rfl
  have k2 := kk 2 _ rfl
  have l0 := ll 0 _ rfl
  have l1 := ll 1 _ rfl
  have l2 := ll 2 _ rfl
  have HBX : Hid (Blk wR (w.heap.size + 2) 25 [.int .i64 0, .slice none 0 0, .slice none 0 0]) := Lib.hid (by rw [hwR, ← hz2_]; exact Blk.alloc w2_ _ _)
  have H0 : Ext wR wR := Ext.refl _
  have HRM := Lib.hid (h.ext hER)
  have HRN := Lib.hid (k.ext hER)
  obtain ⟨aa, ca, rfl, hla, hma, HA⟩ := (h.ext hER).a.open_
  obtain ⟨ae, ce, rfl, hle, hme, HE⟩ := (h.ext hER).e.open_
  obtain ⟨ba, da, rfl, hlb, hmb, HB⟩ := (k.ext hER).a.open_
  obtain ⟨be, de, rfl, hlf, hmf, HF⟩ := (k.ext hER).e.open_
  have HW := Lib.hid (show wR = ((w.alloc (.cells #[.int .i64 m.s, .slice aa m.a.length ca, .slice ae m.e.length ce] 25)).alloc (.cells #[.int .i64 n.s, .slice ba n.a.length da, .slice be n.e.length de] 25)).alloc (.cells #[.int .i64 0, .slice none 0 0, .slice none 0 0] 25) by rw [hwR, hw2_, hw1_])
  clear hwR hw2_ hw1_ hz1_ hz2_ x1_ x2_ x3_ kk ll h k
  have HBO := Lib.hid (both_c _ _ _ _ m n wR HRM.out HRN.out)
  by_cases hv : bothK m n = 0
  · obtain ⟨hMm, hMn⟩ := both_ok hv
    have HM := Lib.hid hMm
    have HN := Lib.hid hMn
    have HK : Hid (composeM m n = madeM (m.s * n.s) (compA m n) (compE m n) ∧ composeK m n = madeK (m.s * n.s) (compA m n)) := Lib.hid ⟨by rw [composeM, if_pos hv], by rw [composeK, if_pos hv]⟩
    have hma60 := hMm.a
    have hna60 := hMn.a
    have hms1 := hMm.s1
    have hms2 := hMm.s2
    have hns1 := hMn.s1
    have hns2 := hMn.s2
    have hem := end_bd hMm
    have hen := end_bd hMn
    rw [hv] at HBO
    clear hv hMm hMn
    go_enter Try.func52, Try.ntmps52
    go_wp2_with fail
    rw [← HW.out]
    refine HBO.out.mono ?_; rintro e w1 ⟨rfl, hx1⟩
    have HX1 := Lib.hid hx1; clear hx1
    have hE1 : Ext wR w1 := HX1.out
    go_wp2_with fail
    go_loopg [27, 7] m.a.length (fun z i v wr => ∃ (j : Nat) (t7 : Value), j ≤ m.a.length ∧ m.a.length ≤ j + z ∧ i = .int .i64 j ∧ t7 = v ∧ Ext w1 wr ∧ OArcs wr w1.heap.size t7 ((m.a.take j).flatMap fun x => compX n x n.a))
    case atStart => exact ⟨0, _, by omega, by omega, rfl, rfl, Ext.refl _, World.ownsRow_nil _ _ _ _⟩
    case round =>
      obtain ⟨j, t7, hj, hjz, rfl, rfl, hX, ho7⟩ := hrel
      obtain ⟨g1, rfl⟩ : ∃ g : Nat, g = gk := ⟨_, rfl⟩
      have hEr : Ext wR wr := hE1.trans hX
      have HO7 := Lib.hid ho7
      obtain ⟨a7, c7, rfl⟩ := row_open ho7
      clear ho7
      have hfl := flat_leA (fun x => compX n x n.a) 60 (m.a.take j) (fun x => Nat.le_trans (compX_len n x n.a) hna60)
      have hfl2 : (m.a.take j).length ≤ 60 := by rw [List.length_take]; omega
      have HFN0 := Lib.hid (fun (h : j < m.a.length) => flat_next h ⟨0, 0, 0, 0⟩ (fun x => compX n x n.a))
      by_cases hlj : j < m.a.length
      · obtain ⟨b9, o9, rfl, hc0, hc1, hc2, hc3⟩ := HA.out j hlj
        replace hc0 := hEr.keep hc0
        replace hc1 := hEr.keep hc1
        replace hc2 := hEr.keep hc2
        replace hc3 := hEr.keep hc3
        have hst := HM.out.arc hlj
        have HFN : Hid ((m.a.take (j + 1)).flatMap (fun x => compX n x n.a) = (m.a.take j).flatMap (fun x => compX n x n.a) ++ compX n (arcA m.a j) n.a) := Lib.hid (HFN0.out hlj)
        clear HFN0
        generalize (m.a.take j).flatMap (fun x => compX n x n.a) = LL at *
        have hLL : LL.length ≤ 3600 := by have := Nat.mul_le_mul_right 60 hfl2; omega
        clear hfl hfl2
        obtain ⟨x, hx⟩ : ∃ x, x = arcA m.a j := ⟨_, rfl⟩
        rw [← hx] at hc0 hc1 hc2 hc3 hst HFN
        clear hx
        obtain ⟨xf, xt, xi, xo⟩ := x
        simp only at hc0 hc1 hc2 hc3 hst
        obtain ⟨wX, hwX⟩ : ∃ wB, wB = wr.alloc (.cells #[.int .i64 xf, .int .i64 xt, .int .i64 xi, .int .i64 xo] 50) := ⟨_, rfl⟩
        have ewX : Ext wr wX := by rw [hwX]; exact Ext.alloc _ _
        have x0 : ∀ W, Ext wX W → W.cell? ⟨wr.heap.size, 0, none⟩ = some (.int .i64 xf) := by rw [hwX]; exact kept_alloc wr _ _ rfl
        have x1 : ∀ W, Ext wX W → W.cell? ⟨wr.heap.size, 1, none⟩ = some (.int .i64 xt) := by rw [hwX]; exact kept_alloc wr _ _ rfl
        have x2 : ∀ W, Ext wX W → W.cell? ⟨wr.heap.size, 2, none⟩ = some (.int .i64 xi) := by rw [hwX]; exact kept_alloc wr _ _ rfl
        have x3 : ∀ W, Ext wX W → W.cell? ⟨wr.heap.size, 3, none⟩ = some (.int .i64 xo) := by rw [hwX]; exact kept_alloc wr _ _ rfl
        have HwX := Lib.hid hwX; clear hwX
        have hEX : Ext wR wX := hEr.trans ewX
        have hX1 : Ext w1 wX := hX.trans ewX
        have HO7X := Lib.hid (HO7.out.ext ewX)
        have hbX : Blk wX wr.heap.size 50 [.int .i64 xf, .int .i64 xt, .int .i64 xi, .int .i64 xo] := by rw [HwX.out]; exact Blk.alloc wr _ _
        have hnX : (Value.slice a7 LL.length c7).ownBlock ≠ some wr.heap.size := fun e => by
          obtain ⟨cur, h1, _⟩ := ownBlock_cells HO7.out _ e
          have := (Array.getElem?_eq_some_iff.1 h1).1
          omega
        obtain ⟨bX, hbX2⟩ : ∃ b, wr.heap.size = b := ⟨_, rfl⟩
        go_upto_region 8 with fail
        rw [← HwX.out]
        rw [hbX2] at hbX hnX
        clear hc0 hc1 hc2 hc3 x0 x1 x2 x3
        go_wp2_with fail
        go_loopg [34, 7] n.a.length (fun z i v wr => ∃ (k : Nat) (t7 : Value), k ≤ n.a.length ∧ n.a.length ≤ k + z ∧ i = .int .i64 k ∧ t7 = v ∧ Ext w1 wr ∧ Blk wr bX 50 [.int .i64 xf, .int .i64 xt, .int .i64 xi, .int .i64 xo] ∧ t7.ownBlock ≠ some bX ∧ OArcs wr w1.heap.size t7 (LL ++ compX n ⟨xf, xt, xi, xo⟩ (n.a.take k)))
        case atStart => exact ⟨0, _, by omega, by omega, rfl, rfl, hX1, hbX, hnX, by rw [List.take_zero]; have := HO7X.out; simpa [compX] using this⟩
        case round =>
          clear hbX hnX hX1 HO7X
          obtain ⟨k, t7, hk, hkz, rfl, rfl, hXk, hbX, hnX, ho7⟩ := hrel
          have hbXl := hbX.lt
          have hErk : Ext wR wr := hE1.trans hXk
          have HO7k := Lib.hid ho7
          obtain ⟨a8, c8, rfl⟩ := row_open ho7
          clear ho7
          have hcl := compX_len n ⟨xf, xt, xi, xo⟩ (n.a.take k)
          have hcl2 : (n.a.take k).length ≤ 60 := by rw [List.length_take]; omega
          by_cases hlk : k < n.a.length
          · obtain ⟨b9, o9, rfl, hc0, hc1, hc2, hc3⟩ := HB.out k hlk
            replace hc0 := hErk.keep hc0
            replace hc1 := hErk.keep hc1
            replace hc2 := hErk.keep hc2
            replace hc3 := hErk.keep hc3
            have hsy := HN.out.arc hlk
            have HST := Lib.hid (compX_next n ⟨xf, xt, xi, xo⟩ hlk)
            generalize arcA n.a k = y at *
            generalize compX n ⟨xf, xt, xi, xo⟩ (n.a.take k) = CX at *
            obtain ⟨yf, yt, yi, yo⟩ := y
            simp only at hc0 hc1 hc2 hc3 hsy
            obtain ⟨wY, hwY⟩ : ∃ wB, wB = wr.alloc (.cells #[.int .i64 yf, .int .i64 yt, .int .i64 yi, .int .i64 yo] 50) := ⟨_, rfl⟩
            have ewY : Ext wr wY := by rw [hwY]; exact Ext.alloc _ _
            have y0 : ∀ W, Ext wY W → W.cell? ⟨wr.heap.size, 0, none⟩ = some (.int .i64 yf) := by rw [hwY]; exact kept_alloc wr _ _ rfl
            have y1 : ∀ W, Ext wY W → W.cell? ⟨wr.heap.size, 1, none⟩ = some (.int .i64 yt) := by rw [hwY]; exact kept_alloc wr _ _ rfl
            have y2 : ∀ W, Ext wY W → W.cell? ⟨wr.heap.size, 2, none⟩ = some (.int .i64 yi) := by rw [hwY]; exact kept_alloc wr _ _ rfl
            have y3 : ∀ W, Ext wY W → W.cell? ⟨wr.heap.size, 3, none⟩ = some (.int .i64 yo) := by rw [hwY]; exact kept_alloc wr _ _ rfl
            have HwY := Lib.hid hwY; clear hwY
            have hEY : Ext wR wY := hErk.trans ewY
            have hbY := hbX.ext ewY
            have x0 := hbY.cell (i := 0) rfl
            have x1 := hbY.cell (i := 1) rfl
            have x2 := hbY.cell (i := 2) rfl
            have x3 := hbY.cell (i := 3) rfl
            have HBY := Lib.hid hbY; clear hbY
            have hX2 : Ext w1 wY := hXk.trans ewY
            have hYY : Ext wY wY := Ext.refl _
            have HO8 := Lib.hid (HO7k.out.ext ewY)
            have hsz : w1.heap.size ≤ wY.heap.size := hX2.size
            have hm1 := mul_bd (a := xf) (b := n.s) ⟨by omega, by omega⟩ ⟨by omega, by omega⟩
            have hm2 := mul_bd (a := xt) (b := n.s) ⟨by omega, by omega⟩ ⟨by omega, by omega⟩
            have hw1 : IntKind.i64.wrap (xf * n.s) = xf * n.s := IntWalk.i64_in _ (by omega)
            have hw2 : IntKind.i64.wrap (xf * n.s + yf) = xf * n.s + yf := IntWalk.i64_in _ (by omega)
            have hw3 : IntKind.i64.wrap (xt * n.s) = xt * n.s := IntWalk.i64_in _ (by omega)
            have hw4 : IntKind.i64.wrap (xt * n.s + yt) = xt * n.s + yt := IntWalk.i64_in _ (by omega)
            have hlen : (LL ++ CX).length ≤ 1000000 := by rw [List.length_append]; omega
            generalize hLC : LL ++ CX = LC at *
            have HLC := Lib.hid hLC; clear hLC
            by_cases hxy : xo = yi
            · subst hxy
              have hd : (xo == xo) = true := by simp
              go_upto_region 11 with fail
              rw [← HwY.out]
              clear hc0 hc1 hc2 hc3
              go_wp2_with (at_builtin; refine wpList_appendArc elArc rfl _ _ rfl rfl rfl HO8.out rfl hsz hlen ?_; intro v6 w6 ho6 hb6 hg6 hq6)
              go_roundg (gk-1)
              case measure => omega
              case rel => exact ⟨k+1, _, by omega, by omega, by go_num, rfl, hX2.upto hb6 (Nat.le_refl _), (hg6.block bX HBY.out.lt (fun e => hnX e.symm)).trans HBY.out, keep_ne hnX HBY.out.lt hq6, by rw [HST.out, if_pos (by simp), ← List.append_assoc, HLC.out]; exact ho6⟩
            · have hd : (xo == yi) = false := by simp [hxy]
              have HXY := Lib.hid hxy; clear hxy
              go_upto_region 11 with fail
              rw [← HwY.out]
              clear hc0 hc1 hc2 hc3
              go_wp2_with fail
              go_roundg (gk-1)
              case measure => omega
              case rel => exact ⟨k+1, _, by omega, by omega, by go_num, rfl, hX2, HBY.out, hnX, by rw [HST.out, if_neg (by simp [HXY.out]), HLC.out]; exact HO8.out⟩
          · have HTK : Hid (LL ++ compX n ⟨xf, xt, xi, xo⟩ (n.a.take k) = (m.a.take (j + 1)).flatMap fun x => compX n x n.a) := Lib.hid (by rw [HFN.out, List.take_of_length_le (by omega)])
            go_wp2_with fail
            go_roundg (g1-1)
            case measure => omega
            case rel => exact ⟨j+1, _, by omega, by omega, by go_num, rfl, hXk, by rw [← HTK.out]; exact HO7k.out⟩
      · have hjm : j = m.a.length := by omega
        clear HFN0
        have HAL : Hid ((m.a.take j).flatMap (fun x => compX n x n.a) = compA m n) := Lib.hid (by rw [List.take_of_length_le (by omega)]; rfl)
        rw [HAL.out] at HO7 hfl ⊢
        have hLL : (compA m n).length ≤ 3600 := by have := Nat.mul_le_mul_right 60 hfl2; omega
        clear hfl hfl2
        generalize compA m n = CA at *
        obtain ⟨W0, rfl⟩ : ∃ W : World, W = wr := ⟨_, rfl⟩
        have hsz0 : w1.heap.size ≤ W0.heap.size := hX.size
        go_wp2_with fail
        go_loopg [72, 12] m.e.length (fun z i v wr => ∃ (j : Nat) (t12 : Value), j ≤ m.e.length ∧ m.e.length ≤ j + z ∧ i = .int .i64 j ∧ t12 = v ∧ Ext W0 wr ∧ OInts 3 wr W0.heap.size t12 ((m.e.take j).flatMap fun a => n.e.map fun b => a * n.s + b))
        case atStart => exact ⟨0, _, by omega, by omega, rfl, rfl, Ext.refl _, OInts.nil _ _ _⟩
        case round =>
          clear hjm hjz hj hlj
          obtain ⟨j, t12, hj, hjz, rfl, rfl, hX0, ho12⟩ := hrel
          obtain ⟨g2, rfl⟩ : ∃ g : Nat, g = gk := ⟨_, rfl⟩
          have hEr0 : Ext wR wr := hEr.trans hX0
          have HO12 := Lib.hid ho12
          obtain ⟨a12, c12, rfl⟩ := row_open ho12
          clear ho12
          have hfl := flat_leA (fun a : Int => n.e.map fun b => a * n.s + b) 9 (m.e.take j) (fun x => by rw [List.length_map]; exact hen)
          have hfl2 : (m.e.take j).length ≤ 9 := by rw [List.length_take]; omega
          by_cases hlj : j < m.e.length
          · obtain ⟨b9, o9, rfl, hc0⟩ := HE.out j hlj
            replace hc0 := hEr0.keep hc0
            have hx := HM.out.ends (m.e[j]?.getD 0) (by rw [List.getElem?_eq_getElem hlj]; exact List.getElem_mem hlj)
            have HFN := Lib.hid (flat_next hlj 0 (fun a : Int => n.e.map fun b => a * n.s + b))
            generalize m.e[j]?.getD 0 = x at *
            generalize (m.e.take j).flatMap (fun a : Int => n.e.map fun b => a * n.s + b) = LE at *
            have hLE : LE.length ≤ 81 := by have := Nat.mul_le_mul_right 9 hfl2; omega
            clear hfl hfl2
            go_wp2_with fail
            go_loopg [79, 12] n.e.length (fun z i v wr => ∃ (k : Nat) (t12 : Value), k ≤ n.e.length ∧ n.e.length ≤ k + z ∧ i = .int .i64 k ∧ t12 = v ∧ Ext W0 wr ∧ OInts 3 wr W0.heap.size t12 (LE ++ (n.e.take k).map fun b => x * n.s + b))
            case atStart => exact ⟨0, _, by omega, by omega, rfl, rfl, hX0, by rw [List.take_zero]; have := HO12.out; simpa using this⟩
            case round =>
              obtain ⟨k, t12, hk, hkz, rfl, rfl, hXk, ho12⟩ := hrel
              have HO12k := Lib.hid ho12
              obtain ⟨a13, c13, rfl⟩ := row_open ho12
              clear ho12
              have hErk : Ext wR wr := hEr.trans hXk
              by_cases hlk : k < n.e.length
              · obtain ⟨b8, o8, rfl, hc1⟩ := HF.out k hlk
                replace hc1 := hErk.keep hc1
                have hy := HN.out.ends (n.e[k]?.getD 0) (by rw [List.getElem?_eq_getElem hlk]; exact List.getElem_mem hlk)
                have HST : Hid (LE ++ (n.e.take (k + 1)).map (fun b => x * n.s + b) = (LE ++ (n.e.take k).map (fun b => x * n.s + b)) ++ [x * n.s + n.e[k]?.getD 0]) := Lib.hid (by rw [take_next hlk 0, List.map_append, List.append_assoc]; rfl)
                have hml : ((n.e.take k).map (fun b => x * n.s + b)).length ≤ 9 := by rw [List.length_map, List.length_take]; omega
                generalize n.e[k]?.getD 0 = y at *
                have hlen : (LE ++ (n.e.take k).map (fun b => x * n.s + b)).length ≤ 1000000000 := by rw [List.length_append]; omega
                generalize LE ++ (n.e.take k).map (fun b => x * n.s + b) = LC at *
                have hm1 := mul_bd (a := x) (b := n.s) ⟨by omega, by omega⟩ ⟨by omega, by omega⟩
                have hw1 : IntKind.i64.wrap (x * n.s) = x * n.s := IntWalk.i64_in _ (by omega)
                have hw2 : IntKind.i64.wrap (x * n.s + y) = x * n.s + y := IntWalk.i64_in _ (by omega)
                have hszk : W0.heap.size ≤ wr.heap.size := hXk.size
                go_wp2_with (at_builtin; refine wpList_appendInt elInts rfl _ _ rfl rfl rfl HO12k.out rfl hszk hlen ?_; intro v6 w6 ho6 hb6)
                go_roundg (gk-1)
                case measure => omega
                case rel => exact ⟨k+1, _, by omega, by omega, by go_num, rfl, hXk.upto hb6 (Nat.le_refl _), by rw [HST.out]; exact ho6⟩
              · have HTK : Hid (LE ++ (n.e.take k).map (fun b => x * n.s + b) = (m.e.take (j + 1)).flatMap fun a => n.e.map fun b => a * n.s + b) := Lib.hid (by rw [HFN.out, List.take_of_length_le (by omega)])
                go_wp2_with fail
                go_roundg (g2-1)
                case measure => omega
                case rel => exact ⟨j+1, _, by omega, by omega, by go_num, rfl, hXk, by rw [← HTK.out]; exact HO12k.out⟩
          · have HEL : Hid ((m.e.take j).flatMap (fun a : Int => n.e.map fun b => a * n.s + b) = compE m n) := Lib.hid (by rw [List.take_of_length_le (by omega)]; rfl)
            rw [HEL.out] at HO12 hfl ⊢
            clear hfl hfl2
            have hm0 := mul_bd (a := m.s) (b := n.s) ⟨by omega, by omega⟩ ⟨by omega, by omega⟩
            have hw0 : IntKind.i64.wrap (m.s * n.s) = m.s * n.s := IntWalk.i64_in _ (by omega)
            have HMD := Lib.hid (made_c (m.s * n.s) _ _ CA (compE m n) w1 wr (hX.trans hX0) (HO7.out.ext hX0) (HO12.out.low hsz0) (by omega))
            rw [← HK.out.1, ← HK.out.2] at HMD
            clear hm0
            generalize compE m n = CE at *
            generalize composeM m n = MM at *
            generalize composeK m n = MK at *
            go_wp2_with fail
            refine HMD.out.mono ?_; rintro e w7 ⟨av7, ev7, rfl, hM7, hx7⟩
            obtain ⟨⟨a1, c1, rfl⟩, a2, c2, rfl⟩ := hM7.open_
            have hX7 := hE1.trans hx7
            have hb := HBX.out.ext hX7
            have z0 := hb.cell (i := 0) rfl
            have z1 := hb.cell (i := 1) rfl
            have z2 := hb.cell (i := 2) rfl
            have f0 := hb.frozen 0
            have f1 := hb.frozen 1
            have f2 := hb.frozen 2
            have HBE := Lib.hid (And.intro (hb.store3 (.int .i64 (MM).s) (.slice a1 MM.a.length c1) (.slice a2 MM.e.length c2)) (And.intro (Ext.store3 (hER.trans hX7) (show w.heap.size ≤ w.heap.size + 2 by omega) (.int .i64 (MM).s) (.slice a1 MM.a.length c1) (.slice a2 MM.e.length c2))
              (hM7.store3 hb (.int .i64 (MM).s) (.slice a1 MM.a.length c1) (.slice a2 MM.e.length c2))))
            clear hb
            go_wp2_with fail
            obtain ⟨hb2, hx2', hM2⟩ := HBE.out
            clear z0 z1 z2 f0 f1 f2 HBE
            have d0 := hb2.cell (i := 0) rfl
            have d1 := hb2.cell (i := 1) rfl
            have d2 := hb2.cell (i := 2) rfl
            generalize (((w7.setCell ⟨w.heap.size + 2, 0, none⟩ (.int .i64 (MM).s)).setCell ⟨w.heap.size + 2, 1, none⟩ (.slice a1 MM.a.length c1)).setCell ⟨w.heap.size + 2, 2, none⟩ (.slice a2 MM.e.length c2)) = w4 at *
            refine bodyPost_ret (v := .tuple #[.agg #[.int .i64 (MM).s, .slice a1 MM.a.length c1, .slice a2 MM.e.length c2], .int .i64 (MK)]) (by simp [results, Try.results52, go_sem, d0, d1, d2]) rfl ?_
            exact RMac2.mk rfl rfl hM2.mac hx2'
  · rw [show composeM m n = ⟨0, [], []⟩ by rw [composeM, if_neg hv], show composeK m n = bothK m n by rw [composeK, if_neg hv]]
    have hk : (bothK m n != 0) = true := by simp [hv]
    generalize bothK m n = kb at *
    clear hv
    have hxx : ∀ W, Ext wR W → OMac W W.heap.size (.slice none 0 0) (.slice none 0 0) ⟨0, [], []⟩ := fun W _ => OMac.nil _ _
    go_enter Try.func52, Try.ntmps52
    go_wp2_with fail
    rw [← HW.out]
    refine HBO.out.mono ?_; rintro e w1 ⟨rfl, hx1⟩
    have hM0 := hxx w1 hx1

    have hb := HBX.out.ext hx1
    have z0 := hb.cell (i := 0) rfl
    have z1 := hb.cell (i := 1) rfl
    have z2 := hb.cell (i := 2) rfl
    have f0 := hb.frozen 0
    have f1 := hb.frozen 1
    have f2 := hb.frozen 2
    have HBE := Lib.hid (And.intro (hb.store3 (.int .i64 ((⟨0, [], []⟩ : Mac)).s) (.slice none 0 0) (.slice none 0 0)) (And.intro (Ext.store3 (hER.trans hx1) (show w.heap.size ≤ w.heap.size + 2 by omega) (.int .i64 ((⟨0, [], []⟩ : Mac)).s) (.slice none 0 0) (.slice none 0 0))
      (hM0.store3 hb (.int .i64 ((⟨0, [], []⟩ : Mac)).s) (.slice none 0 0) (.slice none 0 0))))
    clear hb
    go_wp2_with fail
    obtain ⟨hb2, hx2', hM2⟩ := HBE.out
    clear z0 z1 z2 f0 f1 f2 HBE
    have d0 := hb2.cell (i := 0) rfl
    have d1 := hb2.cell (i := 1) rfl
    have d2 := hb2.cell (i := 2) rfl
    generalize (((w1.setCell ⟨w.heap.size + 2, 0, none⟩ (.int .i64 ((⟨0, [], []⟩ : Mac)).s)).setCell ⟨w.heap.size + 2, 1, none⟩ (.slice none 0 0)).setCell ⟨w.heap.size + 2, 2, none⟩ (.slice none 0 0)) = w4 at *
    refine bodyPost_ret (v := .tuple #[.agg #[.int .i64 ((⟨0, [], []⟩ : Mac)).s, .slice none 0 0, .slice none 0 0], .int .i64 (kb)]) (by simp [results, Try.results52, go_sem, d0, d1, d2]) rfl ?_

    exact RMac2.mk rfl rfl hM2.mac hx2'

end Go.Proofs.Ytpbflkbelhlogaa
