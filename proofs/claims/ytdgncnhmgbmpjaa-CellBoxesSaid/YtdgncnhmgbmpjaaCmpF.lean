/- slices.CompactFunc at a row of lists of one's own: equal neighbors, once. -/
import Derived.Test.YtdgncnhmgbmpjaaSrtL
import Derived.Test.YtdgncnhmgbmpjaaSame
import Derived.Test.YtdgncnhmgbmpjaaPeek
import Derived.Laws.CopyRow
import Derived.Deep.CutRange
import Derived.Deep.CutBlock
namespace Go.Proofs.Ytdgncnhmgbmpjaa
open Go.RowKit Go.Shelf
set_option linter.unusedVariables false
/-! ## plain -/
def atP {w0 : World} (L : List (RowP w0)) (i : Nat) : RowP w0 := L[i]?.getD default
def keyP {w0 : World} (L : List (RowP w0)) (i : Nat) : List Int := (atP L i).1.2
def ddKP {w0 : World} (L : List (RowP w0)) (j : Nat) : Bool := j == 0 || !(keyP L j == keyP L (j - 1))
def ddToP {w0 : World} (L : List (RowP w0)) (j : Nat) : List (RowP w0) := ((List.range j).filter (ddKP L)).map (atP L)
theorem ddToP_next {w0 : World} (L : List (RowP w0)) (j : Nat) : ddToP L (j + 1) = if ddKP L j then ddToP L j ++ [atP L j] else ddToP L j := by
  unfold ddToP
  rw [List.range_succ, List.filter_append, List.map_append]
  cases h : ddKP L j <;> simp [h]
theorem takeP_next {w0 : World} {L : List (RowP w0)} {k : Nat} (h : k < L.length) : L.take (k + 1) = L.take k ++ [atP L k] := by
  rw [List.take_add_one, List.getElem?_eq_getElem h]
  simp [atP, h]
theorem ddToP_all {w0 : World} {L : List (RowP w0)} : ∀ {k : Nat}, k ≤ L.length → (∀ j, j < k → ddKP L j = true) → ddToP L k = L.take k
  | 0, _, _ => by rw [List.take_zero]; rfl
  | k + 1, hk, h => by
    rw [ddToP_next, h k (by omega), if_pos rfl, ddToP_all (by omega) (fun j hj => h j (by omega)), takeP_next (by omega)]
theorem ddKP_beq {w0 : World} {L : List (RowP w0)} {j : Nat} (h : 1 ≤ j) : ddKP L j = !(keyP L j == keyP L (j - 1)) := by
  unfold ddKP
  have : (j == 0) = false := by rw [beq_eq_false_iff_ne]; omega
  rw [this, Bool.false_or]
theorem atP_set {w0 : World} {M : List (RowP w0)} {k i : Nat} {x : RowP w0} (h : k < M.length) : atP (M.set k x) i = if k = i then x else atP M i := by
  unfold atP
  by_cases e : k = i
  · subst e; rw [List.getElem?_set_self h, if_pos rfl]; rfl
  · rw [List.getElem?_set_ne e, if_neg e]
theorem ownsRowP_set {w : World} {B size n : Nat} {e : TypeId} {g cap : Nat} {xs : List Value} (h : w.ownsRow B e size (.slice (some ⟨g, 0, none⟩) n cap) n xs) {i : Nat} (hi : i < xs.length) (v : Value) :
    (w.setCell ⟨g, i, none⟩ v).ownsRow B e size (.slice (some ⟨g, 0, none⟩) n cap) n (xs.set i v) := by
  obtain ⟨h1, h2⟩ := h
  refine ⟨by simp [h1], ?_⟩
  rcases h2 with ⟨h, _⟩ | ⟨g', cap', cur, hv, hg, hh, hnc, hm, hcs, ht⟩
  · cases h
  · injection hv with ha _ hc
    injection ha with ha; injection ha with ha _ _
    subst ha hc
    refine .inr ⟨g, cap, cur.setIfInBounds i v, rfl, hg, ?_, hnc, hm, by simpa using hcs, ?_⟩
    · simp [World.setCell, Array.getElem?_modify, hh]
    · rw [Array.toList_setIfInBounds, List.take_set, ht]
theorem grownP_tr {a w w' : World} {r : Option Nat} (h : a.grownBy w r) (k : w.grownBy w' r) : a.grownBy w' r :=
  ⟨k.os.trans h.os, k.tape.trans h.tape, k.output.trans h.output, Nat.le_trans h.size k.size, fun x hx hne => (k.block x (Nat.lt_of_lt_of_le hx h.size) hne).trans (h.block x hx hne)⟩
theorem rowP_at {w : World} {B g n cap : Nat} {xs : List Value} {e : TypeId} (h : w.ownsRow B e 1 (.slice (some ⟨g, 0, none⟩) n cap) n xs) : ∃ cur, B ≤ g ∧ w.heap[g]? = some (.cells cur e (0, 0)) ∧ n ≤ cap ∧ cap ≤ maxLen ∧ cur.size = cap * 1 ∧ cur.toList.take (n * 1) = xs := by
  rcases h.2 with ⟨h, _⟩ | ⟨g', cap', cur, hv, hg, hh, hnc, hm, hcs, ht⟩
  · cases h
  · injection hv with ha _ hc
    injection ha with ha; injection ha with ha _ _
    subst ha hc
    exact ⟨cur, hg, hh, hnc, hm, hcs, ht⟩
theorem rowP_frozen {w : World} {B g n cap : Nat} {e : TypeId} {xs : List Value} (h : w.ownsRow B e 1 (.slice (some ⟨g, 0, none⟩) n cap) n xs) (i : Nat) : w.frozen? ⟨g, i, none⟩ = false := by
  obtain ⟨cur, _, hh, _⟩ := rowP_at h
  simp [World.frozen?, hh]
theorem rowP_cell {w0 w : World} {B g n cap : Nat} {M : List (RowP w0)} (h : w.ownsRow B 22 1 (.slice (some ⟨g, 0, none⟩) n cap) n (M.map encL)) {i : Nat} (hi : i < n) (hn : M.length = n) : w.cell? ⟨g, i, none⟩ = some (encL (atP M i)) := by
  obtain ⟨cur, _, hh, _, _, hcs, ht⟩ := rowP_at h
  have h1 : (cur.toList.take (n * 1))[i]? = some (encL (atP M i)) := by
    rw [ht, List.getElem?_map]
    unfold atP
    rw [List.getElem?_eq_getElem (by omega)]; rfl
  rw [List.getElem?_take, if_pos (by omega)] at h1
  unfold World.cell?
  dsimp only
  rw [hh]
  simpa using h1
/-- clear of the row's rest, and the row cut to what stands before it -/
theorem clear_rowP {w0 w : World} {B g n cap k : Nat} {M : List (RowP w0)} (h : w.ownsRow B 22 1 (.slice (some ⟨g, 0, none⟩) n cap) n (M.map encL)) (hn : M.length = n) (hk : k < n) :
    ∃ w', (∀ (A : Option Addr) (m c : Nat) ty, A = some ⟨g, k, none⟩ → m = n - k → (Builtin.clear_ #[26] ty #[.slice A m c]).run Try.prog w = .ok (.tuple #[]) w') ∧ w'.ownsRow B 22 1 (.slice (some ⟨g, 0, none⟩) k cap) k ((M.take k).map encL) ∧ w.grownBy w' (some g) := by
  obtain ⟨cur, hB, hh, hnc, hm, hcs, ht⟩ := rowP_at h
  obtain ⟨zs, hzs⟩ : ∃ zs, zs = (Builtin.zeroCells (Value.slice none 0 0).cells (n - k)).toList := ⟨_, rfl⟩
  have hzl : zs.length = n - k := by rw [hzs]; simp [Builtin.zeroCells, Value.cells]
  have hz1 : ∀ v ∈ zs, v.oneCell' = true := by
    intro v hv
    rw [hzs] at hv
    simp only [Builtin.zeroCells, Value.cells, Array.toList_map, List.mem_map] at hv
    obtain ⟨i, _, rfl⟩ := hv
    have hr : i % 1 = 0 := Nat.mod_one i
    show (#[Value.slice none 0 0][i % 1]!).oneCell' = true
    rw [hr]; rfl
  have hst := run_storeCells_at Try.prog g k 22 zs 0 cur w hh (by rw [hzl]; omega) hz1
  simp only [Nat.add_zero] at hst
  obtain ⟨cs, hcs2⟩ : ∃ cs, cs = (cur.toList.take k ++ zs ++ cur.toList.drop (k + zs.length)).toArray := ⟨_, rfl⟩
  rw [← hcs2] at hst
  have zeroR : ∀ W : World, (zeroValue 22).run Try.prog W = .ok (.slice none 0 0) W := fun W => by kernel_rfl
  refine ⟨w.setRow g cs, ?_, ?_, ⟨rfl, rfl, rfl, by simp, fun k hk hne => setRow_other w g k cs (fun e => hne (by rw [e]))⟩⟩
  · intro A m c ty hA hm2
    subst hA hm2
    obtain ⟨q, hq⟩ : ∃ q, n - k = q + 1 := ⟨n - k - 1, by omega⟩
    rw [hq] at hzs ⊢
    simp only [Builtin.clear_, run_underlying Try.underlying26, zeroR, ← hzs, hst, Sem.run_bind, Sem.run_pure, Result.andThen_ok, List.getElem?_toArray, List.getElem?_cons_zero]
  · have hl : (M.map (encL (w0 := w0))).length = n := by rw [List.length_map, hn]
    refine ⟨by rw [List.length_map, List.length_take]; omega, .inr ⟨g, cap, _, rfl, hB, setRow_heap w g _ cs 22 (0, 0) hh, by omega, hm, ?_, ?_⟩⟩
    · rw [hcs2]; simp [hzl]; omega
    · have h1 : (cur.toList.take k).length = k := by simp; omega
      rw [hcs2]
      show List.take (k * 1) (cur.toList.take k ++ zs ++ cur.toList.drop (k + zs.length)) = _
      rw [Nat.mul_one, List.append_assoc, List.take_append_of_le_length (by omega), List.take_take, Nat.min_self]
      have h2 : cur.toList.take k = (cur.toList.take (n * 1)).take k := by rw [List.take_take, Nat.min_eq_left (by omega)]
      rw [h2, ht, List.map_take]
/-- the state of the second loop: m places written, the next one to be looked at is j -/
structure CompSP {w0 : World} (w wr : World) (B g n cap : Nat) (L M : List (RowP w0)) (m j : Nat) : Prop where
  row : wr.ownsRow B 22 1 (.slice (some ⟨g, 0, none⟩) n cap) n (M.map encL)
  len : M.length = n
  grown : w.grownBy wr (some g)
  head : M.take m = ddToP L j
  rest : ∀ i, j ≤ i + 1 → atP M i = atP L i
  m1 : 1 ≤ m
  mj : m < j
theorem CompSP.put {w0 w wr : World} {B g n cap : Nat} {L M : List (RowP w0)} {m j : Nat} (h : CompSP w wr B g n cap L M m j) (hj : j < n) (hl : L.length = n) (hd : ddKP L j = true) :
    CompSP w (wr.setCell ⟨g, m, none⟩ (encL (atP L j))) B g n cap L (M.set m (atP L j)) (m + 1) (j + 1) := by
  have hm := h.mj
  have h1 := ownsRowP_set h.row (i := m) (by rw [List.length_map, h.len]; omega) (encL (atP L j))
  rw [← List.map_set] at h1
  refine ⟨h1, by rw [List.length_set]; exact h.len, grownP_tr h.grown (grownBy_set wr g m _), ?_, fun i hi => ?_, by omega, by omega⟩
  · rw [ddToP_next, hd, if_pos rfl, ← h.head, takeP_next (by rw [List.length_set, h.len]; omega), List.take_set_of_le (Nat.le_refl _), atP_set (by rw [h.len]; omega), if_pos rfl]
  · rw [atP_set (by rw [h.len]; omega), if_neg (by omega)]
    exact h.rest i (by omega)
theorem CompSP.skip {w0 w wr : World} {B g n cap : Nat} {L M : List (RowP w0)} {m j : Nat} (h : CompSP w wr B g n cap L M m j) (hd : ddKP L j = false) : CompSP w wr B g n cap L M m (j + 1) :=
  ⟨h.row, h.len, h.grown, by rw [ddToP_next, hd, if_neg (by simp)]; exact h.head, fun i hi => h.rest i (by omega), h.m1, by have := h.mj; omega⟩
theorem CompSP.ext {w0 w wr w' : World} {B g n cap : Nat} {L M : List (RowP w0)} {m j : Nat} (h : CompSP w wr B g n cap L M m j) (hx : Ext wr w') : CompSP w w' B g n cap L M m j :=
  ⟨ownsRow_ext h.row hx, h.len, grownP_tr h.grown ⟨hx.os, hx.tape, hx.output, hx.size, fun k hk _ => hx.block k hk⟩, h.head, h.rest, h.m1, h.mj⟩
theorem grownP_ext {w0 w wr : World} {g : Nat} (hx : Ext w0 w) (hg : w0.heap.size ≤ g) (h : w.grownBy wr (some g)) : Ext w0 wr :=
  ⟨h.os.trans hx.os, h.tape.trans hx.tape, h.output.trans hx.output, Nat.le_trans hx.size h.size, fun k hk => (h.block k (Nat.lt_of_lt_of_le hk hx.size) (fun e => by injection e with e; omega)).trans (hx.block k hk)⟩
/-- two rows compare -/
theorem equalP_c {w0 : World} (x y : RowP w0) (w : World) (hx : Ext w0 w) : Calls Try.prog 28 #[x.1.1, y.1.1] w fun e w' => e = .returned (.bool (x.1.2 == y.1.2)) ∧ Ext w w' := by
  have h := equalInts_c x.1.1 y.1.1 x.1.2 y.1.2 w (x.2.ext hx) (y.2.ext hx)
  rw [sameIntsB_iff] at h
  refine h.mono ?_
  rintro e w' ⟨rfl, n, rfl⟩
  exact ⟨rfl, Ext.drewN _ _⟩
theorem drawnP_ext (w : World) : Ext w { w with drawn := w.drawn + 1 } := Ext.drewN w 1
set_option maxHeartbeats 2000000 in
set_option maxRecDepth 100000 in
theorem compactF_c {w0 : World} (v : Value) (L : List (RowP w0)) (w : World) (B : Nat) (h : w.ownsRow B 22 1 v L.length (L.map encL)) (hx0 : Ext w0 w) (hB0 : w0.heap.size ≤ B) (h0 : 0 < L.length) (hl9 : L.length ≤ 100000) :
    Calls Try.prog 27 #[v, .func (.func 28) #[] #[]] w fun e w' => ∃ v', e = .returned v' ∧ w'.ownsRow B 22 1 v' (ddToP L L.length).length ((ddToP L L.length).map encL) ∧ Ext w0 w' := by
  obtain ⟨g, cap, cur0, rfl, hg, hh, hnc, hm, hcs, ht⟩ := rowP_open h h0
  by_cases h2 : L.length < 2
  · have HD : Hid (ddToP L L.length = L) := Lib.hid (by
      rw [ddToP_all (Nat.le_refl _) (fun j hj => ?_), List.take_length]
      obtain rfl : j = 0 := by omega
      rfl)
    have HO := Lib.hid h
    clear h hh hcs ht
    have hd : decide ((L.length : Int) < 2) = true := by simp; omega
    go_enter Try.func27, Try.ntmps27
    go_wp2_with fail
    go_ret
    exact ⟨_, rfl, by rw [HD.out]; exact HO.out, hx0⟩
  · obtain ⟨n, hn⟩ : ∃ n, n = L.length := ⟨_, rfl⟩
    have HROW : Hid (w.ownsRow B 22 1 (.slice (some ⟨g, 0, none⟩) n cap) n (L.map encL)) := Lib.hid (by rw [hn]; exact h)
    rw [← hn] at hl9 h2 hnc ⊢
    have HLN : Hid (L.length = n) := Lib.hid hn.symm
    clear h hh hcs ht hn cur0 h0
    have hd : decide ((n : Int) < 2) = false := by simp; omega
    have HK0 : Hid (∀ j, j < 0 + 1 → ddKP L j = true) := Lib.hid (fun j hj => by
      obtain rfl : j = 0 := by omega
      rfl)
    go_enter Try.func27, Try.ntmps27
    go_wp2_with fail
    go_loopg [5] n (fun z i wr => ∃ p : Nat, p + 1 ≤ n ∧ n ≤ p + 1 + z ∧ i = .int .i64 ((p : Int) + 1) ∧ Ext w wr ∧ Hid (∀ j, j < p + 1 → ddKP L j = true))
    case atStart => exact ⟨0, by omega, by omega, rfl, Ext.refl _, HK0.out⟩
    case round =>
      obtain ⟨p, hp, hpz, rfl, hX, HK⟩ := hrel
      by_cases hlt : p + 1 < n
      · have hlt1 : (p : Int) + 1 < (n : Int) := by omega
        have hrow := ownsRow_ext HROW.out hX
        have hw1 : IntKind.i64.wrap ((p : Int) + 1 - 1) = (p : Int) := by rw [Int.add_sub_cancel]; exact IntWalk.i64_in _ (by omega)
        have hw1b : IntKind.i64.wrap (p : Int) = (p : Int) := IntWalk.i64_in _ (by omega)
        have hw2 : ((p : Int) + 1).toNat = p + 1 := by omega
        have hw3 : (0 : Int) ≤ (p : Int) + 1 := by omega
        have hw4 : (p : Int) < (n : Int) := by omega
        have x0 := rowP_cell hrow (i := p + 1) hlt HLN.out
        have y0 := rowP_cell hrow (i := p) (by omega) HLN.out
        have HDK : Hid (ddKP L (p + 1) = !(keyP L (p + 1) == keyP L p)) := Lib.hid (ddKP_beq (by omega))
        have HEQ := Lib.hid (fun W (hW : Ext wr W) => equalP_c (atP L (p + 1)) (atP L p) W (hx0.trans (hX.trans hW)))
        unfold keyP at HDK
        obtain ⟨xa, xc, hxv, _⟩ := (atP L (p + 1)).2.open_
        obtain ⟨ya, yc, hyv, _⟩ := (atP L p).2.open_
        replace x0 : wr.cell? ⟨g, p + 1, none⟩ = some (.slice xa (atP L (p + 1)).1.2.length xc) := by rw [x0]; exact congrArg some hxv
        replace y0 : wr.cell? ⟨g, p, none⟩ = some (.slice ya (atP L p).1.2.length yc) := by rw [y0]; exact congrArg some hyv
        rw [hxv, hyv] at HEQ
        clear hxv hyv
        generalize (atP L (p + 1)).1.2.length = xn at *
        generalize (atP L p).1.2.length = yn at *
        have q0 := fun s : InC (Ext wr) => s.h.keep x0
        have q4 := fun s : InC (Ext wr) => s.h.keep y0
        have hs : ∀ s : InC (Ext wr), Ext w s.w := fun s => hX.trans s.h
        clear x0 y0 hrow
        cases hxy : ((atP L (p + 1)).1.2 == (atP L p).1.2)
        · rw [hxy] at HDK HEQ
          clear hxy
          go_wp2_with fail
          refine wp_region_peek (Ext wr) (fun _ => True) [] [.look 0, .look 1, .look 2, .look 3, .look 4, .look 5, .look 6, .look 7, .look 8, .look 9, .go 10] (by kernel_rfl) (by kernel_rfl) (by intro c a d v w h; cases d <;> exact h) ?_
          have hd : Ext wr { wr with drawn := wr.drawn + 1 } := drawnP_ext wr
          generalize { wr with drawn := wr.drawn + 1 } = W0 at *
          iterate 10 (refine wpPeek_look rfl ‹_› (fun K hK => ?_); go_simp; first | (refine hK _ ?_; clear hK K) | (refine ⟨_, fun _ => rfl, hK _ ?_⟩; clear hK K))
          clear hs q0 q4
          refine wpPeek_go rfl rfl (fun K hK => ?_)
          go_wp2_with fail
          refine (HEQ.out W0 hd).mono ?_; rintro e w5 ⟨rfl, hx5'⟩
          have hx5 : Ext wr w5 := hd.trans hx5'
          go_wp2_with fail
          refine ⟨KeepE.of (fun h => h.trans hx5') (fun _ => trivial), ?_⟩
          clear hd hx5'
          refine wpPeek_nil ?_
          go_wp2_with fail
          go_roundg (gk-1)
          case measure => omega
          case rel => exact ⟨p+1, by omega, by omega, by go_num, hX.trans hx5, Lib.hid (fun j hj => by
            by_cases e : j = p + 1
            · subst e; rw [HDK.out]; rfl
            · exact HK.out j (by omega))⟩
        · rw [hxy] at HDK HEQ
          clear hxy
          have hcp : ¬ cap = p + 1 := by omega
          go_wp2_with fail
          refine wp_region_peek (Ext wr) (fun _ => True) [] [.look 0, .look 1, .look 2, .look 3, .look 4, .look 5, .look 6, .look 7, .look 8, .look 9, .go 10] (by kernel_rfl) (by kernel_rfl) (by intro c a d v w h; cases d <;> exact h) ?_
          have hd : Ext wr { wr with drawn := wr.drawn + 1 } := drawnP_ext wr
          generalize { wr with drawn := wr.drawn + 1 } = W0 at *
          iterate 10 (refine wpPeek_look rfl ‹_› (fun K hK => ?_); go_simp; first | (refine hK _ ?_; clear hK K) | (refine ⟨_, fun _ => rfl, hK _ ?_⟩; clear hK K))
          clear hs q0 q4
          refine wpPeek_go rfl rfl (fun K hK => ?_)
          go_wp2_with fail
          refine (HEQ.out W0 hd).mono ?_; rintro e w5 ⟨rfl, hx5'⟩
          have hx5 : Ext wr w5 := hd.trans hx5'
          go_wp2_with fail
          refine ⟨KeepE.of (fun h => h.trans hx5') (fun _ => trivial), ?_⟩
          clear hd hx5'
          refine wpPeek_nil ?_
          have hX5 : Ext w w5 := hX.trans hx5
          have hS0 : CompSP w w5 B g n cap L L (p + 1) (p + 1 + 1) := ⟨ownsRow_ext HROW.out hX5, HLN.out, ⟨hX5.os, hX5.tape, hX5.output, hX5.size, fun k hk _ => hX5.block k hk⟩, by rw [ddToP_next, HDK.out, if_neg (by simp), ddToP_all (by rw [HLN.out]; omega) HK.out], fun _ _ => rfl, by omega, by omega⟩
          have HS0 := Lib.hid hS0
          clear hS0 hx5 hX hX5
          obtain ⟨N2, hN2⟩ : ∃ N2, n - (p + 1) = N2 := ⟨_, rfl⟩
          obtain ⟨C2, hC2⟩ : ∃ C2, cap - (p + 1) = C2 := ⟨_, rfl⟩
          have hN3 : N2 + (p + 1) = n := by omega
          have HN3 := Lib.hid hN3; clear hN3
          go_wp2_with fail
          clear hw1 hw1b hw2 hw3 hw4 hlt1 hcp
          obtain ⟨g1, rfl⟩ : ∃ g : Nat, g = gk := ⟨_, rfl⟩
          go_loopg [7, 5] N2 (fun z i v3 wr => ∃ (q m : Nat) (M : List (RowP w0)), q + 1 ≤ N2 ∧ N2 ≤ q + 1 + z ∧ i = .int .i64 ((q : Int) + 1) ∧ v3 = .int .i64 (m : Int) ∧ CompSP w wr B g n cap L M m (p + 1 + q + 1))
          case atStart => exact ⟨0, p + 1, L, by have := HN3.out; omega, by omega, rfl, rfl, HS0.out⟩
          case round =>
            clear HS0
            obtain ⟨q, m, M, hq, hqz, rfl, rfl, hS⟩ := hrel
            have HNQ := HN3.out
            have hmj := hS.mj
            have hmn : m < n := by omega
            have hXr : Ext w0 wr := grownP_ext hx0 (by omega) hS.grown
            by_cases hlq : q + 1 < N2
            · have hlt1 : (q : Int) + 1 < (N2 : Int) := by omega
              have hw1 : IntKind.i64.wrap ((q : Int) + 1 - 1) = (q : Int) := by rw [Int.add_sub_cancel]; exact IntWalk.i64_in _ (by omega)
              have hw1b : IntKind.i64.wrap (q : Int) = (q : Int) := IntWalk.i64_in _ (by omega)
              have hw2 : ((q : Int) + 1).toNat = q + 1 := by omega
              have hw3 : (0 : Int) ≤ (q : Int) + 1 := by omega
              have hw4 : (q : Int) < (N2 : Int) := by omega
              have hw5 : (m : Int) < (n : Int) := by omega
              have x0 := rowP_cell hS.row (i := p + 1 + (q + 1)) (by omega) hS.len
              have y0 := rowP_cell hS.row (i := p + 1 + q) (by omega) hS.len
              rw [hS.rest (p + 1 + (q + 1)) (by omega)] at x0
              rw [hS.rest (p + 1 + q) (by omega)] at y0
              have HDK : Hid (ddKP L (p + 1 + q + 1) = !(keyP L (p + 1 + (q + 1)) == keyP L (p + 1 + q))) := Lib.hid (ddKP_beq (by omega))
              have HPUT := Lib.hid (fun W (h : CompSP w W B g n cap L M m (p + 1 + q + 1)) hd => h.put (by omega) HLN.out hd)
              have HSK := Lib.hid (fun W (h : CompSP w W B g n cap L M m (p + 1 + q + 1)) hd => h.skip hd)
              have HEQ := Lib.hid (fun W (hW : Ext wr W) => equalP_c (atP L (p + 1 + (q + 1))) (atP L (p + 1 + q)) W (hXr.trans hW))
              unfold keyP at HDK
              obtain ⟨xa, xc, hxv, _⟩ := (atP L (p + 1 + (q + 1))).2.open_
              obtain ⟨ya, yc, hyv, _⟩ := (atP L (p + 1 + q)).2.open_
              replace x0 : wr.cell? ⟨g, p + 1 + (q + 1), none⟩ = some (.slice xa (atP L (p + 1 + (q + 1))).1.2.length xc) := by rw [x0]; exact congrArg some hxv
              replace y0 : wr.cell? ⟨g, p + 1 + q, none⟩ = some (.slice ya (atP L (p + 1 + q)).1.2.length yc) := by rw [y0]; exact congrArg some hyv
              have hxe : encL (atP L (p + 1 + q + 1)) = .slice xa (atP L (p + 1 + (q + 1))).1.2.length xc := hxv
              rw [hxe] at HPUT
              rw [hxv, hyv] at HEQ
              clear hxv hyv hxe
              generalize (atP L (p + 1 + (q + 1))).1.2.length = xn at *
              generalize (atP L (p + 1 + q)).1.2.length = yn at *
              have HS := Lib.hid hS; clear hS
              have q0 := fun s : InC (Ext wr) => s.h.keep x0
              have q4 := fun s : InC (Ext wr) => s.h.keep y0
              have hs : ∀ s : InC (Ext wr), Ext w0 s.w := fun s => hXr.trans s.h
              clear y0 HNQ hmj
              cases hxy : ((atP L (p + 1 + (q + 1))).1.2 == (atP L (p + 1 + q)).1.2)
              · rw [hxy] at HDK HEQ
                clear hxy
                go_wp2_with fail
                refine wp_region_peek (Ext wr) (fun _ => True) [] [.look 0, .look 1, .look 2, .look 3, .look 4, .look 5, .look 6, .look 7, .look 8, .look 9, .go 10, .look 11] (by kernel_rfl) (by kernel_rfl) (by intro c a d v w h; cases d <;> exact h) ?_
                have hd : Ext wr { wr with drawn := wr.drawn + 1 } := drawnP_ext wr
                generalize { wr with drawn := wr.drawn + 1 } = W0 at *
                iterate 10 (refine wpPeek_look rfl ‹_› (fun K hK => ?_); go_simp; first | (refine hK _ ?_; clear hK K) | (refine ⟨_, fun _ => rfl, hK _ ?_⟩; clear hK K))
                clear hs q0 q4
                refine wpPeek_go rfl rfl (fun K hK => ?_)
                go_wp2_with fail
                refine (HEQ.out W0 hd).mono ?_; rintro e w5 ⟨rfl, hx5'⟩
                have hx5 : Ext wr w5 := hd.trans hx5'
                go_wp2_with fail
                refine ⟨KeepE.of (fun h => h.trans hx5') (fun _ => trivial), ?_⟩
                clear hd hx5'
                have hd : Ext wr w5 := hx5
                iterate 1 (refine wpPeek_look rfl ‹_› (fun K hK => ?_); go_simp; first | (refine hK _ ?_; clear hK K) | (refine ⟨_, fun _ => rfl, hK _ ?_⟩; clear hK K))
                clear hd
                refine wpPeek_nil ?_
                have HS5 := Lib.hid (HS.out.ext hx5)
                replace x0 := hx5.keep x0
                have z0 := rowP_cell HS5.out.row hmn HS5.out.len
                have f0 := rowP_frozen HS5.out.row m
                have HP := Lib.hid (HPUT.out w5 HS5.out (by rw [HDK.out]; rfl))
                clear hx5
                go_wp2_with fail
                go_roundg (gk-1)
                case measure => omega
                case rel => exact ⟨q+1, m+1, _, by omega, by omega, by go_num, by go_num, HP.out⟩
              · rw [hxy] at HDK HEQ
                clear hxy
                go_wp2_with fail
                refine wp_region_peek (Ext wr) (fun _ => True) [] [.look 0, .look 1, .look 2, .look 3, .look 4, .look 5, .look 6, .look 7, .look 8, .look 9, .go 10, .look 11] (by kernel_rfl) (by kernel_rfl) (by intro c a d v w h; cases d <;> exact h) ?_
                have hd : Ext wr { wr with drawn := wr.drawn + 1 } := drawnP_ext wr
                generalize { wr with drawn := wr.drawn + 1 } = W0 at *
                iterate 10 (refine wpPeek_look rfl ‹_› (fun K hK => ?_); go_simp; first | (refine hK _ ?_; clear hK K) | (refine ⟨_, fun _ => rfl, hK _ ?_⟩; clear hK K))
                clear hs q0 q4
                refine wpPeek_go rfl rfl (fun K hK => ?_)
                go_wp2_with fail
                refine (HEQ.out W0 hd).mono ?_; rintro e w5 ⟨rfl, hx5'⟩
                have hx5 : Ext wr w5 := hd.trans hx5'
                go_wp2_with fail
                refine ⟨KeepE.of (fun h => h.trans hx5') (fun _ => trivial), ?_⟩
                clear hd hx5'
                have hd : Ext wr w5 := hx5
                iterate 1 (refine wpPeek_look rfl ‹_› (fun K hK => ?_); go_simp; first | (refine hK _ ?_; clear hK K) | (refine ⟨_, fun _ => rfl, hK _ ?_⟩; clear hK K))
                clear hd
                refine wpPeek_nil ?_
                have HP := Lib.hid (HSK.out w5 (HS.out.ext hx5) (by rw [HDK.out]; rfl))
                clear hx5 x0
                go_wp2_with fail
                go_roundg (gk-1)
                case measure => omega
                case rel => exact ⟨q+1, m, M, by omega, by omega, by go_num, rfl, HP.out⟩
            · have hlt1 : ¬ (q : Int) + 1 < (N2 : Int) := by omega
              have hpq : p + 1 + q + 1 = n := by omega
              obtain ⟨w6, hclr0, hrow6, hgr6⟩ := clear_rowP hS.row hS.len hmn
              have hclr := fun ty => hclr0 (some ⟨g, m, none⟩) (n - m) (cap - m) ty rfl rfl
              have HEND : Hid (w6.ownsRow B 22 1 (.slice (some ⟨g, 0, none⟩) m cap) (ddToP L n).length ((ddToP L n).map encL) ∧ Ext w0 w6) := Lib.hid (by
                have h1 := hS.head
                rw [hpq] at h1
                have h2 : (M.take m).length = m := by rw [List.length_take, hS.len]; omega
                refine ⟨?_, grownP_ext hx0 (by omega) (grownP_tr hS.grown hgr6)⟩
                rw [← h1, h2]; exact hrow6)
              have hcm : ¬ cap = m := by omega
              have hmI : (m : Int) ≤ (n : Int) := by omega
              have hmI2 : m ≤ n := by omega
              have hmc : m ≤ cap := by omega
              have hmcI : (m : Int) ≤ (cap : Int) := by omega
              clear hrow6 hgr6 hclr0 hS HNQ hmj hpq hXr
              go_wp2_with fail
              go_ret
              exact ⟨_, rfl, HEND.out.1, HEND.out.2⟩
      · have hpn : p + 1 = n := by omega
        have hlt1 : ¬ (p : Int) + 1 < (n : Int) := by omega
        have HDA : Hid (ddToP L L.length = L) := Lib.hid (by rw [ddToP_all (Nat.le_refl _) (fun j hj => HK.out j (by rw [HLN.out] at hj; omega)), List.take_length])
        go_wp2_with fail
        go_ret
        exact ⟨_, rfl, by have h9 := HDA.out; rw [HLN.out] at h9; rw [h9]; have := ownsRow_ext HROW.out hX; rw [HLN.out]; exact this, hx0.trans hX⟩
end Go.Proofs.Ytdgncnhmgbmpjaa
