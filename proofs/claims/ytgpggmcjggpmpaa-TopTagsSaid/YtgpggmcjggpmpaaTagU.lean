/- The rows of a search in memory; a list of lists and a function. -/
import Derived.Test.YtgpggmcjggpmpaaTagO
import Derived.Test.YtgpggmcjggpmpaaTail
import Derived.Test.YtgpggmcjggpmpaaTree
import Derived.ScopeJumps
namespace Go.Proofs.Ytgpggmcjggpmpaa
open Go.RowKit Go.Shelf
set_option linter.unusedVariables false

/-! ## a scope, what stands behind its label walked once -/
theorem wp_scope_once {P : Program} {a : Act} {w : World} {Q : Exit → Act → World → Prop} {c rest : Code} (l : Nat) (J : Act → World → Prop) (μ : Act → World → Nat) (hf : findLabel c l = some (Code.skip.seq rest))
    (pass : ∀ a w, J a w → rest.wp P (Exit.jump l (fun a' w' => J a' w' ∧ μ a' w' < μ a w) Q) a w)
    (first : Hid (∀ a w, J a w → rest.wp P (Exit.jump l J Q) a w) → c.wp P (Exit.jump l J Q) a w) : (Code.scope c).wp P Q a w :=
  wp_scope_jumps l J μ hf (first (Lib.hid fun a w hJ => wp_mono (pass a w hJ) (fun e a' w' h => by
    cases e <;> first | exact h | exact ⟨h.1, h.2.1⟩))) (fun a w hJ => wp_seq (wp_skip (pass a w hJ)))

/-! ## the queue -/
def hCells : List (Value × Value × Value) → List Value
  | [] => []
  | (a, b, c) :: r => a :: b :: c :: hCells r
theorem hCells_snoc : ∀ (vs : List (Value × Value × Value)) (a b c : Value), hCells (vs ++ [(a, b, c)]) = hCells vs ++ [a, b, c]
  | [], a, b, c => rfl
  | (x, y, z) :: r, a, b, c => by simp [hCells, hCells_snoc r]
def HngsR (w : World) (B : Nat) : List (Value × Value × Value) → List Hng → Prop
  | [], [] => True
  | (a, b, c) :: vs, h :: q => HngR w B a b c h ∧ HngsR w B vs q
  | _, _ => False
theorem HngsR.kept {w w' : World} {B : Nat} {row : Option Nat} (hg : w.grownBy w' row) (hr : ∀ r, row = some r → NoI w B r) : ∀ {vs : List (Value × Value × Value)} {q : List Hng}, HngsR w B vs q → HngsR w' B vs q
  | [], [], _ => trivial
  | (a, b, c) :: vs, h :: q, hh => ⟨hh.1.kept hg hr, HngsR.kept hg hr hh.2⟩
  | [], _ :: _, hh => hh
  | _ :: _, [], hh => hh
theorem HngsR.snoc {w : World} {B : Nat} {a b c : Value} {h : Hng} (hh : HngR w B a b c h) : ∀ {vs : List (Value × Value × Value)} {q : List Hng}, HngsR w B vs q → HngsR w B (vs ++ [(a, b, c)]) (q ++ [h])
  | [], [], _ => ⟨hh, trivial⟩
  | (a, b, c) :: vs, h :: q, hs => ⟨hs.1, HngsR.snoc hh hs.2⟩
  | [], _ :: _, hs => hs.elim
  | _ :: _, [], hs => hs.elim
def QR (w : World) (B : Nat) (qv : Value) (q : List Hng) : Prop := ∃ vs, OTail w B 104 3 qv q.length (hCells vs) ∧ HngsR w B vs q
/-- the row of v holds elements of type e, from B on -/
def RowT (w : World) (B : Nat) (e : TypeId) (v : Value) : Prop := ∀ r, v.ownBlock = some r → B ≤ r ∧ ∃ cur, w.heap[r]? = some (.cells cur e (0, 0))
theorem RowT.noI {w : World} {B : Nat} {e : TypeId} {v : Value} (h : RowT w B e v) (he : e ≠ 3) : ∀ r, v.ownBlock = some r → NoI w B r := fun r hr => by
  obtain ⟨h1, cur, h2⟩ := h r hr
  exact ⟨h1, cur, e, _, h2, he⟩
theorem RowT.ne {w : World} {B B' : Nat} {e e' : TypeId} {v v' : Value} (h : RowT w B e v) (h' : RowT w B' e' v') (he : e ≠ e') : ∀ r, v.ownBlock = some r → v'.ownBlock ≠ some r := fun r hr hr' => by
  obtain ⟨_, cur, h2⟩ := h r hr
  obtain ⟨_, cur', h3⟩ := h' r hr'
  rw [h2] at h3; injection h3 with h3; injection h3 with _ h3 _; exact he h3
theorem QR.row {w : World} {B : Nat} {qv : Value} {q : List Hng} (h : QR w B qv q) : RowT w B 104 qv := by
  obtain ⟨vs, h, _⟩ := h; exact h.blk
theorem QR.nil (w : World) (B : Nat) : QR w B (.slice none 0 0) [] := ⟨[], OTail.nil _ _ _ _, trivial⟩
theorem QR.kept {w w' : World} {B : Nat} {qv v : Value} {q : List Hng} {e : TypeId} (h : QR w B qv q) (hg : w.grownBy w' v.ownBlock) (hr : RowT w B e v) (he : e ≠ 3) (he2 : e ≠ 104) : QR w' B qv q := by
  obtain ⟨vs, h1, h2⟩ := h
  exact ⟨vs, h1.kept hg (hr.ne h1.blk he2), h2.kept hg (hr.noI he)⟩
theorem QR.ext {w w' : World} {B : Nat} {qv : Value} {q : List Hng} (h : QR w B qv q) (hx : Ext w w') : QR w' B qv q := by
  obtain ⟨vs, h1, h2⟩ := h
  exact ⟨vs, h1.ext hx, h2.kept (grownBy_of_ext hx none) (fun r e => by cases e)⟩
theorem QR.form {w : World} {B : Nat} {qv : Value} {q : List Hng} (h : QR w B qv q) : ∃ a cap, qv = .slice a q.length cap ∧ q.length ≤ cap ∧ cap ≤ 9223372036854775807 := by
  obtain ⟨vs, h1, _⟩ := h
  rcases h1.2 with ⟨rfl, h0⟩ | ⟨g, o, cap, cur, rfl, _, _, hn, hm, _⟩
  · exact ⟨none, 0, by rw [h0], by omega, by omega⟩
  · exact ⟨_, cap, rfl, hn, hm⟩
/-- what the append of one leaves -/
theorem QR.more {w w' : World} {B : Nat} {qv v' : Value} {q : List Hng} {vs : List (Value × Value × Value)} {a b c : Value} {h : Hng} (h1 : OTail w B 104 3 qv q.length (hCells vs)) (h2 : HngsR w B vs q) (hh : HngR w B a b c h)
    (ho : OTail w' B 104 3 v' (q.length + 1) (hCells vs ++ [a, b, c])) (hg : w.grownBy w' qv.ownBlock) : QR w' B v' (q ++ [h]) := by
  have hn : ∀ r, qv.ownBlock = some r → NoI w B r := RowT.noI h1.blk (by decide)
  refine ⟨vs ++ [(a, b, c)], ?_, (h2.kept hg hn).snoc (hh.kept hg hn)⟩
  rw [List.length_append, hCells_snoc]; exact ho
theorem QR.pop {w : World} {B : Nat} {qv : Value} {q : List Hng} {h : Hng} (hq : QR w B qv (h :: q)) : ∃ g o cap a b c, qv = .slice (some ⟨g, o, none⟩) (q.length + 1) cap ∧ q.length + 1 ≤ cap ∧ cap ≤ 9223372036854775807 ∧ B ≤ g ∧
    w.cell? ⟨g, o, none⟩ = some a ∧ w.cell? ⟨g, o + 1, none⟩ = some b ∧ w.cell? ⟨g, o + 2, none⟩ = some c ∧ HngR w B a b c h ∧ Hid (∀ W A, Ext w W → (if cap = 1 then (some ⟨g, o, none⟩ : Option Addr) else some ⟨g, o + 3, none⟩) = A → QR W B (.slice A q.length (cap - 1)) q) := by
  obtain ⟨vs, h1, h2⟩ := hq
  cases vs with
  | nil => exact h2.elim
  | cons v vs =>
    obtain ⟨a, b, c⟩ := v
    obtain ⟨g, o, cap, rfl, hn, hm, hB, HC⟩ := h1.open_ (by simp)
    refine ⟨g, o, cap, a, b, c, rfl, hn, hm, hB, HC.out 0 a rfl, HC.out 1 b rfl, HC.out 2 c rfl, h2.1, Lib.hid fun W A hx hA => ?_⟩
    have := h1.drop1 (by simp) hA
    exact QR.ext ⟨vs, by simpa [hCells] using this, h2.2⟩ hx
/-! ## what was seen -/
def AllS (w : World) (B : Nat) : List Value → List (List Int) → Prop
  | [], [] => True
  | u :: us, l :: ls => SInts w B u l ∧ AllS w B us ls
  | _, _ => False
theorem AllS.kept {w w' : World} {B : Nat} {row : Option Nat} (hg : w.grownBy w' row) (hr : ∀ r, row = some r → NoI w B r) : ∀ {vs : List Value} {q : List (List Int)}, AllS w B vs q → AllS w' B vs q
  | [], [], _ => trivial
  | _ :: _, _ :: _, hh => ⟨hh.1.kept hg hr, AllS.kept hg hr hh.2⟩
  | [], _ :: _, hh => hh
  | _ :: _, [], hh => hh
theorem AllS.snoc {w : World} {B : Nat} {u : Value} {l : List Int} (hh : SInts w B u l) : ∀ {vs : List Value} {q : List (List Int)}, AllS w B vs q → AllS w B (vs ++ [u]) (q ++ [l])
  | [], [], _ => ⟨hh, trivial⟩
  | _ :: _, _ :: _, hs => ⟨hs.1, AllS.snoc hh hs.2⟩
  | [], _ :: _, hs => hs.elim
  | _ :: _, [], hs => hs.elim
theorem AllS.at_ {w : World} {B : Nat} : ∀ {vs : List Value} {q : List (List Int)}, AllS w B vs q → ∀ i, i < q.length → ∃ u, vs[i]? = some u ∧ SInts w B u (q[i]?.getD [])
  | [], [], _, i, hi => by simp at hi
  | u :: _, l :: _, hs, 0, _ => ⟨u, rfl, hs.1⟩
  | _ :: vs, _ :: q, hs, i + 1, hi => by
    obtain ⟨u, h1, h2⟩ := AllS.at_ hs.2 i (by simpa using hi)
    exact ⟨u, by simpa using h1, by simpa using h2⟩
  | [], _ :: _, hs, _, _ => hs.elim
  | _ :: _, [], hs, _, _ => hs.elim
def SR (w : World) (B : Nat) (sv : Value) (seen : List (List Int)) : Prop := ∃ us, OTail w B 26 1 sv seen.length us ∧ AllS w B us seen
theorem SR.row {w : World} {B : Nat} {sv : Value} {q : List (List Int)} (h : SR w B sv q) : RowT w B 26 sv := by
  obtain ⟨vs, h, _⟩ := h; exact h.blk
theorem SR.nil (w : World) (B : Nat) : SR w B (.slice none 0 0) [] := ⟨[], OTail.nil _ _ _ _, trivial⟩
theorem SR.kept {w w' : World} {B : Nat} {sv v : Value} {q : List (List Int)} {e : TypeId} (h : SR w B sv q) (hg : w.grownBy w' v.ownBlock) (hr : RowT w B e v) (he : e ≠ 3) (he2 : e ≠ 26) : SR w' B sv q := by
  obtain ⟨vs, h1, h2⟩ := h
  exact ⟨vs, h1.kept hg (hr.ne h1.blk he2), h2.kept hg (hr.noI he)⟩
theorem SR.ext {w w' : World} {B : Nat} {sv : Value} {q : List (List Int)} (h : SR w B sv q) (hx : Ext w w') : SR w' B sv q := by
  obtain ⟨vs, h1, h2⟩ := h
  exact ⟨vs, h1.ext hx, h2.kept (grownBy_of_ext hx none) (fun r e => by cases e)⟩
theorem SR.more {w w' : World} {B : Nat} {sv v' : Value} {q : List (List Int)} {us : List Value} {u : Value} {l : List Int} (h1 : OTail w B 26 1 sv q.length us) (h2 : AllS w B us q) (hh : SInts w B u l)
    (ho : OTail w' B 26 1 v' (q.length + 1) (us ++ [u])) (hg : w.grownBy w' sv.ownBlock) : SR w' B v' (q ++ [l]) := by
  have hn : ∀ r, sv.ownBlock = some r → NoI w B r := RowT.noI h1.blk (by decide)
  refine ⟨us ++ [u], ?_, (h2.kept hg hn).snoc (hh.kept hg hn)⟩
  rw [List.length_append]; exact ho
theorem SR.rows {w : World} {B : Nat} {sv : Value} {q : List (List Int)} (h : SR w B sv q) : Rows w sv q := by
  obtain ⟨us, h1, h2⟩ := h
  rcases Nat.eq_zero_or_pos q.length with h0 | h0
  · rcases h1.2 with ⟨rfl, _⟩ | ⟨g, o, cap, cur, rfl, _, _, hn, hm, _⟩
    · exact ⟨none, 0, by rw [h0], by omega, by unfold maxLen; omega, fun i hi => by omega⟩
    · exact ⟨_, cap, rfl, hn, hm, fun i hi => by omega⟩
  · obtain ⟨g, o, cap, rfl, hn, hm, hB, HC⟩ := h1.open_ h0
    refine ⟨_, cap, rfl, hn, hm, fun i hi => ⟨g, o, rfl, ?_⟩⟩
    obtain ⟨u, hu, hs⟩ := h2.at_ i hi
    exact ⟨u, HC.out i u hu, hs.ints⟩
theorem QR.len {w : World} {B : Nat} {qv : Value} {q : List Hng} (h : QR w B qv q) : ∃ a cap, qv = .slice a q.length cap := by
  obtain ⟨a, cap, e, _⟩ := h.form; exact ⟨a, cap, e⟩
theorem SR.len {w : World} {B : Nat} {sv : Value} {q : List (List Int)} (h : SR w B sv q) : ∃ a cap, sv = .slice a q.length cap := by
  obtain ⟨a, cap, e, _⟩ := h.rows; exact ⟨a, cap, e⟩
theorem Tri.kept {w w' : World} {g : Nat} {a b c : Value} {row : Option Nat} (h : Tri w g a b c) (hg : w.grownBy w' row) (hr : row ≠ some g) : Tri w' g a b c :=
  ⟨(hg.block g h.blk.lt (fun e => hr e.symm)).trans h.blk⟩
theorem Tri.apart {w : World} {g B : Nat} {a b c v : Value} {e : TypeId} (h : Tri w g a b c) (hr : RowT w B e v) (he : e ≠ 104) : v.ownBlock ≠ some g := fun hv => by
  obtain ⟨_, cur, h2⟩ := hr g hv
  have h3 : w.heap[g]? = _ := h.blk
  rw [h2] at h3; injection h3 with h3; injection h3 with _ h3 _; exact he h3
theorem RowT.lt {w : World} {B r : Nat} {e : TypeId} {v : Value} (h : RowT w B e v) (hr : v.ownBlock = some r) : r < w.heap.size := by
  obtain ⟨_, cur, h2⟩ := h r hr
  exact (Array.getElem?_eq_some_iff.1 h2).1
theorem RowT.below {w0 w w' : World} {e : TypeId} {v : Value} (h : RowT w w0.heap.size e v) (hx : Ext w0 w) (hg : w.grownBy w' v.ownBlock) : Ext w0 w' := grown_below hx hg (fun r hr => (h r hr).1)
theorem elHang : ElTy Try.prog 102 104 3 72 (.agg #[.slice none 0 0, .slice none 0 0, .slice none 0 0]) := ⟨Try.underlying102, by kernel_rfl, rfl, by omega⟩

/-! ## a list of lists and a function -/
set_option maxHeartbeats 400000 in
theorem indexRow_c (va : Value) (l : List (List Int)) (g : Nat) (lb : Array Value) (p : List Int → Bool) (w : World) (eg : Enters Try.prog g)
    (hg : ∀ W i u, Ext w W → i < l.length → Ints W u (l[i]?.getD []) → Calls Try.prog g (#[u] ++ lb) W (RV (.bool (p (l[i]?.getD []))) W)) (ha : Rows w va l) :
    Calls Try.prog 105 #[va, .func (.func g) #[] lb] w (RV (.int .i64 (firstIdx l.length fun i => p (l[i]?.getD []))) w) := by
  obtain ⟨aa, ca, rfl, hla, hma, Ha⟩ := Rows.open_ ha
  clear ha
  unfold Enters at eg
  have Hg := Lib.hid hg; clear hg
  go_enter Try.func105, Try.ntmps105
  go_wp2_with fail
  go_loopg [8] l.length (fun m i wr => ∃ k : Nat, k ≤ l.length ∧ l.length ≤ k + m ∧ i = .int .i64 k ∧ Ext w wr ∧ Hid (∀ j, j < k → p (l[j]?.getD []) = false))
  case atStart => exact ⟨0, by omega, by omega, rfl, Ext.refl _, fun j hj => by omega⟩
  case round =>
    obtain ⟨k, hk, hk2, rfl, hB, hE⟩ := hrel
    by_cases hlt : k < l.length
    · obtain ⟨ba, oa, rfl, u, hc1, hu⟩ := Ha.out k hlt
      replace hc1 := hB.keep hc1
      have HG := Lib.hid (Hg.out wr k u hB hlt (hu.ext hB))
      clear hu
      generalize hx : l[k]?.getD [] = x at *
      have Hx := Lib.hid hx; clear hx
      cases hxy : p x
      · have HX := Lib.hid hxy; clear hxy
        go_wp2_with (go_at_fn g; refine (HG.out).mono ?_; rw [HX.out]; rintro e w' ⟨rfl, hB2⟩)
        go_roundg (gk-1)
        case measure => omega
        case rel => exact ⟨k+1, by omega, by omega, by go_num, hB.trans hB2, range_step hE.out (by rw [Hx.out]; exact HX.out)⟩
      · have HX := Lib.hid hxy; clear hxy
        go_wp2_with (go_at_fn g; refine (HG.out).mono ?_; rw [HX.out]; rintro e w' ⟨rfl, hB2⟩)
        go_ret
        exact RV.int (by rw [firstIdx_at hlt (by rw [Hx.out]; exact HX.out) hE.out]) (hB.trans hB2)
    · go_wp2_with fail
      go_ret
      exact RV.int (by rw [firstIdx_none (fun j hj => hE.out j (by omega))]) hB
theorem two1_c (u ov : Value) (g : Nat) (a b : List Int) (w : World) (hu : Ints w u a) (hc : w.cell? ⟨g, 2, none⟩ = some ov) (hv : Ints w ov b) : Calls Try.prog 97 #[u, .pointer (some ⟨g, 0, none⟩)] w (RV (.bool (decide (a = b))) w) := by
  have HC := Lib.hid (equal_v u ov a b w hu hv)
  clear hu hv
  generalize decide (a = b) = c at *
  go_enter Try.func97, Try.ntmps97
  go_wp2_with fail
  refine HC.out.mono ?_; rintro e w1 ⟨rfl, hx1⟩
  go_wp2_with fail
  go_ret
  exact RV.bool rfl hx1
theorem seen_c (sv ov : Value) (g : Nat) (seen : List (List Int)) (b : List Int) (w : World) (hs : Rows w sv seen) (hc : w.cell? ⟨g, 2, none⟩ = some ov) (hv : Ints w ov b) :
    Calls Try.prog 96 #[sv, .func (.func 97) #[] #[.pointer (some ⟨g, 0, none⟩)]] w (RV (.bool (decide (b ∈ seen))) w) := by
  have HH := Lib.hid (indexRow_c sv seen 97 #[.pointer (some ⟨g, 0, none⟩)] (fun a => decide (a = b)) w (enters_of Try.func97 (by kernel_rfl) rfl) (fun W i u hW _ hu => two1_c u ov g (seen[i]?.getD []) b W hu (hW.keep hc) (hv.ext hW)) hs)
  clear hs hc hv
  have he : decide (b ∈ seen) = decide (0 ≤ firstIdx seen.length fun i => decide (seen[i]?.getD [] = b)) := by
    rw [firstIdx_ge, Bool.eq_iff_iff, decide_eq_true_eq, List.any_eq_true]
    constructor
    · intro h
      obtain ⟨i, hi, rfl⟩ := List.getElem_of_mem h
      exact ⟨i, by simpa using hi, by simp [hi]⟩
    · rintro ⟨i, hi, e⟩
      have hi : i < seen.length := by simpa using hi
      rw [decide_eq_true_eq, List.getElem?_eq_getElem hi, Option.getD_some] at e
      rw [← e]; exact List.getElem_mem hi
  rw [he]
  generalize firstIdx seen.length (fun i => decide (seen[i]?.getD [] = b)) = n at *
  clear he
  go_enter Try.func96, Try.ntmps96
  go_wp2_with fail
  refine HH.out.mono ?_; rintro e w1 ⟨rfl, hx1⟩
  go_wp2_with fail
  go_ret
  exact RV.bool rfl hx1
end Go.Proofs.Ytgpggmcjggpmpaa
