/- What SchoolRefuses needs: rows that may be written, and a pair whose rules were laid by the statement. -/
import Derived.Test.YtpmlcfgbfhgpgaaGreatDoorJoinF
import Derived.Test.YtpmlcfgbfhgpgaaGreatDoorLaw9Q
import Derived.Test.YtpmlcfgbfhgpgaaGreatDoorIntX
namespace Go.Proofs.YtpmlcfgbfhgpgaaGreatDoor
open Go.RowKit Go.Shelf
set_option linter.unusedVariables false
theorem IntX.ext {w w' w'' : World} (h : IntX w w') (hx : Ext w' w'') : IntX w w'' := by
 intro g cur e hb
 obtain ⟨cur', h1, h2⟩ := h g cur e hb
 have hl : g < w'.heap.size := by
  rcases Nat.lt_or_ge g w'.heap.size with hl | hl
  ·exact hl
  ·rw [Array.getElem?_eq_none hl] at h1; cases h1
 exact ⟨cur', (hx.block g hl).trans h1, h2⟩
def between (lo hi k : Nat) : Bool := decide (lo ≤ k) && decide (k < hi)
theorem between_iff {lo hi k : Nat} : between lo hi k = true ↔ lo ≤ k ∧ k < hi := by simp [between]
def NumsAt (w : World) (Q : Nat → Bool) (a : Option Addr) (n : Nat) : Prop := ∀ j, j < n → ∃ q o cur z, a = some ⟨q, o, none⟩ ∧ w.heap[q]? = some (.cells cur 3 (0, 0)) ∧ Q q = true ∧ w.cell? ⟨q, o + j, none⟩ = some (.int .i64 z)
theorem NumsAt.of {w : World} {B : Nat} {a : Option Addr} {n c : Nat} {l : List Int} (h : OInts 3 w B (.slice a n c) l) : NumsAt w (between B w.heap.size) a n := by
 intro j hj
 obtain ⟨a', c', hv, _, _, H⟩ := h.ints
 injection hv with e1 e2 e3
 subst e1
 obtain ⟨q, o, ha, hc⟩ := H j (by omega)
 have hr : (Value.slice a n c).ownBlock = some q := by rw [ha]; rfl
 obtain ⟨cur, h1, _⟩ := ownBlock_cells h q hr
 exact ⟨q, o, cur, _, ha, h1, between_iff.2 (ownsRow_lt h hr), hc⟩
theorem NumsAt.ext {w w' : World} {Q : Nat → Bool} {a : Option Addr} {n : Nat} (h : NumsAt w Q a n) (hx : Ext w w') : NumsAt w' Q a n := fun j hj => by
 obtain ⟨q, o, cur, z, ha, h1, h2, h3⟩ := h j hj
 have hl : q < w.heap.size := by
  rcases Nat.lt_or_ge q w.heap.size with hl | hl
  ·exact hl
  ·rw [Array.getElem?_eq_none hl] at h1; cases h1
 exact ⟨q, o, cur, z, ha, (hx.block q hl).trans h1, h2, hx.keep h3⟩
def RulesAt (w : World) (Q : Nat → Bool) (a : Option Addr) (n : Nat) : Prop := ∀ k, k < n → ∃ g o cur z ta tn tc la ln lc, a = some ⟨g, o, none⟩ ∧ w.heap[g]? = some (.cells cur 70 (0, 0)) ∧ Q g = true ∧
 w.cell? ⟨g, o + k * 4, none⟩ = some (.int .i64 z) ∧ w.cell? ⟨g, o + k * 4 + 1, none⟩ = some (.slice ta tn tc) ∧ w.cell? ⟨g, o + k * 4 + 2, none⟩ = some (.slice la ln lc) ∧ NumsAt w Q ta tn ∧ NumsAt w Q la ln ∧ tn ≤ 1000 ∧ ln ≤ 1000
theorem RulesAt.of {w : World} {B : Nat} {a : Option Addr} {n c : Nat} {RS : List RlC} {s : List Rul} (h : OCel encR 4 70 w B (.slice a n c) RS) (hr : RsO w B RS s) (hl : ∀ k, k < s.length → (rulAt s k).t.length ≤ 1000 ∧ (rulAt s k).l.length ≤ 1000) : RulesAt w (between B w.heap.size) a n := by
 intro k hk
 obtain ⟨a', c', hv, _, _, H⟩ := (Cel.own encR_len h).open_
 injection hv with e1 e2 e3
 subst e1
 have hk2 : k < RS.length := by omega
 obtain ⟨g, o, ha, hc⟩ := H.out k RS[k] (List.getElem?_eq_getElem hk2)
 have hb : (Value.slice a n c).ownBlock = some g := by rw [ha]; rfl
 obtain ⟨cur, h1, _⟩ := ownBlock_cells h g hb
 obtain ⟨_, hT, hL, _⟩ := hr.2 k RS[k] (List.getElem?_eq_getElem hk2)
 obtain ⟨l1, l2⟩ := hl k (by have := hr.1; omega)
 have c0 := hc 0 _ rfl
 have c1 := hc 1 _ rfl
 have c2 := hc 2 _ rfl
 obtain ⟨ta, tc, hvt, _⟩ := hT.ints.open_
 obtain ⟨la, lc, hvl, _⟩ := hL.ints.open_
 rw [hvt] at c1 hT
 rw [hvl] at c2 hL
 exact ⟨g, o, cur, _, ta, _, tc, la, _, lc, ha, h1, between_iff.2 (ownsRow_lt h hb), c0, c1, c2, NumsAt.of hT, NumsAt.of hL, l1, l2⟩
theorem RulesAt.ext {w w' : World} {Q : Nat → Bool} {a : Option Addr} {n : Nat} (h : RulesAt w Q a n) (hx : Ext w w') : RulesAt w' Q a n := fun k hk => by
 obtain ⟨g, o, cur, z, ta, tn, tc, la, ln, lc, ha, h1, h2, c0, c1, c2, hT, hL, l1, l2⟩ := h k hk
 have hl : g < w.heap.size := by
  rcases Nat.lt_or_ge g w.heap.size with hl | hl
  ·exact hl
  ·rw [Array.getElem?_eq_none hl] at h1; cases h1
 exact ⟨g, o, cur, z, ta, tn, tc, la, ln, lc, ha, (hx.block g hl).trans h1, h2, hx.keep c0, hx.keep c1, hx.keep c2, hT.ext hx, hL.ext hx, l1, l2⟩
theorem write_num {M0 w : World} {Q : Nat → Bool} {q i : Nat} {cur : Array Value} {e : TypeId} {z : Int} (hI : IntX M0 w) (hX : ExtX Q M0 w) (hb : M0.heap[q]? = some (.cells cur e (0, 0))) (hQ : Q q = true) (hc : M0.cell? ⟨q, i, none⟩ = some (.int .i64 z)) :
  ∀ z', IntX M0 (w.setCell ⟨q, i, none⟩ (.int .i64 z')) ∧ ExtX Q M0 (w.setCell ⟨q, i, none⟩ (.int .i64 z')) := fun z' =>
 ⟨hI.set hb hc, hX.transN (ExtX.set w q i _) (fun k hk => by
  have : k = q := by simpa [one] using hk
  subst this; exact .inl hQ)⟩
theorem SchB.far {S Q : Nat → Bool} {b : Nat} {m0 m1 rv : Value} {v : SV} {x : St} {s : List Rul} {w w' : World} (h : SchB S b m0 m1 rv v x s w) (hx : ExtX Q w w') (hQ : ∀ k, Q k = true → S k = true) (hb : Q b = false) : SchB S b m0 m1 rv v x s w' :=
 ⟨h.hSb, fun k hk => Nat.lt_of_lt_of_le (h.hSl k hk) hx.size, h.hb.stay hx hb, h.hr.ext (hx.hole1 hQ), h.hs.ext (hx.hole1 hQ), h.hI⟩
theorem NewR.move {b b2 gh gq : Nat} {u : Value} {s : List Rul} {w w' : World} (h : NewR (beg9 b gh gq) gh gq u s w) (hx : Ext w w') (hb2 : w.heap.size ≤ b2) : NewR (beg9 b2 gh gq) gh gq u s w' := by
 refine ⟨h.hne, h.hh.ext hx, h.hq.ext hx, ?_⟩
 have h1 : Ext (hole (beg9 b gh gq) w) (hole (fun k => beg9 b gh gq k || k == b2) w') := (hx.toX (fun _ => false)).hole (fun k hk => by cases hk) (fun k hk => by simp [hk]) (fun k hk => by
  simp only [Bool.or_eq_true, beq_iff_eq] at hk
  rcases hk with hk | hk
  ·exact .inl hk
  ·exact .inr (by omega))
 refine (h.hr.ext h1).sub (hole_mono (fun k hk => ?_) w')
 rcases beg9_or hk with hk | hk | hk
 ·subst hk; simp
 ·subst hk
  have : beg9 b k gq k = true := more_in (more_self _ _)
  simp [this]
 ·subst hk
  have : beg9 b gh k k = true := more_self _ _
  simp [this]
theorem pair_of {S : Nat → Bool} {b gh gq : Nat} {m1 rv u : Value} {v : SV} {s : List Rul} {w : World} (h : SchF S b m1 rv v st0 s w) (hn : NewR (beg9 b gh gq) gh gq u s w) (h1 : b ≠ gh) (h2 : b ≠ gq) (hS : S gh = true) (hS2 : S gq = true) : Pair (beg9 b gh gq) w b gh m1 rv u st0 s w := by
 have hcase : ∀ k, two9 gh gq k = true → k = gh ∨ k = gq := fun k hk => by simpa [two9] using hk
 refine ⟨⟨_, _, _, _, h, refR_new hn h1 h2 rfl, fun k hk => ?_, fun k hk => .inl ?_⟩, more_in (more_in (more_self _ _)), ExtX.refl _ _⟩
 ·rcases hcase k hk with e | e
  ·rw [e]; exact hS
  ·rw [e]; exact hS2
 ·rcases hcase k hk with e | e
  ·rw [e]; exact more_in (more_self _ _)
  ·rw [e]; exact more_self _ _
theorem pair_last {S0 : Nat → Bool} {w0 : World} {b rb : Nat} {m1 rv rv2 : Value} {x : St} {s : List Rul} {w : World} (p : Pair S0 w0 b rb m1 rv rv2 x s w) (hE : Env w) (hT : ErrT w) (hb7 : 7 ≤ b) (t : ByteArray) :
  Calls Tryz.prog 26 #[.pointer (some ⟨b, 0, none⟩), .string t] w (fun e w1 => e = .returned (.int .i64 (doS s x t).2) ∧ ExtX (one b) w w1 ∧
   ((doS s x t).2 ≠ 0 → Pair S0 w0 b rb m1 rv rv2 x s w1) ∧ ∃ S v v2 R, SchF S b m1 rv v (doS s x t).1 s w1 ∧ RefR R b rb rv2 v2 x s w1) := by
 obtain ⟨S, R, v, v2, h, k, h1, h2⟩ := p.both
 refine (DoL_c h hE hT hb7 t).mono ?_
 rintro e w1 ⟨he, hx, v', hS⟩
 refine ⟨he, hx, fun hz => ?_, S, v', v2, R, hS, k.stay hx⟩
 rw [do_refused hz] at hS
 exact ⟨⟨S, R, v', v2, hS, k.stay hx, h1, h2⟩, p.b0, p.far.transN hx (fun i hi => by
  have : i = b := by simpa [one] using hi
  subst this; exact .inl p.b0)⟩
end Go.Proofs.YtpmlcfgbfhgpgaaGreatDoor
