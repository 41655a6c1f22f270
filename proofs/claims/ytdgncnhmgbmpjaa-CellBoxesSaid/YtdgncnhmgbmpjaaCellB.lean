/- Walks of package cell: searches, lists of numbers. -/
import Derived.Test.YtdgncnhmgbmpjaaCellA
namespace Go.Proofs.Ytdgncnhmgbmpjaa
open Go.RowKit Go.Shelf
set_option linter.unusedVariables false

set_option maxHeartbeats 400000 in
theorem indexFunc_c (va : Value) (l : List Int) (g : Nat) (lb : Array Value) (p : Int → Bool) (w : World) (eg : Enters Try.prog g)
    (hg : ∀ W i, Ext w W → i < l.length → Calls Try.prog g (#[.int .i64 (l[i]?.getD 0)] ++ lb) W (RV (.bool (p (l[i]?.getD 0))) W)) (ha : Ints w va l) :
    Calls Try.prog 58 #[va, .func (.func g) #[] lb] w (RV (.int .i64 (firstIdx l.length fun i => p (l[i]?.getD 0))) w) := by
  obtain ⟨aa, ca, rfl, hla, hma, Ha⟩ := ha.open_
  clear ha
  unfold Enters at eg
  have Hg := Lib.hid hg; clear hg
  go_enter Try.func58, Try.ntmps58
  go_wp2_with fail
  go_loopg [8] l.length (fun m i wr => ∃ k : Nat, k ≤ l.length ∧ l.length ≤ k + m ∧ i = .int .i64 k ∧ Ext w wr ∧ Hid (∀ j, j < k → p (l[j]?.getD 0) = false))
  case atStart => exact ⟨0, by omega, by omega, rfl, Ext.refl _, fun j hj => by omega⟩
  case round =>
    obtain ⟨k, hk, hk2, rfl, hB, hE⟩ := hrel
    by_cases hlt : k < l.length
    · obtain ⟨ba, oa, rfl, hc1⟩ := Ha.out k hlt
      replace hc1 := hB.keep hc1
      have HG := Lib.hid (Hg.out wr k hB hlt)
      generalize hx : l[k]?.getD 0 = x at *
      have Hx := Lib.hid hx; clear hx
      cases hxy : p x
      · have HX := Lib.hid hxy; clear hxy
        go_wp2_with (go_at_fn g; refine (HG.out).mono ?_; rw [HX.out]; rintro e w' ⟨rfl, hB2⟩)
        go_roundg (gk-1)
        case measure => omega
        case rel => exact ⟨k+1, by omega, by omega, by go_num, hB.trans hB2, range_step hE.out (by rw [Hx.out]; exact HX.out)⟩
      · have HX := Lib.hid hxy; clear hxy
        go_wp2_with (go_at_fn g; refine (HG.out).mono ?_; rw [HX.out]; rintro e w' ⟨rfl, hB2⟩)
        go_ret
        exact RV.int (by rw [firstIdx_at hlt (by rw [Hx.out]; exact HX.out) hE.out]) (hB.trans hB2)
    · go_wp2_with fail
      go_ret
      exact RV.int (by rw [firstIdx_none (fun j hj => hE.out j (by omega))]) hB

theorem firstIdx_ge (n : Nat) (f : Nat → Bool) : decide (0 ≤ firstIdx n f) = (List.range n).any f := by
  rcases firstIdx_cases n f with ⟨j, hj, ht, _, he⟩ | ⟨h, he⟩
  · rw [he]
    have : (List.range n).any f = true := by rw [List.any_eq_true]; exact ⟨j, by simp [hj], ht⟩
    rw [this]; simp
  · rw [he]
    have : (List.range n).any f = false := by rw [List.any_eq_false]; intro x hx; simp [h x (by simpa using hx)]
    rw [this]; simp

set_option maxHeartbeats 400000 in
theorem containsFunc_c (va : Value) (l : List Int) (g : Nat) (lb : Array Value) (p : Int → Bool) (w : World) (eg : Enters Try.prog g)
    (hg : ∀ W i, Ext w W → i < l.length → Calls Try.prog g (#[.int .i64 (l[i]?.getD 0)] ++ lb) W (RV (.bool (p (l[i]?.getD 0))) W)) (ha : Ints w va l) :
    Calls Try.prog 49 #[va, .func (.func g) #[] lb] w (RV (.bool ((List.range l.length).any fun i => p (l[i]?.getD 0))) w) := by
  have HH := Lib.hid (indexFunc_c va l g lb p w eg hg ha); clear hg
  rw [← firstIdx_ge]
  generalize firstIdx l.length (fun i => p (l[i]?.getD 0)) = n at *
  go_enter Try.func49, Try.ntmps49
  go_wp2_with (go_at_call 58; refine HH.out.mono ?_; rintro e w' ⟨rfl, hB2⟩)
  go_ret
  exact RV.bool rfl hB2

set_option maxHeartbeats 400000 in
theorem validate1_c (n : Int) (w : World) :
    Calls Try.prog 50 #[.int .i64 n] w (RP (.bool (!(decide (2 ≤ n) && decide (n ≤ 3)))) w) := by
  go_enter Try.func50, Try.ntmps50
  go_wp2_with (go_at_call 48; refine (within_c _ _ _ _).mono ?_; rintro e w' ⟨rfl, rfl⟩)
  go_ret
  exact RP.bool (by first | rfl | simp)

def okAt (s v lo : Int) : Bool := decide (lo ≤ v) && decide (v ≤ s - 1)
def isListB (sizes l : List Int) (lo : Int) : Bool := l.length == sizes.length && allB l.length fun i => okAt (sizes[i]?.getD 0) (l[i]?.getD 0) lo
set_option maxHeartbeats 400000 in
theorem isList_c (sv ev vl : Value) (sizes l : List Int) (lo : Int) (w : World) (hs : Ints w sv sizes) (hl : Ints w vl l)
    (hr : ∀ i, i < sizes.length → 2 ≤ sizes[i]?.getD 0 ∧ sizes[i]?.getD 0 ≤ 3) :
    Calls Try.prog 39 #[.agg #[sv, ev], vl, .int .i64 lo] w (RV (.bool (isListB sizes l lo)) w) := by
  obtain ⟨az, cs, rfl, hls, hms, Hs⟩ := hs.open_
  obtain ⟨al, cl, rfl, hll, hml, Hl⟩ := hl.open_
  clear hs hl
  have Hr := Lib.hid hr; clear hr
  by_cases hlen : l.length = sizes.length
  · have H1 : ((l.length : Int) != (sizes.length : Int)) = false := by simp [hlen]
    have hl1 : l.length ≤ sizes.length := by omega
    have HL := Lib.hid hlen; clear hlen
    go_enter Try.func39, Try.ntmps39
    go_wp2_with fail
    go_loopg [17] l.length (fun m i wr => ∃ k : Nat, k ≤ l.length ∧ l.length ≤ k + m ∧ i = .int .i64 k ∧ w.alloc (.cells #[.slice az sizes.length cs, ev] 25) = wr ∧ Hid (∀ j, j < k → okAt (sizes[j]?.getD 0) (l[j]?.getD 0) lo = true))
    case atStart => exact ⟨0, by omega, by omega, rfl, rfl, fun j hj => by omega⟩
    case round =>
      obtain ⟨k, hk, hk2, rfl, rfl, hE⟩ := hrel
      by_cases hlt : k < l.length
      · obtain ⟨ba, oa, rfl, hc1⟩ := Hl.out k hlt
        obtain ⟨bb, ob, rfl, hc2⟩ := Hs.out k (by omega)
        replace hc1 := (Ext.alloc w (.cells #[.slice (some ⟨bb, ob, none⟩) sizes.length cs, ev] 25)).keep hc1
        replace hc2 := (Ext.alloc w (.cells #[.slice (some ⟨bb, ob, none⟩) sizes.length cs, ev] 25)).keep hc2
        obtain ⟨hr1, hr2⟩ := Hr.out k (by omega)
        generalize hx : l[k]?.getD 0 = x at *
        generalize hy : sizes[k]?.getD 0 = y at *
        have Hx := Lib.hid hx; clear hx
        have Hy := Lib.hid hy; clear hy
        cases hxy : okAt y x lo
        · have HX := Lib.hid hxy; clear hxy
          go_wp2_with (go_at_call 48; refine (within_c _ _ _ _).mono ?_; change ∀ e w', RP (Value.bool (okAt _ _ _)) _ e w' → _; rw [HX.out]; rintro e w' ⟨rfl, rfl⟩)
          go_ret
          exact RV.bool (by rw [isListB, allB_false hlt (by rw [Hx.out, Hy.out]; exact HX.out)]; simp) (Ext.alloc _ _)
        · have HX := Lib.hid hxy; clear hxy
          go_wp2_with (go_at_call 48; refine (within_c _ _ _ _).mono ?_; change ∀ e w', RP (Value.bool (okAt _ _ _)) _ e w' → _; rw [HX.out]; rintro e w' ⟨rfl, rfl⟩)
          go_roundg (gk-1)
          case measure => omega
          case rel => exact ⟨k+1, by omega, by omega, by go_num, rfl, range_step hE.out (by rw [Hx.out, Hy.out]; exact HX.out)⟩
      · go_wp2_with fail
        go_ret
        exact RV.bool (by rw [isListB, allB_true (fun j hj => hE.out j (by omega))]; simp [HL.out]) (Ext.alloc _ _)
  · have H1 : ((l.length : Int) != (sizes.length : Int)) = true := by simp; omega
    have HL := Lib.hid hlen; clear hlen
    go_enter Try.func39, Try.ntmps39
    go_wp2_with fail
    go_ret
    exact RV.bool (by have := HL.out; simp [isListB, this]) (Ext.alloc _ _)

def holdsB (s o : List Int) : Bool := agreesB coversB s o
set_option maxHeartbeats 400000 in
theorem holds_c (va vb : Value) (a b : List Int) (w : World) (ha : Ints w va a) (hb : Ints w vb b) (hl : a.length ≤ b.length) :
    Calls Try.prog 31 #[va, vb] w (RP (.bool (holdsB a b)) w) := by
  have HH := Lib.hid (agrees_c va vb a b 47 #[] coversB w (enters_of Try.func47 (by kernel_rfl) rfl) (fun x y => covers_c x y w) ha hb hl)
  go_enter Try.func31, Try.ntmps31
  go_wp2_with (go_at_call 46; refine HH.out.mono ?_; rintro e w' ⟨rfl, rfl⟩)
  go_ret
  exact RP.bool (by first | rfl | simp)
def isMoreB (a b : List Int) : Bool := holdsB b a && !holdsB a b
set_option maxHeartbeats 400000 in
theorem isMore_c (va vb : Value) (a b : List Int) (w : World) (ha : Ints w va a) (hb : Ints w vb b) (hl : a.length = b.length) :
    Calls Try.prog 73 #[va, vb] w (RP (.bool (isMoreB a b)) w) := by
  have H1 := Lib.hid (holds_c vb va b a w hb ha (by omega))
  have H2 := Lib.hid (holds_c va vb a b w ha hb (by omega))
  unfold isMoreB
  clear hl
  cases h1 : holdsB b a
  · rw [h1] at H1
    have H1' := Lib.hid h1; clear h1
    go_enter Try.func73, Try.ntmps73
    go_wp2_with (go_at_call 31; refine H1.out.mono ?_; rintro e w' ⟨rfl, rfl⟩)
    go_ret
    exact RP.bool (by first | rfl | simp)
  · rw [h1] at H1
    have H1' := Lib.hid h1; clear h1
    go_enter Try.func73, Try.ntmps73
    go_wp2_with fail
    refine H1.out.mono ?_; rintro e w' ⟨rfl, rfl⟩
    go_wp2_with fail
    refine H2.out.mono ?_; rintro e w' ⟨rfl, rfl⟩
    go_wp2_with fail
    go_ret
    exact RP.bool (by first | rfl | simp)
end Go.Proofs.Ytdgncnhmgbmpjaa
