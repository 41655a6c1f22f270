/- Rules and words: what is valid; both packages. -/
import Derived.Test.YtpmlcfgbfhgpgaaGreatDoorSl
namespace Go.Proofs.YtpmlcfgbfhgpgaaGreatDoor
open Go.RowKit Go.Shelf
set_option linter.unusedVariables false
structure Rul where
 f : Int
 t : List Int
 l : List Int
 r : List Int
def inB (n lo hi : Int) : Bool := decide (lo ≤ n) && decide (n ≤ hi)
def nbB (n : Int) : Bool := n == -1 || inB n 0 5
theorem nbB_in (n : Int) : inB n (-1) 5 = nbB n := by
 unfold nbB inB
 by_cases h : n = -1
 ·subst h; rfl
 ·rw [Bool.eq_iff_iff]; simp [h]; omega
def sndB (l : List Int) : Bool := allB l.length fun i => inB (l[i]?.getD 0) 0 5
def setAt (l : List Int) (i : Nat) : Bool := nbB (l[i]?.getD 0) && !(decide (0 < i) && decide (l[i]?.getD 0 ≤ l[i - 1]?.getD 0))
def setB (l : List Int) : Bool := allB l.length (setAt l)
def badB (x : Rul) : Bool := (x.f == -1 && x.t.length == 0) || x.t == [x.f]
def validR (x : Rul) : Int := if nbB x.f then (if 2 < x.t.length then 3 else if sndB x.t && setB x.l && setB x.r then (if badB x then 6 else 0) else 1) else 1
def validW (w : List Int) : Int := if 8 < w.length then 3 else if sndB w then 0 else 1
def wordK (x : Rul) (w : List Int) : Int := if validR x = 0 then validW w else validR x
structure RulR (w : World) (tv lv rv : Value) (x : Rul) : Prop where
 t : Ints w tv x.t
 l : Ints w lv x.l
 r : Ints w rv x.r
theorem RulR.ext {w w' : World} {tv lv rv : Value} {x : Rul} (h : RulR w tv lv rv x) (hx : Ext w w') : RulR w' tv lv rv x := ⟨h.t.ext hx, h.l.ext hx, h.r.ext hx⟩
theorem kept_alloc (w : World) (cs : Array Value) (ty : TypeId) {i : Nat} {v : Value} (h : cs[i]? = some v) : ∀ W, Ext (w.alloc (.cells cs ty)) W → W.cell? ⟨w.heap.size, i, none⟩ = some v := fun W hW => hW.keep (alloc_cell w cs ty h)
theorem within_c (n lo hi : Int) (w : World) : Calls Tryz.prog 194 #[.int .i64 n, .int .i64 lo, .int .i64 hi] w (RV (.bool (inB n lo hi)) w) := by
 by_cases h : lo ≤ n
 ·go_enter Tryz.func194, Tryz.ntmps194
  go_wp2
  go_ret
  exact RV.bool (by simp [inB, h]) (Ext.refl _)
 ·go_enter Tryz.func194, Tryz.ntmps194
  go_wp2
  go_ret
  exact RV.bool (by simp [inB]; omega) (Ext.refl _)
theorem rwithin_c (n lo hi : Int) (w : World) : Calls Tryz.prog 166 #[.int .i64 n, .int .i64 lo, .int .i64 hi] w (RV (.bool (inB n lo hi)) w) := by
 by_cases h : lo ≤ n
 ·go_enter Tryz.func166, Tryz.ntmps166
  go_wp2
  go_ret
  exact RV.bool (by simp [inB, h]) (Ext.refl _)
 ·go_enter Tryz.func166, Tryz.ntmps166
  go_wp2
  go_ret
  exact RV.bool (by simp [inB]; omega) (Ext.refl _)
theorem w1_c (n lo hi : Int) (w : World) : Calls Tryz.prog 200 #[.int .i64 n, .int .i64 lo, .int .i64 hi] w (RV (.bool (inB n lo hi)) w) := by
 by_cases h : lo ≤ n
 ·go_enter Tryz.func200, Tryz.ntmps200
  go_wp2
  go_ret
  exact RV.bool (by simp [inB, h]) (Ext.refl _)
 ·go_enter Tryz.func200, Tryz.ntmps200
  go_wp2
  go_ret
  exact RV.bool (by simp [inB]; omega) (Ext.refl _)
theorem isSound_c (n : Int) (w : World) : Calls Tryz.prog 197 #[.int .i64 n] w (RV (.bool (inB n 0 5)) w) := by
 go_enter Tryz.func197, Tryz.ntmps197
 go_wp2_with fail
 refine (within_c _ _ _ _).mono ?_; rintro e w1 ⟨rfl, hx⟩
 go_wp2_with fail
 go_ret
 exact RV.bool rfl hx
theorem isNeighbor_c (n : Int) (w : World) : Calls Tryz.prog 175 #[.int .i64 n] w (RV (.bool (nbB n)) w) := by
 unfold nbB
 by_cases h : n = -1
 ·subst h
  go_enter Tryz.func175, Tryz.ntmps175
  go_wp2_with fail
  go_ret
  exact RV.bool rfl (Ext.refl _)
 ·have hb : (n == -1) = false := by simp [h]
  have H := Lib.hid h; clear h
  go_enter Tryz.func175, Tryz.ntmps175
  go_wp2_with fail
  refine (isSound_c _ _).mono ?_; rintro e w1 ⟨rfl, hx⟩
  go_wp2_with fail
  go_ret
  exact RV.bool (by simp [H.out]) hx
theorem areSounds1_c (n : Int) (w : World) : Calls Tryz.prog 196 #[.int .i64 n] w (RV (.bool (!inB n 0 5)) w) := by
 go_enter Tryz.func196, Tryz.ntmps196
 go_wp2_with fail
 refine (isSound_c _ _).mono ?_; rintro e w1 ⟨rfl, hx⟩
 go_wp2_with fail
 go_ret
 exact RV.bool rfl hx
theorem areSounds_c (v : Value) (l : List Int) (w : World) (h : Ints w v l) : Calls Tryz.prog 161 #[v] w (RV (.bool (sndB l)) w) := by
 have HC := Lib.hid (containsFunc_c v l 196 #[] (fun n => !inB n 0 5) w (enters_of Tryz.func196 (by kernel_rfl) rfl) (fun W i _ _ => areSounds1_c _ W) h)
 have he : sndB l = !((List.range l.length).any fun i => !inB (l[i]?.getD 0) 0 5) := by
  unfold sndB allB
  rw [List.not_any_eq_all_not]; simp
 rw [he]
 generalize ((List.range l.length).any fun i => !inB (l[i]?.getD 0) 0 5) = b at *
 clear he h
 go_enter Tryz.func161, Tryz.ntmps161
 go_wp2_with fail
 refine HC.out.mono ?_; rintro e w1 ⟨rfl, hx⟩
 go_wp2_with fail
 go_ret
 exact RV.bool rfl hx
set_option maxHeartbeats 400000 in
theorem isWord_c (v : Value) (l : List Int) (w : World) (h : Ints w v l) : Calls Tryz.prog 167 #[v] w (RV (.bool (sndB l)) w) := by
 obtain ⟨a, c, rfl, h1, h2, H⟩ := h.open_
 clear h
 go_enter Tryz.func167, Tryz.ntmps167
 go_wp2_with fail
 go_loopg [3] l.length (fun m i wr => ∃ k : Nat, k ≤ l.length ∧ l.length ≤ k + m ∧ i = .int .i64 k ∧ Ext w wr ∧ Hid (∀ j, j < k → inB (l[j]?.getD 0) 0 5 = true))
 case atStart => exact ⟨0, by omega, by omega, rfl, Ext.refl _, fun j hj => by omega⟩
 case round =>
  obtain ⟨k, hk, hk2, rfl, hB, hE⟩ := hrel
  by_cases hlt : k < l.length
  ·obtain ⟨b, o, rfl, hc⟩ := H.out k hlt
   replace hc := hB.keep hc
   generalize hx : l[k]?.getD 0 = x at *
   have HX := Lib.hid hx; clear hx
   go_wp2_with fail
   refine (rwithin_c _ _ _ _).mono ?_; rintro e w1 ⟨rfl, hx⟩
   cases hb : inB x 0 5
   ·have HB := Lib.hid hb; clear hb
    go_wp2_with fail
    go_ret
    exact RV.bool (by rw [sndB, allB_false hlt (by rw [HX.out]; exact HB.out)]) (hB.trans hx)
   ·have HB := Lib.hid hb; clear hb
    go_wp2_with fail
    go_roundg (gk-1)
    case measure => omega
    case rel => exact ⟨k+1, by omega, by omega, by go_num, hB.trans hx, range_step hE.out (by rw [HX.out]; exact HB.out)⟩
  ·go_wp2_with fail
   go_ret
   exact RV.bool (by rw [sndB, allB_true (fun j hj => hE.out j (by omega))]) hB
set_option maxHeartbeats 1000000 in
theorem isSet_c (v : Value) (l : List Int) (w : World) (h : Ints w v l) : Calls Tryz.prog 176 #[v] w (RV (.bool (setB l)) w) := by
 obtain ⟨a, c, rfl, h1, h2, H⟩ := h.open_
 clear h
 go_enter Tryz.func176, Tryz.ntmps176
 go_wp2_with fail
 go_loopg [7] l.length (fun m i wr => ∃ k : Nat, k ≤ l.length ∧ l.length ≤ k + m ∧ i = .int .i64 k ∧ Ext w wr ∧ Hid (∀ j, j < k → setAt l j = true))
 case atStart => exact ⟨0, by omega, by omega, rfl, Ext.refl _, fun j hj => by omega⟩
 case round =>
  obtain ⟨k, hk, hk2, rfl, hB, hE⟩ := hrel
  by_cases hlt : k < l.length
  ·obtain ⟨b, o, rfl, hc⟩ := H.out k hlt
   replace hc := hB.keep hc
   have HAT := Lib.hid (show setAt l k = (nbB (l[k]?.getD 0) && !(decide (0 < k) && decide (l[k]?.getD 0 ≤ l[k - 1]?.getD 0))) from rfl)
   generalize l[k]?.getD 0 = x at *
   cases hb : nbB x
   ·have HB := Lib.hid hb; clear hb
    by_cases hk0 : 0 < k
    ·obtain ⟨_, _, he, hd⟩ := H.out (k - 1) (by omega)
     injection he with he; injection he with he1 he2 _; subst he1 he2
     replace hd := hB.keep hd
     generalize l[k - 1]?.getD 0 = y at *
     replace hd := fun W (h : Ext wr W) => h.keep hd
     go_wp2_with fail
     refine (isNeighbor_c _ _).mono ?_; rintro e w1 ⟨rfl, hx⟩
     rw [HB.out]
     go_wp2_with fail
     go_ret
     exact RV.bool (by rw [setB, allB_false hlt (by rw [HAT.out, HB.out]; rfl)]) (hB.trans hx)
    ·obtain rfl : k = 0 := by omega
     rw [Nat.add_zero] at hc
     go_wp2_with fail
     refine (isNeighbor_c _ _).mono ?_; rintro e w1 ⟨rfl, hx⟩
     rw [HB.out]
     go_wp2_with fail
     go_ret
     exact RV.bool (by rw [setB, allB_false hlt (by rw [HAT.out, HB.out]; rfl)]) (hB.trans hx)
   ·have HB := Lib.hid hb; clear hb
    by_cases hk0 : 0 < k
    ·obtain ⟨_, _, he, hd⟩ := H.out (k - 1) (by omega)
     injection he with he; injection he with he1 he2 _; subst he1 he2
     replace hd := hB.keep hd
     have HAT2 : Hid (setAt l k = !decide (x ≤ l[k - 1]?.getD 0)) := by have := HAT.out; rw [HB.out] at this; exact Lib.hid (by simpa [hk0] using this)
     generalize l[k - 1]?.getD 0 = y at *
     by_cases hle : x ≤ y
     ·have hled : decide (x ≤ y) = true := by simp [hle]
      replace hd := fun W (h : Ext wr W) => h.keep hd
      go_wp2_with fail
      refine (isNeighbor_c _ _).mono ?_; rintro e w1 ⟨rfl, hx⟩
      rw [HB.out]
      go_wp2_with fail
      go_ret
      exact RV.bool (by rw [setB, allB_false hlt (by rw [HAT2.out, hled]; rfl)]) (hB.trans hx)
     ·have hled : decide (x ≤ y) = false := by simp [hle]
      replace hd := fun W (h : Ext wr W) => h.keep hd
      go_wp2_with fail
      refine (isNeighbor_c _ _).mono ?_; rintro e w1 ⟨rfl, hx⟩
      rw [HB.out]
      go_wp2_with fail
      go_roundg (gk-1)
      case measure => omega
      case rel => exact ⟨k+1, by omega, by omega, by go_num, hB.trans hx, range_step hE.out (by rw [HAT2.out, hled]; rfl)⟩
    ·obtain rfl : k = 0 := by omega
     rw [Nat.add_zero] at hc
     go_wp2_with fail
     refine (isNeighbor_c _ _).mono ?_; rintro e w1 ⟨rfl, hx⟩
     rw [HB.out]
     go_wp2_with fail
     go_roundg (gk-1)
     case measure => omega
     case rel => exact ⟨1, by omega, by omega, by go_num, hB.trans hx, range_step hE.out (by rw [HAT.out, HB.out]; rfl)⟩
  ·go_wp2_with fail
   go_ret
   exact RV.bool (by rw [setB, allB_true (fun j hj => hE.out j (by omega))]) hB
set_option maxHeartbeats 1000000 in
theorem rIsSet_c (v : Value) (l : List Int) (w : World) (h : Ints w v l) : Calls Tryz.prog 168 #[v, .int .i64 (-1), .int .i64 5] w (RV (.bool (setB l)) w) := by
 obtain ⟨a, c, rfl, h1, h2, H⟩ := h.open_
 clear h
 go_enter Tryz.func168, Tryz.ntmps168
 go_wp2_with fail
 go_loopg [7] l.length (fun m i wr => ∃ k : Nat, k ≤ l.length ∧ l.length ≤ k + m ∧ i = .int .i64 k ∧ Ext w wr ∧ Hid (∀ j, j < k → setAt l j = true))
 case atStart => exact ⟨0, by omega, by omega, rfl, Ext.refl _, fun j hj => by omega⟩
 case round =>
  obtain ⟨k, hk, hk2, rfl, hB, hE⟩ := hrel
  by_cases hlt : k < l.length
  ·obtain ⟨b, o, rfl, hc⟩ := H.out k hlt
   replace hc := hB.keep hc
   have HAT := Lib.hid (show setAt l k = (nbB (l[k]?.getD 0) && !(decide (0 < k) && decide (l[k]?.getD 0 ≤ l[k - 1]?.getD 0))) from rfl)
   generalize l[k]?.getD 0 = x at *
   cases hb : nbB x
   ·have HB := Lib.hid hb; clear hb
    by_cases hk0 : 0 < k
    ·obtain ⟨_, _, he, hd⟩ := H.out (k - 1) (by omega)
     injection he with he; injection he with he1 he2 _; subst he1 he2
     replace hd := hB.keep hd
     generalize l[k - 1]?.getD 0 = y at *
     have HC := Lib.hid (fun s : Later wr => w1_c x (-1) 5 s.w)
     rw [nbB_in, HB.out] at HC
     have q0 := fun s : Later wr => s.ext.keep hc
     have q1 := fun s : Later wr => s.ext.keep hd
     go_wp2_with fail
     have hw1 : IntKind.i64.wrap ((k : Int) - 1) = (k : Int) - 1 := IntWalk.i64_in _ (by omega)
     have hw2 : ((k : Int) - 1).toNat = k - 1 := by omega
     have hw3 : (0 : Int) ≤ (k : Int) - 1 := by omega
     have hw4 : (k : Int) - 1 < (l.length : Int) := by omega
     have hw5 : k - 1 < l.length := by omega
     refine wp_region_later (by kernel_rfl) (by kernel_rfl) ?_
     repeat (go_big_quiet_step ((go_at_call 200; exact Later.call (HC.out _))))
     refine wpQuiet_nil ?_
     intro _ hw'
     obtain ⟨⟨w1, hx⟩, rfl⟩ := hw'
     clear q0 q1 hw1 hw2 hw3 hw4 hw5
     go_wp2_with fail
     go_ret
     exact RV.bool (by rw [setB, allB_false hlt (by rw [HAT.out, HB.out]; rfl)]) (hB.trans hx)
    ·obtain rfl : k = 0 := by omega
     rw [Nat.add_zero] at hc
     have HC := Lib.hid (fun s : Later wr => w1_c x (-1) 5 s.w)
     rw [nbB_in, HB.out] at HC
     have q0 := fun s : Later wr => s.ext.keep hc
     go_wp2_with fail
     refine wp_region_later (by kernel_rfl) (by kernel_rfl) ?_
     repeat (go_big_quiet_step ((go_at_call 200; exact Later.call (HC.out _))))
     refine wpQuiet_nil ?_
     intro _ hw'
     obtain ⟨⟨w1, hx⟩, rfl⟩ := hw'
     clear q0
     go_wp2_with fail
     go_ret
     exact RV.bool (by rw [setB, allB_false hlt (by rw [HAT.out, HB.out]; rfl)]) (hB.trans hx)
   ·have HB := Lib.hid hb; clear hb
    by_cases hk0 : 0 < k
    ·obtain ⟨_, _, he, hd⟩ := H.out (k - 1) (by omega)
     injection he with he; injection he with he1 he2 _; subst he1 he2
     replace hd := hB.keep hd
     have HAT2 : Hid (setAt l k = !decide (x ≤ l[k - 1]?.getD 0)) := by have := HAT.out; rw [HB.out] at this; exact Lib.hid (by simpa [hk0] using this)
     generalize l[k - 1]?.getD 0 = y at *
     by_cases hle : x ≤ y
     ·have hled : decide (x ≤ y) = true := by simp [hle]
      have HC := Lib.hid (fun s : Later wr => w1_c x (-1) 5 s.w)
      rw [nbB_in, HB.out] at HC
      have q0 := fun s : Later wr => s.ext.keep hc
      have q1 := fun s : Later wr => s.ext.keep hd
      go_wp2_with fail
      have hw1 : IntKind.i64.wrap ((k : Int) - 1) = (k : Int) - 1 := IntWalk.i64_in _ (by omega)
      have hw2 : ((k : Int) - 1).toNat = k - 1 := by omega
      have hw3 : (0 : Int) ≤ (k : Int) - 1 := by omega
      have hw4 : (k : Int) - 1 < (l.length : Int) := by omega
      have hw5 : k - 1 < l.length := by omega
      refine wp_region_later (by kernel_rfl) (by kernel_rfl) ?_
      repeat (go_big_quiet_step ((go_at_call 200; exact Later.call (HC.out _))))
      refine wpQuiet_nil ?_
      intro _ hw'
      obtain ⟨⟨w1, hx⟩, rfl⟩ := hw'
      clear q0 q1 hw1 hw2 hw3 hw4 hw5
      go_wp2_with fail
      go_ret
      exact RV.bool (by rw [setB, allB_false hlt (by rw [HAT2.out, hled]; rfl)]) (hB.trans hx)
     ·have hled : decide (x ≤ y) = false := by simp [hle]
      have HC := Lib.hid (fun s : Later wr => w1_c x (-1) 5 s.w)
      rw [nbB_in, HB.out] at HC
      have q0 := fun s : Later wr => s.ext.keep hc
      have q1 := fun s : Later wr => s.ext.keep hd
      go_wp2_with fail
      have hw1 : IntKind.i64.wrap ((k : Int) - 1) = (k : Int) - 1 := IntWalk.i64_in _ (by omega)
      have hw2 : ((k : Int) - 1).toNat = k - 1 := by omega
      have hw3 : (0 : Int) ≤ (k : Int) - 1 := by omega
      have hw4 : (k : Int) - 1 < (l.length : Int) := by omega
      have hw5 : k - 1 < l.length := by omega
      refine wp_region_later (by kernel_rfl) (by kernel_rfl) ?_
      repeat (go_big_quiet_step ((go_at_call 200; exact Later.call (HC.out _))))
      refine wpQuiet_nil ?_
      intro _ hw'
      obtain ⟨⟨w1, hx⟩, rfl⟩ := hw'
      clear q0 q1 hw1 hw2 hw3 hw4 hw5
      go_wp2_with fail
      go_roundg (gk-1)
      case measure => omega
      case rel => exact ⟨k+1, by omega, by omega, by go_num, hB.trans hx, range_step hE.out (by rw [HAT2.out, hled]; rfl)⟩
    ·obtain rfl : k = 0 := by omega
     rw [Nat.add_zero] at hc
     have HC := Lib.hid (fun s : Later wr => w1_c x (-1) 5 s.w)
     rw [nbB_in, HB.out] at HC
     have q0 := fun s : Later wr => s.ext.keep hc
     go_wp2_with fail
     refine wp_region_later (by kernel_rfl) (by kernel_rfl) ?_
     repeat (go_big_quiet_step ((go_at_call 200; exact Later.call (HC.out _))))
     refine wpQuiet_nil ?_
     intro _ hw'
     obtain ⟨⟨w1, hx⟩, rfl⟩ := hw'
     clear q0
     go_wp2_with fail
     go_roundg (gk-1)
     case measure => omega
     case rel => exact ⟨1, by omega, by omega, by go_num, hB.trans hx, range_step hE.out (by rw [HAT.out, HB.out]; rfl)⟩
  ·go_wp2_with fail
   go_ret
   exact RV.bool (by rw [setB, allB_true (fun j hj => hE.out j (by omega))]) hB
theorem ValidateWord_c (v : Value) (l : List Int) (w : World) (h : Ints w v l) : Calls Tryz.prog 110 #[v] w (RV (.int .i64 (validW l)) w) := by
 have HS := Lib.hid (areSounds_c v l w h)
 obtain ⟨a, c, rfl, h1, h2, H⟩ := h.open_
 clear h
 by_cases h8 : 8 < l.length
 ·rw [show validW l = 3 by rw [validW, if_pos h8]]
  go_enter Tryz.func110, Tryz.ntmps110
  go_wp2_with fail
  go_ret
  exact RV.int rfl (Ext.refl _)
 ·rw [show validW l = if sndB l then 0 else 1 by rw [validW, if_neg h8]]
  cases hb : sndB l
  all_goals
   rw [hb] at HS
   clear hb
   go_enter Tryz.func110, Tryz.ntmps110
   go_wp2_with fail
   refine HS.out.mono ?_; rintro e w1 ⟨rfl, hx⟩
   go_wp2_with fail
   go_ret
   exact RV.int rfl hx
theorem rValidateWord_c (v : Value) (l : List Int) (w : World) (h : Ints w v l) : Calls Tryz.prog 252 #[v] w (RV (.int .i64 (validW l)) w) := by
 have HS := Lib.hid (isWord_c v l w h)
 obtain ⟨a, c, rfl, h1, h2, H⟩ := h.open_
 clear h
 by_cases h8 : 8 < l.length
 ·rw [show validW l = 3 by rw [validW, if_pos h8]]
  go_enter Tryz.func252, Tryz.ntmps252
  go_wp2_with fail
  go_ret
  exact RV.int rfl (Ext.refl _)
 ·rw [show validW l = if sndB l then 0 else 1 by rw [validW, if_neg h8]]
  cases hb : sndB l
  all_goals
   rw [hb] at HS
   clear hb
   go_enter Tryz.func252, Tryz.ntmps252
   go_wp2_with fail
   refine HS.out.mono ?_; rintro e w1 ⟨rfl, hx⟩
   go_wp2_with fail
   go_ret
   exact RV.int rfl hx
theorem one_ints {w : World} {b : Nat} {i : Int} (hs : w.heap.size = b) : Ints (w.alloc (.cells #[.int .i64 i] 3)) (.slice (some ⟨b, 0, none⟩) 1 1) [i] := by
 subst hs
 refine ⟨some ⟨w.heap.size, 0, none⟩, 1, rfl, Nat.le_refl _, by unfold maxLen; omega, fun k hk => ⟨_, _, rfl, ?_⟩⟩
 obtain rfl : k = 0 := by simp at hk; omega
 exact alloc_cell w _ _ rfl
set_option maxHeartbeats 1000000 in
theorem Validate_c (tv lv rv : Value) (x : Rul) (w : World) (h : RulR w tv lv rv x) : Calls Tryz.prog 129 #[.agg #[.int .i64 x.f, tv, lv, rv]] w (RV (.int .i64 (validR x)) w) := by
 obtain ⟨a, c, rfl, h1, h2, H⟩ := h.t.open_
 obtain ⟨wA, hwA⟩ : ∃ wA, wA = w.alloc (.cells #[.int .i64 x.f, .slice a x.t.length c, lv, rv] 70) := ⟨_, rfl⟩
 have hE0 : Ext w wA := by rw [hwA]; exact Ext.alloc _ _
 have k0 : ∀ W, Ext wA W → W.cell? ⟨w.heap.size, 0, none⟩ = some (.int .i64 x.f) := by rw [hwA]; exact kept_alloc w _ _ rfl
 have k1 : ∀ W, Ext wA W → W.cell? ⟨w.heap.size, 1, none⟩ = some (.slice a x.t.length c) := by rw [hwA]; exact kept_alloc w _ _ rfl
 have k2 : ∀ W, Ext wA W → W.cell? ⟨w.heap.size, 2, none⟩ = some lv := by rw [hwA]; exact kept_alloc w _ _ rfl
 have k3 : ∀ W, Ext wA W → W.cell? ⟨w.heap.size, 3, none⟩ = some rv := by rw [hwA]; exact kept_alloc w _ _ rfl
 have H0 : Ext wA wA := Ext.refl _
 have HT := Lib.hid (fun W (hW : Ext wA W) => areSounds_c _ x.t W (h.t.ext (hE0.trans hW)))
 have HL := Lib.hid (fun W (hW : Ext wA W) => isSet_c lv x.l W (h.l.ext (hE0.trans hW)))
 have HR := Lib.hid (fun W (hW : Ext wA W) => isSet_c rv x.r W (h.r.ext (hE0.trans hW)))
 have HTI := Lib.hid (h.t.ext hE0)
 have HW := Lib.hid hwA; clear hwA h
 have HV := Lib.hid (show validR x = (if nbB x.f then (if 2 < x.t.length then 3 else if sndB x.t && setB x.l && setB x.r then (if badB x then 6 else 0) else 1) else 1) from rfl)
 have HBD := Lib.hid (show badB x = ((x.f == -1 && x.t.length == 0) || x.t == [x.f]) from rfl)
 generalize validR x = K at *
 generalize badB x = bad at *
 generalize sndB x.t = b2 at *
 generalize setB x.l = b3 at *
 generalize setB x.r = b4 at *
 obtain ⟨f, t, l, r⟩ := x
 simp only at *
 cases hn : nbB f
 ·have HN := Lib.hid hn; clear hn
  go_enter Tryz.func129, Tryz.ntmps129
  go_wp2_with fail
  rw [← HW.out]
  refine (isNeighbor_c _ _).mono ?_; rintro e w1 ⟨rfl, hx1⟩
  rw [HN.out]
  go_wp2_with fail
  go_ret
  exact RV.int (by rw [HV.out, HN.out]; rfl) (hE0.trans hx1)
 ·have HN := Lib.hid hn; clear hn
  by_cases h2t : 2 < t.length
  ·have HV2 := Lib.hid (show K = 3 by rw [HV.out, HN.out, if_pos rfl, if_pos h2t])
   go_enter Tryz.func129, Tryz.ntmps129
   go_wp2_with fail
   rw [← HW.out]
   refine (isNeighbor_c _ _).mono ?_; rintro e w1 ⟨rfl, hx1⟩
   rw [HN.out]
   go_wp2_with fail
   go_ret
   exact RV.int (by rw [HV2.out]) (hE0.trans hx1)
  ·have HV2 := Lib.hid (show K = (if b2 && b3 && b4 then (if bad then 6 else 0) else 1) by rw [HV.out, HN.out, if_pos rfl, if_neg h2t])
   cases b2
   ·go_enter Tryz.func129, Tryz.ntmps129
    go_wp2_with fail
    rw [← HW.out]
    refine (isNeighbor_c _ _).mono ?_; rintro e w1 ⟨rfl, hx1⟩
    rw [HN.out]
    go_wp2_with fail
    refine (HT.out w1 hx1).mono ?_; rintro e w2 ⟨rfl, hx2⟩
    have hx2 := hx1.trans hx2
    go_wp2_with fail
    go_ret
    exact RV.int (by rw [HV2.out]; rfl) (hE0.trans hx2)
   ·cases b3
    ·go_enter Tryz.func129, Tryz.ntmps129
     go_wp2_with fail
     rw [← HW.out]
     refine (isNeighbor_c _ _).mono ?_; rintro e w1 ⟨rfl, hx1⟩
     rw [HN.out]
     go_wp2_with fail
     refine (HT.out w1 hx1).mono ?_; rintro e w2 ⟨rfl, hx2⟩
     have hx2 := hx1.trans hx2
     go_wp2_with fail
     refine (HL.out w2 hx2).mono ?_; rintro e w3 ⟨rfl, hx3⟩
     have hx3 := hx2.trans hx3
     go_wp2_with fail
     go_ret
     exact RV.int (by rw [HV2.out]; rfl) (hE0.trans hx3)
    ·cases b4
     ·go_enter Tryz.func129, Tryz.ntmps129
      go_wp2_with fail
      rw [← HW.out]
      refine (isNeighbor_c _ _).mono ?_; rintro e w1 ⟨rfl, hx1⟩
      rw [HN.out]
      go_wp2_with fail
      refine (HT.out w1 hx1).mono ?_; rintro e w2 ⟨rfl, hx2⟩
      have hx2 := hx1.trans hx2
      go_wp2_with fail
      refine (HL.out w2 hx2).mono ?_; rintro e w3 ⟨rfl, hx3⟩
      have hx3 := hx2.trans hx3
      go_wp2_with fail
      refine (HR.out w3 hx3).mono ?_; rintro e w4 ⟨rfl, hx4⟩
      have hx4 := hx3.trans hx4
      go_wp2_with fail
      go_ret
      exact RV.int (by rw [HV2.out]; rfl) (hE0.trans hx4)
     ·by_cases hf : f = -1
      ·subst hf
       by_cases ht : t.length = 0
       ·have HV3 := Lib.hid (show K = 6 by rw [HV2.out, HBD.out]; simp [ht])
        have htd : ((t.length : Int) == 0) = true := by simp [ht]
        have HTT := Lib.hid ht; clear ht
        go_enter Tryz.func129, Tryz.ntmps129
        go_wp2_with fail
        rw [← HW.out]
        refine (isNeighbor_c _ _).mono ?_; rintro e w1 ⟨rfl, hx1⟩
        rw [HN.out]
        go_wp2_with fail
        refine (HT.out w1 hx1).mono ?_; rintro e w2 ⟨rfl, hx2⟩
        have hx2 := hx1.trans hx2
        go_wp2_with fail
        refine (HL.out w2 hx2).mono ?_; rintro e w3 ⟨rfl, hx3⟩
        have hx3 := hx2.trans hx3
        go_wp2_with fail
        refine (HR.out w3 hx3).mono ?_; rintro e w4 ⟨rfl, hx4⟩
        have hx4 := hx3.trans hx4
        go_wp2_with fail
        go_ret
        exact RV.int (by rw [HV3.out]) (hE0.trans hx4)
       ·have htd : ((t.length : Int) == 0) = false := by simp [ht]
        have HFT := Lib.hid ht; clear ht
        cases he : (t == [(-1 : Int)])
        ·have HE := Lib.hid he; clear he
         have HV3 := Lib.hid (show K = 0 by rw [HV2.out, HBD.out, HE.out]; simp [HFT.out])
         go_enter Tryz.func129, Tryz.ntmps129
         go_wp2_with fail
         rw [← HW.out]
         refine (isNeighbor_c _ _).mono ?_; rintro e w1 ⟨rfl, hx1⟩
         rw [HN.out]
         go_wp2_with fail
         refine (HT.out w1 hx1).mono ?_; rintro e w2 ⟨rfl, hx2⟩
         have hx2 := hx1.trans hx2
         go_wp2_with fail
         refine (HL.out w2 hx2).mono ?_; rintro e w3 ⟨rfl, hx3⟩
         have hx3 := hx2.trans hx3
         go_wp2_with fail
         refine (HR.out w3 hx3).mono ?_; rintro e w4 ⟨rfl, hx4⟩
         have hx4 := hx3.trans hx4
         go_wp2_with fail
         refine (equalInts_c _ _ t [-1] _ (HTI.out.ext (hx4.trans (Ext.alloc _ _))) (one_ints rfl)).mono ?_; rintro e w5 ⟨rfl, n5, hw5⟩
         have hx5 : Ext wA w5 := (hx4.trans (Ext.alloc _ _)).trans (by rw [hw5]; exact Ext.drewN _ _)
         clear hw5
         rw [sameIntsB_iff, HE.out]
         go_wp2_with fail
         go_ret
         exact RV.int (by rw [HV3.out]) (hE0.trans hx5)
        ·have HE := Lib.hid he; clear he
         have HV3 := Lib.hid (show K = 6 by rw [HV2.out, HBD.out, HE.out]; simp)
         go_enter Tryz.func129, Tryz.ntmps129
         go_wp2_with fail
         rw [← HW.out]
         refine (isNeighbor_c _ _).mono ?_; rintro e w1 ⟨rfl, hx1⟩
         rw [HN.out]
         go_wp2_with fail
         refine (HT.out w1 hx1).mono ?_; rintro e w2 ⟨rfl, hx2⟩
         have hx2 := hx1.trans hx2
         go_wp2_with fail
         refine (HL.out w2 hx2).mono ?_; rintro e w3 ⟨rfl, hx3⟩
         have hx3 := hx2.trans hx3
         go_wp2_with fail
         refine (HR.out w3 hx3).mono ?_; rintro e w4 ⟨rfl, hx4⟩
         have hx4 := hx3.trans hx4
         go_wp2_with fail
         refine (equalInts_c _ _ t [-1] _ (HTI.out.ext (hx4.trans (Ext.alloc _ _))) (one_ints rfl)).mono ?_; rintro e w5 ⟨rfl, n5, hw5⟩
         have hx5 : Ext wA w5 := (hx4.trans (Ext.alloc _ _)).trans (by rw [hw5]; exact Ext.drewN _ _)
         clear hw5
         rw [sameIntsB_iff, HE.out]
         go_wp2_with fail
         go_ret
         exact RV.int (by rw [HV3.out]) (hE0.trans hx5)
      ·have hfd : (f == -1) = false := by simp [hf]
       have HFT := Lib.hid hf; clear hf
       cases he : (t == [f])
       ·have HE := Lib.hid he; clear he
        have HV3 := Lib.hid (show K = 0 by rw [HV2.out, HBD.out, HE.out]; simp [HFT.out])
        go_enter Tryz.func129, Tryz.ntmps129
        go_wp2_with fail
        rw [← HW.out]
        refine (isNeighbor_c _ _).mono ?_; rintro e w1 ⟨rfl, hx1⟩
        rw [HN.out]
        go_wp2_with fail
        refine (HT.out w1 hx1).mono ?_; rintro e w2 ⟨rfl, hx2⟩
        have hx2 := hx1.trans hx2
        go_wp2_with fail
        refine (HL.out w2 hx2).mono ?_; rintro e w3 ⟨rfl, hx3⟩
        have hx3 := hx2.trans hx3
        go_wp2_with fail
        refine (HR.out w3 hx3).mono ?_; rintro e w4 ⟨rfl, hx4⟩
        have hx4 := hx3.trans hx4
        go_wp2_with fail
        refine (equalInts_c _ _ t [f] _ (HTI.out.ext (hx4.trans (Ext.alloc _ _))) (one_ints rfl)).mono ?_; rintro e w5 ⟨rfl, n5, hw5⟩
        have hx5 : Ext wA w5 := (hx4.trans (Ext.alloc _ _)).trans (by rw [hw5]; exact Ext.drewN _ _)
        clear hw5
        rw [sameIntsB_iff, HE.out]
        go_wp2_with fail
        go_ret
        exact RV.int (by rw [HV3.out]) (hE0.trans hx5)
       ·have HE := Lib.hid he; clear he
        have HV3 := Lib.hid (show K = 6 by rw [HV2.out, HBD.out, HE.out]; simp)
        go_enter Tryz.func129, Tryz.ntmps129
        go_wp2_with fail
        rw [← HW.out]
        refine (isNeighbor_c _ _).mono ?_; rintro e w1 ⟨rfl, hx1⟩
        rw [HN.out]
        go_wp2_with fail
        refine (HT.out w1 hx1).mono ?_; rintro e w2 ⟨rfl, hx2⟩
        have hx2 := hx1.trans hx2
        go_wp2_with fail
        refine (HL.out w2 hx2).mono ?_; rintro e w3 ⟨rfl, hx3⟩
        have hx3 := hx2.trans hx3
        go_wp2_with fail
        refine (HR.out w3 hx3).mono ?_; rintro e w4 ⟨rfl, hx4⟩
        have hx4 := hx3.trans hx4
        go_wp2_with fail
        refine (equalInts_c _ _ t [f] _ (HTI.out.ext (hx4.trans (Ext.alloc _ _))) (one_ints rfl)).mono ?_; rintro e w5 ⟨rfl, n5, hw5⟩
        have hx5 : Ext wA w5 := (hx4.trans (Ext.alloc _ _)).trans (by rw [hw5]; exact Ext.drewN _ _)
        clear hw5
        rw [sameIntsB_iff, HE.out]
        go_wp2_with fail
        go_ret
        exact RV.int (by rw [HV3.out]) (hE0.trans hx5)
set_option maxHeartbeats 1000000 in
theorem rValidate_c (tv lv rv : Value) (x : Rul) (w : World) (h : RulR w tv lv rv x) : Calls Tryz.prog 117 #[.agg #[.int .i64 x.f, tv, lv, rv]] w (RV (.int .i64 (validR x)) w) := by
 obtain ⟨a, c, rfl, h1, h2, H⟩ := h.t.open_
 obtain ⟨wA, hwA⟩ : ∃ wA, wA = w.alloc (.cells #[.int .i64 x.f, .slice a x.t.length c, lv, rv] 70) := ⟨_, rfl⟩
 have hE0 : Ext w wA := by rw [hwA]; exact Ext.alloc _ _
 have k0 : ∀ W, Ext wA W → W.cell? ⟨w.heap.size, 0, none⟩ = some (.int .i64 x.f) := by rw [hwA]; exact kept_alloc w _ _ rfl
 have k1 : ∀ W, Ext wA W → W.cell? ⟨w.heap.size, 1, none⟩ = some (.slice a x.t.length c) := by rw [hwA]; exact kept_alloc w _ _ rfl
 have k2 : ∀ W, Ext wA W → W.cell? ⟨w.heap.size, 2, none⟩ = some lv := by rw [hwA]; exact kept_alloc w _ _ rfl
 have k3 : ∀ W, Ext wA W → W.cell? ⟨w.heap.size, 3, none⟩ = some rv := by rw [hwA]; exact kept_alloc w _ _ rfl
 have H0 : Ext wA wA := Ext.refl _
 have HT := Lib.hid (fun W (hW : Ext wA W) => isWord_c _ x.t W (h.t.ext (hE0.trans hW)))
 have HL := Lib.hid (fun W (hW : Ext wA W) => rIsSet_c lv x.l W (h.l.ext (hE0.trans hW)))
 have HR := Lib.hid (fun W (hW : Ext wA W) => rIsSet_c rv x.r W (h.r.ext (hE0.trans hW)))
 have HTI := Lib.hid (h.t.ext hE0)
 have HW := Lib.hid hwA; clear hwA h
 have HV := Lib.hid (show validR x = (if nbB x.f then (if 2 < x.t.length then 3 else if sndB x.t && setB x.l && setB x.r then (if badB x then 6 else 0) else 1) else 1) from rfl)
 have HBD := Lib.hid (show badB x = ((x.f == -1 && x.t.length == 0) || x.t == [x.f]) from rfl)
 generalize validR x = K at *
 generalize badB x = bad at *
 generalize sndB x.t = b2 at *
 generalize setB x.l = b3 at *
 generalize setB x.r = b4 at *
 obtain ⟨f, t, l, r⟩ := x
 simp only at *
 cases hn : nbB f
 ·have HN := Lib.hid hn; clear hn
  go_enter Tryz.func117, Tryz.ntmps117
  go_wp2_with fail
  rw [← HW.out]
  refine (rwithin_c _ _ _ _).mono ?_; rintro e w1 ⟨rfl, hx1⟩
  rw [nbB_in]
  rw [HN.out]
  go_wp2_with fail
  go_ret
  exact RV.int (by rw [HV.out, HN.out]; rfl) (hE0.trans hx1)
 ·have HN := Lib.hid hn; clear hn
  by_cases h2t : 2 < t.length
  ·have HV2 := Lib.hid (show K = 3 by rw [HV.out, HN.out, if_pos rfl, if_pos h2t])
   go_enter Tryz.func117, Tryz.ntmps117
   go_wp2_with fail
   rw [← HW.out]
   refine (rwithin_c _ _ _ _).mono ?_; rintro e w1 ⟨rfl, hx1⟩
   rw [nbB_in]
   rw [HN.out]
   go_wp2_with fail
   go_ret
   exact RV.int (by rw [HV2.out]) (hE0.trans hx1)
  ·have HV2 := Lib.hid (show K = (if b2 && b3 && b4 then (if bad then 6 else 0) else 1) by rw [HV.out, HN.out, if_pos rfl, if_neg h2t])
   cases b2
   ·go_enter Tryz.func117, Tryz.ntmps117
    go_wp2_with fail
    rw [← HW.out]
    refine (rwithin_c _ _ _ _).mono ?_; rintro e w1 ⟨rfl, hx1⟩
    rw [nbB_in]
    rw [HN.out]
    go_wp2_with fail
    refine (HT.out w1 hx1).mono ?_; rintro e w2 ⟨rfl, hx2⟩
    have hx2 := hx1.trans hx2
    go_wp2_with fail
    go_ret
    exact RV.int (by rw [HV2.out]; rfl) (hE0.trans hx2)
   ·cases b3
    ·go_enter Tryz.func117, Tryz.ntmps117
     go_wp2_with fail
     rw [← HW.out]
     refine (rwithin_c _ _ _ _).mono ?_; rintro e w1 ⟨rfl, hx1⟩
     rw [nbB_in]
     rw [HN.out]
     go_wp2_with fail
     refine (HT.out w1 hx1).mono ?_; rintro e w2 ⟨rfl, hx2⟩
     have hx2 := hx1.trans hx2
     go_wp2_with fail
     refine (HL.out w2 hx2).mono ?_; rintro e w3 ⟨rfl, hx3⟩
     have hx3 := hx2.trans hx3
     go_wp2_with fail
     go_ret
     exact RV.int (by rw [HV2.out]; rfl) (hE0.trans hx3)
    ·cases b4
     ·go_enter Tryz.func117, Tryz.ntmps117
      go_wp2_with fail
      rw [← HW.out]
      refine (rwithin_c _ _ _ _).mono ?_; rintro e w1 ⟨rfl, hx1⟩
      rw [nbB_in]
      rw [HN.out]
      go_wp2_with fail
      refine (HT.out w1 hx1).mono ?_; rintro e w2 ⟨rfl, hx2⟩
      have hx2 := hx1.trans hx2
      go_wp2_with fail
      refine (HL.out w2 hx2).mono ?_; rintro e w3 ⟨rfl, hx3⟩
      have hx3 := hx2.trans hx3
      go_wp2_with fail
      refine (HR.out w3 hx3).mono ?_; rintro e w4 ⟨rfl, hx4⟩
      have hx4 := hx3.trans hx4
      go_wp2_with fail
      go_ret
      exact RV.int (by rw [HV2.out]; rfl) (hE0.trans hx4)
     ·by_cases hf : f < 0
      ·by_cases ht : t.length = 0
       ·have htd : ((t.length : Int) == 0) = true := by simp [ht]
        have hf1 : f = -1 := by have := HN.out; simp [nbB, inB] at this; omega
        have HF1 := Lib.hid hf1; clear hf1
        have HT0 := Lib.hid ht; clear ht
        have HV3 := Lib.hid (show K = 6 by rw [HV2.out, HBD.out]; simp [HF1.out, HT0.out])
        go_enter Tryz.func117, Tryz.ntmps117
        go_wp2_with fail
        rw [← HW.out]
        refine (rwithin_c _ _ _ _).mono ?_; rintro e w1 ⟨rfl, hx1⟩
        rw [nbB_in]
        rw [HN.out]
        go_wp2_with fail
        refine (HT.out w1 hx1).mono ?_; rintro e w2 ⟨rfl, hx2⟩
        have hx2 := hx1.trans hx2
        go_wp2_with fail
        refine (HL.out w2 hx2).mono ?_; rintro e w3 ⟨rfl, hx3⟩
        have hx3 := hx2.trans hx3
        go_wp2_with fail
        refine (HR.out w3 hx3).mono ?_; rintro e w4 ⟨rfl, hx4⟩
        have hx4 := hx3.trans hx4
        go_wp2_with fail
        have hs : ∀ s : Later w4, Ext wA s.w := fun s => hx4.trans s.ext
        refine wp_region_later (by kernel_rfl) (by kernel_rfl) ?_
        repeat (go_big_quiet_step (fail))
        refine wpQuiet_nil ?_
        intro _ hw'
        obtain ⟨⟨w5, hx⟩, rfl⟩ := hw'
        clear hs
        go_wp2_with fail
        go_ret
        exact RV.int (by rw [HV3.out]) (hE0.trans (hx4.trans hx))
       ·have htd : ((t.length : Int) == 0) = false := by rw [beq_eq_false_iff_ne]; omega
        have HF0 := Lib.hid (show (f == -1 && t.length == 0) = false by rw [Bool.and_eq_false_iff]; right; simp [ht])
        clear ht
        by_cases h1t : t.length = 1
        ·obtain ⟨bb, oo, rfl, hc0⟩ := H.out 0 (by omega)
         rw [Nat.add_zero] at hc0
         have h1d : ((t.length : Int) == 1) = true := by simp [h1t]
         have HT1 := Lib.hid (show t = [t[0]?.getD 0] by cases t with | nil => simp at h1t | cons u t' => cases t' with | nil => rfl | cons _ _ => simp at h1t)
         have h0t : 0 < t.length := by omega
         clear h1t
         generalize t[0]?.getD 0 = t0 at *
         by_cases hft : t0 = f
         ·subst hft
          have HV3 := Lib.hid (show K = 6 by rw [HV2.out, HBD.out]; rw [HT1.out]; simp)
          go_enter Tryz.func117, Tryz.ntmps117
          go_wp2_with fail
          rw [← HW.out]
          refine (rwithin_c _ _ _ _).mono ?_; rintro e w1 ⟨rfl, hx1⟩
          rw [nbB_in]
          rw [HN.out]
          go_wp2_with fail
          refine (HT.out w1 hx1).mono ?_; rintro e w2 ⟨rfl, hx2⟩
          have hx2 := hx1.trans hx2
          go_wp2_with fail
          refine (HL.out w2 hx2).mono ?_; rintro e w3 ⟨rfl, hx3⟩
          have hx3 := hx2.trans hx3
          go_wp2_with fail
          refine (HR.out w3 hx3).mono ?_; rintro e w4 ⟨rfl, hx4⟩
          have hx4 := hx3.trans hx4
          go_wp2_with fail
          have hs : ∀ s : Later w4, Ext wA s.w := fun s => hx4.trans s.ext
          have q0 := fun s : Later w4 => (hE0.trans (hx4.trans s.ext)).keep hc0
          refine wp_region_later (by kernel_rfl) (by kernel_rfl) ?_
          repeat (go_big_quiet_step (fail))
          refine wpQuiet_nil ?_
          intro _ hw'
          obtain ⟨⟨w5, hx⟩, rfl⟩ := hw'
          clear hs q0
          go_wp2_with fail
          go_ret
          exact RV.int (by rw [HV3.out]) (hE0.trans (hx4.trans hx))
         ·have hfd : (t0 == f) = false := by simp [hft]
          have HFT := Lib.hid hft; clear hft
          have HV3 := Lib.hid (show K = 0 by rw [HV2.out, HBD.out]; rw [HT1.out]; simp [HFT.out])
          go_enter Tryz.func117, Tryz.ntmps117
          go_wp2_with fail
          rw [← HW.out]
          refine (rwithin_c _ _ _ _).mono ?_; rintro e w1 ⟨rfl, hx1⟩
          rw [nbB_in]
          rw [HN.out]
          go_wp2_with fail
          refine (HT.out w1 hx1).mono ?_; rintro e w2 ⟨rfl, hx2⟩
          have hx2 := hx1.trans hx2
          go_wp2_with fail
          refine (HL.out w2 hx2).mono ?_; rintro e w3 ⟨rfl, hx3⟩
          have hx3 := hx2.trans hx3
          go_wp2_with fail
          refine (HR.out w3 hx3).mono ?_; rintro e w4 ⟨rfl, hx4⟩
          have hx4 := hx3.trans hx4
          go_wp2_with fail
          have hs : ∀ s : Later w4, Ext wA s.w := fun s => hx4.trans s.ext
          have q0 := fun s : Later w4 => (hE0.trans (hx4.trans s.ext)).keep hc0
          refine wp_region_later (by kernel_rfl) (by kernel_rfl) ?_
          repeat (go_big_quiet_step (fail))
          refine wpQuiet_nil ?_
          intro _ hw'
          obtain ⟨⟨w5, hx⟩, rfl⟩ := hw'
          clear hs q0
          go_wp2_with fail
          go_ret
          exact RV.int (by rw [HV3.out]) (hE0.trans (hx4.trans hx))
        ·have h1d : ((t.length : Int) == 1) = false := by rw [beq_eq_false_iff_ne]; omega
         have hne : (t == [f]) = false := by rw [beq_eq_false_iff_ne]; intro h; rw [h] at h1t; simp at h1t
         have HNE := Lib.hid hne; clear hne
         have H1T := Lib.hid h1t; clear h1t
         have HV3 := Lib.hid (show K = 0 by rw [HV2.out, HBD.out]; rw [HNE.out, HF0.out]; rfl)
         go_enter Tryz.func117, Tryz.ntmps117
         go_wp2_with fail
         rw [← HW.out]
         refine (rwithin_c _ _ _ _).mono ?_; rintro e w1 ⟨rfl, hx1⟩
         rw [nbB_in]
         rw [HN.out]
         go_wp2_with fail
         refine (HT.out w1 hx1).mono ?_; rintro e w2 ⟨rfl, hx2⟩
         have hx2 := hx1.trans hx2
         go_wp2_with fail
         refine (HL.out w2 hx2).mono ?_; rintro e w3 ⟨rfl, hx3⟩
         have hx3 := hx2.trans hx3
         go_wp2_with fail
         refine (HR.out w3 hx3).mono ?_; rintro e w4 ⟨rfl, hx4⟩
         have hx4 := hx3.trans hx4
         go_wp2_with fail
         have hs : ∀ s : Later w4, Ext wA s.w := fun s => hx4.trans s.ext
         refine wp_region_later (by kernel_rfl) (by kernel_rfl) ?_
         repeat (go_big_quiet_step (fail))
         refine wpQuiet_nil ?_
         intro _ hw'
         obtain ⟨⟨w5, hx⟩, rfl⟩ := hw'
         clear hs
         go_wp2_with fail
         go_ret
         exact RV.int (by rw [HV3.out]) (hE0.trans (hx4.trans hx))
      ·have HF0 := Lib.hid (show (f == -1 && t.length == 0) = false by rw [Bool.and_eq_false_iff]; left; rw [beq_eq_false_iff_ne]; omega)
       have hfd : decide (f < 0) = false := by simp; omega
       by_cases h1t : t.length = 1
       ·obtain ⟨bb, oo, rfl, hc0⟩ := H.out 0 (by omega)
        rw [Nat.add_zero] at hc0
        have h1d : ((t.length : Int) == 1) = true := by simp [h1t]
        have HT1 := Lib.hid (show t = [t[0]?.getD 0] by cases t with | nil => simp at h1t | cons u t' => cases t' with | nil => rfl | cons _ _ => simp at h1t)
        have h0t : 0 < t.length := by omega
        clear h1t
        generalize t[0]?.getD 0 = t0 at *
        by_cases hft : t0 = f
        ·subst hft
         have HV3 := Lib.hid (show K = 6 by rw [HV2.out, HBD.out]; rw [HT1.out]; simp)
         go_enter Tryz.func117, Tryz.ntmps117
         go_wp2_with fail
         rw [← HW.out]
         refine (rwithin_c _ _ _ _).mono ?_; rintro e w1 ⟨rfl, hx1⟩
         rw [nbB_in]
         rw [HN.out]
         go_wp2_with fail
         refine (HT.out w1 hx1).mono ?_; rintro e w2 ⟨rfl, hx2⟩
         have hx2 := hx1.trans hx2
         go_wp2_with fail
         refine (HL.out w2 hx2).mono ?_; rintro e w3 ⟨rfl, hx3⟩
         have hx3 := hx2.trans hx3
         go_wp2_with fail
         refine (HR.out w3 hx3).mono ?_; rintro e w4 ⟨rfl, hx4⟩
         have hx4 := hx3.trans hx4
         go_wp2_with fail
         have hs : ∀ s : Later w4, Ext wA s.w := fun s => hx4.trans s.ext
         have q0 := fun s : Later w4 => (hE0.trans (hx4.trans s.ext)).keep hc0
         refine wp_region_later (by kernel_rfl) (by kernel_rfl) ?_
         repeat (go_big_quiet_step (fail))
         refine wpQuiet_nil ?_
         intro _ hw'
         obtain ⟨⟨w5, hx⟩, rfl⟩ := hw'
         clear hs q0
         go_wp2_with fail
         go_ret
         exact RV.int (by rw [HV3.out]) (hE0.trans (hx4.trans hx))
        ·have hfd : (t0 == f) = false := by simp [hft]
         have HFT := Lib.hid hft; clear hft
         have HV3 := Lib.hid (show K = 0 by rw [HV2.out, HBD.out]; rw [HT1.out]; simp [HFT.out])
         go_enter Tryz.func117, Tryz.ntmps117
         go_wp2_with fail
         rw [← HW.out]
         refine (rwithin_c _ _ _ _).mono ?_; rintro e w1 ⟨rfl, hx1⟩
         rw [nbB_in]
         rw [HN.out]
         go_wp2_with fail
         refine (HT.out w1 hx1).mono ?_; rintro e w2 ⟨rfl, hx2⟩
         have hx2 := hx1.trans hx2
         go_wp2_with fail
         refine (HL.out w2 hx2).mono ?_; rintro e w3 ⟨rfl, hx3⟩
         have hx3 := hx2.trans hx3
         go_wp2_with fail
         refine (HR.out w3 hx3).mono ?_; rintro e w4 ⟨rfl, hx4⟩
         have hx4 := hx3.trans hx4
         go_wp2_with fail
         have hs : ∀ s : Later w4, Ext wA s.w := fun s => hx4.trans s.ext
         have q0 := fun s : Later w4 => (hE0.trans (hx4.trans s.ext)).keep hc0
         refine wp_region_later (by kernel_rfl) (by kernel_rfl) ?_
         repeat (go_big_quiet_step (fail))
         refine wpQuiet_nil ?_
         intro _ hw'
         obtain ⟨⟨w5, hx⟩, rfl⟩ := hw'
         clear hs q0
         go_wp2_with fail
         go_ret
         exact RV.int (by rw [HV3.out]) (hE0.trans (hx4.trans hx))
       ·have h1d : ((t.length : Int) == 1) = false := by rw [beq_eq_false_iff_ne]; omega
        have hne : (t == [f]) = false := by rw [beq_eq_false_iff_ne]; intro h; rw [h] at h1t; simp at h1t
        have HNE := Lib.hid hne; clear hne
        have H1T := Lib.hid h1t; clear h1t
        have HV3 := Lib.hid (show K = 0 by rw [HV2.out, HBD.out]; rw [HNE.out, HF0.out]; rfl)
        go_enter Tryz.func117, Tryz.ntmps117
        go_wp2_with fail
        rw [← HW.out]
        refine (rwithin_c _ _ _ _).mono ?_; rintro e w1 ⟨rfl, hx1⟩
        rw [nbB_in]
        rw [HN.out]
        go_wp2_with fail
        refine (HT.out w1 hx1).mono ?_; rintro e w2 ⟨rfl, hx2⟩
        have hx2 := hx1.trans hx2
        go_wp2_with fail
        refine (HL.out w2 hx2).mono ?_; rintro e w3 ⟨rfl, hx3⟩
        have hx3 := hx2.trans hx3
        go_wp2_with fail
        refine (HR.out w3 hx3).mono ?_; rintro e w4 ⟨rfl, hx4⟩
        have hx4 := hx3.trans hx4
        go_wp2_with fail
        have hs : ∀ s : Later w4, Ext wA s.w := fun s => hx4.trans s.ext
        refine wp_region_later (by kernel_rfl) (by kernel_rfl) ?_
        repeat (go_big_quiet_step (fail))
        refine wpQuiet_nil ?_
        intro _ hw'
        obtain ⟨⟨w5, hx⟩, rfl⟩ := hw'
        clear hs
        go_wp2_with fail
        go_ret
        exact RV.int (by rw [HV3.out]) (hE0.trans (hx4.trans hx))
end Go.Proofs.YtpmlcfgbfhgpgaaGreatDoor
