/- A school's state in memory. -/
import Derived.Test.YtpmlcfgbfhgpgaaGreatDoorJoinA
import Derived.Test.YtpmlcfgbfhgpgaaGreatDoorOrdJ
import Derived.Test.YtpmlcfgbfhgpgaaGreatDoorHol
namespace Go.Proofs.YtpmlcfgbfhgpgaaGreatDoor
open Go.RowKit Go.Shelf
set_option linter.unusedVariables false
def encCh (c : Ch) : List Value := [.int .i64 c.1, .int .i64 c.2.1, .int .i64 c.2.2]
theorem encCh_len (c : Ch) : (encCh c).length = 3 := rfl
abbrev Chs (w : World) (v : Value) (L : List Ch) : Prop := Cel encCh 3 w v L
structure SV where
 kn : Value
 gr : Value
 base : Value
 words : Value
 slate : Value
 forms : Value
 orders : Value
def SV.cells (v : SV) (x : St) : List Value := [v.kn, v.gr, .bool x.has, v.base, v.words, v.slate, v.forms, v.orders]
structure StR (w : World) (v : SV) (x : St) : Prop where
 kn : Ints w v.kn x.kn
 gr : Ints w v.gr x.gr
 base : Ints w v.base x.base
 words : Rows w v.words x.words
 slate : Chs w v.slate x.slate
 forms : Rows w v.forms x.forms
 orders : Strs w v.orders x.orders
theorem StR.sub {w w' : World} {v : SV} {x : St} (h : StR w v x) (hb : Sub w w') : StR w' v x :=
 ⟨h.kn.sub hb, h.gr.sub hb, h.base.sub hb, h.words.sub hb, h.slate.sub hb, h.forms.sub hb, h.orders.sub hb⟩
theorem StR.ext {w w' : World} {v : SV} {x : St} (h : StR w v x) (hx : Ext w w') : StR w' v x := h.sub hx.sub
theorem StR.full {S : Nat → Bool} {w : World} {v : SV} {x : St} (h : StR (hole S w) v x) : StR w v x := h.sub (hole_sub S w)
theorem ownsRow_hole {S : Nat → Bool} {w : World} {B size n : Nat} {e : TypeId} {v : Value} {xs : List Value} (h : w.ownsRow B e size v n xs) (hS : ∀ k, S k = true → k < B) : (hole S w).ownsRow B e size v n xs := by
 obtain ⟨h0, h | ⟨g, cap, cur, h1, h2, h3, h4⟩⟩ := h
 ·exact ⟨h0, .inl h⟩
 ·refine ⟨h0, .inr ⟨g, cap, cur, h1, h2, ?_, h4⟩⟩
  rw [hole_block S w (by
   cases hg : S g
   ·rfl
   ·have := hS g hg; omega)]
  exact h3
theorem OInts.hole {S : Nat → Bool} {w : World} {B : Nat} {v : Value} {l : List Int} (h : OInts 3 w B v l) (hS : ∀ k, S k = true → k < B) : OInts 3 (Go.Proofs.YtpmlcfgbfhgpgaaGreatDoor.hole S w) B v l := ownsRow_hole h hS
theorem OCel.hole {α : Type} {enc : α → List Value} {k : Nat} {e : TypeId} {S : Nat → Bool} {w : World} {B : Nat} {v : Value} {L : List α} (h : OCel enc k e w B v L) (hS : ∀ k, S k = true → k < B) : OCel enc k e (Go.Proofs.YtpmlcfgbfhgpgaaGreatDoor.hole S w) B v L := ownsRow_hole h hS
end Go.Proofs.YtpmlcfgbfhgpgaaGreatDoor
