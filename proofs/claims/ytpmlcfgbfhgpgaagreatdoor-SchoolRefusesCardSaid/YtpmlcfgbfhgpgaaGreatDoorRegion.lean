/- Regions that draw their order, where all worlds that come after a given one serve alike; a head that only looks and a tail in the text's order. Over any program. -/
import Derived.Test.YtpmlcfgbfhgpgaaGreatDoorLib
import Derived.Deep.Quiet
import Derived.StillTail
import Derived.OrdersIn
import Derived.OwnWalkIn
import Derived.RangeFuncCalls
namespace Go.Proofs.YtpmlcfgbfhgpgaaGreatDoor
open Go.RowKit
set_option linter.unusedVariables false
structure Later (w0 : World) where
 w : World
 ext : Ext w0 w
instance Later.some_ (w0 : World) : Nonempty (Later w0) := ⟨⟨w0, Ext.refl w0⟩⟩
def Later.C (w0 : World) : World → Prop := fun w' => ∃ s : Later w0, w' = s.w
theorem Later.mk_C {w0 w : World} (h : Ext w0 w) : Later.C w0 w := ⟨⟨w, h⟩, rfl⟩
theorem Later.call {P : Program} {f : FuncId} {args : Array Value} {w0 : World} {s : Later w0} {v : Value} (h : Calls P f args s.w (RV v s.w)) :
  Calls P f args s.w fun e w'' => e = .returned v ∧ ∃ s' : Later w0, w'' = s'.w :=
 h.mono fun e w'' ⟨he, hx⟩ => ⟨he, ⟨w'', s.ext.trans hx⟩, rfl⟩
theorem Later.callP {P : Program} {f : FuncId} {args : Array Value} {w0 : World} {s : Later w0} {v : Value} (h : Calls P f args s.w (RP v s.w)) :
  Calls P f args s.w fun e w'' => e = .returned v ∧ ∃ s' : Later w0, w'' = s'.w :=
 h.mono fun e w'' ⟨he, hx⟩ => ⟨he, s, hx.symm⟩
section
variable {P : Program} {ops : Array Oper} {md : Region.Mode} {C : World → Prop}
theorem wpAny_all_quiet {Q : Exit → Act → World → Prop} {a : Act} {w : World} {l : List Oper} (hB : Region.lexB .any l.toArray = true) (hC : C w)
  (h : wpQuiet P l.toArray C (fun a' => ∀ w', C w' → Q .normal a' w') l a) : wpAny P .any l.toArray Q l.toArray.size (Array.replicate l.toArray.size false) a w := by
 simp only [Region.lexB, Bool.and_eq_true] at hB
 refine wpAny_of_quiet (C := C) (Q := fun a' => ∀ w', C w' → Q .normal a' w') (fun _ w' hw' h => h w' hw') _ _ _ _ hC ?_
 have := wpAnyQ_lex (C := C) (md := .any) hB.1 l.toArray.toList 0 (Array.replicate l.toArray.size false) a (by simp) (by simpa using hB.2) (by simpa using h)
 simpa using this
theorem drawn_ext (w : World) : Ext w { w with drawn := w.drawn + 1 } := Ext.drewN w 1
theorem wp_region_later {id : Nat} {Q : Exit → Act → World → Prop} {a : Act} {w : World} {l : List Oper} (hm : P.follows .mixedOrders = true) (hB : Region.lexB .any l.toArray = true)
  (h : wpQuiet P l.toArray (fun w' => ∃ s : Later w, w' = s.w) (fun a' => ∀ w', (∃ s : Later w, w' = s.w) → Q .normal a' w') l a) : (Code.region id l.toArray true).wp P Q a w :=
 wp_region_any hm (wpAny_all_quiet (C := Later.C w) hB (Later.mk_C (drawn_ext w)) h)
end
end Go.Proofs.YtpmlcfgbfhgpgaaGreatDoor
