/- Walks: slices.Clone of ints; the cells of a paradigm, one after another. -/
import Derived.Test.YtdgncnhmgbmpjaaCellD
import Derived.Test.YtdgncnhmgbmpjaaRegion
namespace Go.Proofs.Ytdgncnhmgbmpjaa
open Go.RowKit Go.Shelf
set_option linter.unusedVariables false

/-- ints in memory of the call's own come back -/
def ROInts (e : TypeId) (l : List Int) (w : World) (en : Ending) (w' : World) : Prop := ∃ v, en = .returned v ∧ OInts e w' w.heap.size v l ∧ Ext w w'

set_option maxHeartbeats 400000 in
theorem cloneInts_c (va : Value) (l : List Int) (w : World) (ha : Ints w va l) (hn : l.length ≤ 100000000) :
    Calls Try.prog 40 #[va] w (ROInts 3 l w) := by
  have ha' := ha
  obtain ⟨aa, ca, rfl, hla, hma, Ha⟩ := ha.open_
  have HA := Lib.hid ha'
  clear ha' ha
  have hnil := fun (W : World) (a : Option Addr) (n c n' c' : Nat) => Lib.run_eql_slice_nil (P := Try.prog) W 22 3 a n c n' c' Try.underlying22
  cases aa with
  | none =>
    have hl : l = [] := by
      cases l with
      | nil => rfl
      | cons x xs => obtain ⟨b, o, h, _⟩ := Ha.out 0 (by simp); cases h
    subst hl
    clear Ha HA
    go_enter Try.func40, Try.ntmps40
    go_wp2_with fail
    go_ret
    exact ⟨_, rfl, OInts.nil _ _ _, Ext.refl _⟩
  | some ad =>
    have hown : (w.alloc (.cells #[] 3)).ownsRow w.heap.size 3 1 (.slice (some ⟨w.heap.size, 0, none⟩) 0 0) 0 [] :=
      World.ownsRow_lit (size := 1) w #[] 0 (Nat.le_refl _) (by unfold maxLen; omega) rfl
    go_enter Try.func40, Try.ntmps40
    go_wp2_with (at_builtin; refine wpList_appendAll elInts rfl _ _ rfl rfl rfl hown ((HA.out.ext (Ext.alloc _ _)).raw) (ints_one l) (by simp) (by omega) (by omega) ?_; intro v' w' hown2 hb2)
    go_ret
    exact ⟨_, rfl, by simpa [OInts] using hown2, (Ext.alloc _ _).upto hb2 (by simp)⟩
end Go.Proofs.Ytdgncnhmgbmpjaa
