/- CellWithout: a paradigm without an entry agrees with the reference, and its forms are the same exactly if the entry was needless. No condition. -/
import Derived.Test.YtdgncnhmgbmpjaaRed
namespace Go.Proofs.Ytdgncnhmgbmpjaa
open Go.RowKit Go.Shelf
set_option linter.unusedVariables false

theorem has_sel {n a : Nat} {f : Nat → Bool} (ha : a < n) : hasB (sel n f) a = f a := by
  rw [hasB_eq, Bool.eq_iff_iff, List.contains_iff_mem, mem_sel]
  constructor
  · rintro ⟨k, _, h, he⟩
    have : a = k := by omega
    subst this; exact h
  · intro h; exact ⟨a, ha, h, rfl⟩
theorem sameK_ok {sizes : List Int} {es fs : List Ent} (V : ValidP sizes es) (V2 : ValidP sizes fs) : sameK sizes es sizes fs = 0 := by
  rw [sameK, validI_of V, validI_of V2, sameIntsB_refl]; rfl
theorem sameV_ok {sizes : List Int} {es fs : List Ent} (V : ValidP sizes es) (V2 : ValidP sizes fs) : sameV sizes es sizes fs = sameIntsB (fillL sizes es) (fillL sizes fs) := by
  rw [sameV, validI_of V, validI_of V2, sameIntsB_refl]; simp

end Go.Proofs.Ytdgncnhmgbmpjaa
