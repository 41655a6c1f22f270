/- Walks of package cell: the entries that match a cell, the one that decides. -/
import Derived.Test.YtdgncnhmgbmpjaaCellB
import Derived.Test.YtdgncnhmgbmpjaaOwn
namespace Go.Proofs.Ytdgncnhmgbmpjaa
open Go.RowKit Go.Shelf
set_option linter.unusedVariables false

theorem elInts : ElTy Try.prog 22 3 1 8 (.int .i64 0) := ⟨Try.underlying22, by kernel_rfl, rfl, by omega⟩

def matchB (es : List Ent) (c : List Int) (i : Nat) : Bool := holdsB (ent es i).1 c
set_option maxHeartbeats 600000 in
theorem matches_c (sv ev vc : Value) (es : List Ent) (c : List Int) (w : World) (he : Ents w ev es) (hc : Ints w vc c)
    (hr : ∀ i, i < es.length → (ent es i).1.length ≤ c.length) (hn : es.length ≤ 1048576) :
    Calls Try.prog 37 #[.agg #[sv, ev], vc] w (RInts (sel es.length (matchB es c)) w) := by
  obtain ⟨ae, ce, rfl, hle, hme, He⟩ := he.open_
  have Hc := Lib.hid hc
  clear he hc
  have Hr := Lib.hid hr; clear hr
  go_enter Try.func37, Try.ntmps37
  go_wp2_with fail
  go_loopg [11, 5] es.length (fun m i v wr => ∃ k : Nat, k ≤ es.length ∧ es.length ≤ k + m ∧ i = .int .i64 k ∧ Ext (w.alloc (.cells #[sv, .slice ae es.length ce] 25)) wr ∧
    OInts 3 wr (w.heap.size + 1) v (sel k (matchB es c)))
  case atStart => exact ⟨0, by omega, by omega, rfl, Ext.refl _, OInts.nil _ _ _⟩
  case round =>
    obtain ⟨k, hk, hk2, rfl, hB, hown⟩ := hrel
    by_cases hlt : k < es.length
    · obtain ⟨ba, oa, rfl, u, hc1, hi1, hf1⟩ := He.out k hlt
      have hX := (Ext.alloc w (.cells #[sv, .slice (some ⟨ba, oa, none⟩) es.length ce] 25)).trans hB
      replace hc1 := hX.keep hc1
      replace hf1 := hX.keep hf1
      have HH := Lib.hid (holds_c u vc (ent es k).1 c (wr.alloc (.cells #[u, .int .i64 (ent es k).2] 42)) ((hi1.ext hX).ext (Ext.alloc _ _)) ((Hc.out.ext hX).ext (Ext.alloc _ _)) (Hr.out k hlt))
      obtain ⟨au, cu, rfl, hlu, hmu, _⟩ := hi1.open_
      have hsl := sel_le k (matchB es c)
      have hsz : w.heap.size + 1 ≤ wr.heap.size := by have := hB.size; simpa using this
      have hown1 := hown.alloc (.cells #[.slice au (ent es k).1.length cu, .int .i64 (ent es k).2] 42)
      cases hm : matchB es c k
      · have hs := Lib.hid (sel_no hm)
        unfold matchB at hm
        rw [hm] at HH
        clear hm
        go_wp2_with (go_at_call 31; refine HH.out.mono ?_; rintro e w' ⟨rfl, rfl⟩)
        go_roundg (gk-1)
        case measure => omega
        case rel => exact ⟨k+1, by omega, by omega, by go_num, hB.trans (Ext.alloc _ _), by rw [hs.out]; exact hown1⟩
      · have hs := Lib.hid (sel_yes hm)
        unfold matchB at hm
        rw [hm] at HH
        clear hm
        go_wp2_with (first
          | (go_at_call 31; refine HH.out.mono ?_; rintro e w' ⟨rfl, rfl⟩)
          | (at_builtin; refine wpList_appendInt elInts rfl _ _ rfl rfl rfl hown1 (by simp) (by simp; omega) (by omega) ?_; intro v' w' hown2 hb2))
        go_roundg (gk-1)
        case measure => omega
        case rel => exact ⟨k+1, by omega, by omega, by go_num, (hB.trans (Ext.alloc _ _)).upto hb2 (by simp), by rw [hs.out]; exact hown2⟩
    · go_wp2_with fail
      go_ret
      obtain rfl : k = es.length := by omega
      exact ⟨_, rfl, hown.ints, (Ext.alloc _ _).trans hB⟩
end Go.Proofs.Ytdgncnhmgbmpjaa
