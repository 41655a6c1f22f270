/- The word of a state. -/
import Derived.Test.YtpmlcfgbfhgpgaaGreatDoorSysC
namespace Go.Proofs.YtpmlcfgbfhgpgaaGreatDoor
open Go.RowKit Go.Shelf
set_option linter.unusedVariables false
set_option maxHeartbeats 2000000 in
set_option maxRecDepth 100000 in
theorem word_c (v : SV) (x : St) (w : World) (hs : StR w v x) (hw : 1 ≤ x.words.length) :
  ∃ u, Ints w u (lastW x) ∧ ∀ W, Ext w W → Calls Tryz.prog 70 #[.agg (v.cells x).toArray] W (RV u W) := by
 obtain ⟨a, c, hv, h1, h2, H⟩ := hs.words.open_
 obtain ⟨b, o, ha, u, hc, hu⟩ := H.out (x.words.length - 1) (by omega)
 refine ⟨u, hu, fun W hx => ?_⟩
 obtain ⟨vkn, vgr, vb, vw, vs, vf, vo⟩ := v
 simp only at hv
 subst hv ha
 replace hc := hx.keep hc
 clear hs H hu
 generalize x.words.length = N at *
 obtain ⟨n, rfl⟩ : ∃ n, N = n + 1 := ⟨N - 1, by omega⟩
 rw [show n + 1 - 1 = n from rfl] at hc
 have hbox := Blk.alloc W #[vkn, vgr, .bool x.has, vb, .slice (some ⟨b, o, none⟩) (n + 1) c, vs, vf, vo] 106
 have hX0 := Ext.alloc W (.cells #[vkn, vgr, .bool x.has, vb, .slice (some ⟨b, o, none⟩) (n + 1) c, vs, vf, vo] 106)
 replace hc := hX0.keep hc
 simp only [SV.cells]
 go_enter Tryz.func70, Tryz.ntmps70
 go_upto_region 1 with fail
 generalize W.alloc (.cells #[vkn, vgr, .bool x.has, vb, .slice (some ⟨b, o, none⟩) (n + 1) c, vs, vf, vo] 106) = w0 at *
 have c0 := hbox.cell (i := 4) rfl
 go_wp2_with fail
 go_ret
 exact ⟨rfl, hX0⟩
end Go.Proofs.YtpmlcfgbfhgpgaaGreatDoor
