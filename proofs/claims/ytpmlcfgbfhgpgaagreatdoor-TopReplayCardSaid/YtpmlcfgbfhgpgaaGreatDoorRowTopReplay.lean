/- TopReplay: for every input the call returns true, and each argument reads afterwards as it read before. The row and its tied card. -/
import Derived.Test.YtpmlcfgbfhgpgaaGreatDoorLawTopReplay
import Derived.Test.YtpmlcfgbfhgpgaaGreatDoorJoinB
import Derived.Test.YtpmlcfgbfhgpgaaGreatDoorOpen9
import Derived.Test.YtpmlcfgbfhgpgaaGreatDoorFact9
import Derived.Test.YtpmlcfgbfhgpgaaGreatDoorRows
import Derived.Test.YtpmlcfgbfhgpgaaGreatDoorTie
import Derived.Test.YtpmlcfgbfhgpgaaGreatDoorCards
import Derived.SevenTiedPlain
import Derived.Stop.Joined
import Derived.ChangeSame
import Derived.ChangeVars
import Derived.JoinedOf
namespace Go.Proofs.YtpmlcfgbfhgpgaaGreatDoor.topReplayP
open Go.ChangeShapes Go.WideShapes Go.ChangeAt Go.RowKit
set_option maxRecDepth 100000 in
theorem lifted (os : Os) (started : os.Started) (H : Type) (enc : TypeId × Value → H) :
    ReturnsInHanded {} Tryz.checked os 18 .any (fun w args => (Rows.topReplaySpec.pre enc Tryz.prog Tryz.f18 [] false w args ∧ laidMetH Tryz.prog Rows.topReplayRow.laid w) ∧ sizedMet enc Tryz.prog Tryz.f18 (OpenSpec.ofChange Rows.topReplaySpec) false w args)
      (Rows.topReplaySpec.post enc Tryz.prog Tryz.f18 false true false false) := by
  refine returnsInHanded_of_change_and (C := Tryz.checked) (X := fun w _ => laidMetH Tryz.prog Rows.topReplayRow.laid w) (fun _ _ _ hh h => h.of_heap hh) fact9.own started (by kernel_rfl) Tryz.func18
    (ChangeSpec.witness_at (enc := enc) (C := Tryz.checked) (os := os) (X := fun w _ => laidMetH Tryz.prog Rows.topReplayRow.laid w) false (laidWorld os) #[.agg #[.slice none 0 0, .slice none 0 0, .int .i64 0]] 8 rfl (by kernel_rfl) (by kernel_rfl) (by kernel_rfl) (by kernel_rfl) (by kernel_rfl) (laidWorld_met os _)) ?_
  intro W base args ds gs before hval0 hW _ _ hL _
  have hval : ∀ (j : Nat) t v, (Tryz.f18).params[j]? = some t → args[j]? = some v → Value.okWide Tryz.prog W .any base t v := hval0
  have hW' := hW
  obtain ⟨p, q, hA0, hV, rfl, hfz, hnd⟩ := hW
  have hA : DataW.TrodAll enc Tryz.prog W 0 (fun _ => true) true (Tryz.f18).params.toList args.toList ds p := hA0
  rw [Tryz.params18] at hA hval
  obtain ⟨hE, hT, h7⟩ := env_of_laid hL
  obtain ⟨v0, vs0, d0, ds0, p0, q0, hargs, rfl, rfl, h0, r0⟩ := trodAll_cons hA
  obtain ⟨rfl, rfl, rfl⟩ := trodAll_nil r0
  obtain rfl : args = #[v0] := by cases args; simp_all
  obtain ⟨rfl, rfl⟩ := trodVars_none hV
  have k0 := h0
  have lt0 : ∀ x ∈ p0, x.block < W.heap.size := by obtain ⟨m, hm⟩ := k0; exact DataW.trod_lt m _ _ _ hm
  obtain ⟨va0, vb0, vc0, y0, z0, u0, m0, rfl, rfl, rfl, qa0, qb0, qc0⟩ := Go.Joins.open_agg3 Tryz.underlying92 (by kernel_rfl) (by kernel_rfl) (hval 0 92 v0 rfl rfl) h0
  obtain ⟨_, ls0, hcs, hs0⟩ := open_Ruls Tryz.underlying22 Tryz.underlying70 (by kernel_rfl) rfl rfl rfl rfl rfl rfl rfl rfl (by kernel_rfl) Tryz.underlying34 (by kernel_rfl) Tryz.underlying3 qa0
  injection hcs with hcs; subst hcs
  obtain ⟨_, lo0, hcs, ht0⟩ := open_Strs Tryz.underlying23 Tryz.underlying9 (by kernel_rfl) qb0
  injection hcs with hcs; subst hcs
  obtain ⟨a0, hcs, _, w0⟩ := DataW.trod_int Tryz.underlying3 qc0
  injection hcs with hcs; subst hcs
  clear hA0 hval0
  refine (topReplay_c va0 vb0 a0 ls0 lo0 W hs0 ht0 w0 hE hT h7).mono fun e W' ⟨he, bel⟩ => ?_
  subst he
  exact ⟨_, rfl, _, _, _, [], _, [], hW', trodAll_mk1 (shut_bool Tryz.underlying4 _), (trodAll_cons_mk (Below.trod fact9.laidOut (by kernel_rfl) (of_decide_eq_true (by kernel_rfl)) k0 bel lt0) trodAll_mk0), rfl, bel.frame _, fun h => by cases h⟩
theorem g3 : Tryz.prog.inPlace 18 = Rows.topReplayRow.inPlace := by kernel_rfl
theorem g4 : Tryz.prog.unfollowed 18 = Rows.topReplayRow.unfollowed := by kernel_rfl
theorem g5 : Tryz.prog.recurses 18 = Rows.topReplayRow.recurses := by kernel_rfl
theorem g6 : Tryz.prog.varsNamed 18 = Rows.topReplayRow.named := by kernel_rfl
theorem g13 : Rows.topReplayRow.wf (OpenSpec.ofChange Rows.topReplaySpec) = true := by kernel_rfl
theorem closed : joinedFacts Tryz.prog 18 Tryz.f18 Rows.topReplaySpec Rows.topReplayRow = true := by
  unfold joinedFacts
  rw [show Tryz.prog.liftsFinal = Rows.topReplayRow.lifted from fact9.g1, fact9.g2, g3, g4, g5, g6, fact9.g7, fact9.g8, fact9.g9, show Tryz.prog.plainKeys = Rows.topReplayRow.plainKeys from fact9.g10, fact9.g11, show Tryz.prog.make = some Rows.topReplayRow.make from fact9.g12, g13, fact9.laidOut]
  kernel_rfl
theorem said : Rows.TopReplaySaid :=
  OpenClaim.holds_of_wide 18 Tryz.f18 rfl rfl rfl rfl rfl rfl rfl ⟨rfl, rfl, rfl, rfl, rfl⟩ rfl rfl rfl rfl rfl (by kernel_rfl) Tryz.func18 closed
    (of_decide_eq_true (by kernel_rfl)) (by unfold Func.isWrapper; first | (rw [if_pos (by decide +kernel)]; kernel_rfl) | (rw [if_neg (by decide +kernel)]; exact ⟨rfl, rfl⟩))
    (fun os started H enc _ => lifted os started H enc)
theorem named : Tryz.prog.funcNamed Rows.topReplayRow.func = some 18 := by kernel_rfl
theorem goes9 : false = Rows.topReplayRow.goesBy Tryz.pinned.checked.prog := by kernel_rfl
theorem wf9 : Rows.topReplayRow.wfByText (OpenSpec.ofChange Rows.topReplaySpec) = true := by kernel_rfl
theorem holds : Rows.TopReplayCardSaid :=
  Claim7.holds_tied_plain_at .later [] [.data, .data, .data, .handle, .sentinel, .sentinel] true (true, "7401afb06fc61065f1e92cf208d0acc128d977d6ad779937a32985a6dbe8fdf2") true
    said (fun _ h => by cases h) wf9 (fun _ h => by cases h) topReplay_row_tie rfl ⟨rfl, rfl⟩ fact9.main9 rfl
    (fun f fn hf hfn => by
      obtain rfl : f = 18 := (Option.some.inj (named.symm.trans hf)).symm
      obtain rfl : fn = Tryz.f18 := (Option.some.inj (Tryz.func18.symm.trans hfn)).symm
      exact ⟨fact9.looks9.symm, fun j t ht => by
        rw [Tryz.params18] at ht
        rcases j with _ | j
        · obtain rfl := Option.some.inj (ht : some 92 = some t)
          exact (show Tryz.prog.wantsStandIn 92 = false by kernel_rfl)
        simp at ht⟩)
    goes9
#print axioms holds
end Go.Proofs.YtpmlcfgbfhgpgaaGreatDoor.topReplayP
