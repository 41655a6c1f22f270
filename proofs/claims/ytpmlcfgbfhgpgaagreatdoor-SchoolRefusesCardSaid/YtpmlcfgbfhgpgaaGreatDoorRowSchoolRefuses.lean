/- SchoolRefuses: for every input the call returns true, and each argument reads afterwards as it read before. The row and its tied card. -/
import Derived.Test.YtpmlcfgbfhgpgaaGreatDoorLawSchoolRefuses
import Derived.Test.YtpmlcfgbfhgpgaaGreatDoorJoinB
import Derived.Test.YtpmlcfgbfhgpgaaGreatDoorOpen9
import Derived.Test.YtpmlcfgbfhgpgaaGreatDoorFact9
import Derived.Test.YtpmlcfgbfhgpgaaGreatDoorRows
import Derived.Test.YtpmlcfgbfhgpgaaGreatDoorTie
import Derived.Test.YtpmlcfgbfhgpgaaGreatDoorCards
import Derived.SevenTiedPlain
import Derived.Stop.Joined
import Derived.ChangeSame
import Derived.ChangeVars
import Derived.JoinedOf
namespace Go.Proofs.YtpmlcfgbfhgpgaaGreatDoor.schoolRefusesP
open Go.ChangeShapes Go.WideShapes Go.ChangeAt Go.RowKit
set_option maxRecDepth 100000 in
theorem lifted (os : Os) (started : os.Started) (H : Type) (enc : TypeId × Value → H) :
  ReturnsInHanded {} Tryz.checked os 11 .any (fun w args => (Rows.schoolRefusesSpec.pre enc Tryz.prog Tryz.f11 [] false w args ∧ laidMetH Tryz.prog Rows.schoolRefusesRow.laid w) ∧ sizedMet enc Tryz.prog Tryz.f11 (OpenSpec.ofChange Rows.schoolRefusesSpec) false w args)
   (Rows.schoolRefusesSpec.post enc Tryz.prog Tryz.f11 false true false false) := by
 refine returnsInHanded_of_change_and (C := Tryz.checked) (X := fun w _ => laidMetH Tryz.prog Rows.schoolRefusesRow.laid w) (fun _ _ _ hh h => h.of_heap hh) fact9.own started (by kernel_rfl) Tryz.func11
  (ChangeSpec.witness_at (enc := enc) (C := Tryz.checked) (os := os) (X := fun w _ => laidMetH Tryz.prog Rows.schoolRefusesRow.laid w) false (laidWorld os) #[.slice none 0 0, .slice none 0 0, .string ⟨#[]⟩] 8 rfl (by kernel_rfl) (by kernel_rfl) (by kernel_rfl) (by kernel_rfl) (by kernel_rfl) (laidWorld_met os _)) ?_
 intro W base args ds gs before hval0 hW _ _ hL _
 have hval : ∀ (j : Nat) t v, (Tryz.f11).params[j]? = some t → args[j]? = some v → Value.okWide Tryz.prog W .any base t v := hval0
 have hW' := hW
 obtain ⟨p, q, hA0, hV, rfl, hfz, hnd⟩ := hW
 have hA : DataW.TrodAll enc Tryz.prog W 0 (fun _ => true) true (Tryz.f11).params.toList args.toList ds p := hA0
 rw [Tryz.params11] at hA hval
 obtain ⟨hE, hT, h7⟩ := env_of_laid hL
 obtain ⟨v0, vs0, d0, ds0, p0, q0, hargs, rfl, rfl, h0, r0⟩ := trodAll_cons hA
 obtain ⟨v1, vs1, d1, ds1, p1, q1, rfl, rfl, rfl, h1, r1⟩ := trodAll_cons r0
 obtain ⟨v2, vs2, d2, ds2, p2, q2, rfl, rfl, rfl, h2, r2⟩ := trodAll_cons r1
 obtain ⟨rfl, rfl, rfl⟩ := trodAll_nil r2
 obtain rfl : args = #[v0, v1, v2] := by cases args; simp_all
 obtain ⟨rfl, rfl⟩ := trodVars_none hV
 have k0 := h0
 have lt0 : ∀ x ∈ p0, x.block < W.heap.size := by obtain ⟨m, hm⟩ := k0; exact DataW.trod_lt m _ _ _ hm
 obtain ⟨m0, hm0⟩ := h0
 obtain ⟨c0, l0, hcs, hs0⟩ := open_Ruls Tryz.underlying22 Tryz.underlying70 (by kernel_rfl) rfl rfl rfl rfl rfl rfl rfl rfl (by kernel_rfl) Tryz.underlying34 (by kernel_rfl) Tryz.underlying3 hm0
 obtain ⟨ca0, cl0, cc0, rfl⟩ := okWide_slice Tryz.underlying22 (hval 0 22 v0 rfl rfl)
 simp only [Value.cells] at hcs; injection hcs with hcs; subst hcs
 have k1 := h1
 have lt1 : ∀ x ∈ p1, x.block < W.heap.size := by obtain ⟨m, hm⟩ := k1; exact DataW.trod_lt m _ _ _ hm
 obtain ⟨m1, hm1⟩ := h1
 obtain ⟨c1, l1, hcs, hs1⟩ := open_Strs Tryz.underlying23 Tryz.underlying9 (by kernel_rfl) hm1
 obtain ⟨ca1, cl1, cc1, rfl⟩ := okWide_slice Tryz.underlying23 (hval 1 23 v1 rfl rfl)
 simp only [Value.cells] at hcs; injection hcs with hcs; subst hcs
 obtain ⟨a2, rfl, rfl, rfl, w2⟩ := Go.ChangeMaps.open_string Tryz.underlying9 (hval 2 9 v2 rfl rfl) h2
 clear hA0 hval0
 refine (schoolRefuses_c (.slice ca0 cl0 cc0) (.slice ca1 cl1 cc1) a2 l0 l1 W hs0 hs1 w2 hE hT h7).mono fun e W' ⟨he, bel⟩ => ?_
 subst he
 exact ⟨_, rfl, _, _, _, [], _, [], hW', trodAll_mk1 (shut_bool Tryz.underlying4 _), (trodAll_cons_mk (Below.trod fact9.laidOut (by kernel_rfl) (of_decide_eq_true (by kernel_rfl)) k0 bel lt0) (trodAll_cons_mk (Below.trod fact9.laidOut (by kernel_rfl) (of_decide_eq_true (by kernel_rfl)) k1 bel lt1) (trodAll_cons_mk (Go.ChangeMaps.shut_string Tryz.underlying9 w2) trodAll_mk0))), rfl, bel.frame _, fun h => by cases h⟩
theorem g3 : Tryz.prog.inPlace 11 = Rows.schoolRefusesRow.inPlace := by kernel_rfl
theorem g4 : Tryz.prog.unfollowed 11 = Rows.schoolRefusesRow.unfollowed := by kernel_rfl
theorem g5 : Tryz.prog.recurses 11 = Rows.schoolRefusesRow.recurses := by kernel_rfl
theorem g6 : Tryz.prog.varsNamed 11 = Rows.schoolRefusesRow.named := by kernel_rfl
theorem g13 : Rows.schoolRefusesRow.wf (OpenSpec.ofChange Rows.schoolRefusesSpec) = true := by kernel_rfl
theorem closed : joinedFacts Tryz.prog 11 Tryz.f11 Rows.schoolRefusesSpec Rows.schoolRefusesRow = true := by
 unfold joinedFacts
 rw [show Tryz.prog.liftsFinal = Rows.schoolRefusesRow.lifted from fact9.g1, fact9.g2, g3, g4, g5, g6, fact9.g7, fact9.g8, fact9.g9, show Tryz.prog.plainKeys = Rows.schoolRefusesRow.plainKeys from fact9.g10, fact9.g11, show Tryz.prog.make = some Rows.schoolRefusesRow.make from fact9.g12, g13, fact9.laidOut]
 kernel_rfl
theorem said : Rows.SchoolRefusesSaid :=
 OpenClaim.holds_of_wide 11 Tryz.f11 rfl rfl rfl rfl rfl rfl rfl ⟨rfl, rfl, rfl, rfl, rfl⟩ rfl rfl rfl rfl rfl (by kernel_rfl) Tryz.func11 closed
  (of_decide_eq_true (by kernel_rfl)) (by unfold Func.isWrapper; first | (rw [if_pos (by decide +kernel)]; kernel_rfl) | (rw [if_neg (by decide +kernel)]; exact ⟨rfl, rfl⟩))
  (fun os started H enc _ => lifted os started H enc)
theorem named : Tryz.prog.funcNamed Rows.schoolRefusesRow.func = some 11 := by kernel_rfl
theorem goes9 : false = Rows.schoolRefusesRow.goesBy Tryz.pinned.checked.prog := by kernel_rfl
theorem wf9 : Rows.schoolRefusesRow.wfByText (OpenSpec.ofChange Rows.schoolRefusesSpec) = true := by kernel_rfl
theorem holds : Rows.SchoolRefusesCardSaid :=
 Claim7.holds_tied_plain_at .later [] [.data, .data, .data, .handle, .sentinel, .sentinel] true (true, "7401afb06fc61065f1e92cf208d0acc128d977d6ad779937a32985a6dbe8fdf2") true
  said (fun _ h => by cases h) wf9 (fun _ h => by cases h) schoolRefuses_row_tie rfl ⟨rfl, rfl⟩ fact9.main9 rfl
  (fun f fn hf hfn => by
   obtain rfl : f = 11 := (Option.some.inj (named.symm.trans hf)).symm
   obtain rfl : fn = Tryz.f11 := (Option.some.inj (Tryz.func11.symm.trans hfn)).symm
   exact ⟨fact9.looks9.symm, fun j t ht => by
    rw [Tryz.params11] at ht
    rcases j with _ | j
    ·obtain rfl := Option.some.inj (ht : some 22 = some t)
     exact (show Tryz.prog.wantsStandIn 22 = false by kernel_rfl)
    rcases j with _ | j
    ·obtain rfl := Option.some.inj (ht : some 23 = some t)
     exact (show Tryz.prog.wantsStandIn 23 = false by kernel_rfl)
    rcases j with _ | j
    ·obtain rfl := Option.some.inj (ht : some 9 = some t)
     exact (show Tryz.prog.wantsStandIn 9 = false by kernel_rfl)
    simp at ht⟩)
  goes9
#print axioms holds
end Go.Proofs.YtpmlcfgbfhgpgaaGreatDoor.schoolRefusesP
