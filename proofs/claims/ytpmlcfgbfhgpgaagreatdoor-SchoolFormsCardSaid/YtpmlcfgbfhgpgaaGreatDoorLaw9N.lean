/- The form of a word, and end of a school: plain. -/
import Derived.Test.YtpmlcfgbfhgpgaaGreatDoorLaw9M
namespace Go.Proofs.YtpmlcfgbfhgpgaaGreatDoor
open Go.RowKit
set_option linter.unusedVariables false
theorem lastW_step (s : List Rul) (x : St) (c : Ch) : lastW (stepTo s x c) = applyL (rulAt s c.1) (lastW x) c.2.1 := by
  simp [lastW, stepTo]
theorem end_form {s : List Rul} : ∀ (n : Nat) {x : St}, InvE s x → x.has = true → x.slate.length + n = 60 →
    (∀ v, derS (sysL s x) x.gr n (lastW x) = some v → ∃ z, endS s (n + 1) x = (z, 0) ∧ lastW z = v ∧ z.kn = x.kn ∧ z.gr = x.gr ∧ z.has = true ∧ chooseS s z = none ∧ InvE s z) ∧
    (derS (sysL s x) x.gr n (lastW x) = none → (endS s (n + 1) x).2 = 3) := by
  intro n
  induction n with
  | zero =>
    intro x h hh hn
    cases hw : winS (sysL s x) (lastW x) x.gr with
    | none =>
      have hc : chooseS s x = none := by unfold chooseS; rw [hw]; rfl
      have ha : advS s x = (x, 6) := by unfold advS; rw [hc]
      rw [derS_none hw]
      refine ⟨fun v hv => ?_, fun h => by cases h⟩
      injection hv with hv
      refine ⟨x, ?_, hv, rfl, rfl, hh, hc, h⟩
      simp only [endS, ha]
      simp
    | some c =>
      have hc : chooseS s x = some ((x.kn[c.1]?.getD 0).toNat, c.2.1, c.2.2) := by unfold chooseS; rw [hw]; rfl
      have ha : advS s x = (x, 3) := by unfold advS; rw [hc]; simp only; rw [if_pos (by omega)]
      rw [derS_full hw]
      refine ⟨fun v hv => (by cases hv), fun _ => ?_⟩
      simp only [endS, ha]
      simp
  | succ n ih =>
    intro x h hh hn
    cases hw : winS (sysL s x) (lastW x) x.gr with
    | none =>
      have hc : chooseS s x = none := by unfold chooseS; rw [hw]; rfl
      have ha : advS s x = (x, 6) := by unfold advS; rw [hc]
      rw [derS_none hw]
      refine ⟨fun v hv => ?_, fun h => by cases h⟩
      injection hv with hv
      refine ⟨x, ?_, hv, rfl, rfl, hh, hc, h⟩
      rw [endS, ha]
      simp
    | some c =>
      have hl := (win_some hw h.gOk).1
      rw [sysL_len] at hl
      have hc : chooseS s x = some ((x.kn[c.1]?.getD 0).toNat, c.2.1, c.2.2) := by unfold chooseS; rw [hw]; rfl
      have ha : advS s x = (stepTo s x ((x.kn[c.1]?.getD 0).toNat, c.2.1, c.2.2), 0) := by unfold advS; rw [hc]; simp only; rw [if_neg (by omega)]
      have hi := (adv_inv h hh).1
      rw [ha] at hi
      have e1 : lastW (stepTo s x ((x.kn[c.1]?.getD 0).toNat, c.2.1, c.2.2)) = applyL (rulAt (sysL s x) c.1) (lastW x) c.2.1 := by rw [lastW_step, sysL_at hl]
      have e2 : sysL s (stepTo s x ((x.kn[c.1]?.getD 0).toNat, c.2.1, c.2.2)) = sysL s x := rfl
      have e3 : (stepTo s x ((x.kn[c.1]?.getD 0).toNat, c.2.1, c.2.2)).gr = x.gr := rfl
      obtain ⟨k1, k2⟩ := ih hi hh (by simp only [stepTo, List.length_append, List.length_singleton]; omega)
      rw [e1, e2, e3] at k1 k2
      rw [derS_some hw]
      have he : endS s (n + 1 + 1) x = endS s (n + 1) (stepTo s x ((x.kn[c.1]?.getD 0).toNat, c.2.1, c.2.2)) := by
        rw [endS, ha]; simp
      rw [he]
      exact ⟨fun v hv => by obtain ⟨z, z1, z2, z3, z4, z5, z6, z7⟩ := k1 v hv; exact ⟨z, z1, z2, z3, z4, z5, z6, z7⟩, k2⟩
def tRead (t : ByteArray) : Bs := [114, 101, 97, 100, 32] ++ t.data.toList
theorem parse_read {t : ByteArray} {c : Cmd} (h : parseB (tRead t) = some c) : ∃ W, c = .read W ∧ W.length = t.size := by
  have hw : wordOf (tRead t) = wRead := by
    unfold wordOf tRead
    rfl
  have hr : restOf (tRead t) = t.data.toList := by
    unfold restOf; rw [hw]; rfl
  unfold parseB at h
  rw [hw, hr] at h
  split at h
  · cases h
  · rw [if_neg (by decide), if_neg (by decide), if_neg (by decide), if_pos rfl] at h
    split at h
    · obtain ⟨W, hW, rfl⟩ := Option.map_eq_some_iff.1 h
      obtain ⟨_, _, _, e⟩ := sndOf_some hW
      exact ⟨W, rfl, by rw [e, List.length_map, bs_size]⟩
    · cases h
theorem read_state {s : List Rul} {x : St} {t u : ByteArray} (hu : u.data.toList = tRead t) (hz : (doS s x u).2 = 0) :
    (doS s x u).1.has = true ∧ (doS s x u).1.slate = [] ∧ (doS s x u).1.base.length = t.size ∧ lastW (doS s x u).1 = (doS s x u).1.base := by
  rcases do_cases s x u with ⟨h1, _⟩ | ⟨c, h1, _, h3, e⟩
  · exact absurd hz h1
  · rw [hu] at h1
    obtain ⟨W, rfl, hW⟩ := parse_read h1
    rw [e]
    exact ⟨rfl, rfl, hW, rfl⟩
theorem form_plain {s : List Rul} {x : St} (h : Inv s x) (hh : x.has = true) (hs : x.slate = []) (ho : x.orders.length ≤ 50) :
    (∀ v, derS (sysL s x) x.gr 60 (lastW x) = some v → (doS s x tEnd).2 = 0 ∧ lastW (doS s x tEnd).1 = v ∧ (doS s x tEnd).1.has = true ∧ endedS s (doS s x tEnd).1 = true ∧ checkW (sysL s x) v = 0 ∧ movesL (sysL s x) v = []) ∧
    (derS (sysL s x) x.gr 60 (lastW x) = none → (doS s x tEnd).2 = 3) := by
  have hd : doS s x tEnd = if (endS s 61 x).2 = 0 then ({ (endS s 61 x).1 with orders := x.orders ++ [tEnd] }, 0) else (x, (endS s 61 x).2) := by
    have he : execS s x .fin = endS s 61 x := by simp only [execS]; rw [if_pos hh]
    unfold doS
    rw [parse_end]
    simp only
    rw [if_neg (by omega), he]
  obtain ⟨k1, k2⟩ := end_form 60 h.toInvE hh (by rw [hs]; rfl)
  refine ⟨fun v hv => ?_, fun hv => ?_⟩
  · obtain ⟨z, z1, z2, z3, z4, z5, z6, z7⟩ := k1 v hv
    rw [hd, z1, if_pos rfl]
    have hsy : sysL s z = sysL s x := by unfold sysL; rw [z3]
    have hck := (checkK_zero z7.check).1
    rw [hsy, z2] at hck
    refine ⟨rfl, z2, z5, ?_, hck, ?_⟩
    · unfold endedS
      rw [show chooseS s { z with orders := x.orders ++ [tEnd] } = chooseS s z from rfl, z6]
      show (z.has && _) = true
      rw [z5]; rfl
    · have : winS (sysL s z) (lastW z) z.gr = none := by
        unfold chooseS at z6
        simpa using z6
      rw [hsy, z2] at this
      exact win_none.1 this
  · have h3 := k2 hv
    rw [hd, if_neg (by rw [h3]; decide)]
    exact h3
end Go.Proofs.YtpmlcfgbfhgpgaaGreatDoor
