/- The learned rules, also where a school is a hole. -/
import Derived.Test.YtpmlcfgbfhgpgaaGreatDoorLaw9N
import Derived.Test.YtpmlcfgbfhgpgaaGreatDoorLaw9J
import Derived.Test.YtpmlcfgbfhgpgaaGreatDoorJoinD
namespace Go.Proofs.YtpmlcfgbfhgpgaaGreatDoor
open Go.RowKit Go.Shelf
set_option linter.unusedVariables false
theorem OCel.holeB {α : Type} {enc : α → List Value} {k : Nat} {e : TypeId} {S : Nat → Bool} {w : World} {B : Nat} {v : Value} {L : List α} (h : OCel enc k e w B v L) (hS : ∀ k, S k = true → k < B) : OCel enc k e (Go.Proofs.YtpmlcfgbfhgpgaaGreatDoor.hole S w) B v L := ownsRow_hole h hS
set_option maxHeartbeats 4000000 in
set_option maxRecDepth 100000 in
theorem learnedH_c {S : Nat → Bool} {b : Nat} {m1 rv : Value} {v : SV} {x : St} {s : List Rul} {w : World} (h : SchF S b m1 rv v x s w) (sv : Value) (hs : Ruls (hole (one b) w) sv s) :
    Calls Tryz.prog 32 #[.pointer (some ⟨b, 0, none⟩), sv] w fun e w' => ∃ u n, e = .returned (.tuple #[u, n, .bool true]) ∧ Ruls (hole (one b) w') u (sysL s x) ∧ OInts 3 w' w.heap.size n x.kn ∧ Ext w w' := by
  have HLE := Lib.hid (Learned_c h)
  have hbl : b < w.heap.size := h.hb.lt
  have HKR := Lib.hid h.hI.toInvE.knR
  have HKL : Hid (x.kn.length ≤ 6) := Lib.hid (by have := h.hI.toInvE.kl; have := h.hI.toInvE.s6; omega)
  obtain ⟨a, c, rfl, h1, h2, H⟩ := hs.lit
  have HSY := Lib.hid (sysL.eq_1 s x)
  clear h hs
  generalize sysL s x = SY at *
  generalize x.kn = KN at *
  go_enter Tryz.func32, Tryz.ntmps32
  go_wp2_with fail
  refine HLE.out.mono ?_; rintro e w0 ⟨u1, rfl, ho1, hX0⟩
  have hz0 := hX0.size
  obtain ⟨ak, ck, hu1, h1k, h2k, HK⟩ := ho1.ints.open_
  subst hu1
  have HKI := Lib.hid ho1
  clear ho1
  go_wp2_with fail
  go_loopg [8, 9] KN.length (fun m u i wr => ∃ (k : Nat) (RS : List RlC), k ≤ KN.length ∧ KN.length ≤ k + m ∧ i = .int .i64 k ∧ Ext w0 wr ∧ OCel encR 4 70 wr w0.heap.size u RS ∧ Hid (RsOk (hole (one b) w0) RS ((KN.take k).map fun q => rulAt s q.toNat)))
  case atStart => exact ⟨0, [], by omega, by omega, rfl, Ext.refl _, OCel.nil _ _ _ _ _, Lib.hid ⟨rfl, fun i x h => by cases h⟩⟩
  case round =>
    obtain ⟨k, RS, hk1, hk2, rfl, hX, hown, hRS⟩ := hrel
    by_cases hlt : k < KN.length
    · obtain ⟨n, hn⟩ : ∃ n : Nat, KN[k] = (n : Int) := ⟨KN[k].toNat, by have := (HKR.out _ (List.getElem_mem hlt)).1; omega⟩
      have hns : n < s.length := by have := (HKR.out _ (List.getElem_mem hlt)).2; omega
      obtain ⟨bk, ok, rfl, hck⟩ := HK.out k hlt
      rw [List.getElem?_eq_getElem hlt, Option.getD_some, hn] at hck
      obtain ⟨b1, o1, rfl, ta, tc, la, lc, ra, rc, d0, d1, d2, d3, hrr⟩ := H.out n hns
      have HN := Lib.hid hn; clear hn
      have hXw := hX0.trans hX
      replace hck := hX.keep hck
      replace d0 := hXw.keep (hole_sub _ _ _ _ d0)
      replace d1 := hXw.keep (hole_sub _ _ _ _ d1)
      replace d2 := hXw.keep (hole_sub _ _ _ _ d2)
      replace d3 := hXw.keep (hole_sub _ _ _ _ d3)
      have HRR := Lib.hid (hrr.ext (hX0.hole (one b))); clear hrr
      generalize hru : rulAt s n = y at *
      have HRU := Lib.hid hru; clear hru
      have hRSl : RS.length = k := by rw [hRS.out.1, List.length_map, List.length_take]; omega
      have hkl := HKL.out
      obtain ⟨ua, uc, rfl, hu1, hu2, _⟩ := (Cel.own encR_len hown).open_
      have hs2 := hX.size
      have q1 : decide ((n : Int) < 0) = false := decide_eq_false (by omega)
      have q2 : decide ((s.length : Int) ≤ (n : Int)) = false := decide_eq_false (by omega)
      have q1' : ¬ ((n : Int) < 0) := by omega
      have q2' : ¬ ((s.length : Int) ≤ (n : Int)) := by omega
      go_wp2_with (at_builtin; refine wpList_appendS (enc := encR) (L := RS) (⟨y.f, .slice ta y.t.length tc, .slice la y.l.length lc, .slice ra y.r.length rc⟩ : RlC) elRul rfl _ _ rfl rfl rfl hown rfl rfl rfl (by intro u hu; simp only [encR, List.mem_cons, List.not_mem_nil, or_false] at hu; rcases hu with rfl | rfl | rfl | rfl <;> rfl) hs2 (by omega) (by omega) ?_; intro v' w' hown2 hb2' hg2 hn2)
      go_roundg (gk-1)
      case measure => omega
      case rel =>
        have hX' := hX.rowGrown hown hg2
        refine ⟨k + 1, _, by omega, by omega, by go_num, hX', hown2, Lib.hid ?_⟩
        rw [List.take_add_one, List.getElem?_eq_getElem hlt, Option.toList_some, List.map_append, List.map_cons, List.map_nil, HN.out, show ((n : Int)).toNat = n from rfl, HRU.out]
        exact hRS.out.snoc rfl HRR.out
    · obtain rfl : k = KN.length := by omega
      rw [List.take_length] at hRS
      have HF := Lib.hid (Ruls.of_cel (Cel.own encR_len (OCel.holeB hown (fun k hk => by have : k = b := (by simpa [one] using hk); omega))) (hRS.out.ext (hX.hole (one b))))
      go_wp2_with fail
      go_ret3
      exact ⟨_, _, rfl, by rw [HSY.out]; exact HF.out, HKI.out.ext hX, hX0.trans hX⟩
end Go.Proofs.YtpmlcfgbfhgpgaaGreatDoor
