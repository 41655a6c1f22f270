/- The search finds a word with two images if there is one: plain. -/
import Derived.Test.YtodhmkbkcjpnkaaMacP
namespace Go.Proofs.Ytodhmkbkcjpnkaa
open Go.RowKit Go.Shelf
set_option linter.unusedVariables false

theorem stepY_mem {d : Dbl} {x : Arc} {q : Que} {y : Arc} (hf : fitD d x y = true) : nextD d x y ∈ (stepY d x q y).map Prod.fst := by
  unfold stepY
  rw [if_pos hf]
  split
  · rename_i h; exact hasD_iff.1 h
  · simp
theorem stepX_mem {d : Dbl} {x : Arc} : ∀ (br : List Arc) (q : Que) (y : Arc), y ∈ br → fitD d x y = true → nextD d x y ∈ (br.foldl (stepY d x) q).map Prod.fst
  | [], q, y, hy, _ => by simp at hy
  | z :: br, q, y, hy, hf => by
    rw [List.foldl_cons]
    rcases List.mem_cons.1 hy with rfl | hy
    · exact mem_pre (stepX_pre d x br _) (stepY_mem hf)
    · exact stepX_mem br _ y hy hf
theorem stepD_mem {ar : List Arc} {d : Dbl} : ∀ (br : List Arc) (q : Que) (x y : Arc), x ∈ br → y ∈ ar → fitD d x y = true → nextD d x y ∈ (br.foldl (stepX ar d) q).map Prod.fst
  | [], q, x, y, hx, _, _ => by simp at hx
  | z :: br, q, x, y, hx, hy, hf => by
    rw [List.foldl_cons]
    rcases List.mem_cons.1 hx with rfl | hx
    · exact mem_pre (stepD_pre ar d br _) (stepX_mem ar q y hy hf)
    · exact stepD_mem br _ x y hx hy hf
/-- nothing is left to be found from what is known -/
def Closed (m : Mac) (q : Que) : Prop := ∀ d ∈ q.map Prod.fst, goalD m.e d = false ∧ ∀ x ∈ m.a, ∀ y ∈ m.a, fitD d x y = true → nextD d x y ∈ q.map Prod.fst
theorem bfs_none {m : Mac} {n : Nat} (h : MacIn m n) : ∀ (f i : Nat) (q : Que), QOk n m.a q → 163 ≤ f + i →
    (∀ j, j < i → j < q.length → goalD m.e (dAt q j) = false ∧ ∀ x ∈ m.a, ∀ y ∈ m.a, fitD (dAt q j) x y = true → nextD (dAt q j) x y ∈ q.map Prod.fst) → bfs m f i q = none → ∃ q', q <+: q' ∧ Closed m q'
  | f, i, q, hq, hfi, hinv, he => by
    have hlen := hq.len h.n9
    by_cases hi : i < q.length
    · obtain ⟨f, rfl⟩ : ∃ f', f = f' + 1 := ⟨f - 1, by omega⟩
      rw [bfs, if_pos hi] at he
      split at he
      · cases he
      · rename_i hg
        have hg : goalD m.e (dAt q i) = false := by simpa using hg
        have hpre := stepD_pre m.a (dAt q i) m.a q
        have hpre : q <+: stepD m.a q (dAt q i) := hpre
        obtain ⟨q', h1, h2⟩ := bfs_none h f (i + 1) (stepD m.a q (dAt q i)) (QOk.stepD h.arcs m.a q (fun _ h => h) hq (dAt_mem hi)) (by omega) (fun j hj hjl => by
          rcases Nat.lt_or_ge j i with hji | hji
          · have hjq : j < q.length := by omega
            obtain ⟨h3, h4⟩ := hinv j hji hjq
            rw [dAt_pre hpre hjq]
            exact ⟨h3, fun x hx y hy hf => mem_pre hpre (h4 x hx y hy hf)⟩
          · obtain rfl : j = i := by omega
            rw [dAt_pre hpre hi]
            exact ⟨hg, fun x hx y hy hf => stepD_mem m.a q x y hx hy hf⟩) he
        exact ⟨q', hpre.trans h1, h2⟩
    · refine ⟨q, List.prefix_refl _, fun d hd => ?_⟩
      obtain ⟨p, hp, rfl⟩ := List.mem_map.1 hd
      obtain ⟨j, hj, rfl⟩ := List.mem_iff_getElem.1 hp
      have := hinv j (by omega) hj
      have hdj : dAt q j = (q[j]).1 := by unfold dAt; rw [List.getElem?_eq_getElem hj]; rfl
      rw [hdj] at this
      exact this
theorem closed_none {m : Mac} {q : Que} (hc : Closed m q) : ∀ (w u v : List Int) (s t : Int) (b : Bool), (s, t, b) ∈ q.map Prod.fst → relP m w u s → relP m w v t → b = true ∨ u ≠ v → False
  | [], [], [], s, t, b, hd, h1, h2, h3 => by
    have hb : b = true := by rcases h3 with h | h; exact h; exact absurd rfl h
    subst hb
    have hg := (hc _ hd).1
    have h1 : s ∈ m.e := h1
    have h2 : t ∈ m.e := h2
    have : goalD m.e (s, t, true) = true := by
      unfold goalD
      rw [hasB_eq, hasB_eq]
      simp [h1, h2]
    rw [this] at hg; cases hg
  | i :: w, o :: u, o' :: v, s, t, b, hd, ⟨x, hx, hxf, hxi, hxo, hr⟩, ⟨y, hy, hyf, hyi, hyo, hr'⟩, h3 => by
    have hf : fitD (s, t, b) x y = true := by simp [fitD, hxf, hyf, hxi, hyi]
    have hn := (hc _ hd).2 x hx y hy hf
    refine closed_none hc w u v x.t y.t _ hn hr hr' ?_
    by_cases hoo : o = o'
    · subst hoo
      rcases h3 with h | h
      · left; simp [h]
      · right; exact fun e => h (by rw [e])
    · left
      have : x.o ≠ y.o := by rw [hxo, hyo]; exact hoo
      simp [this]
  | [], [], _ :: _, _, _, _, _, _, h, _ => h.elim
  | [], _ :: _, _, _, _, _, _, h, _, _ => h.elim
  | _ :: _, [], _, _, _, _, _, h, _, _ => h.elim
  | _ :: _, _ :: _, [], _, _, _, _, _, h, _ => h.elim
theorem check_fun {m : Mac} {w u v : List Int} (h : checkTwoK m w u v = 0) : validM m = 0 ∧ isFunB m = false := by
  unfold checkTwoK at h
  split at h
  · rename_i h0
    refine ⟨h0, ?_⟩
    split at h
    · omega
    · split at h
      · omega
      · split at h
        · omega
        · rename_i hb
          have hm := validM_mac h0
          unfold badTwo at hb
          have hb : (sameIntsB u v = false ∧ relB m w u = true) ∧ relB m w v = true := by simpa using hb
          have h1 := (relN_iff hm.in_).1 hb.1.2
          have h2 := (relN_iff hm.in_).1 hb.2
          have hne : u ≠ v := fun e => by
            have := hb.1.1
            rw [e, sameIntsB_iff] at this
            simp at this
          unfold isFunB
          rw [if_pos h0]
          cases he : bfsM m with
          | some p => rfl
          | none =>
            exfalso
            obtain ⟨q', hp, hc⟩ := bfs_none hm.in_ 200 0 begin0 (QOk.begin m.a hm.in_.n1) (by omega) (fun j hj => by omega) he
            exact closed_none hc w u v 0 0 false (mem_pre hp (by simp [begin0])) h1 h2 (.inr hne)
  · rename_i h0; exact absurd h h0
end Go.Proofs.Ytodhmkbkcjpnkaa
