/- What is found by the search shows that a machine is no function: plain. -/
import Derived.Test.YtodhmkbkcjpnkaaMacH
import Derived.Test.YtodhmkbkcjpnkaaMacX
namespace Go.Proofs.Ytodhmkbkcjpnkaa
open Go.RowKit Go.Shelf
set_option linter.unusedVariables false

/-- some run reads a word, writes another one and comes to a state of a kind -/
def relG (ar : List Arc) (E : Int → Prop) : List Int → List Int → Int → Prop
  | [], [], s => E s
  | i :: u, o :: v, s => ∃ a ∈ ar, a.f = s ∧ a.i = i ∧ a.o = o ∧ relG ar E u v a.t
  | _, _, _ => False
theorem relG_mono {ar : List Arc} {E F : Int → Prop} (h : ∀ s, E s → F s) : ∀ {u v : List Int} {s : Int}, relG ar E u v s → relG ar F u v s
  | [], [], s, hr => h s hr
  | i :: u, o :: v, s, ⟨a, ha, h1, h2, h3, hr⟩ => ⟨a, ha, h1, h2, h3, relG_mono h hr⟩
  | [], _ :: _, _, h => h.elim
  | _ :: _, [], _, h => h.elim
theorem relG_snoc {ar : List Arc} {E : Int → Prop} {i o : Int} : ∀ {u v : List Int} {s : Int}, relG ar (fun t => ∃ a ∈ ar, a.f = t ∧ a.i = i ∧ a.o = o ∧ E a.t) u v s → relG ar E (u ++ [i]) (v ++ [o]) s
  | [], [], s, hr => hr
  | i' :: u, o' :: v, s, ⟨a, ha, h1, h2, h3, hr⟩ => ⟨a, ha, h1, h2, h3, relG_snoc hr⟩
  | [], _ :: _, _, h => h.elim
  | _ :: _, [], _, h => h.elim
theorem relG_rel {m : Mac} : ∀ {u v : List Int} {s : Int}, relG m.a (fun t => t ∈ m.e) u v s → relP m u v s
  | [], [], s, hr => hr
  | i :: u, o :: v, s, ⟨a, ha, h1, h2, h3, hr⟩ => ⟨a, ha, h1, h2, h3, relG_rel hr⟩
  | [], _ :: _, _, h => h.elim
  | _ :: _, [], _, h => h.elim
structure ChainOk (ar : List Arc) (d : Dbl) (j : Nat) (c : List Lst) : Prop where
  u : relG ar (fun s => s = d.1) (c.reverse.map Lst.i) (c.reverse.map Lst.u) 0
  v : relG ar (fun s => s = d.2.1) (c.reverse.map Lst.i) (c.reverse.map Lst.v) 0
  ne : d.2.2 = true → c.reverse.map Lst.u ≠ c.reverse.map Lst.v
  len : c.length ≤ j
  from_ : ∀ l ∈ c, (∃ x ∈ ar, l.i = x.i ∧ l.u = x.o) ∧ ∃ y ∈ ar, l.v = y.o
theorem chain_ok {n : Nat} {ar : List Arc} {q : Que} (h : QOk n ar q) : ∀ (j : Nat) (p : Dbl × Lst) (f : Nat), q[j]? = some p → j < f → ChainOk ar p.1 j (chain q f p.1) := by
  intro j
  induction j using Nat.strongRecOn with
  | ind j ih =>
    intro p f hp hf
    obtain ⟨f, rfl⟩ : ∃ f', f = f' + 1 := ⟨f - 1, by omega⟩
    rw [chain, h.find hp]
    rcases Nat.eq_zero_or_pos j with rfl | hj
    · have h0 := h.h0
      rw [hp] at h0
      injection h0 with h0
      subst h0
      exact ⟨rfl, rfl, fun h => absurd h (by decide), by simp [first0], fun l hl => by simp [first0] at hl⟩
    · obtain ⟨h1, i, p', hi, hq, hfr, x, hx, y, hy, hxf, hyf, hxi, hyi, hxo, hyo, hd⟩ := h.ch j p hp hj
      have hr := ih i hi p' f hq (by omega)
      rw [h1]
      simp only [Bool.false_eq_true, if_false]
      rw [← hfr]
      rw [← hfr] at hxf hyf hd
      generalize chain q f p'.1 = c at *
      refine ⟨?_, ?_, ?_, ?_, ?_⟩
      · rw [List.reverse_cons, List.map_append, List.map_append]
        exact relG_snoc (relG_mono (fun s hs => ⟨x, hx, by rw [hxf, hs], hxi, hxo, by rw [hd]; rfl⟩) hr.u)
      · rw [List.reverse_cons, List.map_append, List.map_append]
        exact relG_snoc (relG_mono (fun s hs => ⟨y, hy, by rw [hyf, hs], hyi, hyo, by rw [hd]; rfl⟩) hr.v)
      · intro hdt he
        rw [List.reverse_cons, List.map_append, List.map_append] at he
        obtain ⟨he1, he2⟩ := List.append_inj he (by simp)
        rw [hd] at hdt
        simp only [nextD, Bool.or_eq_true, bne_iff_ne, ne_eq] at hdt
        rcases hdt with hdt | hdt
        · exact hr.ne hdt he1
        · apply hdt
          rw [hxo, hyo]
          simpa using he2
      · have := hr.len
        simp only [List.length_cons]; omega
      · intro l hl
        rcases List.mem_cons.1 hl with rfl | hl
        · exact ⟨⟨x, hx, hxi.symm, hxo.symm⟩, y, hy, hyo.symm⟩
        · exact hr.from_ l hl
theorem bfs_some {m : Mac} {n : Nat} (h : MacIn m n) : ∀ (f i : Nat) (q : Que) (d : Dbl) (q' : Que), QOk n m.a q → bfs m f i q = some (d, q') → QOk n m.a q' ∧ ∃ j, j < q'.length ∧ dAt q' j = d ∧ goalD m.e d = true
  | 0, i, q, d, q', _, he => by rw [bfs] at he; cases he
  | f + 1, i, q, d, q', hq, he => by
    rw [bfs] at he
    split at he
    · rename_i hi
      split at he
      · rename_i hg
        injection he with he
        injection he with h1 h2
        subst h1 h2
        exact ⟨hq, i, hi, rfl, hg⟩
      · exact bfs_some h f (i + 1) _ d q' (QOk.stepD h.arcs m.a q (fun _ h => h) hq (dAt_mem hi)) he
    · cases he
theorem sndB_of {l : List Int} (h : ∀ x ∈ l, 0 ≤ x ∧ x ≤ 5) : sndB l = true := by
  unfold sndB
  refine allB_true fun j hj => ?_
  have := h l[j] (List.getElem_mem hj)
  rw [List.getElem?_eq_getElem hj]
  show inB l[j] 0 5 = true
  unfold inB
  simp; omega
theorem wordK_of {l : List Int} (h : ∀ x ∈ l, 0 ≤ x ∧ x ≤ 5) (hl : l.length ≤ 200) : wordK 200 l = 0 := by
  unfold wordK
  rw [if_neg (by omega), if_pos (sndB_of h)]
theorem two_ok {m : Mac} (h : MacOk m) {d : Dbl} {q : Que} (he : bfsM m = some (d, q)) :
    checkTwoK m (((chain q 200 d).map Lst.i).reverse) (((chain q 200 d).map Lst.u).reverse) (((chain q 200 d).map Lst.v).reverse) = if validM m = 0 then 0 else validM m := by
  obtain ⟨hq, j, hj, hd, hg⟩ := bfs_some h.in_ 200 0 begin0 d q (QOk.begin m.a h.in_.n1) he
  have hp : q[j]? = some q[j] := List.getElem?_eq_getElem hj
  have hpd : (q[j]).1 = d := by rw [← hd]; unfold dAt; rw [hp]; rfl
  have hlen := hq.len h.in_.n9
  have hc := chain_ok hq j q[j] 200 hp (by omega)
  rw [hpd] at hc
  have hdi := hq.in_ q[j] (List.getElem_mem hj)
  rw [hpd] at hdi
  generalize chain q 200 d = c at *
  rw [← List.map_reverse, ← List.map_reverse, ← List.map_reverse]
  unfold goalD at hg
  rw [Bool.and_eq_true, Bool.and_eq_true, hasB_eq, hasB_eq] at hg
  have hru : relP m (c.reverse.map Lst.i) (c.reverse.map Lst.u) 0 := relG_rel (relG_mono (fun s hs => by rw [hs]; simpa using hg.2.1) hc.u)
  have hrv : relP m (c.reverse.map Lst.i) (c.reverse.map Lst.v) 0 := relG_rel (relG_mono (fun s hs => by rw [hs]; simpa using hg.2.2) hc.v)
  have hne := hc.ne hg.1
  have hl := hc.len
  have hin : ∀ l ∈ c, (0 ≤ l.i ∧ l.i ≤ 5) ∧ (0 ≤ l.u ∧ l.u ≤ 5) ∧ (0 ≤ l.v ∧ l.v ≤ 5) := by
    intro l hl
    obtain ⟨⟨x, hx, h1, h2⟩, y, hy, h3⟩ := hc.from_ l hl
    have hxm := h.mem hx
    have hym := h.mem hy
    rw [h1, h2, h3]
    exact ⟨hxm.2.2.1, hxm.2.2.2, hym.2.2.2⟩
  have w1 : wordK 200 (c.reverse.map Lst.i) = 0 := wordK_of (by intro x hx; obtain ⟨l, hl, rfl⟩ := List.mem_map.1 hx; exact (hin l (by simpa using hl)).1) (by simp; omega)
  have w2 : wordK 200 (c.reverse.map Lst.u) = 0 := wordK_of (by intro x hx; obtain ⟨l, hl, rfl⟩ := List.mem_map.1 hx; exact (hin l (by simpa using hl)).2.1) (by simp; omega)
  have w3 : wordK 200 (c.reverse.map Lst.v) = 0 := wordK_of (by intro x hx; obtain ⟨l, hl, rfl⟩ := List.mem_map.1 hx; exact (hin l (by simpa using hl)).2.2) (by simp; omega)
  have hs : sameIntsB (c.reverse.map Lst.u) (c.reverse.map Lst.v) = false := by
    rw [Bool.eq_false_iff]
    intro hs
    rw [sameIntsB_iff] at hs
    exact hne (by simpa using hs)
  have b1 : longs [c.reverse.map Lst.i, c.reverse.map Lst.u, c.reverse.map Lst.v] = false := by
    unfold longs
    simp; omega
  have b2 : bads [c.reverse.map Lst.i, c.reverse.map Lst.u, c.reverse.map Lst.v] = false := by
    unfold bads
    rw [List.any_eq_false]
    intro x hx
    simp only [List.mem_cons, List.not_mem_nil, or_false] at hx
    rcases hx with rfl | rfl | rfl
    · rw [w1]; decide
    · rw [w2]; decide
    · rw [w3]; decide
  have b3 : badTwo m (c.reverse.map Lst.i) (c.reverse.map Lst.u) (c.reverse.map Lst.v) = false := by
    unfold badTwo relB
    rw [hs, (relN_iff h.in_).2 hru, (relN_iff h.in_).2 hrv]; rfl
  unfold checkTwoK
  rw [b1, b2, b3]
  rfl
end Go.Proofs.Ytodhmkbkcjpnkaa
