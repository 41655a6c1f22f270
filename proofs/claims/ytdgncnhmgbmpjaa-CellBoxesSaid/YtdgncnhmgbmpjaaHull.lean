/- Walks: the smallest spec of cells, of the program. -/
import Derived.Test.YtdgncnhmgbmpjaaLawReduces
namespace Go.Proofs.Ytdgncnhmgbmpjaa
open Go.RowKit Go.Shelf
set_option linter.unusedVariables false

theorem OInts.set {w : World} {B g cap i : Nat} {l : List Int} {x : Int} (h : OInts 3 w B (.slice (some ⟨g, 0, none⟩) l.length cap) l) (hi : i < l.length) : OInts 3 (w.setCell ⟨g, i, none⟩ (.int .i64 x)) B (.slice (some ⟨g, 0, none⟩) l.length cap) (l.set i x) := by
  have := ownsRow_set (i := i) h (by simpa using hi) (.int .i64 x)
  unfold OInts
  rw [List.length_set, show Go.Proofs.Ytdgncnhmgbmpjaa.ints (l.set i x) = (Go.Proofs.Ytdgncnhmgbmpjaa.ints l).set i (.int .i64 x) from by simp [Go.Proofs.Ytdgncnhmgbmpjaa.ints, List.map_set]]; exact this
/-- o, where it is not c at numbers below j, turned to -1 -/
def hullP (o c : List Int) (j : Nat) : List Int := (List.range o.length).map fun t => if t < j ∧ o[t]?.getD 0 ≠ c[t]?.getD 0 then -1 else o[t]?.getD 0
def hullTo (ls : List (List Int)) : Nat → List Int
  | 0 => ls[0]?.getD []
  | k + 1 => hullP (hullTo ls k) (ls[k]?.getD []) (hullTo ls k).length
def hullL (ls : List (List Int)) : List Int := hullTo ls ls.length
theorem hullP_len (o c : List Int) (j : Nat) : (hullP o c j).length = o.length := by simp [hullP]
theorem hullTo_len (ls : List (List Int)) : ∀ k, (hullTo ls k).length = (ls[0]?.getD []).length
  | 0 => rfl
  | k + 1 => by rw [hullTo, hullP_len, hullTo_len ls k]
theorem hullP_zero (o c : List Int) : hullP o c 0 = o := by
  apply List.ext_getElem
  · simp [hullP]
  · intro i h1 h2; simp [hullP, h2]
theorem hullP_at {o c : List Int} {j : Nat} (hj : j < o.length) : (hullP o c j)[j]?.getD 0 = o[j]?.getD 0 := by
  simp [hullP, hj]
theorem hullP_same {o c : List Int} {j : Nat} (h : o[j]?.getD 0 = c[j]?.getD 0) : hullP o c (j + 1) = hullP o c j := by
  unfold hullP
  refine List.map_congr_left fun t _ => ?_
  by_cases ht : t = j
  · subst ht; simp [h]
  · have : (t < j + 1) ↔ (t < j) := by omega
    simp only [this]
theorem hullP_set {o c : List Int} {j : Nat} (hj : j < o.length) (h : o[j]?.getD 0 ≠ c[j]?.getD 0) : hullP o c (j + 1) = (hullP o c j).set j (-1) := by
  apply List.ext_getElem
  · simp [hullP]
  · intro t h1 h2
    simp only [hullP, List.length_map, List.length_range] at h1
    rw [List.getElem_set]
    by_cases ht : j = t
    · subst ht; simp [hullP, h]
    · rw [if_neg ht]
      have : (t < j + 1) ↔ (t < j) := by omega
      simp only [hullP, List.getElem_map, List.getElem_range, this]

set_option maxHeartbeats 1000000 in
set_option maxRecDepth 100000 in
theorem hull_c (lv : Value) (ls : List (List Int)) (n : Nat) (w : World) (hl : Rows w lv ls) (h0 : 0 < ls.length) (hn : ∀ i, i < ls.length → (ls[i]?.getD []).length = n) (hn2 : n ≤ 1000) :
    Calls Try.prog 21 #[lv] w (ROInts 3 (hullL ls) w) := by
  obtain ⟨al, cl, rfl, hll, hml, HL⟩ := Rows.open_ hl
  clear hl
  obtain ⟨ba, oa, rfl, u0, hc0, hi0⟩ := HL.out 0 h0
  rw [Nat.add_zero] at hc0
  have HI0 := Lib.hid hi0; clear hi0
  have hn0 := hn 0 h0
  have HN := Lib.hid hn; clear hn
  go_enter Try.func21, Try.ntmps21
  go_wp2_with fail
  refine (cloneInts_c u0 _ w HI0.out (by omega)).mono ?_; rintro e w1 ⟨v1, rfl, ho1, hx1⟩
  obtain ⟨a1, c1, rfl, _⟩ := ho1.ints.open_
  have hv : ∃ v, Value.slice a1 (ls[0]?.getD []).length c1 = v := ⟨_, rfl⟩
  rw [hn0] at ho1 ⊢
  have HO1 := Lib.hid ho1; clear ho1 hv
  go_wp2_with fail
  go_loopg [14] ls.length (fun m i wr => ∃ k : Nat, k ≤ ls.length ∧ ls.length ≤ k + m ∧ i = .int .i64 k ∧ Ext w wr ∧ OInts 3 wr w.heap.size (.slice a1 n c1) (hullTo ls k))
  case atStart => exact ⟨0, by omega, by omega, rfl, hx1, HO1.out⟩
  case round =>
    obtain ⟨g1, rfl⟩ : ∃ g : Nat, g = gk := ⟨_, rfl⟩
    obtain ⟨k, hk, hk2, rfl, hB, hown⟩ := hrel
    by_cases hlt : k < ls.length
    · obtain ⟨b, o, he, u, hc, hi⟩ := HL.out k hlt
      injection he with he; injection he with he1 he2; subst he1 he2
      replace hc := hB.keep hc
      have hnk := HN.out k hlt
      obtain ⟨au, cu, rfl, _, _, HU⟩ := hi.open_
      have hln : (hullTo ls k).length = n := by rw [hullTo_len, hn0]
      have HS : Hid (hullTo ls (k + 1) = hullP (hullTo ls k) (ls[k]?.getD []) n) := by rw [hullTo, hln]; exact rfl
      rw [hnk] at hc HU
      generalize hc2 : ls[k]?.getD [] = c at *
      generalize hullTo ls k = O at *
      have HO := Lib.hid hown; clear hown hc2 hi
      go_wp2_with fail
      go_loopg [20] n (fun m i wr' => ∃ j : Nat, j ≤ n ∧ n ≤ j + m ∧ i = .int .i64 j ∧ Ext w wr' ∧ OInts 3 wr' w.heap.size (.slice a1 n c1) (hullP O c j))
      case atStart => exact ⟨0, by omega, by omega, rfl, hB, by rw [hullP_zero]; exact HO.out⟩
      case round =>
        obtain ⟨j, hj, hj2, rfl, hB', hown⟩ := hrel
        by_cases hjl : j < n
        · obtain ⟨b2, o2, rfl, hcu⟩ := HU.out j hjl
          replace hcu := hB'.keep hcu
          obtain ⟨r, rc, he, hrc, hrm, hBr, hcur, hcell, hfr⟩ := hown.spot (i := j) (by rw [hullP_len]; omega)
          rw [hullP_at (by omega)] at hcell
          injection he with h1 h2 h3
          subst h1 h3
          have hlP := hullP_len O c j
          have hok := hown
          rw [show n = (hullP O c j).length by omega] at hok
          have hst := OInts.set hok (i := j) (x := -1) (by omega)
          rw [hlP, hln] at hst
          have HOW := Lib.hid hown
          have HST := Lib.hid hst
          have HSM := Lib.hid (hullP_same (o := O) (c := c) (j := j))
          have HSE := Lib.hid (hullP_set (o := O) (c := c) (j := j) (by omega))
          clear hcur hown hok hst hlP
          generalize hullP O c j = P1 at *
          generalize hoj : O[j]?.getD 0 = oj at *
          generalize hcj : c[j]?.getD 0 = cj at *
          clear hoj hcj
          by_cases heq : oj = cj
          · have hd : (oj != cj) = false := by simp [heq]
            have HE := Lib.hid (HSM.out heq)
            clear heq
            go_wp2_with fail
            go_roundg (gk-1)
            case measure => omega
            case rel => exact ⟨j+1, by omega, by omega, by go_num, hB', by rw [HE.out]; exact HOW.out⟩
          · have hd : (oj != cj) = true := by simp [heq]
            have HE := Lib.hid (HSE.out heq)
            clear heq
            go_wp2_with fail
            go_roundg (gk-1)
            case measure => omega
            case rel => exact ⟨j+1, by omega, by omega, by go_num, hB'.setCell hBr _ _, by rw [HE.out]; exact HST.out⟩
        · have hjn : j = n := by omega
          subst hjn
          have HOW := Lib.hid hown; clear hown
          go_wp2_with fail
          go_roundg (g1-1)
          case measure => omega
          case rel => exact ⟨k+1, by omega, by omega, by go_num, hB', by rw [HS.out]; exact HOW.out⟩
    · have hkl : k = ls.length := by omega
      subst hkl
      have HOW := Lib.hid hown; clear hown
      go_wp2_with fail
      go_ret
      exact ⟨_, rfl, HOW.out, hB⟩
end Go.Proofs.Ytdgncnhmgbmpjaa
