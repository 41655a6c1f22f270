/- Books of orders: write and Write of the program, Text and Write of the reference. -/
import Derived.Test.YtpmlcfgbfhgpgaaGreatDoorBkB
import Derived.Deep.CutRange
import Derived.Deep.CutBlock
namespace Go.Proofs.YtpmlcfgbfhgpgaaGreatDoor
open Go.RowKit Go.Shelf
set_option linter.unusedVariables false

/-- lists of texts in memory -/
def encT (t : ByteArray) : List Value := [.string t]
theorem encT_len (t : ByteArray) : (encT t).length = 1 := rfl
abbrev Strs (w : World) (v : Value) (L : List ByteArray) : Prop := Cel encT 1 w v L
abbrev OStrs (w : World) (B : Nat) (v : Value) (L : List ByteArray) : Prop := OCel encT 1 9 w B v L
theorem elStr : ElTy Tryz.prog 23 9 1 16 (.string ⟨#[]⟩) := ⟨Tryz.underlying23, by kernel_rfl, rfl, by omega⟩
def txt (t : ByteArray) : Bs := t.data.toList
def bookB (L : List ByteArray) : Bs := textF 0 (L.map txt)
theorem Strs.at_ {w : World} {v : Value} {L : List ByteArray} (h : Strs w v L) : ∃ (a : Option Addr) (cap : Nat), v = .slice a L.length cap ∧ L.length ≤ cap ∧ cap ≤ 9223372036854775807 ∧
    Hid (∀ i (hi : i < L.length), ∃ b o, a = some ⟨b, o, none⟩ ∧ w.cell? ⟨b, o + i, none⟩ = some (.string L[i])) := by
  obtain ⟨a, c, hv, h1, h2, H⟩ := h.open_
  refine ⟨a, c, hv, h1, h2, Lib.hid fun i hi => ?_⟩
  obtain ⟨b, o, ha, hc⟩ := H.out i L[i] (List.getElem?_eq_getElem hi)
  refine ⟨b, o, ha, ?_⟩
  have := hc 0 _ rfl
  rwa [Nat.mul_one, Nat.add_zero] at this
theorem book_snoc (L : List ByteArray) (k : Nat) (hk : k < L.length) : textF 0 ((L.take (k + 1)).map txt) = textF 0 ((L.take k).map txt) ++ lineB (sumsF 0 ((L.take k).map txt)) (txt L[k]) ∧ sumsF 0 ((L.take (k + 1)).map txt) = sumB (sumsF 0 ((L.take k).map txt)) (txt L[k]) := by
  rw [List.take_add_one, List.getElem?_eq_getElem hk, Option.toList_some, List.map_append, textF_append, sumsF_append]
  exact ⟨by simp [textF], rfl⟩
theorem sumsF_range : ∀ (L : List Bs) (s : Int), 0 ≤ s → s < 1000003 → 0 ≤ sumsF s L ∧ sumsF s L < 1000003 := by
  intro L
  induction L with
  | nil => intro s h1 h2; exact ⟨h1, h2⟩
  | cons t L ih => intro s _ _; exact ih _ (sumB_range s t).1 (sumB_range s t).2
theorem lineB_len (s : Int) (t : Bs) : (lineB s t).length ≤ t.length + 9 := by
  have hr := sumB_range s t
  have := itoa_len hr.1 hr.2
  simp [lineB]; omega
theorem textF_len : ∀ (L : List Bs) (s : Int) (m : Nat), (∀ t ∈ L, t.length ≤ m) → (textF s L).length ≤ L.length * (m + 9) := by
  intro L
  induction L with
  | nil => intro s m _; simp [textF]
  | cons t L ih =>
    intro s m h
    have h1 := lineB_len s t
    have h2 := ih (sumB s t) m (fun x hx => h x (by simp [hx]))
    have h3 := h t (by simp)
    rw [textF, List.length_append, List.length_cons, Nat.succ_mul]; omega
theorem txt_size (t : ByteArray) : (txt t).length = t.size := (bs_size t).symm
theorem book_len {L : List ByteArray} (hm : ∀ t ∈ L, t.size ≤ 100000) (hn : L.length ≤ 1000) (k : Nat) : (textF 0 ((L.take k).map txt)).length ≤ 100009000 := by
  have := textF_len ((L.take k).map txt) 0 100000 (fun t ht => by
    obtain ⟨x, hx, rfl⟩ := List.mem_map.1 ht
    rw [txt_size]; exact hm x (List.mem_of_mem_take hx))
  rw [List.length_map, List.length_take] at this
  have h2 : min k L.length * (100000 + 9) ≤ 1000 * (100000 + 9) := Nat.mul_le_mul_right _ (by omega)
  omega
theorem isB_ext {T e : TypeId} {B b : Nat} {bs : List Value} {w w' : World} (h : Lib.IsBuilder T e B b bs w) (hx : Ext w w') : Lib.IsBuilder T e B b bs w' := by
  have one : ∀ p, Lib.BuilderAt T e B b p bs w → Lib.BuilderAt T e B b p bs w' := fun p ⟨hB, v, hb, ho, hn⟩ =>
    ⟨hB, v, (hx.block b (Array.getElem?_eq_some_iff.1 hb).1).trans hb, ownsRow_ext ho hx, hn⟩
  exact h.elim (fun h => .inl (one _ h)) (fun h => .inr (one _ h))
theorem bs_eq (l : Bs) : txt ⟨l.toArray⟩ = l := by simp [txt]

set_option maxHeartbeats 2000000 in
set_option maxRecDepth 100000 in
theorem write_c (v : Value) (L : List ByteArray) (w : World) (h : Strs w v L) (hE : Env w) (hm : ∀ t ∈ L, t.size ≤ 100000) (hn : L.length ≤ 1000) :
    Calls Tryz.prog 77 #[v] w (RV (.string ⟨(bookB L).toArray⟩) w) := by
  obtain ⟨a, c, rfl, h1, h2, H⟩ := h.at_
  clear h
  have HE := Lib.hid hE; clear hE
  have HM := Lib.hid hm
  have HBL := Lib.hid (fun k => book_len hm hn k)
  clear hm
  obtain ⟨wA, hwA⟩ : ∃ wA, wA = w.alloc (.cells #[.pointer none, .slice none 0 0] 175) := ⟨_, rfl⟩
  have hEA : Ext w wA := by rw [hwA]; exact Ext.alloc _ _
  have hIB : Lib.IsBuilder 175 5 w.heap.size w.heap.size [] wA := .inl ⟨Nat.le_refl _, .slice none 0 0, by rw [hwA]; exact World.alloc_heap_new w _, World.ownsRow_nil _ _ _ _, by simp [Value.ownBlock]⟩
  have HWA := Lib.hid hwA; clear hwA
  go_enter Tryz.func77, Tryz.ntmps77
  go_upto_region 2 with fail
  rw [← HWA.out]
  generalize hg : w.heap.size = g at *
  go_wp2_with fail
  go_loopg [11, 4] L.length (fun m i q wr => ∃ k : Nat, k ≤ L.length ∧ L.length ≤ k + m ∧ i = .int .i64 k ∧ q = .int .i64 (sumsF 0 ((L.take k).map txt)) ∧ Ext w wr ∧ Hid (Lib.IsBuilder 175 5 g g (Lib.byteCells (textF 0 ((L.take k).map txt))) wr))
  case atStart => exact ⟨0, by omega, by omega, rfl, rfl, hEA, Lib.hid hIB⟩
  case round =>
    obtain ⟨k, hk, hk2, rfl, rfl, hB, hI⟩ := hrel
    by_cases hlt : k < L.length
    · obtain ⟨b, o, rfl, hc⟩ := H.out k hlt
      replace hc := hB.keep hc
      have hts := HM.out L[k] (List.getElem_mem hlt)
      have HBS := Lib.hid (book_snoc L k hlt)
      have hsr := sumsF_range ((L.take k).map txt) 0 (by omega) (by omega)
      have hbl := HBL.out k
      have hll := lineB_len (sumsF 0 ((L.take k).map txt)) (txt L[k])
      rw [txt_size] at hll
      generalize L[k] = t at *
      generalize sumsF 0 ((L.take k).map txt) = s at *
      generalize textF 0 ((L.take k).map txt) = X at *
      have HLC := Lib.hid (line_c s t wr (HE.out.ext hB) (wf_mk (by omega)) hts)
      rw [show t.data.toList = txt t from rfl] at HLC
      have HLS : Hid (Lib.strCells ⟨(lineB s (txt t)).toArray⟩ = Lib.byteCells (lineB s (txt t))) := Lib.hid rfl
      have hsz : (⟨(lineB s (txt t)).toArray⟩ : ByteArray).size = (lineB s (txt t)).length := by rw [bs_size]
      generalize lineB s (txt t) = LB at *
      generalize sumB s (txt t) = s2 at *
      go_wp2_with fail
      refine HLC.out.mono ?_; rintro e w1 ⟨rfl, hx1⟩
      have hI1 : Lib.IsBuilder 175 5 g g (Lib.byteCells X) w1 := isB_ext hI.out hx1
      go_wp2_with fail
      refine (WriteString_c g g _ ⟨LB.toArray⟩ w1 hI1 (by rw [Lib.byteCells_length, hsz]; omega) (by rw [← hg]; exact (hB.trans hx1).size)).mono ?_; rintro e w2 ⟨rfl, hI2, hb2⟩
      have hx2 : Ext w w2 := by have := hB.trans hx1; refine this.upto (B := g) hb2 (by omega)
      go_wp2_with fail
      go_roundg (gk-1)
      case measure => omega
      case rel => exact ⟨k+1, by omega, by omega, by go_num, by rw [HBS.out.2], hx2, Lib.hid (.inr (by rw [HBS.out.1, Lib.byteCells_append, ← HLS.out]; exact hI2))⟩
    · obtain rfl : k = L.length := by omega
      have hI := hI.out
      rw [List.take_length] at hI
      go_wp2_with fail
      refine (Tryz.Builder_String_any g g _ wr hI (by rw [← hg]; exact hB.size)).mono ?_; rintro e w2 ⟨rfl, hb2⟩
      go_wp2_with fail
      go_ret
      exact ⟨rfl, hB.upto (B := g) hb2 (by omega)⟩

/-! ## Write -/
def rightA (L : List ByteArray) : Bool := allB L.length fun i => rightB (txt (L[i]?.getD ⟨#[]⟩))
def writeK (L : List ByteArray) : Int := if 100 < L.length then 3 else if rightA L then 0 else 1
def writeB (L : List ByteArray) : Bs := if writeK L = 0 then bookB L else []
theorem rightA_iff {L : List ByteArray} : rightA L = true ↔ ∀ t ∈ L, rightB (txt t) = true := by
  unfold rightA allB
  rw [List.all_eq_true]
  constructor
  · intro h t ht
    obtain ⟨i, hi, rfl⟩ := List.mem_iff_getElem.1 ht
    have := h i (by simpa using hi)
    simpa [hi] using this
  · intro h i hi
    have hi : i < L.length := by simpa using hi
    rw [List.getElem?_eq_getElem hi]
    exact h _ (List.getElem_mem hi)
theorem writeK_ok {L : List ByteArray} (hn : ¬ 100 < L.length) (h : ∀ j, j < L.length → rightB (txt (L[j]?.getD ⟨#[]⟩)) = true) : writeK L = 0 := by
  rw [writeK, if_neg hn, if_pos (show rightA L = true from allB_true h)]
theorem writeK_bad {L : List ByteArray} (hn : ¬ 100 < L.length) {k : Nat} (hk : k < L.length) (h : rightB (txt (L[k]?.getD ⟨#[]⟩)) = false) : writeK L = 1 := by
  rw [writeK, if_neg hn, if_neg (by rw [rightA, allB_false hk h]; simp)]
theorem right_size {L : List ByteArray} (h : ∀ j, j < L.length → rightB (txt (L[j]?.getD ⟨#[]⟩)) = true) : ∀ t ∈ L, t.size ≤ 100000 := by
  intro t ht
  have := (rightB_iff.1 (rightA_iff.1 (allB_true h) t ht)).2.1
  rw [txt_size] at this; omega

set_option maxHeartbeats 2000000 in
set_option maxRecDepth 100000 in
theorem Write_c (v : Value) (L : List ByteArray) (w : World) (h : Strs w v L) (hE : Env w) :
    Calls Tryz.prog 44 #[v] w (RV (.tuple #[.string ⟨(writeB L).toArray⟩, .int .i64 (writeK L)]) w) := by
  have HH := Lib.hid h
  obtain ⟨a, c, rfl, h1, h2, H⟩ := h.at_
  clear h
  have HE := Lib.hid hE; clear hE
  have HK := Lib.hid (writeB.eq_1 L)
  by_cases hn : 100 < L.length
  · have HK3 := Lib.hid (show writeK L = 3 by rw [writeK, if_pos hn])
    rw [HK.out, HK3.out, if_neg (by decide)]
    go_enter Tryz.func44, Tryz.ntmps44
    go_wp2_with fail
    go_ret2
    exact ⟨rfl, Ext.refl _⟩
  · go_enter Tryz.func44, Tryz.ntmps44
    go_wp2_with fail
    go_loopg [11] L.length (fun m i wr => ∃ k : Nat, k ≤ L.length ∧ L.length ≤ k + m ∧ i = .int .i64 k ∧ w = wr ∧ Hid (∀ j, j < k → rightB (txt (L[j]?.getD ⟨#[]⟩)) = true))
    case atStart => exact ⟨0, by omega, by omega, rfl, rfl, fun j hj => by omega⟩
    case round =>
      obtain ⟨k, hk, hk2, rfl, rfl, hEE⟩ := hrel
      by_cases hlt : k < L.length
      · obtain ⟨b, o, rfl, hc⟩ := H.out k hlt
        have hge : L[k]?.getD ⟨#[]⟩ = L[k] := by simp [hlt]
        have HBAD := Lib.hid (fun h => writeK_bad hn hlt h)
        rw [hge] at HBAD
        generalize ht : L[k] = t at *
        have HT := Lib.hid hge; clear hge ht
        have HTX := Lib.hid (isText_c t w)
        rw [show t.data.toList = txt t from rfl] at HTX
        generalize hr : rightB (txt t) = R at *
        have HR := Lib.hid hr; clear hr
        cases R
        · have HK1 := Lib.hid (HBAD.out rfl)
          go_wp2_with fail
          refine HTX.out.mono ?_; rintro e w1 ⟨rfl, rfl⟩
          go_wp2_with fail
          go_ret2
          exact ⟨by rw [HK.out, HK1.out, if_neg (by decide)]; rfl, Ext.refl _⟩
        · go_wp2_with fail
          refine HTX.out.mono ?_; rintro e w1 ⟨rfl, rfl⟩
          go_wp2_with fail
          go_roundg (gk-1)
          case measure => omega
          case rel => exact ⟨k+1, by omega, by omega, by go_num, rfl, fun j hj => by
            by_cases e : j = k
            · subst e; rw [HT.out]; exact HR.out
            · exact hEE.out j (by omega)⟩
      · have HK0 := Lib.hid (writeK_ok hn fun j hj => hEE.out j (by omega))
        have HWR := Lib.hid (write_c _ L w HH.out HE.out (right_size fun j hj => hEE.out j (by omega)) (by omega))
        go_wp2_with fail
        refine HWR.out.mono ?_; rintro e w1 ⟨rfl, hx1⟩
        go_wp2_with fail
        go_ret2
        exact ⟨by rw [HK.out, HK0.out, if_pos rfl]; rfl, hx1⟩
end Go.Proofs.YtpmlcfgbfhgpgaaGreatDoor
