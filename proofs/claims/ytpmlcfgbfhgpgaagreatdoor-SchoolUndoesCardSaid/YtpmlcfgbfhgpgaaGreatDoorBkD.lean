/- Books of orders: Text and Write of the reference. -/
import Derived.Test.YtpmlcfgbfhgpgaaGreatDoorBkC
namespace Go.Proofs.YtpmlcfgbfhgpgaaGreatDoor
open Go.RowKit Go.Shelf
set_option linter.unusedVariables false

theorem line_str2 (s : Int) (t : ByteArray) (X : Bs) : (⟨X.toArray⟩ ++ (⟨(Lib.itoa (sumB s (txt t))).toArray⟩ ++ ⟨#[32]⟩ ++ t ++ ⟨#[10]⟩) : ByteArray) = ⟨(X ++ lineB s (txt t)).toArray⟩ := by
  apply ByteArray.ext
  simp [lineB, ByteArray.data_append, txt]

set_option maxHeartbeats 2000000 in
set_option maxRecDepth 100000 in
theorem rText_c (v : Value) (L : List ByteArray) (w : World) (h : Strs w v L) (hE : Env w) (hm : ∀ t ∈ L, t.size ≤ 100000) (hn : L.length ≤ 1000) :
    Calls Tryz.prog 56 #[v] w (RV (.string ⟨(bookB L).toArray⟩) w) := by
  obtain ⟨a, c, rfl, h1, h2, H⟩ := h.at_
  clear h
  have HE := Lib.hid hE; clear hE
  have HM := Lib.hid hm
  have HBL := Lib.hid (fun k => book_len hm hn k)
  clear hm
  go_enter Tryz.func56, Tryz.ntmps56
  go_wp2_with fail
  go_loopg [5, 3, 4] L.length (fun m i o q wr => ∃ k : Nat, k ≤ L.length ∧ L.length ≤ k + m ∧ i = .int .i64 k ∧ o = .string ⟨(textF 0 ((L.take k).map txt)).toArray⟩ ∧ q = .int .i64 (sumsF 0 ((L.take k).map txt)) ∧ Ext w wr)
  case atStart => exact ⟨0, by omega, by omega, rfl, rfl, rfl, Ext.refl _⟩
  case round =>
    obtain ⟨k, hk, hk2, rfl, rfl, rfl, hB⟩ := hrel
    by_cases hlt : k < L.length
    · obtain ⟨b, o, rfl, hc⟩ := H.out k hlt
      replace hc := hB.keep hc
      have hts := HM.out L[k] (List.getElem_mem hlt)
      have HBS := Lib.hid (book_snoc L k hlt)
      have hsr := sumsF_range ((L.take k).map txt) 0 (by omega) (by omega)
      have hbl := HBL.out k
      generalize L[k] = t at *
      generalize sumsF 0 ((L.take k).map txt) = s at *
      generalize textF 0 ((L.take k).map txt) = X at *
      have HSU := Lib.hid (rSum_c s t wr (wf_mk (by omega)) hts)
      rw [show t.data.toList = txt t from rfl] at HSU
      have hr2 := sumB_range s (txt t)
      have hIl := itoa_len hr2.1 hr2.2
      have HLS := Lib.hid (line_str2 s t X)
      have HIT := Lib.hid (fun q : Later wr => Itoa_c (sumB s (txt t)) q.w (HE.out.ext (hB.trans q.ext)) (by omega) (by omega))
      have hcs : ∀ q : Later wr, q.w.cell? ⟨b, o + k, none⟩ = some (.string t) := fun q => q.ext.keep hc
      have HBS1 := Lib.hid HBS.out.1
      have HBS2 := Lib.hid HBS.out.2
      clear HBS
      generalize lineB s (txt t) = LB at *
      generalize sumB s (txt t) = s2 at *
      generalize Lib.itoa s2 = I at *
      go_wp2_with fail
      refine HSU.out.mono ?_; rintro e w1 ⟨rfl, rfl⟩
      go_wp2_with fail
      refine wp_region_later (by kernel_rfl) (by kernel_rfl) ?_
      repeat (go_big_quiet_step (first | (go_at_call 82; first | with_reducible exact Later.call (HIT.out _))))
      refine wpQuiet_nil ?_
      intro w5 hw'
      obtain ⟨⟨_, hx5⟩, rfl⟩ := hw'
      go_wp2_with fail
      go_roundg (gk-1)
      case measure => omega
      case rel => exact ⟨k+1, by omega, by omega, by go_num, by rw [HBS1.out, ← HLS.out], by rw [HBS2.out], hB.trans hx5⟩
    · obtain rfl : k = L.length := by omega
      rw [List.take_length]
      go_wp2_with fail
      go_ret
      exact ⟨rfl, hB⟩

set_option maxHeartbeats 2000000 in
set_option maxRecDepth 100000 in
theorem rWrite_c (v : Value) (L : List ByteArray) (w : World) (h : Strs w v L) (hE : Env w) (hm : ∀ t ∈ L, t.size ≤ 100000) :
    Calls Tryz.prog 45 #[v] w (RV (.tuple #[.string ⟨(writeB L).toArray⟩, .int .i64 (writeK L)]) w) := by
  have HH := Lib.hid h
  obtain ⟨a, c, rfl, h1, h2, H⟩ := h.at_
  clear h
  have HE := Lib.hid hE; clear hE
  have HM := Lib.hid hm; clear hm
  have HK := Lib.hid (writeB.eq_1 L)
  by_cases hn : 100 < L.length
  · have HK3 := Lib.hid (show writeK L = 3 by rw [writeK, if_pos hn])
    rw [HK.out, HK3.out, if_neg (by decide)]
    go_enter Tryz.func45, Tryz.ntmps45
    go_wp2_with fail
    go_ret2
    exact ⟨rfl, Ext.refl _⟩
  · go_enter Tryz.func45, Tryz.ntmps45
    go_wp2_with fail
    go_loopg [4] L.length (fun m i wr => ∃ k : Nat, k ≤ L.length ∧ L.length ≤ k + m ∧ i = .int .i64 k ∧ w = wr ∧ Hid (∀ j, j < k → rightB (txt (L[j]?.getD ⟨#[]⟩)) = true))
    case atStart => exact ⟨0, by omega, by omega, rfl, rfl, fun j hj => by omega⟩
    case round =>
      obtain ⟨k, hk, hk2, rfl, rfl, hEE⟩ := hrel
      by_cases hlt : k < L.length
      · obtain ⟨b, o, rfl, hc⟩ := H.out k hlt
        have hge : L[k]?.getD ⟨#[]⟩ = L[k] := by simp [hlt]
        have HBAD := Lib.hid (fun h => writeK_bad hn hlt h)
        have hts := HM.out L[k] (List.getElem_mem hlt)
        rw [hge] at HBAD
        generalize ht : L[k] = t at *
        have HT := Lib.hid hge; clear hge ht
        have HTX := Lib.hid (Right_c t w hts)
        rw [show t.data.toList = txt t from rfl] at HTX
        generalize hr : rightB (txt t) = R at *
        have HR := Lib.hid hr; clear hr
        cases R
        · have HK1 := Lib.hid (HBAD.out rfl)
          go_wp2_with fail
          refine HTX.out.mono ?_; rintro e w1 ⟨rfl, rfl⟩
          go_wp2_with fail
          go_ret2
          exact ⟨by rw [HK.out, HK1.out, if_neg (by decide)]; rfl, Ext.refl _⟩
        · go_wp2_with fail
          refine HTX.out.mono ?_; rintro e w1 ⟨rfl, rfl⟩
          go_wp2_with fail
          go_roundg (gk-1)
          case measure => omega
          case rel => exact ⟨k+1, by omega, by omega, by go_num, rfl, fun j hj => by
            by_cases e : j = k
            · subst e; rw [HT.out]; exact HR.out
            · exact hEE.out j (by omega)⟩
      · have HK0 := Lib.hid (writeK_ok hn fun j hj => hEE.out j (by omega))
        have HWR := Lib.hid (rText_c _ L w HH.out HE.out (right_size fun j hj => hEE.out j (by omega)) (by omega))
        go_wp2_with fail
        refine HWR.out.mono ?_; rintro e w1 ⟨rfl, hx1⟩
        go_wp2_with fail
        go_ret2
        exact ⟨by rw [HK.out, HK0.out, if_pos rfl]; rfl, hx1⟩
end Go.Proofs.YtpmlcfgbfhgpgaaGreatDoor
