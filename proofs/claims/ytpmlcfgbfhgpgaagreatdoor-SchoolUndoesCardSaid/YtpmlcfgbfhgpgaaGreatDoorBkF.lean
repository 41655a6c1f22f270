/- Read of the program. -/
import Derived.Test.YtpmlcfgbfhgpgaaGreatDoorBkE
namespace Go.Proofs.YtpmlcfgbfhgpgaaGreatDoor
open Go.RowKit Go.Shelf
set_option linter.unusedVariables false

def ofBs (l : Bs) : ByteArray := ⟨l.toArray⟩
@[simp] theorem txt_of (l : Bs) : txt (ofBs l) = l := by simp [txt, ofBs]
theorem of_txt (t : ByteArray) : ofBs (txt t) = t := rfl
theorem ofBs_size (l : Bs) : (ofBs l).size = l.length := by rw [bs_size]; show (txt (ofBs l)).length = _; rw [txt_of]
def readOrders (bk : Bs) : List ByteArray := (readB bk).1.map ofBs
def readRest (bk : Bs) : ByteArray := ofBs (readB bk).2
theorem byt (b : ByteArray) : b.toList = b.data.toList := Go.Lib.toList_data b
/-- one turn of Read: what the program looks at -/
theorem readOne_cut (s : Int) (bk : Bs) : readOne s bk = if cutF bk 10 && cutF (cutA bk 10) 32 && rightB (cutR (cutA bk 10) 32) && decide (lineB s (cutR (cutA bk 10) 32) = cutA bk 10 ++ [10]) then some (cutR (cutA bk 10) 32, bk.drop (lineB s (cutR (cutA bk 10) 32)).length) else none := by
  unfold readOne
  simp only
  rw [show bk.takeWhile (· != 10) = cutA bk 10 from rfl]
  have hle1 := cutA_le bk 10
  have hle2 := cutA_le (cutA bk 10) 32
  generalize hA : cutA bk 10 = A at *
  rw [show A.takeWhile (· != 32) = cutA A 32 from rfl]
  have hR : A.drop ((cutA A 32).length + 1) = cutR A 32 := rfl
  rw [hR]
  by_cases h1 : A.length = bk.length
  · rw [if_pos h1, show cutF bk 10 = false from by unfold cutF; rw [hA]; simp; omega]
    simp
  · rw [if_neg h1, show cutF bk 10 = true from by unfold cutF; rw [hA]; simp; omega]
    by_cases h2 : (cutA A 32).length = A.length
    · rw [if_pos h2, show cutF A 32 = false from by unfold cutF; simp; omega]
      simp
    · rw [if_neg h2, show cutF A 32 = true from by unfold cutF; simp; omega]
      have hsp : A = cutA A 32 ++ 32 :: cutR A 32 := (takeWhile_split A 32 h2).1
      have hiff : (Lib.itoa (sumB s (cutR A 32)) == cutA A 32) = decide (lineB s (cutR A 32) = A ++ [10]) := by
        rw [Bool.eq_iff_iff, beq_iff_eq, decide_eq_true_eq]
        constructor
        · intro h
          conv => rhs; rw [hsp]
          rw [lineB, h]; simp
        · intro h
          rw [lineB] at h
          conv at h => rhs; rw [hsp]
          have h' : Lib.itoa (sumB s (cutR A 32)) ++ (32 :: cutR A 32 ++ [10]) = cutA A 32 ++ (32 :: cutR A 32 ++ [10]) := by simpa using h
          exact List.append_cancel_right h'
      rw [hiff]
      by_cases h3 : lineB s (cutR A 32) = A ++ [10]
      · have hl : (lineB s (cutR A 32)).length = A.length + 1 := by rw [h3]; simp
        rw [hl]; simp
      · simp [h3]

set_option maxHeartbeats 4000000 in
set_option maxRecDepth 100000 in
theorem Read_c (t : ByteArray) (w : World) (hE : Env w) (ht : t.size ≤ 1000000) :
    Calls Tryz.prog 39 #[.string t] w fun e w' => ∃ v, e = .returned (.tuple #[v, .string (readRest (txt t))]) ∧ OStrs w' w.heap.size v (readOrders (txt t)) ∧ Ext w w' := by
  have HE := Lib.hid hE; clear hE
  have HRO : Hid (∀ L r, readB (txt t) = (L, r) → readOrders (txt t) = L.map ofBs ∧ readRest (txt t) = ofBs r) := Lib.hid fun L r h => by unfold readOrders readRest; rw [h]; exact ⟨rfl, rfl⟩
  go_enter Tryz.func39, Tryz.ntmps39
  go_wp2_with fail
  go_loopg [4, 5, 0] 100 (fun m v q bk wr => ∃ (k : Nat) (L : List ByteArray) (u : Value) (s : Int) (b : ByteArray), k ≤ 100 ∧ 100 ≤ k + m ∧ L.length = k ∧ u = v ∧ q = .int .i64 s ∧ bk = .string b ∧ 0 ≤ s ∧ s < 1000003 ∧ b.size ≤ 1000000 ∧ Ext w wr ∧ OStrs wr w.heap.size u L ∧
      Hid (readB (txt t) = (L.map txt ++ (readF (100 - k) s (txt b)).1, (readF (100 - k) s (txt b)).2)))
  case atStart => exact ⟨0, [], _, 0, t, by omega, by omega, rfl, rfl, rfl, rfl, by omega, by omega, ht, Ext.refl _, OCel.nil _ _ _ _ _, Lib.hid (by simp [readB])⟩
  case round =>
    obtain ⟨k, L, u, s, b, hk, hk2, hLk, rfl, rfl, rfl, hs0, hs1, hb, hB, hown, hR⟩ := hrel
    obtain ⟨ua, uc, rfl, hu1, hu2, _⟩ := (Cel.own encT_len hown).open_
    rw [hLk] at hown hu1 ⊢
    by_cases hlt : k < 100
    · obtain ⟨n, hn⟩ : ∃ n, 100 - k = n + 1 := ⟨99 - k, by omega⟩
      have hn2 : 100 - (k + 1) = n := by omega
      have HRF : Hid (readF (100 - k) s (txt b) = match readOne s (txt b) with | none => ([], txt b) | some (o, r) => (o :: (readF n (sumB s o) r).1, (readF n (sumB s o) r).2)) := Lib.hid (by rw [hn]; rfl)
      have HN2 := Lib.hid hn2; clear hn hn2
      rw [readOne_cut] at HRF
      have HC1 := Lib.hid (cut_c b 10 wr (by omega))
      have hAl := cutA_le (txt b) 10
      rw [txt_size] at hAl
      have HF1 : Hid (cutF (txt b) 10 = decide ((cutA (txt b) 10).length < b.size)) := Lib.hid (by rw [cutF, txt_size])
      generalize cutA (txt b) 10 = A at *
      generalize cutR (txt b) 10 = R1 at *
      generalize cutF (txt b) 10 = F1 at *
      have HC2 := Lib.hid (fun W => cut_c ⟨A.toArray⟩ 32 W (by have := ofBs_size A; unfold ofBs at this; omega))
      rw [bs_eq] at HC2
      have hRl : (cutR A 32).length ≤ A.length := by unfold cutR; rw [List.length_drop]; omega
      generalize cutA A 32 = A2 at *
      generalize cutF A 32 = F2 at *
      generalize cutR A 32 = O at *
      have HTX := Lib.hid (fun W => isText_c ⟨O.toArray⟩ W)
      rw [show (⟨O.toArray⟩ : ByteArray).data.toList = O from rfl] at HTX
      have HLN := Lib.hid (fun W (hW : Ext w W) (ho : O.length ≤ 100000) => line_c s ⟨O.toArray⟩ W (HE.out.ext hW) (wf_mk (by omega)) (by have := ofBs_size O; unfold ofBs at this; omega))
      rw [show (⟨O.toArray⟩ : ByteArray).data.toList = O from rfl] at HLN
      have HRB : Hid (rightB O = true → O.length ≤ 30) := Lib.hid fun h => (rightB_iff.1 h).2.1
      have hsr := sumB_range s O
      generalize rightB O = RB at *
      generalize hLB : lineB s O = LB at *
      have HLB := Lib.hid hLB; clear hLB
      have HSE : Hid ((LB == ((⟨A.toArray⟩ : ByteArray) ++ ⟨#[10]⟩).toList) = decide (LB = A ++ [10])) := Lib.hid (by
        rw [byt, ByteArray.data_append]
        rw [Bool.eq_iff_iff, beq_iff_eq, decide_eq_true_eq]
        simp)
      have stop : (F1 && F2 && RB && decide (LB = A ++ [10])) = false → readB (txt t) = (L.map txt, txt b) := fun h => by
        rw [hR.out, HRF.out, h]; simp
      have HSTOP := Lib.hid stop; clear stop
      have fin : (F1 && F2 && RB && decide (LB = A ++ [10])) = false → ∃ v, (Ending.returned (.tuple #[.slice ua k uc, .string b]) : Ending) = .returned (.tuple #[v, .string (readRest (txt t))]) ∧ OStrs wr w.heap.size v (readOrders (txt t)) ∧ Ext w wr := fun h => by
        obtain ⟨h1, h2⟩ := HRO.out _ _ (HSTOP.out h)
        refine ⟨.slice ua k uc, by rw [h2]; rfl, ?_, hB⟩
        rw [h1, List.map_map]
        have : L.map (ofBs ∘ txt) = L := by rw [show (ofBs ∘ txt) = id from funext fun x => rfl]; simp
        rw [this]; exact hown
      have HFIN := Lib.hid fin; clear fin
      cases F1
      · go_wp2_with fail
        refine HC1.out.mono ?_; rintro e w1 ⟨rfl, hx1⟩
        go_wp2_with fail
        refine (HC2.out w1).mono ?_; rintro e w2 ⟨rfl, hx2⟩
        go_wp2_with fail
        go_ret2
        obtain ⟨v, h1, h2, h3⟩ := HFIN.out rfl
        exact ⟨v, h1, h2.ext (hx1.trans hx2), h3.trans (hx1.trans hx2)⟩
      · cases F2
        · go_wp2_with fail
          refine HC1.out.mono ?_; rintro e w1 ⟨rfl, hx1⟩
          go_wp2_with fail
          refine (HC2.out w1).mono ?_; rintro e w2 ⟨rfl, hx2⟩
          go_wp2_with fail
          go_ret2
          obtain ⟨v, h1, h2, h3⟩ := HFIN.out rfl
          exact ⟨v, h1, h2.ext (hx1.trans hx2), h3.trans (hx1.trans hx2)⟩
        · cases RB
          · go_wp2_with fail
            refine HC1.out.mono ?_; rintro e w1 ⟨rfl, hx1⟩
            go_wp2_with fail
            refine (HC2.out w1).mono ?_; rintro e w2 ⟨rfl, hx2⟩
            go_wp2_with fail
            refine (HTX.out w2).mono ?_; rintro e w3 ⟨rfl, rfl⟩
            go_wp2_with fail
            go_ret2
            obtain ⟨v, h1, h2, h3⟩ := HFIN.out rfl
            exact ⟨v, h1, h2.ext (hx1.trans hx2), h3.trans (hx1.trans hx2)⟩
          · have hO30 := HRB.out rfl
            by_cases hle : LB = A ++ [10]
            · have hd1 : (LB == ((⟨A.toArray⟩ : ByteArray) ++ ⟨#[10]⟩).toList) = true := by rw [HSE.out]; simpa using hle
              have HLE := Lib.hid hle; clear hle
              have hAb : A.length < b.size := by have := HF1.out.symm; rwa [decide_eq_true_eq] at this
              have hLBs : (⟨LB.toArray⟩ : ByteArray).size = A.length + 1 := by have := ofBs_size LB; unfold ofBs at this; rw [this, HLE.out]; simp
              have HEX := Lib.hid (extract_drop b (A.length + 1) (by omega))
              have HRF2 : Hid (readF (100 - k) s (txt b) = (O :: (readF n (sumB s O) ((txt b).drop (A.length + 1))).1, (readF n (sumB s O) ((txt b).drop (A.length + 1))).2)) := Lib.hid (by
                rw [HRF.out, HLE.out]; simp)
              go_wp2_with fail
              refine HC1.out.mono ?_; rintro e w1 ⟨rfl, hx1⟩
              go_wp2_with fail
              refine (HC2.out w1).mono ?_; rintro e w2 ⟨rfl, hx2⟩
              go_wp2_with fail
              refine (HTX.out w2).mono ?_; rintro e w3 ⟨rfl, rfl⟩
              go_wp2_with fail
              refine (HLN.out w2 (hB.trans (hx1.trans hx2)) (by omega)).mono ?_; rintro e w4 ⟨rfl, hx4⟩
              have hB4 := hB.trans (hx1.trans (hx2.trans hx4))
              have hown4 := hown.ext (hx1.trans (hx2.trans hx4))
              have HOW := Lib.hid hown4
              go_wp2_with fail
              refine wp_region_peek (fun _ => True) (fun _ => True) [] [.look 0, .look 1, .look 4, .look 5, .look 6, .look 7, .look 8, .go 2, .go 3, .look 9, .look 10, .look 11] (by kernel_rfl) (by kernel_rfl) (by intro c a d v w h; cases d <;> exact h) ?_
              have hd : Ext w4 { w4 with drawn := w4.drawn + 1 } := drawnP_ext w4
              generalize { w4 with drawn := w4.drawn + 1 } = W0 at *
              have htr : (fun _ : World => True) W0 := trivial
              have hs4 : w.heap.size ≤ W0.heap.size := Nat.le_trans hB4.size hd.size
              have HOW2 := Lib.hid (HOW.out.ext hd)
              iterate 6 (refine wpPeek_look rfl ‹_› (fun K hK => ?_); go_simp; first | (refine hK _ ?_; clear hK K) | (refine ⟨_, fun _ => rfl, hK _ ?_⟩; clear hK K))
              refine wpPeek_look rfl ‹_› (fun K hK => ?_)
              go_simp
              refine ⟨.string (b.extract (A.length + 1) b.size), fun s => by rw [if_pos (⟨by omega, by omega⟩)]; simp [purely], hK _ ?_⟩
              clear hK K
              refine wpPeek_go rfl rfl (fun K hK => ?_)
              go_wp2_with fail
              refine ⟨KeepE.of (fun _ => trivial) (fun _ => trivial), ?_⟩
              refine wpPeek_go rfl rfl (fun K2 hK2 => ?_)
              refine wpList_appendS (enc := encT) (L := L) (v := .slice ua k uc) (⟨O.toArray⟩ : ByteArray) elStr rfl _ _ rfl rfl rfl HOW2.out rfl rfl rfl (by intro u hu; simp only [encT, List.mem_cons, List.not_mem_nil, or_false] at hu; rcases hu with rfl; rfl) hs4 (by omega) (by omega) ?_
              intro v' w' hown2 hb2 hg2 hn2
              go_wp2_with fail
              refine ⟨KeepE.of (fun _ => trivial) (fun _ => trivial), ?_⟩
              have htr : (fun _ : World => True) w' := trivial
              iterate 3 (refine wpPeek_look rfl ‹_› (fun K hK => ?_); go_simp; first | (refine hK _ ?_; clear hK K) | (refine ⟨_, fun _ => rfl, hK _ ?_⟩; clear hK K))
              refine wpPeek_nil ?_
              go_wp2_with fail
              go_roundg (gk - 1)
              case measure => omega
              case rel => exact ⟨k + 1, L ++ [ofBs O], _, _, _, by omega, by omega, by simp [hLk], rfl, rfl, rfl, hsr.1, hsr.2, by rw [ByteArray.size_extract]; omega, (hB4.trans hd).rowGrown HOW2.out hg2, hown2, Lib.hid (by
                rw [hR.out, HRF2.out, HEX.out, HN2.out, List.map_append, List.append_assoc]
                simp only [List.map_cons, List.map_nil, List.cons_append, List.nil_append]
                rw [show txt (⟨((txt b).drop (A.length + 1)).toArray⟩ : ByteArray) = (txt b).drop (A.length + 1) from txt_of _, txt_of])⟩
            · have hd1 : (LB == ((⟨A.toArray⟩ : ByteArray) ++ ⟨#[10]⟩).toList) = false := by rw [HSE.out]; simpa using hle
              have HLE := Lib.hid hle; clear hle
              go_wp2_with fail
              refine HC1.out.mono ?_; rintro e w1 ⟨rfl, hx1⟩
              go_wp2_with fail
              refine (HC2.out w1).mono ?_; rintro e w2 ⟨rfl, hx2⟩
              go_wp2_with fail
              refine (HTX.out w2).mono ?_; rintro e w3 ⟨rfl, rfl⟩
              go_wp2_with fail
              refine (HLN.out w2 (hB.trans (hx1.trans hx2)) (by omega)).mono ?_; rintro e w4 ⟨rfl, hx4⟩
              go_wp2_with fail
              go_ret2
              obtain ⟨v, h1, h2, h3⟩ := HFIN.out (by simp [HLE.out])
              exact ⟨v, h1, h2.ext (hx1.trans (hx2.trans hx4)), h3.trans (hx1.trans (hx2.trans hx4))⟩
    · obtain rfl : k = 100 := by omega
      obtain ⟨h1, h2⟩ := HRO.out _ _ hR.out
      have H1 := Lib.hid h1; have H2 := Lib.hid h2; clear h1 h2
      go_wp2_with fail
      go_ret2
      refine ⟨.slice ua 100 uc, by rw [H2.out]; rfl, ?_, hB⟩
      rw [H1.out]
      have : (L.map txt ++ (readF (100 - 100) s (txt b)).1).map ofBs = L := by
        rw [show (readF (100 - 100) s (txt b)).1 = [] from rfl, List.append_nil, List.map_map, show (ofBs ∘ txt) = id from funext fun x => rfl]; simp
      rw [this]; exact hown
end Go.Proofs.YtpmlcfgbfhgpgaaGreatDoor
