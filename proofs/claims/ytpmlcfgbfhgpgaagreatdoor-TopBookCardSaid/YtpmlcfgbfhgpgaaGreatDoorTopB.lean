/- A school by orders, and those that it took. -/
import Derived.Test.YtpmlcfgbfhgpgaaGreatDoorTopA
import Derived.Test.YtpmlcfgbfhgpgaaGreatDoorLaw9I
namespace Go.Proofs.YtpmlcfgbfhgpgaaGreatDoor
open Go.RowKit Go.Shelf
set_option linter.unusedVariables false
def RFirm (s : List Rul) (L : List ByteArray) (w : World) (e : Ending) (w' : World) : Prop :=
  Ext w w' ∧ ((validS s ≠ 0 ∧ e = .returned (.tuple #[.pointer none, .slice none 0 0, .bool false])) ∨
   (validS s = 0 ∧ ∃ b m1 rv v S u, w.heap.size ≤ b ∧ e = .returned (.tuple #[.pointer (some ⟨b, 0, none⟩), u, .bool true]) ∧ SchF S b m1 rv v (runS s st0 (L.take 40)) s w' ∧ OStrs w' w.heap.size u (runS s st0 (L.take 40)).orders))
set_option maxHeartbeats 8000000 in
set_option maxRecDepth 100000 in
theorem firm_c (v u : Value) (p : Int) (s : List Rul) (L : List ByteArray) (w : World) (h : Ruls w v s) (hl : Strs w u L) (hE : Env w) (hT : ErrT w) (h7 : 7 ≤ w.heap.size) :
    Calls Tryz.prog 61 #[.agg #[v, u, .int .i64 p], .int .i64 40] w (RFirm s L w) := by
  obtain ⟨wA, hwA⟩ : ∃ wA, wA = w.alloc (.cells #[v, u, .int .i64 p] 92) := ⟨_, rfl⟩
  have hEA : Ext w wA := by rw [hwA]; exact Ext.alloc _ _
  obtain ⟨g6, hg6⟩ : ∃ g, g = w.heap.size := ⟨_, rfl⟩
  have hbA : Blk wA g6 92 [v, u, .int .i64 p] := by rw [hg6, hwA]; exact Blk.alloc _ _ _
  have HN := Lib.hid (New_c (fun _ => false) v s wA (fun k hk => by cases hk) (h.ext hEA))
  have HE := Lib.hid (hE.ext hEA)
  have HT := Lib.hid (hT.ext hEA)
  have HL := Lib.hid (hl.ext hEA)
  have hzA : w.heap.size ≤ wA.heap.size := hEA.size
  have HWA := Lib.hid hwA; clear hwA
  obtain ⟨av, cv, rfl, _⟩ := h.open_
  obtain ⟨au, cu, rfl, hc1, hc2, _⟩ := hl.open_
  have HI0 := Lib.hid (fun hv : validS s = 0 => run_inv (s := s) (L.take 40) (inv_new hv) (made_new s))
  clear h hE hT hl
  have b0 := hbA.cell (i := 0) rfl
  have b1 := hbA.cell (i := 1) rfl
  have HG6 := Lib.hid hg6
  go_enter Tryz.func61, Tryz.ntmps61
  go_upto_region 1 with fail
  rw [← HWA.out]
  rw [← hg6]
  clear hg6
  by_cases hv : validS s = 0
  · have HV := Lib.hid hv; clear hv
    go_wp2_with fail
    refine HN.out.mono ?_; rintro e w1 ⟨hx1, ⟨h0, _⟩ | ⟨_, b, m1, rv, v0, rfl, hbz, hSc⟩⟩
    · exact absurd HV.out h0
    have hb7 : 7 ≤ b := Nat.le_trans h7 (Nat.le_trans hzA hbz)
    have hb1 : b < w1.heap.size := hSc.hb.lt
    have hu1 : Strs (hole (more (fun _ => false) b) w1) (.slice au L.length cu) L := HL.out.ext (hole_new hx1 (fun k hk => by
      rcases more_or hk with hk | hk
      · cases hk
      · omega))
    obtain ⟨au', cu', hul, _, _, HC2⟩ := Strs.at_ hu1
    injection hul with hul1 hul2 hul3
    subst hul1 hul3
    have HE1 := Lib.hid (HE.out.ext hx1)
    have HT1 := Lib.hid (HT.out.ext hx1)
    have hg6b : g6 < b := by have := hbA.lt; omega
    have hb1A := hbA.ext hx1
    have HBR : Hid (∀ W, ExtX (one b) w1 W → W.cell? ⟨g6, 1, none⟩ = some (.slice au L.length cu)) := Lib.hid (fun W q => by
      have hbr : Blk W g6 92 [.slice av s.length cv, .slice au L.length cu, .int .i64 p] := by
        unfold Blk
        rw [q.block g6 hb1A.lt (by simp [one]; omega)]
        exact hb1A
      exact hbr.cell (i := 1) rfl)
    clear hu1 hul2
    have hbw0 : wA.heap.size ≤ b := hbz
    go_wp2_with fail
    go_loopg [10, 9] 40 (fun m i t9 wr => ∃ (k : Nat) (v' : SV) (ar : Option Addr) (nr : Nat) (S : Nat → Bool), k ≤ L.length ∧ k ≤ 40 ∧ 40 ≤ k + m ∧ i = .int .i64 k ∧ t9 = .slice ar (runS s st0 (L.take k)).orders.length nr ∧ OStrs wr w1.heap.size (.slice ar (runS s st0 (L.take k)).orders.length nr) (runS s st0 (L.take k)).orders ∧ (∀ r, (Value.slice ar (runS s st0 (L.take k)).orders.length nr).ownBlock = some r → S r = true) ∧ ExtX (one b) w1 wr ∧ SchF S b m1 rv v' (runS s st0 (L.take k)) s wr)
    case atStart => exact ⟨0, v0, _, _, _, by omega, by omega, by omega, rfl, rfl, OCel.nil _ _ _ _ _, (fun r hr => by cases hr), ExtX.refl _ _, hSc⟩
    case round =>
      obtain ⟨k, v', ar, nr, S, hk1, hk4, hk2, rfl, rfl, hO, hOS, hEr, hSr⟩ := hrel
      have d1 := HBR.out wr hEr
      by_cases hlt : k < L.length
      · by_cases h40 : k < 40
        · obtain ⟨bl, ol, ha2, hcl⟩ := HC2.out k hlt
          subst ha2
          have tl := hole_sub (more (fun _ => false) b) wr _ _ (hole_keep (more_self _ _) hEr _ _ hcl)
          have HDO := Lib.hid (DoL_c hSr (HE1.out.extX hEr hb7) (HT1.out.extX hEr hb7) hb7 L[k])
          have HTK : Hid (L.take (k + 1) = L.take k ++ [L[k]]) := Lib.hid (by rw [List.take_add_one, List.getElem?_eq_getElem hlt]; rfl)
          have hcl' := hcl
          generalize hLk : L[k] = tk at *
          clear hLk
          have HRN : Hid (runS s st0 (L.take (k + 1)) = (doS s (runS s st0 (L.take k)) tk).1) := Lib.hid (by rw [HTK.out, runS_append]; rfl)
          have HOL : Hid ((runS s st0 (L.take k)).orders.length ≤ 1000) := Lib.hid (Nat.le_trans hSr.hI.olen (by omega))
          have hEr0 := hEr
          by_cases hz : (doS s (runS s st0 (L.take k)) tk).2 = 0
          · have HOO := Lib.hid (do_orders hz).1
            have HZ := Lib.hid hz
            generalize hR : doS s (runS s st0 (L.take k)) tk = R at *
            obtain ⟨R1, R2⟩ := R
            dsimp only at hz
            subst hz
            clear hR
            generalize hXO : (runS s st0 (L.take k)).orders = XO at *
            clear hXO
            have HEr := Lib.hid hEr
            go_wp2_with fail
            refine HDO.out.mono ?_; rintro e w5 ⟨he, hE5, v5, hB5⟩
            dsimp only at he
            subst he
            have hE15 := HEr.out.trans hE5
            have tl5 := hole_sub (more (fun _ => false) b) w5 _ _ (hole_keep (more_self _ _) hE15 _ _ hcl')
            have d15 := HBR.out w5 hE15
            replace hO := ownsRow_keep hO hE5 hb1
            have hz5 := hE15.size
            have HOS := Lib.hid hOS
            clear hOS
            go_wp2_with (at_builtin; refine wpList_appendS (enc := encT) (L := XO) (v := .slice ar XO.length nr) tk elStr rfl _ _ rfl rfl rfl hO rfl rfl rfl (by intro u hu; simp only [encT, List.mem_cons, List.not_mem_nil, or_false] at hu; subst hu; rfl) hz5 (by have := HOL.out; omega) (by have := HOL.out; omega) ?_; intro v6 w6 hO6 hb6 hg6' hn6; obtain ⟨a6, c6, hv6, _⟩ := (Cel.own encT_len hO6).open_; subst hv6)
            obtain ⟨S6, hS6, hB6⟩ := SchB.row hB5 hg6' (fun r hr => ⟨HOS.out r hr, fun e => by have := (ownsRow_lt hO hr).1; omega⟩) hn6 (fun r hr => (ownsRow_lt hO6 hr).2)
            have hX6 : ExtX (one b) w1 w6 := hE15.transN (R' := fun q => decide ((Value.slice ar XO.length nr).ownBlock = some q)) ⟨hg6'.os, hg6'.tape, hg6'.output, hg6'.size, fun q hq hr => hg6'.block q hq (by simpa [eq_comm] using hr)⟩ (fun q hq => .inr (ownsRow_lt hO (by simpa using hq)).1)
            go_roundg (gk-1)
            case measure => omega
            case rel =>
              refine ⟨k + 1, v5, a6, c6, S6, by omega, by omega, by omega, by go_num, ?_⟩
              have hoo : R1.orders = XO ++ [tk] := HOO.out
              rw [show runS s st0 (L.take (k + 1)) = R1 from HRN.out, hoo]
              exact ⟨by rw [List.length_append]; rfl, hO6, hS6, hX6, hB6⟩
          · have HRS := Lib.hid (do_refused hz)
            have hzn : ((doS s (runS s st0 (L.take k)) tk).2 == 0) = false := by simpa using hz
            rw [HRS.out] at HRN
            have HDO2 : Hid (Calls Tryz.prog 26 #[.pointer (some ⟨b, 0, none⟩), .string tk] wr (RDoF S b m1 rv s (runS s st0 (L.take k), (doS s (runS s st0 (L.take k)) tk).2) wr)) := Lib.hid (by have := HDO.out; rw [show doS s (runS s st0 (L.take k)) tk = (runS s st0 (L.take k), (doS s (runS s st0 (L.take k)) tk).2) from Prod.ext HRS.out rfl] at this; exact this)
            clear hz HDO HRS
            generalize (doS s (runS s st0 (L.take k)) tk).2 = R2 at *
            generalize runS s st0 (L.take k) = XK at *
            have HEr := Lib.hid hEr
            go_wp2_with fail
            refine HDO2.out.mono ?_; rintro e w5 ⟨he, hE5, v5, hB5⟩
            dsimp only at he
            subst he
            have hE15 := HEr.out.trans hE5
            replace hO := ownsRow_keep hO hE5 hb1
            have HOS := Lib.hid hOS
            clear hOS
            go_wp2_with fail
            go_roundg (gk-1)
            case measure => omega
            case rel => exact ⟨k + 1, v5, ar, nr, S, by omega, by omega, by omega, by go_num, by rw [HRN.out], by rw [HRN.out]; exact hO, by rw [HRN.out]; exact HOS.out, hE15, by rw [HRN.out]; exact hB5⟩
        · obtain rfl : k = 40 := by omega
          have hXw : Ext w wr := ((((hEA.trans hx1).toX (one b)).trans hEr)).ext (fun q hq => by simp [one]; omega)
          have HFIN := Lib.hid hSr
          have hO' := Lib.hid (OCel.low hO (Nat.le_trans hEA.size hx1.size))
          clear hSr hO hOS
          generalize hXK : runS s st0 (L.take 40) = XK at *
          have HXK := Lib.hid hXK
          clear hXK
          go_wp2_with fail
          go_ret3
          exact ⟨hXw, .inr ⟨HV.out, b, m1, rv, v', S, _, by omega, rfl, by rw [HXK.out]; exact HFIN.out, by rw [HXK.out]; exact hO'.out⟩⟩
      · have hkl : L.take 40 = L.take k := by rw [List.take_of_length_le (show L.length ≤ 40 by omega), List.take_of_length_le (show L.length ≤ k by omega)]
        have hXw : Ext w wr := ((((hEA.trans hx1).toX (one b)).trans hEr)).ext (fun q hq => by simp [one]; omega)
        have HKL := Lib.hid hkl
        have HFIN := Lib.hid hSr
        have hO' := Lib.hid (OCel.low hO (Nat.le_trans hEA.size hx1.size))
        clear hSr hO hOS hkl
        generalize hXK : runS s st0 (L.take k) = XK at *
        have HXK := Lib.hid hXK
        clear hXK
        go_wp2_with fail
        go_ret3
        exact ⟨hXw, .inr ⟨HV.out, b, m1, rv, v', S, _, by omega, rfl, by rw [HKL.out, HXK.out]; exact HFIN.out, by rw [HKL.out, HXK.out]; exact hO'.out⟩⟩
  · have HV := Lib.hid hv
    have hvn : (validS s != 0) = true := by simpa using hv
    clear hv
    go_wp2_with fail
    refine HN.out.mono ?_; rintro e w1 ⟨hx1, ⟨h0, rfl⟩ | ⟨h0, _⟩⟩
    rotate_left
    · exact absurd h0 HV.out
    go_wp2_with fail
    go_ret3
    exact ⟨hEA.trans hx1, .inl ⟨HV.out, rfl⟩⟩
end Go.Proofs.YtpmlcfgbfhgpgaaGreatDoor
