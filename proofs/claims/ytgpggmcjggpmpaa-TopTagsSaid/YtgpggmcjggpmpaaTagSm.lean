/- Lists of lists compared: SameLists of the reference. -/
import Derived.Test.YtgpggmcjggpmpaaTagE
namespace Go.Proofs.Ytgpggmcjggpmpaa
open Go.RowKit Go.Shelf
set_option linter.unusedVariables false

theorem lists_ext {a b : List (List Int)} (hl : a.length = b.length) (h : ∀ k, k < a.length → a[k]?.getD [] = b[k]?.getD []) : a = b := by
  refine List.ext_getElem hl fun k h1 h2 => ?_
  have := h k h1
  rwa [List.getElem?_eq_getElem h1, List.getElem?_eq_getElem h2, Option.getD_some, Option.getD_some] at this
set_option maxHeartbeats 1000000 in
theorem sameLists_c (va vb : Value) (a b : List (List Int)) (w : World) (ha : Rows w va a) (hb : Rows w vb b) : Calls Try.prog 19 #[va, vb] w (RV (.bool (decide (a = b))) w) := by
  obtain ⟨aa, ca, rfl, hla, hma, HA⟩ := Rows.open_ ha
  obtain ⟨ab, cb, rfl, hlb, hmb, HB⟩ := Rows.open_ hb
  obtain ⟨q, hq⟩ : ∃ q, decide (a = b) = q := ⟨_, rfl⟩
  rw [hq]
  have HQ := Lib.hid hq; clear hq ha hb
  by_cases hlen : a.length = b.length
  · have hd : ((a.length : Int) != (b.length : Int)) = false := by simp; omega
    have HE := Lib.hid (fun h => lists_ext hlen h)
    have hab : a.length ≤ b.length := by omega
    clear hlen
    go_enter Try.func19, Try.ntmps19
    go_wp2_with fail
    go_loopg [5] a.length (fun m i wr => ∃ k : Nat, k ≤ a.length ∧ a.length ≤ k + m ∧ i = .int .i64 k ∧ Ext w wr ∧ Hid (∀ j, j < k → a[j]?.getD [] = b[j]?.getD []))
    case atStart => exact ⟨0, by omega, by omega, rfl, Ext.refl _, Lib.hid (fun j hj => by omega)⟩
    case round =>
      obtain ⟨k, hk, hk2, rfl, hX, hE⟩ := hrel
      by_cases hlt : k < a.length
      · obtain ⟨ba, oa, rfl, u, hc1, hu⟩ := HA.out k hlt
        obtain ⟨bb, ob, rfl, v, hc2, hv⟩ := HB.out k (by omega)
        have HS := Lib.hid (fun W (hW : Ext w W) => same_v u v _ _ W (hu.ext hW) (hv.ext hW))
        replace hc1 := hX.keep hc1
        replace hc2 := hX.keep hc2
        have hkI : (k : Int) < (a.length : Int) := by omega
        have hkJ : (k : Int) < (b.length : Int) := by omega
        have q0 := fun s : Later wr => s.ext.keep hc1
        have q1 := fun s : Later wr => s.ext.keep hc2
        have HSS := Lib.hid (fun s : Later wr => HS.out s.w (hX.trans s.ext))
        clear hu hv HS
        by_cases he : a[k]?.getD [] = b[k]?.getD []
        · rw [decide_eq_true he] at HSS
          have HN : Hid (∀ j, j < k + 1 → a[j]?.getD [] = b[j]?.getD []) := Lib.hid (fun j hj => by
            by_cases e : j = k
            · subst e; exact he
            · exact hE.out j (by omega))
          clear he
          go_wp2_with fail
          refine wp_region_later (by kernel_rfl) (by kernel_rfl) ?_
          repeat (go_big_quiet_step ((first | (go_at_call 28; first | with_reducible exact Later.call (HSS.out _)))))
          refine wpQuiet_nil ?_
          intro w5 hw'
          obtain ⟨⟨_, hx5⟩, rfl⟩ := hw'
          clear q0 q1
          go_wp2_with fail
          go_roundg (gk-1)
          case measure => omega
          case rel => exact ⟨k+1, by omega, by omega, by go_num, hX.trans hx5, HN⟩
        · rw [decide_eq_false he] at HSS
          have HN : Hid (q = false) := Lib.hid (by rw [← HQ.out, decide_eq_false]; rintro rfl; exact he rfl)
          clear he
          go_wp2_with fail
          refine wp_region_later (by kernel_rfl) (by kernel_rfl) ?_
          repeat (go_big_quiet_step ((first | (go_at_call 28; first | with_reducible exact Later.call (HSS.out _)))))
          refine wpQuiet_nil ?_
          intro w5 hw'
          obtain ⟨⟨_, hx5⟩, rfl⟩ := hw'
          clear q0 q1
          go_wp2_with fail
          go_ret
          exact RV.bool (by rw [HN.out]) (hX.trans hx5)
      · have HN : Hid (q = true) := Lib.hid (by rw [← HQ.out, decide_eq_true]; exact HE.out (fun j hj => hE.out j (by omega)))
        go_wp2_with fail
        go_ret
        exact RV.bool (by rw [HN.out]) hX
  · have hd : ((a.length : Int) != (b.length : Int)) = true := by simp; omega
    have HN : Hid (q = false) := Lib.hid (by rw [← HQ.out, decide_eq_false]; rintro rfl; exact hlen rfl)
    clear hlen
    go_enter Try.func19, Try.ntmps19
    go_wp2_with fail
    go_ret
    exact RV.bool (by rw [HN.out]) (Ext.refl _)
end Go.Proofs.Ytgpggmcjggpmpaa
