/- The learned rules of a school. -/
import Derived.Test.YtpmlcfgbfhgpgaaGreatDoorStR
namespace Go.Proofs.YtpmlcfgbfhgpgaaGreatDoor
open Go.RowKit Go.Shelf
set_option linter.unusedVariables false
structure RlC where
 f : Int
 t : Value
 l : Value
 r : Value
def encR (x : RlC) : List Value := [.int .i64 x.f, x.t, x.l, x.r]
theorem encR_len (x : RlC) : (encR x).length = 4 := rfl
theorem elRul : ElTy Tryz.prog 22 70 4 80 (.agg #[.int .i64 0, .slice none 0 0, .slice none 0 0, .slice none 0 0]) := ⟨Tryz.underlying22, by kernel_rfl, rfl, by omega⟩
def RsOk (w : World) (RS : List RlC) (s : List Rul) : Prop := RS.length = s.length ∧ ∀ (i : Nat) (x : RlC), RS[i]? = some x → x.f = (rulAt s i).f ∧ RulR w x.t x.l x.r (rulAt s i)
theorem RsOk.ext {w w' : World} {RS : List RlC} {s : List Rul} (h : RsOk w RS s) (hx : Ext w w') : RsOk w' RS s := ⟨h.1, fun i x hi => ⟨(h.2 i x hi).1, (h.2 i x hi).2.ext hx⟩⟩
theorem RsOk.snoc {w : World} {RS : List RlC} {s : List Rul} {y : RlC} {z : Rul} (h : RsOk w RS s) (hf : y.f = z.f) (hr : RulR w y.t y.l y.r z) : RsOk w (RS ++ [y]) (s ++ [z]) := by
 refine ⟨by simp [h.1], fun i x hi => ?_⟩
 unfold rulAt
 rcases Nat.lt_trichotomy i RS.length with hl | hl | hl
 ·rw [List.getElem?_append_left hl] at hi
  rw [List.getElem?_append_left (by rw [← h.1]; exact hl)]
  exact h.2 i x hi
 ·rw [hl, List.getElem?_append_right (Nat.le_refl _), Nat.sub_self] at hi
  injection hi with hi; subst hi
  rw [hl, h.1, List.getElem?_append_right (Nat.le_refl _), Nat.sub_self]
  exact ⟨hf, hr⟩
 ·rw [List.getElem?_eq_none (by simp; omega)] at hi; cases hi
theorem Ruls.of_cel {w : World} {v : Value} {RS : List RlC} {s : List Rul} (h : Cel encR 4 w v RS) (hk : RsOk w RS s) : Ruls w v s := by
 obtain ⟨a, c, hv, h1, h2, H⟩ := h.open_
 refine ⟨a, c, by rw [hv, hk.1], by rw [← hk.1]; exact h1, by unfold maxLen; omega, fun i hi => ?_⟩
 have hi' : i < RS.length := by rw [hk.1]; exact hi
 obtain ⟨b, o, ha, hc⟩ := H.out i RS[i] (List.getElem?_eq_getElem hi')
 obtain ⟨hf, hr⟩ := hk.2 i RS[i] (List.getElem?_eq_getElem hi')
 refine ⟨b, o, ha, RS[i].t, RS[i].l, RS[i].r, ?_, hc 1 _ rfl, hc 2 _ rfl, hc 3 _ rfl, hr⟩
 rw [← hf]; exact hc 0 _ rfl
set_option maxHeartbeats 2000000 in
set_option maxRecDepth 100000 in
theorem system_c (b : Nat) (rv : Value) (v : SV) (x : St) (s : List Rul) (w : World) (hb : w.cell? ⟨b, 2, none⟩ = some rv) (hr : Ruls w rv s) (hs : StR w v x) (hk : ∀ k ∈ x.kn, 0 ≤ k ∧ k < s.length) (hkl : x.kn.length ≤ 100) :
  Calls Tryz.prog 109 #[.pointer (some ⟨b, 0, none⟩), .agg (v.cells x).toArray] w fun e w' => ∃ u, e = .returned u ∧ Ruls w' u (sysL s x) ∧ Ext w w' := by
 obtain ⟨a, c, rfl, h1, h2, H⟩ := hr.lit
 obtain ⟨ak, ck, hkn, h1k, h2k, HK⟩ := hs.kn.open_
 obtain ⟨vkn, vgr, vb, vw, vs, vf, vo⟩ := v
 simp only at hkn
 subst hkn
 have hbox := Blk.alloc w #[.slice ak x.kn.length ck, vgr, .bool x.has, vb, vw, vs, vf, vo] 106
 have hX0 := Ext.alloc w (.cells #[.slice ak x.kn.length ck, vgr, .bool x.has, vb, vw, vs, vf, vo] 106)
 have hb2 := hX0.keep hb
 clear hr hs
 simp only [SV.cells]
 go_enter Tryz.func109, Tryz.ntmps109
 go_upto_region 1 with fail
 generalize w.alloc (.cells #[.slice ak x.kn.length ck, vgr, .bool x.has, vb, vw, vs, vf, vo] 106) = w0 at *
 have c0 := hbox.cell (i := 0) rfl
 go_wp2_with fail
 go_loopg [11, 5] x.kn.length (fun m i u wr => ∃ (k : Nat) (RS : List RlC), k ≤ x.kn.length ∧ x.kn.length ≤ k + m ∧ i = .int .i64 k ∧ Ext w0 wr ∧ OCel encR 4 70 wr w0.heap.size u RS ∧ Hid (RsOk w0 RS ((x.kn.take k).map fun q => rulAt s q.toNat)))
 case atStart => exact ⟨0, [], by omega, by omega, rfl, Ext.refl _, OCel.nil _ _ _ _ _, Lib.hid ⟨rfl, fun i x h => by cases h⟩⟩
 case round =>
  obtain ⟨k, RS, hk1, hk2, rfl, hX, hown, hRS⟩ := hrel
  by_cases hlt : k < x.kn.length
  ·obtain ⟨n, hn⟩ : ∃ n : Nat, x.kn[k] = (n : Int) := ⟨x.kn[k].toNat, by have := (hk _ (List.getElem_mem hlt)).1; omega⟩
   have hns : n < s.length := by have := (hk _ (List.getElem_mem hlt)).2; omega
   obtain ⟨bk, ok, rfl, hck⟩ := HK.out k hlt
   rw [List.getElem?_eq_getElem hlt, Option.getD_some, hn] at hck
   obtain ⟨b1, o1, rfl, ta, tc, la, lc, ra, rc, d0, d1, d2, d3, hrr⟩ := H.out n hns
   have HN := Lib.hid hn; clear hn
   have hXw := hX0.trans hX
   replace hck := hXw.keep hck
   replace d0 := hXw.keep d0
   replace d1 := hXw.keep d1
   replace d2 := hXw.keep d2
   replace d3 := hXw.keep d3
   replace hb2 := hX.keep hb2
   have HRR := Lib.hid (hrr.ext hX0); clear hrr
   generalize hru : rulAt s n = y at *
   have HRU := Lib.hid hru; clear hru
   have hRSl : RS.length = k := by rw [hRS.out.1, List.length_map, List.length_take]; omega
   obtain ⟨ua, uc, rfl, hu1, hu2, _⟩ := (Cel.own encR_len hown).open_
   have hs2 := hX.size
   go_wp2_with (at_builtin; refine wpList_appendS (enc := encR) (L := RS) (⟨y.f, .slice ta y.t.length tc, .slice la y.l.length lc, .slice ra y.r.length rc⟩ : RlC) elRul rfl _ _ rfl rfl rfl hown rfl rfl rfl (by intro u hu; simp only [encR, List.mem_cons, List.not_mem_nil, or_false] at hu; rcases hu with rfl | rfl | rfl | rfl <;> rfl) hs2 (by omega) (by omega) ?_; intro v' w' hown2 hb2' hg2 hn2)
   go_roundg (gk-1)
   case measure => omega
   case rel =>
    have hX' := hX.rowGrown hown hg2
    refine ⟨k + 1, _, by omega, by omega, by go_num, hX', hown2, Lib.hid ?_⟩
    rw [List.take_add_one, List.getElem?_eq_getElem hlt, Option.toList_some, List.map_append, List.map_cons, List.map_nil, HN.out, show ((n : Int)).toNat = n from rfl, HRU.out]
    exact hRS.out.snoc rfl HRR.out
  ·obtain rfl : k = x.kn.length := by omega
   rw [List.take_length] at hRS
   have HF := Lib.hid (Ruls.of_cel (Cel.own encR_len hown) (hRS.out.ext hX))
   go_wp2_with fail
   go_ret
   exact ⟨_, rfl, HF.out, hX0.trans hX⟩
end Go.Proofs.YtpmlcfgbfhgpgaaGreatDoor
