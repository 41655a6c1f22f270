/- Merge of both packages; comparing lists of texts. -/
import Derived.Test.YtpmlcfgbfhgpgaaGreatDoorBkG
namespace Go.Proofs.YtpmlcfgbfhgpgaaGreatDoor
open Go.RowKit Go.Shelf
set_option linter.unusedVariables false

def diffK (L M : List ByteArray) : Option Nat := (List.range (min L.length M.length)).find? (fun j => decide (L[j]? ≠ M[j]?))
theorem diffK_some {L M : List ByteArray} {k : Nat} (h1 : k < L.length) (h2 : k < M.length) (hn : L[k] ≠ M[k]) (h : ∀ j, j < k → L[j]? = M[j]?) : diffK L M = some k := by
  unfold diffK
  rw [List.find?_range_eq_some]
  refine ⟨?_, List.mem_range.2 (by omega), fun j hj => by simpa using h j hj⟩
  simp only [List.getElem?_eq_getElem h1, List.getElem?_eq_getElem h2]
  simpa using hn
theorem diffK_none {L M : List ByteArray} (h : ∀ j, j < min L.length M.length → L[j]? = M[j]?) : diffK L M = none := by
  unfold diffK
  rw [List.find?_range_eq_none]
  intro j hj; simpa using h j hj
/-- what Merge answers -/
def mergeV (a b : ByteArray) : Value :=
  let L := readOrders (txt a); let M := readOrders (txt b)
  if (readB (txt a)).2 ≠ [] ∨ (readB (txt b)).2 ≠ [] then .tuple #[.string ⟨#[]⟩, .int .i64 0, .int .i64 10] else
  match diffK L M with
  | some k => .tuple #[.string ⟨#[]⟩, .int .i64 k, .int .i64 7]
  | none => if L.length < M.length then .tuple #[.string b, .int .i64 M.length, .int .i64 0] else .tuple #[.string a, .int .i64 L.length, .int .i64 0]
theorem readOrders_len (bk : Bs) : (readOrders bk).length ≤ 100 := by
  unfold readOrders readB; rw [List.length_map]; exact (readF_sound 100 0 bk).2.2
theorem rest_empty (l : Bs) : ((ofBs l).toList == []) = decide (l = []) := by
  rw [byt, show (ofBs l).data.toList = l from txt_of l, Bool.eq_iff_iff]; simp
theorem neq_txt (x y : ByteArray) : (x.toList == y.toList) = decide (x = y) := by
  rw [byt, byt, Bool.eq_iff_iff, beq_iff_eq, decide_eq_true_eq]
  exact ⟨fun h => ByteArray.ext (Array.toList_inj.1 h), fun h => by rw [h]⟩

set_option maxHeartbeats 2000000 in
theorem sameTexts_c (va vb : Value) (L : List ByteArray) (w : World) (ha : Strs w va L) (hb : Strs w vb L) :
    Calls Tryz.prog 41 #[va, vb] w (RQ true w) := by
  obtain ⟨aa, ca, rfl, hla, hma, Hca⟩ := ha.at_
  obtain ⟨ab, cb, rfl, hlb, hmb, Hcb⟩ := hb.at_
  clear ha hb
  go_enter Tryz.func41, Tryz.ntmps41
  go_wp2_with fail
  go_loopg [5] L.length (fun m i wr => ∃ k : Nat, k ≤ L.length ∧ L.length ≤ k + m ∧ i = .int .i64 k ∧ (∃ n, wr = w.drewN n))
  case atStart => exact ⟨0, by omega, by omega, rfl, ⟨0, rfl⟩⟩
  case round =>
    obtain ⟨k, hk, hk2, rfl, ⟨nd, hwr⟩⟩ := hrel
    have hwx : Ext w wr := by rw [hwr]; exact Ext.drewN _ _
    have HW := Lib.hid hwr; clear hwr
    by_cases hlt : k < L.length
    · obtain ⟨ba, oa, rfl, hc1⟩ := Hca.out k hlt
      obtain ⟨bb, ob, rfl, hc2⟩ := Hcb.out k hlt
      replace hc1 := hwx.keep hc1
      replace hc2 := hwx.keep hc2
      generalize L[k] = x at *
      have hn : (x.toList == x.toList) = true := by simp
      go_wp2_with fail
      go_quiet (fail)
      go_wp2_with fail
      go_roundg (gk-1)
      case measure => omega
      case rel => exact ⟨k+1, by omega, by omega, by go_num, ⟨_, by rw [HW.out, World.drewN_drewN]⟩⟩
    · go_wp2_with fail
      go_ret
      exact RQ.mkV (n := nd) rfl HW.out

set_option maxHeartbeats 4000000 in
set_option maxRecDepth 100000 in
theorem Merge_c (a b : ByteArray) (w : World) (hE : Env w) (ha : a.size ≤ 100000) (hb : b.size ≤ 100000) :
    Calls Tryz.prog 48 #[.string a, .string b] w (RV (mergeV a b) w) := by
  have HE := Lib.hid hE; clear hE
  have HA := Lib.hid (fun W (h : Ext w W) => Read_c a W (HE.out.ext h) (by omega))
  have HB := Lib.hid (fun W (h : Ext w W) => Read_c b W (HE.out.ext h) (by omega))
  have hla := readOrders_len (txt a)
  have hlb := readOrders_len (txt b)
  have HMV : Hid (mergeV a b = (let L := readOrders (txt a); let M := readOrders (txt b)
  if (readB (txt a)).2 ≠ [] ∨ (readB (txt b)).2 ≠ [] then .tuple #[.string ⟨#[]⟩, .int .i64 0, .int .i64 10] else
  match diffK L M with
  | some k => .tuple #[.string ⟨#[]⟩, .int .i64 k, .int .i64 7]
  | none => if L.length < M.length then .tuple #[.string b, .int .i64 M.length, .int .i64 0] else .tuple #[.string a, .int .i64 L.length, .int .i64 0])) := Lib.hid rfl
  have hra : ((readRest (txt a)).toList == []) = decide ((readB (txt a)).2 = []) := rest_empty _
  have hrb : ((readRest (txt b)).toList == []) = decide ((readB (txt b)).2 = []) := rest_empty _
  generalize mergeV a b = V at *
  generalize readRest (txt a) = ra at *
  generalize readRest (txt b) = rb at *
  generalize (readB (txt a)).2 = qa at *
  generalize (readB (txt b)).2 = qb at *
  generalize readOrders (txt a) = L at *
  generalize readOrders (txt b) = M at *
  by_cases hqa : qa = []
  · rw [decide_eq_true hqa] at hra
    by_cases hqb : qb = []
    · rw [decide_eq_true hqb] at hrb
      have HV : Hid (V = match diffK L M with
        | some k => .tuple #[.string ⟨#[]⟩, .int .i64 k, .int .i64 7]
        | none => if L.length < M.length then .tuple #[.string b, .int .i64 M.length, .int .i64 0] else .tuple #[.string a, .int .i64 L.length, .int .i64 0]) := Lib.hid (by
        rw [HMV.out]; simp only; rw [if_neg (by simp [hqa, hqb])])
      clear HMV hqa hqb
      go_enter Tryz.func48, Tryz.ntmps48
      go_wp2_with fail
      refine (HA.out w (Ext.refl w)).mono ?_; rintro e w1 ⟨va, rfl, hoa, hx1⟩
      go_wp2_with fail
      refine (HB.out w1 hx1).mono ?_; rintro e w2 ⟨vb, rfl, hob, hx2⟩
      obtain ⟨aa, ca, rfl, hla1, hma, Hca⟩ := (Strs.at_ (Cel.own encT_len (hoa.ext hx2)))
      obtain ⟨ab, cb, rfl, hlb1, hmb, Hcb⟩ := (Strs.at_ (Cel.own encT_len hob))
      clear hoa hob
      have hx3 := hx1.trans hx2
      go_wp2_with fail
      go_loopg [33] (min L.length M.length) (fun m i wr => ∃ k : Nat, k ≤ min L.length M.length ∧ k ≤ 100 ∧ min L.length M.length ≤ k + m ∧ i = .int .i64 k ∧ Ext w2 wr ∧ Hid (∀ j, j < k → L[j]? = M[j]?))
      case atStart => exact ⟨0, by omega, by omega, by omega, rfl, Ext.refl _, Lib.hid fun j hj => by omega⟩
      case round =>
        obtain ⟨k, hk, hk1, hk2, rfl, hwx, hE⟩ := hrel
        by_cases hlt : k < min L.length M.length
        · have h1 : k < L.length := by omega
          have h2 : k < M.length := by omega
          obtain ⟨ba, oa, rfl, hc1⟩ := Hca.out k h1
          obtain ⟨bb, ob, rfl, hc2⟩ := Hcb.out k h2
          replace hc1 := hwx.keep hc1
          replace hc2 := hwx.keep hc2
          generalize hx : L[k] = x at *
          generalize hy : M[k] = y at *
          have Hx := Lib.hid hx; have Hy := Lib.hid hy; clear hx hy
          by_cases hxy : x = y
          · subst hxy
            have hn : (x.toList == x.toList) = true := by simp
            go_wp2_with fail
            go_quiet (fail)
            go_wp2_with fail
            go_roundg (gk-1)
            case measure => omega
            case rel => exact ⟨k+1, by omega, by omega, by omega, by go_num, hwx.trans (Ext.drewN _ _), Lib.hid fun j hj => by
              by_cases e : j = k
              · subst e; rw [List.getElem?_eq_getElem h1, List.getElem?_eq_getElem h2, Hx.out, Hy.out]
              · exact hE.out j (by omega)⟩
          · have hn : (x.toList == y.toList) = false := by rw [neq_txt]; simpa using hxy
            have HK := Lib.hid (diffK_some h1 h2 (by rw [Hx.out, Hy.out]; exact hxy) hE.out)
            have HV2 : Hid (V = .tuple #[.string ⟨#[]⟩, .int .i64 k, .int .i64 7]) := Lib.hid (by rw [HV.out, HK.out])
            clear hxy HV HK
            go_wp2_with fail
            go_quiet (fail)
            go_wp2_with fail
            go_ret3
            exact ⟨by rw [HV2.out]; rfl, hx3.trans (hwx.trans (Ext.drewN _ _))⟩
        · have hke : k = min L.length M.length := by omega
          have HK := Lib.hid (diffK_none (L := L) (M := M) fun j hj => hE.out j (by omega))
          by_cases hlm : L.length < M.length
          · have HV2 : Hid (V = .tuple #[.string b, .int .i64 M.length, .int .i64 0]) := Lib.hid (by rw [HV.out, HK.out]; simp only; rw [if_pos hlm])
            go_wp2_with fail
            go_ret3
            exact ⟨by rw [HV2.out]; rfl, hx3.trans hwx⟩
          · have HV2 : Hid (V = .tuple #[.string a, .int .i64 L.length, .int .i64 0]) := Lib.hid (by rw [HV.out, HK.out]; simp only; rw [if_neg hlm])
            by_cases hme : M.length < L.length
            · go_wp2_with fail
              go_ret3
              exact ⟨by rw [HV2.out]; rfl, hx3.trans hwx⟩
            · go_wp2_with fail
              go_ret3
              exact ⟨by rw [HV2.out]; rfl, hx3.trans hwx⟩
    · rw [decide_eq_false hqb] at hrb
      have HV : Hid (V = .tuple #[.string ⟨#[]⟩, .int .i64 0, .int .i64 10]) := Lib.hid (by
        rw [HMV.out]; simp only; rw [if_pos (by simp [hqb])])
      clear HMV hqa hqb
      go_enter Tryz.func48, Tryz.ntmps48
      go_wp2_with fail
      refine (HA.out w (Ext.refl w)).mono ?_; rintro e w1 ⟨va, rfl, hoa, hx1⟩
      go_wp2_with fail
      refine (HB.out w1 hx1).mono ?_; rintro e w2 ⟨vb, rfl, hob, hx2⟩
      go_wp2_with fail
      go_ret3
      exact ⟨by rw [HV.out]; rfl, hx1.trans hx2⟩
  · rw [decide_eq_false hqa] at hra
    have HV : Hid (V = .tuple #[.string ⟨#[]⟩, .int .i64 0, .int .i64 10]) := Lib.hid (by
      rw [HMV.out]; simp only; rw [if_pos (by simp [hqa])])
    clear HMV hqa
    go_enter Tryz.func48, Tryz.ntmps48
    go_wp2_with fail
    refine (HA.out w (Ext.refl w)).mono ?_; rintro e w1 ⟨va, rfl, hoa, hx1⟩
    go_wp2_with fail
    refine (HB.out w1 hx1).mono ?_; rintro e w2 ⟨vb, rfl, hob, hx2⟩
    go_wp2_with fail
    go_ret3
    exact ⟨by rw [HV.out]; rfl, hx1.trans hx2⟩

set_option maxHeartbeats 4000000 in
set_option maxRecDepth 100000 in
theorem rMerge_c (a b : ByteArray) (w : World) (hE : Env w) (ha : a.size ≤ 100000) (hb : b.size ≤ 100000) :
    Calls Tryz.prog 49 #[.string a, .string b] w (RV (mergeV a b) w) := by
  have HE := Lib.hid hE; clear hE
  have HA := Lib.hid (fun W (h : Ext w W) => rRead_c a W (HE.out.ext h) (by omega))
  have HB := Lib.hid (fun W (h : Ext w W) => rRead_c b W (HE.out.ext h) (by omega))
  have hla := readOrders_len (txt a)
  have hlb := readOrders_len (txt b)
  have HMV : Hid (mergeV a b = (let L := readOrders (txt a); let M := readOrders (txt b)
  if (readB (txt a)).2 ≠ [] ∨ (readB (txt b)).2 ≠ [] then .tuple #[.string ⟨#[]⟩, .int .i64 0, .int .i64 10] else
  match diffK L M with
  | some k => .tuple #[.string ⟨#[]⟩, .int .i64 k, .int .i64 7]
  | none => if L.length < M.length then .tuple #[.string b, .int .i64 M.length, .int .i64 0] else .tuple #[.string a, .int .i64 L.length, .int .i64 0])) := Lib.hid rfl
  have hra : ((readRest (txt a)).toList == []) = decide ((readB (txt a)).2 = []) := rest_empty _
  have hrb : ((readRest (txt b)).toList == []) = decide ((readB (txt b)).2 = []) := rest_empty _
  generalize mergeV a b = V at *
  generalize readRest (txt a) = ra at *
  generalize readRest (txt b) = rb at *
  generalize (readB (txt a)).2 = qa at *
  generalize (readB (txt b)).2 = qb at *
  generalize readOrders (txt a) = L at *
  generalize readOrders (txt b) = M at *
  by_cases hqa : qa = []
  · rw [decide_eq_true hqa] at hra
    by_cases hqb : qb = []
    · rw [decide_eq_true hqb] at hrb
      have HV : Hid (V = match diffK L M with
        | some k => .tuple #[.string ⟨#[]⟩, .int .i64 k, .int .i64 7]
        | none => if L.length < M.length then .tuple #[.string b, .int .i64 M.length, .int .i64 0] else .tuple #[.string a, .int .i64 L.length, .int .i64 0]) := Lib.hid (by
        rw [HMV.out]; simp only; rw [if_neg (by simp [hqa, hqb])])
      clear HMV hqa hqb
      go_enter Tryz.func49, Tryz.ntmps49
      go_wp2_with fail
      refine (HA.out w (Ext.refl w)).mono ?_; rintro e w1 ⟨va, rfl, hoa, hx1⟩
      go_wp2_with fail
      refine (HB.out w1 hx1).mono ?_; rintro e w2 ⟨vb, rfl, hob, hx2⟩
      obtain ⟨aa, ca, rfl, hla1, hma, Hca⟩ := (Strs.at_ (Cel.own encT_len (hoa.ext hx2)))
      obtain ⟨ab, cb, rfl, hlb1, hmb, Hcb⟩ := (Strs.at_ (Cel.own encT_len hob))
      clear hoa hob
      have hx3 := hx1.trans hx2
      go_wp2_with fail
      go_loopg [11] (min L.length M.length) (fun m i wr => ∃ k : Nat, k ≤ min L.length M.length ∧ k ≤ 100 ∧ min L.length M.length ≤ k + m ∧ i = .int .i64 k ∧ Ext w2 wr ∧ Hid (∀ j, j < k → L[j]? = M[j]?))
      case atStart => exact ⟨0, by omega, by omega, by omega, rfl, Ext.refl _, Lib.hid fun j hj => by omega⟩
      case round =>
        obtain ⟨k, hk, hk1, hk2, rfl, hwx, hE⟩ := hrel
        by_cases hlt : k < min L.length M.length
        · have h1 : k < L.length := by omega
          have h2 : k < M.length := by omega
          obtain ⟨ba, oa, rfl, hc1⟩ := Hca.out k h1
          obtain ⟨bb, ob, rfl, hc2⟩ := Hcb.out k h2
          replace hc1 := hwx.keep hc1
          replace hc2 := hwx.keep hc2
          generalize hx : L[k] = x at *
          generalize hy : M[k] = y at *
          have Hx := Lib.hid hx; have Hy := Lib.hid hy; clear hx hy
          by_cases hxy : x = y
          · subst hxy
            have hn : (x.toList == x.toList) = true := by simp
            go_wp2_with fail
            go_quiet (fail)
            go_wp2_with fail
            go_roundg (gk-1)
            case measure => omega
            case rel => exact ⟨k+1, by omega, by omega, by omega, by go_num, hwx.trans (Ext.drewN _ _), Lib.hid fun j hj => by
              by_cases e : j = k
              · subst e; rw [List.getElem?_eq_getElem h1, List.getElem?_eq_getElem h2, Hx.out, Hy.out]
              · exact hE.out j (by omega)⟩
          · have hn : (x.toList == y.toList) = false := by rw [neq_txt]; simpa using hxy
            have HK := Lib.hid (diffK_some h1 h2 (by rw [Hx.out, Hy.out]; exact hxy) hE.out)
            have HV2 : Hid (V = .tuple #[.string ⟨#[]⟩, .int .i64 k, .int .i64 7]) := Lib.hid (by rw [HV.out, HK.out])
            clear hxy HV HK
            go_wp2_with fail
            go_quiet (fail)
            go_wp2_with fail
            go_ret3
            exact ⟨by rw [HV2.out]; rfl, hx3.trans (hwx.trans (Ext.drewN _ _))⟩
        · have hke : k = min L.length M.length := by omega
          have HK := Lib.hid (diffK_none (L := L) (M := M) fun j hj => hE.out j (by omega))
          by_cases hlm : L.length < M.length
          · have HV2 : Hid (V = .tuple #[.string b, .int .i64 M.length, .int .i64 0]) := Lib.hid (by rw [HV.out, HK.out]; simp only; rw [if_pos hlm])
            go_wp2_with fail
            go_ret3
            exact ⟨by rw [HV2.out]; rfl, hx3.trans hwx⟩
          · have HV2 : Hid (V = .tuple #[.string a, .int .i64 L.length, .int .i64 0]) := Lib.hid (by rw [HV.out, HK.out]; simp only; rw [if_neg hlm])
            by_cases hme : M.length < L.length
            · go_wp2_with fail
              go_ret3
              exact ⟨by rw [HV2.out]; rfl, hx3.trans hwx⟩
            · go_wp2_with fail
              go_ret3
              exact ⟨by rw [HV2.out]; rfl, hx3.trans hwx⟩
    · rw [decide_eq_false hqb] at hrb
      have HV : Hid (V = .tuple #[.string ⟨#[]⟩, .int .i64 0, .int .i64 10]) := Lib.hid (by
        rw [HMV.out]; simp only; rw [if_pos (by simp [hqb])])
      clear HMV hqa hqb
      go_enter Tryz.func49, Tryz.ntmps49
      go_wp2_with fail
      refine (HA.out w (Ext.refl w)).mono ?_; rintro e w1 ⟨va, rfl, hoa, hx1⟩
      go_wp2_with fail
      refine (HB.out w1 hx1).mono ?_; rintro e w2 ⟨vb, rfl, hob, hx2⟩
      go_wp2_with fail
      go_ret3
      exact ⟨by rw [HV.out]; rfl, hx1.trans hx2⟩
  · rw [decide_eq_false hqa] at hra
    have HV : Hid (V = .tuple #[.string ⟨#[]⟩, .int .i64 0, .int .i64 10]) := Lib.hid (by
      rw [HMV.out]; simp only; rw [if_pos (by simp [hqa])])
    clear HMV hqa
    go_enter Tryz.func49, Tryz.ntmps49
    go_wp2_with fail
    refine (HA.out w (Ext.refl w)).mono ?_; rintro e w1 ⟨va, rfl, hoa, hx1⟩
    go_wp2_with fail
    refine (HB.out w1 hx1).mono ?_; rintro e w2 ⟨vb, rfl, hob, hx2⟩
    go_wp2_with fail
    go_ret3
    exact ⟨by rw [HV.out]; rfl, hx1.trans hx2⟩
end Go.Proofs.YtpmlcfgbfhgpgaaGreatDoor
