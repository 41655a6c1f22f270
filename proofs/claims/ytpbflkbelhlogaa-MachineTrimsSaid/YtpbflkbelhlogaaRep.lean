/- slices.Repeat of one number. -/
import Derived.Test.YtpbflkbelhlogaaBlk
import Derived.Test.YtpbflkbelhlogaaJoinedRowMachineTrims
import Derived.Shelf.Bits.Mul64
import Derived.Laws.CopyOwn
namespace Go.Proofs.Ytpbflkbelhlogaa
open Go.RowKit Go.Shelf
set_option linter.unusedVariables false

def mulRen : Go.Shelf.Ren := ⟨fun | 212 => 115 | 263 => 128 | 264 => 129 | n => n, fun | 46 => 129 | 51 => 143 | 53 => 145 | 146 => 146 | 148 => 148 | n => n, fun n => n⟩
theorem mulLays : Lays.n212 Try.prog mulRen := { mixed := by kernel_rfl, f212 := by kernel_rfl, f263 := by kernel_rfl, f264 := by kernel_rfl, t46 := by kernel_rfl, a46 := fun _ => by kernel_rfl, z46 := fun _ => by kernel_rfl, v46 := fun _ => by kernel_rfl, t51 := by kernel_rfl, a51 := fun _ => by kernel_rfl, z51 := fun _ => by kernel_rfl, v51 := fun _ => by kernel_rfl, t53 := by kernel_rfl, a53 := fun _ => by kernel_rfl, z53 := fun _ => by kernel_rfl, v53 := fun _ => by kernel_rfl, t146 := by kernel_rfl, a146 := fun _ => by kernel_rfl, z146 := fun _ => by kernel_rfl, v146 := fun _ => by kernel_rfl, t148 := by kernel_rfl, a148 := fun _ => by kernel_rfl, z148 := fun _ => by kernel_rfl, v148 := fun _ => by kernel_rfl }
theorem mul1_c (n : Nat) (hn : n ≤ 1000) (w : World) : Calls Try.prog 115 #[.int .u64 1, .int .u64 (n : Int)] w (RP (.tuple #[.int .u64 0, .int .u64 (n : Int)]) w) := by
  have h := Any.bits_Mul mulLays 1 n (by omega) (by omega) w
  have e1 : 1 * n / 18446744073709551616 = 0 := by omega
  have e2 : 1 * n % 18446744073709551616 = n := by omega
  rw [e1, e2] at h
  exact h.mono fun e w' ⟨h1, h2⟩ => ⟨h1, h2.symm⟩
def fillTo (n k : Nat) (x : Int) : List Int := List.replicate k x ++ List.replicate (n - k) 0
theorem fillTo_len {n k : Nat} {x : Int} (h : k ≤ n) : (fillTo n k x).length = n := by simp [fillTo]; omega
theorem fillTo_all (n : Nat) (x : Int) : fillTo n n x = List.replicate n x := by simp [fillTo]
theorem fillTo_splice {n k m : Nat} {x : Int} (h : k + m ≤ n) : splice ((fillTo n k x).map (Value.int .i64)) k ((List.replicate m x).map (Value.int .i64)) = (fillTo n (k + m) x).map (Value.int .i64) := by
  unfold splice fillTo
  simp only [List.map_append, List.map_replicate, List.length_replicate, List.take_append, List.drop_append, List.take_replicate, List.drop_replicate]
  rw [show k - k = 0 by omega, show k - (k + m) = 0 by omega]
  simp only [Nat.min_self, Nat.zero_min, List.replicate_zero, List.append_nil, List.nil_append]
  rw [← List.append_assoc, List.replicate_append_replicate]
  congr 2
  omega
theorem one_src {w : World} {a : Addr} {u : Value} (h : w.cell? a = some u) : ∀ (j : Nat) (v : Value), [u][j]? = some v → w.cell? (a.add j) = some v := fun j v hv => by
  cases j with
  | zero => simp at hv; subst hv; exact h
  | succ j => simp at hv
/-- a new row of one number comes back -/
def RRep (n : Nat) (x : Int) (w : World) (e : Ending) (w' : World) : Prop := ∃ g, e = .returned (.slice (some ⟨g, 0, none⟩) n n) ∧ BInts w' g (List.replicate n x) ∧ w.heap.size ≤ g ∧ Ext w w'
set_option maxHeartbeats 1000000 in
set_option maxRecDepth 100000 in
theorem repeat_c (b : Nat) (n : Nat) (x : Int) (w : World) (hc : w.cell? ⟨b, 0, none⟩ = some (.int .i64 x)) (h1 : 1 ≤ n) (h9 : n ≤ 100) : Calls Try.prog 106 #[.slice (some ⟨b, 0, none⟩) 1 1, .int .i64 (n : Int)] w (RRep n x w) := by
  have hd0 : decide ((n : Int) < 0) = false := by simp
  have hb := cell_lt hc
  have hz1 : decide ((n : Int) > 9223372036854775807) = false := by simp; omega
  go_enter Try.func106, Try.ntmps106
  go_wp2_with fail
  refine (mul1_c n (by omega) w).mono ?_; rintro e w1 ⟨rfl, rfl⟩
  have HFZ : Hid (∀ (W : World) (g : Nat), Blk W g 3 (List.replicate n (.int .i64 0)) → Blk W g 3 ((fillTo n 0 0).map (Value.int .i64))) := Lib.hid (fun W g h => by unfold fillTo; simpa using h)
  have HS0 : Hid (∀ v ∈ [Value.int .i64 x], v.oneCell' = true) := Lib.hid (fun v hv => by rw [List.mem_singleton] at hv; subst hv; rfl)
  have HL0 : Hid (0 + [Value.int .i64 x].length ≤ ((fillTo n 0 0).map (Value.int .i64)).length) := Lib.hid (by rw [List.length_map, fillTo_len (by omega)]; show 0 + 1 ≤ n; omega)
  have HM0 : Hid ([Value.int .i64 x].length = Nat.min 1 n) := Lib.hid (by show 1 = Nat.min 1 n; exact (Nat.min_eq_left h1).symm)
  have HC := Lib.hid hc
  go_wp2_with (first
    | (at_make; refine wpList_make_blkL n elInts rfl rfl _ _ rfl rfl rfl (by simp) (by omega) (by omega) ?_; intro g w2 hg hblk hx2 hg2; have hbk := HFZ.out w2 g hblk)
    | (refine wpList_copy_splice rfl (.tmp 31) (.tmp 32) 23 23 rfl 3 Try.underlying23 (by kernel_rfl) (some ⟨g, 0, none⟩) (some ⟨b, 0, none⟩) n n 1 1 rfl rfl g 0 ((fillTo n 0 0).map (Value.int .i64)) 3 hbk [.int .i64 x] HM0.out (fun _ => ⟨rfl, _, rfl, one_src (hx2.keep HC.out)⟩) HL0.out HS0.out w.heap.size w hx2 hg ?_; intro w3 hb3 hx3))
  have hbk3 : Blk w3 g 3 ((fillTo n 1 x).map (Value.int .i64)) := by
    have := hb3.out
    rw [show splice ((fillTo n 0 0).map (Value.int .i64)) 0 [Value.int .i64 x] = (fillTo n 1 x).map (Value.int .i64) by
      have := fillTo_splice (n := n) (k := 0) (m := 1) (x := x) (by omega)
      rw [show fillTo n 0 0 = fillTo n 0 x by simp [fillTo]]; simpa using this] at this
    exact this
  clear hb3 hbk hblk hg2 hx2 hc HS0 HL0 HM0
  go_loopg [8] n (fun z i wr => ∃ k : Nat, 1 ≤ k ∧ k ≤ n ∧ n ≤ k + z ∧ i = .int .i64 k ∧ Ext w wr ∧ Blk wr g 3 ((fillTo n k x).map (Value.int .i64)))
  case atStart => exact ⟨1, by omega, by omega, by omega, rfl, hx3, hbk3⟩
  case round =>
    clear hx3 hbk3
    obtain ⟨k, hk1, hk, hkz, rfl, hX, hbk⟩ := hrel
    by_cases hlt : k < n
    · have hle : k ≤ n := by omega
      have hne : ¬ n = k := by omega
      have hm : ∃ m, m = Nat.min k (n - k) ∧ 1 ≤ m ∧ k + m ≤ n := ⟨Nat.min k (n - k), rfl, by show 1 ≤ min k (n - k); omega, by show k + min k (n - k) ≤ n; omega⟩
      obtain ⟨m, hm1, hm2, hm3⟩ := hm
      have hlen : ((fillTo n k x).map (Value.int .i64)).length = n := by rw [List.length_map, fillTo_len hle]
      have hsrc : Hid (∀ (W : World), Blk W g 3 ((fillTo n k x).map (Value.int .i64)) → ∀ (j : Nat) (v : Value), ((List.replicate m x).map (Value.int .i64))[j]? = some v → W.cell? ((⟨g, 0, none⟩ : Addr).add j) = some v) := Lib.hid (fun W hW j v hv => by
        rw [addr_add, Nat.zero_add]
        refine Blk.cell hW ?_
        rw [List.map_replicate, List.getElem?_replicate] at hv
        split at hv
        · injection hv with hv; subst hv
          have hmk : m ≤ k := by rw [hm1]; exact Nat.min_le_left _ _
          unfold fillTo
          rw [List.getElem?_map, List.getElem?_append_left (by rw [List.length_replicate]; omega), List.getElem?_replicate, if_pos (by omega)]; rfl
        · cases hv)
      have HN : Hid (((List.replicate m x).map (Value.int .i64)).length = Nat.min k (n - k)) := Lib.hid (by rw [List.length_map, List.length_replicate]; exact hm1)
      have HF : Hid (k + ((List.replicate m x).map (Value.int .i64)).length ≤ ((fillTo n k x).map (Value.int .i64)).length) := Lib.hid (by rw [hlen, List.length_map, List.length_replicate]; exact hm3)
      have H1 : Hid (∀ v ∈ (List.replicate m x).map (Value.int .i64), v.oneCell' = true) := Lib.hid (fun v hv => by obtain ⟨y, _, rfl⟩ := List.mem_map.1 hv; rfl)
      have HM := Lib.hid hm1
      have HLM : Hid (((List.replicate m x).map (Value.int .i64)).length = m) := Lib.hid (by rw [List.length_map, List.length_replicate])
      have HB := Lib.hid hbk
      clear hm1 hbk hlen
      have hkI : (k : Int) ≤ (n : Int) := by omega
      have hwk : IntKind.i64.wrap ((k : Int) + (m : Int)) = (k : Int) + (m : Int) := IntWalk.i64_in _ (by omega)
      go_wp2_with fail
      refine wp_region_peek (fun _ => True) (fun _ => True) [] [.look 0, .look 1, .look 2, .look 3, .look 4, .look 5, .look 6, .go 7, .look 8, .look 9] (by kernel_rfl) (by kernel_rfl) (by intro c a d v w h; cases d <;> exact h) ?_
      have hd : Ext wr { wr with drawn := wr.drawn + 1 } := drawn_ext wr
      have hX1 := hX.trans hd
      have HB1 := Lib.hid (Blk.ext HB.out hd)
      have htr : True := trivial
      generalize { wr with drawn := wr.drawn + 1 } = W1 at *
      iterate 7 (refine wpPeek_look rfl ‹_› (fun K hK => ?_); go_simp; first | (refine hK _ ?_; clear hK K) | (refine ⟨_, fun _ => rfl, hK _ ?_⟩; clear hK K))
      refine wpPeek_go rfl rfl (fun K hK => ?_)
      refine wpList_copy_splice rfl (.tmp 41) (.tmp 44) 23 23 rfl 3 Try.underlying23 (by kernel_rfl) (some ⟨g, k, none⟩) (some ⟨g, 0, none⟩) (n - k) (n - k) k n rfl rfl g k ((fillTo n k x).map (Value.int .i64)) 3 HB1.out ((List.replicate m x).map (Value.int .i64)) HN.out (fun _ => ⟨rfl, _, rfl, hsrc.out W1 HB1.out⟩) HF.out H1.out w.heap.size w hX1 hg ?_
      intro w4 hb4 hx4
      have hb5 : Blk w4 g 3 ((fillTo n (k + m) x).map (Value.int .i64)) := by rw [← fillTo_splice hm3]; exact hb4.out
      rw [HLM.out]
      have HB5 := Lib.hid hb5
      clear hb4 hb5 hd
      go_wp2_with fail
      refine ⟨KeepE.of (fun h => h) (fun h => h), ?_⟩
      iterate 2 (refine wpPeek_look rfl ‹_› (fun K hK => ?_); go_simp; first | (refine hK _ ?_; clear hK K) | (refine ⟨_, fun _ => rfl, hK _ ?_⟩; clear hK K))
      refine wpPeek_nil ?_
      go_wp2_with fail
      go_roundg (gk-1)
      case measure => omega
      case rel => exact ⟨k + m, by omega, hm3, by omega, by go_num, hx4, HB5.out⟩
    · have hkn : k = n := by omega
      subst hkn
      rw [fillTo_all] at hbk
      have HB := Lib.hid hbk; clear hbk
      go_wp2_with fail
      go_ret
      exact ⟨g, rfl, HB.out, hg, hX⟩
end Go.Proofs.Ytpbflkbelhlogaa
