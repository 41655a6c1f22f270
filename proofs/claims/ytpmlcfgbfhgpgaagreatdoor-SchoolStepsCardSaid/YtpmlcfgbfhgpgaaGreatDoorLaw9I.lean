/- Run of a school. -/
import Derived.Test.YtpmlcfgbfhgpgaaGreatDoorLaw9H
namespace Go.Proofs.YtpmlcfgbfhgpgaaGreatDoor
open Go.RowKit Go.Shelf
set_option linter.unusedVariables false

/-- the answers to orders -/
def errsS (s : List Rul) (x : St) : List ByteArray → List Int
  | [] => []
  | t :: ts => (doS s x t).2 :: errsS s (doS s x t).1 ts
theorem errsS_append (s : List Rul) (x : St) (a b : List ByteArray) : errsS s x (a ++ b) = errsS s x a ++ errsS s (runS s x a) b := by
  induction a generalizing x with
  | nil => rfl
  | cons t a ih => simp [errsS, runS, ih]
theorem errsS_len (s : List Rul) (x : St) (a : List ByteArray) : (errsS s x a).length = a.length := by
  induction a generalizing x with
  | nil => rfl
  | cons t a ih => simp [errsS, ih]
theorem errsS_at (s : List Rul) (x : St) (a : List ByteArray) {k : Nat} {t : ByteArray} (h : a[k]? = some t) : (errsS s x a)[k]? = some (doS s (runS s x (a.take k)) t).2 := by
  induction a generalizing x k with
  | nil => cases h
  | cons u a ih =>
    cases k with
    | zero => injection h with h; subst h; rfl
    | succ k => exact ih (doS s x u).1 h
theorem ownsRow_keep {b : Nat} {w w' : World} {B size n : Nat} {e : TypeId} {v : Value} {xs : List Value} (h : w.ownsRow B e size v n xs) (hx : ExtX (one b) w w') (hb : b < B) : w'.ownsRow B e size v n xs := by
  obtain ⟨h0, h | ⟨g, cap, cur, h1, h2, h3, h4⟩⟩ := h
  · exact ⟨h0, .inl h⟩
  · refine ⟨h0, .inr ⟨g, cap, cur, h1, h2, ?_, h4⟩⟩
    have hg : g < w.heap.size := by
      rcases Nat.lt_or_ge g w.heap.size with hl | hl
      · exact hl
      · rw [Array.getElem?_eq_none hl] at h3; cases h3
    rw [hx.block g hg (by simp [one]; omega)]
    exact h3
def encZ (n : Int) : List Value := [.int .i64 n]
theorem encZ_len (n : Int) : (encZ n).length = 1 := rfl
theorem ownsRow_lt {w : World} {B size n : Nat} {e : TypeId} {v : Value} {xs : List Value} (h : w.ownsRow B e size v n xs) {r : Nat} (hr : v.ownBlock = some r) : B ≤ r ∧ r < w.heap.size := by
  obtain ⟨h0, h | ⟨g, cap, cur, h1, h2, h3, h4⟩⟩ := h
  · rw [h.1] at hr; cases hr
  · rw [h1] at hr
    injection hr with hr
    subst hr
    refine ⟨h2, ?_⟩
    rcases Nat.lt_or_ge g w.heap.size with hl | hl
    · exact hl
    · rw [Array.getElem?_eq_none hl] at h3; cases h3
/-- a school stays while an own row beside it grows: the row's block is a hole -/
theorem SchB.row {S : Nat → Bool} {b : Nat} {m0 m1 rv : Value} {v : SV} {x : St} {s : List Rul} {w w' : World} {o o' : Option Nat} (h : SchB S b m0 m1 rv v x s w) (hg : w.grownBy w' o)
    (hS : ∀ r, o = some r → S r = true ∧ r ≠ b) (hn : ∀ r, o' = some r → o = some r ∨ w.heap.size ≤ r) (hl : ∀ r, o' = some r → r < w'.heap.size) :
    ∃ S', (∀ r, o' = some r → S' r = true) ∧ SchB S' b m0 m1 rv v x s w' := by
  have hX : ExtX (fun k => decide (o = some k)) w w' := ⟨hg.os, hg.tape, hg.output, hg.size, fun k hk hr => hg.block k hk (by simpa [eq_comm] using hr)⟩
  have hb : Blk w' b 108 (m0 :: m1 :: rv :: v.cells x) := by
    have h1 := h.hb
    unfold Blk at h1 ⊢
    rw [hg.block b h.hb.lt (fun e => (hS b e.symm).2 rfl)]
    exact h1
  have key : ∀ S' : Nat → Bool, (∀ k, S k = true → S' k = true) → (∀ k, S' k = true → S k = true ∨ (w.heap.size ≤ k ∧ k < w'.heap.size)) → SchB S' b m0 m1 rv v x s w' := fun S' h1 h2 => by
    have hh : Ext (hole S w) (hole S' w') := hX.hole (fun k hk => (hS k (by simpa using hk)).1) h1 (fun k hk => by
      rcases h2 k hk with h | h
      · exact .inl h
      · exact .inr h.1)
    exact ⟨h1 b h.hSb, fun k hk => by
      rcases h2 k hk with h3 | h3
      · exact Nat.lt_of_lt_of_le (h.hSl k h3) hg.size
      · exact h3.2, hb, h.hr.ext hh, h.hs.ext hh, h.hI⟩
  cases o' with
  | none => exact ⟨S, (fun r hr => by cases hr), key S (fun _ h => h) (fun _ h => .inl h)⟩
  | some g =>
    refine ⟨Go.Proofs.YtpmlcfgbfhgpgaaGreatDoor.more S g, (fun r hr => by injection hr with hr; subst hr; exact more_self S g), key _ (fun k hk => more_in hk) (fun k hk => ?_)⟩
    rcases more_or hk with hk | hk
    · exact .inl hk
    · subst hk
      rcases hn k rfl with h1 | h1
      · exact .inl (hS k h1).1
      · exact .inr ⟨h1, hl k rfl⟩
theorem elErrno : ElTy Tryz.prog 50 32 1 8 (.int .i64 0) := ⟨Tryz.underlying50, by kernel_rfl, rfl, by omega⟩
/-- what Run answers -/
def RRun (s : List Rul) (L : List ByteArray) (w : World) (e : Ending) (w' : World) : Prop :=
  Ext w w' ∧ ((validS s ≠ 0 ∧ e = .returned (.tuple #[.slice none 0 0, .string ⟨#[]⟩, .int .i64 (validS s)])) ∨
   (validS s = 0 ∧ 100 < L.length ∧ e = .returned (.tuple #[.slice none 0 0, .string ⟨#[]⟩, .int .i64 3])) ∨
   (validS s = 0 ∧ ¬ 100 < L.length ∧ ∃ u, e = .returned (.tuple #[u, .string ⟨(bookB (runS s st0 L).orders).toArray⟩, .int .i64 0]) ∧ OCel encZ 1 32 w' w.heap.size u (errsS s st0 L)))

set_option maxHeartbeats 8000000 in
set_option maxRecDepth 100000 in
theorem Run_c (v u : Value) (s : List Rul) (L : List ByteArray) (w : World) (h : Ruls w v s) (hl : Strs w u L) (hE : Env w) (hT : ErrT w) (h7 : 7 ≤ w.heap.size) (hz : ∀ t ∈ L, t.size ≤ 400) :
    Calls Tryz.prog 36 #[v, u] w (RRun s L w) := by
  have HN := Lib.hid (New_c (fun _ => false) v s w (fun k hk => by cases hk) h)
  have HE := Lib.hid hE
  have HT := Lib.hid hT
  have HSZ := Lib.hid hz
  have HL := Lib.hid hl
  obtain ⟨av, cv, rfl, _⟩ := h.open_
  obtain ⟨au, cu, rfl, hc1, hc2, _⟩ := hl.open_
  clear h hE hT hz hl
  by_cases hv : validS s = 0
  · have HV := Lib.hid hv; clear hv
    by_cases hq : 100 < L.length
    · have HQ := Lib.hid hq
      go_enter Tryz.func36, Tryz.ntmps36
      go_wp2_with fail
      refine HN.out.mono ?_; rintro e w1 ⟨hx1, ⟨h0, _⟩ | ⟨_, b, m1, rv, v0, rfl, hbz, hSc⟩⟩
      · exact absurd HV.out h0
      go_wp2_with fail
      go_ret3
      exact ⟨hx1, .inr (.inl ⟨HV.out, HQ.out, rfl⟩)⟩
    · have HQ := Lib.hid hq
      go_enter Tryz.func36, Tryz.ntmps36
      go_wp2_with fail
      refine HN.out.mono ?_; rintro e w1 ⟨hx1, ⟨h0, _⟩ | ⟨_, b, m1, rv, v0, rfl, hbz, hSc⟩⟩
      · exact absurd HV.out h0
      have hb7 : 7 ≤ b := Nat.le_trans h7 hbz
      have hb1 : b < w1.heap.size := hSc.hb.lt
      have hu1 : Strs (hole (more (fun _ => false) b) w1) (.slice au L.length cu) L := HL.out.ext (hole_new hx1 (fun k hk => by
        rcases more_or hk with hk | hk
        · cases hk
        · omega))
      obtain ⟨au', cu', hul, _, _, HC2⟩ := Strs.at_ hu1
      injection hul with hul1 hul2 hul3
      subst hul1 hul3
      have HE1 := Lib.hid (HE.out.ext hx1)
      have HT1 := Lib.hid (HT.out.ext hx1)
      clear hu1 hul2
      go_wp2_with fail
      go_loopg [9, 25] L.length (fun m t9 i wr => ∃ (k : Nat) (v' : SV) (ar : Option Addr) (nr : Nat) (S : Nat → Bool), k ≤ L.length ∧ L.length ≤ k + m ∧ i = .int .i64 k ∧ t9 = .slice ar k nr ∧ OCel encZ 1 32 wr w1.heap.size (.slice ar k nr) (errsS s st0 (L.take k)) ∧ (∀ r, (Value.slice ar k nr).ownBlock = some r → S r = true) ∧ ExtX (one b) w1 wr ∧ SchF S b m1 rv v' (runS s st0 (L.take k)) s wr)
      case atStart => exact ⟨0, v0, _, _, _, by omega, by omega, rfl, rfl, OCel.nil _ _ _ _ _, (fun r hr => by cases hr), ExtX.refl _ _, hSc⟩
      case round =>
        obtain ⟨k, v', ar, nr, S, hk1, hk2, rfl, rfl, hO, hOS, hEr, hSr⟩ := hrel
        by_cases hlt : k < L.length
        · obtain ⟨bl, ol, ha2, hcl⟩ := HC2.out k hlt
          subst ha2
          have tl := hole_sub (more (fun _ => false) b) wr _ _ (hole_keep (more_self _ _) hEr _ _ hcl)
          have HDO := Lib.hid (Do_c hSr (HE1.out.extX hEr hb7) (HT1.out.extX hEr hb7) hb7 L[k] (by have := HSZ.out _ (List.getElem_mem hlt); omega))
          have HTK : Hid (L.take (k + 1) = L.take k ++ [L[k]]) := Lib.hid (by rw [List.take_add_one, List.getElem?_eq_getElem hlt]; rfl)
          generalize L[k] = tk at *
          have HRN : Hid (runS s st0 (L.take (k + 1)) = (doS s (runS s st0 (L.take k)) tk).1) := Lib.hid (by rw [HTK.out, runS_append]; rfl)
          have HEN : Hid (errsS s st0 (L.take (k + 1)) = errsS s st0 (L.take k) ++ [(doS s (runS s st0 (L.take k)) tk).2]) := Lib.hid (by rw [HTK.out, errsS_append]; rfl)
          have HLK : Hid ((errsS s st0 (L.take k)).length ≤ 1000) := Lib.hid (by rw [errsS_len, List.length_take]; omega)
          have HLK1 : Hid ((errsS s st0 (L.take k)).length = k) := Lib.hid (by rw [errsS_len, List.length_take]; omega)
          generalize doS s (runS s st0 (L.take k)) tk = R at *
          generalize errsS s st0 (L.take k) = EL at *
          obtain ⟨R1, R2⟩ := R
          have hbw : b < w1.heap.size := hb1
          have HEr := Lib.hid hEr
          go_wp2_with fail
          refine HDO.out.mono ?_; rintro e w5 ⟨he, hE5, v5, hB5⟩
          dsimp only at he
          subst he
          replace hO := ownsRow_keep hO hE5 hbw
          have hz5 := (HEr.out.trans hE5).size
          have HOS := Lib.hid hOS
          clear hOS
          go_wp2_with (at_builtin; refine wpList_appendS (enc := encZ) (L := EL) (v := .slice ar k nr) R2 elErrno rfl _ _ rfl rfl rfl hO rfl rfl rfl (by intro u hu; simp only [encZ, List.mem_cons, List.not_mem_nil, or_false] at hu; subst hu; rfl) hz5 (by have := HLK.out; omega) (by have := HLK.out; omega) ?_; intro v6 w6 hO6 hb6 hg6 hn6; obtain ⟨a6, c6, hv6, _⟩ := (Cel.own encZ_len hO6).open_; rw [List.length_append, List.length_singleton, HLK1.out] at hv6; subst hv6)
          obtain ⟨S6, hS6, hB6⟩ := SchB.row hB5 hg6 (fun r hr => ⟨HOS.out r hr, fun e => by have := (ownsRow_lt hO hr).1; omega⟩) hn6 (fun r hr => (ownsRow_lt hO6 hr).2)
          have hX6 : ExtX (one b) w1 w6 := (HEr.out.trans hE5).transN (R' := fun q => decide ((Value.slice ar k nr).ownBlock = some q)) ⟨hg6.os, hg6.tape, hg6.output, hg6.size, fun q hq hr => hg6.block q hq (by simpa [eq_comm] using hr)⟩ (fun q hq => .inr (ownsRow_lt hO (by simpa using hq)).1)
          go_roundg (gk-1)
          case measure => omega
          case rel => exact ⟨k + 1, v5, a6, c6, S6, by omega, by omega, by go_num, rfl, by rw [HEN.out]; exact hO6, hS6, hX6, by rw [HRN.out]; exact hB6⟩
        · obtain rfl : k = L.length := by omega
          rw [List.take_length] at hSr hO
          have HBK := Lib.hid (Book_c hSr (HE1.out.extX hEr hb7))
          go_wp2_with fail
          refine HBK.out.mono ?_; rintro e w5 ⟨rfl, hx5⟩
          go_wp2_with fail
          go_ret3
          exact ⟨(((hx1.toX (one b)).trans hEr).trans (hx5.toX _)).ext (fun k hk => by simp [one]; omega), .inr (.inr ⟨HV.out, HQ.out, _, rfl, (OCel.ext hO hx5).low hx1.size⟩)⟩
  · have HV := Lib.hid hv
    have hvn : (validS s != 0) = true := by simpa using hv
    clear hv
    go_enter Tryz.func36, Tryz.ntmps36
    go_wp2_with fail
    refine HN.out.mono ?_; rintro e w1 ⟨hx1, ⟨h0, rfl⟩ | ⟨h0, _⟩⟩
    rotate_left
    · exact absurd h0 HV.out
    go_wp2_with fail
    go_ret3
    exact ⟨hx1, .inl ⟨HV.out, rfl⟩⟩
end Go.Proofs.YtpmlcfgbfhgpgaaGreatDoor
