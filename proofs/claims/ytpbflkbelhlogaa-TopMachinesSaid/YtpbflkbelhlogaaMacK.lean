/- A machine turned round, in new memory: the program. -/
import Derived.Test.YtpbflkbelhlogaaMacE
import Derived.Test.YtpbflkbelhlogaaMacS
import Derived.Test.YtpbflkbelhlogaaOSet
import Derived.Deep.CutRange
import Derived.Deep.CutBlock
namespace Go.Proofs.Ytpbflkbelhlogaa
open Go.RowKit Go.Shelf
set_option linter.unusedVariables false

/-! ## plain -/
def tA (a : Arc) : Arc := ⟨a.f, a.t, a.o, a.i⟩
def turnM (m : Mac) : Mac := ⟨m.s, m.a.map tA, m.e⟩
theorem tA_tA (a : Arc) : tA (tA a) = a := rfl
theorem turn_turn (m : Mac) : turnM (turnM m) = m := by
  unfold turnM
  simp only [List.map_map]
  rw [show tA ∘ tA = id from rfl, List.map_id]
theorem take_arcs {l : List Arc} {k : Nat} (h : k < l.length) (f : Arc → Arc) : (l.take (k + 1)).map f = (l.take k).map f ++ [f (arcA l k)] := by
  rw [take_next h ⟨0, 0, 0, 0⟩, List.map_append]; rfl

/-! ## blocks and rows that stay -/
theorem Blk.keptR {w w' : World} {B b n size : Nat} {ty e : TypeId} {us xs : List Value} {v : Value} (h : Blk w b ty us) (hne : ty ≠ e) (ho : w.ownsRow B e size v n xs) (hg : w.grownBy w' v.ownBlock) : Blk w' b ty us := by
  refine (hg.block b h.lt (fun e' => ?_)).trans h
  obtain ⟨cur, h1, _⟩ := ownBlock_cells ho b e'.symm
  unfold Blk at h
  rw [h] at h1
  injection h1 with h1
  injection h1 with _ h2 _
  exact hne h2
theorem row_keptR {w w' : World} {B n size B' n' size' : Nat} {e e' : TypeId} {xs ys : List Value} {v u : Value} (h : w.ownsRow B e size v n xs) (hne : e ≠ e') (ho : w.ownsRow B' e' size' u n' ys) (hg : w.grownBy w' u.ownBlock) : w'.ownsRow B e size v n xs := by
  refine World.ownsRow.kept h hg ?_
  cases hv : v.ownBlock with
  | none => exact .inl rfl
  | some r =>
    refine .inr fun he => ?_
    obtain ⟨cur, h1, _⟩ := ownBlock_cells h r hv
    obtain ⟨cur', h2, _⟩ := ownBlock_cells ho r he.symm
    rw [h1] at h2
    injection h2 with h2
    injection h2 with _ h3 _
    exact hne h3
theorem row_setR {w : World} {B n size g : Nat} {e ty : TypeId} {xs us : List Value} {v : Value} (h : w.ownsRow B e size v n xs) (hb : Blk w g ty us) (hne : e ≠ ty) (i : Nat) (x : Value) : (w.setCell ⟨g, i, none⟩ x).ownsRow B e size v n xs := by
  refine World.ownsRow.kept h (grownBy_set w g i x) ?_
  cases hv : v.ownBlock with
  | none => exact .inl rfl
  | some r =>
    refine .inr fun he => ?_
    injection he with he
    subst he
    obtain ⟨cur, h1, _⟩ := ownBlock_cells h r hv
    unfold Blk at hb
    rw [hb] at h1
    injection h1 with h1
    injection h1 with _ h3 _
    exact hne h3.symm
theorem row_open {w : World} {B n size : Nat} {e : TypeId} {xs : List Value} {v : Value} (h : w.ownsRow B e size v n xs) : ∃ a c, v = .slice a n c := by
  rcases h.2 with ⟨rfl, h1⟩ | ⟨g, cap, cur, rfl, _⟩
  · exact ⟨none, 0, by rw [h1]⟩
  · exact ⟨_, _, rfl⟩
theorem row_low {w : World} {B B' n size : Nat} {e : TypeId} {xs : List Value} {v : Value} (h : w.ownsRow B e size v n xs) (hB : B' ≤ B) : w.ownsRow B' e size v n xs := by
  refine ⟨h.1, ?_⟩
  rcases h.2 with h | ⟨g, cap, cur, h1, h2, h3⟩
  · exact .inl h
  · exact .inr ⟨g, cap, cur, h1, by omega, h3⟩
/-- a machine in memory of one's own -/
structure OMac (w : World) (B : Nat) (av ev : Value) (m : Mac) : Prop where
  a : w.ownsRow B 50 4 av m.a.length (m.a.flatMap encA)
  e : OInts 3 w B ev m.e
theorem OMac.ext {w w' : World} {B : Nat} {av ev : Value} {m : Mac} (h : OMac w B av ev m) (hx : Ext w w') : OMac w' B av ev m := ⟨ownsRow_ext h.a hx, h.e.ext hx⟩
theorem Arcs.own {w : World} {B : Nat} {v : Value} {l : List Arc} (h : w.ownsRow B 50 4 v l.length (l.flatMap encA)) : Arcs w v l := by
  have hfl := flat_len encA encA_len l
  rcases h.2 with ⟨rfl, h1⟩ | ⟨g, cap, cur, rfl, hg, hh, hnc, hm, hcs, ht⟩
  · exact ⟨none, 0, by rw [h1], by omega, by unfold maxLen; omega, fun i hi => by omega⟩
  · refine ⟨_, cap, rfl, hnc, hm, fun i hi => ⟨g, 0, rfl, ?_⟩⟩
    have hp : l[i]? = some (arcA l i) := by unfold arcA; rw [List.getElem?_eq_getElem hi]; rfl
    refine ⟨?_, ?_, ?_, ?_⟩
    · have := h.cellAt (i * 4) (by omega)
      have h2 := flat_get encA encA_len l i 0 _ hp (by omega)
      rw [Nat.add_zero] at h2
      rw [Nat.zero_add, this, h2]; rfl
    · have := h.cellAt (i * 4 + 1) (by omega)
      rw [Nat.zero_add, this, flat_get encA encA_len l i 1 _ hp (by omega)]; rfl
    · have := h.cellAt (i * 4 + 2) (by omega)
      rw [Nat.zero_add, this, flat_get encA encA_len l i 2 _ hp (by omega)]; rfl
    · have := h.cellAt (i * 4 + 3) (by omega)
      rw [Nat.zero_add, this, flat_get encA encA_len l i 3 _ hp (by omega)]; rfl
theorem OMac.mac {w : World} {B : Nat} {av ev : Value} {m : Mac} (h : OMac w B av ev m) : MacR w av ev m := ⟨Arcs.own h.a, h.e.ints⟩
theorem elArc : ElTy Try.prog 22 50 4 32 (.agg #[.int .i64 0, .int .i64 0, .int .i64 0, .int .i64 0]) := ⟨Try.underlying22, by kernel_rfl, rfl, by omega⟩
def ZM : List Value := [.int .i64 0, .slice none 0 0, .slice none 0 0]
/-- a machine comes back, in new memory -/
def ROMac (m : Mac) (w : World) (e : Ending) (w' : World) : Prop := ∃ av ev, e = .returned (.agg #[.int .i64 m.s, av, ev]) ∧ OMac w' w.heap.size av ev m ∧ Ext w w'
structure TurnS (wA w : World) (g2 g3 : Nat) (s : Int) (vo ve : Value) (ar : List Arc) (es : List Int) : Prop where
  ext : Ext wA w
  arcs : w.ownsRow wA.heap.size 50 4 vo ar.length (ar.flatMap encA)
  ends : OInts 3 w wA.heap.size ve es
  box : Blk w g3 25 [.int .i64 s, vo, ve]
  res : Blk w g2 25 [.int .i64 0, .slice none 0 0, .slice none 0 0]
theorem TurnS.later {wA w w' : World} {g2 g3 : Nat} {s : Int} {vo ve : Value} {ar : List Arc} {es : List Int} (h : TurnS wA w g2 g3 s vo ve ar es) (hx : Ext w w') : TurnS wA w' g2 g3 s vo ve ar es :=
  ⟨h.ext.trans hx, ownsRow_ext h.arcs hx, h.ends.ext hx, h.box.ext hx, h.res.ext hx⟩
theorem TurnS.push {wA w w' : World} {g2 g3 : Nat} {s : Int} {vo vo' ve : Value} {ar ar' : List Arc} {es : List Int} (h : TurnS wA w g2 g3 s vo ve ar es) (hn : g2 ≠ g3) (hg3 : wA.heap.size ≤ g3) (hg2 : wA.heap.size ≤ g2)
    (hr : w'.ownsRow wA.heap.size 50 4 vo' ar'.length (ar'.flatMap encA)) (hb : Below wA.heap.size w w') (hg : w.grownBy w' vo.ownBlock) : TurnS wA (w'.setCell ⟨g3, 1, none⟩ vo') g2 g3 s vo' ve ar' es := by
  have hb3 := h.box.keptR (by decide) h.arcs hg
  have hb2 := h.res.keptR (by decide) h.arcs hg
  have he := row_keptR h.ends (by decide) h.arcs hg
  refine ⟨(h.ext.upto hb (Nat.le_refl _)).setCell hg3 _ _, row_setR hr hb3 (by decide) 1 vo', row_setR he hb3 (by decide) 1 vo', ?_, ?_⟩
  · have := hb3.set 1 vo'
    simpa using this
  · exact hb2.other (fun e => hn e.symm) 1 vo'
theorem Blk.store3 {w : World} {g : Nat} {ty : TypeId} {a0 a1 a2 : Value} (h : Blk w g ty [a0, a1, a2]) (b0 b1 b2 : Value) :
    Blk (((w.setCell ⟨g, 0, none⟩ b0).setCell ⟨g, 1, none⟩ b1).setCell ⟨g, 2, none⟩ b2) g ty [b0, b1, b2] := by
  have := ((h.set 0 b0).set 1 b1).set 2 b2
  simpa using this
theorem Blk.other3 {w : World} {g c : Nat} {ty : TypeId} {l : List Value} (h : Blk w g ty l) (hne : c ≠ g) (b0 b1 b2 : Value) :
    Blk (((w.setCell ⟨c, 0, none⟩ b0).setCell ⟨c, 1, none⟩ b1).setCell ⟨c, 2, none⟩ b2) g ty l := ((h.other hne 0 b0).other hne 1 b1).other hne 2 b2
theorem Ext.store3 {w W : World} (h : Ext w W) {g : Nat} (hg : w.heap.size ≤ g) (b0 b1 b2 : Value) : Ext w (((W.setCell ⟨g, 0, none⟩ b0).setCell ⟨g, 1, none⟩ b1).setCell ⟨g, 2, none⟩ b2) :=
  ((h.setCell hg 0 b0).setCell hg 1 b1).setCell hg 2 b2
theorem row_store3 {w : World} {B n size g : Nat} {e ty : TypeId} {xs : List Value} {v a0 a1 a2 : Value} (h : w.ownsRow B e size v n xs) (hb : Blk w g ty [a0, a1, a2]) (hne : e ≠ ty) (b0 b1 b2 : Value) :
    (((w.setCell ⟨g, 0, none⟩ b0).setCell ⟨g, 1, none⟩ b1).setCell ⟨g, 2, none⟩ b2).ownsRow B e size v n xs :=
  row_setR (row_setR (row_setR h hb hne 0 b0) (hb.set 0 b0) hne 1 b1) ((hb.set 0 b0).set 1 b1) hne 2 b2

set_option maxHeartbeats 4000000 in
set_option maxRecDepth 100000 in
theorem turned_c (av ev : Value) (m : Mac) (w : World) (h : MacR w av ev m) (hal : m.a.length ≤ 100000) (hel : m.e.length ≤ 100000) : Calls Try.prog 71 #[.agg #[.int .i64 m.s, av, ev]] w (ROMac (turnM m) w) := by
  obtain ⟨wA, hwA⟩ : ∃ wA, wA = w.alloc (.cells #[.int .i64 m.s, av, ev] 25) := ⟨_, rfl⟩
  have hE0 : Ext w wA := by rw [hwA]; exact Ext.alloc _ _
  have k0 : ∀ W, Ext wA W → W.cell? ⟨w.heap.size, 0, none⟩ = some (.int .i64 m.s) := by rw [hwA]; exact kept_alloc w _ _ rfl
  have k1 : ∀ W, Ext wA W → W.cell? ⟨w.heap.size, 1, none⟩ = some av := by rw [hwA]; exact kept_alloc w _ _ rfl
  have k2 : ∀ W, Ext wA W → W.cell? ⟨w.heap.size, 2, none⟩ = some ev := by rw [hwA]; exact kept_alloc w _ _ rfl
  have H0 : Ext wA wA := Ext.refl _
  have HIE := Lib.hid (h.e.ext hE0)
  obtain ⟨aa, ca, rfl, hla, hma, HA⟩ := (h.ext hE0).a.open_
  obtain ⟨ae, ce, rfl, hle, hme, HE⟩ := (h.ext hE0).e.open_
  have hsA : wA.heap.size = w.heap.size + 1 := by rw [hwA]; simp
  have HSA := Lib.hid hsA; clear hsA
  have HW := Lib.hid hwA; clear hwA h
  obtain ⟨wB, hwB⟩ : ∃ wB, wB = wA.alloc (.cells #[.int .i64 0, .slice none 0 0, .slice none 0 0] 25) := ⟨_, rfl⟩
  have hEB : Ext wA wB := by rw [hwB]; exact Ext.alloc _ _
  have hR2 : Blk wB (w.heap.size + 1) 25 [.int .i64 0, .slice none 0 0, .slice none 0 0] := by rw [hwB, ← HSA.out]; exact Blk.alloc wA _ _
  have hsB : wB.heap.size = wA.heap.size + 1 := by rw [hwB]; simp
  have HWB := Lib.hid hwB; clear hwB
  have HR2 := Lib.hid hR2; clear hR2
  have HSB := Lib.hid hsB; clear hsB
  go_enter Try.func71, Try.ntmps71
  go_upto_region 1 with fail
  rw [← HW.out, ← HWB.out]
  go_cut [3] from 6 to 33 (fun s3 wx => ∃ (g3 : Nat) (ve : Value), s3 = .pointer (some ⟨g3, 0, none⟩) ∧ w.heap.size + 1 < g3 ∧ TurnS wA wx (w.heap.size + 1) g3 m.s (.slice none 0 0) ve [] m.e)
  case first =>
    refine wp_region_free (Ext wB) (fun _ => True) [] [0, 1, 2, 3] 4 (by kernel_rfl) (by kernel_rfl) (by intro c a d v w h; cases d <;> exact h) ?_
    have hd : Ext wB { wB with drawn := wB.drawn + 1 } := drawn_ext wB
    have hs : ∀ s : InC (Ext wB), Ext wA s.w := fun s => hEB.trans s.h
    generalize { wB with drawn := wB.drawn + 1 } = V0 at *
    iterate 4 (refine wpPeek_look rfl ‹_› (fun K hK => ?_); go_simp; first | (refine hK _ ?_; clear hK K) | (refine ⟨_, fun _ => rfl, hK _ ?_⟩; clear hK K))
    clear hs
    refine wpPeek_nilK ?_
    refine wpAnyE_each (i := 4) (is := [6]) (by kernel_rfl) ⟨?_, ?_, trivial⟩
    · refine wpOp_of_list rfl rfl (fun K hK => ?_)
      go_wp2_with fail
      refine (cloneInts_c _ m.e V0 (HIE.out.ext (hEB.trans hd)) (by omega)).mono ?_; rintro e V1 ⟨v4, rfl, ho4, hx4⟩
      obtain ⟨a4, c4, rfl, _⟩ := ho4.ints.open_
      have ho := OInts.low (B' := wA.heap.size) ho4 (hEB.trans hd).size
      clear ho4
      go_wp2_with fail
      refine ⟨KeepE.of (fun h => h.trans hx4) (fun _ => trivial), ?_⟩
      replace hd := hd.trans hx4
      have HO := Lib.hid ho; clear ho hx4
      refine wpAnyE_each (i := 5) (is := [6]) (by kernel_rfl) ⟨?_, ?_, trivial⟩
      · refine wpOp_of_list rfl rfl (fun K hK => ?_)
        go_wp2_with fail
        refine ⟨KeepE.refl, ?_⟩
        refine wpAnyE_each (i := 6) (is := []) (by kernel_rfl) ⟨?_, trivial⟩
        · refine wpOp_of_list rfl rfl (fun K hK => ?_)
          go_wp2_with fail
          have hxa := Ext.alloc V1 (.cells #[.int .i64 0, .slice none 0 0, .slice none 0 0] 25)
          refine ⟨KeepE.of (fun h => h.trans hxa) (fun _ => trivial), ?_⟩
          have hz := Blk.alloc V1 #[.int .i64 0, .slice none 0 0, .slice none 0 0] 25
          have hg3 : w.heap.size + 1 < V1.heap.size := by have := hd.size; have := HSA.out; have := HSB.out; omega
          generalize V1.alloc (.cells #[.int .i64 0, .slice none 0 0, .slice none 0 0] 25) = V2 at *
          generalize V1.heap.size = g3 at *
          replace hd := hd.trans hxa
          replace HO := Lib.hid (OInts.ext HO.out hxa)
          clear hxa
          refine wpAnyE_each (i := 7) (is := []) (by kernel_rfl) ⟨?_, trivial⟩
          · refine wpOp_of_list rfl rfl (fun K hK => ?_)
            have z0 := hz.cell (i := 0) rfl
            have z1 := hz.cell (i := 1) rfl
            have z2 := hz.cell (i := 2) rfl
            have f0 := hz.frozen 0
            have f1 := hz.frozen 1
            have f2 := hz.frozen 2
            have hge : wB.heap.size ≤ g3 := by have := HSA.out; have := HSB.out; omega
            have hge2 : wA.heap.size ≤ g3 := by have := HSA.out; omega
            have hzz : Blk V2 g3 25 [.int .i64 0, .slice none 0 0, .slice none 0 0] := hz
            have HTS : Hid (TurnS wA (((V2.setCell ⟨g3, 0, none⟩ (.int .i64 m.s)).setCell ⟨g3, 1, none⟩ (.slice none 0 0)).setCell ⟨g3, 2, none⟩ (.slice a4 m.e.length c4)) (w.heap.size + 1) g3 m.s (.slice none 0 0) (.slice a4 m.e.length c4) [] m.e) :=
              Lib.hid ⟨Ext.store3 (hEB.trans hd) hge2 _ _ _, World.ownsRow_nil _ _ _ _, row_store3 HO.out hzz (by decide) _ _ _, hzz.store3 _ _ _, (HR2.out.ext hd).other3 (by omega) _ _ _⟩
            have hk := fun (h : Ext wB V2) => Ext.store3 h hge (.int .i64 m.s) (.slice none 0 0) (.slice a4 m.e.length c4)
            have HK := Lib.hid hk; clear hk hz hzz
            go_wp2_with fail
            refine ⟨KeepE.of (fun h => HK.out h) (fun _ => trivial), ?_⟩
            have hTS := HTS.out
            clear z0 z1 z2 f0 f1 f2 HTS HK
            refine wpAnyE_done (by kernel_rfl) ?_
            go_wp2_with fail
            go_meet
            case rel => exact ⟨g3, _, rfl, hg3, hTS⟩
      · refine wpOp_of_list rfl rfl (fun K hK => ?_)
        go_wp2_with fail
        have hxa := Ext.alloc V1 (.cells #[.int .i64 0, .slice none 0 0, .slice none 0 0] 25)
        refine ⟨KeepE.of (fun h => h.trans hxa) (fun _ => trivial), ?_⟩
        have hz := Blk.alloc V1 #[.int .i64 0, .slice none 0 0, .slice none 0 0] 25
        have hg3 : w.heap.size + 1 < V1.heap.size := by have := hd.size; have := HSA.out; have := HSB.out; omega
        generalize V1.alloc (.cells #[.int .i64 0, .slice none 0 0, .slice none 0 0] 25) = V2 at *
        generalize V1.heap.size = g3 at *
        replace hd := hd.trans hxa
        replace HO := Lib.hid (OInts.ext HO.out hxa)
        clear hxa
        refine wpAnyE_each (i := 5) (is := []) (by kernel_rfl) ⟨?_, trivial⟩
        · refine wpOp_of_list rfl rfl (fun K hK => ?_)
          go_wp2_with fail
          refine ⟨KeepE.refl, ?_⟩
          refine wpAnyE_each (i := 7) (is := []) (by kernel_rfl) ⟨?_, trivial⟩
          · refine wpOp_of_list rfl rfl (fun K hK => ?_)
            have z0 := hz.cell (i := 0) rfl
            have z1 := hz.cell (i := 1) rfl
            have z2 := hz.cell (i := 2) rfl
            have f0 := hz.frozen 0
            have f1 := hz.frozen 1
            have f2 := hz.frozen 2
            have hge : wB.heap.size ≤ g3 := by have := HSA.out; have := HSB.out; omega
            have hge2 : wA.heap.size ≤ g3 := by have := HSA.out; omega
            have hzz : Blk V2 g3 25 [.int .i64 0, .slice none 0 0, .slice none 0 0] := hz
            have HTS : Hid (TurnS wA (((V2.setCell ⟨g3, 0, none⟩ (.int .i64 m.s)).setCell ⟨g3, 1, none⟩ (.slice none 0 0)).setCell ⟨g3, 2, none⟩ (.slice a4 m.e.length c4)) (w.heap.size + 1) g3 m.s (.slice none 0 0) (.slice a4 m.e.length c4) [] m.e) :=
              Lib.hid ⟨Ext.store3 (hEB.trans hd) hge2 _ _ _, World.ownsRow_nil _ _ _ _, row_store3 HO.out hzz (by decide) _ _ _, hzz.store3 _ _ _, (HR2.out.ext hd).other3 (by omega) _ _ _⟩
            have hk := fun (h : Ext wB V2) => Ext.store3 h hge (.int .i64 m.s) (.slice none 0 0) (.slice a4 m.e.length c4)
            have HK := Lib.hid hk; clear hk hz hzz
            go_wp2_with fail
            refine ⟨KeepE.of (fun h => HK.out h) (fun _ => trivial), ?_⟩
            have hTS := HTS.out
            clear z0 z1 z2 f0 f1 f2 HTS HK
            refine wpAnyE_done (by kernel_rfl) ?_
            go_wp2_with fail
            go_meet
            case rel => exact ⟨g3, _, rfl, hg3, hTS⟩
    · refine wpOp_of_list rfl rfl (fun K hK => ?_)
      go_wp2_with fail
      have hxa := Ext.alloc V0 (.cells #[.int .i64 0, .slice none 0 0, .slice none 0 0] 25)
      refine ⟨KeepE.of (fun h => h.trans hxa) (fun _ => trivial), ?_⟩
      have hz := Blk.alloc V0 #[.int .i64 0, .slice none 0 0, .slice none 0 0] 25
      have hg3 : w.heap.size + 1 < V0.heap.size := by have := hd.size; have := HSA.out; have := HSB.out; omega
      generalize V0.alloc (.cells #[.int .i64 0, .slice none 0 0, .slice none 0 0] 25) = V1 at *
      generalize V0.heap.size = g3 at *
      replace hd := hd.trans hxa
      clear hxa
      refine wpAnyE_each (i := 4) (is := []) (by kernel_rfl) ⟨?_, trivial⟩
      · refine wpOp_of_list rfl rfl (fun K hK => ?_)
        go_wp2_with fail
        refine (cloneInts_c _ m.e V1 (HIE.out.ext (hEB.trans hd)) (by omega)).mono ?_; rintro e V2 ⟨v4, rfl, ho4, hx4⟩
        obtain ⟨a4, c4, rfl, _⟩ := ho4.ints.open_
        have ho := OInts.low (B' := wA.heap.size) ho4 (hEB.trans hd).size
        clear ho4
        replace hz := Blk.ext hz hx4
        go_wp2_with fail
        refine ⟨KeepE.of (fun h => h.trans hx4) (fun _ => trivial), ?_⟩
        replace hd := hd.trans hx4
        have HO := Lib.hid ho; clear ho hx4
        refine wpAnyE_each (i := 5) (is := []) (by kernel_rfl) ⟨?_, trivial⟩
        · refine wpOp_of_list rfl rfl (fun K hK => ?_)
          go_wp2_with fail
          refine ⟨KeepE.refl, ?_⟩
          refine wpAnyE_each (i := 7) (is := []) (by kernel_rfl) ⟨?_, trivial⟩
          · refine wpOp_of_list rfl rfl (fun K hK => ?_)
            have z0 := hz.cell (i := 0) rfl
            have z1 := hz.cell (i := 1) rfl
            have z2 := hz.cell (i := 2) rfl
            have f0 := hz.frozen 0
            have f1 := hz.frozen 1
            have f2 := hz.frozen 2
            have hge : wB.heap.size ≤ g3 := by have := HSA.out; have := HSB.out; omega
            have hge2 : wA.heap.size ≤ g3 := by have := HSA.out; omega
            have hzz : Blk V2 g3 25 [.int .i64 0, .slice none 0 0, .slice none 0 0] := hz
            have HTS : Hid (TurnS wA (((V2.setCell ⟨g3, 0, none⟩ (.int .i64 m.s)).setCell ⟨g3, 1, none⟩ (.slice none 0 0)).setCell ⟨g3, 2, none⟩ (.slice a4 m.e.length c4)) (w.heap.size + 1) g3 m.s (.slice none 0 0) (.slice a4 m.e.length c4) [] m.e) :=
              Lib.hid ⟨Ext.store3 (hEB.trans hd) hge2 _ _ _, World.ownsRow_nil _ _ _ _, row_store3 HO.out hzz (by decide) _ _ _, hzz.store3 _ _ _, (HR2.out.ext hd).other3 (by omega) _ _ _⟩
            have hk := fun (h : Ext wB V2) => Ext.store3 h hge (.int .i64 m.s) (.slice none 0 0) (.slice a4 m.e.length c4)
            have HK := Lib.hid hk; clear hk hz hzz
            go_wp2_with fail
            refine ⟨KeepE.of (fun h => HK.out h) (fun _ => trivial), ?_⟩
            have hTS := HTS.out
            clear z0 z1 z2 f0 f1 f2 HTS HK
            refine wpAnyE_done (by kernel_rfl) ?_
            go_wp2_with fail
            go_meet
            case rel => exact ⟨g3, _, rfl, hg3, hTS⟩
  case rest =>
    obtain ⟨g3, ve, rfl, hg3, hT⟩ := hcut
    obtain ⟨a4, c4, rfl⟩ := row_open hT.ends
    have hT0 : TurnS wA wc (w.heap.size + 1) g3 m.s (.slice none 0 0) (.slice a4 m.e.length c4) ((m.a.take 0).map tA) m.e := by simpa using hT
    clear hT
    have hEc := hT0.ext
    go_wp2_with fail
    clear hEc
    go_loopg [15] m.a.length (fun z i wr => ∃ (k : Nat) (vo : Value), k ≤ m.a.length ∧ m.a.length ≤ k + z ∧ i = .int .i64 k ∧ TurnS wA wr (w.heap.size + 1) g3 m.s vo (.slice a4 m.e.length c4) ((m.a.take k).map tA) m.e)
    case atStart => exact ⟨0, _, by omega, by omega, rfl, hT0⟩
    case round =>
      clear hT0
      obtain ⟨k, vo, hk, hkz, rfl, hT⟩ := hrel
      have hEr := hT.ext
      by_cases hlt : k < m.a.length
      · obtain ⟨ba, oa, rfl, hc0, hc1, hc2, hc3⟩ := HA.out k hlt
        replace hc0 := hEr.keep hc0
        replace hc1 := hEr.keep hc1
        replace hc2 := hEr.keep hc2
        replace hc3 := hEr.keep hc3
        have HTK := Lib.hid (take_arcs hlt tA)
        generalize arcA m.a k = y at *
        obtain ⟨wV, hwV⟩ : ∃ wV, wV = wr.alloc (.cells #[.int .i64 y.f, .int .i64 y.t, .int .i64 y.i, .int .i64 y.o] 50) := ⟨_, rfl⟩
        have hXV : Ext wr wV := by rw [hwV]; exact Ext.alloc _ _
        have b0 : wV.cell? ⟨wr.heap.size, 0, none⟩ = some (.int .i64 y.f) := by rw [hwV]; exact alloc_cell wr _ _ rfl
        have b1 : wV.cell? ⟨wr.heap.size, 1, none⟩ = some (.int .i64 y.t) := by rw [hwV]; exact alloc_cell wr _ _ (i := 1) rfl
        have b2 : wV.cell? ⟨wr.heap.size, 2, none⟩ = some (.int .i64 y.i) := by rw [hwV]; exact alloc_cell wr _ _ (i := 2) rfl
        have b3 : wV.cell? ⟨wr.heap.size, 3, none⟩ = some (.int .i64 y.o) := by rw [hwV]; exact alloc_cell wr _ _ (i := 3) rfl
        have HWV := Lib.hid hwV; clear hwV
        have hTV := hT.later hXV
        clear hT
        have c1 := hTV.box.cell (i := 1) rfl
        have hlk : ((m.a.take k).map tA).length = k := by simp; omega
        have HLK := Lib.hid hlk; clear hlk
        have HTV := Lib.hid hTV
        have hB4 : wA.heap.size ≤ wV.heap.size := hTV.ext.size
        clear hTV
        go_upto_region 5 with fail
        rw [← HWV.out]
        clear hc0 hc1 hc2 hc3
        have HONE : Hid (∀ u ∈ [Value.int .i64 y.f, .int .i64 y.t, .int .i64 y.o, .int .i64 y.i], u.oneCell' = true) := Lib.hid (by intro u hu; simp only [List.mem_cons, List.not_mem_nil, or_false] at hu; rcases hu with rfl | rfl | rfl | rfl <;> rfl)
        go_wp2_with (at_builtin; refine wpList_appendN (us := [.int .i64 y.f, .int .i64 y.t, .int .i64 y.o, .int .i64 y.i]) elArc rfl _ _ rfl rfl rfl HTV.out.arcs rfl rfl HONE.out hB4 (by rw [HLK.out]; omega) (by rw [HLK.out]; omega) ?_; intro v5 w5 hrow5 hb5 hgr5 hob5; obtain ⟨a5, c5, rfl⟩ := row_open hrow5; have p1 := (HTV.out.box.keptR (by decide) HTV.out.arcs hgr5).cell (i := 1) rfl; have p2 := (HTV.out.box.keptR (by decide) HTV.out.arcs hgr5).frozen 1)
        have hTN := HTV.out.push (ar' := (m.a.take k).map tA ++ [tA y]) (by omega) (by have := HSA.out; omega) (by have := HSA.out; omega) (by rw [List.length_append, flat_snoc]; exact hrow5) hb5 hgr5
        rw [HLK.out] at hTN
        go_roundg (gk-1)
        case measure => omega
        case rel => exact ⟨k+1, _, by omega, by omega, by go_num, by rw [HTK.out]; exact hTN⟩
      · have hTL : TurnS wA wr (w.heap.size + 1) g3 m.s vo (.slice a4 m.e.length c4) (m.a.map tA) m.e := by rwa [List.take_of_length_le (by omega)] at hT
        clear hT
        obtain ⟨a6, c6, rfl⟩ : ∃ a c, vo = .slice a m.a.length c := by have := row_open hTL.arcs; rwa [List.length_map] at this
        have d0 := hTL.box.cell (i := 0) rfl
        have d1 := hTL.box.cell (i := 1) rfl
        have d2 := hTL.box.cell (i := 2) rfl
        have z0 := hTL.res.cell (i := 0) rfl
        have z1 := hTL.res.cell (i := 1) rfl
        have z2 := hTL.res.cell (i := 2) rfl
        have f0 := hTL.res.frozen 0
        have f1 := hTL.res.frozen 1
        have f2 := hTL.res.frozen 2
        have hb2 := hTL.res.store3 (.int .i64 m.s) (.slice a6 m.a.length c6) (.slice a4 m.e.length c4)
        have hx2 := Ext.store3 hTL.ext (g := w.heap.size + 1) (by have := HSA.out; omega) (.int .i64 m.s) (.slice a6 m.a.length c6) (.slice a4 m.e.length c4)
        have hr2 := row_store3 hTL.arcs hTL.res (by decide) (.int .i64 m.s) (.slice a6 m.a.length c6) (.slice a4 m.e.length c4)
        have he2 := row_store3 hTL.ends hTL.res (by decide) (.int .i64 m.s) (.slice a6 m.a.length c6) (.slice a4 m.e.length c4)
        have HFIN : Hid (_ ∧ _ ∧ _ ∧ _) := Lib.hid ⟨hb2, hx2, hr2, he2⟩
        clear hTL hb2 hx2 hr2 he2
        go_wp2_with fail
        obtain ⟨hb2, hx2, hr2, he2⟩ := HFIN.out
        clear z0 z1 z2 f0 f1 f2 d0 d1 d2
        have d0 := hb2.cell (i := 0) rfl
        have d1 := hb2.cell (i := 1) rfl
        have d2 := hb2.cell (i := 2) rfl
        generalize (((wr.setCell ⟨w.heap.size + 1, 0, none⟩ (.int .i64 m.s)).setCell ⟨w.heap.size + 1, 1, none⟩ (.slice a6 m.a.length c6)).setCell ⟨w.heap.size + 1, 2, none⟩ (.slice a4 m.e.length c4)) = wz at *
        refine bodyPost_ret (v := .agg #[.int .i64 m.s, .slice a6 m.a.length c6, .slice a4 m.e.length c4]) (by simp [results, Try.results71, go_sem, d0, d1, d2]) rfl ?_
        exact ⟨_, _, rfl, ⟨row_low hr2 hE0.size, OInts.low he2 hE0.size⟩, hE0.trans hx2⟩
end Go.Proofs.Ytpbflkbelhlogaa
