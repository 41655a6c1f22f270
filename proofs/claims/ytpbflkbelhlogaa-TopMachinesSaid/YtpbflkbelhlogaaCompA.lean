/- Machines: two at once, appends of arcs, an arc laid into a list in order. -/
import Derived.Test.YtpbflkbelhlogaaMade
namespace Go.Proofs.Ytpbflkbelhlogaa
open Go.RowKit Go.Shelf
set_option linter.unusedVariables false
theorem RMac2.mk {m m2 : Mac} {k k2 : Int} {w w' : World} {av ev : Value} (hm : m = m2) (hk : k = k2) (h : MacR w' av ev m2) (hx : Ext w w') : RMac2 m k w (.returned (.tuple #[.agg #[.int .i64 m2.s, av, ev], .int .i64 k2])) w' := by
  subst hm hk; exact ⟨_, _, rfl, h, hx⟩
theorem keep_ne {v v' : Value} {b s : Nat} (hn : v.ownBlock ≠ some b) (hs : b < s) (h : ∀ r, v'.ownBlock = some r → v.ownBlock = some r ∨ s ≤ r) : v'.ownBlock ≠ some b := fun e => by
  rcases h b e with h | h
  · exact hn h
  · omega
def bothK (m n : Mac) : Int := if validM m = 0 then validM n else validM m
theorem wpList_appendArc {P : Program} {ops : Array Oper} {rest : List Oper} {o : Oper} {a : Act} {Q : Exit → Act → World → Prop} {W : World} {B : Nat} {t : TypeId} {v : Value} {l : List Arc} {g : Nat} {f1 t1 i1 o1 : Int}
    (hT : ElTy P t 50 4 32 (.agg #[.int .i64 0, .int .i64 0, .int .i64 0, .int .i64 0])) (hgd : o.guard = none) (s x : Operand) (ho : o.op = .call { callee := .builtin .append, args := #[s, x], argTypes := #[t, t] })
    (hs : a.eval s = v) (hx : a.eval x = .slice (some ⟨g, 0, none⟩) 1 1) (hown : OArcs W B v l) (hg : W.heap.size = g) (hB : B ≤ W.heap.size) (hn : l.length ≤ 1000000)
    (h : ∀ v' w', OArcs w' B v' (l ++ [⟨f1, t1, i1, o1⟩]) → Below B W w' → W.grownBy w' v.ownBlock → (∀ r, v'.ownBlock = some r → v.ownBlock = some r ∨ W.heap.size ≤ r) → wpList P ops Q rest (a.put o.dst v') w') : wpList P ops Q (o :: rest) a (W.alloc (.cells #[.int .i64 f1, .int .i64 t1, .int .i64 i1, .int .i64 o1] 50)) := by
  refine wpList_appendN (us := [.int .i64 f1, .int .i64 t1, .int .i64 i1, .int .i64 o1]) hT hgd s x ho hs hx hown hg rfl (by intro u hu; simp only [List.mem_cons, List.not_mem_nil, or_false] at hu; rcases hu with rfl | rfl | rfl | rfl <;> rfl) hB (by omega) (by omega) fun v' w' h1 h2 h3 h4 => h v' w' ?_ h2 h3 h4
  unfold OArcs
  rw [List.length_append, List.flatMap_append]
  exact h1

theorem both_c (av ev bv fv : Value) (m n : Mac) (w : World) (h : MacR w av ev m) (k : MacR w bv fv n) : Calls Try.prog 89 #[.agg #[.int .i64 m.s, av, ev], .agg #[.int .i64 n.s, bv, fv]] w (RV (.int .i64 (bothK m n)) w) := by
  obtain ⟨wA, hwA⟩ : ∃ wA, wA = (w.alloc (.cells #[.int .i64 m.s, av, ev] 25)).alloc (.cells #[.int .i64 n.s, bv, fv] 25) := ⟨_, rfl⟩
  have hE0 : Ext w wA := by rw [hwA]; exact (Ext.alloc _ _).trans (Ext.alloc _ _)
  have k0 : ∀ i v, #[Value.int .i64 m.s, av, ev][i]? = some v → ∀ W, Ext wA W → W.cell? ⟨w.heap.size, i, none⟩ = some v := fun i v h W hW => by rw [hwA] at hW; exact kept_alloc w _ _ h W ((Ext.alloc _ _).trans hW)
  have k1 : ∀ i v, #[Value.int .i64 n.s, bv, fv][i]? = some v → ∀ W, Ext wA W → W.cell? ⟨w.heap.size + 1, i, none⟩ = some v := fun i v h W hW => by
    rw [hwA] at hW
    have := kept_alloc (w.alloc (.cells #[.int .i64 m.s, av, ev] 25)) _ _ h W hW
    simpa using this
  have b0 := k1 0 _ rfl
  have b1 := k1 1 _ rfl
  have b2 := k1 2 _ rfl
  have H0 : Ext wA wA := Ext.refl _
  have HV := Lib.hid (Validate_c av ev m wA (h.ext hE0))
  have HV2 := Lib.hid (fun W (hW : Ext wA W) => Validate_c bv fv n W (k.ext (hE0.trans hW)))
  have HW := Lib.hid hwA; clear hwA h k k0 k1
  by_cases hv : validM m = 0
  · rw [hv] at HV
    rw [show bothK m n = validM n by rw [bothK, if_pos hv]]
    clear hv
    generalize validM n = kn at *
    go_enter Try.func89, Try.ntmps89
    go_wp2_with fail
    rw [← HW.out]
    refine HV.out.mono ?_; rintro e w1 ⟨rfl, hx1⟩
    go_wp2_with fail
    refine (HV2.out w1 hx1).mono ?_; rintro e w2 ⟨rfl, hx2⟩
    go_wp2_with fail
    go_ret
    exact RV.int rfl (hE0.trans (hx1.trans hx2))
  · rw [show bothK m n = validM m by rw [bothK, if_neg hv]]
    have hk : (validM m != 0) = true := by simp [hv]
    generalize validM m = km at *
    clear hv
    go_enter Try.func89, Try.ntmps89
    go_wp2_with fail
    rw [← HW.out]
    refine HV.out.mono ?_; rintro e w1 ⟨rfl, hx1⟩
    go_wp2_with fail
    go_ret
    exact RV.int rfl (hE0.trans hx1)

theorem rtwo_c (av ev bv fv : Value) (m n : Mac) (w : World) (h : MacR w av ev m) (k : MacR w bv fv n) : Calls Try.prog 93 #[.agg #[.int .i64 m.s, av, ev], .agg #[.int .i64 n.s, bv, fv]] w (RV (.int .i64 (bothK m n)) w) := by
  obtain ⟨wA, hwA⟩ : ∃ wA, wA = (w.alloc (.cells #[.int .i64 m.s, av, ev] 25)).alloc (.cells #[.int .i64 n.s, bv, fv] 25) := ⟨_, rfl⟩
  have hE0 : Ext w wA := by rw [hwA]; exact (Ext.alloc _ _).trans (Ext.alloc _ _)
  have k0 : ∀ i v, #[Value.int .i64 m.s, av, ev][i]? = some v → ∀ W, Ext wA W → W.cell? ⟨w.heap.size, i, none⟩ = some v := fun i v h W hW => by rw [hwA] at hW; exact kept_alloc w _ _ h W ((Ext.alloc _ _).trans hW)
  have k1 : ∀ i v, #[Value.int .i64 n.s, bv, fv][i]? = some v → ∀ W, Ext wA W → W.cell? ⟨w.heap.size + 1, i, none⟩ = some v := fun i v h W hW => by
    rw [hwA] at hW
    have := kept_alloc (w.alloc (.cells #[.int .i64 m.s, av, ev] 25)) _ _ h W hW
    simpa using this
  have b0 := k1 0 _ rfl
  have b1 := k1 1 _ rfl
  have b2 := k1 2 _ rfl
  have H0 : Ext wA wA := Ext.refl _
  have HV := Lib.hid (rValidate_c av ev m wA (h.ext hE0))
  have HV2 := Lib.hid (fun W (hW : Ext wA W) => rValidate_c bv fv n W (k.ext (hE0.trans hW)))
  have HW := Lib.hid hwA; clear hwA h k k0 k1
  by_cases hv : validM m = 0
  · rw [hv] at HV
    rw [show bothK m n = validM n by rw [bothK, if_pos hv]]
    clear hv
    generalize validM n = kn at *
    go_enter Try.func93, Try.ntmps93
    go_wp2_with fail
    rw [← HW.out]
    refine HV.out.mono ?_; rintro e w1 ⟨rfl, hx1⟩
    go_wp2_with fail
    refine (HV2.out w1 hx1).mono ?_; rintro e w2 ⟨rfl, hx2⟩
    go_wp2_with fail
    go_ret
    exact RV.int rfl (hE0.trans (hx1.trans hx2))
  · rw [show bothK m n = validM m by rw [bothK, if_neg hv]]
    have hk : (validM m != 0) = true := by simp [hv]
    generalize validM m = km at *
    clear hv
    go_enter Try.func93, Try.ntmps93
    go_wp2_with fail
    rw [← HW.out]
    refine HV.out.mono ?_; rintro e w1 ⟨rfl, hx1⟩
    go_wp2_with fail
    go_ret
    exact RV.int rfl (hE0.trans hx1)

end Go.Proofs.Ytpbflkbelhlogaa
