/-
  LawS930009KDecides.
-/
import Derived.Test.YmbrdcFirst
namespace Go.Proofs.Ymbrdc.lawS930009KDecides
open Go.ChangeShapes Go.WideShapes Go.ChangeAt Go.RowKit
set_option linter.unusedVariables false
set_option linter.unusedSimpArgs false

set_option maxHeartbeats 1000000 in
theorem walk (w : World) (a0 : Option Addr) (n0 c0 : Nat) (z0 : Nat → Int) (s0 : Rd .i64 w a0 n0 z0) (m0 : n0 ≤ maxLen) (w0 : ∀ i, i < n0 → (Lit.int .i64 (z0 i)).wf = true) :
    Calls Ydcm.prog 9 #[.slice a0 n0 c0] w fun e w' => e = .returned (.bool true) ∧ Below w.heap.size w w' := by
  unfold maxLen at m0
  by_cases hbig : 1048576 < n0
  · have d1 : decide ((1024 : Int) < (n0 : Int)) = true := by simp; omega
    have d2 : decide ((n0 : Int) ≤ 1048576) = false := by simp; omega
    have d3 : decide ((1048576 : Int) < (n0 : Int)) = true := by simp; omega
    go_enter Ydcm.func9, Ydcm.ntmps9
    go_wp2_with fail
    refine (fromLabels_any n0 c0 a0 z0 _ (by omega) s0).mono ?_
    rintro e w1 (⟨h, _⟩ | ⟨_, rfl, hF⟩)
    · omega
    · go_wp2_with fail
      go_ret
      exact ⟨by simp, hF.below⟩
  · by_cases hlt : 1024 < n0
    · have d1 : decide ((1024 : Int) < (n0 : Int)) = true := by simp; omega
      have d2 : decide ((n0 : Int) ≤ 1048576) = true := by simp; omega
      go_enter Ydcm.func9, Ydcm.ntmps9
      go_wp2_with fail
      go_ret
      exact ⟨rfl, Below.refl _ _⟩
    · have d1 : decide ((1024 : Int) < (n0 : Int)) = false := by simp; omega
      have d3 : decide ((1048576 : Int) < (n0 : Int)) = false := by simp; omega
      go_enter Ydcm.func9, Ydcm.ntmps9
      go_wp2_with fail
      refine (fromLabels_any n0 c0 a0 z0 _ (by omega) s0).mono ?_
      rintro e w1 (⟨_, hc, b, bp, bs, hY⟩ | ⟨hno, rfl, hF⟩)
      · obtain rfl := hY.ret
        have hF := hY.fr
        go_wp2_with fail
        refine (kcanon_any n0 c0 a0 z0 _ (hF.rd0 s0) (by omega)).mono ?_
        rintro e w2 ⟨⟨r, rfl, hr⟩, hF2⟩
        have hr : r = true := hr.2 hc
        subst hr
        have hF3 := hF.trans hF2
        go_wp2_with fail
        refine (kforest_yes b bp bs n0 c0 a0 (fun i => (z0 i).toNat) _ (SetsAt.fr0 hY.sets hF2) ((hF3.rd0 s0).congr (fun i hi => by have := (hc i hi).1; omega)) (by omega)).mono ?_
        rintro e w3 ⟨rfl, hF4⟩
        go_wp2_with fail
        go_ret
        exact ⟨rfl, (hF3.trans hF4).below⟩
      · have hno : ¬ CanZ n0 z0 := fun h => hno ⟨by omega, h⟩
        go_wp2_with fail
        refine (kcanon_any n0 c0 a0 z0 _ (hF.rd0 s0) (by omega)).mono ?_
        rintro e w2 ⟨⟨r, rfl, hr⟩, hF2⟩
        have hr : r = false := by
          cases r
          · rfl
          · exact absurd (hr.1 rfl) hno
        subst hr
        go_wp2_with fail
        go_ret
        exact ⟨by simp, (hF.trans hF2).below⟩

theorem own : ownKnob Ydcm.prog.godebug = none := by kernel_rfl
theorem laidOut : laidOutB Ydcm.prog = true := by kernel_rfl
set_option maxRecDepth 100000 in
theorem lifted (os : Os) (started : os.Started) (H : Type) (enc : TypeId × Value → H) :
    ReturnsInHanded {} Ydcm.checked os 9 .any (Rows.lawS930009KDecidesSpec.pre6 enc Ydcm.prog Ydcm.f9 Rows.lawS930009KDecidesRow.domain false) (Rows.lawS930009KDecidesSpec.post enc Ydcm.prog Ydcm.f9 false true false false) := by
  refine returnsInHanded_of_change (C := Ydcm.checked) own started (by kernel_rfl) Ydcm.func9
    (ChangeSpec.witness6 (enc := enc) (C := Ydcm.checked) false ⟨#[], #[.slice none 0 0], []⟩ 8 (by kernel_rfl) (by kernel_rfl) (by kernel_rfl) (by kernel_rfl)) ?_
  intro W base args ds gs before hval0 hW hcnd _
  have hval : ∀ (j : Nat) t v, Ydcm.f9.params[j]? = some t → args[j]? = some v → Value.okWide Ydcm.prog W .any base t v := hval0
  have hW' := hW
  obtain ⟨p, q, hA0, hV, rfl, hfz, hnd⟩ := hW
  have hA : DataW.TrodAll enc Ydcm.prog W 0 (fun _ => true) true Ydcm.f9.params.toList args.toList ds p := hA0
  rw [Ydcm.params9] at hA hval
  obtain ⟨v0, vs0, d0, ds0, p0, q0, hargs, rfl, rfl, h0, r0⟩ := trodAll_cons hA
  obtain ⟨rfl, rfl, rfl⟩ := trodAll_nil r0
  obtain rfl : args = #[v0] := by cases args; simp_all
  obtain ⟨rfl, rfl⟩ := trodVars_none hV
  obtain ⟨a0, n0, c0, rfl⟩ := okWide_slice Ydcm.underlying32 (hval 0 32 v0 rfl rfl)
  have lt0 : ∀ x ∈ p0, x.block < W.heap.size := by obtain ⟨m, hm⟩ := h0; exact DataW.trod_lt m _ _ _ hm
  obtain ⟨z0, s0, m0, w0⟩ := rd_of_trod Ydcm.underlying32 Ydcm.underlying3 (by kernel_rfl) h0
  clear hA0 hval0
  refine (walk W a0 n0 c0 z0 s0 m0 w0).mono fun e W' ⟨he, bel⟩ => ?_
  subst he
  exact ⟨_, rfl, _, _, _, [], _, [], hW', trodAll_mk1 (shut_bool Ydcm.underlying4 _), (cons_mk (Below.trod laidOut (by kernel_rfl) (of_decide_eq_true (by kernel_rfl)) h0 bel lt0) trodAll_mk0), rfl, bel.frame _, fun h => by cases h⟩

theorem over : Rows.lawS930009KDecidesRow.holds Ydcm.pinned (OpenSpec.ofChange Rows.lawS930009KDecidesSpec) :=
  OpenClaim.holds_of_wide 9 Ydcm.f9 rfl rfl rfl rfl rfl rfl rfl ⟨rfl, rfl, rfl, rfl, rfl⟩ rfl rfl rfl rfl rfl (by kernel_rfl) Ydcm.func9 (by kernel_rfl)
    (of_decide_eq_true (by kernel_rfl)) (by unfold Func.isWrapper; first | (rw [if_pos (by decide +kernel)]; kernel_rfl) | (rw [if_neg (by decide +kernel)]; exact ⟨rfl, rfl⟩))
    (fun os started H enc _ => lifted os started H enc)

theorem proved : Rows.LawS930009KDecidesSaid := over
#print axioms proved
end Go.Proofs.Ymbrdc.lawS930009KDecides
