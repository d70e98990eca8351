/-
  LawS930009AExact.
-/
import Derived.Test.YmbrdaSingle
import Derived.Test.YmbrdaOpen
namespace Go.Proofs.Ymbrda.lawS930009AExact
open Go.ChangeShapes Go.WideShapes Go.ChangeAt Go.RowKit
set_option linter.unusedVariables false
set_option linter.unusedSimpArgs false

set_option maxHeartbeats 400000 in
theorem walk (w : World) (a0 : Int) (w0 : (Lit.int .i64 a0).wf = true) :
    Calls Ydam.prog 3 #[.int .i64 a0] w fun e w' => e = .returned (.bool true) ∧ Below w.heap.size w w' := by
  by_cases h : a0 < 0 ∨ 1048576 < a0
  · by_cases h0 : a0 < 0
    · go_enter Ydam.func3, Ydam.ntmps3
      go_wp2_with (go_at_call 15; refine (new_no _ _ h).mono ?_; rintro e w' ⟨rfl, rfl⟩)
      go_ret
      exact ⟨rfl, Below.refl _ _⟩
    · have h1 : 1048576 < a0 := by omega
      go_enter Ydam.func3, Ydam.ntmps3
      go_wp2_with (go_at_call 15; refine (new_no _ _ h).mono ?_; rintro e w' ⟨rfl, rfl⟩)
      go_ret
      exact ⟨rfl, Below.refl _ _⟩
  · have h0 : ¬ a0 < 0 := by omega
    have h1 : ¬ 1048576 < a0 := by omega
    clear h
    obtain ⟨n, rfl⟩ := Int.eq_ofNat_of_zero_le (by omega : 0 ≤ a0)
    have hn : n ≤ 1048576 := by omega
    go_enter Ydam.func3, Ydam.ntmps3
    go_wp2_with fail
    refine (new_yes n _ hn).mono ?_
    rintro e w1 ⟨b, bp, bs, rfl, hS, hb, hbp, hbs, hF⟩
    go_wp2_with (go_at_call 16; refine (single_yes _ _ _ n _ hn hS).mono ?_; rintro e w' ⟨rfl, rfl⟩)
    go_ret
    exact ⟨rfl, hF.below⟩

theorem own : ownKnob Ydam.prog.godebug = none := by kernel_rfl
theorem laidOut : laidOutB Ydam.prog = true := by kernel_rfl
set_option maxRecDepth 100000 in
theorem lifted (os : Os) (started : os.Started) (H : Type) (enc : TypeId × Value → H) :
    ReturnsInHanded {} Ydam.checked os 3 .any (Rows.lawS930009AExactSpec.pre6 enc Ydam.prog Ydam.f3 Rows.lawS930009AExactRow.domain false) (Rows.lawS930009AExactSpec.post enc Ydam.prog Ydam.f3 false true false false) := by
  refine returnsInHanded_of_change (C := Ydam.checked) own started (by kernel_rfl) Ydam.func3
    (ChangeSpec.witness6 (enc := enc) (C := Ydam.checked) false ⟨#[], #[.int .i64 0], []⟩ 8 (by kernel_rfl) (by kernel_rfl) (by kernel_rfl) (by kernel_rfl)) ?_
  intro W base args ds gs before hval0 hW hcnd _
  have hval : ∀ (j : Nat) t v, Ydam.f3.params[j]? = some t → args[j]? = some v → Value.okWide Ydam.prog W .any base t v := hval0
  have hW' := hW
  obtain ⟨p, q, hA0, hV, rfl, hfz, hnd⟩ := hW
  have hA : DataW.TrodAll enc Ydam.prog W 0 (fun _ => true) true Ydam.f3.params.toList args.toList ds p := hA0
  rw [Ydam.params3] at hA hval
  obtain ⟨v0, vs0, d0, ds0, p0, q0, hargs, rfl, rfl, h0, r0⟩ := trodAll_cons hA
  obtain ⟨rfl, rfl, rfl⟩ := trodAll_nil r0
  obtain rfl : args = #[v0] := by cases args; simp_all
  obtain ⟨rfl, rfl⟩ := trodVars_none hV
  obtain ⟨a0, rfl, rfl, rfl, w0⟩ := open_int Ydam.underlying3 (hval 0 3 v0 rfl rfl) h0
  clear hA0 hval0
  refine (walk W a0 w0).mono fun e W' ⟨he, bel⟩ => ?_
  subst he
  exact ⟨_, rfl, _, _, _, [], _, [], hW', trodAll_mk1 (shut_bool Ydam.underlying4 _), (cons_mk (shut_int Ydam.underlying3 w0) trodAll_mk0), rfl, bel.frame _, fun h => by cases h⟩

theorem over : Rows.lawS930009AExactRow.holds Ydam.pinned (OpenSpec.ofChange Rows.lawS930009AExactSpec) :=
  OpenClaim.holds_of_wide 3 Ydam.f3 rfl rfl rfl rfl rfl rfl rfl ⟨rfl, rfl, rfl, rfl, rfl⟩ rfl rfl rfl rfl rfl (by kernel_rfl) Ydam.func3 (by kernel_rfl)
    (of_decide_eq_true (by kernel_rfl)) (by unfold Func.isWrapper; first | (rw [if_pos (by decide +kernel)]; kernel_rfl) | (rw [if_neg (by decide +kernel)]; exact ⟨rfl, rfl⟩))
    (fun os started H enc _ => lifted os started H enc)

theorem proved : Rows.LawS930009AExactSaid := over
#print axioms proved
end Go.Proofs.Ymbrda.lawS930009AExact
