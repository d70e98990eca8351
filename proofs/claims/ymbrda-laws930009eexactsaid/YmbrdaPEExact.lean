/-
  LawS930009EExact.
-/
import Derived.Test.YmbrdaEspec
namespace Go.Proofs.Ymbrda.lawS930009EExact
open Go.ChangeShapes Go.WideShapes Go.ChangeAt Go.RowKit
set_option linter.unusedVariables false
set_option linter.unusedSimpArgs false

set_option maxHeartbeats 1000000 in
theorem walk (w : World) (a0 : Option Addr) (n0 c0 : Nat) (z0 : Nat → Int) (s0 : Rd .i64 w a0 n0 z0) (m0 : n0 ≤ maxLen) (w0 : ∀ i, i < n0 → (Lit.int .i64 (z0 i)).wf = true)
    (a1 : Option Addr) (n1 c1 : Nat) (z1 : Nat → Int) (s1 : Rd .i64 w a1 n1 z1) (m1 : n1 ≤ maxLen) (w1 : ∀ i, i < n1 → (Lit.int .i64 (z1 i)).wf = true) (a2 : Int) (w2 : (Lit.int .i64 a2).wf = true) :
    Calls Ydam.prog 14 #[.slice a0 n0 c0, .slice a1 n1 c1, .int .i64 a2] w fun e w' => e = .returned (.bool true) ∧ Below w.heap.size w w' := by
  unfold maxLen at m0 m1
  clear w2 w0 w1
  by_cases hlt : 1024 < n0
  · have hd : decide ((1024 : Int) < (n0 : Int)) = true := by simp; omega
    go_enter Ydam.func14, Ydam.ntmps14
    go_wp2_with fail
    go_ret
    exact ⟨rfl, Below.refl _ _⟩
  · have hd : decide ((1024 : Int) < (n0 : Int)) = false := by simp; omega
    by_cases hlt1 : 1024 < n1
    · have hd1 : decide ((1024 : Int) < (n1 : Int)) = true := by simp; omega
      go_enter Ydam.func14, Ydam.ntmps14
      go_wp2_with fail
      go_ret
      exact ⟨rfl, Below.refl _ _⟩
    · have hd1 : decide ((1024 : Int) < (n1 : Int)) = false := by simp; omega
      go_enter Ydam.func14, Ydam.ntmps14
      go_wp2_with fail
      have hF : Fr [] w (w.alloc (.cells #[.slice a0 n0 c0, .slice a1 n1 c1, .int .i64 a2] 32)) := (Fr.refl _ _).alloc _
      have hV : SV (w.alloc (.cells #[.slice a0 n0 c0, .slice a1 n1 c1, .int .i64 a2] 32)) w.heap.size a0 a1 n0 c0 n1 c1 z0 z1 a2 :=
        ⟨by simp, by simp, by simp, hF.rd0 s0, hF.rd0 s1⟩
      refine (valid_any w.heap.size a0 a1 n0 c0 n1 c1 z0 z1 a2 _ (by omega) (by omega) hV).mono ?_
      rintro e w1 ⟨⟨r, rfl, hr⟩, hF1⟩
      have hF2 := hF.trans hF1
      go_wp2_with fail
      refine (espec_any a0 a1 n0 c0 n1 c1 z0 z1 a2 _ (by omega) (by omega) (hF2.rd0 s0) (hF2.rd0 s1)).mono ?_
      rintro e w2 ⟨⟨r2, rfl, hr2⟩, hF3⟩
      have hF4 := hF2.trans hF3
      have hrr : r = r2 := by
        cases r <;> cases r2 <;> simp_all
      subst hrr
      clear hr hr2
      go_wp2_with fail
      go_ret
      exact ⟨by simp, hF4.below⟩

theorem own : ownKnob Ydam.prog.godebug = none := by kernel_rfl
theorem laidOut : laidOutB Ydam.prog = true := by kernel_rfl
set_option maxRecDepth 100000 in
theorem lifted (os : Os) (started : os.Started) (H : Type) (enc : TypeId × Value → H) :
    ReturnsInHanded {} Ydam.checked os 14 .any (Rows.lawS930009EExactSpec.pre6 enc Ydam.prog Ydam.f14 Rows.lawS930009EExactRow.domain false) (Rows.lawS930009EExactSpec.post enc Ydam.prog Ydam.f14 false true false false) := by
  refine returnsInHanded_of_change (C := Ydam.checked) own started (by kernel_rfl) Ydam.func14
    (ChangeSpec.witness6 (enc := enc) (C := Ydam.checked) false ⟨#[], #[.slice none 0 0, .slice none 0 0, .int .i64 0], []⟩ 8 (by kernel_rfl) (by kernel_rfl) (by kernel_rfl) (by kernel_rfl)) ?_
  intro W base args ds gs before hval0 hW hcnd _
  have hval : ∀ (j : Nat) t v, Ydam.f14.params[j]? = some t → args[j]? = some v → Value.okWide Ydam.prog W .any base t v := hval0
  have hW' := hW
  obtain ⟨p, q, hA0, hV, rfl, hfz, hnd⟩ := hW
  have hA : DataW.TrodAll enc Ydam.prog W 0 (fun _ => true) true Ydam.f14.params.toList args.toList ds p := hA0
  rw [Ydam.params14] at hA hval
  obtain ⟨v0, vs0, d0, ds0, p0, q0, hargs, rfl, rfl, h0, r0⟩ := trodAll_cons hA
  obtain ⟨v1, vs1, d1, ds1, p1, q1, rfl, rfl, rfl, h1, r1⟩ := trodAll_cons r0
  obtain ⟨v2, vs2, d2, ds2, p2, q2, rfl, rfl, rfl, h2, r2⟩ := trodAll_cons r1
  obtain ⟨rfl, rfl, rfl⟩ := trodAll_nil r2
  obtain rfl : args = #[v0, v1, v2] := by cases args; simp_all
  obtain ⟨rfl, rfl⟩ := trodVars_none hV
  obtain ⟨a0, n0, c0, rfl⟩ := okWide_slice Ydam.underlying30 (hval 0 30 v0 rfl rfl)
  have lt0 : ∀ x ∈ p0, x.block < W.heap.size := by obtain ⟨m, hm⟩ := h0; exact DataW.trod_lt m _ _ _ hm
  obtain ⟨z0, s0, m0, w0⟩ := rd_of_trod Ydam.underlying30 Ydam.underlying3 (by kernel_rfl) h0
  obtain ⟨a1, n1, c1, rfl⟩ := okWide_slice Ydam.underlying30 (hval 1 30 v1 rfl rfl)
  have lt1 : ∀ x ∈ p1, x.block < W.heap.size := by obtain ⟨m, hm⟩ := h1; exact DataW.trod_lt m _ _ _ hm
  obtain ⟨z1, s1, m1, w1⟩ := rd_of_trod Ydam.underlying30 Ydam.underlying3 (by kernel_rfl) h1
  obtain ⟨a2, rfl, rfl, rfl, w2⟩ := open_int Ydam.underlying3 (hval 2 3 v2 rfl rfl) h2
  clear hA0 hval0
  refine (walk W a0 n0 c0 z0 s0 m0 w0 a1 n1 c1 z1 s1 m1 w1 a2 w2).mono fun e W' ⟨he, bel⟩ => ?_
  subst he
  exact ⟨_, rfl, _, _, _, [], _, [], hW', trodAll_mk1 (shut_bool Ydam.underlying4 _), (cons_mk (Below.trod laidOut (by kernel_rfl) (of_decide_eq_true (by kernel_rfl)) h0 bel lt0) (cons_mk (Below.trod laidOut (by kernel_rfl) (of_decide_eq_true (by kernel_rfl)) h1 bel lt1) (cons_mk (shut_int Ydam.underlying3 w2) trodAll_mk0))), rfl, bel.frame _, fun h => by cases h⟩

theorem over : Rows.lawS930009EExactRow.holds Ydam.pinned (OpenSpec.ofChange Rows.lawS930009EExactSpec) :=
  OpenClaim.holds_of_wide 14 Ydam.f14 rfl rfl rfl rfl rfl rfl rfl ⟨rfl, rfl, rfl, rfl, rfl⟩ rfl rfl rfl rfl rfl (by kernel_rfl) Ydam.func14 (by kernel_rfl)
    (of_decide_eq_true (by kernel_rfl)) (by unfold Func.isWrapper; first | (rw [if_pos (by decide +kernel)]; kernel_rfl) | (rw [if_neg (by decide +kernel)]; exact ⟨rfl, rfl⟩))
    (fun os started H enc _ => lifted os started H enc)

theorem proved : Rows.LawS930009EExactSaid := over
#print axioms proved
end Go.Proofs.Ymbrda.lawS930009EExact
