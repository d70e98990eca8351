/-
  LawS930009KTweak.
-/
import Derived.Test.YmbrdcFirst
namespace Go.Proofs.Ymbrdc.lawS930009KTweak
open Go.ChangeShapes Go.WideShapes Go.ChangeAt Go.RowKit
set_option linter.unusedVariables false
set_option linter.unusedSimpArgs false

set_option maxHeartbeats 1000000 in
set_option maxRecDepth 100000 in
theorem walk (w : World) (a0 : Option Addr) (n0 c0 : Nat) (z0 : Nat → Int) (s0 : Rd .i64 w a0 n0 z0) (m0 : n0 ≤ maxLen) (w0 : ∀ i, i < n0 → (Lit.int .i64 (z0 i)).wf = true) (a1 : Int) (w1 : (Lit.int .u64 a1).wf = true) (a2 : Int) (w2 : (Lit.int .u64 a2).wf = true) :
    Calls Ydcm.prog 10 #[.slice a0 n0 c0, .int .u64 a1, .int .u64 a2] w fun e w' => e = .returned (.bool true) ∧ Below w.heap.size w w' := by
  unfold maxLen at m0
  have b1 := bd_u64 w1
  have b2 := bd_u64 w2
  clear w1 w2
  by_cases hlt : 1024 < n0
  · have hd : decide ((1024 : Int) < (n0 : Int)) = true := by simp; omega
    go_enter Ydcm.func10, Ydcm.ntmps10
    go_wp2_with fail
    go_ret
    exact ⟨rfl, Below.refl _ _⟩
  · have hd : decide ((1024 : Int) < (n0 : Int)) = false := by simp; omega
    go_enter Ydcm.func10, Ydcm.ntmps10
    go_wp2_with fail
    refine (kfirsts_any n0 c0 a0 z0 _ s0 (by omega)).mono ?_
    rintro e w1 ⟨bl, rfl, hA, hbl, hF⟩
    go_upto_if 19 with fail
    go_cut [8] from 18 to 33 (fun v8 wr => v8 = .int .i64 n0 ∧ ∃ z : Nat → Int, ARow wr bl n0 z ∧ Fr [] w wr)
    case first =>
      by_cases h0 : 0 < n0
      · have hp : (0 : Int) < (n0 : Int) := by omega
        have hd0 := dec_true hp
        have q0 : 0 ≤ a1 % (n0 : Int) := emod_lo _ (by omega)
        have q1 : a1 % (n0 : Int) < (n0 : Int) := emod_hi _ (by omega)
        have q2 : 0 ≤ a2 % ((n0 : Int) + 2) := emod_lo _ (by omega)
        have q3 : a2 % ((n0 : Int) + 2) < (n0 : Int) + 2 := emod_hi _ (by omega)
        obtain ⟨x, hx⟩ : ∃ x : Nat, a1 % (n0 : Int) = x := Int.eq_ofNat_of_zero_le q0
        have x1 : x < n0 := by omega
        have cx := hA.cell x x1
        have fx := hA.frozen x
        go_wp2_with fail
        go_region
        go_wp2_with fail
        go_meet
        case rel => exact ⟨rfl, _, (hA.set _ _).drew, (hF.setCell _ (.inr hbl) _).drew⟩
      · have hp : ¬ (0 : Int) < (n0 : Int) := by omega
        have hd0 := dec_false hp
        go_wp2_with fail
        go_meet
        case rel => exact ⟨rfl, _, hA, hF⟩
    case rest =>
      clear hA hF b1 b2
      obtain ⟨rfl, z, hA, hF⟩ := hcut
      go_wp2_with fail
      refine (fromLabels_any n0 n0 _ z _ (by omega) hA.rd).mono ?_
      rintro e w1 (⟨_, hc, b, bp, bs, hY⟩ | ⟨hno, rfl, hF1⟩)
      · obtain rfl := hY.ret
        have hF1 := hY.fr
        have hA1 := hF1.aRow hA (by simp)
        go_wp2_with fail
        refine (kcanon_any n0 n0 _ z _ hA1.rd (by omega)).mono ?_
        rintro e w2 ⟨⟨r, rfl, hr⟩, hF2⟩
        have hr : r = true := hr.2 hc
        subst hr
        have hF3 := (hF.trans hF1).trans hF2
        have hA2 := hF2.aRow hA1 (by simp)
        go_wp2_with fail
        refine (kforest_yes b bp bs n0 n0 _ (fun i => (z i).toNat) _ (SetsAt.fr0 hY.sets hF2) (hA2.rd.congr (fun i hi => by have := (hc i hi).1; omega)) (by omega)).mono ?_
        rintro e w3 ⟨rfl, hF4⟩
        go_wp2_with fail
        go_ret
        exact ⟨rfl, (hF3.trans hF4).below⟩
      · have hno : ¬ CanZ n0 z := fun h => hno ⟨by omega, h⟩
        have hA1 := hF1.aRow hA (by simp)
        go_wp2_with fail
        refine (kcanon_any n0 n0 _ z _ hA1.rd (by omega)).mono ?_
        rintro e w2 ⟨⟨r, rfl, hr⟩, hF2⟩
        have hr : r = false := by
          cases r
          · rfl
          · exact absurd (hr.1 rfl) hno
        subst hr
        go_wp2_with fail
        go_ret
        exact ⟨by simp, ((hF.trans hF1).trans hF2).below⟩

theorem own : ownKnob Ydcm.prog.godebug = none := by kernel_rfl
theorem laidOut : laidOutB Ydcm.prog = true := by kernel_rfl
set_option maxRecDepth 100000 in
theorem lifted (os : Os) (started : os.Started) (H : Type) (enc : TypeId × Value → H) :
    ReturnsInHanded {} Ydcm.checked os 10 .any (Rows.lawS930009KTweakSpec.pre6 enc Ydcm.prog Ydcm.f10 Rows.lawS930009KTweakRow.domain false) (Rows.lawS930009KTweakSpec.post enc Ydcm.prog Ydcm.f10 false true false false) := by
  refine returnsInHanded_of_change (C := Ydcm.checked) own started (by kernel_rfl) Ydcm.func10
    (ChangeSpec.witness6 (enc := enc) (C := Ydcm.checked) false ⟨#[], #[.slice none 0 0, .int .u64 0, .int .u64 0], []⟩ 8 (by kernel_rfl) (by kernel_rfl) (by kernel_rfl) (by kernel_rfl)) ?_
  intro W base args ds gs before hval0 hW hcnd _
  have hval : ∀ (j : Nat) t v, Ydcm.f10.params[j]? = some t → args[j]? = some v → Value.okWide Ydcm.prog W .any base t v := hval0
  have hW' := hW
  obtain ⟨p, q, hA0, hV, rfl, hfz, hnd⟩ := hW
  have hA : DataW.TrodAll enc Ydcm.prog W 0 (fun _ => true) true Ydcm.f10.params.toList args.toList ds p := hA0
  rw [Ydcm.params10] at hA hval
  obtain ⟨v0, vs0, d0, ds0, p0, q0, hargs, rfl, rfl, h0, r0⟩ := trodAll_cons hA
  obtain ⟨v1, vs1, d1, ds1, p1, q1, rfl, rfl, rfl, h1, r1⟩ := trodAll_cons r0
  obtain ⟨v2, vs2, d2, ds2, p2, q2, rfl, rfl, rfl, h2, r2⟩ := trodAll_cons r1
  obtain ⟨rfl, rfl, rfl⟩ := trodAll_nil r2
  obtain rfl : args = #[v0, v1, v2] := by cases args; simp_all
  obtain ⟨rfl, rfl⟩ := trodVars_none hV
  obtain ⟨a0, n0, c0, rfl⟩ := okWide_slice Ydcm.underlying32 (hval 0 32 v0 rfl rfl)
  have lt0 : ∀ x ∈ p0, x.block < W.heap.size := by obtain ⟨m, hm⟩ := h0; exact DataW.trod_lt m _ _ _ hm
  obtain ⟨z0, s0, m0, w0⟩ := rd_of_trod Ydcm.underlying32 Ydcm.underlying3 (by kernel_rfl) h0
  obtain ⟨a1, rfl, rfl, rfl, w1⟩ := open_int Ydcm.underlying33 (hval 1 33 v1 rfl rfl) h1
  obtain ⟨a2, rfl, rfl, rfl, w2⟩ := open_int Ydcm.underlying33 (hval 2 33 v2 rfl rfl) h2
  clear hA0 hval0
  refine (walk W a0 n0 c0 z0 s0 m0 w0 a1 w1 a2 w2).mono fun e W' ⟨he, bel⟩ => ?_
  subst he
  exact ⟨_, rfl, _, _, _, [], _, [], hW', trodAll_mk1 (shut_bool Ydcm.underlying4 _), (cons_mk (Below.trod laidOut (by kernel_rfl) (of_decide_eq_true (by kernel_rfl)) h0 bel lt0) (cons_mk (shut_int Ydcm.underlying33 w1) (cons_mk (shut_int Ydcm.underlying33 w2) trodAll_mk0))), rfl, bel.frame _, fun h => by cases h⟩

theorem over : Rows.lawS930009KTweakRow.holds Ydcm.pinned (OpenSpec.ofChange Rows.lawS930009KTweakSpec) :=
  OpenClaim.holds_of_wide 10 Ydcm.f10 rfl rfl rfl rfl rfl rfl rfl ⟨rfl, rfl, rfl, rfl, rfl⟩ rfl rfl rfl rfl rfl (by kernel_rfl) Ydcm.func10 (by kernel_rfl)
    (of_decide_eq_true (by kernel_rfl)) (by unfold Func.isWrapper; first | (rw [if_pos (by decide +kernel)]; kernel_rfl) | (rw [if_neg (by decide +kernel)]; exact ⟨rfl, rfl⟩))
    (fun os started H enc _ => lifted os started H enc)

theorem proved : Rows.LawS930009KTweakSaid := over
#print axioms proved
end Go.Proofs.Ymbrdc.lawS930009KTweak
