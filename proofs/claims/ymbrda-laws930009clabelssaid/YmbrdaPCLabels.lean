/-
  LawS930009CLabels.
-/
import Derived.Test.YmbrdaCanon
namespace Go.Proofs.Ymbrda.lawS930009CLabels
open Go.ChangeShapes Go.WideShapes Go.ChangeAt Go.RowKit
set_option linter.unusedVariables false
set_option linter.unusedSimpArgs false

set_option maxHeartbeats 1000000 in
set_option maxRecDepth 100000 in
theorem walk (w : World) (a0 : Option Addr) (n0 c0 : Nat) (z0 : Nat → Int) (s0 : Rd .u16 w a0 n0 z0) (m0 : n0 ≤ maxLen) (w0 : ∀ i, i < n0 → (Lit.int .u16 (z0 i)).wf = true) (a1 : Int) (w1 : (Lit.int .i64 a1).wf = true) :
    Calls Ydam.prog 10 #[.slice a0 n0 c0, .int .i64 a1] w fun e w' => e = .returned (.bool true) ∧ Below w.heap.size w w' := by
  unfold maxLen at m0
  clear w1
  by_cases hlt : 1024 < n0
  · have hd : decide ((1024 : Int) < (n0 : Int)) = true := by simp; omega
    go_enter Ydam.func10, Ydam.ntmps10
    go_wp2_with fail
    go_ret
    exact ⟨rfl, Below.refl _ _⟩
  · have hd : decide ((1024 : Int) < (n0 : Int)) = false := by simp; omega
    have hcan := cq_can n0 z0
    go_enter Ydam.func10, Ydam.ntmps10
    go_wp2_with fail
    refine (clabels_any n0 c0 a0 z0 _ s0 (by omega) w0).mono ?_
    rintro e w1 ⟨bl, rfl, hA, hbl, hF⟩
    go_wp2_with fail
    refine (fromLabels_can n0 n0 _ (rt n0 (cq z0)) _ (by omega) hcan hA.rd).mono ?_
    rintro e w2 ⟨b, bp, bs, hY⟩
    obtain rfl := hY.ret
    have hS := hY.sets
    have FL := hY.inv.forest
    have hA2 := hY.fr.aRow hA (by simp)
    have hF2 := hF.trans hY.fr
    have hcr : ∀ x, x < n0 → rt n0 (rt n0 (cq z0)) x = rt n0 (cq z0) x := fun x hx => hcan.rt FL x hx
    have Hcr := hide hcr
    clear hcr hY hF hA
    go_wp2_with fail
    go_loopw [9] (fun v wr => ∃ i : Int, -1 ≤ i ∧ i ≤ n0 + 1 ∧ v = .int .i64 i ∧ SetsN wr b bp bs n0 (rt n0 (cq z0)) (flS (rt n0 (cq z0)) n0) (flC n0 (rt n0 (cq z0)) n0) ∧ ARow wr bl n0 (fun i => (rt n0 (cq z0) i : Int)) ∧ Fr [] w wr) (fun v _ => ((n0 : Int) + 1 - intOf v).toNat)
    case atStart => exact ⟨-1, by omega, by omega, rfl, hS, hA2, hF2⟩
    case round =>
      clear hS hA2 hF2
      obtain ⟨i, hi1, hi2, rfl, hS, hA2, hF2⟩ := hrel
      by_cases hi : i ≤ n0
      · have hdi := dec_true hi
        go_wp2_with fail
        refine (same_any b n0 n0 _ (rt n0 (cq z0)) _ a1 i _ hS.c0 hS.hp.rd FL).mono ?_
        rintro e w4 ⟨rfl, rfl⟩
        by_cases g1 : a1 < 0
        · have e1 : sameB n0 (rt n0 (cq z0)) a1 i = false := by simp [sameB, inb]; omega
          have e2 : inb2 n0 a1 i = false := by simp [inb2, inb]; omega
          rw [e1, e2]
          clear e1 e2
          have hdd := dec_true g1
          go_wp2_with fail
          go_roundw
          case rel => exact ⟨i + 1, by omega, by omega, rfl, hS, hA2, hF2⟩
          case measure => simp [intOf] <;> omega
        · by_cases g2 : (n0 : Int) ≤ a1
          · have e1 : sameB n0 (rt n0 (cq z0)) a1 i = false := by simp [sameB, inb]; omega
            have e2 : inb2 n0 a1 i = false := by simp [inb2, inb]; omega
            rw [e1, e2]
            clear e1 e2
            have hdd := dec_true g2
            go_wp2_with fail
            go_roundw
            case rel => exact ⟨i + 1, by omega, by omega, rfl, hS, hA2, hF2⟩
            case measure => simp [intOf] <;> omega
          · by_cases g3 : i < 0
            · have e1 : sameB n0 (rt n0 (cq z0)) a1 i = false := by simp [sameB, inb]; omega
              have e2 : inb2 n0 a1 i = false := by simp [inb2, inb]; omega
              rw [e1, e2]
              clear e1 e2
              have hdd := dec_true g3
              go_wp2_with fail
              go_roundw
              case rel => exact ⟨i + 1, by omega, by omega, rfl, hS, hA2, hF2⟩
              case measure => simp [intOf] <;> omega
            · by_cases g4 : (n0 : Int) ≤ i
              · have e1 : sameB n0 (rt n0 (cq z0)) a1 i = false := by simp [sameB, inb]; omega
                have e2 : inb2 n0 a1 i = false := by simp [inb2, inb]; omega
                rw [e1, e2]
                clear e1 e2
                have hdd := dec_true g4
                go_wp2_with fail
                go_roundw
                case rel => exact ⟨i + 1, by omega, by omega, rfl, hS, hA2, hF2⟩
                case measure => simp [intOf] <;> omega
              · obtain ⟨x, rfl⟩ := Int.eq_ofNat_of_zero_le (by omega : 0 ≤ a1)
                obtain ⟨y, rfl⟩ := Int.eq_ofNat_of_zero_le (by omega : 0 ≤ i)
                have hx : x < n0 := by omega
                have hy : y < n0 := by omega
                have e2 : inb2 n0 (x : Int) (y : Int) = true := by simp [inb2, inb]; omega
                rw [sameB_nat _ hx hy, e2, Hcr.out x hx, Hcr.out y hy]
                have cx := hA2.cell x hx
                have cy := hA2.cell y hy
                have lx : (x : Int) < (n0 : Int) := by omega
                have ly : (y : Int) < (n0 : Int) := by omega
                clear e2
                generalize rt n0 (cq z0) x = X at *
                generalize rt n0 (cq z0) y = Y at *
                by_cases e : X = Y
                · subst e
                  have ee := beq_self X
                  have e3 : decide (X = X) = true := by simp
                  rw [e3]
                  go_wp2_with fail
                  go_quiet (fail)
                  go_wp2_with fail
                  go_roundw
                  case rel => exact ⟨y + 1, by omega, by omega, rfl, SetsAt.drewN hS _, hA2.drewN _, hF2.drewN _⟩
                  case measure => simp [intOf] <;> omega
                · have ee := beq_nat e
                  rw [dec_false e]
                  go_wp2_with fail
                  go_quiet (fail)
                  go_wp2_with fail
                  go_roundw
                  case rel => exact ⟨y + 1, by omega, by omega, rfl, SetsAt.drewN hS _, hA2.drewN _, hF2.drewN _⟩
                  case measure => simp [intOf] <;> omega
      · have hdi := dec_false hi
        go_wp2_with fail
        go_ret
        exact ⟨rfl, hF2.below⟩

theorem own : ownKnob Ydam.prog.godebug = none := by kernel_rfl
theorem laidOut : laidOutB Ydam.prog = true := by kernel_rfl
set_option maxRecDepth 100000 in
theorem lifted (os : Os) (started : os.Started) (H : Type) (enc : TypeId × Value → H) :
    ReturnsInHanded {} Ydam.checked os 10 .any (Rows.lawS930009CLabelsSpec.pre6 enc Ydam.prog Ydam.f10 Rows.lawS930009CLabelsRow.domain false) (Rows.lawS930009CLabelsSpec.post enc Ydam.prog Ydam.f10 false true false false) := by
  refine returnsInHanded_of_change (C := Ydam.checked) own started (by kernel_rfl) Ydam.func10
    (ChangeSpec.witness6 (enc := enc) (C := Ydam.checked) false ⟨#[], #[.slice none 0 0, .int .i64 0], []⟩ 8 (by kernel_rfl) (by kernel_rfl) (by kernel_rfl) (by kernel_rfl)) ?_
  intro W base args ds gs before hval0 hW hcnd _
  have hval : ∀ (j : Nat) t v, Ydam.f10.params[j]? = some t → args[j]? = some v → Value.okWide Ydam.prog W .any base t v := hval0
  have hW' := hW
  obtain ⟨p, q, hA0, hV, rfl, hfz, hnd⟩ := hW
  have hA : DataW.TrodAll enc Ydam.prog W 0 (fun _ => true) true Ydam.f10.params.toList args.toList ds p := hA0
  rw [Ydam.params10] at hA hval
  obtain ⟨v0, vs0, d0, ds0, p0, q0, hargs, rfl, rfl, h0, r0⟩ := trodAll_cons hA
  obtain ⟨v1, vs1, d1, ds1, p1, q1, rfl, rfl, rfl, h1, r1⟩ := trodAll_cons r0
  obtain ⟨rfl, rfl, rfl⟩ := trodAll_nil r1
  obtain rfl : args = #[v0, v1] := by cases args; simp_all
  obtain ⟨rfl, rfl⟩ := trodVars_none hV
  obtain ⟨a0, n0, c0, rfl⟩ := okWide_slice Ydam.underlying58 (hval 0 58 v0 rfl rfl)
  have lt0 : ∀ x ∈ p0, x.block < W.heap.size := by obtain ⟨m, hm⟩ := h0; exact DataW.trod_lt m _ _ _ hm
  obtain ⟨z0, s0, m0, w0⟩ := rd_of_trod Ydam.underlying58 Ydam.underlying29 (by kernel_rfl) h0
  obtain ⟨a1, rfl, rfl, rfl, w1⟩ := open_int Ydam.underlying3 (hval 1 3 v1 rfl rfl) h1
  clear hA0 hval0
  refine (walk W a0 n0 c0 z0 s0 m0 w0 a1 w1).mono fun e W' ⟨he, bel⟩ => ?_
  subst he
  exact ⟨_, rfl, _, _, _, [], _, [], hW', trodAll_mk1 (shut_bool Ydam.underlying4 _), (cons_mk (Below.trod laidOut (by kernel_rfl) (of_decide_eq_true (by kernel_rfl)) h0 bel lt0) (cons_mk (shut_int Ydam.underlying3 w1) trodAll_mk0)), rfl, bel.frame _, fun h => by cases h⟩

theorem over : Rows.lawS930009CLabelsRow.holds Ydam.pinned (OpenSpec.ofChange Rows.lawS930009CLabelsSpec) :=
  OpenClaim.holds_of_wide 10 Ydam.f10 rfl rfl rfl rfl rfl rfl rfl ⟨rfl, rfl, rfl, rfl, rfl⟩ rfl rfl rfl rfl rfl (by kernel_rfl) Ydam.func10 (by kernel_rfl)
    (of_decide_eq_true (by kernel_rfl)) (by unfold Func.isWrapper; first | (rw [if_pos (by decide +kernel)]; kernel_rfl) | (rw [if_neg (by decide +kernel)]; exact ⟨rfl, rfl⟩))
    (fun os started H enc _ => lifted os started H enc)

theorem proved : Rows.LawS930009CLabelsSaid := over
#print axioms proved
end Go.Proofs.Ymbrda.lawS930009CLabels
