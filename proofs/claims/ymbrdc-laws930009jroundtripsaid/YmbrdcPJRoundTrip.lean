/-
  LawS930009JRoundTrip.
-/
import Derived.Test.YmbrdcCanon
namespace Go.Proofs.Ymbrdc.lawS930009JRoundTrip
open Go.ChangeShapes Go.WideShapes Go.ChangeAt Go.RowKit
set_option linter.unusedVariables false
set_option linter.unusedSimpArgs false

set_option maxHeartbeats 1000000 in
theorem walk (w : World) (a0 : Option Addr) (n0 c0 : Nat) (z0 : Nat → Int) (s0 : Rd .u64 w a0 n0 z0) (m0 : n0 ≤ maxLen) (w0 : ∀ i, i < n0 → (Lit.int .u64 (z0 i)).wf = true) :
    Calls Ydcm.prog 6 #[.slice a0 n0 c0] w fun e w' => e = .returned (.bool true) ∧ Below w.heap.size w w' := by
  unfold maxLen at m0
  by_cases hlt : 1024 < n0
  · have hd : decide ((1024 : Int) < (n0 : Int)) = true := by simp; omega
    go_enter Ydcm.func6, Ydcm.ntmps6
    go_wp2_with fail
    go_ret
    exact ⟨rfl, Below.refl _ _⟩
  · have hd : decide ((1024 : Int) < (n0 : Int)) = false := by simp; omega
    have hmk := mk n0 (by omega)
    go_enter Ydcm.func6, Ydcm.ntmps6
    go_wp2_with fail
    have hF : Fr [] w (w.alloc (.cells (row n0 fun _ => 0) 3)) := (Fr.refl _ _).alloc _
    go_loopw [4] (fun v wr => ∃ k : Nat, k ≤ n0 ∧ v = .int .i64 k ∧ ARow wr w.heap.size n0 (fil k (fun i => (rt n0 (cq z0) i : Int)) fun _ => 0) ∧ Fr [] w wr) (fun v _ => n0 - (intOf v).toNat)
    case atStart => exact ⟨0, Nat.zero_le _, rfl, (ARow.new w n0 fun _ => 0).congr (by simp [fil]), hF⟩
    case round =>
      clear hF
      obtain ⟨k, hk, rfl, hA, hF⟩ := hrel
      by_cases hlt : k < n0
      · obtain ⟨b0, o0, rfl, h0⟩ := (hF.rd0 s0).at (by omega)
        have k0 := h0 k hlt
        have bz := bd_u64 (w0 k hlt)
        have hq := cq_le z0 k
        have q0 : 0 ≤ z0 k % ((k : Int) + 1) := emod_lo _ (by omega)
        have q1 : z0 k % ((k : Int) + 1) < (k : Int) + 1 := emod_hi _ (by omega)
        have Hc := hide (cq_int z0 k bz.1)
        have ck := hA.cell k hlt
        have fk := hA.frozen k
        clear h0
        go_upto_region 8 with fail
        rw [Hc.out]
        clear q0 q1
        by_cases e : cq z0 k = k
        · have ee : ((cq z0 k : Int) == (k : Int)) = true := by simp; omega
          have E := hide e
          clear e
          go_wp2_with fail
          go_roundw
          case rel => exact ⟨k + 1, by omega, by go_num, hA.fill _ (by rw [cq_root z0 k E.out]), hF.setCell _ (.inr (Nat.le_refl _)) _⟩
          case measure => simp [intOf] <;> omega
        · have ee := beq_nat e
          have cj := hA.cell (cq z0 k) (by omega)
          rw [fil_lt _ _ (by omega)] at cj
          have lq : (cq z0 k : Int) < (n0 : Int) := by omega
          go_wp2_with fail
          go_roundw
          case rel => exact ⟨k + 1, by omega, by go_num, hA.fill _ (by rw [← cq_hang z0 k hlt]), hF.setCell _ (.inr (Nat.le_refl _)) _⟩
          case measure => simp [intOf] <;> omega
      · have hA : ARow wr w.heap.size n0 (fun i => (rt n0 (cq z0) i : Int)) := hA.congr (fun i hi => fil_lt _ _ (by omega))
        have hcan := cq_can n0 z0
        go_wp2_with fail
        refine (fromLabels_can n0 n0 _ (rt n0 (cq z0)) _ (by omega) hcan hA.rd).mono ?_
        rintro e w2 ⟨b, bp, bs, hY⟩
        obtain rfl := hY.ret
        have hS := hY.sets
        have hA2 := hY.fr.aRow hA (by simp)
        have hF2 := hF.trans hY.fr
        go_wp2_with fail
        refine (labels_any b n0 n0 _ (rt n0 (cq z0)) _ _ (by omega) hS.c0 hS.hp.rd hY.inv.forest).mono ?_
        rintro e w3 ⟨bl, rfl, hL, hbl, hF3⟩
        have hL := hL.congr (g := fun i => (rt n0 (cq z0) i : Int)) (fun i hi => by rw [can_lab_eq hcan hY.inv.forest i hi])
        have hA3 := hF3.aRow hA2 (by simp)
        have hF4 := hF2.trans hF3
        go_wp2_with fail
        refine (jeq_any _ _ n0 n0 n0 n0 _ _ _ (by omega) (by omega) hL.rd hA3.rd).mono ?_
        rintro e w4 ⟨⟨r, rfl, hr⟩, hF5⟩
        have hr : r = true := hr.2 ⟨rfl, fun _ _ => rfl⟩
        subst hr
        go_wp2_with fail
        go_ret
        exact ⟨rfl, (hF4.trans hF5).below⟩

theorem own : ownKnob Ydcm.prog.godebug = none := by kernel_rfl
theorem laidOut : laidOutB Ydcm.prog = true := by kernel_rfl
set_option maxRecDepth 100000 in
theorem lifted (os : Os) (started : os.Started) (H : Type) (enc : TypeId × Value → H) :
    ReturnsInHanded {} Ydcm.checked os 6 .any (Rows.lawS930009JRoundTripSpec.pre6 enc Ydcm.prog Ydcm.f6 Rows.lawS930009JRoundTripRow.domain false) (Rows.lawS930009JRoundTripSpec.post enc Ydcm.prog Ydcm.f6 false true false false) := by
  refine returnsInHanded_of_change (C := Ydcm.checked) own started (by kernel_rfl) Ydcm.func6
    (ChangeSpec.witness6 (enc := enc) (C := Ydcm.checked) false ⟨#[], #[.slice none 0 0], []⟩ 8 (by kernel_rfl) (by kernel_rfl) (by kernel_rfl) (by kernel_rfl)) ?_
  intro W base args ds gs before hval0 hW hcnd _
  have hval : ∀ (j : Nat) t v, Ydcm.f6.params[j]? = some t → args[j]? = some v → Value.okWide Ydcm.prog W .any base t v := hval0
  have hW' := hW
  obtain ⟨p, q, hA0, hV, rfl, hfz, hnd⟩ := hW
  have hA : DataW.TrodAll enc Ydcm.prog W 0 (fun _ => true) true Ydcm.f6.params.toList args.toList ds p := hA0
  rw [Ydcm.params6] at hA hval
  obtain ⟨v0, vs0, d0, ds0, p0, q0, hargs, rfl, rfl, h0, r0⟩ := trodAll_cons hA
  obtain ⟨rfl, rfl, rfl⟩ := trodAll_nil r0
  obtain rfl : args = #[v0] := by cases args; simp_all
  obtain ⟨rfl, rfl⟩ := trodVars_none hV
  obtain ⟨a0, n0, c0, rfl⟩ := okWide_slice Ydcm.underlying41 (hval 0 41 v0 rfl rfl)
  have lt0 : ∀ x ∈ p0, x.block < W.heap.size := by obtain ⟨m, hm⟩ := h0; exact DataW.trod_lt m _ _ _ hm
  obtain ⟨z0, s0, m0, w0⟩ := rd_of_trod Ydcm.underlying41 Ydcm.underlying33 (by kernel_rfl) h0
  clear hA0 hval0
  refine (walk W a0 n0 c0 z0 s0 m0 w0).mono fun e W' ⟨he, bel⟩ => ?_
  subst he
  exact ⟨_, rfl, _, _, _, [], _, [], hW', trodAll_mk1 (shut_bool Ydcm.underlying4 _), (cons_mk (Below.trod laidOut (by kernel_rfl) (of_decide_eq_true (by kernel_rfl)) h0 bel lt0) trodAll_mk0), rfl, bel.frame _, fun h => by cases h⟩

theorem over : Rows.lawS930009JRoundTripRow.holds Ydcm.pinned (OpenSpec.ofChange Rows.lawS930009JRoundTripSpec) :=
  OpenClaim.holds_of_wide 6 Ydcm.f6 rfl rfl rfl rfl rfl rfl rfl ⟨rfl, rfl, rfl, rfl, rfl⟩ rfl rfl rfl rfl rfl (by kernel_rfl) Ydcm.func6 (by kernel_rfl)
    (of_decide_eq_true (by kernel_rfl)) (by unfold Func.isWrapper; first | (rw [if_pos (by decide +kernel)]; kernel_rfl) | (rw [if_neg (by decide +kernel)]; exact ⟨rfl, rfl⟩))
    (fun os started H enc _ => lifted os started H enc)

theorem proved : Rows.LawS930009JRoundTripSaid := over
#print axioms proved

end Go.Proofs.Ymbrdc.lawS930009JRoundTrip
