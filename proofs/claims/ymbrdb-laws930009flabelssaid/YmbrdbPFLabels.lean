/-
  LawS930009FLabels.
-/
import Derived.Test.YmbrdbCanon
namespace Go.Proofs.Ymbrdb.lawS930009FLabels
open Go.ChangeShapes Go.WideShapes Go.ChangeAt Go.RowKit
set_option linter.unusedVariables false
set_option linter.unusedSimpArgs false

set_option maxHeartbeats 1000000 in
set_option maxRecDepth 100000 in
theorem walk (w : World) (a0 : Option Addr) (n0 c0 : Nat) (z0 : Nat → Int) (s0 : Rd .u16 w a0 n0 z0) (m0 : n0 ≤ maxLen) (w0 : ∀ i, i < n0 → (Lit.int .u16 (z0 i)).wf = true) (a1 : Int) (w1 : (Lit.int .i64 a1).wf = true) :
    Calls Ydbm.prog 7 #[.slice a0 n0 c0, .int .i64 a1] w fun e w' => e = .returned (.bool true) ∧ Below w.heap.size w w' := by
  unfold maxLen at m0
  clear w1
  by_cases hlt : 1024 < n0
  · have hd : decide ((1024 : Int) < (n0 : Int)) = true := by simp; omega
    go_enter Ydbm.func7, Ydbm.ntmps7
    go_wp2_with fail
    go_ret
    exact ⟨rfl, Below.refl _ _⟩
  · have hd : decide ((1024 : Int) < (n0 : Int)) = false := by simp; omega
    have hmk := mk n0 (by omega)
    go_enter Ydbm.func7, Ydbm.ntmps7
    go_wp2_with fail
    have hF : Fr [] w (w.alloc (.cells (row n0 fun _ => 0) 3)) := (Fr.refl _ _).alloc _
    go_loopw [7] (fun v wr => ∃ k : Nat, k ≤ n0 ∧ v = .int .i64 k ∧ ARow wr w.heap.size n0 (fil k (fun i => (rt n0 (cq z0) i : Int)) fun _ => 0) ∧ Fr [] w wr) (fun v _ => n0 - (intOf v).toNat)
    case atStart => exact ⟨0, Nat.zero_le _, rfl, (ARow.new w n0 fun _ => 0).congr (by simp [fil]), hF⟩
    case round =>
      clear hF
      obtain ⟨k, hk, rfl, hA, hF⟩ := hrel
      by_cases hlt : k < n0
      · obtain ⟨b0, o0, rfl, h0⟩ := (hF.rd0 s0).at (by omega)
        have k0 := h0 k hlt
        have bz := bd_u16 (w0 k hlt)
        have hq := cq_le z0 k
        have Hc := hide (cq_int z0 k bz.1)
        have ck := hA.cell k hlt
        have fk := hA.frozen k
        clear h0
        go_upto_region 9 with fail
        rw [Hc.out]
        by_cases e : cq z0 k = k
        · have ee : ((cq z0 k : Int) == (k : Int)) = true := by simp; omega
          have E := hide e
          clear e
          go_wp2_with fail
          go_roundw
          case rel => exact ⟨k + 1, by omega, by go_num, hA.fill _ (by rw [cq_root z0 k E.out]), hF.setCell _ (.inr (Nat.le_refl _)) _⟩
          case measure => simp [intOf] <;> omega
        · have ee := beq_nat e
          have cj := hA.cell (cq z0 k) (by omega)
          rw [fil_lt _ _ (by omega)] at cj
          have lq : (cq z0 k : Int) < (n0 : Int) := by omega
          go_wp2_with fail
          go_roundw
          case rel => exact ⟨k + 1, by omega, by go_num, hA.fill _ (by rw [← cq_hang z0 k hlt]), hF.setCell _ (.inr (Nat.le_refl _)) _⟩
          case measure => simp [intOf] <;> omega
      · have hA : ARow wr w.heap.size n0 (fun i => (rt n0 (cq z0) i : Int)) := hA.congr (fun i hi => fil_lt _ _ (by omega))
        have hcan := cq_can n0 z0
        go_wp2_with fail
        refine (fromLabels_can n0 n0 _ (rt n0 (cq z0)) _ (by omega) hcan hA.rd).mono ?_
        rintro e w2 ⟨b, bp, bs, hY⟩
        obtain rfl := hY.ret
        have hS := hY.sets
        have FL := hY.inv.forest
        have hA2 := hY.fr.aRow hA (by simp)
        have hA3 : ARow w2 w.heap.size n0 (fun i => (rt n0 (rt n0 (cq z0)) i : Int)) := hA2.congr (fun i hi => by rw [hcan.rt FL i hi])
        have hF2 := hF.trans hY.fr
        go_wp2_with fail
        refine (fagrees_yes b n0 n0 n0 _ _ (rt n0 (cq z0)) _ a1 _ hS.c0 hS.hp.rd FL hA3.rd).mono ?_
        rintro e w3 ⟨rfl, rfl⟩
        go_wp2_with fail
        go_loop [11] (fun v => ∃ i : Int, -1 ≤ i ∧ i ≤ n0 + 1 ∧ v = .int .i64 i) (fun v => ((n0 : Int) + 1 - intOf v).toNat)
        case atStart => exact ⟨-1, by omega, by omega, rfl⟩
        case round =>
          obtain ⟨i, hi1, hi2, rfl⟩ := hrel
          by_cases hi : i ≤ n0
          · have hdd := dec_true hi
            go_wp2_with fail
            refine (fagrees_yes b n0 n0 n0 _ _ (rt n0 (cq z0)) _ i _ hS.c0 hS.hp.rd FL hA3.rd).mono ?_
            rintro e w4 ⟨rfl, rfl⟩
            go_wp2_with fail
            go_round
            case rel => exact ⟨i + 1, by omega, by omega, rfl⟩
            case measure => simp [intOf] <;> omega
          · have hdd := dec_false hi
            go_wp2_with fail
            go_ret
            exact ⟨rfl, hF2.below⟩

theorem own : ownKnob Ydbm.prog.godebug = none := by kernel_rfl
theorem laidOut : laidOutB Ydbm.prog = true := by kernel_rfl
set_option maxRecDepth 100000 in
theorem lifted (os : Os) (started : os.Started) (H : Type) (enc : TypeId × Value → H) :
    ReturnsInHanded {} Ydbm.checked os 7 .any (Rows.lawS930009FLabelsSpec.pre6 enc Ydbm.prog Ydbm.f7 Rows.lawS930009FLabelsRow.domain false) (Rows.lawS930009FLabelsSpec.post enc Ydbm.prog Ydbm.f7 false true false false) := by
  refine returnsInHanded_of_change (C := Ydbm.checked) own started (by kernel_rfl) Ydbm.func7
    (ChangeSpec.witness6 (enc := enc) (C := Ydbm.checked) false ⟨#[], #[.slice none 0 0, .int .i64 0], []⟩ 8 (by kernel_rfl) (by kernel_rfl) (by kernel_rfl) (by kernel_rfl)) ?_
  intro W base args ds gs before hval0 hW hcnd _
  have hval : ∀ (j : Nat) t v, Ydbm.f7.params[j]? = some t → args[j]? = some v → Value.okWide Ydbm.prog W .any base t v := hval0
  have hW' := hW
  obtain ⟨p, q, hA0, hV, rfl, hfz, hnd⟩ := hW
  have hA : DataW.TrodAll enc Ydbm.prog W 0 (fun _ => true) true Ydbm.f7.params.toList args.toList ds p := hA0
  rw [Ydbm.params7] at hA hval
  obtain ⟨v0, vs0, d0, ds0, p0, q0, hargs, rfl, rfl, h0, r0⟩ := trodAll_cons hA
  obtain ⟨v1, vs1, d1, ds1, p1, q1, rfl, rfl, rfl, h1, r1⟩ := trodAll_cons r0
  obtain ⟨rfl, rfl, rfl⟩ := trodAll_nil r1
  obtain rfl : args = #[v0, v1] := by cases args; simp_all
  obtain ⟨rfl, rfl⟩ := trodVars_none hV
  obtain ⟨a0, n0, c0, rfl⟩ := okWide_slice Ydbm.underlying34 (hval 0 34 v0 rfl rfl)
  have lt0 : ∀ x ∈ p0, x.block < W.heap.size := by obtain ⟨m, hm⟩ := h0; exact DataW.trod_lt m _ _ _ hm
  obtain ⟨z0, s0, m0, w0⟩ := rd_of_trod Ydbm.underlying34 Ydbm.underlying35 (by kernel_rfl) h0
  obtain ⟨a1, rfl, rfl, rfl, w1⟩ := open_int Ydbm.underlying3 (hval 1 3 v1 rfl rfl) h1
  clear hA0 hval0
  refine (walk W a0 n0 c0 z0 s0 m0 w0 a1 w1).mono fun e W' ⟨he, bel⟩ => ?_
  subst he
  exact ⟨_, rfl, _, _, _, [], _, [], hW', trodAll_mk1 (shut_bool Ydbm.underlying4 _), (cons_mk (Below.trod laidOut (by kernel_rfl) (of_decide_eq_true (by kernel_rfl)) h0 bel lt0) (cons_mk (shut_int Ydbm.underlying3 w1) trodAll_mk0)), rfl, bel.frame _, fun h => by cases h⟩

theorem over : Rows.lawS930009FLabelsRow.holds Ydbm.pinned (OpenSpec.ofChange Rows.lawS930009FLabelsSpec) :=
  OpenClaim.holds_of_wide 7 Ydbm.f7 rfl rfl rfl rfl rfl rfl rfl ⟨rfl, rfl, rfl, rfl, rfl⟩ rfl rfl rfl rfl rfl (by kernel_rfl) Ydbm.func7 (by kernel_rfl)
    (of_decide_eq_true (by kernel_rfl)) (by unfold Func.isWrapper; first | (rw [if_pos (by decide +kernel)]; kernel_rfl) | (rw [if_neg (by decide +kernel)]; exact ⟨rfl, rfl⟩))
    (fun os started H enc _ => lifted os started H enc)

theorem proved : Rows.LawS930009FLabelsSaid := over
#print axioms proved
end Go.Proofs.Ymbrdb.lawS930009FLabels
