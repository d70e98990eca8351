/-
  LawS930009HLabels.
-/
import Derived.Test.YmbrdbFirst
namespace Go.Proofs.Ymbrdb.lawS930009HLabels
open Go.ChangeShapes Go.WideShapes Go.ChangeAt Go.RowKit
set_option linter.unusedVariables false
set_option linter.unusedSimpArgs false

theorem key {n : Nat} {z : Nat → Int} {μ : Nat → Nat} (F : Forest n (labZ z) μ) (x : Int) : szof n (labZ z) (flS (labZ z) n) x = hcn n z x := by
  by_cases h : 0 ≤ x ∧ x < (n : Int)
  · obtain ⟨y, rfl⟩ := Int.eq_ofNat_of_zero_le h.1
    have hy : y < n := by omega
    rw [szof_nat _ _ hy, (labZ_can n z).rt F y hy]
    unfold hcn flS
    rw [inb_nat hy]
    have hl := labZ_le z y
    rw [if_pos ⟨by omega, ((labZ_can n z) y hy).2⟩]
    simp only [Int.toNat_natCast, if_true]
    congr 1
    apply cnt_congr
    intro j hj
    rw [Bool.eq_iff_iff]
    simp only [beq_iff_eq]
    exact labZ_eq_iff z j y
  · rw [szof_out _ _ (inb_out h)]
    unfold hcn
    rw [inb_out h]
    simp

set_option maxHeartbeats 1000000 in
theorem walk (w : World) (a0 : Option Addr) (n0 c0 : Nat) (z0 : Nat → Int) (s0 : Rd .i64 w a0 n0 z0) (m0 : n0 ≤ maxLen) (w0 : ∀ i, i < n0 → (Lit.int .i64 (z0 i)).wf = true) (a1 : Int) (w1 : (Lit.int .i64 a1).wf = true) :
    Calls Ydbm.prog 12 #[.slice a0 n0 c0, .int .i64 a1] w fun e w' => e = .returned (.bool true) ∧ Below w.heap.size w w' := by
  unfold maxLen at m0
  clear w1
  by_cases hlt : 1024 < n0
  · have hd : decide ((1024 : Int) < (n0 : Int)) = true := by simp; omega
    go_enter Ydbm.func12, Ydbm.ntmps12
    go_wp2_with fail
    go_ret
    exact ⟨rfl, Below.refl _ _⟩
  · have hd : decide ((1024 : Int) < (n0 : Int)) = false := by simp; omega
    have hcan := labZ_can n0 z0
    have hmk := mk n0 (by omega)
    go_enter Ydbm.func12, Ydbm.ntmps12
    go_wp2_with fail
    have hF : Fr [] w (w.alloc (.cells (row n0 fun _ => 0) 3)) := (Fr.refl _ _).alloc _
    go_loopw [6] (fun v wr => ∃ k : Nat, k ≤ n0 ∧ v = .int .i64 k ∧ ARow wr w.heap.size n0 (fil k (fun i => (labZ z0 i : Int)) fun _ => 0) ∧ Fr [] w wr) (fun v _ => n0 - (intOf v).toNat)
    case atStart => exact ⟨0, Nat.zero_le _, rfl, (ARow.new w n0 fun _ => 0).congr (by simp [fil]), hF⟩
    case round =>
      clear hF
      obtain ⟨k, hk, rfl, hA, hF⟩ := hrel
      by_cases hlt : k < n0
      · go_wp2_with fail
        go_loopw [7] (fun v wr => ∃ j : Nat, j ≤ k ∧ v = .int .i64 j ∧ (∀ t, t < j → z0 t ≠ z0 k) ∧ ARow wr w.heap.size n0 (fil k (fun i => (labZ z0 i : Int)) fun _ => 0) ∧ Fr [] w wr) (fun v _ => k - (intOf v).toNat)
        case atStart => exact ⟨0, Nat.zero_le _, rfl, fun t ht => absurd ht (Nat.not_lt_zero _), hA, hF⟩
        case round =>
          clear hF hA
          obtain ⟨j, hj, rfl, hne, hA, hF⟩ := hrel
          have Hne := hide hne
          clear hne
          obtain ⟨b0, o0, rfl, h0⟩ := (hF.rd0 s0).at (by omega)
          have k0 := h0 k hlt
          have k1 := h0 j (by omega)
          have ck := hA.cell k hlt
          have fk := hA.frozen k
          have lj : (j : Int) < (n0 : Int) := by omega
          have lk : (k : Int) < (n0 : Int) := by omega
          clear h0
          by_cases hjk : j < k
          · have dj : decide ((j : Int) < (k : Int)) = true := dec_true (by omega)
            have hjk' : (j : Int) < (k : Int) := by omega
            by_cases e : z0 j = z0 k
            · rw [e] at k1
              have ee := bne_self (z0 k)
              have El := hide (labZ_found z0 k j hj Hne.out e)
              clear e
              go_wp2_with fail
              go_quiet (fail)
              go_wp2_with fail
              go_roundw
              case rel => exact ⟨k + 1, by omega, by go_num, (hA.drewN _).fill _ (by rw [El.out]), (hF.drewN _).setCell _ (.inr (Nat.le_refl _)) _⟩
              case measure => simp [intOf] <;> omega
            · have ee := bne_int e
              go_wp2_with fail
              go_quiet (fail)
              go_wp2_with fail
              go_roundw
              case rel =>
                refine ⟨j + 1, by omega, by go_num, ?_, hA.drewN _, hF.drewN _⟩
                intro t ht
                by_cases et : t = j
                · subst et; exact e
                · exact Hne.out t (by omega)
              case measure => simp [intOf] <;> omega
          · have hjk2 : j = k := by omega
            subst hjk2
            have El := hide (labZ_found z0 j j hj Hne.out rfl)
            have dj : decide ((j : Int) < (j : Int)) = false := dec_false (by omega)
            go_wp2_with fail
            go_quiet (fail)
            go_wp2_with fail
            go_roundw
            case rel => exact ⟨j + 1, by omega, by go_num, (hA.drewN _).fill _ (by rw [El.out]), (hF.drewN _).setCell _ (.inr (Nat.le_refl _)) _⟩
            case measure => simp [intOf] <;> omega
      · have hA : ARow wr w.heap.size n0 (fun i => (labZ z0 i : Int)) := hA.congr (fun i hi => fil_lt _ _ (by omega))
        go_wp2_with fail
        refine (fromLabels_can n0 n0 _ (labZ z0) _ (by omega) hcan hA.rd).mono ?_
        rintro e w2 ⟨b, bp, bs, hY⟩
        obtain rfl := hY.ret
        have hF2 := hF.trans hY.fr
        go_wp2_with fail
        refine (hcount_any a0 n0 c0 z0 a1 _ (by omega) (hF2.rd0 s0)).mono ?_
        rintro e w3 ⟨rfl, hF3⟩
        have hF4 := hF2.trans hF3
        have hk := key hY.inv.forest a1
        go_wp2_with fail
        refine (sizeOf_any b bp bs n0 (labZ z0) _ _ _ a1 _ (SetsAt.fr0 hY.sets hF3) hY.inv.forest).mono ?_
        rintro e w4 ⟨rfl, rfl⟩
        rw [hk]
        clear hk
        have e1 := beq_self (hcn n0 z0 a1)
        go_wp2_with fail
        go_ret
        exact ⟨by simp, hF4.below⟩

theorem own : ownKnob Ydbm.prog.godebug = none := by kernel_rfl
theorem laidOut : laidOutB Ydbm.prog = true := by kernel_rfl
set_option maxRecDepth 100000 in
theorem lifted (os : Os) (started : os.Started) (H : Type) (enc : TypeId × Value → H) :
    ReturnsInHanded {} Ydbm.checked os 12 .any (Rows.lawS930009HLabelsSpec.pre6 enc Ydbm.prog Ydbm.f12 Rows.lawS930009HLabelsRow.domain false) (Rows.lawS930009HLabelsSpec.post enc Ydbm.prog Ydbm.f12 false true false false) := by
  refine returnsInHanded_of_change (C := Ydbm.checked) own started (by kernel_rfl) Ydbm.func12
    (ChangeSpec.witness6 (enc := enc) (C := Ydbm.checked) false ⟨#[], #[.slice none 0 0, .int .i64 0], []⟩ 8 (by kernel_rfl) (by kernel_rfl) (by kernel_rfl) (by kernel_rfl)) ?_
  intro W base args ds gs before hval0 hW hcnd _
  have hval : ∀ (j : Nat) t v, Ydbm.f12.params[j]? = some t → args[j]? = some v → Value.okWide Ydbm.prog W .any base t v := hval0
  have hW' := hW
  obtain ⟨p, q, hA0, hV, rfl, hfz, hnd⟩ := hW
  have hA : DataW.TrodAll enc Ydbm.prog W 0 (fun _ => true) true Ydbm.f12.params.toList args.toList ds p := hA0
  rw [Ydbm.params12] at hA hval
  obtain ⟨v0, vs0, d0, ds0, p0, q0, hargs, rfl, rfl, h0, r0⟩ := trodAll_cons hA
  obtain ⟨v1, vs1, d1, ds1, p1, q1, rfl, rfl, rfl, h1, r1⟩ := trodAll_cons r0
  obtain ⟨rfl, rfl, rfl⟩ := trodAll_nil r1
  obtain rfl : args = #[v0, v1] := by cases args; simp_all
  obtain ⟨rfl, rfl⟩ := trodVars_none hV
  obtain ⟨a0, n0, c0, rfl⟩ := okWide_slice Ydbm.underlying27 (hval 0 27 v0 rfl rfl)
  have lt0 : ∀ x ∈ p0, x.block < W.heap.size := by obtain ⟨m, hm⟩ := h0; exact DataW.trod_lt m _ _ _ hm
  obtain ⟨z0, s0, m0, w0⟩ := rd_of_trod Ydbm.underlying27 Ydbm.underlying3 (by kernel_rfl) h0
  obtain ⟨a1, rfl, rfl, rfl, w1⟩ := open_int Ydbm.underlying3 (hval 1 3 v1 rfl rfl) h1
  clear hA0 hval0
  refine (walk W a0 n0 c0 z0 s0 m0 w0 a1 w1).mono fun e W' ⟨he, bel⟩ => ?_
  subst he
  exact ⟨_, rfl, _, _, _, [], _, [], hW', trodAll_mk1 (shut_bool Ydbm.underlying4 _), (cons_mk (Below.trod laidOut (by kernel_rfl) (of_decide_eq_true (by kernel_rfl)) h0 bel lt0) (cons_mk (shut_int Ydbm.underlying3 w1) trodAll_mk0)), rfl, bel.frame _, fun h => by cases h⟩

theorem over : Rows.lawS930009HLabelsRow.holds Ydbm.pinned (OpenSpec.ofChange Rows.lawS930009HLabelsSpec) :=
  OpenClaim.holds_of_wide 12 Ydbm.f12 rfl rfl rfl rfl rfl rfl rfl ⟨rfl, rfl, rfl, rfl, rfl⟩ rfl rfl rfl rfl rfl (by kernel_rfl) Ydbm.func12 (by kernel_rfl)
    (of_decide_eq_true (by kernel_rfl)) (by unfold Func.isWrapper; first | (rw [if_pos (by decide +kernel)]; kernel_rfl) | (rw [if_neg (by decide +kernel)]; exact ⟨rfl, rfl⟩))
    (fun os started H enc _ => lifted os started H enc)

theorem proved : Rows.LawS930009HLabelsSaid := over
#print axioms proved
end Go.Proofs.Ymbrdb.lawS930009HLabels
