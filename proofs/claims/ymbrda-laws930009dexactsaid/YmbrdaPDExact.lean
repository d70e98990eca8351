/-
  LawS930009DExact.
-/
import Derived.Test.YmbrdaDForest
namespace Go.Proofs.Ymbrda.lawS930009DExact
open Go.ChangeShapes Go.WideShapes Go.ChangeAt Go.RowKit
set_option linter.unusedVariables false
set_option linter.unusedSimpArgs false

set_option maxHeartbeats 1000000 in
set_option maxRecDepth 100000 in
theorem walk (w : World) (a0 : Option Addr) (n0 c0 : Nat) (z0 : Nat → Int) (s0 : Rd .u8 w a0 n0 z0) (m0 : n0 ≤ maxLen) (w0 : ∀ i, i < n0 → (Lit.int .u8 (z0 i)).wf = true) (a1 : Int) (w1 : (Lit.int .i64 a1).wf = true) (raw : Bool) :
    Calls Ydam.prog 12 #[.slice a0 n0 c0, .int .i64 a1, .bool raw] w fun e w' => e = .returned (.bool true) ∧ Below w.heap.size w w' := by
  unfold maxLen at m0
  have b1 := bd_i64 w1
  clear w1
  by_cases hlt : 1024 < n0
  · have hd : decide ((1024 : Int) < (n0 : Int)) = true := by simp; omega
    go_enter Ydam.func12, Ydam.ntmps12
    go_wp2_with fail
    go_ret
    exact ⟨rfl, Below.refl _ _⟩
  · have hd : decide ((1024 : Int) < (n0 : Int)) = false := by simp; omega
    have hn : n0 ≤ 1024 := by omega
    clear hlt m0
    go_enter Ydam.func12, Ydam.ntmps12
    go_upto_region 4 with fail
    go_cut [28] from 23 to 28 (fun v wr => v = .bool (!raw && decide (0 < n0)) ∧ w = wr)
    case first =>
      cases raw
      · go_wp2_with fail
        go_meet
        case rel => simp
      · go_wp2_with fail
        go_meet
        case rel => simp
    case rest =>
      obtain ⟨rfl, rfl⟩ := hcut
      go_upto_if 28 with fail
      go_cut [1] from 23 to 37 (fun v wr => ∃ x : Int, v = .int .i64 x ∧ w = wr)
      case first =>
        by_cases h : (!raw && decide (0 < n0)) = true
        · rw [h]
          have hpos : 0 < n0 := by simp at h; exact h.2
          have hpi : (0 : Int) < (n0 : Int) := by omega
          have hz0 : ((n0 : Int) == 0) = false := by simp; omega
          go_wp2_with fail
          go_meet
          case rel => exact ⟨_, rfl, rfl⟩
        · simp only [Bool.not_eq_true] at h
          rw [h]
          go_wp2_with fail
          go_meet
          case rel => exact ⟨_, rfl, rfl⟩
      case rest =>
        obtain ⟨x, rfl, rfl⟩ := hcut
        have F := dforest_forest n0 z0
        have hmk := mk n0 (by omega)
        go_wp2_with fail
        refine (dforest_any n0 c0 a0 z0 _ s0 hn w0).mono ?_
        rintro e w1 ⟨b, bp, bs, c, rfl, hS, hb, hbp, hbs, hF⟩
        go_upto_region 7 with fail
        go_cut [9] from 40 to 46 (fun v wr => v = .bool (inb n0 x) ∧ w1 = wr)
        case first =>
          by_cases hx0 : 0 ≤ x
          · by_cases hx1 : x < (n0 : Int)
            · have e1 : inb n0 x = true := by simp [inb, hx0, hx1]
              have E1 := hide e1
              clear e1
              go_wp2_with fail
              go_meet
              case rel => exact ⟨by rw [E1.out], rfl⟩
            · have e1 : inb n0 x = false := by simp [inb, hx0, hx1]
              have E1 := hide e1
              clear e1
              go_wp2_with fail
              go_meet
              case rel => exact ⟨by rw [E1.out], rfl⟩
          · have e1 : inb n0 x = false := by simp [inb, hx0]
            have E1 := hide e1
            clear e1
            go_wp2_with fail
            go_meet
            case rel => exact ⟨by rw [E1.out], rfl⟩
        case rest =>
          obtain ⟨rfl, rfl⟩ := hcut
          go_wp2_with fail
          have hb1 := hS.lt
          have hb2 := hS.hp.lt
          have hb3 := hS.hs.lt
          have hW : w.heap.size ≤ w1.heap.size := hF.size
          generalize hB : w1.heap.size = B at *
          have HB := hide hB
          clear hB
          go_loopw [11] (fun v wr => ∃ k : Nat, k ≤ n0 ∧ v = .int .i64 k ∧ SetsAt wr b bp bs n0 (fun i => (dp z0 i : Int)) (fun i => (i : Int) + 1) c ∧ ARow wr B n0 (fil k (fun i => (dp z0 i : Int)) fun _ => 0) ∧ Fr [] w wr) (fun v _ => n0 - (intOf v).toNat)
          case atStart =>
            have r1 := ARow.new w1 n0 fun _ => 0
            rw [HB.out] at r1
            exact ⟨0, Nat.zero_le _, rfl, hS.alloc _, r1.congr (by simp [fil]), hF.alloc _⟩
          case round =>
            clear hS hF
            obtain ⟨k, hk, rfl, hS, hA, hF⟩ := hrel
            by_cases hlt : k < n0
            · have cc := hS.c0
              have cp := hS.hp.cell k hlt
              have cw := hA.cell k hlt
              have fw := hA.frozen k
              go_wp2_with fail
              go_roundw
              case rel =>
                exact ⟨k + 1, by omega, by go_num, hS.set_ne _ _ (by show B ≠ b; omega) (by show B ≠ bp; omega) (by show B ≠ bs; omega), hA.fill _ rfl, hF.setCell _ (.inr hW) _⟩
              case measure => simp [intOf] <;> omega
            · have hA : ARow wr B n0 (fun i => (dp z0 i : Int)) := hA.congr (fun i hi => fil_lt _ _ (by omega))
              have cc := hS.c0
              have c2 := hS.c2
              have hB4 := hA.lt
              go_upto_if 68 with fail
              go_cut [9, 13, 14, 15, 16] from 68 to 103 (fun v9 v13 v14 v15 v16 wr => v9 = .bool (inb n0 x) ∧ ∃ f : Nat → Int, ARow wr B n0 f ∧ (inb n0 x = false → ∀ i, i < n0 → f i = dp z0 i) ∧ (inb n0 x = true → ∀ i, i < n0 → (On (dp z0) x.toNat i → f i = rt n0 (dp z0) x.toNat) ∧ (¬ On (dp z0) x.toNat i → f i = dp z0 i)) ∧
                SetsAt wr b bp bs n0 (fun i => (dp z0 i : Int)) (fun i => (i : Int) + 1) c ∧ Fr [] w wr)
              case first =>
                cases hin : inb n0 x
                · go_wp2_with fail
                  go_meet
                  case rel => exact ⟨by rw [hin], _, hA, fun _ _ _ => rfl, fun h => (by rw [hin] at h; cases h), hS, hF⟩
                · have hxx : 0 ≤ x ∧ x < (n0 : Int) := by simpa [inb] using hin
                  obtain ⟨y, rfl⟩ := Int.eq_ofNat_of_zero_le hxx.1
                  have hy : y < n0 := by omega
                  have hmb := mkb n0 (by omega)
                  have hin2 : inb n0 (y : Int) = true := hin
                  have Hin := hide hin2
                  clear hin hin2 hxx
                  have hcy : (rowV n0 fun _ => Value.bool false)[y]? = some (.bool false) := rowV_get n0 _ y hy
                  go_wp2_with fail
                  rw [rowV_set]
                  have hBB : w.heap.size ≤ wr.heap.size := hF.size
                  have hB1 := hS.lt
                  have hB2 := hS.hp.lt
                  have hB3 := hS.hs.lt
                  have r0 : BRow (wr.alloc (.cells (rowV n0 (upd (fun _ => .bool false) y (.bool true))) 4)) wr.heap.size 4 n0 (fun j => .bool (upd (fun _ => false) y true j)) := (BRow.new wr 4 n0 _).congr (fun j _ => by unfold upd; split <;> rfl)
                  have hS := hS.alloc (.cells (rowV n0 (upd (fun _ => .bool false) y (.bool true))) 4)
                  have hA := hA.alloc (.cells (rowV n0 (upd (fun _ => .bool false) y (.bool true))) 4)
                  have hF := hF.alloc (.cells (rowV n0 (upd (fun _ => .bool false) y (.bool true))) 4)
                  clear hcy
                  generalize hC : wr.heap.size = C at *
                  clear hC
                  go_loopw [15, 14] (fun v15 v14 wz => ∃ (i : Int) (ρ : Nat) (on : Nat → Bool), -1 ≤ i ∧ i ≤ y ∧ v15 = .int .i64 i ∧ v14 = .int .i64 ρ ∧ Mk n0 (dp z0) y i ρ on ∧ BRow wz C 4 n0 (fun j => .bool (on j)) ∧
                    SetsAt wz b bp bs n0 (fun i => (dp z0 i : Int)) (fun i => (i : Int) + 1) c ∧ ARow wz B n0 (fun i => (dp z0 i : Int)) ∧ Fr [] w wz) (fun v15 _ _ => (intOf v15 + 1).toNat)
                  case atStart => exact ⟨y, y, _, by omega, Int.le_refl _, rfl, rfl, Mk.start (dp_le z0), r0, hS, hA, hF⟩
                  case round =>
                    clear hS hA hF r0 cc c2
                    obtain ⟨i, ρ, on, hi1, hi2, rfl, rfl, hM, r0, hS, hA, hF⟩ := hrel
                    by_cases hi : 0 ≤ i
                    · obtain ⟨k', rfl⟩ := Int.eq_ofNat_of_zero_le hi
                      have hk' : k' < n0 := by omega
                      have con := r0.cell k' hk'
                      have cw := hA.cell k' hk'
                      have ld : dp z0 k' < n0 := F.lt k' hk'
                      have con2 := r0.cell _ ld
                      have fon2 := r0.frozen (dp z0 k')
                      cases hon : on k'
                      · rw [hon] at con
                        have Hon := hide hon
                        clear hon
                        go_wp2_with fail
                        go_roundw
                        case rel => exact ⟨(k' : Int) - 1, ρ, on, by omega, by omega, rfl, rfl, hM.skip Hon.out, r0, hS, hA, hF⟩
                        case measure => simp [intOf] <;> omega
                      · rw [hon] at con
                        have Hon := hide hon
                        clear hon
                        go_wp2_with fail
                        go_roundw
                        case rel =>
                          refine ⟨(k' : Int) - 1, k', _, by omega, by omega, rfl, rfl, hM.mark (dp_le z0) hk' Hon.out, (r0.set _ _).congr ?_, hS.set_ne _ _ (by show C ≠ b; omega) (by show C ≠ bp; omega) (by show C ≠ bs; omega), hA.set_ne _ (by show C ≠ B; omega) _, hF.setCell _ (.inr hBB) _⟩
                          intro j _; unfold upd; split <;> rfl
                        case measure => simp [intOf] <;> omega
                    · have hi3 : i = -1 := by omega
                      subst hi3
                      obtain ⟨g1, g2⟩ := hM.done (dp_le z0) F hy
                      subst g2
                      clear hM
                      go_wp2_with fail
                      go_loopw [16] (fun v16 wz => ∃ k : Nat, k ≤ n0 ∧ v16 = .int .i64 k ∧ BRow wz C 4 n0 (fun j => .bool (on j)) ∧ SetsAt wz b bp bs n0 (fun i => (dp z0 i : Int)) (fun i => (i : Int) + 1) c ∧
                        ARow wz B n0 (fil k (fun i => if on i then (rt n0 (dp z0) y : Int) else dp z0 i) (fun i => (dp z0 i : Int))) ∧ Fr [] w wz) (fun v16 _ => n0 - (intOf v16).toNat)
                      case atStart => exact ⟨0, Nat.zero_le _, rfl, r0, hS, hA.congr (fun i _ => by simp [fil]), hF⟩
                      case round =>
                        clear hS hA hF r0
                        obtain ⟨k2, hk2, rfl, r0, hS, hA, hF⟩ := hrel
                        by_cases hlt2 : k2 < n0
                        · have con := r0.cell k2 hlt2
                          have cw := hA.cell k2 hlt2
                          have fw := hA.frozen k2
                          cases hon : on k2
                          · rw [hon] at con
                            have Hon := hide hon
                            clear hon
                            go_wp2_with fail
                            go_roundw
                            case rel =>
                              refine ⟨k2 + 1, by omega, by go_num, r0, hS, hA.congr ?_, hF⟩
                              intro i _
                              unfold fil
                              by_cases e : i < k2
                              · rw [if_pos e, if_pos (by omega)]
                              · rw [if_neg e]
                                by_cases e2 : i = k2
                                · subst e2; rw [if_pos (by omega)]; simp [Hon.out]
                                · rw [if_neg (by omega)]
                            case measure => simp [intOf] <;> omega
                          · rw [hon] at con
                            have Hon := hide hon
                            clear hon
                            go_wp2_with fail
                            go_roundw
                            case rel =>
                              exact ⟨k2 + 1, by omega, by go_num, r0.set_ne _ (by show B ≠ C; omega) _, hS.set_ne _ _ (by show B ≠ b; omega) (by show B ≠ bp; omega) (by show B ≠ bs; omega), hA.fill _ (by rw [Hon.out]; simp), hF.setCell _ (.inr hW) _⟩
                            case measure => simp [intOf] <;> omega
                        · go_wp2_with fail
                          go_meet
                          case rel =>
                            refine ⟨by rw [Hin.out], _, hA, ?_, ?_, hS, hF⟩
                            · intro h; rw [Hin.out] at h; cases h
                            · intro _ i hi
                              rw [fil_lt _ _ (by omega)]
                              simp only [Int.toNat_natCast]
                              refine ⟨fun ho => ?_, fun ho => ?_⟩
                              · rw [if_pos ((g1 i hi).2 ho)]
                              · rw [if_neg (fun h => ho ((g1 i hi).1 h))]
              case rest =>
                clear hS hA hF
                obtain ⟨rfl, f, hA, f1, f2, hS, hF⟩ := hcut
                go_wp2_with fail
                refine (compress_any b bp bs n0 (dp z0) _ _ c x _ hS F).mono ?_
                rintro e w3 ⟨rfl, q, hq1, hq2, hS3, hF3⟩
                have hA3 := hF3.aRow hA (by simp; omega)
                have hF4 : Fr [] w w3 := hF.trans' hF3 (by intro x hx hl; simp at hx; omega)
                have hqf : ∀ i, i < n0 → ((q i : Nat) : Int) = f i := by
                  intro i hi
                  cases hin : inb n0 x
                  · rw [f1 hin i hi, hq2 hin]
                  · have hxx : 0 ≤ x ∧ x < (n0 : Int) := by simpa [inb] using hin
                    by_cases ho : On (dp z0) x.toNat i
                    · rw [(f2 hin i hi).1 ho, (hq1 hin).on i hi ho]
                    · rw [(f2 hin i hi).2 ho, (hq1 hin).off i hi ho]
                have hS3 := hS3.congr hqf (fun _ _ => rfl) rfl
                clear hq1 hq2 hqf f1 f2
                have cc0 := hS3.c0
                have cc1 := hS3.c1
                have cc2 := hS3.c2
                go_wp2_with fail
                go_loopw [17] (fun v wz => ∃ k : Nat, k ≤ n0 ∧ v = .int .i64 k ∧ SetsAt wz b bp bs n0 f (fun i => (i : Int) + 1) c ∧ ARow wz B n0 f ∧ Fr [] w wz) (fun v _ => n0 - (intOf v).toNat)
                case atStart => exact ⟨0, Nat.zero_le _, rfl, hS3, hA3, hF4⟩
                case round =>
                  clear hS3 hA3 hF4 hS hA hF cc0 cc1 cc2 hF3
                  obtain ⟨k3, hk3, rfl, hS, hA, hF⟩ := hrel
                  by_cases hlt3 : k3 < n0
                  · have cc0 := hS.c0
                    have cc1 := hS.c1
                    have cp := hS.hp.cell k3 hlt3
                    have cs := hS.hs.cell k3 hlt3
                    have cw := hA.cell k3 hlt3
                    have ee := bne_self (f k3)
                    have ee2 := bne_self ((k3 : Int) + 1)
                    have li : (k3 : Int) < (n0 : Int) := by omega
                    go_wp2_with fail
                    go_quiet (fail)
                    go_wp2_with fail
                    go_roundw
                    case rel => exact ⟨k3 + 1, by omega, by go_num, hS.drewN _, hA.drewN _, hF.drewN _⟩
                    case measure => simp [intOf] <;> omega
                  · go_wp2_with fail
                    go_ret
                    exact ⟨rfl, hF.below⟩

theorem own : ownKnob Ydam.prog.godebug = none := by kernel_rfl
theorem laidOut : laidOutB Ydam.prog = true := by kernel_rfl
set_option maxRecDepth 100000 in
theorem lifted (os : Os) (started : os.Started) (H : Type) (enc : TypeId × Value → H) :
    ReturnsInHanded {} Ydam.checked os 12 .any (Rows.lawS930009DExactSpec.pre6 enc Ydam.prog Ydam.f12 Rows.lawS930009DExactRow.domain false) (Rows.lawS930009DExactSpec.post enc Ydam.prog Ydam.f12 false true false false) := by
  refine returnsInHanded_of_change (C := Ydam.checked) own started (by kernel_rfl) Ydam.func12
    (ChangeSpec.witness6 (enc := enc) (C := Ydam.checked) false ⟨#[], #[.slice none 0 0, .int .i64 0, .bool false], []⟩ 8 (by kernel_rfl) (by kernel_rfl) (by kernel_rfl) (by kernel_rfl)) ?_
  intro W base args ds gs before hval0 hW hcnd _
  have hval : ∀ (j : Nat) t v, Ydam.f12.params[j]? = some t → args[j]? = some v → Value.okWide Ydam.prog W .any base t v := hval0
  have hW' := hW
  obtain ⟨p, q, hA0, hV, rfl, hfz, hnd⟩ := hW
  have hA : DataW.TrodAll enc Ydam.prog W 0 (fun _ => true) true Ydam.f12.params.toList args.toList ds p := hA0
  rw [Ydam.params12] at hA hval
  obtain ⟨v0, vs0, d0, ds0, p0, q0, hargs, rfl, rfl, h0, r0⟩ := trodAll_cons hA
  obtain ⟨v1, vs1, d1, ds1, p1, q1, rfl, rfl, rfl, h1, r1⟩ := trodAll_cons r0
  obtain ⟨v2, vs2, d2, ds2, p2, q2, rfl, rfl, rfl, h2, r2⟩ := trodAll_cons r1
  obtain ⟨rfl, rfl, rfl⟩ := trodAll_nil r2
  obtain rfl : args = #[v0, v1, v2] := by cases args; simp_all
  obtain ⟨rfl, rfl⟩ := trodVars_none hV
  obtain ⟨a0, n0, c0, rfl⟩ := okWide_slice Ydam.underlying63 (hval 0 63 v0 rfl rfl)
  have lt0 : ∀ x ∈ p0, x.block < W.heap.size := by obtain ⟨m, hm⟩ := h0; exact DataW.trod_lt m _ _ _ hm
  obtain ⟨z0, s0, m0, w0⟩ := rd_of_trod Ydam.underlying63 Ydam.underlying5 (by kernel_rfl) h0
  obtain ⟨a1, rfl, rfl, rfl, w1⟩ := open_int Ydam.underlying3 (hval 1 3 v1 rfl rfl) h1
  obtain ⟨a2, rfl, rfl, rfl⟩ := open_bool Ydam.underlying4 (hval 2 4 v2 rfl rfl) h2
  clear hA0 hval0
  refine (walk W a0 n0 c0 z0 s0 m0 w0 a1 w1 a2).mono fun e W' ⟨he, bel⟩ => ?_
  subst he
  exact ⟨_, rfl, _, _, _, [], _, [], hW', trodAll_mk1 (shut_bool Ydam.underlying4 _), (cons_mk (Below.trod laidOut (by kernel_rfl) (of_decide_eq_true (by kernel_rfl)) h0 bel lt0) (cons_mk (shut_int Ydam.underlying3 w1) (cons_mk (shut_bool Ydam.underlying4 a2) trodAll_mk0))), rfl, bel.frame _, fun h => by cases h⟩

theorem over : Rows.lawS930009DExactRow.holds Ydam.pinned (OpenSpec.ofChange Rows.lawS930009DExactSpec) :=
  OpenClaim.holds_of_wide 12 Ydam.f12 rfl rfl rfl rfl rfl rfl rfl ⟨rfl, rfl, rfl, rfl, rfl⟩ rfl rfl rfl rfl rfl (by kernel_rfl) Ydam.func12 (by kernel_rfl)
    (of_decide_eq_true (by kernel_rfl)) (by unfold Func.isWrapper; first | (rw [if_pos (by decide +kernel)]; kernel_rfl) | (rw [if_neg (by decide +kernel)]; exact ⟨rfl, rfl⟩))
    (fun os started H enc _ => lifted os started H enc)

theorem proved : Rows.LawS930009DExactSaid := over
#print axioms proved
end Go.Proofs.Ymbrda.lawS930009DExact
