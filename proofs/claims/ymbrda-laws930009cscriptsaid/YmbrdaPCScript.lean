/-
  LawS930009CScript.
-/
import Derived.Test.YmbrdaUnionZ
import Derived.Test.YmbrdaSmall
namespace Go.Proofs.Ymbrda.lawS930009CScript
open Go.ChangeShapes Go.WideShapes Go.ChangeAt Go.RowKit
set_option linter.unusedVariables false
set_option linter.unusedSimpArgs false

set_option maxHeartbeats 4000000 in
set_option maxRecDepth 100000 in
theorem walk (w : World) (a0 : Int) (w0 : (Lit.int .u8 a0).wf = true) (a1 : Option Addr) (n1 c1 : Nat) (zO zA zB : Nat → Int) (s1 : Rd3 .u8 .u8 .u8 w a1 n1 zO zA zB) (m1 : n1 ≤ maxLen)
    (wO : ∀ i, i < n1 → (Lit.int .u8 (zO i)).wf = true) (wA : ∀ i, i < n1 → (Lit.int .u8 (zA i)).wf = true) (wB : ∀ i, i < n1 → (Lit.int .u8 (zB i)).wf = true) (a2 : Int) (w2 : (Lit.int .i64 a2).wf = true) (a3 : Int) (w3 : (Lit.int .i64 a3).wf = true) :
    Calls Ydam.prog 9 #[.int .u8 a0, .slice a1 n1 c1, .int .i64 a2, .int .i64 a3] w fun e w' => e = .returned (.bool true) ∧ Below w.heap.size w w' := by
  unfold maxLen at m1
  have b0 := bd_u8 w0
  clear w0 w2 w3
  obtain ⟨n, rfl⟩ := Int.eq_ofNat_of_zero_le b0.1
  by_cases hlt : 1024 < n1
  · have hd : decide ((1024 : Int) < (n1 : Int)) = true := by simp; omega
    go_enter Ydam.func9, Ydam.ntmps9
    go_wp2_with fail
    go_ret
    exact ⟨rfl, Below.refl _ _⟩
  · have hd : decide ((1024 : Int) < (n1 : Int)) = false := by simp; omega
    have hn2 : n ≤ 255 := by omega
    have hmk := mk n (by omega)
    go_enter Ydam.func9, Ydam.ntmps9
    go_wp2_with fail
    clear b0 hlt
    refine (new_yes n _ (by omega)).mono ?_
    rintro e wA1 ⟨b, bp, bs, rfl, hS, hb, hbp, hbs, hF⟩
    go_wp2_with fail
    have r0 := ARow.new wA1 n fun _ => 0
    have hF := hF.alloc (.cells (row n fun _ => 0) 3)
    have lb := hS.lt
    have lbp := hS.hp.lt
    have lbs := hS.hs.lt
    have hS := hS.alloc (.cells (row n fun _ => 0) 3)
    have hW : w.heap.size ≤ wA1.heap.size := by omega
    generalize wA1.heap.size = B at *
    generalize wA1.alloc (.cells (row n fun _ => 0) 3) = W at *
    go_loopw [13] (fun v wr => ∃ k : Nat, k ≤ n ∧ v = .int .i64 k ∧ SetsAt wr b bp bs n (fun i => (i : Int)) (fun _ => 1) n ∧ ARow wr B n (fil k (fun i => (i : Int)) fun _ => 0) ∧ Fr [] w wr) (fun v _ => n - (intOf v).toNat)
    case atStart => exact ⟨0, Nat.zero_le _, rfl, hS, r0.congr (by simp [fil]), hF⟩
    case round =>
      clear hS r0 hF
      obtain ⟨k, hk, rfl, hS, hA, hF⟩ := hrel
      by_cases hlt : k < n
      · have ck := hA.cell k hlt
        have fk := hA.frozen k
        go_wp2_with fail
        go_roundw
        case rel => exact ⟨k + 1, by omega, by go_num, hS.set_ne _ _ (by show B ≠ b; omega) (by show B ≠ bp; omega) (by show B ≠ bs; omega), hA.fill _ rfl, hF.setCell _ (.inr hW) _⟩
        case measure => simp [intOf] <;> omega
      · have hA : ARow wr B n (fun i => ((fun x => x) i : Int)) := hA.congr (fun i hi => fil_lt _ _ (by omega))
        go_wp2_with fail
        go_loopw [14] (fun v wr => ∃ (k : Nat) (p s L : Nat → Nat) (c : Nat), k ≤ n1 ∧ v = .int .i64 k ∧ SetsN wr b bp bs n p s c ∧ Inv n p s c ∧ ARow wr B n (fun i => (L i : Int)) ∧ SameKer n (rt n p) L ∧ Fr [] w wr) (fun v _ => n1 - (intOf v).toNat)
        case atStart => exact ⟨0, fun x => x, fun _ => 1, fun x => x, n, Nat.zero_le _, rfl, hS, inv_new n, hA, SameKer.of_eq (fun x _ => rt_of_root n rfl), hF⟩
        case round =>
          clear hS hA hF
          obtain ⟨j, p, s, L, c, hj, rfl, hS, I, hA, hK, hF⟩ := hrel
          by_cases hlt2 : j < n1
          · obtain ⟨b1, o1, rfl, cO, cA, cB⟩ := (hF.rd30 s1) j hlt2
            have bO := bd_u8 (wO j hlt2)
            have bA := bd_u8 (wA j hlt2)
            have bB := bd_u8 (wB j hlt2)
            have q0 : 0 ≤ zA j % ((n : Int) + 1) := emod_lo _ (by omega)
            have q1 : zA j % ((n : Int) + 1) < (n : Int) + 1 := emod_hi _ (by omega)
            have q2 : 0 ≤ zB j % ((n : Int) + 1) := emod_lo _ (by omega)
            have q3 : zB j % ((n : Int) + 1) < (n : Int) + 1 := emod_hi _ (by omega)
            have lt' : (j : Int) < (n1 : Int) := by omega
            go_upto_region 17 with fail
            obtain ⟨x, hx⟩ : ∃ x : Nat, zA j % ((n : Int) + 1) = x := Int.eq_ofNat_of_zero_le q0
            obtain ⟨y, hy⟩ : ∃ y : Nat, zB j % ((n : Int) + 1) = y := Int.eq_ofNat_of_zero_le q2
            rw [hx, hy]
            clear hx hy q0 q1 q2 q3 bA bB cA cB
            by_cases eo : zO j % 4 = 3
            · have ee : (zO j % 4 == 3) = true := by simp [eo]
              clear eo
              go_wp2_with fail
              refine (compress_inv b bp bs n p s c x _ hS I).mono ?_
              rintro e w2 ⟨rfl, q, hS2, I2, hrt, hF2⟩
              have hA2 := hF2.aRow hA (by simp; omega)
              have hF3 : Fr [] w w2 := hF.trans' hF2 (by intro x hx hl; simp at hx; omega)
              have hK2 : SameKer n (rt n q) L := (SameKer.of_eq hrt).trans hK
              clear hrt
              go_wp2_with fail
              go_roundw
              case rel => exact ⟨j + 1, q, s, L, c, by omega, by go_num, hS2, I2, hA2, hK2, hF3⟩
              case measure => simp [intOf] <;> omega
            · have ee : (zO j % 4 == 3) = false := by simp [eo]
              clear eo
              go_wp2_with fail
              refine (union_any b bp bs n p s c x y _ hS I (by omega)).mono ?_
              rintro e w2 ⟨rfl, hS2, hF2⟩
              have I2 := I.unionZ x y
              have hA2 := hF2.aRow hA (by simp; omega)
              have hF3 : Fr [] w w2 := hF.trans' hF2 (by intro x hx hl; simp at hx; omega)
              by_cases hxy : x < n ∧ y < n
              · obtain ⟨x1, y1⟩ := hxy
                rw [zP_nat x1 y1, zS_nat x1 y1, zC_nat x1 y1] at hS2 I2
                have cx := hA2.cell x x1
                have cy := hA2.cell y y1
                have hM := hide (I.union_merge x1 y1)
                have d1 : decide ((x : Int) < (n : Int)) = true := dec_true (by omega)
                have d2 : decide ((y : Int) < (n : Int)) = true := dec_true (by omega)
                have lx : (x : Int) < (n : Int) := by omega
                have ly : (y : Int) < (n : Int) := by omega
                clear hS I hA hF hF2
                go_wp2_with fail
                go_loopw [19] (fun v wr => ∃ l : Nat, l ≤ n ∧ v = .int .i64 l ∧ SetsN wr b bp bs n (uP n p s x y) (uS n p s x y) (uC n p c x y) ∧ ARow wr B n (fil l (fun t => if L t = L y then (L x : Int) else L t) fun t => (L t : Int)) ∧ Fr [] w wr) (fun v _ => n - (intOf v).toNat)
                case atStart => exact ⟨0, Nat.zero_le _, rfl, hS2, hA2.congr (by simp [fil]), hF3⟩
                case round =>
                  clear hS2 hA2 hF3 cx cy
                  obtain ⟨l, hl, rfl, hS, hA, hF⟩ := hrel
                  by_cases hlt4 : l < n
                  · have cl := hA.cell l hlt4
                    rw [fil_ge _ _ (Nat.lt_irrefl l)] at cl
                    have fl := hA.frozen l
                    by_cases e : L l = L y
                    · have E := hide e
                      rw [e] at cl
                      clear e
                      go_wp2_with fail
                      go_roundw
                      case rel => exact ⟨l + 1, by omega, by go_num, hS.set_ne _ _ (by show B ≠ b; omega) (by show B ≠ bp; omega) (by show B ≠ bs; omega), hA.fill _ (by rw [if_pos E.out]), hF.setCell _ (.inr hW) _⟩
                      case measure => simp [intOf] <;> omega
                    · have f1 := beq_nat e
                      go_wp2_with fail
                      go_roundw
                      case rel => exact ⟨l + 1, by omega, by go_num, hS, hA.fskip (by rw [if_neg e]), hF⟩
                      case measure => simp [intOf] <;> omega
                  · have hA : ARow wr B n (fun t => ((if L t = L y then L x else L t : Nat) : Int)) := hA.congr (fun t ht => by
                      rw [fil_lt _ _ (by omega)]
                      split <;> rfl)
                    have hK2 : SameKer n (rt n (uP n p s x y)) (fun t => if L t = L y then L x else L t) :=
                      Merge.same x1 y1 hK hM.out (merge_rename (Or.inl ⟨rfl, rfl⟩) (fun t _ => rfl))
                    go_wp2_with fail
                    go_roundw
                    case rel => exact ⟨j + 1, _, _, _, _, by omega, by go_num, hS, I2, hA, hK2, hF⟩
                    case measure => simp [intOf] <;> omega
              · have hz : inb2 n (x : Int) (y : Int) = false := inb2_out (by omega)
                rw [zP_out hz, zS_out hz, zC_out hz] at hS2
                clear hz
                by_cases hx1 : x < n
                · have hy1 : ¬ (y : Int) < (n : Int) := by omega
                  have d1 : decide ((x : Int) < (n : Int)) = true := dec_true (by omega)
                  have d2 : decide ((y : Int) < (n : Int)) = false := dec_false (by omega)
                  go_wp2_with fail
                  go_roundw
                  case rel => exact ⟨j + 1, p, s, L, c, by omega, by go_num, hS2, I, hA2, hK, hF3⟩
                  case measure => simp [intOf] <;> omega
                · have hx2 : ¬ (x : Int) < (n : Int) := by omega
                  have d1 : decide ((x : Int) < (n : Int)) = false := dec_false (by omega)
                  go_wp2_with fail
                  go_roundw
                  case rel => exact ⟨j + 1, p, s, L, c, by omega, by go_num, hS2, I, hA2, hK, hF3⟩
                  case measure => simp [intOf] <;> omega
          · go_wp2_with fail
            refine (same_any b n n _ p _ a2 a3 _ hS.c0 hS.hp.rd I.forest).mono ?_
            rintro e w4 ⟨rfl, rfl⟩
            by_cases g1 : a2 < 0
            · have e1 : sameB n p a2 a3 = false := by simp [sameB, inb]; omega
              have e2 : inb2 n a2 a3 = false := by simp [inb2, inb]; omega
              rw [e1, e2]
              have hdd := dec_true g1
              go_wp2_with fail
              go_ret
              exact ⟨by simp, hF.below⟩
            · by_cases g2 : (n : Int) ≤ a2
              · have e1 : sameB n p a2 a3 = false := by simp [sameB, inb]; omega
                have e2 : inb2 n a2 a3 = false := by simp [inb2, inb]; omega
                rw [e1, e2]
                have hdd := dec_true g2
                go_wp2_with fail
                go_ret
                exact ⟨by simp, hF.below⟩
              · by_cases g3 : a3 < 0
                · have e1 : sameB n p a2 a3 = false := by simp [sameB, inb]; omega
                  have e2 : inb2 n a2 a3 = false := by simp [inb2, inb]; omega
                  rw [e1, e2]
                  have hdd := dec_true g3
                  go_wp2_with fail
                  go_ret
                  exact ⟨by simp, hF.below⟩
                · by_cases g4 : (n : Int) ≤ a3
                  · have e1 : sameB n p a2 a3 = false := by simp [sameB, inb]; omega
                    have e2 : inb2 n a2 a3 = false := by simp [inb2, inb]; omega
                    rw [e1, e2]
                    have hdd := dec_true g4
                    go_wp2_with fail
                    go_ret
                    exact ⟨by simp, hF.below⟩
                  · obtain ⟨x, rfl⟩ := Int.eq_ofNat_of_zero_le (by omega : 0 ≤ a2)
                    obtain ⟨y, rfl⟩ := Int.eq_ofNat_of_zero_le (by omega : 0 ≤ a3)
                    have hx : x < n := by omega
                    have hy : y < n := by omega
                    have e2 : inb2 n (x : Int) (y : Int) = true := inb2_nat hx hy
                    have hKxy := hK x y hx hy
                    have cx := hA.cell x hx
                    have cy := hA.cell y hy
                    have lx : (x : Int) < (n : Int) := by omega
                    have ly : (y : Int) < (n : Int) := by omega
                    rw [sameB_nat _ hx hy, e2]
                    clear e2
                    generalize L x = X at *
                    generalize L y = Y at *
                    by_cases e : X = Y
                    · subst e
                      rw [dec_true (hKxy.2 rfl)]
                      have ee := beq_self X
                      clear hKxy
                      go_wp2_with fail
                      go_quiet (fail)
                      go_wp2_with fail
                      go_ret
                      exact ⟨by simp, (hF.drewN _).below⟩
                    · have ee := beq_nat e
                      rw [dec_false (fun h => e (hKxy.1 h))]
                      clear hKxy
                      go_wp2_with fail
                      go_quiet (fail)
                      go_wp2_with fail
                      go_ret
                      exact ⟨by simp, (hF.drewN _).below⟩

theorem own : ownKnob Ydam.prog.godebug = none := by kernel_rfl
theorem laidOut : laidOutB Ydam.prog = true := by kernel_rfl
set_option maxRecDepth 100000 in
theorem lifted (os : Os) (started : os.Started) (H : Type) (enc : TypeId × Value → H) :
    ReturnsInHanded {} Ydam.checked os 9 .any (Rows.lawS930009CScriptSpec.pre6 enc Ydam.prog Ydam.f9 Rows.lawS930009CScriptRow.domain false) (Rows.lawS930009CScriptSpec.post enc Ydam.prog Ydam.f9 false true false false) := by
  refine returnsInHanded_of_change (C := Ydam.checked) own started (by kernel_rfl) Ydam.func9
    (ChangeSpec.witness6 (enc := enc) (C := Ydam.checked) false ⟨#[], #[.int .u8 0, .slice none 0 0, .int .i64 0, .int .i64 0], []⟩ 8 (by kernel_rfl) (by kernel_rfl) (by kernel_rfl) (by kernel_rfl)) ?_
  intro W base args ds gs before hval0 hW hcnd _
  have hval : ∀ (j : Nat) t v, Ydam.f9.params[j]? = some t → args[j]? = some v → Value.okWide Ydam.prog W .any base t v := hval0
  have hW' := hW
  obtain ⟨p, q, hA0, hV, rfl, hfz, hnd⟩ := hW
  have hA : DataW.TrodAll enc Ydam.prog W 0 (fun _ => true) true Ydam.f9.params.toList args.toList ds p := hA0
  rw [Ydam.params9] at hA hval
  obtain ⟨v0, vs0, d0, ds0, p0, q0, hargs, rfl, rfl, h0, r0⟩ := trodAll_cons hA
  obtain ⟨v1, vs1, d1, ds1, p1, q1, rfl, rfl, rfl, h1, r1⟩ := trodAll_cons r0
  obtain ⟨v2, vs2, d2, ds2, p2, q2, rfl, rfl, rfl, h2, r2⟩ := trodAll_cons r1
  obtain ⟨v3, vs3, d3, ds3, p3, q3, rfl, rfl, rfl, h3, r3⟩ := trodAll_cons r2
  obtain ⟨rfl, rfl, rfl⟩ := trodAll_nil r3
  obtain rfl : args = #[v0, v1, v2, v3] := by cases args; simp_all
  obtain ⟨rfl, rfl⟩ := trodVars_none hV
  obtain ⟨a0, rfl, rfl, rfl, w0⟩ := open_int Ydam.underlying5 (hval 0 5 v0 rfl rfl) h0
  obtain ⟨a1, n1, c1, rfl⟩ := okWide_slice Ydam.underlying52 (hval 1 52 v1 rfl rfl)
  have lt1 : ∀ x ∈ p1, x.block < W.heap.size := by obtain ⟨m, hm⟩ := h1; exact DataW.trod_lt m _ _ _ hm
  obtain ⟨z10, z11, z12, s1, m1, w10, w11, w12⟩ := rd3_of_trod Ydam.underlying52 Ydam.underlying54 (by kernel_rfl) rfl rfl rfl rfl rfl rfl Ydam.underlying5 Ydam.underlying5 Ydam.underlying5 (by kernel_rfl) (by kernel_rfl) (by kernel_rfl) h1
  obtain ⟨a2, rfl, rfl, rfl, w2⟩ := open_int Ydam.underlying3 (hval 2 3 v2 rfl rfl) h2
  obtain ⟨a3, rfl, rfl, rfl, w3⟩ := open_int Ydam.underlying3 (hval 3 3 v3 rfl rfl) h3
  clear hA0 hval0
  refine (walk W a0 w0 a1 n1 c1 z10 z11 z12 s1 m1 w10 w11 w12 a2 w2 a3 w3).mono fun e W' ⟨he, bel⟩ => ?_
  subst he
  exact ⟨_, rfl, _, _, _, [], _, [], hW', trodAll_mk1 (shut_bool Ydam.underlying4 _), (cons_mk (shut_int Ydam.underlying5 w0) (cons_mk (Below.trod laidOut (by kernel_rfl) (of_decide_eq_true (by kernel_rfl)) h1 bel lt1) (cons_mk (shut_int Ydam.underlying3 w2) (cons_mk (shut_int Ydam.underlying3 w3) trodAll_mk0)))), rfl, bel.frame _, fun h => by cases h⟩

theorem over : Rows.lawS930009CScriptRow.holds Ydam.pinned (OpenSpec.ofChange Rows.lawS930009CScriptSpec) :=
  OpenClaim.holds_of_wide 9 Ydam.f9 rfl rfl rfl rfl rfl rfl rfl ⟨rfl, rfl, rfl, rfl, rfl⟩ rfl rfl rfl rfl rfl (by kernel_rfl) Ydam.func9 (by kernel_rfl)
    (of_decide_eq_true (by kernel_rfl)) (by unfold Func.isWrapper; first | (rw [if_pos (by decide +kernel)]; kernel_rfl) | (rw [if_neg (by decide +kernel)]; exact ⟨rfl, rfl⟩))
    (fun os started H enc _ => lifted os started H enc)

theorem proved : Rows.LawS930009CScriptSaid := over
#print axioms proved
end Go.Proofs.Ymbrda.lawS930009CScript
