/-
  LawS930009JModel.
-/
import Derived.Test.YmbrdcJsteps
import Derived.Test.YmbrdcReads
namespace Go.Proofs.Ymbrdc.lawS930009JModel
open Go.ChangeShapes Go.WideShapes Go.ChangeAt Go.RowKit
set_option linter.unusedVariables false
set_option linter.unusedSimpArgs false

set_option maxHeartbeats 8000000 in
set_option maxRecDepth 1000000 in
theorem walk (w : World) (a0 : Int) (w0 : (Lit.int .u8 a0).wf = true) (a1 : Option Addr) (n1 c1 : Nat) (zO zA zB : Nat → Int) (s1 : Rd3 .u8 .i64 .i64 w a1 n1 zO zA zB) (m1 : n1 ≤ maxLen)
    (wO : ∀ i, i < n1 → (Lit.int .u8 (zO i)).wf = true) (wA : ∀ i, i < n1 → (Lit.int .i64 (zA i)).wf = true) (wB : ∀ i, i < n1 → (Lit.int .i64 (zB i)).wf = true) :
    Calls Ydcm.prog 5 #[.int .u8 a0, .slice a1 n1 c1] w fun e w' => e = .returned (.bool true) ∧ Below w.heap.size w w' := by
  unfold maxLen at m1
  have b0 := bd_u8 w0
  clear w0
  obtain ⟨n, rfl⟩ := Int.eq_ofNat_of_zero_le b0.1
  by_cases hlt : 1024 < n1
  · have hd : decide ((1024 : Int) < (n1 : Int)) = true := by simp; omega
    go_enter Ydcm.func5, Ydcm.ntmps5
    go_wp2_with fail
    go_ret
    exact ⟨rfl, Below.refl _ _⟩
  · have hd : decide ((1024 : Int) < (n1 : Int)) = false := by simp; omega
    have hn2 : n ≤ 255 := by omega
    have hmk := mk n (by omega)
    go_enter Ydcm.func5, Ydcm.ntmps5
    go_wp2_with fail
    clear b0 hlt
    refine (new_yes n _ (by omega)).mono ?_
    rintro e wA1 ⟨b, bp, bs, rfl, hS, hb, hbp, hbs, hF⟩
    go_wp2_with fail
    have r0 := ARow.new wA1 n fun _ => 0
    replace hF := hF.alloc (.cells (row n fun _ => 0) 3)
    have lb := hS.lt
    have lbp := hS.hp.lt
    have lbs := hS.hs.lt
    replace hS := hS.alloc (.cells (row n fun _ => 0) 3)
    have hW : w.heap.size ≤ wA1.heap.size := by omega
    generalize wA1.heap.size = B at *
    generalize wA1.alloc (.cells (row n fun _ => 0) 3) = W at *
    go_loopw [9] (fun v wr => ∃ k : Nat, k ≤ n ∧ v = .int .i64 k ∧ SetsAt wr b bp bs n (fun i => (i : Int)) (fun _ => 1) n ∧ ARow wr B n (fil k (fun i => (i : Int)) fun _ => 0) ∧ Fr [] w wr) (fun v _ => n - (intOf v).toNat)
    case atStart => exact ⟨0, Nat.zero_le _, rfl, hS, r0.congr (by simp [fil]), hF⟩
    case round =>
      clear hS r0 hF
      obtain ⟨k, hk, rfl, hS, hA, hF⟩ := hrel
      by_cases hlt : k < n
      · have ck := hA.cell k hlt
        have fk := hA.frozen k
        go_wp2_with fail
        go_roundw
        case rel => exact ⟨k + 1, by omega, by go_num, hS.set_ne _ _ (by show B ≠ b; omega) (by show B ≠ bp; omega) (by show B ≠ bs; omega), hA.fill _ rfl, hF.setCell _ (.inr hW) _⟩
        case measure => simp [intOf] <;> omega
      · replace hA : ARow wr B n (fun i => ((fun x => x) i : Int)) := hA.congr (fun i hi => fil_lt _ _ (by omega))
        clear hmk
        go_upto_if 37 with fail
        go_cut [] from 37 to 83 (fun wz => ∃ (p s L : Nat → Nat) (c : Nat), SetsN wz b bp bs n p s c ∧ Inv n p s c ∧ ARow wz B n (fun i => (L i : Int)) ∧ CanN n L ∧ SameKer n (rt n p) L ∧ Fr [] w wz)
        case first =>
          by_cases h0 : n = 0
          · subst h0
            go_wp2_with fail
            go_meet
            case rel => exact ⟨fun x => x, fun _ => 1, fun x => x, 0, hS, inv_new 0, hA, can_id 0, SameKer.of_eq (fun x _ => rt_of_root 0 rfl), hF⟩
          · have hpos : (0 : Int) < (n : Int) := by omega
            have hdp : decide ((0 : Int) < (n : Int)) = true := dec_true hpos
            have hdp' : decide (0 < n) = true := dec_true (by omega)
            go_wp2_with fail
            go_loopw [10] (fun v wr => ∃ (k : Nat) (p s L : Nat → Nat) (c : Nat), k ≤ n1 ∧ v = .int .i64 k ∧ SetsN wr b bp bs n p s c ∧ Inv n p s c ∧ ARow wr B n (fun i => (L i : Int)) ∧ CanN n L ∧ SameKer n (rt n p) L ∧ Fr [] w wr) (fun v _ => n1 - (intOf v).toNat)
            case atStart => exact ⟨0, fun x => x, fun _ => 1, fun x => x, n, Nat.zero_le _, rfl, hS, inv_new n, hA, can_id n, SameKer.of_eq (fun x _ => rt_of_root n rfl), hF⟩
            case round =>
              clear hS hA hF
              obtain ⟨j, p, s, L, c, hj, rfl, hS, I, hA, hC, hK, hF⟩ := hrel
              have HC := hide hC
              have HK := hide hK
              clear hC hK
              by_cases hlt2 : j < n1
              · obtain ⟨b1, o1, rfl, cO, cA, cB⟩ := (hF.rd30 s1) j hlt2
                have bO := bd_u8 (wO j hlt2)
                have bA := bd_i64 (wA j hlt2)
                have bB := bd_i64 (wB j hlt2)
                have lt' : (j : Int) < (n1 : Int) := by omega
                go_upto_region 18 with fail
                obtain ⟨x, hx, x1⟩ := u64_rem (zA j) (n := n) (by omega) (by omega)
                obtain ⟨y, hy, y1⟩ := u64_rem (zB j) (n := n) (by omega) (by omega)
                rw [hx, hy]
                clear hx hy bA bB cA cB
                go_wp2_with fail
                refine (jplay_any b bp bs n p s c (zO j) x y _ (by omega) bO x1 y1 hS I).mono ?_
                rintro e w2 ⟨p2, s2, c2, h⟩
                obtain rfl := h.ret
                have hF3 : Fr [] w w2 := hF.trans' h.fr (by intro x hx hl; simp at hx; omega)
                have hA2 := h.fr.aRow hA (by simp; omega)
                have cO2 : w2.cell? ⟨b1, o1 + j * 3, none⟩ = some (.int .u8 (zO j)) := by
                  obtain ⟨b2, o2, e2, cO', _⟩ := (hF3.rd30 s1) j hlt2
                  cases e2
                  exact cO'
                have hS2 := h.sets
                have I2 := h.inv
                have Hsk := hide h.skip
                have Hmg := hide h.merge
                clear h hS I hF hA cO
                by_cases eo : zO j % 4 = 3
                · have ee : (zO j % 4 != 3) = false := by simp [eo]
                  have HK2 : Hid (SameKer n (rt n p2) L) := (SameKer.of_eq (Hsk.out eo)).trans HK.out
                  clear eo Hsk Hmg
                  go_wp2_with fail
                  go_roundw
                  case rel => exact ⟨j + 1, p2, s2, L, c2, by omega, by go_num, hS2, I2, hA2, HC.out, HK2.out, hF3⟩
                  case measure => simp [intOf] <;> omega
                · have ee : (zO j % 4 != 3) = true := by simp [eo]
                  have HM2 := hide (Hmg.out eo)
                  clear eo Hsk Hmg
                  go_wp2_with fail
                  refine (jrelabel_any n B L x y _ (by omega) x1 y1 hA2 HC.out).mono ?_
                  rintro e w4 ⟨L2, h⟩
                  obtain rfl := h.ret
                  have hS4 : SetsN w4 b bp bs n p2 s2 c2 := SetsAt.fr hS2 h.fr (by simp; omega) (by simp; omega) (by simp; omega)
                  have hF4 : Fr [] w w4 := hF3.trans' h.fr (by intro x hx hl; simp at hx; omega)
                  have hA4 := h.row
                  have HC4 := hide h.can
                  have HK4 := hide (Merge.same x1 y1 HK.out HM2.out h.merge)
                  clear h
                  go_wp2_with fail
                  go_roundw
                  case rel => exact ⟨j + 1, p2, s2, L2, c2, by omega, by go_num, hS4, I2, hA4, HC4.out, HK4.out, hF4⟩
                  case measure => simp [intOf] <;> omega
              · go_wp2_with fail
                go_meet
                case rel => exact ⟨p, s, L, c, hS, I, hA, HC.out, HK.out, hF⟩
        case rest =>
          clear hS hA hF
          obtain ⟨p, s, L, c, hS, I, hA, hC, hK, hF⟩ := hcut
          have HL := hide (fun i hi => can_lab hC hK i hi)
          clear hC hK
          go_wp2_with fail
          refine (labels_any b n n _ p _ _ (by omega) (SetsAt.c0 hS) hS.hp.rd I.forest).mono ?_
          rintro e w3 ⟨bl, rfl, hL, hbl, hG⟩
          replace hA := hG.aRow hA (by simp)
          replace hF := hF.trans hG
          clear hG hS
          go_wp2_with fail
          refine (jeq_any _ _ n n n n _ _ _ (by omega) (by omega) hL.rd hA.rd).mono ?_
          rintro e w4 ⟨⟨r, rfl, hr⟩, hG⟩
          have hr : r = true := hr.2 ⟨rfl, fun i hi => by rw [HL.out i hi]⟩
          subst hr
          go_wp2_with fail
          go_ret
          exact ⟨rfl, (hF.trans hG).below⟩

theorem own : ownKnob Ydcm.prog.godebug = none := by kernel_rfl
theorem laidOut : laidOutB Ydcm.prog = true := by kernel_rfl
set_option maxRecDepth 100000 in
theorem lifted (os : Os) (started : os.Started) (H : Type) (enc : TypeId × Value → H) :
    ReturnsInHanded {} Ydcm.checked os 5 .any (Rows.lawS930009JModelSpec.pre6 enc Ydcm.prog Ydcm.f5 Rows.lawS930009JModelRow.domain false) (Rows.lawS930009JModelSpec.post enc Ydcm.prog Ydcm.f5 false true false false) := by
  refine returnsInHanded_of_change (C := Ydcm.checked) own started (by kernel_rfl) Ydcm.func5
    (ChangeSpec.witness6 (enc := enc) (C := Ydcm.checked) false ⟨#[], #[.int .u8 0, .slice none 0 0], []⟩ 8 (by kernel_rfl) (by kernel_rfl) (by kernel_rfl) (by kernel_rfl)) ?_
  intro W base args ds gs before hval0 hW hcnd _
  have hval : ∀ (j : Nat) t v, Ydcm.f5.params[j]? = some t → args[j]? = some v → Value.okWide Ydcm.prog W .any base t v := hval0
  have hW' := hW
  obtain ⟨p, q, hA0, hV, rfl, hfz, hnd⟩ := hW
  have hA : DataW.TrodAll enc Ydcm.prog W 0 (fun _ => true) true Ydcm.f5.params.toList args.toList ds p := hA0
  rw [Ydcm.params5] at hA hval
  obtain ⟨v0, vs0, d0, ds0, p0, q0, hargs, rfl, rfl, h0, r0⟩ := trodAll_cons hA
  obtain ⟨v1, vs1, d1, ds1, p1, q1, rfl, rfl, rfl, h1, r1⟩ := trodAll_cons r0
  obtain ⟨rfl, rfl, rfl⟩ := trodAll_nil r1
  obtain rfl : args = #[v0, v1] := by cases args; simp_all
  obtain ⟨rfl, rfl⟩ := trodVars_none hV
  obtain ⟨a0, rfl, rfl, rfl, w0⟩ := open_int Ydcm.underlying5 (hval 0 5 v0 rfl rfl) h0
  obtain ⟨a1, n1, c1, rfl⟩ := okWide_slice Ydcm.underlying31 (hval 1 31 v1 rfl rfl)
  have lt1 : ∀ x ∈ p1, x.block < W.heap.size := by obtain ⟨m, hm⟩ := h1; exact DataW.trod_lt m _ _ _ hm
  obtain ⟨z10, z11, z12, s1, m1, w10, w11, w12⟩ := rd3_of_trod Ydcm.underlying31 Ydcm.underlying35 (by kernel_rfl) rfl rfl rfl rfl rfl rfl Ydcm.underlying5 Ydcm.underlying3 Ydcm.underlying3 (by kernel_rfl) (by kernel_rfl) (by kernel_rfl) h1
  clear hA0 hval0
  refine (walk W a0 w0 a1 n1 c1 z10 z11 z12 s1 m1 w10 w11 w12).mono fun e W' ⟨he, bel⟩ => ?_
  subst he
  exact ⟨_, rfl, _, _, _, [], _, [], hW', trodAll_mk1 (shut_bool Ydcm.underlying4 _), (cons_mk (shut_int Ydcm.underlying5 w0) (cons_mk (Below.trod laidOut (by kernel_rfl) (of_decide_eq_true (by kernel_rfl)) h1 bel lt1) trodAll_mk0)), rfl, bel.frame _, fun h => by cases h⟩

theorem over : Rows.lawS930009JModelRow.holds Ydcm.pinned (OpenSpec.ofChange Rows.lawS930009JModelSpec) :=
  OpenClaim.holds_of_wide 5 Ydcm.f5 rfl rfl rfl rfl rfl rfl rfl ⟨rfl, rfl, rfl, rfl, rfl⟩ rfl rfl rfl rfl rfl (by kernel_rfl) Ydcm.func5 (by kernel_rfl)
    (of_decide_eq_true (by kernel_rfl)) (by unfold Func.isWrapper; first | (rw [if_pos (by decide +kernel)]; kernel_rfl) | (rw [if_neg (by decide +kernel)]; exact ⟨rfl, rfl⟩))
    (fun os started H enc _ => lifted os started H enc)

theorem proved : Rows.LawS930009JModelSaid := over
#print axioms proved
end Go.Proofs.Ymbrdc.lawS930009JModel
