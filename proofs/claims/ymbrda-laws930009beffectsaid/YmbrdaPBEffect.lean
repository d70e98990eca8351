/-
  LawS930009BEffect.
-/
import Derived.Test.YmbrdaBeff
import Derived.Test.YmbrdaValid
namespace Go.Proofs.Ymbrda.lawS930009BEffect
open Go.ChangeShapes Go.WideShapes Go.ChangeAt Go.RowKit
set_option linter.unusedVariables false
set_option linter.unusedSimpArgs false

theorem both {n : Nat} {x y : Int} (g : (0 ≤ x ∧ x < (n : Int)) ∧ (0 ≤ y ∧ y < (n : Int))) : ∃ a b : Nat, x = a ∧ y = b ∧ a < n ∧ b < n :=
  ⟨x.toNat, y.toNat, by omega, by omega, by omega, by omega⟩

theorem u8_bd (z : Int) : 0 ≤ IntKind.u8.wrap z ∧ IntKind.u8.wrap z ≤ 255 := by
  simp [IntKind.wrap, IntKind.bits, IntKind.signed]; omega

theorem bne_natT {a b : Nat} (h : a ≠ b) : ((a : Int) != (b : Int)) = true := by simp; omega

theorem trio (n : Nat) (x : Int) : (decide (0 ≤ x) = false ∧ inb n x = false) ∨ (decide (0 ≤ x) = true ∧ decide (x < (n : Int)) = true ∧ inb n x = true) ∨ (decide (0 ≤ x) = true ∧ decide (x < (n : Int)) = false ∧ inb n x = false) := by
  unfold inb
  by_cases h : 0 ≤ x
  · by_cases h2 : x < (n : Int)
    · exact Or.inr (Or.inl ⟨dec_true h, dec_true h2, dec_true ⟨h, h2⟩⟩)
    · exact Or.inr (Or.inr ⟨dec_true h, dec_false h2, dec_false (fun g => h2 g.2)⟩)
  · exact Or.inl ⟨dec_false h, dec_false (fun g => h g.1)⟩

set_option maxHeartbeats 8000000 in
set_option maxRecDepth 1000000 in
theorem walk (w : World) (a0 : Int) (w0 : (Lit.int .u8 a0).wf = true) (a1 : Option Addr) (n1 c1 : Nat) (zO zA zB : Nat → Int) (s1 : Rd3 .u8 .u8 .u8 w a1 n1 zO zA zB) (m1 : n1 ≤ maxLen)
    (wO : ∀ i, i < n1 → (Lit.int .u8 (zO i)).wf = true) (wA : ∀ i, i < n1 → (Lit.int .u8 (zA i)).wf = true) (wB : ∀ i, i < n1 → (Lit.int .u8 (zB i)).wf = true)
    (a2 : Bool) (a3 : Int) (w3 : (Lit.int .i64 a3).wf = true) (a4 : Int) (w4 : (Lit.int .i64 a4).wf = true) :
    Calls Ydam.prog 7 #[.int .u8 a0, .slice a1 n1 c1, .bool a2, .int .i64 a3, .int .i64 a4] w fun e w' => e = .returned (.bool true) ∧ Below w.heap.size w w' := by
  unfold maxLen at m1
  have b0 := bd_u8 w0
  clear w0 w3 w4
  by_cases hlt : 1024 < n1
  · have hd : decide ((1024 : Int) < (n1 : Int)) = true := by simp; omega
    go_enter Ydam.func7, Ydam.ntmps7
    go_wp2_with fail
    go_ret
    exact ⟨rfl, Below.refl _ _⟩
  · have hd : decide ((1024 : Int) < (n1 : Int)) = false := by simp; omega
    have hm2 : n1 ≤ 1024 := by omega
    go_enter Ydam.func7, Ydam.ntmps7
    go_upto_region 4 with fail
    obtain ⟨n, hn⟩ : ∃ n : Nat, (a0 + 6) % 256 = n := Int.eq_ofNat_of_zero_le (by omega)
    have hn2 : n ≤ 255 := by omega
    rw [hn]
    clear hn b0 hd hlt
    go_upto_if 32 with fail
    go_cut [3, 4] from 32 to 40 (fun v3 v4 wz => w = wz ∧ ∃ x y : Int, v3 = .int .i64 x ∧ v4 = .int .i64 y)
    case first =>
      cases a2
      · go_wp2_with fail
        refine (bpick_any n _ _ hn2 ?_).mono ?_
        · first
            | exact u8_bd _
            | omega
        rintro e w1 ⟨rfl, rfl⟩
        go_wp2_with fail
        refine (bpick_any n _ _ hn2 ?_).mono ?_
        · first
            | exact u8_bd _
            | omega
        rintro e w3 ⟨rfl, rfl⟩
        go_wp2_with fail
        go_meet
        case rel => exact ⟨rfl, _, _, rfl, rfl⟩
      · go_wp2_with fail
        go_meet
        case rel => exact ⟨rfl, _, _, rfl, rfl⟩
    case rest =>
      obtain ⟨rfl, x, y, rfl, rfl⟩ := hcut
      clear a3 a4
      go_wp2_with fail
      refine (bbuild_any n n1 c1 a1 zO zA zB _ hn2 (by omega) s1 wO wA wB).mono ?_
      rintro e wa ⟨b, bp, bs, p, s, c, h⟩
      obtain rfl := h.ret
      have hS := h.sets
      have I := h.inv
      have hb := h.hb
      have hbp := h.hbp
      have hbs := h.hbs
      have hF := h.fr
      have l1 := SetsAt.lt hS
      have l2 := hS.hp.lt
      have l3 := hS.hs.lt
      clear h s1 wO wA wB
      go_wp2_with fail
      refine (labels_any b n n _ p _ _ (by omega) (SetsAt.c0 hS) hS.hp.rd I.forest).mono ?_
      rintro e x0 ⟨bl, rfl, hL, hbl, hG⟩
      have zz0 := hG.size
      replace hS : SetsN x0 b bp bs n p s c := SetsAt.fr0 hS hG
      replace hF := hF.trans hG
      clear hG
      have c0 := SetsAt.c0 hS
      go_wp2_with fail
      refine (bcopy_any _ n n (fun i => (p i : Int)) _ (by omega) hS.hp.rd).mono ?_
      rintro e x1 ⟨bo0, rfl, R0, hbo0, hG⟩
      clear c0
      have zz1 := hG.size
      replace hS : SetsN x1 b bp bs n p s c := SetsAt.fr0 hS hG
      replace hL := hG.aRow hL (by simp)
      replace hF := hF.trans hG
      clear hG
      have c1 := SetsAt.c1 hS
      go_wp2_with fail
      refine (bcopy_any _ n n (fun i => (s i : Int)) _ (by omega) hS.hs.rd).mono ?_
      rintro e x2 ⟨bo1, rfl, R1, hbo1, hG⟩
      clear c1
      replace hS : SetsN x2 b bp bs n p s c := SetsAt.fr0 hS hG
      replace hL := hG.aRow hL (by simp)
      replace R0 := hG.aRow R0 (by simp)
      replace hF := hF.trans hG
      clear hG
      have c2 := SetsAt.c2 hS
      go_wp2_with fail
      refine (union_any b bp bs n p s c x y _ hS I (by omega)).mono ?_
      rintro e x3 ⟨rfl, hS2, hG⟩
      replace hL := hG.aRow hL (by simp; omega)
      replace R0 := hG.aRow R0 (by simp; omega)
      replace R1 := hG.aRow R1 (by simp; omega)
      replace hF : Fr [] w x3 := hF.trans' hG (by intro x hx hl; simp at hx; omega)
      have I2 := I.unionZ x y
      have cle := I.cle
      clear hS hG c2
      go_upto_region 17 with fail
      go_cut [79] from 64 to 79 (fun v79 wz => x3 = wz ∧ v79 = .bool (inb2 n x y))
      case first =>
        rcases trio n x with ⟨u1, ux⟩ | ⟨u1, u2, ux⟩ | ⟨u1, u2, ux⟩
        all_goals rcases trio n y with ⟨v1, vx⟩ | ⟨v1, v2, vx⟩ | ⟨v1, v2, vx⟩
        all_goals have EE : Hid (inb2 n x y = (inb n x && inb n y)) := hide rfl
        all_goals rw [ux, vx] at EE
        all_goals clear ux vx
        all_goals go_wp2_with fail
        all_goals go_meet
        all_goals exact ⟨rfl, by rw [EE.out]; rfl⟩
      case rest =>
        obtain ⟨rfl, rfl⟩ := hcut
        go_upto_if 79 with fail
        go_cut [18, 19, 20, 21] from 79 to 101 (fun v18 v19 v20 v21 wz => x3 = wz ∧ ∃ ch lo hi : Nat, v18 = .int .i64 (zCode n p x y) ∧ v19 = .int .i64 ch ∧ v20 = .int .i64 lo ∧ v21 = .int .i64 hi ∧ EF n p s (zP n p s x y) (zS n p s x y) c (zC n p c x y) ch lo hi)
        case first =>
          by_cases g : (0 ≤ x ∧ x < (n : Int)) ∧ (0 ≤ y ∧ y < (n : Int))
          · obtain ⟨i, j, rfl, rfl, hi, hj⟩ := both g
            rw [inb2_nat hi hj]
            have ci := hL.cell i hi
            have cj := hL.cell j hj
            have li : (i : Int) < (n : Int) := by omega
            have lj : (j : Int) < (n : Int) := by omega
            have Q := hide (lab_eq_iff (rt n p) i j)
            have S1 := hide (fun h1 h2 h3 => ef_some (a := i) (b := j) (lo := lab (rt n p) i) (hi := lab (rt n p) j) I hi hj h1 h2 h3)
            have S2 := hide (fun h1 h2 h3 => ef_some (a := i) (b := j) (lo := lab (rt n p) j) (hi := lab (rt n p) i) I hi hj h1 h2 h3)
            have T := hide (ef_none n p s c (lab (rt n p) j) (lab (rt n p) j))
            clear g hL R0 R1 hS2 I2 I
            generalize hA : lab (rt n p) i = A at *
            generalize hB : lab (rt n p) j = B at *
            clear hA hB
            rcases Nat.lt_trichotomy A B with hab | hab | hab
            · have d1 : decide ((B : Int) < (A : Int)) = false := dec_false (by omega)
              have d1' : decide (B < A) = false := dec_false (by omega)
              have d2 := bne_natT (Nat.ne_of_lt hab)
              have hne : rt n p i ≠ rt n p j := fun h => by have := Q.out.2 h; omega
              have X := hide (S1.out hne (Or.inl ⟨rfl, rfl⟩) hab)
              have Hn := hide hne
              clear S1 S2 T Q hne
              go_wp2_with fail
              go_meet
              case rel => exact ⟨rfl, 1, A, B, by rw [zCode_nat hi hj, uCode, if_neg Hn.out], rfl, rfl, rfl, by rw [zP_nat hi hj, zS_nat hi hj, zC_nat hi hj]; exact X.out⟩
            · subst hab
              have d1 : decide ((A : Int) < (A : Int)) = false := dec_false (by omega)
              have d1' : decide (A < A) = false := dec_false (by omega)
              have d2 := bne_self (A : Int)
              have He := hide (Q.out.1 rfl)
              clear S1 S2 Q
              go_wp2_with fail
              go_meet
              case rel => exact ⟨rfl, 0, A, A, by rw [zCode_nat hi hj, uCode, if_pos He.out], rfl, rfl, rfl, by rw [zP_nat hi hj, zS_nat hi hj, zC_nat hi hj, uP, uS, uC, if_pos He.out, if_pos He.out, if_pos He.out]; exact T.out⟩
            · have d1 : decide ((B : Int) < (A : Int)) = true := dec_true (by omega)
              have d1' : decide (B < A) = true := dec_true (by omega)
              have d2 := bne_natT (Nat.ne_of_lt hab)
              have hne : rt n p i ≠ rt n p j := fun h => by have := Q.out.2 h; omega
              have X := hide (S2.out hne (Or.inr ⟨rfl, rfl⟩) hab)
              have Hn := hide hne
              clear S1 S2 T Q hne
              go_wp2_with fail
              go_meet
              case rel => exact ⟨rfl, 1, B, A, by rw [zCode_nat hi hj, uCode, if_neg Hn.out], rfl, rfl, rfl, by rw [zP_nat hi hj, zS_nat hi hj, zC_nat hi hj]; exact X.out⟩
          · have e := inb2_out g
            rw [e]
            have X := hide (ef_none n p s c 0 0)
            have E := hide e
            clear e g
            go_wp2_with fail
            go_meet
            case rel => exact ⟨rfl, 0, 0, 0, by rw [zCode_out E.out], rfl, rfl, rfl, by rw [zP_out E.out, zS_out E.out, zC_out E.out]; exact X.out⟩
        case rest =>
          obtain ⟨rfl, ch, lo, hi, rfl, rfl, rfl, rfl, E⟩ := hcut
          have HE := hide E
          have hle : ch ≤ 1 := by rcases E.le with h | h <;> omega
          have c0 := SetsAt.c0 hS2
          have c1 := SetsAt.c1 hS2
          have c2 := SetsAt.c2 hS2
          rw [E.cc] at c2
          generalize zCode n p x y = Z at *
          have ee := bne_self Z
          have ec := bne_self ((c : Int) - (ch : Int))
          have eh := bne_self (ch : Int)
          clear E
          go_wp2_with fail
          refine (bdiff_any bo0 bp n n n _ _ _ (by omega) R0 hS2.hp).mono ?_
          rintro e y0 ⟨rfl, hG⟩
          rw [HE.out.dp]
          clear c0 c1 c2
          replace hS2 : SetsN y0 b bp bs n (zP n p s x y) (zS n p s x y) (zC n p c x y) := SetsAt.fr0 hS2 hG
          replace hL := hG.aRow hL (by simp)
          replace R1 := hG.aRow R1 (by simp)
          replace hF := hF.trans hG
          clear hG R0
          have c0 := SetsAt.c0 hS2
          have c1 := SetsAt.c1 hS2
          go_wp2_with fail
          refine (bdiff_any bo1 bs n n n _ _ _ (by omega) R1 hS2.hs).mono ?_
          rintro e y1 ⟨rfl, hG⟩
          rw [HE.out.ds]
          clear c0 c1
          replace hS2 : SetsN y1 b bp bs n (zP n p s x y) (zS n p s x y) (zC n p c x y) := SetsAt.fr0 hS2 hG
          replace hL := hG.aRow hL (by simp)
          replace hF := hF.trans hG
          clear hG R1
          go_wp2_with fail
          refine (labels_any b n n _ _ _ _ (by omega) (SetsAt.c0 hS2) hS2.hp.rd I2.forest).mono ?_
          rintro e y2 ⟨bm, rfl, hM, _, hG⟩
          replace hS2 : SetsN y2 b bp bs n (zP n p s x y) (zS n p s x y) (zC n p c x y) := SetsAt.fr0 hS2 hG
          replace hL := hG.aRow hL (by simp)
          replace hF := hF.trans hG
          clear hG ee ec
          have en := bne_self (n : Int)
          go_wp2_with fail
          go_loop [23] (fun v => ∃ i : Nat, i ≤ n ∧ v = .int .i64 i) (fun v => n - (intOf v).toNat)
          case atStart => exact ⟨0, Nat.zero_le _, rfl⟩
          case round =>
            obtain ⟨i, hi', rfl⟩ := hrel
            by_cases hlt3 : i < n
            · have ci := hL.cell i hlt3
              have di := hM.cell i hlt3
              have li : (i : Int) < (n : Int) := by omega
              rw [HE.out.lb i hlt3] at di
              generalize lab (rt n p) i = A at *
              by_cases h1 : ch = 1
              · have e1 : ((ch : Int) == 1) = true := by simp [h1]
                by_cases h2 : A = hi
                · subst h2
                  rw [if_pos ⟨h1, rfl⟩] at di
                  have e2 := beq_selfII (A : Int)
                  have e3 := bne_self (lo : Int)
                  clear h1
                  go_wp2_with fail
                  go_round
                  case rel => exact ⟨i + 1, by omega, by go_num⟩
                  case measure => simp [intOf] <;> omega
                · rw [if_neg (fun g => h2 g.2)] at di
                  have e2 := beq_nat h2
                  have e3 := bne_self (A : Int)
                  clear h1
                  go_wp2_with fail
                  go_round
                  case rel => exact ⟨i + 1, by omega, by go_num⟩
                  case measure => simp [intOf] <;> omega
              · have e1 : ((ch : Int) == 1) = false := by simp; omega
                rw [if_neg (fun g => h1 g.1)] at di
                have e3 := bne_self (A : Int)
                clear h1
                go_wp2_with fail
                go_round
                case rel => exact ⟨i + 1, by omega, by go_num⟩
                case measure => simp [intOf] <;> omega
            · clear hL hM
              go_wp2_with fail
              refine (valid_any b _ _ n n n n _ _ _ _ (by omega) (by omega) (SetsAt.sv hS2)).mono ?_
              rintro e y3 ⟨⟨r, rfl, hr⟩, hG⟩
              obtain rfl : r = true := hr.2 (I2.vok (by omega))
              go_wp2_with fail
              go_ret
              exact ⟨rfl, (hF.trans hG).below⟩

theorem own : ownKnob Ydam.prog.godebug = none := by kernel_rfl
theorem laidOut : laidOutB Ydam.prog = true := by kernel_rfl
set_option maxRecDepth 100000 in
theorem lifted (os : Os) (started : os.Started) (H : Type) (enc : TypeId × Value → H) :
    ReturnsInHanded {} Ydam.checked os 7 .any (Rows.lawS930009BEffectSpec.pre6 enc Ydam.prog Ydam.f7 Rows.lawS930009BEffectRow.domain false) (Rows.lawS930009BEffectSpec.post enc Ydam.prog Ydam.f7 false true false false) := by
  refine returnsInHanded_of_change (C := Ydam.checked) own started (by kernel_rfl) Ydam.func7
    (ChangeSpec.witness6 (enc := enc) (C := Ydam.checked) false ⟨#[], #[.int .u8 0, .slice none 0 0, .bool false, .int .i64 0, .int .i64 0], []⟩ 8 (by kernel_rfl) (by kernel_rfl) (by kernel_rfl) (by kernel_rfl)) ?_
  intro W base args ds gs before hval0 hW hcnd _
  have hval : ∀ (j : Nat) t v, Ydam.f7.params[j]? = some t → args[j]? = some v → Value.okWide Ydam.prog W .any base t v := hval0
  have hW' := hW
  obtain ⟨p, q, hA0, hV, rfl, hfz, hnd⟩ := hW
  have hA : DataW.TrodAll enc Ydam.prog W 0 (fun _ => true) true Ydam.f7.params.toList args.toList ds p := hA0
  rw [Ydam.params7] at hA hval
  obtain ⟨v0, vs0, d0, ds0, p0, q0, hargs, rfl, rfl, h0, r0⟩ := trodAll_cons hA
  obtain ⟨v1, vs1, d1, ds1, p1, q1, rfl, rfl, rfl, h1, r1⟩ := trodAll_cons r0
  obtain ⟨v2, vs2, d2, ds2, p2, q2, rfl, rfl, rfl, h2, r2⟩ := trodAll_cons r1
  obtain ⟨v3, vs3, d3, ds3, p3, q3, rfl, rfl, rfl, h3, r3⟩ := trodAll_cons r2
  obtain ⟨v4, vs4, d4, ds4, p4, q4, rfl, rfl, rfl, h4, r4⟩ := trodAll_cons r3
  obtain ⟨rfl, rfl, rfl⟩ := trodAll_nil r4
  obtain rfl : args = #[v0, v1, v2, v3, v4] := by cases args; simp_all
  obtain ⟨rfl, rfl⟩ := trodVars_none hV
  obtain ⟨a0, rfl, rfl, rfl, w0⟩ := open_int Ydam.underlying5 (hval 0 5 v0 rfl rfl) h0
  obtain ⟨a1, n1, c1, rfl⟩ := okWide_slice Ydam.underlying45 (hval 1 45 v1 rfl rfl)
  have lt1 : ∀ x ∈ p1, x.block < W.heap.size := by obtain ⟨m, hm⟩ := h1; exact DataW.trod_lt m _ _ _ hm
  obtain ⟨z10, z11, z12, s1, m1, w10, w11, w12⟩ := rd3_of_trod Ydam.underlying45 Ydam.underlying74 (by kernel_rfl) rfl rfl rfl rfl rfl rfl Ydam.underlying5 Ydam.underlying5 Ydam.underlying5 (by kernel_rfl) (by kernel_rfl) (by kernel_rfl) h1
  obtain ⟨a2, rfl, rfl, rfl⟩ := open_bool Ydam.underlying4 (hval 2 4 v2 rfl rfl) h2
  obtain ⟨a3, rfl, rfl, rfl, w3⟩ := open_int Ydam.underlying3 (hval 3 3 v3 rfl rfl) h3
  obtain ⟨a4, rfl, rfl, rfl, w4⟩ := open_int Ydam.underlying3 (hval 4 3 v4 rfl rfl) h4
  clear hA0 hval0
  refine (walk W a0 w0 a1 n1 c1 z10 z11 z12 s1 m1 w10 w11 w12 a2 a3 w3 a4 w4).mono fun e W' ⟨he, bel⟩ => ?_
  subst he
  exact ⟨_, rfl, _, _, _, [], _, [], hW', trodAll_mk1 (shut_bool Ydam.underlying4 _), (cons_mk (shut_int Ydam.underlying5 w0) (cons_mk (Below.trod laidOut (by kernel_rfl) (of_decide_eq_true (by kernel_rfl)) h1 bel lt1) (cons_mk (shut_bool Ydam.underlying4 a2) (cons_mk (shut_int Ydam.underlying3 w3) (cons_mk (shut_int Ydam.underlying3 w4) trodAll_mk0))))), rfl, bel.frame _, fun h => by cases h⟩

theorem over : Rows.lawS930009BEffectRow.holds Ydam.pinned (OpenSpec.ofChange Rows.lawS930009BEffectSpec) :=
  OpenClaim.holds_of_wide 7 Ydam.f7 rfl rfl rfl rfl rfl rfl rfl ⟨rfl, rfl, rfl, rfl, rfl⟩ rfl rfl rfl rfl rfl (by kernel_rfl) Ydam.func7 (by kernel_rfl)
    (of_decide_eq_true (by kernel_rfl)) (by unfold Func.isWrapper; first | (rw [if_pos (by decide +kernel)]; kernel_rfl) | (rw [if_neg (by decide +kernel)]; exact ⟨rfl, rfl⟩))
    (fun os started H enc _ => lifted os started H enc)

theorem proved : Rows.LawS930009BEffectSaid := over
#print axioms proved
end Go.Proofs.Ymbrda.lawS930009BEffect
