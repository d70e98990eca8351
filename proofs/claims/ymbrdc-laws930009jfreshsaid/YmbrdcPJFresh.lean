/-
  LawS930009JFresh.
-/
import Derived.Test.YmbrdcJsteps
import Derived.Test.YmbrdcReads
namespace Go.Proofs.Ymbrdc.lawS930009JFresh
open Go.ChangeShapes Go.WideShapes Go.ChangeAt Go.RowKit
set_option linter.unusedVariables false
set_option linter.unusedSimpArgs false

theorem told {e : Ending} {Q : Prop} (h : Tells e Q) (q : Q) : e = .returned (.bool true) := by
  obtain ⟨r, rfl, hr⟩ := h
  rw [hr.2 q]

set_option maxHeartbeats 8000000 in
set_option maxRecDepth 1000000 in
theorem walk (w : World) (a0 : Int) (w0 : (Lit.int .u8 a0).wf = true) (a1 : Option Addr) (n1 c1 : Nat) (zO zA zB : Nat → Int) (s1 : Rd3 .u8 .i64 .i64 w a1 n1 zO zA zB) (m1 : n1 ≤ maxLen)
    (wO : ∀ i, i < n1 → (Lit.int .u8 (zO i)).wf = true) (wA : ∀ i, i < n1 → (Lit.int .i64 (zA i)).wf = true) (wB : ∀ i, i < n1 → (Lit.int .i64 (zB i)).wf = true) :
    Calls Ydcm.prog 7 #[.int .u8 a0, .slice a1 n1 c1] w fun e w' => e = .returned (.bool true) ∧ Below w.heap.size w w' := by
  unfold maxLen at m1
  have b0 := bd_u8 w0
  clear w0
  obtain ⟨n, rfl⟩ := Int.eq_ofNat_of_zero_le b0.1
  by_cases hlt : 1024 < n1
  · have hd : decide ((1024 : Int) < (n1 : Int)) = true := by simp; omega
    go_enter Ydcm.func7, Ydcm.ntmps7
    go_wp2_with fail
    go_ret
    exact ⟨rfl, Below.refl _ _⟩
  · have hd : decide ((1024 : Int) < (n1 : Int)) = false := by simp; omega
    have hn2 : n ≤ 255 := by omega
    go_enter Ydcm.func7, Ydcm.ntmps7
    go_wp2_with fail
    clear b0 hlt
    refine (new_yes n _ (by omega)).mono ?_
    rintro e wA1 ⟨b, bp, bs, rfl, hS, hb, hbp, hbs, hF⟩
    replace hS : SetsN wA1 b bp bs n (fun x => x) (fun _ => 1) n := hS
    have lb := SetsAt.lt hS
    go_upto_if 30 with fail
    go_cut [] from 30 to 65 (fun wz => ∃ (p s : Nat → Nat) (c : Nat), SetsN wz b bp bs n p s c ∧ Inv n p s c ∧ Fr [] w wz)
    case first =>
      by_cases h0 : n = 0
      · subst h0
        go_wp2_with fail
        go_meet
        case rel => exact ⟨fun x => x, fun _ => 1, 0, hS, inv_new 0, hF⟩
      · have hpos : (0 : Int) < (n : Int) := by omega
        have hdp : decide ((0 : Int) < (n : Int)) = true := dec_true hpos
        have hdp' : decide (0 < n) = true := dec_true (by omega)
        go_wp2_with fail
        rw [hdp']
        go_loopw [8] (fun v wr => ∃ (k : Nat) (p s : Nat → Nat) (c : Nat), k ≤ n1 ∧ v = .int .i64 k ∧ SetsN wr b bp bs n p s c ∧ Inv n p s c ∧ Fr [] w wr) (fun v _ => n1 - (intOf v).toNat)
        case atStart => exact ⟨0, fun x => x, fun _ => 1, n, Nat.zero_le _, rfl, hS, inv_new n, hF⟩
        case round =>
          clear hS hF
          obtain ⟨j, p, s, c, hj, rfl, hS, I, hF⟩ := hrel
          by_cases hlt2 : j < n1
          · obtain ⟨b1, o1, rfl, cO, cA, cB⟩ := (hF.rd30 s1) j hlt2
            have bO := bd_u8 (wO j hlt2)
            have bA := bd_i64 (wA j hlt2)
            have bB := bd_i64 (wB j hlt2)
            have lt' : (j : Int) < (n1 : Int) := by omega
            go_upto_region 13 with fail
            obtain ⟨x, hx, x1⟩ := u64_rem (zA j) (n := n) (by omega) (by omega)
            obtain ⟨y, hy, y1⟩ := u64_rem (zB j) (n := n) (by omega) (by omega)
            rw [hx, hy]
            clear hx hy bA bB cA cB
            go_wp2_with fail
            refine (jplay_any b bp bs n p s c (zO j) x y _ (by omega) bO x1 y1 hS I).mono ?_
            rintro e w2 ⟨p2, s2, c2, h⟩
            obtain rfl := h.ret
            have hF3 : Fr [] w w2 := hF.trans' h.fr (by intro x hx hl; simp at hx; omega)
            have hS2 := h.sets
            have I2 := h.inv
            clear h hS I hF cO
            go_wp2_with fail
            go_roundw
            case rel => exact ⟨j + 1, p2, s2, c2, by omega, by go_num, hS2, I2, hF3⟩
            case measure => simp [intOf] <;> omega
          · go_wp2_with fail
            go_meet
            case rel => exact ⟨p, s, c, hS, I, hF⟩
    case rest =>
      clear hS hF
      obtain ⟨p, s, c, hS, I, hF⟩ := hcut
      clear s1 wO wA wB hd
      have c0 := SetsAt.c0 hS
      have c1 := SetsAt.c1 hS
      have c2 := SetsAt.c2 hS
      go_wp2_with fail
      refine (jcopy_any _ n n (fun i => (p i : Int)) _ (by omega) hS.hp.rd).mono ?_
      rintro e x0 ⟨bo0, rfl, R0, _, hG⟩
      clear c0 c1 c2
      replace hS : SetsN x0 b bp bs n p s c := SetsAt.fr0 hS hG
      replace hF := hF.trans hG
      clear hG
      have c0 := SetsAt.c0 hS
      have c1 := SetsAt.c1 hS
      have c2 := SetsAt.c2 hS
      go_wp2_with fail
      refine (jcopy_any _ n n (fun i => (s i : Int)) _ (by omega) hS.hs.rd).mono ?_
      rintro e x1 ⟨bo1, rfl, R1, _, hG⟩
      clear c0 c1 c2
      replace hS : SetsN x1 b bp bs n p s c := SetsAt.fr0 hS hG
      replace R0 := hG.aRow R0 (by simp)
      replace hF := hF.trans hG
      clear hG
      have c0 := SetsAt.c0 hS
      have c1 := SetsAt.c1 hS
      have c2 := SetsAt.c2 hS
      go_wp2_with fail
      refine (labels_any b n n _ p _ _ (by omega) (SetsAt.c0 hS) hS.hp.rd I.forest).mono ?_
      rintro e x2 ⟨bl, rfl, hL, hbl, hG⟩
      clear c0 c1 c2
      have lR0 := R0.lt
      have lR1 := R1.lt
      have lS1 := SetsAt.lt hS
      have lS2 := hS.hp.lt
      have lS3 := hS.hs.lt
      have hsz := hF.size
      replace hS : SetsN x2 b bp bs n p s c := SetsAt.fr0 hS hG
      replace R0 := hG.aRow R0 (by simp)
      replace R1 := hG.aRow R1 (by simp)
      replace hF := hF.trans hG
      clear hG
      have hbl0 : w.heap.size ≤ bl := by omega
      have ee := bne_self (n : Int)
      have hnil := nil_no ⟨bl, 0, none⟩ n n
      have lbl := hL.lt
      go_wp2_with fail
      refine (jcopy_any _ n n (fun i => (lab (rt n p) i : Int)) _ (by omega) hL.rd).mono ?_
      rintro e x3 ⟨bo3, rfl, R3, hb3, hG⟩
      replace hL := hG.aRow hL (by simp)
      replace hS : SetsN x3 b bp bs n p s c := SetsAt.fr0 hS hG
      replace R0 := hG.aRow R0 (by simp)
      replace R1 := hG.aRow R1 (by simp)
      replace hF := hF.trans hG
      clear hG
      go_wp2_with fail
      go_loopw [16] (fun v wr => ∃ (k : Nat) (g : Nat → Int), k ≤ n ∧ v = .int .i64 k ∧ ARow wr bl n g ∧ SetsN wr b bp bs n p s c ∧ ARow wr bo0 n (fun i => (p i : Int)) ∧ ARow wr bo1 n (fun i => (s i : Int)) ∧ ARow wr bo3 n (fun i => (lab (rt n p) i : Int)) ∧ Fr [] w wr) (fun v _ => n - (intOf v).toNat)
      case atStart => exact ⟨0, _, Nat.zero_le _, rfl, hL, hS, R0, R1, R3, hF⟩
      case round =>
        clear hL hS R0 R1 R3 hF
        obtain ⟨k, g, hk, rfl, hL, hS, R0, R1, R3, hF⟩ := hrel
        by_cases hlt : k < n
        · have ck := hL.cell k hlt
          have fk := hL.frozen k
          go_wp2_with fail
          go_roundw
          case rel => exact ⟨k + 1, _, by omega, by go_num, hL.set _ _, SetsAt.set_ne hS _ _ (by show bl ≠ b; omega) (by show bl ≠ bp; omega) (by show bl ≠ bs; omega), R0.set_ne _ (by show bl ≠ bo0; omega) _, R1.set_ne _ (by show bl ≠ bo1; omega) _, R3.set_ne _ (by show bl ≠ bo3; omega) _, hF.setCell _ (.inr hbl0) _⟩
          case measure => simp [intOf] <;> omega
        · clear hL
          have c0 := SetsAt.c0 hS
          have c1 := SetsAt.c1 hS
          have c2 := SetsAt.c2 hS
          have eC := bne_self (c : Int)
          go_wp2_with fail
          refine (jeq_any _ _ n n n n (fun i => (p i : Int)) (fun i => (p i : Int)) _ (by omega) (by omega) hS.hp.rd R0.rd).mono ?_
          rintro e y0 ⟨ht, hG⟩
          obtain rfl := told ht ⟨rfl, fun _ _ => rfl⟩
          clear ht c0 c1 c2 R0
          replace hS : SetsN y0 b bp bs n p s c := SetsAt.fr0 hS hG
          replace R1 := hG.aRow R1 (by simp)
          replace R3 := hG.aRow R3 (by simp)
          replace hF := hF.trans hG
          clear hG
          have c0 := SetsAt.c0 hS
          have c1 := SetsAt.c1 hS
          have c2 := SetsAt.c2 hS
          go_wp2_with fail
          refine (jeq_any _ _ n n n n (fun i => (s i : Int)) (fun i => (s i : Int)) _ (by omega) (by omega) hS.hs.rd R1.rd).mono ?_
          rintro e y1 ⟨ht, hG⟩
          obtain rfl := told ht ⟨rfl, fun _ _ => rfl⟩
          clear ht c0 c1 c2 R1
          replace hS : SetsN y1 b bp bs n p s c := SetsAt.fr0 hS hG
          replace R3 := hG.aRow R3 (by simp)
          replace hF := hF.trans hG
          clear hG
          have c0 := SetsAt.c0 hS
          have c1 := SetsAt.c1 hS
          have c2 := SetsAt.c2 hS
          go_wp2_with fail
          refine (labels_any b n n _ p _ _ (by omega) (SetsAt.c0 hS) hS.hp.rd I.forest).mono ?_
          rintro e y2 ⟨bl2, rfl, hL, _, hG⟩
          clear c0 c1 c2
          replace hS : SetsN y2 b bp bs n p s c := SetsAt.fr0 hS hG
          replace R3 := hG.aRow R3 (by simp)
          replace hF := hF.trans hG
          clear hG
          go_wp2_with fail
          refine (jeq_any _ _ n n n n _ _ _ (by omega) (by omega) hL.rd R3.rd).mono ?_
          rintro e y3 ⟨ht, hG⟩
          obtain rfl := told ht ⟨rfl, fun _ _ => rfl⟩
          go_wp2_with fail
          go_ret
          exact ⟨rfl, (hF.trans hG).below⟩

theorem own : ownKnob Ydcm.prog.godebug = none := by kernel_rfl
theorem laidOut : laidOutB Ydcm.prog = true := by kernel_rfl
set_option maxRecDepth 100000 in
theorem lifted (os : Os) (started : os.Started) (H : Type) (enc : TypeId × Value → H) :
    ReturnsInHanded {} Ydcm.checked os 7 .any (Rows.lawS930009JFreshSpec.pre6 enc Ydcm.prog Ydcm.f7 Rows.lawS930009JFreshRow.domain false) (Rows.lawS930009JFreshSpec.post enc Ydcm.prog Ydcm.f7 false true false false) := by
  refine returnsInHanded_of_change (C := Ydcm.checked) own started (by kernel_rfl) Ydcm.func7
    (ChangeSpec.witness6 (enc := enc) (C := Ydcm.checked) false ⟨#[], #[.int .u8 0, .slice none 0 0], []⟩ 8 (by kernel_rfl) (by kernel_rfl) (by kernel_rfl) (by kernel_rfl)) ?_
  intro W base args ds gs before hval0 hW hcnd _
  have hval : ∀ (j : Nat) t v, Ydcm.f7.params[j]? = some t → args[j]? = some v → Value.okWide Ydcm.prog W .any base t v := hval0
  have hW' := hW
  obtain ⟨p, q, hA0, hV, rfl, hfz, hnd⟩ := hW
  have hA : DataW.TrodAll enc Ydcm.prog W 0 (fun _ => true) true Ydcm.f7.params.toList args.toList ds p := hA0
  rw [Ydcm.params7] at hA hval
  obtain ⟨v0, vs0, d0, ds0, p0, q0, hargs, rfl, rfl, h0, r0⟩ := trodAll_cons hA
  obtain ⟨v1, vs1, d1, ds1, p1, q1, rfl, rfl, rfl, h1, r1⟩ := trodAll_cons r0
  obtain ⟨rfl, rfl, rfl⟩ := trodAll_nil r1
  obtain rfl : args = #[v0, v1] := by cases args; simp_all
  obtain ⟨rfl, rfl⟩ := trodVars_none hV
  obtain ⟨a0, rfl, rfl, rfl, w0⟩ := open_int Ydcm.underlying5 (hval 0 5 v0 rfl rfl) h0
  obtain ⟨a1, n1, c1, rfl⟩ := okWide_slice Ydcm.underlying31 (hval 1 31 v1 rfl rfl)
  have lt1 : ∀ x ∈ p1, x.block < W.heap.size := by obtain ⟨m, hm⟩ := h1; exact DataW.trod_lt m _ _ _ hm
  obtain ⟨z10, z11, z12, s1, m1, w10, w11, w12⟩ := rd3_of_trod Ydcm.underlying31 Ydcm.underlying35 (by kernel_rfl) rfl rfl rfl rfl rfl rfl Ydcm.underlying5 Ydcm.underlying3 Ydcm.underlying3 (by kernel_rfl) (by kernel_rfl) (by kernel_rfl) h1
  clear hA0 hval0
  refine (walk W a0 w0 a1 n1 c1 z10 z11 z12 s1 m1 w10 w11 w12).mono fun e W' ⟨he, bel⟩ => ?_
  subst he
  exact ⟨_, rfl, _, _, _, [], _, [], hW', trodAll_mk1 (shut_bool Ydcm.underlying4 _), (cons_mk (shut_int Ydcm.underlying5 w0) (cons_mk (Below.trod laidOut (by kernel_rfl) (of_decide_eq_true (by kernel_rfl)) h1 bel lt1) trodAll_mk0)), rfl, bel.frame _, fun h => by cases h⟩

theorem over : Rows.lawS930009JFreshRow.holds Ydcm.pinned (OpenSpec.ofChange Rows.lawS930009JFreshSpec) :=
  OpenClaim.holds_of_wide 7 Ydcm.f7 rfl rfl rfl rfl rfl rfl rfl ⟨rfl, rfl, rfl, rfl, rfl⟩ rfl rfl rfl rfl rfl (by kernel_rfl) Ydcm.func7 (by kernel_rfl)
    (of_decide_eq_true (by kernel_rfl)) (by unfold Func.isWrapper; first | (rw [if_pos (by decide +kernel)]; kernel_rfl) | (rw [if_neg (by decide +kernel)]; exact ⟨rfl, rfl⟩))
    (fun os started H enc _ => lifted os started H enc)

theorem proved : Rows.LawS930009JFreshSaid := over
#print axioms proved
end Go.Proofs.Ymbrdc.lawS930009JFresh
