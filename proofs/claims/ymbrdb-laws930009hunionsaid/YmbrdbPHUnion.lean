/-
  LawS930009HUnion.
-/
import Derived.Test.YmbrdbHplay
import Derived.Test.YmbrdbFirst
namespace Go.Proofs.Ymbrdb.lawS930009HUnion
open Go.ChangeShapes Go.WideShapes Go.ChangeAt Go.RowKit
set_option linter.unusedVariables false
set_option linter.unusedSimpArgs false

theorem three (n : Nat) (p : Nat → Nat) (x y : Int) : zCode n p x y = 0 ∨ zCode n p x y = 1 ∨ zCode n p x y = 2 := by
  unfold zCode
  split
  · unfold uCode
    split
    · exact Or.inr (Or.inl rfl)
    · exact Or.inl rfl
  · exact Or.inr (Or.inr rfl)

theorem fin_no {n : Nat} {p s : Nat → Nat} {x y : Int} (h : zCode n p x y ≠ 0) : zP n p s x y = p ∧ zS n p s x y = s := by
  unfold zCode at h
  unfold zP zS
  by_cases g : inb2 n x y = true
  · rw [if_pos g] at h ⊢
    rw [if_pos g]
    unfold uCode at h
    by_cases e : rt n p x.toNat = rt n p y.toNat
    · simp [uP, uS, e]
    · exact absurd (if_neg e) h
  · rw [if_neg g, if_neg g]
    exact ⟨rfl, rfl⟩

theorem fin_one {n : Nat} {p s : Nat → Nat} {x y : Int} (h : zCode n p x y = 1) : szof n p s x = szof n p s y := by
  unfold zCode at h
  by_cases g : inb2 n x y = true
  · rw [if_pos g] at h
    unfold uCode at h
    unfold inb2 at g
    have g1 : inb n x = true := by cases hx : inb n x <;> simp_all
    have g2 : inb n y = true := by cases hx : inb n y <;> simp_all
    by_cases e : rt n p x.toNat = rt n p y.toNat
    · unfold szof
      rw [g1, g2, e]
    · rw [if_neg e] at h
      omega
  · rw [if_neg g] at h
    omega

structure FY (n A B C A' B' C' : Int) (u v : Bool) : Prop where
  a1 : 1 ≤ A
  b1 : 1 ≤ B
  an : A ≤ n
  bn : B ≤ n
  ta : A' = A + B
  tb : B' = A + B
  tj : u = true ∨ v = true → C' = A + B
  tn : u = false → v = false → C' = C

theorem fin_yes {n : Nat} {p s : Nat → Nat} {c : Nat} {x y : Int} (I : Inv n p s c) (h : zCode n p x y = 0) (z : Int) :
    FY n (szof n p s x) (szof n p s y) (szof n p s z) (szof n (zP n p s x y) (zS n p s x y) x) (szof n (zP n p s x y) (zS n p s x y) y) (szof n (zP n p s x y) (zS n p s x y) z) (sameB n p x z) (sameB n p y z) := by
  by_cases g : (0 ≤ x ∧ x < (n : Int)) ∧ (0 ≤ y ∧ y < (n : Int))
  · obtain ⟨a, rfl⟩ := Int.eq_ofNat_of_zero_le g.1.1
    obtain ⟨b, rfl⟩ := Int.eq_ofNat_of_zero_le g.2.1
    have ha : a < n := by omega
    have hb : b < n := by omega
    clear g
    rw [zCode_nat ha hb] at h
    rw [zP_nat ha hb, zS_nat ha hb, szof_nat p s ha, szof_nat p s hb, szof_nat _ _ ha, szof_nat _ _ hb]
    have hne : rt n p a ≠ rt n p b := by
      intro e
      rw [uCode, if_pos e] at h
      omega
    have hU := (I.union ha hb).2
    have F := I.forest
    have la := F.rt_lt a ha
    have lb := F.rt_lt b hb
    have s1 := I.s1 _ la
    have s2 := I.s1 _ lb
    have s3 := I.sn _ la
    have s4 := I.sn _ lb
    have hwin : uS n p s a b (uWin n p s a b) = s (rt n p a) + s (rt n p b) := by
      rw [uS, if_neg hne, upd_same]
      rcases uWinLose n p s a b with ⟨e1, e2⟩ | ⟨e1, e2⟩ <;> rw [e1, e2] <;> omega
    have hin : ∀ t, t < n → (rt n p t = rt n p a ∨ rt n p t = rt n p b) → rt n (uP n p s a b) t = uWin n p s a b := by
      intro t ht e
      rw [hU t ht]
      rcases uWinLose n p s a b with ⟨e1, e2⟩ | ⟨e1, e2⟩
      · rw [e2]
        by_cases e3 : rt n p t = rt n p b
        · rw [if_pos e3]
        · rw [if_neg e3, e1]; rcases e with e | e
          · exact e
          · exact absurd e e3
      · rw [e2]
        by_cases e3 : rt n p t = rt n p a
        · rw [if_pos e3]
        · rw [if_neg e3, e1]; rcases e with e | e
          · exact absurd e e3
          · exact e
    refine ⟨by omega, by omega, by omega, by omega, ?_, ?_, ?_, ?_⟩
    · rw [hin a ha (Or.inl rfl), hwin]; omega
    · rw [hin b hb (Or.inr rfl), hwin]; omega
    · by_cases gz : 0 ≤ z ∧ z < (n : Int)
      · obtain ⟨t, rfl⟩ := Int.eq_ofNat_of_zero_le gz.1
        have ht : t < n := by omega
        rw [sameB_nat p ha ht, sameB_nat p hb ht, szof_nat _ _ ht]
        simp only [decide_eq_true_eq]
        intro e
        rw [hin t ht (by rcases e with e | e
                         · exact Or.inl e.symm
                         · exact Or.inr e.symm), hwin]
        omega
      · have e1 : inb n z = false := inb_out gz
        unfold sameB
        rw [e1]
        simp
    · by_cases gz : 0 ≤ z ∧ z < (n : Int)
      · obtain ⟨t, rfl⟩ := Int.eq_ofNat_of_zero_le gz.1
        have ht : t < n := by omega
        rw [sameB_nat p ha ht, sameB_nat p hb ht, szof_nat _ _ ht, szof_nat _ _ ht]
        simp only [decide_eq_false_iff_not]
        intro e1 e2
        have hx : rt n (uP n p s a b) t = rt n p t := by
          rw [hU t ht, if_neg]
          rcases uWinLose n p s a b with ⟨_, e3⟩ | ⟨_, e3⟩ <;> rw [e3] <;> intro e4
          · exact e2 e4.symm
          · exact e1 e4.symm
        rw [hx, uS, if_neg hne, upd_ne]
        rcases uWinLose n p s a b with ⟨e3, _⟩ | ⟨e3, _⟩ <;> rw [e3] <;> intro e4
        · exact e1 e4.symm
        · exact e2 e4.symm
      · have e1 : inb n z = false := inb_out gz
        intro _ _
        rw [szof_out _ _ e1, szof_out _ _ e1]
  · rw [zCode_out (inb2_out g)] at h
    omega

theorem bne_selfB (a : Bool) : (a != a) = false := by cases a <;> rfl

theorem trio (n : Nat) (x : Int) : (decide (0 ≤ x) = false ∧ inb n x = false) ∨ (decide (0 ≤ x) = true ∧ decide (x < (n : Int)) = true ∧ inb n x = true) ∨ (decide (0 ≤ x) = true ∧ decide (x < (n : Int)) = false ∧ inb n x = false) := by
  unfold inb
  by_cases h : 0 ≤ x
  · by_cases h2 : x < (n : Int)
    · exact Or.inr (Or.inl ⟨dec_true h, dec_true h2, dec_true ⟨h, h2⟩⟩)
    · exact Or.inr (Or.inr ⟨dec_true h, dec_false h2, dec_false (fun g => h2 g.2)⟩)
  · exact Or.inl ⟨dec_false h, dec_false (fun g => h g.1)⟩

set_option maxHeartbeats 4000000 in
set_option maxRecDepth 1000000 in
theorem walk (w : World) (a0 : Int) (w0 : (Lit.int .u16 a0).wf = true) (a1 : Option Addr) (n1 c1 : Nat) (zO zA zB : Nat → Int) (s1 : Rd3 .u8 .u16 .u16 w a1 n1 zO zA zB) (m1 : n1 ≤ maxLen)
    (wO : ∀ i, i < n1 → (Lit.int .u8 (zO i)).wf = true) (wA : ∀ i, i < n1 → (Lit.int .u16 (zA i)).wf = true) (wB : ∀ i, i < n1 → (Lit.int .u16 (zB i)).wf = true) (a2 : Int) (w2 : (Lit.int .i64 a2).wf = true) (a3 : Int) (w3 : (Lit.int .i64 a3).wf = true) (a4 : Int) (w4 : (Lit.int .i64 a4).wf = true) :
    Calls Ydbm.prog 13 #[.int .u16 a0, .slice a1 n1 c1, .int .i64 a2, .int .i64 a3, .int .i64 a4] w fun e w' => e = .returned (.bool true) ∧ Below w.heap.size w w' := by
  unfold maxLen at m1
  have b0 := bd_u16 w0
  clear w0 w2 w3 w4
  by_cases hlt : 1024 < n1
  · have hd : decide ((1024 : Int) < (n1 : Int)) = true := by simp; omega
    go_enter Ydbm.func13, Ydbm.ntmps13
    go_wp2_with fail
    go_ret
    exact ⟨rfl, Below.refl _ _⟩
  · have hd : decide ((1024 : Int) < (n1 : Int)) = false := by simp; omega
    obtain ⟨n, hn⟩ : ∃ n : Nat, a0 % 1025 = n := Int.eq_ofNat_of_zero_le (by omega)
    have hn2 : n ≤ 1024 := by omega
    have hm2 : n1 ≤ 1024 := by omega
    go_enter Ydbm.func13, Ydbm.ntmps13
    go_upto_region 4 with fail
    rw [hn]
    clear b0 hlt hn
    go_wp2_with fail
    refine (new_yes n _ (by omega)).mono ?_
    rintro e wA1 ⟨b, bp, bs, rfl, hS, hb, hbp, hbs, hF⟩
    replace hS : SetsN wA1 b bp bs n (fun x => x) (fun _ => 1) n := hS
    go_upto_if 45 with fail
    go_cut [] from 45 to 49 (fun wz => ∃ (p s : Nat → Nat) (c : Nat), SetsN wz b bp bs n p s c ∧ Inv n p s c ∧ Fr [] w wz)
    case first =>
      by_cases h0 : n = 0
      · subst h0
        go_wp2_with fail
        go_meet
        case rel => exact ⟨fun x => x, fun _ => 1, 0, hS, inv_new 0, hF⟩
      · have hpos : (0 : Int) < (n : Int) := by omega
        have hdp : decide ((0 : Int) < (n : Int)) = true := dec_true hpos
        have hdp' : decide (0 < n) = true := dec_true (by omega)
        go_wp2_with fail
        refine (hplay_any b bp bs n n1 c1 a1 zO zA zB _ (by omega) hn2 (by omega) hS (hF.rd30 s1) (rd3_apart s1 hb hbp hbs) wO wA wB).mono ?_
        rintro e wz ⟨p, s, c, h⟩
        obtain rfl := h.ret
        have hF3 : Fr [] w wz := hF.trans' h.fr (by intro x hx hl; simp at hx; omega)
        have hS2 := h.sets
        have I2 := h.inv
        clear h hS hF
        go_wp2_with fail
        go_meet
        case rel => exact ⟨p, s, c, hS2, I2, hF3⟩
    case rest =>
      clear hS hF
      obtain ⟨p, s, c, hS, I, hF⟩ := hcut
      clear hd s1 wO wA wB
      go_wp2_with fail
      refine (sizeOf_any b bp bs n p s _ _ a2 _ hS I.forest).mono ?_
      rintro e x1 ⟨rfl, rfl⟩
      go_wp2_with fail
      refine (sizeOf_any b bp bs n p s _ _ a3 _ hS I.forest).mono ?_
      rintro e x2 ⟨rfl, rfl⟩
      go_wp2_with fail
      refine (sizeOf_any b bp bs n p s _ _ a4 _ hS I.forest).mono ?_
      rintro e x3 ⟨rfl, rfl⟩
      go_upto_region 12 with fail
      go_cut [98] from 68 to 98 (fun v98 wz => v98 = .bool false ∧ SetsN wz b bp bs n p s c ∧ Fr [] w wz)
      case first =>
        rcases trio n a2 with ⟨u1, u2⟩ | ⟨u1, u2, u3⟩ | ⟨u1, u2, u3⟩
        all_goals rcases trio n a3 with ⟨v1, v2⟩ | ⟨v1, v2, v3⟩ | ⟨v1, v2, v3⟩
        all_goals rcases trio n a4 with ⟨t1, t2⟩ | ⟨t1, t2, t3⟩ | ⟨t1, t2, t3⟩
        all_goals go_wp2_with fail
        all_goals go_meet
        all_goals exact ⟨by simp, hS, hF⟩
      case rest =>
        clear hS hF
        obtain ⟨rfl, hS, hF⟩ := hcut
        go_wp2_with fail
        refine (same_any b n n _ p _ a2 a4 _ (SetsAt.c0 hS) hS.hp.rd I.forest).mono ?_
        rintro e x4 ⟨rfl, rfl⟩
        go_wp2_with fail
        refine (same_any b n n _ p _ a3 a4 _ (SetsAt.c0 hS) hS.hp.rd I.forest).mono ?_
        rintro e x5 ⟨rfl, rfl⟩
        go_wp2_with fail
        refine (union_any b bp bs n p s c a2 a3 _ hS I (by omega)).mono ?_
        rintro e x6 ⟨rfl, hS2, hF2⟩
        have hF3 : Fr [] w x6 := hF.trans' hF2 (by intro x hx hl; simp at hx; omega)
        have I2 := I.unionZ a2 a3
        have Hz := hide (three n p a2 a3)
        have Hno := hide (fun h => fin_no (n := n) (p := p) (s := s) (x := a2) (y := a3) h)
        have Hone := hide (fun h => fin_one (n := n) (p := p) (s := s) (x := a2) (y := a3) h)
        have Hyes := hide (fun h => fin_yes (x := a2) (y := a3) I h a4)
        have e1 := bne_selfB (inb n a2)
        have e2 := bne_selfB (inb n a3)
        have e3 := bne_selfB (inb n a4)
        clear hS hF hF2 I
        go_wp2_with fail
        refine (sizeOf_any b bp bs n _ _ _ _ a2 _ hS2 I2.forest).mono ?_
        rintro e x7 ⟨rfl, rfl⟩
        go_wp2_with fail
        refine (sizeOf_any b bp bs n _ _ _ _ a3 _ hS2 I2.forest).mono ?_
        rintro e x8 ⟨rfl, rfl⟩
        go_wp2_with fail
        refine (sizeOf_any b bp bs n _ _ _ _ a4 _ hS2 I2.forest).mono ?_
        rintro e x9 ⟨rfl, rfl⟩
        clear hS2 I2
        generalize inb n a2 = i2 at *
        generalize inb n a3 = i3 at *
        generalize inb n a4 = i4 at *
        rcases Hz.out with hz | hz | hz
        · have Y := Hyes.out hz
          rw [hz, Y.ta, Y.tb]
          have A1 := Y.a1
          have B1 := Y.b1
          have An := Y.an
          have Bn := Y.bn
          have Tj := hide Y.tj
          have Tn := hide Y.tn
          clear Y Hno Hone Hyes Hz hz
          generalize szof n p s a2 = A at *
          generalize szof n p s a3 = B at *
          generalize szof n p s a4 = C at *
          generalize szof n (zP n p s a2 a3) (zS n p s a2 a3) a4 = C' at *
          have d1 : decide (A < 1) = false := dec_false (by omega)
          have d2 : decide (B < 1) = false := dec_false (by omega)
          have ee := bne_self (A + B)
          cases hu : sameB n p a2 a4
          · cases hv : sameB n p a3 a4
            · have hC := Tn.out hu hv
              rw [hC]
              go_wp2_with fail
              go_ret
              exact ⟨by simp, hF3.below⟩
            · have hC := Tj.out (Or.inr hv)
              rw [hC]
              go_wp2_with fail
              go_ret
              exact ⟨by simp, hF3.below⟩
          · have hC := Tj.out (Or.inl hu)
            rw [hC]
            go_wp2_with fail
            go_ret
            exact ⟨by simp, hF3.below⟩
        · obtain ⟨y1, y2⟩ := Hno.out (by omega)
          rw [y1, y2, Hone.out hz, hz]
          clear y1 y2 Hno Hone Hyes Hz hz
          have ee := bne_self (szof n p s a3)
          go_wp2_with fail
          go_ret
          exact ⟨by simp, hF3.below⟩
        · obtain ⟨y1, y2⟩ := Hno.out (by omega)
          rw [y1, y2, hz]
          clear y1 y2 Hno Hone Hyes Hz hz
          go_wp2_with fail
          go_ret
          exact ⟨by simp, hF3.below⟩

theorem own : ownKnob Ydbm.prog.godebug = none := by kernel_rfl
theorem laidOut : laidOutB Ydbm.prog = true := by kernel_rfl
set_option maxRecDepth 100000 in
theorem lifted (os : Os) (started : os.Started) (H : Type) (enc : TypeId × Value → H) :
    ReturnsInHanded {} Ydbm.checked os 13 .any (Rows.lawS930009HUnionSpec.pre6 enc Ydbm.prog Ydbm.f13 Rows.lawS930009HUnionRow.domain false) (Rows.lawS930009HUnionSpec.post enc Ydbm.prog Ydbm.f13 false true false false) := by
  refine returnsInHanded_of_change (C := Ydbm.checked) own started (by kernel_rfl) Ydbm.func13
    (ChangeSpec.witness6 (enc := enc) (C := Ydbm.checked) false ⟨#[], #[.int .u16 0, .slice none 0 0, .int .i64 0, .int .i64 0, .int .i64 0], []⟩ 8 (by kernel_rfl) (by kernel_rfl) (by kernel_rfl) (by kernel_rfl)) ?_
  intro W base args ds gs before hval0 hW hcnd _
  have hval : ∀ (j : Nat) t v, Ydbm.f13.params[j]? = some t → args[j]? = some v → Value.okWide Ydbm.prog W .any base t v := hval0
  have hW' := hW
  obtain ⟨p, q, hA0, hV, rfl, hfz, hnd⟩ := hW
  have hA : DataW.TrodAll enc Ydbm.prog W 0 (fun _ => true) true Ydbm.f13.params.toList args.toList ds p := hA0
  rw [Ydbm.params13] at hA hval
  obtain ⟨v0, vs0, d0, ds0, p0, q0, hargs, rfl, rfl, h0, r0⟩ := trodAll_cons hA
  obtain ⟨v1, vs1, d1, ds1, p1, q1, rfl, rfl, rfl, h1, r1⟩ := trodAll_cons r0
  obtain ⟨v2, vs2, d2, ds2, p2, q2, rfl, rfl, rfl, h2, r2⟩ := trodAll_cons r1
  obtain ⟨v3, vs3, d3, ds3, p3, q3, rfl, rfl, rfl, h3, r3⟩ := trodAll_cons r2
  obtain ⟨v4, vs4, d4, ds4, p4, q4, rfl, rfl, rfl, h4, r4⟩ := trodAll_cons r3
  obtain ⟨rfl, rfl, rfl⟩ := trodAll_nil r4
  obtain rfl : args = #[v0, v1, v2, v3, v4] := by cases args; simp_all
  obtain ⟨rfl, rfl⟩ := trodVars_none hV
  obtain ⟨a0, rfl, rfl, rfl, w0⟩ := open_int Ydbm.underlying35 (hval 0 35 v0 rfl rfl) h0
  obtain ⟨a1, n1, c1, rfl⟩ := okWide_slice Ydbm.underlying57 (hval 1 57 v1 rfl rfl)
  have lt1 : ∀ x ∈ p1, x.block < W.heap.size := by obtain ⟨m, hm⟩ := h1; exact DataW.trod_lt m _ _ _ hm
  obtain ⟨z10, z11, z12, s1, m1, w10, w11, w12⟩ := rd3_of_trod Ydbm.underlying57 Ydbm.underlying78 (by kernel_rfl) rfl rfl rfl rfl rfl rfl Ydbm.underlying5 Ydbm.underlying35 Ydbm.underlying35 (by kernel_rfl) (by kernel_rfl) (by kernel_rfl) h1
  obtain ⟨a2, rfl, rfl, rfl, w2⟩ := open_int Ydbm.underlying3 (hval 2 3 v2 rfl rfl) h2
  obtain ⟨a3, rfl, rfl, rfl, w3⟩ := open_int Ydbm.underlying3 (hval 3 3 v3 rfl rfl) h3
  obtain ⟨a4, rfl, rfl, rfl, w4⟩ := open_int Ydbm.underlying3 (hval 4 3 v4 rfl rfl) h4
  clear hA0 hval0
  refine (walk W a0 w0 a1 n1 c1 z10 z11 z12 s1 m1 w10 w11 w12 a2 w2 a3 w3 a4 w4).mono fun e W' ⟨he, bel⟩ => ?_
  subst he
  exact ⟨_, rfl, _, _, _, [], _, [], hW', trodAll_mk1 (shut_bool Ydbm.underlying4 _), (cons_mk (shut_int Ydbm.underlying35 w0) (cons_mk (Below.trod laidOut (by kernel_rfl) (of_decide_eq_true (by kernel_rfl)) h1 bel lt1) (cons_mk (shut_int Ydbm.underlying3 w2) (cons_mk (shut_int Ydbm.underlying3 w3) (cons_mk (shut_int Ydbm.underlying3 w4) trodAll_mk0))))), rfl, bel.frame _, fun h => by cases h⟩

theorem over : Rows.lawS930009HUnionRow.holds Ydbm.pinned (OpenSpec.ofChange Rows.lawS930009HUnionSpec) :=
  OpenClaim.holds_of_wide 13 Ydbm.f13 rfl rfl rfl rfl rfl rfl rfl ⟨rfl, rfl, rfl, rfl, rfl⟩ rfl rfl rfl rfl rfl (by kernel_rfl) Ydbm.func13 (by kernel_rfl)
    (of_decide_eq_true (by kernel_rfl)) (by unfold Func.isWrapper; first | (rw [if_pos (by decide +kernel)]; kernel_rfl) | (rw [if_neg (by decide +kernel)]; exact ⟨rfl, rfl⟩))
    (fun os started H enc _ => lifted os started H enc)

theorem proved : Rows.LawS930009HUnionSaid := over
#print axioms proved

end Go.Proofs.Ymbrdb.lawS930009HUnion
