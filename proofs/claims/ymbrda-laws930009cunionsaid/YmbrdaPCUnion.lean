/-
  LawS930009CUnion.
-/
import Derived.Test.YmbrdaCanon
import Derived.Test.YmbrdaUnionZ
namespace Go.Proofs.Ymbrda.lawS930009CUnion
open Go.ChangeShapes Go.WideShapes Go.ChangeAt Go.RowKit
set_option linter.unusedVariables false
set_option linter.unusedSimpArgs false

theorem sameB_iff {n : Nat} {p : Nat → Nat} (x y : Nat) : sameB n p x y = true ↔ (x < n ∧ y < n ∧ rt n p x = rt n p y) := by
  by_cases hx : x < n
  · by_cases hy : y < n
    · rw [sameB_nat p hx hy]; simp [hx, hy]
    · have : inb n (y : Int) = false := inb_out (by omega)
      simp [sameB, this, hy]
  · have : inb n (x : Int) = false := inb_out (by omega)
    simp [sameB, this, hx]

theorem key {n : Nat} {p s : Nat → Nat} {c : Nat} (I : Inv n p s c) (x y u v : Nat) :
    sameB n (zP n p s x y) u v = (sameB n p u v || (sameB n p u x && sameB n p v y) || (sameB n p u y && sameB n p v x)) := by
  rw [Bool.eq_iff_iff]
  simp only [Bool.or_eq_true, Bool.and_eq_true, sameB_iff]
  by_cases hu : u < n
  · by_cases hv : v < n
    · by_cases hx : x < n
      · by_cases hy : y < n
        · rw [zP_nat hx hy]
          have m := I.union_merge hx hy u v hu hv
          simp only [hu, hv, hx, hy, true_and]
          rw [m]
          constructor
          · rintro (e | ⟨e1 | e1, e2 | e2⟩)
            · exact Or.inl (Or.inl e)
            · exact Or.inl (Or.inl (e1.trans e2.symm))
            · exact Or.inl (Or.inr ⟨e1, e2⟩)
            · exact Or.inr ⟨e1, e2⟩
            · exact Or.inl (Or.inl (e1.trans e2.symm))
          · rintro ((e | ⟨e1, e2⟩) | ⟨e1, e2⟩)
            · exact Or.inl e
            · exact Or.inr ⟨Or.inl e1, Or.inr e2⟩
            · exact Or.inr ⟨Or.inr e1, Or.inl e2⟩
        · rw [zP_out (inb2_out (by omega))]
          simp [hy]
      · rw [zP_out (inb2_out (by omega))]
        simp [hx]
    · simp [hv]
  · simp [hu]

set_option maxHeartbeats 1000000 in
set_option maxRecDepth 100000 in
theorem walk (w : World) (a0 : Option Addr) (n0 c0 : Nat) (z0 : Nat → Int) (s0 : Rd .u16 w a0 n0 z0) (m0 : n0 ≤ maxLen) (w0 : ∀ i, i < n0 → (Lit.int .u16 (z0 i)).wf = true) (a1 : Int) (w1 : (Lit.int .u16 a1).wf = true) (a2 : Int) (w2 : (Lit.int .u16 a2).wf = true)
    (a3 : Int) (w3 : (Lit.int .u16 a3).wf = true) (a4 : Int) (w4 : (Lit.int .u16 a4).wf = true) :
    Calls Ydam.prog 11 #[.slice a0 n0 c0, .int .u16 a1, .int .u16 a2, .int .u16 a3, .int .u16 a4] w fun e w' => e = .returned (.bool true) ∧ Below w.heap.size w w' := by
  unfold maxLen at m0
  have b1 := bd_u16 w1
  have b2 := bd_u16 w2
  have b3 := bd_u16 w3
  have b4 := bd_u16 w4
  clear w1 w2 w3 w4
  by_cases hlt : 1024 < n0
  · have hd : decide ((1024 : Int) < (n0 : Int)) = true := by simp; omega
    go_enter Ydam.func11, Ydam.ntmps11
    go_wp2_with fail
    go_ret
    exact ⟨rfl, Below.refl _ _⟩
  · have hd : decide ((1024 : Int) < (n0 : Int)) = false := by simp; omega
    have hcan := cq_can n0 z0
    go_enter Ydam.func11, Ydam.ntmps11
    go_wp2_with fail
    refine (clabels_any n0 c0 a0 z0 _ s0 (by omega) w0).mono ?_
    rintro e w1 ⟨bl, rfl, hA, hbl, hF⟩
    go_wp2_with fail
    refine (fromLabels_can n0 n0 _ (rt n0 (cq z0)) _ (by omega) hcan hA.rd).mono ?_
    rintro e w2 ⟨b, bp, bs, hY⟩
    obtain rfl := hY.ret
    have hS := hY.sets
    have I := hY.inv
    have FL := hY.inv.forest
    have hF2 := hF.trans hY.fr
    have lb := hY.lb
    have lp := hY.lp
    have ls := hY.ls
    have hsz := hF.size
    clear hY hA hF
    go_wp2_with fail
    have p1 : (0 : Int) < (n0 : Int) + 1 := by omega
    obtain ⟨x, hx⟩ : ∃ x : Nat, a1 % ((n0 : Int) + 1) = x := Int.eq_ofNat_of_zero_le (emod_lo _ p1)
    obtain ⟨y, hy⟩ : ∃ x : Nat, a2 % ((n0 : Int) + 1) = x := Int.eq_ofNat_of_zero_le (emod_lo _ p1)
    obtain ⟨u, hu⟩ : ∃ x : Nat, a3 % ((n0 : Int) + 1) = x := Int.eq_ofNat_of_zero_le (emod_lo _ p1)
    obtain ⟨v, hv⟩ : ∃ x : Nat, a4 % ((n0 : Int) + 1) = x := Int.eq_ofNat_of_zero_le (emod_lo _ p1)
    rw [hx, hy, hu, hv]
    clear hx hy hu hv p1 b1 b2 b3 b4
    have kk := key I x y u v
    have I2 := I.unionZ x y
    refine (same_any b n0 n0 _ (rt n0 (cq z0)) _ u v _ hS.c0 hS.hp.rd FL).mono ?_
    rintro e _ ⟨rfl, rfl⟩
    go_wp2_with fail
    refine (same_any b n0 n0 _ (rt n0 (cq z0)) _ u x _ hS.c0 hS.hp.rd FL).mono ?_
    rintro e _ ⟨rfl, rfl⟩
    go_wp2_with fail
    refine (same_any b n0 n0 _ (rt n0 (cq z0)) _ u y _ hS.c0 hS.hp.rd FL).mono ?_
    rintro e _ ⟨rfl, rfl⟩
    go_wp2_with fail
    refine (same_any b n0 n0 _ (rt n0 (cq z0)) _ v x _ hS.c0 hS.hp.rd FL).mono ?_
    rintro e _ ⟨rfl, rfl⟩
    go_wp2_with fail
    refine (same_any b n0 n0 _ (rt n0 (cq z0)) _ v y _ hS.c0 hS.hp.rd FL).mono ?_
    rintro e wx ⟨rfl, rfl⟩
    go_wp2_with fail
    refine (union_any b bp bs n0 _ _ _ x y _ hS I (by omega)).mono ?_
    rintro e w4 ⟨rfl, hS4, hF4⟩
    have hF5 : Fr [] w w4 := hF2.trans' hF4 (by intro x hx hl; simp at hx; omega)
    go_wp2_with fail
    refine (same_any b n0 n0 _ _ _ u v _ hS4.c0 hS4.hp.rd I2.forest).mono ?_
    rintro e w5 ⟨rfl, rfl⟩
    rw [kk]
    have hib : inb2 n0 (u : Int) (v : Int) = (decide ((u : Int) < (n0 : Int)) && decide ((v : Int) < (n0 : Int))) := by
      simp [inb2, inb]
    have Hib := hide hib
    clear hib kk
    generalize sameB n0 (rt n0 (cq z0)) u v = B0 at *
    generalize sameB n0 (rt n0 (cq z0)) u x = CA at *
    generalize sameB n0 (rt n0 (cq z0)) u y = CB at *
    generalize sameB n0 (rt n0 (cq z0)) v x = DA at *
    generalize sameB n0 (rt n0 (cq z0)) v y = DB at *
    go_upto_region 19 with fail
    go_cut [31] from 112 to 119 (fun v31 wr => v31 = .bool (inb2 n0 (u : Int) (v : Int)) ∧ w5 = wr)
    case first =>
      by_cases h1 : (u : Int) < (n0 : Int)
      · by_cases h2 : (v : Int) < (n0 : Int)
        · have d1 := dec_true h1
          have d2 := dec_true h2
          go_wp2_with fail
          go_meet
          case rel => exact ⟨by rw [Hib.out, d1, d2]; rfl, rfl⟩
        · have d1 := dec_true h1
          have d2 := dec_false h2
          go_wp2_with fail
          go_meet
          case rel => exact ⟨by rw [Hib.out, d1, d2]; rfl, rfl⟩
      · have d1 := dec_false h1
        go_wp2_with fail
        go_meet
        case rel => exact ⟨by rw [Hib.out, d1]; rfl, rfl⟩
    case rest =>
      obtain ⟨rfl, rfl⟩ := hcut
      clear Hib
      generalize inb2 n0 (u : Int) (v : Int) = IN at *
      cases B0
      · cases CA
        · cases CB
          · go_wp2_with fail
            go_ret
            exact ⟨by simp, hF5.below⟩
          · cases DA
            · go_wp2_with fail
              go_ret
              exact ⟨by simp, hF5.below⟩
            · go_wp2_with fail
              go_ret
              exact ⟨by simp, hF5.below⟩
        · cases DB
          · cases CB
            · go_wp2_with fail
              go_ret
              exact ⟨by simp, hF5.below⟩
            · cases DA
              · go_wp2_with fail
                go_ret
                exact ⟨by simp, hF5.below⟩
              · go_wp2_with fail
                go_ret
                exact ⟨by simp, hF5.below⟩
          · go_wp2_with fail
            go_ret
            exact ⟨by simp, hF5.below⟩
      · go_wp2_with fail
        go_ret
        exact ⟨by simp, hF5.below⟩

theorem own : ownKnob Ydam.prog.godebug = none := by kernel_rfl
theorem laidOut : laidOutB Ydam.prog = true := by kernel_rfl
set_option maxRecDepth 100000 in
theorem lifted (os : Os) (started : os.Started) (H : Type) (enc : TypeId × Value → H) :
    ReturnsInHanded {} Ydam.checked os 11 .any (Rows.lawS930009CUnionSpec.pre6 enc Ydam.prog Ydam.f11 Rows.lawS930009CUnionRow.domain false) (Rows.lawS930009CUnionSpec.post enc Ydam.prog Ydam.f11 false true false false) := by
  refine returnsInHanded_of_change (C := Ydam.checked) own started (by kernel_rfl) Ydam.func11
    (ChangeSpec.witness6 (enc := enc) (C := Ydam.checked) false ⟨#[], #[.slice none 0 0, .int .u16 0, .int .u16 0, .int .u16 0, .int .u16 0], []⟩ 8 (by kernel_rfl) (by kernel_rfl) (by kernel_rfl) (by kernel_rfl)) ?_
  intro W base args ds gs before hval0 hW hcnd _
  have hval : ∀ (j : Nat) t v, Ydam.f11.params[j]? = some t → args[j]? = some v → Value.okWide Ydam.prog W .any base t v := hval0
  have hW' := hW
  obtain ⟨p, q, hA0, hV, rfl, hfz, hnd⟩ := hW
  have hA : DataW.TrodAll enc Ydam.prog W 0 (fun _ => true) true Ydam.f11.params.toList args.toList ds p := hA0
  rw [Ydam.params11] at hA hval
  obtain ⟨v0, vs0, d0, ds0, p0, q0, hargs, rfl, rfl, h0, r0⟩ := trodAll_cons hA
  obtain ⟨v1, vs1, d1, ds1, p1, q1, rfl, rfl, rfl, h1, r1⟩ := trodAll_cons r0
  obtain ⟨v2, vs2, d2, ds2, p2, q2, rfl, rfl, rfl, h2, r2⟩ := trodAll_cons r1
  obtain ⟨v3, vs3, d3, ds3, p3, q3, rfl, rfl, rfl, h3, r3⟩ := trodAll_cons r2
  obtain ⟨v4, vs4, d4, ds4, p4, q4, rfl, rfl, rfl, h4, r4⟩ := trodAll_cons r3
  obtain ⟨rfl, rfl, rfl⟩ := trodAll_nil r4
  obtain rfl : args = #[v0, v1, v2, v3, v4] := by cases args; simp_all
  obtain ⟨rfl, rfl⟩ := trodVars_none hV
  obtain ⟨a0, n0, c0, rfl⟩ := okWide_slice Ydam.underlying58 (hval 0 58 v0 rfl rfl)
  have lt0 : ∀ x ∈ p0, x.block < W.heap.size := by obtain ⟨m, hm⟩ := h0; exact DataW.trod_lt m _ _ _ hm
  obtain ⟨z0, s0, m0, w0⟩ := rd_of_trod Ydam.underlying58 Ydam.underlying29 (by kernel_rfl) h0
  obtain ⟨a1, rfl, rfl, rfl, w1⟩ := open_int Ydam.underlying29 (hval 1 29 v1 rfl rfl) h1
  obtain ⟨a2, rfl, rfl, rfl, w2⟩ := open_int Ydam.underlying29 (hval 2 29 v2 rfl rfl) h2
  obtain ⟨a3, rfl, rfl, rfl, w3⟩ := open_int Ydam.underlying29 (hval 3 29 v3 rfl rfl) h3
  obtain ⟨a4, rfl, rfl, rfl, w4⟩ := open_int Ydam.underlying29 (hval 4 29 v4 rfl rfl) h4
  clear hA0 hval0
  refine (walk W a0 n0 c0 z0 s0 m0 w0 a1 w1 a2 w2 a3 w3 a4 w4).mono fun e W' ⟨he, bel⟩ => ?_
  subst he
  exact ⟨_, rfl, _, _, _, [], _, [], hW', trodAll_mk1 (shut_bool Ydam.underlying4 _), (cons_mk (Below.trod laidOut (by kernel_rfl) (of_decide_eq_true (by kernel_rfl)) h0 bel lt0) (cons_mk (shut_int Ydam.underlying29 w1) (cons_mk (shut_int Ydam.underlying29 w2) (cons_mk (shut_int Ydam.underlying29 w3) (cons_mk (shut_int Ydam.underlying29 w4) trodAll_mk0))))), rfl, bel.frame _, fun h => by cases h⟩

theorem over : Rows.lawS930009CUnionRow.holds Ydam.pinned (OpenSpec.ofChange Rows.lawS930009CUnionSpec) :=
  OpenClaim.holds_of_wide 11 Ydam.f11 rfl rfl rfl rfl rfl rfl rfl ⟨rfl, rfl, rfl, rfl, rfl⟩ rfl rfl rfl rfl rfl (by kernel_rfl) Ydam.func11 (by kernel_rfl)
    (of_decide_eq_true (by kernel_rfl)) (by unfold Func.isWrapper; first | (rw [if_pos (by decide +kernel)]; kernel_rfl) | (rw [if_neg (by decide +kernel)]; exact ⟨rfl, rfl⟩))
    (fun os started H enc _ => lifted os started H enc)

theorem proved : Rows.LawS930009CUnionSaid := over
#print axioms proved
end Go.Proofs.Ymbrda.lawS930009CUnion
