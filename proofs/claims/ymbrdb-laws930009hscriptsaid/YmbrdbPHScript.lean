/-
  LawS930009HScript.
-/
import Derived.Test.YmbrdbHplay
import Derived.Test.YmbrdbFirst
namespace Go.Proofs.Ymbrdb.lawS930009HScript
open Go.ChangeShapes Go.WideShapes Go.ChangeAt Go.RowKit
set_option linter.unusedVariables false
set_option linter.unusedSimpArgs false

theorem size_eq {n : Nat} {p s L : Nat → Nat} {c : Nat} {E : Nat → Nat → Prop} (I : Inv n p s c) (G : Gens n (rt n p) E) (H : Gens n L E) (x : Int) : szof n p s x = hcn n (fun i => (L i : Int)) x := by
  by_cases h : 0 ≤ x ∧ x < (n : Int)
  · obtain ⟨y, rfl⟩ := Int.eq_ofNat_of_zero_le h.1
    have hy : y < n := by omega
    rw [szof_nat p s hy, I.size y hy, (G.same H).size y hy]
    unfold hcn
    rw [inb_nat hy, if_pos rfl]
    congr 1
    apply cnt_congr
    intro i _
    rw [Bool.eq_iff_iff]
    simp only [beq_iff_eq, Int.toNat_natCast]
    omega
  · have e : inb n x = false := by simp [inb]; omega
    rw [szof_out p s e]
    unfold hcn
    rw [e]
    rfl

set_option maxHeartbeats 4000000 in
set_option maxRecDepth 100000 in
theorem walk (w : World) (a0 : Int) (w0 : (Lit.int .u16 a0).wf = true) (a1 : Option Addr) (n1 c1 : Nat) (zO zA zB : Nat → Int) (s1 : Rd3 .u8 .u16 .u16 w a1 n1 zO zA zB) (m1 : n1 ≤ maxLen)
    (wO : ∀ i, i < n1 → (Lit.int .u8 (zO i)).wf = true) (wA : ∀ i, i < n1 → (Lit.int .u16 (zA i)).wf = true) (wB : ∀ i, i < n1 → (Lit.int .u16 (zB i)).wf = true) (a2 : Int) (w2 : (Lit.int .i64 a2).wf = true) :
    Calls Ydbm.prog 11 #[.int .u16 a0, .slice a1 n1 c1, .int .i64 a2] w fun e w' => e = .returned (.bool true) ∧ Below w.heap.size w w' := by
  unfold maxLen at m1
  have b0 := bd_u16 w0
  clear w0 w2
  by_cases hlt : 1024 < n1
  · have hd : decide ((1024 : Int) < (n1 : Int)) = true := by simp; omega
    go_enter Ydbm.func11, Ydbm.ntmps11
    go_wp2_with fail
    go_ret
    exact ⟨rfl, Below.refl _ _⟩
  · have hd : decide ((1024 : Int) < (n1 : Int)) = false := by simp; omega
    obtain ⟨n, hn⟩ : ∃ n : Nat, a0 % 1025 = n := Int.eq_ofNat_of_zero_le (by omega)
    have hn2 : n ≤ 1024 := by omega
    have hm2 : n1 ≤ 1024 := by omega
    go_enter Ydbm.func11, Ydbm.ntmps11
    go_upto_region 4 with fail
    rw [hn]
    clear b0 hlt hn
    go_wp2_with fail
    refine (new_yes n _ (by omega)).mono ?_
    rintro e wA1 ⟨b, bp, bs, rfl, hS, hb, hbp, hbs, hF⟩
    replace hS : SetsN wA1 b bp bs n (fun x => x) (fun _ => 1) n := hS
    go_upto_if 28 with fail
    go_cut [] from 28 to 32 (fun wz => ∃ (p s : Nat → Nat) (c : Nat), SetsN wz b bp bs n p s c ∧ Inv n p s c ∧ Gens n (rt n p) (EH n zO zA zB n1) ∧ Fr [] w wz)
    case first =>
      by_cases h0 : n = 0
      · subst h0
        go_wp2_with fail
        go_meet
        case rel => exact ⟨fun x => x, fun _ => 1, 0, hS, inv_new 0, (gens_new 0 (md1 0 zA) (md1 0 zB) (fun i => zO i % 3 ≠ 2)).iff (fun x y => (EU.none x y).trans (EU.none x y).symm), hF⟩
      · have hpos : (0 : Int) < (n : Int) := by omega
        have hdp : decide ((0 : Int) < (n : Int)) = true := dec_true hpos
        have hdp' : decide (0 < n) = true := dec_true (by omega)
        go_wp2_with fail
        refine (hplay_any b bp bs n n1 c1 a1 zO zA zB _ (by omega) hn2 (by omega) hS (hF.rd30 s1) (rd3_apart s1 hb hbp hbs) wO wA wB).mono ?_
        rintro e wz ⟨p, s, c, h⟩
        obtain rfl := h.ret
        have hF3 : Fr [] w wz := hF.trans' h.fr (by intro x hx hl; simp at hx; omega)
        have hS2 := h.sets
        have I2 := h.inv
        have HG := hide h.gens
        clear h hS hF
        go_wp2_with fail
        go_meet
        case rel => exact ⟨p, s, c, hS2, I2, HG.out, hF3⟩
    case rest =>
      clear hS hF
      obtain ⟨p, s, c, hS, I, hG, hF⟩ := hcut
      have HG := hide hG
      clear hG hd
      go_wp2_with fail
      refine (hmodel_any n n1 c1 a1 zO zA zB _ hn2 (by omega) (hF.rd30 s1) wO wA wB).mono ?_
      rintro e x0 ⟨B, L, h⟩
      obtain rfl := h.ret
      replace hS : SetsN x0 b bp bs n p s c := SetsAt.fr0 hS h.fr
      replace hF := hF.trans h.fr
      have R0 := h.row
      have HL := hide h.gens
      clear h
      go_wp2_with fail
      refine (hcount_any _ n n _ a2 _ (by omega) R0.rd).mono ?_
      rintro e x1 ⟨rfl, hG⟩
      replace hS : SetsN x1 b bp bs n p s c := SetsAt.fr0 hS hG
      replace hF := hF.trans hG
      clear hG
      have hE := size_eq I HG.out HL.out a2
      go_wp2_with fail
      refine (sizeOf_any b bp bs n p s _ _ a2 _ hS I.forest).mono ?_
      rintro e x2 ⟨rfl, rfl⟩
      rw [hE]
      clear hE
      go_wp2_with fail
      go_ret
      exact ⟨rfl, hF.below⟩

theorem own : ownKnob Ydbm.prog.godebug = none := by kernel_rfl
theorem laidOut : laidOutB Ydbm.prog = true := by kernel_rfl
set_option maxRecDepth 100000 in
theorem lifted (os : Os) (started : os.Started) (H : Type) (enc : TypeId × Value → H) :
    ReturnsInHanded {} Ydbm.checked os 11 .any (Rows.lawS930009HScriptSpec.pre6 enc Ydbm.prog Ydbm.f11 Rows.lawS930009HScriptRow.domain false) (Rows.lawS930009HScriptSpec.post enc Ydbm.prog Ydbm.f11 false true false false) := by
  refine returnsInHanded_of_change (C := Ydbm.checked) own started (by kernel_rfl) Ydbm.func11
    (ChangeSpec.witness6 (enc := enc) (C := Ydbm.checked) false ⟨#[], #[.int .u16 0, .slice none 0 0, .int .i64 0], []⟩ 8 (by kernel_rfl) (by kernel_rfl) (by kernel_rfl) (by kernel_rfl)) ?_
  intro W base args ds gs before hval0 hW hcnd _
  have hval : ∀ (j : Nat) t v, Ydbm.f11.params[j]? = some t → args[j]? = some v → Value.okWide Ydbm.prog W .any base t v := hval0
  have hW' := hW
  obtain ⟨p, q, hA0, hV, rfl, hfz, hnd⟩ := hW
  have hA : DataW.TrodAll enc Ydbm.prog W 0 (fun _ => true) true Ydbm.f11.params.toList args.toList ds p := hA0
  rw [Ydbm.params11] at hA hval
  obtain ⟨v0, vs0, d0, ds0, p0, q0, hargs, rfl, rfl, h0, r0⟩ := trodAll_cons hA
  obtain ⟨v1, vs1, d1, ds1, p1, q1, rfl, rfl, rfl, h1, r1⟩ := trodAll_cons r0
  obtain ⟨v2, vs2, d2, ds2, p2, q2, rfl, rfl, rfl, h2, r2⟩ := trodAll_cons r1
  obtain ⟨rfl, rfl, rfl⟩ := trodAll_nil r2
  obtain rfl : args = #[v0, v1, v2] := by cases args; simp_all
  obtain ⟨rfl, rfl⟩ := trodVars_none hV
  obtain ⟨a0, rfl, rfl, rfl, w0⟩ := open_int Ydbm.underlying35 (hval 0 35 v0 rfl rfl) h0
  obtain ⟨a1, n1, c1, rfl⟩ := okWide_slice Ydbm.underlying57 (hval 1 57 v1 rfl rfl)
  have lt1 : ∀ x ∈ p1, x.block < W.heap.size := by obtain ⟨m, hm⟩ := h1; exact DataW.trod_lt m _ _ _ hm
  obtain ⟨z10, z11, z12, s1, m1, w10, w11, w12⟩ := rd3_of_trod Ydbm.underlying57 Ydbm.underlying78 (by kernel_rfl) rfl rfl rfl rfl rfl rfl Ydbm.underlying5 Ydbm.underlying35 Ydbm.underlying35 (by kernel_rfl) (by kernel_rfl) (by kernel_rfl) h1
  obtain ⟨a2, rfl, rfl, rfl, w2⟩ := open_int Ydbm.underlying3 (hval 2 3 v2 rfl rfl) h2
  clear hA0 hval0
  refine (walk W a0 w0 a1 n1 c1 z10 z11 z12 s1 m1 w10 w11 w12 a2 w2).mono fun e W' ⟨he, bel⟩ => ?_
  subst he
  exact ⟨_, rfl, _, _, _, [], _, [], hW', trodAll_mk1 (shut_bool Ydbm.underlying4 _), (cons_mk (shut_int Ydbm.underlying35 w0) (cons_mk (Below.trod laidOut (by kernel_rfl) (of_decide_eq_true (by kernel_rfl)) h1 bel lt1) (cons_mk (shut_int Ydbm.underlying3 w2) trodAll_mk0))), rfl, bel.frame _, fun h => by cases h⟩

theorem over : Rows.lawS930009HScriptRow.holds Ydbm.pinned (OpenSpec.ofChange Rows.lawS930009HScriptSpec) :=
  OpenClaim.holds_of_wide 11 Ydbm.f11 rfl rfl rfl rfl rfl rfl rfl ⟨rfl, rfl, rfl, rfl, rfl⟩ rfl rfl rfl rfl rfl (by kernel_rfl) Ydbm.func11 (by kernel_rfl)
    (of_decide_eq_true (by kernel_rfl)) (by unfold Func.isWrapper; first | (rw [if_pos (by decide +kernel)]; kernel_rfl) | (rw [if_neg (by decide +kernel)]; exact ⟨rfl, rfl⟩))
    (fun os started H enc _ => lifted os started H enc)

theorem proved : Rows.LawS930009HScriptSaid := over
#print axioms proved
end Go.Proofs.Ymbrdb.lawS930009HScript
