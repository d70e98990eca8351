/-
  LawS930009AFresh.
-/
import Derived.Test.YmbrdaSingle
import Derived.Test.YmbrdaOpen
namespace Go.Proofs.Ymbrda.lawS930009AFresh
open Go.ChangeShapes Go.WideShapes Go.ChangeAt Go.RowKit
set_option linter.unusedVariables false
set_option linter.unusedSimpArgs false

set_option maxHeartbeats 1000000 in
theorem walk (w : World) (a0 : Int) (w0 : (Lit.int .u16 a0).wf = true) (a1 : Int) (w1 : (Lit.int .u16 a1).wf = true) (a2 : Int) (w2 : (Lit.int .i64 a2).wf = true) :
    Calls Ydam.prog 5 #[.int .u16 a0, .int .u16 a1, .int .i64 a2] w fun e w' => e = .returned (.bool true) ∧ Below w.heap.size w w' := by
  have b0 := bd_u16 w0
  have b1 := bd_u16 w1
  clear w0 w1 w2
  obtain ⟨s, rfl⟩ := Int.eq_ofNat_of_zero_le b0.1
  obtain ⟨t, rfl⟩ := Int.eq_ofNat_of_zero_le b1.1
  go_enter Ydam.func5, Ydam.ntmps5
  go_wp2_with fail
  obtain ⟨n, hn⟩ : ∃ n : Nat, 1 + (s : Int) % 1024 = n := ⟨1 + s % 1024, by omega⟩
  rw [hn]
  have n1 : 1 ≤ n := by omega
  have n2 : n ≤ 1024 := by omega
  obtain ⟨i, hi⟩ : ∃ i : Nat, (t : Int) % n = i := ⟨t % n, by omega⟩
  rw [hi]
  have i1 : i < n := by
    have := Int.emod_lt_of_pos (t : Int) (b := (n : Int)) (by omega)
    omega
  clear hn hi b0 b1
  refine (new_yes n _ (by omega)).mono ?_
  rintro e w1 ⟨b, bp, bs, rfl, hS, hb, hbp, hbs, hF⟩
  go_wp2_with fail
  refine (new_yes n _ (by omega)).mono ?_
  rintro e w2 ⟨b', bp', bs', rfl, hS', hb', hbp', hbs', hF'⟩
  have l1 := hS.lt
  have l2 := hS.hp.lt
  have l3 := hS.hs.lt
  have hS := hS.fr0 hF'
  have hF2 := hF.trans hF'
  go_wp2_with fail
  refine (single_yes _ _ _ n _ (by omega) hS).mono ?_
  rintro e w' ⟨rfl, rfl⟩
  have c0 := hS.c0
  have c1 := hS.c1
  have c2 := hS.c2
  have f2 := hS.frozen 2
  have cp := hS.hp.cell i i1
  have cs := hS.hs.cell i i1
  have fp := hS.hp.frozen i
  have fs := hS.hs.frozen i
  have ne1 := hS.nep
  have ne2 := hS.nes
  have ne3 := hS.ne
  go_wp2_with fail
  have hT := ((hS'.set_ne ⟨bp, i, none⟩ (.int .i64 a2) (by show bp ≠ b'; omega) (by show bp ≠ bp'; omega) (by show bp ≠ bs'; omega)).set_ne ⟨bs, i, none⟩ (.int .i64 a2) (by show bs ≠ b'; omega) (by show bs ≠ bp'; omega) (by show bs ≠ bs'; omega)).set_ne ⟨b, 2, none⟩ (.int .i64 a2) (by show b ≠ b'; omega) (by show b ≠ bp'; omega) (by show b ≠ bs'; omega)
  refine (single_yes _ _ _ n _ (by omega) hT).mono ?_
  rintro e w3 ⟨rfl, rfl⟩
  go_wp2_with fail
  go_ret
  refine ⟨rfl, Fr.below ?_⟩
  exact ((hF2.setCell _ (.inr hbp) _).setCell _ (.inr hbs) _).setCell _ (.inr hb) _

theorem own : ownKnob Ydam.prog.godebug = none := by kernel_rfl
theorem laidOut : laidOutB Ydam.prog = true := by kernel_rfl
set_option maxRecDepth 100000 in
theorem lifted (os : Os) (started : os.Started) (H : Type) (enc : TypeId × Value → H) :
    ReturnsInHanded {} Ydam.checked os 5 .any (Rows.lawS930009AFreshSpec.pre6 enc Ydam.prog Ydam.f5 Rows.lawS930009AFreshRow.domain false) (Rows.lawS930009AFreshSpec.post enc Ydam.prog Ydam.f5 false true false false) := by
  refine returnsInHanded_of_change (C := Ydam.checked) own started (by kernel_rfl) Ydam.func5
    (ChangeSpec.witness6 (enc := enc) (C := Ydam.checked) false ⟨#[], #[.int .u16 0, .int .u16 0, .int .i64 0], []⟩ 8 (by kernel_rfl) (by kernel_rfl) (by kernel_rfl) (by kernel_rfl)) ?_
  intro W base args ds gs before hval0 hW hcnd _
  have hval : ∀ (j : Nat) t v, Ydam.f5.params[j]? = some t → args[j]? = some v → Value.okWide Ydam.prog W .any base t v := hval0
  have hW' := hW
  obtain ⟨p, q, hA0, hV, rfl, hfz, hnd⟩ := hW
  have hA : DataW.TrodAll enc Ydam.prog W 0 (fun _ => true) true Ydam.f5.params.toList args.toList ds p := hA0
  rw [Ydam.params5] at hA hval
  obtain ⟨v0, vs0, d0, ds0, p0, q0, hargs, rfl, rfl, h0, r0⟩ := trodAll_cons hA
  obtain ⟨v1, vs1, d1, ds1, p1, q1, rfl, rfl, rfl, h1, r1⟩ := trodAll_cons r0
  obtain ⟨v2, vs2, d2, ds2, p2, q2, rfl, rfl, rfl, h2, r2⟩ := trodAll_cons r1
  obtain ⟨rfl, rfl, rfl⟩ := trodAll_nil r2
  obtain rfl : args = #[v0, v1, v2] := by cases args; simp_all
  obtain ⟨rfl, rfl⟩ := trodVars_none hV
  obtain ⟨a0, rfl, rfl, rfl, w0⟩ := open_int Ydam.underlying29 (hval 0 29 v0 rfl rfl) h0
  obtain ⟨a1, rfl, rfl, rfl, w1⟩ := open_int Ydam.underlying29 (hval 1 29 v1 rfl rfl) h1
  obtain ⟨a2, rfl, rfl, rfl, w2⟩ := open_int Ydam.underlying3 (hval 2 3 v2 rfl rfl) h2
  clear hA0 hval0
  refine (walk W a0 w0 a1 w1 a2 w2).mono fun e W' ⟨he, bel⟩ => ?_
  subst he
  exact ⟨_, rfl, _, _, _, [], _, [], hW', trodAll_mk1 (shut_bool Ydam.underlying4 _), (cons_mk (shut_int Ydam.underlying29 w0) (cons_mk (shut_int Ydam.underlying29 w1) (cons_mk (shut_int Ydam.underlying3 w2) trodAll_mk0))), rfl, bel.frame _, fun h => by cases h⟩

theorem over : Rows.lawS930009AFreshRow.holds Ydam.pinned (OpenSpec.ofChange Rows.lawS930009AFreshSpec) :=
  OpenClaim.holds_of_wide 5 Ydam.f5 rfl rfl rfl rfl rfl rfl rfl ⟨rfl, rfl, rfl, rfl, rfl⟩ rfl rfl rfl rfl rfl (by kernel_rfl) Ydam.func5 (by kernel_rfl)
    (of_decide_eq_true (by kernel_rfl)) (by unfold Func.isWrapper; first | (rw [if_pos (by decide +kernel)]; kernel_rfl) | (rw [if_neg (by decide +kernel)]; exact ⟨rfl, rfl⟩))
    (fun os started H enc _ => lifted os started H enc)

theorem proved : Rows.LawS930009AFreshSaid := over
#print axioms proved

end Go.Proofs.Ymbrda.lawS930009AFresh
