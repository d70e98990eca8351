/-
  LawS930009LExact.
-/
import Derived.Test.YmbrdcLplain
namespace Go.Proofs.Ymbrdc.lawS930009LExact
open Go.ChangeShapes Go.WideShapes Go.ChangeAt Go.RowKit
set_option linter.unusedVariables false
set_option linter.unusedSimpArgs false

set_option maxHeartbeats 8000000 in
set_option maxRecDepth 1000000 in
theorem walk (w : World) (a0 : Int) (w0 : (Lit.int .u16 a0).wf = true) (a1 : Option Addr) (n1 c1 : Nat) (zA zB : Nat → Int) (s1 : Rd2 .u16 .u16 w a1 n1 zA zB) (m1 : n1 ≤ maxLen) (wA : ∀ i, i < n1 → (Lit.int .u16 (zA i)).wf = true) (wB : ∀ i, i < n1 → (Lit.int .u16 (zB i)).wf = true)
    (a2 : Option Addr) (n2 c2 : Nat) (yA yB : Nat → Int) (s2 : Rd2 .u16 .u16 w a2 n2 yA yB) (m2 : n2 ≤ maxLen) (vA : ∀ i, i < n2 → (Lit.int .u16 (yA i)).wf = true) (vB : ∀ i, i < n2 → (Lit.int .u16 (yB i)).wf = true) :
    Calls Ydcm.prog 11 #[.int .u16 a0, .slice a1 n1 c1, .slice a2 n2 c2] w fun e w' => e = .returned (.bool true) ∧ Below w.heap.size w w' := by
  unfold maxLen at m1 m2
  have b0 := bd_u16 w0
  clear w0
  by_cases hlt : 1024 < n1
  · have hd : decide ((1024 : Int) < (n1 : Int)) = true := by simp; omega
    go_enter Ydcm.func11, Ydcm.ntmps11
    go_wp2_with fail
    go_ret
    exact ⟨rfl, Below.refl _ _⟩
  have hd : decide ((1024 : Int) < (n1 : Int)) = false := by simp; omega
  by_cases hlt2 : 1024 < n2
  · have hd2 : decide ((1024 : Int) < (n2 : Int)) = true := by simp; omega
    go_enter Ydcm.func11, Ydcm.ntmps11
    go_wp2_with fail
    go_ret
    exact ⟨rfl, Below.refl _ _⟩
  have hd2 : decide ((1024 : Int) < (n2 : Int)) = false := by simp; omega
  go_enter Ydcm.func11, Ydcm.ntmps11
  go_wp2_with fail
  obtain ⟨n, hn⟩ : ∃ n : Nat, a0 % 301 = n := Int.eq_ofNat_of_zero_le (by omega)
  rw [hn]
  have hn2 : n < 301 := by omega
  clear hn b0 hd hd2
  refine (lbuild_any n n1 c1 a1 zA zB _ (by omega) (by omega) s1 wA wB).mono ?_
  rintro e wa ⟨b, bp, bs, p, s, c, h⟩
  obtain rfl := h.ret
  have hS := h.sets
  have I := h.inv
  have G1 := hide h.gens
  have hF := h.fr
  clear h
  go_wp2_with fail
  refine (lbuild_any n n2 c2 a2 yA yB _ (by omega) (by omega) (hF.rd20 s2) vA vB).mono ?_
  rintro e wb ⟨b', bp', bs', q, t, d, h⟩
  obtain rfl := h.ret
  have hT := h.sets
  have J := h.inv
  have G2 := hide h.gens
  replace hS : SetsN wb b bp bs n p s c := SetsAt.fr0 hS h.fr
  replace hF := hF.trans h.fr
  clear h
  go_wp2_with fail
  refine (join_yes b bp bs n b' bp' bs' _ _ _ _ _ _ _ (by omega) hS hT I.lt J.lt).mono ?_
  rintro e wj ⟨bj, bpj, bsj, pj, sj, cj, hJ⟩
  obtain rfl := hJ.ret
  have hO : SetsN wj bj bpj bsj n pj sj cj := hJ.sets
  have Io := hJ.inv
  have HJ := hide (join_finer I J hJ.gens)
  replace hF := hF.trans hJ.fr
  have l1 := SetsAt.lt hO
  have l2 := hO.hp.lt
  have l3 := hO.hs.lt
  clear hJ hS hT I J
  go_wp2_with fail
  refine (lident_any n _ (by omega)).mono ?_
  rintro e wk ⟨B, rfl, hR, hB, hG⟩
  replace hO : SetsN wk bj bpj bsj n pj sj cj := SetsAt.fr0 hO hG
  have hsz := hF.size
  replace hF := hF.trans hG
  clear hG
  go_wp2_with fail
  refine (lmerge_any n n1 c1 B a1 zA zB (fun i => i) E00 _ (by omega) (by omega) (E00.lt n) hR (can_id n) (Gens.id n) (hF.rd20 s1) (fun h x hx => (rd2_apart s1 (b := B) (bp := B) (bs := B) (by omega) (by omega) (by omega) h x hx).1) wA wB).mono ?_
  rintro e wl ⟨L1, hM⟩
  obtain rfl := hM.ret
  have hR := hM.row
  have C1 := hM.can
  have K1 := hM.gens
  replace hO : SetsN wl bj bpj bsj n pj sj cj := SetsAt.fr hO hM.fr (by simp; omega) (by simp; omega) (by simp; omega)
  replace hF : Fr [] w wl := hF.trans' hM.fr (by intro x hx hl; simp at hx; omega)
  clear hM
  go_wp2_with fail
  refine (lmerge_any n n2 c2 B a2 yA yB L1 _ _ (by omega) (by omega) (EU.lt (E00.lt n)) hR C1 K1 (hF.rd20 s2) (fun h x hx => (rd2_apart s2 (b := B) (bp := B) (bs := B) (by omega) (by omega) (by omega) h x hx).1) vA vB).mono ?_
  rintro e wm ⟨L2, hM⟩
  obtain rfl := hM.ret
  have hR := hM.row
  have C2 := hide hM.can
  have K2 := hide hM.gens
  replace hO : SetsN wm bj bpj bsj n pj sj cj := SetsAt.fr hO hM.fr (by simp; omega) (by simp; omega) (by simp; omega)
  replace hF : Fr [] w wm := hF.trans' hM.fr (by intro x hx hl; simp at hx; omega)
  clear hM C1 K1
  have hK : SameKer n (rt n pj) L2 := finer_ext (fun M => by
    rw [HJ.out M, K2.out.finer (EU.lt (EU.lt (E00.lt n))), eu_split, G1.out.finer (EU.lt (E00.lt n)), G2.out.finer (EU.lt (E00.lt n))])
  have HK := hide (fun i hi => can_lab C2.out hK i hi)
  clear hK HJ K2 G1 G2
  go_wp2_with fail
  refine (lmatches_yes bj bpj bsj n _ pj sj cj _ L2 _ (by omega) hO Io hR.rd HK.out).mono ?_
  rintro e wn ⟨rfl, hG⟩
  go_wp2_with fail
  go_ret
  exact ⟨rfl, (hF.trans hG).below⟩

theorem own : ownKnob Ydcm.prog.godebug = none := by kernel_rfl
theorem laidOut : laidOutB Ydcm.prog = true := by kernel_rfl
set_option maxRecDepth 100000 in
theorem lifted (os : Os) (started : os.Started) (H : Type) (enc : TypeId × Value → H) :
    ReturnsInHanded {} Ydcm.checked os 11 .any (Rows.lawS930009LExactSpec.pre6 enc Ydcm.prog Ydcm.f11 Rows.lawS930009LExactRow.domain false) (Rows.lawS930009LExactSpec.post enc Ydcm.prog Ydcm.f11 false true false false) := by
  refine returnsInHanded_of_change (C := Ydcm.checked) own started (by kernel_rfl) Ydcm.func11
    (ChangeSpec.witness6 (enc := enc) (C := Ydcm.checked) false ⟨#[], #[.int .u16 0, .slice none 0 0, .slice none 0 0], []⟩ 8 (by kernel_rfl) (by kernel_rfl) (by kernel_rfl) (by kernel_rfl)) ?_
  intro W base args ds gs before hval0 hW hcnd _
  have hval : ∀ (j : Nat) t v, Ydcm.f11.params[j]? = some t → args[j]? = some v → Value.okWide Ydcm.prog W .any base t v := hval0
  have hW' := hW
  obtain ⟨p, q, hA0, hV, rfl, hfz, hnd⟩ := hW
  have hA : DataW.TrodAll enc Ydcm.prog W 0 (fun _ => true) true Ydcm.f11.params.toList args.toList ds p := hA0
  rw [Ydcm.params11] at hA hval
  obtain ⟨v0, vs0, d0, ds0, p0, q0, hargs, rfl, rfl, h0, r0⟩ := trodAll_cons hA
  obtain ⟨v1, vs1, d1, ds1, p1, q1, rfl, rfl, rfl, h1, r1⟩ := trodAll_cons r0
  obtain ⟨v2, vs2, d2, ds2, p2, q2, rfl, rfl, rfl, h2, r2⟩ := trodAll_cons r1
  obtain ⟨rfl, rfl, rfl⟩ := trodAll_nil r2
  obtain rfl : args = #[v0, v1, v2] := by cases args; simp_all
  obtain ⟨rfl, rfl⟩ := trodVars_none hV
  obtain ⟨a0, rfl, rfl, rfl, w0⟩ := open_int Ydcm.underlying50 (hval 0 50 v0 rfl rfl) h0
  obtain ⟨a1, n1, c1, rfl⟩ := okWide_slice Ydcm.underlying51 (hval 1 51 v1 rfl rfl)
  have lt1 : ∀ x ∈ p1, x.block < W.heap.size := by obtain ⟨m, hm⟩ := h1; exact DataW.trod_lt m _ _ _ hm
  obtain ⟨z10, z11, s1, m1, w10, w11⟩ := rd2_of_trod Ydcm.underlying51 Ydcm.underlying64 (by kernel_rfl) rfl rfl rfl rfl Ydcm.underlying50 Ydcm.underlying50 (by kernel_rfl) (by kernel_rfl) h1
  obtain ⟨a2, n2, c2, rfl⟩ := okWide_slice Ydcm.underlying51 (hval 2 51 v2 rfl rfl)
  have lt2 : ∀ x ∈ p2, x.block < W.heap.size := by obtain ⟨m, hm⟩ := h2; exact DataW.trod_lt m _ _ _ hm
  obtain ⟨z20, z21, s2, m2, w20, w21⟩ := rd2_of_trod Ydcm.underlying51 Ydcm.underlying64 (by kernel_rfl) rfl rfl rfl rfl Ydcm.underlying50 Ydcm.underlying50 (by kernel_rfl) (by kernel_rfl) h2
  clear hA0 hval0
  refine (walk W a0 w0 a1 n1 c1 z10 z11 s1 m1 w10 w11 a2 n2 c2 z20 z21 s2 m2 w20 w21).mono fun e W' ⟨he, bel⟩ => ?_
  subst he
  exact ⟨_, rfl, _, _, _, [], _, [], hW', trodAll_mk1 (shut_bool Ydcm.underlying4 _), (cons_mk (shut_int Ydcm.underlying50 w0) (cons_mk (Below.trod laidOut (by kernel_rfl) (of_decide_eq_true (by kernel_rfl)) h1 bel lt1) (cons_mk (Below.trod laidOut (by kernel_rfl) (of_decide_eq_true (by kernel_rfl)) h2 bel lt2) trodAll_mk0))), rfl, bel.frame _, fun h => by cases h⟩

theorem over : Rows.lawS930009LExactRow.holds Ydcm.pinned (OpenSpec.ofChange Rows.lawS930009LExactSpec) :=
  OpenClaim.holds_of_wide 11 Ydcm.f11 rfl rfl rfl rfl rfl rfl rfl ⟨rfl, rfl, rfl, rfl, rfl⟩ rfl rfl rfl rfl rfl (by kernel_rfl) Ydcm.func11 (by kernel_rfl)
    (of_decide_eq_true (by kernel_rfl)) (by unfold Func.isWrapper; first | (rw [if_pos (by decide +kernel)]; kernel_rfl) | (rw [if_neg (by decide +kernel)]; exact ⟨rfl, rfl⟩))
    (fun os started H enc _ => lifted os started H enc)

theorem proved : Rows.LawS930009LExactSaid := over
#print axioms proved
end Go.Proofs.Ymbrdc.lawS930009LExact
