/-
  LawS930009IGrow.
-/
import Derived.Test.YmbrdcRefines
namespace Go.Proofs.Ymbrdc.lawS930009IGrow
open Go.ChangeShapes Go.WideShapes Go.ChangeAt Go.RowKit
set_option linter.unusedVariables false
set_option linter.unusedSimpArgs false

theorem told {e : Ending} {Q : Prop} (h : Tells e Q) (q : Q) : e = .returned (.bool true) := by
  obtain ⟨r, rfl, hr⟩ := h
  rw [hr.2 q]

theorem told_iff {e : Ending} {Q : Prop} {g : Nat} (h : Tells e Q) (hg : g = 0 ↔ Q) : e = .returned (.bool ((g : Int) == 0)) := by
  obtain ⟨r, rfl, hr⟩ := h
  congr 2
  rw [Bool.eq_iff_iff]
  rw [hr, ← hg]
  simp

set_option maxHeartbeats 2000000 in
set_option maxRecDepth 100000 in
theorem walk (w : World) (a0 : Int) (w0 : (Lit.int .u8 a0).wf = true) (a1 : Option Addr) (n1 c1 : Nat) (zA zB : Nat → Int) (s1 : Rd2 .u8 .u8 w a1 n1 zA zB) (m1 : n1 ≤ maxLen) (wA : ∀ i, i < n1 → (Lit.int .u8 (zA i)).wf = true) (wB : ∀ i, i < n1 → (Lit.int .u8 (zB i)).wf = true)
    (a2 : Option Addr) (n2 c2 : Nat) (yA yB : Nat → Int) (s2 : Rd2 .u8 .u8 w a2 n2 yA yB) (m2 : n2 ≤ maxLen) (vA : ∀ i, i < n2 → (Lit.int .u8 (yA i)).wf = true) (vB : ∀ i, i < n2 → (Lit.int .u8 (yB i)).wf = true) :
    Calls Ydcm.prog 3 #[.int .u8 a0, .slice a1 n1 c1, .slice a2 n2 c2] w fun e w' => e = .returned (.bool true) ∧ Below w.heap.size w w' := by
  unfold maxLen at m1 m2
  have b0 := bd_u8 w0
  clear w0
  by_cases hlt : 1024 < n1
  · have hd : decide ((1024 : Int) < (n1 : Int)) = true := by simp; omega
    go_enter Ydcm.func3, Ydcm.ntmps3
    go_wp2_with fail
    go_ret
    exact ⟨rfl, Below.refl _ _⟩
  by_cases hlt2 : 1024 < n2
  · have hd : decide ((1024 : Int) < (n1 : Int)) = false := by simp; omega
    have hd2 : decide ((1024 : Int) < (n2 : Int)) = true := by simp; omega
    go_enter Ydcm.func3, Ydcm.ntmps3
    go_wp2_with fail
    go_ret
    exact ⟨rfl, Below.refl _ _⟩
  have hd : decide ((1024 : Int) < (n1 : Int)) = false := by simp; omega
  have hd2 : decide ((1024 : Int) < (n2 : Int)) = false := by simp; omega
  go_enter Ydcm.func3, Ydcm.ntmps3
  go_wp2_with fail
  obtain ⟨n, hn⟩ : ∃ n : Nat, a0 % 24 = n := Int.eq_ofNat_of_zero_le (by omega)
  rw [hn]
  have hn2 : n < 24 := by omega
  clear hn b0 hd hd2
  refine (new_yes n _ (by omega)).mono ?_
  rintro e wa ⟨b, bp, bs, rfl, hS, hb, hbp, hbs, hF⟩
  have t1 := hS.lt
  have t2 := hS.hp.lt
  have t3 := hS.hs.lt
  go_wp2_with fail
  refine (new_yes n _ (by omega)).mono ?_
  rintro e wb ⟨b', bp', bs', rfl, hS', hb', hbp', hbs', hF'⟩
  have t4 := hS'.lt
  have t5 := hS'.hp.lt
  have t6 := hS'.hs.lt
  have hS : SetsN wb b bp bs n (fun x => x) (fun _ => 1) n := SetsAt.fr0 hS hF'
  have hF := hF.trans hF'
  go_wp2_with fail
  refine (new_yes n _ (by omega)).mono ?_
  rintro e wc ⟨b'', bp'', bs'', rfl, hS'', hb'', hbp'', hbs'', hF''⟩
  have hS : SetsN wc b bp bs n (fun x => x) (fun _ => 1) n := SetsAt.fr0 hS hF''
  have hS' : SetsN wc b' bp' bs' n (fun x => x) (fun _ => 1) n := SetsAt.fr0 hS' hF''
  have hS'' : SetsN wc b'' bp'' bs'' n (fun x => x) (fun _ => 1) n := hS''
  have hF := hF.trans hF''
  clear hF' hF''
  have G0 : Gens n (rt n (fun x => x)) E00 := (Gens.id n).of_eq (fun _ _ h => h.elim) (fun x _ => rt_of_root n rfl)
  have K0 := inv_new n
  go_wp2_with fail
  refine (iplay_any b' bp' bs' n n1 c1 _ _ _ a1 zA zB E00 _ (by omega) (by omega) (E00.lt n) hS' K0 G0 (hF.rd20 s1) (rd2_apart s1 (by omega) (by omega) (by omega)) wA wB).mono ?_
  rintro e wd ⟨g1, p1, q1, d1, rfl, hT1, I1, G1, Z1, hFd⟩
  have hS := SetsAt.fr hS hFd (by simp; omega) (by simp; omega) (by simp; omega)
  have hS'' := SetsAt.fr hS'' hFd (by simp; omega) (by simp; omega) (by simp; omega)
  have hF : Fr [] w wd := hF.trans' hFd (by intro x hx hl; simp at hx; omega)
  clear hFd
  go_wp2_with fail
  refine (iplay_any b'' bp'' bs'' n n1 c1 _ _ _ a1 zA zB E00 _ (by omega) (by omega) (E00.lt n) hS'' K0 G0 (hF.rd20 s1) (rd2_apart s1 (by omega) (by omega) (by omega)) wA wB).mono ?_
  rintro e we ⟨g2, p2, q2, d2, rfl, hT2, I2, G2, Z2, hFe⟩
  have hS := SetsAt.fr hS hFe (by simp; omega) (by simp; omega) (by simp; omega)
  have hT1 := SetsAt.fr hT1 hFe (by simp; omega) (by simp; omega) (by simp; omega)
  have hF : Fr [] w we := hF.trans' hFe (by intro x hx hl; simp at hx; omega)
  clear hFe
  go_wp2_with fail
  refine (iplay_any b'' bp'' bs'' n n2 c2 _ _ _ a2 yA yB _ _ (by omega) (by omega) (EU.lt (E00.lt n)) hT2 I2 G2 (hF.rd20 s2) (rd2_apart s2 (by omega) (by omega) (by omega)) vA vB).mono ?_
  rintro e wf ⟨g3, p3, q3, d3, rfl, hT3, I3, G3, Z3, hFf⟩
  have hS : SetsN wf b bp bs n (fun x => x) (fun _ => 1) n := SetsAt.fr hS hFf (by simp; omega) (by simp; omega) (by simp; omega)
  have hT1 : SetsN wf b' bp' bs' n p1 q1 d1 := SetsAt.fr hT1 hFf (by simp; omega) (by simp; omega) (by simp; omega)
  have hF : Fr [] w wf := hF.trans' hFf (by intro x hx hl; simp at hx; omega)
  clear hFf hT2 Z2
  have SK := G1.same G2
  have R1 : Finer n (rt n p1) (rt n p1) := fun _ _ _ _ h => h
  have R2 : Finer n (rt n p1) (rt n p3) := (G1.finer (EU.lt (E00.lt n))).2 (fun a b hab => G3.mem a b (Or.inl hab))
  have R3 : Finer n (rt n (fun x => x)) (rt n p1) := by
    intro x y _ _ h
    rw [rt_of_root n rfl, rt_of_root n rfl] at h
    rw [h]
  have R4 : g3 = 0 ↔ Finer n (rt n p3) (rt n p1) := by
    rw [Z3]
    constructor
    · intro h
      refine (G3.finer (EU.lt (EU.lt (E00.lt n)))).2 (fun a b hab => ?_)
      obtain ⟨ha, hb⟩ := EU.lt (EU.lt (E00.lt n)) a b hab
      exact (SK a b ha hb).2 (h a b hab)
    · intro h a b hab
      obtain ⟨ha, hb⟩ := EU.lt (EU.lt (E00.lt n)) a b hab
      exact (SK a b ha hb).1 ((G3.finer (EU.lt (EU.lt (E00.lt n)))).1 h a b hab)
  have R5 : g1 = 0 ↔ Finer n (rt n p1) (rt n (fun x => x)) := by
    rw [Z1, G1.finer (EU.lt (E00.lt n))]
  have H4 := hide R4
  have H5 := hide R5
  clear Z1 Z3 G1 G2 G3 G0 SK R4 R5
  go_wp2_with fail
  refine (refines_any b' bp' bs' n b' bp' bs' n _ _ _ _ _ _ _ (by omega) hT1 hT1 I1 I1).mono ?_
  rintro e wg ⟨ht, hFg⟩
  obtain rfl := told ht ⟨rfl, R1⟩
  have hS := SetsAt.fr0 hS hFg
  have hT1 := SetsAt.fr0 hT1 hFg
  have hT3 := SetsAt.fr0 hT3 hFg
  have hF := hF.trans hFg
  clear ht hFg
  go_wp2_with fail
  refine (refines_any b' bp' bs' n b'' bp'' bs'' n _ _ _ _ _ _ _ (by omega) hT1 hT3 I1 I3).mono ?_
  rintro e wh ⟨ht, hFg⟩
  obtain rfl := told ht ⟨rfl, R2⟩
  have hS : SetsN wh b bp bs n (fun x => x) (fun _ => 1) n := SetsAt.fr0 hS hFg
  have hT1 : SetsN wh b' bp' bs' n p1 q1 d1 := SetsAt.fr0 hT1 hFg
  have hT3 : SetsN wh b'' bp'' bs'' n p3 q3 d3 := SetsAt.fr0 hT3 hFg
  have hF := hF.trans hFg
  clear ht hFg
  go_wp2_with fail
  refine (refines_any b bp bs n b' bp' bs' n _ _ _ _ _ _ _ (by omega) hS hT1 K0 I1).mono ?_
  rintro e wi ⟨ht, hFg⟩
  obtain rfl := told ht ⟨rfl, R3⟩
  have hS : SetsN wi b bp bs n (fun x => x) (fun _ => 1) n := SetsAt.fr0 hS hFg
  have hT1 : SetsN wi b' bp' bs' n p1 q1 d1 := SetsAt.fr0 hT1 hFg
  have hT3 : SetsN wi b'' bp'' bs'' n p3 q3 d3 := SetsAt.fr0 hT3 hFg
  have hF := hF.trans hFg
  clear ht hFg
  go_wp2_with fail
  refine (refines_any b'' bp'' bs'' n b' bp' bs' n _ _ _ _ _ _ _ (by omega) hT3 hT1 I3 I1).mono ?_
  rintro e wj ⟨ht, hFg⟩
  obtain rfl := told_iff ht ⟨fun h => ⟨rfl, H4.out.1 h⟩, fun h => H4.out.2 h.2⟩
  have hS : SetsN wj b bp bs n (fun x => x) (fun _ => 1) n := SetsAt.fr0 hS hFg
  have hT1 : SetsN wj b' bp' bs' n p1 q1 d1 := SetsAt.fr0 hT1 hFg
  have hF := hF.trans hFg
  clear ht hFg H4
  have ee : (((g3 : Int) == 0) != ((g3 : Int) == 0)) = false := by simp
  go_wp2_with fail
  refine (refines_any b' bp' bs' n b bp bs n _ _ _ _ _ _ _ (by omega) hT1 hS I1 K0).mono ?_
  rintro e wk ⟨ht, hFg⟩
  obtain rfl := told_iff ht ⟨fun h => ⟨rfl, H5.out.1 h⟩, fun h => H5.out.2 h.2⟩
  have hF := hF.trans hFg
  clear ht hFg H5
  go_wp2_with fail
  go_ret
  exact ⟨by simp, hF.below⟩

theorem own : ownKnob Ydcm.prog.godebug = none := by kernel_rfl
theorem laidOut : laidOutB Ydcm.prog = true := by kernel_rfl
set_option maxRecDepth 100000 in
theorem lifted (os : Os) (started : os.Started) (H : Type) (enc : TypeId × Value → H) :
    ReturnsInHanded {} Ydcm.checked os 3 .any (Rows.lawS930009IGrowSpec.pre6 enc Ydcm.prog Ydcm.f3 Rows.lawS930009IGrowRow.domain false) (Rows.lawS930009IGrowSpec.post enc Ydcm.prog Ydcm.f3 false true false false) := by
  refine returnsInHanded_of_change (C := Ydcm.checked) own started (by kernel_rfl) Ydcm.func3
    (ChangeSpec.witness6 (enc := enc) (C := Ydcm.checked) false ⟨#[], #[.int .u8 0, .slice none 0 0, .slice none 0 0], []⟩ 8 (by kernel_rfl) (by kernel_rfl) (by kernel_rfl) (by kernel_rfl)) ?_
  intro W base args ds gs before hval0 hW hcnd _
  have hval : ∀ (j : Nat) t v, Ydcm.f3.params[j]? = some t → args[j]? = some v → Value.okWide Ydcm.prog W .any base t v := hval0
  have hW' := hW
  obtain ⟨p, q, hA0, hV, rfl, hfz, hnd⟩ := hW
  have hA : DataW.TrodAll enc Ydcm.prog W 0 (fun _ => true) true Ydcm.f3.params.toList args.toList ds p := hA0
  rw [Ydcm.params3] at hA hval
  obtain ⟨v0, vs0, d0, ds0, p0, q0, hargs, rfl, rfl, h0, r0⟩ := trodAll_cons hA
  obtain ⟨v1, vs1, d1, ds1, p1, q1, rfl, rfl, rfl, h1, r1⟩ := trodAll_cons r0
  obtain ⟨v2, vs2, d2, ds2, p2, q2, rfl, rfl, rfl, h2, r2⟩ := trodAll_cons r1
  obtain ⟨rfl, rfl, rfl⟩ := trodAll_nil r2
  obtain rfl : args = #[v0, v1, v2] := by cases args; simp_all
  obtain ⟨rfl, rfl⟩ := trodVars_none hV
  obtain ⟨a0, rfl, rfl, rfl, w0⟩ := open_int Ydcm.underlying5 (hval 0 5 v0 rfl rfl) h0
  obtain ⟨a1, n1, c1, rfl⟩ := okWide_slice Ydcm.underlying22 (hval 1 22 v1 rfl rfl)
  have lt1 : ∀ x ∈ p1, x.block < W.heap.size := by obtain ⟨m, hm⟩ := h1; exact DataW.trod_lt m _ _ _ hm
  obtain ⟨z10, z11, s1, m1, w10, w11⟩ := rd2_of_trod Ydcm.underlying22 Ydcm.underlying59 (by kernel_rfl) rfl rfl rfl rfl Ydcm.underlying5 Ydcm.underlying5 (by kernel_rfl) (by kernel_rfl) h1
  obtain ⟨a2, n2, c2, rfl⟩ := okWide_slice Ydcm.underlying22 (hval 2 22 v2 rfl rfl)
  have lt2 : ∀ x ∈ p2, x.block < W.heap.size := by obtain ⟨m, hm⟩ := h2; exact DataW.trod_lt m _ _ _ hm
  obtain ⟨z20, z21, s2, m2, w20, w21⟩ := rd2_of_trod Ydcm.underlying22 Ydcm.underlying59 (by kernel_rfl) rfl rfl rfl rfl Ydcm.underlying5 Ydcm.underlying5 (by kernel_rfl) (by kernel_rfl) h2
  clear hA0 hval0
  refine (walk W a0 w0 a1 n1 c1 z10 z11 s1 m1 w10 w11 a2 n2 c2 z20 z21 s2 m2 w20 w21).mono fun e W' ⟨he, bel⟩ => ?_
  subst he
  exact ⟨_, rfl, _, _, _, [], _, [], hW', trodAll_mk1 (shut_bool Ydcm.underlying4 _), (cons_mk (shut_int Ydcm.underlying5 w0) (cons_mk (Below.trod laidOut (by kernel_rfl) (of_decide_eq_true (by kernel_rfl)) h1 bel lt1) (cons_mk (Below.trod laidOut (by kernel_rfl) (of_decide_eq_true (by kernel_rfl)) h2 bel lt2) trodAll_mk0))), rfl, bel.frame _, fun h => by cases h⟩

theorem over : Rows.lawS930009IGrowRow.holds Ydcm.pinned (OpenSpec.ofChange Rows.lawS930009IGrowSpec) :=
  OpenClaim.holds_of_wide 3 Ydcm.f3 rfl rfl rfl rfl rfl rfl rfl ⟨rfl, rfl, rfl, rfl, rfl⟩ rfl rfl rfl rfl rfl (by kernel_rfl) Ydcm.func3 (by kernel_rfl)
    (of_decide_eq_true (by kernel_rfl)) (by unfold Func.isWrapper; first | (rw [if_pos (by decide +kernel)]; kernel_rfl) | (rw [if_neg (by decide +kernel)]; exact ⟨rfl, rfl⟩))
    (fun os started H enc _ => lifted os started H enc)

theorem proved : Rows.LawS930009IGrowSaid := over
#print axioms proved
end Go.Proofs.Ymbrdc.lawS930009IGrow
