/-
  LawS930009IJoin.
-/
import Derived.Test.YmbrdcRefines
namespace Go.Proofs.Ymbrdc.lawS930009IJoin
open Go.ChangeShapes Go.WideShapes Go.ChangeAt Go.RowKit
set_option linter.unusedVariables false
set_option linter.unusedSimpArgs false

theorem told {e : Ending} {Q : Prop} (h : Tells e Q) (q : Q) : e = .returned (.bool true) := by
  obtain ⟨r, rfl, hr⟩ := h
  rw [hr.2 q]

set_option maxHeartbeats 8000000 in
set_option maxRecDepth 1000000 in
theorem walk (w : World) (a0 : Int) (w0 : (Lit.int .u8 a0).wf = true) (above : Bool) (a1 : Option Addr) (n1 c1 : Nat) (zA zB : Nat → Int) (s1 : Rd2 .u8 .u8 w a1 n1 zA zB) (m1 : n1 ≤ maxLen) (wA : ∀ i, i < n1 → (Lit.int .u8 (zA i)).wf = true) (wB : ∀ i, i < n1 → (Lit.int .u8 (zB i)).wf = true)
    (a2 : Option Addr) (n2 c2 : Nat) (yA yB : Nat → Int) (s2 : Rd2 .u8 .u8 w a2 n2 yA yB) (m2 : n2 ≤ maxLen) (vA : ∀ i, i < n2 → (Lit.int .u8 (yA i)).wf = true) (vB : ∀ i, i < n2 → (Lit.int .u8 (yB i)).wf = true)
    (a3 : Option Addr) (n3 c3 : Nat) (xA xB : Nat → Int) (s3 : Rd2 .u8 .u8 w a3 n3 xA xB) (m3 : n3 ≤ maxLen) (uA : ∀ i, i < n3 → (Lit.int .u8 (xA i)).wf = true) (uB : ∀ i, i < n3 → (Lit.int .u8 (xB i)).wf = true) :
    Calls Ydcm.prog 4 #[.int .u8 a0, .bool above, .slice a1 n1 c1, .slice a2 n2 c2, .slice a3 n3 c3] w fun e w' => e = .returned (.bool true) ∧ Below w.heap.size w w' := by
  unfold maxLen at m1 m2 m3
  have b0 := bd_u8 w0
  clear w0
  by_cases hlt : 1024 < n1
  · have hd : decide ((1024 : Int) < (n1 : Int)) = true := by simp; omega
    go_enter Ydcm.func4, Ydcm.ntmps4
    go_wp2_with fail
    go_ret
    exact ⟨rfl, Below.refl _ _⟩
  have hd : decide ((1024 : Int) < (n1 : Int)) = false := by simp; omega
  by_cases hlt2 : 1024 < n2
  · have hd2 : decide ((1024 : Int) < (n2 : Int)) = true := by simp; omega
    go_enter Ydcm.func4, Ydcm.ntmps4
    go_wp2_with fail
    go_ret
    exact ⟨rfl, Below.refl _ _⟩
  have hd2 : decide ((1024 : Int) < (n2 : Int)) = false := by simp; omega
  by_cases hlt3 : 1024 < n3
  · have hd3 : decide ((1024 : Int) < (n3 : Int)) = true := by simp; omega
    go_enter Ydcm.func4, Ydcm.ntmps4
    go_wp2_with fail
    go_ret
    exact ⟨rfl, Below.refl _ _⟩
  have hd3 : decide ((1024 : Int) < (n3 : Int)) = false := by simp; omega
  go_enter Ydcm.func4, Ydcm.ntmps4
  go_wp2_with fail
  obtain ⟨n, hn⟩ : ∃ n : Nat, a0 % 24 = n := Int.eq_ofNat_of_zero_le (by omega)
  rw [hn]
  have hn2 : n < 24 := by omega
  clear hn b0 hd hd2 hd3
  refine (new_yes n _ (by omega)).mono ?_
  rintro e wa ⟨b, bp, bs, rfl, hS, hb, hbp, hbs, hF⟩
  have t1 := hS.lt
  have t2 := hS.hp.lt
  have t3 := hS.hs.lt
  go_wp2_with fail
  refine (new_yes n _ (by omega)).mono ?_
  rintro e wb ⟨b', bp', bs', rfl, hS', hb', hbp', hbs', hF'⟩
  have t4 := hS'.lt
  have t5 := hS'.hp.lt
  have t6 := hS'.hs.lt
  replace hS : SetsN wb b bp bs n (fun x => x) (fun _ => 1) n := SetsAt.fr0 hS hF'
  replace hF := hF.trans hF'
  go_wp2_with fail
  refine (new_yes n _ (by omega)).mono ?_
  rintro e wc ⟨b'', bp'', bs'', rfl, hS'', hb'', hbp'', hbs'', hF''⟩
  replace hS : SetsN wc b bp bs n (fun x => x) (fun _ => 1) n := SetsAt.fr0 hS hF''
  replace hS' : SetsN wc b' bp' bs' n (fun x => x) (fun _ => 1) n := SetsAt.fr0 hS' hF''
  replace hS'' : SetsN wc b'' bp'' bs'' n (fun x => x) (fun _ => 1) n := hS''
  replace hF := hF.trans hF''
  clear hF' hF''
  have G0 : Gens n (rt n (fun x => x)) E00 := (Gens.id n).of_eq (fun _ _ h => h.elim) (fun x _ => rt_of_root n rfl)
  have K0 := inv_new n
  go_wp2_with fail
  refine (iplay_any b bp bs n n1 c1 _ _ _ a1 zA zB E00 _ (by omega) (by omega) (E00.lt n) hS K0 G0 (hF.rd20 s1) (rd2_apart s1 (by omega) (by omega) (by omega)) wA wB).mono ?_
  rintro e wd ⟨g1, p1, q1, d1, rfl, hT1, I1, G1, _, hFd⟩
  replace hS' := SetsAt.fr hS' hFd (by simp; omega) (by simp; omega) (by simp; omega)
  replace hS'' := SetsAt.fr hS'' hFd (by simp; omega) (by simp; omega) (by simp; omega)
  replace hF : Fr [] w wd := hF.trans' hFd (by intro x hx hl; simp at hx; omega)
  clear hFd
  go_wp2_with fail
  refine (iplay_any b' bp' bs' n n2 c2 _ _ _ a2 yA yB E00 _ (by omega) (by omega) (E00.lt n) hS' K0 G0 (hF.rd20 s2) (rd2_apart s2 (by omega) (by omega) (by omega)) vA vB).mono ?_
  rintro e we ⟨g2, p2, q2, d2, rfl, hT2, I2, G2, _, hFe⟩
  replace hT1 : SetsN we b bp bs n p1 q1 d1 := SetsAt.fr hT1 hFe (by simp; omega) (by simp; omega) (by simp; omega)
  replace hS'' := SetsAt.fr hS'' hFe (by simp; omega) (by simp; omega) (by simp; omega)
  replace hF : Fr [] w we := hF.trans' hFe (by intro x hx hl; simp at hx; omega)
  clear hFe
  go_wp2_with fail
  refine (iplay_any b'' bp'' bs'' n n3 c3 _ _ _ a3 xA xB E00 _ (by omega) (by omega) (E00.lt n) hS'' K0 G0 (hF.rd20 s3) (rd2_apart s3 (by omega) (by omega) (by omega)) uA uB).mono ?_
  rintro e wf ⟨g3, p3, q3, d3, rfl, hT3, I3, G3, _, hFf⟩
  replace hT1 : SetsN wf b bp bs n p1 q1 d1 := SetsAt.fr hT1 hFf (by simp; omega) (by simp; omega) (by simp; omega)
  replace hT2 : SetsN wf b' bp' bs' n p2 q2 d2 := SetsAt.fr hT2 hFf (by simp; omega) (by simp; omega) (by simp; omega)
  replace hF : Fr [] w wf := hF.trans' hFf (by intro x hx hl; simp at hx; omega)
  clear hFf
  go_upto_if 74 with fail
  go_cut [16] from 74 to 82 (fun v16 wr => v16 = .pointer (some ⟨b'', 0, none⟩) ∧ ∃ pu su cu, SetsN wr b'' bp'' bs'' n pu su cu ∧ Inv n pu su cu ∧ (above = true → Finer n (rt n p1) (rt n pu) ∧ Finer n (rt n p2) (rt n pu)) ∧ SetsN wr b bp bs n p1 q1 d1 ∧ SetsN wr b' bp' bs' n p2 q2 d2 ∧ Fr [] w wr)
  case first =>
    cases above
    · go_wp2_with fail
      go_meet
      case rel => exact ⟨rfl, p3, q3, d3, hT3, I3, fun h => (by cases h), hT1, hT2, hF⟩
    · go_wp2_with fail
      refine (iplay_any b'' bp'' bs'' n n2 c2 _ _ _ a2 yA yB _ _ (by omega) (by omega) (EU.lt (E00.lt n)) hT3 I3 G3 (hF.rd20 s2) (rd2_apart s2 (by omega) (by omega) (by omega)) vA vB).mono ?_
      rintro e wg ⟨g4, p4, q4, d4, rfl, hT4, I4, G4, _, hFg⟩
      replace hT1 : SetsN wg b bp bs n p1 q1 d1 := SetsAt.fr hT1 hFg (by simp; omega) (by simp; omega) (by simp; omega)
      replace hT2 : SetsN wg b' bp' bs' n p2 q2 d2 := SetsAt.fr hT2 hFg (by simp; omega) (by simp; omega) (by simp; omega)
      replace hF : Fr [] w wg := hF.trans' hFg (by intro x hx hl; simp at hx; omega)
      clear hFg
      go_wp2_with fail
      refine (iplay_any b'' bp'' bs'' n n1 c1 _ _ _ a1 zA zB _ _ (by omega) (by omega) (EU.lt (EU.lt (E00.lt n))) hT4 I4 G4 (hF.rd20 s1) (rd2_apart s1 (by omega) (by omega) (by omega)) wA wB).mono ?_
      rintro e wh ⟨g5, p5, q5, d5, rfl, hT5, I5, G5, _, hFh⟩
      replace hT1 : SetsN wh b bp bs n p1 q1 d1 := SetsAt.fr hT1 hFh (by simp; omega) (by simp; omega) (by simp; omega)
      replace hT2 : SetsN wh b' bp' bs' n p2 q2 d2 := SetsAt.fr hT2 hFh (by simp; omega) (by simp; omega) (by simp; omega)
      replace hF : Fr [] w wh := hF.trans' hFh (by intro x hx hl; simp at hx; omega)
      clear hFh
      have F1 : Finer n (rt n p1) (rt n p5) := (G1.finer (EU.lt (E00.lt n))).2 (fun a b hab => by
        rcases hab with h | h
        · exact h.elim
        · exact G5.mem a b (Or.inr h))
      have F2 : Finer n (rt n p2) (rt n p5) := (G2.finer (EU.lt (E00.lt n))).2 (fun a b hab => by
        rcases hab with h | h
        · exact h.elim
        · exact G5.mem a b (Or.inl (Or.inr h)))
      go_wp2_with fail
      go_meet
      case rel => exact ⟨rfl, p5, q5, d5, hT5, I5, fun _ => ⟨F1, F2⟩, hT1, hT2, hF⟩
  case rest =>
    clear hT1 hT2 hT3 hF G3 I3 hS hS' hS''
    obtain ⟨rfl, pu, su, cu, hU, Iu, hab, hT1, hT2, hF⟩ := hcut
    have Hab := hide hab
    clear hab
    go_wp2_with fail
    refine (join_yes b bp bs n b' bp' bs' _ _ _ _ _ _ _ (by omega) hT1 hT2 I1.lt I2.lt).mono ?_
    rintro e wi ⟨bj, bpj, bsj, pj, sj, cj, hJ⟩
    obtain rfl := hJ.ret
    have hTJ := hJ.sets
    have IJ := hJ.inv
    have HJ : Hid (∀ L : Nat → Nat, Finer n (rt n pj) L ↔ (Finer n (rt n p1) L ∧ Finer n (rt n p2) L)) := fun L =>
      (hJ.gens.finer (EJ.lt I1.lt I2.lt (Nat.le_refl _))).trans (EJ.finer I1.forest I2.forest)
    replace hT1 : SetsN wi b bp bs n p1 q1 d1 := SetsAt.fr0 hT1 hJ.fr
    replace hT2 : SetsN wi b' bp' bs' n p2 q2 d2 := SetsAt.fr0 hT2 hJ.fr
    replace hU : SetsN wi b'' bp'' bs'' n pu su cu := SetsAt.fr0 hU hJ.fr
    replace hF := hF.trans hJ.fr
    clear hJ
    have Rjj := hide ((HJ.out (rt n pj)).1 (fun _ _ _ _ h => h))
    clear G1 G2 s1 s2 s3 wA wB vA vB uA uB G0 K0 m1 m2 m3 hlt hlt2 hlt3
    go_wp2_with fail
    refine (refines_any b bp bs n bj bpj bsj n _ _ _ _ _ _ _ (by omega) hT1 hTJ I1 IJ).mono ?_
    rintro e wj ⟨ht, hFg⟩
    obtain rfl := told ht ⟨rfl, Rjj.out.1⟩
    replace hT1 : SetsN wj b bp bs n p1 q1 d1 := SetsAt.fr0 hT1 hFg
    replace hT2 : SetsN wj b' bp' bs' n p2 q2 d2 := SetsAt.fr0 hT2 hFg
    replace hU : SetsN wj b'' bp'' bs'' n pu su cu := SetsAt.fr0 hU hFg
    replace hTJ : SetsN wj bj bpj bsj n pj sj cj := SetsAt.fr0 hTJ hFg
    replace hF := hF.trans hFg
    clear ht hFg
    go_wp2_with fail
    refine (refines_any b' bp' bs' n bj bpj bsj n _ _ _ _ _ _ _ (by omega) hT2 hTJ I2 IJ).mono ?_
    rintro e wk ⟨ht, hFg⟩
    obtain rfl := told ht ⟨rfl, Rjj.out.2⟩
    replace hT1 : SetsN wk b bp bs n p1 q1 d1 := SetsAt.fr0 hT1 hFg
    replace hT2 : SetsN wk b' bp' bs' n p2 q2 d2 := SetsAt.fr0 hT2 hFg
    replace hU : SetsN wk b'' bp'' bs'' n pu su cu := SetsAt.fr0 hU hFg
    replace hTJ : SetsN wk bj bpj bsj n pj sj cj := SetsAt.fr0 hTJ hFg
    replace hF := hF.trans hFg
    clear ht hFg
    go_wp2_with fail
    refine (refines_any b bp bs n b'' bp'' bs'' n _ _ _ _ _ _ _ (by omega) hT1 hU I1 Iu).mono ?_
    rintro e wl ⟨⟨r1, rfl, hr1⟩, hFg⟩
    replace hT2 : SetsN wl b' bp' bs' n p2 q2 d2 := SetsAt.fr0 hT2 hFg
    replace hU : SetsN wl b'' bp'' bs'' n pu su cu := SetsAt.fr0 hU hFg
    replace hTJ : SetsN wl bj bpj bsj n pj sj cj := SetsAt.fr0 hTJ hFg
    replace hF := hF.trans hFg
    replace hr1 : r1 = true ↔ Finer n (rt n p1) (rt n pu) := hr1.trans ⟨fun h => h.2, fun h => ⟨rfl, h⟩⟩
    clear hFg
    cases r1
    · have N1 : Hid (¬ Finer n (rt n p1) (rt n pu)) := fun h => by have := hr1.2 h; cases this
      have hab : above = false := by
        cases above
        · rfl
        · exact absurd (Hab.out rfl).1 N1.out
      clear hr1
      subst hab
      clear Hab Rjj I1 I2 hT2 hT1
      go_upto_region 21 with fail
      try simp only [Bool.false_eq_true, if_false]
      go_upto_region 23 with fail
      try simp only [Bool.false_eq_true, if_false]
      go_wp2_with fail
      refine (refines_any bj bpj bsj n b'' bp'' bs'' n _ _ _ _ _ _ _ (by omega) hTJ hU IJ Iu).mono ?_
      rintro e wm ⟨⟨r3, rfl, hr3⟩, hFg⟩
      have hr3 : r3 = false := by
        cases r3
        · rfl
        · exact absurd ((HJ.out _).1 (hr3.1 rfl).2).1 N1.out
      subst hr3
      go_wp2_with fail
      go_ret
      exact ⟨by simp, (hF.trans hFg).below⟩
    · have F1 : Hid (Finer n (rt n p1) (rt n pu)) := hr1.1 rfl
      clear Rjj hr1
      go_wp2_with fail
      refine (refines_any b' bp' bs' n b'' bp'' bs'' n _ _ _ _ _ _ _ (by omega) hT2 hU I2 Iu).mono ?_
      rintro e wm ⟨⟨r2, rfl, hr2⟩, hFg⟩
      replace hU : SetsN wm b'' bp'' bs'' n pu su cu := SetsAt.fr0 hU hFg
      replace hTJ : SetsN wm bj bpj bsj n pj sj cj := SetsAt.fr0 hTJ hFg
      replace hF := hF.trans hFg
      replace hr2 : r2 = true ↔ Finer n (rt n p2) (rt n pu) := hr2.trans ⟨fun h => h.2, fun h => ⟨rfl, h⟩⟩
      clear hFg
      cases r2
      · have N2 : Hid (¬ Finer n (rt n p2) (rt n pu)) := fun h => by have := hr2.2 h; cases this
        have hab : above = false := by
          cases above
          · rfl
          · exact absurd (Hab.out rfl).2 N2.out
        clear hr2
        subst hab
        clear Hab I1 I2 hT2 hT1
        go_upto_region 21 with fail
        try simp only [Bool.false_eq_true, if_false, if_true, reduceIte]
        go_upto_region 23 with fail
        try simp only [Bool.false_eq_true, if_false, if_true, reduceIte]
        go_wp2_with fail
        refine (refines_any bj bpj bsj n b'' bp'' bs'' n _ _ _ _ _ _ _ (by omega) hTJ hU IJ Iu).mono ?_
        rintro e wn ⟨⟨r3, rfl, hr3⟩, hFg⟩
        have hr3 : r3 = false := by
          cases r3
          · rfl
          · exact absurd ((HJ.out _).1 (hr3.1 rfl).2).2 N2.out
        subst hr3
        go_wp2_with fail
        go_ret
        exact ⟨by simp, (hF.trans hFg).below⟩
      · have Rju := hide ((HJ.out (rt n pu)).2 ⟨F1.out, hr2.1 rfl⟩)
        clear Hab I1 I2 hT2 hT1 F1 hr2 HJ
        cases above
        · go_upto_region 21 with fail
          try simp only [Bool.false_eq_true, if_false, if_true, reduceIte]
          go_upto_region 23 with fail
          try simp only [Bool.false_eq_true, if_false, if_true, reduceIte]
          go_wp2_with fail
          refine (refines_any bj bpj bsj n b'' bp'' bs'' n _ _ _ _ _ _ _ (by omega) hTJ hU IJ Iu).mono ?_
          rintro e wn ⟨ht, hFg⟩
          obtain rfl := told ht ⟨rfl, Rju.out⟩
          go_wp2_with fail
          go_ret
          exact ⟨by simp, (hF.trans hFg).below⟩
        · go_upto_region 21 with fail
          try simp only [Bool.false_eq_true, if_false, if_true, reduceIte]
          go_upto_region 23 with fail
          try simp only [Bool.false_eq_true, if_false, if_true, reduceIte]
          go_wp2_with fail
          refine (refines_any bj bpj bsj n b'' bp'' bs'' n _ _ _ _ _ _ _ (by omega) hTJ hU IJ Iu).mono ?_
          rintro e wn ⟨ht, hFg⟩
          obtain rfl := told ht ⟨rfl, Rju.out⟩
          go_wp2_with fail
          go_ret
          exact ⟨by simp, (hF.trans hFg).below⟩

theorem own : ownKnob Ydcm.prog.godebug = none := by kernel_rfl
theorem laidOut : laidOutB Ydcm.prog = true := by kernel_rfl
set_option maxRecDepth 100000 in
theorem lifted (os : Os) (started : os.Started) (H : Type) (enc : TypeId × Value → H) :
    ReturnsInHanded {} Ydcm.checked os 4 .any (Rows.lawS930009IJoinSpec.pre6 enc Ydcm.prog Ydcm.f4 Rows.lawS930009IJoinRow.domain false) (Rows.lawS930009IJoinSpec.post enc Ydcm.prog Ydcm.f4 false true false false) := by
  refine returnsInHanded_of_change (C := Ydcm.checked) own started (by kernel_rfl) Ydcm.func4
    (ChangeSpec.witness6 (enc := enc) (C := Ydcm.checked) false ⟨#[], #[.int .u8 0, .bool false, .slice none 0 0, .slice none 0 0, .slice none 0 0], []⟩ 8 (by kernel_rfl) (by kernel_rfl) (by kernel_rfl) (by kernel_rfl)) ?_
  intro W base args ds gs before hval0 hW hcnd _
  have hval : ∀ (j : Nat) t v, Ydcm.f4.params[j]? = some t → args[j]? = some v → Value.okWide Ydcm.prog W .any base t v := hval0
  have hW' := hW
  obtain ⟨p, q, hA0, hV, rfl, hfz, hnd⟩ := hW
  have hA : DataW.TrodAll enc Ydcm.prog W 0 (fun _ => true) true Ydcm.f4.params.toList args.toList ds p := hA0
  rw [Ydcm.params4] at hA hval
  obtain ⟨v0, vs0, d0, ds0, p0, q0, hargs, rfl, rfl, h0, r0⟩ := trodAll_cons hA
  obtain ⟨v1, vs1, d1, ds1, p1, q1, rfl, rfl, rfl, h1, r1⟩ := trodAll_cons r0
  obtain ⟨v2, vs2, d2, ds2, p2, q2, rfl, rfl, rfl, h2, r2⟩ := trodAll_cons r1
  obtain ⟨v3, vs3, d3, ds3, p3, q3, rfl, rfl, rfl, h3, r3⟩ := trodAll_cons r2
  obtain ⟨v4, vs4, d4, ds4, p4, q4, rfl, rfl, rfl, h4, r4⟩ := trodAll_cons r3
  obtain ⟨rfl, rfl, rfl⟩ := trodAll_nil r4
  obtain rfl : args = #[v0, v1, v2, v3, v4] := by cases args; simp_all
  obtain ⟨rfl, rfl⟩ := trodVars_none hV
  obtain ⟨a0, rfl, rfl, rfl, w0⟩ := open_int Ydcm.underlying5 (hval 0 5 v0 rfl rfl) h0
  obtain ⟨a1, rfl, rfl, rfl⟩ := open_bool Ydcm.underlying4 (hval 1 4 v1 rfl rfl) h1
  obtain ⟨a2, n2, c2, rfl⟩ := okWide_slice Ydcm.underlying22 (hval 2 22 v2 rfl rfl)
  have lt2 : ∀ x ∈ p2, x.block < W.heap.size := by obtain ⟨m, hm⟩ := h2; exact DataW.trod_lt m _ _ _ hm
  obtain ⟨z20, z21, s2, m2, w20, w21⟩ := rd2_of_trod Ydcm.underlying22 Ydcm.underlying59 (by kernel_rfl) rfl rfl rfl rfl Ydcm.underlying5 Ydcm.underlying5 (by kernel_rfl) (by kernel_rfl) h2
  obtain ⟨a3, n3, c3, rfl⟩ := okWide_slice Ydcm.underlying22 (hval 3 22 v3 rfl rfl)
  have lt3 : ∀ x ∈ p3, x.block < W.heap.size := by obtain ⟨m, hm⟩ := h3; exact DataW.trod_lt m _ _ _ hm
  obtain ⟨z30, z31, s3, m3, w30, w31⟩ := rd2_of_trod Ydcm.underlying22 Ydcm.underlying59 (by kernel_rfl) rfl rfl rfl rfl Ydcm.underlying5 Ydcm.underlying5 (by kernel_rfl) (by kernel_rfl) h3
  obtain ⟨a4, n4, c4, rfl⟩ := okWide_slice Ydcm.underlying22 (hval 4 22 v4 rfl rfl)
  have lt4 : ∀ x ∈ p4, x.block < W.heap.size := by obtain ⟨m, hm⟩ := h4; exact DataW.trod_lt m _ _ _ hm
  obtain ⟨z40, z41, s4, m4, w40, w41⟩ := rd2_of_trod Ydcm.underlying22 Ydcm.underlying59 (by kernel_rfl) rfl rfl rfl rfl Ydcm.underlying5 Ydcm.underlying5 (by kernel_rfl) (by kernel_rfl) h4
  clear hA0 hval0
  refine (walk W a0 w0 a1 a2 n2 c2 z20 z21 s2 m2 w20 w21 a3 n3 c3 z30 z31 s3 m3 w30 w31 a4 n4 c4 z40 z41 s4 m4 w40 w41).mono fun e W' ⟨he, bel⟩ => ?_
  subst he
  exact ⟨_, rfl, _, _, _, [], _, [], hW', trodAll_mk1 (shut_bool Ydcm.underlying4 _), (cons_mk (shut_int Ydcm.underlying5 w0) (cons_mk (shut_bool Ydcm.underlying4 a1) (cons_mk (Below.trod laidOut (by kernel_rfl) (of_decide_eq_true (by kernel_rfl)) h2 bel lt2) (cons_mk (Below.trod laidOut (by kernel_rfl) (of_decide_eq_true (by kernel_rfl)) h3 bel lt3) (cons_mk (Below.trod laidOut (by kernel_rfl) (of_decide_eq_true (by kernel_rfl)) h4 bel lt4) trodAll_mk0))))), rfl, bel.frame _, fun h => by cases h⟩

theorem over : Rows.lawS930009IJoinRow.holds Ydcm.pinned (OpenSpec.ofChange Rows.lawS930009IJoinSpec) :=
  OpenClaim.holds_of_wide 4 Ydcm.f4 rfl rfl rfl rfl rfl rfl rfl ⟨rfl, rfl, rfl, rfl, rfl⟩ rfl rfl rfl rfl rfl (by kernel_rfl) Ydcm.func4 (by kernel_rfl)
    (of_decide_eq_true (by kernel_rfl)) (by unfold Func.isWrapper; first | (rw [if_pos (by decide +kernel)]; kernel_rfl) | (rw [if_neg (by decide +kernel)]; exact ⟨rfl, rfl⟩))
    (fun os started H enc _ => lifted os started H enc)

theorem proved : Rows.LawS930009IJoinSaid := over
#print axioms proved
end Go.Proofs.Ymbrdc.lawS930009IJoin
