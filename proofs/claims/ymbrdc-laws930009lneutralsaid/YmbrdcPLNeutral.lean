/-
  LawS930009LNeutral.
-/
import Derived.Test.YmbrdcLplain
namespace Go.Proofs.Ymbrdc.lawS930009LNeutral
open Go.ChangeShapes Go.WideShapes Go.ChangeAt Go.RowKit
set_option linter.unusedVariables false
set_option linter.unusedSimpArgs false

set_option maxHeartbeats 8000000 in
set_option maxRecDepth 1000000 in
theorem walk (w : World) (a0 : Int) (w0 : (Lit.int .u16 a0).wf = true) (a1 : Option Addr) (n1 c1 : Nat) (zA zB : Nat → Int) (s1 : Rd2 .u16 .u16 w a1 n1 zA zB) (m1 : n1 ≤ maxLen) (wA : ∀ i, i < n1 → (Lit.int .u16 (zA i)).wf = true) (wB : ∀ i, i < n1 → (Lit.int .u16 (zB i)).wf = true) :
    Calls Ydcm.prog 13 #[.int .u16 a0, .slice a1 n1 c1] w fun e w' => e = .returned (.bool true) ∧ Below w.heap.size w w' := by
  unfold maxLen at m1
  have b0 := bd_u16 w0
  clear w0
  by_cases hlt : 1024 < n1
  · have hd : decide ((1024 : Int) < (n1 : Int)) = true := by simp; omega
    go_enter Ydcm.func13, Ydcm.ntmps13
    go_wp2_with fail
    go_ret
    exact ⟨rfl, Below.refl _ _⟩
  have hd : decide ((1024 : Int) < (n1 : Int)) = false := by simp; omega
  go_enter Ydcm.func13, Ydcm.ntmps13
  go_wp2_with fail
  obtain ⟨n, hn⟩ : ∃ n : Nat, a0 % 301 = n := Int.eq_ofNat_of_zero_le (by omega)
  rw [hn]
  have hn2 : n < 301 := by omega
  clear hn b0 hd
  refine (lbuild_any n n1 c1 a1 zA zB _ (by omega) (by omega) s1 wA wB).mono ?_
  rintro e wa ⟨b, bp, bs, p, s, c, h⟩
  obtain rfl := h.ret
  have hS := h.sets
  have I := h.inv
  have G1 := hide h.gens
  have hF := h.fr
  clear h
  go_wp2_with fail
  refine (new_yes n _ (by omega)).mono ?_
  rintro e wb ⟨b', bp', bs', rfl, hT, _, _, _, hG⟩
  replace hT : SetsN wb b' bp' bs' n (fun x => x) (fun _ => 1) n := hT
  have J := inv_new n
  replace hS : SetsN wb b bp bs n p s c := SetsAt.fr0 hS hG
  replace hF := hF.trans hG
  have l1 := SetsAt.lt hS
  have l2 := hS.hp.lt
  have l3 := hS.hs.lt
  have l4 := SetsAt.lt hT
  have l5 := hT.hp.lt
  have l6 := hT.hs.lt
  clear hG
  go_wp2_with fail
  refine (lident_any n _ (by omega)).mono ?_
  rintro e wk ⟨B, rfl, hR, hB, hG⟩
  replace hS : SetsN wk b bp bs n p s c := SetsAt.fr0 hS hG
  replace hT : SetsN wk b' bp' bs' n (fun x => x) (fun _ => 1) n := SetsAt.fr0 hT hG
  have hsz := hF.size
  replace hF := hF.trans hG
  clear hG
  go_wp2_with fail
  refine (lmerge_any n n1 c1 B a1 zA zB (fun i => i) E00 _ (by omega) (by omega) (E00.lt n) hR (can_id n) (Gens.id n) (hF.rd20 s1) (fun h x hx => (rd2_apart s1 (b := B) (bp := B) (bs := B) (by omega) (by omega) (by omega) h x hx).1) wA wB).mono ?_
  rintro e wl ⟨L, hM⟩
  obtain rfl := hM.ret
  replace hR := hM.row
  have C1 := hide hM.can
  have HK := hide (fun M => (G1.out.finer (L := M) (EU.lt (E00.lt n))).trans (hM.gens.finer (L := M) (EU.lt (E00.lt n))).symm)
  replace hS : SetsN wl b bp bs n p s c := SetsAt.fr hS hM.fr (by simp; omega) (by simp; omega) (by simp; omega)
  replace hT : SetsN wl b' bp' bs' n (fun x => x) (fun _ => 1) n := SetsAt.fr hT hM.fr (by simp; omega) (by simp; omega) (by simp; omega)
  replace hF : Fr [] w wl := hF.trans' hM.fr (by intro x hx hl; simp at hx; omega)
  clear hM G1
  have Hall : Hid (∀ R : Nat → Nat, (∀ M, Finer n R M ↔ Finer n (rt n p) M) → ∀ i, i < n → L i = lab R i) := fun R h i hi =>
    can_lab C1.out (finer_ext (fun M => (h M).trans (HK.out M))) i hi
  clear HK C1 s1 wA wB
  go_wp2_with fail
  refine (join_yes b bp bs n b bp bs _ _ _ _ _ _ _ (by omega) hS hS I.lt I.lt).mono ?_
  rintro e w1 ⟨bx, bpx, bsx, px, sx, cx, hJ⟩
  obtain rfl := hJ.ret
  have hX : SetsN w1 bx bpx bsx n px sx cx := hJ.sets
  have IX := hJ.inv
  have LX := hide (Hall.out (rt n px) (fun M => (join_finer I I hJ.gens M).trans ⟨fun h => h.1, fun h => ⟨h, h⟩⟩))
  replace hS : SetsN w1 b bp bs n p s c := SetsAt.fr0 hS hJ.fr
  replace hT : SetsN w1 b' bp' bs' n (fun x => x) (fun _ => 1) n := SetsAt.fr0 hT hJ.fr
  replace hR := hJ.fr.aRow hR (by simp)
  replace hF := hF.trans hJ.fr
  clear hJ
  go_wp2_with fail
  refine (join_yes b bp bs n b' bp' bs' _ _ _ _ _ _ _ (by omega) hS hT I.lt J.lt).mono ?_
  rintro e w2 ⟨by', bpy, bsy, py, sy, cy, hJ⟩
  obtain rfl := hJ.ret
  have hY : SetsN w2 by' bpy bsy n py sy cy := hJ.sets
  have IY := hJ.inv
  have LY := hide (Hall.out (rt n py) (fun M => (join_finer I J hJ.gens M).trans ⟨fun h => h.1, fun h => ⟨h, finer_id M⟩⟩))
  replace hS : SetsN w2 b bp bs n p s c := SetsAt.fr0 hS hJ.fr
  replace hT : SetsN w2 b' bp' bs' n (fun x => x) (fun _ => 1) n := SetsAt.fr0 hT hJ.fr
  replace hX : SetsN w2 bx bpx bsx n px sx cx := SetsAt.fr0 hX hJ.fr
  replace hR := hJ.fr.aRow hR (by simp)
  replace hF := hF.trans hJ.fr
  clear hJ
  go_wp2_with fail
  refine (join_yes b' bp' bs' n b bp bs _ _ _ _ _ _ _ (by omega) hT hS J.lt I.lt).mono ?_
  rintro e w3 ⟨bz, bpz, bsz, pz, sz, cz, hJ⟩
  obtain rfl := hJ.ret
  have hZ : SetsN w3 bz bpz bsz n pz sz cz := hJ.sets
  have IZ := hJ.inv
  have LZ := hide (Hall.out (rt n pz) (fun M => (join_finer J I hJ.gens M).trans ⟨fun h => h.2, fun h => ⟨finer_id M, h⟩⟩))
  replace hX : SetsN w3 bx bpx bsx n px sx cx := SetsAt.fr0 hX hJ.fr
  replace hY : SetsN w3 by' bpy bsy n py sy cy := SetsAt.fr0 hY hJ.fr
  replace hR := hJ.fr.aRow hR (by simp)
  replace hF := hF.trans hJ.fr
  clear hJ hS hT I J Hall
  go_wp2_with fail
  refine (lmatches_yes bx bpx bsx n _ px sx cx _ L _ (by omega) hX IX hR.rd LX.out).mono ?_
  rintro e w4 ⟨rfl, hG⟩
  replace hY : SetsN w4 by' bpy bsy n py sy cy := SetsAt.fr0 hY hG
  replace hZ : SetsN w4 bz bpz bsz n pz sz cz := SetsAt.fr0 hZ hG
  replace hR := hG.aRow hR (by simp)
  replace hF := hF.trans hG
  clear hG hX IX LX
  go_wp2_with fail
  refine (lmatches_yes by' bpy bsy n _ py sy cy _ L _ (by omega) hY IY hR.rd LY.out).mono ?_
  rintro e w5 ⟨rfl, hG⟩
  replace hZ : SetsN w5 bz bpz bsz n pz sz cz := SetsAt.fr0 hZ hG
  replace hR := hG.aRow hR (by simp)
  replace hF := hF.trans hG
  clear hG hY IY LY
  go_wp2_with fail
  refine (lmatches_yes bz bpz bsz n _ pz sz cz _ L _ (by omega) hZ IZ hR.rd LZ.out).mono ?_
  rintro e w6 ⟨rfl, hG⟩
  go_wp2_with fail
  go_ret
  exact ⟨rfl, (hF.trans hG).below⟩

theorem own : ownKnob Ydcm.prog.godebug = none := by kernel_rfl
theorem laidOut : laidOutB Ydcm.prog = true := by kernel_rfl
set_option maxRecDepth 100000 in
theorem lifted (os : Os) (started : os.Started) (H : Type) (enc : TypeId × Value → H) :
    ReturnsInHanded {} Ydcm.checked os 13 .any (Rows.lawS930009LNeutralSpec.pre6 enc Ydcm.prog Ydcm.f13 Rows.lawS930009LNeutralRow.domain false) (Rows.lawS930009LNeutralSpec.post enc Ydcm.prog Ydcm.f13 false true false false) := by
  refine returnsInHanded_of_change (C := Ydcm.checked) own started (by kernel_rfl) Ydcm.func13
    (ChangeSpec.witness6 (enc := enc) (C := Ydcm.checked) false ⟨#[], #[.int .u16 0, .slice none 0 0], []⟩ 8 (by kernel_rfl) (by kernel_rfl) (by kernel_rfl) (by kernel_rfl)) ?_
  intro W base args ds gs before hval0 hW hcnd _
  have hval : ∀ (j : Nat) t v, Ydcm.f13.params[j]? = some t → args[j]? = some v → Value.okWide Ydcm.prog W .any base t v := hval0
  have hW' := hW
  obtain ⟨p, q, hA0, hV, rfl, hfz, hnd⟩ := hW
  have hA : DataW.TrodAll enc Ydcm.prog W 0 (fun _ => true) true Ydcm.f13.params.toList args.toList ds p := hA0
  rw [Ydcm.params13] at hA hval
  obtain ⟨v0, vs0, d0, ds0, p0, q0, hargs, rfl, rfl, h0, r0⟩ := trodAll_cons hA
  obtain ⟨v1, vs1, d1, ds1, p1, q1, rfl, rfl, rfl, h1, r1⟩ := trodAll_cons r0
  obtain ⟨rfl, rfl, rfl⟩ := trodAll_nil r1
  obtain rfl : args = #[v0, v1] := by cases args; simp_all
  obtain ⟨rfl, rfl⟩ := trodVars_none hV
  obtain ⟨a0, rfl, rfl, rfl, w0⟩ := open_int Ydcm.underlying50 (hval 0 50 v0 rfl rfl) h0
  obtain ⟨a1, n1, c1, rfl⟩ := okWide_slice Ydcm.underlying51 (hval 1 51 v1 rfl rfl)
  have lt1 : ∀ x ∈ p1, x.block < W.heap.size := by obtain ⟨m, hm⟩ := h1; exact DataW.trod_lt m _ _ _ hm
  obtain ⟨z10, z11, s1, m1, w10, w11⟩ := rd2_of_trod Ydcm.underlying51 Ydcm.underlying64 (by kernel_rfl) rfl rfl rfl rfl Ydcm.underlying50 Ydcm.underlying50 (by kernel_rfl) (by kernel_rfl) h1
  clear hA0 hval0
  refine (walk W a0 w0 a1 n1 c1 z10 z11 s1 m1 w10 w11).mono fun e W' ⟨he, bel⟩ => ?_
  subst he
  exact ⟨_, rfl, _, _, _, [], _, [], hW', trodAll_mk1 (shut_bool Ydcm.underlying4 _), (cons_mk (shut_int Ydcm.underlying50 w0) (cons_mk (Below.trod laidOut (by kernel_rfl) (of_decide_eq_true (by kernel_rfl)) h1 bel lt1) trodAll_mk0)), rfl, bel.frame _, fun h => by cases h⟩

theorem over : Rows.lawS930009LNeutralRow.holds Ydcm.pinned (OpenSpec.ofChange Rows.lawS930009LNeutralSpec) :=
  OpenClaim.holds_of_wide 13 Ydcm.f13 rfl rfl rfl rfl rfl rfl rfl ⟨rfl, rfl, rfl, rfl, rfl⟩ rfl rfl rfl rfl rfl (by kernel_rfl) Ydcm.func13 (by kernel_rfl)
    (of_decide_eq_true (by kernel_rfl)) (by unfold Func.isWrapper; first | (rw [if_pos (by decide +kernel)]; kernel_rfl) | (rw [if_neg (by decide +kernel)]; exact ⟨rfl, rfl⟩))
    (fun os started H enc _ => lifted os started H enc)

theorem proved : Rows.LawS930009LNeutralSaid := over
#print axioms proved
end Go.Proofs.Ymbrdc.lawS930009LNeutral
