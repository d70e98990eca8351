/-
  LawS930009LApart.
-/
import Derived.Test.YmbrdcLbuild
import Derived.Test.YmbrdcRefines
namespace Go.Proofs.Ymbrdc.lawS930009LApart
open Go.ChangeShapes Go.WideShapes Go.ChangeAt Go.RowKit
set_option linter.unusedVariables false
set_option linter.unusedSimpArgs false

theorem told {e : Ending} {Q : Prop} (h : Tells e Q) (q : Q) : e = .returned (.bool true) := by
  obtain ⟨r, rfl, hr⟩ := h
  rw [hr.2 q]

set_option maxHeartbeats 8000000 in
set_option maxRecDepth 1000000 in
theorem walk (w : World) (a0 : Int) (w0 : (Lit.int .u16 a0).wf = true) (a1 : Int) (w1 : (Lit.int .u16 a1).wf = true) (same : Bool) (a3 : Option Addr) (n3 c3 : Nat) (zA zB : Nat → Int) (s3 : Rd2 .u16 .u16 w a3 n3 zA zB) (m3 : n3 ≤ maxLen) (wA : ∀ i, i < n3 → (Lit.int .u16 (zA i)).wf = true) (wB : ∀ i, i < n3 → (Lit.int .u16 (zB i)).wf = true)
    (a4 : Option Addr) (n4 c4 : Nat) (yA yB : Nat → Int) (s4 : Rd2 .u16 .u16 w a4 n4 yA yB) (m4 : n4 ≤ maxLen) (vA : ∀ i, i < n4 → (Lit.int .u16 (yA i)).wf = true) (vB : ∀ i, i < n4 → (Lit.int .u16 (yB i)).wf = true) :
    Calls Ydcm.prog 12 #[.int .u16 a0, .int .u16 a1, .bool same, .slice a3 n3 c3, .slice a4 n4 c4] w fun e w' => e = .returned (.bool true) ∧ Below w.heap.size w w' := by
  unfold maxLen at m3 m4
  have b0 := bd_u16 w0
  have b1 := bd_u16 w1
  clear w0 w1
  by_cases hlt : 1024 < n3
  · have hd : decide ((1024 : Int) < (n3 : Int)) = true := by simp; omega
    go_enter Ydcm.func12, Ydcm.ntmps12
    go_wp2_with fail
    go_ret
    exact ⟨rfl, Below.refl _ _⟩
  have hd : decide ((1024 : Int) < (n3 : Int)) = false := by simp; omega
  by_cases hlt2 : 1024 < n4
  · have hd2 : decide ((1024 : Int) < (n4 : Int)) = true := by simp; omega
    go_enter Ydcm.func12, Ydcm.ntmps12
    go_wp2_with fail
    go_ret
    exact ⟨rfl, Below.refl _ _⟩
  have hd2 : decide ((1024 : Int) < (n4 : Int)) = false := by simp; omega
  go_enter Ydcm.func12, Ydcm.ntmps12
  go_upto_if 39 with fail
  obtain ⟨n, hn⟩ : ∃ n : Nat, a0 % 301 = n := Int.eq_ofNat_of_zero_le (by omega)
  obtain ⟨m, hm⟩ : ∃ m : Nat, a1 % 301 = m := Int.eq_ofNat_of_zero_le (by omega)
  rw [hn, hm]
  have hn2 : n < 301 := by omega
  have hm2 : m < 301 := by omega
  clear hn hm b0 b1 hd hd2
  go_cut [12] from 39 to 40 (fun v12 wr => ∃ M : Nat, M < 301 ∧ v12 = .int .i64 M ∧ w = wr)
  case first =>
    cases same
    · go_wp2_with fail
      go_meet
      case rel => exact ⟨m, hm2, rfl, rfl⟩
    · go_wp2_with fail
      go_meet
      case rel => exact ⟨n, hn2, rfl, rfl⟩
  case rest =>
    clear hm2
    obtain ⟨M, hm2, rfl, rfl⟩ := hcut
    go_wp2_with fail
    refine (lbuild_any n n3 c3 a3 zA zB _ (by omega) (by omega) s3 wA wB).mono ?_
    rintro e wa ⟨b, bp, bs, p, s, c, h⟩
    obtain rfl := h.ret
    have hS := h.sets
    have I := h.inv
    have hF := h.fr
    clear h wA wB
    go_wp2_with fail
    refine (lbuild_any M n4 c4 a4 yA yB _ (by omega) (by omega) (hF.rd20 s4) vA vB).mono ?_
    rintro e wb ⟨b', bp', bs', q, t, d, h⟩
    obtain rfl := h.ret
    have hT := h.sets
    have J := h.inv
    replace hS : SetsN wb b bp bs n p s c := SetsAt.fr0 hS h.fr
    replace hF := hF.trans h.fr
    clear h vA vB s3 s4
    have c0 := SetsAt.c0 hS
    have c1 := SetsAt.c1 hS
    have c2 := SetsAt.c2 hS
    have d0 := SetsAt.c0 hT
    have d1 := SetsAt.c1 hT
    have d2 := SetsAt.c2 hT
    go_wp2_with fail
    refine (lcopy_any _ n n (fun i => (p i : Int)) _ (by omega) hS.hp.rd).mono ?_
    rintro e wc0 ⟨bo1, rfl, R0, _, hG⟩
    clear c0 c1 c2 d0 d1 d2
    replace hS : SetsN wc0 b bp bs n p s c := SetsAt.fr0 hS hG
    replace hT : SetsN wc0 b' bp' bs' M q t d := SetsAt.fr0 hT hG
    replace hF := hF.trans hG
    clear hG
    have c0 := SetsAt.c0 hS
    have c1 := SetsAt.c1 hS
    have c2 := SetsAt.c2 hS
    have d0 := SetsAt.c0 hT
    have d1 := SetsAt.c1 hT
    have d2 := SetsAt.c2 hT
    go_wp2_with fail
    refine (lcopy_any _ n n (fun i => (s i : Int)) _ (by omega) hS.hs.rd).mono ?_
    rintro e wc1 ⟨bo2, rfl, R1, _, hG⟩
    clear c0 c1 c2 d0 d1 d2
    replace hS : SetsN wc1 b bp bs n p s c := SetsAt.fr0 hS hG
    replace hT : SetsN wc1 b' bp' bs' M q t d := SetsAt.fr0 hT hG
    replace R0 := hG.aRow R0 (by simp)
    replace hF := hF.trans hG
    clear hG
    have c0 := SetsAt.c0 hS
    have c1 := SetsAt.c1 hS
    have c2 := SetsAt.c2 hS
    have d0 := SetsAt.c0 hT
    have d1 := SetsAt.c1 hT
    have d2 := SetsAt.c2 hT
    go_wp2_with fail
    refine (lcopy_any _ M M (fun i => (q i : Int)) _ (by omega) hT.hp.rd).mono ?_
    rintro e wc2 ⟨bo3, rfl, R2, _, hG⟩
    clear c0 c1 c2 d0 d1 d2
    replace hS : SetsN wc2 b bp bs n p s c := SetsAt.fr0 hS hG
    replace hT : SetsN wc2 b' bp' bs' M q t d := SetsAt.fr0 hT hG
    replace R0 := hG.aRow R0 (by simp)
    replace R1 := hG.aRow R1 (by simp)
    replace hF := hF.trans hG
    clear hG
    have c0 := SetsAt.c0 hS
    have c1 := SetsAt.c1 hS
    have c2 := SetsAt.c2 hS
    have d0 := SetsAt.c0 hT
    have d1 := SetsAt.c1 hT
    have d2 := SetsAt.c2 hT
    go_wp2_with fail
    refine (lcopy_any _ M M (fun i => (t i : Int)) _ (by omega) hT.hs.rd).mono ?_
    rintro e wc3 ⟨bo4, rfl, R3, _, hG⟩
    clear c0 c1 c2 d0 d1 d2
    replace hS : SetsN wc3 b bp bs n p s c := SetsAt.fr0 hS hG
    replace hT : SetsN wc3 b' bp' bs' M q t d := SetsAt.fr0 hT hG
    replace R0 := hG.aRow R0 (by simp)
    replace R1 := hG.aRow R1 (by simp)
    replace R2 := hG.aRow R2 (by simp)
    replace hF := hF.trans hG
    clear hG
    have c0 := SetsAt.c0 hS
    have c1 := SetsAt.c1 hS
    have c2 := SetsAt.c2 hS
    have d0 := SetsAt.c0 hT
    have d1 := SetsAt.c1 hT
    have d2 := SetsAt.c2 hT
    by_cases hnm : n = M
    · subst hnm
      have ee := beq_self (n : Int)
      go_wp2_with fail
      refine (join_yes b bp bs n b' bp' bs' _ _ _ _ _ _ _ (by omega) hS hT I.lt J.lt).mono ?_
      rintro e wj ⟨bj, bpj, bsj, pj, sj, cj, hJ⟩
      obtain rfl := hJ.ret
      clear c0 c1 c2 d0 d1 d2
      have hO : SetsAt wj bj bpj bsj n (fun i => (pj i : Int)) (fun i => (sj i : Int)) cj := hJ.sets
      have lb := hJ.lb
      have lp := hJ.lp
      have ls := hJ.ls
      have hW := hJ.fr
      clear hJ
      go_wp2_with fail
      go_loopw [23] (fun v wr => ∃ (k : Nat) (P : Nat → Int), k ≤ n ∧ v = .int .i64 k ∧ SetsAt wr bj bpj bsj n P (fun i => (sj i : Int)) cj ∧ Fr [] wc3 wr) (fun v _ => n - (intOf v).toNat)
      case atStart => exact ⟨0, _, Nat.zero_le _, rfl, hO, hW⟩
      case round =>
        clear hO hW
        obtain ⟨k, P, hk, rfl, hO, hW⟩ := hrel
        have o0 := hO.c0
        by_cases hltk : k < n
        · have ck := hO.hp.cell k hltk
          have fk := hO.hp.frozen k
          go_wp2_with fail
          go_roundw
          case rel => exact ⟨k + 1, _, by omega, by go_num, hO.setP _ _, hW.setCell _ (.inr lp) _⟩
          case measure => simp [intOf] <;> omega
        · go_wp2_with fail
          clear o0
          go_loopw [24] (fun v wr => ∃ (k : Nat) (S : Nat → Int), k ≤ n ∧ v = .int .i64 k ∧ SetsAt wr bj bpj bsj n P S cj ∧ Fr [] wc3 wr) (fun v _ => n - (intOf v).toNat)
          case atStart => exact ⟨0, _, Nat.zero_le _, rfl, hO, hW⟩
          case round =>
            clear hO hW
            obtain ⟨j, S, hj, rfl, hO, hW⟩ := hrel
            have o1 := hO.c1
            by_cases hltj : j < n
            · have cj2 := hO.hs.cell j hltj
              have fj := hO.hs.frozen j
              go_wp2_with fail
              go_roundw
              case rel => exact ⟨j + 1, _, by omega, by go_num, hO.setS _ _, hW.setCell _ (.inr ls) _⟩
              case measure => simp [intOf] <;> omega
            · have o2 := hO.c2
              have fo := hO.frozen 2
              go_upto_region 28 with fail
              replace hW := hW.setCell ⟨bj, 2, none⟩ (.inr lb) (.int .i64 (-1))
              clear hO o1 o2 fo
              generalize wr.setCell ⟨bj, 2, none⟩ (.int .i64 (-1)) = wz at *
              replace hS : SetsN wz b bp bs n p s c := SetsAt.fr0 hS hW
              replace hT : SetsN wz b' bp' bs' n q t d := SetsAt.fr0 hT hW
              replace R0 := hW.aRow R0 (by simp)
              replace R1 := hW.aRow R1 (by simp)
              replace R2 := hW.aRow R2 (by simp)
              replace R3 := hW.aRow R3 (by simp)
              replace hF := hF.trans hW
              clear hW
              have c0 := SetsAt.c0 hS
              have c1 := SetsAt.c1 hS
              have c2 := SetsAt.c2 hS
              have d0 := SetsAt.c0 hT
              have d1 := SetsAt.c1 hT
              have d2 := SetsAt.c2 hT
              have eC := beq_self (c : Int)
              have eD := beq_self (d : Int)
              go_wp2_with fail
              refine (leq_any _ _ n n n n (fun i => (p i : Int)) (fun i => (p i : Int)) _ (by omega) (by omega) hS.hp.rd R0.rd).mono ?_
              rintro e we0 ⟨ht, hG⟩
              obtain rfl := told ht ⟨rfl, fun _ _ => rfl⟩
              clear ht c0 c1 c2 d0 d1 d2
              replace hS : SetsN we0 b bp bs n p s c := SetsAt.fr0 hS hG
              replace hT : SetsN we0 b' bp' bs' n q t d := SetsAt.fr0 hT hG
              replace R0 := hG.aRow R0 (by simp)
              replace R1 := hG.aRow R1 (by simp)
              replace R2 := hG.aRow R2 (by simp)
              replace R3 := hG.aRow R3 (by simp)
              replace hF := hF.trans hG
              clear hG
              have c0 := SetsAt.c0 hS
              have c1 := SetsAt.c1 hS
              have c2 := SetsAt.c2 hS
              have d0 := SetsAt.c0 hT
              have d1 := SetsAt.c1 hT
              have d2 := SetsAt.c2 hT
              go_wp2_with fail
              refine (leq_any _ _ n n n n (fun i => (s i : Int)) (fun i => (s i : Int)) _ (by omega) (by omega) hS.hs.rd R1.rd).mono ?_
              rintro e we1 ⟨ht, hG⟩
              obtain rfl := told ht ⟨rfl, fun _ _ => rfl⟩
              clear ht c0 c1 c2 d0 d1 d2
              replace hS : SetsN we1 b bp bs n p s c := SetsAt.fr0 hS hG
              replace hT : SetsN we1 b' bp' bs' n q t d := SetsAt.fr0 hT hG
              replace R0 := hG.aRow R0 (by simp)
              replace R1 := hG.aRow R1 (by simp)
              replace R2 := hG.aRow R2 (by simp)
              replace R3 := hG.aRow R3 (by simp)
              replace hF := hF.trans hG
              clear hG
              have c0 := SetsAt.c0 hS
              have c1 := SetsAt.c1 hS
              have c2 := SetsAt.c2 hS
              have d0 := SetsAt.c0 hT
              have d1 := SetsAt.c1 hT
              have d2 := SetsAt.c2 hT
              go_wp2_with fail
              refine (leq_any _ _ n n n n (fun i => (q i : Int)) (fun i => (q i : Int)) _ (by omega) (by omega) hT.hp.rd R2.rd).mono ?_
              rintro e we2 ⟨ht, hG⟩
              obtain rfl := told ht ⟨rfl, fun _ _ => rfl⟩
              clear ht c0 c1 c2 d0 d1 d2
              replace hS : SetsN we2 b bp bs n p s c := SetsAt.fr0 hS hG
              replace hT : SetsN we2 b' bp' bs' n q t d := SetsAt.fr0 hT hG
              replace R0 := hG.aRow R0 (by simp)
              replace R1 := hG.aRow R1 (by simp)
              replace R2 := hG.aRow R2 (by simp)
              replace R3 := hG.aRow R3 (by simp)
              replace hF := hF.trans hG
              clear hG
              have c0 := SetsAt.c0 hS
              have c1 := SetsAt.c1 hS
              have c2 := SetsAt.c2 hS
              have d0 := SetsAt.c0 hT
              have d1 := SetsAt.c1 hT
              have d2 := SetsAt.c2 hT
              go_wp2_with fail
              refine (leq_any _ _ n n n n (fun i => (t i : Int)) (fun i => (t i : Int)) _ (by omega) (by omega) hT.hs.rd R3.rd).mono ?_
              rintro e we3 ⟨ht, hG⟩
              obtain rfl := told ht ⟨rfl, fun _ _ => rfl⟩
              clear ht c0 c1 c2 d0 d1 d2
              replace hS : SetsN we3 b bp bs n p s c := SetsAt.fr0 hS hG
              replace hT : SetsN we3 b' bp' bs' n q t d := SetsAt.fr0 hT hG
              replace R0 := hG.aRow R0 (by simp)
              replace R1 := hG.aRow R1 (by simp)
              replace R2 := hG.aRow R2 (by simp)
              replace R3 := hG.aRow R3 (by simp)
              replace hF := hF.trans hG
              clear hG
              have c0 := SetsAt.c0 hS
              have c1 := SetsAt.c1 hS
              have c2 := SetsAt.c2 hS
              have d0 := SetsAt.c0 hT
              have d1 := SetsAt.c1 hT
              have d2 := SetsAt.c2 hT
              go_wp2_with fail
              go_ret
              exact ⟨by simp, hF.below⟩
    · have ee := beq_nat hnm
      go_wp2_with fail
      refine (join_no b bp bs n b' bp' bs' M _ _ _ _ _ _ _ hS hT hnm).mono ?_
      rintro e wj ⟨rfl, hG⟩
      clear c0 c1 c2 d0 d1 d2
      replace hS : SetsN wj b bp bs n p s c := SetsAt.fr0 hS hG
      replace hT : SetsN wj b' bp' bs' M q t d := SetsAt.fr0 hT hG
      replace R0 := hG.aRow R0 (by simp)
      replace R1 := hG.aRow R1 (by simp)
      replace R2 := hG.aRow R2 (by simp)
      replace R3 := hG.aRow R3 (by simp)
      replace hF := hF.trans hG
      clear hG
      have c0 := SetsAt.c0 hS
      have c1 := SetsAt.c1 hS
      have c2 := SetsAt.c2 hS
      have d0 := SetsAt.c0 hT
      have d1 := SetsAt.c1 hT
      have d2 := SetsAt.c2 hT
      have eC := beq_self (c : Int)
      have eD := beq_self (d : Int)
      go_wp2_with fail
      refine (leq_any _ _ n n n n (fun i => (p i : Int)) (fun i => (p i : Int)) _ (by omega) (by omega) hS.hp.rd R0.rd).mono ?_
      rintro e we0 ⟨ht, hG⟩
      obtain rfl := told ht ⟨rfl, fun _ _ => rfl⟩
      clear ht c0 c1 c2 d0 d1 d2
      replace hS : SetsN we0 b bp bs n p s c := SetsAt.fr0 hS hG
      replace hT : SetsN we0 b' bp' bs' M q t d := SetsAt.fr0 hT hG
      replace R0 := hG.aRow R0 (by simp)
      replace R1 := hG.aRow R1 (by simp)
      replace R2 := hG.aRow R2 (by simp)
      replace R3 := hG.aRow R3 (by simp)
      replace hF := hF.trans hG
      clear hG
      have c0 := SetsAt.c0 hS
      have c1 := SetsAt.c1 hS
      have c2 := SetsAt.c2 hS
      have d0 := SetsAt.c0 hT
      have d1 := SetsAt.c1 hT
      have d2 := SetsAt.c2 hT
      go_wp2_with fail
      refine (leq_any _ _ n n n n (fun i => (s i : Int)) (fun i => (s i : Int)) _ (by omega) (by omega) hS.hs.rd R1.rd).mono ?_
      rintro e we1 ⟨ht, hG⟩
      obtain rfl := told ht ⟨rfl, fun _ _ => rfl⟩
      clear ht c0 c1 c2 d0 d1 d2
      replace hS : SetsN we1 b bp bs n p s c := SetsAt.fr0 hS hG
      replace hT : SetsN we1 b' bp' bs' M q t d := SetsAt.fr0 hT hG
      replace R0 := hG.aRow R0 (by simp)
      replace R1 := hG.aRow R1 (by simp)
      replace R2 := hG.aRow R2 (by simp)
      replace R3 := hG.aRow R3 (by simp)
      replace hF := hF.trans hG
      clear hG
      have c0 := SetsAt.c0 hS
      have c1 := SetsAt.c1 hS
      have c2 := SetsAt.c2 hS
      have d0 := SetsAt.c0 hT
      have d1 := SetsAt.c1 hT
      have d2 := SetsAt.c2 hT
      go_wp2_with fail
      refine (leq_any _ _ M M M M (fun i => (q i : Int)) (fun i => (q i : Int)) _ (by omega) (by omega) hT.hp.rd R2.rd).mono ?_
      rintro e we2 ⟨ht, hG⟩
      obtain rfl := told ht ⟨rfl, fun _ _ => rfl⟩
      clear ht c0 c1 c2 d0 d1 d2
      replace hS : SetsN we2 b bp bs n p s c := SetsAt.fr0 hS hG
      replace hT : SetsN we2 b' bp' bs' M q t d := SetsAt.fr0 hT hG
      replace R0 := hG.aRow R0 (by simp)
      replace R1 := hG.aRow R1 (by simp)
      replace R2 := hG.aRow R2 (by simp)
      replace R3 := hG.aRow R3 (by simp)
      replace hF := hF.trans hG
      clear hG
      have c0 := SetsAt.c0 hS
      have c1 := SetsAt.c1 hS
      have c2 := SetsAt.c2 hS
      have d0 := SetsAt.c0 hT
      have d1 := SetsAt.c1 hT
      have d2 := SetsAt.c2 hT
      go_wp2_with fail
      refine (leq_any _ _ M M M M (fun i => (t i : Int)) (fun i => (t i : Int)) _ (by omega) (by omega) hT.hs.rd R3.rd).mono ?_
      rintro e we3 ⟨ht, hG⟩
      obtain rfl := told ht ⟨rfl, fun _ _ => rfl⟩
      clear ht c0 c1 c2 d0 d1 d2
      replace hS : SetsN we3 b bp bs n p s c := SetsAt.fr0 hS hG
      replace hT : SetsN we3 b' bp' bs' M q t d := SetsAt.fr0 hT hG
      replace R0 := hG.aRow R0 (by simp)
      replace R1 := hG.aRow R1 (by simp)
      replace R2 := hG.aRow R2 (by simp)
      replace R3 := hG.aRow R3 (by simp)
      replace hF := hF.trans hG
      clear hG
      have c0 := SetsAt.c0 hS
      have c1 := SetsAt.c1 hS
      have c2 := SetsAt.c2 hS
      have d0 := SetsAt.c0 hT
      have d1 := SetsAt.c1 hT
      have d2 := SetsAt.c2 hT
      go_wp2_with fail
      go_ret
      exact ⟨by simp, hF.below⟩

theorem own : ownKnob Ydcm.prog.godebug = none := by kernel_rfl
theorem laidOut : laidOutB Ydcm.prog = true := by kernel_rfl
set_option maxRecDepth 100000 in
theorem lifted (os : Os) (started : os.Started) (H : Type) (enc : TypeId × Value → H) :
    ReturnsInHanded {} Ydcm.checked os 12 .any (Rows.lawS930009LApartSpec.pre6 enc Ydcm.prog Ydcm.f12 Rows.lawS930009LApartRow.domain false) (Rows.lawS930009LApartSpec.post enc Ydcm.prog Ydcm.f12 false true false false) := by
  refine returnsInHanded_of_change (C := Ydcm.checked) own started (by kernel_rfl) Ydcm.func12
    (ChangeSpec.witness6 (enc := enc) (C := Ydcm.checked) false ⟨#[], #[.int .u16 0, .int .u16 0, .bool false, .slice none 0 0, .slice none 0 0], []⟩ 8 (by kernel_rfl) (by kernel_rfl) (by kernel_rfl) (by kernel_rfl)) ?_
  intro W base args ds gs before hval0 hW hcnd _
  have hval : ∀ (j : Nat) t v, Ydcm.f12.params[j]? = some t → args[j]? = some v → Value.okWide Ydcm.prog W .any base t v := hval0
  have hW' := hW
  obtain ⟨p, q, hA0, hV, rfl, hfz, hnd⟩ := hW
  have hA : DataW.TrodAll enc Ydcm.prog W 0 (fun _ => true) true Ydcm.f12.params.toList args.toList ds p := hA0
  rw [Ydcm.params12] at hA hval
  obtain ⟨v0, vs0, d0, ds0, p0, q0, hargs, rfl, rfl, h0, r0⟩ := trodAll_cons hA
  obtain ⟨v1, vs1, d1, ds1, p1, q1, rfl, rfl, rfl, h1, r1⟩ := trodAll_cons r0
  obtain ⟨v2, vs2, d2, ds2, p2, q2, rfl, rfl, rfl, h2, r2⟩ := trodAll_cons r1
  obtain ⟨v3, vs3, d3, ds3, p3, q3, rfl, rfl, rfl, h3, r3⟩ := trodAll_cons r2
  obtain ⟨v4, vs4, d4, ds4, p4, q4, rfl, rfl, rfl, h4, r4⟩ := trodAll_cons r3
  obtain ⟨rfl, rfl, rfl⟩ := trodAll_nil r4
  obtain rfl : args = #[v0, v1, v2, v3, v4] := by cases args; simp_all
  obtain ⟨rfl, rfl⟩ := trodVars_none hV
  obtain ⟨a0, rfl, rfl, rfl, w0⟩ := open_int Ydcm.underlying50 (hval 0 50 v0 rfl rfl) h0
  obtain ⟨a1, rfl, rfl, rfl, w1⟩ := open_int Ydcm.underlying50 (hval 1 50 v1 rfl rfl) h1
  obtain ⟨a2, rfl, rfl, rfl⟩ := open_bool Ydcm.underlying4 (hval 2 4 v2 rfl rfl) h2
  obtain ⟨a3, n3, c3, rfl⟩ := okWide_slice Ydcm.underlying51 (hval 3 51 v3 rfl rfl)
  have lt3 : ∀ x ∈ p3, x.block < W.heap.size := by obtain ⟨m, hm⟩ := h3; exact DataW.trod_lt m _ _ _ hm
  obtain ⟨z30, z31, s3, m3, w30, w31⟩ := rd2_of_trod Ydcm.underlying51 Ydcm.underlying64 (by kernel_rfl) rfl rfl rfl rfl Ydcm.underlying50 Ydcm.underlying50 (by kernel_rfl) (by kernel_rfl) h3
  obtain ⟨a4, n4, c4, rfl⟩ := okWide_slice Ydcm.underlying51 (hval 4 51 v4 rfl rfl)
  have lt4 : ∀ x ∈ p4, x.block < W.heap.size := by obtain ⟨m, hm⟩ := h4; exact DataW.trod_lt m _ _ _ hm
  obtain ⟨z40, z41, s4, m4, w40, w41⟩ := rd2_of_trod Ydcm.underlying51 Ydcm.underlying64 (by kernel_rfl) rfl rfl rfl rfl Ydcm.underlying50 Ydcm.underlying50 (by kernel_rfl) (by kernel_rfl) h4
  clear hA0 hval0
  refine (walk W a0 w0 a1 w1 a2 a3 n3 c3 z30 z31 s3 m3 w30 w31 a4 n4 c4 z40 z41 s4 m4 w40 w41).mono fun e W' ⟨he, bel⟩ => ?_
  subst he
  exact ⟨_, rfl, _, _, _, [], _, [], hW', trodAll_mk1 (shut_bool Ydcm.underlying4 _), (cons_mk (shut_int Ydcm.underlying50 w0) (cons_mk (shut_int Ydcm.underlying50 w1) (cons_mk (shut_bool Ydcm.underlying4 a2) (cons_mk (Below.trod laidOut (by kernel_rfl) (of_decide_eq_true (by kernel_rfl)) h3 bel lt3) (cons_mk (Below.trod laidOut (by kernel_rfl) (of_decide_eq_true (by kernel_rfl)) h4 bel lt4) trodAll_mk0))))), rfl, bel.frame _, fun h => by cases h⟩

theorem over : Rows.lawS930009LApartRow.holds Ydcm.pinned (OpenSpec.ofChange Rows.lawS930009LApartSpec) :=
  OpenClaim.holds_of_wide 12 Ydcm.f12 rfl rfl rfl rfl rfl rfl rfl ⟨rfl, rfl, rfl, rfl, rfl⟩ rfl rfl rfl rfl rfl (by kernel_rfl) Ydcm.func12 (by kernel_rfl)
    (of_decide_eq_true (by kernel_rfl)) (by unfold Func.isWrapper; first | (rw [if_pos (by decide +kernel)]; kernel_rfl) | (rw [if_neg (by decide +kernel)]; exact ⟨rfl, rfl⟩))
    (fun os started H enc _ => lifted os started H enc)

theorem proved : Rows.LawS930009LApartSaid := over
#print axioms proved
end Go.Proofs.Ymbrdc.lawS930009LApart
