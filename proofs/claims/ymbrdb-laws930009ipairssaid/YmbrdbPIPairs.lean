/-
  LawS930009IPairs.
-/
import Derived.Test.YmbrdbIpaint
import Derived.Test.YmbrdbRefines
namespace Go.Proofs.Ymbrdb.lawS930009IPairs
open Go.ChangeShapes Go.WideShapes Go.ChangeAt Go.RowKit
set_option linter.unusedVariables false
set_option linter.unusedSimpArgs false

theorem told_eq {e : Ending} {Q : Prop} {g : Bool} (h : Tells e Q) (hg : g = true ↔ Q) : e = .returned (.bool g) := by
  obtain ⟨r, rfl, hr⟩ := h
  congr 2
  rw [Bool.eq_iff_iff, hr, ← hg]

theorem beq_selfI (a : Int) : (a == a) = true := by simp
theorem beq_selfB (a : Bool) : (a == a) = true := by simp
theorem bne_natT {a b : Nat} (h : a ≠ b) : ((a : Int) != (b : Int)) = true := by simp; omega

/-- What the outer loop has looked at: the pairs below k. -/
def PO (L M : Nat → Nat) (k : Nat) : Prop := ∀ i, i < k → ∀ j, j < i → L i = L j → M i = M j
/-- The inner loop. -/
def PI (L M : Nat → Nat) (k l : Nat) : Prop := PO L M k ∧ ∀ j, j < l → L k = L j → M k = M j

theorem PO.zero (L M : Nat → Nat) : PO L M 0 := fun i hi => by omega
theorem PI.zero (L M : Nat → Nat) (k : Nat) : PI L M k 0 ↔ PO L M k := ⟨fun h => h.1, fun h => ⟨h, fun j hj => by omega⟩⟩
theorem PI.last (L M : Nat → Nat) (k : Nat) : PI L M k k ↔ PO L M (k + 1) := by
  constructor
  · intro h i hi j hj
    by_cases e : i = k
    · subst e; exact h.2 j hj
    · exact h.1 i (by omega) j hj
  · intro h
    exact ⟨fun i hi => h i (by omega), fun j hj => h k (by omega) j hj⟩
theorem PI.step (L M : Nat → Nat) (k l : Nat) : PI L M k (l + 1) ↔ (PI L M k l ∧ (L k = L l → M k = M l)) := by
  constructor
  · intro h
    exact ⟨⟨h.1, fun j hj => h.2 j (by omega)⟩, h.2 l (by omega)⟩
  · intro h
    refine ⟨h.1.1, fun j hj => ?_⟩
    by_cases e : j = l
    · subst e; exact h.2
    · exact h.1.2 j (by omega)
theorem PO.finer {L M : Nat → Nat} {n : Nat} : PO L M n ↔ Finer n L M := by
  constructor
  · intro h x y hx hy e
    rcases Nat.lt_trichotomy x y with g | g | g
    · exact (h y hy x g e.symm).symm
    · rw [g]
    · exact h x hx y g e
  · intro h i hi j hj
    exact h i j hi (by omega)

theorem gens0 (n : Nat) : Gens n (rt n (fun x => x)) E00 := (Gens.id n).of_eq (fun _ _ h => h.elim) (fun x _ => rt_of_root n rfl)
theorem gens00 (n : Nat) : Gens n (fun x => x) E00 := (Gens.id n)

theorem rd2_apart1 {k0 k1 : IntKind} {w : World} {a : Option Addr} {n b : Nat} {f0 f1 : Nat → Int} (r : Rd2 k0 k1 w a n f0 f1) (hb : w.heap.size ≤ b) :
    0 < n → ∀ x, a = some x → x.block ≠ b := fun hn x hx => (rd2_apart r hb hb hb hn x hx).1

set_option maxHeartbeats 8000000 in
set_option maxRecDepth 1000000 in
theorem walk (w : World) (a0 : Int) (w0 : (Lit.int .u8 a0).wf = true) (a1 : Int) (w1 : (Lit.int .u8 a1).wf = true) (a2 : Bool)
    (a3 : Option Addr) (n1 c1 : Nat) (zA zB : Nat → Int) (s1 : Rd2 .u8 .u8 w a3 n1 zA zB) (m1 : n1 ≤ maxLen) (wA : ∀ i, i < n1 → (Lit.int .u8 (zA i)).wf = true) (wB : ∀ i, i < n1 → (Lit.int .u8 (zB i)).wf = true)
    (a4 : Option Addr) (n2 c2 : Nat) (yA yB : Nat → Int) (s2 : Rd2 .u8 .u8 w a4 n2 yA yB) (m2 : n2 ≤ maxLen) (vA : ∀ i, i < n2 → (Lit.int .u8 (yA i)).wf = true) (vB : ∀ i, i < n2 → (Lit.int .u8 (yB i)).wf = true) :
    Calls Ydbm.prog 14 #[.int .u8 a0, .int .u8 a1, .bool a2, .slice a3 n1 c1, .slice a4 n2 c2] w fun e w' => e = .returned (.bool true) ∧ Below w.heap.size w w' := by
  unfold maxLen at m1 m2
  have b0 := bd_u8 w0
  have b1 := bd_u8 w1
  clear w0 w1
  by_cases hlt : 1024 < n1
  · have hd : decide ((1024 : Int) < (n1 : Int)) = true := by simp; omega
    go_enter Ydbm.func14, Ydbm.ntmps14
    go_upto_if 29 with fail
    try simp only [Bool.false_eq_true, if_false, if_true, reduceIte]
    go_wp2_with fail
    go_ret
    exact ⟨rfl, Below.refl _ _⟩
  have hd : decide ((1024 : Int) < (n1 : Int)) = false := by simp; omega
  by_cases hlt2 : 1024 < n2
  · have hd2 : decide ((1024 : Int) < (n2 : Int)) = true := by simp; omega
    go_enter Ydbm.func14, Ydbm.ntmps14
    go_upto_if 29 with fail
    try simp only [Bool.false_eq_true, if_false, if_true, reduceIte]
    go_wp2_with fail
    go_ret
    exact ⟨rfl, Below.refl _ _⟩
  have hd2 : decide ((1024 : Int) < (n2 : Int)) = false := by simp; omega
  have k1 : n1 ≤ 1024 := by omega
  have k2 : n2 ≤ 1024 := by omega
  obtain ⟨n, hn⟩ : ∃ n : Nat, a0 % 24 = n := Int.eq_ofNat_of_zero_le (by omega)
  have hn2 : n < 24 := by omega
  go_enter Ydbm.func14, Ydbm.ntmps14
  go_upto_region 4 with fail
  rw [hn]
  clear hn b0 hd hd2 hlt hlt2
  go_upto_if 36 with fail
  go_cut [12] from 36 to 47 (fun v12 wz => w = wz ∧ ∃ m : Nat, m ≤ 24 ∧ v12 = .int .i64 m)
  case first =>
    by_cases h1 : a1 % 8 = 1
    · have e1 : (a1 % 8 == 1) = true := by simp [h1]
      clear h1
      go_wp2_with fail
      go_meet
      case rel => exact ⟨rfl, n + 1, by omega, by go_num⟩
    · have e1 : (a1 % 8 == 1) = false := by simp [h1]
      clear h1
      by_cases h2 : a1 % 8 = 2
      · have e2 : (a1 % 8 == 2) = true := by simp [h2]
        clear h2
        by_cases h3 : n = 0
        · subst h3
          go_wp2_with fail
          go_meet
          case rel => exact ⟨rfl, 0, by omega, by go_num⟩
        · have hpos : (0 : Int) < (n : Int) := by omega
          have hdp : decide ((0 : Int) < (n : Int)) = true := dec_true hpos
          have hdp' : decide (0 < n) = true := dec_true (by omega)
          go_wp2_with fail
          go_meet
          case rel => exact ⟨rfl, n - 1, by omega, by congr 1; omega⟩
      · have e2 : (a1 % 8 == 2) = false := by simp [h2]
        clear h2
        go_wp2_with fail
        go_meet
        case rel => exact ⟨rfl, n, by omega, by go_num⟩
  case rest =>
    obtain ⟨rfl, m, hm2, rfl⟩ := hcut
    clear b1
    go_wp2_with fail
    refine (new_yes n _ (by omega)).mono ?_
    rintro e wa ⟨b, bp, bs, rfl, hS, hb, hbp, hbs, hF⟩
    have t1 := hS.lt
    have t2 := hS.hp.lt
    have t3 := hS.hs.lt
    have z1 := hF.size
    go_wp2_with fail
    refine (new_yes m _ (by omega)).mono ?_
    rintro e wb ⟨b', bp', bs', rfl, hT, hb', hbp', hbs', hG⟩
    have t4 := hT.lt
    have t5 := hT.hp.lt
    have t6 := hT.hs.lt
    have z2 := hG.size
    replace hS := SetsAt.fr0 hS hG
    replace hF := hF.trans hG
    clear hG
    go_wp2_with fail
    refine (icolours_any n _ (by omega)).mono ?_
    rintro e wc1 ⟨B, rfl, hA, hB, hG⟩
    have t7 := hA.lt
    have z3 := hG.size
    replace hS := SetsAt.fr0 hS hG
    replace hT := SetsAt.fr0 hT hG
    replace hF := hF.trans hG
    clear hG
    go_wp2_with fail
    refine (icolours_any m _ (by omega)).mono ?_
    rintro e wd ⟨B', rfl, hA', hB', hG⟩
    have t8 := hA'.lt
    have z4 := hG.size
    replace hS : SetsN wd b bp bs n (fun x => x) (fun _ => 1) n := SetsAt.fr0 hS hG
    replace hT : SetsN wd b' bp' bs' m (fun x => x) (fun _ => 1) m := SetsAt.fr0 hT hG
    replace hA : ARow wd B n (fun i => (((fun x => x) i : Nat) : Int)) := hG.aRow hA (by simp)
    replace hA' : ARow wd B' m (fun i => (((fun x => x) i : Nat) : Int)) := hA'
    replace hF := hF.trans hG
    clear hG
    go_wp2_with fail
    refine (iplay_any b bp bs n n1 c1 _ _ _ a3 zA zB E00 _ (by omega) (by omega) (E00.lt n) hS (inv_new n) (gens0 n) (hF.rd20 s1) (rd2_apart s1 (by omega) (by omega) (by omega)) wA wB).mono ?_
    rintro e we ⟨g1, p, s, c, rfl, hS2, I, hGens, _, hG⟩
    have G1 := hide hGens
    replace hT : SetsN we b' bp' bs' m (fun x => x) (fun _ => 1) m := SetsAt.fr hT hG (by simp; omega) (by simp; omega) (by simp; omega)
    replace hA := hG.aRow hA (by simp; omega)
    replace hA' := hG.aRow hA' (by simp; omega)
    replace hF : Fr [] w we := hF.trans' hG (by intro x hx hl; simp at hx; omega)
    clear hG hGens hS
    go_wp2_with fail
    refine (ipaint_any B n n1 c1 _ a3 zA zB E00 _ (by omega) (by omega) (E00.lt n) hA (gens00 n) (hF.rd20 s1) (rd2_apart1 s1 (by omega)) wA wB).mono ?_
    rintro e wf ⟨L, h⟩
    obtain rfl := h.ret
    have hL := h.row
    have G2 := hide h.gens
    have hG := h.fr
    replace hS2 : SetsN wf b bp bs n p s c := SetsAt.fr hS2 hG (by simp; omega) (by simp; omega) (by simp; omega)
    replace hT : SetsN wf b' bp' bs' m (fun x => x) (fun _ => 1) m := SetsAt.fr hT hG (by simp; omega) (by simp; omega) (by simp; omega)
    replace hA' := hG.aRow hA' (by simp; omega)
    replace hF : Fr [] w wf := hF.trans' hG (by intro x hx hl; simp at hx; omega)
    have K1 := hide (G1.out.same G2.out)
    clear h hG hA G1 G2
    go_wp2_with fail
    refine (iplay_any b' bp' bs' m n2 c2 _ _ _ a4 yA yB E00 _ (by omega) (by omega) (E00.lt m) hT (inv_new m) (gens0 m) (hF.rd20 s2) (rd2_apart s2 (by omega) (by omega) (by omega)) vA vB).mono ?_
    rintro e wg ⟨g2, q, t, d, rfl, hT2, J, hGens, _, hG⟩
    have G1 := hide hGens
    replace hS2 : SetsN wg b bp bs n p s c := SetsAt.fr hS2 hG (by simp; omega) (by simp; omega) (by simp; omega)
    replace hL := hG.aRow hL (by simp; omega)
    replace hA' := hG.aRow hA' (by simp; omega)
    replace hF : Fr [] w wg := hF.trans' hG (by intro x hx hl; simp at hx; omega)
    clear hG hGens hT
    go_wp2_with fail
    refine (ipaint_any B' m n2 c2 _ a4 yA yB E00 _ (by omega) (by omega) (E00.lt m) hA' (gens00 m) (hF.rd20 s2) (rd2_apart1 s2 (by omega)) vA vB).mono ?_
    rintro e wh ⟨M, h⟩
    obtain rfl := h.ret
    have hM := h.row
    have G2 := hide h.gens
    have hG := h.fr
    replace hS2 : SetsN wh b bp bs n p s c := SetsAt.fr hS2 hG (by simp; omega) (by simp; omega) (by simp; omega)
    replace hT2 : SetsN wh b' bp' bs' m q t d := SetsAt.fr hT2 hG (by simp; omega) (by simp; omega) (by simp; omega)
    replace hL := hG.aRow hL (by simp; omega)
    replace hF : Fr [] w wh := hF.trans' hG (by intro x hx hl; simp at hx; omega)
    clear h hG hA'
    go_upto_if 84 with fail
    go_cut [] from 84 to 92 (fun wz => ∃ (q t M : Nat → Nat) (d : Nat), SetsN wz b bp bs n p s c ∧ ARow wz B n (fun i => (L i : Int)) ∧ SetsN wz b' bp' bs' m q t d ∧ Inv m q t d ∧ ARow wz B' m (fun i => (M i : Int)) ∧ SameKer m (rt m q) M ∧ Fr [] w wz)
    case first =>
      cases a2
      · have K2 := hide (G1.out.same G2.out)
        clear G1 G2
        go_wp2_with fail
        go_meet
        case rel => exact ⟨q, t, M, d, hS2, hL, hT2, J, hM, K2.out, hF⟩
      · go_wp2_with fail
        refine (iplay_any b' bp' bs' m n1 c1 _ _ _ a3 zA zB _ _ (by omega) (by omega) (EU.lt (E00.lt m)) hT2 J G1.out (hF.rd20 s1) (rd2_apart s1 (by omega) (by omega) (by omega)) wA wB).mono ?_
        rintro e wi ⟨g3, q2, u2, d2, rfl, hT3, J3, hGens, _, hG⟩
        have G3 := hide hGens
        replace hS2 : SetsN wi b bp bs n p s c := SetsAt.fr hS2 hG (by simp; omega) (by simp; omega) (by simp; omega)
        replace hL := hG.aRow hL (by simp; omega)
        replace hM := hG.aRow hM (by simp; omega)
        replace hF : Fr [] w wi := hF.trans' hG (by intro x hx hl; simp at hx; omega)
        clear hG hGens hT2 G1
        go_wp2_with fail
        refine (ipaint_any B' m n1 c1 _ a3 zA zB _ _ (by omega) (by omega) (EU.lt (E00.lt m)) hM G2.out (hF.rd20 s1) (rd2_apart1 s1 (by omega)) wA wB).mono ?_
        rintro e wj ⟨M2, h⟩
        obtain rfl := h.ret
        have hM3 := h.row
        have G4 := hide h.gens
        have hG := h.fr
        replace hS2 : SetsN wj b bp bs n p s c := SetsAt.fr hS2 hG (by simp; omega) (by simp; omega) (by simp; omega)
        replace hT3 : SetsN wj b' bp' bs' m q2 u2 d2 := SetsAt.fr hT3 hG (by simp; omega) (by simp; omega) (by simp; omega)
        replace hL := hG.aRow hL (by simp; omega)
        replace hF : Fr [] w wj := hF.trans' hG (by intro x hx hl; simp at hx; omega)
        have K2 := hide (G3.out.same G4.out)
        clear h hG hM G2 G3 G4
        go_wp2_with fail
        go_meet
        case rel => exact ⟨q2, u2, M2, d2, hS2, hL, hT3, J3, hM3, K2.out, hF⟩
    case rest =>
      clear hS2 hL hT2 J hM hF G1 G2
      obtain ⟨q, t, M, d, hS2, hL, hT2, J, hM, hK, hF⟩ := hcut
      have K2 := hide hK
      clear hK s1 s2 wA wB vA vB
      by_cases hnm : n = m
      · subst hnm
        have ee := beq_selfI (n : Int)
        go_upto_if 96 with fail
        go_cut [19] from 96 to 126 (fun v wz => ∃ g : Bool, v = .bool g ∧ (g = true ↔ PO L M n) ∧ SetsN wz b bp bs n p s c ∧ SetsN wz b' bp' bs' n q t d ∧ Fr [] w wz)
        case first =>
          go_wp2_with fail
          go_loopw [19, 20] (fun v19 v20 wr => ∃ (k : Nat) (g : Bool), k ≤ n ∧ v20 = .int .i64 k ∧ v19 = .bool g ∧ Hid (g = true ↔ PO L M k) ∧ SetsN wr b bp bs n p s c ∧ ARow wr B n (fun i => (L i : Int)) ∧ SetsN wr b' bp' bs' n q t d ∧ ARow wr B' n (fun i => (M i : Int)) ∧ Fr [] w wr) (fun _ v20 _ => n - (intOf v20).toNat)
          case atStart => exact ⟨0, true, Nat.zero_le _, rfl, rfl, hide ⟨fun _ => PO.zero _ _, fun _ => rfl⟩, hS2, hL, hT2, hM, hF⟩
          case round =>
            clear hS2 hL hT2 hM hF
            obtain ⟨k, g, hk, rfl, rfl, Hg, hS2, hL, hT2, hM, hF⟩ := hrel
            by_cases hlt : k < n
            · go_wp2_with fail
              go_loopw [19, 21] (fun v19 v21 wr => ∃ (l : Nat) (g : Bool), l ≤ k ∧ v21 = .int .i64 l ∧ v19 = .bool g ∧ Hid (g = true ↔ PI L M k l) ∧ SetsN wr b bp bs n p s c ∧ ARow wr B n (fun i => (L i : Int)) ∧ SetsN wr b' bp' bs' n q t d ∧ ARow wr B' n (fun i => (M i : Int)) ∧ Fr [] w wr) (fun _ v21 _ => k - (intOf v21).toNat)
              case atStart => exact ⟨0, g, Nat.zero_le _, rfl, rfl, hide (Hg.out.trans (PI.zero L M k).symm), hS2, hL, hT2, hM, hF⟩
              case round =>
                clear hS2 hL hT2 hM hF Hg
                obtain ⟨l, g, hl, rfl, rfl, Hg, hS2, hL, hT2, hM, hF⟩ := hrel
                by_cases hlt2 : l < k
                · have dl : (l : Int) < (k : Int) := by omega
                  have dl1 : (l : Int) < (n : Int) := by omega
                  have dk1 : (k : Int) < (n : Int) := by omega
                  have c1 := hL.cell k hlt
                  have c2 := hL.cell l (by omega)
                  have c3 := hM.cell k hlt
                  have c4 := hM.cell l (by omega)
                  by_cases e : L k = L l
                  · by_cases e2 : M k = M l
                    · have Hg2 : Hid (g = true ↔ PI L M k (l + 1)) := hide (Hg.out.trans ⟨fun h => (PI.step L M k l).2 ⟨h, fun _ => e2⟩, fun h => ((PI.step L M k l).1 h).1⟩)
                      rw [e] at c1
                      rw [e2] at c3
                      have f1 := beq_selfI (L l : Int)
                      have f2 := bne_self (M l : Int)
                      clear e e2 Hg
                      go_wp2_with fail
                      go_quiet (fail)
                      go_wp2_with fail
                      go_roundw
                      case rel => exact ⟨l + 1, g, by omega, by go_num, rfl, Hg2, hS2.drewN _, hL.drewN _, hT2.drewN _, hM.drewN _, hF.drewN _⟩
                      case measure => simp [intOf] <;> omega
                    · have Hg2 : Hid (false = true ↔ PI L M k (l + 1)) := hide ⟨fun h => (by cases h), fun h => absurd (((PI.step L M k l).1 h).2 e) e2⟩
                      rw [e] at c1
                      have f1 := beq_selfI (L l : Int)
                      have f2 := bne_natT e2
                      clear e e2 Hg
                      go_wp2_with fail
                      go_quiet (fail)
                      go_wp2_with fail
                      go_roundw
                      case rel => exact ⟨l + 1, false, by omega, by go_num, rfl, Hg2, hS2.drewN _, hL.drewN _, hT2.drewN _, hM.drewN _, hF.drewN _⟩
                      case measure => simp [intOf] <;> omega
                  · have Hg2 : Hid (g = true ↔ PI L M k (l + 1)) := hide (Hg.out.trans ⟨fun h => (PI.step L M k l).2 ⟨h, fun h2 => absurd h2 e⟩, fun h => ((PI.step L M k l).1 h).1⟩)
                    have f1 := beq_nat e
                    clear e Hg
                    go_wp2_with fail
                    go_quiet (fail)
                    go_wp2_with fail
                    go_roundw
                    case rel => exact ⟨l + 1, g, by omega, by go_num, rfl, Hg2, hS2.drewN _, hL.drewN _, hT2.drewN _, hM.drewN _, hF.drewN _⟩
                    case measure => simp [intOf] <;> omega
                · have hkl : l = k := by omega
                  subst hkl
                  go_wp2_with fail
                  go_roundw
                  case rel => exact ⟨l + 1, g, by omega, by go_num, rfl, hide (Hg.out.trans (PI.last L M l)), hS2, hL, hT2, hM, hF⟩
                  case measure => simp [intOf] <;> omega
            · have hkm : k = n := by omega
              subst hkm
              go_wp2_with fail
              go_meet
              case rel => exact ⟨g, rfl, Hg.out, hS2, hT2, hF⟩
        case rest =>
          clear hS2 hL hT2 hM hF
          obtain ⟨g, rfl, hg, hS2, hT2, hF⟩ := hcut
          have Hg := hide (hg.trans (PO.finer.trans (SameKer.finer K1.out.symm K2.out.symm)))
          clear hg
          go_wp2_with fail
          refine (refines_any b bp bs n b' bp' bs' n _ _ _ _ _ _ _ (by omega) hS2 hT2 I J).mono ?_
          rintro e wk ⟨ht, hG⟩
          obtain rfl := told_eq ht (Hg.out.trans ⟨fun h => ⟨rfl, h⟩, fun h => h.2⟩)
          have hF5 := hF.trans hG
          have f3 := beq_selfB g
          clear ht hG hF Hg
          go_wp2_with fail
          go_ret
          exact ⟨by simp, hF5.below⟩
      · have ee := beq_nat hnm
        go_wp2_with fail
        refine (refines_any b bp bs n b' bp' bs' m _ _ _ _ _ _ _ (by omega) hS2 hT2 I J).mono ?_
        rintro e wk ⟨ht, hG⟩
        obtain rfl := told_eq (g := false) ht ⟨fun h => (by cases h), fun h => absurd h.1 hnm⟩
        have hF5 := hF.trans hG
        clear ht hG hF
        go_wp2_with fail
        go_ret
        exact ⟨by simp, hF5.below⟩

theorem own : ownKnob Ydbm.prog.godebug = none := by kernel_rfl
theorem laidOut : laidOutB Ydbm.prog = true := by kernel_rfl
set_option maxRecDepth 100000 in
theorem lifted (os : Os) (started : os.Started) (H : Type) (enc : TypeId × Value → H) :
    ReturnsInHanded {} Ydbm.checked os 14 .any (Rows.lawS930009IPairsSpec.pre6 enc Ydbm.prog Ydbm.f14 Rows.lawS930009IPairsRow.domain false) (Rows.lawS930009IPairsSpec.post enc Ydbm.prog Ydbm.f14 false true false false) := by
  refine returnsInHanded_of_change (C := Ydbm.checked) own started (by kernel_rfl) Ydbm.func14
    (ChangeSpec.witness6 (enc := enc) (C := Ydbm.checked) false ⟨#[], #[.int .u8 0, .int .u8 0, .bool false, .slice none 0 0, .slice none 0 0], []⟩ 8 (by kernel_rfl) (by kernel_rfl) (by kernel_rfl) (by kernel_rfl)) ?_
  intro W base args ds gs before hval0 hW hcnd _
  have hval : ∀ (j : Nat) t v, Ydbm.f14.params[j]? = some t → args[j]? = some v → Value.okWide Ydbm.prog W .any base t v := hval0
  have hW' := hW
  obtain ⟨p, q, hA0, hV, rfl, hfz, hnd⟩ := hW
  have hA : DataW.TrodAll enc Ydbm.prog W 0 (fun _ => true) true Ydbm.f14.params.toList args.toList ds p := hA0
  rw [Ydbm.params14] at hA hval
  obtain ⟨v0, vs0, d0, ds0, p0, q0, hargs, rfl, rfl, h0, r0⟩ := trodAll_cons hA
  obtain ⟨v1, vs1, d1, ds1, p1, q1, rfl, rfl, rfl, h1, r1⟩ := trodAll_cons r0
  obtain ⟨v2, vs2, d2, ds2, p2, q2, rfl, rfl, rfl, h2, r2⟩ := trodAll_cons r1
  obtain ⟨v3, vs3, d3, ds3, p3, q3, rfl, rfl, rfl, h3, r3⟩ := trodAll_cons r2
  obtain ⟨v4, vs4, d4, ds4, p4, q4, rfl, rfl, rfl, h4, r4⟩ := trodAll_cons r3
  obtain ⟨rfl, rfl, rfl⟩ := trodAll_nil r4
  obtain rfl : args = #[v0, v1, v2, v3, v4] := by cases args; simp_all
  obtain ⟨rfl, rfl⟩ := trodVars_none hV
  obtain ⟨a0, rfl, rfl, rfl, w0⟩ := open_int Ydbm.underlying5 (hval 0 5 v0 rfl rfl) h0
  obtain ⟨a1, rfl, rfl, rfl, w1⟩ := open_int Ydbm.underlying5 (hval 1 5 v1 rfl rfl) h1
  obtain ⟨a2, rfl, rfl, rfl⟩ := open_bool Ydbm.underlying4 (hval 2 4 v2 rfl rfl) h2
  obtain ⟨a3, n3, c3, rfl⟩ := okWide_slice Ydbm.underlying68 (hval 3 68 v3 rfl rfl)
  have lt3 : ∀ x ∈ p3, x.block < W.heap.size := by obtain ⟨m, hm⟩ := h3; exact DataW.trod_lt m _ _ _ hm
  obtain ⟨z30, z31, s3, m3, w30, w31⟩ := rd2_of_trod Ydbm.underlying68 Ydbm.underlying79 (by kernel_rfl) rfl rfl rfl rfl Ydbm.underlying5 Ydbm.underlying5 (by kernel_rfl) (by kernel_rfl) h3
  obtain ⟨a4, n4, c4, rfl⟩ := okWide_slice Ydbm.underlying68 (hval 4 68 v4 rfl rfl)
  have lt4 : ∀ x ∈ p4, x.block < W.heap.size := by obtain ⟨m, hm⟩ := h4; exact DataW.trod_lt m _ _ _ hm
  obtain ⟨z40, z41, s4, m4, w40, w41⟩ := rd2_of_trod Ydbm.underlying68 Ydbm.underlying79 (by kernel_rfl) rfl rfl rfl rfl Ydbm.underlying5 Ydbm.underlying5 (by kernel_rfl) (by kernel_rfl) h4
  clear hA0 hval0
  refine (walk W a0 w0 a1 w1 a2 a3 n3 c3 z30 z31 s3 m3 w30 w31 a4 n4 c4 z40 z41 s4 m4 w40 w41).mono fun e W' ⟨he, bel⟩ => ?_
  subst he
  exact ⟨_, rfl, _, _, _, [], _, [], hW', trodAll_mk1 (shut_bool Ydbm.underlying4 _), (cons_mk (shut_int Ydbm.underlying5 w0) (cons_mk (shut_int Ydbm.underlying5 w1) (cons_mk (shut_bool Ydbm.underlying4 a2) (cons_mk (Below.trod laidOut (by kernel_rfl) (of_decide_eq_true (by kernel_rfl)) h3 bel lt3) (cons_mk (Below.trod laidOut (by kernel_rfl) (of_decide_eq_true (by kernel_rfl)) h4 bel lt4) trodAll_mk0))))), rfl, bel.frame _, fun h => by cases h⟩

theorem over : Rows.lawS930009IPairsRow.holds Ydbm.pinned (OpenSpec.ofChange Rows.lawS930009IPairsSpec) :=
  OpenClaim.holds_of_wide 14 Ydbm.f14 rfl rfl rfl rfl rfl rfl rfl ⟨rfl, rfl, rfl, rfl, rfl⟩ rfl rfl rfl rfl rfl (by kernel_rfl) Ydbm.func14 (by kernel_rfl)
    (of_decide_eq_true (by kernel_rfl)) (by unfold Func.isWrapper; first | (rw [if_pos (by decide +kernel)]; kernel_rfl) | (rw [if_neg (by decide +kernel)]; exact ⟨rfl, rfl⟩))
    (fun os started H enc _ => lifted os started H enc)

theorem proved : Rows.LawS930009IPairsSaid := over
#print axioms proved
end Go.Proofs.Ymbrdb.lawS930009IPairs
