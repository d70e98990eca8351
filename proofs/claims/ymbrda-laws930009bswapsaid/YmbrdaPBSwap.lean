/-
  LawS930009BSwap.
-/
import Derived.Test.YmbrdaBsteps
import Derived.Deep.RegionHeld3
namespace Go.Proofs.Ymbrda.lawS930009BSwap
open Go.ChangeShapes Go.WideShapes Go.ChangeAt Go.RowKit
set_option linter.unusedVariables false
set_option linter.unusedSimpArgs false

theorem Merge.swap {n : Nat} {R R' : Nat → Nat} {a b : Nat} (h : Merge n R a b R') : Merge n R b a R' := by
  intro x y hx hy
  rw [h x y hx hy, or_comm (a := R x = R a), or_comm (a := R y = R a)]

theorem both {n : Nat} {x y : Int} (g : (0 ≤ x ∧ x < (n : Int)) ∧ (0 ≤ y ∧ y < (n : Int))) : ∃ a b : Nat, x = a ∧ y = b ∧ a < n ∧ b < n :=
  ⟨x.toNat, y.toNat, by omega, by omega, by omega, by omega⟩

section
variable {n : Nat} {p s q t : Nat → Nat} {c d : Nat}

theorem swap_code (K : SameKer n (rt n p) (rt n q)) (x y : Int) : zCode n q y x = zCode n p x y := by
  by_cases g : (0 ≤ x ∧ x < (n : Int)) ∧ (0 ≤ y ∧ y < (n : Int))
  · obtain ⟨a, b, rfl, rfl, ha, hb⟩ := both g
    rw [zCode_nat ha hb, zCode_nat hb ha]
    unfold uCode
    by_cases e : rt n p a = rt n p b
    · rw [if_pos e, if_pos ((K a b ha hb).1 e).symm]
    · rw [if_neg e, if_neg (fun h => e ((K a b ha hb).2 h.symm))]
  · rw [zCode_out (inb2_out g), zCode_out (inb2_out (fun h => g ⟨h.2, h.1⟩))]

theorem swap_ker (I : Inv n p s c) (J : Inv n q t d) (K : SameKer n (rt n p) (rt n q)) (x y : Int) : SameKer n (rt n (zP n p s x y)) (rt n (zP n q t y x)) := by
  by_cases g : (0 ≤ x ∧ x < (n : Int)) ∧ (0 ≤ y ∧ y < (n : Int))
  · obtain ⟨a, b, rfl, rfl, ha, hb⟩ := both g
    rw [zP_nat ha hb, zP_nat hb ha]
    exact Merge.same ha hb K (I.union_merge ha hb) (Merge.swap (J.union_merge hb ha))
  · rw [zP_out (inb2_out g), zP_out (inb2_out (fun h => g ⟨h.2, h.1⟩))]
    exact K

/-- The code of the second union. -/
def ag (z : Int) : Int := if z = 2 then 2 else 1

theorem again_code (I : Inv n p s c) (x y : Int) : zCode n (zP n p s x y) y x = ag (zCode n p x y) := by
  by_cases g : (0 ≤ x ∧ x < (n : Int)) ∧ (0 ≤ y ∧ y < (n : Int))
  · obtain ⟨a, b, rfl, rfl, ha, hb⟩ := both g
    rw [zP_nat ha hb, zCode_nat hb ha, zCode_nat ha hb]
    have e : rt n (uP n p s a b) b = rt n (uP n p s a b) a := ((I.union_merge ha hb) b a hb ha).2 (Or.inr ⟨Or.inr rfl, Or.inl rfl⟩)
    unfold ag uCode
    rw [if_pos e]
    split <;> simp
  · rw [zP_out (inb2_out g), zCode_out (inb2_out g), zCode_out (inb2_out (fun h => g ⟨h.2, h.1⟩))]
    rfl

theorem again_same (I : Inv n p s c) (x y : Int) (s' : Nat → Nat) (c' : Nat) : zP n (zP n p s x y) s' y x = zP n p s x y ∧ zS n (zP n p s x y) s' y x = s' ∧ zC n (zP n p s x y) c' y x = c' := by
  by_cases g : (0 ≤ x ∧ x < (n : Int)) ∧ (0 ≤ y ∧ y < (n : Int))
  · obtain ⟨a, b, rfl, rfl, ha, hb⟩ := both g
    rw [zP_nat ha hb, zP_nat hb ha, zS_nat hb ha, zC_nat hb ha]
    have e : rt n (uP n p s a b) b = rt n (uP n p s a b) a := ((I.union_merge ha hb) b a hb ha).2 (Or.inr ⟨Or.inr rfl, Or.inl rfl⟩)
    refine ⟨by rw [uP, if_pos e], by rw [uS, if_pos e], by rw [uC, if_pos e]⟩
  · have g2 := inb2_out (n := n) (x := y) (y := x) (fun h => g ⟨h.2, h.1⟩)
    rw [zP_out (inb2_out g), zP_out g2, zS_out g2, zC_out g2]
    exact ⟨rfl, rfl, rfl⟩
end

theorem u8_bd (z : Int) : 0 ≤ IntKind.u8.wrap z ∧ IntKind.u8.wrap z ≤ 255 := by
  simp [IntKind.wrap, IntKind.bits, IntKind.signed]; omega

theorem bdiff_zero (B C n d e0 : Nat) (f g : Nat → Int) (w : World) (hn : n ≤ 1048576) (hA : ARow w B n f) (hC : ARow w C n g) (h : ∀ i, i < n → f i = g i) :
    Calls Ydam.prog 27 #[.slice (some ⟨B, 0, none⟩) n d, .slice (some ⟨C, 0, none⟩) n e0] w fun e w' => e = .returned (.int .i64 0) ∧ Fr [] w w' := by
  refine (bdiff_any B C n d e0 f g w hn hA hC).mono ?_
  rintro e w' ⟨rfl, hF⟩
  rw [cnt_zero (fun i hi => by simp [h i hi])]
  exact ⟨rfl, hF⟩

set_option maxHeartbeats 8000000 in
set_option maxRecDepth 1000000 in
theorem walk (w : World) (a0 : Int) (w0 : (Lit.int .u8 a0).wf = true) (a1 : Option Addr) (n1 c1 : Nat) (zO zA zB : Nat → Int) (s1 : Rd3 .u8 .u8 .u8 w a1 n1 zO zA zB) (m1 : n1 ≤ maxLen)
    (wO : ∀ i, i < n1 → (Lit.int .u8 (zO i)).wf = true) (wA : ∀ i, i < n1 → (Lit.int .u8 (zA i)).wf = true) (wB : ∀ i, i < n1 → (Lit.int .u8 (zB i)).wf = true)
    (a2 : Bool) (a3 : Int) (w3 : (Lit.int .i64 a3).wf = true) (a4 : Int) (w4 : (Lit.int .i64 a4).wf = true) :
    Calls Ydam.prog 8 #[.int .u8 a0, .slice a1 n1 c1, .bool a2, .int .i64 a3, .int .i64 a4] w fun e w' => e = .returned (.bool true) ∧ Below w.heap.size w w' := by
  unfold maxLen at m1
  have b0 := bd_u8 w0
  clear w0 w3 w4
  by_cases hlt : 1024 < n1
  · have hd : decide ((1024 : Int) < (n1 : Int)) = true := by simp; omega
    go_enter Ydam.func8, Ydam.ntmps8
    go_wp2_with fail
    go_ret
    exact ⟨rfl, Below.refl _ _⟩
  · have hd : decide ((1024 : Int) < (n1 : Int)) = false := by simp; omega
    have hm2 : n1 ≤ 1024 := by omega
    go_enter Ydam.func8, Ydam.ntmps8
    go_upto_region 4 with fail
    obtain ⟨n, hn⟩ : ∃ n : Nat, (a0 + 6) % 256 = n := Int.eq_ofNat_of_zero_le (by omega)
    have hn2 : n ≤ 255 := by omega
    rw [hn]
    clear hn b0 hd hlt
    go_upto_if 24 with fail
    go_cut [3, 4] from 24 to 32 (fun v3 v4 wz => w = wz ∧ ∃ x y : Int, v3 = .int .i64 x ∧ v4 = .int .i64 y)
    case first =>
      cases a2
      · go_wp2_with fail
        refine (bpick_any n _ _ hn2 ?_).mono ?_
        · first
            | exact u8_bd _
            | omega
        rintro e w1 ⟨rfl, rfl⟩
        go_wp2_with fail
        refine (bpick_any n _ _ hn2 ?_).mono ?_
        · first
            | exact u8_bd _
            | omega
        rintro e w3 ⟨rfl, rfl⟩
        go_wp2_with fail
        go_meet
        case rel => exact ⟨rfl, _, _, rfl, rfl⟩
      · go_wp2_with fail
        go_meet
        case rel => exact ⟨rfl, _, _, rfl, rfl⟩
    case rest =>
      obtain ⟨rfl, x, y, rfl, rfl⟩ := hcut
      clear a3 a4
      go_wp2_with fail
      refine (bbuild_any n n1 c1 a1 zO zA zB _ hn2 (by omega) s1 wO wA wB).mono ?_
      rintro e wa ⟨b, bp, bs, p, s, c, h⟩
      obtain rfl := h.ret
      have hS := h.sets
      have I := h.inv
      have G1 := hide h.gens
      have hb := h.hb
      have hbp := h.hbp
      have hbs := h.hbs
      have hF := h.fr
      have l1 := SetsAt.lt hS
      have l2 := hS.hp.lt
      have l3 := hS.hs.lt
      have zz := hF.size
      clear h
      go_wp2_with fail
      refine (bbuild_any n n1 c1 a1 zO zA zB _ hn2 (by omega) (hF.rd30 s1) wO wA wB).mono ?_
      rintro e wb ⟨b', bp', bs', q, t, d, h⟩
      obtain rfl := h.ret
      have hT := h.sets
      have J := h.inv
      have hb' := h.hb
      have hbp' := h.hbp
      have hbs' := h.hbs
      have K := hide (G1.out.same h.gens)
      replace hS : SetsN wb b bp bs n p s c := SetsAt.fr0 hS h.fr
      replace hF := hF.trans h.fr
      clear h G1 s1 wO wA wB
      go_wp2_with fail
      refine (union_any b bp bs n p s c x y _ hS I (by omega)).mono ?_
      rintro e wc1 ⟨rfl, hS2, hG⟩
      replace hT : SetsN wc1 b' bp' bs' n q t d := SetsAt.fr hT hG (by simp; omega) (by simp; omega) (by simp; omega)
      replace hF : Fr [] w wc1 := hF.trans' hG (by intro x hx hl; simp at hx; omega)
      have I2 := I.unionZ x y
      have J2 := J.unionZ y x
      have K2 := hide (swap_ker I J K.out x y)
      have Hc := hide (swap_code K.out x y)
      have Hn := hide (SameKer.count I2 J2 K2.out)
      have Ha := hide (again_code I x y)
      have Hs := hide (again_same I x y (zS n p s x y) (zC n p c x y))
      clear hS hG K
      generalize zCode n p x y = Z at *
      generalize zC n p c x y = c' at *
      have ee := bne_self Z
      have ec := bne_self (c' : Int)
      go_upto_region 10 with fail
      go_cut [59] from 43 to 59 (fun v59 wz => v59 = .bool false ∧ SetsN wz b bp bs n (zP n p s x y) (zS n p s x y) (c') ∧ SetsN wz b' bp' bs' n (zP n q t y x) (zS n q t y x) (c') ∧ Fr [] w wz)
      case first =>
        refine wp_region_any (by kernel_rfl) ?_
        change wpAny _ _ _ _ _ _ _ (World.drew _)
        refine wpAny_take (i := 0) (v := ?_) rfl (by kernel_rfl) (by kernel_rfl) (by kernel_rfl) (fun _ _ _ h => h) (Or.inl ⟨by rfl, ?_⟩) ?_
        rotate_left
        · intro w; go_simp
          try with_reducible rfl
        simp only [Act.put, List.getElem_toArray, List.getElem_cons_zero, List.getElem_cons_succ, List.setIfInBounds_toArray, List.set_cons_zero, List.set_cons_succ]
        refine wpAny_take (i := 1) (v := ?_) rfl (by kernel_rfl) (by kernel_rfl) (by kernel_rfl) (fun _ _ _ h => h) (Or.inl ⟨by rfl, ?_⟩) ?_
        rotate_left
        · intro w; go_simp
          try with_reducible rfl
        simp only [Act.put, List.getElem_toArray, List.getElem_cons_zero, List.getElem_cons_succ, List.setIfInBounds_toArray, List.set_cons_zero, List.set_cons_succ]
        refine wpAny_take (i := 2) (v := ?_) rfl (by kernel_rfl) (by kernel_rfl) (by kernel_rfl) (fun _ _ _ h => h) (Or.inl ⟨by rfl, ?_⟩) ?_
        rotate_left
        · intro w; go_simp
          try with_reducible rfl
        simp only [Act.put, List.getElem_toArray, List.getElem_cons_zero, List.getElem_cons_succ, List.setIfInBounds_toArray, List.set_cons_zero, List.set_cons_succ]
        refine wpAny_take (i := 4) (v := ?_) rfl (by kernel_rfl) (by kernel_rfl) (by kernel_rfl) (fun _ _ _ h => h) (Or.inl ⟨by rfl, ?_⟩) ?_
        rotate_left
        · intro w; go_simp
          try with_reducible rfl
        simp only [Act.put, List.getElem_toArray, List.getElem_cons_zero, List.getElem_cons_succ, List.setIfInBounds_toArray, List.set_cons_zero, List.set_cons_succ]
        refine wpAny_ready (rs := [3]) (by kernel_rfl) (by simp) ?_
        refine AllReady.cons rfl (fun K hK => ?_) AllReady.nil
        go_simp
        go_wp2_with (first | (go_at_call 19; refine (union_any b' bp' bs' n q t d _ _ _ (by exact SetsAt.drew hT) J (by omega)).mono ?_; rintro e w2 ⟨rfl, hT2, hG⟩; rw [Hc.out]; rw [← Hn.out] at hT2; have hS3 := SetsAt.fr (SetsAt.drew hS2) hG (by simp; omega) (by simp; omega) (by simp; omega)))
        have hSS : (fun w' : World => w'.cell? ⟨b, 2, none⟩ = some (.int .i64 (c' : Int)) ∧ w'.cell? ⟨b', 2, none⟩ = some (.int .i64 (c' : Int))) w2 := ⟨SetsAt.c2 hS3, SetsAt.c2 hT2⟩
        refine wpAny_of_held (S := fun w' : World => w'.cell? ⟨b, 2, none⟩ = some (.int .i64 (c' : Int)) ∧ w'.cell? ⟨b', 2, none⟩ = some (.int .i64 (c' : Int))) _ _ _ _ ?_
        refine wpAnyH_take (i := 5) (v := ?_) rfl (by kernel_rfl) (by kernel_rfl) (by kernel_rfl) (fun _ _ _ h => h) (Or.inl ⟨by rfl, ?_⟩) hSS ?_
        rotate_left
        · rintro w ⟨q1, q2⟩; go_simp
          try with_reducible rfl
        simp only [Act.put, List.getElem_toArray, List.getElem_cons_zero, List.getElem_cons_succ, List.setIfInBounds_toArray, List.set_cons_zero, List.set_cons_succ]
        refine wpAnyH_take (i := 6) (v := ?_) rfl (by kernel_rfl) (by kernel_rfl) (by kernel_rfl) (fun _ _ _ h => h) (Or.inl ⟨by rfl, ?_⟩) hSS ?_
        rotate_left
        · rintro w ⟨q1, q2⟩; go_simp
          try with_reducible rfl
        simp only [Act.put, List.getElem_toArray, List.getElem_cons_zero, List.getElem_cons_succ, List.setIfInBounds_toArray, List.set_cons_zero, List.set_cons_succ]
        refine wpAnyH_take (i := 7) (v := ?_) rfl (by kernel_rfl) (by kernel_rfl) (by kernel_rfl) (fun _ _ _ h => h) (Or.inl ⟨by rfl, ?_⟩) hSS ?_
        rotate_left
        · rintro w ⟨q1, q2⟩; go_simp
          try with_reducible rfl
        simp only [Act.put, List.getElem_toArray, List.getElem_cons_zero, List.getElem_cons_succ, List.setIfInBounds_toArray, List.set_cons_zero, List.set_cons_succ]
        refine wpAnyH_take (i := 8) (v := ?_) rfl (by kernel_rfl) (by kernel_rfl) (by kernel_rfl) (fun _ _ _ h => h) (Or.inl ⟨by rfl, ?_⟩) hSS ?_
        rotate_left
        · rintro w ⟨q1, q2⟩; go_simp
          try with_reducible rfl
        simp only [Act.put, List.getElem_toArray, List.getElem_cons_zero, List.getElem_cons_succ, List.setIfInBounds_toArray, List.set_cons_zero, List.set_cons_succ]
        refine wpAnyH_take (i := 9) (v := ?_) rfl (by kernel_rfl) (by kernel_rfl) (by kernel_rfl) (fun _ _ _ h => h) (Or.inl ⟨by rfl, ?_⟩) hSS ?_
        rotate_left
        · rintro w ⟨q1, q2⟩; go_simp
          try with_reducible rfl
        simp only [Act.put, List.getElem_toArray, List.getElem_cons_zero, List.getElem_cons_succ, List.setIfInBounds_toArray, List.set_cons_zero, List.set_cons_succ]
        refine wpAnyH_take (i := 10) (v := ?_) rfl (by kernel_rfl) (by kernel_rfl) (by kernel_rfl) (fun _ _ _ h => h) (Or.inl ⟨by rfl, ?_⟩) hSS ?_
        rotate_left
        · rintro w ⟨q1, q2⟩; go_simp
          try with_reducible rfl
        simp only [Act.put, List.getElem_toArray, List.getElem_cons_zero, List.getElem_cons_succ, List.setIfInBounds_toArray, List.set_cons_zero, List.set_cons_succ]
        refine wpAnyH_take (i := 11) (v := ?_) rfl (by kernel_rfl) (by kernel_rfl) (by kernel_rfl) (fun _ _ _ h => h) (Or.inl ⟨by rfl, ?_⟩) hSS ?_
        rotate_left
        · rintro w ⟨q1, q2⟩; go_simp
          try with_reducible rfl
        simp only [Act.put, List.getElem_toArray, List.getElem_cons_zero, List.getElem_cons_succ, List.setIfInBounds_toArray, List.set_cons_zero, List.set_cons_succ]
        refine wpAnyH_take (i := 12) (v := ?_) rfl (by kernel_rfl) (by kernel_rfl) (by kernel_rfl) (fun _ _ _ h => h) (Or.inl ⟨by rfl, ?_⟩) hSS ?_
        rotate_left
        · rintro w ⟨q1, q2⟩; go_simp
          try with_reducible rfl
        simp only [Act.put, List.getElem_toArray, List.getElem_cons_zero, List.getElem_cons_succ, List.setIfInBounds_toArray, List.set_cons_zero, List.set_cons_succ]
        refine wpAnyH_take (i := 13) (v := ?_) rfl (by kernel_rfl) (by kernel_rfl) (by kernel_rfl) (fun _ _ _ h => h) (Or.inl ⟨by rfl, ?_⟩) hSS ?_
        rotate_left
        · rintro w ⟨q1, q2⟩; go_simp
          try with_reducible rfl
        simp only [Act.put, List.getElem_toArray, List.getElem_cons_zero, List.getElem_cons_succ, List.setIfInBounds_toArray, List.set_cons_zero, List.set_cons_succ]
        refine wpAnyH_take (i := 14) (v := ?_) rfl (by kernel_rfl) (by kernel_rfl) (by kernel_rfl) (fun _ _ _ h => h) (Or.inl ⟨by rfl, ?_⟩) hSS ?_
        rotate_left
        · rintro w ⟨q1, q2⟩; go_simp
          try with_reducible rfl
        simp only [Act.put, List.getElem_toArray, List.getElem_cons_zero, List.getElem_cons_succ, List.setIfInBounds_toArray, List.set_cons_zero, List.set_cons_succ]
        refine wpAnyH_take (i := 15) (v := ?_) rfl (by kernel_rfl) (by kernel_rfl) (by kernel_rfl) (fun _ _ _ h => h) (Or.inl ⟨by rfl, ?_⟩) hSS ?_
        rotate_left
        · rintro w ⟨q1, q2⟩; go_simp
          try with_reducible rfl
        simp only [Act.put, List.getElem_toArray, List.getElem_cons_zero, List.getElem_cons_succ, List.setIfInBounds_toArray, List.set_cons_zero, List.set_cons_succ]
        refine wpAnyH_take (i := 16) (v := ?_) rfl (by kernel_rfl) (by kernel_rfl) (by kernel_rfl) (fun _ _ _ h => h) (Or.inl ⟨by rfl, ?_⟩) hSS ?_
        rotate_left
        · rintro w ⟨q1, q2⟩; go_simp
          try with_reducible rfl
        simp only [Act.put, List.getElem_toArray, List.getElem_cons_zero, List.getElem_cons_succ, List.setIfInBounds_toArray, List.set_cons_zero, List.set_cons_succ]
        refine wpAnyH_done (by kernel_rfl) ?_ _
        go_wp2_with fail
        go_meet
        exact ⟨by simp, hS3, hT2, (Fr.drew hF).trans' hG (by intro x hx hl; simp at hx; omega)⟩
      case rest =>
        clear hS2 hT hF
        obtain ⟨rfl, hS2, hT2, hF⟩ := hcut
        have l4 := SetsAt.lt hS2
        have l5 := hS2.hp.lt
        have l6 := hS2.hs.lt
        go_wp2_with fail
        refine (labels_any b n n _ _ _ _ (by omega) (SetsAt.c0 hS2) hS2.hp.rd I2.forest).mono ?_
        rintro e x0 ⟨bl, rfl, hL, _, hG⟩
        replace hS2 : SetsN x0 b bp bs n (zP n p s x y) (zS n p s x y) (c') := SetsAt.fr0 hS2 hG
        replace hT2 : SetsN x0 b' bp' bs' n (zP n q t y x) (zS n q t y x) (c') := SetsAt.fr0 hT2 hG
        replace hF := hF.trans hG
        clear hG
        go_wp2_with fail
        refine (labels_any b' n n _ _ _ _ (by omega) (SetsAt.c0 hT2) hT2.hp.rd J2.forest).mono ?_
        rintro e x1 ⟨bm, rfl, hM, _, hG⟩
        replace hS2 : SetsN x1 b bp bs n (zP n p s x y) (zS n p s x y) (c') := SetsAt.fr0 hS2 hG
        replace hT2 : SetsN x1 b' bp' bs' n (zP n q t y x) (zS n q t y x) (c') := SetsAt.fr0 hT2 hG
        replace hL := hG.aRow hL (by simp)
        replace hF := hF.trans hG
        clear hG
        go_wp2_with fail
        refine (bdiff_zero bl bm n n n _ _ _ (by omega) hL hM (fun i hi => by rw [K2.out.lab i hi])).mono ?_
        rintro e x2 ⟨rfl, hG⟩
        replace hS2 : SetsN x2 b bp bs n (zP n p s x y) (zS n p s x y) (c') := SetsAt.fr0 hS2 hG
        replace hT2 : SetsN x2 b' bp' bs' n (zP n q t y x) (zS n q t y x) (c') := SetsAt.fr0 hT2 hG
        replace hL := hG.aRow hL (by simp)
        replace hF := hF.trans hG
        clear hG hM K2
        go_upto_if 68 with fail
        go_cut [16] from 68 to 68 (fun v16 wz => x2 = wz ∧ v16 = .int .i64 (ag (Z)))
        case first =>
          by_cases h2 : Z = 2
          · have e2 : (Z == 2) = true := by simp [h2]
            have Eg : Hid (ag (Z) = 2) := hide (if_pos h2)
            clear h2
            go_wp2_with fail
            go_meet
            case rel => exact ⟨rfl, by rw [Eg.out]⟩
          · have e2 : (Z == 2) = false := by simp [h2]
            have Eg : Hid (ag (Z) = 1) := hide (if_neg h2)
            clear h2
            go_wp2_with fail
            go_meet
            case rel => exact ⟨rfl, by rw [Eg.out]⟩
        case rest =>
          obtain ⟨rfl, rfl⟩ := hcut
          generalize ag Z = G at *
          have eg := bne_self G
          clear ee
          go_upto_region 18 with fail
          go_cut [85] from 69 to 85 (fun v85 wz => v85 = .bool false ∧ SetsN wz b bp bs n (zP n p s x y) (zS n p s x y) (c') ∧ ARow wz bl n (fun i => (lab (rt n (zP n p s x y)) i : Int)) ∧ Fr [] w wz)
          case first =>
            have c2s := SetsAt.c2 hS2
            have c2t := SetsAt.c2 hT2
            go_region_held3 (fun w' => w'.cell? ⟨b, 2, none⟩ = some (.int .i64 (c' : Int)) ∧ w'.cell? ⟨b', 2, none⟩ = some (.int .i64 (c' : Int))) (go_keep)
              (first | (go_at_call 19; refine (union_any b bp bs n _ _ _ _ _ _ ?_ I2 (by omega)).mono ?_; exact SetsAt.drew hS2; rintro e w2 ⟨rfl, hS3, hG⟩; rw [Ha.out]; rw [Hs.out.1, Hs.out.2.1, Hs.out.2.2] at hS3; have hT3 := SetsAt.fr (SetsAt.drew hT2) hG (by simp; omega) (by simp; omega) (by simp; omega); have c2s2 := SetsAt.c2 hS3; have c2t2 := SetsAt.c2 hT3))
            all_goals go_wp2_with fail
            all_goals go_meet
            all_goals exact ⟨by simp, hS3, hG.aRow (ARow.drew hL) (by simp; omega), (Fr.drew hF).trans' hG (by intro x hx hl; simp at hx; omega)⟩
          case rest =>
            clear hS2 hT2 hL hF
            obtain ⟨rfl, hS2, hL, hF⟩ := hcut
            go_wp2_with fail
            refine (labels_any b n n _ _ _ _ (by omega) (SetsAt.c0 hS2) hS2.hp.rd I2.forest).mono ?_
            rintro e y0 ⟨bk, rfl, hK, _, hG⟩
            replace hL := hG.aRow hL (by simp)
            replace hF := hF.trans hG
            clear hG hS2
            go_wp2_with fail
            refine (bdiff_zero bl bk n n n _ _ _ (by omega) hL hK (fun _ _ => rfl)).mono ?_
            rintro e y1 ⟨rfl, hG⟩
            go_wp2_with fail
            go_ret
            exact ⟨by simp, (hF.trans hG).below⟩

theorem own : ownKnob Ydam.prog.godebug = none := by kernel_rfl
theorem laidOut : laidOutB Ydam.prog = true := by kernel_rfl
set_option maxRecDepth 100000 in
theorem lifted (os : Os) (started : os.Started) (H : Type) (enc : TypeId × Value → H) :
    ReturnsInHanded {} Ydam.checked os 8 .any (Rows.lawS930009BSwapSpec.pre6 enc Ydam.prog Ydam.f8 Rows.lawS930009BSwapRow.domain false) (Rows.lawS930009BSwapSpec.post enc Ydam.prog Ydam.f8 false true false false) := by
  refine returnsInHanded_of_change (C := Ydam.checked) own started (by kernel_rfl) Ydam.func8
    (ChangeSpec.witness6 (enc := enc) (C := Ydam.checked) false ⟨#[], #[.int .u8 0, .slice none 0 0, .bool false, .int .i64 0, .int .i64 0], []⟩ 8 (by kernel_rfl) (by kernel_rfl) (by kernel_rfl) (by kernel_rfl)) ?_
  intro W base args ds gs before hval0 hW hcnd _
  have hval : ∀ (j : Nat) t v, Ydam.f8.params[j]? = some t → args[j]? = some v → Value.okWide Ydam.prog W .any base t v := hval0
  have hW' := hW
  obtain ⟨p, q, hA0, hV, rfl, hfz, hnd⟩ := hW
  have hA : DataW.TrodAll enc Ydam.prog W 0 (fun _ => true) true Ydam.f8.params.toList args.toList ds p := hA0
  rw [Ydam.params8] at hA hval
  obtain ⟨v0, vs0, d0, ds0, p0, q0, hargs, rfl, rfl, h0, r0⟩ := trodAll_cons hA
  obtain ⟨v1, vs1, d1, ds1, p1, q1, rfl, rfl, rfl, h1, r1⟩ := trodAll_cons r0
  obtain ⟨v2, vs2, d2, ds2, p2, q2, rfl, rfl, rfl, h2, r2⟩ := trodAll_cons r1
  obtain ⟨v3, vs3, d3, ds3, p3, q3, rfl, rfl, rfl, h3, r3⟩ := trodAll_cons r2
  obtain ⟨v4, vs4, d4, ds4, p4, q4, rfl, rfl, rfl, h4, r4⟩ := trodAll_cons r3
  obtain ⟨rfl, rfl, rfl⟩ := trodAll_nil r4
  obtain rfl : args = #[v0, v1, v2, v3, v4] := by cases args; simp_all
  obtain ⟨rfl, rfl⟩ := trodVars_none hV
  obtain ⟨a0, rfl, rfl, rfl, w0⟩ := open_int Ydam.underlying5 (hval 0 5 v0 rfl rfl) h0
  obtain ⟨a1, n1, c1, rfl⟩ := okWide_slice Ydam.underlying45 (hval 1 45 v1 rfl rfl)
  have lt1 : ∀ x ∈ p1, x.block < W.heap.size := by obtain ⟨m, hm⟩ := h1; exact DataW.trod_lt m _ _ _ hm
  obtain ⟨z10, z11, z12, s1, m1, w10, w11, w12⟩ := rd3_of_trod Ydam.underlying45 Ydam.underlying74 (by kernel_rfl) rfl rfl rfl rfl rfl rfl Ydam.underlying5 Ydam.underlying5 Ydam.underlying5 (by kernel_rfl) (by kernel_rfl) (by kernel_rfl) h1
  obtain ⟨a2, rfl, rfl, rfl⟩ := open_bool Ydam.underlying4 (hval 2 4 v2 rfl rfl) h2
  obtain ⟨a3, rfl, rfl, rfl, w3⟩ := open_int Ydam.underlying3 (hval 3 3 v3 rfl rfl) h3
  obtain ⟨a4, rfl, rfl, rfl, w4⟩ := open_int Ydam.underlying3 (hval 4 3 v4 rfl rfl) h4
  clear hA0 hval0
  refine (walk W a0 w0 a1 n1 c1 z10 z11 z12 s1 m1 w10 w11 w12 a2 a3 w3 a4 w4).mono fun e W' ⟨he, bel⟩ => ?_
  subst he
  exact ⟨_, rfl, _, _, _, [], _, [], hW', trodAll_mk1 (shut_bool Ydam.underlying4 _), (cons_mk (shut_int Ydam.underlying5 w0) (cons_mk (Below.trod laidOut (by kernel_rfl) (of_decide_eq_true (by kernel_rfl)) h1 bel lt1) (cons_mk (shut_bool Ydam.underlying4 a2) (cons_mk (shut_int Ydam.underlying3 w3) (cons_mk (shut_int Ydam.underlying3 w4) trodAll_mk0))))), rfl, bel.frame _, fun h => by cases h⟩

theorem over : Rows.lawS930009BSwapRow.holds Ydam.pinned (OpenSpec.ofChange Rows.lawS930009BSwapSpec) :=
  OpenClaim.holds_of_wide 8 Ydam.f8 rfl rfl rfl rfl rfl rfl rfl ⟨rfl, rfl, rfl, rfl, rfl⟩ rfl rfl rfl rfl rfl (by kernel_rfl) Ydam.func8 (by kernel_rfl)
    (of_decide_eq_true (by kernel_rfl)) (by unfold Func.isWrapper; first | (rw [if_pos (by decide +kernel)]; kernel_rfl) | (rw [if_neg (by decide +kernel)]; exact ⟨rfl, rfl⟩))
    (fun os started H enc _ => lifted os started H enc)

theorem proved : Rows.LawS930009BSwapSaid := over
#print axioms proved
end Go.Proofs.Ymbrda.lawS930009BSwap
