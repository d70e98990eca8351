/-
  zzs930009bpick, zzs930009btally, zzs930009bjoin, zzs930009bdiff, zzs930009bbuild.
-/
import Derived.Test.YmbrdaPlain3
import Derived.Test.YmbrdaSmall
namespace Go.Proofs.Ymbrda
open Go.RowKit
set_option linter.unusedSimpArgs false
set_option linter.unusedVariables false

theorem beq_selfII (a : Int) : (a == a) = true := by simp

/-- What bpick answers. -/
def bpk (n : Nat) (x : Int) : Int := if x % ((n : Int) + 2) = (n : Int) + 1 then -1 else x % ((n : Int) + 2)
/-- The same element as a natural number; one that is no element stays none. -/
def bnt (n : Nat) (x : Int) : Nat := (x % ((n : Int) + 2)).toNat

theorem bpk_lo (n : Nat) (x : Int) : -1 ≤ bpk n x := by
  have := emod_lo x (n := (n : Int) + 2) (by omega)
  unfold bpk; split <;> omega
theorem bpk_hi (n : Nat) (x : Int) : bpk n x ≤ n := by
  have := emod_hi x (n := (n : Int) + 2) (by omega)
  unfold bpk; split <;> omega
theorem bpk_nat (n : Nat) (x : Int) : bpk n x = (bnt n x : Int) ∨ (bpk n x = -1 ∧ n ≤ bnt n x) := by
  have h1 := emod_lo x (n := (n : Int) + 2) (by omega)
  unfold bpk bnt
  split
  · exact Or.inr ⟨rfl, by omega⟩
  · exact Or.inl (by omega)

/-- A union at any two ints that stand for naturals alike. -/
theorem zP_alike {n : Nat} {p s : Nat → Nat} {x y : Int} {a b : Nat} (hx : x = a ∨ (x = -1 ∧ n ≤ a)) (hy : y = b ∨ (y = -1 ∧ n ≤ b)) : zP n p s x y = zP n p s a b := by
  rcases hx with rfl | ⟨rfl, h1⟩
  · rcases hy with rfl | ⟨rfl, h2⟩
    · rfl
    · rw [zP_out (inb2_out (by omega)), zP_out (inb2_out (by omega))]
  · rw [zP_out (inb2_out (by omega)), zP_out (inb2_out (by omega))]

set_option maxHeartbeats 400000 in
theorem bpick_any (n : Nat) (x : Int) (w : World) (hn : n ≤ 255) (hx : 0 ≤ x ∧ x ≤ 255) :
    Calls Ydam.prog 17 #[.int .u8 x, .int .i64 n] w fun e w' => e = .returned (.int .i64 (bpk n x)) ∧ w' = w := by
  have q0 : 0 ≤ x % ((n : Int) + 2) := emod_lo _ (by omega)
  have q1 : x % ((n : Int) + 2) < (n : Int) + 2 := emod_hi _ (by omega)
  by_cases h : x % ((n : Int) + 2) = (n : Int) + 1
  · have e0 : Hid (bpk n x = -1) := hide (by unfold bpk; rw [if_pos h])
    have ee : (x % ((n : Int) + 2) == (n : Int) + 1) = true := by simp [h]
    clear h
    go_enter Ydam.func17, Ydam.ntmps17
    go_wp2_with fail
    go_ret
    exact ⟨by rw [e0.out]; rfl, rfl⟩
  · have e0 : Hid (bpk n x = x % ((n : Int) + 2)) := hide (by unfold bpk; rw [if_neg h])
    have ee : (x % ((n : Int) + 2) == (n : Int) + 1) = false := by simp [h]
    clear h
    go_enter Ydam.func17, Ydam.ntmps17
    go_wp2_with fail
    go_ret
    exact ⟨by rw [e0.out]; rfl, rfl⟩

theorem cntI_step (f : Nat → Int) (r : Int) (k : Nat) : cnt (fun i => f i == r) (k + 1) = if f k = r then cnt (fun i => f i == r) k + 1 else cnt (fun i => f i == r) k := by
  by_cases h : f k = r
  · rw [if_pos h]; exact cnt_yes (by simpa using h)
  · rw [if_neg h]; exact cnt_no (by simpa using h)

set_option maxHeartbeats 400000 in
theorem btally_any (B n d : Nat) (f : Nat → Int) (r : Int) (w : World) (hn : n ≤ 1048576) (hA : ARow w B n f) :
    Calls Ydam.prog 22 #[.slice (some ⟨B, 0, none⟩) n d, .int .i64 r] w fun e w' => e = .returned (.int .i64 (cnt (fun i => f i == r) n)) ∧ w' = w := by
  go_enter Ydam.func22, Ydam.ntmps22
  go_wp2_with fail
  go_loop [5, 6] (fun v5 v6 => ∃ k : Nat, k ≤ n ∧ v6 = .int .i64 k ∧ v5 = .int .i64 (cnt (fun i => f i == r) k)) (fun _ v6 => n - (intOf v6).toNat)
  case atStart => exact ⟨0, Nat.zero_le _, rfl, rfl⟩
  case round =>
    obtain ⟨k, hk, rfl, rfl⟩ := hrel
    by_cases hlt : k < n
    · have ck := hA.cell k hlt
      have k1 := cnt_le (fun i => f i == r) k
      have st := hide (cntI_step f r k)
      by_cases e : f k = r
      · have ee : (f k == r) = true := by simpa using e
        have E := hide e
        clear e
        go_wp2_with fail
        go_round
        case rel => exact ⟨k + 1, by omega, by go_num, by rw [st.out, if_pos E.out]; go_num⟩
        case measure => simp [intOf] <;> omega
      · have ee : (f k == r) = false := by simpa using e
        go_wp2_with fail
        go_round
        case rel => exact ⟨k + 1, by omega, by go_num, by rw [st.out, if_neg e]⟩
        case measure => simp [intOf] <;> omega
    · have hkn : k = n := by omega
      subst hkn
      go_wp2_with fail
      go_ret
      exact ⟨rfl, rfl⟩

theorem cntD_step (f g : Nat → Int) (k : Nat) : cnt (fun i => f i != g i) (k + 1) = if f k = g k then cnt (fun i => f i != g i) k else cnt (fun i => f i != g i) k + 1 := by
  by_cases h : f k = g k
  · rw [if_pos h]; exact cnt_no (by simpa using h)
  · rw [if_neg h]; exact cnt_yes (by simpa using h)

set_option maxHeartbeats 1000000 in
theorem bdiff_any (B C n d e0 : Nat) (f g : Nat → Int) (w : World) (hn : n ≤ 1048576) (hA : ARow w B n f) (hC : ARow w C n g) :
    Calls Ydam.prog 27 #[.slice (some ⟨B, 0, none⟩) n d, .slice (some ⟨C, 0, none⟩) n e0] w fun e w' => e = .returned (.int .i64 (cnt (fun i => f i != g i) n)) ∧ Fr [] w w' := by
  go_enter Ydam.func27, Ydam.ntmps27
  go_wp2_with fail
  go_loopw [5, 6] (fun v5 v6 wr => ∃ k : Nat, k ≤ n ∧ v6 = .int .i64 k ∧ v5 = .int .i64 (cnt (fun i => f i != g i) k) ∧ Fr [] w wr) (fun _ v6 _ => n - (intOf v6).toNat)
  case atStart => exact ⟨0, Nat.zero_le _, rfl, rfl, Fr.refl _ _⟩
  case round =>
    obtain ⟨k, hk, rfl, rfl, hF⟩ := hrel
    by_cases hlt : k < n
    · have ck := (hF.aRow hA (by simp)).cell k hlt
      have dk := (hF.aRow hC (by simp)).cell k hlt
      have k1 := cnt_le (fun i => f i != g i) k
      have st := hide (cntD_step f g k)
      have lk : (k : Int) < (n : Int) := by omega
      by_cases e : f k = g k
      · have E := hide e
        rw [e] at ck
        have ee := bne_self (g k)
        clear e
        go_wp2_with fail
        go_quiet (fail)
        go_wp2_with fail
        go_roundw
        case rel => exact ⟨k + 1, by omega, by go_num, by rw [st.out, if_pos E.out], hF.drewN _⟩
        case measure => simp [intOf] <;> omega
      · have ee : (f k != g k) = true := by simpa using e
        go_wp2_with fail
        go_quiet (fail)
        go_wp2_with fail
        go_roundw
        case rel => exact ⟨k + 1, by omega, by go_num, by rw [st.out, if_neg e]; go_num, hF.drewN _⟩
        case measure => simp [intOf] <;> omega
    · have hkn : k = n := by omega
      subst hkn
      go_wp2_with fail
      go_ret
      exact ⟨rfl, hF⟩

theorem cnt_cast (R : Nat → Nat) (r n : Nat) : cnt (fun i => (R i : Int) == (r : Int)) n = cnt (fun i => R i == r) n := by
  apply cnt_congr
  intro i _
  rw [Bool.eq_iff_iff]
  simp only [beq_iff_eq]
  omega

structure BJ (w : World) (B n : Nat) (p s : Nat → Nat) (x y : Int) (e : Ending) (w' : World) : Prop where
  ret : e = .returned (.int .i64 (zCode n p x y))
  row : ARow w' B n (fun i => (rt n (zP n p s x y) i : Int))
  fr : Fr [B] w w'

set_option maxHeartbeats 4000000 in
set_option maxRecDepth 100000 in
theorem bjoin_any (B n : Nat) (p s : Nat → Nat) (c : Nat) (x y : Int) (w : World) (hn : n ≤ 1048576) (I : Inv n p s c) (hA : ARow w B n (fun i => (rt n p i : Int))) :
    Calls Ydam.prog 18 #[.slice (some ⟨B, 0, none⟩) n n, .int .i64 x, .int .i64 y] w fun e w' => BJ w B n p s x y e w' := by
  by_cases g : (0 ≤ x ∧ x < (n : Int)) ∧ (0 ≤ y ∧ y < (n : Int))
  · obtain ⟨a, rfl⟩ := Int.eq_ofNat_of_zero_le g.1.1
    obtain ⟨b, rfl⟩ := Int.eq_ofNat_of_zero_le g.2.1
    have ha : a < n := by omega
    have hb : b < n := by omega
    clear g
    have ca := hA.cell a ha
    have cb := hA.cell b hb
    have d1 : decide ((n : Int) ≤ (a : Int)) = false := dec_false (by omega)
    have d2 : decide ((n : Int) ≤ (b : Int)) = false := dec_false (by omega)
    have d1' : decide (n ≤ a) = false := dec_false (by omega)
    have d2' : decide (n ≤ b) = false := dec_false (by omega)
    have la : (a : Int) < (n : Int) := by omega
    have lb : (b : Int) < (n : Int) := by omega
    by_cases e : rt n p a = rt n p b
    · have E1 : Hid (zCode n p a b = 1) := hide (by rw [zCode_nat ha hb, uCode, if_pos e])
      have E2 : Hid (zP n p s a b = p) := hide (by rw [zP_nat ha hb, uP, if_pos e])
      have ee := beq_selfII (rt n p b : Int)
      rw [e] at ca
      clear e
      go_enter Ydam.func18, Ydam.ntmps18
      go_wp2_with fail
      go_ret
      exact ⟨by rw [E1.out]; rfl, by rw [E2.out]; exact hA, Fr.refl _ _⟩
    · have E1 : Hid (zCode n p a b = 0) := hide (by rw [zCode_nat ha hb, uCode, if_neg e])
      have E2 : Hid (zP n p s a b = uP n p s a b) := hide (zP_nat ha hb)
      have F := I.forest
      have Hrt := hide ((I.union (a := a) (b := b) ha hb).2)
      have Sa := hide ((cnt_cast (rt n p) (rt n p a) n).trans (I.size a ha).symm)
      have Sb := hide ((cnt_cast (rt n p) (rt n p b) n).trans (I.size b hb).symm)
      have sa := I.sn _ (F.rt_lt a ha)
      have sb := I.sn _ (F.rt_lt b hb)
      have Hw : Hid (uWin n p s a b = if s (rt n p a) < s (rt n p b) then rt n p b else rt n p a) := rfl
      have Hl : Hid (uLose n p s a b = if s (rt n p a) < s (rt n p b) then rt n p a else rt n p b) := rfl
      have ee := beq_nat e
      clear F I
      go_enter Ydam.func18, Ydam.ntmps18
      go_wp2_with fail
      refine (btally_any B n n _ _ _ (by omega) hA).mono ?_
      rintro e w1 ⟨rfl, rfl⟩
      rw [Sb.out]
      go_wp2_with fail
      refine (btally_any B n n _ _ _ (by omega) hA).mono ?_
      rintro e w2 ⟨rfl, rfl⟩
      rw [Sa.out]
      go_upto_if 46 with fail
      go_cut [8, 9] from 46 to 54 (fun v8 v9 wz => w2 = wz ∧ v8 = .int .i64 (uWin n p s a b) ∧ v9 = .int .i64 (uLose n p s a b))
      case first =>
        by_cases hsz : s (rt n p a) < s (rt n p b)
        · have hd := dec_true (show (s (rt n p a) : Int) < (s (rt n p b) : Int) by omega)
          have hd' := dec_true hsz
          rw [if_pos hsz] at Hw Hl
          go_wp2_with fail
          go_meet
          case rel => exact ⟨rfl, by rw [Hw.out], by rw [Hl.out]⟩
        · have hd := dec_false (show ¬ (s (rt n p a) : Int) < (s (rt n p b) : Int) by omega)
          have hd' := dec_false hsz
          rw [if_neg hsz] at Hw Hl
          go_wp2_with fail
          go_meet
          case rel => exact ⟨rfl, by rw [Hw.out], by rw [Hl.out]⟩
      case rest =>
        obtain ⟨rfl, rfl, rfl⟩ := hcut
        clear Hw Hl Sa Sb ca cb sa sb
        generalize uWin n p s a b = K at *
        generalize uLose n p s a b = D at *
        go_wp2_with fail
        go_loopw [10] (fun v wr => ∃ l : Nat, l ≤ n ∧ v = .int .i64 l ∧ ARow wr B n (fil l (fun t => if rt n p t = D then (K : Int) else rt n p t) fun t => (rt n p t : Int)) ∧ Fr [B] w2 wr) (fun v _ => n - (intOf v).toNat)
        case atStart => exact ⟨0, Nat.zero_le _, rfl, hA.congr (by simp [fil]), Fr.refl _ _⟩
        case round =>
          clear hA
          obtain ⟨l, hl, rfl, hA, hF⟩ := hrel
          by_cases hlt4 : l < n
          · have cl := hA.cell l hlt4
            rw [fil_ge _ _ (Nat.lt_irrefl l)] at cl
            have fl := hA.frozen l
            by_cases e : rt n p l = D
            · have E := hide e
              rw [e] at cl
              clear e
              go_wp2_with fail
              go_roundw
              case rel => exact ⟨l + 1, by omega, by go_num, hA.fill _ (by rw [if_pos E.out]), hF.setCell _ (.inl (by simp)) _⟩
              case measure => simp [intOf] <;> omega
            · have f1 := beq_nat e
              go_wp2_with fail
              go_roundw
              case rel => exact ⟨l + 1, by omega, by go_num, hA.fskip (by rw [if_neg e]), hF⟩
              case measure => simp [intOf] <;> omega
          · replace hA : ARow wr B n (fun t => (rt n (uP n p s a b) t : Int)) := hA.congr (fun t ht => by
              rw [fil_lt _ _ (by omega), Hrt.out t ht]
              split <;> rfl)
            go_wp2_with fail
            go_ret
            exact ⟨by rw [E1.out]; rfl, by rw [E2.out]; exact hA, hF⟩
  · have e := inb2_out g
    have E1 : Hid (zCode n p x y = 2) := hide (zCode_out e)
    have E2 : Hid (zP n p s x y = p) := hide (zP_out e)
    clear e
    by_cases h1 : x < 0
    · have d1 := dec_true h1
      go_enter Ydam.func18, Ydam.ntmps18
      go_upto_if 28 with fail
      try simp only [Bool.false_eq_true, if_false, if_true, reduceIte]
      go_wp2_with fail
      go_ret
      exact ⟨by rw [E1.out]; rfl, by rw [E2.out]; exact hA, Fr.refl _ _⟩
    · have d1 := dec_false h1
      by_cases h2 : (n : Int) ≤ x
      · have d2 := dec_true h2
        go_enter Ydam.func18, Ydam.ntmps18
        go_upto_if 28 with fail
        try simp only [Bool.false_eq_true, if_false, if_true, reduceIte]
        go_wp2_with fail
        go_ret
        exact ⟨by rw [E1.out]; rfl, by rw [E2.out]; exact hA, Fr.refl _ _⟩
      · have d2 := dec_false h2
        by_cases h3 : y < 0
        · have d3 := dec_true h3
          go_enter Ydam.func18, Ydam.ntmps18
          go_upto_if 28 with fail
          try simp only [Bool.false_eq_true, if_false, if_true, reduceIte]
          go_wp2_with fail
          go_ret
          exact ⟨by rw [E1.out]; rfl, by rw [E2.out]; exact hA, Fr.refl _ _⟩
        · have d3 := dec_false h3
          have h4 : (n : Int) ≤ y := by omega
          have d4 := dec_true h4
          go_enter Ydam.func18, Ydam.ntmps18
          go_upto_if 28 with fail
          try simp only [Bool.false_eq_true, if_false, if_true, reduceIte]
          go_wp2_with fail
          go_ret
          exact ⟨by rw [E1.out]; rfl, by rw [E2.out]; exact hA, Fr.refl _ _⟩

/-- The script's pairs. -/
def EB (n : Nat) (zO zA zB : Nat → Int) (k : Nat) : Nat → Nat → Prop := EU E00 n (fun i => bnt n (zA i)) (fun i => bnt n (zB i)) (fun i => zO i % 4 ≠ 3) k

structure BB (w : World) (n : Nat) (E : Nat → Nat → Prop) (e : Ending) (w' : World) (b bp bs : Nat) (p s : Nat → Nat) (c : Nat) : Prop where
  ret : e = .returned (.pointer (some ⟨b, 0, none⟩))
  sets : SetsN w' b bp bs n p s c
  inv : Inv n p s c
  gens : Gens n (rt n p) E
  hb : w.heap.size ≤ b
  hbp : w.heap.size ≤ bp
  hbs : w.heap.size ≤ bs
  fr : Fr [] w w'

set_option maxHeartbeats 4000000 in
set_option maxRecDepth 100000 in
theorem bbuild_any (n m d : Nat) (a : Option Addr) (zO zA zB : Nat → Int) (w : World) (hn : n ≤ 255) (hm : m ≤ 1024) (r : Rd3 .u8 .u8 .u8 w a m zO zA zB)
    (wO : ∀ i, i < m → (Lit.int .u8 (zO i)).wf = true) (wA : ∀ i, i < m → (Lit.int .u8 (zA i)).wf = true) (wB : ∀ i, i < m → (Lit.int .u8 (zB i)).wf = true) :
    Calls Ydam.prog 24 #[.int .i64 n, .slice a m d] w fun e w' => ∃ b bp bs p s c, BB w n (EB n zO zA zB m) e w' b bp bs p s c := by
  go_enter Ydam.func24, Ydam.ntmps24
  go_wp2_with fail
  refine (new_yes n _ (by omega)).mono ?_
  rintro e wa ⟨b, bp, bs, rfl, hS, hb, hbp, hbs, hF⟩
  go_wp2_with fail
  go_loopw [7] (fun v wr => ∃ (k : Nat) (p s : Nat → Nat) (c : Nat), k ≤ m ∧ v = .int .i64 k ∧ SetsN wr b bp bs n p s c ∧ Inv n p s c ∧ Hid (Gens n (rt n p) (EB n zO zA zB k)) ∧ Fr [] w wr) (fun v _ => m - (intOf v).toNat)
  case atStart => exact ⟨0, fun x => x, fun _ => 1, n, Nat.zero_le _, rfl, hS, inv_new n, hide (gens_new n _ _ _), hF⟩
  case round =>
    clear hS hF
    obtain ⟨j, p, s, c, hj, rfl, hS, I, HG, hF⟩ := hrel
    by_cases hlt : j < m
    · obtain ⟨b1, o1, rfl, cO, cA, cB⟩ := (hF.rd30 r) j hlt
      have bO := bd_u8 (wO j hlt)
      have bA := bd_u8 (wA j hlt)
      have bB := bd_u8 (wB j hlt)
      have lj : (j : Int) < (m : Int) := by omega
      by_cases eo : zO j % 4 = 3
      · have ee : (zO j % 4 == 3) = true := by simp [eo]
        have EO := hide eo
        clear eo
        go_wp2_with fail
        refine (bpick_any n (zA j) _ hn bA).mono ?_
        rintro e w1 ⟨rfl, rfl⟩
        go_wp2_with fail
        refine (compress_inv b bp bs n p s c _ _ hS I).mono ?_
        rintro e w2 ⟨rfl, q, hS2, I2, hrt, hF2⟩
        have HG2 : Hid (Gens n (rt n q) (EB n zO zA zB (j + 1))) := hide (HG.out.skip (E00.lt n) (fun h => h.1 EO.out) hrt)
        have hF3 : Fr [] w w2 := hF.trans' hF2 (by intro x hx hl; simp at hx; omega)
        clear hrt hS hF hF2 I HG
        go_wp2_with fail
        go_roundw
        case rel => exact ⟨j + 1, q, s, c, by omega, by go_num, hS2, I2, HG2, hF3⟩
        case measure => simp [intOf] <;> omega
      · have ee : (zO j % 4 == 3) = false := by simp [eo]
        have EO := hide eo
        clear eo
        go_wp2_with fail
        refine (bpick_any n (zA j) _ hn bA).mono ?_
        rintro e w1 ⟨rfl, rfl⟩
        go_wp2_with fail
        refine (bpick_any n (zB j) _ hn bB).mono ?_
        rintro e w3 ⟨rfl, rfl⟩
        go_wp2_with fail
        refine (union_any b bp bs n p s c _ _ _ hS I (by omega)).mono ?_
        rintro e w2 ⟨rfl, hS2, hF2⟩
        have I2 := I.unionZ (bpk n (zA j)) (bpk n (zB j))
        have HG2 : Hid (Gens n (rt n (zP n p s (bpk n (zA j)) (bpk n (zB j)))) (EB n zO zA zB (j + 1))) := by
          rw [zP_alike (bpk_nat n (zA j)) (bpk_nat n (zB j))]
          exact hide (Gens.unionZ (E00.lt n) I HG.out EO.out)
        have hF3 : Fr [] w w2 := hF.trans' hF2 (by intro x hx hl; simp at hx; omega)
        clear hS hF hF2 I HG
        go_wp2_with fail
        go_roundw
        case rel => exact ⟨j + 1, _, _, _, by omega, by go_num, hS2, I2, HG2, hF3⟩
        case measure => simp [intOf] <;> omega
    · have hkm : j = m := by omega
      subst hkm
      go_wp2_with fail
      go_ret
      exact ⟨b, bp, bs, p, s, c, rfl, hS, I, HG.out, hb, hbp, hbs, hF⟩
end Go.Proofs.Ymbrda
