/-
  Refines, Join.
-/
import Derived.Test.YmbrdcIplay
namespace Go.Proofs.Ymbrdc
open Go.RowKit
set_option linter.unusedSimpArgs false
set_option linter.unusedVariables false

set_option maxHeartbeats 1000000 in
theorem refines_row (b1 b2 n d1 m d2 : Nat) (a1 a2 : Option Addr) (p q μ : Nat → Nat) (w : World) (hn : n ≤ 9223372036854775807) (c1 : w.cell? ⟨b1, 0, none⟩ = some (.slice a1 n d1)) (c2 : w.cell? ⟨b2, 0, none⟩ = some (.slice a2 m d2))
    (r1 : Rd .i64 w a1 n fun i => (p i : Int)) (r2 : Rd .i64 w a2 m fun i => (q i : Int)) (hp : ∀ i, i < n → p i < n) (F : Forest m q μ) :
    Calls Ydcm.prog 16 #[.pointer (some ⟨b1, 0, none⟩), .pointer (some ⟨b2, 0, none⟩)] w fun e w' => Tells e (n = m ∧ ∀ i, i < n → rt m q i = rt m q (p i)) ∧ Fr [] w w' := by
  by_cases hmn : m = n
  · subst hmn
    have ee := bne_self (m : Int)
    go_enter Ydcm.func16, Ydcm.ntmps16
    go_wp2_with fail
    go_quiet (fail)
    go_wp2_with fail
    go_loopw [23] (fun v wr => ∃ k : Nat, k ≤ m ∧ v = .int .i64 k ∧ (∀ i, i < k → rt m q i = rt m q (p i)) ∧ Fr [] w wr) (fun v _ => m - (intOf v).toNat)
    case atStart => exact ⟨0, Nat.zero_le _, rfl, fun t ht => absurd ht (Nat.not_lt_zero _), (Fr.refl _ _).drewN _⟩
    case round =>
      obtain ⟨k, hk, rfl, hz, hF⟩ := hrel
      have Hz := hide hz
      clear hz
      by_cases hlt : k < m
      · have cc2 := (hF.cell (p := ⟨b2, 0, none⟩) (World.block_lt_of_cell? _ _ c2) (by simp)).trans c2
        have rr2 := hF.rd0 r2
        obtain ⟨b0, o0, rfl, h0⟩ := (hF.rd0 r1).at (by omega)
        have k0 := h0 k hlt
        have hpk := hp k hlt
        clear h0 c1 c2 ee
        go_wp2_with fail
        refine (root_any b2 m d2 a2 q μ k _ cc2 rr2 F hlt).mono ?_
        rintro e _ ⟨rfl, rfl⟩
        go_wp2_with fail
        refine (root_any b2 m d2 a2 q μ (p k) _ cc2 rr2 F hpk).mono ?_
        rintro e w4 ⟨rfl, rfl⟩
        by_cases e : rt m q k = rt m q (p k)
        · rw [e]
          have E := hide e
          clear e
          have ee := bne_self (rt m q (p k))
          go_wp2_with fail
          go_roundw
          case rel =>
            refine ⟨k + 1, by omega, by go_num, ?_, hF⟩
            intro i hi
            by_cases ei : i = k
            · subst ei; exact E.out
            · exact Hz.out i (by omega)
          case measure => simp [intOf] <;> omega
        · have ee := bne_nat e
          go_wp2_with fail
          go_ret
          exact ⟨Tells.no (fun h => e (h.2 k hlt)), hF⟩
      · go_wp2_with fail
        go_ret
        exact ⟨Tells.yes ⟨by trivial, fun i hi => Hz.out i (by omega)⟩, hF⟩
  · have ee : ((n : Int) != (m : Int)) = true := by simp; omega
    go_enter Ydcm.func16, Ydcm.ntmps16
    go_wp2_with fail
    go_quiet (fail)
    go_wp2_with fail
    go_ret
    exact ⟨Tells.no (fun h => hmn (by have := h.1; omega)), (Fr.refl _ _).drewN _⟩

/-- Refines, of two Sets with their invariants. -/
theorem refines_any (b1 bp1 bs1 n b2 bp2 bs2 m : Nat) (p s q t : Nat → Nat) (c d : Nat) (w : World) (hn : n ≤ 1048576) (h1 : SetsN w b1 bp1 bs1 n p s c) (h2 : SetsN w b2 bp2 bs2 m q t d) (I : Inv n p s c) (J : Inv m q t d) :
    Calls Ydcm.prog 16 #[.pointer (some ⟨b1, 0, none⟩), .pointer (some ⟨b2, 0, none⟩)] w fun e w' => Tells e (n = m ∧ Finer n (rt n p) (rt m q)) ∧ Fr [] w w' := by
  refine (refines_row b1 b2 n n m m _ _ p q _ w (by omega) h1.c0 h2.c0 h1.hp.rd h2.hp.rd I.lt J.forest).mono ?_
  rintro e w' ⟨⟨r, rfl, hr⟩, hF⟩
  refine ⟨⟨r, rfl, hr.trans ?_⟩, hF⟩
  rw [finer_parents I.forest]

/-- The pairs that Join has joined after k rounds. -/
def EJ (p q : Nat → Nat) (k x y : Nat) : Prop := ∃ i, i < k ∧ (x = p i ∨ x = q i) ∧ y = i

theorem EJ.lt {n k : Nat} {p q : Nat → Nat} (hp : ∀ i, i < n → p i < n) (hq : ∀ i, i < n → q i < n) (hk : k ≤ n) : ∀ x y, EJ p q k x y → x < n ∧ y < n := by
  rintro x y ⟨i, hi, rfl | rfl, rfl⟩
  · exact ⟨hp _ (by omega), by omega⟩
  · exact ⟨hq _ (by omega), by omega⟩

theorem EJ.step {n k : Nat} {p q : Nat → Nat} {R R1 R2 : Nat → Nat} (hp : ∀ i, i < n → p i < n) (hq : ∀ i, i < n → q i < n) (hk : k < n) (h : Gens n R (EJ p q k)) (m1 : Merge n R (p k) k R1) (m2 : Merge n R1 (q k) k R2) : Gens n R2 (EJ p q (k + 1)) := by
  have g1 := h.merge (EJ.lt hp hq (by omega)) (hp k hk) hk m1
  have g2 := g1.merge (by
    rintro x y (e | ⟨h1, h2⟩)
    · exact EJ.lt hp hq (by omega) x y e
    · rw [h1, h2]; exact ⟨hp k hk, hk⟩) (hq k hk) hk m2
  refine g2.iff ?_
  intro x y
  constructor
  · rintro ((⟨i, hi, e⟩ | ⟨rfl, rfl⟩) | ⟨rfl, rfl⟩)
    · exact ⟨i, by omega, e⟩
    · exact ⟨y, by omega, Or.inl rfl, rfl⟩
    · exact ⟨y, by omega, Or.inr rfl, rfl⟩
  · rintro ⟨i, hi, e, rfl⟩
    by_cases ei : y = k
    · subst ei
      rcases e with rfl | rfl
      · exact Or.inl (Or.inr ⟨rfl, rfl⟩)
      · exact Or.inr ⟨rfl, rfl⟩
    · exact Or.inl (Or.inl ⟨y, by omega, e, rfl⟩)

/-- A function is constant along the joined pairs just when both partitions are finer. -/
theorem EJ.finer {n : Nat} {p q μ ν L : Nat → Nat} (F : Forest n p μ) (G : Forest n q ν) : (∀ a b, EJ p q n a b → L a = L b) ↔ (Finer n (rt n p) L ∧ Finer n (rt n q) L) := by
  rw [finer_parents F, finer_parents G]
  constructor
  · intro h
    exact ⟨fun i hi => (h _ _ ⟨i, hi, Or.inl rfl, rfl⟩).symm, fun i hi => (h _ _ ⟨i, hi, Or.inr rfl, rfl⟩).symm⟩
  · rintro ⟨h1, h2⟩ a b ⟨i, hi, rfl | rfl, rfl⟩
    · exact (h1 _ hi).symm
    · exact (h2 _ hi).symm

set_option maxHeartbeats 1000000 in
theorem join_no (b1 bp1 bs1 n b2 bp2 bs2 m : Nat) (p s q t : Nat → Int) (c d : Int) (w : World) (h1 : SetsAt w b1 bp1 bs1 n p s c) (h2 : SetsAt w b2 bp2 bs2 m q t d) (hne : n ≠ m) :
    Calls Ydcm.prog 17 #[.pointer (some ⟨b1, 0, none⟩), .pointer (some ⟨b2, 0, none⟩)] w fun e w' => e = .returned (.tuple #[.pointer none, .bool false]) ∧ Fr [] w w' := by
  have c1 := h1.c0
  have c2 := h2.c0
  have ee := bne_nat hne
  go_enter Ydcm.func17, Ydcm.ntmps17
  go_wp2_with fail
  go_quiet (fail)
  go_wp2_with fail
  go_ret2
  exact ⟨rfl, (Fr.refl _ _).drewN _⟩

/-- What Join leaves. -/
structure JYes (n : Nat) (p q : Nat → Nat) (w : World) (e : Ending) (w' : World) (b bp bs : Nat) (p' s' : Nat → Nat) (c' : Nat) : Prop where
  ret : e = .returned (.tuple #[.pointer (some ⟨b, 0, none⟩), .bool true])
  sets : SetsN w' b bp bs n p' s' c'
  inv : Inv n p' s' c'
  gens : Gens n (rt n p') (EJ p q n)
  lb : w.heap.size ≤ b
  lp : w.heap.size ≤ bp
  ls : w.heap.size ≤ bs
  fr : Fr [] w w'

set_option maxHeartbeats 1000000 in
theorem join_yes (b1 bp1 bs1 n b2 bp2 bs2 : Nat) (p s q t : Nat → Nat) (c d : Nat) (w : World) (hn : n ≤ 1048576) (h1 : SetsN w b1 bp1 bs1 n p s c) (h2 : SetsN w b2 bp2 bs2 n q t d) (hp : ∀ i, i < n → p i < n) (hq : ∀ i, i < n → q i < n) :
    Calls Ydcm.prog 17 #[.pointer (some ⟨b1, 0, none⟩), .pointer (some ⟨b2, 0, none⟩)] w fun e w' => ∃ b bp bs p' s' c', JYes n p q w e w' b bp bs p' s' c' := by
  have c1 := h1.c0
  have c2 := h2.c0
  have ee := bne_self (n : Int)
  go_enter Ydcm.func17, Ydcm.ntmps17
  go_wp2_with fail
  go_quiet (fail)
  go_wp2_with fail
  refine (new_yes n _ hn).mono ?_
  rintro e w1 ⟨b, bp, bs, rfl, hS, hb, hbp, hbs, hF⟩
  have hF := ((Fr.refl [] w).drewN nq).trans hF
  have cc1 := (SetsAt.fr0 h1 hF).c0
  simp only [World.drewN] at hb hbp hbs
  clear c1 c2 ee
  go_wp2_with fail
  go_loopw [36] (fun v wr => ∃ (k : Nat) (p' s' : Nat → Nat) (c' : Nat), k ≤ n ∧ v = .int .i64 k ∧ SetsN wr b bp bs n p' s' c' ∧ Inv n p' s' c' ∧ Gens n (rt n p') (EJ p q k) ∧ Fr [] w wr) (fun v _ => n - (intOf v).toNat)
  case atStart =>
    refine ⟨0, fun x => x, fun _ => 1, n, Nat.zero_le _, rfl, hS, inv_new n, ?_, hF⟩
    refine ((Gens.id n).of_eq (fun _ _ h => h.elim) (fun x _ => rt_of_root n rfl)).iff (fun x y => ?_)
    constructor
    · intro h; exact h.elim
    · rintro ⟨i, hi, _⟩; omega
  case round =>
    clear hS hF cc1
    obtain ⟨k, p', s', c', hk, rfl, hS, I, hG, hF⟩ := hrel
    by_cases hlt : k < n
    · have hS1 := SetsAt.fr0 h1 hF
      have hS2 := SetsAt.fr0 h2 hF
      have cc1 := hS1.c0
      have cp := hS1.hp.cell k hlt
      have hpk := hp k hlt
      have hqk := hq k hlt
      have HG := hide hG
      clear hG
      go_wp2_with fail
      refine (union_in b bp bs n p' s' c' (p k) k _ hS I hn hpk hlt).mono ?_
      rintro e w2 ⟨rfl, hSa, hFa⟩
      have I1 := (I.union (a := p k) (b := k) hpk hlt).1
      have M1 := hide (I.union_merge (a := p k) (b := k) hpk hlt)
      have hF2 : Fr [] w w2 := hF.trans' hFa (by intro x hx hl; simp at hx; omega)
      have hS2b := SetsAt.fr0 h2 hF2
      have cc2 := hS2b.c0
      have cq := hS2b.hp.cell k hlt
      clear cc1 cp hS1 hS2
      go_wp2_with fail
      refine (union_in b bp bs n _ _ _ (q k) k _ hSa I1 hn hqk hlt).mono ?_
      rintro e w3 ⟨rfl, hSc, hFc⟩
      have I2 := (I1.union (a := q k) (b := k) hqk hlt).1
      have M2 := hide (I1.union_merge (a := q k) (b := k) hqk hlt)
      have hF3 : Fr [] w w3 := hF2.trans' hFc (by intro x hx hl; simp at hx; omega)
      clear cc2 cq hS2b
      go_wp2_with fail
      go_roundw
      case rel => exact ⟨k + 1, _, _, _, by omega, by go_num, hSc, I2, EJ.step hp hq hlt HG.out M1.out M2.out, hF3⟩
      case measure => simp [intOf] <;> omega
    · have hkn : k = n := by omega
      subst hkn
      go_wp2_with fail
      go_ret2
      exact ⟨b, bp, bs, p', s', c', rfl, hS, I, hG, hb, hbp, hbs, hF⟩
end Go.Proofs.Ymbrdc
