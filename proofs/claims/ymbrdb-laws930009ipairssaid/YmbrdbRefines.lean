/-
  Refines, Join.
-/
import Derived.Test.YmbrdbIplay
namespace Go.Proofs.Ymbrdb
open Go.RowKit
set_option linter.unusedSimpArgs false
set_option linter.unusedVariables false

set_option maxHeartbeats 1000000 in
theorem refines_row (b1 b2 n d1 m d2 : Nat) (a1 a2 : Option Addr) (p q μ : Nat → Nat) (w : World) (hn : n ≤ 9223372036854775807) (c1 : w.cell? ⟨b1, 0, none⟩ = some (.slice a1 n d1)) (c2 : w.cell? ⟨b2, 0, none⟩ = some (.slice a2 m d2))
    (r1 : Rd .i64 w a1 n fun i => (p i : Int)) (r2 : Rd .i64 w a2 m fun i => (q i : Int)) (hp : ∀ i, i < n → p i < n) (F : Forest m q μ) :
    Calls Ydbm.prog 37 #[.pointer (some ⟨b1, 0, none⟩), .pointer (some ⟨b2, 0, none⟩)] w fun e w' => Tells e (n = m ∧ ∀ i, i < n → rt m q i = rt m q (p i)) ∧ Fr [] w w' := by
  by_cases hmn : m = n
  · subst hmn
    have ee := bne_self (m : Int)
    go_enter Ydbm.func37, Ydbm.ntmps37
    go_wp2_with fail
    go_quiet (fail)
    go_wp2_with fail
    go_loopw [23] (fun v wr => ∃ k : Nat, k ≤ m ∧ v = .int .i64 k ∧ (∀ i, i < k → rt m q i = rt m q (p i)) ∧ Fr [] w wr) (fun v _ => m - (intOf v).toNat)
    case atStart => exact ⟨0, Nat.zero_le _, rfl, fun t ht => absurd ht (Nat.not_lt_zero _), (Fr.refl _ _).drewN _⟩
    case round =>
      obtain ⟨k, hk, rfl, hz, hF⟩ := hrel
      have Hz := hide hz
      clear hz
      by_cases hlt : k < m
      · have cc2 := (hF.cell (p := ⟨b2, 0, none⟩) (World.block_lt_of_cell? _ _ c2) (by simp)).trans c2
        have rr2 := hF.rd0 r2
        obtain ⟨b0, o0, rfl, h0⟩ := (hF.rd0 r1).at (by omega)
        have k0 := h0 k hlt
        have hpk := hp k hlt
        clear h0 c1 c2 ee
        go_wp2_with fail
        refine (root_any b2 m d2 a2 q μ k _ cc2 rr2 F hlt).mono ?_
        rintro e _ ⟨rfl, rfl⟩
        go_wp2_with fail
        refine (root_any b2 m d2 a2 q μ (p k) _ cc2 rr2 F hpk).mono ?_
        rintro e w4 ⟨rfl, rfl⟩
        by_cases e : rt m q k = rt m q (p k)
        · rw [e]
          have E := hide e
          clear e
          have ee := bne_self (rt m q (p k))
          go_wp2_with fail
          go_roundw
          case rel =>
            refine ⟨k + 1, by omega, by go_num, ?_, hF⟩
            intro i hi
            by_cases ei : i = k
            · subst ei; exact E.out
            · exact Hz.out i (by omega)
          case measure => simp [intOf] <;> omega
        · have ee := bne_nat e
          go_wp2_with fail
          go_ret
          exact ⟨Tells.no (fun h => e (h.2 k hlt)), hF⟩
      · go_wp2_with fail
        go_ret
        exact ⟨Tells.yes ⟨by trivial, fun i hi => Hz.out i (by omega)⟩, hF⟩
  · have ee : ((n : Int) != (m : Int)) = true := by simp; omega
    go_enter Ydbm.func37, Ydbm.ntmps37
    go_wp2_with fail
    go_quiet (fail)
    go_wp2_with fail
    go_ret
    exact ⟨Tells.no (fun h => hmn (by have := h.1; omega)), (Fr.refl _ _).drewN _⟩

/-- Refines, of two Sets with their invariants. -/
theorem refines_any (b1 bp1 bs1 n b2 bp2 bs2 m : Nat) (p s q t : Nat → Nat) (c d : Nat) (w : World) (hn : n ≤ 1048576) (h1 : SetsN w b1 bp1 bs1 n p s c) (h2 : SetsN w b2 bp2 bs2 m q t d) (I : Inv n p s c) (J : Inv m q t d) :
    Calls Ydbm.prog 37 #[.pointer (some ⟨b1, 0, none⟩), .pointer (some ⟨b2, 0, none⟩)] w fun e w' => Tells e (n = m ∧ Finer n (rt n p) (rt m q)) ∧ Fr [] w w' := by
  refine (refines_row b1 b2 n n m m _ _ p q _ w (by omega) h1.c0 h2.c0 h1.hp.rd h2.hp.rd I.lt J.forest).mono ?_
  rintro e w' ⟨⟨r, rfl, hr⟩, hF⟩
  refine ⟨⟨r, rfl, hr.trans ?_⟩, hF⟩
  rw [finer_parents I.forest]

end Go.Proofs.Ymbrdb
