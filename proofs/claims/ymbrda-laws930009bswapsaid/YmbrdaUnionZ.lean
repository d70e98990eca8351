/-
  Union and Compress at any two ints, as plain functions.
-/
import Derived.Test.YmbrdaReads
namespace Go.Proofs.Ymbrda
open Go.RowKit
set_option linter.unusedSimpArgs false
set_option linter.unusedVariables false

def zP (n : Nat) (p s : Nat → Nat) (x y : Int) : Nat → Nat := if inb2 n x y then uP n p s x.toNat y.toNat else p
def zS (n : Nat) (p s : Nat → Nat) (x y : Int) : Nat → Nat := if inb2 n x y then uS n p s x.toNat y.toNat else s
def zC (n : Nat) (p : Nat → Nat) (c : Nat) (x y : Int) : Nat := if inb2 n x y then uC n p c x.toNat y.toNat else c
def zCode (n : Nat) (p : Nat → Nat) (x y : Int) : Int := if inb2 n x y then uCode n p x.toNat y.toNat else 2

theorem inb2_nat {n x y : Nat} (hx : x < n) (hy : y < n) : inb2 n x y = true := by simp [inb2, inb_nat hx, inb_nat hy]
theorem inb2_out {n : Nat} {x y : Int} (h : ¬ ((0 ≤ x ∧ x < (n : Int)) ∧ (0 ≤ y ∧ y < (n : Int)))) : inb2 n x y = false := by
  simp [inb2, inb]; omega

section
variable {n : Nat} {p s : Nat → Nat} {c : Nat}
theorem zP_nat {x y : Nat} (hx : x < n) (hy : y < n) : zP n p s x y = uP n p s x y := by simp [zP, inb2_nat hx hy]
theorem zS_nat {x y : Nat} (hx : x < n) (hy : y < n) : zS n p s x y = uS n p s x y := by simp [zS, inb2_nat hx hy]
theorem zC_nat {x y : Nat} (hx : x < n) (hy : y < n) : zC n p c x y = uC n p c x y := by simp [zC, inb2_nat hx hy]
theorem zCode_nat {x y : Nat} (hx : x < n) (hy : y < n) : zCode n p x y = uCode n p x y := by simp [zCode, inb2_nat hx hy]
theorem zP_out {x y : Int} (h : inb2 n x y = false) : zP n p s x y = p := by simp [zP, h]
theorem zS_out {x y : Int} (h : inb2 n x y = false) : zS n p s x y = s := by simp [zS, h]
theorem zC_out {x y : Int} (h : inb2 n x y = false) : zC n p c x y = c := by simp [zC, h]
theorem zCode_out {x y : Int} (h : inb2 n x y = false) : zCode n p x y = 2 := by simp [zCode, h]

theorem Inv.unionZ (h : Inv n p s c) (x y : Int) : Inv n (zP n p s x y) (zS n p s x y) (zC n p c x y) := by
  by_cases g : (0 ≤ x ∧ x < (n : Int)) ∧ (0 ≤ y ∧ y < (n : Int))
  · obtain ⟨a, rfl⟩ := Int.eq_ofNat_of_zero_le g.1.1
    obtain ⟨b, rfl⟩ := Int.eq_ofNat_of_zero_le g.2.1
    rw [zP_nat (by omega) (by omega), zS_nat (by omega) (by omega), zC_nat (by omega) (by omega)]
    exact (h.union (by omega) (by omega)).1
  · rw [zP_out (inb2_out g), zS_out (inb2_out g), zC_out (inb2_out g)]
    exact h
end

theorem union_any (b bp bs n : Nat) (p s : Nat → Nat) (c : Nat) (x y : Int) (w : World) (hS : SetsN w b bp bs n p s c) (I : Inv n p s c) (hn : n ≤ 1048576) :
    Calls Ydam.prog 19 #[.pointer (some ⟨b, 0, none⟩), .int .i64 x, .int .i64 y] w fun e w' => e = .returned (.int .i64 (zCode n p x y)) ∧
      SetsN w' b bp bs n (zP n p s x y) (zS n p s x y) (zC n p c x y) ∧ Fr [b, bp, bs] w w' := by
  by_cases g : (0 ≤ x ∧ x < (n : Int)) ∧ (0 ≤ y ∧ y < (n : Int))
  · obtain ⟨x', rfl⟩ := Int.eq_ofNat_of_zero_le g.1.1
    obtain ⟨y', rfl⟩ := Int.eq_ofNat_of_zero_le g.2.1
    rw [zP_nat (by omega) (by omega), zS_nat (by omega) (by omega), zC_nat (by omega) (by omega), zCode_nat (by omega) (by omega)]
    exact union_in b bp bs n p s c x' y' w hS I hn (by omega) (by omega)
  · have e := inb2_out g
    rw [zP_out e, zS_out e, zC_out e, zCode_out e]
    refine (union_out b n n _ p _ x y w hS.c0 hS.hp.rd I.forest ?_).mono ?_
    · unfold inb2 at e
      cases hx : inb n x <;> simp_all
    · rintro e w' ⟨rfl, rfl⟩
      exact ⟨rfl, hS, Fr.refl _ _⟩

/-- Compress at any int, of a Sets with its invariant. -/
theorem compress_inv (b bp bs n : Nat) (p s : Nat → Nat) (c : Nat) (x : Int) (w : World) (hS : SetsN w b bp bs n p s c) (I : Inv n p s c) :
    Calls Ydam.prog 29 #[.pointer (some ⟨b, 0, none⟩), .int .i64 x] w fun e w' => e = .returned (.bool (inb n x)) ∧
      ∃ q, SetsN w' b bp bs n q s c ∧ Inv n q s c ∧ (∀ y, y < n → rt n q y = rt n p y) ∧ Fr [b, bp, bs] w w' := by
  refine (compress_any b bp bs n p _ _ c x w hS I.forest).mono ?_
  rintro e w' ⟨rfl, q, h1, h2, h3, h4⟩
  refine ⟨rfl, q, h3, ?_⟩
  have h5 : Fr [b, bp, bs] w w' := h4.mono (by intro x hx _; simp at hx; simp [hx])
  cases hin : inb n x
  · rw [h2 hin]
    exact ⟨I, fun _ _ => rfl, h5⟩
  · have hxx : 0 ≤ x ∧ x < (n : Int) := by simpa [inb] using hin
    have hc := h1 hin
    have hx : x.toNat < n := by omega
    exact ⟨hc.inv I hx, fun y hy => hc.rt I.forest hx y hy, h5⟩
end Go.Proofs.Ymbrda
