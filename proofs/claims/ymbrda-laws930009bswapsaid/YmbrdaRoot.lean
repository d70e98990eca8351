/-
  root, Find.
-/
import Derived.Test.YmbrdaNew
import Derived.Test.YmbrdaPlain
namespace Go.Proofs.Ymbrda
open Go.RowKit
set_option linter.unusedSimpArgs false
set_option linter.unusedVariables false

set_option maxHeartbeats 400000 in
theorem root_any (b n cap : Nat) (a : Option Addr) (p μ : Nat → Nat) (x : Nat) (w : World) (c0 : w.cell? ⟨b, 0, none⟩ = some (.slice a n cap)) (r : Rd .i64 w a n fun i => (p i : Int)) (F : Forest n p μ) (hx : x < n) :
    Calls Ydam.prog 35 #[.pointer (some ⟨b, 0, none⟩), .int .i64 x] w fun e w' => e = .returned (.int .i64 (rt n p x)) ∧ w' = w := by
  obtain ⟨b1, off, rfl, hr⟩ := r.at (by omega)
  go_enter Ydam.func35, Ydam.ntmps35
  go_wp2
  go_loop [1] (fun v => ∃ y : Nat, y < n ∧ v = .int .i64 y ∧ rt n p y = rt n p x) (fun v => μ (intOf v).toNat)
  case atStart => exact ⟨x, hx, rfl, rfl⟩
  case round =>
    obtain ⟨y, hy, rfl, he⟩ := hrel
    have H : Hid (rt n p y = rt n p x) := he
    clear he
    have cy := hr y hy
    by_cases e : p y = y
    · have e1 : ((p y : Int) != (y : Int)) = false := by simp [e]
      go_wp2
      go_ret
      refine ⟨?_, rfl⟩
      rw [← H.out, rt_of_root n e]
      rfl
    · have e1 : ((p y : Int) != (y : Int)) = true := by simp; omega
      go_wp2
      go_round
      case rel => exact ⟨p y, F.lt y hy, rfl, by rw [F.rt_p y hy]; exact H.out⟩
      case measure =>
        have := F.dec y hy e
        simp [intOf]; exact this

/-- Is x an element? -/
def inb (n : Nat) (x : Int) : Bool := decide (0 ≤ x ∧ x < (n : Int))
/-- What Find answers. -/
def fnd (n : Nat) (p : Nat → Nat) (x : Int) : Int := if 0 ≤ x ∧ x < (n : Int) then (rt n p x.toNat : Int) else 0

theorem inb_nat {n x : Nat} (h : x < n) : inb n x = true := by simp [inb]; omega
theorem fnd_nat {n x : Nat} (p : Nat → Nat) (h : x < n) : fnd n p x = rt n p x := by simp [fnd]; omega
theorem inb_out {n : Nat} {x : Int} (h : ¬ (0 ≤ x ∧ x < (n : Int))) : inb n x = false := by simpa [inb] using h
theorem fnd_out {n : Nat} {x : Int} (p : Nat → Nat) (h : ¬ (0 ≤ x ∧ x < (n : Int))) : fnd n p x = 0 := by unfold fnd; rw [if_neg h]

set_option maxHeartbeats 400000 in
theorem find_in (b n cap : Nat) (a : Option Addr) (p μ : Nat → Nat) (x : Nat) (w : World) (c0 : w.cell? ⟨b, 0, none⟩ = some (.slice a n cap)) (r : Rd .i64 w a n fun i => (p i : Int)) (F : Forest n p μ) (hx : x < n) :
    Calls Ydam.prog 20 #[.pointer (some ⟨b, 0, none⟩), .int .i64 x] w fun e w' => e = .returned (.tuple #[.int .i64 (rt n p x), .bool true]) ∧ w' = w := by
  have h0 : (n : Int) > x := by omega
  go_enter Ydam.func20, Ydam.ntmps20
  go_wp2_with (go_at_call 35; refine (root_any b n cap a p μ x _ c0 r F hx).mono ?_; rintro e w' ⟨rfl, rfl⟩)
  go_ret2
  exact ⟨rfl, rfl⟩

set_option maxHeartbeats 400000 in
theorem find_out (b n cap : Nat) (a : Option Addr) (x : Int) (w : World) (c0 : w.cell? ⟨b, 0, none⟩ = some (.slice a n cap)) (hx : ¬ (0 ≤ x ∧ x < (n : Int))) :
    Calls Ydam.prog 20 #[.pointer (some ⟨b, 0, none⟩), .int .i64 x] w fun e w' => e = .returned (.tuple #[.int .i64 0, .bool false]) ∧ w' = w := by
  by_cases h0 : x < 0
  · go_enter Ydam.func20, Ydam.ntmps20
    go_wp2
    go_ret2
    exact ⟨rfl, rfl⟩
  · have h1 : (n : Int) ≤ x := by omega
    go_enter Ydam.func20, Ydam.ntmps20
    go_wp2
    go_ret2
    exact ⟨rfl, rfl⟩

theorem find_any (b n cap : Nat) (a : Option Addr) (p μ : Nat → Nat) (x : Int) (w : World) (c0 : w.cell? ⟨b, 0, none⟩ = some (.slice a n cap)) (r : Rd .i64 w a n fun i => (p i : Int)) (F : Forest n p μ) :
    Calls Ydam.prog 20 #[.pointer (some ⟨b, 0, none⟩), .int .i64 x] w fun e w' => e = .returned (.tuple #[.int .i64 (fnd n p x), .bool (inb n x)]) ∧ w' = w := by
  by_cases h : 0 ≤ x ∧ x < (n : Int)
  · obtain ⟨y, rfl⟩ := Int.eq_ofNat_of_zero_le h.1
    have hy : y < n := by omega
    have := find_in b n cap a p μ y w c0 r F hy
    rw [inb_nat hy, fnd_nat p hy]
    exact this
  · rw [inb_out h, fnd_out p h]
    exact find_out b n cap a x w c0 h
end Go.Proofs.Ymbrda
