/-
  Same, SizeOf, Labels (where the seat has them).
-/
import Derived.Test.YmbrdbKit2
import Derived.Test.YmbrdbPlain2
namespace Go.Proofs.Ymbrdb
open Go.RowKit
set_option linter.unusedSimpArgs false
set_option linter.unusedVariables false

/-- What Same says. -/
def sameB (n : Nat) (p : Nat → Nat) (x y : Int) : Bool := inb n x && inb n y && (fnd n p x == fnd n p y)
/-- Are both elements? -/
def inb2 (n : Nat) (x y : Int) : Bool := inb n x && inb n y

theorem sameB_nat {n x y : Nat} (p : Nat → Nat) (hx : x < n) (hy : y < n) : sameB n p x y = decide (rt n p x = rt n p y) := by
  unfold sameB
  rw [inb_nat hx, inb_nat hy, fnd_nat p hx, fnd_nat p hy]
  by_cases e : rt n p x = rt n p y
  · simp [e]
  · simp [e]; omega

set_option maxHeartbeats 400000 in
theorem same_any (b n cap : Nat) (a : Option Addr) (p μ : Nat → Nat) (x y : Int) (w : World) (c0 : w.cell? ⟨b, 0, none⟩ = some (.slice a n cap)) (r : Rd .i64 w a n fun i => (p i : Int)) (F : Forest n p μ) :
    Calls Ydbm.prog 33 #[.pointer (some ⟨b, 0, none⟩), .int .i64 x, .int .i64 y] w fun e w' => e = .returned (.tuple #[.bool (sameB n p x y), .bool (inb2 n x y)]) ∧ w' = w := by
  go_enter Ydbm.func33, Ydbm.ntmps33
  go_wp2_with fail
  refine (find_any b n cap a p μ x _ c0 r F).mono ?_
  rintro e w' ⟨rfl, rfl⟩
  go_wp2_with fail
  refine (find_any b n cap a p μ y _ c0 r F).mono ?_
  rintro e w' ⟨rfl, rfl⟩
  cases hx : inb n x
  · go_wp2_with fail
    go_ret2
    exact ⟨by simp [sameB, inb2, hx], rfl⟩
  · cases hy : inb n y
    · go_wp2_with fail
      go_ret2
      exact ⟨by simp [sameB, inb2, hx, hy], rfl⟩
    · go_wp2_with fail
      go_ret2
      exact ⟨by simp [sameB, inb2, hx, hy], rfl⟩

/-- What SizeOf says. -/
def szof (n : Nat) (p s : Nat → Nat) (x : Int) : Int := if inb n x then (s (rt n p x.toNat) : Int) else 0
theorem szof_nat {n x : Nat} (p s : Nat → Nat) (h : x < n) : szof n p s x = s (rt n p x) := by
  unfold szof; rw [inb_nat h]; simp
theorem szof_out {n : Nat} {x : Int} (p s : Nat → Nat) (h : inb n x = false) : szof n p s x = 0 := by
  unfold szof; rw [h]; simp

set_option maxHeartbeats 400000 in
theorem sizeOf_any (b bp bs n : Nat) (p s μ : Nat → Nat) (c : Int) (x : Int) (w : World) (hS : SetsAt w b bp bs n (fun i => (p i : Int)) (fun i => (s i : Int)) c) (F : Forest n p μ) :
    Calls Ydbm.prog 32 #[.pointer (some ⟨b, 0, none⟩), .int .i64 x] w fun e w' => e = .returned (.tuple #[.int .i64 (szof n p s x), .bool (inb n x)]) ∧ w' = w := by
  have c1 := hS.c1
  by_cases h : 0 ≤ x ∧ x < (n : Int)
  · obtain ⟨y, rfl⟩ := Int.eq_ofNat_of_zero_le h.1
    have hy : y < n := by omega
    have hr := F.rt_lt y hy
    have cs := hS.hs.cell _ hr
    rw [inb_nat hy, szof_nat p s hy]
    go_enter Ydbm.func32, Ydbm.ntmps32
    go_wp2_with fail
    refine (find_in b n n _ p μ y _ hS.c0 hS.hp.rd F hy).mono ?_
    rintro e w' ⟨rfl, rfl⟩
    go_wp2_with fail
    go_ret2
    exact ⟨rfl, rfl⟩
  · rw [szof_out p s (inb_out h), inb_out h]
    go_enter Ydbm.func32, Ydbm.ntmps32
    go_wp2_with fail
    refine (find_out b n n _ x _ hS.c0 h).mono ?_
    rintro e w' ⟨rfl, rfl⟩
    go_wp2_with fail
    go_ret2
    exact ⟨rfl, rfl⟩
end Go.Proofs.Ymbrdb
