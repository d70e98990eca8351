/-
  SMALL THINGS MORE: filling an array from below.
-/
import Derived.Test.YmbrdaOpen
import Derived.Test.YmbrdaUnion
import Derived.Deep.Cut
import Derived.Deep.CutRange
namespace Go.Proofs.Ymbrda
open Go.RowKit
set_option linter.unusedSimpArgs false
set_option linter.unusedVariables false

/-- The first k places hold g, the rest d. -/
def fil {α : Type} (k : Nat) (g d : Nat → α) : Nat → α := fun i => if i < k then g i else d i
theorem fil_zero {α : Type} (g d : Nat → α) (i : Nat) : fil 0 g d i = d i := by simp [fil]
theorem fil_done {α : Type} {n : Nat} (g d : Nat → α) {i : Nat} (h : i < n) : fil n g d i = g i := by simp [fil, h]
theorem fil_lt {α : Type} {k : Nat} (g d : Nat → α) {i : Nat} (h : i < k) : fil k g d i = g i := by simp [fil, h]
theorem fil_ge {α : Type} {k : Nat} (g d : Nat → α) {i : Nat} (h : ¬ i < k) : fil k g d i = d i := by simp [fil, h]
theorem fil_step {α : Type} (k : Nat) (g d : Nat → α) (v : α) (hv : v = g k) (i : Nat) : upd (fil k g d) k v i = fil (k + 1) g d i := by
  subst hv
  unfold upd fil
  by_cases e : i = k
  · subst e; simp
  · by_cases e2 : i < k
    · rw [if_neg e, if_pos e2, if_pos (by omega)]
    · rw [if_neg e, if_neg e2, if_neg (by omega)]

/-- A row filled up by one. -/
theorem ARow.fill {w : World} {b n k : Nat} {g d : Nat → Int} (h : ARow w b n (fil k g d)) (v : Int) (hv : v = g k) : ARow (w.setCell ⟨b, k, none⟩ (.int .i64 v)) b n (fil (k + 1) g d) :=
  (h.set k v).congr fun i _ => fil_step k g d v hv i

/-- The ending is a bool that tells whether Q. -/
def Tells (e : Ending) (Q : Prop) : Prop := ∃ r : Bool, e = .returned (.bool r) ∧ (r = true ↔ Q)
theorem Tells.yes {Q : Prop} (h : Q) : Tells (.returned (.bool true)) Q := ⟨true, rfl, fun _ => h, fun _ => rfl⟩
theorem Tells.no {Q : Prop} (h : ¬ Q) : Tells (.returned (.bool false)) Q := ⟨false, rfl, fun e => (by cases e), fun q => absurd q h⟩
theorem Tells.of {Q : Prop} {r : Bool} (h : r = true ↔ Q) : Tells (.returned (.bool r)) Q := ⟨r, rfl, h⟩

theorem cnt_eq_step (f : Nat → Nat) (r j : Nat) : cnt (fun y => f y == r) (j + 1) = cnt (fun y => f y == r) j + if f j = r then 1 else 0 := by
  simp [cnt]

theorem ret_bool {a b : Bool} (h : a = b) : Ending.returned (.bool a) = .returned (.bool b) := by rw [h]
theorem ret_int {a b : Int} (h : a = b) : Ending.returned (.int .i64 a) = .returned (.int .i64 b) := by rw [h]

/-- Two numbers told apart, in the walk's own form. -/
theorem bne_self (a : Int) : (a != a) = false := by simp
theorem beq_self (a : Int) : (a == a) = true := by simp
theorem bne_nat {a b : Nat} (h : a ≠ b) : ((a : Int) != (b : Int)) = true := by simp; omega
theorem beq_nat {a b : Nat} (h : a ≠ b) : ((a : Int) == (b : Int)) = false := by simp; omega
theorem bne_int {a b : Int} (h : a ≠ b) : (a != b) = true := by simpa using h
theorem beq_int {a b : Int} (h : a ≠ b) : (a == b) = false := by simpa using h
theorem dec_true {p : Prop} [Decidable p] (h : p) : decide p = true := by simpa using h
theorem dec_false {p : Prop} [Decidable p] (h : ¬ p) : decide p = false := by simpa using h

/-- Compress at any x. -/
theorem compress_any (b bp bs n : Nat) (p μ : Nat → Nat) (s : Nat → Int) (c : Int) (x : Int) (w : World) (hS : SetsAt w b bp bs n (fun i => (p i : Int)) s c) (F : Forest n p μ) :
    Calls Ydam.prog 29 #[.pointer (some ⟨b, 0, none⟩), .int .i64 x] w fun e w' => e = .returned (.bool (inb n x)) ∧
      ∃ q, (inb n x = true → Cpd n p x.toNat q) ∧ (inb n x = false → q = p) ∧ SetsAt w' b bp bs n (fun i => ((q i : Nat) : Int)) s c ∧ Fr [bp] w w' := by
  by_cases h : 0 ≤ x ∧ x < (n : Int)
  · obtain ⟨y, rfl⟩ := Int.eq_ofNat_of_zero_le h.1
    have hy : y < n := by omega
    rw [inb_nat hy]
    refine (compress_in b bp bs n p μ s c y w hS F hy).mono ?_
    rintro e w' ⟨rfl, q, h1, h2, h3⟩
    exact ⟨rfl, q, fun _ => by simpa using h1, fun h => (by cases h), h2, h3⟩
  · rw [inb_out h]
    refine (compress_out b n n _ x w hS.c0 h).mono ?_
    rintro e w' ⟨rfl, rfl⟩
    exact ⟨rfl, p, fun h => (by cases h), fun _ => rfl, hS, Fr.refl _ _⟩
end Go.Proofs.Ymbrda
