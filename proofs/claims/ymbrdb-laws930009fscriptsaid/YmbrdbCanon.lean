/-
  CANONICAL LABELS OUT OF RAW DATA: element i hangs at i or at an earlier one.
-/
import Derived.Test.YmbrdbFromL
import Derived.Test.YmbrdbSmall
namespace Go.Proofs.Ymbrdb
open Go.RowKit
set_option linter.unusedSimpArgs false
set_option linter.unusedVariables false

def cq (z : Nat → Int) (i : Nat) : Nat := (z i).toNat % (i + 1)
theorem cq_le (z : Nat → Int) (i : Nat) : cq z i ≤ i := by unfold cq; have : (z i).toNat % (i + 1) < i + 1 := Nat.mod_lt _ (by omega); omega
theorem cq_forest (n : Nat) (z : Nat → Int) : Forest n (cq z) (fun x => x) := by
  refine ⟨?_, fun x hx => hx, ?_⟩
  · intro x hx; have := cq_le z x; omega
  · intro x hx hne; have := cq_le z x; show cq z x < x; omega
theorem cq_int (z : Nat → Int) (k : Nat) (h : 0 ≤ z k) : z k % ((k : Int) + 1) = (cq z k : Int) := by
  have e := toNat_mod h (k + 1)
  rw [show (((k + 1 : Nat)) : Int) = (k : Int) + 1 from by omega] at e
  unfold cq
  omega

theorem it_le {q : Nat → Nat} (hle : ∀ i, q i ≤ i) (k x : Nat) : it q k x ≤ x := by
  induction k generalizing x with
  | zero => exact Nat.le_refl _
  | succ k ih => have := ih (q x); have := hle x; show it q k (q x) ≤ x; omega

/-- The root of such a forest is a canonical label. -/
theorem cq_can (n : Nat) (z : Nat → Int) : CanN n (rt n (cq z)) := by
  intro i hi
  exact ⟨it_le (cq_le z) n i, (cq_forest n z).rt_rt i hi⟩

/-- A half-filled row of labels is filled by one more: at a root the element itself, else what lies at the parent. -/
theorem cq_root {n : Nat} (z : Nat → Int) (k : Nat) (e : cq z k = k) : rt n (cq z) k = k := rt_of_root n e
theorem cq_hang {n : Nat} (z : Nat → Int) (k : Nat) (hk : k < n) : rt n (cq z) k = rt n (cq z) (cq z k) := ((cq_forest n z).rt_p k hk).symm

theorem can_lab_eq {n : Nat} {L μ : Nat → Nat} (hc : CanN n L) (F : Forest n L μ) (i : Nat) (hi : i < n) : lab (rt n L) i = L i := by
  rw [(SameKer.of_eq (fun x hx => hc.rt F x hx) : SameKer n (rt n L) L).lab i hi]
  have h1 := (hc i hi).2
  have h2 := lab_min L i (L i) h1
  have h3 := lab_le L i
  have h4 := (hc (lab L i) (by omega)).1
  rw [lab_val L i] at h4
  omega

set_option maxHeartbeats 400000 in
theorem fagrees_yes (b n cap d : Nat) (a a2 : Option Addr) (p μ : Nat → Nat) (x : Int) (w : World) (c0 : w.cell? ⟨b, 0, none⟩ = some (.slice a n cap)) (r : Rd .i64 w a n fun i => (p i : Int)) (F : Forest n p μ) (r2 : Rd .i64 w a2 n fun i => (rt n p i : Int)) :
    Calls Ydbm.prog 21 #[.pointer (some ⟨b, 0, none⟩), .slice a2 n d, .int .i64 x] w fun e w' => e = .returned (.bool true) ∧ w' = w := by
  by_cases h : 0 ≤ x ∧ x < (n : Int)
  · obtain ⟨y, rfl⟩ := Int.eq_ofNat_of_zero_le h.1
    have hy : y < n := by omega
    obtain ⟨b1, o1, rfl, h1⟩ := r2.at (by omega)
    have cy := h1 y hy
    have ee := beq_self (rt n p y)
    clear h1
    go_enter Ydbm.func21, Ydbm.ntmps21
    go_wp2_with fail
    refine (find_in b n cap a p μ y _ c0 r F hy).mono ?_
    rintro e w' ⟨rfl, rfl⟩
    go_wp2_with fail
    go_ret
    exact ⟨by simp, rfl⟩
  · by_cases h0 : 0 ≤ x
    · have h1 : ¬ x < (n : Int) := by omega
      go_enter Ydbm.func21, Ydbm.ntmps21
      go_wp2_with fail
      refine (find_out b n cap a x _ c0 h).mono ?_
      rintro e w' ⟨rfl, rfl⟩
      go_wp2_with fail
      go_ret
      exact ⟨by simp, rfl⟩
    · go_enter Ydbm.func21, Ydbm.ntmps21
      go_wp2_with fail
      refine (find_out b n cap a x _ c0 h).mono ?_
      rintro e w' ⟨rfl, rfl⟩
      go_wp2_with fail
      go_ret
      exact ⟨by simp, rfl⟩
end Go.Proofs.Ymbrdb
