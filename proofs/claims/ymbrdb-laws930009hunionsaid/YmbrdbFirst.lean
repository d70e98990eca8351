/-
  FIRST OCCURRENCES: labels by equal value; counting a value; zzs930009hcount, kfirsts, kcanon, kforest (where the seat has them).
-/
import Derived.Test.YmbrdbCanon
namespace Go.Proofs.Ymbrdb
open Go.RowKit
set_option linter.unusedSimpArgs false
set_option linter.unusedVariables false

/-- The least index with the value of i. -/
def labZ (z : Nat → Int) (i : Nat) : Nat := lst (fun y => z y == z i) i
theorem labZ_le (z : Nat → Int) (i : Nat) : labZ z i ≤ i := lst_le _ _
theorem labZ_val (z : Nat → Int) (i : Nat) : z (labZ z i) = z i := by
  unfold labZ
  rcases Nat.lt_or_ge (lst (fun y => z y == z i) i) i with h | h
  · simpa using lst_spec _ _ h
  · have := lst_le (fun y => z y == z i) i
    have e : lst (fun y => z y == z i) i = i := by omega
    rw [e]
theorem labZ_min (z : Nat → Int) (i j : Nat) (h : z j = z i) : labZ z i ≤ j := by
  rcases Nat.lt_or_ge j i with h1 | h1
  · exact lst_lt h1 (by simpa using h)
  · have := labZ_le z i; omega
theorem labZ_eq_iff (z : Nat → Int) (i j : Nat) : labZ z i = labZ z j ↔ z i = z j := by
  constructor
  · intro h; rw [← labZ_val z i, h, labZ_val z j]
  · intro h
    have h1 := labZ_min z i (labZ z j) (by rw [labZ_val z j, h])
    have h2 := labZ_min z j (labZ z i) (by rw [labZ_val z i, h])
    omega
/-- The first index found by a search is the label. -/
theorem labZ_found (z : Nat → Int) (i j : Nat) (hj : j ≤ i) (h : ∀ t, t < j → z t ≠ z i) (e : z j = z i) : labZ z i = j := by
  have h1 := labZ_min z i j e
  rcases Nat.lt_or_ge (labZ z i) j with h2 | h2
  · exact absurd (labZ_val z i) (h _ h2)
  · omega
theorem labZ_can (n : Nat) (z : Nat → Int) : CanN n (labZ z) := by
  intro i hi
  exact ⟨labZ_le z i, (labZ_eq_iff z (labZ z i) i).2 (labZ_val z i)⟩

theorem canZ_iff (n : Nat) (z : Nat → Int) : CanZ n z ↔ ∀ i, i < n → z i = (labZ z i : Int) := by
  constructor
  · intro h i hi
    obtain ⟨h1, h2, h3⟩ := h i hi
    have a := labZ_min z i (z i).toNat h3
    have hl := labZ_le z i
    obtain ⟨g1, g2, g3⟩ := h (labZ z i) (by omega)
    rw [labZ_val z i] at g2
    omega
  · intro h i hi
    have e := h i hi
    have hl := labZ_le z i
    refine ⟨by omega, by omega, ?_⟩
    have : (z i).toNat = labZ z i := by omega
    rw [this, labZ_val z i]

/-- What zzs930009hcount answers. -/
def hcn (n : Nat) (z : Nat → Int) (x : Int) : Int := if inb n x then (cnt (fun j => z j == z x.toNat) n : Int) else 0

set_option maxHeartbeats 400000 in
theorem hcount_any (a : Option Addr) (n d : Nat) (z : Nat → Int) (x : Int) (w : World) (hn : n ≤ 1048576) (r : Rd .i64 w a n z) :
    Calls Ydbm.prog 30 #[.slice a n d, .int .i64 x] w fun e w' => e = .returned (.tuple #[.int .i64 (hcn n z x), .bool (inb n x)]) ∧ Fr [] w w' := by
  by_cases h : 0 ≤ x ∧ x < (n : Int)
  · obtain ⟨y, rfl⟩ := Int.eq_ofNat_of_zero_le h.1
    have hy : y < n := by omega
    have e0 : hcn n z (y : Int) = (cnt (fun j => z j == z y) n : Int) := by unfold hcn; rw [inb_nat hy]; simp
    rw [e0, inb_nat hy]
    have ly : (y : Int) < (n : Int) := by omega
    go_enter Ydbm.func30, Ydbm.ntmps30
    go_wp2_with fail
    go_loopw [6, 7] (fun v6 v7 wr => ∃ k : Nat, k ≤ n ∧ v7 = .int .i64 k ∧ v6 = .int .i64 (cnt (fun j => z j == z y) k) ∧ Fr [] w wr) (fun _ v7 _ => n - (intOf v7).toNat)
    case atStart => exact ⟨0, Nat.zero_le _, rfl, rfl, Fr.refl _ _⟩
    case round =>
      obtain ⟨k, hk, rfl, rfl, hF⟩ := hrel
      have hcl := cnt_le (fun j => z j == z y) k
      have st : Hid (cnt (fun j => z j == z y) (k + 1) = cnt (fun j => z j == z y) k + if (z k == z y) = true then 1 else 0) := rfl
      by_cases hlt : k < n
      · obtain ⟨b0, o0, rfl, h0⟩ := (hF.rd0 r).at (by omega)
        have k0 := h0 k hlt
        have k1 := h0 y hy
        have lt' : (k : Int) < (n : Int) := by omega
        clear h0
        by_cases e : z k = z y
        · rw [e] at k0
          have E := hide e
          clear e
          have ee := beq_self (z y)
          go_wp2_with fail
          go_quiet (fail)
          go_wp2_with fail
          go_roundw
          case rel => exact ⟨k + 1, by omega, by go_num, by rw [st.out, if_pos (by simp [E.out])]; go_num, hF.drewN _⟩
          case measure => simp [intOf] <;> omega
        · have ee := beq_int e
          go_wp2_with fail
          go_quiet (fail)
          go_wp2_with fail
          go_roundw
          case rel => exact ⟨k + 1, by omega, by go_num, by rw [st.out, if_neg (by simp [e])]; go_num, hF.drewN _⟩
          case measure => simp [intOf] <;> omega
      · have hkn : k = n := by omega
        subst hkn
        go_wp2_with fail
        go_ret2
        exact ⟨rfl, hF⟩
  · have e0 : hcn n z x = 0 := by unfold hcn; rw [inb_out h]; simp
    rw [e0, inb_out h]
    by_cases h0 : x < 0
    · go_enter Ydbm.func30, Ydbm.ntmps30
      go_wp2_with fail
      go_ret2
      exact ⟨rfl, Fr.refl _ _⟩
    · have h1 : (n : Int) ≤ x := by omega
      go_enter Ydbm.func30, Ydbm.ntmps30
      go_wp2_with fail
      go_ret2
      exact ⟨rfl, Fr.refl _ _⟩
end Go.Proofs.Ymbrdb
