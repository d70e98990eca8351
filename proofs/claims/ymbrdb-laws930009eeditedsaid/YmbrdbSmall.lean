/-
  SMALL FUNCTIONS OF THE LAWS: slices compared, copied, filled with 0, 1, 2, ..
-/
import Derived.Test.YmbrdbKit2
namespace Go.Proofs.Ymbrdb
open Go.RowKit
set_option linter.unusedSimpArgs false
set_option linter.unusedVariables false

theorem fil_skip {α : Type} (k : Nat) (g d : Nat → α) (hv : g k = d k) (i : Nat) : fil k g d i = fil (k + 1) g d i := by
  unfold fil
  by_cases e2 : i < k
  · rw [if_pos e2, if_pos (by omega)]
  · rw [if_neg e2]
    by_cases e : i = k
    · subst e; rw [if_pos (by omega), hv]
    · rw [if_neg (by omega)]
theorem ARow.fskip {w : World} {b n k : Nat} {g d : Nat → Int} (h : ARow w b n (fil k g d)) (hv : g k = d k) : ARow w b n (fil (k + 1) g d) :=
  h.congr fun i _ => fil_skip k g d hv i

set_option maxHeartbeats 400000 in
theorem eeq_any (a0 a1 : Option Addr) (n d0 m d1 : Nat) (f g : Nat → Int) (w : World) (hn : n ≤ 9223372036854775807) (hm : m ≤ 9223372036854775807) (r0 : Rd .i64 w a0 n f) (r1 : Rd .i64 w a1 m g) :
    Calls Ydbm.prog 18 #[.slice a0 n d0, .slice a1 m d1] w fun e w' => Tells e (n = m ∧ ∀ i, i < n → f i = g i) ∧ Fr [] w w' := by
  by_cases hmn : m = n
  · subst hmn
    go_enter Ydbm.func18, Ydbm.ntmps18
    go_wp2_with fail
    go_loopw [5] (fun v wr => ∃ k : Nat, k ≤ m ∧ v = .int .i64 k ∧ (∀ i, i < k → f i = g i) ∧ Fr [] w wr) (fun v _ => m - (intOf v).toNat)
    case atStart => exact ⟨0, Nat.zero_le _, rfl, fun i hi => absurd hi (Nat.not_lt_zero _), Fr.refl _ _⟩
    case round =>
      obtain ⟨k, hk, rfl, he, hF⟩ := hrel
      have He := hide he
      clear he
      by_cases hlt : k < m
      · obtain ⟨b0, o0, rfl, h0⟩ := (hF.rd0 r0).at (by omega)
        obtain ⟨b1, o1, rfl, h1⟩ := (hF.rd0 r1).at (by omega)
        have k0 := h0 k hlt
        have k1 := h1 k hlt
        have lt' : (k : Int) < (m : Int) := by omega
        clear h0 h1
        by_cases e : f k = g k
        · rw [e] at k0
          have E := hide e
          clear e
          have ee := bne_self (g k)
          go_wp2_with fail
          go_quiet (fail)
          go_wp2_with fail
          go_roundw
          case rel =>
            refine ⟨k + 1, by omega, by go_num, ?_, hF.drewN _⟩
            intro i hi
            by_cases ei : i = k
            · subst ei; exact E.out
            · exact He.out i (by omega)
          case measure => simp [intOf] <;> omega
        · have ee := bne_int e
          go_wp2_with fail
          go_quiet (fail)
          go_wp2_with fail
          go_ret
          exact ⟨Tells.no (fun h => e (h.2 k hlt)), hF.drewN _⟩
      · go_wp2_with fail
        go_ret
        exact ⟨Tells.yes ⟨by trivial, fun i hi => He.out i (by omega)⟩, hF⟩
  · have hd : ((n : Int) != (m : Int)) = true := by simp; omega
    go_enter Ydbm.func18, Ydbm.ntmps18
    go_wp2_with fail
    go_ret
    exact ⟨Tells.no (fun h => hmn (by have := h.1; omega)), Fr.refl _ _⟩

set_option maxHeartbeats 400000 in
theorem feq_any (a0 a1 : Option Addr) (n d0 m d1 : Nat) (f g : Nat → Int) (w : World) (hn : n ≤ 9223372036854775807) (hm : m ≤ 9223372036854775807) (r0 : Rd .i64 w a0 n f) (r1 : Rd .i64 w a1 m g) :
    Calls Ydbm.prog 22 #[.slice a0 n d0, .slice a1 m d1] w fun e w' => Tells e (n = m ∧ ∀ i, i < n → f i = g i) ∧ Fr [] w w' := by
  by_cases hmn : m = n
  · subst hmn
    go_enter Ydbm.func22, Ydbm.ntmps22
    go_wp2_with fail
    go_loopw [5] (fun v wr => ∃ k : Nat, k ≤ m ∧ v = .int .i64 k ∧ (∀ i, i < k → f i = g i) ∧ Fr [] w wr) (fun v _ => m - (intOf v).toNat)
    case atStart => exact ⟨0, Nat.zero_le _, rfl, fun i hi => absurd hi (Nat.not_lt_zero _), Fr.refl _ _⟩
    case round =>
      obtain ⟨k, hk, rfl, he, hF⟩ := hrel
      have He := hide he
      clear he
      by_cases hlt : k < m
      · obtain ⟨b0, o0, rfl, h0⟩ := (hF.rd0 r0).at (by omega)
        obtain ⟨b1, o1, rfl, h1⟩ := (hF.rd0 r1).at (by omega)
        have k0 := h0 k hlt
        have k1 := h1 k hlt
        have lt' : (k : Int) < (m : Int) := by omega
        clear h0 h1
        by_cases e : f k = g k
        · rw [e] at k0
          have E := hide e
          clear e
          have ee := bne_self (g k)
          go_wp2_with fail
          go_quiet (fail)
          go_wp2_with fail
          go_roundw
          case rel =>
            refine ⟨k + 1, by omega, by go_num, ?_, hF.drewN _⟩
            intro i hi
            by_cases ei : i = k
            · subst ei; exact E.out
            · exact He.out i (by omega)
          case measure => simp [intOf] <;> omega
        · have ee := bne_int e
          go_wp2_with fail
          go_quiet (fail)
          go_wp2_with fail
          go_ret
          exact ⟨Tells.no (fun h => e (h.2 k hlt)), hF.drewN _⟩
      · go_wp2_with fail
        go_ret
        exact ⟨Tells.yes ⟨by trivial, fun i hi => He.out i (by omega)⟩, hF⟩
  · have hd : ((n : Int) != (m : Int)) = true := by simp; omega
    go_enter Ydbm.func22, Ydbm.ntmps22
    go_wp2_with fail
    go_ret
    exact ⟨Tells.no (fun h => hmn (by have := h.1; omega)), Fr.refl _ _⟩

set_option maxHeartbeats 400000 in
theorem ecopy_any (a0 : Option Addr) (n d0 : Nat) (f : Nat → Int) (w : World) (hn : n ≤ 1048576) (r0 : Rd .i64 w a0 n f) :
    Calls Ydbm.prog 17 #[.slice a0 n d0] w fun e w' => ∃ bo, e = .returned (.slice (some ⟨bo, 0, none⟩) n n) ∧ ARow w' bo n f ∧ w.heap.size ≤ bo ∧ Fr [] w w' := by
  have hmk := mk n hn
  go_enter Ydbm.func17, Ydbm.ntmps17
  go_wp2_with fail
  have hF : Fr [] w (w.alloc (.cells (row n fun _ => 0) 3)) := (Fr.refl _ _).alloc _
  go_loopw [4] (fun v wr => ∃ k : Nat, k ≤ n ∧ v = .int .i64 k ∧ ARow wr w.heap.size n (fil k f fun _ => 0) ∧ Fr [] w wr) (fun v _ => n - (intOf v).toNat)
  case atStart => exact ⟨0, Nat.zero_le _, rfl, (ARow.new w n fun _ => 0).congr (by simp [fil]), hF⟩
  case round =>
    clear hF
    obtain ⟨k, hk, rfl, hA, hF⟩ := hrel
    by_cases hlt : k < n
    · obtain ⟨b0, o0, rfl, h0⟩ := (hF.rd0 r0).at (by omega)
      have k0 := h0 k hlt
      have ck := hA.cell k hlt
      have fk := hA.frozen k
      clear h0
      go_wp2_with fail
      go_roundw
      case rel => exact ⟨k + 1, by omega, by go_num, hA.fill _ rfl, hF.setCell _ (.inr (Nat.le_refl _)) _⟩
      case measure => simp [intOf] <;> omega
    · go_wp2_with fail
      go_ret
      exact ⟨_, rfl, hA.congr (fun i hi => fil_lt _ _ (by omega)), Nat.le_refl _, hF⟩

set_option maxHeartbeats 400000 in
theorem fcopy_any (a0 : Option Addr) (n d0 : Nat) (f : Nat → Int) (w : World) (hn : n ≤ 1048576) (r0 : Rd .i64 w a0 n f) :
    Calls Ydbm.prog 20 #[.slice a0 n d0] w fun e w' => ∃ bo, e = .returned (.slice (some ⟨bo, 0, none⟩) n n) ∧ ARow w' bo n f ∧ w.heap.size ≤ bo ∧ Fr [] w w' := by
  have hmk := mk n hn
  go_enter Ydbm.func20, Ydbm.ntmps20
  go_wp2_with fail
  have hF : Fr [] w (w.alloc (.cells (row n fun _ => 0) 3)) := (Fr.refl _ _).alloc _
  go_loopw [4] (fun v wr => ∃ k : Nat, k ≤ n ∧ v = .int .i64 k ∧ ARow wr w.heap.size n (fil k f fun _ => 0) ∧ Fr [] w wr) (fun v _ => n - (intOf v).toNat)
  case atStart => exact ⟨0, Nat.zero_le _, rfl, (ARow.new w n fun _ => 0).congr (by simp [fil]), hF⟩
  case round =>
    clear hF
    obtain ⟨k, hk, rfl, hA, hF⟩ := hrel
    by_cases hlt : k < n
    · obtain ⟨b0, o0, rfl, h0⟩ := (hF.rd0 r0).at (by omega)
      have k0 := h0 k hlt
      have ck := hA.cell k hlt
      have fk := hA.frozen k
      clear h0
      go_wp2_with fail
      go_roundw
      case rel => exact ⟨k + 1, by omega, by go_num, hA.fill _ rfl, hF.setCell _ (.inr (Nat.le_refl _)) _⟩
      case measure => simp [intOf] <;> omega
    · go_wp2_with fail
      go_ret
      exact ⟨_, rfl, hA.congr (fun i hi => fil_lt _ _ (by omega)), Nat.le_refl _, hF⟩

set_option maxHeartbeats 400000 in
theorem icolours_any (n : Nat) (w : World) (hn : n ≤ 1048576) :
    Calls Ydbm.prog 34 #[.int .i64 n] w fun e w' => ∃ bo, e = .returned (.slice (some ⟨bo, 0, none⟩) n n) ∧ ARow w' bo n (fun i => (i : Int)) ∧ w.heap.size ≤ bo ∧ Fr [] w w' := by
  have hmk := mk n hn
  go_enter Ydbm.func34, Ydbm.ntmps34
  go_wp2_with fail
  have hF : Fr [] w (w.alloc (.cells (row n fun _ => 0) 3)) := (Fr.refl _ _).alloc _
  go_loopw [4] (fun v wr => ∃ k : Nat, k ≤ n ∧ v = .int .i64 k ∧ ARow wr w.heap.size n (fil k (fun i => (i : Int)) fun _ => 0) ∧ Fr [] w wr) (fun v _ => n - (intOf v).toNat)
  case atStart => exact ⟨0, Nat.zero_le _, rfl, (ARow.new w n fun _ => 0).congr (by simp [fil]), hF⟩
  case round =>
    clear hF
    obtain ⟨k, hk, rfl, hA, hF⟩ := hrel
    by_cases hlt : k < n
    · have ck := hA.cell k hlt
      have fk := hA.frozen k
      go_wp2_with fail
      go_roundw
      case rel => exact ⟨k + 1, by omega, by go_num, hA.fill _ rfl, hF.setCell _ (.inr (Nat.le_refl _)) _⟩
      case measure => simp [intOf] <;> omega
    · go_wp2_with fail
      go_ret
      exact ⟨_, rfl, hA.congr (fun i hi => fil_lt _ _ (by omega)), Nat.le_refl _, hF⟩

end Go.Proofs.Ymbrdb
