/-
  SMALL FUNCTIONS OF THE LAWS: slices compared, copied, filled with 0, 1, 2, ..
-/
import Derived.Test.YmbrdaKit2
namespace Go.Proofs.Ymbrda
open Go.RowKit
set_option linter.unusedSimpArgs false
set_option linter.unusedVariables false

theorem fil_skip {α : Type} (k : Nat) (g d : Nat → α) (hv : g k = d k) (i : Nat) : fil k g d i = fil (k + 1) g d i := by
  unfold fil
  by_cases e2 : i < k
  · rw [if_pos e2, if_pos (by omega)]
  · rw [if_neg e2]
    by_cases e : i = k
    · subst e; rw [if_pos (by omega), hv]
    · rw [if_neg (by omega)]
theorem ARow.fskip {w : World} {b n k : Nat} {g d : Nat → Int} (h : ARow w b n (fil k g d)) (hv : g k = d k) : ARow w b n (fil (k + 1) g d) :=
  h.congr fun i _ => fil_skip k g d hv i

set_option maxHeartbeats 400000 in
theorem bcopy_any (a0 : Option Addr) (n d0 : Nat) (f : Nat → Int) (w : World) (hn : n ≤ 1048576) (r0 : Rd .i64 w a0 n f) :
    Calls Ydam.prog 26 #[.slice a0 n d0] w fun e w' => ∃ bo, e = .returned (.slice (some ⟨bo, 0, none⟩) n n) ∧ ARow w' bo n f ∧ w.heap.size ≤ bo ∧ Fr [] w w' := by
  have hmk := mk n hn
  go_enter Ydam.func26, Ydam.ntmps26
  go_wp2_with fail
  have hF : Fr [] w (w.alloc (.cells (row n fun _ => 0) 3)) := (Fr.refl _ _).alloc _
  go_loopw [4] (fun v wr => ∃ k : Nat, k ≤ n ∧ v = .int .i64 k ∧ ARow wr w.heap.size n (fil k f fun _ => 0) ∧ Fr [] w wr) (fun v _ => n - (intOf v).toNat)
  case atStart => exact ⟨0, Nat.zero_le _, rfl, (ARow.new w n fun _ => 0).congr (by simp [fil]), hF⟩
  case round =>
    clear hF
    obtain ⟨k, hk, rfl, hA, hF⟩ := hrel
    by_cases hlt : k < n
    · obtain ⟨b0, o0, rfl, h0⟩ := (hF.rd0 r0).at (by omega)
      have k0 := h0 k hlt
      have ck := hA.cell k hlt
      have fk := hA.frozen k
      clear h0
      go_wp2_with fail
      go_roundw
      case rel => exact ⟨k + 1, by omega, by go_num, hA.fill _ rfl, hF.setCell _ (.inr (Nat.le_refl _)) _⟩
      case measure => simp [intOf] <;> omega
    · go_wp2_with fail
      go_ret
      exact ⟨_, rfl, hA.congr (fun i hi => fil_lt _ _ (by omega)), Nat.le_refl _, hF⟩

end Go.Proofs.Ymbrda
