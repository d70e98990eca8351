/-
  zzs930009asingle.
-/
import Derived.Test.YmbrdaNew
namespace Go.Proofs.Ymbrda
open Go.RowKit
set_option linter.unusedSimpArgs false
set_option linter.unusedVariables false

set_option maxHeartbeats 400000 in
theorem single_yes (b bp bs n : Nat) (w : World) (hn : n ≤ 1048576) (hS : SetsAt w b bp bs n (fun i => i) (fun _ => 1) n) :
    Calls Ydam.prog 16 #[.pointer (some ⟨b, 0, none⟩), .int .i64 n] w fun e w' => e = .returned (.bool true) ∧ w' = w := by
  have c0 := hS.c0
  have c1 := hS.c1
  have c2 := hS.c2
  go_enter Ydam.func16, Ydam.ntmps16
  go_wp2
  go_loop [5] (fun i => ∃ k : Nat, k ≤ n ∧ i = .int .i64 k) (fun i => n - (intOf i).toNat)
  case atStart => exact ⟨0, Nat.zero_le _, rfl⟩
  case round =>
    obtain ⟨k, hk, rfl⟩ := hrel
    by_cases hlt : k < n
    · have cp := hS.hp.cell k hlt
      have cs := hS.hs.cell k hlt
      go_wp2
      go_round
      case rel => exact ⟨k + 1, by omega, by go_num⟩
      case measure => simp [intOf]; omega
    · go_wp2
      go_ret
      exact ⟨rfl, rfl⟩
end Go.Proofs.Ymbrda
