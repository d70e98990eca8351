/-
  CANONICAL LABELS OUT OF RAW DATA: element i hangs at i or at an earlier one.
-/
import Derived.Test.YmbrdaFromL
import Derived.Test.YmbrdaSmall
namespace Go.Proofs.Ymbrda
open Go.RowKit
set_option linter.unusedSimpArgs false
set_option linter.unusedVariables false

def cq (z : Nat → Int) (i : Nat) : Nat := (z i).toNat % (i + 1)
theorem cq_le (z : Nat → Int) (i : Nat) : cq z i ≤ i := by unfold cq; have : (z i).toNat % (i + 1) < i + 1 := Nat.mod_lt _ (by omega); omega
theorem cq_forest (n : Nat) (z : Nat → Int) : Forest n (cq z) (fun x => x) := by
  refine ⟨?_, fun x hx => hx, ?_⟩
  · intro x hx; have := cq_le z x; omega
  · intro x hx hne; have := cq_le z x; show cq z x < x; omega
theorem cq_int (z : Nat → Int) (k : Nat) (h : 0 ≤ z k) : z k % ((k : Int) + 1) = (cq z k : Int) := by
  have e := toNat_mod h (k + 1)
  rw [show (((k + 1 : Nat)) : Int) = (k : Int) + 1 from by omega] at e
  unfold cq
  omega

theorem it_le {q : Nat → Nat} (hle : ∀ i, q i ≤ i) (k x : Nat) : it q k x ≤ x := by
  induction k generalizing x with
  | zero => exact Nat.le_refl _
  | succ k ih => have := ih (q x); have := hle x; show it q k (q x) ≤ x; omega

/-- The root of such a forest is a canonical label. -/
theorem cq_can (n : Nat) (z : Nat → Int) : CanN n (rt n (cq z)) := by
  intro i hi
  exact ⟨it_le (cq_le z) n i, (cq_forest n z).rt_rt i hi⟩

/-- A half-filled row of labels is filled by one more: at a root the element itself, else what lies at the parent. -/
theorem cq_root {n : Nat} (z : Nat → Int) (k : Nat) (e : cq z k = k) : rt n (cq z) k = k := rt_of_root n e
theorem cq_hang {n : Nat} (z : Nat → Int) (k : Nat) (hk : k < n) : rt n (cq z) k = rt n (cq z) (cq z k) := ((cq_forest n z).rt_p k hk).symm

theorem can_lab_eq {n : Nat} {L μ : Nat → Nat} (hc : CanN n L) (F : Forest n L μ) (i : Nat) (hi : i < n) : lab (rt n L) i = L i := by
  rw [(SameKer.of_eq (fun x hx => hc.rt F x hx) : SameKer n (rt n L) L).lab i hi]
  have h1 := (hc i hi).2
  have h2 := lab_min L i (L i) h1
  have h3 := lab_le L i
  have h4 := (hc (lab L i) (by omega)).1
  rw [lab_val L i] at h4
  omega

set_option maxHeartbeats 400000 in
theorem clabels_any (n cap : Nat) (a : Option Addr) (z : Nat → Int) (w : World) (r : Rd .u16 w a n z) (hn : n ≤ 1024) (hz : ∀ i, i < n → (Lit.int .u16 (z i)).wf = true) :
    Calls Ydam.prog 31 #[.slice a n cap] w fun e w' => ∃ bl, e = .returned (.slice (some ⟨bl, 0, none⟩) n n) ∧ ARow w' bl n (fun i => (rt n (cq z) i : Int)) ∧ w.heap.size ≤ bl ∧ Fr [] w w' := by
  have hmk := mk n (by omega)
  go_enter Ydam.func31, Ydam.ntmps31
  go_wp2_with fail
  have hF : Fr [] w (w.alloc (.cells (row n fun _ => 0) 3)) := (Fr.refl _ _).alloc _
  go_loopw [4] (fun v wr => ∃ k : Nat, k ≤ n ∧ v = .int .i64 k ∧ ARow wr w.heap.size n (fil k (fun i => (rt n (cq z) i : Int)) fun _ => 0) ∧ Fr [] w wr) (fun v _ => n - (intOf v).toNat)
  case atStart => exact ⟨0, Nat.zero_le _, rfl, (ARow.new w n fun _ => 0).congr (by simp [fil]), hF⟩
  case round =>
    clear hF
    obtain ⟨k, hk, rfl, hA, hF⟩ := hrel
    by_cases hlt : k < n
    · obtain ⟨b0, o0, rfl, h0⟩ := (hF.rd0 r).at (by omega)
      have k0 := h0 k hlt
      have bz := bd_u16 (hz k hlt)
      have hq := cq_le z k
      have Hc := hide (cq_int z k bz.1)
      have ck := hA.cell k hlt
      have fk := hA.frozen k
      clear h0
      go_upto_region 6 with fail
      rw [Hc.out]
      by_cases e : cq z k = k
      · have ee : ((cq z k : Int) == (k : Int)) = true := by simp; omega
        have E := hide e
        clear e
        go_wp2_with fail
        go_roundw
        case rel => exact ⟨k + 1, by omega, by go_num, hA.fill _ (by rw [cq_root z k E.out]), hF.setCell _ (.inr (Nat.le_refl _)) _⟩
        case measure => simp [intOf] <;> omega
      · have ee := beq_nat e
        have cj := hA.cell (cq z k) (by omega)
        rw [fil_lt _ _ (by omega)] at cj
        have lq : (cq z k : Int) < (n : Int) := by omega
        go_wp2_with fail
        go_roundw
        case rel => exact ⟨k + 1, by omega, by go_num, hA.fill _ (by rw [← cq_hang z k hlt]), hF.setCell _ (.inr (Nat.le_refl _)) _⟩
        case measure => simp [intOf] <;> omega
    · go_wp2_with fail
      go_ret
      exact ⟨_, rfl, hA.congr (fun i hi => fil_lt _ _ (by omega)), Nat.le_refl _, hF⟩
end Go.Proofs.Ymbrda
