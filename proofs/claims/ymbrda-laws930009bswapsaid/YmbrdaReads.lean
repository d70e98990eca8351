/-
  Same, SizeOf, Labels (where the seat has them).
-/
import Derived.Test.YmbrdaKit2
import Derived.Test.YmbrdaPlain2
namespace Go.Proofs.Ymbrda
open Go.RowKit
set_option linter.unusedSimpArgs false
set_option linter.unusedVariables false

/-- What Same says. -/
def sameB (n : Nat) (p : Nat → Nat) (x y : Int) : Bool := inb n x && inb n y && (fnd n p x == fnd n p y)
/-- Are both elements? -/
def inb2 (n : Nat) (x y : Int) : Bool := inb n x && inb n y

theorem sameB_nat {n x y : Nat} (p : Nat → Nat) (hx : x < n) (hy : y < n) : sameB n p x y = decide (rt n p x = rt n p y) := by
  unfold sameB
  rw [inb_nat hx, inb_nat hy, fnd_nat p hx, fnd_nat p hy]
  by_cases e : rt n p x = rt n p y
  · simp [e]
  · simp [e]; omega

set_option maxHeartbeats 400000 in
theorem same_any (b n cap : Nat) (a : Option Addr) (p μ : Nat → Nat) (x y : Int) (w : World) (c0 : w.cell? ⟨b, 0, none⟩ = some (.slice a n cap)) (r : Rd .i64 w a n fun i => (p i : Int)) (F : Forest n p μ) :
    Calls Ydam.prog 30 #[.pointer (some ⟨b, 0, none⟩), .int .i64 x, .int .i64 y] w fun e w' => e = .returned (.tuple #[.bool (sameB n p x y), .bool (inb2 n x y)]) ∧ w' = w := by
  go_enter Ydam.func30, Ydam.ntmps30
  go_wp2_with fail
  refine (find_any b n cap a p μ x _ c0 r F).mono ?_
  rintro e w' ⟨rfl, rfl⟩
  go_wp2_with fail
  refine (find_any b n cap a p μ y _ c0 r F).mono ?_
  rintro e w' ⟨rfl, rfl⟩
  cases hx : inb n x
  · go_wp2_with fail
    go_ret2
    exact ⟨by simp [sameB, inb2, hx], rfl⟩
  · cases hy : inb n y
    · go_wp2_with fail
      go_ret2
      exact ⟨by simp [sameB, inb2, hx, hy], rfl⟩
    · go_wp2_with fail
      go_ret2
      exact ⟨by simp [sameB, inb2, hx, hy], rfl⟩

/-- What SizeOf says. -/
def szof (n : Nat) (p s : Nat → Nat) (x : Int) : Int := if inb n x then (s (rt n p x.toNat) : Int) else 0
theorem szof_nat {n x : Nat} (p s : Nat → Nat) (h : x < n) : szof n p s x = s (rt n p x) := by
  unfold szof; rw [inb_nat h]; simp
theorem szof_out {n : Nat} {x : Int} (p s : Nat → Nat) (h : inb n x = false) : szof n p s x = 0 := by
  unfold szof; rw [h]; simp

set_option maxHeartbeats 400000 in
theorem sizeOf_any (b bp bs n : Nat) (p s μ : Nat → Nat) (c : Int) (x : Int) (w : World) (hS : SetsAt w b bp bs n (fun i => (p i : Int)) (fun i => (s i : Int)) c) (F : Forest n p μ) :
    Calls Ydam.prog 21 #[.pointer (some ⟨b, 0, none⟩), .int .i64 x] w fun e w' => e = .returned (.tuple #[.int .i64 (szof n p s x), .bool (inb n x)]) ∧ w' = w := by
  have c1 := hS.c1
  by_cases h : 0 ≤ x ∧ x < (n : Int)
  · obtain ⟨y, rfl⟩ := Int.eq_ofNat_of_zero_le h.1
    have hy : y < n := by omega
    have hr := F.rt_lt y hy
    have cs := hS.hs.cell _ hr
    rw [inb_nat hy, szof_nat p s hy]
    go_enter Ydam.func21, Ydam.ntmps21
    go_wp2_with fail
    refine (find_in b n n _ p μ y _ hS.c0 hS.hp.rd F hy).mono ?_
    rintro e w' ⟨rfl, rfl⟩
    go_wp2_with fail
    go_ret2
    exact ⟨rfl, rfl⟩
  · rw [szof_out p s (inb_out h), inb_out h]
    go_enter Ydam.func21, Ydam.ntmps21
    go_wp2_with fail
    refine (find_out b n n _ x _ hS.c0 h).mono ?_
    rintro e w' ⟨rfl, rfl⟩
    go_wp2_with fail
    go_ret2
    exact ⟨rfl, rfl⟩
set_option maxHeartbeats 1000000 in
theorem labels_any (b n cap : Nat) (a : Option Addr) (p μ : Nat → Nat) (w : World) (hn : n ≤ 1048576) (hc0 : w.cell? ⟨b, 0, none⟩ = some (.slice a n cap)) (r : Rd .i64 w a n fun i => (p i : Int)) (F : Forest n p μ) :
    Calls Ydam.prog 25 #[.pointer (some ⟨b, 0, none⟩)] w fun e w' => ∃ bl, e = .returned (.slice (some ⟨bl, 0, none⟩) n n) ∧ ARow w' bl n (fun i => (lab (rt n p) i : Int)) ∧ w.heap.size ≤ bl ∧ Fr [] w w' := by
  have hmk := mk n hn
  have c0 := hc0
  have hbl := World.block_lt_of_cell? _ _ c0
  go_enter Ydam.func25, Ydam.ntmps25
  go_wp2_with fail
  have r0 := ARow.new w n fun _ => 0
  have hF : Fr [] w (w.alloc (.cells (row n fun _ => 0) 3)) := (Fr.refl _ _).alloc _
  go_loopw [18] (fun v wz => ∃ k : Nat, k ≤ n ∧ v = .int .i64 k ∧ ARow wz w.heap.size n (fil k (fun _ => -1) fun _ => 0) ∧ Fr [] w wz ∧ wz.heap.size = w.heap.size + 1) (fun v _ => n - (intOf v).toNat)
  case atStart => exact ⟨0, Nat.zero_le _, rfl, r0.congr (by simp [fil]), hF, by simp⟩
  case round =>
    clear r0 hF
    obtain ⟨k, hk, rfl, hA, hF, hsz⟩ := hrel
    by_cases hlt : k < n
    · have ck := hA.cell k hlt
      have fk := hA.frozen k
      have Hsz := hide hsz
      clear hsz
      go_wp2_with fail
      go_roundw
      case rel => exact ⟨k + 1, by omega, by go_num, hA.fill _ rfl, hF.setCell _ (.inr (Nat.le_refl _)) _, by simp; exact Hsz.out⟩
      case measure => simp [intOf] <;> omega
    · have hA : ARow wr w.heap.size n (fun _ => -1) := hA.congr (fun i hi => fil_lt _ _ (by omega))
      go_wp2_with fail
      have r1 := ARow.new wr n fun _ => 0
      rw [hsz] at r1
      have hA := hA.alloc (.cells (row n fun _ => 0) 3)
      have hF := hF.alloc (.cells (row n fun _ => 0) 3)
      generalize wr.alloc (.cells (row n fun _ => 0) 3) = W at *
      clear hsz
      go_loopw [29] (fun v wz => ∃ k : Nat, k ≤ n ∧ v = .int .i64 k ∧ ARow wz w.heap.size n (fun q => if lst (fun y => rt n p y == q) k < k then (lst (fun y => rt n p y == q) k : Int) else -1) ∧ ARow wz (w.heap.size + 1) n (fil k (fun i => (lab (rt n p) i : Int)) fun _ => 0) ∧ Fr [] w wz) (fun v _ => n - (intOf v).toNat)
      case atStart => exact ⟨0, Nat.zero_le _, rfl, hA.congr (by simp), r1.congr (by simp [fil]), hF⟩
      case round =>
        clear r1 hF hA
        obtain ⟨j, hj, rfl, hA, hL, hF⟩ := hrel
        by_cases hlt2 : j < n
        · have hr := F.rt_lt j hlt2
          have cr := hA.cell _ hr
          have fr := hA.frozen (rt n p j)
          have cl := hL.cell j hlt2
          have fl := hL.frozen j
          have hsz0 := hF.size
          have cc := (hF.cell (p := ⟨b, 0, none⟩) hbl (by simp)).trans hc0
          have ne : w.heap.size ≠ w.heap.size + 1 := by omega
          have hlab : lst (fun y => rt n p y == rt n p j) j = lab (rt n p) j := rfl
          have hlle := lab_le (rt n p) j
          have hstep : ∀ q, (lst (fun y => rt n p y == q) (j + 1)) = if lst (fun y => rt n p y == q) j < j then lst (fun y => rt n p y == q) j else if rt n p j = q then j else j + 1 := by
            intro q; simp [lst]
          have Hstep := hide hstep
          have Hlab := hide hlab
          rw [hlab] at cr
          clear hstep hlab
          go_wp2_with fail
          refine (root_any b n cap a p μ j _ cc (hF.rd0 r) F hlt2).mono ?_
          rintro e w' ⟨rfl, rfl⟩
          generalize hR : rt n p j = R at *
          have HR := hide hR
          clear hR
          by_cases hfd : lab (rt n p) j < j
          · rw [if_pos hfd] at cr
            have d1 : decide (((lab (rt n p) j : Nat) : Int) < 0) = false := by simp
            go_wp2_with fail
            go_roundw
            case rel =>
              refine ⟨j + 1, by omega, by go_num, (hA.set_ne _ (by simp) _).congr ?_, hL.fill _ rfl, hF.setCell _ (.inr (Nat.le_succ _)) _⟩
              intro q hq
              rw [Hstep.out]
              by_cases h1 : lst (fun y => rt n p y == q) j < j
              · rw [if_pos h1, if_pos h1, if_pos (by omega)]
              · rw [if_neg h1, if_neg h1]
                have hqR : R ≠ q := by
                  intro e
                  have e3 := Hlab.out
                  rw [e] at e3
                  omega
                rw [if_neg hqR, if_neg (by omega)]
            case measure => simp [intOf] <;> omega
          · rw [if_neg hfd] at cr
            have hlj : lab (rt n p) j = j := by omega
            have Hlj := hide hlj
            clear hlj hfd hlle
            go_wp2_with fail
            go_roundw
            case rel =>
              refine ⟨j + 1, by omega, by go_num, ((hA.set R j).set_ne _ (by simp) _).congr ?_, (hL.set_ne _ (by simp) _).fill _ (by rw [Hlj.out]), (hF.setCell _ (.inr (Nat.le_refl _)) _).setCell _ (.inr (Nat.le_succ _)) _⟩
              intro q hq
              unfold upd
              rw [Hstep.out]
              by_cases e : q = R
              · rw [if_pos e]
                have h0 : lst (fun y => rt n p y == q) j = j := by rw [e, Hlab.out, Hlj.out]
                have h5 : (if lst (fun y => rt n p y == q) j < j then lst (fun y => rt n p y == q) j else if R = q then j else j + 1) = j := by
                  rw [h0, if_neg (Nat.lt_irrefl _), if_pos e.symm]
                rw [h5, if_pos (by omega)]
              · rw [if_neg e]
                dsimp only
                by_cases h1 : lst (fun y => rt n p y == q) j < j
                · rw [if_pos h1, if_pos h1, if_pos (by omega)]
                · rw [if_neg h1, if_neg h1]
                  rw [if_neg (Ne.symm e), if_neg (by omega)]
            case measure => simp [intOf] <;> omega
        · go_wp2_with fail
          go_ret
          exact ⟨_, rfl, hL.congr (fun i hi => fil_lt _ _ (by omega)), Nat.le_succ _, hF⟩
end Go.Proofs.Ymbrda
