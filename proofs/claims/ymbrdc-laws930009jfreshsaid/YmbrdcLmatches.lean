/-
  zzs930009lmatches, where the labels are the partition's own.
-/
import Derived.Test.YmbrdcPlain3
import Derived.Test.YmbrdcSmall
import Derived.Deep.RegionWith
namespace Go.Proofs.Ymbrdc
open Go.RowKit
set_option linter.unusedSimpArgs false
set_option linter.unusedVariables false

/-- 'first[r]' behind k rounds: one more than the first element below k whose root is r, 0 if there is none. -/
def fst1 (R : Nat → Nat) (k r : Nat) : Int := if lst (fun y => R y == r) k < k then ((lst (fun y => R y == r) k : Nat) : Int) + 1 else 0

theorem fst1_zero (R : Nat → Nat) (r : Nat) : fst1 R 0 r = 0 := by simp [fst1]

theorem fst1_new {R : Nat → Nat} {k : Nat} (h : ¬ lst (fun y => R y == R k) k < k) (r : Nat) : fst1 R (k + 1) r = if r = R k then (k : Int) + 1 else fst1 R k r := by
  unfold fst1
  by_cases e : r = R k
  · subst e
    rw [if_pos rfl]
    simp only [lst, if_neg h, beq_self_eq_true, if_true]
    rw [if_pos (by omega)]
  · rw [if_neg e]
    have ek : (R k == r) = false := by simpa using fun h => e h.symm
    simp only [lst, ek, Bool.false_eq_true, if_false]
    by_cases h2 : lst (fun y => R y == r) k < k
    · rw [if_pos h2, if_pos (by omega), if_pos h2]
    · rw [if_neg h2, if_neg h2, if_neg (by omega)]

theorem fst1_old {R : Nat → Nat} {k : Nat} (h : lst (fun y => R y == R k) k < k) (r : Nat) : fst1 R (k + 1) r = fst1 R k r := by
  unfold fst1
  by_cases h2 : lst (fun y => R y == r) k < k
  · simp only [lst, if_pos h2]
    rw [if_pos (by omega)]
  · have ek : (R k == r) = false := by
      rw [Bool.eq_false_iff]
      intro e
      have e := by simpa using e
      subst e
      exact h2 h
    simp only [lst, if_neg h2, ek, Bool.false_eq_true, if_false]
    rw [if_neg (by omega)]

theorem mem_step (R : Nat → Nat) (k r : Nat) : ((cnt (fun y => R y == r) (k + 1) : Nat) : Int) = if r = R k then (cnt (fun y => R y == R k) k : Int) + 1 else cnt (fun y => R y == r) k := by
  by_cases e : r = R k
  · subst e
    rw [if_pos rfl, cnt_yes (by simp)]
    simp
  · rw [if_neg e, cnt_no (by simpa using fun h => e h.symm)]

theorem cnt_le' (f : Nat → Bool) (k : Nat) : cnt f k ≤ k := by
  induction k with
  | zero => simp [cnt]
  | succ k ih =>
    cases h : f k
    · rw [cnt_no h]; omega
    · rw [cnt_yes h]; omega

theorem fst1_lab (R : Nat → Nat) (k : Nat) : fst1 R (k + 1) (R k) = (lab R k : Int) + 1 := by
  unfold lab
  by_cases h : lst (fun y => R y == R k) k < k
  · rw [fst1_old h]; unfold fst1; rw [if_pos h]
  · rw [fst1_new h, if_pos rfl]
    have := lst_le (fun y => R y == R k) k
    have e : lst (fun y => R y == R k) k = k := by omega
    rw [e]

theorem cnt_eq_step' (R : Nat → Nat) (k : Nat) : (lst (fun y => R y == R k) k < k → cnt (fun i => lab R i == i) (k + 1) = cnt (fun i => lab R i == i) k) ∧
    (¬ lst (fun y => R y == R k) k < k → cnt (fun i => lab R i == i) (k + 1) = cnt (fun i => lab R i == i) k + 1) := by
  refine ⟨fun h => cnt_no ?_, fun h => cnt_yes ?_⟩
  · have : lab R k ≠ k := by unfold lab; omega
    simpa using this
  · have := lst_le (fun y => R y == R k) k
    have : lab R k = k := by unfold lab; omega
    simpa using this

set_option maxHeartbeats 4000000 in
set_option maxRecDepth 100000 in
theorem lmatches_yes (b bp bs n d : Nat) (p s : Nat → Nat) (c : Nat) (a : Option Addr) (L : Nat → Nat) (w : World) (hn : n ≤ 1048576) (hS : SetsN w b bp bs n p s c) (I : Inv n p s c)
    (r : Rd .i64 w a n (fun i => (L i : Int))) (hL : ∀ i, i < n → L i = lab (rt n p) i) :
    Calls Ydcm.prog 30 #[.pointer (some ⟨b, 0, none⟩), .slice a n d] w fun e w' => e = .returned (.bool true) ∧ Fr [] w w' := by
  have c0 := SetsAt.c0 hS
  have c1 := SetsAt.c1 hS
  have ee := bne_self (n : Int)
  have hmk := mk n hn
  have F := I.forest
  have HL := hide hL
  clear hL
  go_enter Ydcm.func30, Ydcm.ntmps30
  go_wp2_with fail
  have r1 := (ARow.new w n fun _ => 0).alloc (.cells (row n fun _ => 0) 3)
  have r2 := ARow.new (w.alloc (.cells (row n fun _ => 0) 3)) n fun _ => 0
  simp only [World.size_alloc] at r2
  have hF := ((Fr.refl [] w).alloc (.cells (row n fun _ => 0) 3)).alloc (.cells (row n fun _ => 0) 3)
  generalize (w.alloc (.cells (row n fun _ => 0) 3)).alloc (.cells (row n fun _ => 0) 3) = W at *
  obtain ⟨B, hBe, lB⟩ : ∃ B, B = w.heap.size ∧ w.heap.size ≤ B := ⟨_, rfl, Nat.le_refl _⟩
  rw [← hBe] at r1 r2 ⊢
  clear hBe hmk ee
  go_loopw [9, 8] (fun v9 v8 wr => ∃ k : Nat, k ≤ n ∧ v9 = .int .i64 k ∧ v8 = .int .i64 (cnt (fun i => lab (rt n p) i == i) k : Nat) ∧ ARow wr B n (fst1 (rt n p) k) ∧ ARow wr (B + 1) n (fun r => ((cnt (fun y => rt n p y == r) k : Nat) : Int)) ∧ Fr [] w wr) (fun v9 _ _ => n - (intOf v9).toNat)
  case atStart => exact ⟨0, Nat.zero_le _, rfl, by simp [cnt], r1.congr (fun i _ => (fst1_zero _ _).symm), r2.congr (fun i _ => by simp [cnt]), hF⟩
  case round =>
    clear r1 r2 hF
    obtain ⟨k, hk, rfl, rfl, hA, hM, hF⟩ := hrel
    have hSr : SetsN wr b bp bs n p s c := SetsAt.fr0 hS hF
    by_cases hlt : k < n
    · have c0 := SetsAt.c0 hSr
      have hlt' := F.rt_lt k hlt
      have lc := cnt_le' (fun i => lab (rt n p) i == i) k
      go_wp2_with fail
      refine (find_in b n n (some ⟨bp, 0, none⟩) p _ k _ c0 hSr.hp.rd F hlt).mono ?_
      rintro e w2 ⟨rfl, rfl⟩
      have c6 := hA.cell _ hlt'
      have f6 := hA.frozen (rt n p k)
      have HC1 := hide (cnt_eq_step' (rt n p) k)
      go_upto_if 56 with fail
      go_cut [8] from 56 to 63 (fun v8 wz => v8 = .int .i64 (cnt (fun i => lab (rt n p) i == i) (k + 1) : Nat) ∧ ARow wz B n (fst1 (rt n p) (k + 1)) ∧ ARow wz (B + 1) n (fun r => ((cnt (fun y => rt n p y == r) k : Nat) : Int)) ∧ Fr [] w wz)
      case first =>
        by_cases h : lst (fun y => rt n p y == rt n p k) k < k
        · have e1 : (fst1 (rt n p) k (rt n p k) == 0) = false := by unfold fst1; rw [if_pos h]; simp; omega
          have H := hide h
          clear h
          go_wp2_with fail
          go_meet
          case rel => exact ⟨by rw [HC1.out.1 H.out], hA.congr (fun i _ => (fst1_old H.out i).symm), hM, hF⟩
        · have e1 : (fst1 (rt n p) k (rt n p k) == 0) = true := by unfold fst1; rw [if_neg h]; simp
          have H := hide h
          clear h
          go_wp2_with fail
          go_meet
          case rel => exact ⟨by rw [HC1.out.2 H.out]; go_num, hA.set_to _ _ (fun j hj => (fst1_new H.out j).symm), hM.set_ne _ (by show B ≠ B + 1; omega) _, hF.setCell _ (.inr lB) _⟩
      case rest =>
        clear hA hM hF hSr c0 c6 f6
        obtain ⟨rfl, hA, hM, hF⟩ := hcut
        have c7 := hM.cell _ hlt'
        have f7 := hM.frozen (rt n p k)
        have lc2 := cnt_le' (fun y => rt n p y == rt n p k) k
        go_upto_region 17 with fail
        replace hA := hA.set_ne ⟨B + 1, rt n p k, none⟩ (by show B + 1 ≠ B; omega) (.int .i64 (((cnt (fun y => rt n p y == rt n p k) k : Nat) : Int) + 1))
        replace hM : ARow (wc.setCell ⟨B + 1, rt n p k, none⟩ (.int .i64 (((cnt (fun y => rt n p y == rt n p k) k : Nat) : Int) + 1))) (B + 1) n (fun r => ((cnt (fun y => rt n p y == r) (k + 1) : Nat) : Int)) :=
          hM.set_to _ _ (fun j _ => (mem_step (rt n p) k j).symm)
        replace hF := hF.setCell ⟨B + 1, rt n p k, none⟩ (.inr (by show w.heap.size ≤ B + 1; omega)) (.int .i64 (((cnt (fun y => rt n p y == rt n p k) k : Nat) : Int) + 1))
        clear c7 f7 lc2
        generalize wc.setCell ⟨B + 1, rt n p k, none⟩ (.int .i64 (((cnt (fun y => rt n p y == rt n p k) k : Nat) : Int) + 1)) = W2 at *
        have c6 := hA.cell _ hlt'
        rw [fst1_lab] at c6
        have hlk := HL.out k hlt
        obtain ⟨b1, o1, rfl, hr⟩ := (hF.rd0 r).at (by omega)
        have c8 := hr k hlt
        rw [hlk] at c8
        clear hlk hr
        have ll := lab_le (rt n p) k
        generalize lab (rt n p) k = l at *
        have e9 : ((l : Int) + 1 - 1 != (l : Int)) = false := by simp
        have e9' := bne_self (l : Int)
        go_wp2_with fail
        go_quiet (fail)
        go_wp2_with fail
        go_roundw
        case rel => exact ⟨k + 1, by omega, by go_num, rfl, hA.drewN _, hM.drewN _, hF.drewN _⟩
        case measure => simp [intOf] <;> omega
    · have hkn : k = n := by omega
      subst hkn
      rw [← I.classes]
      go_wp2_with fail
      go_loopw [12] (fun v wr => ∃ j : Nat, j ≤ k ∧ v = .int .i64 j ∧ ARow wr (B + 1) k (fun r => ((cnt (fun y => rt k p y == r) k : Nat) : Int)) ∧ Fr [] w wr) (fun v _ => k - (intOf v).toNat)
      case atStart => exact ⟨0, Nat.zero_le _, rfl, hM, hF⟩
      case round =>
        clear hA hM hF hSr
        obtain ⟨j, hj, rfl, hM, hF⟩ := hrel
        have hSr : SetsN wr b bp bs k p s c := SetsAt.fr0 hS hF
        by_cases hltj : j < k
        · have c7 := hM.cell j hltj
          have c1 := SetsAt.c1 hSr
          have c9 := hSr.hs.cell j hltj
          by_cases h0 : cnt (fun y => rt k p y == j) k = 0
          · rw [h0] at c7
            clear h0
            go_wp2_with fail
            go_quiet (fail)
            go_wp2_with fail
            go_roundw
            case rel => exact ⟨j + 1, by omega, by go_num, hM.drewN _, hF.drewN _⟩
            case measure => simp [intOf] <;> omega
          · obtain ⟨y, hy, hyj⟩ : ∃ y, y < k ∧ rt k p y = j := by
              apply Classical.byContradiction
              intro hne
              refine h0 (cnt_zero (fun i hi => ?_))
              rw [Bool.eq_false_iff]
              intro e
              exact hne ⟨i, hi, by simpa using e⟩
            have hs : s j = cnt (fun y => rt k p y == j) k := by
              have := I.size y hy
              rw [hyj] at this
              exact this
            rw [← hs] at c7 h0
            have p1 : decide ((0 : Int) < (s j : Int)) = true := dec_true (by omega)
            have p1' : decide (0 < s j) = true := dec_true (by omega)
            have p2 := bne_self (s j : Int)
            clear hs hyj
            go_wp2_with fail
            go_quiet (fail)
            go_wp2_with fail
            go_roundw
            case rel => exact ⟨j + 1, by omega, by go_num, hM.drewN _, hF.drewN _⟩
            case measure => simp [intOf] <;> omega
        · have c2 := SetsAt.c2 hSr
          have e3 := beq_self (c : Int)
          go_wp2_with fail
          go_ret
          exact ⟨by simp, hF⟩
end Go.Proofs.Ymbrdc
