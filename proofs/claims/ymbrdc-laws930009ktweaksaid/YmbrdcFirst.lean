/-
  FIRST OCCURRENCES: labels by equal value; counting a value; zzs930009hcount, kfirsts, kcanon, kforest (where the seat has them).
-/
import Derived.Test.YmbrdcCanon
namespace Go.Proofs.Ymbrdc
open Go.RowKit
set_option linter.unusedSimpArgs false
set_option linter.unusedVariables false

/-- The least index with the value of i. -/
def labZ (z : Nat → Int) (i : Nat) : Nat := lst (fun y => z y == z i) i
theorem labZ_le (z : Nat → Int) (i : Nat) : labZ z i ≤ i := lst_le _ _
theorem labZ_val (z : Nat → Int) (i : Nat) : z (labZ z i) = z i := by
  unfold labZ
  rcases Nat.lt_or_ge (lst (fun y => z y == z i) i) i with h | h
  · simpa using lst_spec _ _ h
  · have := lst_le (fun y => z y == z i) i
    have e : lst (fun y => z y == z i) i = i := by omega
    rw [e]
theorem labZ_min (z : Nat → Int) (i j : Nat) (h : z j = z i) : labZ z i ≤ j := by
  rcases Nat.lt_or_ge j i with h1 | h1
  · exact lst_lt h1 (by simpa using h)
  · have := labZ_le z i; omega
theorem labZ_eq_iff (z : Nat → Int) (i j : Nat) : labZ z i = labZ z j ↔ z i = z j := by
  constructor
  · intro h; rw [← labZ_val z i, h, labZ_val z j]
  · intro h
    have h1 := labZ_min z i (labZ z j) (by rw [labZ_val z j, h])
    have h2 := labZ_min z j (labZ z i) (by rw [labZ_val z i, h])
    omega
/-- The first index found by a search is the label. -/
theorem labZ_found (z : Nat → Int) (i j : Nat) (hj : j ≤ i) (h : ∀ t, t < j → z t ≠ z i) (e : z j = z i) : labZ z i = j := by
  have h1 := labZ_min z i j e
  rcases Nat.lt_or_ge (labZ z i) j with h2 | h2
  · exact absurd (labZ_val z i) (h _ h2)
  · omega
theorem labZ_can (n : Nat) (z : Nat → Int) : CanN n (labZ z) := by
  intro i hi
  exact ⟨labZ_le z i, (labZ_eq_iff z (labZ z i) i).2 (labZ_val z i)⟩

theorem canZ_iff (n : Nat) (z : Nat → Int) : CanZ n z ↔ ∀ i, i < n → z i = (labZ z i : Int) := by
  constructor
  · intro h i hi
    obtain ⟨h1, h2, h3⟩ := h i hi
    have a := labZ_min z i (z i).toNat h3
    have hl := labZ_le z i
    obtain ⟨g1, g2, g3⟩ := h (labZ z i) (by omega)
    rw [labZ_val z i] at g2
    omega
  · intro h i hi
    have e := h i hi
    have hl := labZ_le z i
    refine ⟨by omega, by omega, ?_⟩
    have : (z i).toNat = labZ z i := by omega
    rw [this, labZ_val z i]

set_option maxHeartbeats 400000 in
theorem kfirsts_any (n cap : Nat) (a : Option Addr) (z : Nat → Int) (w : World) (r : Rd .i64 w a n z) (hn : n ≤ 1048576) :
    Calls Ydcm.prog 24 #[.slice a n cap] w fun e w' => ∃ bl, e = .returned (.slice (some ⟨bl, 0, none⟩) n n) ∧ ARow w' bl n (fun i => (labZ z i : Int)) ∧ w.heap.size ≤ bl ∧ Fr [] w w' := by
  have hmk := mk n hn
  go_enter Ydcm.func24, Ydcm.ntmps24
  go_wp2_with fail
  have hF : Fr [] w (w.alloc (.cells (row n fun _ => 0) 3)) := (Fr.refl _ _).alloc _
  go_loopw [4] (fun v wr => ∃ k : Nat, k ≤ n ∧ v = .int .i64 k ∧ ARow wr w.heap.size n (fil k (fun i => (labZ z i : Int)) fun _ => 0) ∧ Fr [] w wr) (fun v _ => n - (intOf v).toNat)
  case atStart => exact ⟨0, Nat.zero_le _, rfl, (ARow.new w n fun _ => 0).congr (by simp [fil]), hF⟩
  case round =>
    clear hF
    obtain ⟨k, hk, rfl, hA, hF⟩ := hrel
    by_cases hlt : k < n
    · go_wp2_with fail
      go_loopw [5] (fun v wr => ∃ j : Nat, j ≤ k ∧ v = .int .i64 j ∧ (∀ t, t < j → z t ≠ z k) ∧ ARow wr w.heap.size n (fil k (fun i => (labZ z i : Int)) fun _ => 0) ∧ Fr [] w wr) (fun v _ => k - (intOf v).toNat)
      case atStart => exact ⟨0, Nat.zero_le _, rfl, fun t ht => absurd ht (Nat.not_lt_zero _), hA, hF⟩
      case round =>
        clear hF hA
        obtain ⟨j, hj, rfl, hne, hA, hF⟩ := hrel
        have Hne := hide hne
        clear hne
        obtain ⟨b0, o0, rfl, h0⟩ := (hF.rd0 r).at (by omega)
        have k0 := h0 k hlt
        have k1 := h0 j (by omega)
        have ck := hA.cell k hlt
        have fk := hA.frozen k
        have lj : (j : Int) < (n : Int) := by omega
        have lk : (k : Int) < (n : Int) := by omega
        clear h0
        by_cases e : z j = z k
        · rw [e] at k1
          have ee := bne_self (z k)
          have El := hide (labZ_found z k j hj Hne.out e)
          clear e
          go_wp2_with fail
          go_quiet (fail)
          go_wp2_with fail
          go_roundw
          case rel => exact ⟨k + 1, by omega, by go_num, (hA.drewN _).fill _ (by rw [El.out]), (hF.drewN _).setCell _ (.inr (Nat.le_refl _)) _⟩
          case measure => simp [intOf] <;> omega
        · have ee := bne_int e
          have hjk : j ≠ k := fun h => e (by rw [h])
          go_wp2_with fail
          go_quiet (fail)
          go_wp2_with fail
          go_roundw
          case rel =>
            refine ⟨j + 1, by omega, by go_num, ?_, hA.drewN _, hF.drewN _⟩
            intro t ht
            by_cases et : t = j
            · subst et; exact e
            · exact Hne.out t (by omega)
          case measure => simp [intOf] <;> omega
    · go_wp2_with fail
      go_ret
      exact ⟨_, rfl, hA.congr (fun i hi => fil_lt _ _ (by omega)), Nat.le_refl _, hF⟩

set_option maxHeartbeats 400000 in
theorem kcanon_any (n cap : Nat) (a : Option Addr) (z : Nat → Int) (w : World) (r : Rd .i64 w a n z) (hn : n ≤ 1048576) :
    Calls Ydcm.prog 26 #[.slice a n cap] w fun e w' => Tells e (CanZ n z) ∧ Fr [] w w' := by
  have Hci := hide (canZ_iff n z)
  go_enter Ydcm.func26, Ydcm.ntmps26
  go_wp2_with fail
  go_loopw [3] (fun v wr => ∃ k : Nat, k ≤ n ∧ v = .int .i64 k ∧ (∀ i, i < k → z i = (labZ z i : Int)) ∧ Fr [] w wr) (fun v _ => n - (intOf v).toNat)
  case atStart => exact ⟨0, Nat.zero_le _, rfl, fun t ht => absurd ht (Nat.not_lt_zero _), Fr.refl _ _⟩
  case round =>
    obtain ⟨k, hk, rfl, hz, hF⟩ := hrel
    have Hz := hide hz
    clear hz
    by_cases hlt : k < n
    · go_wp2_with fail
      go_loopw [4] (fun v wr => ∃ j : Nat, j ≤ k ∧ v = .int .i64 j ∧ (∀ t, t < j → z t ≠ z k) ∧ Fr [] w wr) (fun v _ => k - (intOf v).toNat)
      case atStart => exact ⟨0, Nat.zero_le _, rfl, fun t ht => absurd ht (Nat.not_lt_zero _), hF⟩
      case round =>
        clear hF
        obtain ⟨j, hj, rfl, hne, hF⟩ := hrel
        have Hne := hide hne
        clear hne
        obtain ⟨b0, o0, rfl, h0⟩ := (hF.rd0 r).at (by omega)
        have k0 := h0 k hlt
        have k1 := h0 j (by omega)
        have lj : (j : Int) < (n : Int) := by omega
        have lk : (k : Int) < (n : Int) := by omega
        clear h0
        by_cases e : z j = z k
        · rw [e] at k1
          have ee := bne_self (z k)
          have El := hide (labZ_found z k j hj Hne.out e)
          clear e
          by_cases g : z k = j
          · have e2 : ((j : Int) != z k) = false := by simp [g]
            have G := hide g
            clear g
            go_wp2_with fail
            go_quiet (fail)
            go_wp2_with fail
            go_roundw
            case rel =>
              refine ⟨k + 1, by omega, by go_num, ?_, hF.drewN _⟩
              intro i hi
              by_cases ei : i = k
              · subst ei; rw [El.out]; exact G.out
              · exact Hz.out i (by omega)
            case measure => simp [intOf] <;> omega
          · have e2 : ((j : Int) != z k) = true := by simp; omega
            go_wp2_with fail
            go_quiet (fail)
            go_wp2_with fail
            go_ret
            refine ⟨Tells.no (fun h => g ?_), hF.drewN _⟩
            have := (Hci.out.1 h) k hlt
            rw [El.out] at this
            exact this
        · have ee := bne_int e
          have hjk : j ≠ k := fun h => e (by rw [h])
          go_wp2_with fail
          go_quiet (fail)
          go_wp2_with fail
          go_roundw
          case rel =>
            refine ⟨j + 1, by omega, by go_num, ?_, hF.drewN _⟩
            intro t ht
            by_cases et : t = j
            · subst et; exact e
            · exact Hne.out t (by omega)
          case measure => simp [intOf] <;> omega
    · go_wp2_with fail
      go_ret
      exact ⟨Tells.yes (Hci.out.2 (fun i hi => Hz.out i (by omega))), hF⟩

set_option maxHeartbeats 1000000 in
theorem kforest_yes (b bp bs n d : Nat) (a : Option Addr) (L : Nat → Nat) (w : World) (hS : SetsN w b bp bs n L (flS L n) (flC n L n)) (r : Rd .i64 w a n fun i => (L i : Int)) (hn : n ≤ 1048576) :
    Calls Ydcm.prog 25 #[.pointer (some ⟨b, 0, none⟩), .slice a n d] w fun e w' => e = .returned (.bool true) ∧ Fr [] w w' := by
  have c0 := hS.c0
  have c1 := hS.c1
  have Hc : Hid (flC n L n = cnt (fun i => L i == i) n) := by show cnt (fun i => L i == i) n + (n - n) = _; omega
  go_enter Ydcm.func25, Ydcm.ntmps25
  go_wp2_with fail
  go_loopw [6, 7] (fun v6 v7 wr => ∃ k : Nat, k ≤ n ∧ v7 = .int .i64 k ∧ v6 = .int .i64 (cnt (fun i => L i == i) k) ∧ Fr [] w wr) (fun _ v7 _ => n - (intOf v7).toNat)
  case atStart => exact ⟨0, Nat.zero_le _, rfl, rfl, Fr.refl _ _⟩
  case round =>
    clear c0 c1
    obtain ⟨k, hk, rfl, rfl, hF⟩ := hrel
    have hcl := cnt_le (fun i => L i == i) k
    have hSr := SetsAt.fr0 hS hF
    have c0 := hSr.c0
    have c1 := hSr.c1
    have c2 := hSr.c2
    by_cases hlt : k < n
    · obtain ⟨b0, o0, rfl, h0⟩ := (hF.rd0 r).at (by omega)
      have k0 := h0 k hlt
      have cp := hSr.hp.cell k hlt
      have cs := hSr.hs.cell k hlt
      have lk : (k : Int) < (n : Int) := by omega
      have e0 := bne_self (L k)
      have st : Hid (cnt (fun i => L i == i) (k + 1) = cnt (fun i => L i == i) k + if (L k == k) = true then 1 else 0) := rfl
      by_cases e : L k = k
      · have Ss : Hid (flS L n k = cnt (fun j => L j == k) n) := by show (if k < n ∧ L k = k then _ else _) = _; rw [if_pos ⟨hlt, e⟩]
        have E := hide e
        rw [Ss.out] at cs
        rw [e] at k0 cp e0
        have H0 := hide h0
        clear e h0
        go_wp2_with fail
        go_quiet (fail)
        go_wp2_with fail
        go_loop [8, 9] (fun v8 v9 => ∃ j : Nat, j ≤ n ∧ v9 = .int .i64 j ∧ v8 = .int .i64 (cnt (fun j => L j == k) j)) (fun _ v9 => n - (intOf v9).toNat)
        case atStart => exact ⟨0, Nat.zero_le _, rfl, rfl⟩
        case round =>
          obtain ⟨j, hj, rfl, rfl⟩ := hrel
          have hcj := cnt_le (fun j => L j == k) j
          have stj := hide (cnt_eq_step L k j)
          by_cases hlt2 : j < n
          · have kj := cell_drewN (H0.out j hlt2) nq
            by_cases e : L j = k
            · have E2 := hide e
              have ee : ((L j : Int) == (k : Int)) = true := by simp [e]
              clear e
              go_wp2_with fail
              go_round
              case rel => exact ⟨j + 1, by omega, by go_num, by rw [stj.out, if_pos E2.out]; go_num⟩
              case measure => simp [intOf] <;> omega
            · have ee := beq_nat e
              go_wp2_with fail
              go_round
              case rel => exact ⟨j + 1, by omega, by go_num, by rw [stj.out, if_neg e]; go_num⟩
              case measure => simp [intOf] <;> omega
          · have hjn : j = n := by omega
            subst hjn
            have e2 := bne_self (cnt (fun j => L j == k) j)
            go_wp2_with fail
            go_roundw
            case rel => exact ⟨k + 1, by omega, by go_num, by rw [st.out, if_pos (by simp [E.out])]; go_num, hF.drewN _⟩
            case measure => simp [intOf] <;> omega
      · have Ss : Hid (flS L n k = 1) := by show (if k < n ∧ L k = k then _ else _) = _; rw [if_neg (fun h => e h.2)]
        rw [Ss.out] at cs
        have ee := beq_nat e
        clear h0
        go_wp2_with fail
        go_quiet (fail)
        go_wp2_with fail
        go_roundw
        case rel => exact ⟨k + 1, by omega, by go_num, by rw [st.out, if_neg (by simp [e])]; go_num, hF.drewN _⟩
        case measure => simp [intOf] <;> omega
    · have hkn : k = n := by omega
      subst hkn
      rw [Hc.out] at c2
      have e2 := beq_self (cnt (fun i => L i == i) k)
      go_wp2_with fail
      go_ret
      exact ⟨by simp, hF⟩
end Go.Proofs.Ymbrdc
