/-
  FromLabels.
-/
import Derived.Test.YmbrdbReads
namespace Go.Proofs.Ymbrdb
open Go.RowKit
set_option linter.unusedSimpArgs false
set_option linter.unusedVariables false

/-! ### The flat forest of canonical labels, half way -/

def flP (L : Nat → Nat) (k i : Nat) : Nat := if i < k then L i else i
def flS (L : Nat → Nat) (k i : Nat) : Nat := if i < k ∧ L i = i then cnt (fun j => L j == i) k else 1
def flC (n : Nat) (L : Nat → Nat) (k : Nat) : Nat := cnt (fun i => L i == i) k + (n - k)

/-- Canonical labels. -/
def CanN (n : Nat) (L : Nat → Nat) : Prop := ∀ i, i < n → L i ≤ i ∧ L (L i) = L i

theorem fl_step {n k : Nat} {L : Nat → Nat} (hk : k < n) (hc : CanN (k + 1) L) (I : Inv n (flP L k) (flS L k) (flC n L k)) :
    (∀ i, i < n → uP n (flP L k) (flS L k) (L k) k i = flP L (k + 1) i) ∧ (∀ i, i < n → uS n (flP L k) (flS L k) (L k) k i = flS L (k + 1) i) ∧ uC n (flP L k) (flC n L k) (L k) k = flC n L (k + 1) := by
  obtain ⟨hle, hll⟩ := hc k (by omega)
  have rk : rt n (flP L k) k = k := rt_of_root n (by simp [flP])
  by_cases e : L k = k
  · have e1 : rt n (flP L k) (L k) = rt n (flP L k) k := by rw [e]
    simp only [uP, uS, uC, if_pos e1]
    refine ⟨?_, ?_, ?_⟩
    · intro i hi
      unfold flP
      by_cases h1 : i < k
      · rw [if_pos h1, if_pos (by omega)]
      · rw [if_neg h1]
        by_cases h2 : i = k
        · subst h2; rw [if_pos (by omega), e]
        · rw [if_neg (by omega)]
    · intro i hi
      unfold flS
      by_cases h1 : i < k
      · by_cases h2 : L i = i
        · rw [if_pos ⟨h1, h2⟩, if_pos ⟨by omega, h2⟩]
          simp only [cnt]
          have : L k ≠ i := by omega
          simp [this]
        · rw [if_neg (by simp [h2]), if_neg (by simp [h2])]
      · rw [if_neg (by omega)]
        by_cases h2 : i = k
        · subst h2
          rw [if_pos ⟨by omega, e⟩]
          simp only [cnt, e]
          rw [cnt_zero]
          · simp
          · intro j hj; have := (hc j (by omega)).1; simp; omega
        · rw [if_neg (by omega)]
    · simp only [flC, cnt, e]
      simp
      omega
  · have hlt : L k < k := by omega
    have rl : rt n (flP L k) (L k) = L k := rt_of_root n (by unfold flP; rw [if_pos hlt, hll])
    have e1 : ¬ rt n (flP L k) (L k) = rt n (flP L k) k := by rw [rl, rk]; exact e
    have sk : flS L k k = 1 := by unfold flS; rw [if_neg (by omega)]
    have sl : flS L k (L k) = cnt (fun j => L j == L k) k := by unfold flS; rw [if_pos ⟨hlt, hll⟩]
    have sl1 : 1 ≤ cnt (fun j => L j == L k) k := cnt_pos hlt (by simp [hll])
    have hs : ¬ flS L k (rt n (flP L k) (L k)) < flS L k (rt n (flP L k) k) := by rw [rl, rk, sk, sl]; omega
    have eW : uWin n (flP L k) (flS L k) (L k) k = L k := by unfold uWin; rw [if_neg hs, rl]
    have eL : uLose n (flP L k) (flS L k) (L k) k = k := by unfold uLose; rw [if_neg hs, rk]
    have eP : uP n (flP L k) (flS L k) (L k) k = upd (flP L k) k (L k) := by unfold uP; rw [if_neg e1, eW, eL]
    have eS : uS n (flP L k) (flS L k) (L k) k = upd (flS L k) (L k) (flS L k (L k) + flS L k k) := by unfold uS; rw [if_neg e1, eW, eL]
    have eC : uC n (flP L k) (flC n L k) (L k) k = flC n L k - 1 := by unfold uC; rw [if_neg e1]
    rw [eP, eS, eC]
    refine ⟨?_, ?_, ?_⟩
    · intro i hi
      unfold upd flP
      by_cases h2 : i = k
      · subst h2; rw [if_pos rfl, if_pos (by omega)]
      · rw [if_neg h2]
        by_cases h1 : i < k
        · rw [if_pos h1, if_pos (by omega)]
        · rw [if_neg h1, if_neg (by omega)]
    · intro i hi
      unfold upd
      by_cases h2 : i = L k
      · subst h2
        rw [if_pos rfl, sl, sk]
        unfold flS
        rw [if_pos ⟨by omega, hll⟩]
        simp [cnt]
      · rw [if_neg h2]
        unfold flS
        by_cases h1 : i < k
        · by_cases h3 : L i = i
          · rw [if_pos ⟨h1, h3⟩, if_pos ⟨by omega, h3⟩]
            simp only [cnt]
            have : L k ≠ i := by omega
            simp [this]
          · rw [if_neg (by simp [h3]), if_neg (by simp [h3])]
        · rw [if_neg (by omega)]
          by_cases h4 : i = k
          · subst h4; rw [if_neg (fun h => e h.2)]
          · rw [if_neg (by omega)]
    · simp only [flC, cnt]
      simp [e]
      omega

theorem CanN.rt {n : Nat} {L μ : Nat → Nat} (hc : CanN n L) (F : Forest n L μ) (i : Nat) (hi : i < n) : rt n L i = L i := by
  symm
  refine F.rt_eq L ?_ ?_ i hi
  · intro x _ e; exact e
  · intro x hx _; exact (hc x hx).2.symm

/-- Canonical labels, as raw numbers. -/
def CanZ (n : Nat) (z : Nat → Int) : Prop := ∀ i, i < n → 0 ≤ z i ∧ z i ≤ i ∧ z (z i).toNat = z i

theorem CanZ.can {n : Nat} {z : Nat → Int} (h : CanZ n z) : CanN n (fun i => (z i).toNat) := by
  intro i hi
  obtain ⟨h1, h2, h3⟩ := h i hi
  refine ⟨by show (z i).toNat ≤ i; omega, ?_⟩
  show (z (z i).toNat).toNat = (z i).toNat
  rw [h3]

theorem CanN.canZ {n : Nat} {L : Nat → Nat} (h : CanN n L) : CanZ n (fun i => (L i : Int)) := by
  intro i hi
  obtain ⟨h1, h2⟩ := h i hi
  refine ⟨by show 0 ≤ ((L i : Nat) : Int); omega, by show ((L i : Nat) : Int) ≤ i; omega, ?_⟩
  show ((L ((L i : Nat) : Int).toNat : Nat) : Int) = L i
  simp [h2]

/-- What FromLabels leaves. -/
structure FLYes (n : Nat) (L : Nat → Nat) (w : World) (e : Ending) (w' : World) (b bp bs : Nat) : Prop where
  ret : e = .returned (.tuple #[.pointer (some ⟨b, 0, none⟩), .bool true])
  sets : SetsN w' b bp bs n L (flS L n) (flC n L n)
  inv : Inv n L (flS L n) (flC n L n)
  lb : w.heap.size ≤ b
  lp : w.heap.size ≤ bp
  ls : w.heap.size ≤ bs
  fr : Fr [] w w'

def FLPost (n : Nat) (z : Nat → Int) (w : World) (e : Ending) (w' : World) : Prop :=
  (n ≤ 1048576 ∧ CanZ n z ∧ ∃ b bp bs, FLYes n (fun i => (z i).toNat) w e w' b bp bs) ∨ (¬ (n ≤ 1048576 ∧ CanZ n z) ∧ e = .returned (.tuple #[.pointer none, .bool false]) ∧ Fr [] w w')

set_option maxHeartbeats 1000000 in
theorem fromLabels_any (n cap : Nat) (a : Option Addr) (z : Nat → Int) (w : World) (hn : n ≤ 9223372036854775807) (r : Rd .i64 w a n z) :
    Calls Ydbm.prog 26 #[.slice a n cap] w fun e w' => FLPost n z w e w' := by
  by_cases hle : 1048576 < n
  · go_enter Ydbm.func26, Ydbm.ntmps26
    go_wp2_with fail
    refine (new_no n _ (Or.inr (by omega))).mono ?_
    rintro e w' ⟨rfl, rfl⟩
    go_wp2_with fail
    go_ret2
    exact Or.inr ⟨fun h => by omega, rfl, Fr.refl _ _⟩
  · go_enter Ydbm.func26, Ydbm.ntmps26
    go_wp2_with fail
    refine (new_yes n _ (by omega)).mono ?_
    rintro e w1 ⟨b, bp, bs, rfl, hS, hb, hbp, hbs, hF⟩
    go_wp2_with fail
    go_loopw [18] (fun v wr => ∃ k : Nat, k ≤ n ∧ v = .int .i64 k ∧ CanZ k z ∧ SetsN wr b bp bs n (flP (fun i => (z i).toNat) k) (flS (fun i => (z i).toNat) k) (flC n (fun i => (z i).toNat) k) ∧ Inv n (flP (fun i => (z i).toNat) k) (flS (fun i => (z i).toNat) k) (flC n (fun i => (z i).toNat) k) ∧ Fr [] w wr) (fun v _ => n - (intOf v).toNat)
    case atStart =>
      refine ⟨0, Nat.zero_le _, rfl, fun i hi => absurd hi (Nat.not_lt_zero _), hS.congr ?_ ?_ ?_, ?_, hF⟩
      · intro i _; simp [flP]
      · intro i _; simp [flS]
      · simp [flC, cnt]
      · have e : flC n (fun i => (z i).toNat) 0 = n := by simp [flC, cnt]
        rw [e]
        exact (inv_new n).congr (fun i _ => by simp [flP]) (fun i _ => by simp [flS])
    case round =>
      clear hS hF
      obtain ⟨k, hk, rfl, hc, hS, I, hF⟩ := hrel
      by_cases hlt : k < n
      · obtain ⟨b0, o0, rfl, hr0⟩ := (hF.rd0 r).at (by omega)
        have ck := hr0 k hlt
        have lt' : (k : Int) < (n : Int) := by omega
        have nok : ¬ (0 ≤ z k ∧ z k ≤ k ∧ z (z k).toNat = z k) → ¬ (n ≤ 1048576 ∧ CanZ n z) := fun h1 h2 => h1 (h2.2 k hlt)
        have Nok := hide nok
        have Hc := hide hc
        clear nok hc
        by_cases g1 : z k < 0
        · have hdd := dec_true g1
          go_wp2_with fail
          go_ret2
          exact Or.inr ⟨Nok.out (fun h => by omega), rfl, hF⟩
        · by_cases g2 : (k : Int) < z k
          · have hdd := dec_true g2
            go_wp2_with fail
            go_ret2
            exact Or.inr ⟨Nok.out (fun h => by omega), rfl, hF⟩
          · obtain ⟨q, hq⟩ := Int.eq_ofNat_of_zero_le (by omega : 0 ≤ z k)
            have hqk : q ≤ k := by omega
            have cq := hr0 q (by omega)
            rw [hq] at ck
            have hqn : (q : Int) < (n : Int) := by omega
            have hqk' : (q : Int) ≤ (k : Int) := by omega
            have Hq := hide hq
            clear hr0 hq g1 g2
            by_cases g3 : z q = q
            · have e3 : (z q != (q : Int)) = false := by simpa using g3
              have G3 := hide g3
              clear g3
              have hcan : CanN (k + 1) (fun i => (z i).toNat) := by
                intro i hi
                by_cases ei : i = k
                · subst ei
                  simp only [Hq.out, Int.toNat_natCast]
                  exact ⟨hqk, by rw [G3.out]; simp⟩
                · exact (CanZ.can Hc.out) i (by omega)
              have hcz : CanZ (k + 1) z := by
                intro i hi
                by_cases ei : i = k
                · subst ei
                  rw [Hq.out]
                  simp only [Int.toNat_natCast]
                  exact ⟨by omega, by omega, G3.out⟩
                · exact Hc.out i (by omega)
              have hLk : (z k).toNat = q := by simp [Hq.out]
              have st := fl_step hlt hcan I
              rw [hLk] at st
              have I2 := (I.union (a := q) (b := k) (by omega) hlt).1
              have St := hide st
              clear st hLk hcan
              have Hcz := hide hcz
              clear hcz
              go_wp2_with fail
              refine (union_in b bp bs n _ _ _ q k _ hS I (by omega) (by omega) hlt).mono ?_
              rintro e w2 ⟨rfl, hS2, hF2⟩
              obtain ⟨s1, s2, s3⟩ := St.out
              rw [s3] at hS2 I2
              have hS2 := SetsAt.congr hS2 (fun i hi => by rw [s1 i hi]) (fun i hi => by rw [s2 i hi]) rfl
              have I3 := I2.congr s1 s2
              clear s1 s2 s3
              have hF3 : Fr [] w w2 := hF.trans' hF2 (by intro x hx hl; simp at hx; omega)
              go_wp2_with fail
              go_roundw
              case rel => exact ⟨k + 1, by omega, by go_num, Hcz.out, hS2, I3, hF3⟩
              case measure => simp [intOf] <;> omega
            · have e3 : (z q != (q : Int)) = true := by simpa using g3
              go_wp2_with fail
              go_ret2
              refine Or.inr ⟨Nok.out (fun h => g3 ?_), rfl, hF⟩
              have := h.2.2
              rw [Hq.out] at this
              simpa using this
      · have hkn : k = n := by omega
        subst hkn
        go_wp2_with fail
        go_ret2
        have eP : ∀ i, i < k → flP (fun i => (z i).toNat) k i = (z i).toNat := fun i hi => by simp [flP, hi]
        exact Or.inl ⟨by omega, hc, b, bp, bs, rfl, SetsAt.congr hS (fun i hi => by rw [eP i hi]) (fun _ _ => rfl) rfl, I.congr eP (fun _ _ => rfl), hb, hbp, hbs, hF⟩

/-- .. of canonical labels. -/
theorem fromLabels_can (n cap : Nat) (a : Option Addr) (L : Nat → Nat) (w : World) (hn : n ≤ 1048576) (hc : CanN n L) (r : Rd .i64 w a n fun i => (L i : Int)) :
    Calls Ydbm.prog 26 #[.slice a n cap] w fun e w' => ∃ b bp bs, FLYes n L w e w' b bp bs := by
  refine (fromLabels_any n cap a _ w (by omega) r).mono ?_
  rintro e w' (⟨_, _, b, bp, bs, h⟩ | ⟨h, _⟩)
  · refine ⟨b, bp, bs, ?_⟩
    simpa using h
  · exact absurd ⟨hn, hc.canZ⟩ h
end Go.Proofs.Ymbrdb
