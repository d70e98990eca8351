/-
  zzs930009gforest.
-/
import Derived.Test.YmbrdbUnion
import Derived.Test.YmbrdbOpen
import Derived.Deep.Cut
import Derived.Deep.CutRange
namespace Go.Proofs.Ymbrdb
open Go.RowKit
set_option linter.unusedSimpArgs false
set_option linter.unusedVariables false

/-- The element below or at i on which i hangs. -/
def gj (z : Nat → Int) (i : Nat) : Nat := if i = 0 then 0 else i - (z (i - 1)).toNat % (i + 1)
/-- The numbering, mirrored or not. -/
def gsg (N : Nat) (up : Bool) (i : Nat) : Nat := if up then N - 1 - i else i
def gp (N : Nat) (z : Nat → Int) (up : Bool) (x : Nat) : Nat := gsg N up (gj z (gsg N up x))

theorem gj_le (z : Nat → Int) (i : Nat) : gj z i ≤ i := by unfold gj; split <;> omega
theorem gsg_lt {N i : Nat} (up : Bool) (h : i < N) : gsg N up i < N := by unfold gsg; split <;> omega
theorem gsg_gsg {N i : Nat} (up : Bool) (h : i < N) : gsg N up (gsg N up i) = i := by unfold gsg; split <;> omega

theorem gforest_forest (N : Nat) (z : Nat → Int) (up : Bool) : Forest N (gp N z up) (gsg N up) := by
  refine ⟨?_, fun x hx => gsg_lt up hx, ?_⟩
  · intro x hx
    unfold gp
    have h1 := gsg_lt up hx
    have h2 := gj_le z (gsg N up x)
    exact gsg_lt up (by omega)
  · intro x hx hne
    unfold gp at hne ⊢
    have h1 := gsg_lt up hx
    have h2 := gj_le z (gsg N up x)
    rw [gsg_gsg up (by omega)]
    have h3 : gj z (gsg N up x) ≠ gsg N up x := by
      intro e
      rw [e, gsg_gsg up hx] at hne
      exact hne rfl
    omega

set_option maxHeartbeats 1000000 in
theorem gforest_any (m cap : Nat) (a : Option Addr) (z : Nat → Int) (up : Bool) (w : World) (r : Rd .u16 w a m z) (hm : m ≤ 1024) (hz : ∀ i, i < m → (Lit.int .u16 (z i)).wf = true) :
    Calls Ydbm.prog 27 #[.slice a m cap, .bool up] w fun e w' => ∃ bp bw, e = .returned (.tuple #[.slice (some ⟨bp, 0, none⟩) (m + 1) (m + 1), .slice (some ⟨bw, 0, none⟩) (m + 1) (m + 1)]) ∧
      ARow w' bp (m + 1) (fun i => (gp (m + 1) z up i : Int)) ∧ ARow w' bw (m + 1) (fun i => (rt (m + 1) (gp (m + 1) z up) i : Int)) ∧ w.heap.size ≤ bp ∧ w.heap.size ≤ bw ∧ bp ≠ bw ∧ Fr [] w w' := by
  have F := gforest_forest (m + 1) z up
  have hmk := mk (m + 1) (by omega)
  have ec : ((m + 1 : Nat) : Int) = (m : Int) + 1 := by omega
  rw [ec] at hmk
  go_enter Ydbm.func27, Ydbm.ntmps27
  go_wp2_with fail
  go_loopw [9] (fun v wr => ∃ (k : Nat) (f g : Nat → Int), k ≤ m + 1 ∧ v = .int .i64 k ∧ ARow wr w.heap.size (m + 1) f ∧ ARow wr (w.heap.size + 1) (m + 1) g ∧
      (∀ i, i < k → f (gsg (m + 1) up i) = gp (m + 1) z up (gsg (m + 1) up i)) ∧ (∀ i, i < k → g (gsg (m + 1) up i) = rt (m + 1) (gp (m + 1) z up) (gsg (m + 1) up i)) ∧ Fr [] w wr) (fun v _ => m + 1 - (intOf v).toNat)
  case atStart =>
    have r1 := ARow.new w (m + 1) fun _ => 0
    have r2 := ARow.new (w.alloc (.cells (row (m + 1) fun _ => 0) 3)) (m + 1) fun _ => 0
    have r1' := r1.alloc (.cells (row (m + 1) fun _ => 0) 3)
    simp only [World.size_alloc] at r2
    exact ⟨0, _, _, Nat.zero_le _, rfl, r1', r2, fun i hi => absurd hi (Nat.not_lt_zero _), fun i hi => absurd hi (Nat.not_lt_zero _), ((Fr.refl _ _).alloc _).alloc _⟩
  case round =>
    obtain ⟨k, f, g, hk, rfl, hf, hg, h1, h2, hF⟩ := hrel
    by_cases hlt : k < m + 1
    · have l1 := gsg_lt up hlt
      have cp := hf.cell _ l1
      have fp := hf.frozen (gsg (m + 1) up k)
      have cw := hg.cell _ l1
      have fw := hg.frozen (gsg (m + 1) up k)
      have hj := gj_le z k
      have l2 : gsg (m + 1) up (gj z k) < m + 1 := gsg_lt up (by omega)
      have cj := hg.cell _ l2
      have ne : w.heap.size ≠ w.heap.size + 1 := by omega
      have Hj : Hid (gj z k = if k = 0 then 0 else k - (z (k - 1)).toNat % (k + 1)) := rfl
      have Hg : Hid (gsg (m + 1) up (gj z k) = gp (m + 1) z up (gsg (m + 1) up k)) := by unfold gp; rw [gsg_gsg up hlt]; rfl
      have Hq : Hid (gsg (m + 1) up (gj z k) = gsg (m + 1) up k → gj z k = k) := fun e => by
        have := congrArg (gsg (m + 1) up) e
        rwa [gsg_gsg up hlt, gsg_gsg up (by omega)] at this
      generalize hA : gsg (m + 1) up k = pi at *
      generalize hB : gsg (m + 1) up (gj z k) = pj at *
      have HA : Hid (gsg (m + 1) up k = pi) := hA
      have HB : Hid (gsg (m + 1) up (gj z k) = pj) := hB
      clear hA hB
      have key : ∀ (f' g' : Nat → Int), (∀ i, i < m + 1 → f' i = if i = pi then (pj : Int) else f i) → (∀ i, i < m + 1 → g' i = if i = pi then (if pi = pj then (pi : Int) else g pj) else g i) →
          (∀ i, i < k + 1 → f' (gsg (m + 1) up i) = gp (m + 1) z up (gsg (m + 1) up i)) ∧ (∀ i, i < k + 1 → g' (gsg (m + 1) up i) = rt (m + 1) (gp (m + 1) z up) (gsg (m + 1) up i)) := by
        intro f' g' e1 e2
        have inj : ∀ i, i < k → gsg (m + 1) up i ≠ pi := by
          intro i hi e
          rw [← HA.out] at e
          have := congrArg (gsg (m + 1) up) e
          rw [gsg_gsg up hlt, gsg_gsg up (by omega)] at this
          omega
        constructor
        · intro i hi
          rw [e1 _ (gsg_lt up (by omega))]
          by_cases e : i = k
          · subst e; rw [HA.out, if_pos rfl, Hg.out]
          · rw [if_neg (inj i (by omega))]; exact h1 i (by omega)
        · intro i hi
          rw [e2 _ (gsg_lt up (by omega))]
          by_cases e : i = k
          · subst e; rw [HA.out, if_pos rfl]
            by_cases e3 : pi = pj
            · rw [if_pos e3, rt_of_root _ (by rw [← Hg.out]; exact e3.symm)]
            · rw [if_neg e3]
              have hjl : gj z i < i := by
                rcases Nat.lt_or_ge (gj z i) i with h | h
                · exact h
                · have e4 : gj z i = i := by omega
                  have e5 := HB.out
                  rw [e4, HA.out] at e5
                  exact absurd e5 e3
              have := h2 (gj z i) hjl
              rw [HB.out] at this
              rw [this, Hg.out, F.rt_p pi l1]
          · rw [if_neg (inj i (by omega))]; exact h2 i (by omega)
      have Key := hide key
      clear key h1 h2
      have fin : ∀ v : Int, v = (if pi = pj then (pi : Int) else g pj) → ∃ f' g' : Nat → Int,
          ARow ((wr.setCell ⟨w.heap.size, pi, none⟩ (.int .i64 pj)).setCell ⟨w.heap.size + 1, pi, none⟩ (.int .i64 v)) w.heap.size (m + 1) f' ∧
          ARow ((wr.setCell ⟨w.heap.size, pi, none⟩ (.int .i64 pj)).setCell ⟨w.heap.size + 1, pi, none⟩ (.int .i64 v)) (w.heap.size + 1) (m + 1) g' ∧
          (∀ i, i < k + 1 → f' (gsg (m + 1) up i) = gp (m + 1) z up (gsg (m + 1) up i)) ∧ (∀ i, i < k + 1 → g' (gsg (m + 1) up i) = rt (m + 1) (gp (m + 1) z up) (gsg (m + 1) up i)) ∧
          Fr [] w ((wr.setCell ⟨w.heap.size, pi, none⟩ (.int .i64 pj)).setCell ⟨w.heap.size + 1, pi, none⟩ (.int .i64 v)) := by
        intro v hv
        have a1 := (hf.set pi pj).set_ne ⟨w.heap.size + 1, pi, none⟩ (by show w.heap.size + 1 ≠ w.heap.size; omega) (.int .i64 v)
        have a2 := (hg.set_ne ⟨w.heap.size, pi, none⟩ (by show w.heap.size ≠ w.heap.size + 1; omega) (.int .i64 pj)).set pi v
        obtain ⟨q1, q2⟩ := Key.out (upd f pi pj) (upd g pi v) (fun i _ => rfl) (fun i _ => by unfold upd; rw [hv])
        exact ⟨_, _, a1, a2, q1, q2, (hF.setCell _ (.inr (Nat.le_refl _)) _).setCell _ (.inr (Nat.le_succ _)) _⟩
      have Fin := hide fin
      clear fin
      by_cases k0 : k = 0
      · subst k0
        have g0 : gj z 0 = 0 := rfl
        cases up
        · have e1 : pi = 0 := by have := HA.out; simp [gsg] at this; omega
          have e2 : pj = 0 := by have := HB.out; rw [g0] at this; simp [gsg] at this; omega
          subst e1 e2
          go_upto_region 15 with fail
          go_wp2_with fail
          go_roundw
          case rel =>
            obtain ⟨f', g', t1, t2, t3, t4, t5⟩ := Fin.out _ (if_pos rfl).symm
            exact ⟨1, f', g', by omega, by go_num, t1, t2, t3, t4, t5⟩
          case measure => simp [intOf]
        · have e1 : pi = m := by have := HA.out; simp [gsg] at this; omega
          have e2 : pj = m := by have := HB.out; rw [g0] at this; simp [gsg] at this; omega
          subst e1 e2
          go_upto_region 15 with fail
          go_wp2_with fail
          go_roundw
          case rel =>
            obtain ⟨f', g', t1, t2, t3, t4, t5⟩ := Fin.out _ (if_pos rfl).symm
            exact ⟨1, f', g', by omega, by go_num, t1, t2, t3, t4, t5⟩
          case measure => simp [intOf]
      · have hd : decide ((0 : Int) < (k : Int)) = true := by simp; omega
        obtain ⟨k', rfl⟩ : ∃ k', k = k' + 1 := ⟨k - 1, by omega⟩
        obtain ⟨b1, off, rfl, hc⟩ := r.at (by omega)
        obtain ⟨b1', off', hae, hck⟩ := (hF.rd0 r) k' (by omega)
        cases hae
        have bz := bd_u16 (hz k' (by omega))
        have q0 : 0 ≤ z k' % ((k' : Int) + 1 + 1) := emod_lo _ (by omega)
        have q1 : z k' % ((k' : Int) + 1 + 1) < (k' : Int) + 1 + 1 := emod_hi _ (by omega)
        have q2 : ((gj z (k' + 1) : Nat) : Int) = (k' : Int) + 1 - z k' % ((k' : Int) + 1 + 1) := by
          have e := toNat_mod bz.1 (k' + 1 + 1)
          rw [Hj.out, if_neg (by omega)]
          simp only [Nat.add_sub_cancel]
          rw [show (((k' + 1 + 1 : Nat)) : Int) = (k' : Int) + 1 + 1 from by omega] at e
          omega
        have Q2 := hide q2
        clear q2 hc
        cases up
        · have e1 : pi = k' + 1 := by have := HA.out; simp [gsg] at this; omega
          have e2 : ((k' : Int) + 1 - z k' % ((k' : Int) + 1 + 1)) = pj := by have := HB.out; simp [gsg] at this; have := Q2.out; omega
          have E2 := hide e2
          subst e1
          clear e2
          go_upto_region 15 with fail
          rw [E2.out]
          by_cases ep : (k' + 1) = pj
          · subst ep
            go_wp2_with fail
            go_roundw
            case rel =>
              obtain ⟨f', g', t1, t2, t3, t4, t5⟩ := Fin.out ((k' : Int) + 1) (if_pos rfl).symm
              exact ⟨k' + 1 + 1, f', g', by omega, by go_num, t1, t2, t3, t4, t5⟩
            case measure => simp [intOf]; omega
          · have ee : (((k' : Int) + 1) == (pj : Int)) = false := by simp; omega
            go_wp2_with fail
            go_roundw
            case rel =>
              obtain ⟨f', g', t1, t2, t3, t4, t5⟩ := Fin.out (g pj) (if_neg ep).symm
              exact ⟨k' + 1 + 1, f', g', by omega, by go_num, t1, t2, t3, t4, t5⟩
            case measure => simp [intOf]; omega
        · have e1 : ((m : Int) - (k' + 1)) = pi := by have := HA.out; simp [gsg] at this; omega
          have e2 : ((m : Int) - ((k' : Int) + 1 - z k' % ((k' : Int) + 1 + 1))) = pj := by have := HB.out; simp [gsg] at this; have := Q2.out; omega
          have E1 := hide e1
          have E2 := hide e2
          clear e1 e2
          go_upto_region 15 with fail
          rw [E1.out, E2.out]
          by_cases ep : pi = pj
          · subst ep
            go_wp2_with fail
            go_roundw
            case rel =>
              obtain ⟨f', g', t1, t2, t3, t4, t5⟩ := Fin.out pi (if_pos rfl).symm
              exact ⟨k' + 1 + 1, f', g', by omega, by go_num, t1, t2, t3, t4, t5⟩
            case measure => simp [intOf]; omega
          · have ee : ((pi : Int) == (pj : Int)) = false := by simp; omega
            go_wp2_with fail
            go_roundw
            case rel =>
              obtain ⟨f', g', t1, t2, t3, t4, t5⟩ := Fin.out (g pj) (if_neg ep).symm
              exact ⟨k' + 1 + 1, f', g', by omega, by go_num, t1, t2, t3, t4, t5⟩
            case measure => simp [intOf]; omega
    · have hkk : k = m + 1 := by omega
      subst hkk
      go_wp2_with fail
      go_ret2
      refine ⟨_, _, rfl, hf.congr ?_, hg.congr ?_, Nat.le_refl _, Nat.le_succ _, by omega, hF⟩
      · intro i hi
        have := h1 (gsg (m + 1) up i) (gsg_lt up hi)
        rw [gsg_gsg up hi] at this
        exact this
      · intro i hi
        have := h2 (gsg (m + 1) up i) (gsg_lt up hi)
        rw [gsg_gsg up hi] at this
        exact this
end Go.Proofs.Ymbrdb
