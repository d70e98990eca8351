/-
  zzs930009iplay.
-/
import Derived.Test.YmbrdbPlain3
import Derived.Test.YmbrdbSmall
import Derived.Deep.RegionWith
namespace Go.Proofs.Ymbrdb
open Go.RowKit
set_option linter.unusedSimpArgs false
set_option linter.unusedVariables false

theorem grow_yes {E0 : Nat → Nat → Prop} {n k : Nat} {f g : Nat → Nat} {u : Nat → Prop} {R R0 : Nat → Nat} (h0 : Gens n R0 E0) (h : Gens n R (EU E0 n f g u k)) (hu : u k) (hf : f k < n) (hg : g k < n) (hne : R (f k) ≠ R (g k)) :
    ¬ ∀ x y, EU E0 n f g u (k + 1) x y → R0 x = R0 y := by
  intro hall
  have e := hall (f k) (g k) (Or.inr ⟨k, by omega, hu, hf, hg, rfl, rfl⟩)
  exact hne (h0.fin R (fun a b hab => h.mem a b (Or.inl hab)) _ _ hf hg e)

theorem grow_no {E0 : Nat → Nat → Prop} {n k : Nat} {f g : Nat → Nat} {u : Nat → Prop} {R R0 : Nat → Nat} (h : Gens n R (EU E0 n f g u k)) (hc : f k < n → g k < n → R (f k) = R (g k)) :
    (∀ x y, EU E0 n f g u (k + 1) x y → R0 x = R0 y) ↔ (∀ x y, EU E0 n f g u k x y → R0 x = R0 y) := by
  constructor
  · rintro hall x y (e | ⟨i, hi, e⟩)
    · exact hall x y (Or.inl e)
    · exact hall x y (Or.inr ⟨i, by omega, e⟩)
  · rintro hall x y (e | ⟨i, hi, hu, hf, hg, rfl, rfl⟩)
    · exact hall x y (Or.inl e)
    · by_cases ei : i = k
      · subst ei; exact h.fin R0 hall _ _ hf hg (hc hf hg)
      · exact hall _ _ (Or.inr ⟨i, by omega, hu, hf, hg, rfl, rfl⟩)

theorem zCode_zero {n : Nat} {p : Nat → Nat} (x y : Nat) : zCode n p x y = 0 ↔ (x < n ∧ y < n ∧ rt n p x ≠ rt n p y) := by
  by_cases h : x < n ∧ y < n
  · rw [zCode_nat h.1 h.2]
    unfold uCode
    by_cases e : rt n p x = rt n p y
    · simp [e]
    · simp [e, h.1, h.2]
  · rw [zCode_out (inb2_out (by omega))]
    constructor
    · intro e; omega
    · intro e; exact absurd ⟨e.1, e.2.1⟩ h

/-- An element of a script's step, reduced to 0..n. -/
def rd1 (n : Nat) (z : Nat → Int) (i : Nat) : Nat := (z i % ((n : Int) + 1)).toNat

theorem rd2_apart {k0 k1 : IntKind} {w : World} {a : Option Addr} {n b bp bs : Nat} {f0 f1 : Nat → Int} (r : Rd2 k0 k1 w a n f0 f1) (hb : w.heap.size ≤ b) (hp : w.heap.size ≤ bp) (hs : w.heap.size ≤ bs) :
    0 < n → ∀ x, a = some x → x.block ≠ b ∧ x.block ≠ bp ∧ x.block ≠ bs := by
  intro hn x hx
  obtain ⟨b1, o1, h1, h2, _⟩ := r 0 hn
  rw [h1] at hx
  cases hx
  have : b1 < w.heap.size := World.block_lt_of_cell? _ _ h2
  refine ⟨?_, ?_, ?_⟩
  · show b1 ≠ b; omega
  · show b1 ≠ bp; omega
  · show b1 ≠ bs; omega

set_option maxHeartbeats 2000000 in
theorem iplay_any (b bp bs n m d : Nat) (p s : Nat → Nat) (c : Nat) (a : Option Addr) (zA zB : Nat → Int) (E0 : Nat → Nat → Prop) (w : World) (hn : n ≤ 1000) (hm : m ≤ 1024)
    (hE : ∀ x y, E0 x y → x < n ∧ y < n) (hS : SetsN w b bp bs n p s c) (I : Inv n p s c) (hG : Gens n (rt n p) E0)
    (r : Rd2 .u8 .u8 w a m zA zB) (hab : 0 < m → ∀ x, a = some x → x.block ≠ b ∧ x.block ≠ bp ∧ x.block ≠ bs) (wA : ∀ i, i < m → (Lit.int .u8 (zA i)).wf = true) (wB : ∀ i, i < m → (Lit.int .u8 (zB i)).wf = true) :
    Calls Ydbm.prog 35 #[.pointer (some ⟨b, 0, none⟩), .int .i64 n, .slice a m d] w fun e w' => ∃ (g : Nat) (p' s' : Nat → Nat) (c' : Nat), e = .returned (.int .i64 g) ∧
      SetsN w' b bp bs n p' s' c' ∧ Inv n p' s' c' ∧ Gens n (rt n p') (EU E0 n (rd1 n zA) (rd1 n zB) (fun _ => True) m) ∧ (g = 0 ↔ ∀ x y, EU E0 n (rd1 n zA) (rd1 n zB) (fun _ => True) m x y → rt n p x = rt n p y) ∧ Fr [b, bp, bs] w w' := by
  go_enter Ydbm.func35, Ydbm.ntmps35
  go_wp2_with fail
  go_loopw [12, 7] (fun v12 v7 wr => ∃ (k g : Nat) (p' s' : Nat → Nat) (c' : Nat), k ≤ m ∧ v12 = .int .i64 k ∧ g ≤ k ∧ v7 = .int .i64 g ∧
      SetsN wr b bp bs n p' s' c' ∧ Inv n p' s' c' ∧ Gens n (rt n p') (EU E0 n (rd1 n zA) (rd1 n zB) (fun _ => True) k) ∧ (g = 0 ↔ ∀ x y, EU E0 n (rd1 n zA) (rd1 n zB) (fun _ => True) k x y → rt n p x = rt n p y) ∧ Fr [b, bp, bs] w wr) (fun v12 _ _ => m - (intOf v12).toNat)
  case atStart =>
    refine ⟨0, 0, p, s, c, Nat.zero_le _, rfl, Nat.le_refl _, rfl, hS, I, hG.start _ _ _, ?_, Fr.refl _ _⟩
    simp only [EU.zero]
    exact ⟨fun _ => hG.mem, fun _ => by trivial⟩
  case round =>
    obtain ⟨k, g, p', s', c', hk, rfl, hgk, rfl, hS', I', hG', hg, hF⟩ := hrel
    have Hg := hide hg
    have HG := hide hG'
    clear hg hG'
    by_cases hlt : k < m
    · have rr := hF.rd2 r (fun x hx => by have := hab (by omega) x hx; simp; omega)
      obtain ⟨b1, o1, rfl, cA, cB⟩ := rr k hlt
      have bA := bd_u8 (wA k hlt)
      have bB := bd_u8 (wB k hlt)
      have lt' : (k : Int) < (m : Int) := by omega
      have np : (0 : Int) < (n : Int) + 1 := by omega
      have nz2 : ¬ ((n : Int) + 1 = 0) := by omega
      have hw1 : IntKind.i64.wrap ((n : Int) + 1) = (n : Int) + 1 := by rw [IntKind.wrap_i64]; omega
      have hwA : IntKind.i64.wrap (zA k) = zA k := by rw [IntKind.wrap_i64]; omega
      have hwB : IntKind.i64.wrap (zB k) = zB k := by rw [IntKind.wrap_i64]; omega
      have tA : (zA k).tmod ((n : Int) + 1) = zA k % ((n : Int) + 1) := Int.tmod_eq_emod_of_nonneg bA.1
      have tB : (zB k).tmod ((n : Int) + 1) = zB k % ((n : Int) + 1) := Int.tmod_eq_emod_of_nonneg bB.1
      have q0 : 0 ≤ zA k % ((n : Int) + 1) := emod_lo _ (by omega)
      have q1 : zA k % ((n : Int) + 1) < (n : Int) + 1 := emod_hi _ (by omega)
      have q2 : 0 ≤ zB k % ((n : Int) + 1) := emod_lo _ (by omega)
      have q3 : zB k % ((n : Int) + 1) < (n : Int) + 1 := emod_hi _ (by omega)
      have hx1 : ((rd1 n zA k : Nat) : Int) = zA k % ((n : Int) + 1) := by unfold rd1; have := emod_lo (zA k) np; omega
      have hy1 : ((rd1 n zB k : Nat) : Int) = zB k % ((n : Int) + 1) := by unfold rd1; have := emod_lo (zB k) np; omega
      have Hx1 := hide hx1
      have Hy1 := hide hy1
      clear hx1 hy1 rr
      go_wp2_with fail
      have hsz := hF.size
      have lb := SetsAt.lt hS'
      have lp := hS'.hp.lt
      have ls := hS'.hs.lt
      have hSW := SetsAt.alloc hS' (.cells #[.int .u8 (zA k), .int .u8 (zB k)] 79)
      have hFW := hF.alloc (.cells #[.int .u8 (zA k), .int .u8 (zB k)] 79)
      have k0 : (wr.alloc (.cells #[.int .u8 (zA k), .int .u8 (zB k)] 79)).cell? ⟨wr.heap.size, 0, none⟩ = some (.int .u8 (zA k)) := by simp
      have k1 : (wr.alloc (.cells #[.int .u8 (zA k), .int .u8 (zB k)] 79)).cell? ⟨wr.heap.size, 1, none⟩ = some (.int .u8 (zB k)) := by simp
      generalize wr.heap.size = C at *
      generalize wr.alloc (.cells #[.int .u8 (zA k), .int .u8 (zB k)] 79) = W at *
      go_cut [30] from 13 to 33 (fun v30 wz => v30 = .bool (zCode n p' (rd1 n zA k) (rd1 n zB k) == 0) ∧ SetsN wz b bp bs n (zP n p' s' (rd1 n zA k) (rd1 n zB k)) (zS n p' s' (rd1 n zA k) (rd1 n zB k)) (zC n p' c' (rd1 n zA k) (rd1 n zB k)) ∧ Fr [b, bp, bs] w wz)
      case first =>
        go_region_with (go_at_call 25; refine (union_any b bp bs n p' s' c' _ _ _ (by exact SetsAt.drew hSW) I' (by omega)).mono ?_; rintro e w2 ⟨rfl, hS2, hF2⟩)
        all_goals go_wp2_with fail
        all_goals go_meet
        all_goals
          rw [Hx1.out, Hy1.out]
          exact ⟨rfl, hS2, (Fr.drew hFW).trans hF2⟩
      case rest =>
        obtain ⟨rfl, hS2, hF2⟩ := hcut
        have I2 := I'.unionZ (rd1 n zA k) (rd1 n zB k)
        have HG2 := hide (Gens.unionZ hE I' HG.out (u := fun _ => True) trivial)
        have hz := zCode_zero (n := n) (p := p') (rd1 n zA k) (rd1 n zB k)
        clear hSW hFW hS'
        by_cases e0 : zCode n p' (rd1 n zA k) (rd1 n zB k) = 0
        · have ee : (zCode n p' (rd1 n zA k) (rd1 n zB k) == 0) = true := by simp [e0]
          have hno := hide (grow_yes hG HG.out trivial (hz.1 e0).1 (hz.1 e0).2.1 (hz.1 e0).2.2)
          rw [ee]
          clear e0 ee hz
          go_wp2_with fail
          go_roundw
          case rel => exact ⟨k + 1, g + 1, _, _, _, by omega, by go_num, by omega, by go_num, hS2, I2, HG2.out, ⟨fun h => by omega, fun h => absurd h hno.out⟩, hF2⟩
          case measure => simp [intOf] <;> omega
        · have ee : (zCode n p' (rd1 n zA k) (rd1 n zB k) == 0) = false := by simp [e0]
          have hno := hide (grow_no (R0 := rt n p) HG.out (fun h1 h2 => Classical.byContradiction fun h3 => e0 (hz.2 ⟨h1, h2, h3⟩)))
          rw [ee]
          clear e0 ee hz
          go_wp2_with fail
          go_roundw
          case rel => exact ⟨k + 1, g, _, _, _, by omega, by go_num, by omega, rfl, hS2, I2, HG2.out, Hg.out.trans hno.out.symm, hF2⟩
          case measure => simp [intOf] <;> omega
    · have hkm : k = m := by omega
      subst hkm
      go_wp2_with fail
      go_ret
      exact ⟨g, p', s', c', rfl, hS', I', HG.out, Hg.out, hF⟩
end Go.Proofs.Ymbrdb
