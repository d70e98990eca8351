/-
  zzs930009lbuild.
-/
import Derived.Test.YmbrdcIplay
namespace Go.Proofs.Ymbrdc
open Go.RowKit
set_option linter.unusedSimpArgs false
set_option linter.unusedVariables false

/-- An element of a script's step, reduced to 0..n-1. -/
def md1 (n : Nat) (z : Nat → Int) (i : Nat) : Nat := (z i % (n : Int)).toNat

theorem md1_eq {n : Nat} (hn : 0 < n) (z : Nat → Int) (i : Nat) : ((md1 n z i : Nat) : Int) = z i % (n : Int) := by
  have := emod_lo (z i) (n := (n : Int)) (by omega)
  unfold md1; omega

theorem md1_lt {n : Nat} (hn : 0 < n) (z : Nat → Int) (i : Nat) : md1 n z i < n := by
  have := emod_hi (z i) (n := (n : Int)) (by omega)
  have := md1_eq hn z i
  omega

theorem EU.none {E0 : Nat → Nat → Prop} {f g : Nat → Nat} {u : Nat → Prop} {k : Nat} (x y : Nat) : EU E0 0 f g u k x y ↔ E0 x y := by
  unfold EU
  constructor
  · rintro (h | ⟨i, _, _, h, _⟩)
    · exact h
    · omega
  · exact Or.inl

structure LB (w : World) (n : Nat) (E : Nat → Nat → Prop) (e : Ending) (w' : World) (b bp bs : Nat) (p s : Nat → Nat) (c : Nat) : Prop where
  ret : e = .returned (.pointer (some ⟨b, 0, none⟩))
  sets : SetsN w' b bp bs n p s c
  inv : Inv n p s c
  gens : Gens n (rt n p) E
  hb : w.heap.size ≤ b
  hbp : w.heap.size ≤ bp
  hbs : w.heap.size ≤ bs
  fr : Fr [] w w'

set_option maxHeartbeats 4000000 in
set_option maxRecDepth 100000 in
theorem lbuild_any (n m d : Nat) (a : Option Addr) (zA zB : Nat → Int) (w : World) (hn : n ≤ 1000) (hm : m ≤ 1024) (r : Rd2 .u16 .u16 w a m zA zB)
    (wA : ∀ i, i < m → (Lit.int .u16 (zA i)).wf = true) (wB : ∀ i, i < m → (Lit.int .u16 (zB i)).wf = true) :
    Calls Ydcm.prog 27 #[.int .i64 n, .slice a m d] w fun e w' => ∃ b bp bs p s c, LB w n (EU E00 n (md1 n zA) (md1 n zB) (fun _ => True) m) e w' b bp bs p s c := by
  by_cases h0 : n = 0
  · subst h0
    go_enter Ydcm.func27, Ydcm.ntmps27
    go_wp2_with fail
    refine (new_yes 0 _ (by omega)).mono ?_
    rintro e wa ⟨b, bp, bs, rfl, hS, hb, hbp, hbs, hF⟩
    go_wp2_with fail
    go_ret
    exact ⟨b, bp, bs, fun x => x, fun _ => 1, 0, rfl, hS, inv_new 0, (gens_new 0 (md1 0 zA) (md1 0 zB) (fun _ => True)).iff (fun x y => (EU.none x y).trans (EU.none x y).symm), hb, hbp, hbs, hF⟩
  · have hz : ((n : Int) == 0) = false := by simp [h0]
    have hpos : (0 : Int) < (n : Int) := by omega
    have npos : 0 < n := by omega
    have hnz : ¬ ((n : Int) = 0) := by omega
    go_enter Ydcm.func27, Ydcm.ntmps27
    go_wp2_with fail
    refine (new_yes n _ (by omega)).mono ?_
    rintro e wa ⟨b, bp, bs, rfl, hS, hb, hbp, hbs, hF⟩
    go_wp2_with fail
    go_loopw [19] (fun v wr => ∃ (k : Nat) (p s : Nat → Nat) (c : Nat), k ≤ m ∧ v = .int .i64 k ∧ SetsN wr b bp bs n p s c ∧ Inv n p s c ∧ Gens n (rt n p) (EU E00 n (md1 n zA) (md1 n zB) (fun _ => True) k) ∧ Fr [] w wr) (fun v _ => m - (intOf v).toNat)
    case atStart => exact ⟨0, fun x => x, fun _ => 1, n, Nat.zero_le _, rfl, hS, inv_new n, gens_new _ _ _ _, hF⟩
    case round =>
      clear hS hF
      obtain ⟨k, p', s', c', hk, rfl, hS', I', hG', hF⟩ := hrel
      have HG := hide hG'
      clear hG'
      by_cases hlt : k < m
      · have rr := hF.rd20 r
        obtain ⟨b1, o1, rfl, cA, cB⟩ := rr k hlt
        have bA := bd_u16 (wA k hlt)
        have bB := bd_u16 (wB k hlt)
        have lt' : (k : Int) < (m : Int) := by omega
        have hwA : IntKind.i64.wrap (zA k) = zA k := by rw [IntKind.wrap_i64]; omega
        have hwB : IntKind.i64.wrap (zB k) = zB k := by rw [IntKind.wrap_i64]; omega
        have tA : (zA k).tmod (n : Int) = zA k % (n : Int) := Int.tmod_eq_emod_of_nonneg bA.1
        have tB : (zB k).tmod (n : Int) = zB k % (n : Int) := Int.tmod_eq_emod_of_nonneg bB.1
        have q0 : 0 ≤ zA k % (n : Int) := emod_lo _ hpos
        have q1 : zA k % (n : Int) < (n : Int) := emod_hi _ hpos
        have q2 : 0 ≤ zB k % (n : Int) := emod_lo _ hpos
        have q3 : zB k % (n : Int) < (n : Int) := emod_hi _ hpos
        have hvA : IntKind.i64.wrap (zA k % (n : Int)) = zA k % (n : Int) := by rw [IntKind.wrap_i64]; omega
        have hvB : IntKind.i64.wrap (zB k % (n : Int)) = zB k % (n : Int) := by rw [IntKind.wrap_i64]; omega
        have Hx1 := hide (md1_eq npos zA k)
        have Hy1 := hide (md1_eq npos zB k)
        clear rr
        go_wp2_with fail
        have hsz := hF.size
        have lb := SetsAt.lt hS'
        have lp := hS'.hp.lt
        have ls := hS'.hs.lt
        have hSW := SetsAt.alloc hS' (.cells #[.int .u16 (zA k), .int .u16 (zB k)] 64)
        have hFW := hF.alloc (.cells #[.int .u16 (zA k), .int .u16 (zB k)] 64)
        have k0 : (wr.alloc (.cells #[.int .u16 (zA k), .int .u16 (zB k)] 64)).cell? ⟨wr.heap.size, 0, none⟩ = some (.int .u16 (zA k)) := by simp
        have k1 : (wr.alloc (.cells #[.int .u16 (zA k), .int .u16 (zB k)] 64)).cell? ⟨wr.heap.size, 1, none⟩ = some (.int .u16 (zB k)) := by simp
        generalize wr.heap.size = C at *
        generalize wr.alloc (.cells #[.int .u16 (zA k), .int .u16 (zB k)] 64) = W at *
        have I2 := I'.unionZ (md1 n zA k) (md1 n zB k)
        have HG2 := hide (Gens.unionZ (E00.lt n) I' HG.out (u := fun _ => True) trivial)
        go_region_with (go_at_call 33; refine (union_any b bp bs n p' s' c' _ _ _ (by exact SetsAt.drew hSW) I' (by omega)).mono ?_; rintro e w2 ⟨rfl, hS2, hF2⟩)
        all_goals
          have hF3 : Fr [] w w2 := (Fr.drew hFW).trans' hF2 (by intro x hx hl; simp at hx; omega)
          have hS3 : SetsN w2 b bp bs n (zP n p' s' (md1 n zA k) (md1 n zB k)) (zS n p' s' (md1 n zA k) (md1 n zB k)) (zC n p' c' (md1 n zA k) (md1 n zB k)) := by
            rw [Hx1.out, Hy1.out]; exact hS2
          clear hSW hFW hS' hF2 hS2
          go_wp2_with fail
          go_roundw
          case rel => exact ⟨k + 1, _, _, _, by omega, by go_num, hS3, I2, HG2.out, hF3⟩
          case measure => simp [intOf] <;> omega
      · have hkm : k = m := by omega
        subst hkm
        go_wp2_with fail
        go_ret
        exact ⟨b, bp, bs, p', s', c', rfl, hS', I', HG.out, hb, hbp, hbs, hF⟩
end Go.Proofs.Ymbrdc
