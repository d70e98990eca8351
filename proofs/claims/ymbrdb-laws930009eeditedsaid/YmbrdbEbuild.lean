/-
  zzs930009ebuild.
-/
import Derived.Test.YmbrdbUnionZ
import Derived.Test.YmbrdbSmall
namespace Go.Proofs.Ymbrdb
open Go.RowKit
set_option linter.unusedSimpArgs false
set_option linter.unusedVariables false

structure EB (w : World) (n : Nat) (e : Ending) (w' : World) (b bp bs : Nat) (p s : Nat → Nat) (c : Nat) : Prop where
  ret : e = .returned (.pointer (some ⟨b, 0, none⟩))
  sets : SetsN w' b bp bs n p s c
  inv : Inv n p s c
  hb : w.heap.size ≤ b
  hbp : w.heap.size ≤ bp
  hbs : w.heap.size ≤ bs
  fr : Fr [] w w'

set_option maxHeartbeats 2000000 in
set_option maxRecDepth 100000 in
theorem ebuild_any (n m d : Nat) (a : Option Addr) (zO zA zB : Nat → Int) (w : World) (hn : n ≤ 255) (hm : m ≤ 1024) (r : Rd3 .u8 .u8 .u8 w a m zO zA zB)
    (wO : ∀ i, i < m → (Lit.int .u8 (zO i)).wf = true) (wA : ∀ i, i < m → (Lit.int .u8 (zA i)).wf = true) (wB : ∀ i, i < m → (Lit.int .u8 (zB i)).wf = true) :
    Calls Ydbm.prog 15 #[.int .i64 n, .slice a m d] w fun e w' => ∃ b bp bs p s c, EB w n e w' b bp bs p s c := by
  by_cases h0 : n = 0
  · subst h0
    go_enter Ydbm.func15, Ydbm.ntmps15
    go_wp2_with fail
    refine (new_yes 0 _ (by omega)).mono ?_
    rintro e wa ⟨b, bp, bs, rfl, hS, hb, hbp, hbs, hF⟩
    go_wp2_with fail
    go_ret
    exact ⟨b, bp, bs, fun x => x, fun _ => 1, 0, rfl, hS, inv_new 0, hb, hbp, hbs, hF⟩
  · have hz : ((n : Int) == 0) = false := by simp [h0]
    have hpos : (0 : Int) < (n : Int) := by omega
    go_enter Ydbm.func15, Ydbm.ntmps15
    go_wp2_with fail
    refine (new_yes n _ (by omega)).mono ?_
    rintro e wa ⟨b, bp, bs, rfl, hS, hb, hbp, hbs, hF⟩
    go_wp2_with fail
    go_loopw [7] (fun v wr => ∃ (k : Nat) (p s : Nat → Nat) (c : Nat), k ≤ m ∧ v = .int .i64 k ∧ SetsN wr b bp bs n p s c ∧ Inv n p s c ∧ Fr [] w wr) (fun v _ => m - (intOf v).toNat)
    case atStart => exact ⟨0, fun x => x, fun _ => 1, n, Nat.zero_le _, rfl, hS, inv_new n, hF⟩
    case round =>
      clear hS hF
      obtain ⟨j, p, s, c, hj, rfl, hS, I, hF⟩ := hrel
      by_cases hlt : j < m
      · obtain ⟨b1, o1, rfl, cO, cA, cB⟩ := (hF.rd30 r) j hlt
        have bO := bd_u8 (wO j hlt)
        have bA := bd_u8 (wA j hlt)
        have bB := bd_u8 (wB j hlt)
        have q0 : 0 ≤ zA j % (n : Int) := emod_lo _ hpos
        have q1 : zA j % (n : Int) < (n : Int) := emod_hi _ hpos
        have q2 : 0 ≤ zB j % (n : Int) := emod_lo _ hpos
        have q3 : zB j % (n : Int) < (n : Int) := emod_hi _ hpos
        by_cases eo : zO j % 4 = 3
        · have ee : (zO j % 4 == 3) = true := by simp [eo]
          clear eo
          go_wp2_with fail
          refine (compress_inv b bp bs n p s c _ _ hS I).mono ?_
          rintro e w2 ⟨rfl, q, hS2, I2, hrt, hF2⟩
          have hF3 : Fr [] w w2 := hF.trans' hF2 (by intro x hx hl; simp at hx; omega)
          clear hrt hS hF hF2
          go_wp2_with fail
          go_roundw
          case rel => exact ⟨j + 1, q, s, c, by omega, by go_num, hS2, I2, hF3⟩
          case measure => simp [intOf] <;> omega
        · have ee : (zO j % 4 == 3) = false := by simp [eo]
          clear eo
          go_wp2_with fail
          refine (union_any b bp bs n p s c _ _ _ hS I (by omega)).mono ?_
          rintro e w2 ⟨rfl, hS2, hF2⟩
          have hF3 : Fr [] w w2 := hF.trans' hF2 (by intro x hx hl; simp at hx; omega)
          clear hS hF hF2
          go_wp2_with fail
          go_roundw
          case rel => exact ⟨j + 1, _, _, _, by omega, by go_num, hS2, I.unionZ _ _, hF3⟩
          case measure => simp [intOf] <;> omega
      · go_wp2_with fail
        go_ret
        exact ⟨b, bp, bs, p, s, c, rfl, hS, I, hb, hbp, hbs, hF⟩
end Go.Proofs.Ymbrdb
