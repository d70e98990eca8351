/-
  zzs930009ipaint.
-/
import Derived.Test.YmbrdbIplay
namespace Go.Proofs.Ymbrdb
open Go.RowKit
set_option linter.unusedSimpArgs false
set_option linter.unusedVariables false

structure IP (w : World) (B n : Nat) (E : Nat → Nat → Prop) (e : Ending) (w' : World) (L : Nat → Nat) : Prop where
  ret : e = .returned (.tuple #[])
  row : ARow w' B n (fun i => (L i : Int))
  gens : Gens n L E
  fr : Fr [B] w w'

set_option maxHeartbeats 4000000 in
set_option maxRecDepth 100000 in
theorem ipaint_any (B n m d : Nat) (L0 : Nat → Nat) (a : Option Addr) (zA zB : Nat → Int) (E0 : Nat → Nat → Prop) (w : World) (hn : n ≤ 1000) (hm : m ≤ 1024)
    (hE : ∀ x y, E0 x y → x < n ∧ y < n) (hA : ARow w B n (fun i => (L0 i : Int))) (hG : Gens n L0 E0)
    (r : Rd2 .u8 .u8 w a m zA zB) (hab : 0 < m → ∀ x, a = some x → x.block ≠ B) (wA : ∀ i, i < m → (Lit.int .u8 (zA i)).wf = true) (wB : ∀ i, i < m → (Lit.int .u8 (zB i)).wf = true) :
    Calls Ydbm.prog 36 #[.slice (some ⟨B, 0, none⟩) n n, .int .i64 n, .slice a m d] w fun e w' => ∃ L, IP w B n (EU E0 n (rd1 n zA) (rd1 n zB) (fun _ => True) m) e w' L := by
  have HE := hide hE
  have HG0 := hide hG
  clear hE hG
  go_enter Ydbm.func36, Ydbm.ntmps36
  go_wp2_with fail
  go_loopw [15] (fun v wr => ∃ (k : Nat) (L : Nat → Nat), k ≤ m ∧ v = .int .i64 k ∧ ARow wr B n (fun i => (L i : Int)) ∧ Hid (Gens n L (EU E0 n (rd1 n zA) (rd1 n zB) (fun _ => True) k)) ∧ Fr [B] w wr) (fun v _ => m - (intOf v).toNat)
  case atStart => exact ⟨0, L0, Nat.zero_le _, rfl, hA, hide (HG0.out.start _ _ _), Fr.refl _ _⟩
  case round =>
    clear hA
    obtain ⟨k, L, hk, rfl, hA, HG, hF⟩ := hrel
    by_cases hlt : k < m
    · have rr := hF.rd2 r (fun x hx => by have := hab (by omega) x hx; simp; omega)
      obtain ⟨b1, o1, rfl, cA, cB⟩ := rr k hlt
      have bA := bd_u8 (wA k hlt)
      have bB := bd_u8 (wB k hlt)
      have lt' : (k : Int) < (m : Int) := by omega
      clear rr
      go_upto_region 3 with fail
      have hsz := hF.size
      have lb := hA.lt
      have hAW := hA.alloc (.cells #[.int .u8 (zA k), .int .u8 (zB k)] 79)
      have hFW := hF.alloc (.cells #[.int .u8 (zA k), .int .u8 (zB k)] 79)
      have k0 : (wr.alloc (.cells #[.int .u8 (zA k), .int .u8 (zB k)] 79)).cell? ⟨wr.heap.size, 0, none⟩ = some (.int .u8 (zA k)) := by simp
      have k1 : (wr.alloc (.cells #[.int .u8 (zA k), .int .u8 (zB k)] 79)).cell? ⟨wr.heap.size, 1, none⟩ = some (.int .u8 (zB k)) := by simp
      generalize wr.heap.size = C at *
      generalize wr.alloc (.cells #[.int .u8 (zA k), .int .u8 (zB k)] 79) = W at *
      clear hA hF cA cB
      have q0 : 0 ≤ zA k % ((n : Int) + 1) := emod_lo _ (by omega)
      have q1 : zA k % ((n : Int) + 1) < (n : Int) + 1 := emod_hi _ (by omega)
      have q2 : 0 ≤ zB k % ((n : Int) + 1) := emod_lo _ (by omega)
      have q3 : zB k % ((n : Int) + 1) < (n : Int) + 1 := emod_hi _ (by omega)
      go_upto_region 5 with fail
      have hx : zA k % ((n : Int) + 1) = ((rd1 n zA k : Nat) : Int) := by unfold rd1; omega
      have hy : zB k % ((n : Int) + 1) = ((rd1 n zB k : Nat) : Int) := by unfold rd1; omega
      rw [hx, hy]
      clear q0 q1 q2 q3 bA bB k0 k1 hx hy
      by_cases hxy : rd1 n zA k < n ∧ rd1 n zB k < n
      · obtain ⟨x1, y1⟩ := hxy
        have HG2 : Hid (Gens n (fun t => if L t = L (rd1 n zB k) then L (rd1 n zA k) else L t) (EU E0 n (rd1 n zA) (rd1 n zB) (fun _ => True) (k + 1))) :=
          hide (HG.out.join HE.out trivial x1 y1 (merge_rename (Or.inl ⟨rfl, rfl⟩) (fun t _ => rfl)))
        generalize rd1 n zA k = x at *
        generalize rd1 n zB k = y at *
        have cx := hAW.cell x x1
        have cy := hAW.cell y y1
        have d1 : decide ((n : Int) ≤ (x : Int)) = false := dec_false (by omega)
        have d1' : decide (n ≤ x) = false := dec_false (by omega)
        have d2 : decide ((n : Int) ≤ (y : Int)) = false := dec_false (by omega)
        have d2' : decide (n ≤ y) = false := dec_false (by omega)
        have lx : (x : Int) < (n : Int) := by omega
        have ly : (y : Int) < (n : Int) := by omega
        go_wp2_with fail
        go_loopw [12] (fun v wr => ∃ l : Nat, l ≤ n ∧ v = .int .i64 l ∧ ARow wr B n (fil l (fun t => if L t = L y then (L x : Int) else L t) fun t => (L t : Int)) ∧ Fr [B] w wr) (fun v _ => n - (intOf v).toNat)
        case atStart => exact ⟨0, Nat.zero_le _, rfl, hAW.congr (by simp [fil]), hFW⟩
        case round =>
          clear hAW hFW cx cy
          obtain ⟨l, hl, rfl, hA, hF⟩ := hrel
          by_cases hlt4 : l < n
          · have cl := hA.cell l hlt4
            rw [fil_ge _ _ (Nat.lt_irrefl l)] at cl
            have fl := hA.frozen l
            by_cases e : L l = L y
            · have E := hide e
              rw [e] at cl
              clear e
              go_wp2_with fail
              go_roundw
              case rel => exact ⟨l + 1, by omega, by go_num, hA.fill _ (by rw [if_pos E.out]), hF.setCell _ (.inl (by simp)) _⟩
              case measure => simp [intOf] <;> omega
            · have f1 := beq_nat e
              go_wp2_with fail
              go_roundw
              case rel => exact ⟨l + 1, by omega, by go_num, hA.fskip (by rw [if_neg e]), hF⟩
              case measure => simp [intOf] <;> omega
          · replace hA : ARow wr B n (fun t => ((if L t = L y then L x else L t : Nat) : Int)) := hA.congr (fun t ht => by
              rw [fil_lt _ _ (by omega)]
              split <;> rfl)
            go_wp2_with fail
            go_roundw
            case rel => exact ⟨k + 1, _, by omega, by go_num, hA, HG2, hF⟩
            case measure => simp [intOf] <;> omega
      · have HG2 : Hid (Gens n L (EU E0 n (rd1 n zA) (rd1 n zB) (fun _ => True) (k + 1))) :=
          hide (HG.out.skip HE.out (fun h => hxy h.2) (fun _ _ => rfl))
        by_cases hx1 : rd1 n zA k < n
        · have d1 : decide ((n : Int) ≤ ((rd1 n zA k : Nat) : Int)) = false := dec_false (by omega)
          have d1' : decide (n ≤ rd1 n zA k) = false := dec_false (by omega)
          have d2 : decide ((n : Int) ≤ ((rd1 n zB k : Nat) : Int)) = true := dec_true (by omega)
          have d2' : decide (n ≤ rd1 n zB k) = true := dec_true (by omega)
          clear hxy hx1
          go_wp2_with fail
          go_roundw
          case rel => exact ⟨k + 1, L, by omega, by go_num, hAW, HG2, hFW⟩
          case measure => simp [intOf] <;> omega
        · have d1 : decide ((n : Int) ≤ ((rd1 n zA k : Nat) : Int)) = true := dec_true (by omega)
          have d1' : decide (n ≤ rd1 n zA k) = true := dec_true (by omega)
          clear hxy hx1
          go_wp2_with fail
          go_roundw
          case rel => exact ⟨k + 1, L, by omega, by go_num, hAW, HG2, hFW⟩
          case measure => simp [intOf] <;> omega
    · have hkm : k = m := by omega
      subst hkm
      go_wp2_with fail
      go_end0
      exact ⟨L, rfl, hA, HG.out, hF⟩
end Go.Proofs.Ymbrdb
