/-
  zzs930009lmerge.
-/
import Derived.Test.YmbrdcLbuild
import Derived.Test.YmbrdcFromL
namespace Go.Proofs.Ymbrdc
open Go.RowKit
set_option linter.unusedSimpArgs false
set_option linter.unusedVariables false

/-- Renaming a class's label by a smaller one keeps canonical labels canonical. -/
theorem can_rename {n lo hi : Nat} {L : Nat → Nat} (h : CanN n L) (hl : lo ≤ hi) (h1 : L lo = lo) : CanN n (fun i => if L i = hi then lo else L i) := by
  intro i hi'
  have a := (h i hi').1
  have b := (h i hi').2
  dsimp only
  by_cases e : L i = hi
  · rw [if_pos e]
    refine ⟨by omega, ?_⟩
    rw [h1]
    split <;> rfl
  · rw [if_neg e]
    refine ⟨a, ?_⟩
    rw [b, if_neg e]

structure LM (w : World) (n B : Nat) (E : Nat → Nat → Prop) (e : Ending) (w' : World) (L : Nat → Nat) : Prop where
  ret : e = .returned (.tuple #[])
  row : ARow w' B n (fun i => (L i : Int))
  can : CanN n L
  gens : Gens n L E
  fr : Fr [B] w w'

set_option maxHeartbeats 4000000 in
set_option maxRecDepth 100000 in
theorem lmerge_any (n m d B : Nat) (a : Option Addr) (zA zB : Nat → Int) (L0 : Nat → Nat) (E0 : Nat → Nat → Prop) (w : World) (hn : n ≤ 1000) (hm : m ≤ 1024) (hE : ∀ x y, E0 x y → x < n ∧ y < n)
    (hR : ARow w B n (fun i => (L0 i : Int))) (hC : CanN n L0) (hG : Gens n L0 E0) (r : Rd2 .u16 .u16 w a m zA zB) (hab : 0 < m → ∀ x, a = some x → x.block ≠ B)
    (wA : ∀ i, i < m → (Lit.int .u16 (zA i)).wf = true) (wB : ∀ i, i < m → (Lit.int .u16 (zB i)).wf = true) :
    Calls Ydcm.prog 29 #[.slice (some ⟨B, 0, none⟩) n n, .slice a m d] w fun e w' => ∃ L, LM w n B (EU E0 n (md1 n zA) (md1 n zB) (fun _ => True) m) e w' L := by
  by_cases h0 : n = 0
  · subst h0
    go_enter Ydcm.func29, Ydcm.ntmps29
    go_wp2_with fail
    refine bodyPost_ret (results_none rfl _ _ _) rfl ?_
    exact ⟨L0, rfl, hR, hC, hG.iff (fun x y => (EU.none x y).symm), Fr.refl _ _⟩
  · have hz : ((n : Int) == 0) = false := by simp [h0]
    have hpos : (0 : Int) < (n : Int) := by omega
    have npos : 0 < n := by omega
    go_enter Ydcm.func29, Ydcm.ntmps29
    go_wp2_with fail
    go_loopw [16] (fun v wr => ∃ (k : Nat) (L : Nat → Nat), k ≤ m ∧ v = .int .i64 k ∧ ARow wr B n (fun i => (L i : Int)) ∧ CanN n L ∧ Gens n L (EU E0 n (md1 n zA) (md1 n zB) (fun _ => True) k) ∧ Fr [B] w wr) (fun v _ => m - (intOf v).toNat)
    case atStart => exact ⟨0, L0, Nat.zero_le _, rfl, hR, hC, hG.start _ _ _, Fr.refl _ _⟩
    case round =>
      clear hR hC hG
      obtain ⟨k, L, hk, rfl, hR, hC, hG, hF⟩ := hrel
      have HC := hide hC
      have HG := hide hG
      clear hC hG
      by_cases hlt : k < m
      · have rr := hF.rd2 r (fun x hx => by have := hab (by omega) x hx; simp; omega)
        obtain ⟨b1, o1, rfl, cA, cB⟩ := rr k hlt
        have bA := bd_u16 (wA k hlt)
        have bB := bd_u16 (wB k hlt)
        have lt' : (k : Int) < (m : Int) := by omega
        have x1 := md1_lt npos zA k
        have y1 := md1_lt npos zB k
        have q0 : 0 ≤ zA k % (n : Int) := emod_lo _ hpos
        have q1 : zA k % (n : Int) < (n : Int) := emod_hi _ hpos
        have q2 : 0 ≤ zB k % (n : Int) := emod_lo _ hpos
        have q3 : zB k % (n : Int) < (n : Int) := emod_hi _ hpos
        have HG2 : Hid (∀ L', Merge n L (md1 n zA k) (md1 n zB k) L' → Gens n L' (EU E0 n (md1 n zA) (md1 n zB) (fun _ => True) (k + 1))) := fun L' hM =>
          Gens.join hE HG.out (u := fun _ => True) trivial x1 y1 hM
        have fx := hide (HC.out _ x1)
        have fy := hide (HC.out _ y1)
        clear rr
        go_upto_region 5 with fail
        have hsz := hF.size
        have lB := hR.lt
        have hRW := hR.alloc (.cells #[.int .u16 (zA k), .int .u16 (zB k)] 64)
        have hFW := hF.alloc (.cells #[.int .u16 (zA k), .int .u16 (zB k)] 64)
        have k0 : (wr.alloc (.cells #[.int .u16 (zA k), .int .u16 (zB k)] 64)).cell? ⟨wr.heap.size, 0, none⟩ = some (.int .u16 (zA k)) := by simp
        have k1 : (wr.alloc (.cells #[.int .u16 (zA k), .int .u16 (zB k)] 64)).cell? ⟨wr.heap.size, 1, none⟩ = some (.int .u16 (zB k)) := by simp
        generalize wr.heap.size = C at *
        generalize wr.alloc (.cells #[.int .u16 (zA k), .int .u16 (zB k)] 64) = W at *
        have cx : W.cell? ⟨B, (zA k % (n : Int)).toNat, none⟩ = some (.int .i64 (L (md1 n zA k))) := hRW.cell _ x1
        have cy : W.cell? ⟨B, (zB k % (n : Int)).toNat, none⟩ = some (.int .i64 (L (md1 n zB k))) := hRW.cell _ y1
        go_upto_if 38 with fail
        clear cx cy k0 k1 cA cB hR hF q0 q1 q2 q3
        generalize md1 n zA k = x at *
        generalize md1 n zB k = y at *
        go_cut [7, 8] from 38 to 40 (fun v7 v8 wz => W = wz ∧ ∃ lo hi : Nat, v7 = .int .i64 lo ∧ v8 = .int .i64 hi ∧ lo ≤ hi ∧ L lo = lo ∧ Merge n L x y (fun t => if L t = hi then lo else L t))
        case first =>
          by_cases hgt : L y < L x
          · have hd : decide ((L y : Int) < (L x : Int)) = true := dec_true (by omega)
            go_wp2_with fail
            go_meet
            case rel => exact ⟨rfl, L y, L x, rfl, rfl, by omega, fy.out.2, merge_rename (Or.inr ⟨rfl, rfl⟩) (fun t _ => rfl)⟩
          · have hd : decide ((L y : Int) < (L x : Int)) = false := dec_false (by omega)
            go_wp2_with fail
            go_meet
            case rel => exact ⟨rfl, L x, L y, rfl, rfl, by omega, fx.out.2, merge_rename (Or.inl ⟨rfl, rfl⟩) (fun t _ => rfl)⟩
        case rest =>
          obtain ⟨rfl, lo, hi, rfl, rfl, hle, hlo, hM⟩ := hcut
          have hC2 := hide (can_rename HC.out hle hlo)
          have hG2 := hide (HG2.out _ hM)
          clear hM HG2 HC HG fx fy hlo
          go_wp2_with fail
          go_loopw [9] (fun v wr => ∃ l : Nat, l ≤ n ∧ v = .int .i64 l ∧ ARow wr B n (fil l (fun t => if L t = hi then (lo : Int) else L t) fun t => (L t : Int)) ∧ Fr [B] w wr) (fun v _ => n - (intOf v).toNat)
          case atStart => exact ⟨0, Nat.zero_le _, rfl, hRW.congr (by simp [fil]), hFW⟩
          case round =>
            clear hRW hFW
            obtain ⟨l, hl, rfl, hA, hF⟩ := hrel
            by_cases hlt4 : l < n
            · have cl := hA.cell l hlt4
              rw [fil_ge _ _ (Nat.lt_irrefl l)] at cl
              have fl := hA.frozen l
              by_cases e : L l = hi
              · have E := hide e
                rw [e] at cl
                clear e
                go_wp2_with fail
                go_roundw
                case rel => exact ⟨l + 1, by omega, by go_num, hA.fill _ (by rw [if_pos E.out]), hF.setCell _ (.inl (by simp)) _⟩
                case measure => simp [intOf] <;> omega
              · have f1 := beq_nat e
                go_wp2_with fail
                go_roundw
                case rel => exact ⟨l + 1, by omega, by go_num, hA.fskip (by rw [if_neg e]), hF⟩
                case measure => simp [intOf] <;> omega
            · have hA : ARow wr B n (fun t => ((if L t = hi then lo else L t : Nat) : Int)) := hA.congr (fun t ht => by
                rw [fil_lt _ _ (by omega)]
                split <;> rfl)
              go_wp2_with fail
              go_roundw
              case rel => exact ⟨k + 1, _, by omega, by go_num, hA, hC2.out, hG2.out, hF⟩
              case measure => simp [intOf] <;> omega
      · have hkm : k = m := by omega
        subst hkm
        go_wp2_with fail
        go_end0
        exact ⟨L, rfl, hR, HC.out, HG.out, hF⟩
end Go.Proofs.Ymbrdc
