/-
  zzs930009hplay, zzs930009hmodel.
-/
import Derived.Test.YmbrdbPlain3
import Derived.Test.YmbrdbSmall
namespace Go.Proofs.Ymbrdb
open Go.RowKit
set_option linter.unusedSimpArgs false
set_option linter.unusedVariables false

/-- An element of a script's step, reduced to 0..n-1. -/
def md1 (n : Nat) (z : Nat → Int) (i : Nat) : Nat := (z i % (n : Int)).toNat

theorem md1_eq {n : Nat} (hn : 0 < n) (z : Nat → Int) (i : Nat) : ((md1 n z i : Nat) : Int) = z i % (n : Int) := by
  have := emod_lo (z i) (n := (n : Int)) (by omega)
  unfold md1; omega

theorem md1_lt {n : Nat} (hn : 0 < n) (z : Nat → Int) (i : Nat) : md1 n z i < n := by
  have := emod_hi (z i) (n := (n : Int)) (by omega)
  have := md1_eq hn z i
  omega

theorem EU.none {E0 : Nat → Nat → Prop} {f g : Nat → Nat} {u : Nat → Prop} {k : Nat} (x y : Nat) : EU E0 0 f g u k x y ↔ E0 x y := by
  unfold EU
  constructor
  · rintro (h | ⟨i, _, _, h, _⟩)
    · exact h
    · omega
  · exact Or.inl

theorem rd3_apart {k0 k1 k2 : IntKind} {w : World} {a : Option Addr} {n b bp bs : Nat} {f0 f1 f2 : Nat → Int} (r : Rd3 k0 k1 k2 w a n f0 f1 f2) (hb : w.heap.size ≤ b) (hp : w.heap.size ≤ bp) (hs : w.heap.size ≤ bs) :
    0 < n → ∀ x, a = some x → x.block ≠ b ∧ x.block ≠ bp ∧ x.block ≠ bs := by
  intro hn x hx
  obtain ⟨b1, o1, h1, h2, _⟩ := r 0 hn
  rw [h1] at hx
  cases hx
  have : b1 < w.heap.size := World.block_lt_of_cell? _ _ h2
  refine ⟨?_, ?_, ?_⟩
  · show b1 ≠ b; omega
  · show b1 ≠ bp; omega
  · show b1 ≠ bs; omega

/-- The script's pairs. -/
def EH (n : Nat) (zO zA zB : Nat → Int) (k : Nat) : Nat → Nat → Prop := EU E00 n (md1 n zA) (md1 n zB) (fun i => zO i % 3 ≠ 2) k

structure HP (w : World) (b bp bs n : Nat) (E : Nat → Nat → Prop) (e : Ending) (w' : World) (p s : Nat → Nat) (c : Nat) : Prop where
  ret : e = .returned (.tuple #[])
  sets : SetsN w' b bp bs n p s c
  inv : Inv n p s c
  gens : Gens n (rt n p) E
  fr : Fr [b, bp, bs] w w'

set_option maxHeartbeats 4000000 in
set_option maxRecDepth 100000 in
theorem hplay_any (b bp bs n m d : Nat) (a : Option Addr) (zO zA zB : Nat → Int) (w : World) (h0 : 0 < n) (hn : n ≤ 1024) (hm : m ≤ 1024) (hS : SetsN w b bp bs n (fun x => x) (fun _ => 1) n)
    (r : Rd3 .u8 .u16 .u16 w a m zO zA zB) (hab : 0 < m → ∀ x, a = some x → x.block ≠ b ∧ x.block ≠ bp ∧ x.block ≠ bs)
    (wO : ∀ i, i < m → (Lit.int .u8 (zO i)).wf = true) (wA : ∀ i, i < m → (Lit.int .u16 (zA i)).wf = true) (wB : ∀ i, i < m → (Lit.int .u16 (zB i)).wf = true) :
    Calls Ydbm.prog 29 #[.pointer (some ⟨b, 0, none⟩), .int .i64 n, .slice a m d] w fun e w' => ∃ p s c, HP w b bp bs n (EH n zO zA zB m) e w' p s c := by
  have hpos : (0 : Int) < (n : Int) := by omega
  have hnz : ¬ ((n : Int) = 0) := by omega
  go_enter Ydbm.func29, Ydbm.ntmps29
  go_wp2_with fail
  go_loopw [6] (fun v wr => ∃ (k : Nat) (p s : Nat → Nat) (c : Nat), k ≤ m ∧ v = .int .i64 k ∧ SetsN wr b bp bs n p s c ∧ Inv n p s c ∧ Hid (Gens n (rt n p) (EH n zO zA zB k)) ∧ Fr [b, bp, bs] w wr) (fun v _ => m - (intOf v).toNat)
  case atStart => exact ⟨0, fun x => x, fun _ => 1, n, Nat.zero_le _, rfl, hS, inv_new n, hide (gens_new n _ _ _), Fr.refl _ _⟩
  case round =>
    clear hS
    obtain ⟨j, p, s, c, hj, rfl, hS, I, HG, hF⟩ := hrel
    by_cases hlt : j < m
    · obtain ⟨b1, o1, rfl, cO, cA, cB⟩ := hF.rd3 r (fun x hx => by have := hab (by omega) x hx; simp; omega) j hlt
      have bO := bd_u8 (wO j hlt)
      have bA := bd_u16 (wA j hlt)
      have bB := bd_u16 (wB j hlt)
      have q0 : 0 ≤ zA j % (n : Int) := emod_lo _ hpos
      have q1 : zA j % (n : Int) < (n : Int) := emod_hi _ hpos
      have q2 : 0 ≤ zB j % (n : Int) := emod_lo _ hpos
      have q3 : zB j % (n : Int) < (n : Int) := emod_hi _ hpos
      by_cases eo : zO j % 3 = 2
      · have ee : (zO j % 3 == 2) = true := by simp [eo]
        have EO := hide eo
        clear eo
        go_wp2_with fail
        refine (compress_inv b bp bs n p s c _ _ hS I).mono ?_
        rintro e w2 ⟨rfl, q, hS2, I2, hrt, hF2⟩
        have HG2 : Hid (Gens n (rt n q) (EH n zO zA zB (j + 1))) := hide (HG.out.skip (E00.lt n) (fun h => h.1 EO.out) hrt)
        have hF3 := hF.trans hF2
        clear hrt hS hF hF2 I HG
        go_wp2_with fail
        go_roundw
        case rel => exact ⟨j + 1, q, s, c, by omega, by go_num, hS2, I2, HG2, hF3⟩
        case measure => simp [intOf] <;> omega
      · have ee : (zO j % 3 == 2) = false := by simp [eo]
        have EO := hide eo
        clear eo
        go_wp2_with fail
        refine (union_any b bp bs n p s c _ _ _ hS I (by omega)).mono ?_
        rintro e w2 ⟨rfl, hS2, hF2⟩
        have I2 := I.unionZ (zA j % (n : Int)) (zB j % (n : Int))
        have HG2 : Hid (Gens n (rt n (zP n p s (zA j % (n : Int)) (zB j % (n : Int)))) (EH n zO zA zB (j + 1))) := by
          rw [← md1_eq h0 zA j, ← md1_eq h0 zB j]
          exact hide (Gens.unionZ (E00.lt n) I HG.out EO.out)
        have hF3 := hF.trans hF2
        clear hS hF hF2 I HG
        go_wp2_with fail
        go_roundw
        case rel => exact ⟨j + 1, _, _, _, by omega, by go_num, hS2, I2, HG2, hF3⟩
        case measure => simp [intOf] <;> omega
    · have hkm : j = m := by omega
      subst hkm
      go_wp2_with fail
      go_end0
      exact ⟨p, s, c, rfl, hS, I, HG.out, hF⟩

structure HM (w : World) (n : Nat) (E : Nat → Nat → Prop) (e : Ending) (w' : World) (B : Nat) (L : Nat → Nat) : Prop where
  ret : e = .returned (.slice (some ⟨B, 0, none⟩) n n)
  row : ARow w' B n (fun i => (L i : Int))
  gens : Gens n L E
  fr : Fr [] w w'

set_option maxHeartbeats 4000000 in
set_option maxRecDepth 100000 in
theorem hmodel_any (n m d : Nat) (a : Option Addr) (zO zA zB : Nat → Int) (w : World) (hn : n ≤ 1024) (hm : m ≤ 1024)
    (r : Rd3 .u8 .u16 .u16 w a m zO zA zB)
    (wO : ∀ i, i < m → (Lit.int .u8 (zO i)).wf = true) (wA : ∀ i, i < m → (Lit.int .u16 (zA i)).wf = true) (wB : ∀ i, i < m → (Lit.int .u16 (zB i)).wf = true) :
    Calls Ydbm.prog 31 #[.int .i64 n, .slice a m d] w fun e w' => ∃ B L, HM w n (EH n zO zA zB m) e w' B L := by
  have hmk := mk n (by omega)
  go_enter Ydbm.func31, Ydbm.ntmps31
  go_wp2_with fail
  have r0 := ARow.new w n fun _ => 0
  have hF := (Fr.refl [] w).alloc (.cells (row n fun _ => 0) 3)
  have hW : w.heap.size ≤ w.heap.size := Nat.le_refl _
  generalize hB : w.heap.size = B at *
  rw [← hB] at hW
  generalize w.alloc (.cells (row n fun _ => 0) 3) = W at *
  go_loopw [6] (fun v wr => ∃ k : Nat, k ≤ n ∧ v = .int .i64 k ∧ ARow wr B n (fil k (fun i => (i : Int)) fun _ => 0) ∧ Fr [] w wr) (fun v _ => n - (intOf v).toNat)
  case atStart => exact ⟨0, Nat.zero_le _, rfl, r0.congr (by simp [fil]), hF⟩
  case round =>
    clear r0 hF
    obtain ⟨k, hk, rfl, hA, hF⟩ := hrel
    by_cases hlt : k < n
    · have ck := hA.cell k hlt
      have fk := hA.frozen k
      go_wp2_with fail
      go_roundw
      case rel => exact ⟨k + 1, by omega, by go_num, hA.fill _ rfl, hF.setCell _ (.inr (by show w.heap.size ≤ B; omega)) _⟩
      case measure => simp [intOf] <;> omega
    · replace hA : ARow wr B n (fun i => ((fun x => x) i : Int)) := hA.congr (fun i hi => fil_lt _ _ (by omega))
      clear hmk
      by_cases h0 : n = 0
      · subst h0
        go_wp2_with fail
        go_ret
        exact ⟨B, fun x => x, rfl, hA, (gens_id 0 (md1 0 zA) (md1 0 zB) (fun i => zO i % 3 ≠ 2)).iff (fun x y => (EU.none x y).trans (EU.none x y).symm), hF⟩
      · have hz : ((n : Int) == 0) = false := by simp [h0]
        have hpos : (0 : Int) < (n : Int) := by omega
        have npos : 0 < n := by omega
        have hnz : ¬ ((n : Int) = 0) := by omega
        go_wp2_with fail
        go_loopw [7] (fun v wr => ∃ (k : Nat) (L : Nat → Nat), k ≤ m ∧ v = .int .i64 k ∧ ARow wr B n (fun i => (L i : Int)) ∧ Hid (Gens n L (EH n zO zA zB k)) ∧ Fr [] w wr) (fun v _ => m - (intOf v).toNat)
        case atStart => exact ⟨0, fun x => x, Nat.zero_le _, rfl, hA, hide (gens_id n _ _ _), hF⟩
        case round =>
          clear hA hF
          obtain ⟨j, L, hj, rfl, hA, HG, hF⟩ := hrel
          by_cases hlt2 : j < m
          · obtain ⟨b1, o1, rfl, cO, cA, cB⟩ := (hF.rd30 r) j hlt2
            have bO := bd_u8 (wO j hlt2)
            have bA := bd_u16 (wA j hlt2)
            have bB := bd_u16 (wB j hlt2)
            by_cases eo : zO j % 3 = 2
            · have ee : (zO j % 3 == 2) = true := by simp [eo]
              have EO := hide eo
              clear eo
              have HG2 : Hid (Gens n L (EH n zO zA zB (j + 1))) := hide (HG.out.skip (E00.lt n) (fun h => h.1 EO.out) (fun _ _ => rfl))
              go_wp2_with fail
              go_roundw
              case rel => exact ⟨j + 1, L, by omega, by go_num, hA, HG2, hF⟩
              case measure => simp [intOf] <;> omega
            · have ee : (zO j % 3 == 2) = false := by simp [eo]
              have EO := hide eo
              clear eo
              have hx := (md1_eq npos zA j).symm
              have hy := (md1_eq npos zB j).symm
              have x1 := md1_lt npos zA j
              have y1 := md1_lt npos zB j
              have Hm : Hid (Merge n L (md1 n zA j) (md1 n zB j) (fun t => if L t = L (md1 n zB j) then L (md1 n zA j) else L t)) := hide (merge_rename (Or.inl ⟨rfl, rfl⟩) (fun t _ => rfl))
              have HG2 : Hid (Gens n (fun t => if L t = L (md1 n zB j) then L (md1 n zA j) else L t) (EH n zO zA zB (j + 1))) := hide (HG.out.join (E00.lt n) EO.out x1 y1 Hm.out)
              clear Hm HG
              generalize md1 n zA j = x at *
              generalize md1 n zB j = y at *
              have cx := hA.cell x x1
              have cy := hA.cell y y1
              have lx : (x : Int) < (n : Int) := by omega
              have ly : (y : Int) < (n : Int) := by omega
              go_wp2_with fail
              go_loopw [10] (fun v wr => ∃ l : Nat, l ≤ n ∧ v = .int .i64 l ∧ ARow wr B n (fil l (fun t => if L t = L y then (L x : Int) else L t) fun t => (L t : Int)) ∧ Fr [] w wr) (fun v _ => n - (intOf v).toNat)
              case atStart => exact ⟨0, Nat.zero_le _, rfl, hA.congr (by simp [fil]), hF⟩
              case round =>
                clear hA hF cx cy
                obtain ⟨l, hl, rfl, hA, hF⟩ := hrel
                by_cases hlt4 : l < n
                · have cl := hA.cell l hlt4
                  rw [fil_ge _ _ (Nat.lt_irrefl l)] at cl
                  have fl := hA.frozen l
                  by_cases e : L l = L y
                  · have E := hide e
                    rw [e] at cl
                    clear e
                    go_wp2_with fail
                    go_roundw
                    case rel => exact ⟨l + 1, by omega, by go_num, hA.fill _ (by rw [if_pos E.out]), hF.setCell _ (.inr (by show w.heap.size ≤ B; omega)) _⟩
                    case measure => simp [intOf] <;> omega
                  · have f1 := beq_nat e
                    go_wp2_with fail
                    go_roundw
                    case rel => exact ⟨l + 1, by omega, by go_num, hA.fskip (by rw [if_neg e]), hF⟩
                    case measure => simp [intOf] <;> omega
                · replace hA : ARow wr B n (fun t => ((if L t = L y then L x else L t : Nat) : Int)) := hA.congr (fun t ht => by
                    rw [fil_lt _ _ (by omega)]
                    split <;> rfl)
                  go_wp2_with fail
                  go_roundw
                  case rel => exact ⟨j + 1, _, by omega, by go_num, hA, HG2, hF⟩
                  case measure => simp [intOf] <;> omega
          · have hkm : j = m := by omega
            subst hkm
            go_wp2_with fail
            go_ret
            exact ⟨B, L, rfl, hA, HG.out, hF⟩
end Go.Proofs.Ymbrdb
