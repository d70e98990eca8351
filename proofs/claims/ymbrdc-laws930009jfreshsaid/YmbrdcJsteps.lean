/-
  zzs930009jplay, zzs930009jrelabel.
-/
import Derived.Test.YmbrdcLplain
namespace Go.Proofs.Ymbrdc
open Go.RowKit
set_option linter.unusedSimpArgs false
set_option linter.unusedVariables false

theorem u64_rem (z : Int) {n : Nat} (h0 : 0 < n) (hn : n ≤ 1048576) : ∃ x : Nat, wrap64 ((IntKind.u64.wrap z).tmod (n : Int)) = x ∧ x < n := by
  have h1 : 0 ≤ IntKind.u64.wrap z := by simp [IntKind.wrap, IntKind.bits, IntKind.signed]; omega
  rw [Int.tmod_eq_emod_of_nonneg h1]
  have h2 : 0 ≤ IntKind.u64.wrap z % (n : Int) := emod_lo _ (by omega)
  have h3 : IntKind.u64.wrap z % (n : Int) < (n : Int) := emod_hi _ (by omega)
  refine ⟨(IntKind.u64.wrap z % (n : Int)).toNat, ?_, by omega⟩
  unfold wrap64
  omega

theorem nil_no (a : Addr) (n c : Nat) (w : World) : (binOp .eql 32 (.slice (some a) n c) (.slice none 0 0)).run Ydcm.prog w = .ok (.bool false) w := by
  have hu : Ydcm.prog.underlying 32 = some (.slice 3) := by simp [go_sem]
  have this : ∀ d, (Op.equalIn (d + 1) 32 (.slice (some a) n c) (.slice none 0 0)).run Ydcm.prog w = .ok false w := by
    intro d
    simp [Op.equalIn, run_underlying hu]
  have h2 : (Op.equal 32 (.slice (some a) n c) (.slice none 0 0)).run Ydcm.prog w = .ok false w := this 9999
  simp [binOp, h2]

structure JP (w : World) (n b bp bs : Nat) (p : Nat → Nat) (o : Int) (x y : Nat) (e : Ending) (w' : World) (p' s' : Nat → Nat) (c' : Nat) : Prop where
  ret : e = .returned (.tuple #[])
  sets : SetsN w' b bp bs n p' s' c'
  inv : Inv n p' s' c'
  skip : o % 4 = 3 → ∀ t, t < n → rt n p' t = rt n p t
  merge : o % 4 ≠ 3 → Merge n (rt n p) x y (rt n p')
  fr : Fr [b, bp, bs] w w'

set_option maxHeartbeats 1000000 in
theorem jplay_any (b bp bs n : Nat) (p s : Nat → Nat) (c : Nat) (o : Int) (x y : Nat) (w : World) (hn : n ≤ 1048576) (ho : 0 ≤ o ∧ o ≤ 255) (hx : x < n) (hy : y < n) (hS : SetsN w b bp bs n p s c) (I : Inv n p s c) :
    Calls Ydcm.prog 18 #[.pointer (some ⟨b, 0, none⟩), .int .u8 o, .int .i64 x, .int .i64 y] w fun e w' => ∃ p' s' c', JP w n b bp bs p o x y e w' p' s' c' := by
  by_cases eo : o % 4 = 3
  · have ee : (o % 4 == 3) = true := by simp [eo]
    have EO := hide eo
    clear eo
    go_enter Ydcm.func18, Ydcm.ntmps18
    go_wp2_with fail
    refine (compress_inv b bp bs n p s c _ _ hS I).mono ?_
    rintro e w2 ⟨rfl, q, hS2, I2, hrt, hF2⟩
    have Hrt := hide hrt
    clear hrt
    go_wp2_with fail
    go_end0
    exact ⟨q, s, c, rfl, hS2, I2, fun _ => Hrt.out, fun h => absurd EO.out h, hF2⟩
  · have ee : (o % 4 == 3) = false := by simp [eo]
    have EO := hide eo
    clear eo
    go_enter Ydcm.func18, Ydcm.ntmps18
    go_wp2_with fail
    refine (union_any b bp bs n p s c _ _ _ hS I (by omega)).mono ?_
    rintro e w2 ⟨rfl, hS2, hF2⟩
    have I2 := I.unionZ x y
    rw [zP_nat hx hy, zS_nat hx hy, zC_nat hx hy] at hS2 I2
    have hM := hide (I.union_merge hx hy)
    go_wp2_with fail
    go_end0
    exact ⟨_, _, _, rfl, hS2, I2, fun h => absurd h EO.out, fun _ => hM.out, hF2⟩

structure JR (w : World) (n B : Nat) (L : Nat → Nat) (x y : Nat) (e : Ending) (w' : World) (L' : Nat → Nat) : Prop where
  ret : e = .returned (.tuple #[])
  row : ARow w' B n (fun i => (L' i : Int))
  can : CanN n L'
  merge : Merge n L x y L'
  fr : Fr [B] w w'

set_option maxHeartbeats 2000000 in
theorem jrelabel_any (n B : Nat) (L : Nat → Nat) (x y : Nat) (w : World) (hn : n ≤ 1048576) (hx : x < n) (hy : y < n) (hR : ARow w B n (fun i => (L i : Int))) (hC : CanN n L) :
    Calls Ydcm.prog 19 #[.slice (some ⟨B, 0, none⟩) n n, .int .i64 x, .int .i64 y] w fun e w' => ∃ L', JR w n B L x y e w' L' := by
  have cx := hR.cell x hx
  have cy := hR.cell y hy
  have HC := hide hC
  have fx := hide (hC x hx)
  have fy := hide (hC y hy)
  clear hC
  go_enter Ydcm.func19, Ydcm.ntmps19
  go_upto_if 19 with fail
  go_cut [6, 7] from 19 to 27 (fun v6 v7 wz => w = wz ∧ ∃ lo hi : Nat, v6 = .int .i64 lo ∧ v7 = .int .i64 hi ∧ lo ≤ hi ∧ L lo = lo ∧ Merge n L x y (fun t => if L t = hi then lo else L t))
  case first =>
    by_cases hgt : L y < L x
    · have hd : decide ((L y : Int) < (L x : Int)) = true := dec_true (by omega)
      go_wp2_with fail
      go_meet
      case rel => exact ⟨rfl, L y, L x, rfl, rfl, by omega, fy.out.2, merge_rename (Or.inr ⟨rfl, rfl⟩) (fun t _ => rfl)⟩
    · have hd : decide ((L y : Int) < (L x : Int)) = false := dec_false (by omega)
      go_wp2_with fail
      go_meet
      case rel => exact ⟨rfl, L x, L y, rfl, rfl, by omega, fx.out.2, merge_rename (Or.inl ⟨rfl, rfl⟩) (fun t _ => rfl)⟩
  case rest =>
    obtain ⟨rfl, lo, hi, rfl, rfl, hle, hlo, hM⟩ := hcut
    have hC2 := hide (can_rename HC.out hle hlo)
    have hM2 := hide hM
    clear hM HC fx fy hlo cx cy
    go_wp2_with fail
    go_loopw [8] (fun v wr => ∃ l : Nat, l ≤ n ∧ v = .int .i64 l ∧ ARow wr B n (fil l (fun t => if L t = hi then (lo : Int) else L t) fun t => (L t : Int)) ∧ Fr [B] w wr) (fun v _ => n - (intOf v).toNat)
    case atStart => exact ⟨0, Nat.zero_le _, rfl, hR.congr (by simp [fil]), Fr.refl _ _⟩
    case round =>
      clear hR
      obtain ⟨l, hl, rfl, hA, hF⟩ := hrel
      by_cases hlt4 : l < n
      · have cl := hA.cell l hlt4
        rw [fil_ge _ _ (Nat.lt_irrefl l)] at cl
        have fl := hA.frozen l
        by_cases e : L l = hi
        · have E := hide e
          rw [e] at cl
          clear e
          go_wp2_with fail
          go_roundw
          case rel => exact ⟨l + 1, by omega, by go_num, hA.fill _ (by rw [if_pos E.out]), hF.setCell _ (.inl (by simp)) _⟩
          case measure => simp [intOf] <;> omega
        · have f1 := beq_nat e
          go_wp2_with fail
          go_roundw
          case rel => exact ⟨l + 1, by omega, by go_num, hA.fskip (by rw [if_neg e]), hF⟩
          case measure => simp [intOf] <;> omega
      · have hA : ARow wr B n (fun t => ((if L t = hi then lo else L t : Nat) : Int)) := hA.congr (fun t ht => by
          rw [fil_lt _ _ (by omega)]
          split <;> rfl)
        go_wp2_with fail
        go_end0
        exact ⟨_, rfl, hA, hC2.out, hM2.out, hF⟩
end Go.Proofs.Ymbrdc
