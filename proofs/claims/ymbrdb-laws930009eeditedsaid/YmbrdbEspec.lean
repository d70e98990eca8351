/-
  zzs930009etop, zzs930009espec.
-/
import Derived.Test.YmbrdbValid
namespace Go.Proofs.Ymbrdb
open Go.RowKit
set_option linter.unusedSimpArgs false
set_option linter.unusedVariables false

set_option maxHeartbeats 400000 in
theorem etop_any (a : Option Addr) (n d : Nat) (p : Nat → Nat) (x : Nat) (w : World) (hn : n ≤ 1048576) (r : Rd .i64 w a n fun i => (p i : Int)) (hp : ∀ i, i < n → p i < n) (hx : x < n) :
    Calls Ydbm.prog 38 #[.slice a n d, .int .i64 x] w fun e w' => e = .returned (.int .i64 (rt n p x)) ∧ w' = w := by
  obtain ⟨b1, off, rfl, hr⟩ := r.at (by omega)
  go_enter Ydbm.func38, Ydbm.ntmps38
  go_wp2_with fail
  go_loop [1, 5] (fun v i => ∃ k : Nat, k ≤ n ∧ i = .int .i64 k ∧ v = .int .i64 (it p k x) ∧ it p k x < n) (fun _ i => n - (intOf i).toNat)
  case atStart => exact ⟨0, Nat.zero_le _, rfl, rfl, hx⟩
  case round =>
    obtain ⟨k, hk, rfl, rfl, hl⟩ := hrel
    by_cases hlt : k < n
    · have cy := hr _ hl
      have hs := it_succ p k x
      have hpl := hp _ hl
      generalize hy : it p k x = y at *
      have Hs := hide hs
      clear hs hr hy
      go_wp2_with fail
      go_round
      case rel => exact ⟨k + 1, by omega, by go_num, by rw [Hs.out], by rw [Hs.out]; exact hpl⟩
      case measure => simp [intOf] <;> omega
    · have hkn : k = n := by omega
      subst hkn
      go_wp2_with fail
      go_ret
      exact ⟨rfl, rfl⟩

set_option maxHeartbeats 2000000 in
set_option maxRecDepth 100000 in
theorem espec_any (a0 a1 : Option Addr) (n d0 m d1 : Nat) (P S : Nat → Int) (c : Int) (w : World) (hn : n ≤ 9223372036854775807) (hm : m ≤ 9223372036854775807) (rp : Rd .i64 w a0 n P) (rs : Rd .i64 w a1 m S) :
    Calls Ydbm.prog 19 #[.slice a0 n d0, .slice a1 m d1, .int .i64 c] w fun e w' => Tells e (VOk n m P S c) ∧ Fr [] w w' := by
  by_cases hmn : m = n
  · subst hmn
    by_cases hle : 1048576 < m
    · have hd : decide ((1048576 : Int) < (m : Int)) = true := by simp; omega
      go_enter Ydbm.func19, Ydbm.ntmps19
      go_wp2_with fail
      go_ret
      exact ⟨Tells.no (fun h => by have := h.le; omega), Fr.refl _ _⟩
    · have hd : decide ((1048576 : Int) < (m : Int)) = false := by simp; omega
      have hmk := mk m (by omega)
      go_enter Ydbm.func19, Ydbm.ntmps19
      go_wp2_with fail
      go_loop [8] (fun v => ∃ k : Nat, k ≤ m ∧ v = .int .i64 k ∧ (∀ x, x < k → 0 ≤ P x ∧ P x < m ∧ 1 ≤ S x ∧ S x ≤ m)) (fun v => m - (intOf v).toNat)
      case atStart => exact ⟨0, Nat.zero_le _, rfl, fun x hx => absurd hx (Nat.not_lt_zero _)⟩
      case round =>
        obtain ⟨k, hk, rfl, hg⟩ := hrel
        by_cases hlt : k < m
        · obtain ⟨b0, o0, rfl, hr0⟩ := rp.at (by omega)
          obtain ⟨b1, o1, rfl, hr1⟩ := rs.at (by omega)
          have cp := hr0 k hlt
          have cs := hr1 k hlt
          have nok : ¬ Good m P S k → ¬ VOk m m P S c := fun h1 h2 => h1 (h2.good k hlt)
          have Nok := hide nok
          have Hg := hide hg
          clear nok hr0 hr1 hg
          by_cases g1 : P k < 0
          · have hdd := dec_true g1
            go_wp2_with fail
            go_ret
            exact ⟨Tells.no (Nok.out (fun h => by have := h.1; omega)), Fr.refl _ _⟩
          · by_cases g2 : (m : Int) - 1 < P k
            · have hdd := dec_true g2
              go_wp2_with fail
              go_ret
              exact ⟨Tells.no (Nok.out (fun h => by have := h.2.1; omega)), Fr.refl _ _⟩
            · by_cases g3 : S k ≤ 0
              · have hdd := dec_true g3
                go_wp2_with fail
                go_ret
                exact ⟨Tells.no (Nok.out (fun h => by have := h.2.2.1; omega)), Fr.refl _ _⟩
              · by_cases g4 : (m : Int) < S k
                · have hdd := dec_true g4
                  go_wp2_with fail
                  go_ret
                  exact ⟨Tells.no (Nok.out (fun h => by have := h.2.2.2.1; omega)), Fr.refl _ _⟩
                · have d1 := dec_false g1
                  have d2 := dec_false g2
                  have d3 := dec_false g3
                  have d4 := dec_false g4
                  go_wp2_with fail
                  go_round
                  case rel =>
                    refine ⟨k + 1, by omega, by go_num, ?_⟩
                    intro x hx
                    by_cases ex : x = k
                    · subst ex; exact ⟨by omega, by omega, by omega, by omega⟩
                    · exact Hg.out x (by omega)
                  case measure => simp [intOf] <;> omega
        · have hkm : k = m := by omega
          subst hkm
          have Hg := hide hg
          clear hg
          go_wp2_with fail
          go_loopw [9] (fun v wr => ∃ j : Nat, j ≤ k ∧ v = .int .i64 j ∧ (∀ x, x < j → P x ≠ x → 2 * S x ≤ S (P x).toNat) ∧ Fr [] w wr) (fun v _ => k - (intOf v).toNat)
          case atStart => exact ⟨0, Nat.zero_le _, rfl, fun x hx => absurd hx (Nat.not_lt_zero _), Fr.refl _ _⟩
          case round =>
            obtain ⟨j, hj, rfl, hdb, hF⟩ := hrel
            by_cases hlt2 : j < k
            · obtain ⟨b0, o0, rfl, hr0⟩ := (hF.rd0 rp).at (by omega)
              obtain ⟨b1, o1, rfl, hr1⟩ := (hF.rd0 rs).at (by omega)
              have cp := hr0 j hlt2
              have cs := hr1 j hlt2
              have hlt' : (j : Int) < (k : Int) := by omega
              obtain ⟨h1, h2, h3, h4⟩ := Hg.out j hlt2
              obtain ⟨q, hq⟩ := Int.eq_ofNat_of_zero_le h1
              have hqm : q < k := by omega
              have csq := hr1 q hqm
              obtain ⟨_, _, h5, h6⟩ := Hg.out q hqm
              have Hdb := hide hdb
              clear hr0 hr1 hdb
              by_cases g5 : P j = j
              · have e5 : (P j != (j : Int)) = false := by simpa using g5
                have G5 := hide g5
                have Hq := hide hq
                clear g5 hq
                go_wp2_with fail
                go_quiet (fail)
                go_wp2_with fail
                go_roundw
                case rel =>
                  refine ⟨j + 1, by omega, by go_num, ?_, hF.drewN _⟩
                  intro x hx hne
                  by_cases ex : x = j
                  · subst ex; exact absurd G5.out hne
                  · exact Hdb.out x (by omega) hne
                case measure => simp [intOf] <;> omega
              · rw [hq] at cp
                have e5 : ((q : Int) != (j : Int)) = true := by rw [← hq]; simpa using g5
                have hqj : ¬ q = j := by intro e; apply g5; rw [hq, e]
                have hqk : (q : Int) < (k : Int) := by omega
                have G5 := hide g5
                have Hq := hide hq
                clear g5 hq h1 h2
                by_cases g6 : S q - S j < S j
                · have hdd := dec_true g6
                  go_wp2_with fail
                  go_quiet (fail)
                  go_wp2_with fail
                  go_ret
                  refine ⟨Tells.no (fun h => ?_), hF.drewN _⟩
                  have := (h.good j hlt2).2.2.2.2 G5.out
                  rw [Hq.out] at this
                  simp at this
                  omega
                · have hdd := dec_false g6
                  go_wp2_with fail
                  go_quiet (fail)
                  go_wp2_with fail
                  go_roundw
                  case rel =>
                    refine ⟨j + 1, by omega, by go_num, ?_, hF.drewN _⟩
                    intro x hx hne
                    by_cases ex : x = j
                    · subst ex; rw [Hq.out]; simp; omega
                    · exact Hdb.out x (by omega) hne
                  case measure => simp [intOf] <;> omega
            · have hjk : j = k := by omega
              subst hjk
              have hgood : ∀ x, x < j → Good j P S x := fun x hx => by
                obtain ⟨h1, h2, h3, h4⟩ := Hg.out x hx
                exact ⟨h1, h2, h3, h4, hdb x hx⟩
              have FF := good_forest hgood
              have HG := hide hgood
              clear hgood hdb Hg
              go_wp2_with fail
              have hW : w.heap.size ≤ wr.heap.size := hF.size
              have r0 := ARow.new wr j fun _ => 0
              have hF := hF.alloc (.cells (row j fun _ => 0) 3)
              generalize hB : wr.heap.size = B at *
              clear hB
              go_loopw [11] (fun v wz => ∃ i : Nat, i ≤ j ∧ v = .int .i64 i ∧ ARow wz B j (fil i (fun y => (rt j (fun i => (P i).toNat) y : Int)) fun _ => 0) ∧ Fr [] w wz) (fun v _ => j - (intOf v).toNat)
              case atStart => exact ⟨0, Nat.zero_le _, rfl, r0.congr (by simp [fil]), hF⟩
              case round =>
                clear r0 hF
                obtain ⟨i, hi, rfl, hA, hF⟩ := hrel
                by_cases hlt3 : i < j
                · have ct := hA.cell i hlt3
                  have ft := hA.frozen i
                  have hrp : Rd .i64 wr a0 j fun i => ((P i).toNat : Int) := (hF.rd0 rp).congr (fun i hi => by have := (HG.out i hi).1; omega)
                  go_wp2_with fail
                  refine (etop_any a0 j d0 (fun i => (P i).toNat) i _ (by omega) hrp FF.lt hlt3).mono ?_
                  rintro e w' ⟨rfl, rfl⟩
                  go_wp2_with fail
                  go_roundw
                  case rel => exact ⟨i + 1, by omega, by go_num, hA.fill _ rfl, hF.setCell _ (.inr hW) _⟩
                  case measure => simp [intOf] <;> omega
                · have hA : ARow wr B j (fun y => (rt j (fun i => (P i).toNat) y : Int)) := hA.congr (fun i hi => fil_lt _ _ (by omega))
                  go_wp2_with fail
                  go_loop [12, 13] (fun v12 v13 => ∃ r : Nat, r ≤ j ∧ v13 = .int .i64 r ∧ v12 = .int .i64 (cnt (fun x => P x == x) r) ∧ (∀ x, x < r → P x = x → S x = cnt (fun y => rt j (fun i => (P i).toNat) y == x) j)) (fun _ v13 => j - (intOf v13).toNat)
                  case atStart => exact ⟨0, Nat.zero_le _, rfl, rfl, fun x hx => absurd hx (Nat.not_lt_zero _)⟩
                  case round =>
                    obtain ⟨r, hr, rfl, rfl, hc⟩ := hrel
                    have hcn := cnt_le (fun x => P x == x) r
                    have Hc := hide hc
                    clear hc
                    by_cases hlt4 : r < j
                    · obtain ⟨b0, o0, rfl, hr0⟩ := (hF.rd0 rp).at (by omega)
                      obtain ⟨b1, o1, rfl, hr1⟩ := (hF.rd0 rs).at (by omega)
                      have cp := hr0 r hlt4
                      have cs := hr1 r hlt4
                      clear hr0 hr1
                      by_cases g5 : P r = r
                      · have e5 : (P r != (r : Int)) = false := by simpa using g5
                        have G5 := hide g5
                        clear g5
                        go_wp2_with fail
                        go_loop [14, 15] (fun v14 v15 => ∃ y : Nat, y ≤ j ∧ v15 = .int .i64 y ∧ v14 = .int .i64 (cnt (fun y => rt j (fun i => (P i).toNat) y == r) y)) (fun _ v15 => j - (intOf v15).toNat)
                        case atStart => exact ⟨0, Nat.zero_le _, rfl, rfl⟩
                        case round =>
                          obtain ⟨y, hy, rfl, rfl⟩ := hrel
                          have hcy := cnt_le (fun y => rt j (fun i => (P i).toNat) y == r) y
                          by_cases hlt5 : y < j
                          · have cy := hA.cell y hlt5
                            have hst := cnt_eq_step (rt j (fun i => (P i).toNat)) r y
                            have Hst := hide hst
                            clear hst
                            by_cases g7 : rt j (fun i => (P i).toNat) y = r
                            · have G7 := hide g7
                              have e7 : ((rt j (fun i => (P i).toNat) y : Int) == (r : Int)) = true := by simp [g7]
                              clear g7
                              go_wp2_with fail
                              go_round
                              case rel => exact ⟨y + 1, by omega, by go_num, by rw [Hst.out, if_pos G7.out]; go_num⟩
                              case measure => simp [intOf] <;> omega
                            · have e7 : ((rt j (fun i => (P i).toNat) y : Int) == (r : Int)) = false := by simp; omega
                              go_wp2_with fail
                              go_round
                              case rel => exact ⟨y + 1, by omega, by go_num, by rw [Hst.out, if_neg g7]; go_num⟩
                              case measure => simp [intOf] <;> omega
                          · have hyj : y = j := by omega
                            subst hyj
                            generalize hT : cnt (fun y_1 => rt y (fun i => (P i).toNat) y_1 == r) y = T at *
                            have HT := hide hT
                            clear hT
                            by_cases g6 : S r = T
                            · have e6 : ((T : Int) != S r) = false := by simp [g6]
                              have G6 := hide g6
                              clear g6
                              go_wp2_with fail
                              go_round
                              case rel =>
                                refine ⟨r + 1, by omega, by go_num, ?_, ?_⟩
                                · have e8 : (P r == (r : Int)) = true := by simpa using G5.out
                                  simp only [cnt, e8, if_true]
                                  go_num
                                · intro x hx he
                                  by_cases ex : x = r
                                  · subst ex; rw [G6.out, HT.out]
                                  · exact Hc.out x (by omega) he
                              case measure => simp [intOf] <;> omega
                            · have e6 : ((T : Int) != S r) = true := by simp; omega
                              go_wp2_with fail
                              go_ret
                              refine ⟨Tells.no (fun h => g6 ?_), hF⟩
                              rw [h.cls r hlt4 G5.out, HT.out]
                      · have e5 : (P r != (r : Int)) = true := by simpa using g5
                        go_wp2_with fail
                        go_round
                        case rel =>
                          refine ⟨r + 1, by omega, by go_num, ?_, ?_⟩
                          · have e8 : (P r == (r : Int)) = false := by simpa using g5
                            simp only [cnt, e8]
                            simp
                          · intro x hx he
                            by_cases ex : x = r
                            · subst ex; exact absurd he g5
                            · exact Hc.out x (by omega) he
                        case measure => simp [intOf] <;> omega
                    · have hrj : r = j := by omega
                      subst hrj
                      go_wp2_with fail
                      go_ret
                      refine ⟨Tells.of ?_, hF⟩
                      constructor
                      · intro h
                        exact ⟨by omega, rfl, HG.out, Hc.out, by simpa using h⟩
                      · intro h
                        simpa using h.roots
  · have hd2 : ((m : Int) != (n : Int)) = true := by simp; omega
    go_enter Ydbm.func19, Ydbm.ntmps19
    go_wp2_with fail
    go_ret
    exact ⟨Tells.no (fun h => by have := h.len; omega), Fr.refl _ _⟩
end Go.Proofs.Ymbrdb
