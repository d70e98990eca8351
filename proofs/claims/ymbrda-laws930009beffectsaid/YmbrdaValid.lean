/-
  Valid.
-/
import Derived.Test.YmbrdaKit2
namespace Go.Proofs.Ymbrda
open Go.RowKit
set_option linter.unusedSimpArgs false
set_option linter.unusedVariables false

/-- A Sets that can be read, wherever its slices lie. -/
structure SV (w : World) (b : Nat) (a0 a1 : Option Addr) (n d0 m d1 : Nat) (P S : Nat → Int) (c : Int) : Prop where
  c0 : w.cell? ⟨b, 0, none⟩ = some (.slice a0 n d0)
  c1 : w.cell? ⟨b, 1, none⟩ = some (.slice a1 m d1)
  c2 : w.cell? ⟨b, 2, none⟩ = some (.int .i64 c)
  rp : Rd .i64 w a0 n P
  rs : Rd .i64 w a1 m S

theorem SV.fr0 {w w' : World} {b : Nat} {a0 a1 : Option Addr} {n d0 m d1 : Nat} {P S : Nat → Int} {c : Int} (h : SV w b a0 a1 n d0 m d1 P S c) (f : Fr [] w w') : SV w' b a0 a1 n d0 m d1 P S c :=
  ⟨(f.cell (World.block_lt_of_cell? _ _ h.c0) (by simp)).trans h.c0, (f.cell (World.block_lt_of_cell? _ _ h.c1) (by simp)).trans h.c1, (f.cell (World.block_lt_of_cell? _ _ h.c2) (by simp)).trans h.c2, f.rd0 h.rp, f.rd0 h.rs⟩

theorem SetsAt.sv {w : World} {b bp bs n : Nat} {p s : Nat → Int} {c : Int} (h : SetsAt w b bp bs n p s c) : SV w b (some ⟨bp, 0, none⟩) (some ⟨bs, 0, none⟩) n n n n p s c :=
  ⟨h.c0, h.c1, h.c2, h.hp.rd, h.hs.rd⟩

/-- One element's own part of the invariant. -/
def Good (n : Nat) (P S : Nat → Int) (x : Nat) : Prop := 0 ≤ P x ∧ P x < n ∧ 1 ≤ S x ∧ S x ≤ n ∧ (P x ≠ x → 2 * S x ≤ S (P x).toNat)

/-- The invariant on raw numbers. -/
structure VOk (n m : Nat) (P S : Nat → Int) (c : Int) : Prop where
  le : n ≤ 1048576
  len : m = n
  good : ∀ x, x < n → Good n P S x
  cls : ∀ x, x < n → P x = x → S x = cnt (fun y => rt n (fun i => (P i).toNat) y == x) n
  roots : (cnt (fun x => P x == x) n : Int) = c

theorem good_forest {n : Nat} {P S : Nat → Int} (h : ∀ x, x < n → Good n P S x) : Forest n (fun i => (P i).toNat) (fun x => n - (S x).toNat) := by
  refine forest_of_sizes (s := fun i => (S i).toNat) ?_ ?_ ?_ ?_
  · intro x hx; obtain ⟨h1, h2, h3, h4, h5⟩ := h x hx; show (P x).toNat < n; omega
  · intro x hx; obtain ⟨h1, h2, h3, h4, h5⟩ := h x hx; show 1 ≤ (S x).toNat; omega
  · intro x hx; obtain ⟨h1, h2, h3, h4, h5⟩ := h x hx; show (S x).toNat ≤ n; omega
  · intro x hx hne
    obtain ⟨h1, h2, h3, h4, h5⟩ := h x hx
    have hne' : P x ≠ x := by intro e; exact hne (by show (P x).toNat = x; omega)
    have := h5 hne'
    show 2 * (S x).toNat ≤ (S (P x).toNat).toNat
    omega

theorem Inv.vok {n : Nat} {p s : Nat → Nat} {c : Nat} (h : Inv n p s c) (hn : n ≤ 1048576) : VOk n n (fun i => (p i : Int)) (fun i => (s i : Int)) c := by
  refine ⟨hn, rfl, ?_, ?_, ?_⟩
  · intro x hx
    refine ⟨by show 0 ≤ ((p x : Nat) : Int); omega, ?_, ?_, ?_, ?_⟩
    · show ((p x : Nat) : Int) < n; have := h.lt x hx; omega
    · show 1 ≤ ((s x : Nat) : Int); have := h.s1 x hx; omega
    · show ((s x : Nat) : Int) ≤ n; have := h.sn x hx; omega
    · intro hne
      have := h.dbl x hx (fun e => hne (by show ((p x : Nat) : Int) = x; omega))
      show 2 * ((s x : Nat) : Int) ≤ ((s ((p x : Nat) : Int).toNat : Nat) : Int)
      simp only [Int.toNat_natCast]
      omega
  · intro x hx e
    have e' : p x = x := by have : ((p x : Nat) : Int) = x := e; omega
    have := h.cls x hx e'
    show ((s x : Nat) : Int) = _
    rw [this]
    rfl
  · rw [h.roots]
    congr 1
    apply cnt_congr
    intro x hx
    by_cases e : p x = x
    · simp [e]
    · have e' : (p x == x) = false := by simpa using e
      rw [e']
      show (((p x : Nat) : Int) == (x : Int)) = false
      simp; omega

set_option maxHeartbeats 2000000 in
set_option maxRecDepth 100000 in
theorem valid_any (b : Nat) (a0 a1 : Option Addr) (n d0 m d1 : Nat) (P S : Nat → Int) (c : Int) (w : World) (hn : n ≤ 9223372036854775807) (hm : m ≤ 9223372036854775807) (hV : SV w b a0 a1 n d0 m d1 P S c) :
    Calls Ydam.prog 28 #[.pointer (some ⟨b, 0, none⟩)] w fun e w' => Tells e (VOk n m P S c) ∧ Fr [] w w' := by
  have c0 := hV.c0
  have c1 := hV.c1
  by_cases hle : 1048576 < n
  · have hd : decide ((1048576 : Int) < (n : Int)) = true := by simp; omega
    go_enter Ydam.func28, Ydam.ntmps28
    go_wp2_with fail
    go_ret
    exact ⟨Tells.no (fun h => by have := h.le; omega), Fr.refl _ _⟩
  · have hd : decide ((1048576 : Int) < (n : Int)) = false := by simp; omega
    by_cases hmn : m = n
    · subst hmn
      have hmk := mk m (by omega)
      go_enter Ydam.func28, Ydam.ntmps28
      go_wp2_with fail
      go_loopw [32, 4] (fun v32 v4 wr => ∃ k : Nat, k ≤ m ∧ v32 = .int .i64 k ∧ v4 = .int .i64 (cnt (fun x => P x == x) k) ∧ (∀ x, x < k → Good m P S x) ∧ Fr [] w wr) (fun v32 _ _ => m - (intOf v32).toNat)
      case atStart => exact ⟨0, Nat.zero_le _, rfl, rfl, fun x hx => absurd hx (Nat.not_lt_zero _), Fr.refl _ _⟩
      case round =>
        clear c0 c1
        obtain ⟨k, hk, rfl, rfl, hg, hF⟩ := hrel
        by_cases hlt : k < m
        · have hVr := hV.fr0 hF
          have c0 := hVr.c0
          have c1 := hVr.c1
          have c2 := hVr.c2
          have hcn := cnt_le (fun x => P x == x) k
          obtain ⟨b0, o0, rfl, hr0⟩ := hVr.rp.at (by omega)
          obtain ⟨b1, o1, rfl, hr1⟩ := hVr.rs.at (by omega)
          have cp := hr0 k hlt
          have cs := hr1 k hlt
          have nok : ¬ Good m P S k → ¬ VOk m m P S c := fun h1 h2 => h1 (h2.good k hlt)
          have Nok := hide nok
          clear nok hV hVr
          by_cases g1 : P k < 0
          · have hdd := dec_true g1
            go_wp2_with fail
            go_ret
            exact ⟨Tells.no (Nok.out (fun h => by have := h.1; omega)), hF⟩
          · by_cases g2 : (m : Int) ≤ P k
            · have hdd := dec_true g2
              go_wp2_with fail
              go_ret
              exact ⟨Tells.no (Nok.out (fun h => by have := h.2.1; omega)), hF⟩
            · by_cases g3 : S k < 1
              · have hdd := dec_true g3
                go_wp2_with fail
                go_ret
                exact ⟨Tells.no (Nok.out (fun h => by have := h.2.2.1; omega)), hF⟩
              · by_cases g4 : (m : Int) < S k
                · have hdd := dec_true g4
                  go_wp2_with fail
                  go_ret
                  exact ⟨Tells.no (Nok.out (fun h => by have := h.2.2.2.1; omega)), hF⟩
                · have d1 := dec_false g1
                  have d2 := dec_false g2
                  have d3 := dec_false g3
                  have d4 := dec_false g4
                  by_cases g5 : P k = k
                  · have e5 : (P k == (k : Int)) = true := by simpa using g5
                    have G5 := hide g5
                    clear g5
                    go_wp2_with fail
                    go_roundw
                    case rel =>
                      refine ⟨k + 1, by omega, by go_num, ?_, ?_, hF⟩
                      · simp only [cnt, G5.out, beq_self, if_true]
                        go_num
                      · intro x hx
                        by_cases ex : x = k
                        · subst ex; exact ⟨by omega, by omega, by omega, by omega, fun h => absurd G5.out h⟩
                        · exact hg x (by omega)
                    case measure => simp [intOf] <;> omega
                  · have e5 : (P k == (k : Int)) = false := by simpa using g5
                    obtain ⟨q, hq⟩ := Int.eq_ofNat_of_zero_le (by omega : 0 ≤ P k)
                    have hqm : q < m := by omega
                    have csq := hr1 q hqm
                    rw [hq] at cp e5
                    have Hq := hide hq
                    have G5 := hide g5
                    have G14 : Hid (0 ≤ P k ∧ P k < m ∧ 1 ≤ S k ∧ S k ≤ m) := ⟨by omega, by omega, by omega, by omega⟩
                    clear hq g5 g1 g2 d1 d2 hr0 hr1
                    have hqm' : (q : Int) < (m : Int) := by omega
                    have hqq : ¬ (m : Int) ≤ (q : Int) := by omega
                    have hqk : ¬ q = k := by intro e; apply G5.out; rw [Hq.out, e]
                    have hlt' : (k : Int) < (m : Int) := by omega
                    by_cases g6 : S q < 2 * S k
                    · have hdd := dec_true g6
                      go_wp2_with fail
                      go_quiet (fail)
                      go_wp2_with fail
                      go_ret
                      refine ⟨Tells.no (Nok.out (fun h => ?_)), hF.drewN _⟩
                      have := h.2.2.2.2 G5.out
                      rw [Hq.out] at this
                      simp at this
                      omega
                    · have hdd := dec_false g6
                      go_wp2_with fail
                      go_quiet (fail)
                      go_wp2_with fail
                      go_roundw
                      case rel =>
                        refine ⟨k + 1, by omega, by go_num, ?_, ?_, hF.drewN _⟩
                        · have e7 : (P k == (k : Int)) = false := by simpa using G5.out
                          simp only [cnt, e7]
                          simp
                        · intro x hx
                          by_cases ex : x = k
                          · subst ex
                            refine ⟨G14.out.1, G14.out.2.1, G14.out.2.2.1, G14.out.2.2.2, fun _ => ?_⟩
                            rw [Hq.out]
                            simp
                            omega
                          · exact hg x (by omega)
                      case measure => simp [intOf] <;> omega
        · have hkm : k = m := by omega
          subst hkm
          have hVr := hV.fr0 hF
          have FF := good_forest hg
          have c0 := hVr.c0
          have hbl : b < wr.heap.size := World.block_lt_of_cell? _ _ c0
          go_wp2_with fail
          have hW : w.heap.size ≤ wr.heap.size := hF.size
          have r0 := (ARow.new wr k fun _ => 0).congr (g := fun r => ((cnt (fun y => rt k (fun i => (P i).toNat) y == r) 0 : Nat) : Int)) (fun _ _ => rfl)
          have hF := hF.alloc (.cells (row k fun _ => 0) 3)
          generalize hB : wr.heap.size = B at *
          clear hB c0 hVr
          go_loopw [94] (fun v wz => ∃ j : Nat, j ≤ k ∧ v = .int .i64 j ∧ ARow wz B k (fun r => ((cnt (fun y => rt k (fun i => (P i).toNat) y == r) j : Nat) : Int)) ∧ Fr [] w wz) (fun v _ => k - (intOf v).toNat)
          case atStart => exact ⟨0, Nat.zero_le _, rfl, r0, hF⟩
          case round =>
            clear hF r0
            obtain ⟨j, hj, rfl, hA, hF⟩ := hrel
            by_cases hlt2 : j < k
            · have hVr := hV.fr0 hF
              have c0 := hVr.c0
              have hrl := FF.rt_lt j hlt2
              have ct := hA.cell _ hrl
              have ft := hA.frozen (rt k (fun i => (P i).toNat) j)
              have hcl := cnt_le (fun y => rt k (fun i => (P i).toNat) y == rt k (fun i => (P i).toNat) j) j
              have hrp : Rd .i64 wr a0 k fun i => ((P i).toNat : Int) := hVr.rp.congr (fun i hi => by have := (hg i hi).1; omega)
              go_wp2_with fail
              refine (root_any b k d0 a0 (fun i => (P i).toNat) _ j _ c0 hrp FF hlt2).mono ?_
              rintro e w' ⟨rfl, rfl⟩
              generalize hR : rt k (fun i => (P i).toNat) j = R at *
              have HR := hide hR
              clear hR
              go_wp2_with fail
              go_roundw
              case rel =>
                refine ⟨j + 1, by omega, by go_num, hA.set_to _ _ ?_, hF.setCell _ (.inr hW) _⟩
                intro r hr
                rw [cnt_eq_step, HR.out]
                by_cases e : r = R
                · subst e
                  rw [if_pos rfl, if_pos rfl]
                  omega
                · rw [if_neg e, if_neg (Ne.symm e)]
                  omega
              case measure => simp [intOf] <;> omega
            · have hjk : j = k := by omega
              subst hjk
              have hVr := hV.fr0 hF
              have c0 := hVr.c0
              go_wp2_with fail
              clear hVr c0
              go_loopw [111] (fun v wz => ∃ i : Nat, i ≤ j ∧ v = .int .i64 i ∧ (∀ x, x < i → P x = x → S x = cnt (fun y => rt j (fun i => (P i).toNat) y == x) j) ∧ ARow wz B j (fun r => ((cnt (fun y => rt j (fun i => (P i).toNat) y == r) j : Nat) : Int)) ∧ Fr [] w wz) (fun v _ => j - (intOf v).toNat)
              case atStart => exact ⟨0, Nat.zero_le _, rfl, fun x hx => absurd hx (Nat.not_lt_zero _), hA, hF⟩
              case round =>
                clear hF hA
                obtain ⟨i, hi, rfl, hc, hA, hF⟩ := hrel
                have hVr := hV.fr0 hF
                have c0 := hVr.c0
                have c1 := hVr.c1
                have c2 := hVr.c2
                by_cases hlt3 : i < j
                · obtain ⟨b0, o0, rfl, hr0⟩ := hVr.rp.at (by omega)
                  obtain ⟨b1, o1, rfl, hr1⟩ := hVr.rs.at (by omega)
                  have cp := hr0 i hlt3
                  have cs := hr1 i hlt3
                  have ct := hA.cell i hlt3
                  have hlt' : (i : Int) < (j : Int) := by omega
                  generalize hT : cnt (fun y => rt j (fun i => (P i).toNat) y == i) j = T at *
                  have HT := hide hT
                  clear hT hr0 hr1 hVr
                  have Hc := hide hc
                  have Hg := hide hg
                  clear hc hg
                  by_cases g5 : P i = i
                  · have e5 : (P i == (i : Int)) = true := by simpa using g5
                    have G5 := hide g5
                    clear g5
                    by_cases g6 : S i = T
                    · have e6 : ((T : Int) != S i) = false := by simp [g6]
                      have G6 := hide g6
                      clear g6
                      go_wp2_with fail
                      go_quiet (fail)
                      go_wp2_with fail
                      go_roundw
                      case rel =>
                        refine ⟨i + 1, by omega, by go_num, ?_, hA.drewN _, hF.drewN _⟩
                        intro x hx he
                        by_cases ex : x = i
                        · subst ex; rw [G6.out, HT.out]
                        · exact Hc.out x (by omega) he
                      case measure => simp [intOf] <;> omega
                    · have e6 : ((T : Int) != S i) = true := by simp; omega
                      go_wp2_with fail
                      go_quiet (fail)
                      go_wp2_with fail
                      go_ret
                      refine ⟨Tells.no (fun h => g6 ?_), hF.drewN _⟩
                      rw [h.cls i hlt3 G5.out, HT.out]
                  · have e5 : (P i == (i : Int)) = false := by simpa using g5
                    go_wp2_with fail
                    go_quiet (fail)
                    go_wp2_with fail
                    go_roundw
                    case rel =>
                      refine ⟨i + 1, by omega, by go_num, ?_, hA.drewN _, hF.drewN _⟩
                      intro x hx he
                      by_cases ex : x = i
                      · subst ex; exact absurd he g5
                      · exact Hc.out x (by omega) he
                    case measure => simp [intOf] <;> omega
                · have hij : i = j := by omega
                  subst hij
                  go_wp2_with fail
                  go_ret
                  refine ⟨Tells.of ?_, hF⟩
                  constructor
                  · intro h
                    exact ⟨by omega, rfl, hg, hc, by simpa using h⟩
                  · intro h
                    simpa using h.roots
    · have hd2 : ((m : Int) != (n : Int)) = true := by simp; omega
      go_enter Ydam.func28, Ydam.ntmps28
      go_wp2_with fail
      go_ret
      exact ⟨Tells.no (fun h => by have := h.len; omega), Fr.refl _ _⟩
end Go.Proofs.Ymbrda
