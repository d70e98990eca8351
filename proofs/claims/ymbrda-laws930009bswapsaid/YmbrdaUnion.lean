/-
  Union, Compress.
-/
import Derived.Test.YmbrdaRoot
namespace Go.Proofs.Ymbrda
open Go.RowKit
set_option linter.unusedSimpArgs false
set_option linter.unusedVariables false

/-- A Sets of the call's own whose numbers are all natural. -/
def SetsN (w : World) (b bp bs n : Nat) (p s : Nat → Nat) (c : Nat) : Prop := SetsAt w b bp bs n (fun i => (p i : Int)) (fun i => (s i : Int)) (c : Int)

theorem SetsAt.drewN {w : World} {b bp bs n : Nat} {p s : Nat → Int} {c : Int} (h : SetsAt w b bp bs n p s c) (k : Nat) : SetsAt (w.drewN k) b bp bs n p s c := ⟨h.hb, h.hp, h.hs, h.ne⟩

theorem SetsN.merged {w : World} {b bp bs n : Nat} {p s : Nat → Nat} {c : Nat} (h : SetsN w b bp bs n p s c) (hc : 1 ≤ c) (win lose : Nat) :
    SetsN (((w.setCell ⟨bp, lose, none⟩ (.int .i64 win)).setCell ⟨bs, win, none⟩ (.int .i64 ((s win : Int) + (s lose : Int)))).setCell ⟨b, 2, none⟩ (.int .i64 ((c : Int) - 1))) b bp bs n
      (upd p lose win) (upd s win (s win + s lose)) (c - 1) := by
  refine (((SetsAt.setP h lose win).setS win ((s win : Int) + (s lose : Int))).setC ((c : Int) - 1)).congr ?_ ?_ (by omega)
  · intro i _; unfold upd; split <;> rfl
  · intro i _; unfold upd; split
    · rw [Int.natCast_add]
    · rfl

theorem union_out (b n cap : Nat) (a : Option Addr) (p μ : Nat → Nat) (x y : Int) (w : World) (c0 : w.cell? ⟨b, 0, none⟩ = some (.slice a n cap)) (r : Rd .i64 w a n fun i => (p i : Int)) (F : Forest n p μ) (h : inb n x = false ∨ inb n y = false) :
    Calls Ydam.prog 19 #[.pointer (some ⟨b, 0, none⟩), .int .i64 x, .int .i64 y] w fun e w' => e = .returned (.int .i64 2) ∧ w' = w := by
  go_enter Ydam.func19, Ydam.ntmps19
  go_wp2_with fail
  refine (find_any b n cap a p μ x _ c0 r F).mono ?_
  rintro e w' ⟨rfl, rfl⟩
  go_wp2_with fail
  refine (find_any b n cap a p μ y _ c0 r F).mono ?_
  rintro e w' ⟨rfl, rfl⟩
  cases hx : inb n x
  · go_wp2_with fail
    go_ret
    exact ⟨rfl, rfl⟩
  · have hy : inb n y = false := by rw [hx] at h; simpa using h
    rw [hy]
    go_wp2_with fail
    go_ret
    exact ⟨rfl, rfl⟩

theorem union_same (b n cap : Nat) (a : Option Addr) (p μ : Nat → Nat) (x y : Nat) (w : World) (c0 : w.cell? ⟨b, 0, none⟩ = some (.slice a n cap)) (r : Rd .i64 w a n fun i => (p i : Int)) (F : Forest n p μ) (hx : x < n) (hy : y < n) (h : rt n p x = rt n p y) :
    Calls Ydam.prog 19 #[.pointer (some ⟨b, 0, none⟩), .int .i64 x, .int .i64 y] w fun e w' => e = .returned (.int .i64 1) ∧ w' = w := by
  have H : Hid (rt n p x = rt n p y) := h
  clear h
  go_enter Ydam.func19, Ydam.ntmps19
  go_wp2_with fail
  refine (find_in b n cap a p μ x _ c0 r F hx).mono ?_
  rintro e w' ⟨rfl, rfl⟩
  go_wp2_with fail
  refine (find_in b n cap a p μ y _ c0 r F hy).mono ?_
  rintro e w' ⟨rfl, rfl⟩
  rw [H.out]
  go_wp2_with fail
  go_ret
  exact ⟨rfl, rfl⟩

set_option maxHeartbeats 1000000 in
theorem union_merge (b bp bs n : Nat) (p s : Nat → Nat) (c : Nat) (x y : Nat) (w : World) (hS : SetsN w b bp bs n p s c) (I : Inv n p s c) (hn : n ≤ 1048576) (hx : x < n) (hy : y < n) (h : rt n p x ≠ rt n p y) :
    Calls Ydam.prog 19 #[.pointer (some ⟨b, 0, none⟩), .int .i64 x, .int .i64 y] w fun e w' => e = .returned (.int .i64 0) ∧
      SetsN w' b bp bs n (uP n p s x y) (uS n p s x y) (uC n p c x y) ∧ Fr [b, bp, bs] w w' := by
  have F := I.forest
  have l1 := F.rt_lt x hx
  have l2 := F.rt_lt y hy
  have c0 := hS.c0
  have c1 := hS.c1
  have c2 := hS.c2
  have f2 := hS.frozen 2
  have c1c : 1 ≤ c := by
    rw [I.roots]; exact cnt_pos l1 (by simpa using F.root x hx)
  have c1n : c ≤ n := by rw [I.roots]; exact cnt_le _ _
  have s1 := I.sn _ l1
  have s2 := I.sn _ l2
  have cp1 := hS.hp.cell _ l1
  have cp2 := hS.hp.cell _ l2
  have fp1 := hS.hp.frozen (rt n p x)
  have fp2 := hS.hp.frozen (rt n p y)
  have cs1 := hS.hs.cell _ l1
  have cs2 := hS.hs.cell _ l2
  have fs1 := hS.hs.frozen (rt n p x)
  have fs2 := hS.hs.frozen (rt n p y)
  have n1 := hS.nep
  have n2 := hS.nes
  have n3 := hS.ne
  have e1 : ((rt n p x : Int) == (rt n p y : Int)) = false := by simp; omega
  go_enter Ydam.func19, Ydam.ntmps19
  go_wp2_with fail
  refine (find_in b n n _ p _ x _ c0 hS.hp.rd F hx).mono ?_
  rintro e w' ⟨rfl, rfl⟩
  go_wp2_with fail
  refine (find_in b n n _ p _ y _ c0 hS.hp.rd F hy).mono ?_
  rintro e w' ⟨rfl, rfl⟩
  generalize hra : rt n p x = ra at *
  generalize hrb : rt n p y = rb at *
  have Ha : Hid (rt n p x = ra) := hra
  have Hb : Hid (rt n p y = rb) := hrb
  have Hne : Hid (ra ≠ rb) := h
  clear hra hrb h
  by_cases hlt : s ra < s rb
  · have hd : (decide ((s ra : Int) < (s rb : Int))) = true := by simp; omega
    go_wp2_with fail
    go_quiet (fail)
    go_wp2_with fail
    go_region
    go_wp2_with fail
    go_ret
    refine ⟨rfl, ?_, ?_⟩
    · have e2 : uP n p s x y = upd p ra rb := by simp only [uP, uWin, uLose, Ha.out, Hb.out, if_pos hlt, if_neg Hne.out]
      have e3 : uS n p s x y = upd s rb (s rb + s ra) := by simp only [uS, uWin, uLose, Ha.out, Hb.out, if_pos hlt, if_neg Hne.out]
      have e4 : uC n p c x y = c - 1 := by simp only [uC, Ha.out, Hb.out, if_neg Hne.out]
      rw [e2, e3, e4]
      exact SetsAt.drew (SetsN.merged (SetsAt.drewN hS nq) c1c rb ra)
    · refine (((((Fr.refl _ _).drewN nq).setCell _ ?_ _).setCell _ ?_ _).setCell _ ?_ _).drew <;> simp
  · have hd : (decide ((s ra : Int) < (s rb : Int))) = false := by simp; omega
    go_wp2_with fail
    go_quiet (fail)
    go_wp2_with fail
    go_region
    go_wp2_with fail
    go_ret
    refine ⟨rfl, ?_, ?_⟩
    · have e2 : uP n p s x y = upd p rb ra := by simp only [uP, uWin, uLose, Ha.out, Hb.out, if_neg hlt, if_neg Hne.out]
      have e3 : uS n p s x y = upd s ra (s ra + s rb) := by simp only [uS, uWin, uLose, Ha.out, Hb.out, if_neg hlt, if_neg Hne.out]
      have e4 : uC n p c x y = c - 1 := by simp only [uC, Ha.out, Hb.out, if_neg Hne.out]
      rw [e2, e3, e4]
      exact SetsAt.drew (SetsN.merged (SetsAt.drewN hS nq) c1c ra rb)
    · refine (((((Fr.refl _ _).drewN nq).setCell _ ?_ _).setCell _ ?_ _).setCell _ ?_ _).drew <;> simp

/-- Union of two elements, as the plain functions tell it. -/
theorem union_in (b bp bs n : Nat) (p s : Nat → Nat) (c : Nat) (x y : Nat) (w : World) (hS : SetsN w b bp bs n p s c) (I : Inv n p s c) (hn : n ≤ 1048576) (hx : x < n) (hy : y < n) :
    Calls Ydam.prog 19 #[.pointer (some ⟨b, 0, none⟩), .int .i64 x, .int .i64 y] w fun e w' => e = .returned (.int .i64 (uCode n p x y)) ∧
      SetsN w' b bp bs n (uP n p s x y) (uS n p s x y) (uC n p c x y) ∧ Fr [b, bp, bs] w w' := by
  by_cases h : rt n p x = rt n p y
  · refine (union_same b n n _ p _ x y w hS.c0 hS.hp.rd I.forest hx hy h).mono ?_
    rintro e w' ⟨rfl, rfl⟩
    simp only [uCode, uP, uS, uC, if_pos h]
    exact ⟨trivial, hS, Fr.refl _ _⟩
  · refine (union_merge b bp bs n p s c x y w hS I hn hx hy h).mono ?_
    rintro e w' ⟨rfl, h1, h2⟩
    refine ⟨?_, h1, h2⟩
    simp only [uCode, if_neg h]

theorem compress_out (b n cap : Nat) (a : Option Addr) (x : Int) (w : World) (c0 : w.cell? ⟨b, 0, none⟩ = some (.slice a n cap)) (hx : ¬ (0 ≤ x ∧ x < (n : Int))) :
    Calls Ydam.prog 29 #[.pointer (some ⟨b, 0, none⟩), .int .i64 x] w fun e w' => e = .returned (.bool false) ∧ w' = w := by
  go_enter Ydam.func29, Ydam.ntmps29
  go_wp2_with fail
  refine (find_out b n cap a x _ c0 hx).mono ?_
  rintro e w' ⟨rfl, rfl⟩
  go_wp2_with fail
  go_ret
  exact ⟨rfl, rfl⟩

set_option maxHeartbeats 400000 in
theorem compress_row (b bp n cap : Nat) (p μ : Nat → Nat) (x : Nat) (w : World) (c0 : w.cell? ⟨b, 0, none⟩ = some (.slice (some ⟨bp, 0, none⟩) n cap)) (hp : ARow w bp n fun i => (p i : Int)) (ne : b ≠ bp) (F : Forest n p μ) (hx : x < n) :
    Calls Ydam.prog 29 #[.pointer (some ⟨b, 0, none⟩), .int .i64 x] w fun e w' => e = .returned (.bool true) ∧
      ∃ q, Cpd n p x q ∧ ARow w' bp n (fun i => ((q i : Nat) : Int)) ∧ Fr [bp] w w' := by
  have hr := F.rt_lt x hx
  go_enter Ydam.func29, Ydam.ntmps29
  go_wp2_with fail
  refine (find_in b n cap _ p μ x _ c0 hp.rd F hx).mono ?_
  rintro e w' ⟨rfl, rfl⟩
  go_wp2_with fail
  go_loopw [1] (fun v wr => ∃ k q, Cpk n p x k q ∧ v = .int .i64 (it p k x) ∧ wr.cell? ⟨b, 0, none⟩ = some (.slice (some ⟨bp, 0, none⟩) n cap) ∧ ARow wr bp n (fun i => ((q i : Nat) : Int)) ∧ Fr [bp] w' wr) (fun v _ => μ (intOf v).toNat)
  case atStart => exact ⟨0, p, Cpk.zero n p x, rfl, c0, hp, Fr.refl _ _⟩
  case round =>
    clear c0
    obtain ⟨k, q, hk, rfl, c0, hT, hF⟩ := hrel
    have hy := F.it_lt k x hx
    generalize hyy : it p k x = y at *
    have Hy : Hid (it p k x = y) := hyy
    clear hyy
    have cy := hT.cell y hy
    have fy := hT.frozen y
    by_cases e : q y = rt n p x
    · have e1 : ((q y : Int) != (rt n p x : Int)) = false := by simp [e]
      have He : Hid (q y = rt n p x) := e
      clear e
      go_wp2_with fail
      go_ret
      exact ⟨rfl, q, hk.done F hx (by rw [Hy.out]; exact He.out), hT, hF⟩
    · have e1 : ((q y : Int) != (rt n p x : Int)) = true := by simp; omega
      go_wp2_with fail
      go_roundw
      case rel =>
        obtain ⟨g1, g2, g3⟩ := hk.step F hx (by rw [Hy.out]; exact e)
        rw [Hy.out] at g1 g2 g3
        refine ⟨k + 1, _, g1, ?_, ?_, (hT.set y (rt n p x)).congr ?_, hF.setCell _ (by simp) _⟩
        · rw [g2, it_succ, Hy.out]
        · rw [World.cell?_setCell_other _ _ _ _ (by intro h; cases h; exact ne rfl)]; exact c0
        · intro i _; unfold upd; split <;> rfl
      case measure =>
        obtain ⟨g1, g2, g3⟩ := hk.step F hx (by rw [Hy.out]; exact e)
        rw [Hy.out] at g1 g2 g3
        have := F.dec y hy g3
        simp [intOf, g2]; exact this

theorem compress_in (b bp bs n : Nat) (p μ : Nat → Nat) (s : Nat → Int) (c : Int) (x : Nat) (w : World) (hS : SetsAt w b bp bs n (fun i => (p i : Int)) s c) (F : Forest n p μ) (hx : x < n) :
    Calls Ydam.prog 29 #[.pointer (some ⟨b, 0, none⟩), .int .i64 x] w fun e w' => e = .returned (.bool true) ∧
      ∃ q, Cpd n p x q ∧ SetsAt w' b bp bs n (fun i => ((q i : Nat) : Int)) s c ∧ Fr [bp] w w' := by
  refine (compress_row b bp n n p μ x w hS.c0 hS.hp hS.nep F hx).mono ?_
  rintro e w' ⟨rfl, q, h1, h2, h3⟩
  refine ⟨rfl, q, h1, ⟨?_, h2, h3.aRow hS.hs (by simpa using Ne.symm hS.ne), hS.ne⟩, h3⟩
  rw [h3.block b hS.lt (by simpa using hS.nep)]
  exact hS.hb
end Go.Proofs.Ymbrda
