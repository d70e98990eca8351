/-
  New.
-/
import Derived.Test.YmbrdaRows
import Derived.Test.YmbrdaKit
import Derived.WalkLawsBesides
import Derived.BigQuiet
import Derived.BigRegion
import Derived.Deep.QuietTactic
import Derived.Deep.OwnRows
namespace Go.Proofs.Ymbrda
open Go.RowKit
set_option linter.unusedSimpArgs false
set_option linter.unusedVariables false

/-- A Sets of the call's own: its struct in block b, its two arrays in blocks bp, bs, n cells each. -/
structure SetsAt (w : World) (b bp bs n : Nat) (p s : Nat → Int) (c : Int) : Prop where
  hb : w.heap[b]? = some (.cells #[.slice (some ⟨bp, 0, none⟩) n n, .slice (some ⟨bs, 0, none⟩) n n, .int .i64 c] 32 (0, 0))
  hp : ARow w bp n p
  hs : ARow w bs n s
  ne : bp ≠ bs

section
variable {w w' : World} {b bp bs n : Nat} {p s : Nat → Int} {c : Int}

theorem SetsAt.lt (h : SetsAt w b bp bs n p s c) : b < w.heap.size := by
  rcases Nat.lt_or_ge b w.heap.size with h' | h'
  · exact h'
  · have := h.hb; rw [Array.getElem?_eq_none h'] at this; cases this
theorem SetsAt.nep (h : SetsAt w b bp bs n p s c) : b ≠ bp := by
  intro e; have h1 := h.hb; have h2 := h.hp; unfold ARow BRow at h2; rw [e, h2] at h1; simp at h1
theorem SetsAt.nes (h : SetsAt w b bp bs n p s c) : b ≠ bs := by
  intro e; have h1 := h.hb; have h2 := h.hs; unfold ARow BRow at h2; rw [e, h2] at h1; simp at h1
theorem SetsAt.c0 (h : SetsAt w b bp bs n p s c) : w.cell? ⟨b, 0, none⟩ = some (.slice (some ⟨bp, 0, none⟩) n n) := by
  simp [World.cell?, h.hb]
theorem SetsAt.c1 (h : SetsAt w b bp bs n p s c) : w.cell? ⟨b, 1, none⟩ = some (.slice (some ⟨bs, 0, none⟩) n n) := by
  simp [World.cell?, h.hb]
theorem SetsAt.c2 (h : SetsAt w b bp bs n p s c) : w.cell? ⟨b, 2, none⟩ = some (.int .i64 c) := by
  simp [World.cell?, h.hb]
theorem SetsAt.frozen (h : SetsAt w b bp bs n p s c) (i : Nat) : w.frozen? ⟨b, i, none⟩ = false := by
  simp [World.frozen?, h.hb]
theorem SetsAt.drew (h : SetsAt w b bp bs n p s c) : SetsAt w.drew b bp bs n p s c := ⟨h.hb, h.hp, h.hs, h.ne⟩
theorem SetsAt.congr {p' s' : Nat → Int} {c' : Int} (h : SetsAt w b bp bs n p s c) (e1 : ∀ i, i < n → p i = p' i) (e2 : ∀ i, i < n → s i = s' i) (e3 : c = c') : SetsAt w b bp bs n p' s' c' :=
  ⟨by rw [← e3]; exact h.hb, h.hp.congr e1, h.hs.congr e2, h.ne⟩
/-- A cell of the parents is written. -/
theorem SetsAt.setP (h : SetsAt w b bp bs n p s c) (i : Nat) (v : Int) : SetsAt (w.setCell ⟨bp, i, none⟩ (.int .i64 v)) b bp bs n (upd p i v) s c :=
  ⟨by rw [Below.heap_setCell _ _ _ _ h.nep]; exact h.hb, h.hp.set i v, h.hs.set_ne _ (by exact h.ne) _, h.ne⟩
/-- A cell of the sizes is written. -/
theorem SetsAt.setS (h : SetsAt w b bp bs n p s c) (i : Nat) (v : Int) : SetsAt (w.setCell ⟨bs, i, none⟩ (.int .i64 v)) b bp bs n p (upd s i v) c :=
  ⟨by rw [Below.heap_setCell _ _ _ _ h.nes]; exact h.hb, h.hp.set_ne _ (by exact Ne.symm h.ne) _, h.hs.set i v, h.ne⟩
/-- The count is written. -/
theorem SetsAt.setC (h : SetsAt w b bp bs n p s c) (v : Int) : SetsAt (w.setCell ⟨b, 2, none⟩ (.int .i64 v)) b bp bs n p s v :=
  ⟨by have := h.hb; simp [World.setCell, Array.getElem?_modify, this], h.hp.set_ne _ (by exact h.nep) _, h.hs.set_ne _ (by exact h.nes) _, h.ne⟩
theorem SetsAt.fr {l : List Nat} (h : SetsAt w b bp bs n p s c) (f : Fr l w w') (h0 : b ∉ l) (h1 : bp ∉ l) (h2 : bs ∉ l) : SetsAt w' b bp bs n p s c :=
  ⟨by rw [f.block b h.lt h0]; exact h.hb, f.aRow h.hp h1, f.aRow h.hs h2, h.ne⟩
theorem SetsAt.fr0 (h : SetsAt w b bp bs n p s c) (f : Fr [] w w') : SetsAt w' b bp bs n p s c := h.fr f (by simp) (by simp) (by simp)
/-- A write into a block of none of the three. -/
theorem SetsAt.set_ne (h : SetsAt w b bp bs n p s c) (a : Addr) (v : Value) (h0 : a.block ≠ b) (h1 : a.block ≠ bp) (h2 : a.block ≠ bs) : SetsAt (w.setCell a v) b bp bs n p s c :=
  ⟨by rw [Below.heap_setCell _ _ _ _ (Ne.symm h0)]; exact h.hb, h.hp.set_ne _ h1 _, h.hs.set_ne _ h2 _, h.ne⟩
theorem SetsAt.box (hp : ARow w bp n p) (hs : ARow w bs n s) (ne : bp ≠ bs) (c : Int) (k : Nat) (hk : k = w.heap.size) : SetsAt (w.alloc (.cells #[.slice (some ⟨bp, 0, none⟩) n n, .slice (some ⟨bs, 0, none⟩) n n, .int .i64 c] 32)) k bp bs n p s c :=
  ⟨by rw [hk]; show (w.heap.push _)[w.heap.size]? = _; simp, hp.alloc _, hs.alloc _, ne⟩
theorem SetsAt.alloc (h : SetsAt w b bp bs n p s c) (o : Obj) : SetsAt (w.alloc o) b bp bs n p s c := h.fr0 ((Fr.refl _ _).alloc o)
end

theorem mk (n : Nat) (h : n ≤ 1048576) (w : World) : (Instr.makeSlice 30 (.int .i64 n) (.int .i64 n)).run Ydam.prog w = .ok (.slice (some ⟨w.heap.size, 0, none⟩) n n) (w.alloc (.cells (row n fun _ => 0) 3)) := by
  have := run_make_row' (P := Ydam.prog) 30 3 (.int .i64 0) 8 Ydam.underlying30 (by kernel_rfl) rfl .i64 .i64 n (by omega) (by omega) w
  rw [this, madeCells_row]

theorem new_no (n : Int) (w : World) (h : n < 0 ∨ 1048576 < n) :
    Calls Ydam.prog 15 #[.int .i64 n] w fun e w' => e = .returned (.tuple #[.pointer none, .bool false]) ∧ w' = w := by
  by_cases h0 : n < 0
  · go_enter Ydam.func15, Ydam.ntmps15
    go_wp2
    go_ret2
    exact ⟨rfl, rfl⟩
  · have h1 : 1048576 < n := by omega
    go_enter Ydam.func15, Ydam.ntmps15
    go_wp2
    go_ret2
    exact ⟨rfl, rfl⟩

set_option maxHeartbeats 400000 in
theorem new_yes (n : Nat) (w : World) (h : n ≤ 1048576) :
    Calls Ydam.prog 15 #[.int .i64 n] w fun e w' => ∃ b bp bs, e = .returned (.tuple #[.pointer (some ⟨b, 0, none⟩), .bool true]) ∧
      SetsAt w' b bp bs n (fun i => i) (fun _ => 1) n ∧ w.heap.size ≤ b ∧ w.heap.size ≤ bp ∧ w.heap.size ≤ bs ∧ Fr [] w w' := by
  have h1 : ¬ 1048576 < (n : Int) := by omega
  have hmk := mk n h
  go_enter Ydam.func15, Ydam.ntmps15
  go_wp2
  go_region
  all_goals go_wp2
  all_goals
    go_loopw [5] (fun i wr => ∃ k bp bs : Nat, k ≤ n ∧ i = .int .i64 k ∧ SetsAt wr (w.heap.size + 1 + 1) bp bs n (fun i => if i < k then i else 0) (fun i => if i < k then 1 else 0) n ∧ w.heap.size ≤ bp ∧ w.heap.size ≤ bs ∧ Fr [] w wr) (fun i _ => n - (intOf i).toNat)
    case atStart =>
      have r1 := ARow.new w n fun _ => 0
      have r2 := ARow.new (w.alloc (.cells (row n fun _ => 0) 3)) n fun _ => 0
      have r1' := r1.alloc (.cells (row n fun _ => 0) 3)
      simp only [World.size_alloc] at r2
      have hF : Fr [] w ((w.alloc (.cells (row n fun _ => 0) 3)).alloc (.cells (row n fun _ => 0) 3)) := ((Fr.refl _ _).alloc _).alloc _
      have e1 := ((SetsAt.box r1' r2 (by omega) n (w.heap.size + 1 + 1) (by simp)).congr (p' := fun i => if i < 0 then (i : Int) else 0) (s' := fun i => if i < 0 then 1 else 0) (by simp) (by simp) rfl).drew
      have e2 := ((SetsAt.box r2 r1' (by omega) n (w.heap.size + 1 + 1) (by simp)).congr (p' := fun i => if i < 0 then (i : Int) else 0) (s' := fun i => if i < 0 then 1 else 0) (by simp) (by simp) rfl).drew
      first
        | exact ⟨0, w.heap.size, w.heap.size + 1, Nat.zero_le _, rfl, e1, Nat.le_refl _, Nat.le_succ _, (hF.alloc _).drew⟩
        | exact ⟨0, w.heap.size + 1, w.heap.size, Nat.zero_le _, rfl, e2, Nat.le_succ _, Nat.le_refl _, (hF.alloc _).drew⟩
    case round =>
      obtain ⟨k, bp, bs, hk, rfl, hS, hbp, hbs, hF⟩ := hrel
      by_cases hlt : k < n
      · have c0 := hS.c0
        have c1 := hS.c1
        have cp := hS.hp.cell k hlt
        have cs := hS.hs.cell k hlt
        have fp := hS.hp.frozen k
        have fs := hS.hs.frozen k
        have n1 := hS.nep
        have n2 := hS.nes
        have n3 := hS.ne
        go_wp2
        go_roundw
        case rel =>
          refine ⟨k + 1, bp, bs, by omega, by go_num, ?_, hbp, hbs, ?_⟩
          · refine ((hS.setP k k).setS k 1).congr ?_ ?_ rfl
            · intro i hi
              simp only [upd]
              split <;> split <;> first | omega | (subst_vars; omega)
            · intro i hi
              simp only [upd]
              split <;> split <;> first | omega | (subst_vars; omega)
          · exact (hF.setCell _ (.inr hbp) _).setCell _ (.inr hbs) _
        case measure => simp [intOf]; omega
      · go_wp2
        go_ret2
        refine ⟨_, bp, bs, rfl, hS.congr ?_ ?_ rfl, by omega, hbp, hbs, hF⟩
        · intro i hi
          rw [if_pos (by omega)]
        · intro i hi
          rw [if_pos (by omega)]
end Go.Proofs.Ymbrda
