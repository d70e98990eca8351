/-
  zzs930009dforest.
-/
import Derived.Test.YmbrdaKit2
namespace Go.Proofs.Ymbrda
open Go.RowKit
set_option linter.unusedSimpArgs false
set_option linter.unusedVariables false

/-- The element at or before i on which i hangs. -/
def dp (z : Nat → Int) (i : Nat) : Nat := i - (z i).toNat % (i + 1)
theorem dp_le (z : Nat → Int) (i : Nat) : dp z i ≤ i := by unfold dp; omega
theorem dforest_forest (n : Nat) (z : Nat → Int) : Forest n (dp z) (fun x => x) := by
  refine ⟨?_, fun x hx => hx, ?_⟩
  · intro x hx; have := dp_le z x; omega
  · intro x hx hne; have := dp_le z x; show dp z x < x; omega

set_option maxHeartbeats 1000000 in
theorem dforest_any (m cap : Nat) (a : Option Addr) (z : Nat → Int) (w : World) (r : Rd .u8 w a m z) (hm : m ≤ 1024) (hz : ∀ i, i < m → (Lit.int .u8 (z i)).wf = true) :
    Calls Ydam.prog 33 #[.slice a m cap] w fun e w' => ∃ b bp bs c, e = .returned (.pointer (some ⟨b, 0, none⟩)) ∧
      SetsAt w' b bp bs m (fun i => (dp z i : Int)) (fun i => (i : Int) + 1) c ∧ w.heap.size ≤ b ∧ w.heap.size ≤ bp ∧ w.heap.size ≤ bs ∧ Fr [] w w' := by
  have hmk := mk m (by omega)
  go_enter Ydam.func33, Ydam.ntmps33
  go_wp2_with fail
  go_region
  all_goals go_wp2_with fail
  all_goals
    go_loopw [5] (fun v wr => ∃ (k bp bs : Nat) (c : Int), k ≤ m ∧ v = .int .i64 k ∧ SetsAt wr (w.heap.size + 1 + 1) bp bs m (fil k (fun i => (dp z i : Int)) fun _ => 0) (fil k (fun i => (i : Int) + 1) fun _ => 0) c ∧ 0 ≤ c ∧ c ≤ k ∧ w.heap.size ≤ bp ∧ w.heap.size ≤ bs ∧ Fr [] w wr) (fun v _ => m - (intOf v).toNat)
    case atStart =>
      have r1 := ARow.new w m fun _ => 0
      have r2 := ARow.new (w.alloc (.cells (row m fun _ => 0) 3)) m fun _ => 0
      have r1' := r1.alloc (.cells (row m fun _ => 0) 3)
      simp only [World.size_alloc] at r2
      have hF : Fr [] w ((w.alloc (.cells (row m fun _ => 0) 3)).alloc (.cells (row m fun _ => 0) 3)) := ((Fr.refl _ _).alloc _).alloc _
      have e1 := ((SetsAt.box r1' r2 (by omega) 0 (w.heap.size + 1 + 1) (by simp)).congr (p' := fil 0 (fun i => (dp z i : Int)) fun _ => 0) (s' := fil 0 (fun i => (i : Int) + 1) fun _ => 0) (by simp [fil]) (by simp [fil]) rfl).drew
      have e2 := ((SetsAt.box r2 r1' (by omega) 0 (w.heap.size + 1 + 1) (by simp)).congr (p' := fil 0 (fun i => (dp z i : Int)) fun _ => 0) (s' := fil 0 (fun i => (i : Int) + 1) fun _ => 0) (by simp [fil]) (by simp [fil]) rfl).drew
      first
        | exact ⟨0, w.heap.size, w.heap.size + 1, 0, Nat.zero_le _, rfl, e1, Int.le_refl _, Int.le_refl _, Nat.le_refl _, Nat.le_succ _, (hF.alloc _).drew⟩
        | exact ⟨0, w.heap.size + 1, w.heap.size, 0, Nat.zero_le _, rfl, e2, Int.le_refl _, Int.le_refl _, Nat.le_succ _, Nat.le_refl _, (hF.alloc _).drew⟩
    case round =>
      obtain ⟨k, bp, bs, c, hk, rfl, hS, hc0, hck, hbp, hbs, hF⟩ := hrel
      by_cases hlt : k < m
      · obtain ⟨b1, off, rfl, hc⟩ := r.at (by omega)
        obtain ⟨b1', off', hae, cz⟩ := (hF.rd0 r) k (by omega)
        cases hae
        clear hc
        have bz := bd_u8 (hz k (by omega))
        have q0 : 0 ≤ z k % ((k : Int) + 1) := emod_lo _ (by omega)
        have q1 : z k % ((k : Int) + 1) < (k : Int) + 1 := emod_hi _ (by omega)
        have q2 : (k : Int) - z k % ((k : Int) + 1) = (dp z k : Int) := by
          have e := toNat_mod bz.1 (k + 1)
          rw [show (((k + 1 : Nat)) : Int) = (k : Int) + 1 from by omega] at e
          unfold dp
          omega
        have Q2 := hide q2
        clear q2
        have hdk := dp_le z k
        have c0 := hS.c0
        have c1 := hS.c1
        have c2 := hS.c2
        have f2 := hS.frozen 2
        have cp := hS.hp.cell k hlt
        have cs := hS.hs.cell k hlt
        have fp := hS.hp.frozen k
        have fs := hS.hs.frozen k
        have n1 := hS.nep
        have n2 := hS.nes
        have n3 := hS.ne
        go_upto_region 7 with fail
        rw [Q2.out]
        by_cases ek : dp z k = k
        · have ee : ((dp z k : Int) == (k : Int)) = true := by simp; omega
          have Ek := hide ek
          clear ek
          go_wp2_with fail
          go_roundw
          case rel =>
            refine ⟨k + 1, bp, bs, c + 1, by omega, by go_num, ((((hS.setP k (dp z k)).setS k ((k : Int) + 1)).setC (c + 1))).congr ?_ ?_ rfl, by omega, by omega, hbp, hbs, ((hF.setCell _ (.inr hbp) _).setCell _ (.inr hbs) _).setCell _ (.inr (by simp; omega)) _⟩
            · intro i hi; exact fil_step _ _ _ _ rfl i
            · intro i hi; exact fil_step _ _ _ _ rfl i
          case measure => simp [intOf]; omega
        · have ee : ((dp z k : Int) == (k : Int)) = false := by simp; omega
          go_wp2_with fail
          go_roundw
          case rel =>
            refine ⟨k + 1, bp, bs, c, by omega, by go_num, (((hS.setP k (dp z k)).setS k ((k : Int) + 1))).congr ?_ ?_ rfl, by omega, by omega, hbp, hbs, (hF.setCell _ (.inr hbp) _).setCell _ (.inr hbs) _⟩
            · intro i hi; exact fil_step _ _ _ _ rfl i
            · intro i hi; exact fil_step _ _ _ _ rfl i
          case measure => simp [intOf]; omega
      · go_wp2_with fail
        go_ret
        refine ⟨_, rfl, bp, bs, ⟨c, hS.congr ?_ ?_ rfl⟩, by omega, hbp, hbs, hF⟩
        · intro i hi
          exact fil_lt _ _ (by omega)
        · intro i hi
          exact fil_lt _ _ (by omega)

theorem mkb (n : Nat) (h : n ≤ 1048576) (w : World) : (Instr.makeSlice 66 (.int .i64 n) (.int .i64 n)).run Ydam.prog w = .ok (.slice (some ⟨w.heap.size, 0, none⟩) n n) (w.alloc (.cells (rowV n fun _ => .bool false) 4)) := by
  have := run_make_row' (P := Ydam.prog) 66 4 (.bool false) 1 Ydam.underlying66 (by kernel_rfl) rfl .i64 .i64 n (by omega) (by omega) w
  rw [this]
  congr 3
  apply Array.ext
  · simp [madeCells, rowV]
  · intro j h1 h2
    simp [madeCells, rowV, Nat.mod_one]

/-- Marking x and all above it, from x downward: all above i is done, the least marked place above i is ρ. -/
structure Mk (n : Nat) (p : Nat → Nat) (x : Nat) (i : Int) (ρ : Nat) (on : Nat → Bool) : Prop where
  sub : ∀ j, j < n → on j = true → On p x j
  self : on x = true
  cl : ∀ j, j < n → i < (j : Int) → on j = true → on (p j) = true
  mem : On p x ρ
  lst : ∀ j, j < n → i < (j : Int) → on j = true → ρ ≤ j

theorem On.le {p : Nat → Nat} (hle : ∀ i, p i ≤ i) {x y : Nat} (h : On p x y) : y ≤ x := by
  obtain ⟨k, rfl⟩ := h
  induction k generalizing x with
  | zero => exact Nat.le_refl _
  | succ k ih => have := ih (x := p x); have := hle x; show it p k (p x) ≤ x; omega

theorem Mk.start {n : Nat} {p : Nat → Nat} {x : Nat} (hle : ∀ i, p i ≤ i) : Mk n p x x x (upd (fun _ => false) x true) := by
  refine ⟨?_, upd_same _ _ _, ?_, ⟨0, rfl⟩, ?_⟩
  · intro j _ h
    by_cases e : j = x
    · subst e; exact ⟨0, rfl⟩
    · rw [upd_ne _ _ _ _ e] at h; cases h
  · intro j _ h1 h
    rw [upd_ne _ _ _ _ (by omega)] at h; cases h
  · intro j _ h1 h
    rw [upd_ne _ _ _ _ (by omega)] at h; cases h

theorem Mk.skip {n : Nat} {p : Nat → Nat} {x k ρ : Nat} {on : Nat → Bool} (h : Mk n p x k ρ on) (e : on k = false) : Mk n p x ((k : Int) - 1) ρ on := by
  refine ⟨h.sub, h.self, ?_, h.mem, ?_⟩
  · intro j hj h1 h2
    by_cases e1 : j = k
    · subst e1; rw [e] at h2; cases h2
    · exact h.cl j hj (by omega) h2
  · intro j hj h1 h2
    by_cases e1 : j = k
    · subst e1; rw [e] at h2; cases h2
    · exact h.lst j hj (by omega) h2

theorem Mk.mark {n : Nat} {p : Nat → Nat} {x k ρ : Nat} {on : Nat → Bool} (hle : ∀ i, p i ≤ i) (hk : k < n) (h : Mk n p x k ρ on) (e : on k = true) : Mk n p x ((k : Int) - 1) k (upd on (p k) true) := by
  have hon : ∀ j, upd on (p k) true j = true ↔ (j = p k ∨ on j = true) := by
    intro j; unfold upd; split <;> simp_all
  refine ⟨?_, ?_, ?_, h.sub k hk e, ?_⟩
  · intro j hj h2
    rcases (hon j).1 h2 with e1 | e1
    · obtain ⟨m, hm⟩ := h.sub k hk e
      exact ⟨m + 1, by rw [it_succ, hm, e1]⟩
    · exact h.sub j hj e1
  · exact (hon x).2 (Or.inr h.self)
  · intro j hj h1 h2
    rw [hon]
    by_cases e1 : j = k
    · subst e1; exact Or.inl rfl
    · have hle' := hle k
      rcases (hon j).1 h2 with e2 | e2
      · omega
      · exact Or.inr (h.cl j hj (by omega) e2)
  · intro j hj h1 h2
    by_cases e1 : j = k
    · omega
    · have hle' := hle k
      omega

theorem Mk.done {n : Nat} {p μ : Nat → Nat} {x ρ : Nat} {on : Nat → Bool} (hle : ∀ i, p i ≤ i) (F : Forest n p μ) (hx : x < n) (h : Mk n p x (-1) ρ on) : (∀ j, j < n → (on j = true ↔ On p x j)) ∧ ρ = rt n p x := by
  have hall : ∀ k, on (it p k x) = true := by
    intro k
    induction k with
    | zero => exact h.self
    | succ k ih => rw [it_succ]; exact h.cl _ (F.it_lt k x hx) (by omega) ih
  refine ⟨fun j hj => ⟨h.sub j hj, fun ⟨k, e⟩ => by rw [← e]; exact hall k⟩, ?_⟩
  have h1 : ρ ≤ rt n p x := h.lst _ (F.rt_lt x hx) (by omega) (hall n)
  obtain ⟨m, hm⟩ := h.mem
  have h2 : rt n p x ≤ ρ := by
    have : On p ρ (rt n p ρ) := ⟨n, rfl⟩
    have h3 := On.le hle this
    rw [← hm, F.rt_it m x hx, hm] at h3
    exact h3
  omega
end Go.Proofs.Ymbrda
