/-
  A SLICE THAT CAME IN, OPENED: of integers, of structs of two or three integers.
-/
import Derived.Test.YmbrdaKit
import Derived.ProofKit
import Derived.ShutString
import Derived.ChangeOld
import Derived.Below
import Derived.Deep.Slices
import Derived.Deep.Strs
namespace Go.Proofs.Ymbrda
open Go.ChangeShapes Go.WideShapes Go.ChangeAt Go.RowKit
set_option linter.unusedSimpArgs false
set_option linter.unusedVariables false

/-- A slice of structs of two integers that can be read. -/
def Rd2 (k0 k1 : IntKind) (w : World) (a : Option Addr) (n : Nat) (f0 f1 : Nat → Int) : Prop :=
  ∀ i, i < n → ∃ b off, a = some ⟨b, off, none⟩ ∧ w.cell? ⟨b, off + i * 2, none⟩ = some (.int k0 (f0 i)) ∧ w.cell? ⟨b, off + i * 2 + 1, none⟩ = some (.int k1 (f1 i))

/-- A slice of structs of three integers that can be read. -/
def Rd3 (k0 k1 k2 : IntKind) (w : World) (a : Option Addr) (n : Nat) (f0 f1 f2 : Nat → Int) : Prop :=
  ∀ i, i < n → ∃ b off, a = some ⟨b, off, none⟩ ∧ w.cell? ⟨b, off + i * 3, none⟩ = some (.int k0 (f0 i)) ∧ w.cell? ⟨b, off + i * 3 + 1, none⟩ = some (.int k1 (f1 i)) ∧ w.cell? ⟨b, off + i * 3 + 2, none⟩ = some (.int k2 (f2 i))

theorem Fr.rd2 {l : List Nat} {w w' : World} (h : Fr l w w') {k0 k1 : IntKind} {a : Option Addr} {n : Nat} {f0 f1 : Nat → Int} (r : Rd2 k0 k1 w a n f0 f1) (hn : ∀ x, a = some x → x.block ∉ l) : Rd2 k0 k1 w' a n f0 f1 := by
  intro i hi
  obtain ⟨b, off, h1, h2, h3⟩ := r i hi
  refine ⟨b, off, h1, ?_, ?_⟩
  · rw [h.cell (World.block_lt_of_cell? _ _ h2) (hn ⟨b, off, none⟩ h1)]; exact h2
  · rw [h.cell (World.block_lt_of_cell? _ _ h3) (hn ⟨b, off, none⟩ h1)]; exact h3
theorem Fr.rd3 {l : List Nat} {w w' : World} (h : Fr l w w') {k0 k1 k2 : IntKind} {a : Option Addr} {n : Nat} {f0 f1 f2 : Nat → Int} (r : Rd3 k0 k1 k2 w a n f0 f1 f2) (hn : ∀ x, a = some x → x.block ∉ l) : Rd3 k0 k1 k2 w' a n f0 f1 f2 := by
  intro i hi
  obtain ⟨b, off, h1, h2, h3, h4⟩ := r i hi
  refine ⟨b, off, h1, ?_, ?_, ?_⟩
  · rw [h.cell (World.block_lt_of_cell? _ _ h2) (hn ⟨b, off, none⟩ h1)]; exact h2
  · rw [h.cell (World.block_lt_of_cell? _ _ h3) (hn ⟨b, off, none⟩ h1)]; exact h3
  · rw [h.cell (World.block_lt_of_cell? _ _ h4) (hn ⟨b, off, none⟩ h1)]; exact h4
theorem Fr.rd20 {w w' : World} (h : Fr [] w w') {k0 k1 : IntKind} {a : Option Addr} {n : Nat} {f0 f1 : Nat → Int} (r : Rd2 k0 k1 w a n f0 f1) : Rd2 k0 k1 w' a n f0 f1 := h.rd2 r fun _ _ => by simp
theorem Fr.rd30 {w w' : World} (h : Fr [] w w') {k0 k1 k2 : IntKind} {a : Option Addr} {n : Nat} {f0 f1 f2 : Nat → Int} (r : Rd3 k0 k1 k2 w a n f0 f1 f2) : Rd3 k0 k1 k2 w' a n f0 f1 f2 := h.rd3 r fun _ _ => by simp

theorem spot_none {w : World} {a : Addr} {v : Value} (h : w.cell? a = some v) : a.spot = none := by
  unfold World.cell? at h
  split at h
  · cases hs : a.spot with
    | none => rfl
    | some x => simp [hs] at h
  · cases h

theorem add_eq {a : Addr} (h : a.spot = none) (i : Nat) : a.add i = ⟨a.block, a.off + i, none⟩ := by
  unfold Addr.add
  by_cases hi : i = 0
  · subst hi; cases a; simp_all
  · simp [hi]

section
variable {H : Type} {enc : TypeId × Value → H} {P : Program} {w : World} {base : Nat} {spare : Nat → Bool} {held : Bool}

theorem cons_mk {t : TypeId} {ts : List TypeId} {v : Value} {vs : List Value} {d : DataW H} {ds : List (DataW H)} {p p' : List MemPlace} (h : DataW.Trod enc P w base spare held t v d p) (h' : DataW.TrodAll enc P w base spare held ts vs ds p') :
    DataW.TrodAll enc P w base spare held (t :: ts) (v :: vs) (d :: ds) (p ++ p') := ⟨p, p', h, h', rfl⟩

theorem rd_of_trod {t e : TypeId} {k : IntKind} {a : Option Addr} {len cap : Nat} {d : DataW H} {p : List MemPlace} (ht : P.underlying t = some (.slice e)) (he : P.underlying e = some (.int k)) (hc : P.cellsOf e = 1)
    (h : DataW.Trod enc P w base spare held t (.slice a len cap) d p) :
    ∃ z, Rd k w a len z ∧ len ≤ maxLen ∧ ∀ i, i < len → (Lit.int k (z i)).wf = true := by
  obtain ⟨fuel, hf⟩ := h
  rcases Go.Deep.open_slice1 ht hc hf with ⟨hcs, _⟩ | ⟨x, l, c, m, n, V, D, Pl, hcs, _, hl, hm, hmm, _, hx⟩
  · simp [Value.cells] at hcs
    obtain ⟨rfl, rfl, rfl⟩ := hcs
    exact ⟨fun _ => 0, fun i hi => absurd hi (Nat.not_lt_zero _), Nat.zero_le _, fun i hi => absurd hi (Nat.not_lt_zero _)⟩
  · simp [Value.cells] at hcs
    obtain ⟨rfl, rfl, rfl⟩ := hcs
    have hle : len ≤ m := by rw [hmm]; split <;> omega
    obtain ⟨z, hz⟩ := Go.Deep.choose_lt (α := Int) (n := len) (p := fun i z => w.cell? (x.add i) = some (.int k z) ∧ (Lit.int k z).wf = true) (fun i hi => by
      obtain ⟨h1, h2⟩ := hx i (by omega)
      obtain ⟨q, e1, _, e3⟩ := DataW.trod_int he h2
      simp at e1
      exact ⟨q, by rw [h1, e1], e3⟩)
    refine ⟨z, fun i hi => ?_, by omega, fun i hi => (hz i hi).2⟩
    have hs : x.spot = none := by
      have := (hz 0 (by omega)).1
      have := spot_none this
      simpa [Addr.add] using this
    refine ⟨x.block, x.off, ?_, ?_⟩
    · cases x; simp_all
    · rw [← add_eq hs]; exact (hz i hi).1

theorem rd2_of_trod {t e e0 e1 : TypeId} {k0 k1 : IntKind} {f0 f1 : Field} {a : Option Addr} {len cap : Nat} {d : DataW H} {p : List MemPlace} (ht : P.underlying t = some (.slice e)) (he : P.underlying e = some (.struct #[f0, f1])) (hc : P.cellsOf e = 2)
    (o0 : f0.offset = 0) (o1 : f1.offset = 1) (t0 : f0.type = e0) (t1 : f1.type = e1) (he0 : P.underlying e0 = some (.int k0)) (he1 : P.underlying e1 = some (.int k1)) (hc0 : P.cellsOf e0 = 1) (hc1 : P.cellsOf e1 = 1)
    (h : DataW.Trod enc P w base spare held t (.slice a len cap) d p) :
    ∃ z0 z1, Rd2 k0 k1 w a len z0 z1 ∧ len ≤ maxLen ∧ (∀ i, i < len → (Lit.int k0 (z0 i)).wf = true) ∧ (∀ i, i < len → (Lit.int k1 (z1 i)).wf = true) := by
  obtain ⟨fuel, hf⟩ := h
  rcases Go.Deep.open_slice ht hf with ⟨hcs, _⟩ | ⟨x, l, c, m, n, D, Pl, hcs, _, hl, hm, hmm, _, hx⟩
  · simp [Value.cells] at hcs
    obtain ⟨rfl, rfl, rfl⟩ := hcs
    exact ⟨fun _ => 0, fun _ => 0, fun i hi => absurd hi (Nat.not_lt_zero _), Nat.zero_le _, fun i hi => absurd hi (Nat.not_lt_zero _), fun i hi => absurd hi (Nat.not_lt_zero _)⟩
  · simp [Value.cells] at hcs
    obtain ⟨rfl, rfl, rfl⟩ := hcs
    have hle : len ≤ m := by rw [hmm]; split <;> omega
    rw [hc] at hx
    obtain ⟨z, hz⟩ := Go.Deep.choose_lt (α := Int × Int) (n := len) (p := fun i z => w.cell? (x.add (i * 2)) = some (.int k0 z.1) ∧ w.cell? ((x.add (i * 2)).add 1) = some (.int k1 z.2) ∧ (Lit.int k0 z.1).wf = true ∧ (Lit.int k1 z.2).wf = true) (fun i hi => by
      obtain ⟨cs', h1, h2⟩ := hx i (by omega)
      obtain ⟨_, hlen, hcell⟩ := World.cells?_some h1
      obtain ⟨y0, y1, m', _, _, g0, g1⟩ := trod_struct2 he h2
      match cs', hlen with
      | [c0, c1], _ =>
        rw [o0, t0, hc0] at g0
        rw [o1, t1, hc1] at g1
        obtain ⟨q0, a0, _, b0⟩ := DataW.trod_int he0 g0
        obtain ⟨q1, a1, _, b1⟩ := DataW.trod_int he1 g1
        simp at a0 a1
        subst a0 a1
        refine ⟨(q0, q1), ?_, ?_, b0, b1⟩
        · have := hcell 0 (by omega); simpa [Addr.add] using this
        · have := hcell 1 (by omega); simpa using this)
    have hs : 0 < len → x.spot = none := fun hn => by
      have := (hz 0 hn).1
      have := spot_none this
      simpa [Addr.add] using this
    refine ⟨fun i => (z i).1, fun i => (z i).2, fun i hi => ?_, by omega, fun i hi => (hz i hi).2.2.1, fun i hi => (hz i hi).2.2.2⟩
    have hs := hs (by omega)
    obtain ⟨g0, g1, _, _⟩ := hz i hi
    rw [add_eq hs] at g0 g1
    refine ⟨x.block, x.off, ?_, g0, ?_⟩
    · cases x; simp_all
    · rw [add_eq rfl] at g1; exact g1

theorem rd3_of_trod {t e e0 e1 e2 : TypeId} {k0 k1 k2 : IntKind} {f0 f1 f2 : Field} {a : Option Addr} {len cap : Nat} {d : DataW H} {p : List MemPlace} (ht : P.underlying t = some (.slice e)) (he : P.underlying e = some (.struct #[f0, f1, f2])) (hc : P.cellsOf e = 3)
    (o0 : f0.offset = 0) (o1 : f1.offset = 1) (o2 : f2.offset = 2) (t0 : f0.type = e0) (t1 : f1.type = e1) (t2 : f2.type = e2) (he0 : P.underlying e0 = some (.int k0)) (he1 : P.underlying e1 = some (.int k1)) (he2 : P.underlying e2 = some (.int k2))
    (hc0 : P.cellsOf e0 = 1) (hc1 : P.cellsOf e1 = 1) (hc2 : P.cellsOf e2 = 1)
    (h : DataW.Trod enc P w base spare held t (.slice a len cap) d p) :
    ∃ z0 z1 z2, Rd3 k0 k1 k2 w a len z0 z1 z2 ∧ len ≤ maxLen ∧ (∀ i, i < len → (Lit.int k0 (z0 i)).wf = true) ∧ (∀ i, i < len → (Lit.int k1 (z1 i)).wf = true) ∧ (∀ i, i < len → (Lit.int k2 (z2 i)).wf = true) := by
  obtain ⟨fuel, hf⟩ := h
  rcases Go.Deep.open_slice ht hf with ⟨hcs, _⟩ | ⟨x, l, c, m, n, D, Pl, hcs, _, hl, hm, hmm, _, hx⟩
  · simp [Value.cells] at hcs
    obtain ⟨rfl, rfl, rfl⟩ := hcs
    exact ⟨fun _ => 0, fun _ => 0, fun _ => 0, fun i hi => absurd hi (Nat.not_lt_zero _), Nat.zero_le _, fun i hi => absurd hi (Nat.not_lt_zero _), fun i hi => absurd hi (Nat.not_lt_zero _), fun i hi => absurd hi (Nat.not_lt_zero _)⟩
  · simp [Value.cells] at hcs
    obtain ⟨rfl, rfl, rfl⟩ := hcs
    have hle : len ≤ m := by rw [hmm]; split <;> omega
    rw [hc] at hx
    obtain ⟨z, hz⟩ := Go.Deep.choose_lt (α := Int × Int × Int) (n := len) (p := fun i z => (w.cell? (x.add (i * 3)) = some (.int k0 z.1) ∧ w.cell? ((x.add (i * 3)).add 1) = some (.int k1 z.2.1) ∧ w.cell? ((x.add (i * 3)).add 2) = some (.int k2 z.2.2)) ∧ (Lit.int k0 z.1).wf = true ∧ (Lit.int k1 z.2.1).wf = true ∧ (Lit.int k2 z.2.2).wf = true) (fun i hi => by
      obtain ⟨cs', h1, h2⟩ := hx i (by omega)
      obtain ⟨_, hlen, hcell⟩ := World.cells?_some h1
      obtain ⟨y0, y1, y2, m', _, _, g0, g1, g2⟩ := Go.Deep.trod_struct3 he h2
      match cs', hlen with
      | [c0, c1, c2], _ =>
        rw [o0, t0, hc0] at g0
        rw [o1, t1, hc1] at g1
        rw [o2, t2, hc2] at g2
        obtain ⟨q0, a0, _, b0⟩ := DataW.trod_int he0 g0
        obtain ⟨q1, a1, _, b1⟩ := DataW.trod_int he1 g1
        obtain ⟨q2, a2, _, b2⟩ := DataW.trod_int he2 g2
        simp at a0 a1 a2
        subst a0 a1 a2
        refine ⟨(q0, q1, q2), ⟨?_, ?_, ?_⟩, b0, b1, b2⟩
        · have := hcell 0 (by omega); simpa [Addr.add] using this
        · have := hcell 1 (by omega); simpa using this
        · have := hcell 2 (by omega); simpa using this)
    have hs : 0 < len → x.spot = none := fun hn => by
      have := (hz 0 hn).1.1
      have := spot_none this
      simpa [Addr.add] using this
    refine ⟨fun i => (z i).1, fun i => (z i).2.1, fun i => (z i).2.2, fun i hi => ?_, by omega, fun i hi => (hz i hi).2.1, fun i hi => (hz i hi).2.2.1, fun i hi => (hz i hi).2.2.2⟩
    have hs := hs (by omega)
    obtain ⟨⟨g0, g1, g2⟩, _, _⟩ := hz i hi
    rw [add_eq hs] at g0 g1 g2
    refine ⟨x.block, x.off, ?_, g0, ?_, ?_⟩
    · cases x; simp_all
    · rw [add_eq rfl] at g1; exact g1
    · rw [add_eq rfl] at g2; exact g2
end
theorem bd_u8 {a : Int} (h : (Lit.int .u8 a).wf = true) : 0 ≤ a ∧ a ≤ 255 := by
  have h1 : IntKind.u8.min = 0 := by decide
  have h2 : IntKind.u8.max = 255 := by decide
  unfold Lit.wf at h
  rw [Bool.and_eq_true, decide_eq_true_eq, decide_eq_true_eq, h1, h2] at h
  exact h
theorem bd_u16 {a : Int} (h : (Lit.int .u16 a).wf = true) : 0 ≤ a ∧ a ≤ 65535 := by
  have h1 : IntKind.u16.min = 0 := by decide
  have h2 : IntKind.u16.max = 65535 := by decide
  unfold Lit.wf at h
  rw [Bool.and_eq_true, decide_eq_true_eq, decide_eq_true_eq, h1, h2] at h
  exact h
theorem bd_u64 {a : Int} (h : (Lit.int .u64 a).wf = true) : 0 ≤ a ∧ a ≤ 18446744073709551615 := by
  have h1 : IntKind.u64.min = 0 := by decide
  have h2 : IntKind.u64.max = 18446744073709551615 := by decide
  unfold Lit.wf at h
  rw [Bool.and_eq_true, decide_eq_true_eq, decide_eq_true_eq, h1, h2] at h
  exact h
theorem bd_i64 {a : Int} (h : (Lit.int .i64 a).wf = true) : -9223372036854775808 ≤ a ∧ a ≤ 9223372036854775807 := by
  have h1 : IntKind.i64.min = -9223372036854775808 := by decide
  have h2 : IntKind.i64.max = 9223372036854775807 := by decide
  unfold Lit.wf at h
  rw [Bool.and_eq_true, decide_eq_true_eq, decide_eq_true_eq, h1, h2] at h
  exact h
#print axioms rd3_of_trod
end Go.Proofs.Ymbrda
