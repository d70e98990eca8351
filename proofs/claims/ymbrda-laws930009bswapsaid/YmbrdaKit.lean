/-
  WORLDS, BLOCKS AND FRAMES, in the words that the walks of this seat use. No program in sight.
-/
import Derived.WalkKit
import Derived.WalkSpells
import Derived.Deep.QuietTactic
namespace Go.Proofs.Ymbrda
open Go.RowKit
set_option linter.unusedSimpArgs false
set_option linter.unusedVariables false

/-- A fact kept from the walk. -/
theorem hide {p : Prop} (h : p) : Hid p := h

theorem emod_lo (a : Int) {n : Int} (hn : 0 < n) : 0 ≤ a % n := Int.emod_nonneg _ (by omega)
theorem emod_hi (a : Int) {n : Int} (hn : 0 < n) : a % n < n := Int.emod_lt_of_pos _ hn
theorem toNat_mod {a : Int} (h : 0 ≤ a) (n : Nat) : ((a.toNat % n : Nat) : Int) = a % (n : Int) := by
  obtain ⟨x, rfl⟩ := Int.eq_ofNat_of_zero_le h
  simp

/-- A number put into place i. -/
def upd {α : Type} (f : Nat → α) (i : Nat) (v : α) : Nat → α := fun j => if j = i then v else f j
theorem upd_same {α : Type} (f : Nat → α) (i : Nat) (v : α) : upd f i v i = v := by simp [upd]
theorem upd_ne {α : Type} (f : Nat → α) (i : Nat) (v : α) (j : Nat) (h : j ≠ i) : upd f i v j = f j := by simp [upd, h]

/-- n cells. -/
def rowV (n : Nat) (f : Nat → Value) : Array Value := (Array.range n).map f
theorem rowV_size (n : Nat) (f : Nat → Value) : (rowV n f).size = n := by simp [rowV]
theorem rowV_get (n : Nat) (f : Nat → Value) (i : Nat) (h : i < n) : (rowV n f)[i]? = some (f i) := by simp [rowV, h]
theorem rowV_set (n : Nat) (f : Nat → Value) (i : Nat) (v : Value) : (rowV n f).setIfInBounds i v = rowV n (upd f i v) := by
  apply Array.ext
  · simp [rowV]
  · intro j h1 h2
    simp [rowV] at h1 h2
    have hs : j < (rowV n f).size := by simp [rowV, h2]
    rw [Array.getElem_setIfInBounds hs]
    by_cases h : i = j
    · subst h; simp [rowV, upd]
    · have h' : j ≠ i := fun e => h e.symm
      simp [rowV, upd, h, h']
theorem rowV_congr (n : Nat) (f g : Nat → Value) (h : ∀ i, i < n → f i = g i) : rowV n f = rowV n g := by
  apply Array.ext
  · simp [rowV]
  · intro j h1 h2
    simp [rowV] at h2 ⊢
    exact h j h2

/-- n cells, each an int. -/
def row (n : Nat) (f : Nat → Int) : Array Value := rowV n fun i => .int .i64 (f i)

theorem row_set (n : Nat) (f : Nat → Int) (i : Nat) (v : Int) : (row n f).setIfInBounds i (.int .i64 v) = row n (upd f i v) := by
  unfold row
  rw [rowV_set]
  apply rowV_congr
  intro j _
  by_cases h : j = i
  · subst h; simp [upd]
  · simp [upd, h]

theorem madeCells_row (n : Nat) : madeCells #[.int .i64 0] n = row n fun _ => 0 := by
  apply Array.ext
  · simp [madeCells, row, rowV]
  · intro j h1 h2
    simp [madeCells, row, rowV, Nat.mod_one]

/-- Block b of the world holds n cells of element type t. -/
def BRow (w : World) (b : Nat) (t : TypeId) (n : Nat) (f : Nat → Value) : Prop := w.heap[b]? = some (.cells (rowV n f) t (0, 0))

/-- Block b of the world holds n ints. -/
def ARow (w : World) (b n : Nat) (f : Nat → Int) : Prop := BRow w b 3 n fun i => .int .i64 (f i)

section
variable {w w' : World} {b n : Nat} {t : TypeId}

theorem BRow.lt {f : Nat → Value} (h : BRow w b t n f) : b < w.heap.size := by
  rcases Nat.lt_or_ge b w.heap.size with h' | h'
  · exact h'
  · unfold BRow at h; rw [Array.getElem?_eq_none h'] at h; cases h

theorem BRow.cell {f : Nat → Value} (h : BRow w b t n f) (i : Nat) (hi : i < n) : w.cell? ⟨b, i, none⟩ = some (f i) := by
  unfold BRow at h
  simp [World.cell?, h, rowV_get n f i hi]

theorem BRow.frozen {f : Nat → Value} (h : BRow w b t n f) (i : Nat) : w.frozen? ⟨b, i, none⟩ = false := by
  unfold BRow at h
  simp [World.frozen?, h]

theorem BRow.set {f : Nat → Value} (h : BRow w b t n f) (i : Nat) (v : Value) : BRow (w.setCell ⟨b, i, none⟩ v) b t n (upd f i v) := by
  unfold BRow at h ⊢
  simp [World.setCell, Array.getElem?_modify, h, rowV_set]

theorem BRow.of_block {f : Nat → Value} (h : BRow w b t n f) (e : w'.heap[b]? = w.heap[b]?) : BRow w' b t n f := by
  unfold BRow at h ⊢; rw [e]; exact h

theorem BRow.set_ne {f : Nat → Value} (h : BRow w b t n f) (a : Addr) (ha : a.block ≠ b) (v : Value) : BRow (w.setCell a v) b t n f :=
  h.of_block (Below.heap_setCell _ _ _ _ (Ne.symm ha))

theorem BRow.drew {f : Nat → Value} (h : BRow w b t n f) : BRow w.drew b t n f := h

theorem BRow.alloc {f : Nat → Value} (h : BRow w b t n f) (o : Obj) : BRow (w.alloc o) b t n f :=
  h.of_block (Below.heap_alloc _ _ _ h.lt)

theorem BRow.congr {f g : Nat → Value} (h : BRow w b t n f) (e : ∀ i, i < n → f i = g i) : BRow w b t n g := by
  unfold BRow at h ⊢; rw [← rowV_congr n f g e]; exact h

theorem BRow.new (w : World) (t : TypeId) (n : Nat) (f : Nat → Value) : BRow (w.alloc (.cells (rowV n f) t)) w.heap.size t n f := by
  unfold BRow
  show (w.heap.push _)[w.heap.size]? = _
  simp

theorem ARow.lt {f : Nat → Int} (h : ARow w b n f) : b < w.heap.size := BRow.lt h
theorem ARow.cell {f : Nat → Int} (h : ARow w b n f) (i : Nat) (hi : i < n) : w.cell? ⟨b, i, none⟩ = some (.int .i64 (f i)) := BRow.cell h i hi
theorem ARow.frozen {f : Nat → Int} (h : ARow w b n f) (i : Nat) : w.frozen? ⟨b, i, none⟩ = false := BRow.frozen h i
theorem ARow.congr {f g : Nat → Int} (h : ARow w b n f) (e : ∀ i, i < n → f i = g i) : ARow w b n g := BRow.congr h fun i hi => by rw [e i hi]
theorem ARow.set {f : Nat → Int} (h : ARow w b n f) (i : Nat) (v : Int) : ARow (w.setCell ⟨b, i, none⟩ (.int .i64 v)) b n (upd f i v) := by
  refine BRow.congr (BRow.set h i _) ?_
  intro j _
  by_cases e : j = i
  · subst e; simp [upd]
  · simp [upd, e]
theorem ARow.set_to {f g : Nat → Int} (h : ARow w b n f) (i : Nat) (v : Int) (e : ∀ j, j < n → (if j = i then v else f j) = g j) : ARow (w.setCell ⟨b, i, none⟩ (.int .i64 v)) b n g :=
  (h.set i v).congr e
theorem ARow.of_block {f : Nat → Int} (h : ARow w b n f) (e : w'.heap[b]? = w.heap[b]?) : ARow w' b n f := BRow.of_block h e
theorem ARow.set_ne {f : Nat → Int} (h : ARow w b n f) (a : Addr) (ha : a.block ≠ b) (v : Value) : ARow (w.setCell a v) b n f := BRow.set_ne h a ha v
theorem ARow.drew {f : Nat → Int} (h : ARow w b n f) : ARow w.drew b n f := h
theorem ARow.drewN {f : Nat → Int} (h : ARow w b n f) (k : Nat) : ARow (w.drewN k) b n f := h
theorem cell_drewN {a : Addr} {v : Option Value} (h : w.cell? a = v) (k : Nat) : (w.drewN k).cell? a = v := h
theorem ARow.alloc {f : Nat → Int} (h : ARow w b n f) (o : Obj) : ARow (w.alloc o) b n f := BRow.alloc h o
theorem ARow.new (w : World) (n : Nat) (f : Nat → Int) : ARow (w.alloc (.cells (row n f) 3)) w.heap.size n f := BRow.new w 3 n _
end

/-- A slice that can be read: its first n cells hold the numbers f 0, f 1, .. -/
def Rd (k : IntKind) (w : World) (a : Option Addr) (n : Nat) (f : Nat → Int) : Prop :=
  ∀ i, i < n → ∃ b off, a = some ⟨b, off, none⟩ ∧ w.cell? ⟨b, off + i, none⟩ = some (.int k (f i))

theorem ARow.rd {w : World} {b n : Nat} {f : Nat → Int} (h : ARow w b n f) : Rd .i64 w (some ⟨b, 0, none⟩) n f :=
  fun i hi => ⟨b, 0, rfl, by rw [Nat.zero_add]; exact h.cell i hi⟩

theorem ARow.rd_le {w : World} {b n : Nat} {f : Nat → Int} (h : ARow w b n f) (m : Nat) (hm : m ≤ n) : Rd .i64 w (some ⟨b, 0, none⟩) m f :=
  fun i hi => ⟨b, 0, rfl, by rw [Nat.zero_add]; exact h.cell i (by omega)⟩

theorem Rd.congr {k : IntKind} {w : World} {a : Option Addr} {n : Nat} {f g : Nat → Int} (h : Rd k w a n f) (e : ∀ i, i < n → f i = g i) : Rd k w a n g := by
  intro i hi
  obtain ⟨b, off, h1, h2⟩ := h i hi
  exact ⟨b, off, h1, by rw [h2, e i hi]⟩

theorem Rd.at {k : IntKind} {w : World} {a : Option Addr} {n : Nat} {f : Nat → Int} (h : Rd k w a n f) (hn : 0 < n) :
    ∃ b off, a = some ⟨b, off, none⟩ ∧ ∀ i, i < n → w.cell? ⟨b, off + i, none⟩ = some (.int k (f i)) := by
  obtain ⟨b, off, h1, _⟩ := h 0 hn
  refine ⟨b, off, h1, fun i hi => ?_⟩
  obtain ⟨b', off', h1', h2'⟩ := h i hi
  rw [h1] at h1'
  cases h1'
  exact h2'

/-- The world w' is w with new blocks, and with writes to the blocks of l alone. -/
structure Fr (l : List Nat) (w w' : World) : Prop where
  os : w'.os = w.os
  tape : w'.tape = w.tape
  output : w'.output = w.output
  size : w.heap.size ≤ w'.heap.size
  block : ∀ k, k < w.heap.size → k ∉ l → w'.heap[k]? = w.heap[k]?

theorem Fr.refl (l : List Nat) (w : World) : Fr l w w := ⟨rfl, rfl, rfl, Nat.le_refl _, fun _ _ _ => rfl⟩

theorem Fr.trans' {l l' : List Nat} {a b c : World} (h : Fr l a b) (k : Fr l' b c) (hl : ∀ x, x ∈ l' → x < a.heap.size → x ∈ l) : Fr l a c :=
  ⟨k.os.trans h.os, k.tape.trans h.tape, k.output.trans h.output, Nat.le_trans h.size k.size,
    fun i hi hn => (k.block i (Nat.lt_of_lt_of_le hi h.size) (fun hm => hn (hl i hm hi))).trans (h.block i hi hn)⟩

theorem Fr.trans {l : List Nat} {a b c : World} (h : Fr l a b) (k : Fr l b c) : Fr l a c := h.trans' k fun _ hx _ => hx
theorem Fr.trans0 {l : List Nat} {a b c : World} (h : Fr l a b) (k : Fr [] b c) : Fr l a c := h.trans' k fun x hx _ => by cases hx

theorem Fr.mono {l l' : List Nat} {a b : World} (h : Fr l a b) (hl : ∀ x, x ∈ l → x < a.heap.size → x ∈ l') : Fr l' a b :=
  ⟨h.os, h.tape, h.output, h.size, fun i hi hn => h.block i hi (fun hm => hn (hl i hm hi))⟩

theorem Fr.drew {l : List Nat} {a w : World} (h : Fr l a w) : Fr l a w.drew := ⟨h.os, h.tape, h.output, h.size, h.block⟩
theorem Fr.drewN {l : List Nat} {a w : World} (h : Fr l a w) (n : Nat) : Fr l a (w.drewN n) := by
  refine h.trans0 ⟨rfl, rfl, rfl, Nat.le_refl _, fun _ _ _ => rfl⟩

theorem Fr.alloc {l : List Nat} {a w : World} (h : Fr l a w) (o : Obj) : Fr l a (w.alloc o) :=
  h.trans0 ⟨rfl, rfl, rfl, by simp, fun k hk _ => Below.heap_alloc _ _ _ hk⟩

theorem Fr.setCell {l : List Nat} {a w : World} (h : Fr l a w) (p : Addr) (hp : p.block ∈ l ∨ a.heap.size ≤ p.block) (u : Value) : Fr l a (w.setCell p u) := by
  refine h.trans' (l' := [p.block]) ⟨rfl, rfl, rfl, by simp, fun k hk hn => Below.heap_setCell _ _ _ _ (by simpa using hn)⟩ ?_
  intro x hx hlt
  simp at hx
  subst hx
  rcases hp with hp | hp
  · exact hp
  · omega

theorem Fr.below {w w' : World} (h : Fr [] w w') : Below w.heap.size w w' :=
  ⟨h.os, h.tape, h.output, h.size, fun k hk => h.block k hk (by simp)⟩

theorem Fr.cell {l : List Nat} {w w' : World} (h : Fr l w w') {p : Addr} (hp : p.block < w.heap.size) (hn : p.block ∉ l) : w'.cell? p = w.cell? p := World.cell?_of_block (w := w) (h.block p.block hp hn)

theorem Fr.bRow {l : List Nat} {w w' : World} (h : Fr l w w') {b n : Nat} {t : TypeId} {f : Nat → Value} (r : BRow w b t n f) (hn : b ∉ l) : BRow w' b t n f :=
  r.of_block (h.block b r.lt hn)
theorem Fr.aRow {l : List Nat} {w w' : World} (h : Fr l w w') {b n : Nat} {f : Nat → Int} (r : ARow w b n f) (hn : b ∉ l) : ARow w' b n f :=
  r.of_block (h.block b r.lt hn)
theorem Fr.rd {l : List Nat} {w w' : World} (h : Fr l w w') {k : IntKind} {a : Option Addr} {n : Nat} {f : Nat → Int} (r : Rd k w a n f) (hn : ∀ x, a = some x → x.block ∉ l) : Rd k w' a n f := by
  intro i hi
  obtain ⟨b, off, h1, h2⟩ := r i hi
  refine ⟨b, off, h1, ?_⟩
  rw [h.cell (World.block_lt_of_cell? _ _ h2) (hn ⟨b, off, none⟩ h1)]
  exact h2
theorem Fr.rd0 {w w' : World} (h : Fr [] w w') {k : IntKind} {a : Option Addr} {n : Nat} {f : Nat → Int} (r : Rd k w a n f) : Rd k w' a n f := h.rd r fun _ _ => by simp

/-- A slice that came in is told by a function. -/
theorem Rd.below {w : World} {k : IntKind} {a : Option Addr} {n : Nat} {f : Nat → Int} (r : Rd k w a n f) : ∀ x, 0 < n → a = some x → x.block < w.heap.size := by
  intro x hn hx
  obtain ⟨b, off, h1, h2⟩ := r.at hn
  rw [h1] at hx
  cases hx
  exact World.block_lt_of_cell? _ _ (h2 0 hn)

#print axioms Fr.rd
end Go.Proofs.Ymbrda
