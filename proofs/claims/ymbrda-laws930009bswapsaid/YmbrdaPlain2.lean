/-
  PLAIN MATHEMATICS, MORE: the least index; labels; partitions told by a function; merging.
-/
import Derived.Test.YmbrdaPlain
namespace Go.Proofs.Ymbrda
set_option linter.unusedSimpArgs false
set_option linter.unusedVariables false

/-- The least i < k with f i; k if there is none. -/
def lst (f : Nat → Bool) : Nat → Nat
  | 0 => 0
  | k + 1 => if lst f k < k then lst f k else if f k then k else k + 1

theorem lst_le (f : Nat → Bool) (k : Nat) : lst f k ≤ k := by
  induction k with
  | zero => exact Nat.le_refl _
  | succ k ih => simp only [lst]; split
                 · omega
                 · split <;> omega

theorem lst_spec (f : Nat → Bool) (k : Nat) (h : lst f k < k) : f (lst f k) = true := by
  induction k with
  | zero => omega
  | succ k ih =>
    simp only [lst] at h ⊢
    by_cases h1 : lst f k < k
    · rw [if_pos h1] at h ⊢; exact ih h1
    · rw [if_neg h1] at h ⊢
      by_cases h2 : f k = true
      · rw [if_pos h2]; exact h2
      · rw [if_neg h2] at h; omega

theorem lst_min (f : Nat → Bool) (k i : Nat) (hi : i < lst f k) : f i = false := by
  induction k with
  | zero => simp [lst] at hi
  | succ k ih =>
    simp only [lst] at hi
    by_cases h1 : lst f k < k
    · rw [if_pos h1] at hi; exact ih hi
    · rw [if_neg h1] at hi
      have h3 := lst_le f k
      have h4 : lst f k = k := by omega
      by_cases h2 : f k = true
      · rw [if_pos h2] at hi; exact ih (by omega)
      · rw [if_neg h2] at hi
        by_cases e : i = k
        · subst e; simpa using h2
        · exact ih (by omega)

theorem lst_eq {f : Nat → Bool} {k i : Nat} (hi : i < k) (h : f i = true) (hm : ∀ j, j < i → f j = false) : lst f k = i := by
  rcases Nat.lt_trichotomy (lst f k) i with h1 | h1 | h1
  · have := lst_spec f k (by omega)
    rw [hm _ h1] at this
    cases this
  · exact h1
  · have := lst_min f k i h1
    rw [h] at this
    cases this

theorem lst_none {f : Nat → Bool} {k : Nat} (h : ∀ j, j < k → f j = false) : lst f k = k := by
  have h1 := lst_le f k
  rcases Nat.lt_or_ge (lst f k) k with h2 | h2
  · have := lst_spec f k h2
    rw [h _ h2] at this
    cases this
  · omega

theorem lst_lt {f : Nat → Bool} {k i : Nat} (hi : i < k) (h : f i = true) : lst f k ≤ i := by
  rcases Nat.lt_or_ge i (lst f k) with h2 | h2
  · have := lst_min f k i h2
    rw [h] at this
    cases this
  · exact h2

/-- The least element with the value of i: its label. -/
def lab (R : Nat → Nat) (i : Nat) : Nat := lst (fun y => R y == R i) i

theorem lab_le (R : Nat → Nat) (i : Nat) : lab R i ≤ i := lst_le _ _

theorem lab_val (R : Nat → Nat) (i : Nat) : R (lab R i) = R i := by
  unfold lab
  rcases Nat.lt_or_ge (lst (fun y => R y == R i) i) i with h | h
  · simpa using lst_spec _ _ h
  · have := lst_le (fun y => R y == R i) i
    have e : lst (fun y => R y == R i) i = i := by omega
    rw [e]

theorem lab_min (R : Nat → Nat) (i j : Nat) (h : R j = R i) : lab R i ≤ j := by
  rcases Nat.lt_or_ge j i with h1 | h1
  · exact lst_lt h1 (by simpa using h)
  · have := lab_le R i; omega

theorem lab_eq_iff (R : Nat → Nat) (i j : Nat) : lab R i = lab R j ↔ R i = R j := by
  constructor
  · intro h; rw [← lab_val R i, h, lab_val R j]
  · intro h
    have h1 := lab_min R i (lab R j) (by rw [lab_val R j, h])
    have h2 := lab_min R j (lab R i) (by rw [lab_val R i, h])
    omega

/-- Whatever has R's value and is least is the label. -/
theorem lab_uniq (R : Nat → Nat) (i l : Nat) (h1 : R l = R i) (h2 : ∀ j, R j = R i → j < l → False) : lab R i = l := by
  have h3 := lab_min R i l h1
  rcases Nat.lt_or_ge (lab R i) l with h4 | h4
  · exact absurd (h2 _ (lab_val R i) h4) id
  · omega

/-! ### Partitions told by a function -/

/-- Two functions put the same elements together. -/
def SameKer (n : Nat) (R L : Nat → Nat) : Prop := ∀ x y, x < n → y < n → (R x = R y ↔ L x = L y)

theorem SameKer.refl (n : Nat) (R : Nat → Nat) : SameKer n R R := fun _ _ _ _ => Iff.rfl
theorem SameKer.symm {n : Nat} {R L : Nat → Nat} (h : SameKer n R L) : SameKer n L R := fun x y hx hy => (h x y hx hy).symm
theorem SameKer.trans {n : Nat} {R L M : Nat → Nat} (h : SameKer n R L) (k : SameKer n L M) : SameKer n R M := fun x y hx hy => (h x y hx hy).trans (k x y hx hy)
theorem SameKer.of_eq {n : Nat} {R L : Nat → Nat} (h : ∀ x, x < n → R x = L x) : SameKer n R L := fun x y hx hy => by rw [h x hx, h y hy]

theorem SameKer.lab {n : Nat} {R L : Nat → Nat} (h : SameKer n R L) (i : Nat) (hi : i < n) : lab R i = lab L i := by
  have h1 := lab_le R i
  have h2 := lab_le L i
  have a := lab_min L i (Go.Proofs.Ymbrda.lab R i) ((h _ _ (by omega) hi).1 (lab_val R i))
  have b := lab_min R i (Go.Proofs.Ymbrda.lab L i) ((h _ _ (by omega) hi).2 (lab_val L i))
  omega

/-- R' is R with the classes of a and b made one. -/
def Merge (n : Nat) (R : Nat → Nat) (a b : Nat) (R' : Nat → Nat) : Prop :=
  ∀ x y, x < n → y < n → (R' x = R' y ↔ (R x = R y ∨ ((R x = R a ∨ R x = R b) ∧ (R y = R a ∨ R y = R b))))

theorem Merge.same {n : Nat} {R L R' L' : Nat → Nat} {a b : Nat} (ha : a < n) (hb : b < n) (h : SameKer n R L) (m1 : Merge n R a b R') (m2 : Merge n L a b L') : SameKer n R' L' := by
  intro x y hx hy
  rw [m1 x y hx hy, m2 x y hx hy, h x y hx hy, h x a hx ha, h x b hx hb, h y a hy ha, h y b hy hb]

/-- Renaming one of two classes to the other merges them. -/
theorem merge_rename {n : Nat} {R R' : Nat → Nat} {a b win lose : Nat} (h : (win = R a ∧ lose = R b) ∨ (win = R b ∧ lose = R a)) (hR : ∀ x, x < n → R' x = if R x = lose then win else R x) : Merge n R a b R' := by
  intro x y hx hy
  rw [hR x hx, hR y hy]
  rcases h with ⟨rfl, rfl⟩ | ⟨rfl, rfl⟩
  · by_cases h1 : R x = R b
    · rw [if_pos h1]
      by_cases h2 : R y = R b
      · rw [if_pos h2]; simp [h1, h2]
      · rw [if_neg h2]
        constructor
        · intro e; right; exact ⟨Or.inr h1, Or.inl e.symm⟩
        · rintro (e | ⟨_, e | e⟩)
          · exact absurd (e ▸ h1) h2
          · exact e.symm
          · exact absurd e h2
    · rw [if_neg h1]
      by_cases h2 : R y = R b
      · rw [if_pos h2]
        constructor
        · intro e; right; exact ⟨Or.inl e, Or.inr h2⟩
        · rintro (e | ⟨e | e, _⟩)
          · exact absurd (e.trans h2) h1
          · exact e
          · exact absurd e h1
      · rw [if_neg h2]
        constructor
        · intro e; exact Or.inl e
        · rintro (e | ⟨e | e, e' | e'⟩)
          · exact e
          · exact e.trans e'.symm
          · exact absurd e' h2
          · exact absurd e h1
          · exact absurd e h1
  · by_cases h1 : R x = R a
    · rw [if_pos h1]
      by_cases h2 : R y = R a
      · rw [if_pos h2]; simp [h1, h2]
      · rw [if_neg h2]
        constructor
        · intro e; right; exact ⟨Or.inl h1, Or.inr e.symm⟩
        · rintro (e | ⟨_, e | e⟩)
          · exact absurd (e ▸ h1) h2
          · exact absurd e h2
          · exact e.symm
    · rw [if_neg h1]
      by_cases h2 : R y = R a
      · rw [if_pos h2]
        constructor
        · intro e; right; exact ⟨Or.inr e, Or.inl h2⟩
        · rintro (e | ⟨e | e, _⟩)
          · exact absurd (e.trans h2) h1
          · exact absurd e h1
          · exact e
      · rw [if_neg h2]
        constructor
        · intro e; exact Or.inl e
        · rintro (e | ⟨e | e, e' | e'⟩)
          · exact e
          · exact absurd e h1
          · exact absurd e h1
          · exact absurd e' h2
          · exact e.trans e'.symm

section
variable {n : Nat} {p s : Nat → Nat} {c a b : Nat}

theorem uWinLose (n : Nat) (p s : Nat → Nat) (a b : Nat) : (uWin n p s a b = rt n p a ∧ uLose n p s a b = rt n p b) ∨ (uWin n p s a b = rt n p b ∧ uLose n p s a b = rt n p a) := by
  unfold uWin uLose
  split
  · exact Or.inr ⟨rfl, rfl⟩
  · exact Or.inl ⟨rfl, rfl⟩

/-- A union merges the two classes. -/
theorem Inv.union_merge (h : Inv n p s c) (ha : a < n) (hb : b < n) : Merge n (rt n p) a b (rt n (uP n p s a b)) :=
  merge_rename (uWinLose n p s a b) (h.union ha hb).2

theorem Inv.union_count (h : Inv n p s c) (ha : a < n) (hb : b < n) : (rt n p a = rt n p b → uC n p c a b = c) ∧ (rt n p a ≠ rt n p b → uC n p c a b + 1 = c) := by
  refine ⟨fun e => by simp [uC, e], fun e => ?_⟩
  have := h.roots
  have h1 : 1 ≤ c := by rw [this]; exact cnt_pos (h.forest.rt_lt a ha) (by simpa using h.forest.root a ha)
  simp only [uC, if_neg e]
  omega
end

/-! ### The partition that a set of pairs generates -/

/-- R is the finest partition that puts each pair of E together. -/
structure Gens (n : Nat) (R : Nat → Nat) (E : Nat → Nat → Prop) : Prop where
  mem : ∀ a b, E a b → R a = R b
  fin : ∀ L : Nat → Nat, (∀ a b, E a b → L a = L b) → ∀ x y, x < n → y < n → R x = R y → L x = L y

theorem Gens.id (n : Nat) : Gens n (fun x => x) (fun _ _ => False) := ⟨fun _ _ h => h.elim, fun L _ x y _ _ h => by rw [show x = y from h]⟩

theorem Gens.same {n : Nat} {R L : Nat → Nat} {E : Nat → Nat → Prop} (h : Gens n R E) (k : Gens n L E) : SameKer n R L :=
  fun x y hx hy => ⟨fun e => h.fin L k.mem x y hx hy e, fun e => k.fin R h.mem x y hx hy e⟩

theorem Gens.congr {n : Nat} {R : Nat → Nat} {E E' : Nat → Nat → Prop} (h : Gens n R E) (e : ∀ L : Nat → Nat, (∀ a b, E a b → L a = L b) ↔ (∀ a b, E' a b → L a = L b)) : Gens n R E' :=
  ⟨(e R).1 h.mem, fun L hL => h.fin L ((e L).2 hL)⟩

theorem Gens.merge {n : Nat} {R R' : Nat → Nat} {a b : Nat} {E : Nat → Nat → Prop} (hE : ∀ x y, E x y → x < n ∧ y < n) (ha : a < n) (hb : b < n) (h : Gens n R E) (m : Merge n R a b R') : Gens n R' (fun x y => E x y ∨ (x = a ∧ y = b)) := by
  refine ⟨?_, ?_⟩
  · rintro x y (e | ⟨rfl, rfl⟩)
    · obtain ⟨hx, hy⟩ := hE x y e
      exact (m x y hx hy).2 (Or.inl (h.mem x y e))
    · exact (m x y ha hb).2 (Or.inr ⟨Or.inl rfl, Or.inr rfl⟩)
  · intro L hL x y hx hy e
    have hLE : ∀ a b, E a b → L a = L b := fun a b e => hL a b (Or.inl e)
    have hab : L a = L b := hL a b (Or.inr ⟨rfl, rfl⟩)
    have key := h.fin L hLE
    rcases (m x y hx hy).1 e with e1 | ⟨e1 | e1, e2 | e2⟩
    · exact key x y hx hy e1
    · rw [key x a hx ha e1, key y a hy ha e2]
    · rw [key x a hx ha e1, key y b hy hb e2, hab]
    · rw [key x b hx hb e1, key y a hy ha e2, hab]
    · rw [key x b hx hb e1, key y b hy hb e2]

#print axioms Gens.merge
end Go.Proofs.Ymbrda
