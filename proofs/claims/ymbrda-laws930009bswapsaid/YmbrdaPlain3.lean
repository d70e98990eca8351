/-
  PLAIN MATHEMATICS, MORE: what a script generates; how many classes there are; refining.
-/
import Derived.Test.YmbrdaUnionZ
namespace Go.Proofs.Ymbrda
set_option linter.unusedSimpArgs false
set_option linter.unusedVariables false

/-- The pairs of E0 and of the first k steps of a script (f i, g i) that join (u i) and name elements. -/
def EU (E0 : Nat → Nat → Prop) (n : Nat) (f g : Nat → Nat) (u : Nat → Prop) (k : Nat) (x y : Nat) : Prop :=
  E0 x y ∨ ∃ i, i < k ∧ u i ∧ f i < n ∧ g i < n ∧ x = f i ∧ y = g i

theorem EU.zero (E0 : Nat → Nat → Prop) (n : Nat) (f g : Nat → Nat) (u : Nat → Prop) (x y : Nat) : EU E0 n f g u 0 x y ↔ E0 x y := by
  unfold EU
  constructor
  · rintro (h | ⟨i, hi, _⟩)
    · exact h
    · omega
  · exact Or.inl

theorem EU.lt {E0 : Nat → Nat → Prop} {n : Nat} {f g : Nat → Nat} {u : Nat → Prop} {k : Nat} (h0 : ∀ x y, E0 x y → x < n ∧ y < n) : ∀ x y, EU E0 n f g u k x y → x < n ∧ y < n := by
  rintro x y (h | ⟨i, _, _, h1, h2, rfl, rfl⟩)
  · exact h0 x y h
  · exact ⟨h1, h2⟩

theorem Gens.iff {n : Nat} {R : Nat → Nat} {E E' : Nat → Nat → Prop} (h : Gens n R E) (e : ∀ x y, E x y ↔ E' x y) : Gens n R E' :=
  ⟨fun a b hab => h.mem a b ((e a b).2 hab), fun L hL => h.fin L (fun a b hab => hL a b ((e a b).1 hab))⟩

theorem Gens.of_eq {n : Nat} {R R' : Nat → Nat} {E : Nat → Nat → Prop} (h : Gens n R E) (hE : ∀ x y, E x y → x < n ∧ y < n) (e : ∀ x, x < n → R' x = R x) : Gens n R' E :=
  ⟨fun a b hab => by obtain ⟨ha, hb⟩ := hE a b hab; rw [e a ha, e b hb]; exact h.mem a b hab, fun L hL x y hx hy hxy => h.fin L hL x y hx hy (by rw [← e x hx, ← e y hy]; exact hxy)⟩

/-- A step that joins. -/
theorem Gens.join {E0 : Nat → Nat → Prop} {n k : Nat} {f g : Nat → Nat} {u : Nat → Prop} {R R' : Nat → Nat} (h0 : ∀ x y, E0 x y → x < n ∧ y < n) (h : Gens n R (EU E0 n f g u k)) (hu : u k) (hf : f k < n) (hg : g k < n) (m : Merge n R (f k) (g k) R') :
    Gens n R' (EU E0 n f g u (k + 1)) := by
  refine (h.merge (EU.lt h0) hf hg m).iff ?_
  intro x y
  constructor
  · rintro ((e | ⟨i, hi, e⟩) | ⟨rfl, rfl⟩)
    · exact Or.inl e
    · exact Or.inr ⟨i, by omega, e⟩
    · exact Or.inr ⟨k, by omega, hu, hf, hg, rfl, rfl⟩
  · rintro (e | ⟨i, hi, e⟩)
    · exact Or.inl (Or.inl e)
    · by_cases ei : i = k
      · subst ei; exact Or.inr ⟨e.2.2.2.1, e.2.2.2.2⟩
      · exact Or.inl (Or.inr ⟨i, by omega, e⟩)

/-- A step that joins nothing. -/
theorem Gens.skip {E0 : Nat → Nat → Prop} {n k : Nat} {f g : Nat → Nat} {u : Nat → Prop} {R R' : Nat → Nat} (h0 : ∀ x y, E0 x y → x < n ∧ y < n) (h : Gens n R (EU E0 n f g u k)) (hu : ¬ (u k ∧ f k < n ∧ g k < n)) (e : ∀ x, x < n → R' x = R x) :
    Gens n R' (EU E0 n f g u (k + 1)) := by
  refine (h.of_eq (EU.lt h0) e).iff ?_
  intro x y
  constructor
  · rintro (e | ⟨i, hi, e⟩)
    · exact Or.inl e
    · exact Or.inr ⟨i, by omega, e⟩
  · rintro (e | ⟨i, hi, e⟩)
    · exact Or.inl e
    · by_cases ei : i = k
      · subst ei; exact absurd ⟨e.1, e.2.1, e.2.2.1⟩ hu
      · exact Or.inr ⟨i, by omega, e⟩

/-- A union at any two ints, inside a script. -/
theorem Gens.unionZ {E0 : Nat → Nat → Prop} {n k : Nat} {f g : Nat → Nat} {u : Nat → Prop} {p s : Nat → Nat} {c : Nat} (h0 : ∀ x y, E0 x y → x < n ∧ y < n) (I : Inv n p s c) (h : Gens n (rt n p) (EU E0 n f g u k)) (hu : u k) :
    Gens n (rt n (zP n p s (f k) (g k))) (EU E0 n f g u (k + 1)) := by
  by_cases hf : f k < n
  · by_cases hg : g k < n
    · rw [zP_nat hf hg]
      exact h.join h0 hu hf hg (I.union_merge hf hg)
    · rw [zP_out (inb2_out (by omega))]
      exact h.skip h0 (fun h => hg h.2.2) (fun _ _ => rfl)
  · rw [zP_out (inb2_out (by omega))]
    exact h.skip h0 (fun h => hf h.2.1) (fun _ _ => rfl)

def E00 (x y : Nat) : Prop := False
theorem E00.lt (n : Nat) : ∀ x y, E00 x y → x < n ∧ y < n := fun _ _ h => h.elim

theorem gens_new (n : Nat) (f g : Nat → Nat) (u : Nat → Prop) : Gens n (rt n (fun x => x)) (EU E00 n f g u 0) :=
  ((Gens.id n).of_eq (fun _ _ h => h.elim) (fun x _ => rt_of_root n rfl)).iff (fun x y => (EU.zero E00 n f g u x y).symm)

theorem gens_id (n : Nat) (f g : Nat → Nat) (u : Nat → Prop) : Gens n (fun x => x) (EU E00 n f g u 0) :=
  (Gens.id n).iff (fun x y => (EU.zero E00 n f g u x y).symm)

theorem Gens.start {n : Nat} {R : Nat → Nat} {E0 : Nat → Nat → Prop} (h : Gens n R E0) (f g : Nat → Nat) (u : Nat → Prop) : Gens n R (EU E0 n f g u 0) :=
  h.iff (fun x y => (EU.zero E0 n f g u x y).symm)

/-! ### How many classes -/

theorem cnt_yes {f : Nat → Bool} {k : Nat} (h : f k = true) : cnt f (k + 1) = cnt f k + 1 := by simp [cnt, h]
theorem cnt_no {f : Nat → Bool} {k : Nat} (h : f k = false) : cnt f (k + 1) = cnt f k := by simp [cnt, h]

theorem hit_count {n : Nat} {R : Nat → Nat} (hR : ∀ x, x < n → R x < n) (k : Nat) (hk : k ≤ n) :
    cnt (fun r => decide (lst (fun y => R y == r) k < k)) n = cnt (fun i => lab R i == i) k := by
  induction k with
  | zero => simp only [cnt]; exact cnt_zero (fun i _ => by simp)
  | succ k ih =>
    have ih := ih (by omega)
    have step : ∀ r, (lst (fun y => R y == r) (k + 1) < k + 1) ↔ (lst (fun y => R y == r) k < k ∨ R k = r) := by
      intro r
      simp only [lst]
      by_cases h1 : lst (fun y => R y == r) k < k
      · rw [if_pos h1]; constructor
        · intro _; exact Or.inl h1
        · intro _; omega
      · rw [if_neg h1]
        by_cases h2 : R k = r
        · simp [h2]
        · simp [h1, h2]
    by_cases e : lab R k = k
    · have hn : ¬ lst (fun y => R y == R k) k < k := by
        have : lst (fun y => R y == R k) k = lab R k := rfl
        omega
      have e1 : (lab R k == k) = true := by simpa using e
      rw [cnt_yes (f := fun i => lab R i == i) e1, ← ih]
      symm
      refine cnt_one (hR k (by omega)) ?_ ?_ ?_
      · intro r _ hne
        rw [Bool.eq_iff_iff]
        simp only [decide_eq_true_eq]
        rw [step r]
        constructor
        · intro h; exact Or.inl h
        · rintro (h | h)
          · exact h
          · exact absurd h.symm hne
      · simpa using hn
      · simp only [decide_eq_true_eq]
        exact (step (R k)).2 (Or.inr rfl)
    · have hn : lst (fun y => R y == R k) k < k := by
        have h1 : lst (fun y => R y == R k) k = lab R k := rfl
        have h2 := lab_le R k
        omega
      have e1 : (lab R k == k) = false := by simpa using e
      rw [cnt_no (f := fun i => lab R i == i) e1, ← ih]
      apply cnt_congr
      intro r _
      rw [Bool.eq_iff_iff]
      simp only [decide_eq_true_eq]
      rw [step r]
      constructor
      · rintro (h | h)
        · exact h
        · rw [← h]; exact hn
      · intro h; exact Or.inl h

/-- The count is the number of classes. -/
theorem Inv.classes {n : Nat} {p s : Nat → Nat} {c : Nat} (I : Inv n p s c) : c = cnt (fun i => lab (rt n p) i == i) n := by
  have F := I.forest
  rw [← hit_count (R := rt n p) (fun x hx => F.rt_lt x hx) n (Nat.le_refl _), I.roots]
  apply cnt_congr
  intro r hr
  rw [Bool.eq_iff_iff]
  simp only [beq_iff_eq, decide_eq_true_eq]
  constructor
  · intro e
    have := lst_lt (f := fun y => rt n p y == r) hr (by simpa using rt_of_root n e)
    omega
  · intro h
    have h1 := lst_spec _ _ h
    have h2 := lst_le (fun y => rt n p y == r) n
    simp only [beq_iff_eq] at h1
    rw [← h1]
    exact F.root _ h

theorem sk_classes {n : Nat} {R L : Nat → Nat} (h : SameKer n R L) : cnt (fun i => lab R i == i) n = cnt (fun i => lab L i == i) n := by
  apply cnt_congr
  intro i hi
  rw [h.lab i hi]

theorem SameKer.count {n : Nat} {p s q t : Nat → Nat} {c d : Nat} (I : Inv n p s c) (J : Inv n q t d) (h : SameKer n (rt n p) (rt n q)) : c = d := by
  rw [I.classes, J.classes, sk_classes h]

/-- The size of a class, by its members. -/
theorem Inv.size {n : Nat} {p s : Nat → Nat} {c : Nat} (I : Inv n p s c) (x : Nat) (hx : x < n) : s (rt n p x) = cnt (fun y => rt n p y == rt n p x) n :=
  I.cls _ (I.forest.rt_lt x hx) (I.forest.root x hx)

theorem SameKer.size {n : Nat} {R L : Nat → Nat} (h : SameKer n R L) (x : Nat) (hx : x < n) : cnt (fun y => R y == R x) n = cnt (fun y => L y == L x) n := by
  apply cnt_congr
  intro y hy
  rw [Bool.eq_iff_iff]
  simp only [beq_iff_eq]
  exact h y x hy hx

/-! ### Refining -/

def Finer (n : Nat) (R L : Nat → Nat) : Prop := ∀ x y, x < n → y < n → R x = R y → L x = L y

theorem finer_parents {n : Nat} {p μ L : Nat → Nat} (F : Forest n p μ) : Finer n (rt n p) L ↔ ∀ i, i < n → L i = L (p i) := by
  constructor
  · intro h i hi
    exact h i (p i) hi (F.lt i hi) (F.rt_p i hi).symm
  · intro h
    have key : ∀ k x, x < n → L x = L (it p k x) := by
      intro k
      induction k with
      | zero => intro x _; rfl
      | succ k ih => intro x hx; rw [h x hx]; exact ih (p x) (F.lt x hx)
    intro x y hx hy e
    rw [key n x hx, key n y hy]
    show L (rt n p x) = L (rt n p y)
    rw [e]

theorem Gens.finer {n : Nat} {R L : Nat → Nat} {E : Nat → Nat → Prop} (hE : ∀ x y, E x y → x < n ∧ y < n) (h : Gens n R E) : Finer n R L ↔ ∀ a b, E a b → L a = L b := by
  constructor
  · intro hf a b hab
    obtain ⟨ha, hb⟩ := hE a b hab
    exact hf a b ha hb (h.mem a b hab)
  · intro hL x y hx hy e
    exact h.fin L hL x y hx hy e

theorem SameKer.finer {n : Nat} {R L R' L' : Nat → Nat} (h1 : SameKer n R R') (h2 : SameKer n L L') : Finer n R L ↔ Finer n R' L' := by
  constructor
  · intro h x y hx hy e
    exact (h2 x y hx hy).1 (h x y hx hy ((h1 x y hx hy).2 e))
  · intro h x y hx hy e
    exact (h2 x y hx hy).2 (h x y hx hy ((h1 x y hx hy).1 e))

#print axioms Inv.classes
end Go.Proofs.Ymbrda
