/-
  PLAIN MATHEMATICS OF A UNION-FIND FOREST: no Go, no world.
-/
import Derived.Test.YmbrdaKit
namespace Go.Proofs.Ymbrda
set_option linter.unusedSimpArgs false
set_option linter.unusedVariables false

/-! ### Climbing -/

/-- k steps upward. -/
def it (p : Nat → Nat) : Nat → Nat → Nat
  | 0, x => x
  | k + 1, x => it p k (p x)

theorem it_succ (p : Nat → Nat) (k x : Nat) : it p (k + 1) x = p (it p k x) := by
  induction k generalizing x with
  | zero => rfl
  | succ k ih => show it p (k + 1) (p x) = _; rw [ih]; rfl

theorem it_add (p : Nat → Nat) (k l x : Nat) : it p (k + l) x = it p l (it p k x) := by
  induction k generalizing x with
  | zero => simp [it]
  | succ k ih => rw [Nat.add_right_comm]; show it p (k + l) (p x) = _; rw [ih]; rfl

theorem it_fix {p : Nat → Nat} {r : Nat} (h : p r = r) (k : Nat) : it p k r = r := by
  induction k with
  | zero => rfl
  | succ k ih => show it p k (p r) = r; rw [h]; exact ih

/-- The top above x, as n steps find it. -/
def rt (n : Nat) (p : Nat → Nat) (x : Nat) : Nat := it p n x

/-- A forest over 0..n-1: a measure below n falls at each step that moves. -/
structure Forest (n : Nat) (p μ : Nat → Nat) : Prop where
  lt : ∀ x, x < n → p x < n
  mu : ∀ x, x < n → μ x < n
  dec : ∀ x, x < n → p x ≠ x → μ (p x) < μ x

section
variable {n : Nat} {p μ : Nat → Nat}

theorem Forest.it_lt (h : Forest n p μ) (k x : Nat) (hx : x < n) : it p k x < n := by
  induction k generalizing x with
  | zero => exact hx
  | succ k ih => exact ih _ (h.lt x hx)

theorem Forest.rt_lt (h : Forest n p μ) (x : Nat) (hx : x < n) : rt n p x < n := h.it_lt n x hx

theorem Forest.settled (h : Forest n p μ) (k x : Nat) (hx : x < n) (hk : μ x < k) : p (it p k x) = it p k x := by
  induction k generalizing x with
  | zero => omega
  | succ k ih =>
    by_cases e : p x = x
    · rw [it_fix e]; exact e
    · exact ih (p x) (h.lt x hx) (by have := h.dec x hx e; omega)

theorem Forest.root (h : Forest n p μ) (x : Nat) (hx : x < n) : p (rt n p x) = rt n p x := h.settled n x hx (h.mu x hx)

theorem Forest.rt_p (h : Forest n p μ) (x : Nat) (hx : x < n) : rt n p (p x) = rt n p x := by
  have h1 := h.root x hx
  have h2 : it p n (p x) = it p (n + 1) x := rfl
  show it p n (p x) = it p n x
  rw [h2, it_succ]
  exact h1

theorem rt_of_root (n : Nat) {p : Nat → Nat} {x : Nat} (h : p x = x) : rt n p x = x := it_fix h n

theorem Forest.rt_rt (h : Forest n p μ) (x : Nat) (hx : x < n) : rt n p (rt n p x) = rt n p x := rt_of_root n (h.root x hx)

theorem Forest.root_iff (h : Forest n p μ) (x : Nat) (hx : x < n) : p x = x ↔ rt n p x = x :=
  ⟨fun e => rt_of_root n e, fun e => by rw [← e]; exact h.root x hx⟩

/-- Whatever is a root's own name and stands along the parents is the top. -/
theorem Forest.rt_eq (h : Forest n p μ) (R : Nat → Nat) (h1 : ∀ x, x < n → p x = x → R x = x) (h2 : ∀ x, x < n → p x ≠ x → R x = R (p x)) (x : Nat) (hx : x < n) : R x = rt n p x := by
  have key : ∀ k y, y < n → R y = R (it p k y) := by
    intro k
    induction k with
    | zero => intro y _; rfl
    | succ k ih =>
      intro y hy
      have e : R y = R (p y) := by
        by_cases e : p y = y
        · rw [e]
        · exact h2 y hy e
      rw [e]
      exact ih (p y) (h.lt y hy)
  rw [key n x hx]
  exact h1 _ (h.rt_lt x hx) (h.root x hx)

theorem Forest.rt_it (h : Forest n p μ) (k x : Nat) (hx : x < n) : rt n p (it p k x) = rt n p x := by
  induction k generalizing x with
  | zero => rfl
  | succ k ih => show rt n p (it p k (p x)) = _; rw [ih _ (h.lt x hx), h.rt_p x hx]

theorem Forest.congr {q : Nat → Nat} (h : Forest n p μ) (e : ∀ x, x < n → p x = q x) : Forest n q μ :=
  ⟨fun x hx => by rw [← e x hx]; exact h.lt x hx, h.mu, fun x hx hne => by rw [← e x hx] at hne ⊢; exact h.dec x hx hne⟩

theorem Forest.rt_congr {q : Nat → Nat} (h : Forest n p μ) (e : ∀ x, x < n → p x = q x) (x : Nat) (hx : x < n) : rt n p x = rt n q x := by
  refine (h.congr e).rt_eq (rt n p) ?_ ?_ x hx
  · intro y hy hr
    exact rt_of_root n (by rw [e y hy]; exact hr)
  · intro y hy _
    rw [← e y hy, h.rt_p y hy]
end

/-! ### Counting -/

/-- How many i < n have f i. -/
def cnt (f : Nat → Bool) : Nat → Nat
  | 0 => 0
  | n + 1 => cnt f n + if f n then 1 else 0

theorem cnt_le (f : Nat → Bool) (n : Nat) : cnt f n ≤ n := by
  induction n with
  | zero => simp [cnt]
  | succ n ih => simp only [cnt]; split <;> omega

theorem cnt_congr {f g : Nat → Bool} {n : Nat} (h : ∀ i, i < n → f i = g i) : cnt f n = cnt g n := by
  induction n with
  | zero => rfl
  | succ n ih => simp only [cnt]; rw [ih (fun i hi => h i (by omega)), h n (by omega)]

theorem cnt_pos {f : Nat → Bool} {n i : Nat} (hi : i < n) (h : f i = true) : 1 ≤ cnt f n := by
  induction n with
  | zero => omega
  | succ n ih =>
    simp only [cnt]
    by_cases e : i = n
    · subst e; rw [h]; simp
    · have := ih (by omega); omega

theorem cnt_zero {f : Nat → Bool} {n : Nat} (h : ∀ i, i < n → f i = false) : cnt f n = 0 := by
  induction n with
  | zero => rfl
  | succ n ih => simp only [cnt]; rw [ih (fun i hi => h i (by omega)), h n (by omega)]; rfl

theorem cnt_of_zero {f : Nat → Bool} {n : Nat} (h : cnt f n = 0) : ∀ i, i < n → f i = false := by
  intro i hi
  cases e : f i with
  | false => rfl
  | true => have := cnt_pos hi e; omega

theorem cnt_all {f : Nat → Bool} {n : Nat} (h : ∀ i, i < n → f i = true) : cnt f n = n := by
  induction n with
  | zero => rfl
  | succ n ih => simp only [cnt]; rw [ih (fun i hi => h i (by omega)), h n (by omega)]; rfl

theorem cnt_mono {f g : Nat → Bool} {n : Nat} (h : ∀ i, i < n → f i = true → g i = true) : cnt f n ≤ cnt g n := by
  induction n with
  | zero => simp [cnt]
  | succ n ih =>
    simp only [cnt]
    have h1 := ih (fun i hi => h i (by omega))
    have h2 := h n (by omega)
    cases e : f n with
    | false => simp; split <;> omega
    | true => rw [h2 e]; simp; omega

/-- Two kinds that exclude each other add up. -/
theorem cnt_or {f g : Nat → Bool} {n : Nat} (h : ∀ i, i < n → f i = true → g i = false) : cnt (fun i => f i || g i) n = cnt f n + cnt g n := by
  induction n with
  | zero => rfl
  | succ n ih =>
    simp only [cnt]
    rw [ih (fun i hi => h i (by omega))]
    have h2 := h n (by omega)
    by_cases e : f n = true
    · simp [e, h2 e]; omega
    · simp only [Bool.not_eq_true] at e
      simp [e]; omega

/-- One place turned from no to yes. -/
theorem cnt_one {f g : Nat → Bool} {n k : Nat} (hk : k < n) (h : ∀ i, i < n → i ≠ k → f i = g i) (hf : f k = false) (hg : g k = true) : cnt f n + 1 = cnt g n := by
  induction n with
  | zero => omega
  | succ n ih =>
    simp only [cnt]
    by_cases e : k = n
    · subst e
      rw [hf, hg, cnt_congr (fun i hi => h i (by omega) (by omega))]
      simp
    · have h1 := ih (by omega) (fun i hi => h i (by omega))
      rw [h n (by omega) (by omega)]
      omega

/-- Another length, where none lies beyond. -/
theorem cnt_ext {f : Nat → Bool} {m n : Nat} (hmn : m ≤ n) (h : ∀ i, m ≤ i → i < n → f i = false) : cnt f n = cnt f m := by
  induction n with
  | zero => have : m = 0 := by omega
            subst this; rfl
  | succ n ih =>
    by_cases e : m = n + 1
    · subst e; rfl
    · simp only [cnt]
      rw [ih (by omega) (fun i h1 h2 => h i h1 (by omega)), h n (by omega) (by omega)]
      simp

/-! ### The invariant -/

structure Inv (n : Nat) (p s : Nat → Nat) (c : Nat) : Prop where
  lt : ∀ x, x < n → p x < n
  s1 : ∀ x, x < n → 1 ≤ s x
  sn : ∀ x, x < n → s x ≤ n
  dbl : ∀ x, x < n → p x ≠ x → 2 * s x ≤ s (p x)
  cls : ∀ r, r < n → p r = r → s r = cnt (fun x => rt n p x == r) n
  roots : c = cnt (fun x => p x == x) n

section
variable {n : Nat} {p s : Nat → Nat} {c : Nat}

theorem forest_of_sizes (lt : ∀ x, x < n → p x < n) (s1 : ∀ x, x < n → 1 ≤ s x) (sn : ∀ x, x < n → s x ≤ n) (dbl : ∀ x, x < n → p x ≠ x → 2 * s x ≤ s (p x)) : Forest n p (fun x => n - s x) := by
  refine ⟨lt, ?_, ?_⟩
  · intro x hx
    have := s1 x hx
    show n - s x < n
    omega
  · intro x hx hne
    have h1 := s1 x hx
    have h2 := dbl x hx hne
    have h3 := sn (p x) (lt x hx)
    show n - s (p x) < n - s x
    omega

theorem Inv.forest (h : Inv n p s c) : Forest n p (fun x => n - s x) := forest_of_sizes h.lt h.s1 h.sn h.dbl

/-- The singletons. -/
theorem inv_new (n : Nat) : Inv n (fun x => x) (fun _ => 1) n := by
  refine ⟨fun x hx => hx, fun _ _ => Nat.le_refl _, fun x hx => by omega, fun x hx h => absurd rfl h, ?_, ?_⟩
  · intro r hr _
    have e : ∀ x, rt n (fun x => x) x = x := fun x => rt_of_root n rfl
    have h1 : cnt (fun _ => false) n + 1 = cnt (fun x => rt n (fun x => x) x == r) n :=
      cnt_one hr (fun i _ hne => by simp [e]; omega) rfl (by simp [e])
    rw [← h1, cnt_zero (fun _ _ => rfl)]
  · rw [cnt_all]; intro i _; simp

theorem Inv.congr {p' s' : Nat → Nat} (h : Inv n p s c) (e1 : ∀ x, x < n → p x = p' x) (e2 : ∀ x, x < n → s x = s' x) : Inv n p' s' c := by
  refine ⟨fun x hx => by rw [← e1 x hx]; exact h.lt x hx, fun x hx => by rw [← e2 x hx]; exact h.s1 x hx, fun x hx => by rw [← e2 x hx]; exact h.sn x hx, ?_, ?_, ?_⟩
  · intro x hx hne
    rw [← e1 x hx] at hne ⊢
    rw [← e2 x hx, ← e2 (p x) (h.lt x hx)]
    exact h.dbl x hx hne
  · intro r hr he
    rw [← e1 r hr] at he
    rw [← e2 r hr, h.cls r hr he]
    exact cnt_congr fun x hx => by rw [h.forest.rt_congr e1 x hx]
  · rw [h.roots]
    exact cnt_congr fun x hx => by rw [e1 x hx]

/-- Two roots joined: the greater one, or the first at a tie, stays. -/
theorem Inv.merge (h : Inv n p s c) {win lose : Nat} (hw : win < n) (hl : lose < n) (pw : p win = win) (pl : p lose = lose) (ne : win ≠ lose) (hs : s lose ≤ s win) :
    Inv n (upd p lose win) (upd s win (s win + s lose)) (c - 1) ∧ (∀ x, x < n → rt n (upd p lose win) x = if rt n p x = lose then win else rt n p x) ∧ 1 ≤ c := by
  have F := h.forest
  have cw := h.cls win hw pw
  have cl := h.cls lose hl pl
  have sum : s win + s lose = cnt (fun x => (rt n p x == win) || (rt n p x == lose)) n := by
    rw [cw, cl]
    symm
    apply cnt_or
    intro i _ e
    simp at e ⊢
    omega
  have lt' : ∀ x, x < n → upd p lose win x < n := by
    intro x hx; unfold upd; split
    · exact hw
    · exact h.lt x hx
  have s1' : ∀ x, x < n → 1 ≤ upd s win (s win + s lose) x := by
    intro x hx; unfold upd; split
    · have := h.s1 win hw; omega
    · exact h.s1 x hx
  have sn' : ∀ x, x < n → upd s win (s win + s lose) x ≤ n := by
    intro x hx; unfold upd; split
    · rw [sum]; exact cnt_le _ _
    · exact h.sn x hx
  have dbl' : ∀ x, x < n → upd p lose win x ≠ x → 2 * upd s win (s win + s lose) x ≤ upd s win (s win + s lose) (upd p lose win x) := by
    intro x hx hne
    by_cases e : x = lose
    · subst e
      rw [upd_same, upd_same, upd_ne _ _ _ _ (Ne.symm ne)]
      omega
    · rw [upd_ne _ _ _ _ e] at hne ⊢
      have e2 : x ≠ win := fun e2 => hne (by rw [e2, pw])
      rw [upd_ne _ _ _ _ e2]
      have h1 := h.dbl x hx hne
      by_cases e3 : p x = win
      · rw [e3, upd_same]; rw [e3] at h1; omega
      · rw [upd_ne _ _ _ _ e3]; exact h1
  have F' := forest_of_sizes lt' s1' sn' dbl'
  have hrt : ∀ x, x < n → rt n (upd p lose win) x = if rt n p x = lose then win else rt n p x := by
    intro x hx
    symm
    refine F'.rt_eq (fun x => if rt n p x = lose then win else rt n p x) ?_ ?_ x hx
    · intro y hy e
      have e1 : y ≠ lose := by
        intro e1
        rw [e1, upd_same] at e
        exact ne e
      rw [upd_ne _ _ _ _ e1] at e
      show (if rt n p y = lose then win else rt n p y) = y
      rw [rt_of_root n e, if_neg e1]
    · intro y hy e
      show (if rt n p y = lose then win else rt n p y) = if rt n p (upd p lose win y) = lose then win else rt n p (upd p lose win y)
      by_cases e1 : y = lose
      · subst e1
        rw [upd_same, rt_of_root n pl, rt_of_root n pw, if_pos rfl, if_neg ne]
      · rw [upd_ne _ _ _ _ e1, F.rt_p y hy]
  refine ⟨⟨lt', s1', sn', dbl', ?_, ?_⟩, hrt, ?_⟩
  · intro r hr e
    have e1 : r ≠ lose := by
      intro e1
      rw [e1, upd_same] at e
      exact ne e
    rw [upd_ne _ _ _ _ e1] at e
    by_cases e2 : r = win
    · subst e2
      rw [upd_same, sum]
      refine cnt_congr fun x hx => ?_
      rw [hrt x hx]
      by_cases e3 : rt n p x = lose
      · rw [if_pos e3]; simp [e3]
      · rw [if_neg e3]; simp [e3]
    · rw [upd_ne _ _ _ _ e2, h.cls r hr e]
      refine cnt_congr fun x hx => ?_
      rw [hrt x hx]
      by_cases e3 : rt n p x = lose
      · rw [if_pos e3, e3]
        have a1 : (lose == r) = false := by simp; omega
        have a2 : (win == r) = false := by simp; omega
        rw [a1, a2]
      · rw [if_neg e3]
  · have : cnt (fun x => upd p lose win x == x) n + 1 = cnt (fun x => p x == x) n := by
      refine cnt_one hl ?_ ?_ ?_
      · intro i _ hne; rw [upd_ne _ _ _ _ hne]
      · rw [upd_same]; simpa using ne
      · simpa using pl
    rw [h.roots]
    omega
  · rw [h.roots]; exact cnt_pos hl (by simpa using pl)

end

/-- Is y on the way up from x? -/
def On (p : Nat → Nat) (x y : Nat) : Prop := ∃ k, it p k x = y

/-- What a compression leaves: all on the way up from x hang at r, the rest stands. -/
structure Cpd (n : Nat) (p : Nat → Nat) (x : Nat) (q : Nat → Nat) : Prop where
  on : ∀ y, y < n → On p x y → q y = rt n p x
  off : ∀ y, y < n → ¬ On p x y → q y = p y

section
variable {n : Nat} {p q μ : Nat → Nat} {x : Nat}

theorem Cpd.cases (h : Cpd n p x q) (F : Forest n p μ) (hx : x < n) (y : Nat) (hy : y < n) : (q y = rt n p y ∧ On p x y) ∨ q y = p y := by
  by_cases e : On p x y
  · left
    refine ⟨?_, e⟩
    rw [h.on y hy e]
    obtain ⟨k, rfl⟩ := e
    rw [F.rt_it k x hx]
  · exact Or.inr (h.off y hy e)

theorem Forest.mu_it (F : Forest n p μ) (k y : Nat) (hy : y < n) : μ (it p k y) ≤ μ y ∧ (it p k y ≠ y → μ (it p k y) < μ y) := by
  induction k generalizing y with
  | zero => exact ⟨Nat.le_refl _, fun h => absurd rfl h⟩
  | succ k ih =>
    obtain ⟨h1, h2⟩ := ih (p y) (F.lt y hy)
    by_cases e : p y = y
    · rw [it_fix e]; exact ⟨Nat.le_refl _, fun h => absurd rfl h⟩
    · have h3 := F.dec y hy e
      have h4 : it p (k + 1) y = it p k (p y) := rfl
      rw [h4]
      exact ⟨by omega, fun _ => by omega⟩

theorem Cpd.forest (h : Cpd n p x q) (F : Forest n p μ) (hx : x < n) : Forest n q μ := by
  refine ⟨?_, F.mu, ?_⟩
  · intro y hy
    rcases h.cases F hx y hy with ⟨e, _⟩ | e
    · rw [e]; exact F.rt_lt y hy
    · rw [e]; exact F.lt y hy
  · intro y hy hne
    rcases h.cases F hx y hy with ⟨e, _⟩ | e
    · rw [e] at hne ⊢
      exact (F.mu_it n y hy).2 hne
    · rw [e] at hne ⊢
      exact F.dec y hy hne

theorem Cpd.rt (h : Cpd n p x q) (F : Forest n p μ) (hx : x < n) (y : Nat) (hy : y < n) : rt n q y = rt n p y := by
  symm
  refine (h.forest F hx).rt_eq (Go.Proofs.Ymbrda.rt n p) ?_ ?_ y hy
  · intro z hz e
    rcases h.cases F hx z hz with ⟨e1, _⟩ | e1
    · rw [← e1]; exact e
    · exact rt_of_root n (by rw [← e1]; exact e)
  · intro z hz e
    rcases h.cases F hx z hz with ⟨e1, _⟩ | e1
    · rw [e1, F.rt_rt z hz]
    · rw [e1, F.rt_p z hz]

theorem Cpd.self (h : Cpd n p x q) (hx : x < n) : q x = Go.Proofs.Ymbrda.rt n p x := h.on x hx ⟨0, rfl⟩

theorem Cpd.root_iff (h : Cpd n p x q) (F : Forest n p μ) (hx : x < n) (y : Nat) (hy : y < n) : q y = y ↔ p y = y := by
  rw [(h.forest F hx).root_iff y hy, F.root_iff y hy, h.rt F hx y hy]

theorem Inv.size_it {s : Nat → Nat} {c : Nat} (I : Inv n p s c) (k y : Nat) (hy : y < n) (hne : it p k y ≠ y) : 2 * s y ≤ s (it p k y) := by
  induction k generalizing y with
  | zero => exact absurd rfl hne
  | succ k ih =>
    by_cases e : p y = y
    · exact absurd (it_fix e _) hne
    · have h1 := I.dbl y hy e
      have h4 : it p (k + 1) y = it p k (p y) := rfl
      rw [h4]
      by_cases e2 : it p k (p y) = p y
      · rw [e2]; exact h1
      · have := ih (p y) (I.lt y hy) e2; omega

theorem Cpd.inv {s : Nat → Nat} {c : Nat} (h : Cpd n p x q) (I : Inv n p s c) (hx : x < n) : Inv n q s c := by
  have F := I.forest
  refine ⟨(h.forest F hx).lt, I.s1, I.sn, ?_, ?_, ?_⟩
  · intro y hy hne
    rcases h.cases F hx y hy with ⟨e1, _⟩ | e1
    · rw [e1] at hne ⊢
      exact I.size_it n y hy hne
    · rw [e1] at hne ⊢
      exact I.dbl y hy hne
  · intro r hr e
    rw [h.root_iff F hx r hr] at e
    rw [I.cls r hr e]
    exact cnt_congr fun y hy => by rw [h.rt F hx y hy]
  · rw [I.roots]
    refine cnt_congr fun y hy => ?_
    have := h.root_iff F hx y hy
    by_cases e : p y = y
    · rw [e, this.2 e]
    · have e' : q y ≠ y := fun h => e (this.1 h)
      have a1 : (p y == y) = false := by simpa using e
      have a2 : (q y == y) = false := by simpa using e'
      rw [a1, a2]
end

/-- Half way: the first k places on the way up from x hang at the top. -/
structure Cpk (n : Nat) (p : Nat → Nat) (x k : Nat) (q : Nat → Nat) : Prop where
  vis : ∀ z, z < n → ∀ j, j < k → it p j x = z → q z = rt n p x
  unv : ∀ z, z < n → (∀ j, j < k → it p j x ≠ z) → q z = p z

section
variable {n : Nat} {p q μ : Nat → Nat} {x k : Nat}

theorem Cpk.zero (n : Nat) (p : Nat → Nat) (x : Nat) : Cpk n p x 0 p := ⟨fun _ _ j hj => absurd hj (Nat.not_lt_zero _), fun _ _ _ => rfl⟩

theorem Cpk.step (h : Cpk n p x k q) (F : Forest n p μ) (hx : x < n) (hne : q (it p k x) ≠ rt n p x) :
    Cpk n p x (k + 1) (upd q (it p k x) (rt n p x)) ∧ q (it p k x) = p (it p k x) ∧ p (it p k x) ≠ it p k x := by
  have hy := F.it_lt k x hx
  have e1 : q (it p k x) = p (it p k x) := by
    apply h.unv _ hy
    intro j hj e
    exact hne (h.vis _ hy j hj e)
  refine ⟨⟨?_, ?_⟩, e1, ?_⟩
  · intro z hz j hj e
    by_cases e2 : z = it p k x
    · rw [e2, upd_same]
    · rw [upd_ne _ _ _ _ e2]
      refine h.vis z hz j ?_ e
      rcases Nat.lt_or_ge j k with h1 | h1
      · exact h1
      · have : j = k := by omega
        subst this
        exact absurd e.symm e2
  · intro z hz hv
    have e2 : z ≠ it p k x := fun e2 => hv k (by omega) e2.symm
    rw [upd_ne _ _ _ _ e2]
    exact h.unv z hz (fun j hj => hv j (by omega))
  · intro e2
    apply hne
    rw [e1, e2, ← F.rt_it k x hx, rt_of_root n e2]

theorem Cpk.done (h : Cpk n p x k q) (F : Forest n p μ) (hx : x < n) (he : q (it p k x) = rt n p x) : Cpd n p x q := by
  have hy := F.it_lt k x hx
  have hrr : ∀ z, z < n → p z = z → On p x z → z = rt n p x := by
    intro z hz e ⟨m, hm⟩
    rw [← F.rt_it m x hx, hm, rt_of_root n e]
  refine ⟨?_, ?_⟩
  · intro z hz ⟨m, hm⟩
    rcases Nat.lt_or_ge m k with h1 | h1
    · exact h.vis z hz m h1 hm
    · have e1 : z = it p (m - k) (it p k x) := by rw [← it_add, show k + (m - k) = m by omega]; exact hm.symm
      by_cases hv : ∃ j, j < k ∧ it p j x = it p k x
      · obtain ⟨j, hj, e2⟩ := hv
        have e3 : p (it p k x) = it p k x := by
          refine Classical.byContradiction fun e3 => ?_
          have e4 : it p (k - j) (it p k x) = it p k x := by
            have : it p (k - j) (it p j x) = it p k x := by rw [← it_add, show j + (k - j) = k by omega]
            rw [e2] at this
            exact this
          obtain ⟨d, hd⟩ : ∃ d, k - j = d + 1 := ⟨k - j - 1, by omega⟩
          rw [hd] at e4
          have e5 := (F.mu_it d _ (F.lt _ hy)).1
          have e6 : it p (d + 1) (it p k x) = it p d (p (it p k x)) := rfl
          rw [← e6, e4] at e5
          have := F.dec _ hy e3
          omega
        rw [it_fix e3] at e1
        rw [e1]; exact he
      · have e2 : q (it p k x) = p (it p k x) := h.unv _ hy (fun j hj e => hv ⟨j, hj, e⟩)
        rcases Nat.eq_zero_or_pos (m - k) with h2 | h2
        · rw [h2] at e1
          rw [e1]; exact he
        · obtain ⟨d, hd⟩ : ∃ d, m - k = d + 1 := ⟨m - k - 1, by omega⟩
          have e3 : p (it p k x) = rt n p x := by rw [← e2]; exact he
          have e4 : z = rt n p x := by
            rw [e1, hd]
            show it p d (p (it p k x)) = _
            rw [e3, it_fix (F.root x hx)]
          by_cases hv2 : ∃ j, j < k ∧ it p j x = z
          · obtain ⟨j, hj, e5⟩ := hv2
            exact h.vis z hz j hj e5
          · rw [h.unv z hz (fun j hj e => hv2 ⟨j, hj, e⟩), e4]
            exact F.root x hx
  · intro z hz ho
    exact h.unv z hz (fun j _ e => ho ⟨j, e⟩)
end

/-! ### Union, as plain functions -/

def uWin (n : Nat) (p s : Nat → Nat) (a b : Nat) : Nat := if s (rt n p a) < s (rt n p b) then rt n p b else rt n p a
def uLose (n : Nat) (p s : Nat → Nat) (a b : Nat) : Nat := if s (rt n p a) < s (rt n p b) then rt n p a else rt n p b
def uP (n : Nat) (p s : Nat → Nat) (a b : Nat) : Nat → Nat := if rt n p a = rt n p b then p else upd p (uLose n p s a b) (uWin n p s a b)
def uS (n : Nat) (p s : Nat → Nat) (a b : Nat) : Nat → Nat := if rt n p a = rt n p b then s else upd s (uWin n p s a b) (s (uWin n p s a b) + s (uLose n p s a b))
def uC (n : Nat) (p : Nat → Nat) (c a b : Nat) : Nat := if rt n p a = rt n p b then c else c - 1
def uCode (n : Nat) (p : Nat → Nat) (a b : Nat) : Int := if rt n p a = rt n p b then 1 else 0

section
variable {n : Nat} {p s : Nat → Nat} {c a b : Nat}

theorem Inv.union (h : Inv n p s c) (ha : a < n) (hb : b < n) : Inv n (uP n p s a b) (uS n p s a b) (uC n p c a b) ∧
    (∀ x, x < n → rt n (uP n p s a b) x = if rt n p x = uLose n p s a b then uWin n p s a b else rt n p x) := by
  have F := h.forest
  by_cases e : rt n p a = rt n p b
  · simp only [uP, uS, uC, if_pos e]
    refine ⟨h, fun x hx => ?_⟩
    by_cases e2 : rt n p x = uLose n p s a b
    · rw [if_pos e2, e2]
      unfold uLose uWin
      split <;> simp [e]
    · rw [if_neg e2]
  · simp only [uP, uS, uC, if_neg e]
    have la := F.rt_lt a ha
    have lb := F.rt_lt b hb
    have ra := F.root a ha
    have rb := F.root b hb
    by_cases e3 : s (rt n p a) < s (rt n p b)
    · have := h.merge lb la rb ra (fun e4 => e e4.symm) (by omega)
      simp only [uWin, uLose, if_pos e3]
      exact ⟨this.1, this.2.1⟩
    · have := h.merge la lb ra rb e (by omega)
      simp only [uWin, uLose, if_neg e3]
      exact ⟨this.1, this.2.1⟩
end

#print axioms Inv.union
end Go.Proofs.Ymbrda
