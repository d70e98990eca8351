/-
  What one Union does to labels, parents, sizes and the count: plain.
-/
import Derived.Test.YmbrdaBsteps
namespace Go.Proofs.Ymbrda
set_option linter.unusedSimpArgs false
set_option linter.unusedVariables false

structure EF (n : Nat) (p s p' s' : Nat → Nat) (c c' ch lo hi : Nat) : Prop where
  le : ch = 0 ∨ ch = 1
  cc : (c' : Int) = (c : Int) - (ch : Int)
  dp : cnt (fun i => (p i : Int) != (p' i : Int)) n = ch
  ds : cnt (fun i => (s i : Int) != (s' i : Int)) n = ch
  lb : ∀ i, i < n → lab (rt n p') i = if ch = 1 ∧ lab (rt n p) i = hi then lo else lab (rt n p) i

theorem ef_none (n : Nat) (p s : Nat → Nat) (c lo hi : Nat) : EF n p s p s c c 0 lo hi := by
  refine ⟨Or.inl rfl, by omega, cnt_zero (fun i _ => by simp), cnt_zero (fun i _ => by simp), fun i _ => ?_⟩
  rw [if_neg (by omega)]

theorem diff_one {n : Nat} {f : Nat → Nat} {k v : Nat} (hk : k < n) (hv : f k ≠ v) : cnt (fun i => (f i : Int) != ((upd f k v i : Nat) : Int)) n = 1 := by
  have h := cnt_one (f := fun _ => false) (g := fun i => (f i : Int) != ((upd f k v i : Nat) : Int)) (n := n) hk ?_ rfl ?_
  · rw [← h, cnt_zero (fun i _ => rfl)]
  · intro i _ hne
    simp [upd_ne f k v i hne]
  · rw [upd_same]
    simp
    omega

theorem Inv.cle {n : Nat} {p s : Nat → Nat} {c : Nat} (I : Inv n p s c) : c ≤ n := by
  rw [I.roots]; exact cnt_le _ _

theorem ef_some {n : Nat} {p s : Nat → Nat} {c a b lo hi : Nat} (I : Inv n p s c) (ha : a < n) (hb : b < n) (hne : rt n p a ≠ rt n p b)
    (hlh : (lo = lab (rt n p) a ∧ hi = lab (rt n p) b) ∨ (lo = lab (rt n p) b ∧ hi = lab (rt n p) a)) (hlt : lo < hi) :
    EF n p s (uP n p s a b) (uS n p s a b) c (uC n p c a b) 1 lo hi := by
  have F := I.forest
  have la := F.rt_lt a ha
  have lb' := F.rt_lt b hb
  have M := I.union_merge ha hb
  have hc := (I.union_count ha hb).2 hne
  have ra := F.root a ha
  have rb := F.root b hb
  have s1 := I.s1 _ la
  have s2 := I.s1 _ lb'
  generalize hR : rt n p = R at *
  refine ⟨Or.inr rfl, by omega, ?_, ?_, ?_⟩
  · rw [uP, hR, if_neg hne]
    rcases uWinLose n p s a b with ⟨e1, e2⟩ | ⟨e1, e2⟩ <;> rw [e1, e2, hR]
    · exact diff_one (f := p) lb' (by rw [rb]; exact fun h => hne h.symm)
    · exact diff_one (f := p) la (by rw [ra]; exact hne)
  · rw [uS, hR, if_neg hne]
    rcases uWinLose n p s a b with ⟨e1, e2⟩ | ⟨e1, e2⟩ <;> rw [e1, e2, hR]
    · exact diff_one (f := s) la (by omega)
    · exact diff_one (f := s) lb' (by omega)
  · intro i hi'
    rw [hR]
    generalize rt n (uP n p s a b) = R' at *
    have hA : ∀ j, R j = R a ∨ R j = R b → (lab R j = lo ∨ lab R j = hi) := by
      intro j hj
      rcases hlh with ⟨e1, e2⟩ | ⟨e1, e2⟩ <;> rw [e1, e2] <;> rcases hj with h | h
      · exact Or.inl ((lab_eq_iff R j a).2 h)
      · exact Or.inr ((lab_eq_iff R j b).2 h)
      · exact Or.inr ((lab_eq_iff R j a).2 h)
      · exact Or.inl ((lab_eq_iff R j b).2 h)
    have hlo : lo < n ∧ (R lo = R a ∨ R lo = R b) := by
      rcases hlh with ⟨e1, e2⟩ | ⟨e1, e2⟩
      · have := lab_le R a
        exact ⟨by omega, Or.inl (by rw [e1]; exact lab_val R a)⟩
      · have := lab_le R b
        exact ⟨by omega, Or.inr (by rw [e1]; exact lab_val R b)⟩
    have hhi : ∀ j, lab R j = hi → (R j = R a ∨ R j = R b) := by
      intro j hj
      rcases hlh with ⟨e1, e2⟩ | ⟨e1, e2⟩
      · exact Or.inr ((lab_eq_iff R j b).1 (hj.trans e2))
      · exact Or.inl ((lab_eq_iff R j a).1 (hj.trans e2))
    by_cases h : lab R i = hi
    · rw [if_pos ⟨rfl, h⟩]
      refine lab_uniq R' i lo ((M lo i hlo.1 hi').2 (Or.inr ⟨hlo.2, hhi i h⟩)) ?_
      intro j hj hjl
      rcases (M j i (by omega) hi').1 hj with e | ⟨e, _⟩
      · have h1 := lab_le R j
        have h2 := (lab_eq_iff R j i).2 e
        omega
      · have h1 := lab_le R j
        rcases hA j e with h2 | h2 <;> omega
    · rw [if_neg (fun g => h g.2)]
      have h0 := lab_le R i
      refine lab_uniq R' i (lab R i) ((M _ i (by omega) hi').2 (Or.inl (lab_val R i))) ?_
      intro j hj hjl
      rcases (M j i (by omega) hi').1 hj with e | ⟨e, e2⟩
      · have h1 := lab_le R j
        have h2 := (lab_eq_iff R j i).2 e
        omega
      · have h1 := lab_le R j
        rcases hA j e with h2 | h2 <;> rcases hA i e2 with h3 | h3 <;> omega

#print axioms ef_some
end Go.Proofs.Ymbrda
