/-
  The plain law behind LExact and LNeutral.
-/
import Derived.Test.YmbrdcLmerge
import Derived.Test.YmbrdcLmatches
import Derived.Test.YmbrdcRefines
namespace Go.Proofs.Ymbrdc
set_option linter.unusedVariables false

theorem finer_ext {n : Nat} {R L : Nat → Nat} (h : ∀ M, Finer n R M ↔ Finer n L M) : SameKer n R L := by
  intro x y hx hy
  exact ⟨(h L).2 (fun _ _ _ _ e => e) x y hx hy, (h R).1 (fun _ _ _ _ e => e) x y hx hy⟩

theorem CanN.self {n : Nat} {L : Nat → Nat} (hc : CanN n L) (i : Nat) (hi : i < n) : Go.Proofs.Ymbrdc.lab L i = L i := by
  have h1 := (hc i hi).2
  have h2 := lab_min L i (L i) h1
  have h3 := lab_le L i
  have h4 := (hc (Go.Proofs.Ymbrdc.lab L i) (by omega)).1
  have h5 := lab_val L i
  omega

theorem can_lab {n : Nat} {R L : Nat → Nat} (hc : CanN n L) (h : SameKer n R L) (i : Nat) (hi : i < n) : L i = lab R i := by
  rw [h.lab i hi, hc.self i hi]

theorem can_id (n : Nat) : CanN n (fun i => i) := fun i _ => ⟨Nat.le_refl _, rfl⟩

theorem eu_split {n : Nat} {E0 : Nat → Nat → Prop} {f g : Nat → Nat} {k : Nat} (M : Nat → Nat) :
    (∀ a b, EU E0 n f g (fun _ => True) k a b → M a = M b) ↔ ((∀ a b, E0 a b → M a = M b) ∧ (∀ a b, EU E00 n f g (fun _ => True) k a b → M a = M b)) := by
  constructor
  · intro h
    refine ⟨fun a b e => h a b (Or.inl e), fun a b e => ?_⟩
    rcases e with e | e
    · exact e.elim
    · exact h a b (Or.inr e)
  · rintro ⟨h1, h2⟩ a b (e | e)
    · exact h1 a b e
    · exact h2 a b (Or.inr e)

/-- The join of two partitions, by what is coarser. -/
theorem join_finer {n : Nat} {p s q t : Nat → Nat} {c d : Nat} {R : Nat → Nat} (I : Inv n p s c) (J : Inv n q t d) (h : Gens n R (EJ p q n)) (M : Nat → Nat) : Finer n R M ↔ (Finer n (rt n p) M ∧ Finer n (rt n q) M) :=
  (h.finer (EJ.lt I.lt J.lt (Nat.le_refl _))).trans (EJ.finer I.forest J.forest)

theorem finer_id {n : Nat} (M : Nat → Nat) : Finer n (rt n (fun x => x)) M := by
  intro x y _ _ e
  rw [rt_of_root n (p := fun x => x) (x := x) rfl, rt_of_root n (p := fun x => x) (x := y) rfl] at e
  rw [e]
end Go.Proofs.Ymbrdc
