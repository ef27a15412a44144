import Derived.Test.YteiblhjeomnccaaVeZ
/- Tools for plain laws: loops, numbers. -/
namespace Go.VE

theorem wI_id {n : Int} (h1 : -9223372036854775808 ≤ n) (h2 : n ≤ 9223372036854775807) : wI n = n := by
  unfold wI IntKind.wrap
  simp only [IntKind.bits, IntKind.signed]
  have e : (2 : Int) ^ 64 = 18446744073709551616 := by decide
  have e2 : (2 : Int) ^ 63 = 9223372036854775808 := by decide
  simp
  omega

/-- A loop's end: what holds of it, by a measure. -/
theorem fixO_rel {X D : Type} {step : X → Option (X ⊕ D)} (μ : X → Nat) (I : X → Prop) (R : X → D → Prop)
    (h : ∀ x, I x → (∃ y, step x = some (.inl y) ∧ I y ∧ μ y < μ x ∧ ∀ d, R y d → R x d) ∨ ∃ d, step x = some (.inr d) ∧ R x d) : ∀ x, I x → ∃ d, fixO step x = some d ∧ R x d := by
  intro x
  generalize hn : μ x = n
  induction n using Nat.strongRecOn generalizing x with
  | _ n ih =>
    intro hI
    rcases h x hI with ⟨y, h1, h2, h3, h4⟩ | ⟨d, h1, h2⟩
    · obtain ⟨d, h5, h6⟩ := ih (μ y) (by omega) y rfl h2
      exact ⟨d, by rw [fixO_unfold, h1]; exact h5, h4 d h6⟩
    · exact ⟨d, by rw [fixO_unfold, h1], h2⟩

theorem bif_t {α : Type} {c : Bool} {a b : α} (h : c = true) : (bif c then a else b) = a := by rw [h]; rfl
theorem bif_f {α : Type} {c : Bool} {a b : α} (h : c = false) : (bif c then a else b) = b := by rw [h]; rfl

end Go.VE
