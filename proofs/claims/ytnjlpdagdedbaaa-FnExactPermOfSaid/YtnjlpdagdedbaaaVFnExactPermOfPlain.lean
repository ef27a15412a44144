import Derived.Test.YtnjlpdagdedbaaaVFnExactPermOf
import Derived.Test.YtnjlpdagdedbaaaVfY
/- laws.FnExactPermOf returns true: in plain words, no program in sight. -/
set_option linter.unusedVariables false
set_option linter.unusedSimpArgs false
namespace Go.VE.VFnExactPermOf
open Go.VE
abbrev tysOf : List Ty := [.str]
theorem strEq_self (s : ByteArray) : strEq s s = true := by unfold strEq; simp
theorem range17 {p : Int} (h : 1 ≤ p) (h' : p ≤ 7) : p = 1 ∨ p = 2 ∨ p = 3 ∨ p = 4 ∨ p = 5 ∨ p = 6 ∨ p = 7 := by omega
theorem pt1 : g62 1 = g13 1 ∧ (g13 1).isSome = true := by constructor <;> kernel_rfl
theorem pt2 : g62 2 = g13 2 ∧ (g13 2).isSome = true := by constructor <;> kernel_rfl
theorem pt3 : g62 3 = g13 3 ∧ (g13 3).isSome = true := by constructor <;> kernel_rfl
theorem pt4 : g62 4 = g13 4 ∧ (g13 4).isSome = true := by constructor <;> kernel_rfl
theorem pt5 : g62 5 = g13 5 ∧ (g13 5).isSome = true := by constructor <;> kernel_rfl
theorem pt6 : g62 6 = g13 6 ∧ (g13 6).isSome = true := by constructor <;> kernel_rfl
theorem pt7 : g62 7 = g13 7 ∧ (g13 7).isSome = true := by constructor <;> kernel_rfl
/-- The texts of 1 to 7 are told alike. -/
theorem pt {p : Int} (h : 1 ≤ p) (h' : p ≤ 7) : ∃ s, g62 p = some ((s, ()), ()) ∧ g13 p = some ((s, ()), ()) := by
  have : g62 p = g13 p ∧ (g13 p).isSome = true := by
    rcases range17 h h' with rfl | rfl | rfl | rfl | rfl | rfl | rfl
    · exact pt1
    · exact pt2
    · exact pt3
    · exact pt4
    · exact pt5
    · exact pt6
    · exact pt7
  obtain ⟨h1, h2⟩ := this
  obtain ⟨⟨⟨s, ⟨⟩⟩, ⟨⟩⟩, e⟩ := Option.isSome_iff_exists.mp h2
  exact ⟨s, h1.trans e, e⟩

noncomputable def stp (s : ByteArray) (i : Nat) : (ByteArray × (Int × Unit)) × Unit := ((s, ((((i : Int) + 1)), ())), ())
theorem loops (s : ByteArray) : ∃ n : Int, g15 s = some ((n, ()), ()) ∧ g63 s = some ((n, ()), ()) := by
  have txt : ∀ i : Nat, ∃ t, i < 7 → g62 ((i : Int) + 1) = some ((t, ()), ()) ∧ g13 ((i : Int) + 1) = some ((t, ()), ()) := by
    intro i
    by_cases h : i < 7
    · obtain ⟨t, h1, h2⟩ := pt (p := (i : Int) + 1) (by omega) (by omega)
      exact ⟨t, fun _ => ⟨h1, h2⟩⟩
    · exact ⟨s, fun k => absurd k h⟩
  obtain ⟨tx, htx⟩ := Classical.axiomOfChoice txt
  have wi : ∀ i : Nat, i < 7 → wI ((i : Int) + 1 + 1) = ((i + 1 : Nat) : Int) + 1 := by
    intro i hi
    rw [wI_id (by omega) (by omega)]; simp
  have A := scan (step := s15_L0) (stp s) 7 (fun i => !strEq (tx i) s) (fun i => .inl ((((i : Int) + 1, ()), ()))) (.inr (.inl ((), ())))
    (fun i hi hk => by
      show q15_L0 s ((i : Int) + 1) = _
      unfold q15_L0
      rw [bif_t (by simp; omega), (htx i hi).2]
      simp only [Option.bind_some]
      rw [bif_f (by simpa using hk), wi i hi]; rfl)
    (fun i hi hk => by
      show q15_L0 s ((i : Int) + 1) = _
      unfold q15_L0
      rw [bif_t (by simp; omega), (htx i hi).2]
      simp only [Option.bind_some]
      rw [bif_t (by simpa using hk)])
    (by
      show q15_L0 s ((7 : Nat) + 1 : Int) = _
      unfold q15_L0
      rw [bif_f (by decide)])
  have B := scan (step := s63_L0) (stp s) 7 (fun i => !strEq (tx i) s) (fun i => .inl ((((i : Int) + 1, ()), ()))) (.inr (.inl ((), ())))
    (fun i hi hk => by
      show q63_L0 s ((i : Int) + 1) = _
      unfold q63_L0
      rw [bif_t (by simp; omega), (htx i hi).1]
      simp only [Option.bind_some]
      rw [bif_f (by simpa using hk), wi i hi]; rfl)
    (fun i hi hk => by
      show q63_L0 s ((i : Int) + 1) = _
      unfold q63_L0
      rw [bif_t (by simp; omega), (htx i hi).1]
      simp only [Option.bind_some]
      rw [bif_t (by simpa using hk)])
    (by
      show q63_L0 s ((7 : Nat) + 1 : Int) = _
      unfold q63_L0
      rw [bif_f (by decide)])
  have same : fixO s15_L0 (stp s 0) = fixO s63_L0 (stp s 0) ∧ (∃ d, fixO s15_L0 (stp s 0) = some d) := by
    rcases A with ⟨i, hi, ki, li, ei⟩ | ⟨ai, ei⟩
    · rcases B with ⟨j, hj, kj, lj, ej⟩ | ⟨aj, ej⟩
      · have : i = j := by
          rcases Nat.lt_trichotomy i j with h | h | h
          · have := lj i h; rw [ki] at this; cases this
          · exact h
          · have := li j h; rw [kj] at this; cases this
        subst this
        exact ⟨ei.trans ej.symm, _, ei⟩
      · have := aj i hi; rw [ki] at this; cases this
    · rcases B with ⟨j, hj, kj, lj, ej⟩ | ⟨aj, ej⟩
      · have := ai j hj; rw [kj] at this; cases this
      · exact ⟨ei.trans ej.symm, _, ei⟩
  obtain ⟨e1, d, e2⟩ := same
  have i0 : ((s, ((1 : Int), ())), ()) = stp s 0 := rfl
  unfold g15 g63
  rw [i0, ← e1, e2]
  rcases d with d | d | d
  · exact ⟨_, rfl, rfl⟩
  · exact ⟨_, rfl, rfl⟩
  · exact nomatch d

theorem law (s : ByteArray) : g4 s = some ((true, ()), ()) := by
  unfold g4 g16
  by_cases hsz : (s.size : Int) > 1048576
  · rw [bif_t (by simpa using hsz)]
  · rw [bif_f (by simpa using hsz)]
    obtain ⟨n, e1, e2⟩ := loops s
    rw [e1, e2]
    simp only [Option.bind_some]
    rw [bif_f (by simp)]

theorem plain : ∀ x, wfIns tysOf x → ∃ z, c4.F x = some ((true, ()), z) := by
  rintro ⟨s, ⟨⟩⟩ _
  exact ⟨(), law s⟩

end Go.VE.VFnExactPermOf
