import Derived.Test.YtnjlpdagdedbaaaVFnExactPermText
import Derived.Test.YtnjlpdagdedbaaaVfY
/- laws.FnExactPermText returns true: in plain words, no program in sight. -/
set_option linter.unusedVariables false
set_option linter.unusedSimpArgs false
namespace Go.VE.VFnExactPermText
open Go.VE
abbrev tysOf : List Ty := [(.int .i64)]
theorem strEq_self (s : ByteArray) : strEq s s = true := by unfold strEq; simp
theorem range17 {p : Int} (h : 1 ≤ p) (h' : p ≤ 7) : p = 1 ∨ p = 2 ∨ p = 3 ∨ p = 4 ∨ p = 5 ∨ p = 6 ∨ p = 7 := by omega
theorem pt1 : g62 1 = g13 1 ∧ (g13 1).isSome = true := by constructor <;> kernel_rfl
theorem pt2 : g62 2 = g13 2 ∧ (g13 2).isSome = true := by constructor <;> kernel_rfl
theorem pt3 : g62 3 = g13 3 ∧ (g13 3).isSome = true := by constructor <;> kernel_rfl
theorem pt4 : g62 4 = g13 4 ∧ (g13 4).isSome = true := by constructor <;> kernel_rfl
theorem pt5 : g62 5 = g13 5 ∧ (g13 5).isSome = true := by constructor <;> kernel_rfl
theorem pt6 : g62 6 = g13 6 ∧ (g13 6).isSome = true := by constructor <;> kernel_rfl
theorem pt7 : g62 7 = g13 7 ∧ (g13 7).isSome = true := by constructor <;> kernel_rfl
/-- The texts of 1 to 7 are told alike. -/
theorem pt {p : Int} (h : 1 ≤ p) (h' : p ≤ 7) : ∃ s, g62 p = some ((s, ()), ()) ∧ g13 p = some ((s, ()), ()) := by
  have : g62 p = g13 p ∧ (g13 p).isSome = true := by
    rcases range17 h h' with rfl | rfl | rfl | rfl | rfl | rfl | rfl
    · exact pt1
    · exact pt2
    · exact pt3
    · exact pt4
    · exact pt5
    · exact pt6
    · exact pt7
  obtain ⟨h1, h2⟩ := this
  obtain ⟨⟨⟨s, ⟨⟩⟩, ⟨⟩⟩, e⟩ := Option.isSome_iff_exists.mp h2
  exact ⟨s, h1.trans e, e⟩

theorem law (p : Int) : g3 p = some ((true, ()), ()) := by
  unfold g3 g14
  by_cases h : 1 ≤ p ∧ p ≤ 7
  · obtain ⟨s, e1, e2⟩ := pt h.1 h.2
    rw [e2, e1, bif_f (by simp [f61]; omega)]
    simp only [Option.bind_some]
    rw [bif_f (by rw [strEq_self]; rfl)]
  · have e : g13 p = some ((⟨#[]⟩, ()), ()) := by
      unfold g13
      rw [bif_t (by simp [f60]; omega)]
    rw [e, bif_t (by simp [f61]; omega)]
    simp only [Option.bind_some]
    rw [bif_f (by rw [strEq_self]; rfl)]

theorem plain : ∀ x, wfIns tysOf x → ∃ z, c3.F x = some ((true, ()), z) := by
  rintro ⟨p, ⟨⟩⟩ _
  exact ⟨(), law p⟩

end Go.VE.VFnExactPermText
