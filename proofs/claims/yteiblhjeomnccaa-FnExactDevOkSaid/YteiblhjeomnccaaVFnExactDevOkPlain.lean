import Derived.Test.YteiblhjeomnccaaVFnExactDevOk
import Derived.Test.YteiblhjeomnccaaVeY
/- laws.FnExactDevOk returns true: in plain words, no program in sight. -/
set_option linter.unusedVariables false
set_option linter.unusedSimpArgs false
namespace Go.VE.VFnExactDevOk
open Go.VE
abbrev tysOf : List Ty := [(.pair (.sl (.int .u32)) (.pair (.sl (.int .u32)) .unit))]
theorem sz66 (x : L Int) (b : Int) (h : x.len ≤ 2 ^ 47) (hb : 0 ≤ b) (hb' : b ≤ 1048576) : f66 x b = if b < x.len then -1 else b - x.len := by
  have h47 : (2 : Nat) ^ 47 = 140737488355328 := by decide
  rw [h47] at h
  unfold f66
  rw [wI_id (by omega) (by omega)]
  by_cases hc : b < x.len
  · rw [bif_t (by simp; omega), if_pos hc]
  · rw [bif_f (by simp; omega), if_neg hc]

theorem to67 (x : L Int) (h : x.len ≤ 1048576) : ∃ r, g67 x = some ((r, ()), ()) ∧ r.len = x.len := by
  obtain ⟨r, h1, h2, _⟩ := copy_loop (step := s67_L0) (x := x) (fun i => x.get i) (fun i r hi hr => by
    simp only [s67_L0, q67_L0]
    rw [bif_t (by simpa using hi), bif_t (by simpa using hi), bif_t (by simpa [hr] using hi), wI_succ hi (by omega), Int.toNat_natCast]) (fun r => by
    simp only [s67_L0, q67_L0]
    rw [bif_f (by simp)]) (r0 := L.rep (x.len : Int).toNat (Ty.zero (.int .u32))) (by simp [L.rep])
  refine ⟨r, ?_, h2⟩
  unfold g67
  rw [bif_t (by simp; omega), h1]
  rfl

theorem eq69 (x : L Int) (h : x.len ≤ 1048576) : g69 x x = some ((true, ()), ()) := by
  have h1 := eq_loop (step := s69_L0) (x := x) (y := x) (fun i hi => by
    simp only [s69_L0, q69_L0]
    rw [bif_t (by simpa using hi), bif_t (by simpa using hi), bif_t (by simpa using hi), bif_f (by simp), wI_succ hi (by omega)]) (by
    simp only [s69_L0, q69_L0]
    rw [bif_f (by simp)])
  unfold g69
  rw [bif_f (by simp), h1]
  rfl

theorem law (x : L Int × (L Int × Unit)) (h1 : x.1.len ≤ 2 ^ 47) (h2 : x.2.1.len ≤ 2 ^ 47) : g7 x = some ((true, ()), ()) := by
  unfold g7
  by_cases hz : f24 x 1048576 < 0
  · rw [bif_t (by simpa using hz)]
  · rw [bif_f (by simpa using hz)]
    unfold f24 at hz
    rw [sz66 _ _ h1 (by omega) (by omega)] at hz
    have a1 : ¬ (1048576 : Int) < x.1.len := by
      intro hc
      rw [if_pos hc] at hz
      simp at hz
    rw [if_neg a1, bif_f (by simp; omega), sz66 _ _ h2 (by omega) (by omega)] at hz
    have a2 : ¬ (1048576 : Int) - x.1.len < x.2.1.len := by
      intro hc
      rw [if_pos hc] at hz
      simp at hz
    obtain ⟨r1, e1, l1⟩ := to67 x.1 (by omega)
    obtain ⟨r2, e2, l2⟩ := to67 x.2.1 (by omega)
    have h26 : g26 x = some (((r1, (r2, ())), ()), ()) := by
      unfold g26
      rw [e1, e2]
      rfl
    have h28 : g28 (r1, (r2, ())) (r1, (r2, ())) = some ((true, ()), ()) := by
      unfold g28
      simp only
      rw [eq69 r1 (by omega), eq69 r2 (by omega)]
      rfl
    rw [h26]
    simp only [Option.bind_some]
    have h27 : f27 (r1, (r2, ())) = f25 (r1, (r2, ())) := rfl
    rw [h27, h28]
    simp

theorem plain : ∀ x, wfIns tysOf x → ∃ z, c7.F x = some ((true, ()), z) := by
  rintro ⟨x, ⟨⟩⟩ ⟨⟨hw1, hw2, _⟩, _⟩
  exact ⟨(), law x hw1.1 hw2.1⟩

end Go.VE.VFnExactDevOk
