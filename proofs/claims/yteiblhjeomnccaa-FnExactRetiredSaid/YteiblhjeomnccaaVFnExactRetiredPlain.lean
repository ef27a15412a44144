import Derived.Test.YteiblhjeomnccaaVFnExactRetired
import Derived.Test.YteiblhjeomnccaaVeY
/- laws.FnExactRetired returns true: in plain words, no program in sight. -/
set_option linter.unusedVariables false
set_option linter.unusedSimpArgs false
namespace Go.VE.VFnExactRetired
open Go.VE
abbrev tysOf : List Ty := [(.sl (.pair (.int .i64) (.pair (.int .i64) (.pair (.int .u32) (.pair (.int .i64) (.pair (.int .i64) (.pair (.int .i64) (.pair (.int .u32) .unit)))))))), (.int .i64)]
abbrev Ev : Type := Int × (Int × (Int × (Int × (Int × (Int × (Int × Unit))))))

theorem sz29 (x : L Ev) (b : Int) (h : x.len ≤ 2 ^ 47) (hb : 0 ≤ b) (hb' : b ≤ 1048576) : f29 x b = if b < x.len then -1 else b - x.len := by
  have h47 : (2 : Nat) ^ 47 = 140737488355328 := by decide
  rw [h47] at h
  unfold f29
  rw [wI_id (by omega) (by omega)]
  by_cases hc : b < x.len
  · rw [bif_t (by simp; omega), if_pos hc]
  · rw [bif_f (by simp; omega), if_neg hc]

theorem to31 (x : L Ev) (h : x.len ≤ 1048576) : ∃ r : L Ev, g31 x = some ((r, ()), ()) ∧ r.len = x.len ∧ ∀ i, i < x.len → r.get i = x.get i := by
  obtain ⟨r, h1, h2, h3⟩ := copy_loop (step := s31_L0) (x := x) (fun i => x.get i) (fun i r hi hr => by
    simp only [s31_L0, q31_L0]
    rw [bif_t (by simpa using hi), bif_t (by simpa using hi), bif_t (by simpa [hr] using hi), wI_succ hi (by omega), Int.toNat_natCast]
    rfl) (fun r => by
    simp only [s31_L0, q31_L0]
    rw [bif_f (by simp)]) (r0 := L.rep (x.len : Int).toNat (Ty.zero (.pair (.int .i64) (.pair (.int .i64) (.pair (.int .u32) (.pair (.int .i64) (.pair (.int .i64) (.pair (.int .i64) (.pair (.int .u32) .unit))))))))) (by simp [L.rep])
  refine ⟨r, ?_, h2, h3⟩
  unfold g31
  rw [bif_t (by simp; omega), h1]
  rfl

theorem eq33 (x : L Ev) (h : x.len ≤ 1048576) : g33 x x = some ((true, ()), ()) := by
  have h1 := eq_loop (step := s33_L0) (x := x) (y := x) (fun i hi => by
    simp only [s33_L0, q33_L0]
    rw [bif_t (by simpa using hi), bif_t (by simpa using hi), bif_t (by simpa using hi), bif_f (by simp [f72]), wI_succ hi (by omega)]) (by
    simp only [s33_L0, q33_L0]
    rw [bif_f (by simp)])
  unfold g33
  rw [bif_f (by simp), h1]
  rfl

theorem f71_62 (n : Int) : f71 n = f62 n 0 50000 := rfl

theorem main (x : L Ev) (t : Int) : ∃ n, g34 x t = some ((n, ()), ()) ∧ g35 x t = some ((n, ()), ()) := by
  unfold g34 g35
  by_cases hb : (x.len : Int) > 50000
  · rw [bif_t (by simpa using hb), bif_t (by simpa using hb)]
    exact ⟨0, rfl, rfl⟩
  · rw [bif_f (by simpa using hb), bif_f (by simpa using hb)]
    obtain ⟨d, e, h1, h2, n, h3, h4⟩ := fixO_sim (s1 := s34_L0) (s2 := s35_L0)
      (fun a b => ∃ (i : Nat) (n : Int), a = ((x, (t, (n, ((i : Int), ())))), ()) ∧ b = ((t, (n, (x, ((x.len : Int), ((i : Int), ()))))), ()) ∧ i ≤ x.len)
      (fun d e => ∃ n, d = .inl ((n, ()), ()) ∧ e = .inl ((n, ()), ())) (fun a => x.len - a.1.2.2.2.1.toNat) (by
        rintro _ _ ⟨i, n, rfl, rfl, hi⟩
        simp only [s34_L0, q34_L0, s35_L0, q35_L0]
        by_cases h : i < x.len
        · left
          have hb1 : (decide ((0 : Int) ≤ (i : Int)) && decide ((i : Int) < (x.len : Int))) = true := by simpa using h
          have hb2 : decide ((i : Int) < (x.len : Int)) = true := by simpa using h
          simp only [hb1, hb2, cond_true, f71_62, wI_succ h (by omega : x.len ≤ 2 ^ 47), Int.toNat_natCast, f73]
          have fin : ∀ m : Int, ∃ x' y', some (Sum.inl (α := ((L Ev × (Int × (Int × (Int × Unit)))) × Unit)) (β := (((Int × Unit) × Unit) ⊕ Empty)) ((x, (t, (m, ((((i + 1 : Nat) : Int)), ())))), ())) = some (.inl x') ∧ some (Sum.inl (α := ((Int × (Int × (L Ev × (Int × (Int × Unit))))) × Unit)) (β := (((Int × Unit) × Unit) ⊕ Empty)) ((t, (m, (x, ((x.len : Int), (((i + 1 : Nat) : Int), ()))))), ())) = some (.inl y') ∧
              (∃ (i : Nat) (n : Int), x' = ((x, (t, (n, ((i : Int), ())))), ()) ∧ y' = ((t, (n, (x, ((x.len : Int), ((i : Int), ()))))), ()) ∧ i ≤ x.len) ∧ x.len - x'.1.2.2.2.1.toNat < x.len - i :=
            fun m => ⟨_, _, rfl, rfl, ⟨i + 1, m, rfl, rfl, h⟩, by simp only [Int.toNat_natCast]; omega⟩
          cases f62 (x.get i).1 0 50000 <;> cases f62 (x.get i).2.1 0 50000 <;> cases decide (wI ((x.get i).1 + (x.get i).2.1) ≤ t) <;> simp only [cond_true, cond_false] <;> exact fin _
        · right
          rw [bif_f (by simp; omega), bif_f (by simp; omega)]
          exact ⟨_, _, rfl, rfl, n, rfl, rfl⟩) ((x, (t, ((0 : Int), ((0 : Int), ())))), ()) ((t, ((0 : Int), (x, ((x.len : Int), ((0 : Int), ()))))), ()) ⟨0, 0, rfl, rfl, Nat.zero_le _⟩
    rw [h1, h2, h3, h4]
    exact ⟨n, rfl, rfl⟩

theorem law (x : L Ev) (t : Int) (hw : x.len ≤ 2 ^ 47) : g9 x t = some ((true, ()), ()) := by
  unfold g9
  by_cases hz : f29 x 1048576 < 0
  · rw [bif_t (by simpa using hz)]
  · rw [bif_f (by simpa using hz)]
    rw [sz29 _ _ hw (by omega) (by omega)] at hz
    have a1 : ¬ (1048576 : Int) < x.len := by
      intro hc
      rw [if_pos hc] at hz
      simp at hz
    obtain ⟨r, e1, l1, _⟩ := to31 x (by omega)
    obtain ⟨n, m1, m2⟩ := main r t
    rw [e1]
    simp only [Option.bind_some]
    rw [m1]
    simp only [Option.bind_some]
    rw [m2]
    simp only [Option.bind_some]
    rw [bif_f (by simp), eq33 r (by omega)]
    simp

theorem plain : ∀ x, wfIns tysOf x → ∃ z, c9.F x = some ((true, ()), z) := by
  rintro ⟨x, t, ⟨⟩⟩ ⟨hw, _⟩
  exact ⟨(), law x t hw.1⟩

end Go.VE.VFnExactRetired
