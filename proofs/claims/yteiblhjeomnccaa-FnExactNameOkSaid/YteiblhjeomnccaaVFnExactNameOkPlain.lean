import Derived.Test.YteiblhjeomnccaaVFnExactNameOk
import Derived.Test.YteiblhjeomnccaaVeY
/- laws.FnExactNameOk returns true: in plain words, no program in sight. -/
set_option linter.unusedVariables false
set_option linter.unusedSimpArgs false
namespace Go.VE.VFnExactNameOk
open Go.VE
abbrev tysOf : List Ty := [.str]
theorem bt_range (s : ByteArray) (i : Int) : 0 ≤ bt s i ∧ bt s i ≤ 255 := by
  unfold bt
  have := ((s[i.toNat]?).getD 0).toNat_lt
  omega

/-- From a place on, all bytes are small letters. -/
def okFrom (s : ByteArray) (i : Int) : Prop := ∀ j : Int, i ≤ j → j < s.size → 97 ≤ bt s j ∧ bt s j ≤ 122

theorem okFrom_step {s : ByteArray} {i : Int} (h : 97 ≤ bt s i ∧ bt s i ≤ 122) : okFrom s (i + 1) → okFrom s i := by
  intro h' j h1 h2
  by_cases e : j = i
  · subst e; exact h
  · exact h' j (by omega) h2

theorem okFrom_back {s : ByteArray} {i : Int} (h' : okFrom s i) : okFrom s (i + 1) := fun j h1 h2 => h' j (by omega) h2

theorem end60 (s : ByteArray) (hs : s.size ≤ 8) : ∃ b, g60 s = some ((b, ()), ()) ∧ (b = true ↔ okFrom s 0 ∧ 1 ≤ s.size) := by
  obtain ⟨d, h1, h2⟩ := fixO_rel (step := s60_L0) (fun x => ((s.size : Int) - x.1.2.1).toNat) (fun x => x.1.1 = s ∧ 0 ≤ x.1.2.1 ∧ x.1.2.1 ≤ s.size)
    (fun x d => match d with
      | .inl y => y.1.1 = false ∧ ¬ okFrom s x.1.2.1
      | .inr (.inl y) => y.1.1 = s ∧ okFrom s x.1.2.1
      | .inr (.inr _) => False) (by
      rintro ⟨⟨(t : ByteArray), (i : Int), ⟨⟩⟩, ⟨⟩⟩ ⟨h1, h2, h3⟩
      simp only at h1 h2 h3
      subst h1
      simp only [s60_L0, q60_L0]
      by_cases hi : i < t.size
      · rw [bif_t (by simpa using hi), bif_t (by simp; omega), bif_t (by simp; omega)]
        have hb := bt_range t i
        rw [wI_id (by omega) (by omega), wI_id (n := i + 1) (by omega) (by omega)]
        by_cases hr : 97 ≤ bt t i ∧ bt t i ≤ 122
        · left
          have e : f62 (bt t i) 97 122 = true := by
            unfold f62; rw [bif_t (by simpa using hr.1)]; simpa using hr.2
          rw [e]
          refine ⟨_, rfl, ⟨rfl, by simp only; omega, by simp only; omega⟩, by simp only; omega, fun d hd => ?_⟩
          match d, hd with
          | .inl y, hd => exact ⟨hd.1, fun h => hd.2 (okFrom_back h)⟩
          | .inr (.inl y), hd => exact ⟨hd.1, okFrom_step hr hd.2⟩
        · right
          have e : f62 (bt t i) 97 122 = false := by
            unfold f62
            by_cases h97 : bt t i ≥ 97
            · rw [bif_t (by simpa using h97)]; simp; omega
            · rw [bif_f (by simp; omega)]
          rw [e]
          exact ⟨_, rfl, rfl, fun h => hr (h i (Int.le_refl _) hi)⟩
      · right
        rw [bif_f (by simp; omega)]
        exact ⟨_, rfl, rfl, fun j h4 h5 => by omega⟩) ((s, 0, ()), ()) ⟨rfl, by simp, by simp⟩
  unfold g60
  rw [h1]
  simp only [Option.bind_some]
  match d, h2 with
  | .inl y, h2 => exact ⟨_, rfl, by rw [h2.1]; simp only [Bool.false_eq_true, false_iff]; exact fun h => h2.2 h.1⟩
  | .inr (.inl y), h2 =>
    refine ⟨_, rfl, ?_⟩
    rw [h2.1]
    unfold f62
    by_cases h0 : 1 ≤ s.size
    · rw [bif_t (by simp; omega)]
      simp only [decide_eq_true_eq]
      exact ⟨fun _ => ⟨h2.2, h0⟩, fun _ => by omega⟩
    · rw [bif_f (by simp; omega)]
      simp only [Bool.false_eq_true, false_iff]
      exact fun h => h0 h.2

theorem end98 (s : ByteArray) (hs : s.size ≤ 2 ^ 47) : ∃ b, g98 s = some ((b, ()), ()) ∧ (b = true ↔ okFrom s 0 ∧ 1 ≤ s.size ∧ s.size ≤ 12) := by
  have h47 : (2 : Nat) ^ 47 = 140737488355328 := by decide
  rw [h47] at hs
  obtain ⟨d, h1, h2⟩ := fixO_rel (step := s98_L0) (fun x => ((s.size : Int) - x.1.2.2.1).toNat) (fun x => x.1.1 = s ∧ x.1.2.1 = s.size ∧ 0 ≤ x.1.2.2.1 ∧ x.1.2.2.1 ≤ s.size)
    (fun x d => match d with
      | .inl y => y.1.1 = false ∧ ¬ okFrom s x.1.2.2.1
      | .inr (.inl y) => y.1.1 = s ∧ okFrom s x.1.2.2.1
      | .inr (.inr _) => False) (by
      rintro ⟨⟨(t : ByteArray), (n : Int), (i : Int), ⟨⟩⟩, ⟨⟩⟩ ⟨h1, hn, h2, h3⟩
      simp only at h1 h2 h3 hn
      subst h1 hn
      simp only [s98_L0, q98_L0]
      by_cases hi : i < t.size
      · rw [bif_t (by simpa using hi), bif_t (by simp; omega)]
        rw [wI_id (n := i + 1) (by omega) (by omega)]
        by_cases hr : 97 ≤ bt t i ∧ bt t i ≤ 122
        · left
          rw [bif_f (by simp; omega), bif_t (by simp; omega), bif_f (by simp; omega)]
          refine ⟨_, rfl, ⟨rfl, rfl, by simp only; omega, by simp only; omega⟩, by simp only; omega, fun d hd => ?_⟩
          match d, hd with
          | .inl y, hd => exact ⟨hd.1, fun h => hd.2 (okFrom_back h)⟩
          | .inr (.inl y), hd => exact ⟨hd.1, okFrom_step hr hd.2⟩
        · right
          by_cases h97 : bt t i < 97
          · rw [bif_t (by simpa using h97)]
            exact ⟨_, rfl, rfl, fun h => hr (h i (Int.le_refl _) hi)⟩
          · rw [bif_f (by simp; omega), bif_t (by simp; omega), bif_t (by simp; omega)]
            exact ⟨_, rfl, rfl, fun h => hr (h i (Int.le_refl _) hi)⟩
      · right
        rw [bif_f (by simp; omega)]
        exact ⟨_, rfl, rfl, fun j h4 h5 => by omega⟩) ((s, s.size, 0, ()), ()) ⟨rfl, rfl, by simp, by simp⟩
  unfold g98
  rw [h1]
  simp only [Option.bind_some]
  match d, h2 with
  | .inl y, h2 => exact ⟨_, rfl, by rw [h2.1]; simp only [Bool.false_eq_true, false_iff]; exact fun h => h2.2 h.1⟩
  | .inr (.inl y), h2 =>
    refine ⟨_, rfl, ?_⟩
    rw [h2.1]
    unfold f63
    by_cases h0 : 1 ≤ s.size
    · rw [bif_t (by simp; omega)]
      simp only [decide_eq_true_eq]
      exact ⟨fun h => ⟨h2.2, h0, by omega⟩, fun h => by omega⟩
    · rw [bif_f (by simp; omega)]
      simp only [Bool.false_eq_true, false_iff]
      exact fun h => h0 h.2.1

theorem law (s : ByteArray) (hw : s.size ≤ 2 ^ 47) : g4 s = some ((true, ()), ()) := by
  unfold g4
  by_cases hbig : (s.size : Int) > 1048576
  · rw [bif_t (by simpa using hbig)]
  · rw [bif_f (by simpa using hbig)]
    obtain ⟨b2, e2, r2⟩ := end98 s hw
    have h19 : g19 s = some ((decide (b2 = true ∧ s.size ≤ 8), ()), ()) := by
      unfold g19 g61
      rw [e2]
      simp only [Option.bind_some]
      cases b2 with
      | true => simp; omega
      | false => simp
    have h18 : g18 s = some ((decide (b2 = true ∧ s.size ≤ 8), ()), ()) := by
      unfold g18
      by_cases h8 : s.size ≤ 8
      · obtain ⟨b1, e1, r1⟩ := end60 s h8
        rw [bif_t (by simp; omega), e1]
        simp only [Option.bind_some]
        congr 3
        cases b1 with
        | true =>
          have := r1.mp rfl
          have h2 := r2.mpr ⟨this.1, this.2, by omega⟩
          simp [h2, h8]
        | false =>
          cases b2 with
          | false => simp
          | true =>
            have := r2.mp rfl
            have := r1.mpr ⟨this.1, this.2.1⟩
            cases this
      · rw [bif_f (by simp; omega)]
        simp [h8]
    rw [h18, h19]
    simp

theorem plain : ∀ x, wfIns tysOf x → ∃ z, c4.F x = some ((true, ()), z) := by
  rintro ⟨s, ⟨⟩⟩ ⟨hw, _⟩
  exact ⟨(), law s hw⟩

end Go.VE.VFnExactNameOk
