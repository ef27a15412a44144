import Derived.Test.YteiblhjeomnccaaVFnExactWorstPad
import Derived.Test.YteiblhjeomnccaaVeY
/- laws.FnExactWorstPad returns true: in plain words, no program in sight. -/
set_option linter.unusedVariables false
set_option linter.unusedSimpArgs false
namespace Go.VE.VFnExactWorstPad
open Go.VE
abbrev tysOf : List Ty := [(.pair (.int .i64) (.pair (.int .i64) (.pair (.int .i64) (.pair (.int .i64) (.pair (.int .i64) (.pair (.int .i64) (.pair (.int .i64) .unit))))))), (.pair (.int .i64) (.pair (.int .i64) (.pair (.int .i64) .unit))), (.sl (.pair (.int .i64) (.pair (.int .i64) (.pair (.int .i64) (.pair (.int .i64) .unit)))))]
abbrev Co : Type := Int × (Int × (Int × (Int × (Int × (Int × (Int × Unit))))))
abbrev Ch : Type := Int × (Int × (Int × (Int × Unit)))

theorem f63_62 : f63 = f62 := rfl
theorem f85_81 (c : Co) : f85 c = f81 c := by
  unfold f85 f81
  rw [f63_62]
  generalize f62 c.1 1 20 = b1
  generalize f62 c.2.1 0 50 = b2
  generalize f62 c.2.2.1 0 50 = b3
  generalize f62 c.2.2.2.1 0 50 = b4
  generalize f62 c.2.2.2.2.1 0 50 = b5
  generalize f62 c.2.2.2.2.2.1 0 50 = b6
  generalize f62 c.2.2.2.2.2.2.1 0 50 = b7
  cases b1 <;> cases b2 <;> cases b3 <;> cases b4 <;> cases b5 <;> cases b6 <;> cases b7 <;> rfl

theorem f62_iff (a b c : Int) : f62 a b c = true ↔ b ≤ a ∧ a ≤ c := by
  unfold f62
  by_cases h : a ≥ b
  · rw [bif_t (by simpa using h)]; simp; omega
  · rw [bif_f (by simpa using h)]; simp; omega

theorem pow16 (n : Int) (h : f62 n 1 16 = true) : f100 n = ((n == 1) || ((n == 2) || ((n == 4) || ((n == 8) || (n == 16))))) := by
  obtain ⟨h1, h2⟩ := (f62_iff _ _ _).mp h
  have : n = 1 ∨ n = 2 ∨ n = 3 ∨ n = 4 ∨ n = 5 ∨ n = 6 ∨ n = 7 ∨ n = 8 ∨ n = 9 ∨ n = 10 ∨ n = 11 ∨ n = 12 ∨ n = 13 ∨ n = 14 ∨ n = 15 ∨ n = 16 := by omega
  rcases this with rfl | rfl | rfl | rfl | rfl | rfl | rfl | rfl | rfl | rfl | rfl | rfl | rfl | rfl | rfl | rfl <;> decide +kernel

theorem pow32 (n : Int) (h : f62 n 4 32 = true) : f100 n = ((n == 4) || ((n == 8) || ((n == 16) || (n == 32)))) := by
  obtain ⟨h1, h2⟩ := (f62_iff _ _ _).mp h
  have : n = 4 ∨ n = 5 ∨ n = 6 ∨ n = 7 ∨ n = 8 ∨ n = 9 ∨ n = 10 ∨ n = 11 ∨ n = 12 ∨ n = 13 ∨ n = 14 ∨ n = 15 ∨ n = 16 ∨ n = 17 ∨ n = 18 ∨ n = 19 ∨ n = 20 ∨ n = 21 ∨ n = 22 ∨ n = 23 ∨ n = 24 ∨ n = 25 ∨ n = 26 ∨ n = 27 ∨ n = 28 ∨ n = 29 ∨ n = 30 ∨ n = 31 ∨ n = 32 := by omega
  rcases this with rfl | rfl | rfl | rfl | rfl | rfl | rfl | rfl | rfl | rfl | rfl | rfl | rfl | rfl | rfl | rfl | rfl | rfl | rfl | rfl | rfl | rfl | rfl | rfl | rfl | rfl | rfl | rfl | rfl <;> decide +kernel

theorem f82_eq (s : Int × (Int × (Int × Unit))) : f82 s = (((s.1 == 1) || ((s.1 == 2) || ((s.1 == 4) || ((s.1 == 8) || (s.1 == 16))))) && (f62 s.2.1 1 4 && ((s.2.2.1 == 4) || ((s.2.2.1 == 8) || ((s.2.2.1 == 16) || (s.2.2.1 == 32)))))) := by
  unfold f82
  generalize f62 s.2.1 1 4 = w
  generalize (s.1 == 1) = a1
  generalize (s.1 == 2) = a2
  generalize (s.1 == 4) = a3
  generalize (s.1 == 8) = a4
  generalize (s.1 == 16) = a5
  generalize (s.2.2.1 == 4) = l1
  generalize (s.2.2.1 == 8) = l2
  generalize (s.2.2.1 == 16) = l3
  generalize (s.2.2.1 == 32) = l4
  cases a1 <;> cases a2 <;> cases a3 <;> cases a4 <;> cases a5 <;> cases l1 <;> cases l2 <;> cases l3 <;> cases l4 <;> cases w <;> rfl

theorem f86_82 (s : Int × (Int × (Int × Unit))) : f86 s = f82 s := by
  rw [f82_eq]
  unfold f86
  rw [f63_62]
  have hs : (bif f62 s.1 1 16 then f100 s.1 else false) = ((s.1 == 1) || ((s.1 == 2) || ((s.1 == 4) || ((s.1 == 8) || (s.1 == 16))))) := by
    cases h : f62 s.1 1 16 with
    | true => exact pow16 _ h
    | false =>
      have h' : ¬ (1 ≤ s.1 ∧ s.1 ≤ 16) := fun q => by rw [(f62_iff _ _ _).mpr q] at h; cases h
      have e : ∀ k : Int, 1 ≤ k → k ≤ 16 → (s.1 == k) = false := fun k h1 h2 => by simp; omega
      rw [e 1 (by omega) (by omega), e 2 (by omega) (by omega), e 4 (by omega) (by omega), e 8 (by omega) (by omega), e 16 (by omega) (by omega)]
      rfl
  have hl : (bif f62 s.2.2.1 4 32 then f100 s.2.2.1 else false) = ((s.2.2.1 == 4) || ((s.2.2.1 == 8) || ((s.2.2.1 == 16) || (s.2.2.1 == 32)))) := by
    cases h : f62 s.2.2.1 4 32 with
    | true => exact pow32 _ h
    | false =>
      have h' : ¬ (4 ≤ s.2.2.1 ∧ s.2.2.1 ≤ 32) := fun q => by rw [(f62_iff _ _ _).mpr q] at h; cases h
      have e : ∀ k : Int, 4 ≤ k → k ≤ 32 → (s.2.2.1 == k) = false := fun k h1 h2 => by simp; omega
      rw [e 4 (by omega) (by omega), e 8 (by omega) (by omega), e 16 (by omega) (by omega), e 32 (by omega) (by omega)]
      rfl
  rw [← hs, ← hl]
  generalize f62 s.1 1 16 = p1
  generalize f100 s.1 = p2
  generalize f62 s.2.1 1 4 = p3
  generalize f62 s.2.2.1 4 32 = p4
  generalize f100 s.2.2.1 = p5
  cases p1 <;> cases p2 <;> cases p3 <;> cases p4 <;> cases p5 <;> rfl

theorem f88_83 (c : Ch) : f88 c = !(f83 c) := rfl

/-- What is known of a row that is right. -/
theorem chan_of {c : Ch} (h : f83 c = true) : (c.1 = 0 ∧ c.2.2.2.1 = 0) ∨ (c.1 = 1 ∧ 1 ≤ c.2.2.2.1 ∧ c.2.2.2.1 ≤ 8) := by
  unfold f83 at h
  have step : ∀ {b : Bool} {x : Bool}, (bif b then false else x) = true → x = true := fun {b x} h => by cases b <;> simp_all
  have h := step (step (step h))
  by_cases h0 : c.1 = 0
  · rw [bif_t (by simpa using h0)] at h
    by_cases hd : c.2.2.2.1 = 0
    · exact .inl ⟨h0, hd⟩
    · rw [bif_f (by simpa using hd), bif_f (by simp [h0])] at h
      cases h
  · rw [bif_f (by simpa using h0)] at h
    by_cases h1 : c.1 = 1
    · rw [bif_t (by simpa using h1)] at h
      exact .inr ⟨h1, (f62_iff _ _ _).mp h⟩
    · rw [bif_f (by simpa using h1)] at h
      cases h

theorem find (x : L Ch) (hx : x.len ≤ 8) : ∃ n, g101_88 x () = some ((n, ()), ()) ∧ (n ≥ 0 ↔ ∃ j, j < x.len ∧ f83 (x.get j) = false) := by
  obtain ⟨d, h1, h2⟩ := fixO_rel (step := s101_88_L0) (fun a => x.len - a.1.2.2.2.1.toNat)
    (fun a => ∃ i : Nat, a = ((x, ((), ((x.len : Int), ((i : Int), ())))), ()) ∧ i ≤ x.len ∧ ∀ j, j < i → f83 (x.get j) = true)
    (fun _ d => match d with
      | .inl y => y.1.1 ≥ 0 ∧ ∃ j, j < x.len ∧ f83 (x.get j) = false
      | .inr (.inl _) => ∀ j, j < x.len → f83 (x.get j) = true
      | .inr (.inr _) => False) (by
      rintro _ ⟨i, rfl, hi, hok⟩
      simp only [s101_88_L0, q101_88_L0]
      by_cases h : i < x.len
      · have hb1 : (decide ((0 : Int) ≤ (i : Int)) && decide ((i : Int) < (x.len : Int))) = true := by simpa using h
        have hb2 : decide ((i : Int) < (x.len : Int)) = true := by simpa using h
        simp only [hb1, hb2, cond_true, f88_83, wI_succ h (by omega : x.len ≤ 2 ^ 47), Int.toNat_natCast]
        cases hf : f83 (x.get i) with
        | true =>
          left
          refine ⟨_, rfl, ⟨i + 1, rfl, h, fun j hj => ?_⟩, by simp only [Int.toNat_natCast]; omega, fun d hd => hd⟩
          by_cases e : j = i
          · rw [e]; exact hf
          · exact hok j (by omega)
        | false =>
          right
          exact ⟨_, rfl, by simp only; omega, i, h, hf⟩
      · right
        rw [bif_f (by simp; omega)]
        exact ⟨_, rfl, fun j hj => hok j (by omega)⟩) ((x, ((), ((x.len : Int), ((0 : Int), ())))), ()) ⟨0, rfl, Nat.zero_le _, fun j hj => absurd hj (Nat.not_lt_zero _)⟩
  unfold g101_88
  rw [h1]
  simp only [Option.bind_some]
  match d, h2 with
  | .inl y, h2 => exact ⟨_, rfl, fun _ => h2.2, fun _ => h2.1⟩
  | .inr (.inl y), h2 =>
    refine ⟨_, rfl, fun h => absurd h (by omega), fun ⟨j, h3, h4⟩ => ?_⟩
    rw [h2 j h3] at h4; cases h4

theorem bad (x : L Ch) (hx : x.len ≤ 8) (c : Co) (n : Int) (hb : ∃ j, j < x.len ∧ f83 (x.get j) = false) : fixO s43_L0 ((x, ((), (n, ((0 : Int), ())))), (c, ())) = some (.inl ((-1, ()), ())) := by
  obtain ⟨d, h1, rfl⟩ := fixO_rel (step := s43_L0) (fun a => x.len - a.1.2.2.2.1.toNat)
    (fun a => ∃ (i : Nat) (n : Int), a = ((x, ((), (n, ((i : Int), ())))), (c, ())) ∧ ∃ j, i ≤ j ∧ j < x.len ∧ f83 (x.get j) = false)
    (fun _ d => d = .inl ((-1, ()), ())) (by
      rintro _ ⟨i, n, rfl, j, h1, h2, h3⟩
      have h : i < x.len := by omega
      have hb1 : (decide ((0 : Int) ≤ (i : Int)) && decide ((i : Int) < (x.len : Int))) = true := by simpa using h
      have hb2 : decide ((i : Int) < (x.len : Int)) = true := by simpa using h
      simp only [s43_L0, q43_L0, hb1, hb2, cond_true, wI_succ h (by omega : x.len ≤ 2 ^ 47), Int.toNat_natCast]
      cases hf : f83 (x.get i) with
      | false => right; exact ⟨_, rfl, rfl⟩
      | true =>
        left
        have hne : j ≠ i := by rintro rfl; rw [hf] at h3; cases h3
        cases hk : ((x.get i).1 == 0) with
        | true => exact ⟨_, rfl, ⟨i + 1, _, rfl, j, by omega, h2, h3⟩, by simp only [Int.toNat_natCast]; omega, fun d hd => hd⟩
        | false => exact ⟨_, rfl, ⟨i + 1, _, rfl, j, by omega, h2, h3⟩, by simp only [Int.toNat_natCast]; omega, fun d hd => hd⟩)
    ((x, ((), (n, ((0 : Int), ())))), (c, ())) (by
      obtain ⟨j, h1, h2⟩ := hb
      exact ⟨0, n, rfl, j, Nat.zero_le _, h1, h2⟩)
  exact h1

theorem good (x : L Ch) (hx : x.len ≤ 8) (c : Co) (hc : 1 ≤ c.1 ∧ c.1 ≤ 20) (n : Int) (hok : ∀ j, j < x.len → f83 (x.get j) = true) :
    ∃ m, fixO s43_L0 ((x, ((), (n, ((0 : Int), ())))), (c, ())) = some (.inr (.inl ((m, ()), ()))) ∧ fixO s90_L0 (((), (n, (x, ((x.len : Int), ((0 : Int), ()))))), (c, ())) = some (.inl ((m, ()), ())) := by
  obtain ⟨d, e, h1, h2, m, rfl, rfl⟩ := fixO_sim (s1 := s43_L0) (s2 := s90_L0)
    (fun a b => ∃ (i : Nat) (n : Int), a = ((x, ((), (n, ((i : Int), ())))), (c, ())) ∧ b = (((), (n, (x, ((x.len : Int), ((i : Int), ()))))), (c, ())) ∧ i ≤ x.len)
    (fun d e => ∃ m, d = .inr (.inl ((m, ()), ())) ∧ e = .inl ((m, ()), ())) (fun a => x.len - a.1.2.2.2.1.toNat) (by
      rintro _ _ ⟨i, n, rfl, rfl, hi⟩
      by_cases h : i < x.len
      · left
        have hb0 : decide ((0 : Int) ≤ (i : Int)) = true := by simp
        have hb2 : decide ((i : Int) < (x.len : Int)) = true := by simpa using h
        have hf := hok i h
        simp only [s43_L0, q43_L0, s90_L0, q90_L0, hb0, hb2, Bool.and_self, cond_true, wI_succ h (by omega : x.len ≤ 2 ^ 47), Int.toNat_natCast, hf, Bool.not_true, cond_false]
        rcases chan_of hf with ⟨k0, d0⟩ | ⟨k1, d1, d2⟩
        · have e1 : f102 (x.get i) = 1 := by unfold f102; rw [if_neg (by omega)]
          have e2 : wI (c.1 * 1) = c.1 := by rw [Int.mul_one]; exact wI_id (by omega) (by omega)
          rw [bif_t (by simpa using k0), e1, e2]
          exact ⟨_, _, rfl, rfl, ⟨i + 1, _, rfl, rfl, h⟩, by simp only [Int.toNat_natCast]; omega⟩
        · have e1 : f102 (x.get i) = (x.get i).2.2.2.1 := by unfold f102; split <;> omega
          rw [bif_f (by simp [k1]), e1]
          exact ⟨_, _, rfl, rfl, ⟨i + 1, _, rfl, rfl, h⟩, by simp only [Int.toNat_natCast]; omega⟩
      · right
        simp only [s43_L0, q43_L0, s90_L0, q90_L0]
        rw [bif_f (by simp; omega), bif_f (by simp; omega)]
        exact ⟨_, _, rfl, rfl, n, rfl, rfl⟩) ((x, ((), (n, ((0 : Int), ())))), (c, ())) (((), (n, (x, ((x.len : Int), ((0 : Int), ()))))), (c, ())) ⟨0, n, rfl, rfl, Nat.zero_le _⟩
  exact ⟨m, h1, h2⟩

theorem main (c : Co) (s : Int × (Int × (Int × Unit))) (x : L Ch) : ∃ n, g43 c s x = some ((n, ()), ()) ∧ g47 c s x = some ((n, ()), ()) := by
  unfold g43 g47
  rw [f85_81, f86_82]
  cases hc : f81 c with
  | false => exact ⟨-1, rfl, rfl⟩
  | true =>
    cases hs : f82 s with
    | false => exact ⟨-1, rfl, rfl⟩
    | true =>
      simp only [Bool.not_true, cond_false]
      by_cases hb : (x.len : Int) > 8
      · rw [bif_t (by simpa using hb), bif_t (by simpa using hb)]
        exact ⟨-1, rfl, rfl⟩
      · rw [bif_f (by simpa using hb), bif_f (by simpa using hb)]
        have hx : x.len ≤ 8 := by omega
        obtain ⟨n, h1, h2⟩ := find x hx
        unfold g87_88
        rw [h1]
        simp only [Option.bind_some]
        by_cases hn : n ≥ 0
        · rw [bad x hx c _ (h2.mp hn), bif_t (by simpa using hn)]
          exact ⟨-1, rfl, rfl⟩
        · rw [bif_f (by simpa using hn)]
          have hok : ∀ j, j < x.len → f83 (x.get j) = true := fun j hj => by
            cases hf : f83 (x.get j) with
            | true => rfl
            | false => exact absurd (h2.mpr ⟨j, hj, hf⟩) hn
          have hcc : 1 ≤ c.1 ∧ c.1 ≤ 20 := by
            unfold f81 at hc
            cases h : f62 c.1 1 20 with
            | true => exact (f62_iff _ _ _).mp h
            | false => rw [h] at hc; cases hc
          obtain ⟨m, h3, h4⟩ := good x hx c hcc _ hok
          unfold g90
          rw [h3, h4]
          exact ⟨m, rfl, rfl⟩

theorem sz42 (x : L Ch) (b : Int) (h : x.len ≤ 2 ^ 47) (hb : 0 ≤ b) (hb' : b ≤ 1048576) : f42 x b = if b < x.len then -1 else b - x.len := by
  have h47 : (2 : Nat) ^ 47 = 140737488355328 := by decide
  rw [h47] at h
  unfold f42
  rw [wI_id (by omega) (by omega)]
  by_cases hc : b < x.len
  · rw [bif_t (by simp; omega), if_pos hc]
  · rw [bif_f (by simp; omega), if_neg hc]

theorem to46 (x : L Ch) (h : x.len ≤ 1048576) : ∃ r : L Ch, g46 x = some ((r, ()), ()) ∧ r.len = x.len := by
  obtain ⟨r, h1, h2, h3⟩ := copy_loop (step := s46_L0) (x := x) (fun i => x.get i) (fun i r hi hr => by
    simp only [s46_L0, q46_L0]
    rw [bif_t (by simpa using hi), bif_t (by simpa using hi), bif_t (by simpa [hr] using hi), wI_succ hi (by omega), Int.toNat_natCast]
    rfl) (fun r => by
    simp only [s46_L0, q46_L0]
    rw [bif_f (by simp)]) (r0 := L.rep (x.len : Int).toNat (Ty.zero (.pair (.int .i64) (.pair (.int .i64) (.pair (.int .i64) (.pair (.int .i64) .unit)))))) (by simp [L.rep])
  refine ⟨r, ?_, h2⟩
  unfold g46
  rw [bif_t (by simp; omega), h1]
  rfl

theorem eq48 (x : L Ch) (h : x.len ≤ 1048576) : g48 x x = some ((true, ()), ()) := by
  have h1 := eq_loop (step := s48_L0) (x := x) (y := x) (fun i hi => by
    simp only [s48_L0, q48_L0]
    rw [bif_t (by simpa using hi), bif_t (by simpa using hi), bif_t (by simpa using hi), bif_f (by simp [f91]), wI_succ hi (by omega)]) (by
    simp only [s48_L0, q48_L0]
    rw [bif_f (by simp)])
  unfold g48
  rw [bif_f (by simp), h1]
  rfl

theorem law (c : Co) (s : Int × (Int × (Int × Unit))) (x : L Ch) (hw : x.len ≤ 2 ^ 47) : g12 c s x = some ((true, ()), ()) := by
  unfold g12
  by_cases hz : f42 x 1048576 < 0
  · rw [bif_t (by simpa using hz)]
  · rw [bif_f (by simpa using hz)]
    rw [sz42 _ _ hw (by omega) (by omega)] at hz
    have a1 : ¬ (1048576 : Int) < x.len := by
      intro hc
      rw [if_pos hc] at hz
      simp at hz
    obtain ⟨r, e1, l1⟩ := to46 x (by omega)
    obtain ⟨n, m1, m2⟩ := main (f44 c) (f45 s) r
    rw [e1]
    simp only [Option.bind_some]
    rw [m1]
    simp only [Option.bind_some]
    rw [m2]
    simp only [Option.bind_some]
    rw [bif_f (by simp), eq48 r (by omega)]
    simp

theorem plain : ∀ x, wfIns tysOf x → ∃ z, c12.F x = some ((true, ()), z) := by
  rintro ⟨c, s, x, ⟨⟩⟩ ⟨_, _, hw, _⟩
  exact ⟨(), law c s x hw.1⟩

end Go.VE.VFnExactWorstPad
