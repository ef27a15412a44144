import Derived.Test.YtlgaidekljnpjaaGreatVFnExactPartOk
import Derived.Test.YtlgaidekljnpjaaGreatVeY
/- laws.FnExactPartOk returns true: in plain words, no program in sight. -/
set_option linter.unusedVariables false
set_option linter.unusedSimpArgs false
namespace Go.VE.VFnExactPartOk
open Go.VE
abbrev tysOf : List Ty := [(.pair (.int .i64) (.pair (.pair (.int .i64) (.pair (.int .i64) (.pair (.int .i64) .unit))) (.pair (.int .i64) (.pair (.pair (.int .i64) (.pair (.int .i64) (.pair (.int .i64) (.pair (.int .i64) (.pair (.int .i64) (.pair (.int .i64) (.pair (.int .i64) .unit))))))) (.pair (.int .i64) (.pair (.int .i64) (.pair (.int .i64) (.pair (.sl (.pair .str (.pair (.int .i64) (.pair (.pair (.int .i64) (.pair (.int .i64) .unit)) (.pair (.sl (.pair (.int .i64) (.pair (.int .i64) (.pair (.int .i64) .unit)))) .unit))))) (.pair (.sl (.int .i64)) (.pair (.sl (.pair (.int .i64) (.pair (.int .i64) (.pair (.int .i64) (.pair (.int .i64) .unit))))) (.pair (.sl (.pair (.int .i64) (.pair (.int .i64) (.pair (.int .i64) .unit)))) .unit))))))))))), (.int .i64), (.pair (.pair (.sl (.int .u32)) (.pair (.int .u32) (.pair (.sl (.sl (.int .u8))) .unit))) (.pair (.pair .bool (.pair (.int .u32) (.pair (.int .u32) (.pair (.int .u32) (.pair (.int .u32) (.pair .bool (.pair .bool (.pair (.int .u32) .unit)))))))) (.pair (.pair (.int .i64) (.pair (.int .i64) (.pair (.int .i64) (.pair .bool .unit)))) (.pair (.pair (.pair (.int .i64) (.pair (.int .i64) (.pair (.int .i64) .unit))) (.pair (.sl (.sl (.pair (.int .i64) (.pair .bool .unit)))) .unit)) (.pair (.pair (.int .i64) (.pair (.sl (.int .i64)) .unit)) (.pair (.int .i64) (.pair .bool (.pair (.sl (.sl (.int .u8))) (.pair (.sl (.pair (.int .i64) (.pair (.sl (.int .u32)) .unit))) (.pair (.sl (.pair (.sl (.int .u32)) .unit)) (.pair (.sl (.pair (.sl (.int .u32)) (.pair (.sl (.int .u32)) .unit))) .unit)))))))))))]
abbrev Co : Type := Int × (Int × (Int × (Int × (Int × (Int × (Int × Unit))))))

theorem f86_77 : f86 = f77 := rfl
theorem f133_152 (c : Co) : f133 c = f152 c := by
  unfold f133 f152
  rw [f86_77]
  generalize f77 c.1 1 20 = b1
  generalize f77 c.2.1 0 50 = b2
  generalize f77 c.2.2.1 0 50 = b3
  generalize f77 c.2.2.2.1 0 50 = b4
  generalize f77 c.2.2.2.2.1 0 50 = b5
  generalize f77 c.2.2.2.2.2.1 0 50 = b6
  generalize f77 c.2.2.2.2.2.2.1 0 50 = b7
  cases b1 <;> cases b2 <;> cases b3 <;> cases b4 <;> cases b5 <;> cases b6 <;> cases b7 <;> rfl

theorem f77_iff (a b c : Int) : f77 a b c = true ↔ b ≤ a ∧ a ≤ c := by
  unfold f77
  by_cases h : a ≥ b
  · rw [bif_t (by simpa using h)]; simp; omega
  · rw [bif_f (by simpa using h)]; simp; omega

/-- What is known of costs that are right. -/
theorem costs_of {c : Co} (h : f152 c = true) : (1 ≤ c.1 ∧ c.1 ≤ 20) ∧ (0 ≤ c.2.1 ∧ c.2.1 ≤ 50) ∧ (0 ≤ c.2.2.1 ∧ c.2.2.1 ≤ 50) ∧ (0 ≤ c.2.2.2.1 ∧ c.2.2.2.1 ≤ 50) ∧ (0 ≤ c.2.2.2.2.1 ∧ c.2.2.2.2.1 ≤ 50) ∧ (0 ≤ c.2.2.2.2.2.1 ∧ c.2.2.2.2.2.1 ≤ 50) ∧ (0 ≤ c.2.2.2.2.2.2.1 ∧ c.2.2.2.2.2.2.1 ≤ 50) := by
  unfold f152 at h
  have step : ∀ {b x : Bool}, (bif b then x else false) = true → b = true ∧ x = true := fun {b x} h => by cases b <;> simp_all
  obtain ⟨h1, h⟩ := step h
  obtain ⟨h2, h⟩ := step h
  obtain ⟨h3, h⟩ := step h
  obtain ⟨h4, h⟩ := step h
  obtain ⟨h5, h⟩ := step h
  obtain ⟨h6, h7⟩ := step h
  exact ⟨(f77_iff _ _ _).mp h1, (f77_iff _ _ _).mp h2, (f77_iff _ _ _).mp h3, (f77_iff _ _ _).mp h4, (f77_iff _ _ _).mp h5, (f77_iff _ _ _).mp h6, (f77_iff _ _ _).mp h7⟩

theorem forms_pos : ∀ k, k < 33 → 0 ≤ L.get f236 k := by decide +kernel

theorem opc {c : Co} (hc : f152 c = true) {i : Nat} (hi : i < 33) : g153 c i = some ((f210 c i, ()), ()) := by
  have hf : g208 (i : Int) = some ((L.get f236 i, ()), ()) := by
    unfold g208
    have h1 : f77 (i : Int) 0 32 = true := (f77_iff _ _ _).mpr (by omega)
    rw [h1, bif_f (show (!true) = false from rfl), bif_t, Int.toNat_natCast]
    have : f236.len = 33 := rfl
    rw [this]; simp; omega
  unfold g153 f210
  rw [hc, bif_f (show (!true) = false from rfl), hf]
  simp only [Option.bind_some]
  rw [bif_f (by simpa using forms_pos i hi), f86_77]
  cases ((i : Int) == 9) <;> cases ((i : Int) == 10) <;> cases f77 (i : Int) 15 18 <;> cases decide ((i : Int) ≥ 25) <;> rfl

theorem f209_211 {c : Co} (hc : f152 c = true) (a : Bool × (Bool × (Bool × Unit))) : f209 c a = f211 c a := by
  unfold f209 f211
  rw [hc]
  rfl

def wAcc (c : Co) (i : Nat) : Int := if i = 0 then -1 else if i ≤ 4 then c.2.2.2.1 + c.2.2.2.2.1 else c.2.2.2.1 + c.2.2.2.2.1 + c.2.2.2.2.2.2.1

theorem acc_of {c : Co} (hc : f152 c = true) (a b d : Bool) : f209 c (a, (b, (d, ()))) = (if a then 0 else c.2.2.2.1) + (if b then 0 else c.2.2.2.2.1) + (if d then c.2.2.2.2.2.2.1 else 0) := by
  obtain ⟨_, _, _, h4, h5, _, h7⟩ := costs_of hc
  rw [f209_211 hc]
  unfold f211
  have e0 : ∀ n : Int, 0 ≤ n → n ≤ 1000 → wI n = n := fun n h1 h2 => wI_id (by omega) (by omega)
  cases a <;> cases b <;> cases d <;> simp only [Bool.not_true, Bool.not_false, cond_true, cond_false, if_true, if_false, Bool.false_eq_true, Int.zero_add, Int.add_zero]
  · rw [e0 c.2.2.2.1 (by omega) (by omega), e0 _ (by omega) (by omega)]
  · rw [e0 c.2.2.2.1 (by omega) (by omega), e0 (c.2.2.2.1 + c.2.2.2.2.1) (by omega) (by omega), e0 _ (by omega) (by omega)]
  · rw [e0 _ (by omega) (by omega)]
  · rw [e0 c.2.2.2.1 (by omega) (by omega), e0 _ (by omega) (by omega)]
  · rw [e0 _ (by omega) (by omega)]
  · rw [e0 c.2.2.2.2.1 (by omega) (by omega), e0 _ (by omega) (by omega)]
  · rw [e0 _ (by omega) (by omega)]

theorem wacc {c : Co} (hc : f152 c = true) : g154 c = some ((c.2.2.2.1 + c.2.2.2.2.1 + c.2.2.2.2.2.2.1, ()), ()) := by
  obtain ⟨_, _, _, h4, h5, _, h7⟩ := costs_of hc
  obtain ⟨d, h1, rfl⟩ := fixO_rel (step := s154_L0) (fun a => 8 - a.1.2.2.1.toNat)
    (fun a => ∃ i : Nat, a = (((), (wAcc c i, ((i : Int), ()))), (c, ())) ∧ i ≤ 8)
    (fun _ d => d = .inl ((wAcc c 8, ()), ())) (by
      rintro _ ⟨i, rfl, hi⟩
      by_cases h : i < 8
      · left
        have fin : s154_L0 (((), (wAcc c i, ((i : Int), ()))), (c, ())) = some (.inl (((), (wAcc c (i + 1), (((i + 1 : Nat) : Int), ()))), (c, ()))) := by
          simp only [s154_L0, q154_L0]
          rw [bif_t (by simp; omega), wI_succ (n := 8) h (by omega)]
          have : i = 0 ∨ i = 1 ∨ i = 2 ∨ i = 3 ∨ i = 4 ∨ i = 5 ∨ i = 6 ∨ i = 7 := by omega
          have key : ∀ (a b d : Bool) (m : Int), (((Int.tmod (i : Int) 2) == 1), (((Int.tmod (wI (Int.tdiv (i : Int) 2)) 2) == 1), (((wI (Int.tdiv (i : Int) 4)) == 1), ()))) = (a, (b, (d, ()))) →
              (if (if a then 0 else c.2.2.2.1) + (if b then 0 else c.2.2.2.2.1) + (if d then c.2.2.2.2.2.2.1 else 0) > wAcc c i then (if a then 0 else c.2.2.2.1) + (if b then 0 else c.2.2.2.2.1) + (if d then c.2.2.2.2.2.2.1 else 0) else wAcc c i) = m → m = wAcc c (i + 1) →
              (bif (decide ((f209 c (((Int.tmod (i : Int) 2) == 1), (((Int.tmod (wI (Int.tdiv (i : Int) 2)) 2) == 1), (((wI (Int.tdiv (i : Int) 4)) == 1), ())))) > wAcc c i)) then
                some (.inl (((), ((f209 c (((Int.tmod (i : Int) 2) == 1), (((Int.tmod (wI (Int.tdiv (i : Int) 2)) 2) == 1), (((wI (Int.tdiv (i : Int) 4)) == 1), ())))), (((i + 1 : Nat) : Int), ()))), (c, ())))
              else some (.inl (((), (wAcc c i, (((i + 1 : Nat) : Int), ()))), (c, ())))) = (some (.inl (((), (wAcc c (i + 1), (((i + 1 : Nat) : Int), ()))), (c, ()))) : Option (((Unit × (Int × (Int × Unit))) × (Co × Unit)) ⊕ (((Int × Unit) × Unit) ⊕ Empty))) := by
            intro a b d m hb hm hw
            rw [hb, acc_of hc, ← hw, ← hm]
            generalize (if a then 0 else c.2.2.2.1) + (if b then 0 else c.2.2.2.2.1) + (if d then c.2.2.2.2.2.2.1 else 0) = v
            by_cases hgt : v > wAcc c i
            · rw [bif_t (by simpa using hgt), if_pos hgt]
            · rw [bif_f (by simpa using hgt), if_neg hgt]
          rcases this with rfl | rfl | rfl | rfl | rfl | rfl | rfl | rfl
          · exact key false false false _ (by decide +kernel) rfl (by simp [wAcc]; omega)
          · exact key true false false _ (by decide +kernel) rfl (by simp [wAcc]; omega)
          · exact key false true false _ (by decide +kernel) rfl (by simp [wAcc]; omega)
          · exact key true true false _ (by decide +kernel) rfl (by simp [wAcc]; omega)
          · exact key false false true _ (by decide +kernel) rfl (by simp [wAcc]; omega)
          · exact key true false true _ (by decide +kernel) rfl (by simp [wAcc]; omega)
          · exact key false true true _ (by decide +kernel) rfl (by simp [wAcc]; omega)
          · exact key true true true _ (by decide +kernel) rfl (by simp [wAcc]; omega)
        exact ⟨_, fin, ⟨i + 1, rfl, h⟩, by simp only [Int.toNat_natCast]; omega, fun d hd => hd⟩
      · right
        have : i = 8 := by omega
        subst this
        exact ⟨_, rfl, rfl⟩) (((), ((-1 : Int), ((0 : Int), ()))), (c, ())) ⟨0, rfl, by omega⟩
  unfold g154
  rw [h1]
  rfl

theorem worst {c : Co} (hc : f152 c = true) : ∃ n, g84 c = some ((n, ()), ()) ∧ g155 c = some ((n, ()), ()) := by
  obtain ⟨d, e, h1, h2, m, rfl, rfl⟩ := fixO_sim (s1 := s84_L0) (s2 := s155_L0)
    (fun a b => ∃ (i : Nat) (m : Int), a = (((), (m, ((i : Int), ()))), (c, ())) ∧ b = (((), (m, ((i : Int), ()))), (c, ())) ∧ i ≤ 33)
    (fun d e => ∃ m, d = .inl (((), (m, ())), (c, ())) ∧ e = .inl (((), (m, ())), (c, ()))) (fun a => 33 - a.1.2.2.1.toNat) (by
      rintro _ _ ⟨i, m, rfl, rfl, hi⟩
      by_cases h : i < 33
      · left
        have hb : decide ((i : Int) < 33) = true := by simp; omega
        have ho : g153 (c.1, (c.2.1, (c.2.2.1, (c.2.2.2.1, (c.2.2.2.2.1, (c.2.2.2.2.2.1, (c.2.2.2.2.2.2.1, ()))))))) (i : Int) = some ((f210 c i, ()), ()) := opc hc h
        simp only [s84_L0, q84_L0, s155_L0, q155_L0, hb, cond_true, wI_succ h (by omega : 33 ≤ 2 ^ 47), ho, Option.bind_some]
        by_cases hg : f210 c i > m
        · rw [bif_t (by simpa using hg)]
          refine ⟨_, _, rfl, rfl, ⟨i + 1, f210 c i, rfl, ?_, h⟩, by simp only [Int.toNat_natCast]; omega⟩
          have : (if f210 (c.1, (c.2.1, (c.2.2.1, (c.2.2.2.1, (c.2.2.2.2.1, (c.2.2.2.2.2.1, (c.2.2.2.2.2.2.1, ()))))))) (i : Int) > m then f210 (c.1, (c.2.1, (c.2.2.1, (c.2.2.2.1, (c.2.2.2.2.1, (c.2.2.2.2.2.1, (c.2.2.2.2.2.2.1, ()))))))) (i : Int) else m) = f210 c i := if_pos hg
          rw [this]
        · rw [bif_f (by simpa using hg)]
          refine ⟨_, _, rfl, rfl, ⟨i + 1, m, rfl, ?_, h⟩, by simp only [Int.toNat_natCast]; omega⟩
          have : (if f210 (c.1, (c.2.1, (c.2.2.1, (c.2.2.2.1, (c.2.2.2.2.1, (c.2.2.2.2.2.1, (c.2.2.2.2.2.2.1, ()))))))) (i : Int) > m then f210 (c.1, (c.2.1, (c.2.2.1, (c.2.2.2.1, (c.2.2.2.2.1, (c.2.2.2.2.2.1, (c.2.2.2.2.2.2.1, ()))))))) (i : Int) else m) = m := if_neg hg
          rw [this]
      · right
        have : i = 33 := by omega
        subst this
        exact ⟨_, _, rfl, rfl, m, rfl, rfl⟩) (((), ((0 : Int), ((0 : Int), ()))), (c, ())) (((), ((0 : Int), ((0 : Int), ()))), (c, ())) ⟨0, 0, rfl, rfl, by omega⟩
  unfold g84 g155
  rw [f133_152, hc, bif_f (show (!true) = false from rfl), bif_f (show (!true) = false from rfl), h1, h2]
  simp only [Option.bind_some]
  rw [wacc hc]
  simp only [Option.bind_some]
  refine ⟨_, rfl, ?_⟩
  have : f211 c (false, (false, (true, ()))) = c.2.2.2.1 + c.2.2.2.2.1 + c.2.2.2.2.2.2.1 := by
    rw [← f209_211 hc, acc_of hc]; simp
  rw [this]

abbrev Ch : Type := Int × (Int × (Int × (Int × Unit)))

theorem pow16 (n : Int) (h : f77 n 1 16 = true) : f190 n = ((n == 1) || ((n == 2) || ((n == 4) || ((n == 8) || (n == 16))))) := by
  obtain ⟨h1, h2⟩ := (f77_iff _ _ _).mp h
  have : n = 1 ∨ n = 2 ∨ n = 3 ∨ n = 4 ∨ n = 5 ∨ n = 6 ∨ n = 7 ∨ n = 8 ∨ n = 9 ∨ n = 10 ∨ n = 11 ∨ n = 12 ∨ n = 13 ∨ n = 14 ∨ n = 15 ∨ n = 16 := by omega
  rcases this with rfl | rfl | rfl | rfl | rfl | rfl | rfl | rfl | rfl | rfl | rfl | rfl | rfl | rfl | rfl | rfl <;> decide +kernel

theorem pow32 (n : Int) (h : f77 n 4 32 = true) : f190 n = ((n == 4) || ((n == 8) || ((n == 16) || (n == 32)))) := by
  obtain ⟨h1, h2⟩ := (f77_iff _ _ _).mp h
  have : n = 4 ∨ n = 5 ∨ n = 6 ∨ n = 7 ∨ n = 8 ∨ n = 9 ∨ n = 10 ∨ n = 11 ∨ n = 12 ∨ n = 13 ∨ n = 14 ∨ n = 15 ∨ n = 16 ∨ n = 17 ∨ n = 18 ∨ n = 19 ∨ n = 20 ∨ n = 21 ∨ n = 22 ∨ n = 23 ∨ n = 24 ∨ n = 25 ∨ n = 26 ∨ n = 27 ∨ n = 28 ∨ n = 29 ∨ n = 30 ∨ n = 31 ∨ n = 32 := by omega
  rcases this with rfl | rfl | rfl | rfl | rfl | rfl | rfl | rfl | rfl | rfl | rfl | rfl | rfl | rfl | rfl | rfl | rfl | rfl | rfl | rfl | rfl | rfl | rfl | rfl | rfl | rfl | rfl | rfl | rfl <;> decide +kernel

theorem f162_eq (s : Int × (Int × (Int × Unit))) : f162 s = (((s.1 == 1) || ((s.1 == 2) || ((s.1 == 4) || ((s.1 == 8) || (s.1 == 16))))) && (f77 s.2.1 1 4 && ((s.2.2.1 == 4) || ((s.2.2.1 == 8) || ((s.2.2.1 == 16) || (s.2.2.1 == 32)))))) := by
  unfold f162
  generalize f77 s.2.1 1 4 = w
  generalize (s.1 == 1) = a1
  generalize (s.1 == 2) = a2
  generalize (s.1 == 4) = a3
  generalize (s.1 == 8) = a4
  generalize (s.1 == 16) = a5
  generalize (s.2.2.1 == 4) = l1
  generalize (s.2.2.1 == 8) = l2
  generalize (s.2.2.1 == 16) = l3
  generalize (s.2.2.1 == 32) = l4
  cases a1 <;> cases a2 <;> cases a3 <;> cases a4 <;> cases a5 <;> cases l1 <;> cases l2 <;> cases l3 <;> cases l4 <;> cases w <;> rfl

theorem f132_162 (s : Int × (Int × (Int × Unit))) : f132 s = f162 s := by
  rw [f162_eq]
  unfold f132
  rw [f86_77]
  have hs : (bif f77 s.1 1 16 then f190 s.1 else false) = ((s.1 == 1) || ((s.1 == 2) || ((s.1 == 4) || ((s.1 == 8) || (s.1 == 16))))) := by
    cases h : f77 s.1 1 16 with
    | true => exact pow16 _ h
    | false =>
      have h' : ¬ (1 ≤ s.1 ∧ s.1 ≤ 16) := fun q => by rw [(f77_iff _ _ _).mpr q] at h; cases h
      have e : ∀ k : Int, 1 ≤ k → k ≤ 16 → (s.1 == k) = false := fun k h1 h2 => by simp; omega
      rw [e 1 (by omega) (by omega), e 2 (by omega) (by omega), e 4 (by omega) (by omega), e 8 (by omega) (by omega), e 16 (by omega) (by omega)]
      rfl
  have hl : (bif f77 s.2.2.1 4 32 then f190 s.2.2.1 else false) = ((s.2.2.1 == 4) || ((s.2.2.1 == 8) || ((s.2.2.1 == 16) || (s.2.2.1 == 32)))) := by
    cases h : f77 s.2.2.1 4 32 with
    | true => exact pow32 _ h
    | false =>
      have h' : ¬ (4 ≤ s.2.2.1 ∧ s.2.2.1 ≤ 32) := fun q => by rw [(f77_iff _ _ _).mpr q] at h; cases h
      have e : ∀ k : Int, 4 ≤ k → k ≤ 32 → (s.2.2.1 == k) = false := fun k h1 h2 => by simp; omega
      rw [e 4 (by omega) (by omega), e 8 (by omega) (by omega), e 16 (by omega) (by omega), e 32 (by omega) (by omega)]
      rfl
  rw [← hs, ← hl]
  generalize f77 s.1 1 16 = p1
  generalize f190 s.1 = p2
  generalize f77 s.2.1 1 4 = p3
  generalize f77 s.2.2.1 4 32 = p4
  generalize f190 s.2.2.1 = p5
  cases p1 <;> cases p2 <;> cases p3 <;> cases p4 <;> cases p5 <;> rfl

/-- What is known of a row that is right. -/
theorem chan_of {c : Ch} (h : f206 c = true) : (c.1 = 0 ∧ c.2.2.2.1 = 0) ∨ (c.1 = 1 ∧ 1 ≤ c.2.2.2.1 ∧ c.2.2.2.1 ≤ 8) := by
  unfold f206 at h
  have step : ∀ {b : Bool} {x : Bool}, (bif b then false else x) = true → x = true := fun {b x} h => by cases b <;> simp_all
  have h := step (step (step h))
  by_cases h0 : c.1 = 0
  · rw [bif_t (by simpa using h0)] at h
    by_cases hd : c.2.2.2.1 = 0
    · exact .inl ⟨h0, hd⟩
    · rw [bif_f (by simpa using hd), bif_f (by simp [h0])] at h
      cases h
  · rw [bif_f (by simpa using h0)] at h
    by_cases h1 : c.1 = 1
    · rw [bif_t (by simpa using h1)] at h
      exact .inr ⟨h1, (f77_iff _ _ _).mp h⟩
    · rw [bif_f (by simpa using h1)] at h
      cases h

theorem good (x : L Ch) (hx : x.len ≤ 8) (c : Co) (hc : 1 ≤ c.1 ∧ c.1 ≤ 20) (n : Int) (hok : ∀ j, j < x.len → f206 (x.get j) = true) :
    ∃ m, fixO s207_L0 ((x, ((), (n, ((0 : Int), ())))), (c, ())) = some (.inr (.inl ((m, ()), ()))) ∧ fixO s141_L0 (((), (n, (x, ((x.len : Int), ((0 : Int), ()))))), (c, ())) = some (.inl ((m, ()), ())) := by
  obtain ⟨d, e, h1, h2, m, rfl, rfl⟩ := fixO_sim (s1 := s207_L0) (s2 := s141_L0)
    (fun a b => ∃ (i : Nat) (n : Int), a = ((x, ((), (n, ((i : Int), ())))), (c, ())) ∧ b = (((), (n, (x, ((x.len : Int), ((i : Int), ()))))), (c, ())) ∧ i ≤ x.len)
    (fun d e => ∃ m, d = .inr (.inl ((m, ()), ())) ∧ e = .inl ((m, ()), ())) (fun a => x.len - a.1.2.2.2.1.toNat) (by
      rintro _ _ ⟨i, n, rfl, rfl, hi⟩
      by_cases h : i < x.len
      · left
        have hb0 : decide ((0 : Int) ≤ (i : Int)) = true := by simp
        have hb2 : decide ((i : Int) < (x.len : Int)) = true := by simpa using h
        have hf := hok i h
        simp only [s207_L0, q207_L0, s141_L0, q141_L0, hb0, hb2, Bool.and_self, cond_true, wI_succ h (by omega : x.len ≤ 2 ^ 47), Int.toNat_natCast, hf, Bool.not_true, cond_false]
        rcases chan_of hf with ⟨k0, d0⟩ | ⟨k1, d1, d2⟩
        · have e1 : f167 (x.get i) = 1 := by unfold f167; rw [if_neg (by omega)]
          have e2 : wI (c.1 * 1) = c.1 := by rw [Int.mul_one]; exact wI_id (by omega) (by omega)
          rw [bif_t (by simpa using k0), e1, e2]
          exact ⟨_, _, rfl, rfl, ⟨i + 1, _, rfl, rfl, h⟩, by simp only [Int.toNat_natCast]; omega⟩
        · have e1 : f167 (x.get i) = (x.get i).2.2.2.1 := by unfold f167; split <;> omega
          rw [bif_f (by simp [k1]), e1]
          exact ⟨_, _, rfl, rfl, ⟨i + 1, _, rfl, rfl, h⟩, by simp only [Int.toNat_natCast]; omega⟩
      · right
        simp only [s207_L0, q207_L0, s141_L0, q141_L0]
        rw [bif_f (by simp; omega), bif_f (by simp; omega)]
        exact ⟨_, _, rfl, rfl, n, rfl, rfl⟩) ((x, ((), (n, ((0 : Int), ())))), (c, ())) (((), (n, (x, ((x.len : Int), ((0 : Int), ()))))), (c, ())) ⟨0, n, rfl, rfl, Nat.zero_le _⟩
  exact ⟨m, h1, h2⟩


abbrev Sl : Type := Int × (Int × (Int × Unit))
abbrev Wi : Type := Int × (Int × (Int × Unit))
abbrev PR : Type := ByteArray × (Int × ((Int × (Int × Unit)) × ((L Wi) × Unit)))
abbrev Tb : Type := Int × ((Int × (Int × (Int × Unit))) × (Int × (Co × (Int × (Int × (Int × ((L PR) × ((L Int) × ((L Ch) × ((L Sl) × Unit))))))))))
def tParts (t : Tb) : L PR := t.2.2.2.2.2.2.2.1
def tDevs (t : Tb) : L Int := t.2.2.2.2.2.2.2.2.1
def tChans (t : Tb) : L Ch := t.2.2.2.2.2.2.2.2.2.1
def tSlots (t : Tb) : L Sl := t.2.2.2.2.2.2.2.2.2.2.1

/-- The devices: each of a partition. -/
theorem devs (t : Tb) (hd : (tDevs t).len ≤ 8) :
    ((∃ i, i < (tDevs t).len ∧ f77 ((tDevs t).get i) 0 (wI (((tParts t).len : Int) - 1)) = false) ∧ fixO s150_L0 (((), ((0 : Int), ())), (t, ())) = some (.inl ((false, ()), ())) ∧ g136_137 (tDevs t) (((tParts t).len : Int), ()) = some ((true, ()), ())) ∨
    ((∀ i, i < (tDevs t).len → f77 ((tDevs t).get i) 0 (wI (((tParts t).len : Int) - 1)) = true) ∧ fixO s150_L0 (((), ((0 : Int), ())), (t, ())) = some (.inr (.inl (((), ()), (t, ())))) ∧ g136_137 (tDevs t) (((tParts t).len : Int), ()) = some ((false, ()), ())) := by
  have h1 := scan (step := s150_L0) (fun i => (((), ((i : Int), ())), (t, ()))) (tDevs t).len (fun i => f77 ((tDevs t).get i) 0 (wI (((tParts t).len : Int) - 1))) (fun _ => .inl ((false, ()), ())) (.inr (.inl (((), ()), (t, ()))))
    (fun i hi ho => by
      have ho' : (!f77 ((tDevs t).get ((i : Int)).toNat) 0 (wI (((tParts t).len : Int) - 1))) = false := by rw [Int.toNat_natCast, ho]; rfl
      simp only [s150_L0, q150_L0]
      refine (bif_t (idx_lt hi)).trans ((bif_t (idx_in hi)).trans ((bif_f ho').trans ?_))
      rw [wI_succ hi (by omega)])
    (fun i hi ho => by
      have ho' : (!f77 ((tDevs t).get ((i : Int)).toNat) 0 (wI (((tParts t).len : Int) - 1))) = true := by rw [Int.toNat_natCast, ho]; rfl
      simp only [s150_L0, q150_L0]
      exact (bif_t (idx_lt hi)).trans ((bif_t (idx_in hi)).trans (bif_t ho')))
    (by
      simp only [s150_L0, q150_L0]
      exact bif_f (idx_end (tDevs t).len))
  have h2 := scan (step := s199_137_L0) (fun i => ((tDevs t, ((((tParts t).len : Int), ()), (((tDevs t).len : Int), ((i : Int), ())))), ())) (tDevs t).len (fun i => f77 ((tDevs t).get i) 0 (wI (((tParts t).len : Int) - 1))) (fun i => .inl (((i : Int), ()), ())) (.inr (.inl ((), ())))
    (fun i hi ho => by
      have ho' : f137 ((tDevs t).get ((i : Int)).toNat) ((tParts t).len : Int) = false := by unfold f137; rw [Int.toNat_natCast, f86_77, ho]; rfl
      simp only [s199_137_L0, q199_137_L0]
      refine (bif_t (idx_lt hi)).trans ((bif_t (idx_in hi)).trans ((bif_f ho').trans ?_))
      rw [wI_succ hi (by omega)])
    (fun i hi ho => by
      have ho' : f137 ((tDevs t).get ((i : Int)).toNat) ((tParts t).len : Int) = true := by unfold f137; rw [Int.toNat_natCast, f86_77, ho]; rfl
      simp only [s199_137_L0, q199_137_L0]
      exact (bif_t (idx_lt hi)).trans ((bif_t (idx_in hi)).trans (bif_t ho')))
    (by
      simp only [s199_137_L0, q199_137_L0]
      exact bif_f (idx_end (tDevs t).len))
  unfold g136_137 g199_137
  rcases h1 with ⟨i, hi, ho, _, e1⟩ | ⟨ha, e1⟩
  · rcases h2 with ⟨k, hk, hok, _, e2⟩ | ⟨hb, _⟩
    · refine .inl ⟨⟨i, hi, ho⟩, e1, ?_⟩
      have e2' : fixO s199_137_L0 ((tDevs t, ((((tParts t).len : Int), ()), (((tDevs t).len : Int), ((0 : Int), ())))), ()) = some (.inl (((k : Int), ()), ())) := e2
      rw [e2']
      simp
    · have := hb i hi; rw [ho] at this; cases this
  · rcases h2 with ⟨k, hk, hok, _, _⟩ | ⟨hb, e2⟩
    · have := ha k hk; rw [hok] at this; cases this
    · refine .inr ⟨ha, e1, ?_⟩
      have e2' : fixO s199_137_L0 ((tDevs t, ((((tParts t).len : Int), ()), (((tDevs t).len : Int), ((0 : Int), ())))), ()) = some (.inr (.inl ((), ()))) := e2
      rw [e2']
      simp

theorem f140_206 (c : Ch) : f140 c = f206 c := rfl
theorem f139_iff (c : Ch) (n : Int) : f139 c n = false ↔ f206 c = true ∧ c.2.1 < n ∧ c.2.2.1 < n := by
  unfold f139
  rw [f140_206]
  cases h : f206 c with
  | false => simp
  | true =>
    rw [bif_f (show (!true) = false from rfl)]
    by_cases h1 : c.2.1 ≥ n
    · rw [bif_t (by simpa using h1)]; simp; omega
    · rw [bif_f (by simpa using h1)]; simp; omega

/-- The channels: each right, and between partitions. -/
theorem chans (t : Tb) (hd : (tChans t).len ≤ 8) :
    (fixO s150_L2 (((), ((0 : Int), ())), (t, ())) = some (.inl ((false, ()), ())) ∧ g138_139 (tChans t) (((tParts t).len : Int), ()) = some ((true, ()), ())) ∨
    ((∀ i, i < (tChans t).len → f206 ((tChans t).get i) = true ∧ ((tChans t).get i).2.1 < ((tParts t).len : Int) ∧ ((tChans t).get i).2.2.1 < ((tParts t).len : Int)) ∧ fixO s150_L2 (((), ((0 : Int), ())), (t, ())) = some (.inr (.inl (((), ()), (t, ())))) ∧ g138_139 (tChans t) (((tParts t).len : Int), ()) = some ((false, ()), ())) := by
  have h1 := scan (step := s150_L2) (fun i => (((), ((i : Int), ())), (t, ()))) (tChans t).len (fun i => !f139 ((tChans t).get i) ((tParts t).len : Int)) (fun _ => .inl ((false, ()), ())) (.inr (.inl (((), ()), (t, ()))))
    (fun i hi ho => by
      have ho : f139 ((tChans t).get i) ((tParts t).len : Int) = false := by simpa using ho
      obtain ⟨o1, o2, o3⟩ := (f139_iff _ _).mp ho
      have e1 : (!f206 ((tChans t).get ((i : Int)).toNat)) = false := by rw [Int.toNat_natCast, o1]; rfl
      have e2 : decide (((tChans t).get ((i : Int)).toNat).2.1 ≥ ((tParts t).len : Int)) = false := by rw [Int.toNat_natCast]; simp; omega
      have e3 : decide (((tChans t).get ((i : Int)).toNat).2.2.1 ≥ ((tParts t).len : Int)) = false := by rw [Int.toNat_natCast]; simp; omega
      simp only [s150_L2, q150_L2]
      refine (bif_t (idx_lt hi)).trans ((bif_t (idx_in hi)).trans ((bif_f e1).trans ((bif_t (idx_in hi)).trans ((bif_f e2).trans ((bif_t (idx_in hi)).trans ((bif_f e3).trans ?_))))))
      rw [wI_succ hi (by omega)])
    (fun i hi ho => by
      have ho : ¬ (f206 ((tChans t).get i) = true ∧ ((tChans t).get i).2.1 < ((tParts t).len : Int) ∧ ((tChans t).get i).2.2.1 < ((tParts t).len : Int)) := fun q => by
        rw [(f139_iff _ _).mpr q] at ho; cases ho
      simp only [s150_L2, q150_L2]
      refine (bif_t (idx_lt hi)).trans ((bif_t (idx_in hi)).trans ?_)
      cases o1 : f206 ((tChans t).get i) with
      | false => exact bif_t (show (!f206 ((tChans t).get ((i : Int)).toNat)) = true by rw [Int.toNat_natCast, o1]; rfl)
      | true =>
        refine (bif_f (show (!f206 ((tChans t).get ((i : Int)).toNat)) = false by rw [Int.toNat_natCast, o1]; rfl)).trans ((bif_t (idx_in hi)).trans ?_)
        by_cases o2 : ((tChans t).get i).2.1 < ((tParts t).len : Int)
        · refine (bif_f (show decide (((tChans t).get ((i : Int)).toNat).2.1 ≥ ((tParts t).len : Int)) = false by rw [Int.toNat_natCast]; simp; omega)).trans ((bif_t (idx_in hi)).trans ?_)
          have o3 : ¬ ((tChans t).get i).2.2.1 < ((tParts t).len : Int) := fun q => ho ⟨o1, o2, q⟩
          exact bif_t (show decide (((tChans t).get ((i : Int)).toNat).2.2.1 ≥ ((tParts t).len : Int)) = true by rw [Int.toNat_natCast]; simp; omega)
        · exact bif_t (show decide (((tChans t).get ((i : Int)).toNat).2.1 ≥ ((tParts t).len : Int)) = true by rw [Int.toNat_natCast]; simp; omega))
    (by
      simp only [s150_L2, q150_L2]
      exact bif_f (idx_end (tChans t).len))
  have h2 := scan (step := s200_139_L0) (fun i => ((tChans t, ((((tParts t).len : Int), ()), (((tChans t).len : Int), ((i : Int), ())))), ())) (tChans t).len (fun i => !f139 ((tChans t).get i) ((tParts t).len : Int)) (fun i => .inl (((i : Int), ()), ())) (.inr (.inl ((), ())))
    (fun i hi ho => by
      have ho' : f139 ((tChans t).get ((i : Int)).toNat) ((tParts t).len : Int) = false := by rw [Int.toNat_natCast]; simpa using ho
      simp only [s200_139_L0, q200_139_L0]
      refine (bif_t (idx_lt hi)).trans ((bif_t (idx_in hi)).trans ((bif_f ho').trans ?_))
      rw [wI_succ hi (by omega)])
    (fun i hi ho => by
      have ho' : f139 ((tChans t).get ((i : Int)).toNat) ((tParts t).len : Int) = true := by rw [Int.toNat_natCast]; simpa using ho
      simp only [s200_139_L0, q200_139_L0]
      exact (bif_t (idx_lt hi)).trans ((bif_t (idx_in hi)).trans (bif_t ho')))
    (by
      simp only [s200_139_L0, q200_139_L0]
      exact bif_f (idx_end (tChans t).len))
  unfold g138_139 g200_139
  rcases h1 with ⟨i, hi, ho, _, e1⟩ | ⟨ha, e1⟩
  · rcases h2 with ⟨k, hk, hok, _, e2⟩ | ⟨hb, _⟩
    · refine .inl ⟨e1, ?_⟩
      have e2' : fixO s200_139_L0 ((tChans t, ((((tParts t).len : Int), ()), (((tChans t).len : Int), ((0 : Int), ())))), ()) = some (.inl (((k : Int), ()), ())) := e2
      rw [e2']
      simp
    · have := hb i hi; rw [ho] at this; cases this
  · rcases h2 with ⟨k, hk, hok, _, _⟩ | ⟨hb, e2⟩
    · have := ha k hk; rw [hok] at this; cases this
    · refine .inr ⟨fun i hi => (f139_iff _ _).mp (by simpa using ha i hi), e1, ?_⟩
      have e2' : fixO s200_139_L0 ((tChans t, ((((tParts t).len : Int), ()), (((tChans t).len : Int), ((0 : Int), ())))), ()) = some (.inr (.inl ((), ()))) := e2
      rw [e2']
      simp

theorem f201_iff (t : Tb) (s : Sl) (e : Int) (h1 : 1 ≤ t.2.2.2.2.1 ∧ t.2.2.2.2.1 ≤ 5000) (h2 : 1 ≤ t.2.2.2.2.2.1 ∧ t.2.2.2.2.2.1 ≤ 5000) (h3 : 1 ≤ t.2.2.2.2.2.2.1 ∧ t.2.2.2.2.2.2.1 ≤ 5000) :
    f201 t s e = true ↔ s.2.2.1 > t.2.2.2.2.1 + t.2.2.2.2.2.1 ∧ s.2.2.1 ≤ t.2.2.2.2.2.2.1 ∧ s.2.1 ≥ e ∧ s.2.1 ≤ t.2.2.2.2.2.2.1 - s.2.2.1 := by
  unfold f201
  rw [wI_id (n := t.2.2.2.2.1 + t.2.2.2.2.2.1) (by omega) (by omega)]
  by_cases a : s.2.2.1 > t.2.2.2.2.1 + t.2.2.2.2.2.1
  · rw [bif_t (by simpa using a)]
    by_cases b : s.2.2.1 ≤ t.2.2.2.2.2.2.1
    · rw [bif_t (by simpa using b), wI_id (by omega) (by omega)]
      by_cases c : s.2.1 ≥ e
      · rw [bif_t (by simpa using c)]; simp; omega
      · rw [bif_f (by simpa using c)]; simp; omega
    · rw [bif_f (by simpa using b)]; simp; omega
  · rw [bif_f (by simpa using a)]; simp; omega

/-- The slots lie one behind the other, in the frame. -/
def SlotsIn (t : Tb) : Prop :=
  (∀ k, k < (tSlots t).len → f77 ((tSlots t).get k).1 0 (wI (((tParts t).len : Int) - 1)) = true ∧ t.2.2.2.2.1 + t.2.2.2.2.2.1 < ((tSlots t).get k).2.2.1 ∧ 0 ≤ ((tSlots t).get k).2.1 ∧ ((tSlots t).get k).2.1 + ((tSlots t).get k).2.2.1 ≤ t.2.2.2.2.2.2.1) ∧
  ∀ k m, k < m → m < (tSlots t).len → ((tSlots t).get k).2.1 + ((tSlots t).get k).2.2.1 ≤ ((tSlots t).get m).2.1

/-- The slots: one behind the other. -/
theorem slotsLoop (t : Tb) (hl : (tSlots t).len ≤ 2 ^ 47) (h1 : 1 ≤ t.2.2.2.2.1 ∧ t.2.2.2.2.1 ≤ 5000) (h2 : 1 ≤ t.2.2.2.2.2.1 ∧ t.2.2.2.2.2.1 ≤ 5000) (h3 : 1 ≤ t.2.2.2.2.2.2.1 ∧ t.2.2.2.2.2.2.1 ≤ 5000) :
    ∃ d e, fixO s151_L0 (((), ((0 : Int), ((0 : Int), ()))), (t, ())) = some d ∧ fixO s142_L0 (((), ((0 : Int), (tSlots t, (((tSlots t).len : Int), ((0 : Int), ()))))), (t, ())) = some e ∧
      ((d = .inl ((false, ()), ()) ∧ e = .inl ((false, ()), ())) ∨ (d = .inr (.inl ((), ())) ∧ e = .inr (.inl (((), ()), (t, ()))) ∧ SlotsIn t)) := by
  refine fixO_sim (s1 := s151_L0) (s2 := s142_L0)
    (fun a b => ∃ (i : Nat) (e : Int), a = (((), (e, ((i : Int), ()))), (t, ())) ∧ b = (((), (e, (tSlots t, (((tSlots t).len : Int), ((i : Int), ()))))), (t, ())) ∧ i ≤ (tSlots t).len ∧ 0 ≤ e ∧ e ≤ 5000 ∧
      (∀ k, k < i → (f77 ((tSlots t).get k).1 0 (wI (((tParts t).len : Int) - 1)) = true ∧ t.2.2.2.2.1 + t.2.2.2.2.2.1 < ((tSlots t).get k).2.2.1 ∧ 0 ≤ ((tSlots t).get k).2.1 ∧ ((tSlots t).get k).2.1 + ((tSlots t).get k).2.2.1 ≤ t.2.2.2.2.2.2.1) ∧ ((tSlots t).get k).2.1 + ((tSlots t).get k).2.2.1 ≤ e) ∧
      ∀ k m, k < m → m < i → ((tSlots t).get k).2.1 + ((tSlots t).get k).2.2.1 ≤ ((tSlots t).get m).2.1)
    (fun d e => (d = .inl ((false, ()), ()) ∧ e = .inl ((false, ()), ())) ∨ (d = .inr (.inl ((), ())) ∧ e = .inr (.inl (((), ()), (t, ()))) ∧ SlotsIn t)) (fun a => (tSlots t).len - a.1.2.2.1.toNat) ?_ _ _ ⟨0, 0, rfl, rfl, Nat.zero_le _, by omega, by omega, fun k hk => absurd hk (Nat.not_lt_zero _), fun k m _ hk => absurd hk (Nat.not_lt_zero _)⟩
  rintro _ _ ⟨i, e, rfl, rfl, hi, he1, he2, hk1, hk2⟩
  by_cases h : i < (tSlots t).len
  · simp only [s151_L0, q151_L0, s142_L0, q142_L0]
    rw [wI_succ h hl, Int.toNat_natCast]
    generalize hs : (tSlots t).get i = s
    have hs' : (t.2.2.2.2.2.2.2.2.2.2.1).get i = s := hs
    have c1 : ∀ {α : Type} {a b : α}, (bif decide ((i : Int) < ((t.2.2.2.2.2.2.2.2.2.2.1).len : Int)) then a else b) = a := bif_t (idx_lt h)
    have c2 : ∀ {α : Type} {a b : α}, (bif decide ((0 : Int) ≤ (i : Int)) && decide ((i : Int) < ((t.2.2.2.2.2.2.2.2.2.2.1).len : Int)) then a else b) = a := bif_t (idx_in h)
    have c3 : ∀ {α : Type} {a b : α}, (bif decide ((i : Int) < ((tSlots t).len : Int)) then a else b) = a := bif_t (idx_lt h)
    have c4 : ∀ {α : Type} {a b : α}, (bif decide ((0 : Int) ≤ (i : Int)) && decide ((i : Int) < ((tSlots t).len : Int)) then a else b) = a := bif_t (idx_in h)
    rw [c1, c2, c3, c4, hs', f86_77, wI_id (n := t.2.2.2.2.1 + t.2.2.2.2.2.1) (by omega) (by omega), wI_id (n := t.2.2.2.2.1 + t.2.2.2.2.2.1 + 1) (by omega) (by omega)]
    have hiff := f201_iff t s e h1 h2 h3
    cases hp : f77 s.1 0 (wI (((t.2.2.2.2.2.2.2.1).len : Int) - 1)) with
    | false => exact .inr ⟨_, _, rfl, rfl, .inl ⟨rfl, rfl⟩⟩
    | true =>
      simp only [Bool.not_true, cond_false]
      cases ha : f77 s.2.1 e 5000 with
      | false =>
        have hf : f201 t s e = false := by
          cases hq : f201 t s e with
          | false => rfl
          | true =>
            have := hiff.mp hq
            rw [(f77_iff _ _ _).mpr (by omega)] at ha; cases ha
        right
        rw [hf]
        exact ⟨_, _, rfl, rfl, .inl ⟨rfl, rfl⟩⟩
      | true =>
        have ha := (f77_iff _ _ _).mp ha
        cases hb : f77 s.2.2.1 (t.2.2.2.2.1 + t.2.2.2.2.2.1 + 1) 5000 with
        | false =>
          have hf : f201 t s e = false := by
            cases hq : f201 t s e with
            | false => rfl
            | true =>
              have := hiff.mp hq
              rw [(f77_iff _ _ _).mpr (by omega)] at hb; cases hb
          right
          rw [hf]
          exact ⟨_, _, rfl, rfl, .inl ⟨rfl, rfl⟩⟩
        | true =>
          have hb := (f77_iff _ _ _).mp hb
          simp only [Bool.not_true, cond_false]
          rw [wI_id (n := s.2.1 + s.2.2.1) (by omega) (by omega)]
          by_cases hc : s.2.1 + s.2.2.1 > t.2.2.2.2.2.2.1
          · have hf : f201 t s e = false := by
              cases hq : f201 t s e with
              | false => rfl
              | true =>
                have := hiff.mp hq
                omega
            right
            rw [hf, bif_t (by simpa using hc)]
            exact ⟨_, _, rfl, rfl, .inl ⟨rfl, rfl⟩⟩
          · have hf : f201 t s e = true := hiff.mpr (by omega)
            left
            rw [hf, bif_f (by simpa using hc)]
            have hk1' : ∀ k, k < i + 1 → (f77 ((tSlots t).get k).1 0 (wI (((tParts t).len : Int) - 1)) = true ∧ t.2.2.2.2.1 + t.2.2.2.2.2.1 < ((tSlots t).get k).2.2.1 ∧ 0 ≤ ((tSlots t).get k).2.1 ∧ ((tSlots t).get k).2.1 + ((tSlots t).get k).2.2.1 ≤ t.2.2.2.2.2.2.1) ∧ ((tSlots t).get k).2.1 + ((tSlots t).get k).2.2.1 ≤ s.2.1 + s.2.2.1 := fun k hk => by
              by_cases q : k = i
              · rw [q, hs]
                exact ⟨⟨hp, by omega, by omega, by omega⟩, by omega⟩
              · have := hk1 k (by omega)
                exact ⟨this.1, by omega⟩
            have hk2' : ∀ k m, k < m → m < i + 1 → ((tSlots t).get k).2.1 + ((tSlots t).get k).2.2.1 ≤ ((tSlots t).get m).2.1 := fun k m h1 h2 => by
              by_cases q : m = i
              · rw [q, hs]
                have := (hk1 k (by omega)).2
                omega
              · exact hk2 k m h1 (by omega)
            exact ⟨_, _, rfl, rfl, ⟨i + 1, _, rfl, rfl, h, by omega, by omega, hk1', hk2'⟩, by simp only [Int.toNat_natCast]; omega⟩
  · right
    have : i = (tSlots t).len := by omega
    subst this
    simp only [s151_L0, q151_L0, s142_L0, q142_L0]
    exact ⟨_, _, bif_f (idx_end (tSlots t).len), bif_f (idx_end (tSlots t).len), .inr ⟨rfl, rfl, fun k hk => (hk1 k hk).1, hk2⟩⟩

theorem bt_range (s : ByteArray) (i : Int) : 0 ≤ bt s i ∧ bt s i ≤ 255 := by
  unfold bt
  have := ((s[i.toNat]?).getD 0).toNat_lt
  omega

/-- From a place on, all bytes are small letters. -/
def okFrom (s : ByteArray) (i : Int) : Prop := ∀ j : Int, i ≤ j → j < s.size → 97 ≤ bt s j ∧ bt s j ≤ 122

theorem okFrom_step {s : ByteArray} {i : Int} (h : 97 ≤ bt s i ∧ bt s i ≤ 122) : okFrom s (i + 1) → okFrom s i := by
  intro h' j h1 h2
  by_cases e : j = i
  · subst e; exact h
  · exact h' j (by omega) h2

theorem okFrom_back {s : ByteArray} {i : Int} (h' : okFrom s i) : okFrom s (i + 1) := fun j h1 h2 => h' j (by omega) h2

theorem end191 (s : ByteArray) (hs : s.size ≤ 8) : ∃ b, g240 s = some ((b, ()), ()) ∧ (b = true ↔ okFrom s 0 ∧ 1 ≤ s.size) := by
  obtain ⟨d, h1, h2⟩ := fixO_rel (step := s240_L0) (fun x => ((s.size : Int) - x.1.2.1).toNat) (fun x => x.1.1 = s ∧ 0 ≤ x.1.2.1 ∧ x.1.2.1 ≤ s.size)
    (fun x d => match d with
      | .inl y => y.1.1 = false ∧ ¬ okFrom s x.1.2.1
      | .inr (.inl y) => y.1.1 = s ∧ okFrom s x.1.2.1
      | .inr (.inr _) => False) (by
      rintro ⟨⟨(t : ByteArray), (i : Int), ⟨⟩⟩, ⟨⟩⟩ ⟨h1, h2, h3⟩
      simp only at h1 h2 h3
      subst h1
      simp only [s240_L0, q240_L0]
      by_cases hi : i < t.size
      · rw [bif_t (by simpa using hi), bif_t (by simp; omega), bif_t (by simp; omega)]
        have hb := bt_range t i
        rw [wI_id (by omega) (by omega), wI_id (n := i + 1) (by omega) (by omega)]
        by_cases hr : 97 ≤ bt t i ∧ bt t i ≤ 122
        · left
          have e : f77 (bt t i) 97 122 = true := by
            unfold f77; rw [bif_t (by simpa using hr.1)]; simpa using hr.2
          rw [e]
          refine ⟨_, rfl, ⟨rfl, by simp only; omega, by simp only; omega⟩, by simp only; omega, fun d hd => ?_⟩
          match d, hd with
          | .inl y, hd => exact ⟨hd.1, fun h => hd.2 (okFrom_back h)⟩
          | .inr (.inl y), hd => exact ⟨hd.1, okFrom_step hr hd.2⟩
        · right
          have e : f77 (bt t i) 97 122 = false := by
            unfold f77
            by_cases h97 : bt t i ≥ 97
            · rw [bif_t (by simpa using h97)]; simp; omega
            · rw [bif_f (by simp; omega)]
          rw [e]
          exact ⟨_, rfl, rfl, fun h => hr (h i (Int.le_refl _) hi)⟩
      · right
        rw [bif_f (by simp; omega)]
        exact ⟨_, rfl, rfl, fun j h4 h5 => by omega⟩) ((s, 0, ()), ()) ⟨rfl, by simp, by simp⟩
  unfold g240
  rw [h1]
  simp only [Option.bind_some]
  match d, h2 with
  | .inl y, h2 => exact ⟨_, rfl, by rw [h2.1]; simp only [Bool.false_eq_true, false_iff]; exact fun h => h2.2 h.1⟩
  | .inr (.inl y), h2 =>
    refine ⟨_, rfl, ?_⟩
    rw [h2.1]
    unfold f77
    by_cases h0 : 1 ≤ s.size
    · rw [bif_t (by simp; omega)]
      simp only [decide_eq_true_eq]
      exact ⟨fun _ => ⟨h2.2, h0⟩, fun _ => by omega⟩
    · rw [bif_f (by simp; omega)]
      simp only [Bool.false_eq_true, false_iff]
      exact fun h => h0 h.2

theorem end190 (s : ByteArray) (hs : s.size ≤ 2 ^ 47) : ∃ b, g227 s = some ((b, ()), ()) ∧ (b = true ↔ okFrom s 0 ∧ 1 ≤ s.size ∧ s.size ≤ 12) := by
  have h47 : (2 : Nat) ^ 47 = 140737488355328 := by decide
  rw [h47] at hs
  obtain ⟨d, h1, h2⟩ := fixO_rel (step := s227_L0) (fun x => ((s.size : Int) - x.1.2.2.1).toNat) (fun x => x.1.1 = s ∧ x.1.2.1 = s.size ∧ 0 ≤ x.1.2.2.1 ∧ x.1.2.2.1 ≤ s.size)
    (fun x d => match d with
      | .inl y => y.1.1 = false ∧ ¬ okFrom s x.1.2.2.1
      | .inr (.inl y) => y.1.1 = s ∧ okFrom s x.1.2.2.1
      | .inr (.inr _) => False) (by
      rintro ⟨⟨(t : ByteArray), (n : Int), (i : Int), ⟨⟩⟩, ⟨⟩⟩ ⟨h1, hn, h2, h3⟩
      simp only at h1 h2 h3 hn
      subst h1 hn
      simp only [s227_L0, q227_L0]
      by_cases hi : i < t.size
      · rw [bif_t (by simpa using hi), bif_t (by simp; omega)]
        rw [wI_id (n := i + 1) (by omega) (by omega)]
        by_cases hr : 97 ≤ bt t i ∧ bt t i ≤ 122
        · left
          rw [bif_f (by simp; omega), bif_t (by simp; omega), bif_f (by simp; omega)]
          refine ⟨_, rfl, ⟨rfl, rfl, by simp only; omega, by simp only; omega⟩, by simp only; omega, fun d hd => ?_⟩
          match d, hd with
          | .inl y, hd => exact ⟨hd.1, fun h => hd.2 (okFrom_back h)⟩
          | .inr (.inl y), hd => exact ⟨hd.1, okFrom_step hr hd.2⟩
        · right
          by_cases h97 : bt t i < 97
          · rw [bif_t (by simpa using h97)]
            exact ⟨_, rfl, rfl, fun h => hr (h i (Int.le_refl _) hi)⟩
          · rw [bif_f (by simp; omega), bif_t (by simp; omega), bif_t (by simp; omega)]
            exact ⟨_, rfl, rfl, fun h => hr (h i (Int.le_refl _) hi)⟩
      · right
        rw [bif_f (by simp; omega)]
        exact ⟨_, rfl, rfl, fun j h4 h5 => by omega⟩) ((s, s.size, 0, ()), ()) ⟨rfl, rfl, by simp, by simp⟩
  unfold g227
  rw [h1]
  simp only [Option.bind_some]
  match d, h2 with
  | .inl y, h2 => exact ⟨_, rfl, by rw [h2.1]; simp only [Bool.false_eq_true, false_iff]; exact fun h => h2.2 h.1⟩
  | .inr (.inl y), h2 =>
    refine ⟨_, rfl, ?_⟩
    rw [h2.1]
    unfold f86
    by_cases h0 : 1 ≤ s.size
    · rw [bif_t (by simp; omega)]
      simp only [decide_eq_true_eq]
      exact ⟨fun h => ⟨h2.2, h0, by omega⟩, fun h => by omega⟩
    · rw [bif_f (by simp; omega)]
      simp only [Bool.false_eq_true, false_iff]
      exact fun h => h0 h.2.1

theorem names (s : ByteArray) (hw : s.size ≤ 2 ^ 47) : ∃ b, g233 s = some ((b, ()), ()) ∧ g191 s = some ((b, ()), ()) := by
  obtain ⟨b2, e2, r2⟩ := end190 s hw
  refine ⟨decide (b2 = true ∧ s.size ≤ 8), ?_, ?_⟩
  · unfold g233
    by_cases h8 : s.size ≤ 8
    · obtain ⟨b1, e1, r1⟩ := end191 s h8
      rw [bif_t (by simp; omega), e1]
      simp only [Option.bind_some]
      congr 3
      cases b1 with
      | true =>
        have := r1.mp rfl
        have h2 := r2.mpr ⟨this.1, this.2, by omega⟩
        simp [h2, h8]
      | false =>
        cases b2 with
        | false => simp
        | true =>
          have := r2.mp rfl
          have := r1.mpr ⟨this.1, this.2.1⟩
          cases this
    · rw [bif_f (by simp; omega)]
      simp [h8]
  · unfold g191
    rw [e2]
    simp only [Option.bind_some]
    cases b2 with
    | true => simp; omega
    | false => simp

theorem policies (p : Int × (Int × Unit)) : f193 p = f234 p := rfl

theorem bif_and {b x : Bool} : (bif b then x else false) = (b && x) := by cases b <;> rfl

theorem f219_iff (w : Wi) : f219 w = true ↔ (0 ≤ w.1 ∧ w.1 ≤ 2048) ∧ (4 ≤ w.2.1 ∧ w.2.1 ≤ 2048) ∧ Int.tmod w.1 4 = 0 ∧ Int.tmod w.2.1 4 = 0 ∧ w.1 + w.2.1 ≤ 2048 ∧ (1 ≤ w.2.2.1 ∧ w.2.2.1 ≤ 7) := by
  unfold f219
  simp only [bif_and, Bool.and_eq_true, f77_iff, beq_iff_eq, decide_eq_true_eq]
  constructor
  · rintro ⟨h1, h2, h3, h4, h5, h6⟩
    rw [wI_id (by omega) (by omega)] at h5
    exact ⟨h1, h2, h3, h4, h5, h6⟩
  · rintro ⟨h1, h2, h3, h4, h5, h6⟩
    refine ⟨h1, h2, h3, h4, ?_, h6⟩
    rw [wI_id (by omega) (by omega)]
    exact h5

theorem f194_219 (w : Wi) : f194 w = f219 w := by
  rw [Bool.eq_iff_iff, f219_iff]
  unfold f194
  rw [f86_77]
  simp only [bif_and, Bool.and_eq_true, f77_iff, beq_iff_eq]
  constructor
  · rintro ⟨h1, h2, h3, h4, h5⟩
    rw [wI_id (by omega) (by omega)] at h3
    exact ⟨by omega, h1, h4, h2, by omega, h5⟩
  · rintro ⟨h1, h2, h3, h4, h5, h6⟩
    refine ⟨h2, h4, ?_, h3, h6⟩
    rw [wI_id (by omega) (by omega)]
    omega

/-- Two windows that are right, and lie apart. -/
theorem f197_iff (v w : Wi) (hv : f219 v = true) (hw : f219 w = true) : f197 v w = true ↔ v.1 + v.2.1 ≤ w.1 ∨ w.1 + w.2.1 ≤ v.1 := by
  have a := (f219_iff v).mp hv
  have b := (f219_iff w).mp hw
  unfold f197
  rw [wI_id (n := v.1 + v.2.1) (by omega) (by omega), wI_id (n := w.1 + w.2.1) (by omega) (by omega)]
  by_cases h : v.1 + v.2.1 ≤ w.1
  · rw [bif_t (by simpa using h)]; simp; omega
  · rw [bif_f (by simpa using h)]; simp; omega

theorem f235_iff (w : Wi) (x : Int) (hw : f219 w = true) : f235 w x = true ↔ w.1 ≤ x ∧ x < w.1 + w.2.1 := by
  have b := (f219_iff w).mp hw
  unfold f235
  rw [wI_id (n := w.1 + w.2.1) (by omega) (by omega)]
  by_cases h : x ≥ w.1
  · rw [bif_t (by simpa using h)]; simp; omega
  · rw [bif_f (by simpa using h)]; simp; omega

theorem named (t : Tb) (hl : (tParts t).len ≤ 2 ^ 47) (s : ByteArray) : ∃ n : Int, g192 t s = some ((n, ()), ()) ∧ ((∃ i : Nat, n = i ∧ i < (tParts t).len ∧ strEq ((tParts t).get i).1 s = true ∧ ∀ j, j < i → strEq ((tParts t).get j).1 s = false) ∨ (n = -1 ∧ ∀ i, i < (tParts t).len → strEq ((tParts t).get i).1 s = false)) := by
  have h := index_loop (step := s228_229_L0) (x := tParts t) (c := (s, ())) (fun i => strEq ((tParts t).get i).1 s) (fun i hi => by
    simp only [s228_229_L0, q228_229_L0]
    refine (bif_t (idx_lt hi)).trans ((bif_t (idx_in hi)).trans ?_)
    rw [wI_succ hi hl, Int.toNat_natCast]
    by_cases hf : strEq ((tParts t).get i).1 s = true
    · rw [if_pos hf]; exact bif_t hf
    · rw [if_neg hf]; exact bif_f (show strEq ((tParts t).get i).1 s = false by simpa using hf)) (by
    simp only [s228_229_L0, q228_229_L0]
    exact bif_f (idx_end (tParts t).len))
  unfold g192 g228_229
  rcases h with ⟨i, h1, h2, h3, h4⟩ | ⟨h1, h2⟩
  · have h4' : fixO s228_229_L0 ((t.2.2.2.2.2.2.2.1, ((s, ()), ((t.2.2.2.2.2.2.2.1.len : Int), ((0 : Int), ())))), ()) = some (.inl (((i : Int), ()), ())) := h4
    rw [h4']
    exact ⟨i, rfl, .inl ⟨i, rfl, h1, h2, h3⟩⟩
  · have h2' : fixO s228_229_L0 ((t.2.2.2.2.2.2.2.1, ((s, ()), ((t.2.2.2.2.2.2.2.1.len : Int), ((0 : Int), ())))), ()) = some (.inr (.inl ((), ()))) := h2
    rw [h2']
    exact ⟨-1, rfl, .inr ⟨rfl, h1⟩⟩

/-- What the program asks behind the head. -/
noncomputable def rest71 (t : Tb) : Option ((Bool × Unit) × Unit) :=
  bif (!(f86 ((tParts t).len : Int) (1 : Int) (6 : Int))) then
    some ((false, ()), ())
  else
    (g135 t).bind fun y2 =>
      bif (!y2.1.1) then
        some ((false, ()), ())
      else
        bif (decide (((tDevs t).len : Int) > (8 : Int))) then
          some ((false, ()), ())
        else
          (g136_137 (tDevs t) (((tParts t).len : Int), ())).bind fun y3 =>
            bif y3.1.1 then
              some ((false, ()), ())
            else
              bif (decide (((tChans t).len : Int) > (8 : Int))) then
                some ((false, ()), ())
              else
                (g138_139 (tChans t) (((tParts t).len : Int), ())).bind fun y4 =>
                  bif y4.1.1 then
                    some ((false, ()), ())
                  else
                    (g141 t.2.2.2.1 t.2.1 (tChans t)).bind fun y5 =>
                      bif (decide (t.2.2.2.2.1 < y5.1.1)) then
                        some ((false, ()), ())
                      else
                        (g142 t).bind fun y6 =>
                          some ((y6.1.1, ()), ())

theorem head (t : Tb) : (g148 t = some ((false, ()), ()) ∧ g64 t = some ((false, ()), ())) ∨
    (f152 t.2.2.2.1 = true ∧ (1 ≤ t.2.2.2.2.1 ∧ t.2.2.2.2.1 ≤ 5000) ∧ (1 ≤ t.2.2.2.2.2.1 ∧ t.2.2.2.2.2.1 ≤ 5000) ∧ (1 ≤ t.2.2.2.2.2.2.1 ∧ t.2.2.2.2.2.2.1 ≤ 5000) ∧ f162 t.2.1 = true ∧ f77 t.1 64 2048 = true ∧ g148 t = some ((true, ()), ()) ∧ g64 t = rest71 t) := by
  have e127 : ∀ n, f134 n = f77 n 1 5000 := fun n => rfl
  have e124 : ∀ n, f131 n = (f77 n 64 2048 && (Int.tmod n 4 == 0)) := fun n => by
    unfold f131
    rw [f86_77]
    cases f77 n 64 2048 <;> rfl
  unfold g148 g64
  rw [e124, e127, e127, e127, f133_152, f132_162, f86_77]
  have g87_155 : g87 t.2.2.2.1 = (g155 t.2.2.2.1).bind fun y => some ((y.1.1, ()), ()) := rfl
  rw [g87_155]
  cases h1 : f77 t.1 64 2048 with
  | false => exact .inl ⟨rfl, rfl⟩
  | true =>
    cases h2 : (Int.tmod t.1 4 == 0) with
    | false =>
      have : (Int.tmod t.1 4 != 0) = true := by simpa [bne] using h2
      rw [this]
      exact .inl ⟨rfl, rfl⟩
    | true =>
      have : (Int.tmod t.1 4 != 0) = false := by simpa [bne] using h2
      rw [this]
      cases h3 : f162 t.2.1 with
      | false => exact .inl ⟨rfl, rfl⟩
      | true =>
        cases h4 : f77 t.2.2.1 1 8 with
        | false => exact .inl ⟨rfl, rfl⟩
        | true =>
          cases h5 : f152 t.2.2.2.1 with
          | false => exact .inl ⟨rfl, rfl⟩
          | true =>
            cases h6 : f77 t.2.2.2.2.1 1 5000 with
            | false => exact .inl ⟨rfl, rfl⟩
            | true =>
              cases h7 : f77 t.2.2.2.2.2.1 1 5000 with
              | false => exact .inl ⟨rfl, rfl⟩
              | true =>
                cases h8 : f77 t.2.2.2.2.2.2.1 1 5000 with
                | false => exact .inl ⟨rfl, rfl⟩
                | true =>
                  obtain ⟨n, w1, w2⟩ := worst h5
                  rw [w1, w2]
                  simp only [Bool.not_true, cond_false, cond_true, Bool.and_self, Option.bind_some]
                  by_cases hg : t.2.2.2.2.2.1 ≥ n
                  · right
                    refine ⟨trivial, (f77_iff _ _ _).mp h6, (f77_iff _ _ _).mp h7, (f77_iff _ _ _).mp h8, trivial, trivial, ?_, ?_⟩
                    · rw [decide_eq_true hg]
                    · exact bif_f (by simp; omega)
                  · left
                    refine ⟨?_, ?_⟩
                    · rw [decide_eq_false hg]
                    · exact bif_t (by simp; omega)

/-- The pads: where every row of chans is right. -/
theorem pads (t : Tb) (hc : f152 t.2.2.2.1 = true) (hs : f162 t.2.1 = true) (hl : (tChans t).len ≤ 8) (hok : ∀ j, j < (tChans t).len → f206 ((tChans t).get j) = true) :
    ∃ n : Int, g207 t.2.2.2.1 t.2.1 (tChans t) = some ((n, ()), ()) ∧ g141 t.2.2.2.1 t.2.1 (tChans t) = some ((n, ()), ()) := by
  obtain ⟨c1, _⟩ := costs_of hc
  obtain ⟨m, h1, h2⟩ := good (tChans t) hl t.2.2.2.1 c1 (wI ((wI (16 * t.2.2.2.1.1)) + (wI ((wI (t.2.1.1 * t.2.1.2.1)) * t.2.2.2.1.2.2.2.2.2.2.1)))) hok
  unfold g207 g141
  rw [hc, hs]
  simp only [Bool.not_true, cond_false]
  rw [bif_f (by simp; omega), h1, h2]
  exact ⟨m, rfl, rfl⟩

/-- What is known of tables whose rows behind the partitions are right. -/
def Tail (t : Tb) : Prop :=
  (tDevs t).len ≤ 8 ∧ (tChans t).len ≤ 8 ∧ (∀ i, i < (tDevs t).len → f77 ((tDevs t).get i) 0 (wI (((tParts t).len : Int) - 1)) = true) ∧
  (∀ i, i < (tChans t).len → f206 ((tChans t).get i) = true ∧ ((tChans t).get i).2.1 < ((tParts t).len : Int) ∧ ((tChans t).get i).2.2.1 < ((tParts t).len : Int)) ∧ SlotsIn t ∧ (1 ≤ (tSlots t).len ∧ (tSlots t).len ≤ 16) ∧
  ∃ n : Int, g207 t.2.2.2.1 t.2.1 (tChans t) = some ((n, ()), ()) ∧ g141 t.2.2.2.1 t.2.1 (tChans t) = some ((n, ()), ()) ∧ t.2.2.2.2.1 ≥ n

/-- Devices, channels, pads and slots: what the reference asks behind the partitions, and the program. -/
theorem tail (t : Tb) (hl : (tSlots t).len ≤ 2 ^ 47) (hc : f152 t.2.2.2.1 = true) (hs : f162 t.2.1 = true) (h1 : 1 ≤ t.2.2.2.2.1 ∧ t.2.2.2.2.1 ≤ 5000) (h2 : 1 ≤ t.2.2.2.2.2.1 ∧ t.2.2.2.2.2.1 ≤ 5000) (h3 : 1 ≤ t.2.2.2.2.2.2.1 ∧ t.2.2.2.2.2.2.1 ≤ 5000) :
    ∃ b : Bool, ((g150 t).bind fun y3 => bif y3.1.1 then (g151 t).bind fun y4 => some ((y4.1.1, ()), ()) else some ((false, ()), ())) = some ((b, ()), ()) ∧
      (bif (decide (((tDevs t).len : Int) > (8 : Int))) then
          some ((false, ()), ())
        else
          (g136_137 (tDevs t) (((tParts t).len : Int), ())).bind fun y3 =>
            bif y3.1.1 then
              some ((false, ()), ())
            else
              bif (decide (((tChans t).len : Int) > (8 : Int))) then
                some ((false, ()), ())
              else
                (g138_139 (tChans t) (((tParts t).len : Int), ())).bind fun y4 =>
                  bif y4.1.1 then
                    some ((false, ()), ())
                  else
                    (g141 t.2.2.2.1 t.2.1 (tChans t)).bind fun y5 =>
                      bif (decide (t.2.2.2.2.1 < y5.1.1)) then
                        some ((false, ()), ())
                      else
                        (g142 t).bind fun y6 =>
                          some ((y6.1.1, ()), ())) = some ((b, ()), ()) ∧ (b = true → Tail t) := by
  have slots : ∃ b : Bool, g151 t = some ((b, ()), ()) ∧ g142 t = some ((b, ()), ()) ∧ (b = true → SlotsIn t ∧ 1 ≤ (tSlots t).len ∧ (tSlots t).len ≤ 16) := by
    obtain ⟨d, e, q1, q2, q3⟩ := slotsLoop t hl h1 h2 h3
    have q1' : fixO s151_L0 (((), ((0 : Int), ((0 : Int), ()))), (t, ())) = some d := q1
    have q2' : fixO s142_L0 (((), ((0 : Int), (t.2.2.2.2.2.2.2.2.2.2.1, ((t.2.2.2.2.2.2.2.2.2.2.1.len : Int), ((0 : Int), ()))))), (t, ())) = some e := q2
    unfold g151 g142
    rw [q1', q2', f86_77]
    rcases q3 with ⟨rfl, rfl⟩ | ⟨rfl, rfl, q3⟩
    · refine ⟨false, ?_, rfl, by simp⟩
      cases f77 (t.2.2.2.2.2.2.2.2.2.2.1.len : Int) 1 16 <;> rfl
    · refine ⟨f77 (t.2.2.2.2.2.2.2.2.2.2.1.len : Int) 1 16, ?_, rfl, fun h => ⟨q3, ?_⟩⟩
      · cases f77 (t.2.2.2.2.2.2.2.2.2.2.1.len : Int) 1 16 <;> rfl
      · have := (f77_iff _ _ _).mp h
        unfold tSlots
        omega
  obtain ⟨b, s1, s2, s3⟩ := slots
  unfold g150
  by_cases hd : ((tDevs t).len : Int) > 8
  · refine ⟨false, ?_, bif_t (by simpa using hd), by simp⟩
    have : decide ((t.2.2.2.2.2.2.2.2.1.len : Int) > 8) = true := decide_eq_true hd
    rw [this]; rfl
  · have e1 : decide ((t.2.2.2.2.2.2.2.2.1.len : Int) > 8) = false := decide_eq_false hd
    have e1' : decide (((tDevs t).len : Int) > 8) = false := by simpa using hd
    rw [e1, e1']
    simp only [cond_false]
    have hd8 : (tDevs t).len ≤ 8 := by omega
    by_cases hch : ((tChans t).len : Int) > 8
    · have e2 : decide ((t.2.2.2.2.2.2.2.2.2.1.len : Int) > 8) = true := decide_eq_true hch
      have e2' : decide (((tChans t).len : Int) > 8) = true := by simpa using hch
      rw [e2, e2']
      rcases devs t hd8 with ⟨_, _, a2⟩ | ⟨_, _, a2⟩ <;> rw [a2] <;> exact ⟨false, rfl, rfl, by simp⟩
    · have e2 : decide ((t.2.2.2.2.2.2.2.2.2.1.len : Int) > 8) = false := decide_eq_false hch
      have e2' : decide (((tChans t).len : Int) > 8) = false := by simpa using hch
      rw [e2, e2']
      simp only [cond_false]
      have hc8 : (tChans t).len ≤ 8 := by omega
      rcases devs t hd8 with ⟨_, a1, a2⟩ | ⟨hdev, a1, a2⟩
      · rw [a1, a2]; exact ⟨false, rfl, rfl, by simp⟩
      · rw [a1, a2]
        simp only [Option.bind_some, cond_false]
        rcases chans t hc8 with ⟨b1, b2⟩ | ⟨hok, b1, b2⟩
        · rw [b1, b2]; exact ⟨false, rfl, rfl, by simp⟩
        · rw [b1, b2]
          simp only [Option.bind_some, cond_false]
          obtain ⟨n, p1, p2⟩ := pads t hc hs hc8 (fun j hj => (hok j hj).1)
          have p1' : g207 t.2.2.2.1 t.2.1 t.2.2.2.2.2.2.2.2.2.1 = some ((n, ()), ()) := p1
          rw [p1', p2, s1, s2]
          simp only [Option.bind_some]
          by_cases hp : t.2.2.2.2.1 ≥ n
          · rw [decide_eq_true hp, decide_eq_false (by omega)]
            exact ⟨b, rfl, rfl, fun h => ⟨hd8, hc8, hdev, hok, (s3 h).1, (s3 h).2, n, p1, p2, hp⟩⟩
          · rw [decide_eq_false hp, decide_eq_true (by omega)]
            exact ⟨false, rfl, rfl, by simp⟩

/-- A slice's content as a list. -/
def toL {α : Type} (x : L α) : List α := (List.range x.len).map x.get

theorem toL_len {α : Type} (x : L α) : (toL x).length = x.len := by simp [toL]

theorem toL_get {α : Type} (x : L α) (i : Nat) : (toL x)[i]? = if i < x.len then some (x.get i) else none := by
  unfold toL
  rw [List.getElem?_map]
  by_cases h : i < x.len
  · rw [if_pos h, List.getElem?_range h]; rfl
  · rw [if_neg h, List.getElem?_eq_none (by simpa using h)]; rfl

theorem toL_app {α : Type} (a b : L α) : toL (L.app a b) = toL a ++ toL b := by
  apply List.ext_getElem?
  intro i
  rw [toL_get, List.getElem?_append, toL_len, toL_get, toL_get]
  show (if i < a.len + b.len then some (bif Nat.blt i a.len then a.get i else b.get (i - a.len)) else none) = _
  by_cases h : i < a.len
  · have : Nat.blt i a.len = true := by simpa [Nat.blt_eq] using h
    rw [if_pos (by omega), if_pos h, if_pos h, this]; rfl
  · have : Nat.blt i a.len = false := by
      cases hb : Nat.blt i a.len with
      | false => rfl
      | true => exact absurd (by simpa [Nat.blt_eq] using hb) h
    rw [if_neg h, this]
    by_cases h2 : i < a.len + b.len
    · rw [if_pos h2, if_pos (by omega)]; rfl
    · rw [if_neg h2, if_neg (by omega)]

/-- Every window of every partition, in order. -/
def winsOf (x : L PR) (n : Nat) : List Wi := ((toL x).take n).flatMap fun p => toL p.2.2.2.1

theorem winsOf_succ (x : L PR) {n : Nat} (h : n < x.len) : winsOf x (n + 1) = winsOf x n ++ toL (x.get n).2.2.2.1 := by
  unfold winsOf
  have hn : n < (toL x).length := by rw [toL_len]; exact h
  rw [List.take_succ_eq_append_getElem hn, List.flatMap_append]
  have : (toL x)[n] = x.get n := by
    have := toL_get x n
    rw [if_pos h, List.getElem?_eq_getElem hn] at this
    exact Option.some.inj this
  rw [this]
  simp

theorem allWins (x : L PR) (hn : x.len ≤ 6) (hw : ∀ i, i < x.len → (x.get i).2.2.2.1.len ≤ 4) : ∃ all : L Wi, g205 x = some ((all, ()), ()) ∧ toL all = winsOf x x.len ∧ all.len ≤ 24 := by
  obtain ⟨d, h1, all, rfl, h2, h3⟩ := fixO_rel (step := s205_L0) (fun a => x.len - a.1.2.2.1.toNat)
    (fun a => ∃ (i : Nat) (acc : L Wi), a = ((x, (acc, ((i : Int), ()))), ()) ∧ i ≤ x.len ∧ toL acc = winsOf x i ∧ acc.len ≤ 4 * i)
    (fun _ d => ∃ all : L Wi, d = .inl ((all, ()), ()) ∧ toL all = winsOf x x.len ∧ all.len ≤ 24) (by
      rintro _ ⟨i, acc, rfl, hi, ha, hl⟩
      by_cases h : i < x.len
      · left
        have hm : decide (acc.len + (x.get ((i : Int)).toNat).2.2.2.1.len ≤ most) = true := by
          rw [Int.toNat_natCast]
          have := hw i h
          have h32 : most = 4294967296 := rfl
          rw [h32]
          exact decide_eq_true (by omega)
        have hstep : s205_L0 ((x, (acc, ((i : Int), ()))), ()) = some (.inl ((x, (L.app acc (x.get i).2.2.2.1, (((i + 1 : Nat) : Int), ()))), ())) := by
          simp only [s205_L0, q205_L0]
          refine (bif_t (idx_lt h)).trans ((bif_t (idx_in h)).trans ((bif_t hm).trans ?_))
          rw [wI_succ h (by omega), Int.toNat_natCast]
        refine ⟨_, hstep, ⟨i + 1, _, rfl, h, ?_, ?_⟩, by simp only [Int.toNat_natCast]; omega, fun d hd => hd⟩
        · rw [toL_app, ha, winsOf_succ x h]
        · show acc.len + (x.get i).2.2.2.1.len ≤ _
          have := hw i h
          omega
      · right
        have : i = x.len := by omega
        subst this
        have hstep : s205_L0 ((x, (acc, ((x.len : Int), ()))), ()) = some (.inr (.inl ((acc, ()), ()))) := by
          simp only [s205_L0, q205_L0]
          exact bif_f (idx_end x.len)
        exact ⟨_, hstep, acc, rfl, ha, by omega⟩)
    ((x, ((L.of (Ty.zero (.pair (.int .i64) (.pair (.int .i64) (.pair (.int .i64) .unit)))) []), ((0 : Int), ()))), ()) ⟨0, _, rfl, Nat.zero_le _, rfl, Nat.zero_le _⟩
  unfold g205
  rw [h1]
  exact ⟨all, rfl, h2, h3⟩

/-- Do two windows of a row overlap, as the reference asks it. -/
def ovl (a : L Wi) (k i : Nat) : Bool := decide ((a.get k).1 < wI ((a.get i).1 + (a.get i).2.1)) && decide ((a.get i).1 < wI ((a.get k).1 + (a.get k).2.1))

theorem ovlInner (a : L Wi) (ha : a.len ≤ 24) {i : Nat} (hi : i < a.len) :
    (∃ k, k < i ∧ ovl a k i = true ∧ fixO s149_L6 ((a, ((i : Int), ((0 : Int), ()))), ()) = some (.inl ((false, ()), ()))) ∨
    ((∀ k, k < i → ovl a k i = false) ∧ fixO s149_L6 ((a, ((i : Int), ((0 : Int), ()))), ()) = some (.inr (.inl ((a, ((i : Int), ())), ())))) := by
  have h := scan (step := s149_L6) (fun k => ((a, ((i : Int), ((k : Int), ()))), ())) i (fun k => !ovl a k i) (fun _ => .inl ((false, ()), ())) (.inr (.inl ((a, ((i : Int), ())), ())))
    (fun k hk ho => by
      have ho : ovl a k i = false := by simpa using ho
      have hkl : k < a.len := by omega
      simp only [s149_L6, q149_L6]
      refine (bif_t (idx_lt hk)).trans ((bif_t (idx_in hkl)).trans ((bif_t (idx_in hi)).trans ((bif_t (idx_in hi)).trans ?_)))
      rw [wI_succ hk (by omega), Int.toNat_natCast, Int.toNat_natCast]
      unfold ovl at ho
      cases h1 : decide ((a.get k).1 < wI ((a.get i).1 + (a.get i).2.1)) with
      | false => rfl
      | true =>
        rw [h1] at ho
        refine (bif_t (idx_in hi)).trans ((bif_t (idx_in hkl)).trans ((bif_t (idx_in hkl)).trans ?_))
        exact bif_f (by simpa using ho))
    (fun k hk ho => by
      have ho : ovl a k i = true := by simpa using ho
      have hkl : k < a.len := by omega
      simp only [s149_L6, q149_L6]
      refine (bif_t (idx_lt hk)).trans ((bif_t (idx_in hkl)).trans ((bif_t (idx_in hi)).trans ((bif_t (idx_in hi)).trans ?_)))
      rw [wI_succ hk (by omega), Int.toNat_natCast, Int.toNat_natCast]
      unfold ovl at ho
      simp only [Bool.and_eq_true] at ho
      refine (bif_t ho.1).trans ((bif_t (idx_in hi)).trans ((bif_t (idx_in hkl)).trans ((bif_t (idx_in hkl)).trans ?_)))
      exact bif_t ho.2)
    (by
      simp only [s149_L6, q149_L6]
      exact bif_f (idx_end i))
  rcases h with ⟨k, h1, h2, _, h4⟩ | ⟨h1, h2⟩
  · exact .inl ⟨k, h1, by simpa using h2, h4⟩
  · exact .inr ⟨fun k hk => by simpa using h1 k hk, h2⟩

theorem ovlAll (a : L Wi) (ha : a.len ≤ 24) :
    ((∃ i k, i < a.len ∧ k < i ∧ ovl a k i = true) ∧ fixO s149_L4 ((a, ((0 : Int), ())), ()) = some (.inl ((false, ()), ()))) ∨
    ((∀ i k, i < a.len → k < i → ovl a k i = false) ∧ fixO s149_L4 ((a, ((0 : Int), ())), ()) = some (.inr (.inl ((), ())))) := by
  have h := scan (step := s149_L4) (fun i => ((a, ((i : Int), ())), ())) a.len (fun i => (List.range i).all fun k => !ovl a k i) (fun _ => .inl ((false, ()), ())) (.inr (.inl ((), ())))
    (fun i hi ho => by
      have ho : ∀ k, k < i → ovl a k i = false := fun k hk => by simpa using List.all_eq_true.mp ho k (List.mem_range.mpr hk)
      simp only [s149_L4, q149_L4]
      refine (bif_t (idx_lt hi)).trans ?_
      rcases ovlInner a ha hi with ⟨k, hk, h1, _⟩ | ⟨_, h2⟩
      · rw [ho k hk] at h1; cases h1
      · rw [h2]
        simp only [Option.bind_some]
        rw [wI_succ hi (by omega)])
    (fun i hi ho => by
      simp only [s149_L4, q149_L4]
      refine (bif_t (idx_lt hi)).trans ?_
      rcases ovlInner a ha hi with ⟨k, hk, h1, h2⟩ | ⟨h1, _⟩
      · rw [h2]; rfl
      · have : ((List.range i).all fun k => !ovl a k i) = true := List.all_eq_true.mpr fun k hk => by simp [h1 k (List.mem_range.mp hk)]
        rw [this] at ho; cases ho)
    (by
      simp only [s149_L4, q149_L4]
      exact bif_f (idx_end a.len))
  rcases h with ⟨i, h1, h2, _, h4⟩ | ⟨h1, h2⟩
  · refine .inl ⟨?_, h4⟩
    have h2' : ¬ ((List.range i).all fun k => !ovl a k i) = true := by rw [h2]; simp
    rw [List.all_eq_true] at h2'
    simp only [Classical.not_forall] at h2'
    obtain ⟨k, hk, hko⟩ := h2'
    exact ⟨i, k, h1, List.mem_range.mp hk, by simpa using hko⟩
  · exact .inr ⟨fun i k hi hk => by simpa using List.all_eq_true.mp (h1 i hi) k (List.mem_range.mpr hk), h2⟩

/-- Two windows have no place in common. -/
def apart (v w : Wi) : Prop := v.1 + v.2.1 ≤ w.1 ∨ w.1 + w.2.1 ≤ v.1

theorem toL_mem {α : Type} (x : L α) (a : α) : a ∈ toL x ↔ ∃ i, i < x.len ∧ x.get i = a := by
  unfold toL
  rw [List.mem_map]
  constructor
  · rintro ⟨i, hi, rfl⟩; exact ⟨i, List.mem_range.mp hi, rfl⟩
  · rintro ⟨i, hi, rfl⟩; exact ⟨i, List.mem_range.mpr hi, rfl⟩

theorem toL_getElem {α : Type} (x : L α) (i : Nat) (h : i < (toL x).length) : (toL x)[i] = x.get i := by
  have := toL_get x i
  rw [List.getElem?_eq_getElem h, if_pos (by rw [toL_len] at h; exact h)] at this
  exact Option.some.inj this

theorem toL_take_succ {α : Type} (x : L α) {i : Nat} (h : i < x.len) : (toL x).take (i + 1) = (toL x).take i ++ [x.get i] := by
  have hn : i < (toL x).length := by rw [toL_len]; exact h
  rw [List.take_succ_eq_append_getElem hn, toL_getElem]

theorem toL_take_len {α : Type} (x : L α) : (toL x).take x.len = toL x := by
  rw [← toL_len x]; exact List.take_length

theorem winsOf_prefix (x : L PR) {i n : Nat} (h : i ≤ n) (hn : n ≤ x.len) : ∃ r, winsOf x n = winsOf x i ++ r := by
  induction n with
  | zero => have : i = 0 := by omega
            subst this; exact ⟨[], (List.append_nil _).symm⟩
  | succ n ih =>
    by_cases e : i = n + 1
    · subst e; exact ⟨[], (List.append_nil _).symm⟩
    · obtain ⟨r, hr⟩ := ih (by omega) (by omega)
      refine ⟨r ++ toL (x.get n).2.2.2.1, ?_⟩
      rw [winsOf_succ x (by omega), hr, List.append_assoc]

/-- Is a row's window that overlaps there. -/
theorem overlaps (a : L Wi) (ha : a.len ≤ 2 ^ 47) (w : Wi) (hw : f219 w = true) (hg : ∀ v, v ∈ toL a → f219 v = true) :
    (g195_196 a (w, ()) = some ((true, ()), ()) ∧ ¬ ∀ v, v ∈ toL a → apart v w) ∨ (g195_196 a (w, ()) = some ((false, ()), ()) ∧ ∀ v, v ∈ toL a → apart v w) := by
  have h := index_loop (step := s230_196_L0) (x := a) (c := (w, ())) (fun i => f196 (a.get i) w) (fun i hi => by
    simp only [s230_196_L0, q230_196_L0]
    refine (bif_t (idx_lt hi)).trans ((bif_t (idx_in hi)).trans ?_)
    rw [wI_succ hi ha, Int.toNat_natCast]
    by_cases hf : f196 (a.get i) w = true
    · rw [if_pos hf]; exact bif_t hf
    · rw [if_neg hf]; exact bif_f (by simpa using hf)) (by
    simp only [s230_196_L0, q230_196_L0]
    exact bif_f (idx_end a.len))
  have hf : ∀ i, i < a.len → (f196 (a.get i) w = false ↔ apart (a.get i) w) := fun i hi => by
    have := f197_iff (a.get i) w (hg _ ((toL_mem _ _).mpr ⟨i, hi, rfl⟩)) hw
    unfold f196 apart
    rw [← this]
    cases f197 (a.get i) w <;> simp
  unfold g195_196 g230_196
  rcases h with ⟨i, h1, h2, h3, h4⟩ | ⟨h1, h2⟩
  · left
    rw [h4]
    refine ⟨by simp, fun q => ?_⟩
    have := (hf i h1).mpr (q _ ((toL_mem _ _).mpr ⟨i, h1, rfl⟩))
    rw [this] at h2; cases h2
  · right
    rw [h2]
    refine ⟨by simp, fun v hv => ?_⟩
    obtain ⟨i, hi, rfl⟩ := (toL_mem _ _).mp hv
    exact (hf i hi).mp (h1 i hi)

/-- The window of a row that has an address. -/
theorem winAt (a : L Wi) (ha : a.len ≤ 2 ^ 47) (x : Int) :
    (∃ i : Nat, i < a.len ∧ f235 (a.get i) x = true ∧ (∀ j, j < i → f235 (a.get j) x = false) ∧ g231 a x = some (((i : Int), ()), ())) ∨ ((∀ i, i < a.len → f235 (a.get i) x = false) ∧ g231 a x = some ((-1, ()), ())) := by
  have e95 : ∀ w : Wi, f239 w x = f235 w x := fun w => rfl
  have h := index_loop (step := s230_239_L0) (x := a) (c := (x, ())) (fun i => f235 (a.get i) x) (fun i hi => by
    simp only [s230_239_L0, q230_239_L0]
    refine (bif_t (idx_lt hi)).trans ((bif_t (idx_in hi)).trans ?_)
    rw [wI_succ hi ha, Int.toNat_natCast]
    by_cases hf : f235 (a.get i) x = true
    · rw [if_pos hf]; exact bif_t hf
    · rw [if_neg hf]
      have hf' : f235 (a.get i) x = false := by simpa using hf
      exact bif_f hf') (by
    simp only [s230_239_L0, q230_239_L0]
    exact bif_f (idx_end a.len))
  unfold g231 g230_239
  rcases h with ⟨i, h1, h2, h3, h4⟩ | ⟨h1, h2⟩
  · left
    rw [h4]
    exact ⟨i, h1, h2, h3, rfl⟩
  · right
    rw [h2]
    exact ⟨h1, rfl⟩

/-- A window of a partition that may be run, and has an address. -/
def ins (w : Wi) (x : Int) : Prop := f235 w x = true ∧ wI (Int.tdiv w.2.2.1 4) = 1

theorem perm4 (n : Int) (h : 1 ≤ n ∧ n ≤ 7) : (andOf .i64 n 4 != 0) = (wI (Int.tdiv n 4) == 1) := by
  obtain ⟨h1, h2⟩ := h
  have : n = 1 ∨ n = 2 ∨ n = 3 ∨ n = 4 ∨ n = 5 ∨ n = 6 ∨ n = 7 := by omega
  rcases this with rfl | rfl | rfl | rfl | rfl | rfl | rfl <;> decide +kernel

theorem runs (p : PR) (hl : p.2.2.2.1.len ≤ 2 ^ 47) (x : Int) (hg : ∀ i, i < p.2.2.2.1.len → f219 (p.2.2.2.1.get i) = true) (hp : (toL p.2.2.2.1).Pairwise apart) :
    ∃ b, g198 p x = some ((b, ()), ()) ∧ (b = true ↔ ∃ i, i < p.2.2.2.1.len ∧ ins (p.2.2.2.1.get i) x) := by
  unfold g198
  rcases winAt p.2.2.2.1 hl x with ⟨i, h1, h2, h3, h4⟩ | ⟨h1, h2⟩
  · rw [h4]
    refine ⟨andOf .i64 (p.2.2.2.1.get i).2.2.1 4 != 0, ?_, ?_⟩
    · simp only [Option.bind_some]
      refine (bif_t (by simp)).trans ((bif_t (idx_in h1)).trans ?_)
      rw [Int.toNat_natCast]
    · rw [perm4 _ ((f219_iff _).mp (hg i h1)).2.2.2.2.2]
      constructor
      · intro h; exact ⟨i, h1, h2, by simpa using h⟩
      · rintro ⟨j, hj, q1, q2⟩
        have : j = i := by
          by_cases e : j = i
          · exact e
          have a1 := (f235_iff _ x (hg i h1)).mp h2
          have a2 := (f235_iff _ x (hg j hj)).mp q1
          have hlen : (toL p.2.2.2.1).length = p.2.2.2.1.len := toL_len _
          have hall := List.pairwise_iff_getElem.mp hp
          rcases Nat.lt_or_gt_of_ne e with lt | gt
          · have := hall j i (by rw [hlen]; exact hj) (by rw [hlen]; exact h1) lt
            rw [toL_getElem, toL_getElem] at this
            unfold apart at this
            omega
          · have := hall i j (by rw [hlen]; exact h1) (by rw [hlen]; exact hj) gt
            rw [toL_getElem, toL_getElem] at this
            unfold apart at this
            omega
        subst this
        simpa using q2
  · rw [h2]
    refine ⟨false, ?_, ?_⟩
    · simp only [Option.bind_some]
      exact bif_f (by decide)
    · simp only [Bool.false_eq_true, false_iff, not_exists, not_and]
      intro i hi q
      have q1 := q.1
      rw [h1 i hi] at q1
      cases q1

/-- Is a text the name of a partition. -/
noncomputable def nm (s : ByteArray) : Bool := open Classical in decide (g233 s = some ((true, ()), ()))

theorem nm_of (s : ByteArray) (hw : s.size ≤ 2 ^ 47) : g233 s = some ((nm s, ()), ()) ∧ g191 s = some ((nm s, ()), ()) := by
  obtain ⟨b, h1, h2⟩ := names s hw
  have : nm s = b := by
    unfold nm
    rw [h1]
    cases b <;> simp
  rw [this]; exact ⟨h1, h2⟩

/-- A partition that is right, but for what it has in common with others. -/
def PartG (p : PR) (mem : Int) : Prop :=
  nm p.1 = true ∧ f234 p.2.2.1 = true ∧ (1 ≤ p.2.2.2.1.len ∧ p.2.2.2.1.len ≤ 4) ∧ (∀ j, j < p.2.2.2.1.len → f219 (p.2.2.2.1.get j) = true ∧ (p.2.2.2.1.get j).1 + (p.2.2.2.1.get j).2.1 ≤ mem) ∧
    (∃ j, j < p.2.2.2.1.len ∧ ins (p.2.2.2.1.get j) p.2.1) ∧ Int.tmod p.2.1 4 = 0

theorem partok (p : PR) (mem : Int) (hs : p.1.size ≤ 2 ^ 47) : ∃ b, g204 p mem = some ((b, ()), ()) ∧ (b = true ↔ PartG p mem) := by
  unfold g204 PartG
  rw [(nm_of p.1 hs).1]
  simp only [Option.bind_some]
  cases h1 : nm p.1 with
  | false => exact ⟨false, rfl, by simp⟩
  | true =>
    cases h2 : f234 p.2.2.1 with
    | false => exact ⟨false, rfl, by simp⟩
    | true =>
      cases h3 : f77 (p.2.2.2.1.len : Int) 1 4 with
      | false =>
        refine ⟨false, rfl, ?_⟩
        have : ¬ (1 ≤ p.2.2.2.1.len ∧ p.2.2.2.1.len ≤ 4) := fun q => by
          rw [(f77_iff _ _ _).mpr (by omega)] at h3; cases h3
        simp only [Bool.false_eq_true, false_iff]
        rintro ⟨_, _, q, _⟩
        exact this q
      | true =>
        have h3' : 1 ≤ p.2.2.2.1.len ∧ p.2.2.2.1.len ≤ 4 := by
          have := (f77_iff _ _ _).mp h3
          omega
        simp only [Bool.not_true, cond_false]
        generalize hwn : p.2.2.2.1 = wn at *
        have hgood : ∀ j, (!(f219 (wn.get j))) = false → decide (wI ((wn.get j).1 + (wn.get j).2.1) > mem) = false → f219 (wn.get j) = true ∧ (wn.get j).1 + (wn.get j).2.1 ≤ mem := fun j a b => by
          have a' : f219 (wn.get j) = true := by simpa using a
          have := (f219_iff _).mp a'
          rw [wI_id (by omega) (by omega)] at b
          exact ⟨a', by simpa using b⟩
        obtain ⟨d, e1, e2⟩ := fixO_rel (step := s204_L0) (fun a => wn.len - a.1.2.2.2.1.toNat)
          (fun a => ∃ (i : Nat) (fl : Bool), a = ((mem, ((), (fl, ((i : Int), ())))), (p, ())) ∧ i ≤ wn.len ∧ (∀ j, j < i → f219 (wn.get j) = true ∧ (wn.get j).1 + (wn.get j).2.1 ≤ mem) ∧ (fl = true ↔ ∃ j, j < i ∧ ins (wn.get j) p.2.1))
          (fun _ d => (d = .inl ((false, ()), ()) ∧ ¬ ∀ j, j < wn.len → f219 (wn.get j) = true ∧ (wn.get j).1 + (wn.get j).2.1 ≤ mem) ∨
            ∃ fl : Bool, d = .inr (.inl (((), (fl, ())), (p, ()))) ∧ (∀ j, j < wn.len → f219 (wn.get j) = true ∧ (wn.get j).1 + (wn.get j).2.1 ≤ mem) ∧ (fl = true ↔ ∃ j, j < wn.len ∧ ins (wn.get j) p.2.1)) (by
            rintro _ ⟨i, fl, rfl, hi, ha, hf⟩
            by_cases h : i < wn.len
            · simp only [s204_L0, q204_L0]
              rw [hwn, bif_t (idx_lt h), bif_t (idx_in h), wI_succ h (by omega), Int.toNat_natCast]
              cases g1 : (!(f219 (wn.get i))) with
              | true =>
                right
                refine ⟨_, rfl, .inl ⟨rfl, fun q => ?_⟩⟩
                have := (q i h).1
                rw [this] at g1; cases g1
              | false =>
                cases g2 : decide (wI ((wn.get i).1 + (wn.get i).2.1) > mem) with
                | true =>
                  right
                  refine ⟨_, rfl, .inl ⟨rfl, fun q => ?_⟩⟩
                  have h1 := (q i h).1
                  have h2 := (q i h).2
                  have := (f219_iff _).mp h1
                  rw [wI_id (by omega) (by omega)] at g2
                  have := of_decide_eq_true g2
                  omega
                | false =>
                  left
                  have hg := hgood i g1 g2
                  have ha' : ∀ j, j < i + 1 → f219 (wn.get j) = true ∧ (wn.get j).1 + (wn.get j).2.1 ≤ mem := fun j hj => by
                    by_cases e : j = i
                    · rw [e]; exact hg
                    · exact ha j (by omega)
                  have hm : wn.len - (((i + 1 : Nat) : Int)).toNat < wn.len - ((i : Int)).toNat := by simp only [Int.toNat_natCast]; omega
                  have up : ¬ ins (wn.get i) p.2.1 → (fl = true ↔ ∃ j, j < i + 1 ∧ ins (wn.get j) p.2.1) := fun hn => by
                    rw [hf]
                    constructor
                    · rintro ⟨j, hj, q⟩; exact ⟨j, by omega, q⟩
                    · rintro ⟨j, hj, q⟩
                      by_cases e : j = i
                      · rw [e] at q; exact absurd q hn
                      · exact ⟨j, by omega, q⟩
                  cases g3 : f235 (wn.get i) p.2.1 with
                  | false =>
                    exact ⟨_, rfl, ⟨i + 1, fl, rfl, h, ha', up (fun q => by rw [q.1] at g3; cases g3)⟩, hm, fun d hd => hd⟩
                  | true =>
                    cases g4 : (wI (Int.tdiv (wn.get i).2.2.1 4) == 1) with
                    | false =>
                      exact ⟨_, rfl, ⟨i + 1, fl, rfl, h, ha', up (fun q => by rw [q.2] at g4; cases g4)⟩, hm, fun d hd => hd⟩
                    | true =>
                      exact ⟨_, rfl, ⟨i + 1, true, rfl, h, ha', ⟨fun _ => ⟨i, by omega, g3, by simpa using g4⟩, fun _ => rfl⟩⟩, hm, fun d hd => hd⟩
            · right
              have : i = wn.len := by omega
              subst this
              simp only [s204_L0, q204_L0]
              rw [hwn, bif_f (idx_end wn.len)]
              exact ⟨_, rfl, .inr ⟨fl, rfl, ha, hf⟩⟩)
          ((mem, ((), (false, ((0 : Int), ())))), (p, ())) ⟨0, false, rfl, Nat.zero_le _, fun j hj => absurd hj (Nat.not_lt_zero _), by simp⟩
        rw [e1]
        simp only [Option.bind_some]
        rcases e2 with ⟨rfl, hn⟩ | ⟨fl, rfl, hy, hfl⟩
        · refine ⟨false, rfl, ?_⟩
          simp only [Bool.false_eq_true, false_iff]
          rintro ⟨_, _, _, q, _⟩
          exact hn q
        · cases fl with
          | false =>
            refine ⟨false, rfl, ?_⟩
            simp only [Bool.false_eq_true, false_iff] at hfl ⊢
            rintro ⟨_, _, _, _, q, _⟩
            exact hfl q
          | true =>
            refine ⟨Int.tmod p.2.1 4 == 0, rfl, ?_⟩
            rw [beq_iff_eq]
            exact ⟨fun q => ⟨trivial, trivial, h3', hy, hfl.mp rfl, q⟩, fun q => q.2.2.2.2.2⟩

theorem toL_one (w : Wi) (z : Wi) : toL (L.of z [w]) = [w] := rfl
theorem toL_nil : toL (nilL (.pair (.int .i64) (.pair (.int .i64) (.pair (.int .i64) .unit)))) = ([] : List Wi) := rfl

/-- The windows of one partition, against all that came ahead. -/
theorem inner (t : Tb) (p : PR) (n i : Int) (a0 : L Wi) (hl : p.2.2.2.1.len ≤ 4) (ha0 : a0.len ≤ 20) (hg0 : ∀ v, v ∈ toL a0 → f219 v = true) (hp0 : (toL a0).Pairwise apart) :
    ∃ d, fixO s135_L2 (((), (a0, ((), (tParts t, (n, (i, (p.2.2.2.1, ((p.2.2.2.1.len : Int), ((0 : Int), ()))))))))), (t, (p, ()))) = some d ∧
      ((d = .inl ((false, ()), ()) ∧ ¬ ((∀ j, j < p.2.2.2.1.len → f219 (p.2.2.2.1.get j) = true ∧ (p.2.2.2.1.get j).1 + (p.2.2.2.1.get j).2.1 ≤ t.1) ∧ (toL a0 ++ toL p.2.2.2.1).Pairwise apart)) ∨
       ∃ a1 : L Wi, d = .inr (.inl (((), (a1, ((), (tParts t, (n, (i, ())))))), (t, (p, ())))) ∧ toL a1 = toL a0 ++ toL p.2.2.2.1 ∧
        (∀ j, j < p.2.2.2.1.len → f219 (p.2.2.2.1.get j) = true ∧ (p.2.2.2.1.get j).1 + (p.2.2.2.1.get j).2.1 ≤ t.1) ∧ (toL a1).Pairwise apart) := by
  generalize hwn : p.2.2.2.1 = wn at *
  refine fixO_rel (step := s135_L2) (fun x => wn.len - x.1.2.2.2.2.2.2.2.2.1.toNat)
    (fun x => ∃ (j : Nat) (a : L Wi), x = (((), (a, ((), (tParts t, (n, (i, (wn, ((wn.len : Int), ((j : Int), ()))))))))), (t, (p, ()))) ∧ j ≤ wn.len ∧ toL a = toL a0 ++ (toL wn).take j ∧ a.len = a0.len + j ∧
      (∀ k, k < j → f219 (wn.get k) = true ∧ (wn.get k).1 + (wn.get k).2.1 ≤ t.1) ∧ (toL a).Pairwise apart)
    (fun _ d => (d = .inl ((false, ()), ()) ∧ ¬ ((∀ j, j < wn.len → f219 (wn.get j) = true ∧ (wn.get j).1 + (wn.get j).2.1 ≤ t.1) ∧ (toL a0 ++ toL wn).Pairwise apart)) ∨
       ∃ a1 : L Wi, d = .inr (.inl (((), (a1, ((), (tParts t, (n, (i, ())))))), (t, (p, ())))) ∧ toL a1 = toL a0 ++ toL wn ∧
        (∀ j, j < wn.len → f219 (wn.get j) = true ∧ (wn.get j).1 + (wn.get j).2.1 ≤ t.1) ∧ (toL a1).Pairwise apart) ?_ _ ⟨0, a0, rfl, Nat.zero_le _, by simp, rfl, fun k hk => absurd hk (Nat.not_lt_zero _), hp0⟩
  rintro _ ⟨j, a, rfl, hj, ht, hlen, hg, hp⟩
  have e110 : ∀ w, f194 w = f219 w := f194_219
  by_cases h : j < wn.len
  · simp only [s135_L2, q135_L2]
    rw [bif_t (idx_lt h), bif_t (idx_in h), wI_succ h (by omega), Int.toNat_natCast, e110]
    cases g1 : f219 (wn.get j) with
    | false =>
      right
      exact ⟨_, rfl, .inl ⟨rfl, fun q => by have := (q.1 j h).1; rw [this] at g1; cases g1⟩⟩
    | true =>
      have hw := (f219_iff _).mp g1
      rw [bif_f (show (!true) = false from rfl), wI_id (by omega) (by omega)]
      cases g2 : decide ((wn.get j).1 + (wn.get j).2.1 > t.1) with
      | true =>
        right
        refine ⟨_, rfl, .inl ⟨rfl, fun q => ?_⟩⟩
        have := (q.1 j h).2
        have := of_decide_eq_true g2
        omega
      | false =>
        have g2' := of_decide_eq_false g2
        rw [bif_f rfl]
        have hga : ∀ v, v ∈ toL a → f219 v = true := fun v hv => by
          rw [ht, List.mem_append] at hv
          rcases hv with hv | hv
          · exact hg0 v hv
          · obtain ⟨k, hk, rfl⟩ := (toL_mem _ _).mp (List.mem_of_mem_take hv)
            obtain ⟨k', hk', e⟩ := List.mem_iff_getElem.mp hv
            rw [List.getElem_take, toL_getElem] at e
            rw [← e]
            exact (hg k' (by rw [List.length_take] at hk'; omega)).1
        rcases overlaps a (by omega) (wn.get j) g1 hga with ⟨o1, o2⟩ | ⟨o1, o2⟩
        · rw [o1]
          right
          refine ⟨_, rfl, .inl ⟨rfl, fun q => o2 fun v hv => ?_⟩⟩
          have hq := q.2
          rw [← toL_take_len wn] at hq
          have hpre : ∃ r, toL wn = (toL wn).take j ++ wn.get j :: r := by
            have hn : j < (toL wn).length := by rw [toL_len]; exact h
            refine ⟨(toL wn).drop (j + 1), ?_⟩
            rw [← toL_getElem wn j hn, List.getElem_cons_drop, List.take_append_drop]
          rw [toL_take_len] at hq
          obtain ⟨r, hr⟩ := hpre
          rw [hr, ← List.append_assoc, ← ht, List.pairwise_append] at hq
          exact hq.2.2 v hv _ (List.mem_cons_self ..)
        · rw [o1]
          left
          simp only [Option.bind_some, cond_false]
          have hm : decide (a.len + (L.of (Ty.zero (.pair (.int .i64) (.pair (.int .i64) (.pair (.int .i64) .unit)))) [wn.get j]).len ≤ most) = true := by
            have h32 : most = 4294967296 := rfl
            rw [h32]
            have : (L.of (Ty.zero (.pair (.int .i64) (.pair (.int .i64) (.pair (.int .i64) .unit)))) [wn.get j]).len = 1 := rfl
            rw [this]
            exact decide_eq_true (by omega)
          refine ⟨_, bif_t hm, ⟨j + 1, _, rfl, h, ?_, ?_, ?_, ?_⟩, by simp only [Int.toNat_natCast]; omega, fun d hd => hd⟩
          · rw [toL_app, ht, toL_take_succ wn h, List.append_assoc]; rfl
          · show a.len + 1 = _
            omega
          · intro k hk
            by_cases e : k = j
            · rw [e]; exact ⟨g1, by omega⟩
            · exact hg k (by omega)
          · rw [toL_app, List.pairwise_append]
            refine ⟨hp, ?_, ?_⟩
            · show List.Pairwise apart [wn.get j]
              exact List.pairwise_singleton _ _
            · intro v hv w hw'
              have : w = wn.get j := List.mem_singleton.mp hw'
              rw [this]
              exact o2 v hv
  · right
    have : j = wn.len := by omega
    subst this
    simp only [s135_L2, q135_L2]
    rw [bif_f (idx_end wn.len)]
    refine ⟨_, rfl, .inr ⟨a, rfl, ?_, hg, hp⟩⟩
    rw [ht, toL_take_len]

/-- The partitions are right. -/
def Parts (x : L PR) (mem : Int) : Prop :=
  (∀ i, i < x.len → PartG (x.get i) mem ∧ ∀ q, q < i → strEq (x.get q).1 (x.get i).1 = false) ∧ (winsOf x x.len).Pairwise apart

theorem winsOf_good (x : L PR) (mem : Int) {n : Nat} (hn : n ≤ x.len) (h : ∀ i, i < n → PartG (x.get i) mem) : ∀ v, v ∈ winsOf x n → f219 v = true := by
  intro v hv
  unfold winsOf at hv
  rw [List.mem_flatMap] at hv
  obtain ⟨p, hp, hv⟩ := hv
  obtain ⟨k, hk, e⟩ := List.mem_iff_getElem.mp hp
  rw [List.getElem_take, toL_getElem] at e
  subst e
  obtain ⟨j, hj, rfl⟩ := (toL_mem _ _).mp hv
  exact ((h k (by rw [List.length_take] at hk; omega)).2.2.2.1 j hj).1

theorem strEq_self (s : ByteArray) : strEq s s = true := by unfold strEq; simp

/-- The program's look at the partitions. -/
theorem impParts (t : Tb) (hn : (tParts t).len ≤ 6) (hs : ∀ i, i < (tParts t).len → ((tParts t).get i).1.size ≤ 2 ^ 47) (hw : ∀ i, i < (tParts t).len → ((tParts t).get i).2.2.2.1.len ≤ 2 ^ 47) :
    ∃ b, g135 t = some ((b, ()), ()) ∧ (b = true ↔ Parts (tParts t) t.1) := by
  generalize hx : tParts t = x at *
  have hx' : t.2.2.2.2.2.2.2.1 = x := hx
  obtain ⟨d, e1, e2⟩ := fixO_rel (step := s135_L0) (fun a => x.len - a.1.2.2.2.2.1.toNat)
    (fun a => ∃ (i : Nat) (all : L Wi), a = (((), (all, (x, ((x.len : Int), ((i : Int), ()))))), (t, ())) ∧ i ≤ x.len ∧ toL all = winsOf x i ∧ all.len ≤ 4 * i ∧
      (∀ k, k < i → PartG (x.get k) t.1 ∧ ∀ q, q < k → strEq (x.get q).1 (x.get k).1 = false) ∧ (toL all).Pairwise apart)
    (fun _ d => (d = .inl ((false, ()), ()) ∧ ¬ Parts x t.1) ∨ (d = .inr (.inl ((), ())) ∧ Parts x t.1)) (by
      rintro _ ⟨i, all, rfl, hi, ht, hlen, hp, hap⟩
      by_cases h : i < x.len
      · simp only [s135_L0, q135_L0]
        rw [bif_t (idx_lt h), bif_t (idx_in h), Int.toNat_natCast, (nm_of _ (hs i h)).2]
        simp only [Option.bind_some]
        cases g1 : nm (x.get i).1 with
        | false =>
          right
          exact ⟨_, rfl, .inl ⟨rfl, fun q => by have := (q.1 i h).1.1; rw [this] at g1; cases g1⟩⟩
        | true =>
          rw [bif_f (show (!true) = false from rfl)]
          obtain ⟨n, n1, n2⟩ := named t (by rw [hx]; omega) (x.get i).1
          rw [hx] at n2
          rw [n1]
          simp only [Option.bind_some]
          cases g2 : decide (n < (i : Int)) with
          | true =>
            right
            refine ⟨_, rfl, .inl ⟨rfl, fun q => ?_⟩⟩
            have g2 := of_decide_eq_true g2
            rcases n2 with ⟨k, k1, k2, k3, _⟩ | ⟨_, k2⟩
            · have := (q.1 i h).2 k (by omega)
              rw [k3] at this; cases this
            · have := k2 i h
              rw [strEq_self] at this; cases this
          | false =>
            have g2 := of_decide_eq_false g2
            have hd : ∀ q, q < i → strEq (x.get q).1 (x.get i).1 = false := by
              rcases n2 with ⟨k, k1, _, _, k4⟩ | ⟨k1, _⟩
              · intro q hq; exact k4 q (by omega)
              · omega
            have e109 : f193 (x.get i).2.2.1 = f234 (x.get i).2.2.1 := policies _
            rw [bif_f rfl, e109, f86_77]
            cases g3 : f234 (x.get i).2.2.1 with
            | false =>
              right
              exact ⟨_, rfl, .inl ⟨rfl, fun q => by have := (q.1 i h).1.2.1; rw [this] at g3; cases g3⟩⟩
            | true =>
              rw [bif_f (show (!true) = false from rfl)]
              cases g4 : f77 ((x.get i).2.2.2.1.len : Int) 1 4 with
              | false =>
                right
                refine ⟨_, rfl, .inl ⟨rfl, fun q => ?_⟩⟩
                have := (q.1 i h).1.2.2.1
                rw [(f77_iff _ _ _).mpr (by omega)] at g4; cases g4
              | true =>
                have g4 : 1 ≤ (x.get i).2.2.2.1.len ∧ (x.get i).2.2.2.1.len ≤ 4 := by
                  have := (f77_iff _ _ _).mp g4
                  omega
                rw [bif_f (show (!true) = false from rfl)]
                obtain ⟨d, i1, i2⟩ := inner t (x.get i) (x.len : Int) (i : Int) all g4.2 (by omega) (fun v hv => winsOf_good x t.1 (n := i) (by omega) (fun k hk => (hp k hk).1) v (by rw [← ht]; exact hv)) hap
                rw [hx] at i1
                rw [i1]
                simp only [Option.bind_some]
                have hsucc := winsOf_succ x h
                rcases i2 with ⟨rfl, i2⟩ | ⟨a1, rfl, i2, i3, i4⟩
                · right
                  refine ⟨_, rfl, .inl ⟨rfl, fun q => i2 ⟨(q.1 i h).1.2.2.2.1, ?_⟩⟩⟩
                  obtain ⟨r, hr⟩ := winsOf_prefix x (i := i + 1) (n := x.len) (by omega) (Nat.le_refl _)
                  have := q.2
                  rw [hr, List.pairwise_append] at this
                  rw [ht, ← hsucc]
                  exact this.1
                · simp only [hx]
                  cases g5 : (Int.tmod (x.get i).2.1 4 != 0) with
                  | true =>
                    right
                    refine ⟨_, rfl, .inl ⟨rfl, fun q => ?_⟩⟩
                    have := (q.1 i h).1.2.2.2.2.2
                    rw [this] at g5; cases g5
                  | false =>
                    have g5 : Int.tmod (x.get i).2.1 4 = 0 := by simpa using g5
                    have hpw : (toL (x.get i).2.2.2.1).Pairwise apart := by
                      rw [i2, List.pairwise_append] at i4
                      exact i4.2.1
                    obtain ⟨b, r1, r2⟩ := runs (x.get i) (hw i h) (x.get i).2.1 (fun j hj => (i3 j hj).1) hpw
                    rw [bif_f rfl, r1]
                    simp only [Option.bind_some]
                    cases b with
                    | false =>
                      right
                      refine ⟨_, rfl, .inl ⟨rfl, fun q => ?_⟩⟩
                      have := r2.mpr (q.1 i h).1.2.2.2.2.1
                      cases this
                    | true =>
                      left
                      rw [bif_f (show (!true) = false from rfl), wI_succ h (by omega)]
                      refine ⟨_, rfl, ⟨i + 1, a1, rfl, h, ?_, ?_, ?_, i4⟩, by simp only [Int.toNat_natCast]; omega, fun d hd => hd⟩
                      · rw [hsucc, i2, ht]
                      · have l1 : (toL a1).length = a1.len := toL_len _
                        rw [i2, List.length_append, toL_len, toL_len] at l1
                        omega
                      · intro k hk
                        by_cases e : k = i
                        · subst e
                          exact ⟨⟨g1, g3, g4, i3, r2.mp rfl, g5⟩, hd⟩
                        · exact hp k (by omega)
      · right
        have : i = x.len := by omega
        subst this
        simp only [s135_L0, q135_L0]
        rw [bif_f (idx_end x.len)]
        refine ⟨_, rfl, .inr ⟨rfl, hp, ?_⟩⟩
        rw [← ht]; exact hap)
    (((), ((nilL (.pair (.int .i64) (.pair (.int .i64) (.pair (.int .i64) .unit)))), (x, ((x.len : Int), ((0 : Int), ()))))), (t, ()))
    ⟨0, _, rfl, Nat.zero_le _, toL_nil, Nat.zero_le _, fun k hk => absurd hk (Nat.not_lt_zero _), by rw [toL_nil]; exact List.Pairwise.nil⟩
  unfold g135
  rw [hx', e1]
  simp only [Option.bind_some]
  rcases e2 with ⟨rfl, h⟩ | ⟨rfl, h⟩
  · exact ⟨false, rfl, by simpa using h⟩
  · exact ⟨true, rfl, by simpa using h⟩

/-- Names apart, as the reference asks it. -/
theorem namesApart (t : Tb) (i : Nat) (h : i < (tParts t).len) (hn : (tParts t).len ≤ 6) :
    (fixO s149_L2 (((), ((i : Int), ((0 : Int), ()))), (t, ())) = some (.inl ((false, ()), ())) ∧ ¬ ∀ q, q < i → strEq ((tParts t).get q).1 ((tParts t).get i).1 = false) ∨
    (fixO s149_L2 (((), ((i : Int), ((0 : Int), ()))), (t, ())) = some (.inr (.inl (((), ((i : Int), ())), (t, ())))) ∧ ∀ q, q < i → strEq ((tParts t).get q).1 ((tParts t).get i).1 = false) := by
  have h1 := scan (step := s149_L2) (fun k => (((), ((i : Int), ((k : Int), ()))), (t, ()))) i (fun k => !strEq ((tParts t).get k).1 ((tParts t).get i).1) (fun _ => .inl ((false, ()), ())) (.inr (.inl (((), ((i : Int), ())), (t, ()))))
    (fun k hk ho => by
      have ho' : strEq ((tParts t).get ((k : Int)).toNat).1 ((tParts t).get ((i : Int)).toNat).1 = false := by rw [Int.toNat_natCast, Int.toNat_natCast]; simpa using ho
      simp only [s149_L2, q149_L2]
      refine (bif_t (idx_lt hk)).trans ((bif_t (idx_in (n := (tParts t).len) (by omega))).trans ((bif_t (idx_in h)).trans ((bif_f ho').trans ?_)))
      rw [wI_succ hk (by omega)])
    (fun k hk ho => by
      have ho' : strEq ((tParts t).get ((k : Int)).toNat).1 ((tParts t).get ((i : Int)).toNat).1 = true := by rw [Int.toNat_natCast, Int.toNat_natCast]; simpa using ho
      simp only [s149_L2, q149_L2]
      exact (bif_t (idx_lt hk)).trans ((bif_t (idx_in (n := (tParts t).len) (by omega))).trans ((bif_t (idx_in h)).trans (bif_t ho'))))
    (by
      simp only [s149_L2, q149_L2]
      exact bif_f (idx_end i))
  rcases h1 with ⟨k, hk, ho, _, e1⟩ | ⟨ha, e1⟩
  · exact .inl ⟨e1, fun q => by have := q k hk; rw [this] at ho; cases ho⟩
  · exact .inr ⟨e1, fun q hq => by simpa using ha q hq⟩

/-- The reference's look at the partitions. -/
theorem refParts (t : Tb) (hn : (tParts t).len ≤ 6) (hs : ∀ i, i < (tParts t).len → ((tParts t).get i).1.size ≤ 2 ^ 47) (h1 : 1 ≤ (tParts t).len) :
    ∃ b, g149 t = some ((b, ()), ()) ∧ (b = true ↔ Parts (tParts t) t.1) := by
  have hok : ∀ i, i < (tParts t).len → (open Classical in decide (PartG ((tParts t).get i) t.1 ∧ ∀ q, q < i → strEq ((tParts t).get q).1 ((tParts t).get i).1 = false)) = true → PartG ((tParts t).get i) t.1 ∧ ∀ q, q < i → strEq ((tParts t).get q).1 ((tParts t).get i).1 = false :=
    fun i hi h => by simpa using h
  have l0 := scan (step := s149_L0) (fun i => (((), ((i : Int), ())), (t, ()))) (tParts t).len (fun i => open Classical in decide (PartG ((tParts t).get i) t.1 ∧ ∀ q, q < i → strEq ((tParts t).get q).1 ((tParts t).get i).1 = false)) (fun _ => .inl ((false, ()), ())) (.inr (.inl (((), ()), (t, ()))))
    (fun i hi ho => by
      obtain ⟨o1, o2⟩ := hok i hi ho
      obtain ⟨b, p1, p2⟩ := partok ((tParts t).get i) t.1 (hs i hi)
      have hb : b = true := p2.mpr o1
      subst hb
      simp only [s149_L0, q149_L0]
      refine (bif_t (idx_lt hi)).trans ((bif_t (idx_in hi)).trans ?_)
      rw [Int.toNat_natCast]
      have p1' : g204 (L.get t.2.2.2.2.2.2.2.1 i) t.1 = some ((true, ()), ()) := p1
      rw [p1']
      simp only [Option.bind_some]
      rw [bif_f (show (!true) = false from rfl)]
      rcases namesApart t i hi hn with ⟨_, n2⟩ | ⟨n1, _⟩
      · exact absurd o2 n2
      · rw [n1]
        simp only [Option.bind_some]
        rw [wI_succ hi (by omega)])
    (fun i hi ho => by
      have ho : ¬ (PartG ((tParts t).get i) t.1 ∧ ∀ q, q < i → strEq ((tParts t).get q).1 ((tParts t).get i).1 = false) := by simpa using ho
      obtain ⟨b, p1, p2⟩ := partok ((tParts t).get i) t.1 (hs i hi)
      simp only [s149_L0, q149_L0]
      refine (bif_t (idx_lt hi)).trans ((bif_t (idx_in hi)).trans ?_)
      rw [Int.toNat_natCast]
      have p1' : g204 (L.get t.2.2.2.2.2.2.2.1 i) t.1 = some ((b, ()), ()) := p1
      rw [p1']
      simp only [Option.bind_some]
      cases b with
      | false => rfl
      | true =>
        rw [bif_f (show (!true) = false from rfl)]
        rcases namesApart t i hi hn with ⟨n1, _⟩ | ⟨_, n2⟩
        · rw [n1]; rfl
        · exact absurd ⟨p2.mp rfl, n2⟩ ho)
    (by
      simp only [s149_L0, q149_L0]
      exact bif_f (idx_end (tParts t).len))
  unfold g149
  have hl : f77 (t.2.2.2.2.2.2.2.1.len : Int) 1 6 = true := (f77_iff _ _ _).mpr (by unfold tParts at hn h1; omega)
  rw [hl, bif_f (show (!true) = false from rfl)]
  rcases l0 with ⟨i, hi, ho, _, e1⟩ | ⟨ha, e1⟩
  · have ho : ¬ (PartG ((tParts t).get i) t.1 ∧ ∀ q, q < i → strEq ((tParts t).get q).1 ((tParts t).get i).1 = false) := by simpa using ho
    have e1' : fixO s149_L0 (((), ((0 : Int), ())), (t, ())) = some (.inl ((false, ()), ())) := e1
    rw [e1']
    exact ⟨false, rfl, by simp only [Bool.false_eq_true, false_iff]; exact fun q => ho (q.1 i hi)⟩
  · have ha : ∀ i, i < (tParts t).len → PartG ((tParts t).get i) t.1 ∧ ∀ q, q < i → strEq ((tParts t).get q).1 ((tParts t).get i).1 = false := fun i hi => hok i hi (ha i hi)
    have e1' : fixO s149_L0 (((), ((0 : Int), ())), (t, ())) = some (.inr (.inl (((), ()), (t, ())))) := e1
    rw [e1']
    simp only [Option.bind_some]
    obtain ⟨all, a1, a2, a3⟩ := allWins (tParts t) hn (fun i hi => (ha i hi).1.2.2.1.2)
    have a1' : g205 t.2.2.2.2.2.2.2.1 = some ((all, ()), ()) := a1
    rw [a1']
    simp only [Option.bind_some]
    have hgood := winsOf_good (tParts t) t.1 (Nat.le_refl _) (fun i hi => (ha i hi).1)
    have hov : ∀ i k, i < all.len → k < i → (ovl all k i = false ↔ apart (all.get k) (all.get i)) := fun i k hi hk => by
      have g1 := (f219_iff _).mp (hgood (all.get i) (by rw [← a2]; exact (toL_mem _ _).mpr ⟨i, hi, rfl⟩))
      have g2 := (f219_iff _).mp (hgood (all.get k) (by rw [← a2]; exact (toL_mem _ _).mpr ⟨k, by omega, rfl⟩))
      unfold ovl apart
      rw [wI_id (by omega) (by omega), wI_id (by omega) (by omega)]
      simp only [Bool.and_eq_false_iff, decide_eq_false_iff_not]
      omega
    have hpw : (winsOf (tParts t) (tParts t).len).Pairwise apart ↔ ∀ i k, i < all.len → k < i → ovl all k i = false := by
      rw [← a2, List.pairwise_iff_getElem]
      constructor
      · intro q i k hi hk
        have := q k i (by rw [toL_len]; omega) (by rw [toL_len]; exact hi) hk
        rw [toL_getElem, toL_getElem] at this
        exact (hov i k hi hk).mpr this
      · intro q k i hk hi hki
        rw [toL_getElem, toL_getElem]
        rw [toL_len] at hi
        exact (hov i k hi hki).mp (q i k hi hki)
    rcases ovlAll all a3 with ⟨⟨i, k, hi, hk, ho⟩, o2⟩ | ⟨o1, o2⟩
    · rw [o2]
      refine ⟨false, rfl, ?_⟩
      simp only [Bool.false_eq_true, false_iff]
      rintro ⟨_, q⟩
      have := hpw.mp q i k hi hk
      rw [this] at ho; cases ho
    · rw [o2]
      exact ⟨true, rfl, fun _ => ⟨ha, hpw.mpr o1⟩, fun _ => rfl⟩

/-- What is known of sound tables. -/
def Facts (t : Tb) : Prop :=
  f152 t.2.2.2.1 = true ∧ (1 ≤ t.2.2.2.2.1 ∧ t.2.2.2.2.1 ≤ 5000) ∧ (1 ≤ t.2.2.2.2.2.1 ∧ t.2.2.2.2.2.1 ≤ 5000) ∧ (1 ≤ t.2.2.2.2.2.2.1 ∧ t.2.2.2.2.2.2.1 ≤ 5000) ∧ f162 t.2.1 = true ∧ (64 ≤ t.1 ∧ t.1 ≤ 2048) ∧
  (1 ≤ (tParts t).len ∧ (tParts t).len ≤ 6) ∧ Parts (tParts t) t.1 ∧ Tail t

/-- The program's look and the reference's come to the same. -/
theorem sound (t : Tb) (hn : (tParts t).len ≤ 2 ^ 47) (hl : (tSlots t).len ≤ 2 ^ 47) (hs : ∀ i, i < (tParts t).len → ((tParts t).get i).1.size ≤ 2 ^ 47) (hw : ∀ i, i < (tParts t).len → ((tParts t).get i).2.2.2.1.len ≤ 2 ^ 47) :
    ∃ b : Bool, g79 t = some ((b, ()), ()) ∧ g64 t = some ((b, ()), ()) ∧ (b = true → Facts t) := by
  unfold g79
  rcases head t with ⟨h1, h2⟩ | ⟨hc, p1, p2, p3, hsh, hm, h1, h2⟩
  · rw [h1, h2]; exact ⟨false, rfl, rfl, by simp⟩
  · rw [h1, h2]
    simp only [Option.bind_some, cond_true]
    unfold rest71
    rw [f86_77]
    cases g1 : f77 ((tParts t).len : Int) 1 6 with
    | false =>
      have : g149 t = some ((false, ()), ()) := by
        unfold g149
        have g1' : f77 (t.2.2.2.2.2.2.2.1.len : Int) 1 6 = false := g1
        rw [g1']; rfl
      rw [this]
      exact ⟨false, rfl, rfl, by simp⟩
    | true =>
      have g1 := (f77_iff _ _ _).mp g1
      obtain ⟨b1, r1, r2⟩ := refParts t (by omega) hs (by omega)
      obtain ⟨b2, i1, i2⟩ := impParts t (by omega) hs hw
      have : b1 = b2 := by
        rw [Bool.eq_iff_iff, r2, i2]
      subst this
      rw [r1, i1]
      simp only [Option.bind_some]
      cases b1 with
      | false => exact ⟨false, rfl, rfl, by simp⟩
      | true =>
        obtain ⟨b, t1, t2, t3⟩ := tail t hl hc hsh p1 p2 p3
        exact ⟨b, t1, t2, fun h => ⟨hc, p1, p2, p3, hsh, (f77_iff _ _ _).mp hm, by omega, r2.mp rfl, t3 h⟩⟩

/-- The sizes that the law lets through. -/
def Bnd (t : Tb) : Prop :=
  (tParts t).len ≤ 1048576 ∧ (tDevs t).len ≤ 1048576 ∧ (tChans t).len ≤ 1048576 ∧ (tSlots t).len ≤ 1048576 ∧ ∀ i, i < (tParts t).len → ((tParts t).get i).1.size ≤ 1048576 ∧ ((tParts t).get i).2.2.2.1.len ≤ 1048576

/-- What is known of any tables. -/
def Wf (t : Tb) : Prop :=
  (tParts t).len ≤ 2 ^ 47 ∧ (tDevs t).len ≤ 2 ^ 47 ∧ (tChans t).len ≤ 2 ^ 47 ∧ (tSlots t).len ≤ 2 ^ 47 ∧ ∀ i, i < (tParts t).len → ((tParts t).get i).1.size ≤ 2 ^ 47 ∧ ((tParts t).get i).2.2.2.1.len ≤ 2 ^ 47

theorem sz34 (x : L Int) (b : Int) (h : x.len ≤ 2 ^ 47) (hb : 0 ≤ b) (hb' : b ≤ 1048576) : f53 x b = if b < x.len then -1 else b - x.len := by
  have h47 : (2 : Nat) ^ 47 = 140737488355328 := by decide
  rw [h47] at h
  unfold f53
  rw [wI_id (by omega) (by omega)]
  by_cases hc : b < x.len
  · rw [bif_t (by simp; omega), if_pos hc]
  · rw [bif_f (by simp; omega), if_neg hc]
theorem sz35 (x : L Ch) (b : Int) (h : x.len ≤ 2 ^ 47) (hb : 0 ≤ b) (hb' : b ≤ 1048576) : f54 x b = if b < x.len then -1 else b - x.len := by
  have h47 : (2 : Nat) ^ 47 = 140737488355328 := by decide
  rw [h47] at h
  unfold f54
  rw [wI_id (by omega) (by omega)]
  by_cases hc : b < x.len
  · rw [bif_t (by simp; omega), if_pos hc]
  · rw [bif_f (by simp; omega), if_neg hc]
theorem sz36 (x : L Sl) (b : Int) (h : x.len ≤ 2 ^ 47) (hb : 0 ≤ b) (hb' : b ≤ 1048576) : f55 x b = if b < x.len then -1 else b - x.len := by
  have h47 : (2 : Nat) ^ 47 = 140737488355328 := by decide
  rw [h47] at h
  unfold f55
  rw [wI_id (by omega) (by omega)]
  by_cases hc : b < x.len
  · rw [bif_t (by simp; omega), if_pos hc]
  · rw [bif_f (by simp; omega), if_neg hc]
theorem sz98 (x : L Wi) (b : Int) (h : x.len ≤ 2 ^ 47) (hb : 0 ≤ b) (hb' : b ≤ 1048576) : f187 x b = if b < x.len then -1 else b - x.len := by
  have h47 : (2 : Nat) ^ 47 = 140737488355328 := by decide
  rw [h47] at h
  unfold f187
  rw [wI_id (by omega) (by omega)]
  by_cases hc : b < x.len
  · rw [bif_t (by simp; omega), if_pos hc]
  · rw [bif_f (by simp; omega), if_neg hc]

theorem sz66 (p : PR) (b : Int) (h1 : p.1.size ≤ 2 ^ 47) (h2 : p.2.2.2.1.len ≤ 2 ^ 47) (hb : 0 ≤ b) (hb' : b ≤ 1048576) : f127 p b = -1 ∨ (0 ≤ f127 p b ∧ f127 p b ≤ b ∧ p.1.size ≤ 1048576 ∧ p.2.2.2.1.len ≤ 1048576) := by
  have h47 : (2 : Nat) ^ 47 = 140737488355328 := by decide
  have h1' := h1
  rw [h47] at h1'
  unfold f127
  rw [wI_id (by omega) (by omega)]
  by_cases hc : b - (p.1.size : Int) < 0
  · rw [bif_t (by simpa using hc)]; exact .inl rfl
  · rw [bif_f (by simpa using hc), sz98 _ _ h2 (by omega) (by omega)]
    by_cases hd : b - (p.1.size : Int) < p.2.2.2.1.len
    · rw [if_pos hd]; exact .inl rfl
    · rw [if_neg hd, bif_f (by simp; omega)]
      right
      omega

theorem sz33 (x : L PR) (b : Int) (h : x.len ≤ 2 ^ 47) (hp : ∀ i, i < x.len → (x.get i).1.size ≤ 2 ^ 47 ∧ (x.get i).2.2.2.1.len ≤ 2 ^ 47) (hb : 0 ≤ b) (hb' : b ≤ 1048576) :
    ∃ n, g52 x b = some ((n, ()), ()) ∧ (n = -1 ∨ (0 ≤ n ∧ n ≤ b ∧ x.len ≤ 1048576 ∧ ∀ i, i < x.len → (x.get i).1.size ≤ 1048576 ∧ (x.get i).2.2.2.1.len ≤ 1048576)) := by
  have h47 : (2 : Nat) ^ 47 = 140737488355328 := by decide
  have h' := h
  rw [h47] at h'
  unfold g52
  rw [wI_id (by omega) (by omega)]
  by_cases hc : b - (x.len : Int) < 0
  · rw [bif_t (by simpa using hc)]; exact ⟨-1, rfl, .inl rfl⟩
  · rw [bif_f (by simpa using hc)]
    obtain ⟨d, e1, e2⟩ := fixO_rel (step := s52_L0) (fun a => x.len - a.1.2.2.1.toNat)
      (fun a => ∃ (i : Nat) (n : Int), a = ((x, (n, ((i : Int), ()))), ()) ∧ i ≤ x.len ∧ 0 ≤ n ∧ n ≤ b ∧ ∀ k, k < i → (x.get k).1.size ≤ 1048576 ∧ (x.get k).2.2.2.1.len ≤ 1048576)
      (fun _ d => d = .inl ((-1, ()), ()) ∨ ∃ n, d = .inr (.inl ((n, ()), ())) ∧ 0 ≤ n ∧ n ≤ b ∧ ∀ k, k < x.len → (x.get k).1.size ≤ 1048576 ∧ (x.get k).2.2.2.1.len ≤ 1048576) (by
        rintro _ ⟨i, n, rfl, hi, hn1, hn2, hk⟩
        simp only [s52_L0, q52_L0]
        by_cases hlt : i < x.len
        · rw [bif_t (idx_lt hlt), bif_t (idx_in hlt), wI_succ hlt h, Int.toNat_natCast]
          rcases sz66 (x.get i) n (hp i hlt).1 (hp i hlt).2 hn1 (by omega) with q | ⟨q1, q2, q3⟩
          · right
            rw [bif_t (by rw [q]; rfl)]
            exact ⟨_, rfl, .inl rfl⟩
          · left
            rw [bif_f (by simpa using q1)]
            refine ⟨_, rfl, ⟨i + 1, _, rfl, hlt, q1, by omega, fun k hk' => ?_⟩, by simp only [Int.toNat_natCast]; omega, fun d hd => hd⟩
            by_cases e : k = i
            · rw [e]; exact q3
            · exact hk k (by omega)
        · right
          have : i = x.len := by omega
          subst this
          rw [bif_f (idx_end x.len)]
          exact ⟨_, rfl, .inr ⟨n, rfl, hn1, hn2, hk⟩⟩)
      ((x, (b - (x.len : Int), ((0 : Int), ()))), ()) ⟨0, _, rfl, Nat.zero_le _, by omega, by omega, fun k hk => absurd hk (Nat.not_lt_zero _)⟩
    rw [e1]
    simp only [Option.bind_some]
    rcases e2 with rfl | ⟨n, rfl, n1, n2, n3⟩
    · exact ⟨-1, rfl, .inl rfl⟩
    · exact ⟨n, rfl, .inr ⟨n1, n2, by omega, n3⟩⟩

theorem sz12 (t : Tb) (h : Wf t) : ∃ n, g13 t 1048576 = some ((n, ()), ()) ∧ (n = -1 ∨ (0 ≤ n ∧ Bnd t)) := by
  obtain ⟨w1, w2, w3, w4, w5⟩ := h
  obtain ⟨n, e1, e2⟩ := sz33 (tParts t) 1048576 w1 w5 (by omega) (by omega)
  unfold g13
  have e1' : g52 t.2.2.2.2.2.2.2.1 1048576 = some ((n, ()), ()) := e1
  rw [e1']
  simp only [Option.bind_some]
  rcases e2 with rfl | ⟨n1, n2, n3, n4⟩
  · rw [bif_t (by decide)]; exact ⟨-1, rfl, .inl rfl⟩
  · rw [bif_f (by simpa using n1)]
    have a1 : f53 t.2.2.2.2.2.2.2.2.1 n = _ := sz34 (tDevs t) n w2 n1 n2
    rw [a1]
    by_cases c1 : n < ((tDevs t).len : Int)
    · rw [if_pos c1, bif_t (by decide)]; exact ⟨-1, rfl, .inl rfl⟩
    · rw [if_neg c1, bif_f (by simp; omega)]
      have a2 : f54 t.2.2.2.2.2.2.2.2.2.1 (n - ((tDevs t).len : Int)) = _ := sz35 (tChans t) _ w3 (by omega) (by omega)
      rw [a2]
      by_cases c2 : n - ((tDevs t).len : Int) < ((tChans t).len : Int)
      · rw [if_pos c2, bif_t (by decide)]; exact ⟨-1, rfl, .inl rfl⟩
      · rw [if_neg c2, bif_f (by simp; omega)]
        have a3 : f55 t.2.2.2.2.2.2.2.2.2.2.1 (n - ((tDevs t).len : Int) - ((tChans t).len : Int)) = _ := sz36 (tSlots t) _ w4 (by omega) (by omega)
        rw [a3]
        by_cases c3 : n - ((tDevs t).len : Int) - ((tChans t).len : Int) < ((tSlots t).len : Int)
        · rw [if_pos c3, bif_t (by decide)]; exact ⟨-1, rfl, .inl rfl⟩
        · rw [if_neg c3, bif_f (by simp; omega)]
          exact ⟨_, rfl, .inr ⟨by omega, n3, by omega, by omega, by omega, n4⟩⟩

theorem wi_eta (w : Wi) : (w.1, (w.2.1, (w.2.2.1, ()))) = w := rfl

theorem to105 (x : L Wi) (h : x.len ≤ 1048576) : ∃ r : L Wi, g189 x = some ((r, ()), ()) ∧ r.len = x.len ∧ ∀ i, i < x.len → r.get i = x.get i := by
  obtain ⟨r, h1, h2, h3⟩ := copy_loop (step := s189_L0) (x := x) (fun i => x.get i) (fun i r hi hr => by
    simp only [s189_L0, q189_L0]
    rw [bif_t (idx_lt hi), bif_t (idx_in hi), bif_t (by simpa [hr] using hi), wI_succ hi (by omega), Int.toNat_natCast]
    rfl) (fun r => by
    simp only [s189_L0, q189_L0]
    rw [bif_f (by simp)]) (r0 := L.rep (x.len : Int).toNat (Ty.zero (.pair (.int .i64) (.pair (.int .i64) (.pair (.int .i64) .unit))))) (by simp [L.rep])
  refine ⟨r, ?_, h2, h3⟩
  unfold g189
  rw [bif_t (by simp; omega), h1]
  rfl

theorem to46 (x : L Sl) (h : x.len ≤ 1048576) : ∃ r : L Sl, g63 x = some ((r, ()), ()) ∧ r.len = x.len ∧ ∀ i, i < x.len → r.get i = x.get i := by
  obtain ⟨r, h1, h2, h3⟩ := copy_loop (step := s63_L0) (x := x) (fun i => x.get i) (fun i r hi hr => by
    simp only [s63_L0, q63_L0]
    rw [bif_t (idx_lt hi), bif_t (idx_in hi), bif_t (by simpa [hr] using hi), wI_succ hi (by omega), Int.toNat_natCast]
    rfl) (fun r => by
    simp only [s63_L0, q63_L0]
    rw [bif_f (by simp)]) (r0 := L.rep (x.len : Int).toNat (Ty.zero (.pair (.int .i64) (.pair (.int .i64) (.pair (.int .i64) .unit))))) (by simp [L.rep])
  refine ⟨r, ?_, h2, h3⟩
  unfold g63
  rw [bif_t (by simp; omega), h1]
  rfl

theorem to45 (x : L Ch) (h : x.len ≤ 1048576) : ∃ r : L Ch, g62 x = some ((r, ()), ()) ∧ r.len = x.len ∧ ∀ i, i < x.len → r.get i = x.get i := by
  obtain ⟨r, h1, h2, h3⟩ := copy_loop (step := s62_L0) (x := x) (fun i => x.get i) (fun i r hi hr => by
    simp only [s62_L0, q62_L0]
    rw [bif_t (idx_lt hi), bif_t (idx_in hi), bif_t (by simpa [hr] using hi), wI_succ hi (by omega), Int.toNat_natCast]
    rfl) (fun r => by
    simp only [s62_L0, q62_L0]
    rw [bif_f (by simp)]) (r0 := L.rep (x.len : Int).toNat (Ty.zero (.pair (.int .i64) (.pair (.int .i64) (.pair (.int .i64) (.pair (.int .i64) .unit)))))) (by simp [L.rep])
  refine ⟨r, ?_, h2, h3⟩
  unfold g62
  rw [bif_t (by simp; omega), h1]
  rfl

theorem to44 (x : L Int) (h : x.len ≤ 1048576) : ∃ r : L Int, g61 x = some ((r, ()), ()) ∧ r.len = x.len ∧ ∀ i, i < x.len → r.get i = x.get i := by
  obtain ⟨r, h1, h2, h3⟩ := copy_loop (step := s61_L0) (x := x) (fun i => x.get i) (fun i r hi hr => by
    simp only [s61_L0, q61_L0]
    rw [bif_t (idx_lt hi), bif_t (idx_in hi), bif_t (by simpa [hr] using hi), wI_succ hi (by omega), Int.toNat_natCast]) (fun r => by
    simp only [s61_L0, q61_L0]
    rw [bif_f (by simp)]) (r0 := L.rep (x.len : Int).toNat (Ty.zero (.int .i64))) (by simp [L.rep])
  refine ⟨r, ?_, h2, h3⟩
  unfold g61
  rw [bif_t (by simp; omega), h1]
  rfl

/-- Two partitions that read alike. -/
def SameP (p q : PR) : Prop := p.1 = q.1 ∧ p.2.1 = q.2.1 ∧ p.2.2.1 = q.2.2.1 ∧ p.2.2.2.1.len = q.2.2.2.1.len ∧ ∀ j, j < q.2.2.2.1.len → p.2.2.2.1.get j = q.2.2.2.1.get j

theorem to74 (p : PR) (h : p.2.2.2.1.len ≤ 1048576) : ∃ q : PR, g128 p = some ((q, ()), ()) ∧ SameP q p := by
  obtain ⟨r, h1, h2, h3⟩ := to105 p.2.2.2.1 h
  unfold g128
  rw [h1]
  exact ⟨(p.1, (p.2.1, (p.2.2.1, (r, ())))), rfl, rfl, rfl, rfl, h2, h3⟩

/-- A slice copied, element by element, each by a function. -/
theorem copy_loop' {α β : Type} {step : ((L α × (Unit × (Int × Unit))) × (L β × Unit)) → Option (((L α × (Unit × (Int × Unit))) × (L β × Unit)) ⊕ (((Unit × Unit) × (L β × Unit)) ⊕ Empty))} {x : L α} (F : Nat → β)
    (hstep : ∀ (i : Nat) (r : L β), i < x.len → r.len = x.len → step ((x, ((), ((i : Int), ()))), (r, ())) = some (.inl ((x, ((), (((i + 1 : Nat) : Int), ()))), (L.set r i (F i), ()))))
    (hend : ∀ r, step ((x, ((), ((x.len : Int), ()))), (r, ())) = some (.inr (.inl (((), ()), (r, ()))))) {r0 : L β} (h0 : r0.len = x.len) :
    ∃ r, fixO step ((x, ((), ((0 : Int), ()))), (r0, ())) = some (.inl (((), ()), (r, ()))) ∧ r.len = x.len ∧ ∀ i, i < x.len → r.get i = F i := copy_loop F hstep hend h0

theorem to43 (x : L PR) (h : x.len ≤ 1048576) (hw : ∀ i, i < x.len → (x.get i).2.2.2.1.len ≤ 1048576) : ∃ r : L PR, g60 x = some ((r, ()), ()) ∧ r.len = x.len ∧ ∀ i, i < x.len → SameP (r.get i) (x.get i) := by
  have hex : ∀ i : Nat, ∃ q : PR, i < x.len → g128 (x.get i) = some ((q, ()), ()) ∧ SameP q (x.get i) := fun i => by
    by_cases hi : i < x.len
    · obtain ⟨q, a, b⟩ := to74 (x.get i) (hw i hi)
      exact ⟨q, fun _ => ⟨a, b⟩⟩
    · exact ⟨x.get i, fun h => absurd h hi⟩
  obtain ⟨F, hF⟩ := Classical.axiomOfChoice hex
  obtain ⟨r, h1, h2, h3⟩ := copy_loop (step := s60_L0) (x := x) F (fun i r hi hr => by
    simp only [s60_L0, q60_L0]
    rw [bif_t (idx_lt hi), bif_t (idx_in hi), wI_succ hi (by omega), Int.toNat_natCast, (hF i hi).1]
    simp only [Option.bind_some]
    exact bif_t (by simpa [hr] using hi)) (fun r => by
    simp only [s60_L0, q60_L0]
    rw [bif_f (by simp)]) (r0 := L.rep (x.len : Int).toNat (Ty.zero (.pair .str (.pair (.int .i64) (.pair (.pair (.int .i64) (.pair (.int .i64) .unit)) (.pair (.sl (.pair (.int .i64) (.pair (.int .i64) (.pair (.int .i64) .unit)))) .unit)))))) (by simp [L.rep])
  refine ⟨r, ?_, h2, fun i hi => by rw [h3 i hi]; exact (hF i hi).2⟩
  unfold g60
  rw [bif_t (by simp; omega), h1]
  rfl

/-- The tables' copy. -/
theorem to14 (t : Tb) (h : Bnd t) : ∃ r : Tb, g15 t = some ((r, ()), ()) ∧ Bnd r := by
  obtain ⟨b1, b2, b3, b4, b5⟩ := h
  obtain ⟨r1, e1, l1, q1⟩ := to43 (tParts t) b1 (fun i hi => (b5 i hi).2)
  obtain ⟨r2, e2, l2, q2⟩ := to44 (tDevs t) b2
  obtain ⟨r3, e3, l3, q3⟩ := to45 (tChans t) b3
  obtain ⟨r4, e4, l4, q4⟩ := to46 (tSlots t) b4
  have e1' : g60 t.2.2.2.2.2.2.2.1 = some ((r1, ()), ()) := e1
  have e2' : g61 t.2.2.2.2.2.2.2.2.1 = some ((r2, ()), ()) := e2
  have e3' : g62 t.2.2.2.2.2.2.2.2.2.1 = some ((r3, ()), ()) := e3
  have e4' : g63 t.2.2.2.2.2.2.2.2.2.2.1 = some ((r4, ()), ()) := e4
  unfold g15
  rw [e1', e2', e3', e4']
  refine ⟨(t.1, (t.2.1, (t.2.2.1, (t.2.2.2.1, (t.2.2.2.2.1, (t.2.2.2.2.2.1, (t.2.2.2.2.2.2.1, (r1, (r2, (r3, (r4, ()))))))))))), rfl, ?_⟩
  refine ⟨show r1.len ≤ _ by omega, show r2.len ≤ _ by omega, show r3.len ≤ _ by omega, show r4.len ≤ _ by omega, fun i hi => ?_⟩
  have hi' : i < (tParts t).len := by
    have : i < r1.len := hi
    omega
  obtain ⟨s1, _, _, s4, _⟩ := q1 i hi'
  have b := b5 i hi'
  show (r1.get i).1.size ≤ _ ∧ (r1.get i).2.2.2.1.len ≤ _
  rw [s1, s4]
  exact b

theorem eq119 (x : L Wi) (h : x.len ≤ 1048576) : g203 x x = some ((true, ()), ()) := by
  have h1 := eq_loop (step := s203_L0) (x := x) (y := x) (fun i hi => by
    simp only [s203_L0, q203_L0]
    rw [bif_t (idx_lt hi), bif_t (idx_in hi), bif_t (idx_in hi), bif_f (by simp [f232]), wI_succ hi (by omega)]) (by
    simp only [s203_L0, q203_L0]
    rw [bif_f (by simp)])
  unfold g203
  rw [bif_f (by simp), h1]
  rfl
theorem eq90 (p : PR) (h : p.2.2.2.1.len ≤ 1048576) : g145 p p = some ((true, ()), ()) := by
  unfold g145
  rw [strEq_self, bif_f (by simp), bif_f (by simp), bif_f (by simp [f202]), eq119 _ h]
  rfl
theorem eq50 (x : L PR) (h : x.len ≤ 1048576) (hw : ∀ i, i < x.len → (x.get i).2.2.2.1.len ≤ 1048576) : g69 x x = some ((true, ()), ()) := by
  have h1 := eq_loop (step := s69_L0) (x := x) (y := x) (fun i hi => by
    simp only [s69_L0, q69_L0]
    rw [bif_t (idx_lt hi), bif_t (idx_in hi), bif_t (idx_in hi), Int.toNat_natCast, eq90 _ (hw i hi), wI_succ hi (by omega)]
    rfl) (by
    simp only [s69_L0, q69_L0]
    rw [bif_f (by simp)])
  unfold g69
  rw [bif_f (by simp), h1]
  rfl
theorem eq51 (x : L Int) (h : x.len ≤ 1048576) : g70 x x = some ((true, ()), ()) := by
  have h1 := eq_loop (step := s70_L0) (x := x) (y := x) (fun i hi => by
    simp only [s70_L0, q70_L0]
    rw [bif_t (idx_lt hi), bif_t (idx_in hi), bif_t (idx_in hi), bif_f (by simp), wI_succ hi (by omega)]) (by
    simp only [s70_L0, q70_L0]
    rw [bif_f (by simp)])
  unfold g70
  rw [bif_f (by simp), h1]
  rfl
theorem eq52 (x : L Ch) (h : x.len ≤ 1048576) : g71 x x = some ((true, ()), ()) := by
  have h1 := eq_loop (step := s71_L0) (x := x) (y := x) (fun i hi => by
    simp only [s71_L0, q71_L0]
    rw [bif_t (idx_lt hi), bif_t (idx_in hi), bif_t (idx_in hi), bif_f (by simp [f146]), wI_succ hi (by omega)]) (by
    simp only [s71_L0, q71_L0]
    rw [bif_f (by simp)])
  unfold g71
  rw [bif_f (by simp), h1]
  rfl
theorem eq53 (x : L Sl) (h : x.len ≤ 1048576) : g72 x x = some ((true, ()), ()) := by
  have h1 := eq_loop (step := s72_L0) (x := x) (y := x) (fun i hi => by
    simp only [s72_L0, q72_L0]
    rw [bif_t (idx_lt hi), bif_t (idx_in hi), bif_t (idx_in hi), bif_f (by simp [f147]), wI_succ hi (by omega)]) (by
    simp only [s72_L0, q72_L0]
    rw [bif_f (by simp)])
  unfold g72
  rw [bif_f (by simp), h1]
  rfl
theorem eq16 (t : Tb) (h : Bnd t) : g17 t t = some ((true, ()), ()) := by
  obtain ⟨b1, b2, b3, b4, b5⟩ := h
  have e1 : g69 t.2.2.2.2.2.2.2.1 t.2.2.2.2.2.2.2.1 = some ((true, ()), ()) := eq50 (tParts t) b1 (fun i hi => (b5 i hi).2)
  have e2 : g70 t.2.2.2.2.2.2.2.2.1 t.2.2.2.2.2.2.2.2.1 = some ((true, ()), ()) := eq51 (tDevs t) b2
  have e3 : g71 t.2.2.2.2.2.2.2.2.2.1 t.2.2.2.2.2.2.2.2.2.1 = some ((true, ()), ()) := eq52 (tChans t) b3
  have e4 : g72 t.2.2.2.2.2.2.2.2.2.2.1 t.2.2.2.2.2.2.2.2.2.2.1 = some ((true, ()), ()) := eq53 (tSlots t) b4
  unfold g17
  rw [bif_f (by simp), bif_f (by simp [f67]), bif_f (by simp), bif_f (by simp [f68]), bif_f (by simp), bif_f (by simp), bif_f (by simp), e1, e2, e3, e4]
  rfl

theorem wf_of_bnd {t : Tb} (h : Bnd t) : Wf t := by
  have h47 : (2 : Nat) ^ 47 = 140737488355328 := by decide
  obtain ⟨b1, b2, b3, b4, b5⟩ := h
  unfold Wf
  rw [h47]
  exact ⟨by omega, by omega, by omega, by omega, fun i hi => by have := b5 i hi; omega⟩

/-- The program's look and the reference's come to the same. -/
theorem sound_wf (t : Tb) (h : Wf t) : ∃ b : Bool, g79 t = some ((b, ()), ()) ∧ g64 t = some ((b, ()), ()) ∧ (b = true → Facts t) :=
  sound t h.1 h.2.2.2.1 (fun i hi => (h.2.2.2.2 i hi).1) (fun i hi => (h.2.2.2.2 i hi).2)

/-- How much a slice takes of what is left. -/
theorem szLin (n : Nat) (b : Int) (h : n ≤ 2 ^ 47) (hb : 0 ≤ b) (hb' : b ≤ 1048576) : (bif decide (wI (b - (n : Int)) < 0) then (-1 : Int) else wI (b - (n : Int))) = if b < n then -1 else b - n := by
  have h47 : (2 : Nat) ^ 47 = 140737488355328 := by decide
  rw [h47] at h
  rw [wI_id (by omega) (by omega)]
  by_cases hc : b < n
  · rw [bif_t (by simp; omega), if_pos hc]
  · rw [bif_f (by simp; omega), if_neg hc]

/-- What a slice of things takes, each for itself. -/
theorem szLoop {α : Type} {step : ((L α × (Int × (Int × Unit))) × Unit) → Option (((L α × (Int × (Int × Unit))) × Unit) ⊕ (((Int × Unit) × Unit) ⊕ (((Int × Unit) × Unit) ⊕ Empty)))} {x : L α} (F : α → Int → Int) (Q : α → Prop)
    (hF : ∀ i, i < x.len → ∀ b : Int, 0 ≤ b → b ≤ 1048576 → F (x.get i) b = -1 ∨ (0 ≤ F (x.get i) b ∧ F (x.get i) b ≤ b ∧ Q (x.get i)))
    (hstep : ∀ (i : Nat) (n : Int), i < x.len → step ((x, (n, ((i : Int), ()))), ()) = bif decide (F (x.get i) n < 0) then some (.inr (.inl ((-1, ()), ()))) else some (.inl ((x, (F (x.get i) n, (((i + 1 : Nat) : Int), ()))), ())))
    (hend : ∀ n : Int, step ((x, (n, ((x.len : Int), ()))), ()) = some (.inr (.inr (.inl ((n, ()), ()))))) (b : Int) (hb : 0 ≤ b) (hb' : b ≤ 1048576) :
    ∃ d, fixO step ((x, (b, ((0 : Int), ()))), ()) = some d ∧ (d = .inl ((-1, ()), ()) ∨ ∃ n, d = .inr (.inl ((n, ()), ())) ∧ 0 ≤ n ∧ n ≤ b ∧ ∀ i, i < x.len → Q (x.get i)) := by
  refine fixO_rel (step := step) (fun a => x.len - a.1.2.2.1.toNat)
    (fun a => ∃ (i : Nat) (n : Int), a = ((x, (n, ((i : Int), ()))), ()) ∧ i ≤ x.len ∧ 0 ≤ n ∧ n ≤ b ∧ ∀ k, k < i → Q (x.get k))
    (fun _ d => d = .inl ((-1, ()), ()) ∨ ∃ n, d = .inr (.inl ((n, ()), ())) ∧ 0 ≤ n ∧ n ≤ b ∧ ∀ i, i < x.len → Q (x.get i)) ?_ _ ⟨0, b, rfl, Nat.zero_le _, hb, Int.le_refl _, fun k hk => absurd hk (Nat.not_lt_zero _)⟩
  rintro _ ⟨i, n, rfl, hi, hn1, hn2, hk⟩
  by_cases hlt : i < x.len
  · rw [hstep i n hlt]
    rcases hF i hlt n hn1 (by omega) with q | ⟨q1, q2, q3⟩
    · right
      exact ⟨_, bif_t (by rw [q]; rfl), .inl rfl⟩
    · left
      refine ⟨_, bif_f (by simpa using q1), ⟨i + 1, _, rfl, hlt, q1, by omega, fun k hk' => ?_⟩, by simp only [Int.toNat_natCast]; omega, fun d hd => hd⟩
      by_cases e : k = i
      · rw [e]; exact q3
      · exact hk k (by omega)
  · right
    have : i = x.len := by omega
    subst this
    exact ⟨_, hend n, .inr ⟨n, rfl, hn1, hn2, hk⟩⟩

/-- A slice copied, each thing by what stands for it. -/
theorem copy_each {α β : Type} {step : ((L α × (Unit × (Int × Unit))) × (L β × Unit)) → Option (((L α × (Unit × (Int × Unit))) × (L β × Unit)) ⊕ (((Unit × Unit) × (L β × Unit)) ⊕ Empty))} {x : L α} (R : Nat → β → Prop) (hex : ∀ i, i < x.len → ∃ q, R i q)
    (hstep : ∀ (i : Nat) (r : L β) (q : β), i < x.len → r.len = x.len → R i q → step ((x, ((), ((i : Int), ()))), (r, ())) = some (.inl ((x, ((), (((i + 1 : Nat) : Int), ()))), (L.set r i q, ()))))
    (hend : ∀ r, step ((x, ((), ((x.len : Int), ()))), (r, ())) = some (.inr (.inl (((), ()), (r, ()))))) {r0 : L β} (h0 : r0.len = x.len) :
    ∃ r, fixO step ((x, ((), ((0 : Int), ()))), (r0, ())) = some (.inl (((), ()), (r, ()))) ∧ r.len = x.len ∧ ∀ i, i < x.len → R i (r.get i) := by
  have hex' : ∀ i : Nat, ∃ q : β, i < x.len → R i q := fun i => by
    by_cases hi : i < x.len
    · obtain ⟨q, a⟩ := hex i hi
      exact ⟨q, fun _ => a⟩
    · exact ⟨r0.get 0, fun h => absurd h hi⟩
  obtain ⟨F, hF⟩ := Classical.axiomOfChoice hex'
  obtain ⟨r, h1, h2, h3⟩ := copy_loop (step := step) (x := x) F (fun i r hi hr => hstep i r (F i) hi hr (hF i hi)) hend h0
  exact ⟨r, h1, h2, fun i hi => by rw [h3 i hi]; exact hF i hi⟩

theorem sz12b (t : Tb) (h : Wf t) : ∃ n, g13 t 1048576 = some ((n, ()), ()) ∧ (n = -1 ∨ (0 ≤ n ∧ n ≤ 1048576 ∧ Bnd t)) := by
  obtain ⟨n, e1, e2⟩ := sz12 t h
  refine ⟨n, e1, ?_⟩
  rcases e2 with rfl | ⟨n1, hb⟩
  · exact .inl rfl
  right
  refine ⟨n1, ?_, hb⟩
  obtain ⟨w1, w2, w3, w4, w5⟩ := h
  obtain ⟨m, q1, q2⟩ := sz33 (tParts t) 1048576 w1 w5 (by omega) (by omega)
  unfold g13 at e1
  have q1' : g52 t.2.2.2.2.2.2.2.1 1048576 = some ((m, ()), ()) := q1
  rw [q1'] at e1
  simp only [Option.bind_some] at e1
  rcases q2 with rfl | ⟨m1, m2, _, _⟩
  · rw [bif_t (by decide)] at e1
    have := (Prod.mk.inj (Prod.mk.inj (Option.some.inj e1)).1).1
    omega
  · rw [bif_f (by simpa using m1)] at e1
    have a1 : f53 t.2.2.2.2.2.2.2.2.1 m = _ := sz34 (tDevs t) m w2 m1 m2
    rw [a1] at e1
    by_cases c1 : m < ((tDevs t).len : Int)
    · rw [if_pos c1, bif_t (by decide)] at e1
      have := (Prod.mk.inj (Prod.mk.inj (Option.some.inj e1)).1).1
      omega
    · rw [if_neg c1, bif_f (by simp; omega)] at e1
      have a2 : f54 t.2.2.2.2.2.2.2.2.2.1 (m - ((tDevs t).len : Int)) = _ := sz35 (tChans t) _ w3 (by omega) (by omega)
      rw [a2] at e1
      by_cases c2 : m - ((tDevs t).len : Int) < ((tChans t).len : Int)
      · rw [if_pos c2, bif_t (by decide)] at e1
        have := (Prod.mk.inj (Prod.mk.inj (Option.some.inj e1)).1).1
        omega
      · rw [if_neg c2, bif_f (by simp; omega)] at e1
        have a3 : f55 t.2.2.2.2.2.2.2.2.2.2.1 (m - ((tDevs t).len : Int) - ((tChans t).len : Int)) = _ := sz36 (tSlots t) _ w4 (by omega) (by omega)
        rw [a3] at e1
        by_cases c3 : m - ((tDevs t).len : Int) - ((tChans t).len : Int) < ((tSlots t).len : Int)
        · rw [if_pos c3, bif_t (by decide)] at e1
          have := (Prod.mk.inj (Prod.mk.inj (Option.some.inj e1)).1).1
          omega
        · rw [if_neg c3, bif_f (by simp; omega)] at e1
          have := (Prod.mk.inj (Prod.mk.inj (Option.some.inj e1)).1).1
          omega

abbrev Im : Type := L (L Int)

theorem sz26 (x : Im) (b : Int) (h : x.len ≤ 2 ^ 47) (hp : ∀ i, i < x.len → (x.get i).len ≤ 2 ^ 47) (hb : 0 ≤ b) (hb' : b ≤ 1048576) :
    ∃ n, g26 x b = some ((n, ()), ()) ∧ (n = -1 ∨ (0 ≤ n ∧ n ≤ b ∧ x.len ≤ 1048576 ∧ ∀ i, i < x.len → (x.get i).len ≤ 1048576)) := by
  have h47 : (2 : Nat) ^ 47 = 140737488355328 := by decide
  have h' := h
  rw [h47] at h'
  unfold g26
  rw [wI_id (by omega) (by omega)]
  by_cases hc : b - (x.len : Int) < 0
  · rw [bif_t (by simpa using hc)]; exact ⟨-1, rfl, .inl rfl⟩
  · rw [bif_f (by simpa using hc)]
    obtain ⟨d, e1, e2⟩ := szLoop (step := s26_L0) (x := x) f78 (fun p => p.len ≤ 1048576) (fun i hi b hb hb' => by
      have : f78 (x.get i) b = _ := szLin (x.get i).len b (hp i hi) hb hb'
      rw [this]
      by_cases hd : b < ((x.get i).len : Int)
      · rw [if_pos hd]; exact .inl rfl
      · rw [if_neg hd]; right; omega) (fun i n hi => by
      simp only [s26_L0, q26_L0]
      refine (bif_t (idx_lt hi)).trans ((bif_t (idx_in hi)).trans ?_)
      rw [wI_succ hi h, Int.toNat_natCast]) (fun n => by
      simp only [s26_L0, q26_L0]
      exact bif_f (idx_end x.len)) (b - (x.len : Int)) (by omega) (by omega)
    rw [e1]
    simp only [Option.bind_some]
    rcases e2 with rfl | ⟨n, rfl, n1, n2, n3⟩
    · exact ⟨-1, rfl, .inl rfl⟩
    · exact ⟨n, rfl, .inr ⟨n1, by omega, by omega, n3⟩⟩

theorem to81 (x : L Int) (h : x.len ≤ 1048576) : ∃ r : L Int, g81 x = some ((r, ()), ()) ∧ r.len = x.len := by
  obtain ⟨r, h1, h2, h3⟩ := copy_loop (step := s81_L0) (x := x) (fun i => x.get i) (fun i r hi hr => by
    simp only [s81_L0, q81_L0]
    rw [bif_t (idx_lt hi), bif_t (idx_in hi), bif_t (by simpa [hr] using hi), wI_succ hi (by omega), Int.toNat_natCast]) (fun r => by
    simp only [s81_L0, q81_L0]
    rw [bif_f (by simp)]) (r0 := L.rep (x.len : Int).toNat (Ty.zero (.int .u8))) (by simp [L.rep])
  refine ⟨r, ?_, h2⟩
  unfold g81
  rw [bif_t (by simp; omega), h1]
  rfl

theorem to28 (x : Im) (h : x.len ≤ 1048576) (hw : ∀ i, i < x.len → (x.get i).len ≤ 1048576) : ∃ r : Im, g28 x = some ((r, ()), ()) ∧ r.len ≤ 1048576 ∧ ∀ i, i < r.len → (r.get i).len ≤ 1048576 := by
  obtain ⟨r, h1, h2, h3⟩ := copy_each (step := s28_L0) (x := x) (fun i q => g81 (x.get i) = some ((q, ()), ()) ∧ q.len = (x.get i).len) (fun i hi => to81 (x.get i) (hw i hi)) (fun i r q hi hr hq => by
    simp only [s28_L0, q28_L0]
    rw [bif_t (idx_lt hi), bif_t (idx_in hi), wI_succ hi (by omega), Int.toNat_natCast, hq.1]
    simp only [Option.bind_some]
    exact bif_t (by simpa [hr] using hi)) (fun r => by
    simp only [s28_L0, q28_L0]
    rw [bif_f (by simp)]) (r0 := L.rep (x.len : Int).toNat (Ty.zero (.sl (.int .u8)))) (by simp [L.rep])
  refine ⟨r, ?_, by omega, fun i hi => by rw [(h3 i (by omega)).2]; exact hw i (by omega)⟩
  unfold g28
  rw [bif_t (by simp; omega), h1]
  rfl

theorem eq83 (x : L Int) (h : x.len ≤ 1048576) : g83 x x = some ((true, ()), ()) := by
  have h1 := eq_loop (step := s83_L0) (x := x) (y := x) (fun i hi => by
    simp only [s83_L0, q83_L0]
    rw [bif_t (idx_lt hi), bif_t (idx_in hi), bif_t (idx_in hi), bif_f (by simp), wI_succ hi (by omega)]) (by
    simp only [s83_L0, q83_L0]
    rw [bif_f (by simp)])
  unfold g83
  rw [bif_f (by simp), h1]
  rfl
theorem eq30 (x : Im) (h : x.len ≤ 1048576) (hw : ∀ i, i < x.len → (x.get i).len ≤ 1048576) : g30 x x = some ((true, ()), ()) := by
  have h1 := eq_loop (step := s30_L0) (x := x) (y := x) (fun i hi => by
    simp only [s30_L0, q30_L0]
    rw [bif_t (idx_lt hi), bif_t (idx_in hi), bif_t (idx_in hi), Int.toNat_natCast, eq83 _ (hw i hi), wI_succ hi (by omega)]
    rfl) (by
    simp only [s30_L0, q30_L0]
    rw [bif_f (by simp)])
  unfold g30
  rw [bif_f (by simp), h1]
  rfl

theorem fits (t : Tb) (p : Int) (x : Im) (h : Bnd t) (hx : x.len ≤ 1048576) : ∃ b : Bool, g80 t p x = some ((b, ()), ()) ∧ g82 t p x = some ((b, ()), ()) := by
  unfold g80 g82
  rw [show f86 = f77 from rfl]
  cases hp : f77 p 0 (wI ((t.2.2.2.2.2.2.2.1.len : Int) - 1)) with
  | false => exact ⟨false, rfl, rfl⟩
  | true =>
    simp only [Bool.not_true, cond_false]
    have hp := (f77_iff _ _ _).mp hp
    have hl : ((t.2.2.2.2.2.2.2.1.len : Int)) = (tParts t).len := rfl
    have hb1 : (tParts t).len ≤ 1048576 := h.1
    rw [hl, wI_id (by omega) (by omega)] at hp
    have hin : (decide (0 ≤ p) && decide (p < (t.2.2.2.2.2.2.2.1.len : Int))) = true := by
      rw [hl]; simp; omega
    rw [bif_t hin, bif_t hin, bif_t hin]
    cases hne : ((x.len : Int) != ((t.2.2.2.2.2.2.2.1.get p.toNat).2.2.2.1.len : Int)) with
    | true => exact ⟨false, rfl, rfl⟩
    | false =>
      have hne : x.len = ((tParts t).get p.toNat).2.2.2.1.len := by
        have : ((x.len : Int)) = ((t.2.2.2.2.2.2.2.1.get p.toNat).2.2.2.1.len : Int) := by simpa using hne
        have e : (t.2.2.2.2.2.2.2.1.get p.toNat).2.2.2.1.len = ((tParts t).get p.toNat).2.2.2.1.len := rfl
        omega
      simp only [cond_false]
      generalize hwn : ((tParts t).get p.toNat).2.2.2.1 = wn at hne
      have hwn' : (t.2.2.2.2.2.2.2.1.get p.toNat).2.2.2.1 = wn := hwn
      rw [hwn']
      obtain ⟨d, e, e1, e2, e3⟩ := fixO_sim (s1 := s80_L0) (s2 := s82_L0)
        (fun a b => ∃ i : Nat, a = ((p, (x, ((), ((i : Int), ())))), (t, ())) ∧ b = ((x, (wn, ((wn.len : Int), ((i : Int), ())))), ()) ∧ i ≤ x.len)
        (fun d e => (d = .inl ((false, ()), ()) ∧ e = .inl ((false, ()), ())) ∨ (d = .inr (.inl ((), ())) ∧ e = .inr (.inl ((), ())))) (fun a => x.len - a.1.2.2.2.1.toNat) (by
          rintro _ _ ⟨i, rfl, rfl, hi⟩
          simp only [s80_L0, q80_L0, s82_L0, q82_L0]
          rw [hwn']
          by_cases hlt : i < x.len
          · rw [bif_t (idx_lt hlt), bif_t (idx_in hlt), bif_t hin, bif_t (idx_in (n := wn.len) (by omega)), bif_t (idx_lt (n := wn.len) (by omega)), bif_t (idx_in (n := wn.len) (by omega)), bif_t (idx_in hlt), wI_succ hlt (by omega), Int.toNat_natCast]
            cases ((x.get i).len : Int) != (wn.get i).2.1 with
            | true => exact .inr ⟨_, _, rfl, rfl, .inl ⟨rfl, rfl⟩⟩
            | false => exact .inl ⟨_, _, rfl, rfl, ⟨i + 1, rfl, rfl, hlt⟩, by simp only [Int.toNat_natCast]; omega⟩
          · right
            have : i = x.len := by omega
            subst this
            exact ⟨_, _, bif_f (idx_end x.len), bif_f (by simp; omega), .inr ⟨rfl, rfl⟩⟩)
        ((p, (x, ((), ((0 : Int), ())))), (t, ())) ((x, (wn, ((wn.len : Int), ((0 : Int), ())))), ()) ⟨0, rfl, rfl, Nat.zero_le _⟩
      rw [e1, e2]
      rcases e3 with ⟨rfl, rfl⟩ | ⟨rfl, rfl⟩
      · exact ⟨false, rfl, rfl⟩
      · exact ⟨true, rfl, rfl⟩


theorem to158 (x : L Int) (h : x.len ≤ 1048576) : ∃ r : L Int, g158 x = some ((r, ()), ()) ∧ r.len = x.len := by
  obtain ⟨r, h1, h2, h3⟩ := copy_loop (step := s158_L0) (x := x) (fun i => x.get i) (fun i r hi hr => by
    simp only [s158_L0, q158_L0]
    rw [bif_t (idx_lt hi), bif_t (idx_in hi), bif_t (by simpa [hr] using hi), wI_succ hi (by omega), Int.toNat_natCast]) (fun r => by
    simp only [s158_L0, q158_L0]
    rw [bif_f (by simp)]) (r0 := L.rep (x.len : Int).toNat (Ty.zero (.int .u32))) (by simp [L.rep])
  refine ⟨r, ?_, h2⟩
  unfold g158
  rw [bif_t (by simp; omega), h1]
  rfl

theorem eq160 (x : L Int) (h : x.len ≤ 1048576) : g160 x x = some ((true, ()), ()) := by
  have h1 := eq_loop (step := s160_L0) (x := x) (y := x) (fun i hi => by
    simp only [s160_L0, q160_L0]
    rw [bif_t (idx_lt hi), bif_t (idx_in hi), bif_t (idx_in hi), bif_f (by simp), wI_succ hi (by omega)]) (by
    simp only [s160_L0, q160_L0]
    rw [bif_f (by simp)])
  unfold g160
  rw [bif_f (by simp), h1]
  rfl

abbrev Wy : Type := Int × (Bool × Unit)
abbrev Sh : Type := Int × (Int × (Int × Unit))
abbrev Ca : Type := Sh × ((L (L Wy)) × Unit)
/-- The sizes of a cache that the law lets through. -/
def BndC (c : Ca) : Prop := c.2.1.len ≤ 1048576 ∧ ∀ i, i < c.2.1.len → (c.2.1.get i).len ≤ 1048576

theorem sz41 (c : Ca) (b : Int) (h : c.2.1.len ≤ 2 ^ 47) (hp : ∀ i, i < c.2.1.len → (c.2.1.get i).len ≤ 2 ^ 47) (hb : 0 ≤ b) (hb' : b ≤ 1048576) :
    ∃ n, g41 c b = some ((n, ()), ()) ∧ (n = -1 ∨ (0 ≤ n ∧ n ≤ b ∧ BndC c)) := by
  have h47 : (2 : Nat) ^ 47 = 140737488355328 := by decide
  generalize hx : c.2.1 = x at *
  have h' := h
  rw [h47] at h'
  unfold g41 g94 BndC
  rw [hx, wI_id (by omega) (by omega)]
  by_cases hc : b - (x.len : Int) < 0
  · rw [bif_t (by simpa using hc)]; exact ⟨-1, rfl, .inl rfl⟩
  · rw [bif_f (by simpa using hc)]
    obtain ⟨d, e1, e2⟩ := szLoop (step := s94_L0) (x := x) f161 (fun p => p.len ≤ 1048576) (fun i hi b hb hb' => by
      have : f161 (x.get i) b = _ := szLin (x.get i).len b (hp i hi) hb hb'
      rw [this]
      by_cases hd : b < ((x.get i).len : Int)
      · rw [if_pos hd]; exact .inl rfl
      · rw [if_neg hd]; right; omega) (fun i n hi => by
      simp only [s94_L0, q94_L0]
      refine (bif_t (idx_lt hi)).trans ((bif_t (idx_in hi)).trans ?_)
      rw [wI_succ hi h, Int.toNat_natCast]) (fun n => by
      simp only [s94_L0, q94_L0]
      exact bif_f (idx_end x.len)) (b - (x.len : Int)) (by omega) (by omega)
    rw [e1]
    simp only [Option.bind_some]
    rcases e2 with rfl | ⟨n, rfl, n1, n2, n3⟩
    · exact ⟨-1, rfl, .inl rfl⟩
    · refine ⟨n, ?_, .inr ⟨n1, by omega, by omega, n3⟩⟩
      simp only [Option.bind_some]
      exact bif_f (by simpa using n1)

theorem to164 (x : L Wy) (h : x.len ≤ 1048576) : ∃ r : L Wy, g164 x = some ((r, ()), ()) ∧ r.len = x.len := by
  obtain ⟨r, h1, h2, h3⟩ := copy_loop (step := s164_L0) (x := x) (fun i => x.get i) (fun i r hi hr => by
    simp only [s164_L0, q164_L0]
    rw [bif_t (idx_lt hi), bif_t (idx_in hi), bif_t (by simpa [hr] using hi), wI_succ hi (by omega), Int.toNat_natCast]
    rfl) (fun r => by
    simp only [s164_L0, q164_L0]
    rw [bif_f (by simp)]) (r0 := L.rep (x.len : Int).toNat (Ty.zero (.pair (.int .i64) (.pair .bool .unit)))) (by simp [L.rep])
  refine ⟨r, ?_, h2⟩
  unfold g164
  rw [bif_t (by simp; omega), h1]
  rfl

theorem toCa43 (c : Ca) (h : BndC c) : ∃ r : Ca, g43 c = some ((r, ()), ()) ∧ BndC r := by
  obtain ⟨hl, hw⟩ := h
  generalize hx : c.2.1 = x at *
  obtain ⟨r, h1, h2, h3⟩ := copy_each (step := s98_L0) (x := x) (fun i q => g164 (x.get i) = some ((q, ()), ()) ∧ q.len = (x.get i).len) (fun i hi => to164 (x.get i) (hw i hi)) (fun i r q hi hr hq => by
    simp only [s98_L0, q98_L0]
    rw [bif_t (idx_lt hi), bif_t (idx_in hi), wI_succ hi (by omega), Int.toNat_natCast, hq.1]
    simp only [Option.bind_some]
    exact bif_t (by simpa [hr] using hi)) (fun r => by
    simp only [s98_L0, q98_L0]
    rw [bif_f (by simp)]) (r0 := L.rep (x.len : Int).toNat (Ty.zero (.sl (.pair (.int .i64) (.pair .bool .unit))))) (by simp [L.rep])
  unfold g43 g98
  rw [hx, bif_t (by simp; omega), h1]
  refine ⟨(c.1, (r, ())), rfl, ?_⟩
  unfold BndC
  exact ⟨by show r.len ≤ _; omega, fun i hi => by
    have hi : i < r.len := hi
    show (r.get i).len ≤ _
    rw [(h3 i (by omega)).2]; exact hw i (by omega)⟩

theorem eq169 (x : L Wy) (h : x.len ≤ 1048576) : g169 x x = some ((true, ()), ()) := by
  have h1 := eq_loop (step := s169_L0) (x := x) (y := x) (fun i hi => by
    simp only [s169_L0, q169_L0]
    rw [bif_t (idx_lt hi), bif_t (idx_in hi), bif_t (idx_in hi), bif_f (by simp [f218]), wI_succ hi (by omega)]) (by
    simp only [s169_L0, q169_L0]
    rw [bif_f (by simp)])
  unfold g169
  rw [bif_f (by simp), h1]
  rfl
theorem eq46 (c : Ca) (h : BndC c) : g46 c c = some ((true, ()), ()) := by
  obtain ⟨hl, hw⟩ := h
  generalize hx : c.2.1 = x at *
  have h1 := eq_loop (step := s102_L0) (x := x) (y := x) (fun i hi => by
    simp only [s102_L0, q102_L0]
    rw [bif_t (idx_lt hi), bif_t (idx_in hi), bif_t (idx_in hi), Int.toNat_natCast, eq169 _ (hw i hi), wI_succ hi (by omega)]
    rfl) (by
    simp only [s102_L0, q102_L0]
    rw [bif_f (by simp)])
  unfold g46 g102
  rw [hx, bif_f (by simp [f67]), bif_f (by simp), h1]
  rfl

/-- A tag that a row has ahead of a place. -/
theorem tags (c : Ca) (r : Int) (row : L Wy) (hr : row.len ≤ 1048576) (i : Nat) (hi : i < row.len) :
    ∃ n : Int, g166 row (row.get i).1 = some ((n, ()), ()) ∧
    ((n < i ∧ fixO s95_L4 (((), (r, (row, ((i : Int), ((0 : Int), ()))))), (c, ())) = some (.inl ((false, ()), ()))) ∨
     (¬ n < i ∧ fixO s95_L4 (((), (r, (row, ((i : Int), ((0 : Int), ()))))), (c, ())) = some (.inr (.inl (((), (r, (row, ((i : Int), ())))), (c, ())))))) := by
  have h1 := scan (step := s95_L4) (fun k => (((), (r, (row, ((i : Int), ((k : Int), ()))))), (c, ()))) i (fun k => !((row.get k).1 == (row.get i).1)) (fun _ => .inl ((false, ()), ())) (.inr (.inl (((), (r, (row, ((i : Int), ())))), (c, ()))))
    (fun k hk ho => by
      have ho' : ((row.get ((k : Int)).toNat).1 == (row.get ((i : Int)).toNat).1) = false := by rw [Int.toNat_natCast, Int.toNat_natCast]; simpa using ho
      simp only [s95_L4, q95_L4]
      refine (bif_t (idx_lt hk)).trans ((bif_t (idx_in (n := row.len) (by omega))).trans ((bif_t (idx_in hi)).trans ((bif_f ho').trans ?_)))
      rw [wI_succ hk (by omega)])
    (fun k hk ho => by
      have ho' : ((row.get ((k : Int)).toNat).1 == (row.get ((i : Int)).toNat).1) = true := by rw [Int.toNat_natCast, Int.toNat_natCast]; simpa using ho
      simp only [s95_L4, q95_L4]
      exact (bif_t (idx_lt hk)).trans ((bif_t (idx_in (n := row.len) (by omega))).trans ((bif_t (idx_in hi)).trans (bif_t ho'))))
    (by
      simp only [s95_L4, q95_L4]
      exact bif_f (idx_end i))
  have h2 := index_loop (step := s216_217_L0) (x := row) (c := ((row.get i).1, ())) (fun k => (row.get k).1 == (row.get i).1) (fun k hk => by
    simp only [s216_217_L0, q216_217_L0]
    refine (bif_t (idx_lt hk)).trans ((bif_t (idx_in hk)).trans ?_)
    rw [wI_succ hk (by omega), Int.toNat_natCast]
    by_cases hf : ((row.get k).1 == (row.get i).1) = true
    · rw [if_pos hf]; exact bif_t hf
    · rw [if_neg hf]
      have hf' : ((row.get k).1 == (row.get i).1) = false := by simpa using hf
      exact bif_f hf') (by
    simp only [s216_217_L0, q216_217_L0]
    exact bif_f (idx_end row.len))
  unfold g166 g216_217
  rcases h2 with ⟨k, k1, k2, k3, k4⟩ | ⟨k1, _⟩
  · rw [k4]
    refine ⟨k, rfl, ?_⟩
    rcases h1 with ⟨j, hj, ho, _, e⟩ | ⟨ha, e⟩
    · left
      refine ⟨?_, e⟩
      have ho : ((row.get j).1 == (row.get i).1) = true := by simpa using ho
      by_cases q : k ≤ j
      · omega
      · have := k3 j (by omega)
        rw [ho] at this; cases this
    · right
      refine ⟨fun q => ?_, e⟩
      have := ha k (by omega)
      rw [k2] at this; cases this
  · have := k1 i hi
    simp at this

/-- Is a cache right: the reference's look and the program's. -/
theorem caches (c : Ca) (h : BndC c) : ∃ b : Bool, g95 c = some ((b, ()), ()) ∧ g99 c = some ((b, ()), ()) ∧ (b = true → f162 c.1 = true) := by
  obtain ⟨hl, hw⟩ := h
  unfold g95 g99
  rw [f132_162]
  cases hs : f162 c.1 with
  | false => exact ⟨false, rfl, rfl, by simp⟩
  | true =>
    simp only [Bool.not_true, cond_false]
    cases hn : ((c.2.1.len : Int) != c.1.1) with
    | true => exact ⟨false, rfl, rfl, by simp⟩
    | false =>
      simp only [cond_false]
      generalize hx : c.2.1 = x at *
      obtain ⟨d, e, e1, e2, e3⟩ := fixO_sim (s1 := s95_L0) (s2 := s99_L0)
        (fun a b => ∃ r : Nat, a = (((), ((r : Int), ())), (c, ())) ∧ b = (((), (x, ((x.len : Int), ((r : Int), ())))), (c, ())) ∧ r ≤ x.len)
        (fun d e => (d = .inl ((false, ()), ()) ∧ e = .inl ((false, ()), ())) ∨ (d = .inr (.inl ((), ())) ∧ e = .inr (.inl ((), ())))) (fun a => x.len - a.1.2.1.toNat) (by
          rintro _ _ ⟨r, rfl, rfl, hr⟩
          simp only [s95_L0, q95_L0, s99_L0, q99_L0]
          rw [hx]
          by_cases hlt : r < x.len
          · rw [bif_t (idx_lt hlt), bif_t (idx_in hlt), bif_t (idx_lt hlt), bif_t (idx_in hlt), Int.toNat_natCast]
            have hrow := hw r hlt
            generalize hrw : x.get r = row at hrow
            cases hwy : decide ((row.len : Int) > c.1.2.1) with
            | true => exact .inr ⟨_, _, rfl, rfl, .inl ⟨rfl, rfl⟩⟩
            | false =>
              simp only [cond_false]
              obtain ⟨d, e, i1, i2, i3⟩ := fixO_sim (s1 := s95_L2) (s2 := s99_L2)
                (fun a b => ∃ i : Nat, a = (((), ((r : Int), (row, ((i : Int), ())))), (c, ())) ∧ b = (((), (row, (x, ((x.len : Int), ((r : Int), (row, ((row.len : Int), ((i : Int), ())))))))), (c, ())) ∧ i ≤ row.len)
                (fun d e => (d = .inl ((false, ()), ()) ∧ e = .inl ((false, ()), ())) ∨ (d = .inr (.inl (((), ((r : Int), ())), (c, ()))) ∧ e = .inr (.inl (((), (x, ((x.len : Int), ((r : Int), ())))), (c, ()))))) (fun a => row.len - a.1.2.2.2.1.toNat) (by
                  rintro _ _ ⟨i, rfl, rfl, hi⟩
                  simp only [s95_L2, q95_L2, s99_L2, q99_L2]
                  by_cases hit : i < row.len
                  · obtain ⟨n, n1, n2⟩ := tags c (r : Int) row hrow i hit
                    rw [bif_t (idx_lt hit), bif_t (idx_in hit), bif_t (idx_lt hit), bif_t (idx_in hit), Int.toNat_natCast, show f165 (row.get i).1 = f77 (row.get i).1 0 65535 from rfl, n1]
                    cases f77 (row.get i).1 0 65535 with
                    | false => exact .inr ⟨_, _, rfl, rfl, .inl ⟨rfl, rfl⟩⟩
                    | true =>
                      simp only [Bool.not_true, cond_false, Option.bind_some]
                      rcases n2 with ⟨q1, q2⟩ | ⟨q1, q2⟩
                      · rw [q2, decide_eq_true q1]
                        exact .inr ⟨_, _, rfl, rfl, .inl ⟨rfl, rfl⟩⟩
                      · rw [q2, decide_eq_false q1]
                        simp only [Option.bind_some, cond_false]
                        rw [wI_succ hit (by omega)]
                        exact .inl ⟨_, _, rfl, rfl, ⟨i + 1, rfl, rfl, hit⟩, by simp only [Int.toNat_natCast]; omega⟩
                  · right
                    have : i = row.len := by omega
                    subst this
                    exact ⟨_, _, bif_f (idx_end row.len), bif_f (idx_end row.len), .inr ⟨rfl, rfl⟩⟩)
                (((), ((r : Int), (row, ((0 : Int), ())))), (c, ())) (((), (row, (x, ((x.len : Int), ((r : Int), (row, ((row.len : Int), ((0 : Int), ())))))))), (c, ())) ⟨0, rfl, rfl, Nat.zero_le _⟩
              rw [i1, i2]
              rcases i3 with ⟨rfl, rfl⟩ | ⟨rfl, rfl⟩
              · exact .inr ⟨_, _, rfl, rfl, .inl ⟨rfl, rfl⟩⟩
              · simp only [Option.bind_some]
                rw [wI_succ hlt (by omega)]
                exact .inl ⟨_, _, rfl, rfl, ⟨r + 1, rfl, rfl, hlt⟩, by simp only [Int.toNat_natCast]; omega⟩
          · right
            have : r = x.len := by omega
            subst this
            exact ⟨_, _, bif_f (idx_end x.len), bif_f (idx_end x.len), .inr ⟨rfl, rfl⟩⟩)
        (((), ((0 : Int), ())), (c, ())) (((), (x, ((x.len : Int), ((0 : Int), ())))), (c, ())) ⟨0, rfl, rfl, Nat.zero_le _⟩
      rw [e1, e2]
      rcases e3 with ⟨rfl, rfl⟩ | ⟨rfl, rfl⟩
      · exact ⟨false, rfl, rfl, by simp⟩
      · exact ⟨true, rfl, rfl, fun _ => trivial⟩

abbrev Gu : Type := (L Int) × (Int × (Im × Unit))
abbrev Vi : Type := Bool × (Int × (Int × (Int × (Int × (Bool × (Bool × (Int × Unit)))))))
abbrev He : Type := Int × (Int × (Int × (Bool × Unit)))
abbrev Tl : Type := Int × ((L Int) × Unit)
abbrev Oe : Type := Int × ((L Int) × Unit)
abbrev Ie : Type := (L Int) × Unit
abbrev De : Type := (L Int) × ((L Int) × Unit)
abbrev St : Type := Gu × (Vi × (He × (Ca × (Tl × (Int × (Bool × (Im × ((L Oe) × ((L Ie) × ((L De) × Unit))))))))))
def sOuts (s : St) : L Oe := s.2.2.2.2.2.2.2.2.1
def sIns (s : St) : L Ie := s.2.2.2.2.2.2.2.2.2.1
def sDevs (s : St) : L De := s.2.2.2.2.2.2.2.2.2.2.1
def sBoot (s : St) : Im := s.2.2.2.2.2.2.2.1
def BndI (x : Im) (m : Nat) : Prop := x.len ≤ m ∧ ∀ i, i < x.len → (x.get i).len ≤ m
/-- Sizes of a partition's state. -/
def BndS (s : St) (m : Nat) : Prop :=
  s.1.1.len ≤ m ∧ BndI s.1.2.2.1 m ∧ (s.2.2.2.1.2.1.len ≤ m ∧ ∀ i, i < s.2.2.2.1.2.1.len → (s.2.2.2.1.2.1.get i).len ≤ m) ∧ s.2.2.2.2.1.2.1.len ≤ m ∧ BndI (sBoot s) m ∧
  ((sOuts s).len ≤ m ∧ ∀ i, i < (sOuts s).len → ((sOuts s).get i).2.1.len ≤ m) ∧ ((sIns s).len ≤ m ∧ ∀ i, i < (sIns s).len → ((sIns s).get i).1.len ≤ m) ∧
  ((sDevs s).len ≤ m ∧ ∀ i, i < (sDevs s).len → ((sDevs s).get i).1.len ≤ m ∧ ((sDevs s).get i).2.1.len ≤ m)

theorem sz156 (x : L Int) (b : Int) (h : x.len ≤ 2 ^ 47) (hb : 0 ≤ b) (hb' : b ≤ 1048576) : f156 x b = -1 ∨ (0 ≤ f156 x b ∧ f156 x b ≤ b ∧ x.len ≤ 1048576) := by
  have : f156 x b = _ := szLin x.len b h hb hb'
  rw [this]
  by_cases hd : b < (x.len : Int)
  · rw [if_pos hd]; exact .inl rfl
  · rw [if_neg hd]; right; omega

theorem sz105 (x : L Oe) (b : Int) (h : x.len ≤ 2 ^ 47) (hp : ∀ i, i < x.len → (x.get i).2.1.len ≤ 2 ^ 47) (hb : 0 ≤ b) (hb' : b ≤ 1048576) :
    ∃ n, g105 x b = some ((n, ()), ()) ∧ (n = -1 ∨ (0 ≤ n ∧ n ≤ b ∧ x.len ≤ 1048576 ∧ ∀ i, i < x.len → (x.get i).2.1.len ≤ 1048576)) := by
  have h47 : (2 : Nat) ^ 47 = 140737488355328 := by decide
  have h' := h
  rw [h47] at h'
  unfold g105
  rw [wI_id (by omega) (by omega)]
  by_cases hc : b - (x.len : Int) < 0
  · rw [bif_t (by simpa using hc)]; exact ⟨-1, rfl, .inl rfl⟩
  · rw [bif_f (by simpa using hc)]
    obtain ⟨d, e1, e2⟩ := szLoop (step := s105_L0) (x := x) f170 (fun p => p.2.1.len ≤ 1048576) (fun i hi b hb hb' => by
      unfold f170
      rcases sz156 (x.get i).2.1 b (hp i hi) hb hb' with q | ⟨q1, q2, q3⟩
      · rw [q]; exact .inl rfl
      · rw [bif_f (by simpa using q1)]; exact .inr ⟨q1, q2, q3⟩) (fun i n hi => by
      simp only [s105_L0, q105_L0]
      refine (bif_t (idx_lt hi)).trans ((bif_t (idx_in hi)).trans ?_)
      rw [wI_succ hi h, Int.toNat_natCast]) (fun n => by
      simp only [s105_L0, q105_L0]
      exact bif_f (idx_end x.len)) (b - (x.len : Int)) (by omega) (by omega)
    rw [e1]
    simp only [Option.bind_some]
    rcases e2 with rfl | ⟨n, rfl, n1, n2, n3⟩
    · exact ⟨-1, rfl, .inl rfl⟩
    · exact ⟨n, rfl, .inr ⟨n1, by omega, by omega, n3⟩⟩
theorem sz106 (x : L Ie) (b : Int) (h : x.len ≤ 2 ^ 47) (hp : ∀ i, i < x.len → (x.get i).1.len ≤ 2 ^ 47) (hb : 0 ≤ b) (hb' : b ≤ 1048576) :
    ∃ n, g106 x b = some ((n, ()), ()) ∧ (n = -1 ∨ (0 ≤ n ∧ n ≤ b ∧ x.len ≤ 1048576 ∧ ∀ i, i < x.len → (x.get i).1.len ≤ 1048576)) := by
  have h47 : (2 : Nat) ^ 47 = 140737488355328 := by decide
  have h' := h
  rw [h47] at h'
  unfold g106
  rw [wI_id (by omega) (by omega)]
  by_cases hc : b - (x.len : Int) < 0
  · rw [bif_t (by simpa using hc)]; exact ⟨-1, rfl, .inl rfl⟩
  · rw [bif_f (by simpa using hc)]
    obtain ⟨d, e1, e2⟩ := szLoop (step := s106_L0) (x := x) f171 (fun p => p.1.len ≤ 1048576) (fun i hi b hb hb' => by
      unfold f171
      rcases sz156 (x.get i).1 b (hp i hi) hb hb' with q | ⟨q1, q2, q3⟩
      · rw [q]; exact .inl rfl
      · rw [bif_f (by simpa using q1)]; exact .inr ⟨q1, q2, q3⟩) (fun i n hi => by
      simp only [s106_L0, q106_L0]
      refine (bif_t (idx_lt hi)).trans ((bif_t (idx_in hi)).trans ?_)
      rw [wI_succ hi h, Int.toNat_natCast]) (fun n => by
      simp only [s106_L0, q106_L0]
      exact bif_f (idx_end x.len)) (b - (x.len : Int)) (by omega) (by omega)
    rw [e1]
    simp only [Option.bind_some]
    rcases e2 with rfl | ⟨n, rfl, n1, n2, n3⟩
    · exact ⟨-1, rfl, .inl rfl⟩
    · exact ⟨n, rfl, .inr ⟨n1, by omega, by omega, n3⟩⟩
theorem sz107 (x : L De) (b : Int) (h : x.len ≤ 2 ^ 47) (hp : ∀ i, i < x.len → (x.get i).1.len ≤ 2 ^ 47 ∧ (x.get i).2.1.len ≤ 2 ^ 47) (hb : 0 ≤ b) (hb' : b ≤ 1048576) :
    ∃ n, g107 x b = some ((n, ()), ()) ∧ (n = -1 ∨ (0 ≤ n ∧ n ≤ b ∧ x.len ≤ 1048576 ∧ ∀ i, i < x.len → (x.get i).1.len ≤ 1048576 ∧ (x.get i).2.1.len ≤ 1048576)) := by
  have h47 : (2 : Nat) ^ 47 = 140737488355328 := by decide
  have h' := h
  rw [h47] at h'
  unfold g107
  rw [wI_id (by omega) (by omega)]
  by_cases hc : b - (x.len : Int) < 0
  · rw [bif_t (by simpa using hc)]; exact ⟨-1, rfl, .inl rfl⟩
  · rw [bif_f (by simpa using hc)]
    obtain ⟨d, e1, e2⟩ := szLoop (step := s107_L0) (x := x) f172 (fun p => p.1.len ≤ 1048576 ∧ p.2.1.len ≤ 1048576) (fun i hi b hb hb' => by
      unfold f172
      rcases sz156 (x.get i).1 b (hp i hi).1 hb hb' with q | ⟨q1, q2, q3⟩
      · rw [q]; exact .inl rfl
      · rw [bif_f (by simpa using q1)]
        rcases sz156 (x.get i).2.1 (f156 (x.get i).1 b) (hp i hi).2 q1 (by omega) with r | ⟨r1, r2, r3⟩
        · rw [r]; exact .inl rfl
        · rw [bif_f (by simpa using r1)]; exact .inr ⟨r1, by omega, q3, r3⟩) (fun i n hi => by
      simp only [s107_L0, q107_L0]
      refine (bif_t (idx_lt hi)).trans ((bif_t (idx_in hi)).trans ?_)
      rw [wI_succ hi h, Int.toNat_natCast]) (fun n => by
      simp only [s107_L0, q107_L0]
      exact bif_f (idx_end x.len)) (b - (x.len : Int)) (by omega) (by omega)
    rw [e1]
    simp only [Option.bind_some]
    rcases e2 with rfl | ⟨n, rfl, n1, n2, n3⟩
    · exact ⟨-1, rfl, .inl rfl⟩
    · exact ⟨n, rfl, .inr ⟨n1, by omega, by omega, n3⟩⟩

theorem sz47 (s : St) (b : Int) (h : BndS s (2 ^ 47)) (hb : 0 ≤ b) (hb' : b ≤ 1048576) : ∃ n, g47 s b = some ((n, ()), ()) ∧ (n = -1 ∨ (0 ≤ n ∧ BndS s 1048576)) := by
  obtain ⟨h1, ⟨h2, h2'⟩, ⟨h3, h3'⟩, h4, ⟨h5, h5'⟩, ⟨h6, h6'⟩, ⟨h7, h7'⟩, h8, h8'⟩ := h
  unfold g47 g103
  rcases sz156 s.1.1 b h1 hb hb' with q | ⟨q1, q2, q3⟩
  · rw [q]; exact ⟨-1, rfl, .inl rfl⟩
  rw [bif_f (by simpa using q1)]
  obtain ⟨a, a1, a2⟩ := sz26 s.1.2.2.1 (f156 s.1.1 b) h2 h2' q1 (by omega)
  rw [a1]
  simp only [Option.bind_some]
  rcases a2 with rfl | ⟨a2, a3, a4, a5⟩
  · exact ⟨-1, rfl, .inl rfl⟩
  rw [bif_f (by simpa using a2)]
  simp only [Option.bind_some]
  rw [bif_f (by simpa using a2)]
  obtain ⟨c, c1, c2⟩ := sz41 s.2.2.2.1 a h3 h3' a2 (by omega)
  rw [c1]
  simp only [Option.bind_some]
  rcases c2 with rfl | ⟨c2, c3, c4⟩
  · exact ⟨-1, rfl, .inl rfl⟩
  rw [bif_f (by simpa using c2)]
  have e104 : f104 s.2.2.2.2.1 c = -1 ∨ (0 ≤ f104 s.2.2.2.2.1 c ∧ f104 s.2.2.2.2.1 c ≤ c ∧ s.2.2.2.2.1.2.1.len ≤ 1048576) := by
    unfold f104
    have : f53 s.2.2.2.2.1.2.1 c = _ := sz34 s.2.2.2.2.1.2.1 c h4 c2 (by omega)
    rw [this]
    by_cases hd : c < ((s.2.2.2.2.1.2.1.len : Int))
    · rw [if_pos hd]; exact .inl rfl
    · rw [if_neg hd, bif_f (by simp; omega)]; right; omega
  rcases e104 with q | ⟨t1, t2, t3⟩
  · rw [q]; exact ⟨-1, rfl, .inl rfl⟩
  rw [bif_f (by simpa using t1)]
  obtain ⟨d, d1, d2⟩ := sz26 (sBoot s) (f104 s.2.2.2.2.1 c) h5 h5' t1 (by omega)
  have d1' : g26 s.2.2.2.2.2.2.2.1 (f104 s.2.2.2.2.1 c) = some ((d, ()), ()) := d1
  rw [d1']
  simp only [Option.bind_some]
  rcases d2 with rfl | ⟨d2, d3, d4, d5⟩
  · exact ⟨-1, rfl, .inl rfl⟩
  rw [bif_f (by simpa using d2)]
  obtain ⟨e, e1, e2⟩ := sz105 (sOuts s) d h6 h6' d2 (by omega)
  have e1' : g105 s.2.2.2.2.2.2.2.2.1 d = some ((e, ()), ()) := e1
  rw [e1']
  simp only [Option.bind_some]
  rcases e2 with rfl | ⟨e2, e3, e4, e5⟩
  · exact ⟨-1, rfl, .inl rfl⟩
  rw [bif_f (by simpa using e2)]
  obtain ⟨f, f1, f2⟩ := sz106 (sIns s) e h7 h7' e2 (by omega)
  have f1' : g106 s.2.2.2.2.2.2.2.2.2.1 e = some ((f, ()), ()) := f1
  rw [f1']
  simp only [Option.bind_some]
  rcases f2 with rfl | ⟨f2, f3, f4, f5⟩
  · exact ⟨-1, rfl, .inl rfl⟩
  rw [bif_f (by simpa using f2)]
  obtain ⟨g, g1, g2⟩ := sz107 (sDevs s) f h8 h8' f2 (by omega)
  have g1' : g107 s.2.2.2.2.2.2.2.2.2.2.1 f = some ((g, ()), ()) := g1
  rw [g1']
  simp only [Option.bind_some]
  rcases g2 with rfl | ⟨g2, g3, g4, g5⟩
  · exact ⟨-1, rfl, .inl rfl⟩
  rw [bif_f (by simpa using g2)]
  exact ⟨g, rfl, .inr ⟨g2, q3, ⟨a4, a5⟩, c4, t3, ⟨d4, d5⟩, ⟨e4, e5⟩, ⟨f4, f5⟩, ⟨g4, g5⟩⟩⟩

theorem to116 (x : L Oe) (h : x.len ≤ 1048576) (hw : ∀ i, i < x.len → (x.get i).2.1.len ≤ 1048576) : ∃ r : L Oe, g116 x = some ((r, ()), ()) ∧ r.len ≤ 1048576 ∧ ∀ i, i < r.len → (r.get i).2.1.len ≤ 1048576 := by
  obtain ⟨r, h1, h2, h3⟩ := copy_each (step := s116_L0) (x := x) (fun i q => g177 (x.get i) = some ((q, ()), ()) ∧ q.2.1.len = (x.get i).2.1.len) (fun i hi => by
    obtain ⟨r, h1, h2⟩ := to158 (x.get i).2.1 (hw i hi)
    unfold g177
    rw [h1]
    exact ⟨((x.get i).1, (r, ())), rfl, h2⟩) (fun i r q hi hr hq => by
    simp only [s116_L0, q116_L0]
    rw [bif_t (idx_lt hi), bif_t (idx_in hi), wI_succ hi (by omega), Int.toNat_natCast, hq.1]
    simp only [Option.bind_some]
    exact bif_t (by simpa [hr] using hi)) (fun r => by
    simp only [s116_L0, q116_L0]
    rw [bif_f (by simp)]) (r0 := L.rep (x.len : Int).toNat (Ty.zero (.pair (.int .i64) (.pair (.sl (.int .u32)) .unit)))) (by simp [L.rep])
  refine ⟨r, ?_, by omega, fun i hi => by rw [(h3 i (by omega)).2]; exact hw i (by omega)⟩
  unfold g116
  rw [bif_t (by simp; omega), h1]
  rfl
theorem to117 (x : L Ie) (h : x.len ≤ 1048576) (hw : ∀ i, i < x.len → (x.get i).1.len ≤ 1048576) : ∃ r : L Ie, g117 x = some ((r, ()), ()) ∧ r.len ≤ 1048576 ∧ ∀ i, i < r.len → (r.get i).1.len ≤ 1048576 := by
  obtain ⟨r, h1, h2, h3⟩ := copy_each (step := s117_L0) (x := x) (fun i q => g178 (x.get i) = some ((q, ()), ()) ∧ q.1.len = (x.get i).1.len) (fun i hi => by
    obtain ⟨r, h1, h2⟩ := to158 (x.get i).1 (hw i hi)
    unfold g178
    rw [h1]
    exact ⟨(r, ()), rfl, h2⟩) (fun i r q hi hr hq => by
    simp only [s117_L0, q117_L0]
    rw [bif_t (idx_lt hi), bif_t (idx_in hi), wI_succ hi (by omega), Int.toNat_natCast, hq.1]
    simp only [Option.bind_some]
    exact bif_t (by simpa [hr] using hi)) (fun r => by
    simp only [s117_L0, q117_L0]
    rw [bif_f (by simp)]) (r0 := L.rep (x.len : Int).toNat (Ty.zero (.pair (.sl (.int .u32)) .unit))) (by simp [L.rep])
  refine ⟨r, ?_, by omega, fun i hi => by rw [(h3 i (by omega)).2]; exact hw i (by omega)⟩
  unfold g117
  rw [bif_t (by simp; omega), h1]
  rfl
theorem to118 (x : L De) (h : x.len ≤ 1048576) (hw : ∀ i, i < x.len → (x.get i).1.len ≤ 1048576 ∧ (x.get i).2.1.len ≤ 1048576) : ∃ r : L De, g118 x = some ((r, ()), ()) ∧ r.len ≤ 1048576 ∧ ∀ i, i < r.len → (r.get i).1.len ≤ 1048576 ∧ (r.get i).2.1.len ≤ 1048576 := by
  obtain ⟨r, h1, h2, h3⟩ := copy_each (step := s118_L0) (x := x) (fun i q => g179 (x.get i) = some ((q, ()), ()) ∧ q.1.len = (x.get i).1.len ∧ q.2.1.len = (x.get i).2.1.len) (fun i hi => by
    obtain ⟨r, h1, h2⟩ := to158 (x.get i).1 (hw i hi).1
    obtain ⟨q, h3, h4⟩ := to158 (x.get i).2.1 (hw i hi).2
    unfold g179
    rw [h1, h3]
    exact ⟨(r, (q, ())), rfl, h2, h4⟩) (fun i r q hi hr hq => by
    simp only [s118_L0, q118_L0]
    rw [bif_t (idx_lt hi), bif_t (idx_in hi), wI_succ hi (by omega), Int.toNat_natCast, hq.1]
    simp only [Option.bind_some]
    exact bif_t (by simpa [hr] using hi)) (fun r => by
    simp only [s118_L0, q118_L0]
    rw [bif_f (by simp)]) (r0 := L.rep (x.len : Int).toNat (Ty.zero (.pair (.sl (.int .u32)) (.pair (.sl (.int .u32)) .unit)))) (by simp [L.rep])
  refine ⟨r, ?_, by omega, fun i hi => by rw [(h3 i (by omega)).2.1, (h3 i (by omega)).2.2]; exact hw i (by omega)⟩
  unfold g118
  rw [bif_t (by simp; omega), h1]
  rfl

theorem to49 (s : St) (h : BndS s 1048576) : ∃ r : St, g49 s = some ((r, ()), ()) ∧ BndS r 1048576 := by
  obtain ⟨h1, ⟨h2, h2'⟩, ⟨h3, h3'⟩, h4, ⟨h5, h5'⟩, ⟨h6, h6'⟩, ⟨h7, h7'⟩, h8, h8'⟩ := h
  obtain ⟨a, a1, a2⟩ := to158 s.1.1 h1
  obtain ⟨b, b1, b2, b3⟩ := to28 s.1.2.2.1 h2 h2'
  obtain ⟨c, c1, c2⟩ := toCa43 s.2.2.2.1 ⟨h3, h3'⟩
  obtain ⟨d, d1, d2, _⟩ := to44 s.2.2.2.2.1.2.1 h4
  obtain ⟨e, e1, e2, e3⟩ := to28 (sBoot s) h5 h5'
  obtain ⟨f, f1, f2, f3⟩ := to116 (sOuts s) h6 h6'
  obtain ⟨g, g1, g2, g3⟩ := to117 (sIns s) h7 h7'
  obtain ⟨k, k1, k2, k3⟩ := to118 (sDevs s) h8 h8'
  have e1' : g28 s.2.2.2.2.2.2.2.1 = some ((e, ()), ()) := e1
  have f1' : g116 s.2.2.2.2.2.2.2.2.1 = some ((f, ()), ()) := f1
  have g1' : g117 s.2.2.2.2.2.2.2.2.2.1 = some ((g, ()), ()) := g1
  have k1' : g118 s.2.2.2.2.2.2.2.2.2.2.1 = some ((k, ()), ()) := k1
  unfold g49 g112 g115
  rw [a1, b1, c1, d1, e1', f1', g1', k1']
  refine ⟨((a, (s.1.2.1, (b, ()))), (s.2.1, (s.2.2.1, (c, ((s.2.2.2.2.1.1, (d, ())), (s.2.2.2.2.2.1, (s.2.2.2.2.2.2.1, (e, (f, (g, (k, ()))))))))))), rfl, ?_⟩
  exact ⟨show a.len ≤ _ by omega, ⟨b2, b3⟩, c2, show d.len ≤ _ by omega, ⟨e2, e3⟩, ⟨f2, f3⟩, ⟨g2, g3⟩, ⟨k2, k3⟩⟩

theorem eq124 (x : L Oe) (h : x.len ≤ 1048576) (hw : ∀ i, i < x.len → (x.get i).2.1.len ≤ 1048576) : g124 x x = some ((true, ()), ()) := by
  have h1 := eq_loop (step := s124_L0) (x := x) (y := x) (fun i hi => by
    have e : g184 (x.get i) (x.get i) = some ((true, ()), ()) := by
      unfold g184
      rw [bif_f (by simp), eq160 _ (hw i hi)]; rfl
    simp only [s124_L0, q124_L0]
    rw [bif_t (idx_lt hi), bif_t (idx_in hi), bif_t (idx_in hi), Int.toNat_natCast, e, wI_succ hi (by omega)]
    rfl) (by
    simp only [s124_L0, q124_L0]
    rw [bif_f (by simp)])
  unfold g124
  rw [bif_f (by simp), h1]
  rfl
theorem eq125 (x : L Ie) (h : x.len ≤ 1048576) (hw : ∀ i, i < x.len → (x.get i).1.len ≤ 1048576) : g125 x x = some ((true, ()), ()) := by
  have h1 := eq_loop (step := s125_L0) (x := x) (y := x) (fun i hi => by
    have e : g185 (x.get i) (x.get i) = some ((true, ()), ()) := by
      unfold g185
      rw [eq160 _ (hw i hi)]; rfl
    simp only [s125_L0, q125_L0]
    rw [bif_t (idx_lt hi), bif_t (idx_in hi), bif_t (idx_in hi), Int.toNat_natCast, e, wI_succ hi (by omega)]
    rfl) (by
    simp only [s125_L0, q125_L0]
    rw [bif_f (by simp)])
  unfold g125
  rw [bif_f (by simp), h1]
  rfl
theorem eq126 (x : L De) (h : x.len ≤ 1048576) (hw : ∀ i, i < x.len → (x.get i).1.len ≤ 1048576 ∧ (x.get i).2.1.len ≤ 1048576) : g126 x x = some ((true, ()), ()) := by
  have h1 := eq_loop (step := s126_L0) (x := x) (y := x) (fun i hi => by
    have e : g186 (x.get i) (x.get i) = some ((true, ()), ()) := by
      unfold g186
      rw [eq160 _ (hw i hi).1, eq160 _ (hw i hi).2]; rfl
    simp only [s126_L0, q126_L0]
    rw [bif_t (idx_lt hi), bif_t (idx_in hi), bif_t (idx_in hi), Int.toNat_natCast, e, wI_succ hi (by omega)]
    rfl) (by
    simp only [s126_L0, q126_L0]
    rw [bif_f (by simp)])
  unfold g126
  rw [bif_f (by simp), h1]
  rfl

theorem eq51' (s : St) (h : BndS s 1048576) : g51 s s = some ((true, ()), ()) := by
  obtain ⟨h1, ⟨h2, h2'⟩, ⟨h3, h3'⟩, h4, ⟨h5, h5'⟩, ⟨h6, h6'⟩, ⟨h7, h7'⟩, h8, h8'⟩ := h
  have a1 := eq160 s.1.1 h1
  have b1 := eq30 s.1.2.2.1 h2 h2'
  have c1 := eq46 s.2.2.2.1 ⟨h3, h3'⟩
  have d1 := eq51 s.2.2.2.2.1.2.1 h4
  have e1 : g30 s.2.2.2.2.2.2.2.1 s.2.2.2.2.2.2.2.1 = some ((true, ()), ()) := eq30 (sBoot s) h5 h5'
  have f1 : g124 s.2.2.2.2.2.2.2.2.1 s.2.2.2.2.2.2.2.2.1 = some ((true, ()), ()) := eq124 (sOuts s) h6 h6'
  have g1 : g125 s.2.2.2.2.2.2.2.2.2.1 s.2.2.2.2.2.2.2.2.2.1 = some ((true, ()), ()) := eq125 (sIns s) h7 h7'
  have k1 : g126 s.2.2.2.2.2.2.2.2.2.2.1 s.2.2.2.2.2.2.2.2.2.2.1 = some ((true, ()), ()) := eq126 (sDevs s) h8 h8'
  have v1 : f121 s.2.1 s.2.1 = true := by simp [f121]
  have v2 : f122 s.2.2.1 s.2.2.1 = true := by simp [f122]
  unfold g51 g120 g123
  rw [a1, b1, c1, d1, e1, f1, g1, k1, v1, v2]
  simp

theorem overlaps2 (a : L Wi) (ha : a.len ≤ 2 ^ 47) (w : Wi) (hw : f219 w = true) (hg : ∀ v, v ∈ toL a → f219 v = true) (hap : ∀ v, v ∈ toL a → apart v w) : g195_237 a (w, ()) = some ((false, ()), ()) := by
  have hf : ∀ i, i < a.len → f237 (a.get i) w = false := fun i hi => by
    have hm := (toL_mem a (a.get i)).mpr ⟨i, hi, rfl⟩
    have := (f197_iff (a.get i) w (hg _ hm) hw).mpr (hap _ hm)
    unfold f237
    rw [this]; rfl
  have h := index_loop (step := s230_237_L0) (x := a) (c := (w, ())) (fun i => f237 (a.get i) w) (fun i hi => by
    simp only [s230_237_L0, q230_237_L0]
    refine (bif_t (idx_lt hi)).trans ((bif_t (idx_in hi)).trans ?_)
    rw [wI_succ hi ha, Int.toNat_natCast]
    by_cases hf : f237 (a.get i) w = true
    · rw [if_pos hf]; exact bif_t hf
    · rw [if_neg hf]; exact bif_f (by simpa using hf)) (by
    simp only [s230_237_L0, q230_237_L0]
    exact bif_f (idx_end a.len))
  unfold g195_237 g230_237
  rcases h with ⟨i, h1, h2, h3, h4⟩ | ⟨h1, h2⟩
  · rw [hf i h1] at h2; cases h2
  · rw [h2]; rfl

theorem aparts (a b : Wi) (ha : f219 a = true) (hb : f219 b = true) (h : apart a b) : g220 a b = some ((true, ()), ()) := by
  unfold g220
  rw [ha, hb]
  simp only [Bool.not_true, cond_false]
  obtain ⟨d, e1, rfl⟩ := fixO_rel (step := s220_L0) (fun y => (2052 - y.1.2.2.1).toNat)
    (fun y => ∃ x : Int, y = (((), ((), (x, ()))), (a, (b, ()))) ∧ 0 ≤ x ∧ x ≤ 2051)
    (fun _ d => d = .inr (.inl ((), ()))) (by
      rintro _ ⟨x, rfl, x1, x2⟩
      simp only [s220_L0, q220_L0]
      by_cases hlt : x < 2048
      · left
        rw [bif_t (by simpa using hlt), wI_id (by omega) (by omega)]
        have hm : (2052 - (x + 4)).toNat < (2052 - x).toNat := by omega
        cases h1 : f235 a x with
        | false => exact ⟨_, rfl, ⟨x + 4, rfl, by omega, by omega⟩, hm, fun d hd => hd⟩
        | true =>
          cases h2 : f235 b x with
          | false => exact ⟨_, rfl, ⟨x + 4, rfl, by omega, by omega⟩, hm, fun d hd => hd⟩
          | true =>
            have h1 := (f235_iff a x ha).mp h1
            have h2 := (f235_iff b x hb).mp h2
            unfold apart at h
            omega
      · right
        rw [bif_f (by simpa using hlt)]
        exact ⟨_, rfl, rfl⟩)
    (((), ((), ((0 : Int), ()))), (a, (b, ()))) ⟨0, rfl, by omega, by omega⟩
  rw [e1]; rfl

/-- The windows of a right partition are right. -/
theorem winsOk (w : L Wi) (hl : w.len ≤ 4) (hg : ∀ j, j < w.len → f219 (w.get j) = true) (hp : (toL w).Pairwise apart) : g173 w = some ((true, ()), ()) ∧ g221 w = some ((true, ()), ()) := by
  have hap : ∀ k i, k < i → i < w.len → apart (w.get k) (w.get i) := fun k i h1 h2 => by
    have := List.pairwise_iff_getElem.mp hp k i (by rw [toL_len]; omega) (by rw [toL_len]; exact h2) h1
    rw [toL_getElem, toL_getElem] at this
    exact this
  constructor
  · unfold g173
    rw [bif_f (by simp; omega)]
    obtain ⟨d, e1, rfl⟩ := fixO_rel (step := s173_L0) (fun a => w.len - a.1.2.1.toNat) (fun a => ∃ i : Nat, a = ((w, ((i : Int), ())), ()) ∧ i ≤ w.len) (fun _ d => d = .inr (.inl ((), ()))) (by
      rintro _ ⟨i, rfl, hi⟩
      simp only [s173_L0, q173_L0]
      by_cases hlt : i < w.len
      · left
        rw [bif_t (idx_lt hlt), bif_t (idx_in hlt), Int.toNat_natCast, hg i hlt]
        obtain ⟨d, e2, rfl⟩ := fixO_rel (step := s173_L2) (fun a => i - a.1.2.2.1.toNat) (fun a => ∃ k : Nat, a = ((w, ((i : Int), ((k : Int), ()))), ()) ∧ k ≤ i) (fun _ d => d = .inr (.inl ((w, ((i : Int), ())), ()))) (by
          rintro _ ⟨k, rfl, hk⟩
          simp only [s173_L2, q173_L2]
          by_cases hkt : k < i
          · left
            rw [bif_t (idx_lt hkt), bif_t (idx_in (n := w.len) (by omega)), bif_t (idx_in hlt), Int.toNat_natCast, Int.toNat_natCast, aparts _ _ (hg k (by omega)) (hg i hlt) (hap k i hkt hlt), wI_succ hkt (by omega)]
            exact ⟨_, rfl, ⟨k + 1, rfl, hkt⟩, by simp only [Int.toNat_natCast]; omega, fun d hd => hd⟩
          · right
            have : k = i := by omega
            subst this
            exact ⟨_, bif_f (idx_end k), rfl⟩) ((w, ((i : Int), ((0 : Int), ()))), ()) ⟨0, rfl, Nat.zero_le _⟩
        rw [e2]
        simp only [Bool.not_true, cond_false, Option.bind_some]
        rw [wI_succ hlt (by omega)]
        exact ⟨_, rfl, ⟨i + 1, rfl, hlt⟩, by simp only [Int.toNat_natCast]; omega, fun d hd => hd⟩
      · right
        have : i = w.len := by omega
        subst this
        exact ⟨_, bif_f (idx_end w.len), rfl⟩) ((w, ((0 : Int), ())), ()) ⟨0, rfl, Nat.zero_le _⟩
    rw [e1]; rfl
  · unfold g221
    rw [bif_f (by simp; omega)]
    obtain ⟨d, e1, rfl⟩ := fixO_rel (step := s221_L0) (fun a => w.len - a.1.2.2.2.1.toNat) (fun a => ∃ i : Nat, a = ((w, (w, ((w.len : Int), ((i : Int), ())))), ()) ∧ i ≤ w.len) (fun _ d => d = .inr (.inl ((), ()))) (by
      rintro _ ⟨i, rfl, hi⟩
      simp only [s221_L0, q221_L0]
      by_cases hlt : i < w.len
      · left
        have e194 : f194 (w.get i) = true := by rw [f194_219]; exact hg i hlt
        have hcut : ∀ v, v ∈ toL (L.cut w (0 : Int).toNat i) → ∃ k, k < i ∧ w.get k = v := fun v hv => by
          obtain ⟨k, k1, k2⟩ := (toL_mem _ _).mp hv
          have k1 : k < i - 0 := k1
          have k2 : w.get (0 + k) = v := k2
          rw [Nat.zero_add] at k2
          exact ⟨k, by omega, k2⟩
        have ho := overlaps2 (L.cut w (0 : Int).toNat i) (show i - 0 ≤ 2 ^ 47 by omega) (w.get i) (hg i hlt) (fun v hv => by
          obtain ⟨k, k1, rfl⟩ := hcut v hv
          exact hg k (by omega)) (fun v hv => by
          obtain ⟨k, k1, rfl⟩ := hcut v hv
          exact hap k i k1 hlt)
        rw [bif_t (idx_lt hlt), bif_t (idx_in hlt), Int.toNat_natCast, e194, bif_f (show (!true) = false from rfl), bif_t (by simp; omega), ho]
        simp only [Option.bind_some, cond_false]
        rw [wI_succ hlt (by omega)]
        exact ⟨_, rfl, ⟨i + 1, rfl, hlt⟩, by simp only [Int.toNat_natCast]; omega, fun d hd => hd⟩
      · right
        have : i = w.len := by omega
        subst this
        exact ⟨_, bif_f (idx_end w.len), rfl⟩) ((w, (w, ((w.len : Int), ((0 : Int), ())))), ()) ⟨0, rfl, Nat.zero_le _⟩
    rw [e1]; rfl

theorem guests (w : L Wi) (g : Gu) (hl : w.len ≤ 4) (hg : ∀ j, j < w.len → f219 (w.get j) = true) (hp : (toL w).Pairwise apart) : ∃ b : Bool, g108 w g = some ((b, ()), ()) ∧ g180 w g = some ((b, ()), ()) := by
  obtain ⟨w1, w2⟩ := winsOk w hl hg hp
  unfold g108 g180
  rw [w1, w2]
  simp only [Option.bind_some, Bool.not_true, cond_false]
  cases h16 : ((g.1.len : Int) != 16) with
  | true => exact ⟨false, rfl, rfl⟩
  | false =>
    have h16 : (g.1.len : Int) = 16 := by simpa using h16
    have hb : decide ((0 : Int) < (g.1.len : Int)) = true := by rw [h16]; rfl
    rw [hb]
    simp only [cond_false, cond_true]
    cases (g.1.get (0 : Int).toNat != 0) with
    | true => exact ⟨false, rfl, rfl⟩
    | false =>
      cases hr : ((g.2.2.1.len : Int) != (w.len : Int)) with
      | true => exact ⟨false, rfl, rfl⟩
      | false =>
        have hr : g.2.2.1.len = w.len := by
          have : (g.2.2.1.len : Int) = (w.len : Int) := by simpa using hr
          omega
        simp only [cond_false]
        obtain ⟨d, e, e1, e2, e3⟩ := fixO_sim (s1 := s108_L0) (s2 := s180_L0)
          (fun a b => ∃ i : Nat, a = ((w, ((), ((i : Int), ()))), (g, ())) ∧ b = (((), (w, ((w.len : Int), ((i : Int), ())))), (g, ())) ∧ i ≤ w.len)
          (fun d e => (d = .inl ((false, ()), ()) ∧ e = .inl ((false, ()), ())) ∨ (d = .inr (.inl ((), ())) ∧ e = .inr (.inl ((), ())))) (fun a => w.len - a.1.2.2.1.toNat) (by
            rintro _ _ ⟨i, rfl, rfl, hi⟩
            simp only [s108_L0, q108_L0, s180_L0, q180_L0]
            by_cases hlt : i < w.len
            · have hlr : i < g.2.2.1.len := by omega
              have x1 : decide ((i : Int) < (w.len : Int)) = true := idx_lt hlt
              have x2 : (decide ((0 : Int) ≤ (i : Int)) && decide ((i : Int) < (w.len : Int))) = true := idx_in hlt
              have x3 : (decide ((0 : Int) ≤ (i : Int)) && decide ((i : Int) < (g.2.2.1.len : Int))) = true := idx_in hlr
              rw [x2, x3, x1, wI_succ hlt (by omega), Int.toNat_natCast]
              simp only [cond_true]
              cases ((g.2.2.1.get i).len : Int) != (w.get i).2.1 with
              | true => exact .inr ⟨_, _, rfl, rfl, .inl ⟨rfl, rfl⟩⟩
              | false => exact .inl ⟨_, _, rfl, rfl, ⟨i + 1, rfl, rfl, hlt⟩, by simp only [Int.toNat_natCast]; omega⟩
            · right
              have : i = w.len := by omega
              subst this
              exact ⟨_, _, bif_f (idx_end w.len), bif_f (idx_end w.len), .inr ⟨rfl, rfl⟩⟩)
          ((w, ((), ((0 : Int), ()))), (g, ())) (((), (w, ((w.len : Int), ((0 : Int), ())))), (g, ())) ⟨0, rfl, rfl, Nat.zero_le _⟩
        rw [e1, e2]
        rcases e3 with ⟨rfl, rfl⟩ | ⟨rfl, rfl⟩
        · exact ⟨false, rfl, rfl⟩
        · exact ⟨true, rfl, rfl⟩

/-- A page that a table has ahead of a place. -/
theorem pages (t : Tl) (hr : t.2.1.len ≤ 1048576) (i : Nat) (hi : i < t.2.1.len) :
    ∃ b : Bool, g222 (L.cut t.2.1 (0 : Int).toNat i) (t.2.1.get i) = some ((b, ()), ()) ∧
    ((b = true ∧ fixO s110_L2 (((), ((i : Int), ((0 : Int), ()))), (t, ())) = some (.inl ((false, ()), ()))) ∨
     (b = false ∧ fixO s110_L2 (((), ((i : Int), ((0 : Int), ()))), (t, ())) = some (.inr (.inl (((), ((i : Int), ())), (t, ())))))) := by
  generalize hx : t.2.1 = x at *
  have h1 := scan (step := s110_L2) (fun k => (((), ((i : Int), ((k : Int), ()))), (t, ()))) i (fun k => !(x.get k == x.get i)) (fun _ => .inl ((false, ()), ())) (.inr (.inl (((), ((i : Int), ())), (t, ()))))
    (fun k hk ho => by
      have ho' : (x.get ((k : Int)).toNat == x.get ((i : Int)).toNat) = false := by rw [Int.toNat_natCast, Int.toNat_natCast]; simpa using ho
      simp only [s110_L2, q110_L2]
      rw [hx]
      refine (bif_t (idx_lt hk)).trans ((bif_t (idx_in (n := x.len) (by omega))).trans ((bif_t (idx_in hi)).trans ((bif_f ho').trans ?_)))
      rw [wI_succ hk (by omega)])
    (fun k hk ho => by
      have ho' : (x.get ((k : Int)).toNat == x.get ((i : Int)).toNat) = true := by rw [Int.toNat_natCast, Int.toNat_natCast]; simpa using ho
      simp only [s110_L2, q110_L2]
      rw [hx]
      exact (bif_t (idx_lt hk)).trans ((bif_t (idx_in (n := x.len) (by omega))).trans ((bif_t (idx_in hi)).trans (bif_t ho'))))
    (by
      simp only [s110_L2, q110_L2]
      exact bif_f (idx_end i))
  generalize hy : L.cut x (0 : Int).toNat i = y
  have hyl : y.len = i := by rw [← hy]; rfl
  have hyg : ∀ k, y.get k = x.get k := fun k => by
    rw [← hy]
    show x.get (0 + k) = _
    rw [Nat.zero_add]
  have h2 := index_loop (step := s238_L0) (x := y) (c := x.get i) (fun k => x.get i == x.get k) (fun k hk => by
    simp only [s238_L0, q238_L0]
    refine (bif_t (idx_lt hk)).trans ((bif_t (idx_in hk)).trans ?_)
    rw [wI_succ hk (by omega), Int.toNat_natCast, hyg]
    by_cases hf : (x.get i == x.get k) = true
    · rw [if_pos hf]; exact bif_t hf
    · rw [if_neg hf]
      have hf' : (x.get i == x.get k) = false := by simpa using hf
      exact bif_f hf') (by
    simp only [s238_L0, q238_L0]
    exact bif_f (idx_end y.len))
  unfold g222 g238
  rcases h2 with ⟨k, k1, k2, k3, k4⟩ | ⟨k1, k2⟩
  · rw [k4]
    refine ⟨true, by simp, .inl ⟨rfl, ?_⟩⟩
    rcases h1 with ⟨j, hj, ho, _, e⟩ | ⟨ha, e⟩
    · exact e
    · have := ha k (by omega)
      have k2' : (x.get k == x.get i) = true := by rw [beq_iff_eq] at k2 ⊢; exact k2.symm
      rw [k2'] at this; cases this
  · rw [k2]
    refine ⟨false, by simp, .inr ⟨rfl, ?_⟩⟩
    rcases h1 with ⟨j, hj, ho, _, e⟩ | ⟨ha, e⟩
    · have := k1 j (by omega)
      have ho : (x.get j == x.get i) = true := by simpa using ho
      have ho' : (x.get i == x.get j) = true := by rw [beq_iff_eq] at ho ⊢; exact ho.symm
      rw [ho'] at this; cases this
    · exact e

theorem tlbs (t : Tl) (hr : t.2.1.len ≤ 1048576) : ∃ b : Bool, g110 t = some ((b, ()), ()) ∧ g182 t = some ((b, ()), ()) := by
  unfold g110 g182
  rw [show f86 = f77 from rfl]
  cases f77 t.1 1 8 with
  | false => exact ⟨false, rfl, rfl⟩
  | true =>
    simp only [Bool.not_true, cond_false]
    cases decide ((t.2.1.len : Int) > t.1) with
    | true => exact ⟨false, rfl, rfl⟩
    | false =>
      simp only [cond_false]
      have hpg := pages t hr
      generalize hx : t.2.1 = x at *
      obtain ⟨d, e, e1, e2, e3⟩ := fixO_sim (s1 := s110_L0) (s2 := s182_L0)
        (fun a b => ∃ i : Nat, a = (((), ((i : Int), ())), (t, ())) ∧ b = (((), (x, ((x.len : Int), ((i : Int), ())))), (t, ())) ∧ i ≤ x.len)
        (fun d e => (d = .inl ((false, ()), ()) ∧ e = .inl ((false, ()), ())) ∨ (d = .inr (.inl ((), ())) ∧ e = .inr (.inl ((), ())))) (fun a => x.len - a.1.2.1.toNat) (by
          rintro _ _ ⟨i, rfl, rfl, hi⟩
          simp only [s110_L0, q110_L0, s182_L0, q182_L0]
          rw [hx, show f86 = f77 from rfl]
          by_cases hlt : i < x.len
          · obtain ⟨b, b1, b2⟩ := hpg i hlt
            rw [bif_t (idx_lt hlt), bif_t (idx_in hlt), bif_t (idx_lt hlt), bif_t (idx_in hlt), Int.toNat_natCast]
            cases f77 (x.get i) 0 1023 with
            | false => exact .inr ⟨_, _, rfl, rfl, .inl ⟨rfl, rfl⟩⟩
            | true =>
              simp only [Bool.not_true, cond_false]
              have hcut : (decide ((0 : Int) ≤ (0 : Int)) && (decide ((0 : Int) ≤ (i : Int)) && decide ((i : Int) ≤ (x.len : Int)))) = true := by simp; omega
              rw [hcut, b1]
              simp only [cond_true, Option.bind_some]
              rcases b2 with ⟨rfl, b2⟩ | ⟨rfl, b2⟩
              · rw [b2]
                exact .inr ⟨_, _, rfl, rfl, .inl ⟨rfl, rfl⟩⟩
              · rw [b2]
                simp only [Option.bind_some, cond_false]
                rw [wI_succ hlt (by omega)]
                exact .inl ⟨_, _, rfl, rfl, ⟨i + 1, rfl, rfl, hlt⟩, by simp only [Int.toNat_natCast]; omega⟩
          · right
            have : i = x.len := by omega
            subst this
            exact ⟨_, _, bif_f (idx_end x.len), bif_f (idx_end x.len), .inr ⟨rfl, rfl⟩⟩)
        (((), ((0 : Int), ())), (t, ())) (((), (x, ((x.len : Int), ((0 : Int), ())))), (t, ())) ⟨0, rfl, rfl, Nat.zero_le _⟩
      rw [e1, e2]
      rcases e3 with ⟨rfl, rfl⟩ | ⟨rfl, rfl⟩
      · exact ⟨false, rfl, rfl⟩
      · exact ⟨true, rfl, rfl⟩

theorem outs (r : Ch) (o : Oe) (hr : f206 r = true) (hl : o.2.1.len ≤ 1048576) : f174 r o = f223 r o := by
  unfold f174 f223 f167
  rw [show f140 r = f206 r from rfl, hr, show f86 = f77 from rfl]
  simp only [Bool.not_true, cond_false]
  rcases chan_of hr with ⟨h1, h2⟩ | ⟨h1, h2, h3⟩
  · rw [bif_t (by simpa using h1), bif_t (c := (r.1 == 0)) (by simpa using h1), h2, if_neg (by omega)]
    by_cases h0 : o.1 = 0
    · rw [bif_t (by simpa using h0), bif_t ((f77_iff _ _ _).mpr (by omega))]
      by_cases hs : (o.2.1.len : Int) > 1
      · rw [bif_t (by simpa using hs)]; simp; omega
      · rw [bif_f (by simpa using hs)]; simp; omega
    · have : f77 o.1 0 0 = false := by
        cases hq : f77 o.1 0 0 with
        | false => rfl
        | true => have := (f77_iff _ _ _).mp hq; omega
      rw [bif_f (by simpa using h0), this]
      cases decide ((o.2.1.len : Int) > 1) <;> rfl
  · rw [bif_f (by simp [h1]), bif_f (c := (r.1 == 0)) (by simp [h1])]
    have hd : (if r.2.2.2.1 > 1 then r.2.2.2.1 else 1) = r.2.2.2.1 := by split <;> omega
    rw [hd]
    cases hq : f77 o.1 0 r.2.2.2.1 with
    | false => cases decide ((o.2.1.len : Int) > r.2.2.2.1) <;> rfl
    | true =>
      have hq := (f77_iff _ _ _).mp hq
      simp only [cond_true]
      rw [wI_id (by omega) (by omega), wI_id (by omega) (by omega)]
      by_cases hs : (o.2.1.len : Int) > r.2.2.2.1
      · rw [bif_t (by simpa using hs)]; simp; omega
      · rw [bif_f (by simpa using hs), decide_eq_decide]; omega

theorem inns (r : Ch) (o : Ie) (hr : f206 r = true) : f175 r o = f224 r o := by
  unfold f175 f224 f167
  rw [show f140 r = f206 r from rfl, hr]
  simp only [Bool.not_true, cond_false, cond_true]
  rcases chan_of hr with ⟨h1, h2⟩ | ⟨h1, h2, h3⟩
  · rw [bif_t (by simpa using h1), h2, if_neg (by omega)]
  · rw [bif_f (by simp [h1])]
    have hd : (if r.2.2.2.1 > 1 then r.2.2.2.1 else 1) = r.2.2.2.1 := by split <;> omega
    rw [hd]

theorem ends (t : Tb) (p : Int) (s : St) (hF : Facts t) (hS : BndS s 1048576) : ∃ b : Bool, g111 t p s = some ((b, ()), ()) ∧ g183 t p s = some ((b, ()), ()) := by
  obtain ⟨_, _, _, _, _, _, _, _, hd8, hc8, _, hc, _, _, _⟩ := hF
  obtain ⟨_, _, _, _, _, ⟨ho, ho'⟩, ⟨hi, hi'⟩, hv, hv'⟩ := hS
  have h213 : ∀ i : Nat, i < (tChans t).len → g213 t p (i : Int) = some ((((tChans t).get i).2.1 == p, ()), ()) := fun i h => by
    unfold g213
    have e : ((t.2.2.2.2.2.2.2.2.2.1.len : Int)) = (tChans t).len := rfl
    rw [show f86 = f77 from rfl, e, wI_id (by omega) (by omega), bif_t ((f77_iff _ _ _).mpr (by omega)), bif_t (idx_in h), Int.toNat_natCast]
    rfl
  have h212 : ∀ i : Nat, i < (tChans t).len → g212 t p (i : Int) = some ((((tChans t).get i).2.2.1 == p, ()), ()) := fun i h => by
    unfold g212
    have e : ((t.2.2.2.2.2.2.2.2.2.1.len : Int)) = (tChans t).len := rfl
    rw [show f86 = f77 from rfl, e, wI_id (by omega) (by omega), bif_t ((f77_iff _ _ _).mpr (by omega)), bif_t (idx_in h), Int.toNat_natCast]
    rfl
  have h214 : ∀ i : Nat, i < (tDevs t).len → g214 t p (i : Int) = some (((tDevs t).get i == p, ()), ()) := fun i h => by
    unfold g214
    have e : ((t.2.2.2.2.2.2.2.2.1.len : Int)) = (tDevs t).len := rfl
    rw [show f86 = f77 from rfl, e, wI_id (by omega) (by omega), bif_t ((f77_iff _ _ _).mpr (by omega)), bif_t (idx_in h), Int.toNat_natCast]
    rfl
  unfold g111 g183
  have eo : (s.2.2.2.2.2.2.2.2.1.len : Int) = (sOuts s).len := rfl
  have ei : (s.2.2.2.2.2.2.2.2.2.1.len : Int) = (sIns s).len := rfl
  have ev : (s.2.2.2.2.2.2.2.2.2.2.1.len : Int) = (sDevs s).len := rfl
  have ec : (t.2.2.2.2.2.2.2.2.2.1.len : Int) = (tChans t).len := rfl
  have ed : (t.2.2.2.2.2.2.2.2.1.len : Int) = (tDevs t).len := rfl
  rw [eo, ei, ev, ec, ed]
  cases n1 : (((sOuts s).len : Int) != ((tChans t).len : Int)) with
  | true => exact ⟨false, rfl, rfl⟩
  | false =>
    cases n2 : (((sIns s).len : Int) != ((tChans t).len : Int)) with
    | true => exact ⟨false, rfl, rfl⟩
    | false =>
      cases n3 : (((sDevs s).len : Int) != ((tDevs t).len : Int)) with
      | true => exact ⟨false, rfl, rfl⟩
      | false =>
        have n1 : (sOuts s).len = (tChans t).len := by
          have : ((sOuts s).len : Int) = ((tChans t).len : Int) := by simpa using n1
          omega
        have n2 : (sIns s).len = (tChans t).len := by
          have : ((sIns s).len : Int) = ((tChans t).len : Int) := by simpa using n2
          omega
        have n3 : (sDevs s).len = (tDevs t).len := by
          have : ((sDevs s).len : Int) = ((tDevs t).len : Int) := by simpa using n3
          omega
        simp only [cond_false]
        obtain ⟨d, e, e1, e2, e3⟩ := fixO_sim (s1 := s111_L0) (s2 := s183_L0)
          (fun a b => ∃ i : Nat, a = ((p, ((), ((), ((i : Int), ())))), (t, (s, ()))) ∧ b = ((p, ((), ((), (tChans t, (((tChans t).len : Int), ((i : Int), ())))))), (t, (s, ()))) ∧ i ≤ (tChans t).len)
          (fun d e => (d = .inl ((false, ()), ()) ∧ e = .inl ((false, ()), ())) ∨ (d = .inr (.inl ((p, ((), ((), ()))), (t, (s, ())))) ∧ e = .inr (.inl ((p, ((), ((), ()))), (t, (s, ())))))) (fun a => (tChans t).len - a.1.2.2.2.1.toNat) (by
            rintro _ _ ⟨i, rfl, rfl, hile⟩
            simp only [s111_L0, q111_L0, s183_L0, q183_L0]
            by_cases hlt : i < (tChans t).len
            · have x1 : decide ((i : Int) < ((tChans t).len : Int)) = true := idx_lt hlt
              have x1' : decide ((i : Int) < (t.2.2.2.2.2.2.2.2.2.1.len : Int)) = true := idx_lt hlt
              have x2 : (decide ((0 : Int) ≤ (i : Int)) && decide ((i : Int) < ((tChans t).len : Int))) = true := idx_in hlt
              have x2' : (decide ((0 : Int) ≤ (i : Int)) && decide ((i : Int) < (t.2.2.2.2.2.2.2.2.2.1.len : Int))) = true := idx_in hlt
              have x3 : (decide ((0 : Int) ≤ (i : Int)) && decide ((i : Int) < (s.2.2.2.2.2.2.2.2.1.len : Int))) = true := idx_in (n := (sOuts s).len) (by omega)
              have x4 : (decide ((0 : Int) ≤ (i : Int)) && decide ((i : Int) < (s.2.2.2.2.2.2.2.2.2.1.len : Int))) = true := idx_in (n := (sIns s).len) (by omega)
              have hr := (hc i hlt).1
              have ho1 := outs ((tChans t).get i) ((sOuts s).get i) hr (ho' i (by omega))
              have hi1 := inns ((tChans t).get i) ((sIns s).get i) hr
              have y1 : t.2.2.2.2.2.2.2.2.2.1.get i = (tChans t).get i := rfl
              have y2 : s.2.2.2.2.2.2.2.2.1.get i = (sOuts s).get i := rfl
              have y3 : s.2.2.2.2.2.2.2.2.2.1.get i = (sIns s).get i := rfl
              rw [x2, x2', x3, x4, x1, x1', h213 i hlt, h212 i hlt, Int.toNat_natCast, y1, y2, y3, ← ho1, ← hi1, wI_succ hlt (by omega)]
              simp only [cond_true, Option.bind_some]
              have hm : (tChans t).len - (((i + 1 : Nat) : Int)).toNat < (tChans t).len - i := by simp only [Int.toNat_natCast]; omega
              have zz : decide ((((sOuts s).get i).2.1.len : Int) > 0) = (((((sOuts s).get i).2.1.len : Int)) != 0) := by
                rw [Bool.eq_iff_iff]; simp; omega
              have zy : decide ((((sIns s).get i).1.len : Int) > 0) = (((((sIns s).get i).1.len : Int)) != 0) := by
                rw [Bool.eq_iff_iff]; simp; omega
              rw [zz, zy]
              generalize (((tChans t).get i).2.1 == p) = q1
              generalize (((tChans t).get i).2.2.1 == p) = q2
              generalize f174 ((tChans t).get i) ((sOuts s).get i) = q3
              generalize f175 ((tChans t).get i) ((sIns s).get i) = q4
              generalize (((sOuts s).get i).1 != 0) = q5
              generalize (((((sOuts s).get i).2.1.len : Int)) != 0) = q6
              generalize (((((sIns s).get i).1.len : Int)) != 0) = q7
              cases q1 <;> cases q2 <;> cases q3 <;> cases q4 <;> cases q5 <;> cases q6 <;> cases q7 <;>
                first
                | exact .inr ⟨_, _, rfl, rfl, .inl ⟨rfl, rfl⟩⟩
                | exact .inl ⟨_, _, rfl, rfl, ⟨i + 1, rfl, rfl, hlt⟩, hm⟩
            · right
              have : i = (tChans t).len := by omega
              subst this
              exact ⟨_, _, bif_f (idx_end (tChans t).len), bif_f (idx_end (tChans t).len), .inr ⟨rfl, rfl⟩⟩)
          ((p, ((), ((), ((0 : Int), ())))), (t, (s, ()))) ((p, ((), ((), (tChans t, (((tChans t).len : Int), ((0 : Int), ())))))), (t, (s, ()))) ⟨0, rfl, rfl, Nat.zero_le _⟩
        have e2' : fixO s183_L0 ((p, ((), ((), (t.2.2.2.2.2.2.2.2.2.1, (((tChans t).len : Int), ((0 : Int), ())))))), (t, (s, ()))) = some e := e2
        rw [e1, e2']
        rcases e3 with ⟨rfl, rfl⟩ | ⟨rfl, rfl⟩
        · exact ⟨false, rfl, rfl⟩
        · simp only [Option.bind_some]
          obtain ⟨d, e, e1, e2, e3⟩ := fixO_sim (s1 := s111_L2) (s2 := s183_L2)
            (fun a b => ∃ i : Nat, a = ((p, ((), ((), ((i : Int), ())))), (t, (s, ()))) ∧ b = ((p, ((), (sDevs s, (((sDevs s).len : Int), ((i : Int), ()))))), (t, ())) ∧ i ≤ (tDevs t).len)
            (fun d e => (d = .inl ((false, ()), ()) ∧ e = .inl ((false, ()), ())) ∨ (d = .inr (.inl ((), ())) ∧ e = .inr (.inl ((), ())))) (fun a => (tDevs t).len - a.1.2.2.2.1.toNat) (by
              rintro _ _ ⟨i, rfl, rfl, hile⟩
              simp only [s111_L2, q111_L2, s183_L2, q183_L2]
              by_cases hlt : i < (tDevs t).len
              · have hls : i < (sDevs s).len := by omega
                have x1 : decide ((i : Int) < ((sDevs s).len : Int)) = true := idx_lt hls
                have x1' : decide ((i : Int) < (t.2.2.2.2.2.2.2.2.1.len : Int)) = true := idx_lt hlt
                have x2 : (decide ((0 : Int) ≤ (i : Int)) && decide ((i : Int) < ((sDevs s).len : Int))) = true := idx_in hls
                have x2' : (decide ((0 : Int) ≤ (i : Int)) && decide ((i : Int) < (t.2.2.2.2.2.2.2.2.1.len : Int))) = true := idx_in hlt
                have x3 : (decide ((0 : Int) ≤ (i : Int)) && decide ((i : Int) < (s.2.2.2.2.2.2.2.2.2.2.1.len : Int))) = true := idx_in hls
                have y1 : t.2.2.2.2.2.2.2.2.1.get i = (tDevs t).get i := rfl
                have y2 : s.2.2.2.2.2.2.2.2.2.2.1.get i = (sDevs s).get i := rfl
                have hb := hv' i hls
                rw [x2, x2', x3, x1, x1', h214 i hlt, Int.toNat_natCast, y1, y2, show f225 ((sDevs s).get i) = f176 ((sDevs s).get i) from rfl, wI_succ hlt (by omega)]
                simp only [cond_true, Option.bind_some]
                have hm : (tDevs t).len - (((i + 1 : Nat) : Int)).toNat < (tDevs t).len - i := by simp only [Int.toNat_natCast]; omega
                have zz : decide (wI ((((sDevs s).get i).1.len : Int) + (((sDevs s).get i).2.1.len : Int)) > 0) = (((((sDevs s).get i).1.len : Int) != 0) || ((((sDevs s).get i).2.1.len : Int) != 0)) := by
                  rw [wI_id (by omega) (by omega), Bool.eq_iff_iff]; simp; omega
                rw [zz]
                generalize ((tDevs t).get i == p) = q1
                generalize f176 ((sDevs s).get i) = q2
                generalize ((((sDevs s).get i).1.len : Int) != 0) = q3
                generalize ((((sDevs s).get i).2.1.len : Int) != 0) = q4
                cases q1 <;> cases q2 <;> cases q3 <;> cases q4 <;>
                  first
                  | exact .inr ⟨_, _, rfl, rfl, .inl ⟨rfl, rfl⟩⟩
                  | exact .inl ⟨_, _, rfl, rfl, ⟨i + 1, rfl, rfl, hlt⟩, hm⟩
              · right
                have : i = (tDevs t).len := by omega
                subst this
                exact ⟨_, _, bif_f (idx_end (tDevs t).len), bif_f (by simp; omega), .inr ⟨rfl, rfl⟩⟩)
            ((p, ((), ((), ((0 : Int), ())))), (t, (s, ()))) ((p, ((), (sDevs s, (((sDevs s).len : Int), ((0 : Int), ()))))), (t, ())) ⟨0, rfl, rfl, Nat.zero_le _⟩
          have e2' : fixO s183_L2 ((p, ((), (s.2.2.2.2.2.2.2.2.2.2.1, ((s.2.2.2.2.2.2.2.2.2.2.1.len : Int), ((0 : Int), ()))))), (t, ())) = some e := e2
          rw [e1, e2']
          rcases e3 with ⟨rfl, rfl⟩ | ⟨rfl, rfl⟩
          · exact ⟨false, rfl, rfl⟩
          · exact ⟨true, rfl, rfl⟩

theorem main (t : Tb) (p : Int) (s : St) (h : Bnd t) (hS : BndS s 1048576) : ∃ b : Bool, g48 t p s = some ((b, ()), ()) ∧ g50 t p s = some ((b, ()), ()) := by
  obtain ⟨b, h1, h2, h3⟩ := sound_wf t (wf_of_bnd h)
  obtain ⟨k, k1, k2⟩ := fits t p (sBoot s) h hS.2.2.2.2.1.1
  have k1' : g80 t p s.2.2.2.2.2.2.2.1 = some ((k, ()), ()) := k1
  have k2' : g82 t p s.2.2.2.2.2.2.2.1 = some ((k, ()), ()) := k2
  unfold g48 g50 g119 g27
  rw [h1, h2, k1', k2', show f86 = f77 from rfl]
  simp only [Option.bind_some]
  cases b with
  | false => exact ⟨false, rfl, rfl⟩
  | true =>
    have hF := h3 rfl
    simp only [Bool.not_true, cond_false, cond_true, Option.bind_some]
    cases k with
    | false => exact ⟨false, rfl, rfl⟩
    | true =>
      have hin : 0 ≤ p ∧ p < (tParts t).len := by
        unfold g80 at k1
        cases hp : f77 p 0 (wI ((t.2.2.2.2.2.2.2.1.len : Int) - 1)) with
        | false => rw [hp] at k1; cases k1
        | true =>
          have hp := (f77_iff _ _ _).mp hp
          have hl : ((t.2.2.2.2.2.2.2.1.len : Int)) = (tParts t).len := rfl
          have hb1 : (tParts t).len ≤ 1048576 := h.1
          rw [hl, wI_id (by omega) (by omega)] at hp
          omega
      have hix : (decide (0 ≤ p) && decide (p < (t.2.2.2.2.2.2.2.1.len : Int))) = true := by
        have hl : ((t.2.2.2.2.2.2.2.1.len : Int)) = (tParts t).len := rfl
        rw [hl]; simp; omega
      have hP : Parts (tParts t) t.1 := hF.2.2.2.2.2.2.2.1
      have hG := (hP.1 p.toNat (by omega)).1
      have hpw : (toL ((tParts t).get p.toNat).2.2.2.1).Pairwise apart := by
        obtain ⟨r, hr⟩ := winsOf_prefix (tParts t) (i := p.toNat + 1) (n := (tParts t).len) (by omega) (Nat.le_refl _)
        have := hP.2
        rw [hr, List.pairwise_append] at this
        have h2 := this.1
        rw [winsOf_succ (tParts t) (by omega), List.pairwise_append] at h2
        exact h2.2.1
      obtain ⟨g, g1, g2⟩ := guests ((tParts t).get p.toNat).2.2.2.1 s.1 hG.2.2.1.2 (fun j hj => (hG.2.2.2.1 j hj).1) hpw
      have g1' : g108 (t.2.2.2.2.2.2.2.1.get p.toNat).2.2.2.1 s.1 = some ((g, ()), ()) := g1
      have g2' : g180 (t.2.2.2.2.2.2.2.1.get p.toNat).2.2.2.1 s.1 = some ((g, ()), ()) := g2
      obtain ⟨c, c1, c2, _⟩ := caches s.2.2.2.1 ⟨hS.2.2.1.1, hS.2.2.1.2⟩
      obtain ⟨l, l1, l2⟩ := tlbs s.2.2.2.2.1 hS.2.2.2.1
      obtain ⟨e, e1, e2⟩ := ends t p s hF hS
      rw [hix, g1', g2', c1, c2, l1, l2, e1, e2, show f181 s.2.2.1 = f109 s.2.2.1 from rfl]
      simp only [Bool.not_true, cond_false, cond_true, Option.bind_some]
      generalize f109 s.2.2.1 = q1
      generalize ((s.2.2.2.1.1.1 == t.2.1.1) && ((s.2.2.2.1.1.2.1 == t.2.1.2.1) && ((s.2.2.2.1.1.2.2.1 == t.2.1.2.2.1) && true))) = q2
      generalize (s.2.2.2.2.1.1 != t.2.2.1) = q3
      generalize f77 s.2.2.2.2.2.1 0 100000 = q4
      cases g <;> cases q1 <;> cases c <;> cases q2 <;> cases l <;> cases q3 <;> cases q4 <;> exact ⟨_, rfl, rfl⟩

theorem law (t : Tb) (p : Int) (s : St) (hw : Wf t) (hS : BndS s (2 ^ 47)) : g12 t p s = some ((true, ()), ()) := by
  unfold g12
  obtain ⟨n, e1, e2⟩ := sz12b t hw
  rw [e1]
  simp only [Option.bind_some]
  rcases e2 with rfl | ⟨n1, n2, hb⟩
  · rw [bif_t (by decide)]
  · rw [bif_f (by simpa using n1)]
    obtain ⟨m, m1, m2⟩ := sz47 s n hS n1 n2
    rw [m1]
    simp only [Option.bind_some]
    rcases m2 with rfl | ⟨m2, m3⟩
    · rw [bif_t (by decide)]
    · rw [bif_f (by simpa using m2)]
      obtain ⟨r, r1, r2⟩ := to14 t hb
      obtain ⟨q, s1, s2⟩ := to49 s m3
      obtain ⟨b, b1, b2⟩ := main r p q r2 s2
      rw [r1]
      simp only [Option.bind_some]
      rw [s1]
      simp only [Option.bind_some]
      rw [b1]
      simp only [Option.bind_some]
      rw [b2]
      simp only [Option.bind_some]
      rw [bif_f (by simp), eq16 r r2]
      simp only [Option.bind_some]
      rw [eq51' q s2]
      rfl

theorem plain : ∀ x, wfIns tysOf x → ∃ z, c12.F x = some ((true, ()), z) := by
  rintro ⟨t, p, s, ⟨⟩⟩ ⟨hw, _, hs, _⟩
  obtain ⟨_, _, _, _, _, _, _, hp, hd, hc, hsl, _⟩ := hw
  obtain ⟨⟨r1, _, r2, _⟩, _, _, ⟨_, c1, _⟩, ⟨_, p1, _⟩, _, _, b1, o1, i1, d1, _⟩ := hs
  exact ⟨(), law t p s ⟨hp.1, hd.1, hc.1, hsl.1, fun i hi => ⟨(hp.2 i hi).1, (hp.2 i hi).2.2.2.1.1⟩⟩
    ⟨r1.1, ⟨r2.1, fun i hi => (r2.2 i hi).1⟩, ⟨c1.1, fun i hi => (c1.2 i hi).1⟩, p1.1, ⟨b1.1, fun i hi => (b1.2 i hi).1⟩, ⟨o1.1, fun i hi => (o1.2 i hi).2.1.1⟩, ⟨i1.1, fun i hi => (i1.2 i hi).1.1⟩, ⟨d1.1, fun i hi => ⟨(d1.2 i hi).1.1, (d1.2 i hi).2.1.1⟩⟩⟩⟩


end Go.VE.VFnExactPartOk
