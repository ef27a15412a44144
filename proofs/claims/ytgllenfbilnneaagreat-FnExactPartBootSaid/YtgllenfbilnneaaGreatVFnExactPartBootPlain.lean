import Derived.Test.YtgllenfbilnneaaGreatVFnExactPartBoot
import Derived.Test.YtgllenfbilnneaaGreatVkV
/- laws.FnExactPartBoot returns true: in plain words, no program in sight. -/
set_option linter.unusedVariables false
set_option linter.unusedSimpArgs false
namespace Go.VE.VFnExactPartBoot
open Go.VE
abbrev tysOf : List Ty := [(.pair (.int .i64) (.pair (.pair (.int .i64) (.pair (.int .i64) (.pair (.int .i64) .unit))) (.pair (.int .i64) (.pair (.pair (.int .i64) (.pair (.int .i64) (.pair (.int .i64) (.pair (.int .i64) (.pair (.int .i64) (.pair (.int .i64) (.pair (.int .i64) .unit))))))) (.pair (.int .i64) (.pair (.int .i64) (.pair (.int .i64) (.pair (.sl (.pair .str (.pair (.int .i64) (.pair (.pair (.int .i64) (.pair (.int .i64) .unit)) (.pair (.sl (.pair (.int .i64) (.pair (.int .i64) (.pair (.int .i64) .unit)))) .unit))))) (.pair (.sl (.int .i64)) (.pair (.sl (.pair (.int .i64) (.pair (.int .i64) (.pair (.int .i64) (.pair (.int .i64) .unit))))) (.pair (.sl (.pair (.int .i64) (.pair (.int .i64) (.pair (.int .i64) .unit)))) .unit))))))))))), (.int .i64), (.sl (.sl (.int .u8)))]
abbrev Co : Type := Int × (Int × (Int × (Int × (Int × (Int × (Int × Unit))))))

theorem f136_97 : f136 = f97 := rfl
theorem f137_294 (c : Co) : f137 c = f294 c := by
  unfold f137 f294
  rw [f136_97]
  generalize f97 c.1 1 20 = b1
  generalize f97 c.2.1 0 50 = b2
  generalize f97 c.2.2.1 0 50 = b3
  generalize f97 c.2.2.2.1 0 50 = b4
  generalize f97 c.2.2.2.2.1 0 50 = b5
  generalize f97 c.2.2.2.2.2.1 0 50 = b6
  generalize f97 c.2.2.2.2.2.2.1 0 50 = b7
  cases b1 <;> cases b2 <;> cases b3 <;> cases b4 <;> cases b5 <;> cases b6 <;> cases b7 <;> rfl

theorem f97_iff (a b c : Int) : f97 a b c = true ↔ b ≤ a ∧ a ≤ c := by
  unfold f97
  by_cases h : a ≥ b
  · rw [bif_t (by simpa using h)]; simp; omega
  · rw [bif_f (by simpa using h)]; simp; omega

/-- What is known of costs that are right. -/
theorem costs_of {c : Co} (h : f294 c = true) : (1 ≤ c.1 ∧ c.1 ≤ 20) ∧ (0 ≤ c.2.1 ∧ c.2.1 ≤ 50) ∧ (0 ≤ c.2.2.1 ∧ c.2.2.1 ≤ 50) ∧ (0 ≤ c.2.2.2.1 ∧ c.2.2.2.1 ≤ 50) ∧ (0 ≤ c.2.2.2.2.1 ∧ c.2.2.2.2.1 ≤ 50) ∧ (0 ≤ c.2.2.2.2.2.1 ∧ c.2.2.2.2.2.1 ≤ 50) ∧ (0 ≤ c.2.2.2.2.2.2.1 ∧ c.2.2.2.2.2.2.1 ≤ 50) := by
  unfold f294 at h
  have step : ∀ {b x : Bool}, (bif b then x else false) = true → b = true ∧ x = true := fun {b x} h => by cases b <;> simp_all
  obtain ⟨h1, h⟩ := step h
  obtain ⟨h2, h⟩ := step h
  obtain ⟨h3, h⟩ := step h
  obtain ⟨h4, h⟩ := step h
  obtain ⟨h5, h⟩ := step h
  obtain ⟨h6, h7⟩ := step h
  exact ⟨(f97_iff _ _ _).mp h1, (f97_iff _ _ _).mp h2, (f97_iff _ _ _).mp h3, (f97_iff _ _ _).mp h4, (f97_iff _ _ _).mp h5, (f97_iff _ _ _).mp h6, (f97_iff _ _ _).mp h7⟩

theorem forms_pos : ∀ k, k < 33 → 0 ≤ L.get f350r k := by decide +kernel

theorem opc {c : Co} (hc : f294 c = true) {i : Nat} (hi : i < 33) : g275 c i = some ((f299 c i, ()), ()) := by
  have hf : g324 (i : Int) = some ((L.get f350r i, ()), ()) := by
    unfold g324
    have h1 : f97 (i : Int) 0 32 = true := (f97_iff _ _ _).mpr (by omega)
    rw [h1, bif_f (show (!true) = false from rfl), bif_t, Int.toNat_natCast]
    have : f350r.len = 33 := rfl
    rw [this]; simp; omega
  unfold g275 f299
  rw [hc, bif_f (show (!true) = false from rfl), hf]
  simp only [Option.bind_some]
  rw [bif_f (by simpa using forms_pos i hi), f136_97]
  cases ((i : Int) == 9) <;> cases ((i : Int) == 10) <;> cases f97 (i : Int) 15 18 <;> cases decide ((i : Int) ≥ 25) <;> rfl

theorem f327_300 {c : Co} (hc : f294 c = true) (a : Bool × (Bool × (Bool × Unit))) : f327 c a = f300 c a := by
  unfold f327 f300
  rw [hc]
  rfl

def wAcc (c : Co) (i : Nat) : Int := if i = 0 then -1 else if i ≤ 4 then c.2.2.2.1 + c.2.2.2.2.1 else c.2.2.2.1 + c.2.2.2.2.1 + c.2.2.2.2.2.2.1

theorem acc_of {c : Co} (hc : f294 c = true) (a b d : Bool) : f327 c (a, (b, (d, ()))) = (if a then 0 else c.2.2.2.1) + (if b then 0 else c.2.2.2.2.1) + (if d then c.2.2.2.2.2.2.1 else 0) := by
  obtain ⟨_, _, _, h4, h5, _, h7⟩ := costs_of hc
  rw [f327_300 hc]
  unfold f300
  have e0 : ∀ n : Int, 0 ≤ n → n ≤ 1000 → wI n = n := fun n h1 h2 => wI_id (by omega) (by omega)
  cases a <;> cases b <;> cases d <;> simp only [Bool.not_true, Bool.not_false, cond_true, cond_false, if_true, if_false, Bool.false_eq_true, Int.zero_add, Int.add_zero]
  · rw [e0 c.2.2.2.1 (by omega) (by omega), e0 _ (by omega) (by omega)]
  · rw [e0 c.2.2.2.1 (by omega) (by omega), e0 (c.2.2.2.1 + c.2.2.2.2.1) (by omega) (by omega), e0 _ (by omega) (by omega)]
  · rw [e0 _ (by omega) (by omega)]
  · rw [e0 c.2.2.2.1 (by omega) (by omega), e0 _ (by omega) (by omega)]
  · rw [e0 _ (by omega) (by omega)]
  · rw [e0 c.2.2.2.2.1 (by omega) (by omega), e0 _ (by omega) (by omega)]
  · rw [e0 _ (by omega) (by omega)]

theorem wacc {c : Co} (hc : f294 c = true) : g314 c = some ((c.2.2.2.1 + c.2.2.2.2.1 + c.2.2.2.2.2.2.1, ()), ()) := by
  obtain ⟨_, _, _, h4, h5, _, h7⟩ := costs_of hc
  obtain ⟨d, h1, rfl⟩ := fixO_rel (step := s314_L0) (fun a => 8 - a.1.2.2.1.toNat)
    (fun a => ∃ i : Nat, a = (((), (wAcc c i, ((i : Int), ()))), (c, ())) ∧ i ≤ 8)
    (fun _ d => d = .inl ((wAcc c 8, ()), ())) (by
      rintro _ ⟨i, rfl, hi⟩
      by_cases h : i < 8
      · left
        have fin : s314_L0 (((), (wAcc c i, ((i : Int), ()))), (c, ())) = some (.inl (((), (wAcc c (i + 1), (((i + 1 : Nat) : Int), ()))), (c, ()))) := by
          simp only [s314_L0, q314_L0]
          rw [bif_t (by simp; omega), wI_succ (n := 8) h (by omega)]
          have : i = 0 ∨ i = 1 ∨ i = 2 ∨ i = 3 ∨ i = 4 ∨ i = 5 ∨ i = 6 ∨ i = 7 := by omega
          have key : ∀ (a b d : Bool) (m : Int), (((Int.tmod (i : Int) 2) == 1), (((Int.tmod (wI (Int.tdiv (i : Int) 2)) 2) == 1), (((wI (Int.tdiv (i : Int) 4)) == 1), ()))) = (a, (b, (d, ()))) →
              (if (if a then 0 else c.2.2.2.1) + (if b then 0 else c.2.2.2.2.1) + (if d then c.2.2.2.2.2.2.1 else 0) > wAcc c i then (if a then 0 else c.2.2.2.1) + (if b then 0 else c.2.2.2.2.1) + (if d then c.2.2.2.2.2.2.1 else 0) else wAcc c i) = m → m = wAcc c (i + 1) →
              (bif (decide ((f327 c (((Int.tmod (i : Int) 2) == 1), (((Int.tmod (wI (Int.tdiv (i : Int) 2)) 2) == 1), (((wI (Int.tdiv (i : Int) 4)) == 1), ())))) > wAcc c i)) then
                some (.inl (((), ((f327 c (((Int.tmod (i : Int) 2) == 1), (((Int.tmod (wI (Int.tdiv (i : Int) 2)) 2) == 1), (((wI (Int.tdiv (i : Int) 4)) == 1), ())))), (((i + 1 : Nat) : Int), ()))), (c, ())))
              else some (.inl (((), (wAcc c i, (((i + 1 : Nat) : Int), ()))), (c, ())))) = (some (.inl (((), (wAcc c (i + 1), (((i + 1 : Nat) : Int), ()))), (c, ()))) : Option (((Unit × (Int × (Int × Unit))) × (Co × Unit)) ⊕ (((Int × Unit) × Unit) ⊕ Empty))) := by
            intro a b d m hb hm hw
            rw [hb, acc_of hc, ← hw, ← hm]
            generalize (if a then 0 else c.2.2.2.1) + (if b then 0 else c.2.2.2.2.1) + (if d then c.2.2.2.2.2.2.1 else 0) = v
            by_cases hgt : v > wAcc c i
            · rw [bif_t (by simpa using hgt), if_pos hgt]
            · rw [bif_f (by simpa using hgt), if_neg hgt]
          rcases this with rfl | rfl | rfl | rfl | rfl | rfl | rfl | rfl
          · exact key false false false _ (by decide +kernel) rfl (by simp [wAcc]; omega)
          · exact key true false false _ (by decide +kernel) rfl (by simp [wAcc]; omega)
          · exact key false true false _ (by decide +kernel) rfl (by simp [wAcc]; omega)
          · exact key true true false _ (by decide +kernel) rfl (by simp [wAcc]; omega)
          · exact key false false true _ (by decide +kernel) rfl (by simp [wAcc]; omega)
          · exact key true false true _ (by decide +kernel) rfl (by simp [wAcc]; omega)
          · exact key false true true _ (by decide +kernel) rfl (by simp [wAcc]; omega)
          · exact key true true true _ (by decide +kernel) rfl (by simp [wAcc]; omega)
        exact ⟨_, fin, ⟨i + 1, rfl, h⟩, by simp only [Int.toNat_natCast]; omega, fun d hd => hd⟩
      · right
        have : i = 8 := by omega
        subst this
        exact ⟨_, rfl, rfl⟩) (((), ((-1 : Int), ((0 : Int), ()))), (c, ())) ⟨0, rfl, by omega⟩
  unfold g314
  rw [h1]
  rfl

theorem worst {c : Co} (hc : f294 c = true) : ∃ n, g265 c = some ((n, ()), ()) ∧ g227 c = some ((n, ()), ()) := by
  obtain ⟨d, e, h1, h2, m, rfl, rfl⟩ := fixO_sim (s1 := s265_L0) (s2 := s227_L0)
    (fun a b => ∃ (i : Nat) (m : Int), a = (((), (m, ((i : Int), ()))), (c, ())) ∧ b = (((), (m, ((i : Int), ()))), (c, ())) ∧ i ≤ 33)
    (fun d e => ∃ m, d = .inl (((), (m, ())), (c, ())) ∧ e = .inl (((), (m, ())), (c, ()))) (fun a => 33 - a.1.2.2.1.toNat) (by
      rintro _ _ ⟨i, m, rfl, rfl, hi⟩
      by_cases h : i < 33
      · left
        have hb : decide ((i : Int) < 33) = true := by simp; omega
        have ho : g275 (c.1, (c.2.1, (c.2.2.1, (c.2.2.2.1, (c.2.2.2.2.1, (c.2.2.2.2.2.1, (c.2.2.2.2.2.2.1, ()))))))) (i : Int) = some ((f299 c i, ()), ()) := opc hc h
        simp only [s265_L0, q265_L0, s227_L0, q227_L0, hb, cond_true, wI_succ h (by omega : 33 ≤ 2 ^ 47), ho, Option.bind_some]
        by_cases hg : f299 c i > m
        · rw [bif_t (by simpa using hg)]
          refine ⟨_, _, rfl, rfl, ⟨i + 1, f299 c i, rfl, ?_, h⟩, by simp only [Int.toNat_natCast]; omega⟩
          have : (if f299 (c.1, (c.2.1, (c.2.2.1, (c.2.2.2.1, (c.2.2.2.2.1, (c.2.2.2.2.2.1, (c.2.2.2.2.2.2.1, ()))))))) (i : Int) > m then f299 (c.1, (c.2.1, (c.2.2.1, (c.2.2.2.1, (c.2.2.2.2.1, (c.2.2.2.2.2.1, (c.2.2.2.2.2.2.1, ()))))))) (i : Int) else m) = f299 c i := if_pos hg
          rw [this]
        · rw [bif_f (by simpa using hg)]
          refine ⟨_, _, rfl, rfl, ⟨i + 1, m, rfl, ?_, h⟩, by simp only [Int.toNat_natCast]; omega⟩
          have : (if f299 (c.1, (c.2.1, (c.2.2.1, (c.2.2.2.1, (c.2.2.2.2.1, (c.2.2.2.2.2.1, (c.2.2.2.2.2.2.1, ()))))))) (i : Int) > m then f299 (c.1, (c.2.1, (c.2.2.1, (c.2.2.2.1, (c.2.2.2.2.1, (c.2.2.2.2.2.1, (c.2.2.2.2.2.2.1, ()))))))) (i : Int) else m) = m := if_neg hg
          rw [this]
      · right
        have : i = 33 := by omega
        subst this
        exact ⟨_, _, rfl, rfl, m, rfl, rfl⟩) (((), ((0 : Int), ((0 : Int), ()))), (c, ())) (((), ((0 : Int), ((0 : Int), ()))), (c, ())) ⟨0, 0, rfl, rfl, by omega⟩
  unfold g265 g227
  rw [f137_294, hc, bif_f (show (!true) = false from rfl), bif_f (show (!true) = false from rfl), h1, h2]
  simp only [Option.bind_some]
  rw [wacc hc]
  simp only [Option.bind_some]
  refine ⟨_, rfl, ?_⟩
  have : f300 c (false, (false, (true, ()))) = c.2.2.2.1 + c.2.2.2.2.1 + c.2.2.2.2.2.2.1 := by
    rw [← f327_300 hc, acc_of hc]; simp
  rw [this]

abbrev Ch : Type := Int × (Int × (Int × (Int × Unit)))

theorem pow16 (n : Int) (h : f97 n 1 16 = true) : f226 n = ((n == 1) || ((n == 2) || ((n == 4) || ((n == 8) || (n == 16))))) := by
  obtain ⟨h1, h2⟩ := (f97_iff _ _ _).mp h
  have : n = 1 ∨ n = 2 ∨ n = 3 ∨ n = 4 ∨ n = 5 ∨ n = 6 ∨ n = 7 ∨ n = 8 ∨ n = 9 ∨ n = 10 ∨ n = 11 ∨ n = 12 ∨ n = 13 ∨ n = 14 ∨ n = 15 ∨ n = 16 := by omega
  rcases this with rfl | rfl | rfl | rfl | rfl | rfl | rfl | rfl | rfl | rfl | rfl | rfl | rfl | rfl | rfl | rfl <;> decide +kernel

theorem pow32 (n : Int) (h : f97 n 4 32 = true) : f226 n = ((n == 4) || ((n == 8) || ((n == 16) || (n == 32)))) := by
  obtain ⟨h1, h2⟩ := (f97_iff _ _ _).mp h
  have : n = 4 ∨ n = 5 ∨ n = 6 ∨ n = 7 ∨ n = 8 ∨ n = 9 ∨ n = 10 ∨ n = 11 ∨ n = 12 ∨ n = 13 ∨ n = 14 ∨ n = 15 ∨ n = 16 ∨ n = 17 ∨ n = 18 ∨ n = 19 ∨ n = 20 ∨ n = 21 ∨ n = 22 ∨ n = 23 ∨ n = 24 ∨ n = 25 ∨ n = 26 ∨ n = 27 ∨ n = 28 ∨ n = 29 ∨ n = 30 ∨ n = 31 ∨ n = 32 := by omega
  rcases this with rfl | rfl | rfl | rfl | rfl | rfl | rfl | rfl | rfl | rfl | rfl | rfl | rfl | rfl | rfl | rfl | rfl | rfl | rfl | rfl | rfl | rfl | rfl | rfl | rfl | rfl | rfl | rfl | rfl <;> decide +kernel

theorem f119_eq (s : Int × (Int × (Int × Unit))) : f119 s = (((s.1 == 1) || ((s.1 == 2) || ((s.1 == 4) || ((s.1 == 8) || (s.1 == 16))))) && (f97 s.2.1 1 4 && ((s.2.2.1 == 4) || ((s.2.2.1 == 8) || ((s.2.2.1 == 16) || (s.2.2.1 == 32)))))) := by
  unfold f119
  generalize f97 s.2.1 1 4 = w
  generalize (s.1 == 1) = a1
  generalize (s.1 == 2) = a2
  generalize (s.1 == 4) = a3
  generalize (s.1 == 8) = a4
  generalize (s.1 == 16) = a5
  generalize (s.2.2.1 == 4) = l1
  generalize (s.2.2.1 == 8) = l2
  generalize (s.2.2.1 == 16) = l3
  generalize (s.2.2.1 == 32) = l4
  cases a1 <;> cases a2 <;> cases a3 <;> cases a4 <;> cases a5 <;> cases l1 <;> cases l2 <;> cases l3 <;> cases l4 <;> cases w <;> rfl

theorem f135_119 (s : Int × (Int × (Int × Unit))) : f135 s = f119 s := by
  rw [f119_eq]
  unfold f135
  rw [f136_97]
  have hs : (bif f97 s.1 1 16 then f226 s.1 else false) = ((s.1 == 1) || ((s.1 == 2) || ((s.1 == 4) || ((s.1 == 8) || (s.1 == 16))))) := by
    cases h : f97 s.1 1 16 with
    | true => exact pow16 _ h
    | false =>
      have h' : ¬ (1 ≤ s.1 ∧ s.1 ≤ 16) := fun q => by rw [(f97_iff _ _ _).mpr q] at h; cases h
      have e : ∀ k : Int, 1 ≤ k → k ≤ 16 → (s.1 == k) = false := fun k h1 h2 => by simp; omega
      rw [e 1 (by omega) (by omega), e 2 (by omega) (by omega), e 4 (by omega) (by omega), e 8 (by omega) (by omega), e 16 (by omega) (by omega)]
      rfl
  have hl : (bif f97 s.2.2.1 4 32 then f226 s.2.2.1 else false) = ((s.2.2.1 == 4) || ((s.2.2.1 == 8) || ((s.2.2.1 == 16) || (s.2.2.1 == 32)))) := by
    cases h : f97 s.2.2.1 4 32 with
    | true => exact pow32 _ h
    | false =>
      have h' : ¬ (4 ≤ s.2.2.1 ∧ s.2.2.1 ≤ 32) := fun q => by rw [(f97_iff _ _ _).mpr q] at h; cases h
      have e : ∀ k : Int, 4 ≤ k → k ≤ 32 → (s.2.2.1 == k) = false := fun k h1 h2 => by simp; omega
      rw [e 4 (by omega) (by omega), e 8 (by omega) (by omega), e 16 (by omega) (by omega), e 32 (by omega) (by omega)]
      rfl
  rw [← hs, ← hl]
  generalize f97 s.1 1 16 = p1
  generalize f226 s.1 = p2
  generalize f97 s.2.1 1 4 = p3
  generalize f97 s.2.2.1 4 32 = p4
  generalize f226 s.2.2.1 = p5
  cases p1 <;> cases p2 <;> cases p3 <;> cases p4 <;> cases p5 <;> rfl

/-- What is known of a row that is right. -/
theorem chan_of {c : Ch} (h : f297 c = true) : (c.1 = 0 ∧ c.2.2.2.1 = 0) ∨ (c.1 = 1 ∧ 1 ≤ c.2.2.2.1 ∧ c.2.2.2.1 ≤ 8) := by
  unfold f297 at h
  have step : ∀ {b : Bool} {x : Bool}, (bif b then false else x) = true → x = true := fun {b x} h => by cases b <;> simp_all
  have h := step (step (step h))
  by_cases h0 : c.1 = 0
  · rw [bif_t (by simpa using h0)] at h
    by_cases hd : c.2.2.2.1 = 0
    · exact .inl ⟨h0, hd⟩
    · rw [bif_f (by simpa using hd), bif_f (by simp [h0])] at h
      cases h
  · rw [bif_f (by simpa using h0)] at h
    by_cases h1 : c.1 = 1
    · rw [bif_t (by simpa using h1)] at h
      exact .inr ⟨h1, (f97_iff _ _ _).mp h⟩
    · rw [bif_f (by simpa using h1)] at h
      cases h

theorem good (x : L Ch) (hx : x.len ≤ 8) (c : Co) (hc : 1 ≤ c.1 ∧ c.1 ≤ 20) (n : Int) (hok : ∀ j, j < x.len → f297 (x.get j) = true) :
    ∃ m, fixO s266_L0 ((x, ((), (n, ((0 : Int), ())))), (c, ())) = some (.inr (.inl ((m, ()), ()))) ∧ fixO s146_L0 (((), (n, (x, ((x.len : Int), ((0 : Int), ()))))), (c, ())) = some (.inl ((m, ()), ())) := by
  obtain ⟨d, e, h1, h2, m, rfl, rfl⟩ := fixO_sim (s1 := s266_L0) (s2 := s146_L0)
    (fun a b => ∃ (i : Nat) (n : Int), a = ((x, ((), (n, ((i : Int), ())))), (c, ())) ∧ b = (((), (n, (x, ((x.len : Int), ((i : Int), ()))))), (c, ())) ∧ i ≤ x.len)
    (fun d e => ∃ m, d = .inr (.inl ((m, ()), ())) ∧ e = .inl ((m, ()), ())) (fun a => x.len - a.1.2.2.2.1.toNat) (by
      rintro _ _ ⟨i, n, rfl, rfl, hi⟩
      by_cases h : i < x.len
      · left
        have hb0 : decide ((0 : Int) ≤ (i : Int)) = true := by simp
        have hb2 : decide ((i : Int) < (x.len : Int)) = true := by simpa using h
        have hf := hok i h
        simp only [s266_L0, q266_L0, s146_L0, q146_L0, hb0, hb2, Bool.and_self, cond_true, wI_succ h (by omega : x.len ≤ 2 ^ 47), Int.toNat_natCast, hf, Bool.not_true, cond_false]
        rcases chan_of hf with ⟨k0, d0⟩ | ⟨k1, d1, d2⟩
        · have e1 : f238 (x.get i) = 1 := by unfold f238; rw [if_neg (by omega)]
          have e2 : wI (c.1 * 1) = c.1 := by rw [Int.mul_one]; exact wI_id (by omega) (by omega)
          rw [bif_t (by simpa using k0), e1, e2]
          exact ⟨_, _, rfl, rfl, ⟨i + 1, _, rfl, rfl, h⟩, by simp only [Int.toNat_natCast]; omega⟩
        · have e1 : f238 (x.get i) = (x.get i).2.2.2.1 := by unfold f238; split <;> omega
          rw [bif_f (by simp [k1]), e1]
          exact ⟨_, _, rfl, rfl, ⟨i + 1, _, rfl, rfl, h⟩, by simp only [Int.toNat_natCast]; omega⟩
      · right
        simp only [s266_L0, q266_L0, s146_L0, q146_L0]
        rw [bif_f (by simp; omega), bif_f (by simp; omega)]
        exact ⟨_, _, rfl, rfl, n, rfl, rfl⟩) ((x, ((), (n, ((0 : Int), ())))), (c, ())) (((), (n, (x, ((x.len : Int), ((0 : Int), ()))))), (c, ())) ⟨0, n, rfl, rfl, Nat.zero_le _⟩
  exact ⟨m, h1, h2⟩


abbrev Sl : Type := Int × (Int × (Int × Unit))
abbrev Wi : Type := Int × (Int × (Int × Unit))
abbrev PR : Type := ByteArray × (Int × ((Int × (Int × Unit)) × ((L Wi) × Unit)))
abbrev Tb : Type := Int × ((Int × (Int × (Int × Unit))) × (Int × (Co × (Int × (Int × (Int × ((L PR) × ((L Int) × ((L Ch) × ((L Sl) × Unit))))))))))
def tParts (t : Tb) : L PR := t.2.2.2.2.2.2.2.1
def tDevs (t : Tb) : L Int := t.2.2.2.2.2.2.2.2.1
def tChans (t : Tb) : L Ch := t.2.2.2.2.2.2.2.2.2.1
def tSlots (t : Tb) : L Sl := t.2.2.2.2.2.2.2.2.2.2.1

/-- The devices: each of a partition. -/
theorem devs (t : Tb) (hd : (tDevs t).len ≤ 8) :
    ((∃ i, i < (tDevs t).len ∧ f97 ((tDevs t).get i) 0 (wI (((tParts t).len : Int) - 1)) = false) ∧ fixO s222_L0 (((), ((0 : Int), ())), (t, ())) = some (.inl ((false, ()), ())) ∧ g141_142 (tDevs t) (((tParts t).len : Int), ()) = some ((true, ()), ())) ∨
    ((∀ i, i < (tDevs t).len → f97 ((tDevs t).get i) 0 (wI (((tParts t).len : Int) - 1)) = true) ∧ fixO s222_L0 (((), ((0 : Int), ())), (t, ())) = some (.inr (.inl (((), ()), (t, ())))) ∧ g141_142 (tDevs t) (((tParts t).len : Int), ()) = some ((false, ()), ())) := by
  have h1 := scan (step := s222_L0) (fun i => (((), ((i : Int), ())), (t, ()))) (tDevs t).len (fun i => f97 ((tDevs t).get i) 0 (wI (((tParts t).len : Int) - 1))) (fun _ => .inl ((false, ()), ())) (.inr (.inl (((), ()), (t, ()))))
    (fun i hi ho => by
      have ho' : (!f97 ((tDevs t).get ((i : Int)).toNat) 0 (wI (((tParts t).len : Int) - 1))) = false := by rw [Int.toNat_natCast, ho]; rfl
      simp only [s222_L0, q222_L0]
      refine (bif_t (idx_lt hi)).trans ((bif_t (idx_in hi)).trans ((bif_f ho').trans ?_))
      rw [wI_succ hi (by omega)])
    (fun i hi ho => by
      have ho' : (!f97 ((tDevs t).get ((i : Int)).toNat) 0 (wI (((tParts t).len : Int) - 1))) = true := by rw [Int.toNat_natCast, ho]; rfl
      simp only [s222_L0, q222_L0]
      exact (bif_t (idx_lt hi)).trans ((bif_t (idx_in hi)).trans (bif_t ho')))
    (by
      simp only [s222_L0, q222_L0]
      exact bif_f (idx_end (tDevs t).len))
  have h2 := scan (step := s236_142_L0) (fun i => ((tDevs t, ((((tParts t).len : Int), ()), (((tDevs t).len : Int), ((i : Int), ())))), ())) (tDevs t).len (fun i => f97 ((tDevs t).get i) 0 (wI (((tParts t).len : Int) - 1))) (fun i => .inl (((i : Int), ()), ())) (.inr (.inl ((), ())))
    (fun i hi ho => by
      have ho' : f142 ((tDevs t).get ((i : Int)).toNat) ((tParts t).len : Int) = false := by unfold f142; rw [Int.toNat_natCast, f136_97, ho]; rfl
      simp only [s236_142_L0, q236_142_L0]
      refine (bif_t (idx_lt hi)).trans ((bif_t (idx_in hi)).trans ((bif_f ho').trans ?_))
      rw [wI_succ hi (by omega)])
    (fun i hi ho => by
      have ho' : f142 ((tDevs t).get ((i : Int)).toNat) ((tParts t).len : Int) = true := by unfold f142; rw [Int.toNat_natCast, f136_97, ho]; rfl
      simp only [s236_142_L0, q236_142_L0]
      exact (bif_t (idx_lt hi)).trans ((bif_t (idx_in hi)).trans (bif_t ho')))
    (by
      simp only [s236_142_L0, q236_142_L0]
      exact bif_f (idx_end (tDevs t).len))
  unfold g141_142 g236_142
  rcases h1 with ⟨i, hi, ho, _, e1⟩ | ⟨ha, e1⟩
  · rcases h2 with ⟨k, hk, hok, _, e2⟩ | ⟨hb, _⟩
    · refine .inl ⟨⟨i, hi, ho⟩, e1, ?_⟩
      have e2' : fixO s236_142_L0 ((tDevs t, ((((tParts t).len : Int), ()), (((tDevs t).len : Int), ((0 : Int), ())))), ()) = some (.inl (((k : Int), ()), ())) := e2
      rw [e2']
      simp
    · have := hb i hi; rw [ho] at this; cases this
  · rcases h2 with ⟨k, hk, hok, _, _⟩ | ⟨hb, e2⟩
    · have := ha k hk; rw [hok] at this; cases this
    · refine .inr ⟨ha, e1, ?_⟩
      have e2' : fixO s236_142_L0 ((tDevs t, ((((tParts t).len : Int), ()), (((tDevs t).len : Int), ((0 : Int), ())))), ()) = some (.inr (.inl ((), ()))) := e2
      rw [e2']
      simp

theorem f145_297 (c : Ch) : f145 c = f297 c := rfl
theorem f144_iff (c : Ch) (n : Int) : f144 c n = false ↔ f297 c = true ∧ c.2.1 < n ∧ c.2.2.1 < n := by
  unfold f144
  rw [f145_297]
  cases h : f297 c with
  | false => simp
  | true =>
    rw [bif_f (show (!true) = false from rfl)]
    by_cases h1 : c.2.1 ≥ n
    · rw [bif_t (by simpa using h1)]; simp; omega
    · rw [bif_f (by simpa using h1)]; simp; omega

/-- The channels: each right, and between partitions. -/
theorem chans (t : Tb) (hd : (tChans t).len ≤ 8) :
    (fixO s222_L2 (((), ((0 : Int), ())), (t, ())) = some (.inl ((false, ()), ())) ∧ g143_144 (tChans t) (((tParts t).len : Int), ()) = some ((true, ()), ())) ∨
    ((∀ i, i < (tChans t).len → f297 ((tChans t).get i) = true ∧ ((tChans t).get i).2.1 < ((tParts t).len : Int) ∧ ((tChans t).get i).2.2.1 < ((tParts t).len : Int)) ∧ fixO s222_L2 (((), ((0 : Int), ())), (t, ())) = some (.inr (.inl (((), ()), (t, ())))) ∧ g143_144 (tChans t) (((tParts t).len : Int), ()) = some ((false, ()), ())) := by
  have h1 := scan (step := s222_L2) (fun i => (((), ((i : Int), ())), (t, ()))) (tChans t).len (fun i => !f144 ((tChans t).get i) ((tParts t).len : Int)) (fun _ => .inl ((false, ()), ())) (.inr (.inl (((), ()), (t, ()))))
    (fun i hi ho => by
      have ho : f144 ((tChans t).get i) ((tParts t).len : Int) = false := by simpa using ho
      obtain ⟨o1, o2, o3⟩ := (f144_iff _ _).mp ho
      have e1 : (!f297 ((tChans t).get ((i : Int)).toNat)) = false := by rw [Int.toNat_natCast, o1]; rfl
      have e2 : decide (((tChans t).get ((i : Int)).toNat).2.1 ≥ ((tParts t).len : Int)) = false := by rw [Int.toNat_natCast]; simp; omega
      have e3 : decide (((tChans t).get ((i : Int)).toNat).2.2.1 ≥ ((tParts t).len : Int)) = false := by rw [Int.toNat_natCast]; simp; omega
      simp only [s222_L2, q222_L2]
      refine (bif_t (idx_lt hi)).trans ((bif_t (idx_in hi)).trans ((bif_f e1).trans ((bif_t (idx_in hi)).trans ((bif_f e2).trans ((bif_t (idx_in hi)).trans ((bif_f e3).trans ?_))))))
      rw [wI_succ hi (by omega)])
    (fun i hi ho => by
      have ho : ¬ (f297 ((tChans t).get i) = true ∧ ((tChans t).get i).2.1 < ((tParts t).len : Int) ∧ ((tChans t).get i).2.2.1 < ((tParts t).len : Int)) := fun q => by
        rw [(f144_iff _ _).mpr q] at ho; cases ho
      simp only [s222_L2, q222_L2]
      refine (bif_t (idx_lt hi)).trans ((bif_t (idx_in hi)).trans ?_)
      cases o1 : f297 ((tChans t).get i) with
      | false => exact bif_t (show (!f297 ((tChans t).get ((i : Int)).toNat)) = true by rw [Int.toNat_natCast, o1]; rfl)
      | true =>
        refine (bif_f (show (!f297 ((tChans t).get ((i : Int)).toNat)) = false by rw [Int.toNat_natCast, o1]; rfl)).trans ((bif_t (idx_in hi)).trans ?_)
        by_cases o2 : ((tChans t).get i).2.1 < ((tParts t).len : Int)
        · refine (bif_f (show decide (((tChans t).get ((i : Int)).toNat).2.1 ≥ ((tParts t).len : Int)) = false by rw [Int.toNat_natCast]; simp; omega)).trans ((bif_t (idx_in hi)).trans ?_)
          have o3 : ¬ ((tChans t).get i).2.2.1 < ((tParts t).len : Int) := fun q => ho ⟨o1, o2, q⟩
          exact bif_t (show decide (((tChans t).get ((i : Int)).toNat).2.2.1 ≥ ((tParts t).len : Int)) = true by rw [Int.toNat_natCast]; simp; omega)
        · exact bif_t (show decide (((tChans t).get ((i : Int)).toNat).2.1 ≥ ((tParts t).len : Int)) = true by rw [Int.toNat_natCast]; simp; omega))
    (by
      simp only [s222_L2, q222_L2]
      exact bif_f (idx_end (tChans t).len))
  have h2 := scan (step := s237_144_L0) (fun i => ((tChans t, ((((tParts t).len : Int), ()), (((tChans t).len : Int), ((i : Int), ())))), ())) (tChans t).len (fun i => !f144 ((tChans t).get i) ((tParts t).len : Int)) (fun i => .inl (((i : Int), ()), ())) (.inr (.inl ((), ())))
    (fun i hi ho => by
      have ho' : f144 ((tChans t).get ((i : Int)).toNat) ((tParts t).len : Int) = false := by rw [Int.toNat_natCast]; simpa using ho
      simp only [s237_144_L0, q237_144_L0]
      refine (bif_t (idx_lt hi)).trans ((bif_t (idx_in hi)).trans ((bif_f ho').trans ?_))
      rw [wI_succ hi (by omega)])
    (fun i hi ho => by
      have ho' : f144 ((tChans t).get ((i : Int)).toNat) ((tParts t).len : Int) = true := by rw [Int.toNat_natCast]; simpa using ho
      simp only [s237_144_L0, q237_144_L0]
      exact (bif_t (idx_lt hi)).trans ((bif_t (idx_in hi)).trans (bif_t ho')))
    (by
      simp only [s237_144_L0, q237_144_L0]
      exact bif_f (idx_end (tChans t).len))
  unfold g143_144 g237_144
  rcases h1 with ⟨i, hi, ho, _, e1⟩ | ⟨ha, e1⟩
  · rcases h2 with ⟨k, hk, hok, _, e2⟩ | ⟨hb, _⟩
    · refine .inl ⟨e1, ?_⟩
      have e2' : fixO s237_144_L0 ((tChans t, ((((tParts t).len : Int), ()), (((tChans t).len : Int), ((0 : Int), ())))), ()) = some (.inl (((k : Int), ()), ())) := e2
      rw [e2']
      simp
    · have := hb i hi; rw [ho] at this; cases this
  · rcases h2 with ⟨k, hk, hok, _, _⟩ | ⟨hb, e2⟩
    · have := ha k hk; rw [hok] at this; cases this
    · refine .inr ⟨fun i hi => (f144_iff _ _).mp (by simpa using ha i hi), e1, ?_⟩
      have e2' : fixO s237_144_L0 ((tChans t, ((((tParts t).len : Int), ()), (((tChans t).len : Int), ((0 : Int), ())))), ()) = some (.inr (.inl ((), ()))) := e2
      rw [e2']
      simp

theorem f239_iff (t : Tb) (s : Sl) (e : Int) (h1 : 1 ≤ t.2.2.2.2.1 ∧ t.2.2.2.2.1 ≤ 5000) (h2 : 1 ≤ t.2.2.2.2.2.1 ∧ t.2.2.2.2.2.1 ≤ 5000) (h3 : 1 ≤ t.2.2.2.2.2.2.1 ∧ t.2.2.2.2.2.2.1 ≤ 5000) :
    f239 t s e = true ↔ s.2.2.1 > t.2.2.2.2.1 + t.2.2.2.2.2.1 ∧ s.2.2.1 ≤ t.2.2.2.2.2.2.1 ∧ s.2.1 ≥ e ∧ s.2.1 ≤ t.2.2.2.2.2.2.1 - s.2.2.1 := by
  unfold f239
  rw [wI_id (n := t.2.2.2.2.1 + t.2.2.2.2.2.1) (by omega) (by omega)]
  by_cases a : s.2.2.1 > t.2.2.2.2.1 + t.2.2.2.2.2.1
  · rw [bif_t (by simpa using a)]
    by_cases b : s.2.2.1 ≤ t.2.2.2.2.2.2.1
    · rw [bif_t (by simpa using b), wI_id (by omega) (by omega)]
      by_cases c : s.2.1 ≥ e
      · rw [bif_t (by simpa using c)]; simp; omega
      · rw [bif_f (by simpa using c)]; simp; omega
    · rw [bif_f (by simpa using b)]; simp; omega
  · rw [bif_f (by simpa using a)]; simp; omega

/-- The slots lie one behind the other, in the frame. -/
def SlotsIn (t : Tb) : Prop :=
  (∀ k, k < (tSlots t).len → f97 ((tSlots t).get k).1 0 (wI (((tParts t).len : Int) - 1)) = true ∧ t.2.2.2.2.1 + t.2.2.2.2.2.1 < ((tSlots t).get k).2.2.1 ∧ 0 ≤ ((tSlots t).get k).2.1 ∧ ((tSlots t).get k).2.1 + ((tSlots t).get k).2.2.1 ≤ t.2.2.2.2.2.2.1) ∧
  ∀ k m, k < m → m < (tSlots t).len → ((tSlots t).get k).2.1 + ((tSlots t).get k).2.2.1 ≤ ((tSlots t).get m).2.1

/-- The slots: one behind the other. -/
theorem slotsLoop (t : Tb) (hl : (tSlots t).len ≤ 2 ^ 47) (h1 : 1 ≤ t.2.2.2.2.1 ∧ t.2.2.2.2.1 ≤ 5000) (h2 : 1 ≤ t.2.2.2.2.2.1 ∧ t.2.2.2.2.2.1 ≤ 5000) (h3 : 1 ≤ t.2.2.2.2.2.2.1 ∧ t.2.2.2.2.2.2.1 ≤ 5000) :
    ∃ d e, fixO s223_L0 (((), ((0 : Int), ((0 : Int), ()))), (t, ())) = some d ∧ fixO s147_L0 (((), ((0 : Int), (tSlots t, (((tSlots t).len : Int), ((0 : Int), ()))))), (t, ())) = some e ∧
      ((d = .inl ((false, ()), ()) ∧ e = .inl ((false, ()), ())) ∨ (d = .inr (.inl ((), ())) ∧ e = .inr (.inl (((), ()), (t, ()))) ∧ SlotsIn t)) := by
  refine fixO_sim (s1 := s223_L0) (s2 := s147_L0)
    (fun a b => ∃ (i : Nat) (e : Int), a = (((), (e, ((i : Int), ()))), (t, ())) ∧ b = (((), (e, (tSlots t, (((tSlots t).len : Int), ((i : Int), ()))))), (t, ())) ∧ i ≤ (tSlots t).len ∧ 0 ≤ e ∧ e ≤ 5000 ∧
      (∀ k, k < i → (f97 ((tSlots t).get k).1 0 (wI (((tParts t).len : Int) - 1)) = true ∧ t.2.2.2.2.1 + t.2.2.2.2.2.1 < ((tSlots t).get k).2.2.1 ∧ 0 ≤ ((tSlots t).get k).2.1 ∧ ((tSlots t).get k).2.1 + ((tSlots t).get k).2.2.1 ≤ t.2.2.2.2.2.2.1) ∧ ((tSlots t).get k).2.1 + ((tSlots t).get k).2.2.1 ≤ e) ∧
      ∀ k m, k < m → m < i → ((tSlots t).get k).2.1 + ((tSlots t).get k).2.2.1 ≤ ((tSlots t).get m).2.1)
    (fun d e => (d = .inl ((false, ()), ()) ∧ e = .inl ((false, ()), ())) ∨ (d = .inr (.inl ((), ())) ∧ e = .inr (.inl (((), ()), (t, ()))) ∧ SlotsIn t)) (fun a => (tSlots t).len - a.1.2.2.1.toNat) ?_ _ _ ⟨0, 0, rfl, rfl, Nat.zero_le _, by omega, by omega, fun k hk => absurd hk (Nat.not_lt_zero _), fun k m _ hk => absurd hk (Nat.not_lt_zero _)⟩
  rintro _ _ ⟨i, e, rfl, rfl, hi, he1, he2, hk1, hk2⟩
  by_cases h : i < (tSlots t).len
  · simp only [s223_L0, q223_L0, s147_L0, q147_L0]
    rw [wI_succ h hl, Int.toNat_natCast]
    generalize hs : (tSlots t).get i = s
    have hs' : (t.2.2.2.2.2.2.2.2.2.2.1).get i = s := hs
    have c1 : ∀ {α : Type} {a b : α}, (bif decide ((i : Int) < ((t.2.2.2.2.2.2.2.2.2.2.1).len : Int)) then a else b) = a := bif_t (idx_lt h)
    have c2 : ∀ {α : Type} {a b : α}, (bif decide ((0 : Int) ≤ (i : Int)) && decide ((i : Int) < ((t.2.2.2.2.2.2.2.2.2.2.1).len : Int)) then a else b) = a := bif_t (idx_in h)
    have c3 : ∀ {α : Type} {a b : α}, (bif decide ((i : Int) < ((tSlots t).len : Int)) then a else b) = a := bif_t (idx_lt h)
    have c4 : ∀ {α : Type} {a b : α}, (bif decide ((0 : Int) ≤ (i : Int)) && decide ((i : Int) < ((tSlots t).len : Int)) then a else b) = a := bif_t (idx_in h)
    rw [c1, c2, c3, c4, hs', f136_97, wI_id (n := t.2.2.2.2.1 + t.2.2.2.2.2.1) (by omega) (by omega), wI_id (n := t.2.2.2.2.1 + t.2.2.2.2.2.1 + 1) (by omega) (by omega)]
    have hiff := f239_iff t s e h1 h2 h3
    cases hp : f97 s.1 0 (wI (((t.2.2.2.2.2.2.2.1).len : Int) - 1)) with
    | false => exact .inr ⟨_, _, rfl, rfl, .inl ⟨rfl, rfl⟩⟩
    | true =>
      simp only [Bool.not_true, cond_false]
      cases ha : f97 s.2.1 e 5000 with
      | false =>
        have hf : f239 t s e = false := by
          cases hq : f239 t s e with
          | false => rfl
          | true =>
            have := hiff.mp hq
            rw [(f97_iff _ _ _).mpr (by omega)] at ha; cases ha
        right
        rw [hf]
        exact ⟨_, _, rfl, rfl, .inl ⟨rfl, rfl⟩⟩
      | true =>
        have ha := (f97_iff _ _ _).mp ha
        cases hb : f97 s.2.2.1 (t.2.2.2.2.1 + t.2.2.2.2.2.1 + 1) 5000 with
        | false =>
          have hf : f239 t s e = false := by
            cases hq : f239 t s e with
            | false => rfl
            | true =>
              have := hiff.mp hq
              rw [(f97_iff _ _ _).mpr (by omega)] at hb; cases hb
          right
          rw [hf]
          exact ⟨_, _, rfl, rfl, .inl ⟨rfl, rfl⟩⟩
        | true =>
          have hb := (f97_iff _ _ _).mp hb
          simp only [Bool.not_true, cond_false]
          rw [wI_id (n := s.2.1 + s.2.2.1) (by omega) (by omega)]
          by_cases hc : s.2.1 + s.2.2.1 > t.2.2.2.2.2.2.1
          · have hf : f239 t s e = false := by
              cases hq : f239 t s e with
              | false => rfl
              | true =>
                have := hiff.mp hq
                omega
            right
            rw [hf, bif_t (by simpa using hc)]
            exact ⟨_, _, rfl, rfl, .inl ⟨rfl, rfl⟩⟩
          · have hf : f239 t s e = true := hiff.mpr (by omega)
            left
            rw [hf, bif_f (by simpa using hc)]
            have hk1' : ∀ k, k < i + 1 → (f97 ((tSlots t).get k).1 0 (wI (((tParts t).len : Int) - 1)) = true ∧ t.2.2.2.2.1 + t.2.2.2.2.2.1 < ((tSlots t).get k).2.2.1 ∧ 0 ≤ ((tSlots t).get k).2.1 ∧ ((tSlots t).get k).2.1 + ((tSlots t).get k).2.2.1 ≤ t.2.2.2.2.2.2.1) ∧ ((tSlots t).get k).2.1 + ((tSlots t).get k).2.2.1 ≤ s.2.1 + s.2.2.1 := fun k hk => by
              by_cases q : k = i
              · rw [q, hs]
                exact ⟨⟨hp, by omega, by omega, by omega⟩, by omega⟩
              · have := hk1 k (by omega)
                exact ⟨this.1, by omega⟩
            have hk2' : ∀ k m, k < m → m < i + 1 → ((tSlots t).get k).2.1 + ((tSlots t).get k).2.2.1 ≤ ((tSlots t).get m).2.1 := fun k m h1 h2 => by
              by_cases q : m = i
              · rw [q, hs]
                have := (hk1 k (by omega)).2
                omega
              · exact hk2 k m h1 (by omega)
            exact ⟨_, _, rfl, rfl, ⟨i + 1, _, rfl, rfl, h, by omega, by omega, hk1', hk2'⟩, by simp only [Int.toNat_natCast]; omega⟩
  · right
    have : i = (tSlots t).len := by omega
    subst this
    simp only [s223_L0, q223_L0, s147_L0, q147_L0]
    exact ⟨_, _, bif_f (idx_end (tSlots t).len), bif_f (idx_end (tSlots t).len), .inr ⟨rfl, rfl, fun k hk => (hk1 k hk).1, hk2⟩⟩

theorem bt_range (s : ByteArray) (i : Int) : 0 ≤ bt s i ∧ bt s i ≤ 255 := by
  unfold bt
  have := ((s[i.toNat]?).getD 0).toNat_lt
  omega

/-- From a place on, all bytes are small letters. -/
def okFrom (s : ByteArray) (i : Int) : Prop := ∀ j : Int, i ≤ j → j < s.size → 97 ≤ bt s j ∧ bt s j ≤ 122

theorem okFrom_step {s : ByteArray} {i : Int} (h : 97 ≤ bt s i ∧ bt s i ≤ 122) : okFrom s (i + 1) → okFrom s i := by
  intro h' j h1 h2
  by_cases e : j = i
  · subst e; exact h
  · exact h' j (by omega) h2

theorem okFrom_back {s : ByteArray} {i : Int} (h' : okFrom s i) : okFrom s (i + 1) := fun j h1 h2 => h' j (by omega) h2

theorem end191 (s : ByteArray) (hs : s.size ≤ 8) : ∃ b, g355 s = some ((b, ()), ()) ∧ (b = true ↔ okFrom s 0 ∧ 1 ≤ s.size) := by
  obtain ⟨d, h1, h2⟩ := fixO_rel (step := s355_L0) (fun x => ((s.size : Int) - x.1.2.1).toNat) (fun x => x.1.1 = s ∧ 0 ≤ x.1.2.1 ∧ x.1.2.1 ≤ s.size)
    (fun x d => match d with
      | .inl y => y.1.1 = false ∧ ¬ okFrom s x.1.2.1
      | .inr (.inl y) => y.1.1 = s ∧ okFrom s x.1.2.1
      | .inr (.inr _) => False) (by
      rintro ⟨⟨(t : ByteArray), (i : Int), ⟨⟩⟩, ⟨⟩⟩ ⟨h1, h2, h3⟩
      simp only at h1 h2 h3
      subst h1
      simp only [s355_L0, q355_L0]
      by_cases hi : i < t.size
      · rw [bif_t (by simpa using hi), bif_t (by simp; omega), bif_t (by simp; omega)]
        have hb := bt_range t i
        rw [wI_id (by omega) (by omega), wI_id (n := i + 1) (by omega) (by omega)]
        by_cases hr : 97 ≤ bt t i ∧ bt t i ≤ 122
        · left
          have e : f97 (bt t i) 97 122 = true := by
            unfold f97; rw [bif_t (by simpa using hr.1)]; simpa using hr.2
          rw [e]
          refine ⟨_, rfl, ⟨rfl, by simp only; omega, by simp only; omega⟩, by simp only; omega, fun d hd => ?_⟩
          match d, hd with
          | .inl y, hd => exact ⟨hd.1, fun h => hd.2 (okFrom_back h)⟩
          | .inr (.inl y), hd => exact ⟨hd.1, okFrom_step hr hd.2⟩
        · right
          have e : f97 (bt t i) 97 122 = false := by
            unfold f97
            by_cases h97 : bt t i ≥ 97
            · rw [bif_t (by simpa using h97)]; simp; omega
            · rw [bif_f (by simp; omega)]
          rw [e]
          exact ⟨_, rfl, rfl, fun h => hr (h i (Int.le_refl _) hi)⟩
      · right
        rw [bif_f (by simp; omega)]
        exact ⟨_, rfl, rfl, fun j h4 h5 => by omega⟩) ((s, 0, ()), ()) ⟨rfl, by simp, by simp⟩
  unfold g355
  rw [h1]
  simp only [Option.bind_some]
  match d, h2 with
  | .inl y, h2 => exact ⟨_, rfl, by rw [h2.1]; simp only [Bool.false_eq_true, false_iff]; exact fun h => h2.2 h.1⟩
  | .inr (.inl y), h2 =>
    refine ⟨_, rfl, ?_⟩
    rw [h2.1]
    unfold f97
    by_cases h0 : 1 ≤ s.size
    · rw [bif_t (by simp; omega)]
      simp only [decide_eq_true_eq]
      exact ⟨fun _ => ⟨h2.2, h0⟩, fun _ => by omega⟩
    · rw [bif_f (by simp; omega)]
      simp only [Bool.false_eq_true, false_iff]
      exact fun h => h0 h.2

theorem end190 (s : ByteArray) (hs : s.size ≤ 2 ^ 47) : ∃ b, g301 s = some ((b, ()), ()) ∧ (b = true ↔ okFrom s 0 ∧ 1 ≤ s.size ∧ s.size ≤ 12) := by
  have h47 : (2 : Nat) ^ 47 = 140737488355328 := by decide
  rw [h47] at hs
  obtain ⟨d, h1, h2⟩ := fixO_rel (step := s301_L0) (fun x => ((s.size : Int) - x.1.2.2.1).toNat) (fun x => x.1.1 = s ∧ x.1.2.1 = s.size ∧ 0 ≤ x.1.2.2.1 ∧ x.1.2.2.1 ≤ s.size)
    (fun x d => match d with
      | .inl y => y.1.1 = false ∧ ¬ okFrom s x.1.2.2.1
      | .inr (.inl y) => y.1.1 = s ∧ okFrom s x.1.2.2.1
      | .inr (.inr _) => False) (by
      rintro ⟨⟨(t : ByteArray), (n : Int), (i : Int), ⟨⟩⟩, ⟨⟩⟩ ⟨h1, hn, h2, h3⟩
      simp only at h1 h2 h3 hn
      subst h1 hn
      simp only [s301_L0, q301_L0]
      by_cases hi : i < t.size
      · rw [bif_t (by simpa using hi), bif_t (by simp; omega)]
        rw [wI_id (n := i + 1) (by omega) (by omega)]
        by_cases hr : 97 ≤ bt t i ∧ bt t i ≤ 122
        · left
          rw [bif_f (by simp; omega), bif_t (by simp; omega), bif_f (by simp; omega)]
          refine ⟨_, rfl, ⟨rfl, rfl, by simp only; omega, by simp only; omega⟩, by simp only; omega, fun d hd => ?_⟩
          match d, hd with
          | .inl y, hd => exact ⟨hd.1, fun h => hd.2 (okFrom_back h)⟩
          | .inr (.inl y), hd => exact ⟨hd.1, okFrom_step hr hd.2⟩
        · right
          by_cases h97 : bt t i < 97
          · rw [bif_t (by simpa using h97)]
            exact ⟨_, rfl, rfl, fun h => hr (h i (Int.le_refl _) hi)⟩
          · rw [bif_f (by simp; omega), bif_t (by simp; omega), bif_t (by simp; omega)]
            exact ⟨_, rfl, rfl, fun h => hr (h i (Int.le_refl _) hi)⟩
      · right
        rw [bif_f (by simp; omega)]
        exact ⟨_, rfl, rfl, fun j h4 h5 => by omega⟩) ((s, s.size, 0, ()), ()) ⟨rfl, rfl, by simp, by simp⟩
  unfold g301
  rw [h1]
  simp only [Option.bind_some]
  match d, h2 with
  | .inl y, h2 => exact ⟨_, rfl, by rw [h2.1]; simp only [Bool.false_eq_true, false_iff]; exact fun h => h2.2 h.1⟩
  | .inr (.inl y), h2 =>
    refine ⟨_, rfl, ?_⟩
    rw [h2.1]
    unfold f136
    by_cases h0 : 1 ≤ s.size
    · rw [bif_t (by simp; omega)]
      simp only [decide_eq_true_eq]
      exact ⟨fun h => ⟨h2.2, h0, by omega⟩, fun h => by omega⟩
    · rw [bif_f (by simp; omega)]
      simp only [Bool.false_eq_true, false_iff]
      exact fun h => h0 h.2.1

theorem names (s : ByteArray) (hw : s.size ≤ 2 ^ 47) : ∃ b, g342 s = some ((b, ()), ()) ∧ g228 s = some ((b, ()), ()) := by
  obtain ⟨b2, e2, r2⟩ := end190 s hw
  refine ⟨decide (b2 = true ∧ s.size ≤ 8), ?_, ?_⟩
  · unfold g342
    by_cases h8 : s.size ≤ 8
    · obtain ⟨b1, e1, r1⟩ := end191 s h8
      rw [bif_t (by simp; omega), e1]
      simp only [Option.bind_some]
      congr 3
      cases b1 with
      | true =>
        have := r1.mp rfl
        have h2 := r2.mpr ⟨this.1, this.2, by omega⟩
        simp [h2, h8]
      | false =>
        cases b2 with
        | false => simp
        | true =>
          have := r2.mp rfl
          have := r1.mpr ⟨this.1, this.2.1⟩
          cases this
    · rw [bif_f (by simp; omega)]
      simp [h8]
  · unfold g228
    rw [e2]
    simp only [Option.bind_some]
    cases b2 with
    | true => simp; omega
    | false => simp

theorem policies (p : Int × (Int × Unit)) : f230 p = f335 p := rfl

theorem bif_and {b x : Bool} : (bif b then x else false) = (b && x) := by cases b <;> rfl

theorem f308_iff (w : Wi) : f308 w = true ↔ (0 ≤ w.1 ∧ w.1 ≤ 2048) ∧ (4 ≤ w.2.1 ∧ w.2.1 ≤ 2048) ∧ Int.tmod w.1 4 = 0 ∧ Int.tmod w.2.1 4 = 0 ∧ w.1 + w.2.1 ≤ 2048 ∧ (1 ≤ w.2.2.1 ∧ w.2.2.1 ≤ 7) := by
  unfold f308
  simp only [bif_and, Bool.and_eq_true, f97_iff, beq_iff_eq, decide_eq_true_eq]
  constructor
  · rintro ⟨h1, h2, h3, h4, h5, h6⟩
    rw [wI_id (by omega) (by omega)] at h5
    exact ⟨h1, h2, h3, h4, h5, h6⟩
  · rintro ⟨h1, h2, h3, h4, h5, h6⟩
    refine ⟨h1, h2, h3, h4, ?_, h6⟩
    rw [wI_id (by omega) (by omega)]
    exact h5

theorem f231_308 (w : Wi) : f231 w = f308 w := by
  rw [Bool.eq_iff_iff, f308_iff]
  unfold f231
  rw [f136_97]
  simp only [bif_and, Bool.and_eq_true, f97_iff, beq_iff_eq]
  constructor
  · rintro ⟨h1, h2, h3, h4, h5⟩
    rw [wI_id (by omega) (by omega)] at h3
    exact ⟨by omega, h1, h4, h2, by omega, h5⟩
  · rintro ⟨h1, h2, h3, h4, h5, h6⟩
    refine ⟨h2, h4, ?_, h3, h6⟩
    rw [wI_id (by omega) (by omega)]
    omega

/-- Two windows that are right, and lie apart. -/
theorem f234_iff (v w : Wi) (hv : f308 v = true) (hw : f308 w = true) : f234 v w = true ↔ v.1 + v.2.1 ≤ w.1 ∨ w.1 + w.2.1 ≤ v.1 := by
  have a := (f308_iff v).mp hv
  have b := (f308_iff w).mp hw
  unfold f234
  rw [wI_id (n := v.1 + v.2.1) (by omega) (by omega), wI_id (n := w.1 + w.2.1) (by omega) (by omega)]
  by_cases h : v.1 + v.2.1 ≤ w.1
  · rw [bif_t (by simpa using h)]; simp; omega
  · rw [bif_f (by simpa using h)]; simp; omega

theorem f343_iff (w : Wi) (x : Int) (hw : f308 w = true) : f343 w x = true ↔ w.1 ≤ x ∧ x < w.1 + w.2.1 := by
  have b := (f308_iff w).mp hw
  unfold f343
  rw [wI_id (n := w.1 + w.2.1) (by omega) (by omega)]
  by_cases h : x ≥ w.1
  · rw [bif_t (by simpa using h)]; simp; omega
  · rw [bif_f (by simpa using h)]; simp; omega

theorem named (t : Tb) (hl : (tParts t).len ≤ 2 ^ 47) (s : ByteArray) : ∃ n : Int, g229 t s = some ((n, ()), ()) ∧ ((∃ i : Nat, n = i ∧ i < (tParts t).len ∧ strEq ((tParts t).get i).1 s = true ∧ ∀ j, j < i → strEq ((tParts t).get j).1 s = false) ∨ (n = -1 ∧ ∀ i, i < (tParts t).len → strEq ((tParts t).get i).1 s = false)) := by
  have h := index_loop (step := s302_303_L0) (x := tParts t) (c := (s, ())) (fun i => strEq ((tParts t).get i).1 s) (fun i hi => by
    simp only [s302_303_L0, q302_303_L0]
    refine (bif_t (idx_lt hi)).trans ((bif_t (idx_in hi)).trans ?_)
    rw [wI_succ hi hl, Int.toNat_natCast]
    by_cases hf : strEq ((tParts t).get i).1 s = true
    · rw [if_pos hf]; exact bif_t hf
    · rw [if_neg hf]; exact bif_f (show strEq ((tParts t).get i).1 s = false by simpa using hf)) (by
    simp only [s302_303_L0, q302_303_L0]
    exact bif_f (idx_end (tParts t).len))
  unfold g229 g302_303
  rcases h with ⟨i, h1, h2, h3, h4⟩ | ⟨h1, h2⟩
  · have h4' : fixO s302_303_L0 ((t.2.2.2.2.2.2.2.1, ((s, ()), ((t.2.2.2.2.2.2.2.1.len : Int), ((0 : Int), ())))), ()) = some (.inl (((i : Int), ()), ())) := h4
    rw [h4']
    exact ⟨i, rfl, .inl ⟨i, rfl, h1, h2, h3⟩⟩
  · have h2' : fixO s302_303_L0 ((t.2.2.2.2.2.2.2.1, ((s, ()), ((t.2.2.2.2.2.2.2.1.len : Int), ((0 : Int), ())))), ()) = some (.inr (.inl ((), ()))) := h2
    rw [h2']
    exact ⟨-1, rfl, .inr ⟨rfl, h1⟩⟩

/-- What the program asks behind the head. -/
noncomputable def rest71 (t : Tb) : Option ((Bool × Unit) × Unit) :=
  bif (!(f136 ((tParts t).len : Int) (1 : Int) (6 : Int))) then
    some ((false, ()), ())
  else
    (g140 t).bind fun y2 =>
      bif (!y2.1.1) then
        some ((false, ()), ())
      else
        bif (decide (((tDevs t).len : Int) > (8 : Int))) then
          some ((false, ()), ())
        else
          (g141_142 (tDevs t) (((tParts t).len : Int), ())).bind fun y3 =>
            bif y3.1.1 then
              some ((false, ()), ())
            else
              bif (decide (((tChans t).len : Int) > (8 : Int))) then
                some ((false, ()), ())
              else
                (g143_144 (tChans t) (((tParts t).len : Int), ())).bind fun y4 =>
                  bif y4.1.1 then
                    some ((false, ()), ())
                  else
                    (g146 t.2.2.2.1 t.2.1 (tChans t)).bind fun y5 =>
                      bif (decide (t.2.2.2.2.1 < y5.1.1)) then
                        some ((false, ()), ())
                      else
                        (g147 t).bind fun y6 =>
                          some ((y6.1.1, ()), ())

theorem head (t : Tb) : (g220 t = some ((false, ()), ()) ∧ g54 t = some ((false, ()), ())) ∨
    (f294 t.2.2.2.1 = true ∧ (1 ≤ t.2.2.2.2.1 ∧ t.2.2.2.2.1 ≤ 5000) ∧ (1 ≤ t.2.2.2.2.2.1 ∧ t.2.2.2.2.2.1 ≤ 5000) ∧ (1 ≤ t.2.2.2.2.2.2.1 ∧ t.2.2.2.2.2.2.1 ≤ 5000) ∧ f119 t.2.1 = true ∧ f97 t.1 64 2048 = true ∧ g220 t = some ((true, ()), ()) ∧ g54 t = rest71 t) := by
  have e127 : ∀ n, f138 n = f97 n 1 5000 := fun n => rfl
  have e124 : ∀ n, f134 n = (f97 n 64 2048 && (Int.tmod n 4 == 0)) := fun n => by
    unfold f134
    rw [f136_97]
    cases f97 n 64 2048 <;> rfl
  unfold g220 g54
  rw [e124, e127, e127, e127, f137_294, f135_119, f136_97]
  have g139_227 : g139 t.2.2.2.1 = (g227 t.2.2.2.1).bind fun y => some ((y.1.1, ()), ()) := rfl
  rw [g139_227]
  cases h1 : f97 t.1 64 2048 with
  | false => exact .inl ⟨rfl, rfl⟩
  | true =>
    cases h2 : (Int.tmod t.1 4 == 0) with
    | false =>
      have : (Int.tmod t.1 4 != 0) = true := by simpa [bne] using h2
      rw [this]
      exact .inl ⟨rfl, rfl⟩
    | true =>
      have : (Int.tmod t.1 4 != 0) = false := by simpa [bne] using h2
      rw [this]
      cases h3 : f119 t.2.1 with
      | false => exact .inl ⟨rfl, rfl⟩
      | true =>
        cases h4 : f97 t.2.2.1 1 8 with
        | false => exact .inl ⟨rfl, rfl⟩
        | true =>
          cases h5 : f294 t.2.2.2.1 with
          | false => exact .inl ⟨rfl, rfl⟩
          | true =>
            cases h6 : f97 t.2.2.2.2.1 1 5000 with
            | false => exact .inl ⟨rfl, rfl⟩
            | true =>
              cases h7 : f97 t.2.2.2.2.2.1 1 5000 with
              | false => exact .inl ⟨rfl, rfl⟩
              | true =>
                cases h8 : f97 t.2.2.2.2.2.2.1 1 5000 with
                | false => exact .inl ⟨rfl, rfl⟩
                | true =>
                  obtain ⟨n, w1, w2⟩ := worst h5
                  rw [w1, w2]
                  simp only [Bool.not_true, cond_false, cond_true, Bool.and_self, Option.bind_some]
                  by_cases hg : t.2.2.2.2.2.1 ≥ n
                  · right
                    refine ⟨trivial, (f97_iff _ _ _).mp h6, (f97_iff _ _ _).mp h7, (f97_iff _ _ _).mp h8, trivial, trivial, ?_, ?_⟩
                    · rw [decide_eq_true hg]
                    · exact bif_f (by simp; omega)
                  · left
                    refine ⟨?_, ?_⟩
                    · rw [decide_eq_false hg]
                    · exact bif_t (by simp; omega)

/-- The pads: where every row of chans is right. -/
theorem pads (t : Tb) (hc : f294 t.2.2.2.1 = true) (hs : f119 t.2.1 = true) (hl : (tChans t).len ≤ 8) (hok : ∀ j, j < (tChans t).len → f297 ((tChans t).get j) = true) :
    ∃ n : Int, g266 t.2.2.2.1 t.2.1 (tChans t) = some ((n, ()), ()) ∧ g146 t.2.2.2.1 t.2.1 (tChans t) = some ((n, ()), ()) := by
  obtain ⟨c1, _⟩ := costs_of hc
  obtain ⟨m, h1, h2⟩ := good (tChans t) hl t.2.2.2.1 c1 (wI ((wI (16 * t.2.2.2.1.1)) + (wI ((wI (t.2.1.1 * t.2.1.2.1)) * t.2.2.2.1.2.2.2.2.2.2.1)))) hok
  unfold g266 g146
  rw [hc, hs]
  simp only [Bool.not_true, cond_false]
  rw [bif_f (by simp; omega), h1, h2]
  exact ⟨m, rfl, rfl⟩

/-- What is known of tables whose rows behind the partitions are right. -/
def Tail (t : Tb) : Prop :=
  (tDevs t).len ≤ 8 ∧ (tChans t).len ≤ 8 ∧ (∀ i, i < (tDevs t).len → f97 ((tDevs t).get i) 0 (wI (((tParts t).len : Int) - 1)) = true) ∧
  (∀ i, i < (tChans t).len → f297 ((tChans t).get i) = true ∧ ((tChans t).get i).2.1 < ((tParts t).len : Int) ∧ ((tChans t).get i).2.2.1 < ((tParts t).len : Int)) ∧ SlotsIn t ∧ (1 ≤ (tSlots t).len ∧ (tSlots t).len ≤ 16) ∧
  ∃ n : Int, g266 t.2.2.2.1 t.2.1 (tChans t) = some ((n, ()), ()) ∧ g146 t.2.2.2.1 t.2.1 (tChans t) = some ((n, ()), ()) ∧ t.2.2.2.2.1 ≥ n

/-- Devices, channels, pads and slots: what the reference asks behind the partitions, and the program. -/
theorem tail (t : Tb) (hl : (tSlots t).len ≤ 2 ^ 47) (hc : f294 t.2.2.2.1 = true) (hs : f119 t.2.1 = true) (h1 : 1 ≤ t.2.2.2.2.1 ∧ t.2.2.2.2.1 ≤ 5000) (h2 : 1 ≤ t.2.2.2.2.2.1 ∧ t.2.2.2.2.2.1 ≤ 5000) (h3 : 1 ≤ t.2.2.2.2.2.2.1 ∧ t.2.2.2.2.2.2.1 ≤ 5000) :
    ∃ b : Bool, ((g222 t).bind fun y3 => bif y3.1.1 then (g223 t).bind fun y4 => some ((y4.1.1, ()), ()) else some ((false, ()), ())) = some ((b, ()), ()) ∧
      (bif (decide (((tDevs t).len : Int) > (8 : Int))) then
          some ((false, ()), ())
        else
          (g141_142 (tDevs t) (((tParts t).len : Int), ())).bind fun y3 =>
            bif y3.1.1 then
              some ((false, ()), ())
            else
              bif (decide (((tChans t).len : Int) > (8 : Int))) then
                some ((false, ()), ())
              else
                (g143_144 (tChans t) (((tParts t).len : Int), ())).bind fun y4 =>
                  bif y4.1.1 then
                    some ((false, ()), ())
                  else
                    (g146 t.2.2.2.1 t.2.1 (tChans t)).bind fun y5 =>
                      bif (decide (t.2.2.2.2.1 < y5.1.1)) then
                        some ((false, ()), ())
                      else
                        (g147 t).bind fun y6 =>
                          some ((y6.1.1, ()), ())) = some ((b, ()), ()) ∧ (b = true → Tail t) := by
  have slots : ∃ b : Bool, g223 t = some ((b, ()), ()) ∧ g147 t = some ((b, ()), ()) ∧ (b = true → SlotsIn t ∧ 1 ≤ (tSlots t).len ∧ (tSlots t).len ≤ 16) := by
    obtain ⟨d, e, q1, q2, q3⟩ := slotsLoop t hl h1 h2 h3
    have q1' : fixO s223_L0 (((), ((0 : Int), ((0 : Int), ()))), (t, ())) = some d := q1
    have q2' : fixO s147_L0 (((), ((0 : Int), (t.2.2.2.2.2.2.2.2.2.2.1, ((t.2.2.2.2.2.2.2.2.2.2.1.len : Int), ((0 : Int), ()))))), (t, ())) = some e := q2
    unfold g223 g147
    rw [q1', q2', f136_97]
    rcases q3 with ⟨rfl, rfl⟩ | ⟨rfl, rfl, q3⟩
    · refine ⟨false, ?_, rfl, by simp⟩
      cases f97 (t.2.2.2.2.2.2.2.2.2.2.1.len : Int) 1 16 <;> rfl
    · refine ⟨f97 (t.2.2.2.2.2.2.2.2.2.2.1.len : Int) 1 16, ?_, rfl, fun h => ⟨q3, ?_⟩⟩
      · cases f97 (t.2.2.2.2.2.2.2.2.2.2.1.len : Int) 1 16 <;> rfl
      · have := (f97_iff _ _ _).mp h
        unfold tSlots
        omega
  obtain ⟨b, s1, s2, s3⟩ := slots
  unfold g222
  by_cases hd : ((tDevs t).len : Int) > 8
  · refine ⟨false, ?_, bif_t (by simpa using hd), by simp⟩
    have : decide ((t.2.2.2.2.2.2.2.2.1.len : Int) > 8) = true := decide_eq_true hd
    rw [this]; rfl
  · have e1 : decide ((t.2.2.2.2.2.2.2.2.1.len : Int) > 8) = false := decide_eq_false hd
    have e1' : decide (((tDevs t).len : Int) > 8) = false := by simpa using hd
    rw [e1, e1']
    simp only [cond_false]
    have hd8 : (tDevs t).len ≤ 8 := by omega
    by_cases hch : ((tChans t).len : Int) > 8
    · have e2 : decide ((t.2.2.2.2.2.2.2.2.2.1.len : Int) > 8) = true := decide_eq_true hch
      have e2' : decide (((tChans t).len : Int) > 8) = true := by simpa using hch
      rw [e2, e2']
      rcases devs t hd8 with ⟨_, _, a2⟩ | ⟨_, _, a2⟩ <;> rw [a2] <;> exact ⟨false, rfl, rfl, by simp⟩
    · have e2 : decide ((t.2.2.2.2.2.2.2.2.2.1.len : Int) > 8) = false := decide_eq_false hch
      have e2' : decide (((tChans t).len : Int) > 8) = false := by simpa using hch
      rw [e2, e2']
      simp only [cond_false]
      have hc8 : (tChans t).len ≤ 8 := by omega
      rcases devs t hd8 with ⟨_, a1, a2⟩ | ⟨hdev, a1, a2⟩
      · rw [a1, a2]; exact ⟨false, rfl, rfl, by simp⟩
      · rw [a1, a2]
        simp only [Option.bind_some, cond_false]
        rcases chans t hc8 with ⟨b1, b2⟩ | ⟨hok, b1, b2⟩
        · rw [b1, b2]; exact ⟨false, rfl, rfl, by simp⟩
        · rw [b1, b2]
          simp only [Option.bind_some, cond_false]
          obtain ⟨n, p1, p2⟩ := pads t hc hs hc8 (fun j hj => (hok j hj).1)
          have p1' : g266 t.2.2.2.1 t.2.1 t.2.2.2.2.2.2.2.2.2.1 = some ((n, ()), ()) := p1
          rw [p1', p2, s1, s2]
          simp only [Option.bind_some]
          by_cases hp : t.2.2.2.2.1 ≥ n
          · rw [decide_eq_true hp, decide_eq_false (by omega)]
            exact ⟨b, rfl, rfl, fun h => ⟨hd8, hc8, hdev, hok, (s3 h).1, (s3 h).2, n, p1, p2, hp⟩⟩
          · rw [decide_eq_false hp, decide_eq_true (by omega)]
            exact ⟨false, rfl, rfl, by simp⟩

/-- A slice's content as a list. -/
def toL {α : Type} (x : L α) : List α := (List.range x.len).map x.get

theorem toL_len {α : Type} (x : L α) : (toL x).length = x.len := by simp [toL]

theorem toL_get {α : Type} (x : L α) (i : Nat) : (toL x)[i]? = if i < x.len then some (x.get i) else none := by
  unfold toL
  rw [List.getElem?_map]
  by_cases h : i < x.len
  · rw [if_pos h, List.getElem?_range h]; rfl
  · rw [if_neg h, List.getElem?_eq_none (by simpa using h)]; rfl

theorem toL_app {α : Type} (a b : L α) : toL (L.app a b) = toL a ++ toL b := by
  apply List.ext_getElem?
  intro i
  rw [toL_get, List.getElem?_append, toL_len, toL_get, toL_get]
  show (if i < a.len + b.len then some (bif Nat.blt i a.len then a.get i else b.get (i - a.len)) else none) = _
  by_cases h : i < a.len
  · have : Nat.blt i a.len = true := by simpa [Nat.blt_eq] using h
    rw [if_pos (by omega), if_pos h, if_pos h, this]; rfl
  · have : Nat.blt i a.len = false := by
      cases hb : Nat.blt i a.len with
      | false => rfl
      | true => exact absurd (by simpa [Nat.blt_eq] using hb) h
    rw [if_neg h, this]
    by_cases h2 : i < a.len + b.len
    · rw [if_pos h2, if_pos (by omega)]; rfl
    · rw [if_neg h2, if_neg (by omega)]

/-- Every window of every partition, in order. -/
def winsOf (x : L PR) (n : Nat) : List Wi := ((toL x).take n).flatMap fun p => toL p.2.2.2.1

theorem winsOf_succ (x : L PR) {n : Nat} (h : n < x.len) : winsOf x (n + 1) = winsOf x n ++ toL (x.get n).2.2.2.1 := by
  unfold winsOf
  have hn : n < (toL x).length := by rw [toL_len]; exact h
  rw [List.take_succ_eq_append_getElem hn, List.flatMap_append]
  have : (toL x)[n] = x.get n := by
    have := toL_get x n
    rw [if_pos h, List.getElem?_eq_getElem hn] at this
    exact Option.some.inj this
  rw [this]
  simp

theorem allWins (x : L PR) (hn : x.len ≤ 6) (hw : ∀ i, i < x.len → (x.get i).2.2.2.1.len ≤ 4) : ∃ all : L Wi, g296r x = some ((all, ()), ()) ∧ toL all = winsOf x x.len ∧ all.len ≤ 24 := by
  obtain ⟨d, h1, all, rfl, h2, h3⟩ := fixO_rel (step := s296r_L0) (fun a => x.len - a.1.2.2.1.toNat)
    (fun a => ∃ (i : Nat) (acc : L Wi), a = ((x, ((), ((i : Int), ()))), (acc, ())) ∧ i ≤ x.len ∧ toL acc = winsOf x i ∧ acc.len ≤ 4 * i)
    (fun _ d => ∃ all : L Wi, d = .inl (((), ()), (all, ())) ∧ toL all = winsOf x x.len ∧ all.len ≤ 24) (by
      rintro _ ⟨i, acc, rfl, hi, ha, hl⟩
      by_cases h : i < x.len
      · left
        have hm : decide (acc.len + (x.get ((i : Int)).toNat).2.2.2.1.len ≤ most) = true := by
          rw [Int.toNat_natCast]
          have := hw i h
          have h32 : most = 4294967296 := rfl
          rw [h32]
          exact decide_eq_true (by omega)
        have hstep : s296r_L0 ((x, ((), ((i : Int), ()))), (acc, ())) = some (.inl ((x, ((), (((i + 1 : Nat) : Int), ()))), (L.app acc (x.get i).2.2.2.1, ()))) := by
          simp only [s296r_L0, q296r_L0]
          refine (bif_t (idx_lt h)).trans ((bif_t (idx_in h)).trans ((bif_t hm).trans ?_))
          rw [wI_succ h (by omega), Int.toNat_natCast]
        refine ⟨_, hstep, ⟨i + 1, _, rfl, h, ?_, ?_⟩, by simp only [Int.toNat_natCast]; omega, fun d hd => hd⟩
        · rw [toL_app, ha, winsOf_succ x h]
        · show acc.len + (x.get i).2.2.2.1.len ≤ _
          have := hw i h
          omega
      · right
        have : i = x.len := by omega
        subst this
        have hstep : s296r_L0 ((x, ((), ((x.len : Int), ()))), (acc, ())) = some (.inr (.inl (((), ()), (acc, ())))) := by
          simp only [s296r_L0, q296r_L0]
          exact bif_f (idx_end x.len)
        exact ⟨_, hstep, acc, rfl, ha, by omega⟩)
    ((x, ((), ((0 : Int), ()))), ((L.of (Ty.zero (.pair (.int .i64) (.pair (.int .i64) (.pair (.int .i64) .unit)))) []), ())) ⟨0, _, rfl, Nat.zero_le _, rfl, Nat.zero_le _⟩
  unfold g296r
  rw [h1]
  exact ⟨all, rfl, h2, h3⟩

/-- Do two windows of a row overlap, as the reference asks it. -/
def ovl (a : L Wi) (k i : Nat) : Bool := decide ((a.get k).1 < wI ((a.get i).1 + (a.get i).2.1)) && decide ((a.get i).1 < wI ((a.get k).1 + (a.get k).2.1))

theorem ovlInner (a : L Wi) (ha : a.len ≤ 24) {i : Nat} (hi : i < a.len) :
    (∃ k, k < i ∧ ovl a k i = true ∧ fixO s221_L6 (((), ((i : Int), ((0 : Int), ()))), (a, ())) = some (.inl ((false, ()), ()))) ∨
    ((∀ k, k < i → ovl a k i = false) ∧ fixO s221_L6 (((), ((i : Int), ((0 : Int), ()))), (a, ())) = some (.inr (.inl (((), ((i : Int), ())), (a, ()))))) := by
  have h := scan (step := s221_L6) (fun k => (((), ((i : Int), ((k : Int), ()))), (a, ()))) i (fun k => !ovl a k i) (fun _ => .inl ((false, ()), ())) (.inr (.inl (((), ((i : Int), ())), (a, ()))))
    (fun k hk ho => by
      have ho : ovl a k i = false := by simpa using ho
      have hkl : k < a.len := by omega
      simp only [s221_L6, q221_L6]
      refine (bif_t (idx_lt hk)).trans ((bif_t (idx_in hkl)).trans ((bif_t (idx_in hi)).trans ((bif_t (idx_in hi)).trans ?_)))
      rw [wI_succ hk (by omega), Int.toNat_natCast, Int.toNat_natCast]
      unfold ovl at ho
      cases h1 : decide ((a.get k).1 < wI ((a.get i).1 + (a.get i).2.1)) with
      | false => rfl
      | true =>
        rw [h1] at ho
        refine (bif_t (idx_in hi)).trans ((bif_t (idx_in hkl)).trans ((bif_t (idx_in hkl)).trans ?_))
        exact bif_f (by simpa using ho))
    (fun k hk ho => by
      have ho : ovl a k i = true := by simpa using ho
      have hkl : k < a.len := by omega
      simp only [s221_L6, q221_L6]
      refine (bif_t (idx_lt hk)).trans ((bif_t (idx_in hkl)).trans ((bif_t (idx_in hi)).trans ((bif_t (idx_in hi)).trans ?_)))
      rw [wI_succ hk (by omega), Int.toNat_natCast, Int.toNat_natCast]
      unfold ovl at ho
      simp only [Bool.and_eq_true] at ho
      refine (bif_t ho.1).trans ((bif_t (idx_in hi)).trans ((bif_t (idx_in hkl)).trans ((bif_t (idx_in hkl)).trans ?_)))
      exact bif_t ho.2)
    (by
      simp only [s221_L6, q221_L6]
      exact bif_f (idx_end i))
  rcases h with ⟨k, h1, h2, _, h4⟩ | ⟨h1, h2⟩
  · exact .inl ⟨k, h1, by simpa using h2, h4⟩
  · exact .inr ⟨fun k hk => by simpa using h1 k hk, h2⟩

theorem ovlAll (a : L Wi) (ha : a.len ≤ 24) :
    ((∃ i k, i < a.len ∧ k < i ∧ ovl a k i = true) ∧ fixO s221_L4 (((), ((0 : Int), ())), (a, ())) = some (.inl ((false, ()), ()))) ∨
    ((∀ i k, i < a.len → k < i → ovl a k i = false) ∧ fixO s221_L4 (((), ((0 : Int), ())), (a, ())) = some (.inr (.inl ((), ())))) := by
  have h := scan (step := s221_L4) (fun i => (((), ((i : Int), ())), (a, ()))) a.len (fun i => (List.range i).all fun k => !ovl a k i) (fun _ => .inl ((false, ()), ())) (.inr (.inl ((), ())))
    (fun i hi ho => by
      have ho : ∀ k, k < i → ovl a k i = false := fun k hk => by simpa using List.all_eq_true.mp ho k (List.mem_range.mpr hk)
      simp only [s221_L4, q221_L4]
      refine (bif_t (idx_lt hi)).trans ?_
      rcases ovlInner a ha hi with ⟨k, hk, h1, _⟩ | ⟨_, h2⟩
      · rw [ho k hk] at h1; cases h1
      · rw [h2]
        simp only [Option.bind_some]
        rw [wI_succ hi (by omega)])
    (fun i hi ho => by
      simp only [s221_L4, q221_L4]
      refine (bif_t (idx_lt hi)).trans ?_
      rcases ovlInner a ha hi with ⟨k, hk, h1, h2⟩ | ⟨h1, _⟩
      · rw [h2]; rfl
      · have : ((List.range i).all fun k => !ovl a k i) = true := List.all_eq_true.mpr fun k hk => by simp [h1 k (List.mem_range.mp hk)]
        rw [this] at ho; cases ho)
    (by
      simp only [s221_L4, q221_L4]
      exact bif_f (idx_end a.len))
  rcases h with ⟨i, h1, h2, _, h4⟩ | ⟨h1, h2⟩
  · refine .inl ⟨?_, h4⟩
    have h2' : ¬ ((List.range i).all fun k => !ovl a k i) = true := by rw [h2]; simp
    rw [List.all_eq_true] at h2'
    simp only [Classical.not_forall] at h2'
    obtain ⟨k, hk, hko⟩ := h2'
    exact ⟨i, k, h1, List.mem_range.mp hk, by simpa using hko⟩
  · exact .inr ⟨fun i k hi hk => by simpa using List.all_eq_true.mp (h1 i hi) k (List.mem_range.mpr hk), h2⟩

/-- Two windows have no place in common. -/
def apart (v w : Wi) : Prop := v.1 + v.2.1 ≤ w.1 ∨ w.1 + w.2.1 ≤ v.1

theorem toL_mem {α : Type} (x : L α) (a : α) : a ∈ toL x ↔ ∃ i, i < x.len ∧ x.get i = a := by
  unfold toL
  rw [List.mem_map]
  constructor
  · rintro ⟨i, hi, rfl⟩; exact ⟨i, List.mem_range.mp hi, rfl⟩
  · rintro ⟨i, hi, rfl⟩; exact ⟨i, List.mem_range.mpr hi, rfl⟩

theorem toL_getElem {α : Type} (x : L α) (i : Nat) (h : i < (toL x).length) : (toL x)[i] = x.get i := by
  have := toL_get x i
  rw [List.getElem?_eq_getElem h, if_pos (by rw [toL_len] at h; exact h)] at this
  exact Option.some.inj this

theorem toL_take_succ {α : Type} (x : L α) {i : Nat} (h : i < x.len) : (toL x).take (i + 1) = (toL x).take i ++ [x.get i] := by
  have hn : i < (toL x).length := by rw [toL_len]; exact h
  rw [List.take_succ_eq_append_getElem hn, toL_getElem]

theorem toL_take_len {α : Type} (x : L α) : (toL x).take x.len = toL x := by
  rw [← toL_len x]; exact List.take_length

theorem winsOf_prefix (x : L PR) {i n : Nat} (h : i ≤ n) (hn : n ≤ x.len) : ∃ r, winsOf x n = winsOf x i ++ r := by
  induction n with
  | zero => have : i = 0 := by omega
            subst this; exact ⟨[], (List.append_nil _).symm⟩
  | succ n ih =>
    by_cases e : i = n + 1
    · subst e; exact ⟨[], (List.append_nil _).symm⟩
    · obtain ⟨r, hr⟩ := ih (by omega) (by omega)
      refine ⟨r ++ toL (x.get n).2.2.2.1, ?_⟩
      rw [winsOf_succ x (by omega), hr, List.append_assoc]

/-- Is a row's window that overlaps there. -/
theorem overlaps (a : L Wi) (ha : a.len ≤ 2 ^ 47) (w : Wi) (hw : f308 w = true) (hg : ∀ v, v ∈ toL a → f308 v = true) :
    (g232_233 a (w, ()) = some ((true, ()), ()) ∧ ¬ ∀ v, v ∈ toL a → apart v w) ∨ (g232_233 a (w, ()) = some ((false, ()), ()) ∧ ∀ v, v ∈ toL a → apart v w) := by
  have h := index_loop (step := s304_233_L0) (x := a) (c := (w, ())) (fun i => f233 (a.get i) w) (fun i hi => by
    simp only [s304_233_L0, q304_233_L0]
    refine (bif_t (idx_lt hi)).trans ((bif_t (idx_in hi)).trans ?_)
    rw [wI_succ hi ha, Int.toNat_natCast]
    by_cases hf : f233 (a.get i) w = true
    · rw [if_pos hf]; exact bif_t hf
    · rw [if_neg hf]; exact bif_f (by simpa using hf)) (by
    simp only [s304_233_L0, q304_233_L0]
    exact bif_f (idx_end a.len))
  have hf : ∀ i, i < a.len → (f233 (a.get i) w = false ↔ apart (a.get i) w) := fun i hi => by
    have := f234_iff (a.get i) w (hg _ ((toL_mem _ _).mpr ⟨i, hi, rfl⟩)) hw
    unfold f233 apart
    rw [← this]
    cases f234 (a.get i) w <;> simp
  unfold g232_233 g304_233
  rcases h with ⟨i, h1, h2, h3, h4⟩ | ⟨h1, h2⟩
  · left
    rw [h4]
    refine ⟨by simp, fun q => ?_⟩
    have := (hf i h1).mpr (q _ ((toL_mem _ _).mpr ⟨i, h1, rfl⟩))
    rw [this] at h2; cases h2
  · right
    rw [h2]
    refine ⟨by simp, fun v hv => ?_⟩
    obtain ⟨i, hi, rfl⟩ := (toL_mem _ _).mp hv
    exact (hf i hi).mp (h1 i hi)

/-- The window of a row that has an address. -/
theorem winAt (a : L Wi) (ha : a.len ≤ 2 ^ 47) (x : Int) :
    (∃ i : Nat, i < a.len ∧ f343 (a.get i) x = true ∧ (∀ j, j < i → f343 (a.get j) x = false) ∧ g305 a x = some (((i : Int), ()), ())) ∨ ((∀ i, i < a.len → f343 (a.get i) x = false) ∧ g305 a x = some ((-1, ()), ())) := by
  have e95 : ∀ w : Wi, f344 w x = f343 w x := fun w => rfl
  have h := index_loop (step := s304_344_L0) (x := a) (c := (x, ())) (fun i => f343 (a.get i) x) (fun i hi => by
    simp only [s304_344_L0, q304_344_L0]
    refine (bif_t (idx_lt hi)).trans ((bif_t (idx_in hi)).trans ?_)
    rw [wI_succ hi ha, Int.toNat_natCast]
    by_cases hf : f343 (a.get i) x = true
    · rw [if_pos hf]; exact bif_t hf
    · rw [if_neg hf]
      have hf' : f343 (a.get i) x = false := by simpa using hf
      exact bif_f hf') (by
    simp only [s304_344_L0, q304_344_L0]
    exact bif_f (idx_end a.len))
  unfold g305 g304_344
  rcases h with ⟨i, h1, h2, h3, h4⟩ | ⟨h1, h2⟩
  · left
    rw [h4]
    exact ⟨i, h1, h2, h3, rfl⟩
  · right
    rw [h2]
    exact ⟨h1, rfl⟩

/-- A window of a partition that may be run, and has an address. -/
def ins (w : Wi) (x : Int) : Prop := f343 w x = true ∧ wI (Int.tdiv w.2.2.1 4) = 1

theorem perm4 (n : Int) (h : 1 ≤ n ∧ n ≤ 7) : (andOf .i64 n 4 != 0) = (wI (Int.tdiv n 4) == 1) := by
  obtain ⟨h1, h2⟩ := h
  have : n = 1 ∨ n = 2 ∨ n = 3 ∨ n = 4 ∨ n = 5 ∨ n = 6 ∨ n = 7 := by omega
  rcases this with rfl | rfl | rfl | rfl | rfl | rfl | rfl <;> decide +kernel

theorem runs (p : PR) (hl : p.2.2.2.1.len ≤ 2 ^ 47) (x : Int) (hg : ∀ i, i < p.2.2.2.1.len → f308 (p.2.2.2.1.get i) = true) (hp : (toL p.2.2.2.1).Pairwise apart) :
    ∃ b, g235 p x = some ((b, ()), ()) ∧ (b = true ↔ ∃ i, i < p.2.2.2.1.len ∧ ins (p.2.2.2.1.get i) x) := by
  unfold g235
  rcases winAt p.2.2.2.1 hl x with ⟨i, h1, h2, h3, h4⟩ | ⟨h1, h2⟩
  · rw [h4]
    refine ⟨andOf .i64 (p.2.2.2.1.get i).2.2.1 4 != 0, ?_, ?_⟩
    · simp only [Option.bind_some]
      refine (bif_t (by simp)).trans ((bif_t (idx_in h1)).trans ?_)
      rw [Int.toNat_natCast]
    · rw [perm4 _ ((f308_iff _).mp (hg i h1)).2.2.2.2.2]
      constructor
      · intro h; exact ⟨i, h1, h2, by simpa using h⟩
      · rintro ⟨j, hj, q1, q2⟩
        have : j = i := by
          by_cases e : j = i
          · exact e
          have a1 := (f343_iff _ x (hg i h1)).mp h2
          have a2 := (f343_iff _ x (hg j hj)).mp q1
          have hlen : (toL p.2.2.2.1).length = p.2.2.2.1.len := toL_len _
          have hall := List.pairwise_iff_getElem.mp hp
          rcases Nat.lt_or_gt_of_ne e with lt | gt
          · have := hall j i (by rw [hlen]; exact hj) (by rw [hlen]; exact h1) lt
            rw [toL_getElem, toL_getElem] at this
            unfold apart at this
            omega
          · have := hall i j (by rw [hlen]; exact h1) (by rw [hlen]; exact hj) gt
            rw [toL_getElem, toL_getElem] at this
            unfold apart at this
            omega
        subst this
        simpa using q2
  · rw [h2]
    refine ⟨false, ?_, ?_⟩
    · simp only [Option.bind_some]
      exact bif_f (by decide)
    · simp only [Bool.false_eq_true, false_iff, not_exists, not_and]
      intro i hi q
      have q1 := q.1
      rw [h1 i hi] at q1
      cases q1

/-- Is a text the name of a partition. -/
noncomputable def nm (s : ByteArray) : Bool := open Classical in decide (g342 s = some ((true, ()), ()))

theorem nm_of (s : ByteArray) (hw : s.size ≤ 2 ^ 47) : g342 s = some ((nm s, ()), ()) ∧ g228 s = some ((nm s, ()), ()) := by
  obtain ⟨b, h1, h2⟩ := names s hw
  have : nm s = b := by
    unfold nm
    rw [h1]
    cases b <;> simp
  rw [this]; exact ⟨h1, h2⟩

/-- A partition that is right, but for what it has in common with others. -/
def PartG (p : PR) (mem : Int) : Prop :=
  nm p.1 = true ∧ f335 p.2.2.1 = true ∧ (1 ≤ p.2.2.2.1.len ∧ p.2.2.2.1.len ≤ 4) ∧ (∀ j, j < p.2.2.2.1.len → f308 (p.2.2.2.1.get j) = true ∧ (p.2.2.2.1.get j).1 + (p.2.2.2.1.get j).2.1 ≤ mem) ∧
    (∃ j, j < p.2.2.2.1.len ∧ ins (p.2.2.2.1.get j) p.2.1) ∧ Int.tmod p.2.1 4 = 0

theorem partok (p : PR) (mem : Int) (hs : p.1.size ≤ 2 ^ 47) : ∃ b, g295 p mem = some ((b, ()), ()) ∧ (b = true ↔ PartG p mem) := by
  unfold g295 PartG
  rw [(nm_of p.1 hs).1]
  simp only [Option.bind_some]
  cases h1 : nm p.1 with
  | false => exact ⟨false, rfl, by simp⟩
  | true =>
    cases h2 : f335 p.2.2.1 with
    | false => exact ⟨false, rfl, by simp⟩
    | true =>
      cases h3 : f97 (p.2.2.2.1.len : Int) 1 4 with
      | false =>
        refine ⟨false, rfl, ?_⟩
        have : ¬ (1 ≤ p.2.2.2.1.len ∧ p.2.2.2.1.len ≤ 4) := fun q => by
          rw [(f97_iff _ _ _).mpr (by omega)] at h3; cases h3
        simp only [Bool.false_eq_true, false_iff]
        rintro ⟨_, _, q, _⟩
        exact this q
      | true =>
        have h3' : 1 ≤ p.2.2.2.1.len ∧ p.2.2.2.1.len ≤ 4 := by
          have := (f97_iff _ _ _).mp h3
          omega
        simp only [Bool.not_true, cond_false]
        generalize hwn : p.2.2.2.1 = wn at *
        have hgood : ∀ j, (!(f308 (wn.get j))) = false → decide (wI ((wn.get j).1 + (wn.get j).2.1) > mem) = false → f308 (wn.get j) = true ∧ (wn.get j).1 + (wn.get j).2.1 ≤ mem := fun j a b => by
          have a' : f308 (wn.get j) = true := by simpa using a
          have := (f308_iff _).mp a'
          rw [wI_id (by omega) (by omega)] at b
          exact ⟨a', by simpa using b⟩
        obtain ⟨d, e1, e2⟩ := fixO_rel (step := s295_L0) (fun a => wn.len - a.1.2.2.2.1.toNat)
          (fun a => ∃ (i : Nat) (fl : Bool), a = ((mem, ((), (fl, ((i : Int), ())))), (p, ())) ∧ i ≤ wn.len ∧ (∀ j, j < i → f308 (wn.get j) = true ∧ (wn.get j).1 + (wn.get j).2.1 ≤ mem) ∧ (fl = true ↔ ∃ j, j < i ∧ ins (wn.get j) p.2.1))
          (fun _ d => (d = .inl ((false, ()), ()) ∧ ¬ ∀ j, j < wn.len → f308 (wn.get j) = true ∧ (wn.get j).1 + (wn.get j).2.1 ≤ mem) ∨
            ∃ fl : Bool, d = .inr (.inl (((), (fl, ())), (p, ()))) ∧ (∀ j, j < wn.len → f308 (wn.get j) = true ∧ (wn.get j).1 + (wn.get j).2.1 ≤ mem) ∧ (fl = true ↔ ∃ j, j < wn.len ∧ ins (wn.get j) p.2.1)) (by
            rintro _ ⟨i, fl, rfl, hi, ha, hf⟩
            by_cases h : i < wn.len
            · simp only [s295_L0, q295_L0]
              rw [hwn, bif_t (idx_lt h), bif_t (idx_in h), wI_succ h (by omega), Int.toNat_natCast]
              cases g1 : (!(f308 (wn.get i))) with
              | true =>
                right
                refine ⟨_, rfl, .inl ⟨rfl, fun q => ?_⟩⟩
                have := (q i h).1
                rw [this] at g1; cases g1
              | false =>
                cases g2 : decide (wI ((wn.get i).1 + (wn.get i).2.1) > mem) with
                | true =>
                  right
                  refine ⟨_, rfl, .inl ⟨rfl, fun q => ?_⟩⟩
                  have h1 := (q i h).1
                  have h2 := (q i h).2
                  have := (f308_iff _).mp h1
                  rw [wI_id (by omega) (by omega)] at g2
                  have := of_decide_eq_true g2
                  omega
                | false =>
                  left
                  have hg := hgood i g1 g2
                  have ha' : ∀ j, j < i + 1 → f308 (wn.get j) = true ∧ (wn.get j).1 + (wn.get j).2.1 ≤ mem := fun j hj => by
                    by_cases e : j = i
                    · rw [e]; exact hg
                    · exact ha j (by omega)
                  have hm : wn.len - (((i + 1 : Nat) : Int)).toNat < wn.len - ((i : Int)).toNat := by simp only [Int.toNat_natCast]; omega
                  have up : ¬ ins (wn.get i) p.2.1 → (fl = true ↔ ∃ j, j < i + 1 ∧ ins (wn.get j) p.2.1) := fun hn => by
                    rw [hf]
                    constructor
                    · rintro ⟨j, hj, q⟩; exact ⟨j, by omega, q⟩
                    · rintro ⟨j, hj, q⟩
                      by_cases e : j = i
                      · rw [e] at q; exact absurd q hn
                      · exact ⟨j, by omega, q⟩
                  cases g3 : f343 (wn.get i) p.2.1 with
                  | false =>
                    exact ⟨_, rfl, ⟨i + 1, fl, rfl, h, ha', up (fun q => by rw [q.1] at g3; cases g3)⟩, hm, fun d hd => hd⟩
                  | true =>
                    cases g4 : (wI (Int.tdiv (wn.get i).2.2.1 4) == 1) with
                    | false =>
                      exact ⟨_, rfl, ⟨i + 1, fl, rfl, h, ha', up (fun q => by rw [q.2] at g4; cases g4)⟩, hm, fun d hd => hd⟩
                    | true =>
                      exact ⟨_, rfl, ⟨i + 1, true, rfl, h, ha', ⟨fun _ => ⟨i, by omega, g3, by simpa using g4⟩, fun _ => rfl⟩⟩, hm, fun d hd => hd⟩
            · right
              have : i = wn.len := by omega
              subst this
              simp only [s295_L0, q295_L0]
              rw [hwn, bif_f (idx_end wn.len)]
              exact ⟨_, rfl, .inr ⟨fl, rfl, ha, hf⟩⟩)
          ((mem, ((), (false, ((0 : Int), ())))), (p, ())) ⟨0, false, rfl, Nat.zero_le _, fun j hj => absurd hj (Nat.not_lt_zero _), by simp⟩
        rw [e1]
        simp only [Option.bind_some]
        rcases e2 with ⟨rfl, hn⟩ | ⟨fl, rfl, hy, hfl⟩
        · refine ⟨false, rfl, ?_⟩
          simp only [Bool.false_eq_true, false_iff]
          rintro ⟨_, _, _, q, _⟩
          exact hn q
        · cases fl with
          | false =>
            refine ⟨false, rfl, ?_⟩
            simp only [Bool.false_eq_true, false_iff] at hfl ⊢
            rintro ⟨_, _, _, _, q, _⟩
            exact hfl q
          | true =>
            refine ⟨Int.tmod p.2.1 4 == 0, rfl, ?_⟩
            rw [beq_iff_eq]
            exact ⟨fun q => ⟨trivial, trivial, h3', hy, hfl.mp rfl, q⟩, fun q => q.2.2.2.2.2⟩

theorem toL_one (w : Wi) (z : Wi) : toL (L.of z [w]) = [w] := rfl
theorem toL_nil : toL (nilL (.pair (.int .i64) (.pair (.int .i64) (.pair (.int .i64) .unit)))) = ([] : List Wi) := rfl

/-- The windows of one partition, against all that came ahead. -/
theorem inner (t : Tb) (p : PR) (n i : Int) (a0 : L Wi) (hl : p.2.2.2.1.len ≤ 4) (ha0 : a0.len ≤ 20) (hg0 : ∀ v, v ∈ toL a0 → f308 v = true) (hp0 : (toL a0).Pairwise apart) :
    ∃ d, fixO s140_L2 (((), ((), ((), (tParts t, (n, (i, (p.2.2.2.1, ((p.2.2.2.1.len : Int), ((0 : Int), ()))))))))), (t, (a0, (p, ())))) = some d ∧
      ((d = .inl ((false, ()), ()) ∧ ¬ ((∀ j, j < p.2.2.2.1.len → f308 (p.2.2.2.1.get j) = true ∧ (p.2.2.2.1.get j).1 + (p.2.2.2.1.get j).2.1 ≤ t.1) ∧ (toL a0 ++ toL p.2.2.2.1).Pairwise apart)) ∨
       ∃ a1 : L Wi, d = .inr (.inl (((), ((), ((), (tParts t, (n, (i, ())))))), (t, (a1, (p, ()))))) ∧ toL a1 = toL a0 ++ toL p.2.2.2.1 ∧
        (∀ j, j < p.2.2.2.1.len → f308 (p.2.2.2.1.get j) = true ∧ (p.2.2.2.1.get j).1 + (p.2.2.2.1.get j).2.1 ≤ t.1) ∧ (toL a1).Pairwise apart) := by
  generalize hwn : p.2.2.2.1 = wn at *
  refine fixO_rel (step := s140_L2) (fun x => wn.len - x.1.2.2.2.2.2.2.2.2.1.toNat)
    (fun x => ∃ (j : Nat) (a : L Wi), x = (((), ((), ((), (tParts t, (n, (i, (wn, ((wn.len : Int), ((j : Int), ()))))))))), (t, (a, (p, ())))) ∧ j ≤ wn.len ∧ toL a = toL a0 ++ (toL wn).take j ∧ a.len = a0.len + j ∧
      (∀ k, k < j → f308 (wn.get k) = true ∧ (wn.get k).1 + (wn.get k).2.1 ≤ t.1) ∧ (toL a).Pairwise apart)
    (fun _ d => (d = .inl ((false, ()), ()) ∧ ¬ ((∀ j, j < wn.len → f308 (wn.get j) = true ∧ (wn.get j).1 + (wn.get j).2.1 ≤ t.1) ∧ (toL a0 ++ toL wn).Pairwise apart)) ∨
       ∃ a1 : L Wi, d = .inr (.inl (((), ((), ((), (tParts t, (n, (i, ())))))), (t, (a1, (p, ()))))) ∧ toL a1 = toL a0 ++ toL wn ∧
        (∀ j, j < wn.len → f308 (wn.get j) = true ∧ (wn.get j).1 + (wn.get j).2.1 ≤ t.1) ∧ (toL a1).Pairwise apart) ?_ _ ⟨0, a0, rfl, Nat.zero_le _, by simp, rfl, fun k hk => absurd hk (Nat.not_lt_zero _), hp0⟩
  rintro _ ⟨j, a, rfl, hj, ht, hlen, hg, hp⟩
  have e110 : ∀ w, f231 w = f308 w := f231_308
  by_cases h : j < wn.len
  · simp only [s140_L2, q140_L2]
    rw [bif_t (idx_lt h), bif_t (idx_in h), wI_succ h (by omega), Int.toNat_natCast, e110]
    cases g1 : f308 (wn.get j) with
    | false =>
      right
      exact ⟨_, rfl, .inl ⟨rfl, fun q => by have := (q.1 j h).1; rw [this] at g1; cases g1⟩⟩
    | true =>
      have hw := (f308_iff _).mp g1
      rw [bif_f (show (!true) = false from rfl), wI_id (by omega) (by omega)]
      cases g2 : decide ((wn.get j).1 + (wn.get j).2.1 > t.1) with
      | true =>
        right
        refine ⟨_, rfl, .inl ⟨rfl, fun q => ?_⟩⟩
        have := (q.1 j h).2
        have := of_decide_eq_true g2
        omega
      | false =>
        have g2' := of_decide_eq_false g2
        rw [bif_f rfl]
        have hga : ∀ v, v ∈ toL a → f308 v = true := fun v hv => by
          rw [ht, List.mem_append] at hv
          rcases hv with hv | hv
          · exact hg0 v hv
          · obtain ⟨k, hk, rfl⟩ := (toL_mem _ _).mp (List.mem_of_mem_take hv)
            obtain ⟨k', hk', e⟩ := List.mem_iff_getElem.mp hv
            rw [List.getElem_take, toL_getElem] at e
            rw [← e]
            exact (hg k' (by rw [List.length_take] at hk'; omega)).1
        rcases overlaps a (by omega) (wn.get j) g1 hga with ⟨o1, o2⟩ | ⟨o1, o2⟩
        · rw [o1]
          right
          refine ⟨_, rfl, .inl ⟨rfl, fun q => o2 fun v hv => ?_⟩⟩
          have hq := q.2
          rw [← toL_take_len wn] at hq
          have hpre : ∃ r, toL wn = (toL wn).take j ++ wn.get j :: r := by
            have hn : j < (toL wn).length := by rw [toL_len]; exact h
            refine ⟨(toL wn).drop (j + 1), ?_⟩
            rw [← toL_getElem wn j hn, List.getElem_cons_drop, List.take_append_drop]
          rw [toL_take_len] at hq
          obtain ⟨r, hr⟩ := hpre
          rw [hr, ← List.append_assoc, ← ht, List.pairwise_append] at hq
          exact hq.2.2 v hv _ (List.mem_cons_self ..)
        · rw [o1]
          left
          simp only [Option.bind_some, cond_false]
          have hm : decide (a.len + (L.of (Ty.zero (.pair (.int .i64) (.pair (.int .i64) (.pair (.int .i64) .unit)))) [wn.get j]).len ≤ most) = true := by
            have h32 : most = 4294967296 := rfl
            rw [h32]
            have : (L.of (Ty.zero (.pair (.int .i64) (.pair (.int .i64) (.pair (.int .i64) .unit)))) [wn.get j]).len = 1 := rfl
            rw [this]
            exact decide_eq_true (by omega)
          refine ⟨_, bif_t hm, ⟨j + 1, _, rfl, h, ?_, ?_, ?_, ?_⟩, by simp only [Int.toNat_natCast]; omega, fun d hd => hd⟩
          · rw [toL_app, ht, toL_take_succ wn h, List.append_assoc]; rfl
          · show a.len + 1 = _
            omega
          · intro k hk
            by_cases e : k = j
            · rw [e]; exact ⟨g1, by omega⟩
            · exact hg k (by omega)
          · rw [toL_app, List.pairwise_append]
            refine ⟨hp, ?_, ?_⟩
            · show List.Pairwise apart [wn.get j]
              exact List.pairwise_singleton _ _
            · intro v hv w hw'
              have : w = wn.get j := List.mem_singleton.mp hw'
              rw [this]
              exact o2 v hv
  · right
    have : j = wn.len := by omega
    subst this
    simp only [s140_L2, q140_L2]
    rw [bif_f (idx_end wn.len)]
    refine ⟨_, rfl, .inr ⟨a, rfl, ?_, hg, hp⟩⟩
    rw [ht, toL_take_len]

/-- The partitions are right. -/
def Parts (x : L PR) (mem : Int) : Prop :=
  (∀ i, i < x.len → PartG (x.get i) mem ∧ ∀ q, q < i → strEq (x.get q).1 (x.get i).1 = false) ∧ (winsOf x x.len).Pairwise apart

theorem winsOf_good (x : L PR) (mem : Int) {n : Nat} (hn : n ≤ x.len) (h : ∀ i, i < n → PartG (x.get i) mem) : ∀ v, v ∈ winsOf x n → f308 v = true := by
  intro v hv
  unfold winsOf at hv
  rw [List.mem_flatMap] at hv
  obtain ⟨p, hp, hv⟩ := hv
  obtain ⟨k, hk, e⟩ := List.mem_iff_getElem.mp hp
  rw [List.getElem_take, toL_getElem] at e
  subst e
  obtain ⟨j, hj, rfl⟩ := (toL_mem _ _).mp hv
  exact ((h k (by rw [List.length_take] at hk; omega)).2.2.2.1 j hj).1

theorem strEq_self (s : ByteArray) : strEq s s = true := by unfold strEq; simp

/-- The program's look at the partitions. -/
theorem impParts (t : Tb) (hn : (tParts t).len ≤ 6) (hs : ∀ i, i < (tParts t).len → ((tParts t).get i).1.size ≤ 2 ^ 47) (hw : ∀ i, i < (tParts t).len → ((tParts t).get i).2.2.2.1.len ≤ 2 ^ 47) :
    ∃ b, g140 t = some ((b, ()), ()) ∧ (b = true ↔ Parts (tParts t) t.1) := by
  generalize hx : tParts t = x at *
  have hx' : t.2.2.2.2.2.2.2.1 = x := hx
  obtain ⟨d, e1, e2⟩ := fixO_rel (step := s140_L0) (fun a => x.len - a.1.2.2.2.2.1.toNat)
    (fun a => ∃ (i : Nat) (all : L Wi), a = (((), (all, (x, ((x.len : Int), ((i : Int), ()))))), (t, ())) ∧ i ≤ x.len ∧ toL all = winsOf x i ∧ all.len ≤ 4 * i ∧
      (∀ k, k < i → PartG (x.get k) t.1 ∧ ∀ q, q < k → strEq (x.get q).1 (x.get k).1 = false) ∧ (toL all).Pairwise apart)
    (fun _ d => (d = .inl ((false, ()), ()) ∧ ¬ Parts x t.1) ∨ (d = .inr (.inl ((), ())) ∧ Parts x t.1)) (by
      rintro _ ⟨i, all, rfl, hi, ht, hlen, hp, hap⟩
      by_cases h : i < x.len
      · simp only [s140_L0, q140_L0]
        rw [bif_t (idx_lt h), bif_t (idx_in h), Int.toNat_natCast, (nm_of _ (hs i h)).2]
        simp only [Option.bind_some]
        cases g1 : nm (x.get i).1 with
        | false =>
          right
          exact ⟨_, rfl, .inl ⟨rfl, fun q => by have := (q.1 i h).1.1; rw [this] at g1; cases g1⟩⟩
        | true =>
          rw [bif_f (show (!true) = false from rfl)]
          obtain ⟨n, n1, n2⟩ := named t (by rw [hx]; omega) (x.get i).1
          rw [hx] at n2
          rw [n1]
          simp only [Option.bind_some]
          cases g2 : decide (n < (i : Int)) with
          | true =>
            right
            refine ⟨_, rfl, .inl ⟨rfl, fun q => ?_⟩⟩
            have g2 := of_decide_eq_true g2
            rcases n2 with ⟨k, k1, k2, k3, _⟩ | ⟨_, k2⟩
            · have := (q.1 i h).2 k (by omega)
              rw [k3] at this; cases this
            · have := k2 i h
              rw [strEq_self] at this; cases this
          | false =>
            have g2 := of_decide_eq_false g2
            have hd : ∀ q, q < i → strEq (x.get q).1 (x.get i).1 = false := by
              rcases n2 with ⟨k, k1, _, _, k4⟩ | ⟨k1, _⟩
              · intro q hq; exact k4 q (by omega)
              · omega
            have e109 : f230 (x.get i).2.2.1 = f335 (x.get i).2.2.1 := policies _
            rw [bif_f rfl, e109, f136_97]
            cases g3 : f335 (x.get i).2.2.1 with
            | false =>
              right
              exact ⟨_, rfl, .inl ⟨rfl, fun q => by have := (q.1 i h).1.2.1; rw [this] at g3; cases g3⟩⟩
            | true =>
              rw [bif_f (show (!true) = false from rfl)]
              cases g4 : f97 ((x.get i).2.2.2.1.len : Int) 1 4 with
              | false =>
                right
                refine ⟨_, rfl, .inl ⟨rfl, fun q => ?_⟩⟩
                have := (q.1 i h).1.2.2.1
                rw [(f97_iff _ _ _).mpr (by omega)] at g4; cases g4
              | true =>
                have g4 : 1 ≤ (x.get i).2.2.2.1.len ∧ (x.get i).2.2.2.1.len ≤ 4 := by
                  have := (f97_iff _ _ _).mp g4
                  omega
                rw [bif_f (show (!true) = false from rfl)]
                obtain ⟨d, i1, i2⟩ := inner t (x.get i) (x.len : Int) (i : Int) all g4.2 (by omega) (fun v hv => winsOf_good x t.1 (n := i) (by omega) (fun k hk => (hp k hk).1) v (by rw [← ht]; exact hv)) hap
                rw [hx] at i1
                rw [i1]
                simp only [Option.bind_some]
                have hsucc := winsOf_succ x h
                rcases i2 with ⟨rfl, i2⟩ | ⟨a1, rfl, i2, i3, i4⟩
                · right
                  refine ⟨_, rfl, .inl ⟨rfl, fun q => i2 ⟨(q.1 i h).1.2.2.2.1, ?_⟩⟩⟩
                  obtain ⟨r, hr⟩ := winsOf_prefix x (i := i + 1) (n := x.len) (by omega) (Nat.le_refl _)
                  have := q.2
                  rw [hr, List.pairwise_append] at this
                  rw [ht, ← hsucc]
                  exact this.1
                · simp only [hx]
                  cases g5 : (Int.tmod (x.get i).2.1 4 != 0) with
                  | true =>
                    right
                    refine ⟨_, rfl, .inl ⟨rfl, fun q => ?_⟩⟩
                    have := (q.1 i h).1.2.2.2.2.2
                    rw [this] at g5; cases g5
                  | false =>
                    have g5 : Int.tmod (x.get i).2.1 4 = 0 := by simpa using g5
                    have hpw : (toL (x.get i).2.2.2.1).Pairwise apart := by
                      rw [i2, List.pairwise_append] at i4
                      exact i4.2.1
                    obtain ⟨b, r1, r2⟩ := runs (x.get i) (hw i h) (x.get i).2.1 (fun j hj => (i3 j hj).1) hpw
                    rw [bif_f rfl, r1]
                    simp only [Option.bind_some]
                    cases b with
                    | false =>
                      right
                      refine ⟨_, rfl, .inl ⟨rfl, fun q => ?_⟩⟩
                      have := r2.mpr (q.1 i h).1.2.2.2.2.1
                      cases this
                    | true =>
                      left
                      rw [bif_f (show (!true) = false from rfl), wI_succ h (by omega)]
                      refine ⟨_, rfl, ⟨i + 1, a1, rfl, h, ?_, ?_, ?_, i4⟩, by simp only [Int.toNat_natCast]; omega, fun d hd => hd⟩
                      · rw [hsucc, i2, ht]
                      · have l1 : (toL a1).length = a1.len := toL_len _
                        rw [i2, List.length_append, toL_len, toL_len] at l1
                        omega
                      · intro k hk
                        by_cases e : k = i
                        · subst e
                          exact ⟨⟨g1, g3, g4, i3, r2.mp rfl, g5⟩, hd⟩
                        · exact hp k (by omega)
      · right
        have : i = x.len := by omega
        subst this
        simp only [s140_L0, q140_L0]
        rw [bif_f (idx_end x.len)]
        refine ⟨_, rfl, .inr ⟨rfl, hp, ?_⟩⟩
        rw [← ht]; exact hap)
    (((), ((nilL (.pair (.int .i64) (.pair (.int .i64) (.pair (.int .i64) .unit)))), (x, ((x.len : Int), ((0 : Int), ()))))), (t, ()))
    ⟨0, _, rfl, Nat.zero_le _, toL_nil, Nat.zero_le _, fun k hk => absurd hk (Nat.not_lt_zero _), by rw [toL_nil]; exact List.Pairwise.nil⟩
  unfold g140
  rw [hx', e1]
  simp only [Option.bind_some]
  rcases e2 with ⟨rfl, h⟩ | ⟨rfl, h⟩
  · exact ⟨false, rfl, by simpa using h⟩
  · exact ⟨true, rfl, by simpa using h⟩

/-- Names apart, as the reference asks it. -/
theorem namesApart (t : Tb) (i : Nat) (h : i < (tParts t).len) (hn : (tParts t).len ≤ 6) :
    (fixO s221_L2 (((), ((i : Int), ((0 : Int), ()))), (t, ())) = some (.inl ((false, ()), ())) ∧ ¬ ∀ q, q < i → strEq ((tParts t).get q).1 ((tParts t).get i).1 = false) ∨
    (fixO s221_L2 (((), ((i : Int), ((0 : Int), ()))), (t, ())) = some (.inr (.inl (((), ((i : Int), ())), (t, ())))) ∧ ∀ q, q < i → strEq ((tParts t).get q).1 ((tParts t).get i).1 = false) := by
  have h1 := scan (step := s221_L2) (fun k => (((), ((i : Int), ((k : Int), ()))), (t, ()))) i (fun k => !strEq ((tParts t).get k).1 ((tParts t).get i).1) (fun _ => .inl ((false, ()), ())) (.inr (.inl (((), ((i : Int), ())), (t, ()))))
    (fun k hk ho => by
      have ho' : strEq ((tParts t).get ((k : Int)).toNat).1 ((tParts t).get ((i : Int)).toNat).1 = false := by rw [Int.toNat_natCast, Int.toNat_natCast]; simpa using ho
      simp only [s221_L2, q221_L2]
      refine (bif_t (idx_lt hk)).trans ((bif_t (idx_in (n := (tParts t).len) (by omega))).trans ((bif_t (idx_in h)).trans ((bif_f ho').trans ?_)))
      rw [wI_succ hk (by omega)])
    (fun k hk ho => by
      have ho' : strEq ((tParts t).get ((k : Int)).toNat).1 ((tParts t).get ((i : Int)).toNat).1 = true := by rw [Int.toNat_natCast, Int.toNat_natCast]; simpa using ho
      simp only [s221_L2, q221_L2]
      exact (bif_t (idx_lt hk)).trans ((bif_t (idx_in (n := (tParts t).len) (by omega))).trans ((bif_t (idx_in h)).trans (bif_t ho'))))
    (by
      simp only [s221_L2, q221_L2]
      exact bif_f (idx_end i))
  rcases h1 with ⟨k, hk, ho, _, e1⟩ | ⟨ha, e1⟩
  · exact .inl ⟨e1, fun q => by have := q k hk; rw [this] at ho; cases ho⟩
  · exact .inr ⟨e1, fun q hq => by simpa using ha q hq⟩

/-- The reference's look at the partitions. -/
theorem refParts (t : Tb) (hn : (tParts t).len ≤ 6) (hs : ∀ i, i < (tParts t).len → ((tParts t).get i).1.size ≤ 2 ^ 47) (h1 : 1 ≤ (tParts t).len) :
    ∃ b, g221 t = some ((b, ()), ()) ∧ (b = true ↔ Parts (tParts t) t.1) := by
  have hok : ∀ i, i < (tParts t).len → (open Classical in decide (PartG ((tParts t).get i) t.1 ∧ ∀ q, q < i → strEq ((tParts t).get q).1 ((tParts t).get i).1 = false)) = true → PartG ((tParts t).get i) t.1 ∧ ∀ q, q < i → strEq ((tParts t).get q).1 ((tParts t).get i).1 = false :=
    fun i hi h => by simpa using h
  have l0 := scan (step := s221_L0) (fun i => (((), ((i : Int), ())), (t, ()))) (tParts t).len (fun i => open Classical in decide (PartG ((tParts t).get i) t.1 ∧ ∀ q, q < i → strEq ((tParts t).get q).1 ((tParts t).get i).1 = false)) (fun _ => .inl ((false, ()), ())) (.inr (.inl (((), ()), (t, ()))))
    (fun i hi ho => by
      obtain ⟨o1, o2⟩ := hok i hi ho
      obtain ⟨b, p1, p2⟩ := partok ((tParts t).get i) t.1 (hs i hi)
      have hb : b = true := p2.mpr o1
      subst hb
      simp only [s221_L0, q221_L0]
      refine (bif_t (idx_lt hi)).trans ((bif_t (idx_in hi)).trans ?_)
      rw [Int.toNat_natCast]
      have p1' : g295 (L.get t.2.2.2.2.2.2.2.1 i) t.1 = some ((true, ()), ()) := p1
      rw [p1']
      simp only [Option.bind_some]
      rw [bif_f (show (!true) = false from rfl)]
      rcases namesApart t i hi hn with ⟨_, n2⟩ | ⟨n1, _⟩
      · exact absurd o2 n2
      · rw [n1]
        simp only [Option.bind_some]
        rw [wI_succ hi (by omega)])
    (fun i hi ho => by
      have ho : ¬ (PartG ((tParts t).get i) t.1 ∧ ∀ q, q < i → strEq ((tParts t).get q).1 ((tParts t).get i).1 = false) := by simpa using ho
      obtain ⟨b, p1, p2⟩ := partok ((tParts t).get i) t.1 (hs i hi)
      simp only [s221_L0, q221_L0]
      refine (bif_t (idx_lt hi)).trans ((bif_t (idx_in hi)).trans ?_)
      rw [Int.toNat_natCast]
      have p1' : g295 (L.get t.2.2.2.2.2.2.2.1 i) t.1 = some ((b, ()), ()) := p1
      rw [p1']
      simp only [Option.bind_some]
      cases b with
      | false => rfl
      | true =>
        rw [bif_f (show (!true) = false from rfl)]
        rcases namesApart t i hi hn with ⟨n1, _⟩ | ⟨_, n2⟩
        · rw [n1]; rfl
        · exact absurd ⟨p2.mp rfl, n2⟩ ho)
    (by
      simp only [s221_L0, q221_L0]
      exact bif_f (idx_end (tParts t).len))
  unfold g221
  have hl : f97 (t.2.2.2.2.2.2.2.1.len : Int) 1 6 = true := (f97_iff _ _ _).mpr (by unfold tParts at hn h1; omega)
  rw [hl, bif_f (show (!true) = false from rfl)]
  rcases l0 with ⟨i, hi, ho, _, e1⟩ | ⟨ha, e1⟩
  · have ho : ¬ (PartG ((tParts t).get i) t.1 ∧ ∀ q, q < i → strEq ((tParts t).get q).1 ((tParts t).get i).1 = false) := by simpa using ho
    have e1' : fixO s221_L0 (((), ((0 : Int), ())), (t, ())) = some (.inl ((false, ()), ())) := e1
    rw [e1']
    exact ⟨false, rfl, by simp only [Bool.false_eq_true, false_iff]; exact fun q => ho (q.1 i hi)⟩
  · have ha : ∀ i, i < (tParts t).len → PartG ((tParts t).get i) t.1 ∧ ∀ q, q < i → strEq ((tParts t).get q).1 ((tParts t).get i).1 = false := fun i hi => hok i hi (ha i hi)
    have e1' : fixO s221_L0 (((), ((0 : Int), ())), (t, ())) = some (.inr (.inl (((), ()), (t, ())))) := e1
    rw [e1']
    simp only [Option.bind_some]
    obtain ⟨all, a1, a2, a3⟩ := allWins (tParts t) hn (fun i hi => (ha i hi).1.2.2.1.2)
    have a1' : g296r t.2.2.2.2.2.2.2.1 = some ((all, ()), ()) := a1
    rw [a1']
    simp only [Option.bind_some]
    have hgood := winsOf_good (tParts t) t.1 (Nat.le_refl _) (fun i hi => (ha i hi).1)
    have hov : ∀ i k, i < all.len → k < i → (ovl all k i = false ↔ apart (all.get k) (all.get i)) := fun i k hi hk => by
      have g1 := (f308_iff _).mp (hgood (all.get i) (by rw [← a2]; exact (toL_mem _ _).mpr ⟨i, hi, rfl⟩))
      have g2 := (f308_iff _).mp (hgood (all.get k) (by rw [← a2]; exact (toL_mem _ _).mpr ⟨k, by omega, rfl⟩))
      unfold ovl apart
      rw [wI_id (by omega) (by omega), wI_id (by omega) (by omega)]
      simp only [Bool.and_eq_false_iff, decide_eq_false_iff_not]
      omega
    have hpw : (winsOf (tParts t) (tParts t).len).Pairwise apart ↔ ∀ i k, i < all.len → k < i → ovl all k i = false := by
      rw [← a2, List.pairwise_iff_getElem]
      constructor
      · intro q i k hi hk
        have := q k i (by rw [toL_len]; omega) (by rw [toL_len]; exact hi) hk
        rw [toL_getElem, toL_getElem] at this
        exact (hov i k hi hk).mpr this
      · intro q k i hk hi hki
        rw [toL_getElem, toL_getElem]
        rw [toL_len] at hi
        exact (hov i k hi hki).mp (q i k hi hki)
    rcases ovlAll all a3 with ⟨⟨i, k, hi, hk, ho⟩, o2⟩ | ⟨o1, o2⟩
    · rw [o2]
      refine ⟨false, rfl, ?_⟩
      simp only [Bool.false_eq_true, false_iff]
      rintro ⟨_, q⟩
      have := hpw.mp q i k hi hk
      rw [this] at ho; cases ho
    · rw [o2]
      exact ⟨true, rfl, fun _ => ⟨ha, hpw.mpr o1⟩, fun _ => rfl⟩

/-- What is known of sound tables. -/
def Facts (t : Tb) : Prop :=
  f294 t.2.2.2.1 = true ∧ (1 ≤ t.2.2.2.2.1 ∧ t.2.2.2.2.1 ≤ 5000) ∧ (1 ≤ t.2.2.2.2.2.1 ∧ t.2.2.2.2.2.1 ≤ 5000) ∧ (1 ≤ t.2.2.2.2.2.2.1 ∧ t.2.2.2.2.2.2.1 ≤ 5000) ∧ f119 t.2.1 = true ∧ (64 ≤ t.1 ∧ t.1 ≤ 2048) ∧
  (1 ≤ (tParts t).len ∧ (tParts t).len ≤ 6) ∧ Parts (tParts t) t.1 ∧ Tail t

/-- The program's look and the reference's come to the same. -/
theorem sound (t : Tb) (hn : (tParts t).len ≤ 2 ^ 47) (hl : (tSlots t).len ≤ 2 ^ 47) (hs : ∀ i, i < (tParts t).len → ((tParts t).get i).1.size ≤ 2 ^ 47) (hw : ∀ i, i < (tParts t).len → ((tParts t).get i).2.2.2.1.len ≤ 2 ^ 47) :
    ∃ b : Bool, g127 t = some ((b, ()), ()) ∧ g54 t = some ((b, ()), ()) ∧ (b = true → Facts t) := by
  unfold g127
  rcases head t with ⟨h1, h2⟩ | ⟨hc, p1, p2, p3, hsh, hm, h1, h2⟩
  · rw [h1, h2]; exact ⟨false, rfl, rfl, by simp⟩
  · rw [h1, h2]
    simp only [Option.bind_some, cond_true]
    unfold rest71
    rw [f136_97]
    cases g1 : f97 ((tParts t).len : Int) 1 6 with
    | false =>
      have : g221 t = some ((false, ()), ()) := by
        unfold g221
        have g1' : f97 (t.2.2.2.2.2.2.2.1.len : Int) 1 6 = false := g1
        rw [g1']; rfl
      rw [this]
      exact ⟨false, rfl, rfl, by simp⟩
    | true =>
      have g1 := (f97_iff _ _ _).mp g1
      obtain ⟨b1, r1, r2⟩ := refParts t (by omega) hs (by omega)
      obtain ⟨b2, i1, i2⟩ := impParts t (by omega) hs hw
      have : b1 = b2 := by
        rw [Bool.eq_iff_iff, r2, i2]
      subst this
      rw [r1, i1]
      simp only [Option.bind_some]
      cases b1 with
      | false => exact ⟨false, rfl, rfl, by simp⟩
      | true =>
        obtain ⟨b, t1, t2, t3⟩ := tail t hl hc hsh p1 p2 p3
        exact ⟨b, t1, t2, fun h => ⟨hc, p1, p2, p3, hsh, (f97_iff _ _ _).mp hm, by omega, r2.mp rfl, t3 h⟩⟩

/-- The sizes that the law lets through. -/
def Bnd (t : Tb) : Prop :=
  (tParts t).len ≤ 1048576 ∧ (tDevs t).len ≤ 1048576 ∧ (tChans t).len ≤ 1048576 ∧ (tSlots t).len ≤ 1048576 ∧ ∀ i, i < (tParts t).len → ((tParts t).get i).1.size ≤ 1048576 ∧ ((tParts t).get i).2.2.2.1.len ≤ 1048576

/-- What is known of any tables. -/
def Wf (t : Tb) : Prop :=
  (tParts t).len ≤ 2 ^ 47 ∧ (tDevs t).len ≤ 2 ^ 47 ∧ (tChans t).len ≤ 2 ^ 47 ∧ (tSlots t).len ≤ 2 ^ 47 ∧ ∀ i, i < (tParts t).len → ((tParts t).get i).1.size ≤ 2 ^ 47 ∧ ((tParts t).get i).2.2.2.1.len ≤ 2 ^ 47

theorem sz34 (x : L Int) (b : Int) (h : x.len ≤ 2 ^ 47) (hb : 0 ≤ b) (hb' : b ≤ 1048576) : f41 x b = if b < x.len then -1 else b - x.len := by
  have h47 : (2 : Nat) ^ 47 = 140737488355328 := by decide
  rw [h47] at h
  unfold f41
  rw [wI_id (by omega) (by omega)]
  by_cases hc : b < x.len
  · rw [bif_t (by simp; omega), if_pos hc]
  · rw [bif_f (by simp; omega), if_neg hc]
theorem sz35 (x : L Ch) (b : Int) (h : x.len ≤ 2 ^ 47) (hb : 0 ≤ b) (hb' : b ≤ 1048576) : f42 x b = if b < x.len then -1 else b - x.len := by
  have h47 : (2 : Nat) ^ 47 = 140737488355328 := by decide
  rw [h47] at h
  unfold f42
  rw [wI_id (by omega) (by omega)]
  by_cases hc : b < x.len
  · rw [bif_t (by simp; omega), if_pos hc]
  · rw [bif_f (by simp; omega), if_neg hc]
theorem sz36 (x : L Sl) (b : Int) (h : x.len ≤ 2 ^ 47) (hb : 0 ≤ b) (hb' : b ≤ 1048576) : f43 x b = if b < x.len then -1 else b - x.len := by
  have h47 : (2 : Nat) ^ 47 = 140737488355328 := by decide
  rw [h47] at h
  unfold f43
  rw [wI_id (by omega) (by omega)]
  by_cases hc : b < x.len
  · rw [bif_t (by simp; omega), if_pos hc]
  · rw [bif_f (by simp; omega), if_neg hc]
theorem sz98 (x : L Wi) (b : Int) (h : x.len ≤ 2 ^ 47) (hb : 0 ≤ b) (hb' : b ≤ 1048576) : f219 x b = if b < x.len then -1 else b - x.len := by
  have h47 : (2 : Nat) ^ 47 = 140737488355328 := by decide
  rw [h47] at h
  unfold f219
  rw [wI_id (by omega) (by omega)]
  by_cases hc : b < x.len
  · rw [bif_t (by simp; omega), if_pos hc]
  · rw [bif_f (by simp; omega), if_neg hc]

theorem sz66 (p : PR) (b : Int) (h1 : p.1.size ≤ 2 ^ 47) (h2 : p.2.2.2.1.len ≤ 2 ^ 47) (hb : 0 ≤ b) (hb' : b ≤ 1048576) : f126 p b = -1 ∨ (0 ≤ f126 p b ∧ f126 p b ≤ b ∧ p.1.size ≤ 1048576 ∧ p.2.2.2.1.len ≤ 1048576) := by
  have h47 : (2 : Nat) ^ 47 = 140737488355328 := by decide
  have h1' := h1
  rw [h47] at h1'
  unfold f126
  rw [wI_id (by omega) (by omega)]
  by_cases hc : b - (p.1.size : Int) < 0
  · rw [bif_t (by simpa using hc)]; exact .inl rfl
  · rw [bif_f (by simpa using hc), sz98 _ _ h2 (by omega) (by omega)]
    by_cases hd : b - (p.1.size : Int) < p.2.2.2.1.len
    · rw [if_pos hd]; exact .inl rfl
    · rw [if_neg hd, bif_f (by simp; omega)]
      right
      omega

theorem sz33 (x : L PR) (b : Int) (h : x.len ≤ 2 ^ 47) (hp : ∀ i, i < x.len → (x.get i).1.size ≤ 2 ^ 47 ∧ (x.get i).2.2.2.1.len ≤ 2 ^ 47) (hb : 0 ≤ b) (hb' : b ≤ 1048576) :
    ∃ n, g40 x b = some ((n, ()), ()) ∧ (n = -1 ∨ (0 ≤ n ∧ n ≤ b ∧ x.len ≤ 1048576 ∧ ∀ i, i < x.len → (x.get i).1.size ≤ 1048576 ∧ (x.get i).2.2.2.1.len ≤ 1048576)) := by
  have h47 : (2 : Nat) ^ 47 = 140737488355328 := by decide
  have h' := h
  rw [h47] at h'
  unfold g40
  rw [wI_id (by omega) (by omega)]
  by_cases hc : b - (x.len : Int) < 0
  · rw [bif_t (by simpa using hc)]; exact ⟨-1, rfl, .inl rfl⟩
  · rw [bif_f (by simpa using hc)]
    obtain ⟨d, e1, e2⟩ := fixO_rel (step := s40_L0) (fun a => x.len - a.1.2.2.1.toNat)
      (fun a => ∃ (i : Nat) (n : Int), a = ((x, (n, ((i : Int), ()))), ()) ∧ i ≤ x.len ∧ 0 ≤ n ∧ n ≤ b ∧ ∀ k, k < i → (x.get k).1.size ≤ 1048576 ∧ (x.get k).2.2.2.1.len ≤ 1048576)
      (fun _ d => d = .inl ((-1, ()), ()) ∨ ∃ n, d = .inr (.inl ((n, ()), ())) ∧ 0 ≤ n ∧ n ≤ b ∧ ∀ k, k < x.len → (x.get k).1.size ≤ 1048576 ∧ (x.get k).2.2.2.1.len ≤ 1048576) (by
        rintro _ ⟨i, n, rfl, hi, hn1, hn2, hk⟩
        simp only [s40_L0, q40_L0]
        by_cases hlt : i < x.len
        · rw [bif_t (idx_lt hlt), bif_t (idx_in hlt), wI_succ hlt h, Int.toNat_natCast]
          rcases sz66 (x.get i) n (hp i hlt).1 (hp i hlt).2 hn1 (by omega) with q | ⟨q1, q2, q3⟩
          · right
            rw [bif_t (by rw [q]; rfl)]
            exact ⟨_, rfl, .inl rfl⟩
          · left
            rw [bif_f (by simpa using q1)]
            refine ⟨_, rfl, ⟨i + 1, _, rfl, hlt, q1, by omega, fun k hk' => ?_⟩, by simp only [Int.toNat_natCast]; omega, fun d hd => hd⟩
            by_cases e : k = i
            · rw [e]; exact q3
            · exact hk k (by omega)
        · right
          have : i = x.len := by omega
          subst this
          rw [bif_f (idx_end x.len)]
          exact ⟨_, rfl, .inr ⟨n, rfl, hn1, hn2, hk⟩⟩)
      ((x, (b - (x.len : Int), ((0 : Int), ()))), ()) ⟨0, _, rfl, Nat.zero_le _, by omega, by omega, fun k hk => absurd hk (Nat.not_lt_zero _)⟩
    rw [e1]
    simp only [Option.bind_some]
    rcases e2 with rfl | ⟨n, rfl, n1, n2, n3⟩
    · exact ⟨-1, rfl, .inl rfl⟩
    · exact ⟨n, rfl, .inr ⟨n1, n2, by omega, n3⟩⟩

theorem sz12 (t : Tb) (h : Wf t) : ∃ n, g9 t 1048576 = some ((n, ()), ()) ∧ (n = -1 ∨ (0 ≤ n ∧ Bnd t)) := by
  obtain ⟨w1, w2, w3, w4, w5⟩ := h
  obtain ⟨n, e1, e2⟩ := sz33 (tParts t) 1048576 w1 w5 (by omega) (by omega)
  unfold g9
  have e1' : g40 t.2.2.2.2.2.2.2.1 1048576 = some ((n, ()), ()) := e1
  rw [e1']
  simp only [Option.bind_some]
  rcases e2 with rfl | ⟨n1, n2, n3, n4⟩
  · rw [bif_t (by decide)]; exact ⟨-1, rfl, .inl rfl⟩
  · rw [bif_f (by simpa using n1)]
    have a1 : f41 t.2.2.2.2.2.2.2.2.1 n = _ := sz34 (tDevs t) n w2 n1 n2
    rw [a1]
    by_cases c1 : n < ((tDevs t).len : Int)
    · rw [if_pos c1, bif_t (by decide)]; exact ⟨-1, rfl, .inl rfl⟩
    · rw [if_neg c1, bif_f (by simp; omega)]
      have a2 : f42 t.2.2.2.2.2.2.2.2.2.1 (n - ((tDevs t).len : Int)) = _ := sz35 (tChans t) _ w3 (by omega) (by omega)
      rw [a2]
      by_cases c2 : n - ((tDevs t).len : Int) < ((tChans t).len : Int)
      · rw [if_pos c2, bif_t (by decide)]; exact ⟨-1, rfl, .inl rfl⟩
      · rw [if_neg c2, bif_f (by simp; omega)]
        have a3 : f43 t.2.2.2.2.2.2.2.2.2.2.1 (n - ((tDevs t).len : Int) - ((tChans t).len : Int)) = _ := sz36 (tSlots t) _ w4 (by omega) (by omega)
        rw [a3]
        by_cases c3 : n - ((tDevs t).len : Int) - ((tChans t).len : Int) < ((tSlots t).len : Int)
        · rw [if_pos c3, bif_t (by decide)]; exact ⟨-1, rfl, .inl rfl⟩
        · rw [if_neg c3, bif_f (by simp; omega)]
          exact ⟨_, rfl, .inr ⟨by omega, n3, by omega, by omega, by omega, n4⟩⟩

theorem wi_eta (w : Wi) : (w.1, (w.2.1, (w.2.2.1, ()))) = w := rfl

theorem to105 (x : L Wi) (h : x.len ≤ 1048576) : ∃ r : L Wi, g225r x = some ((r, ()), ()) ∧ r.len = x.len ∧ ∀ i, i < x.len → r.get i = x.get i := by
  obtain ⟨r, h1, h2, h3⟩ := copy_loop (step := s225r_L0) (x := x) (fun i => x.get i) (fun i r hi hr => by
    simp only [s225r_L0, q225r_L0]
    rw [bif_t (idx_lt hi), bif_t (idx_in hi), bif_t (by simpa [hr] using hi), wI_succ hi (by omega), Int.toNat_natCast]
    rfl) (fun r => by
    simp only [s225r_L0, q225r_L0]
    rw [bif_f (by simp)]) (r0 := L.rep (x.len : Int).toNat (Ty.zero (.pair (.int .i64) (.pair (.int .i64) (.pair (.int .i64) .unit))))) (by simp [L.rep])
  refine ⟨r, ?_, h2, h3⟩
  unfold g225r
  rw [bif_t (by simp; omega), h1]
  rfl

theorem to46 (x : L Sl) (h : x.len ≤ 1048576) : ∃ r : L Sl, g52r x = some ((r, ()), ()) ∧ r.len = x.len ∧ ∀ i, i < x.len → r.get i = x.get i := by
  obtain ⟨r, h1, h2, h3⟩ := copy_loop (step := s52r_L0) (x := x) (fun i => x.get i) (fun i r hi hr => by
    simp only [s52r_L0, q52r_L0]
    rw [bif_t (idx_lt hi), bif_t (idx_in hi), bif_t (by simpa [hr] using hi), wI_succ hi (by omega), Int.toNat_natCast]
    rfl) (fun r => by
    simp only [s52r_L0, q52r_L0]
    rw [bif_f (by simp)]) (r0 := L.rep (x.len : Int).toNat (Ty.zero (.pair (.int .i64) (.pair (.int .i64) (.pair (.int .i64) .unit))))) (by simp [L.rep])
  refine ⟨r, ?_, h2, h3⟩
  unfold g52r
  rw [bif_t (by simp; omega), h1]
  rfl

theorem to45 (x : L Ch) (h : x.len ≤ 1048576) : ∃ r : L Ch, g51r x = some ((r, ()), ()) ∧ r.len = x.len ∧ ∀ i, i < x.len → r.get i = x.get i := by
  obtain ⟨r, h1, h2, h3⟩ := copy_loop (step := s51r_L0) (x := x) (fun i => x.get i) (fun i r hi hr => by
    simp only [s51r_L0, q51r_L0]
    rw [bif_t (idx_lt hi), bif_t (idx_in hi), bif_t (by simpa [hr] using hi), wI_succ hi (by omega), Int.toNat_natCast]
    rfl) (fun r => by
    simp only [s51r_L0, q51r_L0]
    rw [bif_f (by simp)]) (r0 := L.rep (x.len : Int).toNat (Ty.zero (.pair (.int .i64) (.pair (.int .i64) (.pair (.int .i64) (.pair (.int .i64) .unit)))))) (by simp [L.rep])
  refine ⟨r, ?_, h2, h3⟩
  unfold g51r
  rw [bif_t (by simp; omega), h1]
  rfl

theorem to44 (x : L Int) (h : x.len ≤ 1048576) : ∃ r : L Int, g50r x = some ((r, ()), ()) ∧ r.len = x.len ∧ ∀ i, i < x.len → r.get i = x.get i := by
  obtain ⟨r, h1, h2, h3⟩ := copy_loop (step := s50r_L0) (x := x) (fun i => x.get i) (fun i r hi hr => by
    simp only [s50r_L0, q50r_L0]
    rw [bif_t (idx_lt hi), bif_t (idx_in hi), bif_t (by simpa [hr] using hi), wI_succ hi (by omega), Int.toNat_natCast]) (fun r => by
    simp only [s50r_L0, q50r_L0]
    rw [bif_f (by simp)]) (r0 := L.rep (x.len : Int).toNat (Ty.zero (.int .i64))) (by simp [L.rep])
  refine ⟨r, ?_, h2, h3⟩
  unfold g50r
  rw [bif_t (by simp; omega), h1]
  rfl

/-- Two partitions that read alike. -/
def SameP (p q : PR) : Prop := p.1 = q.1 ∧ p.2.1 = q.2.1 ∧ p.2.2.1 = q.2.2.1 ∧ p.2.2.2.1.len = q.2.2.2.1.len ∧ ∀ j, j < q.2.2.2.1.len → p.2.2.2.1.get j = q.2.2.2.1.get j

theorem to74 (p : PR) (h : p.2.2.2.1.len ≤ 1048576) : ∃ q : PR, g131r p = some ((q, ()), ()) ∧ SameP q p := by
  obtain ⟨r, h1, h2, h3⟩ := to105 p.2.2.2.1 h
  unfold g131r
  rw [h1]
  exact ⟨(p.1, (p.2.1, (p.2.2.1, (r, ())))), rfl, rfl, rfl, rfl, h2, h3⟩

/-- A slice copied, element by element, each by a function. -/
theorem copy_loop' {α β : Type} {step : ((L α × (Unit × (Int × Unit))) × (L β × Unit)) → Option (((L α × (Unit × (Int × Unit))) × (L β × Unit)) ⊕ (((Unit × Unit) × (L β × Unit)) ⊕ Empty))} {x : L α} (F : Nat → β)
    (hstep : ∀ (i : Nat) (r : L β), i < x.len → r.len = x.len → step ((x, ((), ((i : Int), ()))), (r, ())) = some (.inl ((x, ((), (((i + 1 : Nat) : Int), ()))), (L.set r i (F i), ()))))
    (hend : ∀ r, step ((x, ((), ((x.len : Int), ()))), (r, ())) = some (.inr (.inl (((), ()), (r, ()))))) {r0 : L β} (h0 : r0.len = x.len) :
    ∃ r, fixO step ((x, ((), ((0 : Int), ()))), (r0, ())) = some (.inl (((), ()), (r, ()))) ∧ r.len = x.len ∧ ∀ i, i < x.len → r.get i = F i := copy_loop F hstep hend h0

theorem to43 (x : L PR) (h : x.len ≤ 1048576) (hw : ∀ i, i < x.len → (x.get i).2.2.2.1.len ≤ 1048576) : ∃ r : L PR, g49r x = some ((r, ()), ()) ∧ r.len = x.len ∧ ∀ i, i < x.len → SameP (r.get i) (x.get i) := by
  have hex : ∀ i : Nat, ∃ q : PR, i < x.len → g131r (x.get i) = some ((q, ()), ()) ∧ SameP q (x.get i) := fun i => by
    by_cases hi : i < x.len
    · obtain ⟨q, a, b⟩ := to74 (x.get i) (hw i hi)
      exact ⟨q, fun _ => ⟨a, b⟩⟩
    · exact ⟨x.get i, fun h => absurd h hi⟩
  obtain ⟨F, hF⟩ := Classical.axiomOfChoice hex
  obtain ⟨r, h1, h2, h3⟩ := copy_loop (step := s49r_L0) (x := x) F (fun i r hi hr => by
    simp only [s49r_L0, q49r_L0]
    rw [bif_t (idx_lt hi), bif_t (idx_in hi), wI_succ hi (by omega), Int.toNat_natCast, (hF i hi).1]
    simp only [Option.bind_some]
    exact bif_t (by simpa [hr] using hi)) (fun r => by
    simp only [s49r_L0, q49r_L0]
    rw [bif_f (by simp)]) (r0 := L.rep (x.len : Int).toNat (Ty.zero (.pair .str (.pair (.int .i64) (.pair (.pair (.int .i64) (.pair (.int .i64) .unit)) (.pair (.sl (.pair (.int .i64) (.pair (.int .i64) (.pair (.int .i64) .unit)))) .unit)))))) (by simp [L.rep])
  refine ⟨r, ?_, h2, fun i hi => by rw [h3 i hi]; exact (hF i hi).2⟩
  unfold g49r
  rw [bif_t (by simp; omega), h1]
  rfl

/-- The tables' copy. -/
theorem to14 (t : Tb) (h : Bnd t) : ∃ r : Tb, g12r t = some ((r, ()), ()) ∧ Bnd r := by
  obtain ⟨b1, b2, b3, b4, b5⟩ := h
  obtain ⟨r1, e1, l1, q1⟩ := to43 (tParts t) b1 (fun i hi => (b5 i hi).2)
  obtain ⟨r2, e2, l2, q2⟩ := to44 (tDevs t) b2
  obtain ⟨r3, e3, l3, q3⟩ := to45 (tChans t) b3
  obtain ⟨r4, e4, l4, q4⟩ := to46 (tSlots t) b4
  have e1' : g49r t.2.2.2.2.2.2.2.1 = some ((r1, ()), ()) := e1
  have e2' : g50r t.2.2.2.2.2.2.2.2.1 = some ((r2, ()), ()) := e2
  have e3' : g51r t.2.2.2.2.2.2.2.2.2.1 = some ((r3, ()), ()) := e3
  have e4' : g52r t.2.2.2.2.2.2.2.2.2.2.1 = some ((r4, ()), ()) := e4
  unfold g12r
  rw [e1', e2', e3', e4']
  refine ⟨(t.1, (t.2.1, (t.2.2.1, (t.2.2.2.1, (t.2.2.2.2.1, (t.2.2.2.2.2.1, (t.2.2.2.2.2.2.1, (r1, (r2, (r3, (r4, ()))))))))))), rfl, ?_⟩
  refine ⟨show r1.len ≤ _ by omega, show r2.len ≤ _ by omega, show r3.len ≤ _ by omega, show r4.len ≤ _ by omega, fun i hi => ?_⟩
  have hi' : i < (tParts t).len := by
    have : i < r1.len := hi
    omega
  obtain ⟨s1, _, _, s4, _⟩ := q1 i hi'
  have b := b5 i hi'
  show (r1.get i).1.size ≤ _ ∧ (r1.get i).2.2.2.1.len ≤ _
  rw [s1, s4]
  exact b

theorem eq119 (x : L Wi) (h : x.len ≤ 1048576) : g244 x x = some ((true, ()), ()) := by
  have h1 := eq_loop (step := s244_L0) (x := x) (y := x) (fun i hi => by
    simp only [s244_L0, q244_L0]
    rw [bif_t (idx_lt hi), bif_t (idx_in hi), bif_t (idx_in hi), bif_f (by simp [f307]), wI_succ hi (by omega)]) (by
    simp only [s244_L0, q244_L0]
    rw [bif_f (by simp)])
  unfold g244
  rw [bif_f (by simp), h1]
  rfl
theorem eq90 (p : PR) (h : p.2.2.2.1.len ≤ 1048576) : g156 p p = some ((true, ()), ()) := by
  unfold g156
  rw [strEq_self, bif_f (by simp), bif_f (by simp), bif_f (by simp [f243]), eq119 _ h]
  rfl
theorem eq50 (x : L PR) (h : x.len ≤ 1048576) (hw : ∀ i, i < x.len → (x.get i).2.2.2.1.len ≤ 1048576) : g67 x x = some ((true, ()), ()) := by
  have h1 := eq_loop (step := s67_L0) (x := x) (y := x) (fun i hi => by
    simp only [s67_L0, q67_L0]
    rw [bif_t (idx_lt hi), bif_t (idx_in hi), bif_t (idx_in hi), Int.toNat_natCast, eq90 _ (hw i hi), wI_succ hi (by omega)]
    rfl) (by
    simp only [s67_L0, q67_L0]
    rw [bif_f (by simp)])
  unfold g67
  rw [bif_f (by simp), h1]
  rfl
theorem eq51 (x : L Int) (h : x.len ≤ 1048576) : g68 x x = some ((true, ()), ()) := by
  have h1 := eq_loop (step := s68_L0) (x := x) (y := x) (fun i hi => by
    simp only [s68_L0, q68_L0]
    rw [bif_t (idx_lt hi), bif_t (idx_in hi), bif_t (idx_in hi), bif_f (by simp), wI_succ hi (by omega)]) (by
    simp only [s68_L0, q68_L0]
    rw [bif_f (by simp)])
  unfold g68
  rw [bif_f (by simp), h1]
  rfl
theorem eq52 (x : L Ch) (h : x.len ≤ 1048576) : g69 x x = some ((true, ()), ()) := by
  have h1 := eq_loop (step := s69_L0) (x := x) (y := x) (fun i hi => by
    simp only [s69_L0, q69_L0]
    rw [bif_t (idx_lt hi), bif_t (idx_in hi), bif_t (idx_in hi), bif_f (by simp [f157]), wI_succ hi (by omega)]) (by
    simp only [s69_L0, q69_L0]
    rw [bif_f (by simp)])
  unfold g69
  rw [bif_f (by simp), h1]
  rfl
theorem eq53 (x : L Sl) (h : x.len ≤ 1048576) : g70 x x = some ((true, ()), ()) := by
  have h1 := eq_loop (step := s70_L0) (x := x) (y := x) (fun i hi => by
    simp only [s70_L0, q70_L0]
    rw [bif_t (idx_lt hi), bif_t (idx_in hi), bif_t (idx_in hi), bif_f (by simp [f158]), wI_succ hi (by omega)]) (by
    simp only [s70_L0, q70_L0]
    rw [bif_f (by simp)])
  unfold g70
  rw [bif_f (by simp), h1]
  rfl
theorem eq16 (t : Tb) (h : Bnd t) : g16 t t = some ((true, ()), ()) := by
  obtain ⟨b1, b2, b3, b4, b5⟩ := h
  have e1 : g67 t.2.2.2.2.2.2.2.1 t.2.2.2.2.2.2.2.1 = some ((true, ()), ()) := eq50 (tParts t) b1 (fun i hi => (b5 i hi).2)
  have e2 : g68 t.2.2.2.2.2.2.2.2.1 t.2.2.2.2.2.2.2.2.1 = some ((true, ()), ()) := eq51 (tDevs t) b2
  have e3 : g69 t.2.2.2.2.2.2.2.2.2.1 t.2.2.2.2.2.2.2.2.2.1 = some ((true, ()), ()) := eq52 (tChans t) b3
  have e4 : g70 t.2.2.2.2.2.2.2.2.2.2.1 t.2.2.2.2.2.2.2.2.2.2.1 = some ((true, ()), ()) := eq53 (tSlots t) b4
  unfold g16
  rw [bif_f (by simp), bif_f (by simp [f65]), bif_f (by simp), bif_f (by simp [f66]), bif_f (by simp), bif_f (by simp), bif_f (by simp), e1, e2, e3, e4]
  rfl

theorem wf_of_bnd {t : Tb} (h : Bnd t) : Wf t := by
  have h47 : (2 : Nat) ^ 47 = 140737488355328 := by decide
  obtain ⟨b1, b2, b3, b4, b5⟩ := h
  unfold Wf
  rw [h47]
  exact ⟨by omega, by omega, by omega, by omega, fun i hi => by have := b5 i hi; omega⟩

/-- The program's look and the reference's come to the same. -/
theorem sound_wf (t : Tb) (h : Wf t) : ∃ b : Bool, g127 t = some ((b, ()), ()) ∧ g54 t = some ((b, ()), ()) ∧ (b = true → Facts t) :=
  sound t h.1 h.2.2.2.1 (fun i hi => (h.2.2.2.2 i hi).1) (fun i hi => (h.2.2.2.2 i hi).2)


/-- How much a slice takes of what is left. -/
theorem szLin (n : Nat) (b : Int) (h : n ≤ 2 ^ 47) (hb : 0 ≤ b) (hb' : b ≤ 1048576) : (bif decide (wI (b - (n : Int)) < 0) then (-1 : Int) else wI (b - (n : Int))) = if b < n then -1 else b - n := by
  have h47 : (2 : Nat) ^ 47 = 140737488355328 := by decide
  rw [h47] at h
  rw [wI_id (by omega) (by omega)]
  by_cases hc : b < n
  · rw [bif_t (by simp; omega), if_pos hc]
  · rw [bif_f (by simp; omega), if_neg hc]

/-- What a slice of things takes, each for itself. -/
theorem szLoop {α : Type} {step : ((L α × (Int × (Int × Unit))) × Unit) → Option (((L α × (Int × (Int × Unit))) × Unit) ⊕ (((Int × Unit) × Unit) ⊕ (((Int × Unit) × Unit) ⊕ Empty)))} {x : L α} (F : α → Int → Int) (Q : α → Prop)
    (hF : ∀ i, i < x.len → ∀ b : Int, 0 ≤ b → b ≤ 1048576 → F (x.get i) b = -1 ∨ (0 ≤ F (x.get i) b ∧ F (x.get i) b ≤ b ∧ Q (x.get i)))
    (hstep : ∀ (i : Nat) (n : Int), i < x.len → step ((x, (n, ((i : Int), ()))), ()) = bif decide (F (x.get i) n < 0) then some (.inr (.inl ((-1, ()), ()))) else some (.inl ((x, (F (x.get i) n, (((i + 1 : Nat) : Int), ()))), ())))
    (hend : ∀ n : Int, step ((x, (n, ((x.len : Int), ()))), ()) = some (.inr (.inr (.inl ((n, ()), ()))))) (b : Int) (hb : 0 ≤ b) (hb' : b ≤ 1048576) :
    ∃ d, fixO step ((x, (b, ((0 : Int), ()))), ()) = some d ∧ (d = .inl ((-1, ()), ()) ∨ ∃ n, d = .inr (.inl ((n, ()), ())) ∧ 0 ≤ n ∧ n ≤ b ∧ ∀ i, i < x.len → Q (x.get i)) := by
  refine fixO_rel (step := step) (fun a => x.len - a.1.2.2.1.toNat)
    (fun a => ∃ (i : Nat) (n : Int), a = ((x, (n, ((i : Int), ()))), ()) ∧ i ≤ x.len ∧ 0 ≤ n ∧ n ≤ b ∧ ∀ k, k < i → Q (x.get k))
    (fun _ d => d = .inl ((-1, ()), ()) ∨ ∃ n, d = .inr (.inl ((n, ()), ())) ∧ 0 ≤ n ∧ n ≤ b ∧ ∀ i, i < x.len → Q (x.get i)) ?_ _ ⟨0, b, rfl, Nat.zero_le _, hb, Int.le_refl _, fun k hk => absurd hk (Nat.not_lt_zero _)⟩
  rintro _ ⟨i, n, rfl, hi, hn1, hn2, hk⟩
  by_cases hlt : i < x.len
  · rw [hstep i n hlt]
    rcases hF i hlt n hn1 (by omega) with q | ⟨q1, q2, q3⟩
    · right
      exact ⟨_, bif_t (by rw [q]; rfl), .inl rfl⟩
    · left
      refine ⟨_, bif_f (by simpa using q1), ⟨i + 1, _, rfl, hlt, q1, by omega, fun k hk' => ?_⟩, by simp only [Int.toNat_natCast]; omega, fun d hd => hd⟩
      by_cases e : k = i
      · rw [e]; exact q3
      · exact hk k (by omega)
  · right
    have : i = x.len := by omega
    subst this
    exact ⟨_, hend n, .inr ⟨n, rfl, hn1, hn2, hk⟩⟩

/-- A slice copied, each thing by what stands for it. -/
theorem copy_each {α β : Type} {step : ((L α × (Unit × (Int × Unit))) × (L β × Unit)) → Option (((L α × (Unit × (Int × Unit))) × (L β × Unit)) ⊕ (((Unit × Unit) × (L β × Unit)) ⊕ Empty))} {x : L α} (R : Nat → β → Prop) (hex : ∀ i, i < x.len → ∃ q, R i q)
    (hstep : ∀ (i : Nat) (r : L β) (q : β), i < x.len → r.len = x.len → R i q → step ((x, ((), ((i : Int), ()))), (r, ())) = some (.inl ((x, ((), (((i + 1 : Nat) : Int), ()))), (L.set r i q, ()))))
    (hend : ∀ r, step ((x, ((), ((x.len : Int), ()))), (r, ())) = some (.inr (.inl (((), ()), (r, ()))))) {r0 : L β} (h0 : r0.len = x.len) :
    ∃ r, fixO step ((x, ((), ((0 : Int), ()))), (r0, ())) = some (.inl (((), ()), (r, ()))) ∧ r.len = x.len ∧ ∀ i, i < x.len → R i (r.get i) := by
  have hex' : ∀ i : Nat, ∃ q : β, i < x.len → R i q := fun i => by
    by_cases hi : i < x.len
    · obtain ⟨q, a⟩ := hex i hi
      exact ⟨q, fun _ => a⟩
    · exact ⟨r0.get 0, fun h => absurd h hi⟩
  obtain ⟨F, hF⟩ := Classical.axiomOfChoice hex'
  obtain ⟨r, h1, h2, h3⟩ := copy_loop (step := step) (x := x) F (fun i r hi hr => hstep i r (F i) hi hr (hF i hi)) hend h0
  exact ⟨r, h1, h2, fun i hi => by rw [h3 i hi]; exact hF i hi⟩

theorem sz12b (t : Tb) (h : Wf t) : ∃ n, g9 t 1048576 = some ((n, ()), ()) ∧ (n = -1 ∨ (0 ≤ n ∧ n ≤ 1048576 ∧ Bnd t)) := by
  obtain ⟨n, e1, e2⟩ := sz12 t h
  refine ⟨n, e1, ?_⟩
  rcases e2 with rfl | ⟨n1, hb⟩
  · exact .inl rfl
  right
  refine ⟨n1, ?_, hb⟩
  obtain ⟨w1, w2, w3, w4, w5⟩ := h
  obtain ⟨m, q1, q2⟩ := sz33 (tParts t) 1048576 w1 w5 (by omega) (by omega)
  unfold g9 at e1
  have q1' : g40 t.2.2.2.2.2.2.2.1 1048576 = some ((m, ()), ()) := q1
  rw [q1'] at e1
  simp only [Option.bind_some] at e1
  rcases q2 with rfl | ⟨m1, m2, _, _⟩
  · rw [bif_t (by decide)] at e1
    have := (Prod.mk.inj (Prod.mk.inj (Option.some.inj e1)).1).1
    omega
  · rw [bif_f (by simpa using m1)] at e1
    have a1 : f41 t.2.2.2.2.2.2.2.2.1 m = _ := sz34 (tDevs t) m w2 m1 m2
    rw [a1] at e1
    by_cases c1 : m < ((tDevs t).len : Int)
    · rw [if_pos c1, bif_t (by decide)] at e1
      have := (Prod.mk.inj (Prod.mk.inj (Option.some.inj e1)).1).1
      omega
    · rw [if_neg c1, bif_f (by simp; omega)] at e1
      have a2 : f42 t.2.2.2.2.2.2.2.2.2.1 (m - ((tDevs t).len : Int)) = _ := sz35 (tChans t) _ w3 (by omega) (by omega)
      rw [a2] at e1
      by_cases c2 : m - ((tDevs t).len : Int) < ((tChans t).len : Int)
      · rw [if_pos c2, bif_t (by decide)] at e1
        have := (Prod.mk.inj (Prod.mk.inj (Option.some.inj e1)).1).1
        omega
      · rw [if_neg c2, bif_f (by simp; omega)] at e1
        have a3 : f43 t.2.2.2.2.2.2.2.2.2.2.1 (m - ((tDevs t).len : Int) - ((tChans t).len : Int)) = _ := sz36 (tSlots t) _ w4 (by omega) (by omega)
        rw [a3] at e1
        by_cases c3 : m - ((tDevs t).len : Int) - ((tChans t).len : Int) < ((tSlots t).len : Int)
        · rw [if_pos c3, bif_t (by decide)] at e1
          have := (Prod.mk.inj (Prod.mk.inj (Option.some.inj e1)).1).1
          omega
        · rw [if_neg c3, bif_f (by simp; omega)] at e1
          have := (Prod.mk.inj (Prod.mk.inj (Option.some.inj e1)).1).1
          omega

abbrev Im : Type := L (L Int)

theorem sz26 (x : Im) (b : Int) (h : x.len ≤ 2 ^ 47) (hp : ∀ i, i < x.len → (x.get i).len ≤ 2 ^ 47) (hb : 0 ≤ b) (hb' : b ≤ 1048576) :
    ∃ n, g10 x b = some ((n, ()), ()) ∧ (n = -1 ∨ (0 ≤ n ∧ n ≤ b ∧ x.len ≤ 1048576 ∧ ∀ i, i < x.len → (x.get i).len ≤ 1048576)) := by
  have h47 : (2 : Nat) ^ 47 = 140737488355328 := by decide
  have h' := h
  rw [h47] at h'
  unfold g10
  rw [wI_id (by omega) (by omega)]
  by_cases hc : b - (x.len : Int) < 0
  · rw [bif_t (by simpa using hc)]; exact ⟨-1, rfl, .inl rfl⟩
  · rw [bif_f (by simpa using hc)]
    obtain ⟨d, e1, e2⟩ := szLoop (step := s10_L0) (x := x) f44 (fun p => p.len ≤ 1048576) (fun i hi b hb hb' => by
      have : f44 (x.get i) b = _ := szLin (x.get i).len b (hp i hi) hb hb'
      rw [this]
      by_cases hd : b < ((x.get i).len : Int)
      · rw [if_pos hd]; exact .inl rfl
      · rw [if_neg hd]; right; omega) (fun i n hi => by
      simp only [s10_L0, q10_L0]
      refine (bif_t (idx_lt hi)).trans ((bif_t (idx_in hi)).trans ?_)
      rw [wI_succ hi h, Int.toNat_natCast]) (fun n => by
      simp only [s10_L0, q10_L0]
      exact bif_f (idx_end x.len)) (b - (x.len : Int)) (by omega) (by omega)
    rw [e1]
    simp only [Option.bind_some]
    rcases e2 with rfl | ⟨n, rfl, n1, n2, n3⟩
    · exact ⟨-1, rfl, .inl rfl⟩
    · exact ⟨n, rfl, .inr ⟨n1, by omega, by omega, n3⟩⟩

theorem to81 (x : L Int) (h : x.len ≤ 1048576) : ∃ r : L Int, g53r x = some ((r, ()), ()) ∧ r.len = x.len := by
  obtain ⟨r, h1, h2, h3⟩ := copy_loop (step := s53r_L0) (x := x) (fun i => x.get i) (fun i r hi hr => by
    simp only [s53r_L0, q53r_L0]
    rw [bif_t (idx_lt hi), bif_t (idx_in hi), bif_t (by simpa [hr] using hi), wI_succ hi (by omega), Int.toNat_natCast]) (fun r => by
    simp only [s53r_L0, q53r_L0]
    rw [bif_f (by simp)]) (r0 := L.rep (x.len : Int).toNat (Ty.zero (.int .u8))) (by simp [L.rep])
  refine ⟨r, ?_, h2⟩
  unfold g53r
  rw [bif_t (by simp; omega), h1]
  rfl

theorem to28 (x : Im) (h : x.len ≤ 1048576) (hw : ∀ i, i < x.len → (x.get i).len ≤ 1048576) : ∃ r : Im, g13r x = some ((r, ()), ()) ∧ r.len ≤ 1048576 ∧ ∀ i, i < r.len → (r.get i).len ≤ 1048576 := by
  obtain ⟨r, h1, h2, h3⟩ := copy_each (step := s13r_L0) (x := x) (fun i q => g53r (x.get i) = some ((q, ()), ()) ∧ q.len = (x.get i).len) (fun i hi => to81 (x.get i) (hw i hi)) (fun i r q hi hr hq => by
    simp only [s13r_L0, q13r_L0]
    rw [bif_t (idx_lt hi), bif_t (idx_in hi), wI_succ hi (by omega), Int.toNat_natCast, hq.1]
    simp only [Option.bind_some]
    exact bif_t (by simpa [hr] using hi)) (fun r => by
    simp only [s13r_L0, q13r_L0]
    rw [bif_f (by simp)]) (r0 := L.rep (x.len : Int).toNat (Ty.zero (.sl (.int .u8)))) (by simp [L.rep])
  refine ⟨r, ?_, by omega, fun i hi => by rw [(h3 i (by omega)).2]; exact hw i (by omega)⟩
  unfold g13r
  rw [bif_t (by simp; omega), h1]
  rfl

theorem eq83 (x : L Int) (h : x.len ≤ 1048576) : g71 x x = some ((true, ()), ()) := by
  have h1 := eq_loop (step := s71_L0) (x := x) (y := x) (fun i hi => by
    simp only [s71_L0, q71_L0]
    rw [bif_t (idx_lt hi), bif_t (idx_in hi), bif_t (idx_in hi), bif_f (by simp), wI_succ hi (by omega)]) (by
    simp only [s71_L0, q71_L0]
    rw [bif_f (by simp)])
  unfold g71
  rw [bif_f (by simp), h1]
  rfl
theorem eq30 (x : Im) (h : x.len ≤ 1048576) (hw : ∀ i, i < x.len → (x.get i).len ≤ 1048576) : g17 x x = some ((true, ()), ()) := by
  have h1 := eq_loop (step := s17_L0) (x := x) (y := x) (fun i hi => by
    simp only [s17_L0, q17_L0]
    rw [bif_t (idx_lt hi), bif_t (idx_in hi), bif_t (idx_in hi), Int.toNat_natCast, eq83 _ (hw i hi), wI_succ hi (by omega)]
    rfl) (by
    simp only [s17_L0, q17_L0]
    rw [bif_f (by simp)])
  unfold g17
  rw [bif_f (by simp), h1]
  rfl

theorem fits (t : Tb) (p : Int) (x : Im) (h : Bnd t) (hx : x.len ≤ 1048576) : ∃ b : Bool, g128 t p x = some ((b, ()), ()) ∧ g55 t p x = some ((b, ()), ()) := by
  unfold g128 g55
  rw [show f136 = f97 from rfl]
  cases hp : f97 p 0 (wI ((t.2.2.2.2.2.2.2.1.len : Int) - 1)) with
  | false => exact ⟨false, rfl, rfl⟩
  | true =>
    simp only [Bool.not_true, cond_false]
    have hp := (f97_iff _ _ _).mp hp
    have hl : ((t.2.2.2.2.2.2.2.1.len : Int)) = (tParts t).len := rfl
    have hb1 : (tParts t).len ≤ 1048576 := h.1
    rw [hl, wI_id (by omega) (by omega)] at hp
    have hin : (decide (0 ≤ p) && decide (p < (t.2.2.2.2.2.2.2.1.len : Int))) = true := by
      rw [hl]; simp; omega
    rw [bif_t hin, bif_t hin, bif_t hin]
    cases hne : ((x.len : Int) != ((t.2.2.2.2.2.2.2.1.get p.toNat).2.2.2.1.len : Int)) with
    | true => exact ⟨false, rfl, rfl⟩
    | false =>
      have hne : x.len = ((tParts t).get p.toNat).2.2.2.1.len := by
        have : ((x.len : Int)) = ((t.2.2.2.2.2.2.2.1.get p.toNat).2.2.2.1.len : Int) := by simpa using hne
        have e : (t.2.2.2.2.2.2.2.1.get p.toNat).2.2.2.1.len = ((tParts t).get p.toNat).2.2.2.1.len := rfl
        omega
      simp only [cond_false]
      generalize hwn : ((tParts t).get p.toNat).2.2.2.1 = wn at hne
      have hwn' : (t.2.2.2.2.2.2.2.1.get p.toNat).2.2.2.1 = wn := hwn
      rw [hwn']
      obtain ⟨d, e, e1, e2, e3⟩ := fixO_sim (s1 := s128_L0) (s2 := s55_L0)
        (fun a b => ∃ i : Nat, a = ((p, (x, ((), ((i : Int), ())))), (t, ())) ∧ b = ((x, (wn, ((wn.len : Int), ((i : Int), ())))), ()) ∧ i ≤ x.len)
        (fun d e => (d = .inl ((false, ()), ()) ∧ e = .inl ((false, ()), ())) ∨ (d = .inr (.inl ((), ())) ∧ e = .inr (.inl ((), ())))) (fun a => x.len - a.1.2.2.2.1.toNat) (by
          rintro _ _ ⟨i, rfl, rfl, hi⟩
          simp only [s128_L0, q128_L0, s55_L0, q55_L0]
          rw [hwn']
          by_cases hlt : i < x.len
          · rw [bif_t (idx_lt hlt), bif_t (idx_in hlt), bif_t hin, bif_t (idx_in (n := wn.len) (by omega)), bif_t (idx_lt (n := wn.len) (by omega)), bif_t (idx_in (n := wn.len) (by omega)), bif_t (idx_in hlt), wI_succ hlt (by omega), Int.toNat_natCast]
            cases ((x.get i).len : Int) != (wn.get i).2.1 with
            | true => exact .inr ⟨_, _, rfl, rfl, .inl ⟨rfl, rfl⟩⟩
            | false => exact .inl ⟨_, _, rfl, rfl, ⟨i + 1, rfl, rfl, hlt⟩, by simp only [Int.toNat_natCast]; omega⟩
          · right
            have : i = x.len := by omega
            subst this
            exact ⟨_, _, bif_f (idx_end x.len), bif_f (by simp; omega), .inr ⟨rfl, rfl⟩⟩)
        ((p, (x, ((), ((0 : Int), ())))), (t, ())) ((x, (wn, ((wn.len : Int), ((0 : Int), ())))), ()) ⟨0, rfl, rfl, Nat.zero_le _⟩
      rw [e1, e2]
      rcases e3 with ⟨rfl, rfl⟩ | ⟨rfl, rfl⟩
      · exact ⟨false, rfl, rfl⟩
      · exact ⟨true, rfl, rfl⟩


abbrev Wy : Type := Int × (Bool × Unit)
abbrev Sh : Type := Int × (Int × (Int × Unit))
abbrev Ca : Type := Sh × ((L (L Wy)) × Unit)
abbrev Gu : Type := (L Int) × (Int × (Im × Unit))
abbrev Vi : Type := Bool × (Int × (Int × (Int × (Int × (Bool × (Bool × (Int × Unit)))))))
abbrev He : Type := Int × (Int × (Int × (Bool × Unit)))
abbrev Tl : Type := Int × ((L Int) × Unit)
abbrev Oe : Type := Int × ((L Int) × Unit)
abbrev Ie : Type := (L Int) × Unit
abbrev De : Type := (L Int) × ((L Int) × Unit)
abbrev St : Type := Gu × (Vi × (He × (Ca × (Tl × (Int × (Bool × (Im × ((L Oe) × ((L Ie) × ((L De) × Unit))))))))))
def sOuts (s : St) : L Oe := s.2.2.2.2.2.2.2.2.1
def sIns (s : St) : L Ie := s.2.2.2.2.2.2.2.2.2.1
def sDevs (s : St) : L De := s.2.2.2.2.2.2.2.2.2.2.1
def sBoot (s : St) : Im := s.2.2.2.2.2.2.2.1
def BndI (x : Im) (m : Nat) : Prop := x.len ≤ m ∧ ∀ i, i < x.len → (x.get i).len ≤ m
/-- Sizes of a partition's state. -/
def BndS (s : St) (m : Nat) : Prop :=
  s.1.1.len ≤ m ∧ BndI s.1.2.2.1 m ∧ (s.2.2.2.1.2.1.len ≤ m ∧ ∀ i, i < s.2.2.2.1.2.1.len → (s.2.2.2.1.2.1.get i).len ≤ m) ∧ s.2.2.2.2.1.2.1.len ≤ m ∧ BndI (sBoot s) m ∧
  ((sOuts s).len ≤ m ∧ ∀ i, i < (sOuts s).len → ((sOuts s).get i).2.1.len ≤ m) ∧ ((sIns s).len ≤ m ∧ ∀ i, i < (sIns s).len → ((sIns s).get i).1.len ≤ m) ∧
  ((sDevs s).len ≤ m ∧ ∀ i, i < (sDevs s).len → ((sDevs s).get i).1.len ≤ m ∧ ((sDevs s).get i).2.1.len ≤ m)



theorem mk161 (x : L Int) (k0 : Int) (h0 : 0 ≤ k0) (hb : k0 ≤ 2305843009213693952) (hn : x.len ≤ 1048576) : ∃ k' x', g161w x k0 = some ((k', ()), (x', ())) ∧ x'.len = x.len ∧ k0 ≤ k' ∧ k' ≤ k0 + 1048576 ∧ g163 x' k0 = some ((k', ()), ()) := by
  obtain ⟨k', x', h1, h2, h3⟩ := mark_n (step := s161w_L0) x.len 1 (by omega) (fun a k k' => a = IntKind.wrap .u32 k ∧ k' = k + 1) (fun i k r => (((), (k, ((i : Int), ()))), (r, ()))) (fun k r => .inl ((k, ()), (r, ()))) x rfl k0 h0
    (fun i k r hi hr hg k1 k2 => by
      have hl : i < r.len := by omega
      refine ⟨k + 1, L.set r i (IntKind.wrap .u32 k), ?_, hr, fun j hj => set_ne_get _ _ hj, ⟨by rw [set_eq_get], rfl⟩, by omega, by omega⟩
      simp only [s161w_L0, q161w_L0]
      rw [bif_t (idx_lt hl), bif_t (idx_in hl), wI_succ hl (by omega), wI_id (n := k + 1) (by omega) (by omega), Int.toNat_natCast])
    (fun k r hr => by
      simp only [s161w_L0, q161w_L0]
      rw [bif_f (by rw [hr]; exact idx_end _)])
  have hle := h3.le
  refine ⟨k', x', ?_, h2, hle.1, by omega, ?_⟩
  · unfold g161w
    have h1' : fixO s161w_L0 (((), (k0, ((0 : Int), ()))), (x, ())) = _ := h1
    rw [h1']; rfl
  · have h4 := held_n (step := s163_L0) (x := x') x.len 1 (fun a k k' => a = IntKind.wrap .u32 k ∧ k' = k + 1) (fun i k => ((x', (k, ((i : Int), ()))), ())) (fun k => .inr (.inl ((k, ()), ()))) h3
      (fun i k k1 hi he q1 q2 q3 q4 => by
        have hl : i < x'.len := by omega
        obtain ⟨e1, rfl⟩ := he
        simp only [s163_L0, q163_L0]
        rw [bif_t (idx_lt hl), bif_t (idx_in hl), Int.toNat_natCast, e1, bif_f (by simp), wI_succ hl (by omega), wI_id (n := k + 1) (by omega) (by omega)])
      (fun k => by
        simp only [s163_L0, q163_L0]
        rw [bif_f (by rw [h2]; exact idx_end _)])
    have h4' : fixO s163_L0 ((x', (k0, ((0 : Int), ()))), ()) = _ := h4
    unfold g163
    rw [h4']; rfl


theorem mk76 (x : L Int) (k0 : Int) (h0 : 0 ≤ k0) (hb : k0 ≤ 2305843009213693952) (hn : x.len ≤ 1048576) : ∃ k' x', g76w x k0 = some ((k', ()), (x', ())) ∧ x'.len = x.len ∧ k0 ≤ k' ∧ k' ≤ k0 + 1048576 ∧ g166 x' k0 = some ((k', ()), ()) := by
  obtain ⟨k', x', h1, h2, h3⟩ := mark_n (step := s76w_L0) x.len 1 (by omega) (fun a k k' => a = IntKind.wrap .u8 k ∧ k' = k + 1) (fun i k r => (((), (k, ((i : Int), ()))), (r, ()))) (fun k r => .inl ((k, ()), (r, ()))) x rfl k0 h0
    (fun i k r hi hr hg k1 k2 => by
      have hl : i < r.len := by omega
      refine ⟨k + 1, L.set r i (IntKind.wrap .u8 k), ?_, hr, fun j hj => set_ne_get _ _ hj, ⟨by rw [set_eq_get], rfl⟩, by omega, by omega⟩
      simp only [s76w_L0, q76w_L0]
      rw [bif_t (idx_lt hl), bif_t (idx_in hl), wI_succ hl (by omega), wI_id (n := k + 1) (by omega) (by omega), Int.toNat_natCast])
    (fun k r hr => by
      simp only [s76w_L0, q76w_L0]
      rw [bif_f (by rw [hr]; exact idx_end _)])
  have hle := h3.le
  refine ⟨k', x', ?_, h2, hle.1, by omega, ?_⟩
  · unfold g76w
    have h1' : fixO s76w_L0 (((), (k0, ((0 : Int), ()))), (x, ())) = _ := h1
    rw [h1']; rfl
  · have h4 := held_n (step := s166_L0) (x := x') x.len 1 (fun a k k' => a = IntKind.wrap .u8 k ∧ k' = k + 1) (fun i k => ((x', (k, ((i : Int), ()))), ())) (fun k => .inr (.inl ((k, ()), ()))) h3
      (fun i k k1 hi he q1 q2 q3 q4 => by
        have hl : i < x'.len := by omega
        obtain ⟨e1, rfl⟩ := he
        simp only [s166_L0, q166_L0]
        rw [bif_t (idx_lt hl), bif_t (idx_in hl), Int.toNat_natCast, e1, bif_f (by simp), wI_succ hl (by omega), wI_id (n := k + 1) (by omega) (by omega)])
      (fun k => by
        simp only [s166_L0, q166_L0]
        rw [bif_f (by rw [h2]; exact idx_end _)])
    have h4' : fixO s166_L0 ((x', (k0, ((0 : Int), ()))), ()) = _ := h4
    unfold g166
    rw [h4']; rfl


theorem mk73 (x : L Int) (k0 : Int) (h0 : 0 ≤ k0) (hb : k0 ≤ 2305843009213693952) (hn : x.len ≤ 1048576) : ∃ k' x', g73w x k0 = some ((k', ()), (x', ())) ∧ x'.len = x.len ∧ k0 ≤ k' ∧ k' ≤ k0 + 1048576 ∧ g165 x' k0 = some ((k', ()), ()) := by
  obtain ⟨k', x', h1, h2, h3⟩ := mark_n (step := s73w_L0) x.len 1 (by omega) (fun a k k' => a = k ∧ k' = k + 1) (fun i k r => (((), (k, ((i : Int), ()))), (r, ()))) (fun k r => .inl ((k, ()), (r, ()))) x rfl k0 h0
    (fun i k r hi hr hg k1 k2 => by
      have hl : i < r.len := by omega
      refine ⟨k + 1, L.set r i (k), ?_, hr, fun j hj => set_ne_get _ _ hj, ⟨by rw [set_eq_get], rfl⟩, by omega, by omega⟩
      simp only [s73w_L0, q73w_L0]
      rw [bif_t (idx_lt hl), bif_t (idx_in hl), wI_succ hl (by omega), wI_id (n := k + 1) (by omega) (by omega), Int.toNat_natCast])
    (fun k r hr => by
      simp only [s73w_L0, q73w_L0]
      rw [bif_f (by rw [hr]; exact idx_end _)])
  have hle := h3.le
  refine ⟨k', x', ?_, h2, hle.1, by omega, ?_⟩
  · unfold g73w
    have h1' : fixO s73w_L0 (((), (k0, ((0 : Int), ()))), (x, ())) = _ := h1
    rw [h1']; rfl
  · have h4 := held_n (step := s165_L0) (x := x') x.len 1 (fun a k k' => a = k ∧ k' = k + 1) (fun i k => ((x', (k, ((i : Int), ()))), ())) (fun k => .inr (.inl ((k, ()), ()))) h3
      (fun i k k1 hi he q1 q2 q3 q4 => by
        have hl : i < x'.len := by omega
        obtain ⟨e1, rfl⟩ := he
        simp only [s165_L0, q165_L0]
        rw [bif_t (idx_lt hl), bif_t (idx_in hl), Int.toNat_natCast, e1, bif_f (by simp), wI_succ hl (by omega), wI_id (n := k + 1) (by omega) (by omega)])
      (fun k => by
        simp only [s165_L0, q165_L0]
        rw [bif_f (by rw [h2]; exact idx_end _)])
    have h4' : fixO s165_L0 ((x', (k0, ((0 : Int), ()))), ()) = _ := h4
    unfold g165
    rw [h4']; rfl


theorem mk245 (x : L Wy) (k0 : Int) (h0 : 0 ≤ k0) (hb : k0 ≤ 2305843009213693952) (hn : x.len ≤ 1048576) (hw : ∀ i, i < x.len → True) : ∃ k' x', g245w x k0 = some ((k', ()), (x', ())) ∧ x'.len = x.len ∧ k0 ≤ k' ∧ k' ≤ k0 + 2097152 ∧ g246 x' k0 = some ((k', ()), ()) := by
  obtain ⟨k', x', h1, h2, h3⟩ := mark_n (step := s245w_L0) x.len 2 (by omega) (fun a k k' => a.1 = k ∧ a.2.1 = ((Int.tmod (k + 1) (3 : Int)) == (0 : Int)) ∧ k' = k + 2) (fun i k r => (((), (k, ((i : Int), ()))), (r, ()))) (fun k r => .inl ((k, ()), (r, ()))) x rfl k0 h0
    (fun i k r hi hr hg k1 k2 => by
      have hl : i < r.len := by omega
      have hwi := hw i hi
      try rw [← hg] at hwi
      refine ⟨k + 2, L.upd r i (fun e => (k, (((Int.tmod (k + 1) (3 : Int)) == (0 : Int)), ()))), ?_, hr, fun j hj => upd_ne_get _ _ hj, ⟨by rw [upd_eq_get], by rw [upd_eq_get], rfl⟩, by omega, by omega⟩
      simp only [s245w_L0, q245w_L0]
      rw [Int.toNat_natCast]
      refine (bif_t (idx_lt hl)).trans ((bif_t (idx_in hl)).trans ((bif_t (idx_in hl)).trans ?_))
      rw [wI_succ hl (by omega), wI_id (n := k + 1) (by omega) (by omega), wI_id (n := k + 1 + 1) (by omega) (by omega), upd_twice, show k + 1 + 1 = k + 2 by omega])
    (fun k r hr => by
      simp only [s245w_L0, q245w_L0]
      rw [bif_f (by rw [hr]; exact idx_end _)])
  have hle := h3.le
  refine ⟨k', x', ?_, h2, hle.1, by omega, ?_⟩
  · unfold g245w
    have h1' : fixO s245w_L0 (((), (k0, ((0 : Int), ()))), (x, ())) = _ := h1
    rw [h1']; rfl
  · have h4 := held_n (step := s246_L0) (x := x') x.len 2 (fun a k k' => a.1 = k ∧ a.2.1 = ((Int.tmod (k + 1) (3 : Int)) == (0 : Int)) ∧ k' = k + 2) (fun i k => ((x', (k, ((i : Int), ()))), ())) (fun k => .inr (.inl ((k, ()), ()))) h3
      (fun i k k1 hi he q1 q2 q3 q4 => by
        have hl : i < x'.len := by omega
        obtain ⟨e1, e2, rfl⟩ := he
        simp only [s246_L0, q246_L0]
        rw [bif_t (idx_lt hl), bif_t (idx_in hl), Int.toNat_natCast, e1, bif_f (by simp), bif_t (idx_in hl), wI_id (n := k + 1) (by omega) (by omega), e2, bif_f (by simp), wI_succ hl (by omega), wI_id (n := k + 1 + 1) (by omega) (by omega), show k + 1 + 1 = k + 2 by omega])
      (fun k => by
        simp only [s246_L0, q246_L0]
        rw [bif_f (by rw [h2]; exact idx_end _)])
    have h4' : fixO s246_L0 ((x', (k0, ((0 : Int), ()))), ()) = _ := h4
    unfold g246
    rw [h4']; rfl


theorem mk19 (x : L (L Int)) (k0 : Int) (h0 : 0 ≤ k0) (hb : k0 ≤ 1152921504606846976) (hn : x.len ≤ 1048576) (hw : ∀ i, i < x.len → (x.get i).len ≤ 1048576) : ∃ k' x', g19w x k0 = some ((k', ()), (x', ())) ∧ x'.len = x.len ∧ k0 ≤ k' ∧ k' ≤ k0 + 1099511627776 ∧ g86 x' k0 = some ((k', ()), ()) := by
  obtain ⟨k', x', h1, h2, h3⟩ := mark_n (step := s19w_L0) x.len 1048576 (by omega) (fun a k k' => g166 a k = some ((k', ()), ()) ∧ 0 ≤ k') (fun i k r => (((), (k, ((i : Int), ()))), (r, ()))) (fun k r => .inl ((k, ()), (r, ()))) x rfl k0 h0
    (fun i k r hi hr hg k1 k2 => by
      have hl : i < r.len := by omega
      have hwi := hw i hi
      try rw [← hg] at hwi
      obtain ⟨k', x1, p1, p2, p3, p4, p5⟩ := mk76 (r.get i) k (by omega) (by omega) hwi
      refine ⟨k', L.upd r i (fun e => x1), ?_, hr, fun j hj => upd_ne_get _ _ hj, ⟨by rw [upd_eq_get]; exact p5, by omega⟩, p3, by omega⟩
      simp only [s19w_L0, q19w_L0]
      rw [bif_t (idx_lt hl), bif_t (idx_in hl), Int.toNat_natCast, p1, wI_succ hl (by omega)]
      rfl)
    (fun k r hr => by
      simp only [s19w_L0, q19w_L0]
      rw [bif_f (by rw [hr]; exact idx_end _)])
  have hle := h3.le
  refine ⟨k', x', ?_, h2, hle.1, by omega, ?_⟩
  · unfold g19w
    have h1' : fixO s19w_L0 (((), (k0, ((0 : Int), ()))), (x, ())) = _ := h1
    rw [h1']; rfl
  · have h4 := held_n (step := s86_L0) (x := x') x.len 1048576 (fun a k k' => g166 a k = some ((k', ()), ()) ∧ 0 ≤ k') (fun i k => ((x', (k, ((i : Int), ()))), ())) (fun k => .inr (.inl ((k, ()), ()))) h3
      (fun i k k1 hi he q1 q2 q3 q4 => by
        have hl : i < x'.len := by omega
        obtain ⟨e1, e2⟩ := he
        simp only [s86_L0, q86_L0]
        rw [bif_t (idx_lt hl), bif_t (idx_in hl), Int.toNat_natCast, e1]
        simp only [Option.bind_some]
        rw [bif_f (by simpa using e2), wI_succ hl (by omega)])
      (fun k => by
        simp only [s86_L0, q86_L0]
        rw [bif_f (by rw [h2]; exact idx_end _)])
    have h4' : fixO s86_L0 ((x', (k0, ((0 : Int), ()))), ()) = _ := h4
    unfold g86
    rw [h4']; rfl


theorem mk162 (x : L (L Wy)) (k0 : Int) (h0 : 0 ≤ k0) (hb : k0 ≤ 1152921504606846976) (hn : x.len ≤ 1048576) (hw : ∀ i, i < x.len → (x.get i).len ≤ 1048576) : ∃ k' x', g162w x k0 = some ((k', ()), (x', ())) ∧ x'.len = x.len ∧ k0 ≤ k' ∧ k' ≤ k0 + 2199023255552 ∧ g164 x' k0 = some ((k', ()), ()) := by
  obtain ⟨k', x', h1, h2, h3⟩ := mark_n (step := s162w_L0) x.len 2097152 (by omega) (fun a k k' => g246 a k = some ((k', ()), ()) ∧ 0 ≤ k') (fun i k r => (((), (k, ((i : Int), ()))), (r, ()))) (fun k r => .inl ((k, ()), (r, ()))) x rfl k0 h0
    (fun i k r hi hr hg k1 k2 => by
      have hl : i < r.len := by omega
      have hwi := hw i hi
      try rw [← hg] at hwi
      obtain ⟨k', x1, p1, p2, p3, p4, p5⟩ := mk245 (r.get i) k (by omega) (by omega) hwi (fun _ _ => trivial)
      refine ⟨k', L.upd r i (fun e => x1), ?_, hr, fun j hj => upd_ne_get _ _ hj, ⟨by rw [upd_eq_get]; exact p5, by omega⟩, p3, by omega⟩
      simp only [s162w_L0, q162w_L0]
      rw [bif_t (idx_lt hl), bif_t (idx_in hl), Int.toNat_natCast, p1, wI_succ hl (by omega)]
      rfl)
    (fun k r hr => by
      simp only [s162w_L0, q162w_L0]
      rw [bif_f (by rw [hr]; exact idx_end _)])
  have hle := h3.le
  refine ⟨k', x', ?_, h2, hle.1, by omega, ?_⟩
  · unfold g162w
    have h1' : fixO s162w_L0 (((), (k0, ((0 : Int), ()))), (x, ())) = _ := h1
    rw [h1']; rfl
  · have h4 := held_n (step := s164_L0) (x := x') x.len 2097152 (fun a k k' => g246 a k = some ((k', ()), ()) ∧ 0 ≤ k') (fun i k => ((x', (k, ((i : Int), ()))), ())) (fun k => .inr (.inl ((k, ()), ()))) h3
      (fun i k k1 hi he q1 q2 q3 q4 => by
        have hl : i < x'.len := by omega
        obtain ⟨e1, e2⟩ := he
        simp only [s164_L0, q164_L0]
        rw [bif_t (idx_lt hl), bif_t (idx_in hl), Int.toNat_natCast, e1]
        simp only [Option.bind_some]
        rw [bif_f (by simpa using e2), wI_succ hl (by omega)])
      (fun k => by
        simp only [s164_L0, q164_L0]
        rw [bif_f (by rw [h2]; exact idx_end _)])
    have h4' : fixO s164_L0 ((x', (k0, ((0 : Int), ()))), ()) = _ := h4
    unfold g164
    rw [h4']; rfl


theorem mk80 (x : L Oe) (k0 : Int) (h0 : 0 ≤ k0) (hb : k0 ≤ 1152921504606846976) (hn : x.len ≤ 1048576) (hw : ∀ i, i < x.len → (x.get i).2.1.len ≤ 1048576) : ∃ k' x', g80w x k0 = some ((k', ()), (x', ())) ∧ x'.len = x.len ∧ k0 ≤ k' ∧ k' ≤ k0 + 2199023255552 ∧ g87 x' k0 = some ((k', ()), ()) := by
  obtain ⟨k', x', h1, h2, h3⟩ := mark_n (step := s80w_L0) x.len 1048577 (by omega) (fun a k k' => a.1 = k ∧ g163 a.2.1 (k + 1) = some ((k', ()), ()) ∧ 0 ≤ k') (fun i k r => (((), (k, ((i : Int), ()))), (r, ()))) (fun k r => .inl ((k, ()), (r, ()))) x rfl k0 h0
    (fun i k r hi hr hg k1 k2 => by
      have hl : i < r.len := by omega
      have hwi := hw i hi
      try rw [← hg] at hwi
      obtain ⟨k', x1, p1, p2, p3, p4, p5⟩ := mk161 (r.get i).2.1 (k + 1) (by omega) (by omega) hwi
      refine ⟨k', L.upd r i (fun e => (k, (x1, e.2.2))), ?_, hr, fun j hj => upd_ne_get _ _ hj, ⟨by rw [upd_eq_get], by rw [upd_eq_get]; exact p5, by omega⟩, by omega, by omega⟩
      simp only [s80w_L0, q80w_L0]
      rw [Int.toNat_natCast]
      refine (bif_t (idx_lt hl)).trans ((bif_t (idx_in hl)).trans ((bif_t (idx_in hl)).trans ?_))
      rw [wI_id (n := k + 1) (by omega) (by omega), upd_eq_get, p1, wI_succ hl (by omega)]
      simp only [Option.bind_some, upd_twice])
    (fun k r hr => by
      simp only [s80w_L0, q80w_L0]
      rw [bif_f (by rw [hr]; exact idx_end _)])
  have hle := h3.le
  refine ⟨k', x', ?_, h2, hle.1, by omega, ?_⟩
  · unfold g80w
    have h1' : fixO s80w_L0 (((), (k0, ((0 : Int), ()))), (x, ())) = _ := h1
    rw [h1']; rfl
  · have h4 := held_n (step := s87_L0) (x := x') x.len 1048577 (fun a k k' => a.1 = k ∧ g163 a.2.1 (k + 1) = some ((k', ()), ()) ∧ 0 ≤ k') (fun i k => ((x', (k, ((i : Int), ()))), ())) (fun k => .inr (.inl ((k, ()), ()))) h3
      (fun i k k1 hi he q1 q2 q3 q4 => by
        have hl : i < x'.len := by omega
        obtain ⟨e1, e2, e3⟩ := he
        simp only [s87_L0, q87_L0]
        rw [bif_t (idx_lt hl), bif_t (idx_in hl), Int.toNat_natCast, e1, bif_f (by simp), bif_t (idx_in hl), wI_id (n := k + 1) (by omega) (by omega), e2]
        simp only [Option.bind_some]
        rw [bif_f (by simpa using e3), wI_succ hl (by omega)])
      (fun k => by
        simp only [s87_L0, q87_L0]
        rw [bif_f (by rw [h2]; exact idx_end _)])
    have h4' : fixO s87_L0 ((x', (k0, ((0 : Int), ()))), ()) = _ := h4
    unfold g87
    rw [h4']; rfl


theorem mk81 (x : L Ie) (k0 : Int) (h0 : 0 ≤ k0) (hb : k0 ≤ 1152921504606846976) (hn : x.len ≤ 1048576) (hw : ∀ i, i < x.len → (x.get i).1.len ≤ 1048576) : ∃ k' x', g81w x k0 = some ((k', ()), (x', ())) ∧ x'.len = x.len ∧ k0 ≤ k' ∧ k' ≤ k0 + 2199023255552 ∧ g88 x' k0 = some ((k', ()), ()) := by
  obtain ⟨k', x', h1, h2, h3⟩ := mark_n (step := s81w_L0) x.len 1048576 (by omega) (fun a k k' => g163 a.1 k = some ((k', ()), ()) ∧ 0 ≤ k') (fun i k r => (((), (k, ((i : Int), ()))), (r, ()))) (fun k r => .inl ((k, ()), (r, ()))) x rfl k0 h0
    (fun i k r hi hr hg k1 k2 => by
      have hl : i < r.len := by omega
      have hwi := hw i hi
      try rw [← hg] at hwi
      obtain ⟨k', x1, p1, p2, p3, p4, p5⟩ := mk161 (r.get i).1 k (by omega) (by omega) hwi
      refine ⟨k', L.upd r i (fun e => (x1, e.2)), ?_, hr, fun j hj => upd_ne_get _ _ hj, ⟨by rw [upd_eq_get]; exact p5, by omega⟩, by omega, by omega⟩
      simp only [s81w_L0, q81w_L0]
      rw [bif_t (idx_lt hl), bif_t (idx_in hl), Int.toNat_natCast, p1, wI_succ hl (by omega)]
      rfl)
    (fun k r hr => by
      simp only [s81w_L0, q81w_L0]
      rw [bif_f (by rw [hr]; exact idx_end _)])
  have hle := h3.le
  refine ⟨k', x', ?_, h2, hle.1, by omega, ?_⟩
  · unfold g81w
    have h1' : fixO s81w_L0 (((), (k0, ((0 : Int), ()))), (x, ())) = _ := h1
    rw [h1']; rfl
  · have h4 := held_n (step := s88_L0) (x := x') x.len 1048576 (fun a k k' => g163 a.1 k = some ((k', ()), ()) ∧ 0 ≤ k') (fun i k => ((x', (k, ((i : Int), ()))), ())) (fun k => .inr (.inl ((k, ()), ()))) h3
      (fun i k k1 hi he q1 q2 q3 q4 => by
        have hl : i < x'.len := by omega
        obtain ⟨e2, e3⟩ := he
        simp only [s88_L0, q88_L0]
        rw [bif_t (idx_lt hl), bif_t (idx_in hl), Int.toNat_natCast, e2]
        simp only [Option.bind_some]
        rw [bif_f (by simpa using e3), wI_succ hl (by omega)])
      (fun k => by
        simp only [s88_L0, q88_L0]
        rw [bif_f (by rw [h2]; exact idx_end _)])
    have h4' : fixO s88_L0 ((x', (k0, ((0 : Int), ()))), ()) = _ := h4
    unfold g88
    rw [h4']; rfl


theorem mk82 (x : L De) (k0 : Int) (h0 : 0 ≤ k0) (hb : k0 ≤ 1152921504606846976) (hn : x.len ≤ 1048576) (hw : ∀ i, i < x.len → (x.get i).1.len ≤ 1048576 ∧ (x.get i).2.1.len ≤ 1048576) : ∃ k' x', g82w x k0 = some ((k', ()), (x', ())) ∧ x'.len = x.len ∧ k0 ≤ k' ∧ k' ≤ k0 + 2199023255552 ∧ g89 x' k0 = some ((k', ()), ()) := by
  obtain ⟨k', x', h1, h2, h3⟩ := mark_n (step := s82w_L0) x.len 2097152 (by omega) (fun a k k' => ∃ m, g163 a.1 k = some ((m, ()), ()) ∧ 0 ≤ m ∧ g163 a.2.1 m = some ((k', ()), ()) ∧ 0 ≤ k') (fun i k r => (((), (k, ((i : Int), ()))), (r, ()))) (fun k r => .inl ((k, ()), (r, ()))) x rfl k0 h0
    (fun i k r hi hr hg k1 k2 => by
      have hl : i < r.len := by omega
      have hwi := hw i hi
      try rw [← hg] at hwi
      obtain ⟨m, x1, p1, p2, p3, p4, p5⟩ := mk161 (r.get i).1 k (by omega) (by omega) hwi.1
      obtain ⟨k', x2, r1, r2, r3, r4, r5⟩ := mk161 (r.get i).2.1 m (by omega) (by omega) hwi.2
      refine ⟨k', L.upd r i (fun e => (x1, (x2, e.2.2))), ?_, hr, fun j hj => upd_ne_get _ _ hj, ⟨m, by rw [upd_eq_get]; exact p5, by omega, by rw [upd_eq_get]; exact r5, by omega⟩, by omega, by omega⟩
      simp only [s82w_L0, q82w_L0]
      rw [Int.toNat_natCast]
      refine (bif_t (idx_lt hl)).trans ((bif_t (idx_in hl)).trans ?_)
      rw [p1]
      refine (bif_t (idx_in hl)).trans ?_
      rw [upd_eq_get, r1, wI_succ hl (by omega)]
      simp only [Option.bind_some, upd_twice])
    (fun k r hr => by
      simp only [s82w_L0, q82w_L0]
      rw [bif_f (by rw [hr]; exact idx_end _)])
  have hle := h3.le
  refine ⟨k', x', ?_, h2, hle.1, by omega, ?_⟩
  · unfold g82w
    have h1' : fixO s82w_L0 (((), (k0, ((0 : Int), ()))), (x, ())) = _ := h1
    rw [h1']; rfl
  · have h4 := held_n (step := s89_L0) (x := x') x.len 2097152 (fun a k k' => ∃ m, g163 a.1 k = some ((m, ()), ()) ∧ 0 ≤ m ∧ g163 a.2.1 m = some ((k', ()), ()) ∧ 0 ≤ k') (fun i k => ((x', (k, ((i : Int), ()))), ())) (fun k => .inr (.inl ((k, ()), ()))) h3
      (fun i k k1 hi he q1 q2 q3 q4 => by
        have hl : i < x'.len := by omega
        obtain ⟨m, e1, e2, e3, e4⟩ := he
        simp only [s89_L0, q89_L0]
        rw [bif_t (idx_lt hl), bif_t (idx_in hl), Int.toNat_natCast, e1]
        simp only [Option.bind_some]
        rw [bif_f (by simpa using e2), bif_t (idx_in hl), e3]
        simp only [Option.bind_some]
        rw [bif_f (by simpa using e4), wI_succ hl (by omega)])
      (fun k => by
        simp only [s89_L0, q89_L0]
        rw [bif_f (by rw [h2]; exact idx_end _)])
    have h4' : fixO s89_L0 ((x', (k0, ((0 : Int), ()))), ()) = _ := h4
    unfold g89
    rw [h4']; rfl


/-- A partition's marks are held. -/
theorem mkState (s : St) (h : BndS s 1048576) : ∃ k s', g20w s 1 = some ((k, ()), (s', ())) ∧ 0 ≤ k ∧ ∀ s2 : St, s2.1.1 = s'.1.1 → s2.1.2.2.1 = s'.1.2.2.1 → s2.2.2.2.1.2.1 = s'.2.2.2.1.2.1 → s2.2.2.2.2.1.2.1 = s'.2.2.2.2.1.2.1 → sBoot s2 = sBoot s' → sOuts s2 = sOuts s' → sIns s2 = sIns s' → sDevs s2 = sDevs s' → g21 s2 1 = some ((k, ()), ()) := by
  obtain ⟨h1, ⟨h2, h2'⟩, ⟨h3, h3'⟩, h4, ⟨h5, h5'⟩, ⟨h6, h6'⟩, ⟨h7, h7'⟩, h8, h8'⟩ := h
  obtain ⟨k1, x1, a1, a2, a3, a4, a5⟩ := mk161 s.1.1 1 (by omega) (by omega) h1
  obtain ⟨k2, x2, b1, b2, b3, b4, b5⟩ := mk19 s.1.2.2.1 k1 (by omega) (by omega) h2 h2'
  obtain ⟨k3, x3, c1, c2, c3, c4, c5⟩ := mk162 s.2.2.2.1.2.1 k2 (by omega) (by omega) h3 h3'
  obtain ⟨k4, x4, d1, d2, d3, d4, d5⟩ := mk73 s.2.2.2.2.1.2.1 k3 (by omega) (by omega) h4
  obtain ⟨k5, x5, e1, e2, e3, e4, e5⟩ := mk19 (sBoot s) k4 (by omega) (by omega) h5 h5'
  obtain ⟨k6, x6, f1, f2, f3, f4, f5⟩ := mk80 (sOuts s) k5 (by omega) (by omega) h6 h6'
  obtain ⟨k7, x7, i1, i2, i3, i4, i5⟩ := mk81 (sIns s) k6 (by omega) (by omega) h7 h7'
  obtain ⟨k8, x8, j1, j2, j3, j4, j5⟩ := mk82 (sDevs s) k7 (by omega) (by omega) h8 h8'
  have z : ∀ {k : Int}, 0 ≤ k → decide (k < 0) = false := fun h => by simpa using h
  refine ⟨k8, ((x1, ((Ty.zero (.int .u32)), (x2, (Ty.zero .unit)))), (((Ty.zero .bool), ((Ty.zero (.int .u32)), ((Ty.zero (.int .u32)), ((Ty.zero (.int .u32)), ((Ty.zero (.int .u32)), ((Ty.zero .bool), ((Ty.zero .bool), ((Ty.zero (.int .u32)), (Ty.zero .unit))))))))), (((Ty.zero (.int .i64)), ((Ty.zero (.int .i64)), ((Ty.zero (.int .i64)), ((Ty.zero .bool), (Ty.zero .unit))))), ((((Ty.zero (.int .i64)), ((Ty.zero (.int .i64)), ((Ty.zero (.int .i64)), (Ty.zero .unit)))), (x3, (Ty.zero .unit))), (((Ty.zero (.int .i64)), (x4, (Ty.zero .unit))), ((Ty.zero (.int .i64)), ((Ty.zero .bool), (x5, (x6, (x7, (x8, (Ty.zero .unit)))))))))))), ?_, by omega, ?_⟩
  rotate_left
  · intro s2 q1 q2 q3 q4 q5 q6 q7 q8
    unfold g21 g83 g84 g85
    rw [q1]
    show (Option.bind (Option.bind (g163 x1 1) _) _) = _
    rw [a5]
    simp only [Option.bind_some]
    rw [bif_f (z (by omega)), q2]
    show (Option.bind (Option.bind (g86 x2 k1) _) _) = _
    rw [b5]
    simp only [Option.bind_some]
    rw [bif_f (z (by omega))]
    simp only [Option.bind_some]
    rw [bif_f (z (by omega)), q3]
    show (Option.bind (Option.bind (g164 x3 k2) _) _) = _
    rw [c5]
    simp only [Option.bind_some]
    rw [bif_f (z (by omega))]
    simp only [Option.bind_some]
    rw [bif_f (z (by omega)), q4]
    show (Option.bind (Option.bind (g165 x4 k3) _) _) = _
    rw [d5]
    simp only [Option.bind_some]
    rw [bif_f (z (by omega))]
    simp only [Option.bind_some]
    rw [bif_f (z (by omega))]
    show (Option.bind (g86 (sBoot s2) k4) _) = _
    rw [q5]
    show (Option.bind (g86 x5 k4) _) = _
    rw [e5]
    simp only [Option.bind_some]
    rw [bif_f (z (by omega))]
    show (Option.bind (g87 (sOuts s2) k5) _) = _
    rw [q6]
    show (Option.bind (g87 x6 k5) _) = _
    rw [f5]
    simp only [Option.bind_some]
    rw [bif_f (z (by omega))]
    show (Option.bind (g88 (sIns s2) k6) _) = _
    rw [q7]
    show (Option.bind (g88 x7 k6) _) = _
    rw [i5]
    simp only [Option.bind_some]
    rw [bif_f (z (by omega))]
    show (Option.bind (g89 (sDevs s2) k7) _) = _
    rw [q8]
    show (Option.bind (g89 x8 k7) _) = _
    rw [j5]
    simp only [Option.bind_some]
    rw [bif_f (z (by omega))]
  · unfold g20w g77w g78w g79w
    show (Option.bind (Option.bind (g161w s.1.1 1) _) _) = _
    rw [a1, Option.bind_some]
    show (Option.bind (Option.bind (g19w s.1.2.2.1 k1) _) _) = _
    rw [b1, Option.bind_some, Option.bind_some]
    show (Option.bind (Option.bind (g162w s.2.2.2.1.2.1 k2) _) _) = _
    rw [c1, Option.bind_some, Option.bind_some]
    show (Option.bind (Option.bind (g73w s.2.2.2.2.1.2.1 k3) _) _) = _
    rw [d1, Option.bind_some, Option.bind_some]
    show (Option.bind (g19w (sBoot s) k4) _) = _
    rw [e1, Option.bind_some]
    show (Option.bind (g80w (sOuts s) k5) _) = _
    rw [f1, Option.bind_some]
    show (Option.bind (g81w (sIns s) k6) _) = _
    rw [i1, Option.bind_some]
    show (Option.bind (g82w (sDevs s) k7) _) = _
    rw [j1, Option.bind_some]


/-! ### Marks -/
theorem get_upd_eq {α : Type} (x : L α) (i : Nat) (f : α → α) : (L.upd x i f).get i = f (x.get i) := by simp [L.upd, L.set]
theorem get_upd_ne {α : Type} (x : L α) {i j : Nat} (f : α → α) (h : j ≠ i) : (L.upd x i f).get j = x.get j := by
  simp only [L.upd, L.set]
  cases hb : Nat.beq j i with
  | true => exact absurd (Nat.eq_of_beq_eq_true hb) h
  | false => rfl
theorem len_upd {α : Type} (x : L α) (i : Nat) (f : α → α) : (L.upd x i f).len = x.len := rfl

/-- A loop that marks a row: each round takes the counter on by at most c. -/
theorem mark_loop {α D : Type} {step : ((Unit × (Int × (Int × Unit))) × (L α × Unit)) → Option (((Unit × (Int × (Int × Unit))) × (L α × Unit)) ⊕ D)} {n : Nat} (c : Int) (ok : Nat → α → Prop) (fin : Int → L α → D) (k0 : Int) (hc : 0 ≤ c) (h0 : 0 ≤ k0) (hb : k0 + c * n ≤ 4611686018427387904)
    (hs : ∀ (i : Nat) (k : Int) (r : L α), i < n → r.len = n → k0 ≤ k → k ≤ k0 + c * i → ok i (r.get i) → ∃ k' f, step (((), (k, ((i : Int), ()))), (r, ())) = some (.inl (((), (k', (((i + 1 : Nat) : Int), ()))), (L.upd r i f, ()))) ∧ k ≤ k' ∧ k' ≤ k + c)
    (he : ∀ (k : Int) (r : L α), r.len = n → step (((), (k, ((n : Int), ()))), (r, ())) = some (.inr (fin k r)))
    {x : L α} (hx : x.len = n) (hok : ∀ i, i < n → ok i (x.get i)) :
    ∃ k' x', fixO step (((), (k0, ((0 : Int), ()))), (x, ())) = some (fin k' x') ∧ k0 ≤ k' ∧ k' ≤ k0 + c * n ∧ x'.len = n := by
  obtain ⟨d, h1, k', x', rfl, h2, h3, h4⟩ := fixO_rel (step := step) (fun y => n - y.1.2.2.1.toNat)
    (fun y => ∃ (i : Nat) (k : Int) (r : L α), y = (((), (k, ((i : Int), ()))), (r, ())) ∧ i ≤ n ∧ r.len = n ∧ k0 ≤ k ∧ k ≤ k0 + c * i ∧ ∀ j, i ≤ j → j < n → ok j (r.get j))
    (fun _ d => ∃ k' x', d = fin k' x' ∧ k0 ≤ k' ∧ k' ≤ k0 + c * n ∧ x'.len = n) (by
      rintro _ ⟨i, k, r, rfl, hi, hr, k1, k2, ho⟩
      by_cases h : i < n
      · left
        obtain ⟨k', f, e1, e2, e3⟩ := hs i k r h hr k1 k2 (ho i (Nat.le_refl _) h)
        refine ⟨_, e1, ⟨i + 1, k', _, rfl, h, hr, by omega, ?_, fun j j1 j2 => ?_⟩, by simp only; omega, fun _ hd => hd⟩
        · have : c * ((i + 1 : Nat) : Int) = c * i + c := by rw [Int.natCast_add, Int.mul_add]; simp
          omega
        · rw [get_upd_ne _ _ (by omega)]
          exact ho j (by omega) j2
      · right
        obtain rfl : i = n := by omega
        exact ⟨_, he k r hr, k, r, rfl, k1, k2, hr⟩) (((), (k0, ((0 : Int), ()))), (x, ())) ⟨0, k0, x, rfl, Nat.zero_le _, hx, Int.le_refl _, by simp, fun j _ hj => hok j hj⟩
  exact ⟨k', x', h1, h2, h3, h4⟩

theorem strOf1 (b : Int) : (strOfL (L.of (Ty.zero (.int .u8)) [b])).size = 1 := rfl

theorem markText (k : Int) (h0 : 0 ≤ k) (hb : k ≤ 4611686018427387904) : ∃ s, g159 k = some ((s, ()), ()) := by
  unfold g159
  by_cases hz : k ≤ 0
  · exact ⟨_, bif_t (by simpa using hz)⟩
  · rw [bif_f (by simpa using hz)]
    obtain ⟨d, e1, s, rfl, hs⟩ := fixO_rel (step := s159_L0) (fun y => y.1.1.toNat)
      (fun y => ∃ (m : Int) (s : ByteArray), y = ((m, (s, ())), ()) ∧ 0 ≤ m ∧ (s.size : Int) + m ≤ k)
      (fun _ d => ∃ s, d = .inl ((s, ()), ()) ∧ (s.size : Int) ≤ k) (by
        rintro _ ⟨m, s, rfl, m0, hm⟩
        simp only [s159_L0, q159_L0]
        by_cases h : m > 0
        · left
          have hd : Int.tdiv m 10 = m / 10 := Int.tdiv_eq_ediv_of_nonneg m0
          rw [bif_t (by simpa using h), bif_t (by rw [strOf1]; exact Nat.ble_eq_true_of_le (by omega)), hd, wI_id (by omega) (by omega)]
          refine ⟨_, rfl, ⟨m / 10, _, rfl, by omega, ?_⟩, by simp only; omega, fun _ hd => hd⟩
          rw [ByteArray.size_append, strOf1]
          omega
        · right
          rw [bif_f (by simpa using h)]
          exact ⟨_, rfl, s, rfl, by omega⟩) ((k, ((⟨#[]⟩ : ByteArray), ())), ()) ⟨k, _, rfl, h0, by simp [ByteArray.size]⟩
    rw [e1]
    simp only [Option.bind_some]
    exact ⟨_, bif_t (Nat.ble_eq_true_of_le (by show 1 + s.size ≤ _; omega))⟩

theorem upd_upd {α : Type} (x : L α) (i : Nat) (f g : α → α) : L.upd (L.upd x i f) i g = L.upd x i (fun e => g (f e)) := by
  simp only [L.upd, L.set]
  congr 1
  funext j
  cases hb : Nat.beq j i with
  | true => simp
  | false => rfl

theorem markWin (x : L Sl) (k0 : Int) (h0 : 0 ≤ k0) (hb : k0 + 3 * x.len ≤ 4611686018427387904) (hn : x.len ≤ 2 ^ 47) : ∃ k' x', g160w x k0 = some ((k', ()), (x', ())) ∧ k0 ≤ k' ∧ k' ≤ k0 + 3 * x.len ∧ x'.len = x.len := by
  unfold g160w
  obtain ⟨k', x', h1, h2, h3, h4⟩ := mark_loop (step := s160w_L0) (n := x.len) 3 (fun _ _ => True) (fun k r => .inl ((k, ()), (r, ()))) k0 (by omega) h0 hb
    (fun i k r hi hr k1 k2 _ => by
      have hl : i < r.len := by omega
      have e : s160w_L0 (((), (k, ((i : Int), ()))), (r, ())) = some (.inl (((), (k + 1 + 1 + 1, (((i + 1 : Nat) : Int), ()))), (L.upd r i (fun e => (k, (k + 1, (k + 1 + 1, ())))), ()))) := by
        simp only [s160w_L0, q160w_L0]
        rw [Int.toNat_natCast]
        refine (bif_t (idx_lt hl)).trans ((bif_t (idx_in hl)).trans ((bif_t (idx_in hl)).trans ((bif_t (idx_in hl)).trans ?_)))
        rw [wI_succ hi hn, wI_id (n := k + 1) (by omega) (by omega), wI_id (n := k + 1 + 1) (by omega) (by omega), wI_id (n := k + 1 + 1 + 1) (by omega) (by omega), upd_upd, upd_upd]
      exact ⟨_, _, e, by omega, by omega⟩)
    (fun k r hr => by
      have : decide ((x.len : Int) < (r.len : Int)) = false := by rw [hr]; exact idx_end _
      simp only [s160w_L0, q160w_L0]
      rw [bif_f this]) rfl (fun _ _ => trivial)
  rw [h1]
  exact ⟨k', x', rfl, h2, h3, h4⟩
theorem markSlot (x : L Sl) (k0 : Int) (h0 : 0 ≤ k0) (hb : k0 + 3 * x.len ≤ 4611686018427387904) (hn : x.len ≤ 2 ^ 47) : ∃ k' x', g75w x k0 = some ((k', ()), (x', ())) ∧ k0 ≤ k' ∧ k' ≤ k0 + 3 * x.len ∧ x'.len = x.len := by
  unfold g75w
  obtain ⟨k', x', h1, h2, h3, h4⟩ := mark_loop (step := s75w_L0) (n := x.len) 3 (fun _ _ => True) (fun k r => .inl ((k, ()), (r, ()))) k0 (by omega) h0 hb
    (fun i k r hi hr k1 k2 _ => by
      have hl : i < r.len := by omega
      have e : s75w_L0 (((), (k, ((i : Int), ()))), (r, ())) = some (.inl (((), (k + 1 + 1 + 1, (((i + 1 : Nat) : Int), ()))), (L.upd r i (fun e => (k, (k + 1, (k + 1 + 1, ())))), ()))) := by
        simp only [s75w_L0, q75w_L0]
        rw [Int.toNat_natCast]
        refine (bif_t (idx_lt hl)).trans ((bif_t (idx_in hl)).trans ((bif_t (idx_in hl)).trans ((bif_t (idx_in hl)).trans ?_)))
        rw [wI_succ hi hn, wI_id (n := k + 1) (by omega) (by omega), wI_id (n := k + 1 + 1) (by omega) (by omega), wI_id (n := k + 1 + 1 + 1) (by omega) (by omega), upd_upd, upd_upd]
      exact ⟨_, _, e, by omega, by omega⟩)
    (fun k r hr => by
      have : decide ((x.len : Int) < (r.len : Int)) = false := by rw [hr]; exact idx_end _
      simp only [s75w_L0, q75w_L0]
      rw [bif_f this]) rfl (fun _ _ => trivial)
  rw [h1]
  exact ⟨k', x', rfl, h2, h3, h4⟩
theorem markChan (x : L Ch) (k0 : Int) (h0 : 0 ≤ k0) (hb : k0 + 4 * x.len ≤ 4611686018427387904) (hn : x.len ≤ 2 ^ 47) : ∃ k' x', g74w x k0 = some ((k', ()), (x', ())) ∧ k0 ≤ k' ∧ k' ≤ k0 + 4 * x.len ∧ x'.len = x.len := by
  unfold g74w
  obtain ⟨k', x', h1, h2, h3, h4⟩ := mark_loop (step := s74w_L0) (n := x.len) 4 (fun _ _ => True) (fun k r => .inl ((k, ()), (r, ()))) k0 (by omega) h0 hb
    (fun i k r hi hr k1 k2 _ => by
      have hl : i < r.len := by omega
      have e : s74w_L0 (((), (k, ((i : Int), ()))), (r, ())) = some (.inl (((), (k + 1 + 1 + 1 + 1, (((i + 1 : Nat) : Int), ()))), (L.upd r i (fun e => (k, (k + 1, (k + 1 + 1, (k + 1 + 1 + 1, ()))))), ()))) := by
        simp only [s74w_L0, q74w_L0]
        rw [Int.toNat_natCast]
        refine (bif_t (idx_lt hl)).trans ((bif_t (idx_in hl)).trans ((bif_t (idx_in hl)).trans ((bif_t (idx_in hl)).trans ((bif_t (idx_in hl)).trans ?_))))
        rw [wI_succ hi hn, wI_id (n := k + 1) (by omega) (by omega), wI_id (n := k + 1 + 1) (by omega) (by omega), wI_id (n := k + 1 + 1 + 1) (by omega) (by omega), wI_id (n := k + 1 + 1 + 1 + 1) (by omega) (by omega), upd_upd, upd_upd, upd_upd]
      exact ⟨_, _, e, by omega, by omega⟩)
    (fun k r hr => by
      have : decide ((x.len : Int) < (r.len : Int)) = false := by rw [hr]; exact idx_end _
      simp only [s74w_L0, q74w_L0]
      rw [bif_f this]) rfl (fun _ _ => trivial)
  rw [h1]
  exact ⟨k', x', rfl, h2, h3, h4⟩
theorem markPart (x : L PR) (k0 : Int) (h0 : 0 ≤ k0) (hb : k0 + 3145732 * x.len ≤ 4611686018427387904) (hn : x.len ≤ 2 ^ 47) (hw : ∀ i, i < x.len → (x.get i).2.2.2.1.len ≤ 1048576) :
    ∃ k' x', g72w x k0 = some ((k', ()), (x', ())) ∧ k0 ≤ k' ∧ k' ≤ k0 + 3145732 * x.len ∧ x'.len = x.len := by
  unfold g72w
  obtain ⟨k', x', h1, h2, h3, h4⟩ := mark_loop (step := s72w_L0) (n := x.len) 3145732 (fun _ (e : PR) => e.2.2.2.1.len ≤ 1048576) (fun k r => .inl ((k, ()), (r, ()))) k0 (by omega) h0 hb
    (fun i k r hi hr k1 k2 ho => by
      have hl : i < r.len := by omega
      have h47 : (2 : Nat) ^ 47 = 140737488355328 := by decide
      obtain ⟨s, hs⟩ := markText k (by omega) (by omega)
      obtain ⟨k', w', e1, e2, e3, _⟩ := markWin (r.get i).2.2.2.1 (k + 1 + 1 + 1 + 1) (by omega) (by omega) (by rw [h47]; omega)
      have e : s72w_L0 (((), (k, ((i : Int), ()))), (r, ())) = some (.inl (((), (k', (((i + 1 : Nat) : Int), ()))), (L.upd r i (fun e => (s, (k + 1, ((k + 1 + 1, (k + 1 + 1 + 1, ())), (w', e.2.2.2.2))))), ()))) := by
        simp only [s72w_L0, q72w_L0]
        rw [Int.toNat_natCast]
        refine (bif_t (idx_lt hl)).trans ?_
        rw [hs]
        refine (bif_t (idx_in hl)).trans ((bif_t (idx_in hl)).trans ((bif_t (idx_in hl)).trans ((bif_t (idx_in hl)).trans ((bif_t (idx_in hl)).trans ?_))))
        rw [wI_succ hi hn, wI_id (n := k + 1) (by omega) (by omega), wI_id (n := k + 1 + 1) (by omega) (by omega), wI_id (n := k + 1 + 1 + 1) (by omega) (by omega), wI_id (n := k + 1 + 1 + 1 + 1) (by omega) (by omega), upd_upd, upd_upd, upd_upd, get_upd_eq, e1]
        simp only [Option.bind_some, upd_upd]
      exact ⟨_, _, e, by omega, by omega⟩)
    (fun k r hr => by
      have : decide ((x.len : Int) < (r.len : Int)) = false := by rw [hr]; exact idx_end _
      simp only [s72w_L0, q72w_L0]
      rw [bif_f this]) rfl hw
  rw [h1]
  exact ⟨k', x', rfl, h2, h3, h4⟩

/-- The tables' marks. -/
theorem mkTables (r : Tb) (h : Bnd r) : ∃ k z, g18w r 1 = some ((k, ()), z) ∧ 0 ≤ k ∧ k ≤ 1152921504606846976 := by
  obtain ⟨b1, b2, b3, b4, b5⟩ := h
  have h47 : (2 : Nat) ^ 47 = 140737488355328 := by decide
  obtain ⟨k1, x1, p1, p2, p3, _⟩ := markPart (tParts r) 1 (by omega) (by omega) (by omega) (fun i hi => (b5 i hi).2)
  obtain ⟨k2, x2, q1, q2, q3, q4, _⟩ := mk73 (tDevs r) k1 (by omega) (by omega) b2
  obtain ⟨k3, x3, p5, p6, p7, _⟩ := markChan (tChans r) k2 (by omega) (by omega) (by omega)
  obtain ⟨k4, x4, p8, p9, p10, _⟩ := markSlot (tSlots r) k3 (by omega) (by omega) (by omega)
  unfold g18w
  have p1' : g72w r.2.2.2.2.2.2.2.1 1 = some ((k1, ()), (x1, ())) := p1
  have q1' : g73w r.2.2.2.2.2.2.2.2.1 k1 = some ((k2, ()), (x2, ())) := q1
  have p5' : g74w r.2.2.2.2.2.2.2.2.2.1 k2 = some ((k3, ()), (x3, ())) := p5
  have p8' : g75w r.2.2.2.2.2.2.2.2.2.2.1 k3 = some ((k4, ()), (x4, ())) := p8
  rw [p1', Option.bind_some, q1', Option.bind_some, p5', Option.bind_some, p8', Option.bind_some]
  exact ⟨k4, _, rfl, by omega, by omega⟩

/-- Slices that nobody can tell apart. -/
def SmL {α : Type} (x y : L α) : Prop := x.len = y.len ∧ ∀ i, i < x.len → x.get i = y.get i
def SmR {α : Type} (R : α → α → Prop) (x y : L α) : Prop := x.len = y.len ∧ ∀ i, i < x.len → R (x.get i) (y.get i)
theorem SmL.refl {α : Type} (x : L α) : SmL x x := ⟨rfl, fun _ _ => rfl⟩
theorem SmL.symm {α : Type} {x y : L α} (h : SmL x y) : SmL y x := ⟨h.1.symm, fun i hi => (h.2 i (by rw [h.1]; exact hi)).symm⟩
theorem SmL.trans {α : Type} {x y z : L α} (h : SmL x y) (k : SmL y z) : SmL x z := ⟨h.1.trans k.1, fun i hi => (h.2 i hi).trans (k.2 i (by rw [← h.1]; exact hi))⟩
theorem SmR.refl {α : Type} {R : α → α → Prop} (hR : ∀ a, R a a) (x : L α) : SmR R x x := ⟨rfl, fun _ _ => hR _⟩
theorem SmR.symm {α : Type} {R : α → α → Prop} (hR : ∀ a b, R a b → R b a) {x y : L α} (h : SmR R x y) : SmR R y x := ⟨h.1.symm, fun i hi => hR _ _ (h.2 i (by rw [h.1]; exact hi))⟩
theorem SmR.trans {α : Type} {R : α → α → Prop} (hR : ∀ a b c, R a b → R b c → R a c) {x y z : L α} (h : SmR R x y) (k : SmR R y z) : SmR R x z := ⟨h.1.trans k.1, fun i hi => hR _ _ _ (h.2 i hi) (k.2 i (by rw [← h.1]; exact hi))⟩
def SmO (a b : Oe) : Prop := a.1 = b.1 ∧ SmL a.2.1 b.2.1
def SmI (a b : Ie) : Prop := SmL a.1 b.1
def SmD (a b : De) : Prop := SmL a.1 b.1 ∧ SmL a.2.1 b.2.1
theorem SmO.symm {a b : Oe} (h : SmO a b) : SmO b a := ⟨h.1.symm, h.2.symm⟩
theorem SmI.symm {a b : Ie} (h : SmI a b) : SmI b a := SmL.symm h
theorem SmD.symm {a b : De} (h : SmD a b) : SmD b a := ⟨h.1.symm, h.2.symm⟩
theorem SmO.trans {a b c : Oe} (h : SmO a b) (k : SmO b c) : SmO a c := ⟨h.1.trans k.1, h.2.trans k.2⟩
theorem SmI.trans {a b c : Ie} (h : SmI a b) (k : SmI b c) : SmI a c := SmL.trans h k
theorem SmD.trans {a b c : De} (h : SmD a b) (k : SmD b c) : SmD a c := ⟨h.1.trans k.1, h.2.trans k.2⟩
def SmG (a b : Gu) : Prop := SmL a.1 b.1 ∧ a.2.1 = b.2.1 ∧ SmR SmL a.2.2.1 b.2.2.1
def SmC (a b : Ca) : Prop := a.1 = b.1 ∧ SmR SmL a.2.1 b.2.1
def SmT (a b : Tl) : Prop := a.1 = b.1 ∧ SmL a.2.1 b.2.1
/-- States that nobody can tell apart. -/
structure SmS (a b : St) : Prop where
  gu : SmG a.1 b.1
  vi : a.2.1 = b.2.1
  he : a.2.2.1 = b.2.2.1
  ca : SmC a.2.2.2.1 b.2.2.2.1
  tl : SmT a.2.2.2.2.1 b.2.2.2.2.1
  nx : a.2.2.2.2.2.1 = b.2.2.2.2.2.1
  id : a.2.2.2.2.2.2.1 = b.2.2.2.2.2.2.1
  bo : SmR SmL (sBoot a) (sBoot b)
  ou : SmR SmO (sOuts a) (sOuts b)
  is : SmR SmI (sIns a) (sIns b)
  de : SmR SmD (sDevs a) (sDevs b)
theorem SmG.refl (a : Gu) : SmG a a := ⟨SmL.refl _, rfl, SmR.refl SmL.refl _⟩
theorem SmS.refl (a : St) : SmS a a := ⟨SmG.refl _, rfl, rfl, ⟨rfl, SmR.refl SmL.refl _⟩, ⟨rfl, SmL.refl _⟩, rfl, rfl, SmR.refl SmL.refl _, SmR.refl (fun _ => ⟨rfl, SmL.refl _⟩) _, SmR.refl (R := SmI) (fun _ => SmL.refl _) _, SmR.refl (fun _ => ⟨SmL.refl _, SmL.refl _⟩) _⟩
theorem SmG.symm {a b : Gu} (h : SmG a b) : SmG b a := ⟨h.1.symm, h.2.1.symm, h.2.2.symm (fun _ _ => SmL.symm)⟩
theorem SmG.trans {a b c : Gu} (h : SmG a b) (k : SmG b c) : SmG a c := ⟨h.1.trans k.1, h.2.1.trans k.2.1, SmR.trans (R := SmL) (fun _ _ _ => SmL.trans) h.2.2 k.2.2⟩
theorem SmS.symm {a b : St} (h : SmS a b) : SmS b a := ⟨h.gu.symm, h.vi.symm, h.he.symm, ⟨h.ca.1.symm, h.ca.2.symm (fun _ _ => SmL.symm)⟩, ⟨h.tl.1.symm, h.tl.2.symm⟩, h.nx.symm, h.id.symm, h.bo.symm (fun _ _ => SmL.symm), h.ou.symm (fun _ _ => SmO.symm), h.is.symm (fun _ _ => SmI.symm), h.de.symm (fun _ _ => SmD.symm)⟩
theorem SmS.trans {a b c : St} (h : SmS a b) (k : SmS b c) : SmS a c := ⟨h.gu.trans k.gu, h.vi.trans k.vi, h.he.trans k.he, ⟨h.ca.1.trans k.ca.1, SmR.trans (R := SmL) (fun _ _ _ => SmL.trans) h.ca.2 k.ca.2⟩, ⟨h.tl.1.trans k.tl.1, h.tl.2.trans k.tl.2⟩, h.nx.trans k.nx, h.id.trans k.id, SmR.trans (R := SmL) (fun _ _ _ => SmL.trans) h.bo k.bo, SmR.trans (R := SmO) (fun _ _ _ => SmO.trans) h.ou k.ou, SmR.trans (R := SmI) (fun _ _ _ => SmI.trans) h.is k.is, SmR.trans (R := SmD) (fun _ _ _ => SmD.trans) h.de k.de⟩

theorem eqI151 {x y : L Int} (h : SmL x y) (hl : x.len ≤ 1048576) : g151 x y = some ((true, ()), ()) := by
  have h1 := eq_loop (step := s151_L0) (x := x) (y := y) (fun i hi => by
    have hy : i < y.len := by rw [← h.1]; exact hi
    simp only [s151_L0, q151_L0]
    rw [bif_t (idx_lt hi), bif_t (idx_in hi), bif_t (idx_in hy), Int.toNat_natCast, bif_f (by rw [h.2 i hi]; simp), wI_succ hi (by omega)]) (by
    simp only [s151_L0, q151_L0]
    rw [bif_f (idx_end _)])
  unfold g151
  rw [bif_f (by rw [h.1]; simp), h1]
  rfl

theorem eqI71 {x y : L Int} (h : SmL x y) (hl : x.len ≤ 1048576) : g71 x y = some ((true, ()), ()) := by
  have h1 := eq_loop (step := s71_L0) (x := x) (y := y) (fun i hi => by
    have hy : i < y.len := by rw [← h.1]; exact hi
    simp only [s71_L0, q71_L0]
    rw [bif_t (idx_lt hi), bif_t (idx_in hi), bif_t (idx_in hy), Int.toNat_natCast, bif_f (by rw [h.2 i hi]; simp), wI_succ hi (by omega)]) (by
    simp only [s71_L0, q71_L0]
    rw [bif_f (idx_end _)])
  unfold g71
  rw [bif_f (by rw [h.1]; simp), h1]
  rfl

theorem eqI68 {x y : L Int} (h : SmL x y) (hl : x.len ≤ 1048576) : g68 x y = some ((true, ()), ()) := by
  have h1 := eq_loop (step := s68_L0) (x := x) (y := y) (fun i hi => by
    have hy : i < y.len := by rw [← h.1]; exact hi
    simp only [s68_L0, q68_L0]
    rw [bif_t (idx_lt hi), bif_t (idx_in hi), bif_t (idx_in hy), Int.toNat_natCast, bif_f (by rw [h.2 i hi]; simp), wI_succ hi (by omega)]) (by
    simp only [s68_L0, q68_L0]
    rw [bif_f (idx_end _)])
  unfold g68
  rw [bif_f (by rw [h.1]; simp), h1]
  rfl

theorem eqR17 {x y : L (L Int)} (h : SmR SmL x y) (hl : x.len ≤ 1048576) (hw : ∀ i, i < x.len → (x.get i).len ≤ 1048576) : g17 x y = some ((true, ()), ()) := by
  have h1 := eq_loop (step := s17_L0) (x := x) (y := y) (fun i hi => by
    have hy : i < y.len := by rw [← h.1]; exact hi
    have hr := h.2 i hi
    simp only [s17_L0, q17_L0]
    rw [bif_t (idx_lt hi), bif_t (idx_in hi), bif_t (idx_in hy), Int.toNat_natCast, eqI71 hr (hw i hi), wI_succ hi (by omega)]
    rfl) (by
    simp only [s17_L0, q17_L0]
    rw [bif_f (idx_end _)])
  unfold g17
  rw [bif_f (by rw [h.1]; simp), h1]
  rfl

theorem eqR242 {x y : L Wy} (h : SmR (· = ·) x y) (hl : x.len ≤ 1048576) : g242 x y = some ((true, ()), ()) := by
  have h1 := eq_loop (step := s242_L0) (x := x) (y := y) (fun i hi => by
    have hy : i < y.len := by rw [← h.1]; exact hi
    have hr := h.2 i hi
    have hf : f306 (x.get i) (y.get i) = true := by
      have hr : x.get i = y.get i := hr
      rw [hr]; simp [f306]
    simp only [s242_L0, q242_L0]
    rw [bif_t (idx_lt hi), bif_t (idx_in hi), bif_t (idx_in hy), Int.toNat_natCast, hf, wI_succ hi (by omega)]
    rfl) (by
    simp only [s242_L0, q242_L0]
    rw [bif_f (idx_end _)])
  unfold g242
  rw [bif_f (by rw [h.1]; simp), h1]
  rfl

theorem eqR152 {x y : L (L Wy)} (h : SmR SmL x y) (hl : x.len ≤ 1048576) (hw : ∀ i, i < x.len → (x.get i).len ≤ 1048576) : g152 x y = some ((true, ()), ()) := by
  have h1 := eq_loop (step := s152_L0) (x := x) (y := y) (fun i hi => by
    have hy : i < y.len := by rw [← h.1]; exact hi
    have hr := h.2 i hi
    simp only [s152_L0, q152_L0]
    rw [bif_t (idx_lt hi), bif_t (idx_in hi), bif_t (idx_in hy), Int.toNat_natCast, eqR242 (show SmR (· = ·) _ _ from hr) (hw i hi), wI_succ hi (by omega)]
    rfl) (by
    simp only [s152_L0, q152_L0]
    rw [bif_f (idx_end _)])
  unfold g152
  rw [bif_f (by rw [h.1]; simp), h1]
  rfl

theorem eqR62 {x y : L Oe} (h : SmR SmO x y) (hl : x.len ≤ 1048576) (hw : ∀ i, i < x.len → (x.get i).2.1.len ≤ 1048576) : g62 x y = some ((true, ()), ()) := by
  have h1 := eq_loop (step := s62_L0) (x := x) (y := y) (fun i hi => by
    have hy : i < y.len := by rw [← h.1]; exact hi
    have hr := h.2 i hi
    have hf : g153 (x.get i) (y.get i) = some ((true, ()), ()) := by
      unfold g153
      rw [bif_f (by rw [hr.1]; simp), eqI151 hr.2 (hw i hi)]; rfl
    simp only [s62_L0, q62_L0]
    rw [bif_t (idx_lt hi), bif_t (idx_in hi), bif_t (idx_in hy), Int.toNat_natCast, hf, wI_succ hi (by omega)]
    rfl) (by
    simp only [s62_L0, q62_L0]
    rw [bif_f (idx_end _)])
  unfold g62
  rw [bif_f (by rw [h.1]; simp), h1]
  rfl

theorem eqR63 {x y : L Ie} (h : SmR SmI x y) (hl : x.len ≤ 1048576) (hw : ∀ i, i < x.len → (x.get i).1.len ≤ 1048576) : g63 x y = some ((true, ()), ()) := by
  have h1 := eq_loop (step := s63_L0) (x := x) (y := y) (fun i hi => by
    have hy : i < y.len := by rw [← h.1]; exact hi
    have hr := h.2 i hi
    have hf : g154 (x.get i) (y.get i) = some ((true, ()), ()) := by
      unfold g154
      rw [eqI151 hr (hw i hi)]; rfl
    simp only [s63_L0, q63_L0]
    rw [bif_t (idx_lt hi), bif_t (idx_in hi), bif_t (idx_in hy), Int.toNat_natCast, hf, wI_succ hi (by omega)]
    rfl) (by
    simp only [s63_L0, q63_L0]
    rw [bif_f (idx_end _)])
  unfold g63
  rw [bif_f (by rw [h.1]; simp), h1]
  rfl

theorem eqR64 {x y : L De} (h : SmR SmD x y) (hl : x.len ≤ 1048576) (hw : ∀ i, i < x.len → (x.get i).1.len ≤ 1048576 ∧ (x.get i).2.1.len ≤ 1048576) : g64 x y = some ((true, ()), ()) := by
  have h1 := eq_loop (step := s64_L0) (x := x) (y := y) (fun i hi => by
    have hy : i < y.len := by rw [← h.1]; exact hi
    have hr := h.2 i hi
    have hf : g155 (x.get i) (y.get i) = some ((true, ()), ()) := by
      unfold g155
      rw [eqI151 hr.1 (hw i hi).1, eqI151 hr.2 (hw i hi).2]; rfl
    simp only [s64_L0, q64_L0]
    rw [bif_t (idx_lt hi), bif_t (idx_in hi), bif_t (idx_in hy), Int.toNat_natCast, hf, wI_succ hi (by omega)]
    rfl) (by
    simp only [s64_L0, q64_L0]
    rw [bif_f (idx_end _)])
  unfold g64
  rw [bif_f (by rw [h.1]; simp), h1]
  rfl


theorem eqState {a b : St} (h : SmS a b) (hb : BndS a 1048576) : g15 a b = some ((true, ()), ()) := by
  obtain ⟨h1, ⟨h2, h2'⟩, ⟨h3, h3'⟩, h4, ⟨h5, h5'⟩, ⟨h6, h6'⟩, ⟨h7, h7'⟩, h8, h8'⟩ := hb
  have a1 := eqI151 h.gu.1 h1
  have b1 := eqR17 h.gu.2.2 h2 h2'
  have c1 := eqR152 h.ca.2 h3 h3'
  have d1 := eqI68 h.tl.2 h4
  have e1 : g17 a.2.2.2.2.2.2.2.1 b.2.2.2.2.2.2.2.1 = some ((true, ()), ()) := eqR17 h.bo h5 h5'
  have f1 : g62 a.2.2.2.2.2.2.2.2.1 b.2.2.2.2.2.2.2.2.1 = some ((true, ()), ()) := eqR62 h.ou h6 h6'
  have g1 : g63 a.2.2.2.2.2.2.2.2.2.1 b.2.2.2.2.2.2.2.2.2.1 = some ((true, ()), ()) := eqR63 h.is h7 h7'
  have k1 : g64 a.2.2.2.2.2.2.2.2.2.2.1 b.2.2.2.2.2.2.2.2.2.2.1 = some ((true, ()), ()) := eqR64 h.de h8 h8'
  have v1 : f58 a.2.1 b.2.1 = true := by rw [h.vi]; simp [f58]
  have v2 : f59 a.2.2.1 b.2.2.1 = true := by rw [h.he]; simp [f59]
  have v3 : f65 a.2.2.2.1.1 b.2.2.2.1.1 = true := by rw [h.ca.1]; simp [f65]
  unfold g15 g57 g60 g61
  rw [a1, b1, c1, d1, e1, f1, g1, k1, v1, v2, v3, h.gu.2.1, h.tl.1, h.nx, h.id]
  simp
/-- Sizes of states that nobody can tell apart. -/
theorem BndS.same {a b : St} {m : Nat} (h : SmS a b) (hb : BndS a m) : BndS b m := by
  obtain ⟨h1, ⟨h2, h2'⟩, ⟨h3, h3'⟩, h4, ⟨h5, h5'⟩, ⟨h6, h6'⟩, ⟨h7, h7'⟩, h8, h8'⟩ := hb
  refine ⟨by rw [← h.gu.1.1]; exact h1, ⟨by rw [← h.gu.2.2.1]; exact h2, fun i hi => ?_⟩, ⟨by rw [← h.ca.2.1]; exact h3, fun i hi => ?_⟩, by rw [← h.tl.2.1]; exact h4, ⟨by rw [← h.bo.1]; exact h5, fun i hi => ?_⟩, ⟨by rw [← h.ou.1]; exact h6, fun i hi => ?_⟩, ⟨by rw [← h.is.1]; exact h7, fun i hi => ?_⟩, by rw [← h.de.1]; exact h8, fun i hi => ?_⟩
  · have hi' : i < a.1.2.2.1.len := by rw [h.gu.2.2.1]; exact hi
    rw [← (h.gu.2.2.2 i hi').1]; exact h2' i hi'
  · have hi' : i < a.2.2.2.1.2.1.len := by rw [h.ca.2.1]; exact hi
    rw [← (h.ca.2.2 i hi').1]; exact h3' i hi'
  · have hi' : i < (sBoot a).len := by rw [h.bo.1]; exact hi
    rw [← (h.bo.2 i hi').1]; exact h5' i hi'
  · have hi' : i < (sOuts a).len := by rw [h.ou.1]; exact hi
    rw [← (h.ou.2 i hi').2.1]; exact h6' i hi'
  · have hi' : i < (sIns a).len := by rw [h.is.1]; exact hi
    rw [← (h.is.2 i hi').1]; exact h7' i hi'
  · have hi' : i < (sDevs a).len := by rw [h.de.1]; exact hi
    rw [← (h.de.2 i hi').1.1, ← (h.de.2 i hi').2.1]; exact h8' i hi'


/-! ### What a partition starts from -/
theorem bind_of {α β σ : Type} {o : Option α} {F : α → Option β} {g : σ → β} {P : σ → Prop} (h : ∃ a, o = some a ∧ ∃ s, F a = some (g s) ∧ P s) : ∃ s, o.bind F = some (g s) ∧ P s := by
  obtain ⟨a, rfl, s, h1, h2⟩ := h
  exact ⟨s, h1, h2⟩
theorem snoc_lt {α : Type} (r : L α) (d q : α) {j : Nat} (h : j < r.len) : (L.app r (L.of d [q])).get j = r.get j := app_get_lt h
theorem snoc_at {α : Type} (r : L α) (d q : α) {i : Nat} (h : r.len = i) : (L.app r (L.of d [q])).get i = q := by
  subst h
  exact app_get_ge (x := r) (y := L.of d [q]) (i := 0)
theorem snoc_fit {α : Type} (r : L α) (d q : α) (h : r.len ≤ 1048576) : decide (r.len + (L.of d [q]).len ≤ most) = true := decide_eq_true (by show r.len + 1 ≤ 4294967296; omega)
theorem app0 {α : Type} (d : α) (y : L α) : SmL (L.app (L.of d []) y) y := by
  refine ⟨Nat.zero_add _, fun i hi => ?_⟩
  have := app_get_ge (x := L.of d []) (y := y) (i := i)
  rwa [show (L.of d ([] : List α)).len + i = i from Nat.zero_add i] at this
theorem app0_fit {α : Type} (d : α) (y : L α) (h : y.len ≤ 1048576) : decide ((L.of d []).len + y.len ≤ most) = true := decide_eq_true (by show 0 + y.len ≤ 4294967296; omega)

/-- A row built up by one element a round. -/
theorem snoc_n {X D β : Type} {step : X → Option (X ⊕ D)} (n : Nat) (hn : n ≤ 1048576) (st : Nat → L β → X) (fin : L β → D) (d : β) (R : Nat → β → Prop)
    (hs : ∀ i r, i < n → r.len = i → ∃ q, step (st i r) = some (.inl (st (i + 1) (L.app r (L.of d [q])))) ∧ R i q)
    (he : ∀ r, r.len = n → step (st n r) = some (.inr (fin r))) {r0 : L β} (h0 : r0.len = 0) :
    ∃ r, fixO step (st 0 r0) = some (fin r) ∧ r.len = n ∧ ∀ i, i < n → R i (r.get i) :=
  build_n n st fin R (fun i r hi hr => by
    obtain ⟨q, h1, h2⟩ := hs i r hi hr
    exact ⟨_, h1, by show r.len + 1 = _; omega, fun j hj => snoc_lt _ _ _ (by omega), by rw [snoc_at _ _ _ hr]; exact h2⟩) he h0

theorem ram130 (x : Im) (hl : x.len ≤ 1048576) (hw : ∀ i, i < x.len → (x.get i).len ≤ 1048576) : ∃ r : Im, g130r x = some ((r, ()), ()) ∧ SmR SmL r x := by
  obtain ⟨r, h1, h2, h3⟩ := snoc_n (step := s130r_L0) x.len hl (fun i r => ((x, ((), ((i : Int), ()))), (r, ()))) (fun r => .inl (((), ()), (r, ()))) (Ty.zero (.sl (.int .u8))) (fun i q => SmL q (x.get i))
    (fun i r hi hr => ⟨L.app (L.of (Ty.zero (.int .u8)) []) (x.get i), by
      simp only [s130r_L0, q130r_L0]
      rw [bif_t (idx_lt hi), bif_t (idx_in hi), Int.toNat_natCast, bif_t (app0_fit _ _ (hw i hi)), bif_t (snoc_fit _ _ _ (by omega)), wI_succ hi (by omega)], app0 _ _⟩)
    (fun r hr => by
      simp only [s130r_L0, q130r_L0]
      rw [bif_f (idx_end _)]) (r0 := L.of (Ty.zero (.sl (.int .u8))) []) rfl
  refine ⟨r, ?_, h2, fun i hi => h3 i (by omega)⟩
  unfold g130r
  have h1' : fixO s130r_L0 ((x, ((), ((0 : Int), ()))), ((L.of (Ty.zero (.sl (.int .u8))) []), ())) = _ := h1
  rw [h1']; rfl

theorem clone241 (x : L Int) (h : x.len ≤ 1048576) (hn : x.nil = true → x.len = 0) : ∃ r, g241r x = some ((r, ()), ()) ∧ SmL r x := by
  unfold g241r
  cases hx : x.nil with
  | true => exact ⟨_, rfl, by rw [hn hx]; rfl, fun i hi => absurd hi (Nat.not_lt_zero i)⟩
  | false => exact ⟨_, (bif_f rfl).trans (bif_t (app0_fit _ _ h)), app0 _ _⟩

theorem bytes150 (x : Im) (hl : x.len ≤ 1048576) (hw : ∀ i, i < x.len → (x.get i).len ≤ 1048576) (hn : ∀ i, i < x.len → (x.get i).nil = true → (x.get i).len = 0) : ∃ r : Im, g150r x = some ((r, ()), ()) ∧ SmR SmL r x := by
  obtain ⟨r, h1, h2, h3⟩ := snoc_n (step := s150r_L0) x.len hl (fun i r => ((r, (x, ((x.len : Int), ((i : Int), ())))), ())) (fun r => .inl (((), ()), (r, ()))) (Ty.zero (.sl (.int .u8))) (fun i q => SmL q (x.get i))
    (fun i r hi hr => by
      obtain ⟨q, q1, q2⟩ := clone241 (x.get i) (hw i hi) (hn i hi)
      refine ⟨q, ?_, q2⟩
      simp only [s150r_L0, q150r_L0]
      rw [bif_t (idx_lt hi), bif_t (idx_in hi), Int.toNat_natCast, q1]
      simp only [Option.bind_some]
      rw [bif_t (snoc_fit _ _ _ (by omega)), wI_succ hi (by omega)])
    (fun r hr => by
      simp only [s150r_L0, q150r_L0]
      rw [bif_f (idx_end _)]) (r0 := nilL (.sl (.int .u8))) rfl
  refine ⟨r, ?_, h2, fun i hi => h3 i (by omega)⟩
  unfold g150r
  have h1' : fixO s150r_L0 (((nilL (.sl (.int .u8))), (x, ((x.len : Int), ((0 : Int), ())))), ()) = _ := h1
  rw [h1']; rfl

/-- The guest that a partition starts from. -/
def StartG (t : Tb) (p : Int) (x : Im) (g : Gu) : Prop := (g.1.len = 16 ∧ ∀ i, i < 16 → g.1.get i = 0) ∧ g.2.1 = IntKind.wrap .u32 ((tParts t).get p.toNat).2.1 ∧ SmR SmL g.2.2.1 x

theorem guest129 (t : Tb) (p : Int) (x : Im) (hp : 0 ≤ p ∧ p < (tParts t).len) (hl : x.len ≤ 1048576) (hw : ∀ i, i < x.len → (x.get i).len ≤ 1048576) : ∃ g : Gu, g129r t p x = some ((g, ()), ()) ∧ StartG t p x g := by
  obtain ⟨y, y1, y2⟩ := ram130 x hl hw
  have hix : (decide (0 ≤ p) && decide (p < (t.2.2.2.2.2.2.2.1.len : Int))) = true := by
    have hl : ((t.2.2.2.2.2.2.2.1.len : Int)) = (tParts t).len := rfl
    rw [hl]; simp; omega
  have key : ∀ (b6_0 : L Int) (b6_1 : Int) (b6_2 : Im) (b7_1 : Int) (r1001088 : Im), ∃ r, fixO s129r_L0 (((), ((), ((0:Int), ()))), ((b6_0, (b6_1, (b6_2, ()))), (((nilL (.int .u32)), (b7_1, ((), ()))), (r1001088, ())))) = some (.inl (((), ((), ())), (((), (b6_1, ((), ()))), (((), (b7_1, ((), ()))), (b6_0, (b6_2, (r, (r1001088, ())))))))) ∧ r.len = 16 ∧ ∀ i, i < 16 → r.get i = (0 : Int) := by
    intro b6_0 b6_1 b6_2 b7_1 r1001088
    exact snoc_n (step := s129r_L0) 16 (by omega) (fun i r => (((), ((), ((i:Int), ()))), ((b6_0, (b6_1, (b6_2, ()))), ((r, (b7_1, ((), ()))), (r1001088, ()))))) (fun r => .inl (((), ((), ())), (((), (b6_1, ((), ()))), (((), (b7_1, ((), ()))), (b6_0, (b6_2, (r, (r1001088, ())))))))) (Ty.zero (.int .u32)) (fun i q => q = (0 : Int))
      (fun i r hi hr => ⟨(0 : Int), by
        simp only [s129r_L0, q129r_L0]
        rw [bif_t (by simp; omega), bif_t (snoc_fit _ _ _ (by omega)), wI_succ hi (by omega)], rfl⟩)
      (fun r hr => by
        simp only [s129r_L0, q129r_L0]
        rw [bif_f (by simp)]) (r0 := nilL (.int .u32)) rfl
  unfold g129r
  rw [bif_t hix, y1]
  simp only [Option.bind_some]
  obtain ⟨r, k1, k2, k3⟩ := key (nilL (.int .u32)) 0 (nilL (.sl (.int .u8))) (IntKind.wrap .u32 ((L.get t.2.2.2.2.2.2.2.1 p.toNat).2.1)) y
  rw [k1]
  exact ⟨_, rfl, ⟨k2, k3⟩, rfl, y2⟩

theorem guest148 (t : Tb) (p : Int) (x : Im) (hp : 0 ≤ p ∧ p < (tParts t).len) (hl : x.len ≤ 1048576) (hw : ∀ i, i < x.len → (x.get i).len ≤ 1048576) (hn : ∀ i, i < x.len → (x.get i).nil = true → (x.get i).len = 0) : ∃ g : Gu, g148r t p x = some ((g, ()), ()) ∧ StartG t p x g := by
  obtain ⟨y, y1, y2⟩ := bytes150 x hl hw hn
  have hix : (decide (0 ≤ p) && decide (p < (t.2.2.2.2.2.2.2.1.len : Int))) = true := by
    have hl : ((t.2.2.2.2.2.2.2.1.len : Int)) = (tParts t).len := rfl
    rw [hl]; simp; omega
  have key : ∀ (e : Int), g240r (nilL (.pair (.int .i64) (.pair (.int .i64) (.pair (.int .i64) .unit)))) e = some (((L.rep 16 (Ty.zero (.int .u32)), (IntKind.wrap .u32 e, (nilL (.sl (.int .u8)), ()))), ()), ()) := by
    intro e
    unfold g240r
    rw [fixO_unfold]
    simp only [s240r_L0, q240r_L0]
    rw [bif_f (by simp [nilL])]
    rfl
  unfold g148r
  rw [bif_t hix, key]
  simp only [Option.bind_some]
  rw [y1]
  exact ⟨_, rfl, ⟨rfl, fun _ _ => rfl⟩, rfl, y2⟩

theorem StartG.same {t : Tb} {p : Int} {x y : Im} {a b : Gu} (h : StartG t p x a) (k : StartG t p y b) (hxy : SmR SmL x y) : SmG a b :=
  ⟨⟨by rw [h.1.1, k.1.1], fun i hi => by rw [h.1.1] at hi; rw [h.1.2 i hi, k.1.2 i hi]⟩, h.2.1.trans k.2.1.symm, SmR.trans (R := SmL) (fun _ _ _ => SmL.trans) h.2.2 (SmR.trans (R := SmL) (fun _ _ _ => SmL.trans) hxy (SmR.symm (R := SmL) (fun _ _ => SmL.symm) k.2.2))⟩

/-- An empty cache. -/
def NoneC (s : Sh) (c : Ca) : Prop := c.1 = s ∧ c.2.1.len = s.1.toNat ∧ ∀ i, i < c.2.1.len → (c.2.1.get i).len = 0
theorem NoneC.same {s : Sh} {a b : Ca} (h : NoneC s a) (k : NoneC s b) : SmC a b :=
  ⟨h.1.trans k.1.symm, h.2.1.trans k.2.1.symm, fun i hi => ⟨by rw [h.2.2 i hi, k.2.2 i (by rw [k.2.1, ← h.2.1]; exact hi)], fun j hj => by rw [h.2.2 i hi] at hj; exact absurd hj (Nat.not_lt_zero j)⟩⟩
theorem shape_le {s : Sh} (h : f119 s = true) : 1 ≤ s.1 ∧ s.1 ≤ 16 := by
  rw [f119_eq] at h
  simp only [Bool.and_eq_true, Bool.or_eq_true, beq_iff_eq] at h
  omega
theorem cache149 (s : Sh) (h : f119 s = true) : ∃ c : Ca, g149r s = some ((c, ()), ()) ∧ NoneC s c := by
  have := shape_le h
  unfold g149r
  refine ⟨_, bif_t (by simp; omega), rfl, rfl, fun i _ => rfl⟩
theorem cache34 (s : Sh) (h : f119 s = true) : ∃ c : Ca, g34r s = some ((c, ()), ()) ∧ NoneC s c := by
  have hs := shape_le h
  have key : ∀ (b2_0 b2_1 b2_2 : Int) (b2_3 : L (L Wy)) (b3_0 b3_1 b3_2 : Int), ∃ r : L (L Wy), fixO s34r_L0 (((), ((), ((), ((0:Int), ())))), (s, ((b2_0, (b2_1, (b2_2, (b2_3, ())))), ((b3_0, (b3_1, (b3_2, ((nilL (.sl (.pair (.int .i64) (.pair .bool .unit)))), ())))), ())))) = some (.inl (((), ((), ())), ((b2_0, (b2_1, (b2_2, ((), ())))), ((b3_0, (b3_1, (b3_2, ((), ())))), (b2_3, (r, ())))))) ∧ r.len = s.1.toNat ∧ ∀ i, i < s.1.toNat → (r.get i).len = 0 := by
    intro b2_0 b2_1 b2_2 b2_3 b3_0 b3_1 b3_2
    exact snoc_n (step := s34r_L0) s.1.toNat (by omega) (fun i r => (((), ((), ((), ((i:Int), ())))), (s, ((b2_0, (b2_1, (b2_2, (b2_3, ())))), ((b3_0, (b3_1, (b3_2, (r, ())))), ()))))) (fun r => .inl (((), ((), ())), ((b2_0, (b2_1, (b2_2, ((), ())))), ((b3_0, (b3_1, (b3_2, ((), ())))), (b2_3, (r, ())))))) (Ty.zero (.sl (.pair (.int .i64) (.pair .bool .unit)))) (fun i q => q.len = 0)
      (fun i r hi hr => ⟨_, by
        simp only [s34r_L0, q34r_L0]
        rw [bif_t (by simp; omega), bif_t (snoc_fit _ _ _ (by omega)), wI_succ hi (by omega)], rfl⟩)
      (fun r hr => by
        simp only [s34r_L0, q34r_L0]
        rw [bif_f (by simp; omega)]) (r0 := nilL (.sl (.pair (.int .i64) (.pair .bool .unit)))) rfl
  unfold g34r
  rw [h]
  simp only [Bool.not_true, cond_false]
  obtain ⟨r, k1, k2, k3⟩ := key 0 0 0 (nilL (.sl (.pair (.int .i64) (.pair .bool .unit)))) s.1 s.2.1 s.2.2.1
  rw [k1]
  exact ⟨_, rfl, rfl, k2, fun i hi => k3 i (by rw [← k2]; exact hi)⟩
theorem tlb_of {t : Tb} (h : g127 t = some ((true, ()), ())) : f97 t.2.2.1 1 8 = true := by
  unfold g127 g220 at h
  cases hq : f97 t.2.2.1 1 8 with
  | true => rfl
  | false =>
    rw [hq] at h
    simp only [Bool.not_false, cond_true] at h
    cases f97 t.1 64 2048 <;> cases (Int.tmod t.1 4 != 0) <;> cases f119 t.2.1 <;> simp at h

/-- What a partition starts from. -/
structure Start (t : Tb) (p : Int) (x : Im) (s : St) : Prop where
  gu : StartG t p x s.1
  vi : s.2.1 = (false, (0, (0, (0, (0, (false, (false, (0, ()))))))))
  he : s.2.2.1 = (0, (0, (0, (false, ()))))
  ca : NoneC t.2.1 s.2.2.2.1
  tl : s.2.2.2.2.1.1 = t.2.2.1 ∧ s.2.2.2.2.1.2.1.len = 0
  nx : s.2.2.2.2.2.1 = 0
  id : s.2.2.2.2.2.2.1 = true
  bo : SmR SmL (sBoot s) x
  ou : (sOuts s).len = (tChans t).len ∧ ∀ i, i < (tChans t).len → ((sOuts s).get i).1 = 0 ∧ ((sOuts s).get i).2.1.len = 0
  is : (sIns s).len = (tChans t).len ∧ ∀ i, i < (tChans t).len → ((sIns s).get i).1.len = 0
  de : (sDevs s).len = (tDevs t).len ∧ ∀ i, i < (tDevs t).len → ((sDevs s).get i).1.len = 0 ∧ ((sDevs s).get i).2.1.len = 0
theorem sml0 {α : Type} {x y : L α} (h : x.len = 0) (k : y.len = 0) : SmL x y := ⟨h.trans k.symm, fun i hi => by rw [h] at hi; exact absurd hi (Nat.not_lt_zero i)⟩
theorem Start.same {t : Tb} {p : Int} {x y : Im} {a b : St} (h : Start t p x a) (k : Start t p y b) (hxy : SmR SmL x y) : SmS a b :=
  ⟨h.gu.same k.gu hxy, h.vi.trans k.vi.symm, h.he.trans k.he.symm, h.ca.same k.ca, ⟨h.tl.1.trans k.tl.1.symm, sml0 h.tl.2 k.tl.2⟩, h.nx.trans k.nx.symm, h.id.trans k.id.symm,
   SmR.trans (R := SmL) (fun _ _ _ => SmL.trans) h.bo (SmR.trans (R := SmL) (fun _ _ _ => SmL.trans) hxy (SmR.symm (R := SmL) (fun _ _ => SmL.symm) k.bo)),
   ⟨h.ou.1.trans k.ou.1.symm, fun i hi => by rw [h.ou.1] at hi; exact ⟨(h.ou.2 i hi).1.trans (k.ou.2 i hi).1.symm, sml0 (h.ou.2 i hi).2 (k.ou.2 i hi).2⟩⟩,
   ⟨h.is.1.trans k.is.1.symm, fun i hi => by rw [h.is.1] at hi; exact sml0 (h.is.2 i hi) (k.is.2 i hi)⟩,
   ⟨h.de.1.trans k.de.1.symm, fun i hi => by rw [h.de.1] at hi; exact ⟨sml0 (h.de.2 i hi).1 (k.de.2 i hi).1, sml0 (h.de.2 i hi).2 (k.de.2 i hi).2⟩⟩⟩

theorem boot46 (t : Tb) (p : Int) (x : Im) (hb : Bnd t) (hs : g127 t = some ((true, ()), ())) (hF : Facts t) (hp : 0 ≤ p ∧ p < (tParts t).len) (hl : x.len ≤ 1048576) (hw : ∀ i, i < x.len → (x.get i).len ≤ 1048576) : ∃ s : St, g46r t p x = some ((s, ()), ()) ∧ Start t p x s := by
  obtain ⟨g, g1, g2⟩ := guest129 t p x hp hl hw
  obtain ⟨c, c1, c2⟩ := cache34 t.2.1 (hF.2.2.2.2.1)
  obtain ⟨y, y1, y2⟩ := ram130 x hl hw
  have ht := tlb_of hs
  have hc8 : (tChans t).len ≤ 1048576 := hb.2.2.1
  have hd8 : (tDevs t).len ≤ 1048576 := hb.2.1
  have keyA : ∀ {b6_0 b6_1 b6_2 b6_3 b6_4 b6_5 b6_6 b6_7 b6_8 b6_9 b6_10 b6_11 b6_12 b6_13 b6_14 b6_15 b6_16 b6_17 b6_18 b6_19 b6_20 b6_21 b6_22 b6_23 b6_24 b6_25 b6_26 b7_1 b7_3 b7_4 b7_5 b7_6 b7_7 b7_8 b7_9 b7_10 b7_11 b7_12 b7_13 b7_14 b7_15 b7_16 b7_17 b7_19 b7_21 b7_22 b7_26 r1000832 r1000833 r1001024 r1001216 r1001344 : _}, ∃ (o : L Oe) (q : L Ie), fixO s46r_L0 (((), ((), ((), ((0:Int), ())))), (t, ((b6_0, (b6_1, (b6_2, (b6_3, (b6_4, (b6_5, (b6_6, (b6_7, (b6_8, (b6_9, (b6_10, (b6_11, (b6_12, (b6_13, (b6_14, (b6_15, (b6_16, (b6_17, (b6_18, (b6_19, (b6_20, (b6_21, (b6_22, (b6_23, (b6_24, (b6_25, (b6_26, ()))))))))))))))))))))))))))), (((), (b7_1, ((), (b7_3, (b7_4, (b7_5, (b7_6, (b7_7, (b7_8, (b7_9, (b7_10, (b7_11, (b7_12, (b7_13, (b7_14, (b7_15, (b7_16, (b7_17, ((), (b7_19, ((), (b7_21, (b7_22, ((), ((nilL (.pair (.int .i64) (.pair (.sl (.int .u32)) .unit))), ((nilL (.pair (.sl (.int .u32)) .unit)), (b7_26, ()))))))))))))))))))))))))))), (r1000832, (r1000833, (r1001024, (r1001216, (r1001344, ()))))))))) = some (.inl (((), ((), ((), ()))), (t, (((), (b6_1, ((), (b6_3, (b6_4, (b6_5, (b6_6, (b6_7, (b6_8, (b6_9, (b6_10, (b6_11, (b6_12, (b6_13, (b6_14, (b6_15, (b6_16, (b6_17, ((), (b6_19, ((), (b6_21, (b6_22, ((), ((), ((), ((), ()))))))))))))))))))))))))))), (((), (b7_1, ((), (b7_3, (b7_4, (b7_5, (b7_6, (b7_7, (b7_8, (b7_9, (b7_10, (b7_11, (b7_12, (b7_13, (b7_14, (b7_15, (b7_16, (b7_17, ((), (b7_19, ((), (b7_21, (b7_22, ((), ((), ((), ((), ()))))))))))))))))))))))))))), (b6_0, (b6_2, (b6_18, (b6_20, (b6_23, (b6_24, (b6_25, (b6_26, (r1000832, (r1000833, (r1001024, (r1001216, (r1001344, (o, (q, (b7_26, ()))))))))))))))))))))) ∧ (o.len = (tChans t).len ∧ ∀ i, i < (tChans t).len → (o.get i).1 = 0 ∧ (o.get i).2.1.len = 0) ∧ (q.len = (tChans t).len ∧ ∀ i, i < (tChans t).len → (q.get i).1.len = 0) := by
    intro b6_0 b6_1 b6_2 b6_3 b6_4 b6_5 b6_6 b6_7 b6_8 b6_9 b6_10 b6_11 b6_12 b6_13 b6_14 b6_15 b6_16 b6_17 b6_18 b6_19 b6_20 b6_21 b6_22 b6_23 b6_24 b6_25 b6_26 b7_1 b7_3 b7_4 b7_5 b7_6 b7_7 b7_8 b7_9 b7_10 b7_11 b7_12 b7_13 b7_14 b7_15 b7_16 b7_17 b7_19 b7_21 b7_22 b7_26 r1000832 r1000833 r1001024 r1001216 r1001344
    obtain ⟨d, h1, o, q, rfl, h2, h3⟩ := loop_n (step := s46r_L0) (tChans t).len (fun i z => ∃ (o : L Oe) (q : L Ie), z = (((), ((), ((), ((i:Int), ())))), (t, ((b6_0, (b6_1, (b6_2, (b6_3, (b6_4, (b6_5, (b6_6, (b6_7, (b6_8, (b6_9, (b6_10, (b6_11, (b6_12, (b6_13, (b6_14, (b6_15, (b6_16, (b6_17, (b6_18, (b6_19, (b6_20, (b6_21, (b6_22, (b6_23, (b6_24, (b6_25, (b6_26, ()))))))))))))))))))))))))))), (((), (b7_1, ((), (b7_3, (b7_4, (b7_5, (b7_6, (b7_7, (b7_8, (b7_9, (b7_10, (b7_11, (b7_12, (b7_13, (b7_14, (b7_15, (b7_16, (b7_17, ((), (b7_19, ((), (b7_21, (b7_22, ((), (o, (q, (b7_26, ()))))))))))))))))))))))))))), (r1000832, (r1000833, (r1001024, (r1001216, (r1001344, ()))))))))) ∧ (o.len = i ∧ ∀ j, j < i → (o.get j).1 = 0 ∧ (o.get j).2.1.len = 0) ∧ (q.len = i ∧ ∀ j, j < i → (q.get j).1.len = 0))
      (fun d => ∃ (o : L Oe) (q : L Ie), d = .inl (((), ((), ((), ()))), (t, (((), (b6_1, ((), (b6_3, (b6_4, (b6_5, (b6_6, (b6_7, (b6_8, (b6_9, (b6_10, (b6_11, (b6_12, (b6_13, (b6_14, (b6_15, (b6_16, (b6_17, ((), (b6_19, ((), (b6_21, (b6_22, ((), ((), ((), ((), ()))))))))))))))))))))))))))), (((), (b7_1, ((), (b7_3, (b7_4, (b7_5, (b7_6, (b7_7, (b7_8, (b7_9, (b7_10, (b7_11, (b7_12, (b7_13, (b7_14, (b7_15, (b7_16, (b7_17, ((), (b7_19, ((), (b7_21, (b7_22, ((), ((), ((), ((), ()))))))))))))))))))))))))))), (b6_0, (b6_2, (b6_18, (b6_20, (b6_23, (b6_24, (b6_25, (b6_26, (r1000832, (r1000833, (r1001024, (r1001216, (r1001344, (o, (q, (b7_26, ())))))))))))))))))))) ∧ (o.len = (tChans t).len ∧ ∀ i, i < (tChans t).len → (o.get i).1 = 0 ∧ (o.get i).2.1.len = 0) ∧ (q.len = (tChans t).len ∧ ∀ i, i < (tChans t).len → (q.get i).1.len = 0))
      (by
        rintro i _ hi ⟨o, q, rfl, ⟨o1, o2⟩, q1, q2⟩
        refine .inl ⟨_, ?_, L.app o (L.of (Ty.zero (.pair (.int .i64) (.pair (.sl (.int .u32)) .unit))) [((0 : Int), ((nilL (.int .u32)), ()))]), L.app q (L.of (Ty.zero (.pair (.sl (.int .u32)) .unit)) [((nilL (.int .u32)), ())]), rfl, ⟨by show o.len + 1 = _; omega, fun j hj => ?_⟩, by show q.len + 1 = _; omega, fun j hj => ?_⟩
        · simp only [s46r_L0, q46r_L0]
          refine (bif_t (idx_lt hi)).trans ?_
          rw [bif_t (snoc_fit _ _ _ (by omega)), bif_t (snoc_fit _ _ _ (by omega)), wI_succ hi (by omega)]
        · rcases Nat.lt_or_eq_of_le (Nat.le_of_lt_succ hj) with e | rfl
          · rw [snoc_lt _ _ _ (by omega)]; exact o2 j e
          · rw [snoc_at _ _ _ o1]; exact ⟨rfl, rfl⟩
        · rcases Nat.lt_or_eq_of_le (Nat.le_of_lt_succ hj) with e | rfl
          · rw [snoc_lt _ _ _ (by omega)]; exact q2 j e
          · rw [snoc_at _ _ _ q1]; rfl)
      (by
        rintro _ ⟨o, q, rfl, h⟩
        refine ⟨_, ?_, o, q, rfl, h⟩
        simp only [s46r_L0, q46r_L0]
        exact bif_f (idx_end _)) (((), ((), ((), ((0:Int), ())))), (t, ((b6_0, (b6_1, (b6_2, (b6_3, (b6_4, (b6_5, (b6_6, (b6_7, (b6_8, (b6_9, (b6_10, (b6_11, (b6_12, (b6_13, (b6_14, (b6_15, (b6_16, (b6_17, (b6_18, (b6_19, (b6_20, (b6_21, (b6_22, (b6_23, (b6_24, (b6_25, (b6_26, ()))))))))))))))))))))))))))), (((), (b7_1, ((), (b7_3, (b7_4, (b7_5, (b7_6, (b7_7, (b7_8, (b7_9, (b7_10, (b7_11, (b7_12, (b7_13, (b7_14, (b7_15, (b7_16, (b7_17, ((), (b7_19, ((), (b7_21, (b7_22, ((), ((nilL (.pair (.int .i64) (.pair (.sl (.int .u32)) .unit))), ((nilL (.pair (.sl (.int .u32)) .unit)), (b7_26, ()))))))))))))))))))))))))))), (r1000832, (r1000833, (r1001024, (r1001216, (r1001344, ()))))))))) ⟨_, _, rfl, ⟨rfl, fun j hj => absurd hj (Nat.not_lt_zero j)⟩, rfl, fun j hj => absurd hj (Nat.not_lt_zero j)⟩
    exact ⟨o, q, h1, h2, h3⟩
  have keyB : ∀ {b6_1 b6_3 b6_4 b6_5 b6_6 b6_7 b6_8 b6_9 b6_10 b6_11 b6_12 b6_13 b6_14 b6_15 b6_16 b6_17 b6_19 b6_21 b6_22 b7_1 b7_3 b7_4 b7_5 b7_6 b7_7 b7_8 b7_9 b7_10 b7_11 b7_12 b7_13 b7_14 b7_15 b7_16 b7_17 b7_19 b7_21 b7_22 r60384 r60386 r60402 r60404 r60407 r60408 r60409 r60410 r1000832 r1000833 r1001024 r1001216 r1001344 r60472 r60473 : _}, ∃ r : L De, fixO s46r_L2 (((), ((), ((), ((0:Int), ())))), (t, (((), (b6_1, ((), (b6_3, (b6_4, (b6_5, (b6_6, (b6_7, (b6_8, (b6_9, (b6_10, (b6_11, (b6_12, (b6_13, (b6_14, (b6_15, (b6_16, (b6_17, ((), (b6_19, ((), (b6_21, (b6_22, ((), ((), ((), ((), ()))))))))))))))))))))))))))), (((), (b7_1, ((), (b7_3, (b7_4, (b7_5, (b7_6, (b7_7, (b7_8, (b7_9, (b7_10, (b7_11, (b7_12, (b7_13, (b7_14, (b7_15, (b7_16, (b7_17, ((), (b7_19, ((), (b7_21, (b7_22, ((), ((), ((), ((), ()))))))))))))))))))))))))))), (r60384, (r60386, (r60402, (r60404, (r60407, (r60408, (r60409, (r60410, (r1000832, (r1000833, (r1001024, (r1001216, (r1001344, (r60472, (r60473, ((nilL (.pair (.sl (.int .u32)) (.pair (.sl (.int .u32)) .unit))), ())))))))))))))))))))) = some (.inl (((), ((), ())), (((), (b6_1, ((), (b6_3, (b6_4, (b6_5, (b6_6, (b6_7, (b6_8, (b6_9, (b6_10, (b6_11, (b6_12, (b6_13, (b6_14, (b6_15, (b6_16, (b6_17, ((), (b6_19, ((), (b6_21, (b6_22, ((), ((), ((), ((), ()))))))))))))))))))))))))))), (((), (b7_1, ((), (b7_3, (b7_4, (b7_5, (b7_6, (b7_7, (b7_8, (b7_9, (b7_10, (b7_11, (b7_12, (b7_13, (b7_14, (b7_15, (b7_16, (b7_17, ((), (b7_19, ((), (b7_21, (b7_22, ((), ((), ((), ((), ()))))))))))))))))))))))))))), (r60384, (r60386, (r60402, (r60404, (r60407, (r60408, (r60409, (r60410, (r1000832, (r1000833, (r1001024, (r1001216, (r1001344, (r60472, (r60473, (r, ())))))))))))))))))))) ∧ r.len = (tDevs t).len ∧ ∀ i, i < (tDevs t).len → (r.get i).1.len = 0 ∧ (r.get i).2.1.len = 0 := by
    intro b6_1 b6_3 b6_4 b6_5 b6_6 b6_7 b6_8 b6_9 b6_10 b6_11 b6_12 b6_13 b6_14 b6_15 b6_16 b6_17 b6_19 b6_21 b6_22 b7_1 b7_3 b7_4 b7_5 b7_6 b7_7 b7_8 b7_9 b7_10 b7_11 b7_12 b7_13 b7_14 b7_15 b7_16 b7_17 b7_19 b7_21 b7_22 r60384 r60386 r60402 r60404 r60407 r60408 r60409 r60410 r1000832 r1000833 r1001024 r1001216 r1001344 r60472 r60473
    exact snoc_n (step := s46r_L2) (tDevs t).len hd8 (fun i r => (((), ((), ((), ((i:Int), ())))), (t, (((), (b6_1, ((), (b6_3, (b6_4, (b6_5, (b6_6, (b6_7, (b6_8, (b6_9, (b6_10, (b6_11, (b6_12, (b6_13, (b6_14, (b6_15, (b6_16, (b6_17, ((), (b6_19, ((), (b6_21, (b6_22, ((), ((), ((), ((), ()))))))))))))))))))))))))))), (((), (b7_1, ((), (b7_3, (b7_4, (b7_5, (b7_6, (b7_7, (b7_8, (b7_9, (b7_10, (b7_11, (b7_12, (b7_13, (b7_14, (b7_15, (b7_16, (b7_17, ((), (b7_19, ((), (b7_21, (b7_22, ((), ((), ((), ((), ()))))))))))))))))))))))))))), (r60384, (r60386, (r60402, (r60404, (r60407, (r60408, (r60409, (r60410, (r1000832, (r1000833, (r1001024, (r1001216, (r1001344, (r60472, (r60473, (r, ()))))))))))))))))))))) (fun r => .inl (((), ((), ())), (((), (b6_1, ((), (b6_3, (b6_4, (b6_5, (b6_6, (b6_7, (b6_8, (b6_9, (b6_10, (b6_11, (b6_12, (b6_13, (b6_14, (b6_15, (b6_16, (b6_17, ((), (b6_19, ((), (b6_21, (b6_22, ((), ((), ((), ((), ()))))))))))))))))))))))))))), (((), (b7_1, ((), (b7_3, (b7_4, (b7_5, (b7_6, (b7_7, (b7_8, (b7_9, (b7_10, (b7_11, (b7_12, (b7_13, (b7_14, (b7_15, (b7_16, (b7_17, ((), (b7_19, ((), (b7_21, (b7_22, ((), ((), ((), ((), ()))))))))))))))))))))))))))), (r60384, (r60386, (r60402, (r60404, (r60407, (r60408, (r60409, (r60410, (r1000832, (r1000833, (r1001024, (r1001216, (r1001344, (r60472, (r60473, (r, ())))))))))))))))))))) (Ty.zero (.pair (.sl (.int .u32)) (.pair (.sl (.int .u32)) .unit))) (fun i q => q.1.len = 0 ∧ q.2.1.len = 0)
      (fun i r hi hr => ⟨((nilL (.int .u32)), ((nilL (.int .u32)), ())), by
        simp only [s46r_L2, q46r_L2]
        refine (bif_t (idx_lt hi)).trans ?_
        rw [bif_t (snoc_fit _ _ _ (by omega)), wI_succ hi (by omega)], rfl, rfl⟩)
      (fun r hr => by
        simp only [s46r_L2, q46r_L2]
        exact bif_f (idx_end _)) (r0 := nilL (.pair (.sl (.int .u32)) (.pair (.sl (.int .u32)) .unit))) rfl
  have e35 : f35r t.2.2.1 = (t.2.2.1, ((nilL (.int .i64)), ())) := by unfold f35r; rw [ht]; rfl
  unfold g46r
  rw [g1, Option.bind_some, c1, Option.bind_some, y1, Option.bind_some, e35]
  refine bind_of ?_
  refine keyA.elim fun o h => h.elim fun q h => ⟨_, h.1, ?_⟩
  refine bind_of ?_
  refine keyB.elim fun r k => ⟨_, k.1, ?_⟩
  exact ⟨_, rfl, g2, rfl, rfl, c2, ⟨rfl, rfl⟩, rfl, rfl, y2, h.2.1, h.2.2, k.2⟩

theorem boot56 (t : Tb) (p : Int) (x : Im) (hb : Bnd t) (hF : Facts t) (hp : 0 ≤ p ∧ p < (tParts t).len) (hl : x.len ≤ 1048576) (hw : ∀ i, i < x.len → (x.get i).len ≤ 1048576) (hn : ∀ i, i < x.len → (x.get i).nil = true → (x.get i).len = 0) : ∃ s : St, g56r t p x = some ((s, ()), ()) ∧ Start t p x s := by
  obtain ⟨g, g1, g2⟩ := guest148 t p x hp hl hw hn
  obtain ⟨c, c1, c2⟩ := cache149 t.2.1 (hF.2.2.2.2.1)
  obtain ⟨y, y1, y2⟩ := bytes150 x hl hw hn
  have hc8 : (tChans t).len ≤ 1048576 := hb.2.2.1
  have hd8 : (tDevs t).len ≤ 1048576 := hb.2.1
  have ec : (t.2.2.2.2.2.2.2.2.2.1.len : Int) = (tChans t).len := rfl
  have ed : (t.2.2.2.2.2.2.2.2.1.len : Int) = (tDevs t).len := rfl
  unfold g56r
  rw [g1, Option.bind_some, c1, Option.bind_some, y1, Option.bind_some, ec, ed, bif_t (by simp; omega), bif_t (by simp; omega), bif_t (by simp; omega), Int.toNat_natCast, Int.toNat_natCast]
  exact ⟨_, rfl, g2, rfl, rfl, c2, ⟨rfl, rfl⟩, rfl, rfl, y2, ⟨rfl, fun i hi => ⟨rfl, rfl⟩⟩, ⟨rfl, fun i hi => rfl⟩, rfl, fun i hi => ⟨rfl, rfl⟩⟩

theorem Start.bnd {t : Tb} {p : Int} {x : Im} {s : St} (h : Start t p x s) (hb : Bnd t) (hF : Facts t) (hl : x.len ≤ 1048576) (hw : ∀ i, i < x.len → (x.get i).len ≤ 1048576) : BndS s 1048576 := by
  have hc8 : (tChans t).len ≤ 1048576 := hb.2.2.1
  have hd8 : (tDevs t).len ≤ 1048576 := hb.2.1
  have hs := shape_le hF.2.2.2.2.1
  refine ⟨by rw [h.gu.1.1]; omega, ⟨by rw [h.gu.2.2.1]; exact hl, fun i hi => ?_⟩, ⟨by rw [h.ca.2.1]; omega, fun i hi => by rw [h.ca.2.2 i hi]; omega⟩, by rw [h.tl.2]; omega, ⟨by rw [h.bo.1]; exact hl, fun i hi => ?_⟩, ⟨by rw [h.ou.1]; exact hc8, fun i hi => ?_⟩, ⟨by rw [h.is.1]; exact hc8, fun i hi => ?_⟩, by rw [h.de.1]; exact hd8, fun i hi => ?_⟩
  · rw [(h.gu.2.2.2 i hi).1]; exact hw i (by rw [← h.gu.2.2.1]; exact hi)
  · rw [(h.bo.2 i hi).1]; exact hw i (by rw [← h.bo.1]; exact hi)
  · rw [(h.ou.2 i (by rw [← h.ou.1]; exact hi)).2]; omega
  · rw [h.is.2 i (by rw [← h.is.1]; exact hi)]; omega
  · rw [(h.de.2 i (by rw [← h.de.1]; exact hi)).1, (h.de.2 i (by rw [← h.de.1]; exact hi)).2]; omega

theorem bndS0 {s : St} (h1 : s.1.1.len = 0) (h2 : s.1.2.2.1.len = 0) (h3 : s.2.2.2.1.2.1.len = 0) (h4 : s.2.2.2.2.1.2.1.len = 0) (h5 : (sBoot s).len = 0) (h6 : (sOuts s).len = 0) (h7 : (sIns s).len = 0) (h8 : (sDevs s).len = 0) : BndS s 1048576 :=
  ⟨by omega, ⟨by omega, fun i hi => by omega⟩, ⟨by omega, fun i hi => by omega⟩, by omega, ⟨by omega, fun i hi => by omega⟩, ⟨by omega, fun i hi => by omega⟩, ⟨by omega, fun i hi => by omega⟩, by omega, fun i hi => by omega⟩

theorem bootMain (t : Tb) (p : Int) (x : Im) (hb : Bnd t) (hl : x.len ≤ 1048576) (hw : ∀ i, i < x.len → (x.get i).len ≤ 1048576) (hn : ∀ i, i < x.len → (x.get i).nil = true → (x.get i).len = 0) :
    ∃ (a b : St) (f : Bool), g11r t p x = some ((a, (f, ())), ()) ∧ g14r t p x = some ((b, (f, ())), ()) ∧ SmS b a ∧ BndS b 1048576 := by
  obtain ⟨b, h1, h2, h3⟩ := sound_wf t (wf_of_bnd hb)
  obtain ⟨k, k1, k2⟩ := fits t p x hb hl
  unfold g11r g14r g45
  rw [h1, h2, Option.bind_some, Option.bind_some]
  cases b with
  | false => exact ⟨_, _, false, rfl, rfl, SmS.refl _, bndS0 rfl rfl rfl rfl rfl rfl rfl rfl⟩
  | true =>
    simp only [cond_true, Bool.not_true, cond_false]
    rw [k1, k2, Option.bind_some, Option.bind_some, Option.bind_some]
    cases k with
    | false => exact ⟨_, _, false, rfl, rfl, SmS.refl _, bndS0 rfl rfl rfl rfl rfl rfl rfl rfl⟩
    | true =>
      have hF := h3 rfl
      have hin : 0 ≤ p ∧ p < (tParts t).len := by
        unfold g128 at k1
        cases hp : f97 p 0 (wI ((t.2.2.2.2.2.2.2.1.len : Int) - 1)) with
        | false => rw [hp] at k1; cases k1
        | true =>
          have hp := (f97_iff _ _ _).mp hp
          have hl : ((t.2.2.2.2.2.2.2.1.len : Int)) = (tParts t).len := rfl
          have hb1 : (tParts t).len ≤ 1048576 := hb.1
          rw [hl, wI_id (by omega) (by omega)] at hp
          omega
      simp only [Bool.not_true, cond_false]
      obtain ⟨s, s1, s2⟩ := boot46 t p x hb h1 hF hin hl hw
      obtain ⟨u, u1, u2⟩ := boot56 t p x hb hF hin hl hw hn
      rw [s1, u1]
      exact ⟨s, u, true, rfl, rfl, u2.same s2 (SmR.refl (R := SmL) SmL.refl _), u2.bnd hb hF hl hw⟩

theorem to53n (x : L Int) (h : x.len ≤ 1048576) : ∃ r : L Int, g53r x = some ((r, ()), ()) ∧ r.len = x.len ∧ r.nil = false := by
  obtain ⟨r, h1, h2, h3, h4⟩ := copy_loopN (step := s53r_L0) (x := x) (fun i => x.get i) (fun i r hi hr => by
    simp only [s53r_L0, q53r_L0]
    rw [bif_t (idx_lt hi), bif_t (idx_in hi), bif_t (by simpa [hr] using hi), wI_succ hi (by omega), Int.toNat_natCast]) (fun r => by
    simp only [s53r_L0, q53r_L0]
    rw [bif_f (by simp)]) (r0 := L.rep (x.len : Int).toNat (Ty.zero (.int .u8))) (by simp [L.rep])
  refine ⟨r, ?_, h2, h4⟩
  unfold g53r
  rw [bif_t (by simp; omega), h1]
  rfl
theorem to13n (x : Im) (h : x.len ≤ 1048576) (hw : ∀ i, i < x.len → (x.get i).len ≤ 1048576) : ∃ r : Im, g13r x = some ((r, ()), ()) ∧ r.len ≤ 1048576 ∧ (∀ i, i < r.len → (r.get i).len ≤ 1048576) ∧ ∀ i, i < r.len → (r.get i).nil = false := by
  obtain ⟨r, h1, h2, h3⟩ := copy_each (step := s13r_L0) (x := x) (fun i q => g53r (x.get i) = some ((q, ()), ()) ∧ q.len = (x.get i).len ∧ q.nil = false) (fun i hi => to53n (x.get i) (hw i hi)) (fun i r q hi hr hq => by
    simp only [s13r_L0, q13r_L0]
    rw [bif_t (idx_lt hi), bif_t (idx_in hi), wI_succ hi (by omega), Int.toNat_natCast, hq.1]
    simp only [Option.bind_some]
    exact bif_t (by simpa [hr] using hi)) (fun r => by
    simp only [s13r_L0, q13r_L0]
    rw [bif_f (by simp)]) (r0 := L.rep (x.len : Int).toNat (Ty.zero (.sl (.int .u8)))) (by simp [L.rep])
  refine ⟨r, ?_, by omega, fun i hi => by rw [(h3 i (by omega)).2.1]; exact hw i (by omega), fun i hi => (h3 i (by omega)).2.2⟩
  unfold g13r
  rw [bif_t (by simp; omega), h1]
  rfl
theorem bind_eq {α β : Type} {o : Option α} {F : α → Option β} {a : α} {z : Option β} (h : o = some a) (k : F a = z) : o.bind F = z := by rw [h]; exact k
theorem notneg {k : Int} (h : 0 ≤ k) : decide (k < 0) = false := by simpa using h

theorem law (t0 : Tb) (p : Int) (i0 : Im) (hw : Wf t0) (h1 : i0.len ≤ 2 ^ 47) (h2 : ∀ i, i < i0.len → (i0.get i).len ≤ 2 ^ 47) : g3 t0 p i0 = some ((true, ()), ()) := by
  obtain ⟨n, e1, e2⟩ := sz12b t0 hw
  unfold g3
  refine bind_eq e1 ?_
  rcases e2 with rfl | ⟨n1, n2, hb⟩
  · rfl
  refine (bif_f (notneg n1)).trans ?_
  obtain ⟨m, m1, m2⟩ := sz26 i0 n h1 h2 n1 n2
  refine bind_eq m1 ?_
  rcases m2 with rfl | ⟨m2, m3, m4, m5⟩
  · rfl
  refine (bif_f (notneg m2)).trans ?_
  obtain ⟨t, r1, r2⟩ := to14 t0 hb
  obtain ⟨x, q1, q2, q3, q4⟩ := to13n i0 m4 m5
  obtain ⟨a, b, f, a1, b1, hs, hbs⟩ := bootMain t p x r2 q2 q3 (fun i hi h => by rw [q4 i hi] at h; cases h)
  have heq := eqState hs hbs
  have hff : (!(f == f)) = false := by simp
  obtain ⟨k1, z1, k2, k3, k4⟩ := mkTables t r2
  obtain ⟨k5, x5, k6, k7, k8, k9, _⟩ := mk19 x k1 k3 k4 q2 q3
  obtain ⟨k, s', c1, c2, c3⟩ := mkState b hbs
  have hkk : (k != k) = false := by simp
  have hheld := fun s2 => c3 s2
  refine bind_eq r1 (bind_eq q1 (bind_eq a1 (bind_eq r1 (bind_eq q1 (bind_eq b1 (bind_eq heq ?_))))))
  refine (bif_f rfl).trans ((bif_f hff).trans (bind_eq r1 (bind_eq (eq16 t r2) ?_)))
  refine (bif_f rfl).trans (bind_eq q1 (bind_eq (eq30 x q2 q3) ?_))
  refine (bif_f rfl).trans (bind_eq k2 (bind_eq k6 ?_))
  refine (bif_f (notneg (k := k5) (by omega))).trans (bind_eq heq ?_)
  refine (bif_f rfl).trans ((bif_f hff).trans (bind_eq c1 ?_))
  refine bind_eq (c3 _ rfl rfl rfl rfl rfl rfl rfl rfl) ?_
  refine (bif_f (notneg c2)).trans ((bif_f hkk).trans ?_)
  refine bind_eq r1 (bind_eq q1 (bind_eq b1 (bind_eq heq ?_)))
  refine (bif_f rfl).trans ((bif_f hff).trans ?_)
  refine bind_eq (c3 _ rfl rfl rfl rfl rfl rfl rfl rfl) ?_
  exact (bif_f (notneg c2)).trans (bif_f hkk)

theorem plain : ∀ x, wfIns tysOf x → ∃ z, c3.F x = some ((true, ()), z) := by
  rintro ⟨t, p, s, ⟨⟩⟩ ⟨hw, _, hs, _⟩
  obtain ⟨_, _, _, _, _, _, _, hp, hd, hc, hsl, _⟩ := hw
  exact ⟨(), law t p s ⟨hp.1, hd.1, hc.1, hsl.1, fun i hi => ⟨(hp.2 i hi).1, (hp.2 i hi).2.2.2.1.1⟩⟩ hs.1 (fun i hi => (hs.2 i hi).1)⟩


end Go.VE.VFnExactPartBoot
