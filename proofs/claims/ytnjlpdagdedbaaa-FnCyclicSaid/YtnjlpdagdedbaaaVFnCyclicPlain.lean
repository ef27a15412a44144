import Derived.Test.YtnjlpdagdedbaaaVFnCyclic
import Derived.Test.YtnjlpdagdedbaaaVfY
/- laws.FnCyclic returns true: in plain words, no program in sight. -/
set_option linter.unusedVariables false
set_option linter.unusedSimpArgs false
namespace Go.VE.VFnCyclic
open Go.VE
abbrev tysOf : List Ty := [(.sl (.int .u8))]
abbrev Co : Type := Int × (Int × (Int × (Int × (Int × (Int × (Int × Unit))))))

theorem f61_60 : f61 = f60 := rfl
theorem f119_138 (c : Co) : f119 c = f138 c := by
  unfold f119 f138
  rw [f61_60]
  generalize f60 c.1 1 20 = b1
  generalize f60 c.2.1 0 50 = b2
  generalize f60 c.2.2.1 0 50 = b3
  generalize f60 c.2.2.2.1 0 50 = b4
  generalize f60 c.2.2.2.2.1 0 50 = b5
  generalize f60 c.2.2.2.2.2.1 0 50 = b6
  generalize f60 c.2.2.2.2.2.2.1 0 50 = b7
  cases b1 <;> cases b2 <;> cases b3 <;> cases b4 <;> cases b5 <;> cases b6 <;> cases b7 <;> rfl

theorem f60_iff (a b c : Int) : f60 a b c = true ↔ b ≤ a ∧ a ≤ c := by
  unfold f60
  by_cases h : a ≥ b
  · rw [bif_t (by simpa using h)]; simp; omega
  · rw [bif_f (by simpa using h)]; simp; omega

/-- What is known of costs that are right. -/
theorem costs_of {c : Co} (h : f138 c = true) : (1 ≤ c.1 ∧ c.1 ≤ 20) ∧ (0 ≤ c.2.1 ∧ c.2.1 ≤ 50) ∧ (0 ≤ c.2.2.1 ∧ c.2.2.1 ≤ 50) ∧ (0 ≤ c.2.2.2.1 ∧ c.2.2.2.1 ≤ 50) ∧ (0 ≤ c.2.2.2.2.1 ∧ c.2.2.2.2.1 ≤ 50) ∧ (0 ≤ c.2.2.2.2.2.1 ∧ c.2.2.2.2.2.1 ≤ 50) ∧ (0 ≤ c.2.2.2.2.2.2.1 ∧ c.2.2.2.2.2.2.1 ≤ 50) := by
  unfold f138 at h
  have step : ∀ {b x : Bool}, (bif b then x else false) = true → b = true ∧ x = true := fun {b x} h => by cases b <;> simp_all
  obtain ⟨h1, h⟩ := step h
  obtain ⟨h2, h⟩ := step h
  obtain ⟨h3, h⟩ := step h
  obtain ⟨h4, h⟩ := step h
  obtain ⟨h5, h⟩ := step h
  obtain ⟨h6, h7⟩ := step h
  exact ⟨(f60_iff _ _ _).mp h1, (f60_iff _ _ _).mp h2, (f60_iff _ _ _).mp h3, (f60_iff _ _ _).mp h4, (f60_iff _ _ _).mp h5, (f60_iff _ _ _).mp h6, (f60_iff _ _ _).mp h7⟩

theorem forms_pos : ∀ k, k < 33 → 0 ≤ L.get f175 k := by decide +kernel

theorem opc {c : Co} (hc : f138 c = true) {i : Nat} (hi : i < 33) : g143 c i = some ((f167 c i, ()), ()) := by
  have hf : g165 (i : Int) = some ((L.get f175 i, ()), ()) := by
    unfold g165
    have h1 : f60 (i : Int) 0 32 = true := (f60_iff _ _ _).mpr (by omega)
    rw [h1, bif_f (show (!true) = false from rfl), bif_t, Int.toNat_natCast]
    have : f175.len = 33 := rfl
    rw [this]; simp; omega
  unfold g143 f167
  rw [hc, bif_f (show (!true) = false from rfl), hf]
  simp only [Option.bind_some]
  rw [bif_f (by simpa using forms_pos i hi), f61_60]
  cases ((i : Int) == 9) <;> cases ((i : Int) == 10) <;> cases f60 (i : Int) 15 18 <;> cases decide ((i : Int) ≥ 25) <;> rfl

theorem f166_168 {c : Co} (hc : f138 c = true) (a : Bool × (Bool × (Bool × Unit))) : f166 c a = f168 c a := by
  unfold f166 f168
  rw [hc]
  rfl

def wAcc (c : Co) (i : Nat) : Int := if i = 0 then -1 else if i ≤ 4 then c.2.2.2.1 + c.2.2.2.2.1 else c.2.2.2.1 + c.2.2.2.2.1 + c.2.2.2.2.2.2.1

theorem acc_of {c : Co} (hc : f138 c = true) (a b d : Bool) : f166 c (a, (b, (d, ()))) = (if a then 0 else c.2.2.2.1) + (if b then 0 else c.2.2.2.2.1) + (if d then c.2.2.2.2.2.2.1 else 0) := by
  obtain ⟨_, _, _, h4, h5, _, h7⟩ := costs_of hc
  rw [f166_168 hc]
  unfold f168
  have e0 : ∀ n : Int, 0 ≤ n → n ≤ 1000 → wI n = n := fun n h1 h2 => wI_id (by omega) (by omega)
  cases a <;> cases b <;> cases d <;> simp only [Bool.not_true, Bool.not_false, cond_true, cond_false, if_true, if_false, Bool.false_eq_true, Int.zero_add, Int.add_zero]
  · rw [e0 c.2.2.2.1 (by omega) (by omega), e0 _ (by omega) (by omega)]
  · rw [e0 c.2.2.2.1 (by omega) (by omega), e0 (c.2.2.2.1 + c.2.2.2.2.1) (by omega) (by omega), e0 _ (by omega) (by omega)]
  · rw [e0 _ (by omega) (by omega)]
  · rw [e0 c.2.2.2.1 (by omega) (by omega), e0 _ (by omega) (by omega)]
  · rw [e0 _ (by omega) (by omega)]
  · rw [e0 c.2.2.2.2.1 (by omega) (by omega), e0 _ (by omega) (by omega)]
  · rw [e0 _ (by omega) (by omega)]

theorem wacc {c : Co} (hc : f138 c = true) : g144 c = some ((c.2.2.2.1 + c.2.2.2.2.1 + c.2.2.2.2.2.2.1, ()), ()) := by
  obtain ⟨_, _, _, h4, h5, _, h7⟩ := costs_of hc
  obtain ⟨d, h1, rfl⟩ := fixO_rel (step := s144_L0) (fun a => 8 - a.1.2.2.1.toNat)
    (fun a => ∃ i : Nat, a = (((), (wAcc c i, ((i : Int), ()))), (c, ())) ∧ i ≤ 8)
    (fun _ d => d = .inl ((wAcc c 8, ()), ())) (by
      rintro _ ⟨i, rfl, hi⟩
      by_cases h : i < 8
      · left
        have fin : s144_L0 (((), (wAcc c i, ((i : Int), ()))), (c, ())) = some (.inl (((), (wAcc c (i + 1), (((i + 1 : Nat) : Int), ()))), (c, ()))) := by
          simp only [s144_L0, q144_L0]
          rw [bif_t (by simp; omega), wI_succ (n := 8) h (by omega)]
          have : i = 0 ∨ i = 1 ∨ i = 2 ∨ i = 3 ∨ i = 4 ∨ i = 5 ∨ i = 6 ∨ i = 7 := by omega
          have key : ∀ (a b d : Bool) (m : Int), (((Int.tmod (i : Int) 2) == 1), (((Int.tmod (wI (Int.tdiv (i : Int) 2)) 2) == 1), (((wI (Int.tdiv (i : Int) 4)) == 1), ()))) = (a, (b, (d, ()))) →
              (if (if a then 0 else c.2.2.2.1) + (if b then 0 else c.2.2.2.2.1) + (if d then c.2.2.2.2.2.2.1 else 0) > wAcc c i then (if a then 0 else c.2.2.2.1) + (if b then 0 else c.2.2.2.2.1) + (if d then c.2.2.2.2.2.2.1 else 0) else wAcc c i) = m → m = wAcc c (i + 1) →
              (bif (decide ((f166 c (((Int.tmod (i : Int) 2) == 1), (((Int.tmod (wI (Int.tdiv (i : Int) 2)) 2) == 1), (((wI (Int.tdiv (i : Int) 4)) == 1), ())))) > wAcc c i)) then
                some (.inl (((), ((f166 c (((Int.tmod (i : Int) 2) == 1), (((Int.tmod (wI (Int.tdiv (i : Int) 2)) 2) == 1), (((wI (Int.tdiv (i : Int) 4)) == 1), ())))), (((i + 1 : Nat) : Int), ()))), (c, ())))
              else some (.inl (((), (wAcc c i, (((i + 1 : Nat) : Int), ()))), (c, ())))) = (some (.inl (((), (wAcc c (i + 1), (((i + 1 : Nat) : Int), ()))), (c, ()))) : Option (((Unit × (Int × (Int × Unit))) × (Co × Unit)) ⊕ (((Int × Unit) × Unit) ⊕ Empty))) := by
            intro a b d m hb hm hw
            rw [hb, acc_of hc, ← hw, ← hm]
            generalize (if a then 0 else c.2.2.2.1) + (if b then 0 else c.2.2.2.2.1) + (if d then c.2.2.2.2.2.2.1 else 0) = v
            by_cases hgt : v > wAcc c i
            · rw [bif_t (by simpa using hgt), if_pos hgt]
            · rw [bif_f (by simpa using hgt), if_neg hgt]
          rcases this with rfl | rfl | rfl | rfl | rfl | rfl | rfl | rfl
          · exact key false false false _ (by decide +kernel) rfl (by simp [wAcc]; omega)
          · exact key true false false _ (by decide +kernel) rfl (by simp [wAcc]; omega)
          · exact key false true false _ (by decide +kernel) rfl (by simp [wAcc]; omega)
          · exact key true true false _ (by decide +kernel) rfl (by simp [wAcc]; omega)
          · exact key false false true _ (by decide +kernel) rfl (by simp [wAcc]; omega)
          · exact key true false true _ (by decide +kernel) rfl (by simp [wAcc]; omega)
          · exact key false true true _ (by decide +kernel) rfl (by simp [wAcc]; omega)
          · exact key true true true _ (by decide +kernel) rfl (by simp [wAcc]; omega)
        exact ⟨_, fin, ⟨i + 1, rfl, h⟩, by simp only [Int.toNat_natCast]; omega, fun d hd => hd⟩
      · right
        have : i = 8 := by omega
        subst this
        exact ⟨_, rfl, rfl⟩) (((), ((-1 : Int), ((0 : Int), ()))), (c, ())) ⟨0, rfl, by omega⟩
  unfold g144
  rw [h1]
  rfl

theorem worst {c : Co} (hc : f138 c = true) : ∃ n, g115 c = some ((n, ()), ()) ∧ g146 c = some ((n, ()), ()) := by
  obtain ⟨d, e, h1, h2, m, rfl, rfl⟩ := fixO_sim (s1 := s115_L0) (s2 := s146_L0)
    (fun a b => ∃ (i : Nat) (m : Int), a = (((), (m, ((i : Int), ()))), (c, ())) ∧ b = (((), (m, ((i : Int), ()))), (c, ())) ∧ i ≤ 33)
    (fun d e => ∃ m, d = .inl (((), (m, ())), (c, ())) ∧ e = .inl (((), (m, ())), (c, ()))) (fun a => 33 - a.1.2.2.1.toNat) (by
      rintro _ _ ⟨i, m, rfl, rfl, hi⟩
      by_cases h : i < 33
      · left
        have hb : decide ((i : Int) < 33) = true := by simp; omega
        have ho : g143 (c.1, (c.2.1, (c.2.2.1, (c.2.2.2.1, (c.2.2.2.2.1, (c.2.2.2.2.2.1, (c.2.2.2.2.2.2.1, ()))))))) (i : Int) = some ((f167 c i, ()), ()) := opc hc h
        simp only [s115_L0, q115_L0, s146_L0, q146_L0, hb, cond_true, wI_succ h (by omega : 33 ≤ 2 ^ 47), ho, Option.bind_some]
        by_cases hg : f167 c i > m
        · rw [bif_t (by simpa using hg)]
          refine ⟨_, _, rfl, rfl, ⟨i + 1, f167 c i, rfl, ?_, h⟩, by simp only [Int.toNat_natCast]; omega⟩
          have : (if f167 (c.1, (c.2.1, (c.2.2.1, (c.2.2.2.1, (c.2.2.2.2.1, (c.2.2.2.2.2.1, (c.2.2.2.2.2.2.1, ()))))))) (i : Int) > m then f167 (c.1, (c.2.1, (c.2.2.1, (c.2.2.2.1, (c.2.2.2.2.1, (c.2.2.2.2.2.1, (c.2.2.2.2.2.2.1, ()))))))) (i : Int) else m) = f167 c i := if_pos hg
          rw [this]
        · rw [bif_f (by simpa using hg)]
          refine ⟨_, _, rfl, rfl, ⟨i + 1, m, rfl, ?_, h⟩, by simp only [Int.toNat_natCast]; omega⟩
          have : (if f167 (c.1, (c.2.1, (c.2.2.1, (c.2.2.2.1, (c.2.2.2.2.1, (c.2.2.2.2.2.1, (c.2.2.2.2.2.2.1, ()))))))) (i : Int) > m then f167 (c.1, (c.2.1, (c.2.2.1, (c.2.2.2.1, (c.2.2.2.2.1, (c.2.2.2.2.2.1, (c.2.2.2.2.2.2.1, ()))))))) (i : Int) else m) = m := if_neg hg
          rw [this]
      · right
        have : i = 33 := by omega
        subst this
        exact ⟨_, _, rfl, rfl, m, rfl, rfl⟩) (((), ((0 : Int), ((0 : Int), ()))), (c, ())) (((), ((0 : Int), ((0 : Int), ()))), (c, ())) ⟨0, 0, rfl, rfl, by omega⟩
  unfold g115 g146
  rw [f119_138, hc, bif_f (show (!true) = false from rfl), bif_f (show (!true) = false from rfl), h1, h2]
  simp only [Option.bind_some]
  rw [wacc hc]
  simp only [Option.bind_some]
  refine ⟨_, rfl, ?_⟩
  have : f168 c (false, (false, (true, ()))) = c.2.2.2.1 + c.2.2.2.2.1 + c.2.2.2.2.2.2.1 := by
    rw [← f166_168 hc, acc_of hc]; simp
  rw [this]

abbrev Ch : Type := Int × (Int × (Int × (Int × Unit)))

theorem pow16 (n : Int) (h : f60 n 1 16 = true) : f145 n = ((n == 1) || ((n == 2) || ((n == 4) || ((n == 8) || (n == 16))))) := by
  obtain ⟨h1, h2⟩ := (f60_iff _ _ _).mp h
  have : n = 1 ∨ n = 2 ∨ n = 3 ∨ n = 4 ∨ n = 5 ∨ n = 6 ∨ n = 7 ∨ n = 8 ∨ n = 9 ∨ n = 10 ∨ n = 11 ∨ n = 12 ∨ n = 13 ∨ n = 14 ∨ n = 15 ∨ n = 16 := by omega
  rcases this with rfl | rfl | rfl | rfl | rfl | rfl | rfl | rfl | rfl | rfl | rfl | rfl | rfl | rfl | rfl | rfl <;> decide +kernel

theorem pow32 (n : Int) (h : f60 n 4 32 = true) : f145 n = ((n == 4) || ((n == 8) || ((n == 16) || (n == 32)))) := by
  obtain ⟨h1, h2⟩ := (f60_iff _ _ _).mp h
  have : n = 4 ∨ n = 5 ∨ n = 6 ∨ n = 7 ∨ n = 8 ∨ n = 9 ∨ n = 10 ∨ n = 11 ∨ n = 12 ∨ n = 13 ∨ n = 14 ∨ n = 15 ∨ n = 16 ∨ n = 17 ∨ n = 18 ∨ n = 19 ∨ n = 20 ∨ n = 21 ∨ n = 22 ∨ n = 23 ∨ n = 24 ∨ n = 25 ∨ n = 26 ∨ n = 27 ∨ n = 28 ∨ n = 29 ∨ n = 30 ∨ n = 31 ∨ n = 32 := by omega
  rcases this with rfl | rfl | rfl | rfl | rfl | rfl | rfl | rfl | rfl | rfl | rfl | rfl | rfl | rfl | rfl | rfl | rfl | rfl | rfl | rfl | rfl | rfl | rfl | rfl | rfl | rfl | rfl | rfl | rfl <;> decide +kernel

theorem f105_eq (s : Int × (Int × (Int × Unit))) : f105 s = (((s.1 == 1) || ((s.1 == 2) || ((s.1 == 4) || ((s.1 == 8) || (s.1 == 16))))) && (f60 s.2.1 1 4 && ((s.2.2.1 == 4) || ((s.2.2.1 == 8) || ((s.2.2.1 == 16) || (s.2.2.1 == 32)))))) := by
  unfold f105
  generalize f60 s.2.1 1 4 = w
  generalize (s.1 == 1) = a1
  generalize (s.1 == 2) = a2
  generalize (s.1 == 4) = a3
  generalize (s.1 == 8) = a4
  generalize (s.1 == 16) = a5
  generalize (s.2.2.1 == 4) = l1
  generalize (s.2.2.1 == 8) = l2
  generalize (s.2.2.1 == 16) = l3
  generalize (s.2.2.1 == 32) = l4
  cases a1 <;> cases a2 <;> cases a3 <;> cases a4 <;> cases a5 <;> cases l1 <;> cases l2 <;> cases l3 <;> cases l4 <;> cases w <;> rfl

theorem f118_105 (s : Int × (Int × (Int × Unit))) : f118 s = f105 s := by
  rw [f105_eq]
  unfold f118
  rw [f61_60]
  have hs : (bif f60 s.1 1 16 then f145 s.1 else false) = ((s.1 == 1) || ((s.1 == 2) || ((s.1 == 4) || ((s.1 == 8) || (s.1 == 16))))) := by
    cases h : f60 s.1 1 16 with
    | true => exact pow16 _ h
    | false =>
      have h' : ¬ (1 ≤ s.1 ∧ s.1 ≤ 16) := fun q => by rw [(f60_iff _ _ _).mpr q] at h; cases h
      have e : ∀ k : Int, 1 ≤ k → k ≤ 16 → (s.1 == k) = false := fun k h1 h2 => by simp; omega
      rw [e 1 (by omega) (by omega), e 2 (by omega) (by omega), e 4 (by omega) (by omega), e 8 (by omega) (by omega), e 16 (by omega) (by omega)]
      rfl
  have hl : (bif f60 s.2.2.1 4 32 then f145 s.2.2.1 else false) = ((s.2.2.1 == 4) || ((s.2.2.1 == 8) || ((s.2.2.1 == 16) || (s.2.2.1 == 32)))) := by
    cases h : f60 s.2.2.1 4 32 with
    | true => exact pow32 _ h
    | false =>
      have h' : ¬ (4 ≤ s.2.2.1 ∧ s.2.2.1 ≤ 32) := fun q => by rw [(f60_iff _ _ _).mpr q] at h; cases h
      have e : ∀ k : Int, 4 ≤ k → k ≤ 32 → (s.2.2.1 == k) = false := fun k h1 h2 => by simp; omega
      rw [e 4 (by omega) (by omega), e 8 (by omega) (by omega), e 16 (by omega) (by omega), e 32 (by omega) (by omega)]
      rfl
  rw [← hs, ← hl]
  generalize f60 s.1 1 16 = p1
  generalize f145 s.1 = p2
  generalize f60 s.2.1 1 4 = p3
  generalize f60 s.2.2.1 4 32 = p4
  generalize f145 s.2.2.1 = p5
  cases p1 <;> cases p2 <;> cases p3 <;> cases p4 <;> cases p5 <;> rfl

/-- What is known of a row that is right. -/
theorem chan_of {c : Ch} (h : f141 c = true) : (c.1 = 0 ∧ c.2.2.2.1 = 0) ∨ (c.1 = 1 ∧ 1 ≤ c.2.2.2.1 ∧ c.2.2.2.1 ≤ 8) := by
  unfold f141 at h
  have step : ∀ {b : Bool} {x : Bool}, (bif b then false else x) = true → x = true := fun {b x} h => by cases b <;> simp_all
  have h := step (step (step h))
  by_cases h0 : c.1 = 0
  · rw [bif_t (by simpa using h0)] at h
    by_cases hd : c.2.2.2.1 = 0
    · exact .inl ⟨h0, hd⟩
    · rw [bif_f (by simpa using hd), bif_f (by simp [h0])] at h
      cases h
  · rw [bif_f (by simpa using h0)] at h
    by_cases h1 : c.1 = 1
    · rw [bif_t (by simpa using h1)] at h
      exact .inr ⟨h1, (f60_iff _ _ _).mp h⟩
    · rw [bif_f (by simpa using h1)] at h
      cases h

theorem good (x : L Ch) (hx : x.len ≤ 8) (c : Co) (hc : 1 ≤ c.1 ∧ c.1 ≤ 20) (n : Int) (hok : ∀ j, j < x.len → f141 (x.get j) = true) :
    ∃ m, fixO s116_L0 ((x, ((), (n, ((0 : Int), ())))), (c, ())) = some (.inr (.inl ((m, ()), ()))) ∧ fixO s107_L0 (((), (n, (x, ((x.len : Int), ((0 : Int), ()))))), (c, ())) = some (.inl ((m, ()), ())) := by
  obtain ⟨d, e, h1, h2, m, rfl, rfl⟩ := fixO_sim (s1 := s116_L0) (s2 := s107_L0)
    (fun a b => ∃ (i : Nat) (n : Int), a = ((x, ((), (n, ((i : Int), ())))), (c, ())) ∧ b = (((), (n, (x, ((x.len : Int), ((i : Int), ()))))), (c, ())) ∧ i ≤ x.len)
    (fun d e => ∃ m, d = .inr (.inl ((m, ()), ())) ∧ e = .inl ((m, ()), ())) (fun a => x.len - a.1.2.2.2.1.toNat) (by
      rintro _ _ ⟨i, n, rfl, rfl, hi⟩
      by_cases h : i < x.len
      · left
        have hb0 : decide ((0 : Int) ≤ (i : Int)) = true := by simp
        have hb2 : decide ((i : Int) < (x.len : Int)) = true := by simpa using h
        have hf := hok i h
        simp only [s116_L0, q116_L0, s107_L0, q107_L0, hb0, hb2, Bool.and_self, cond_true, wI_succ h (by omega : x.len ≤ 2 ^ 47), Int.toNat_natCast, hf, Bool.not_true, cond_false]
        rcases chan_of hf with ⟨k0, d0⟩ | ⟨k1, d1, d2⟩
        · have e1 : f136 (x.get i) = 1 := by unfold f136; rw [if_neg (by omega)]
          have e2 : wI (c.1 * 1) = c.1 := by rw [Int.mul_one]; exact wI_id (by omega) (by omega)
          rw [bif_t (by simpa using k0), e1, e2]
          exact ⟨_, _, rfl, rfl, ⟨i + 1, _, rfl, rfl, h⟩, by simp only [Int.toNat_natCast]; omega⟩
        · have e1 : f136 (x.get i) = (x.get i).2.2.2.1 := by unfold f136; split <;> omega
          rw [bif_f (by simp [k1]), e1]
          exact ⟨_, _, rfl, rfl, ⟨i + 1, _, rfl, rfl, h⟩, by simp only [Int.toNat_natCast]; omega⟩
      · right
        simp only [s116_L0, q116_L0, s107_L0, q107_L0]
        rw [bif_f (by simp; omega), bif_f (by simp; omega)]
        exact ⟨_, _, rfl, rfl, n, rfl, rfl⟩) ((x, ((), (n, ((0 : Int), ())))), (c, ())) (((), (n, (x, ((x.len : Int), ((0 : Int), ()))))), (c, ())) ⟨0, n, rfl, rfl, Nat.zero_le _⟩
  exact ⟨m, h1, h2⟩


abbrev Sl : Type := Int × (Int × (Int × Unit))
abbrev Wi : Type := Int × (Int × (Int × Unit))
abbrev PR : Type := ByteArray × (Int × ((Int × (Int × Unit)) × ((L Wi) × Unit)))
abbrev Tb : Type := Int × ((Int × (Int × (Int × Unit))) × (Int × (Co × (Int × (Int × (Int × ((L PR) × ((L Int) × ((L Ch) × ((L Sl) × Unit))))))))))
def tParts (t : Tb) : L PR := t.2.2.2.2.2.2.2.1
def tDevs (t : Tb) : L Int := t.2.2.2.2.2.2.2.2.1
def tChans (t : Tb) : L Ch := t.2.2.2.2.2.2.2.2.2.1
def tSlots (t : Tb) : L Sl := t.2.2.2.2.2.2.2.2.2.2.1

/-- The devices: each of a partition. -/
theorem devs (t : Tb) (hd : (tDevs t).len ≤ 8) :
    ((∃ i, i < (tDevs t).len ∧ f60 ((tDevs t).get i) 0 (wI (((tParts t).len : Int) - 1)) = false) ∧ fixO s103_L0 (((), ((0 : Int), ())), (t, ())) = some (.inl ((false, ()), ())) ∧ g123_124 (tDevs t) (((tParts t).len : Int), ()) = some ((true, ()), ())) ∨
    ((∀ i, i < (tDevs t).len → f60 ((tDevs t).get i) 0 (wI (((tParts t).len : Int) - 1)) = true) ∧ fixO s103_L0 (((), ((0 : Int), ())), (t, ())) = some (.inr (.inl (((), ()), (t, ())))) ∧ g123_124 (tDevs t) (((tParts t).len : Int), ()) = some ((false, ()), ())) := by
  have h1 := scan (step := s103_L0) (fun i => (((), ((i : Int), ())), (t, ()))) (tDevs t).len (fun i => f60 ((tDevs t).get i) 0 (wI (((tParts t).len : Int) - 1))) (fun _ => .inl ((false, ()), ())) (.inr (.inl (((), ()), (t, ()))))
    (fun i hi ho => by
      have ho' : (!f60 ((tDevs t).get ((i : Int)).toNat) 0 (wI (((tParts t).len : Int) - 1))) = false := by rw [Int.toNat_natCast, ho]; rfl
      simp only [s103_L0, q103_L0]
      refine (bif_t (idx_lt hi)).trans ((bif_t (idx_in hi)).trans ((bif_f ho').trans ?_))
      rw [wI_succ hi (by omega)])
    (fun i hi ho => by
      have ho' : (!f60 ((tDevs t).get ((i : Int)).toNat) 0 (wI (((tParts t).len : Int) - 1))) = true := by rw [Int.toNat_natCast, ho]; rfl
      simp only [s103_L0, q103_L0]
      exact (bif_t (idx_lt hi)).trans ((bif_t (idx_in hi)).trans (bif_t ho')))
    (by
      simp only [s103_L0, q103_L0]
      exact bif_f (idx_end (tDevs t).len))
  have h2 := scan (step := s155_124_L0) (fun i => ((tDevs t, ((((tParts t).len : Int), ()), (((tDevs t).len : Int), ((i : Int), ())))), ())) (tDevs t).len (fun i => f60 ((tDevs t).get i) 0 (wI (((tParts t).len : Int) - 1))) (fun i => .inl (((i : Int), ()), ())) (.inr (.inl ((), ())))
    (fun i hi ho => by
      have ho' : f124 ((tDevs t).get ((i : Int)).toNat) ((tParts t).len : Int) = false := by unfold f124; rw [Int.toNat_natCast, f61_60, ho]; rfl
      simp only [s155_124_L0, q155_124_L0]
      refine (bif_t (idx_lt hi)).trans ((bif_t (idx_in hi)).trans ((bif_f ho').trans ?_))
      rw [wI_succ hi (by omega)])
    (fun i hi ho => by
      have ho' : f124 ((tDevs t).get ((i : Int)).toNat) ((tParts t).len : Int) = true := by unfold f124; rw [Int.toNat_natCast, f61_60, ho]; rfl
      simp only [s155_124_L0, q155_124_L0]
      exact (bif_t (idx_lt hi)).trans ((bif_t (idx_in hi)).trans (bif_t ho')))
    (by
      simp only [s155_124_L0, q155_124_L0]
      exact bif_f (idx_end (tDevs t).len))
  unfold g123_124 g155_124
  rcases h1 with ⟨i, hi, ho, _, e1⟩ | ⟨ha, e1⟩
  · rcases h2 with ⟨k, hk, hok, _, e2⟩ | ⟨hb, _⟩
    · refine .inl ⟨⟨i, hi, ho⟩, e1, ?_⟩
      have e2' : fixO s155_124_L0 ((tDevs t, ((((tParts t).len : Int), ()), (((tDevs t).len : Int), ((0 : Int), ())))), ()) = some (.inl (((k : Int), ()), ())) := e2
      rw [e2']
      simp
    · have := hb i hi; rw [ho] at this; cases this
  · rcases h2 with ⟨k, hk, hok, _, _⟩ | ⟨hb, e2⟩
    · have := ha k hk; rw [hok] at this; cases this
    · refine .inr ⟨ha, e1, ?_⟩
      have e2' : fixO s155_124_L0 ((tDevs t, ((((tParts t).len : Int), ()), (((tDevs t).len : Int), ((0 : Int), ())))), ()) = some (.inr (.inl ((), ()))) := e2
      rw [e2']
      simp

theorem f127_141 (c : Ch) : f127 c = f141 c := rfl
theorem f126_iff (c : Ch) (n : Int) : f126 c n = false ↔ f141 c = true ∧ c.2.1 < n ∧ c.2.2.1 < n := by
  unfold f126
  rw [f127_141]
  cases h : f141 c with
  | false => simp
  | true =>
    rw [bif_f (show (!true) = false from rfl)]
    by_cases h1 : c.2.1 ≥ n
    · rw [bif_t (by simpa using h1)]; simp; omega
    · rw [bif_f (by simpa using h1)]; simp; omega

/-- The channels: each right, and between partitions. -/
theorem chans (t : Tb) (hd : (tChans t).len ≤ 8) :
    (fixO s103_L2 (((), ((0 : Int), ())), (t, ())) = some (.inl ((false, ()), ())) ∧ g125_126 (tChans t) (((tParts t).len : Int), ()) = some ((true, ()), ())) ∨
    ((∀ i, i < (tChans t).len → f141 ((tChans t).get i) = true ∧ ((tChans t).get i).2.1 < ((tParts t).len : Int) ∧ ((tChans t).get i).2.2.1 < ((tParts t).len : Int)) ∧ fixO s103_L2 (((), ((0 : Int), ())), (t, ())) = some (.inr (.inl (((), ()), (t, ())))) ∧ g125_126 (tChans t) (((tParts t).len : Int), ()) = some ((false, ()), ())) := by
  have h1 := scan (step := s103_L2) (fun i => (((), ((i : Int), ())), (t, ()))) (tChans t).len (fun i => !f126 ((tChans t).get i) ((tParts t).len : Int)) (fun _ => .inl ((false, ()), ())) (.inr (.inl (((), ()), (t, ()))))
    (fun i hi ho => by
      have ho : f126 ((tChans t).get i) ((tParts t).len : Int) = false := by simpa using ho
      obtain ⟨o1, o2, o3⟩ := (f126_iff _ _).mp ho
      have e1 : (!f141 ((tChans t).get ((i : Int)).toNat)) = false := by rw [Int.toNat_natCast, o1]; rfl
      have e2 : decide (((tChans t).get ((i : Int)).toNat).2.1 ≥ ((tParts t).len : Int)) = false := by rw [Int.toNat_natCast]; simp; omega
      have e3 : decide (((tChans t).get ((i : Int)).toNat).2.2.1 ≥ ((tParts t).len : Int)) = false := by rw [Int.toNat_natCast]; simp; omega
      simp only [s103_L2, q103_L2]
      refine (bif_t (idx_lt hi)).trans ((bif_t (idx_in hi)).trans ((bif_f e1).trans ((bif_t (idx_in hi)).trans ((bif_f e2).trans ((bif_t (idx_in hi)).trans ((bif_f e3).trans ?_))))))
      rw [wI_succ hi (by omega)])
    (fun i hi ho => by
      have ho : ¬ (f141 ((tChans t).get i) = true ∧ ((tChans t).get i).2.1 < ((tParts t).len : Int) ∧ ((tChans t).get i).2.2.1 < ((tParts t).len : Int)) := fun q => by
        rw [(f126_iff _ _).mpr q] at ho; cases ho
      simp only [s103_L2, q103_L2]
      refine (bif_t (idx_lt hi)).trans ((bif_t (idx_in hi)).trans ?_)
      cases o1 : f141 ((tChans t).get i) with
      | false => exact bif_t (show (!f141 ((tChans t).get ((i : Int)).toNat)) = true by rw [Int.toNat_natCast, o1]; rfl)
      | true =>
        refine (bif_f (show (!f141 ((tChans t).get ((i : Int)).toNat)) = false by rw [Int.toNat_natCast, o1]; rfl)).trans ((bif_t (idx_in hi)).trans ?_)
        by_cases o2 : ((tChans t).get i).2.1 < ((tParts t).len : Int)
        · refine (bif_f (show decide (((tChans t).get ((i : Int)).toNat).2.1 ≥ ((tParts t).len : Int)) = false by rw [Int.toNat_natCast]; simp; omega)).trans ((bif_t (idx_in hi)).trans ?_)
          have o3 : ¬ ((tChans t).get i).2.2.1 < ((tParts t).len : Int) := fun q => ho ⟨o1, o2, q⟩
          exact bif_t (show decide (((tChans t).get ((i : Int)).toNat).2.2.1 ≥ ((tParts t).len : Int)) = true by rw [Int.toNat_natCast]; simp; omega)
        · exact bif_t (show decide (((tChans t).get ((i : Int)).toNat).2.1 ≥ ((tParts t).len : Int)) = true by rw [Int.toNat_natCast]; simp; omega))
    (by
      simp only [s103_L2, q103_L2]
      exact bif_f (idx_end (tChans t).len))
  have h2 := scan (step := s156_126_L0) (fun i => ((tChans t, ((((tParts t).len : Int), ()), (((tChans t).len : Int), ((i : Int), ())))), ())) (tChans t).len (fun i => !f126 ((tChans t).get i) ((tParts t).len : Int)) (fun i => .inl (((i : Int), ()), ())) (.inr (.inl ((), ())))
    (fun i hi ho => by
      have ho' : f126 ((tChans t).get ((i : Int)).toNat) ((tParts t).len : Int) = false := by rw [Int.toNat_natCast]; simpa using ho
      simp only [s156_126_L0, q156_126_L0]
      refine (bif_t (idx_lt hi)).trans ((bif_t (idx_in hi)).trans ((bif_f ho').trans ?_))
      rw [wI_succ hi (by omega)])
    (fun i hi ho => by
      have ho' : f126 ((tChans t).get ((i : Int)).toNat) ((tParts t).len : Int) = true := by rw [Int.toNat_natCast]; simpa using ho
      simp only [s156_126_L0, q156_126_L0]
      exact (bif_t (idx_lt hi)).trans ((bif_t (idx_in hi)).trans (bif_t ho')))
    (by
      simp only [s156_126_L0, q156_126_L0]
      exact bif_f (idx_end (tChans t).len))
  unfold g125_126 g156_126
  rcases h1 with ⟨i, hi, ho, _, e1⟩ | ⟨ha, e1⟩
  · rcases h2 with ⟨k, hk, hok, _, e2⟩ | ⟨hb, _⟩
    · refine .inl ⟨e1, ?_⟩
      have e2' : fixO s156_126_L0 ((tChans t, ((((tParts t).len : Int), ()), (((tChans t).len : Int), ((0 : Int), ())))), ()) = some (.inl (((k : Int), ()), ())) := e2
      rw [e2']
      simp
    · have := hb i hi; rw [ho] at this; cases this
  · rcases h2 with ⟨k, hk, hok, _, _⟩ | ⟨hb, e2⟩
    · have := ha k hk; rw [hok] at this; cases this
    · refine .inr ⟨fun i hi => (f126_iff _ _).mp (by simpa using ha i hi), e1, ?_⟩
      have e2' : fixO s156_126_L0 ((tChans t, ((((tParts t).len : Int), ()), (((tChans t).len : Int), ((0 : Int), ())))), ()) = some (.inr (.inl ((), ()))) := e2
      rw [e2']
      simp

theorem f157_iff (t : Tb) (s : Sl) (e : Int) (h1 : 1 ≤ t.2.2.2.2.1 ∧ t.2.2.2.2.1 ≤ 5000) (h2 : 1 ≤ t.2.2.2.2.2.1 ∧ t.2.2.2.2.2.1 ≤ 5000) (h3 : 1 ≤ t.2.2.2.2.2.2.1 ∧ t.2.2.2.2.2.2.1 ≤ 5000) :
    f157 t s e = true ↔ s.2.2.1 > t.2.2.2.2.1 + t.2.2.2.2.2.1 ∧ s.2.2.1 ≤ t.2.2.2.2.2.2.1 ∧ s.2.1 ≥ e ∧ s.2.1 ≤ t.2.2.2.2.2.2.1 - s.2.2.1 := by
  unfold f157
  rw [wI_id (n := t.2.2.2.2.1 + t.2.2.2.2.2.1) (by omega) (by omega)]
  by_cases a : s.2.2.1 > t.2.2.2.2.1 + t.2.2.2.2.2.1
  · rw [bif_t (by simpa using a)]
    by_cases b : s.2.2.1 ≤ t.2.2.2.2.2.2.1
    · rw [bif_t (by simpa using b), wI_id (by omega) (by omega)]
      by_cases c : s.2.1 ≥ e
      · rw [bif_t (by simpa using c)]; simp; omega
      · rw [bif_f (by simpa using c)]; simp; omega
    · rw [bif_f (by simpa using b)]; simp; omega
  · rw [bif_f (by simpa using a)]; simp; omega

/-- The slots lie one behind the other, in the frame. -/
def SlotsIn (t : Tb) : Prop :=
  (∀ k, k < (tSlots t).len → f60 ((tSlots t).get k).1 0 (wI (((tParts t).len : Int) - 1)) = true ∧ t.2.2.2.2.1 + t.2.2.2.2.2.1 < ((tSlots t).get k).2.2.1 ∧ 0 ≤ ((tSlots t).get k).2.1 ∧ ((tSlots t).get k).2.1 + ((tSlots t).get k).2.2.1 ≤ t.2.2.2.2.2.2.1) ∧
  ∀ k m, k < m → m < (tSlots t).len → ((tSlots t).get k).2.1 + ((tSlots t).get k).2.2.1 ≤ ((tSlots t).get m).2.1

/-- The slots: one behind the other. -/
theorem slotsLoop (t : Tb) (hl : (tSlots t).len ≤ 2 ^ 47) (h1 : 1 ≤ t.2.2.2.2.1 ∧ t.2.2.2.2.1 ≤ 5000) (h2 : 1 ≤ t.2.2.2.2.2.1 ∧ t.2.2.2.2.2.1 ≤ 5000) (h3 : 1 ≤ t.2.2.2.2.2.2.1 ∧ t.2.2.2.2.2.2.1 ≤ 5000) :
    ∃ d e, fixO s104_L0 (((), ((0 : Int), ((0 : Int), ()))), (t, ())) = some d ∧ fixO s128_L0 (((), ((0 : Int), (tSlots t, (((tSlots t).len : Int), ((0 : Int), ()))))), (t, ())) = some e ∧
      ((d = .inl ((false, ()), ()) ∧ e = .inl ((false, ()), ())) ∨ (d = .inr (.inl ((), ())) ∧ e = .inr (.inl (((), ()), (t, ()))) ∧ SlotsIn t)) := by
  refine fixO_sim (s1 := s104_L0) (s2 := s128_L0)
    (fun a b => ∃ (i : Nat) (e : Int), a = (((), (e, ((i : Int), ()))), (t, ())) ∧ b = (((), (e, (tSlots t, (((tSlots t).len : Int), ((i : Int), ()))))), (t, ())) ∧ i ≤ (tSlots t).len ∧ 0 ≤ e ∧ e ≤ 5000 ∧
      (∀ k, k < i → (f60 ((tSlots t).get k).1 0 (wI (((tParts t).len : Int) - 1)) = true ∧ t.2.2.2.2.1 + t.2.2.2.2.2.1 < ((tSlots t).get k).2.2.1 ∧ 0 ≤ ((tSlots t).get k).2.1 ∧ ((tSlots t).get k).2.1 + ((tSlots t).get k).2.2.1 ≤ t.2.2.2.2.2.2.1) ∧ ((tSlots t).get k).2.1 + ((tSlots t).get k).2.2.1 ≤ e) ∧
      ∀ k m, k < m → m < i → ((tSlots t).get k).2.1 + ((tSlots t).get k).2.2.1 ≤ ((tSlots t).get m).2.1)
    (fun d e => (d = .inl ((false, ()), ()) ∧ e = .inl ((false, ()), ())) ∨ (d = .inr (.inl ((), ())) ∧ e = .inr (.inl (((), ()), (t, ()))) ∧ SlotsIn t)) (fun a => (tSlots t).len - a.1.2.2.1.toNat) ?_ _ _ ⟨0, 0, rfl, rfl, Nat.zero_le _, by omega, by omega, fun k hk => absurd hk (Nat.not_lt_zero _), fun k m _ hk => absurd hk (Nat.not_lt_zero _)⟩
  rintro _ _ ⟨i, e, rfl, rfl, hi, he1, he2, hk1, hk2⟩
  by_cases h : i < (tSlots t).len
  · simp only [s104_L0, q104_L0, s128_L0, q128_L0]
    rw [wI_succ h hl, Int.toNat_natCast]
    generalize hs : (tSlots t).get i = s
    have hs' : (t.2.2.2.2.2.2.2.2.2.2.1).get i = s := hs
    have c1 : ∀ {α : Type} {a b : α}, (bif decide ((i : Int) < ((t.2.2.2.2.2.2.2.2.2.2.1).len : Int)) then a else b) = a := bif_t (idx_lt h)
    have c2 : ∀ {α : Type} {a b : α}, (bif decide ((0 : Int) ≤ (i : Int)) && decide ((i : Int) < ((t.2.2.2.2.2.2.2.2.2.2.1).len : Int)) then a else b) = a := bif_t (idx_in h)
    have c3 : ∀ {α : Type} {a b : α}, (bif decide ((i : Int) < ((tSlots t).len : Int)) then a else b) = a := bif_t (idx_lt h)
    have c4 : ∀ {α : Type} {a b : α}, (bif decide ((0 : Int) ≤ (i : Int)) && decide ((i : Int) < ((tSlots t).len : Int)) then a else b) = a := bif_t (idx_in h)
    rw [c1, c2, c3, c4, hs', f61_60, wI_id (n := t.2.2.2.2.1 + t.2.2.2.2.2.1) (by omega) (by omega), wI_id (n := t.2.2.2.2.1 + t.2.2.2.2.2.1 + 1) (by omega) (by omega)]
    have hiff := f157_iff t s e h1 h2 h3
    cases hp : f60 s.1 0 (wI (((t.2.2.2.2.2.2.2.1).len : Int) - 1)) with
    | false => exact .inr ⟨_, _, rfl, rfl, .inl ⟨rfl, rfl⟩⟩
    | true =>
      simp only [Bool.not_true, cond_false]
      cases ha : f60 s.2.1 e 5000 with
      | false =>
        have hf : f157 t s e = false := by
          cases hq : f157 t s e with
          | false => rfl
          | true =>
            have := hiff.mp hq
            rw [(f60_iff _ _ _).mpr (by omega)] at ha; cases ha
        right
        rw [hf]
        exact ⟨_, _, rfl, rfl, .inl ⟨rfl, rfl⟩⟩
      | true =>
        have ha := (f60_iff _ _ _).mp ha
        cases hb : f60 s.2.2.1 (t.2.2.2.2.1 + t.2.2.2.2.2.1 + 1) 5000 with
        | false =>
          have hf : f157 t s e = false := by
            cases hq : f157 t s e with
            | false => rfl
            | true =>
              have := hiff.mp hq
              rw [(f60_iff _ _ _).mpr (by omega)] at hb; cases hb
          right
          rw [hf]
          exact ⟨_, _, rfl, rfl, .inl ⟨rfl, rfl⟩⟩
        | true =>
          have hb := (f60_iff _ _ _).mp hb
          simp only [Bool.not_true, cond_false]
          rw [wI_id (n := s.2.1 + s.2.2.1) (by omega) (by omega)]
          by_cases hc : s.2.1 + s.2.2.1 > t.2.2.2.2.2.2.1
          · have hf : f157 t s e = false := by
              cases hq : f157 t s e with
              | false => rfl
              | true =>
                have := hiff.mp hq
                omega
            right
            rw [hf, bif_t (by simpa using hc)]
            exact ⟨_, _, rfl, rfl, .inl ⟨rfl, rfl⟩⟩
          · have hf : f157 t s e = true := hiff.mpr (by omega)
            left
            rw [hf, bif_f (by simpa using hc)]
            have hk1' : ∀ k, k < i + 1 → (f60 ((tSlots t).get k).1 0 (wI (((tParts t).len : Int) - 1)) = true ∧ t.2.2.2.2.1 + t.2.2.2.2.2.1 < ((tSlots t).get k).2.2.1 ∧ 0 ≤ ((tSlots t).get k).2.1 ∧ ((tSlots t).get k).2.1 + ((tSlots t).get k).2.2.1 ≤ t.2.2.2.2.2.2.1) ∧ ((tSlots t).get k).2.1 + ((tSlots t).get k).2.2.1 ≤ s.2.1 + s.2.2.1 := fun k hk => by
              by_cases q : k = i
              · rw [q, hs]
                exact ⟨⟨hp, by omega, by omega, by omega⟩, by omega⟩
              · have := hk1 k (by omega)
                exact ⟨this.1, by omega⟩
            have hk2' : ∀ k m, k < m → m < i + 1 → ((tSlots t).get k).2.1 + ((tSlots t).get k).2.2.1 ≤ ((tSlots t).get m).2.1 := fun k m h1 h2 => by
              by_cases q : m = i
              · rw [q, hs]
                have := (hk1 k (by omega)).2
                omega
              · exact hk2 k m h1 (by omega)
            exact ⟨_, _, rfl, rfl, ⟨i + 1, _, rfl, rfl, h, by omega, by omega, hk1', hk2'⟩, by simp only [Int.toNat_natCast]; omega⟩
  · right
    have : i = (tSlots t).len := by omega
    subst this
    simp only [s104_L0, q104_L0, s128_L0, q128_L0]
    exact ⟨_, _, bif_f (idx_end (tSlots t).len), bif_f (idx_end (tSlots t).len), .inr ⟨rfl, rfl, fun k hk => (hk1 k hk).1, hk2⟩⟩

theorem bt_range (s : ByteArray) (i : Int) : 0 ≤ bt s i ∧ bt s i ≤ 255 := by
  unfold bt
  have := ((s[i.toNat]?).getD 0).toNat_lt
  omega

/-- From a place on, all bytes are small letters. -/
def okFrom (s : ByteArray) (i : Int) : Prop := ∀ j : Int, i ≤ j → j < s.size → 97 ≤ bt s j ∧ bt s j ≤ 122

theorem okFrom_step {s : ByteArray} {i : Int} (h : 97 ≤ bt s i ∧ bt s i ≤ 122) : okFrom s (i + 1) → okFrom s i := by
  intro h' j h1 h2
  by_cases e : j = i
  · subst e; exact h
  · exact h' j (by omega) h2

theorem okFrom_back {s : ByteArray} {i : Int} (h' : okFrom s i) : okFrom s (i + 1) := fun j h1 h2 => h' j (by omega) h2

theorem end191 (s : ByteArray) (hs : s.size ≤ 8) : ∃ b, g174 s = some ((b, ()), ()) ∧ (b = true ↔ okFrom s 0 ∧ 1 ≤ s.size) := by
  obtain ⟨d, h1, h2⟩ := fixO_rel (step := s174_L0) (fun x => ((s.size : Int) - x.1.2.1).toNat) (fun x => x.1.1 = s ∧ 0 ≤ x.1.2.1 ∧ x.1.2.1 ≤ s.size)
    (fun x d => match d with
      | .inl y => y.1.1 = false ∧ ¬ okFrom s x.1.2.1
      | .inr (.inl y) => y.1.1 = s ∧ okFrom s x.1.2.1
      | .inr (.inr _) => False) (by
      rintro ⟨⟨(t : ByteArray), (i : Int), ⟨⟩⟩, ⟨⟩⟩ ⟨h1, h2, h3⟩
      simp only at h1 h2 h3
      subst h1
      simp only [s174_L0, q174_L0]
      by_cases hi : i < t.size
      · rw [bif_t (by simpa using hi), bif_t (by simp; omega), bif_t (by simp; omega)]
        have hb := bt_range t i
        rw [wI_id (by omega) (by omega), wI_id (n := i + 1) (by omega) (by omega)]
        by_cases hr : 97 ≤ bt t i ∧ bt t i ≤ 122
        · left
          have e : f60 (bt t i) 97 122 = true := by
            unfold f60; rw [bif_t (by simpa using hr.1)]; simpa using hr.2
          rw [e]
          refine ⟨_, rfl, ⟨rfl, by simp only; omega, by simp only; omega⟩, by simp only; omega, fun d hd => ?_⟩
          match d, hd with
          | .inl y, hd => exact ⟨hd.1, fun h => hd.2 (okFrom_back h)⟩
          | .inr (.inl y), hd => exact ⟨hd.1, okFrom_step hr hd.2⟩
        · right
          have e : f60 (bt t i) 97 122 = false := by
            unfold f60
            by_cases h97 : bt t i ≥ 97
            · rw [bif_t (by simpa using h97)]; simp; omega
            · rw [bif_f (by simp; omega)]
          rw [e]
          exact ⟨_, rfl, rfl, fun h => hr (h i (Int.le_refl _) hi)⟩
      · right
        rw [bif_f (by simp; omega)]
        exact ⟨_, rfl, rfl, fun j h4 h5 => by omega⟩) ((s, 0, ()), ()) ⟨rfl, by simp, by simp⟩
  unfold g174
  rw [h1]
  simp only [Option.bind_some]
  match d, h2 with
  | .inl y, h2 => exact ⟨_, rfl, by rw [h2.1]; simp only [Bool.false_eq_true, false_iff]; exact fun h => h2.2 h.1⟩
  | .inr (.inl y), h2 =>
    refine ⟨_, rfl, ?_⟩
    rw [h2.1]
    unfold f60
    by_cases h0 : 1 ≤ s.size
    · rw [bif_t (by simp; omega)]
      simp only [decide_eq_true_eq]
      exact ⟨fun _ => ⟨h2.2, h0⟩, fun _ => by omega⟩
    · rw [bif_f (by simp; omega)]
      simp only [Bool.false_eq_true, false_iff]
      exact fun h => h0 h.2

theorem end190 (s : ByteArray) (hs : s.size ≤ 2 ^ 47) : ∃ b, g169 s = some ((b, ()), ()) ∧ (b = true ↔ okFrom s 0 ∧ 1 ≤ s.size ∧ s.size ≤ 12) := by
  have h47 : (2 : Nat) ^ 47 = 140737488355328 := by decide
  rw [h47] at hs
  obtain ⟨d, h1, h2⟩ := fixO_rel (step := s169_L0) (fun x => ((s.size : Int) - x.1.2.2.1).toNat) (fun x => x.1.1 = s ∧ x.1.2.1 = s.size ∧ 0 ≤ x.1.2.2.1 ∧ x.1.2.2.1 ≤ s.size)
    (fun x d => match d with
      | .inl y => y.1.1 = false ∧ ¬ okFrom s x.1.2.2.1
      | .inr (.inl y) => y.1.1 = s ∧ okFrom s x.1.2.2.1
      | .inr (.inr _) => False) (by
      rintro ⟨⟨(t : ByteArray), (n : Int), (i : Int), ⟨⟩⟩, ⟨⟩⟩ ⟨h1, hn, h2, h3⟩
      simp only at h1 h2 h3 hn
      subst h1 hn
      simp only [s169_L0, q169_L0]
      by_cases hi : i < t.size
      · rw [bif_t (by simpa using hi), bif_t (by simp; omega)]
        rw [wI_id (n := i + 1) (by omega) (by omega)]
        by_cases hr : 97 ≤ bt t i ∧ bt t i ≤ 122
        · left
          rw [bif_f (by simp; omega), bif_t (by simp; omega), bif_f (by simp; omega)]
          refine ⟨_, rfl, ⟨rfl, rfl, by simp only; omega, by simp only; omega⟩, by simp only; omega, fun d hd => ?_⟩
          match d, hd with
          | .inl y, hd => exact ⟨hd.1, fun h => hd.2 (okFrom_back h)⟩
          | .inr (.inl y), hd => exact ⟨hd.1, okFrom_step hr hd.2⟩
        · right
          by_cases h97 : bt t i < 97
          · rw [bif_t (by simpa using h97)]
            exact ⟨_, rfl, rfl, fun h => hr (h i (Int.le_refl _) hi)⟩
          · rw [bif_f (by simp; omega), bif_t (by simp; omega), bif_t (by simp; omega)]
            exact ⟨_, rfl, rfl, fun h => hr (h i (Int.le_refl _) hi)⟩
      · right
        rw [bif_f (by simp; omega)]
        exact ⟨_, rfl, rfl, fun j h4 h5 => by omega⟩) ((s, s.size, 0, ()), ()) ⟨rfl, rfl, by simp, by simp⟩
  unfold g169
  rw [h1]
  simp only [Option.bind_some]
  match d, h2 with
  | .inl y, h2 => exact ⟨_, rfl, by rw [h2.1]; simp only [Bool.false_eq_true, false_iff]; exact fun h => h2.2 h.1⟩
  | .inr (.inl y), h2 =>
    refine ⟨_, rfl, ?_⟩
    rw [h2.1]
    unfold f61
    by_cases h0 : 1 ≤ s.size
    · rw [bif_t (by simp; omega)]
      simp only [decide_eq_true_eq]
      exact ⟨fun h => ⟨h2.2, h0, by omega⟩, fun h => by omega⟩
    · rw [bif_f (by simp; omega)]
      simp only [Bool.false_eq_true, false_iff]
      exact fun h => h0 h.2.1

theorem names (s : ByteArray) (hw : s.size ≤ 2 ^ 47) : ∃ b, g161 s = some ((b, ()), ()) ∧ g147 s = some ((b, ()), ()) := by
  obtain ⟨b2, e2, r2⟩ := end190 s hw
  refine ⟨decide (b2 = true ∧ s.size ≤ 8), ?_, ?_⟩
  · unfold g161
    by_cases h8 : s.size ≤ 8
    · obtain ⟨b1, e1, r1⟩ := end191 s h8
      rw [bif_t (by simp; omega), e1]
      simp only [Option.bind_some]
      congr 3
      cases b1 with
      | true =>
        have := r1.mp rfl
        have h2 := r2.mpr ⟨this.1, this.2, by omega⟩
        simp [h2, h8]
      | false =>
        cases b2 with
        | false => simp
        | true =>
          have := r2.mp rfl
          have := r1.mpr ⟨this.1, this.2.1⟩
          cases this
    · rw [bif_f (by simp; omega)]
      simp [h8]
  · unfold g147
    rw [e2]
    simp only [Option.bind_some]
    cases b2 with
    | true => simp; omega
    | false => simp

theorem policies (p : Int × (Int × Unit)) : f149 p = f162 p := rfl

theorem bif_and {b x : Bool} : (bif b then x else false) = (b && x) := by cases b <;> rfl

theorem f163_iff (w : Wi) : f163 w = true ↔ (0 ≤ w.1 ∧ w.1 ≤ 2048) ∧ (4 ≤ w.2.1 ∧ w.2.1 ≤ 2048) ∧ Int.tmod w.1 4 = 0 ∧ Int.tmod w.2.1 4 = 0 ∧ w.1 + w.2.1 ≤ 2048 ∧ (1 ≤ w.2.2.1 ∧ w.2.2.1 ≤ 7) := by
  unfold f163
  simp only [bif_and, Bool.and_eq_true, f60_iff, beq_iff_eq, decide_eq_true_eq]
  constructor
  · rintro ⟨h1, h2, h3, h4, h5, h6⟩
    rw [wI_id (by omega) (by omega)] at h5
    exact ⟨h1, h2, h3, h4, h5, h6⟩
  · rintro ⟨h1, h2, h3, h4, h5, h6⟩
    refine ⟨h1, h2, h3, h4, ?_, h6⟩
    rw [wI_id (by omega) (by omega)]
    exact h5

theorem f150_163 (w : Wi) : f150 w = f163 w := by
  rw [Bool.eq_iff_iff, f163_iff]
  unfold f150
  rw [f61_60]
  simp only [bif_and, Bool.and_eq_true, f60_iff, beq_iff_eq]
  constructor
  · rintro ⟨h1, h2, h3, h4, h5⟩
    rw [wI_id (by omega) (by omega)] at h3
    exact ⟨by omega, h1, h4, h2, by omega, h5⟩
  · rintro ⟨h1, h2, h3, h4, h5, h6⟩
    refine ⟨h2, h4, ?_, h3, h6⟩
    rw [wI_id (by omega) (by omega)]
    omega

/-- Two windows that are right, and lie apart. -/
theorem f153_iff (v w : Wi) (hv : f163 v = true) (hw : f163 w = true) : f153 v w = true ↔ v.1 + v.2.1 ≤ w.1 ∨ w.1 + w.2.1 ≤ v.1 := by
  have a := (f163_iff v).mp hv
  have b := (f163_iff w).mp hw
  unfold f153
  rw [wI_id (n := v.1 + v.2.1) (by omega) (by omega), wI_id (n := w.1 + w.2.1) (by omega) (by omega)]
  by_cases h : v.1 + v.2.1 ≤ w.1
  · rw [bif_t (by simpa using h)]; simp; omega
  · rw [bif_f (by simpa using h)]; simp; omega

theorem f164_iff (w : Wi) (x : Int) (hw : f163 w = true) : f164 w x = true ↔ w.1 ≤ x ∧ x < w.1 + w.2.1 := by
  have b := (f163_iff w).mp hw
  unfold f164
  rw [wI_id (n := w.1 + w.2.1) (by omega) (by omega)]
  by_cases h : x ≥ w.1
  · rw [bif_t (by simpa using h)]; simp; omega
  · rw [bif_f (by simpa using h)]; simp; omega

theorem named (t : Tb) (hl : (tParts t).len ≤ 2 ^ 47) (s : ByteArray) : ∃ n : Int, g148 t s = some ((n, ()), ()) ∧ ((∃ i : Nat, n = i ∧ i < (tParts t).len ∧ strEq ((tParts t).get i).1 s = true ∧ ∀ j, j < i → strEq ((tParts t).get j).1 s = false) ∨ (n = -1 ∧ ∀ i, i < (tParts t).len → strEq ((tParts t).get i).1 s = false)) := by
  have h := index_loop (step := s170_171_L0) (x := tParts t) (c := (s, ())) (fun i => strEq ((tParts t).get i).1 s) (fun i hi => by
    simp only [s170_171_L0, q170_171_L0]
    refine (bif_t (idx_lt hi)).trans ((bif_t (idx_in hi)).trans ?_)
    rw [wI_succ hi hl, Int.toNat_natCast]
    by_cases hf : strEq ((tParts t).get i).1 s = true
    · rw [if_pos hf]; exact bif_t hf
    · rw [if_neg hf]; exact bif_f (show strEq ((tParts t).get i).1 s = false by simpa using hf)) (by
    simp only [s170_171_L0, q170_171_L0]
    exact bif_f (idx_end (tParts t).len))
  unfold g148 g170_171
  rcases h with ⟨i, h1, h2, h3, h4⟩ | ⟨h1, h2⟩
  · have h4' : fixO s170_171_L0 ((t.2.2.2.2.2.2.2.1, ((s, ()), ((t.2.2.2.2.2.2.2.1.len : Int), ((0 : Int), ())))), ()) = some (.inl (((i : Int), ()), ())) := h4
    rw [h4']
    exact ⟨i, rfl, .inl ⟨i, rfl, h1, h2, h3⟩⟩
  · have h2' : fixO s170_171_L0 ((t.2.2.2.2.2.2.2.1, ((s, ()), ((t.2.2.2.2.2.2.2.1.len : Int), ((0 : Int), ())))), ()) = some (.inr (.inl ((), ()))) := h2
    rw [h2']
    exact ⟨-1, rfl, .inr ⟨rfl, h1⟩⟩

/-- What the program asks behind the head. -/
noncomputable def rest71 (t : Tb) : Option ((Bool × Unit) × Unit) :=
  bif (!(f61 ((tParts t).len : Int) (1 : Int) (6 : Int))) then
    some ((false, ()), ())
  else
    (g122 t).bind fun y2 =>
      bif (!y2.1.1) then
        some ((false, ()), ())
      else
        bif (decide (((tDevs t).len : Int) > (8 : Int))) then
          some ((false, ()), ())
        else
          (g123_124 (tDevs t) (((tParts t).len : Int), ())).bind fun y3 =>
            bif y3.1.1 then
              some ((false, ()), ())
            else
              bif (decide (((tChans t).len : Int) > (8 : Int))) then
                some ((false, ()), ())
              else
                (g125_126 (tChans t) (((tParts t).len : Int), ())).bind fun y4 =>
                  bif y4.1.1 then
                    some ((false, ()), ())
                  else
                    (g107 t.2.2.2.1 t.2.1 (tChans t)).bind fun y5 =>
                      bif (decide (t.2.2.2.2.1 < y5.1.1)) then
                        some ((false, ()), ())
                      else
                        (g128 t).bind fun y6 =>
                          some ((y6.1.1, ()), ())

theorem head (t : Tb) : (g101 t = some ((false, ()), ()) ∧ g89 t = some ((false, ()), ())) ∨
    (f138 t.2.2.2.1 = true ∧ (1 ≤ t.2.2.2.2.1 ∧ t.2.2.2.2.1 ≤ 5000) ∧ (1 ≤ t.2.2.2.2.2.1 ∧ t.2.2.2.2.2.1 ≤ 5000) ∧ (1 ≤ t.2.2.2.2.2.2.1 ∧ t.2.2.2.2.2.2.1 ≤ 5000) ∧ f105 t.2.1 = true ∧ f60 t.1 64 2048 = true ∧ g101 t = some ((true, ()), ()) ∧ g89 t = rest71 t) := by
  have e127 : ∀ n, f120 n = f60 n 1 5000 := fun n => rfl
  have e124 : ∀ n, f117 n = (f60 n 64 2048 && (Int.tmod n 4 == 0)) := fun n => by
    unfold f117
    rw [f61_60]
    cases f60 n 64 2048 <;> rfl
  unfold g101 g89
  rw [e124, e127, e127, e127, f119_138, f118_105, f61_60]
  have g121_146 : g121 t.2.2.2.1 = (g146 t.2.2.2.1).bind fun y => some ((y.1.1, ()), ()) := rfl
  rw [g121_146]
  cases h1 : f60 t.1 64 2048 with
  | false => exact .inl ⟨rfl, rfl⟩
  | true =>
    cases h2 : (Int.tmod t.1 4 == 0) with
    | false =>
      have : (Int.tmod t.1 4 != 0) = true := by simpa [bne] using h2
      rw [this]
      exact .inl ⟨rfl, rfl⟩
    | true =>
      have : (Int.tmod t.1 4 != 0) = false := by simpa [bne] using h2
      rw [this]
      cases h3 : f105 t.2.1 with
      | false => exact .inl ⟨rfl, rfl⟩
      | true =>
        cases h4 : f60 t.2.2.1 1 8 with
        | false => exact .inl ⟨rfl, rfl⟩
        | true =>
          cases h5 : f138 t.2.2.2.1 with
          | false => exact .inl ⟨rfl, rfl⟩
          | true =>
            cases h6 : f60 t.2.2.2.2.1 1 5000 with
            | false => exact .inl ⟨rfl, rfl⟩
            | true =>
              cases h7 : f60 t.2.2.2.2.2.1 1 5000 with
              | false => exact .inl ⟨rfl, rfl⟩
              | true =>
                cases h8 : f60 t.2.2.2.2.2.2.1 1 5000 with
                | false => exact .inl ⟨rfl, rfl⟩
                | true =>
                  obtain ⟨n, w1, w2⟩ := worst h5
                  rw [w1, w2]
                  simp only [Bool.not_true, cond_false, cond_true, Bool.and_self, Option.bind_some]
                  by_cases hg : t.2.2.2.2.2.1 ≥ n
                  · right
                    refine ⟨trivial, (f60_iff _ _ _).mp h6, (f60_iff _ _ _).mp h7, (f60_iff _ _ _).mp h8, trivial, trivial, ?_, ?_⟩
                    · rw [decide_eq_true hg]
                    · exact bif_f (by simp; omega)
                  · left
                    refine ⟨?_, ?_⟩
                    · rw [decide_eq_false hg]
                    · exact bif_t (by simp; omega)

/-- The pads: where every row of chans is right. -/
theorem pads (t : Tb) (hc : f138 t.2.2.2.1 = true) (hs : f105 t.2.1 = true) (hl : (tChans t).len ≤ 8) (hok : ∀ j, j < (tChans t).len → f141 ((tChans t).get j) = true) :
    ∃ n : Int, g116 t.2.2.2.1 t.2.1 (tChans t) = some ((n, ()), ()) ∧ g107 t.2.2.2.1 t.2.1 (tChans t) = some ((n, ()), ()) := by
  obtain ⟨c1, _⟩ := costs_of hc
  obtain ⟨m, h1, h2⟩ := good (tChans t) hl t.2.2.2.1 c1 (wI ((wI (16 * t.2.2.2.1.1)) + (wI ((wI (t.2.1.1 * t.2.1.2.1)) * t.2.2.2.1.2.2.2.2.2.2.1)))) hok
  unfold g116 g107
  rw [hc, hs]
  simp only [Bool.not_true, cond_false]
  rw [bif_f (by simp; omega), h1, h2]
  exact ⟨m, rfl, rfl⟩

/-- What is known of tables whose rows behind the partitions are right. -/
def Tail (t : Tb) : Prop :=
  (tDevs t).len ≤ 8 ∧ (tChans t).len ≤ 8 ∧ (∀ i, i < (tDevs t).len → f60 ((tDevs t).get i) 0 (wI (((tParts t).len : Int) - 1)) = true) ∧
  (∀ i, i < (tChans t).len → f141 ((tChans t).get i) = true ∧ ((tChans t).get i).2.1 < ((tParts t).len : Int) ∧ ((tChans t).get i).2.2.1 < ((tParts t).len : Int)) ∧ SlotsIn t ∧ (1 ≤ (tSlots t).len ∧ (tSlots t).len ≤ 16) ∧
  ∃ n : Int, g116 t.2.2.2.1 t.2.1 (tChans t) = some ((n, ()), ()) ∧ g107 t.2.2.2.1 t.2.1 (tChans t) = some ((n, ()), ()) ∧ t.2.2.2.2.1 ≥ n

/-- Devices, channels, pads and slots: what the reference asks behind the partitions, and the program. -/
theorem tail (t : Tb) (hl : (tSlots t).len ≤ 2 ^ 47) (hc : f138 t.2.2.2.1 = true) (hs : f105 t.2.1 = true) (h1 : 1 ≤ t.2.2.2.2.1 ∧ t.2.2.2.2.1 ≤ 5000) (h2 : 1 ≤ t.2.2.2.2.2.1 ∧ t.2.2.2.2.2.1 ≤ 5000) (h3 : 1 ≤ t.2.2.2.2.2.2.1 ∧ t.2.2.2.2.2.2.1 ≤ 5000) :
    ∃ b : Bool, ((g103 t).bind fun y3 => bif y3.1.1 then (g104 t).bind fun y4 => some ((y4.1.1, ()), ()) else some ((false, ()), ())) = some ((b, ()), ()) ∧
      (bif (decide (((tDevs t).len : Int) > (8 : Int))) then
          some ((false, ()), ())
        else
          (g123_124 (tDevs t) (((tParts t).len : Int), ())).bind fun y3 =>
            bif y3.1.1 then
              some ((false, ()), ())
            else
              bif (decide (((tChans t).len : Int) > (8 : Int))) then
                some ((false, ()), ())
              else
                (g125_126 (tChans t) (((tParts t).len : Int), ())).bind fun y4 =>
                  bif y4.1.1 then
                    some ((false, ()), ())
                  else
                    (g107 t.2.2.2.1 t.2.1 (tChans t)).bind fun y5 =>
                      bif (decide (t.2.2.2.2.1 < y5.1.1)) then
                        some ((false, ()), ())
                      else
                        (g128 t).bind fun y6 =>
                          some ((y6.1.1, ()), ())) = some ((b, ()), ()) ∧ (b = true → Tail t) := by
  have slots : ∃ b : Bool, g104 t = some ((b, ()), ()) ∧ g128 t = some ((b, ()), ()) ∧ (b = true → SlotsIn t ∧ 1 ≤ (tSlots t).len ∧ (tSlots t).len ≤ 16) := by
    obtain ⟨d, e, q1, q2, q3⟩ := slotsLoop t hl h1 h2 h3
    have q1' : fixO s104_L0 (((), ((0 : Int), ((0 : Int), ()))), (t, ())) = some d := q1
    have q2' : fixO s128_L0 (((), ((0 : Int), (t.2.2.2.2.2.2.2.2.2.2.1, ((t.2.2.2.2.2.2.2.2.2.2.1.len : Int), ((0 : Int), ()))))), (t, ())) = some e := q2
    unfold g104 g128
    rw [q1', q2', f61_60]
    rcases q3 with ⟨rfl, rfl⟩ | ⟨rfl, rfl, q3⟩
    · refine ⟨false, ?_, rfl, by simp⟩
      cases f60 (t.2.2.2.2.2.2.2.2.2.2.1.len : Int) 1 16 <;> rfl
    · refine ⟨f60 (t.2.2.2.2.2.2.2.2.2.2.1.len : Int) 1 16, ?_, rfl, fun h => ⟨q3, ?_⟩⟩
      · cases f60 (t.2.2.2.2.2.2.2.2.2.2.1.len : Int) 1 16 <;> rfl
      · have := (f60_iff _ _ _).mp h
        unfold tSlots
        omega
  obtain ⟨b, s1, s2, s3⟩ := slots
  unfold g103
  by_cases hd : ((tDevs t).len : Int) > 8
  · refine ⟨false, ?_, bif_t (by simpa using hd), by simp⟩
    have : decide ((t.2.2.2.2.2.2.2.2.1.len : Int) > 8) = true := decide_eq_true hd
    rw [this]; rfl
  · have e1 : decide ((t.2.2.2.2.2.2.2.2.1.len : Int) > 8) = false := decide_eq_false hd
    have e1' : decide (((tDevs t).len : Int) > 8) = false := by simpa using hd
    rw [e1, e1']
    simp only [cond_false]
    have hd8 : (tDevs t).len ≤ 8 := by omega
    by_cases hch : ((tChans t).len : Int) > 8
    · have e2 : decide ((t.2.2.2.2.2.2.2.2.2.1.len : Int) > 8) = true := decide_eq_true hch
      have e2' : decide (((tChans t).len : Int) > 8) = true := by simpa using hch
      rw [e2, e2']
      rcases devs t hd8 with ⟨_, _, a2⟩ | ⟨_, _, a2⟩ <;> rw [a2] <;> exact ⟨false, rfl, rfl, by simp⟩
    · have e2 : decide ((t.2.2.2.2.2.2.2.2.2.1.len : Int) > 8) = false := decide_eq_false hch
      have e2' : decide (((tChans t).len : Int) > 8) = false := by simpa using hch
      rw [e2, e2']
      simp only [cond_false]
      have hc8 : (tChans t).len ≤ 8 := by omega
      rcases devs t hd8 with ⟨_, a1, a2⟩ | ⟨hdev, a1, a2⟩
      · rw [a1, a2]; exact ⟨false, rfl, rfl, by simp⟩
      · rw [a1, a2]
        simp only [Option.bind_some, cond_false]
        rcases chans t hc8 with ⟨b1, b2⟩ | ⟨hok, b1, b2⟩
        · rw [b1, b2]; exact ⟨false, rfl, rfl, by simp⟩
        · rw [b1, b2]
          simp only [Option.bind_some, cond_false]
          obtain ⟨n, p1, p2⟩ := pads t hc hs hc8 (fun j hj => (hok j hj).1)
          have p1' : g116 t.2.2.2.1 t.2.1 t.2.2.2.2.2.2.2.2.2.1 = some ((n, ()), ()) := p1
          rw [p1', p2, s1, s2]
          simp only [Option.bind_some]
          by_cases hp : t.2.2.2.2.1 ≥ n
          · rw [decide_eq_true hp, decide_eq_false (by omega)]
            exact ⟨b, rfl, rfl, fun h => ⟨hd8, hc8, hdev, hok, (s3 h).1, (s3 h).2, n, p1, p2, hp⟩⟩
          · rw [decide_eq_false hp, decide_eq_true (by omega)]
            exact ⟨false, rfl, rfl, by simp⟩

/-- A slice's content as a list. -/
def toL {α : Type} (x : L α) : List α := (List.range x.len).map x.get

theorem toL_len {α : Type} (x : L α) : (toL x).length = x.len := by simp [toL]

theorem toL_get {α : Type} (x : L α) (i : Nat) : (toL x)[i]? = if i < x.len then some (x.get i) else none := by
  unfold toL
  rw [List.getElem?_map]
  by_cases h : i < x.len
  · rw [if_pos h, List.getElem?_range h]; rfl
  · rw [if_neg h, List.getElem?_eq_none (by simpa using h)]; rfl

theorem toL_app {α : Type} (a b : L α) : toL (L.app a b) = toL a ++ toL b := by
  apply List.ext_getElem?
  intro i
  rw [toL_get, List.getElem?_append, toL_len, toL_get, toL_get]
  show (if i < a.len + b.len then some (bif Nat.blt i a.len then a.get i else b.get (i - a.len)) else none) = _
  by_cases h : i < a.len
  · have : Nat.blt i a.len = true := by simpa [Nat.blt_eq] using h
    rw [if_pos (by omega), if_pos h, if_pos h, this]; rfl
  · have : Nat.blt i a.len = false := by
      cases hb : Nat.blt i a.len with
      | false => rfl
      | true => exact absurd (by simpa [Nat.blt_eq] using hb) h
    rw [if_neg h, this]
    by_cases h2 : i < a.len + b.len
    · rw [if_pos h2, if_pos (by omega)]; rfl
    · rw [if_neg h2, if_neg (by omega)]

/-- Every window of every partition, in order. -/
def winsOf (x : L PR) (n : Nat) : List Wi := ((toL x).take n).flatMap fun p => toL p.2.2.2.1

theorem winsOf_succ (x : L PR) {n : Nat} (h : n < x.len) : winsOf x (n + 1) = winsOf x n ++ toL (x.get n).2.2.2.1 := by
  unfold winsOf
  have hn : n < (toL x).length := by rw [toL_len]; exact h
  rw [List.take_succ_eq_append_getElem hn, List.flatMap_append]
  have : (toL x)[n] = x.get n := by
    have := toL_get x n
    rw [if_pos h, List.getElem?_eq_getElem hn] at this
    exact Option.some.inj this
  rw [this]
  simp

theorem allWins (x : L PR) (hn : x.len ≤ 6) (hw : ∀ i, i < x.len → (x.get i).2.2.2.1.len ≤ 4) : ∃ all : L Wi, g140 x = some ((all, ()), ()) ∧ toL all = winsOf x x.len ∧ all.len ≤ 24 := by
  obtain ⟨d, h1, all, rfl, h2, h3⟩ := fixO_rel (step := s140_L0) (fun a => x.len - a.1.2.2.1.toNat)
    (fun a => ∃ (i : Nat) (acc : L Wi), a = ((x, (acc, ((i : Int), ()))), ()) ∧ i ≤ x.len ∧ toL acc = winsOf x i ∧ acc.len ≤ 4 * i)
    (fun _ d => ∃ all : L Wi, d = .inl ((all, ()), ()) ∧ toL all = winsOf x x.len ∧ all.len ≤ 24) (by
      rintro _ ⟨i, acc, rfl, hi, ha, hl⟩
      by_cases h : i < x.len
      · left
        have hm : decide (acc.len + (x.get ((i : Int)).toNat).2.2.2.1.len ≤ most) = true := by
          rw [Int.toNat_natCast]
          have := hw i h
          have h32 : most = 4294967296 := rfl
          rw [h32]
          exact decide_eq_true (by omega)
        have hstep : s140_L0 ((x, (acc, ((i : Int), ()))), ()) = some (.inl ((x, (L.app acc (x.get i).2.2.2.1, (((i + 1 : Nat) : Int), ()))), ())) := by
          simp only [s140_L0, q140_L0]
          refine (bif_t (idx_lt h)).trans ((bif_t (idx_in h)).trans ((bif_t hm).trans ?_))
          rw [wI_succ h (by omega), Int.toNat_natCast]
        refine ⟨_, hstep, ⟨i + 1, _, rfl, h, ?_, ?_⟩, by simp only [Int.toNat_natCast]; omega, fun d hd => hd⟩
        · rw [toL_app, ha, winsOf_succ x h]
        · show acc.len + (x.get i).2.2.2.1.len ≤ _
          have := hw i h
          omega
      · right
        have : i = x.len := by omega
        subst this
        have hstep : s140_L0 ((x, (acc, ((x.len : Int), ()))), ()) = some (.inr (.inl ((acc, ()), ()))) := by
          simp only [s140_L0, q140_L0]
          exact bif_f (idx_end x.len)
        exact ⟨_, hstep, acc, rfl, ha, by omega⟩)
    ((x, ((L.of (Ty.zero (.pair (.int .i64) (.pair (.int .i64) (.pair (.int .i64) .unit)))) []), ((0 : Int), ()))), ()) ⟨0, _, rfl, Nat.zero_le _, rfl, Nat.zero_le _⟩
  unfold g140
  rw [h1]
  exact ⟨all, rfl, h2, h3⟩

/-- Do two windows of a row overlap, as the reference asks it. -/
def ovl (a : L Wi) (k i : Nat) : Bool := decide ((a.get k).1 < wI ((a.get i).1 + (a.get i).2.1)) && decide ((a.get i).1 < wI ((a.get k).1 + (a.get k).2.1))

theorem ovlInner (a : L Wi) (ha : a.len ≤ 24) {i : Nat} (hi : i < a.len) :
    (∃ k, k < i ∧ ovl a k i = true ∧ fixO s102_L6 ((a, ((i : Int), ((0 : Int), ()))), ()) = some (.inl ((false, ()), ()))) ∨
    ((∀ k, k < i → ovl a k i = false) ∧ fixO s102_L6 ((a, ((i : Int), ((0 : Int), ()))), ()) = some (.inr (.inl ((a, ((i : Int), ())), ())))) := by
  have h := scan (step := s102_L6) (fun k => ((a, ((i : Int), ((k : Int), ()))), ())) i (fun k => !ovl a k i) (fun _ => .inl ((false, ()), ())) (.inr (.inl ((a, ((i : Int), ())), ())))
    (fun k hk ho => by
      have ho : ovl a k i = false := by simpa using ho
      have hkl : k < a.len := by omega
      simp only [s102_L6, q102_L6]
      refine (bif_t (idx_lt hk)).trans ((bif_t (idx_in hkl)).trans ((bif_t (idx_in hi)).trans ((bif_t (idx_in hi)).trans ?_)))
      rw [wI_succ hk (by omega), Int.toNat_natCast, Int.toNat_natCast]
      unfold ovl at ho
      cases h1 : decide ((a.get k).1 < wI ((a.get i).1 + (a.get i).2.1)) with
      | false => rfl
      | true =>
        rw [h1] at ho
        refine (bif_t (idx_in hi)).trans ((bif_t (idx_in hkl)).trans ((bif_t (idx_in hkl)).trans ?_))
        exact bif_f (by simpa using ho))
    (fun k hk ho => by
      have ho : ovl a k i = true := by simpa using ho
      have hkl : k < a.len := by omega
      simp only [s102_L6, q102_L6]
      refine (bif_t (idx_lt hk)).trans ((bif_t (idx_in hkl)).trans ((bif_t (idx_in hi)).trans ((bif_t (idx_in hi)).trans ?_)))
      rw [wI_succ hk (by omega), Int.toNat_natCast, Int.toNat_natCast]
      unfold ovl at ho
      simp only [Bool.and_eq_true] at ho
      refine (bif_t ho.1).trans ((bif_t (idx_in hi)).trans ((bif_t (idx_in hkl)).trans ((bif_t (idx_in hkl)).trans ?_)))
      exact bif_t ho.2)
    (by
      simp only [s102_L6, q102_L6]
      exact bif_f (idx_end i))
  rcases h with ⟨k, h1, h2, _, h4⟩ | ⟨h1, h2⟩
  · exact .inl ⟨k, h1, by simpa using h2, h4⟩
  · exact .inr ⟨fun k hk => by simpa using h1 k hk, h2⟩

theorem ovlAll (a : L Wi) (ha : a.len ≤ 24) :
    ((∃ i k, i < a.len ∧ k < i ∧ ovl a k i = true) ∧ fixO s102_L4 ((a, ((0 : Int), ())), ()) = some (.inl ((false, ()), ()))) ∨
    ((∀ i k, i < a.len → k < i → ovl a k i = false) ∧ fixO s102_L4 ((a, ((0 : Int), ())), ()) = some (.inr (.inl ((), ())))) := by
  have h := scan (step := s102_L4) (fun i => ((a, ((i : Int), ())), ())) a.len (fun i => (List.range i).all fun k => !ovl a k i) (fun _ => .inl ((false, ()), ())) (.inr (.inl ((), ())))
    (fun i hi ho => by
      have ho : ∀ k, k < i → ovl a k i = false := fun k hk => by simpa using List.all_eq_true.mp ho k (List.mem_range.mpr hk)
      simp only [s102_L4, q102_L4]
      refine (bif_t (idx_lt hi)).trans ?_
      rcases ovlInner a ha hi with ⟨k, hk, h1, _⟩ | ⟨_, h2⟩
      · rw [ho k hk] at h1; cases h1
      · rw [h2]
        simp only [Option.bind_some]
        rw [wI_succ hi (by omega)])
    (fun i hi ho => by
      simp only [s102_L4, q102_L4]
      refine (bif_t (idx_lt hi)).trans ?_
      rcases ovlInner a ha hi with ⟨k, hk, h1, h2⟩ | ⟨h1, _⟩
      · rw [h2]; rfl
      · have : ((List.range i).all fun k => !ovl a k i) = true := List.all_eq_true.mpr fun k hk => by simp [h1 k (List.mem_range.mp hk)]
        rw [this] at ho; cases ho)
    (by
      simp only [s102_L4, q102_L4]
      exact bif_f (idx_end a.len))
  rcases h with ⟨i, h1, h2, _, h4⟩ | ⟨h1, h2⟩
  · refine .inl ⟨?_, h4⟩
    have h2' : ¬ ((List.range i).all fun k => !ovl a k i) = true := by rw [h2]; simp
    rw [List.all_eq_true] at h2'
    simp only [Classical.not_forall] at h2'
    obtain ⟨k, hk, hko⟩ := h2'
    exact ⟨i, k, h1, List.mem_range.mp hk, by simpa using hko⟩
  · exact .inr ⟨fun i k hi hk => by simpa using List.all_eq_true.mp (h1 i hi) k (List.mem_range.mpr hk), h2⟩

/-- Two windows have no place in common. -/
def apart (v w : Wi) : Prop := v.1 + v.2.1 ≤ w.1 ∨ w.1 + w.2.1 ≤ v.1

theorem toL_mem {α : Type} (x : L α) (a : α) : a ∈ toL x ↔ ∃ i, i < x.len ∧ x.get i = a := by
  unfold toL
  rw [List.mem_map]
  constructor
  · rintro ⟨i, hi, rfl⟩; exact ⟨i, List.mem_range.mp hi, rfl⟩
  · rintro ⟨i, hi, rfl⟩; exact ⟨i, List.mem_range.mpr hi, rfl⟩

theorem toL_getElem {α : Type} (x : L α) (i : Nat) (h : i < (toL x).length) : (toL x)[i] = x.get i := by
  have := toL_get x i
  rw [List.getElem?_eq_getElem h, if_pos (by rw [toL_len] at h; exact h)] at this
  exact Option.some.inj this

theorem toL_take_succ {α : Type} (x : L α) {i : Nat} (h : i < x.len) : (toL x).take (i + 1) = (toL x).take i ++ [x.get i] := by
  have hn : i < (toL x).length := by rw [toL_len]; exact h
  rw [List.take_succ_eq_append_getElem hn, toL_getElem]

theorem toL_take_len {α : Type} (x : L α) : (toL x).take x.len = toL x := by
  rw [← toL_len x]; exact List.take_length

theorem winsOf_prefix (x : L PR) {i n : Nat} (h : i ≤ n) (hn : n ≤ x.len) : ∃ r, winsOf x n = winsOf x i ++ r := by
  induction n with
  | zero => have : i = 0 := by omega
            subst this; exact ⟨[], (List.append_nil _).symm⟩
  | succ n ih =>
    by_cases e : i = n + 1
    · subst e; exact ⟨[], (List.append_nil _).symm⟩
    · obtain ⟨r, hr⟩ := ih (by omega) (by omega)
      refine ⟨r ++ toL (x.get n).2.2.2.1, ?_⟩
      rw [winsOf_succ x (by omega), hr, List.append_assoc]

/-- Is a row's window that overlaps there. -/
theorem overlaps (a : L Wi) (ha : a.len ≤ 2 ^ 47) (w : Wi) (hw : f163 w = true) (hg : ∀ v, v ∈ toL a → f163 v = true) :
    (g151_152 a (w, ()) = some ((true, ()), ()) ∧ ¬ ∀ v, v ∈ toL a → apart v w) ∨ (g151_152 a (w, ()) = some ((false, ()), ()) ∧ ∀ v, v ∈ toL a → apart v w) := by
  have h := index_loop (step := s172_152_L0) (x := a) (c := (w, ())) (fun i => f152 (a.get i) w) (fun i hi => by
    simp only [s172_152_L0, q172_152_L0]
    refine (bif_t (idx_lt hi)).trans ((bif_t (idx_in hi)).trans ?_)
    rw [wI_succ hi ha, Int.toNat_natCast]
    by_cases hf : f152 (a.get i) w = true
    · rw [if_pos hf]; exact bif_t hf
    · rw [if_neg hf]; exact bif_f (by simpa using hf)) (by
    simp only [s172_152_L0, q172_152_L0]
    exact bif_f (idx_end a.len))
  have hf : ∀ i, i < a.len → (f152 (a.get i) w = false ↔ apart (a.get i) w) := fun i hi => by
    have := f153_iff (a.get i) w (hg _ ((toL_mem _ _).mpr ⟨i, hi, rfl⟩)) hw
    unfold f152 apart
    rw [← this]
    cases f153 (a.get i) w <;> simp
  unfold g151_152 g172_152
  rcases h with ⟨i, h1, h2, h3, h4⟩ | ⟨h1, h2⟩
  · left
    rw [h4]
    refine ⟨by simp, fun q => ?_⟩
    have := (hf i h1).mpr (q _ ((toL_mem _ _).mpr ⟨i, h1, rfl⟩))
    rw [this] at h2; cases h2
  · right
    rw [h2]
    refine ⟨by simp, fun v hv => ?_⟩
    obtain ⟨i, hi, rfl⟩ := (toL_mem _ _).mp hv
    exact (hf i hi).mp (h1 i hi)

/-- The window of a row that has an address. -/
theorem winAt (a : L Wi) (ha : a.len ≤ 2 ^ 47) (x : Int) :
    (∃ i : Nat, i < a.len ∧ f164 (a.get i) x = true ∧ (∀ j, j < i → f164 (a.get j) x = false) ∧ g173 a x = some (((i : Int), ()), ())) ∨ ((∀ i, i < a.len → f164 (a.get i) x = false) ∧ g173 a x = some ((-1, ()), ())) := by
  have e95 : ∀ w : Wi, f176 w x = f164 w x := fun w => rfl
  have h := index_loop (step := s172_176_L0) (x := a) (c := (x, ())) (fun i => f164 (a.get i) x) (fun i hi => by
    simp only [s172_176_L0, q172_176_L0]
    refine (bif_t (idx_lt hi)).trans ((bif_t (idx_in hi)).trans ?_)
    rw [wI_succ hi ha, Int.toNat_natCast]
    by_cases hf : f164 (a.get i) x = true
    · rw [if_pos hf]; exact bif_t hf
    · rw [if_neg hf]
      have hf' : f164 (a.get i) x = false := by simpa using hf
      exact bif_f hf') (by
    simp only [s172_176_L0, q172_176_L0]
    exact bif_f (idx_end a.len))
  unfold g173 g172_176
  rcases h with ⟨i, h1, h2, h3, h4⟩ | ⟨h1, h2⟩
  · left
    rw [h4]
    exact ⟨i, h1, h2, h3, rfl⟩
  · right
    rw [h2]
    exact ⟨h1, rfl⟩

/-- A window of a partition that may be run, and has an address. -/
def ins (w : Wi) (x : Int) : Prop := f164 w x = true ∧ wI (Int.tdiv w.2.2.1 4) = 1

theorem perm4 (n : Int) (h : 1 ≤ n ∧ n ≤ 7) : (andOf .i64 n 4 != 0) = (wI (Int.tdiv n 4) == 1) := by
  obtain ⟨h1, h2⟩ := h
  have : n = 1 ∨ n = 2 ∨ n = 3 ∨ n = 4 ∨ n = 5 ∨ n = 6 ∨ n = 7 := by omega
  rcases this with rfl | rfl | rfl | rfl | rfl | rfl | rfl <;> decide +kernel

theorem runs (p : PR) (hl : p.2.2.2.1.len ≤ 2 ^ 47) (x : Int) (hg : ∀ i, i < p.2.2.2.1.len → f163 (p.2.2.2.1.get i) = true) (hp : (toL p.2.2.2.1).Pairwise apart) :
    ∃ b, g154 p x = some ((b, ()), ()) ∧ (b = true ↔ ∃ i, i < p.2.2.2.1.len ∧ ins (p.2.2.2.1.get i) x) := by
  unfold g154
  rcases winAt p.2.2.2.1 hl x with ⟨i, h1, h2, h3, h4⟩ | ⟨h1, h2⟩
  · rw [h4]
    refine ⟨andOf .i64 (p.2.2.2.1.get i).2.2.1 4 != 0, ?_, ?_⟩
    · simp only [Option.bind_some]
      refine (bif_t (by simp)).trans ((bif_t (idx_in h1)).trans ?_)
      rw [Int.toNat_natCast]
    · rw [perm4 _ ((f163_iff _).mp (hg i h1)).2.2.2.2.2]
      constructor
      · intro h; exact ⟨i, h1, h2, by simpa using h⟩
      · rintro ⟨j, hj, q1, q2⟩
        have : j = i := by
          by_cases e : j = i
          · exact e
          have a1 := (f164_iff _ x (hg i h1)).mp h2
          have a2 := (f164_iff _ x (hg j hj)).mp q1
          have hlen : (toL p.2.2.2.1).length = p.2.2.2.1.len := toL_len _
          have hall := List.pairwise_iff_getElem.mp hp
          rcases Nat.lt_or_gt_of_ne e with lt | gt
          · have := hall j i (by rw [hlen]; exact hj) (by rw [hlen]; exact h1) lt
            rw [toL_getElem, toL_getElem] at this
            unfold apart at this
            omega
          · have := hall i j (by rw [hlen]; exact h1) (by rw [hlen]; exact hj) gt
            rw [toL_getElem, toL_getElem] at this
            unfold apart at this
            omega
        subst this
        simpa using q2
  · rw [h2]
    refine ⟨false, ?_, ?_⟩
    · simp only [Option.bind_some]
      exact bif_f (by decide)
    · simp only [Bool.false_eq_true, false_iff, not_exists, not_and]
      intro i hi q
      have q1 := q.1
      rw [h1 i hi] at q1
      cases q1

/-- Is a text the name of a partition. -/
noncomputable def nm (s : ByteArray) : Bool := open Classical in decide (g161 s = some ((true, ()), ()))

theorem nm_of (s : ByteArray) (hw : s.size ≤ 2 ^ 47) : g161 s = some ((nm s, ()), ()) ∧ g147 s = some ((nm s, ()), ()) := by
  obtain ⟨b, h1, h2⟩ := names s hw
  have : nm s = b := by
    unfold nm
    rw [h1]
    cases b <;> simp
  rw [this]; exact ⟨h1, h2⟩

/-- A partition that is right, but for what it has in common with others. -/
def PartG (p : PR) (mem : Int) : Prop :=
  nm p.1 = true ∧ f162 p.2.2.1 = true ∧ (1 ≤ p.2.2.2.1.len ∧ p.2.2.2.1.len ≤ 4) ∧ (∀ j, j < p.2.2.2.1.len → f163 (p.2.2.2.1.get j) = true ∧ (p.2.2.2.1.get j).1 + (p.2.2.2.1.get j).2.1 ≤ mem) ∧
    (∃ j, j < p.2.2.2.1.len ∧ ins (p.2.2.2.1.get j) p.2.1) ∧ Int.tmod p.2.1 4 = 0

theorem partok (p : PR) (mem : Int) (hs : p.1.size ≤ 2 ^ 47) : ∃ b, g139 p mem = some ((b, ()), ()) ∧ (b = true ↔ PartG p mem) := by
  unfold g139 PartG
  rw [(nm_of p.1 hs).1]
  simp only [Option.bind_some]
  cases h1 : nm p.1 with
  | false => exact ⟨false, rfl, by simp⟩
  | true =>
    cases h2 : f162 p.2.2.1 with
    | false => exact ⟨false, rfl, by simp⟩
    | true =>
      cases h3 : f60 (p.2.2.2.1.len : Int) 1 4 with
      | false =>
        refine ⟨false, rfl, ?_⟩
        have : ¬ (1 ≤ p.2.2.2.1.len ∧ p.2.2.2.1.len ≤ 4) := fun q => by
          rw [(f60_iff _ _ _).mpr (by omega)] at h3; cases h3
        simp only [Bool.false_eq_true, false_iff]
        rintro ⟨_, _, q, _⟩
        exact this q
      | true =>
        have h3' : 1 ≤ p.2.2.2.1.len ∧ p.2.2.2.1.len ≤ 4 := by
          have := (f60_iff _ _ _).mp h3
          omega
        simp only [Bool.not_true, cond_false]
        generalize hwn : p.2.2.2.1 = wn at *
        have hgood : ∀ j, (!(f163 (wn.get j))) = false → decide (wI ((wn.get j).1 + (wn.get j).2.1) > mem) = false → f163 (wn.get j) = true ∧ (wn.get j).1 + (wn.get j).2.1 ≤ mem := fun j a b => by
          have a' : f163 (wn.get j) = true := by simpa using a
          have := (f163_iff _).mp a'
          rw [wI_id (by omega) (by omega)] at b
          exact ⟨a', by simpa using b⟩
        obtain ⟨d, e1, e2⟩ := fixO_rel (step := s139_L0) (fun a => wn.len - a.1.2.2.2.1.toNat)
          (fun a => ∃ (i : Nat) (fl : Bool), a = ((mem, ((), (fl, ((i : Int), ())))), (p, ())) ∧ i ≤ wn.len ∧ (∀ j, j < i → f163 (wn.get j) = true ∧ (wn.get j).1 + (wn.get j).2.1 ≤ mem) ∧ (fl = true ↔ ∃ j, j < i ∧ ins (wn.get j) p.2.1))
          (fun _ d => (d = .inl ((false, ()), ()) ∧ ¬ ∀ j, j < wn.len → f163 (wn.get j) = true ∧ (wn.get j).1 + (wn.get j).2.1 ≤ mem) ∨
            ∃ fl : Bool, d = .inr (.inl (((), (fl, ())), (p, ()))) ∧ (∀ j, j < wn.len → f163 (wn.get j) = true ∧ (wn.get j).1 + (wn.get j).2.1 ≤ mem) ∧ (fl = true ↔ ∃ j, j < wn.len ∧ ins (wn.get j) p.2.1)) (by
            rintro _ ⟨i, fl, rfl, hi, ha, hf⟩
            by_cases h : i < wn.len
            · simp only [s139_L0, q139_L0]
              rw [hwn, bif_t (idx_lt h), bif_t (idx_in h), wI_succ h (by omega), Int.toNat_natCast]
              cases g1 : (!(f163 (wn.get i))) with
              | true =>
                right
                refine ⟨_, rfl, .inl ⟨rfl, fun q => ?_⟩⟩
                have := (q i h).1
                rw [this] at g1; cases g1
              | false =>
                cases g2 : decide (wI ((wn.get i).1 + (wn.get i).2.1) > mem) with
                | true =>
                  right
                  refine ⟨_, rfl, .inl ⟨rfl, fun q => ?_⟩⟩
                  have h1 := (q i h).1
                  have h2 := (q i h).2
                  have := (f163_iff _).mp h1
                  rw [wI_id (by omega) (by omega)] at g2
                  have := of_decide_eq_true g2
                  omega
                | false =>
                  left
                  have hg := hgood i g1 g2
                  have ha' : ∀ j, j < i + 1 → f163 (wn.get j) = true ∧ (wn.get j).1 + (wn.get j).2.1 ≤ mem := fun j hj => by
                    by_cases e : j = i
                    · rw [e]; exact hg
                    · exact ha j (by omega)
                  have hm : wn.len - (((i + 1 : Nat) : Int)).toNat < wn.len - ((i : Int)).toNat := by simp only [Int.toNat_natCast]; omega
                  have up : ¬ ins (wn.get i) p.2.1 → (fl = true ↔ ∃ j, j < i + 1 ∧ ins (wn.get j) p.2.1) := fun hn => by
                    rw [hf]
                    constructor
                    · rintro ⟨j, hj, q⟩; exact ⟨j, by omega, q⟩
                    · rintro ⟨j, hj, q⟩
                      by_cases e : j = i
                      · rw [e] at q; exact absurd q hn
                      · exact ⟨j, by omega, q⟩
                  cases g3 : f164 (wn.get i) p.2.1 with
                  | false =>
                    exact ⟨_, rfl, ⟨i + 1, fl, rfl, h, ha', up (fun q => by rw [q.1] at g3; cases g3)⟩, hm, fun d hd => hd⟩
                  | true =>
                    cases g4 : (wI (Int.tdiv (wn.get i).2.2.1 4) == 1) with
                    | false =>
                      exact ⟨_, rfl, ⟨i + 1, fl, rfl, h, ha', up (fun q => by rw [q.2] at g4; cases g4)⟩, hm, fun d hd => hd⟩
                    | true =>
                      exact ⟨_, rfl, ⟨i + 1, true, rfl, h, ha', ⟨fun _ => ⟨i, by omega, g3, by simpa using g4⟩, fun _ => rfl⟩⟩, hm, fun d hd => hd⟩
            · right
              have : i = wn.len := by omega
              subst this
              simp only [s139_L0, q139_L0]
              rw [hwn, bif_f (idx_end wn.len)]
              exact ⟨_, rfl, .inr ⟨fl, rfl, ha, hf⟩⟩)
          ((mem, ((), (false, ((0 : Int), ())))), (p, ())) ⟨0, false, rfl, Nat.zero_le _, fun j hj => absurd hj (Nat.not_lt_zero _), by simp⟩
        rw [e1]
        simp only [Option.bind_some]
        rcases e2 with ⟨rfl, hn⟩ | ⟨fl, rfl, hy, hfl⟩
        · refine ⟨false, rfl, ?_⟩
          simp only [Bool.false_eq_true, false_iff]
          rintro ⟨_, _, _, q, _⟩
          exact hn q
        · cases fl with
          | false =>
            refine ⟨false, rfl, ?_⟩
            simp only [Bool.false_eq_true, false_iff] at hfl ⊢
            rintro ⟨_, _, _, _, q, _⟩
            exact hfl q
          | true =>
            refine ⟨Int.tmod p.2.1 4 == 0, rfl, ?_⟩
            rw [beq_iff_eq]
            exact ⟨fun q => ⟨trivial, trivial, h3', hy, hfl.mp rfl, q⟩, fun q => q.2.2.2.2.2⟩

theorem toL_one (w : Wi) (z : Wi) : toL (L.of z [w]) = [w] := rfl
theorem toL_nil : toL (nilL (.pair (.int .i64) (.pair (.int .i64) (.pair (.int .i64) .unit)))) = ([] : List Wi) := rfl

/-- The windows of one partition, against all that came ahead. -/
theorem inner (t : Tb) (p : PR) (n i : Int) (a0 : L Wi) (hl : p.2.2.2.1.len ≤ 4) (ha0 : a0.len ≤ 20) (hg0 : ∀ v, v ∈ toL a0 → f163 v = true) (hp0 : (toL a0).Pairwise apart) :
    ∃ d, fixO s122_L2 (((), (a0, ((), (tParts t, (n, (i, (p.2.2.2.1, ((p.2.2.2.1.len : Int), ((0 : Int), ()))))))))), (t, (p, ()))) = some d ∧
      ((d = .inl ((false, ()), ()) ∧ ¬ ((∀ j, j < p.2.2.2.1.len → f163 (p.2.2.2.1.get j) = true ∧ (p.2.2.2.1.get j).1 + (p.2.2.2.1.get j).2.1 ≤ t.1) ∧ (toL a0 ++ toL p.2.2.2.1).Pairwise apart)) ∨
       ∃ a1 : L Wi, d = .inr (.inl (((), (a1, ((), (tParts t, (n, (i, ())))))), (t, (p, ())))) ∧ toL a1 = toL a0 ++ toL p.2.2.2.1 ∧
        (∀ j, j < p.2.2.2.1.len → f163 (p.2.2.2.1.get j) = true ∧ (p.2.2.2.1.get j).1 + (p.2.2.2.1.get j).2.1 ≤ t.1) ∧ (toL a1).Pairwise apart) := by
  generalize hwn : p.2.2.2.1 = wn at *
  refine fixO_rel (step := s122_L2) (fun x => wn.len - x.1.2.2.2.2.2.2.2.2.1.toNat)
    (fun x => ∃ (j : Nat) (a : L Wi), x = (((), (a, ((), (tParts t, (n, (i, (wn, ((wn.len : Int), ((j : Int), ()))))))))), (t, (p, ()))) ∧ j ≤ wn.len ∧ toL a = toL a0 ++ (toL wn).take j ∧ a.len = a0.len + j ∧
      (∀ k, k < j → f163 (wn.get k) = true ∧ (wn.get k).1 + (wn.get k).2.1 ≤ t.1) ∧ (toL a).Pairwise apart)
    (fun _ d => (d = .inl ((false, ()), ()) ∧ ¬ ((∀ j, j < wn.len → f163 (wn.get j) = true ∧ (wn.get j).1 + (wn.get j).2.1 ≤ t.1) ∧ (toL a0 ++ toL wn).Pairwise apart)) ∨
       ∃ a1 : L Wi, d = .inr (.inl (((), (a1, ((), (tParts t, (n, (i, ())))))), (t, (p, ())))) ∧ toL a1 = toL a0 ++ toL wn ∧
        (∀ j, j < wn.len → f163 (wn.get j) = true ∧ (wn.get j).1 + (wn.get j).2.1 ≤ t.1) ∧ (toL a1).Pairwise apart) ?_ _ ⟨0, a0, rfl, Nat.zero_le _, by simp, rfl, fun k hk => absurd hk (Nat.not_lt_zero _), hp0⟩
  rintro _ ⟨j, a, rfl, hj, ht, hlen, hg, hp⟩
  have e110 : ∀ w, f150 w = f163 w := f150_163
  by_cases h : j < wn.len
  · simp only [s122_L2, q122_L2]
    rw [bif_t (idx_lt h), bif_t (idx_in h), wI_succ h (by omega), Int.toNat_natCast, e110]
    cases g1 : f163 (wn.get j) with
    | false =>
      right
      exact ⟨_, rfl, .inl ⟨rfl, fun q => by have := (q.1 j h).1; rw [this] at g1; cases g1⟩⟩
    | true =>
      have hw := (f163_iff _).mp g1
      rw [bif_f (show (!true) = false from rfl), wI_id (by omega) (by omega)]
      cases g2 : decide ((wn.get j).1 + (wn.get j).2.1 > t.1) with
      | true =>
        right
        refine ⟨_, rfl, .inl ⟨rfl, fun q => ?_⟩⟩
        have := (q.1 j h).2
        have := of_decide_eq_true g2
        omega
      | false =>
        have g2' := of_decide_eq_false g2
        rw [bif_f rfl]
        have hga : ∀ v, v ∈ toL a → f163 v = true := fun v hv => by
          rw [ht, List.mem_append] at hv
          rcases hv with hv | hv
          · exact hg0 v hv
          · obtain ⟨k, hk, rfl⟩ := (toL_mem _ _).mp (List.mem_of_mem_take hv)
            obtain ⟨k', hk', e⟩ := List.mem_iff_getElem.mp hv
            rw [List.getElem_take, toL_getElem] at e
            rw [← e]
            exact (hg k' (by rw [List.length_take] at hk'; omega)).1
        rcases overlaps a (by omega) (wn.get j) g1 hga with ⟨o1, o2⟩ | ⟨o1, o2⟩
        · rw [o1]
          right
          refine ⟨_, rfl, .inl ⟨rfl, fun q => o2 fun v hv => ?_⟩⟩
          have hq := q.2
          rw [← toL_take_len wn] at hq
          have hpre : ∃ r, toL wn = (toL wn).take j ++ wn.get j :: r := by
            have hn : j < (toL wn).length := by rw [toL_len]; exact h
            refine ⟨(toL wn).drop (j + 1), ?_⟩
            rw [← toL_getElem wn j hn, List.getElem_cons_drop, List.take_append_drop]
          rw [toL_take_len] at hq
          obtain ⟨r, hr⟩ := hpre
          rw [hr, ← List.append_assoc, ← ht, List.pairwise_append] at hq
          exact hq.2.2 v hv _ (List.mem_cons_self ..)
        · rw [o1]
          left
          simp only [Option.bind_some, cond_false]
          have hm : decide (a.len + (L.of (Ty.zero (.pair (.int .i64) (.pair (.int .i64) (.pair (.int .i64) .unit)))) [wn.get j]).len ≤ most) = true := by
            have h32 : most = 4294967296 := rfl
            rw [h32]
            have : (L.of (Ty.zero (.pair (.int .i64) (.pair (.int .i64) (.pair (.int .i64) .unit)))) [wn.get j]).len = 1 := rfl
            rw [this]
            exact decide_eq_true (by omega)
          refine ⟨_, bif_t hm, ⟨j + 1, _, rfl, h, ?_, ?_, ?_, ?_⟩, by simp only [Int.toNat_natCast]; omega, fun d hd => hd⟩
          · rw [toL_app, ht, toL_take_succ wn h, List.append_assoc]; rfl
          · show a.len + 1 = _
            omega
          · intro k hk
            by_cases e : k = j
            · rw [e]; exact ⟨g1, by omega⟩
            · exact hg k (by omega)
          · rw [toL_app, List.pairwise_append]
            refine ⟨hp, ?_, ?_⟩
            · show List.Pairwise apart [wn.get j]
              exact List.pairwise_singleton _ _
            · intro v hv w hw'
              have : w = wn.get j := List.mem_singleton.mp hw'
              rw [this]
              exact o2 v hv
  · right
    have : j = wn.len := by omega
    subst this
    simp only [s122_L2, q122_L2]
    rw [bif_f (idx_end wn.len)]
    refine ⟨_, rfl, .inr ⟨a, rfl, ?_, hg, hp⟩⟩
    rw [ht, toL_take_len]

/-- The partitions are right. -/
def Parts (x : L PR) (mem : Int) : Prop :=
  (∀ i, i < x.len → PartG (x.get i) mem ∧ ∀ q, q < i → strEq (x.get q).1 (x.get i).1 = false) ∧ (winsOf x x.len).Pairwise apart

theorem winsOf_good (x : L PR) (mem : Int) {n : Nat} (hn : n ≤ x.len) (h : ∀ i, i < n → PartG (x.get i) mem) : ∀ v, v ∈ winsOf x n → f163 v = true := by
  intro v hv
  unfold winsOf at hv
  rw [List.mem_flatMap] at hv
  obtain ⟨p, hp, hv⟩ := hv
  obtain ⟨k, hk, e⟩ := List.mem_iff_getElem.mp hp
  rw [List.getElem_take, toL_getElem] at e
  subst e
  obtain ⟨j, hj, rfl⟩ := (toL_mem _ _).mp hv
  exact ((h k (by rw [List.length_take] at hk; omega)).2.2.2.1 j hj).1

theorem strEq_self (s : ByteArray) : strEq s s = true := by unfold strEq; simp

/-- The program's look at the partitions. -/
theorem impParts (t : Tb) (hn : (tParts t).len ≤ 6) (hs : ∀ i, i < (tParts t).len → ((tParts t).get i).1.size ≤ 2 ^ 47) (hw : ∀ i, i < (tParts t).len → ((tParts t).get i).2.2.2.1.len ≤ 2 ^ 47) :
    ∃ b, g122 t = some ((b, ()), ()) ∧ (b = true ↔ Parts (tParts t) t.1) := by
  generalize hx : tParts t = x at *
  have hx' : t.2.2.2.2.2.2.2.1 = x := hx
  obtain ⟨d, e1, e2⟩ := fixO_rel (step := s122_L0) (fun a => x.len - a.1.2.2.2.2.1.toNat)
    (fun a => ∃ (i : Nat) (all : L Wi), a = (((), (all, (x, ((x.len : Int), ((i : Int), ()))))), (t, ())) ∧ i ≤ x.len ∧ toL all = winsOf x i ∧ all.len ≤ 4 * i ∧
      (∀ k, k < i → PartG (x.get k) t.1 ∧ ∀ q, q < k → strEq (x.get q).1 (x.get k).1 = false) ∧ (toL all).Pairwise apart)
    (fun _ d => (d = .inl ((false, ()), ()) ∧ ¬ Parts x t.1) ∨ (d = .inr (.inl ((), ())) ∧ Parts x t.1)) (by
      rintro _ ⟨i, all, rfl, hi, ht, hlen, hp, hap⟩
      by_cases h : i < x.len
      · simp only [s122_L0, q122_L0]
        rw [bif_t (idx_lt h), bif_t (idx_in h), Int.toNat_natCast, (nm_of _ (hs i h)).2]
        simp only [Option.bind_some]
        cases g1 : nm (x.get i).1 with
        | false =>
          right
          exact ⟨_, rfl, .inl ⟨rfl, fun q => by have := (q.1 i h).1.1; rw [this] at g1; cases g1⟩⟩
        | true =>
          rw [bif_f (show (!true) = false from rfl)]
          obtain ⟨n, n1, n2⟩ := named t (by rw [hx]; omega) (x.get i).1
          rw [hx] at n2
          rw [n1]
          simp only [Option.bind_some]
          cases g2 : decide (n < (i : Int)) with
          | true =>
            right
            refine ⟨_, rfl, .inl ⟨rfl, fun q => ?_⟩⟩
            have g2 := of_decide_eq_true g2
            rcases n2 with ⟨k, k1, k2, k3, _⟩ | ⟨_, k2⟩
            · have := (q.1 i h).2 k (by omega)
              rw [k3] at this; cases this
            · have := k2 i h
              rw [strEq_self] at this; cases this
          | false =>
            have g2 := of_decide_eq_false g2
            have hd : ∀ q, q < i → strEq (x.get q).1 (x.get i).1 = false := by
              rcases n2 with ⟨k, k1, _, _, k4⟩ | ⟨k1, _⟩
              · intro q hq; exact k4 q (by omega)
              · omega
            have e109 : f149 (x.get i).2.2.1 = f162 (x.get i).2.2.1 := policies _
            rw [bif_f rfl, e109, f61_60]
            cases g3 : f162 (x.get i).2.2.1 with
            | false =>
              right
              exact ⟨_, rfl, .inl ⟨rfl, fun q => by have := (q.1 i h).1.2.1; rw [this] at g3; cases g3⟩⟩
            | true =>
              rw [bif_f (show (!true) = false from rfl)]
              cases g4 : f60 ((x.get i).2.2.2.1.len : Int) 1 4 with
              | false =>
                right
                refine ⟨_, rfl, .inl ⟨rfl, fun q => ?_⟩⟩
                have := (q.1 i h).1.2.2.1
                rw [(f60_iff _ _ _).mpr (by omega)] at g4; cases g4
              | true =>
                have g4 : 1 ≤ (x.get i).2.2.2.1.len ∧ (x.get i).2.2.2.1.len ≤ 4 := by
                  have := (f60_iff _ _ _).mp g4
                  omega
                rw [bif_f (show (!true) = false from rfl)]
                obtain ⟨d, i1, i2⟩ := inner t (x.get i) (x.len : Int) (i : Int) all g4.2 (by omega) (fun v hv => winsOf_good x t.1 (n := i) (by omega) (fun k hk => (hp k hk).1) v (by rw [← ht]; exact hv)) hap
                rw [hx] at i1
                rw [i1]
                simp only [Option.bind_some]
                have hsucc := winsOf_succ x h
                rcases i2 with ⟨rfl, i2⟩ | ⟨a1, rfl, i2, i3, i4⟩
                · right
                  refine ⟨_, rfl, .inl ⟨rfl, fun q => i2 ⟨(q.1 i h).1.2.2.2.1, ?_⟩⟩⟩
                  obtain ⟨r, hr⟩ := winsOf_prefix x (i := i + 1) (n := x.len) (by omega) (Nat.le_refl _)
                  have := q.2
                  rw [hr, List.pairwise_append] at this
                  rw [ht, ← hsucc]
                  exact this.1
                · simp only [hx]
                  cases g5 : (Int.tmod (x.get i).2.1 4 != 0) with
                  | true =>
                    right
                    refine ⟨_, rfl, .inl ⟨rfl, fun q => ?_⟩⟩
                    have := (q.1 i h).1.2.2.2.2.2
                    rw [this] at g5; cases g5
                  | false =>
                    have g5 : Int.tmod (x.get i).2.1 4 = 0 := by simpa using g5
                    have hpw : (toL (x.get i).2.2.2.1).Pairwise apart := by
                      rw [i2, List.pairwise_append] at i4
                      exact i4.2.1
                    obtain ⟨b, r1, r2⟩ := runs (x.get i) (hw i h) (x.get i).2.1 (fun j hj => (i3 j hj).1) hpw
                    rw [bif_f rfl, r1]
                    simp only [Option.bind_some]
                    cases b with
                    | false =>
                      right
                      refine ⟨_, rfl, .inl ⟨rfl, fun q => ?_⟩⟩
                      have := r2.mpr (q.1 i h).1.2.2.2.2.1
                      cases this
                    | true =>
                      left
                      rw [bif_f (show (!true) = false from rfl), wI_succ h (by omega)]
                      refine ⟨_, rfl, ⟨i + 1, a1, rfl, h, ?_, ?_, ?_, i4⟩, by simp only [Int.toNat_natCast]; omega, fun d hd => hd⟩
                      · rw [hsucc, i2, ht]
                      · have l1 : (toL a1).length = a1.len := toL_len _
                        rw [i2, List.length_append, toL_len, toL_len] at l1
                        omega
                      · intro k hk
                        by_cases e : k = i
                        · subst e
                          exact ⟨⟨g1, g3, g4, i3, r2.mp rfl, g5⟩, hd⟩
                        · exact hp k (by omega)
      · right
        have : i = x.len := by omega
        subst this
        simp only [s122_L0, q122_L0]
        rw [bif_f (idx_end x.len)]
        refine ⟨_, rfl, .inr ⟨rfl, hp, ?_⟩⟩
        rw [← ht]; exact hap)
    (((), ((nilL (.pair (.int .i64) (.pair (.int .i64) (.pair (.int .i64) .unit)))), (x, ((x.len : Int), ((0 : Int), ()))))), (t, ()))
    ⟨0, _, rfl, Nat.zero_le _, toL_nil, Nat.zero_le _, fun k hk => absurd hk (Nat.not_lt_zero _), by rw [toL_nil]; exact List.Pairwise.nil⟩
  unfold g122
  rw [hx', e1]
  simp only [Option.bind_some]
  rcases e2 with ⟨rfl, h⟩ | ⟨rfl, h⟩
  · exact ⟨false, rfl, by simpa using h⟩
  · exact ⟨true, rfl, by simpa using h⟩

/-- Names apart, as the reference asks it. -/
theorem namesApart (t : Tb) (i : Nat) (h : i < (tParts t).len) (hn : (tParts t).len ≤ 6) :
    (fixO s102_L2 (((), ((i : Int), ((0 : Int), ()))), (t, ())) = some (.inl ((false, ()), ())) ∧ ¬ ∀ q, q < i → strEq ((tParts t).get q).1 ((tParts t).get i).1 = false) ∨
    (fixO s102_L2 (((), ((i : Int), ((0 : Int), ()))), (t, ())) = some (.inr (.inl (((), ((i : Int), ())), (t, ())))) ∧ ∀ q, q < i → strEq ((tParts t).get q).1 ((tParts t).get i).1 = false) := by
  have h1 := scan (step := s102_L2) (fun k => (((), ((i : Int), ((k : Int), ()))), (t, ()))) i (fun k => !strEq ((tParts t).get k).1 ((tParts t).get i).1) (fun _ => .inl ((false, ()), ())) (.inr (.inl (((), ((i : Int), ())), (t, ()))))
    (fun k hk ho => by
      have ho' : strEq ((tParts t).get ((k : Int)).toNat).1 ((tParts t).get ((i : Int)).toNat).1 = false := by rw [Int.toNat_natCast, Int.toNat_natCast]; simpa using ho
      simp only [s102_L2, q102_L2]
      refine (bif_t (idx_lt hk)).trans ((bif_t (idx_in (n := (tParts t).len) (by omega))).trans ((bif_t (idx_in h)).trans ((bif_f ho').trans ?_)))
      rw [wI_succ hk (by omega)])
    (fun k hk ho => by
      have ho' : strEq ((tParts t).get ((k : Int)).toNat).1 ((tParts t).get ((i : Int)).toNat).1 = true := by rw [Int.toNat_natCast, Int.toNat_natCast]; simpa using ho
      simp only [s102_L2, q102_L2]
      exact (bif_t (idx_lt hk)).trans ((bif_t (idx_in (n := (tParts t).len) (by omega))).trans ((bif_t (idx_in h)).trans (bif_t ho'))))
    (by
      simp only [s102_L2, q102_L2]
      exact bif_f (idx_end i))
  rcases h1 with ⟨k, hk, ho, _, e1⟩ | ⟨ha, e1⟩
  · exact .inl ⟨e1, fun q => by have := q k hk; rw [this] at ho; cases ho⟩
  · exact .inr ⟨e1, fun q hq => by simpa using ha q hq⟩

/-- The reference's look at the partitions. -/
theorem refParts (t : Tb) (hn : (tParts t).len ≤ 6) (hs : ∀ i, i < (tParts t).len → ((tParts t).get i).1.size ≤ 2 ^ 47) (h1 : 1 ≤ (tParts t).len) :
    ∃ b, g102 t = some ((b, ()), ()) ∧ (b = true ↔ Parts (tParts t) t.1) := by
  have hok : ∀ i, i < (tParts t).len → (open Classical in decide (PartG ((tParts t).get i) t.1 ∧ ∀ q, q < i → strEq ((tParts t).get q).1 ((tParts t).get i).1 = false)) = true → PartG ((tParts t).get i) t.1 ∧ ∀ q, q < i → strEq ((tParts t).get q).1 ((tParts t).get i).1 = false :=
    fun i hi h => by simpa using h
  have l0 := scan (step := s102_L0) (fun i => (((), ((i : Int), ())), (t, ()))) (tParts t).len (fun i => open Classical in decide (PartG ((tParts t).get i) t.1 ∧ ∀ q, q < i → strEq ((tParts t).get q).1 ((tParts t).get i).1 = false)) (fun _ => .inl ((false, ()), ())) (.inr (.inl (((), ()), (t, ()))))
    (fun i hi ho => by
      obtain ⟨o1, o2⟩ := hok i hi ho
      obtain ⟨b, p1, p2⟩ := partok ((tParts t).get i) t.1 (hs i hi)
      have hb : b = true := p2.mpr o1
      subst hb
      simp only [s102_L0, q102_L0]
      refine (bif_t (idx_lt hi)).trans ((bif_t (idx_in hi)).trans ?_)
      rw [Int.toNat_natCast]
      have p1' : g139 (L.get t.2.2.2.2.2.2.2.1 i) t.1 = some ((true, ()), ()) := p1
      rw [p1']
      simp only [Option.bind_some]
      rw [bif_f (show (!true) = false from rfl)]
      rcases namesApart t i hi hn with ⟨_, n2⟩ | ⟨n1, _⟩
      · exact absurd o2 n2
      · rw [n1]
        simp only [Option.bind_some]
        rw [wI_succ hi (by omega)])
    (fun i hi ho => by
      have ho : ¬ (PartG ((tParts t).get i) t.1 ∧ ∀ q, q < i → strEq ((tParts t).get q).1 ((tParts t).get i).1 = false) := by simpa using ho
      obtain ⟨b, p1, p2⟩ := partok ((tParts t).get i) t.1 (hs i hi)
      simp only [s102_L0, q102_L0]
      refine (bif_t (idx_lt hi)).trans ((bif_t (idx_in hi)).trans ?_)
      rw [Int.toNat_natCast]
      have p1' : g139 (L.get t.2.2.2.2.2.2.2.1 i) t.1 = some ((b, ()), ()) := p1
      rw [p1']
      simp only [Option.bind_some]
      cases b with
      | false => rfl
      | true =>
        rw [bif_f (show (!true) = false from rfl)]
        rcases namesApart t i hi hn with ⟨n1, _⟩ | ⟨_, n2⟩
        · rw [n1]; rfl
        · exact absurd ⟨p2.mp rfl, n2⟩ ho)
    (by
      simp only [s102_L0, q102_L0]
      exact bif_f (idx_end (tParts t).len))
  unfold g102
  have hl : f60 (t.2.2.2.2.2.2.2.1.len : Int) 1 6 = true := (f60_iff _ _ _).mpr (by unfold tParts at hn h1; omega)
  rw [hl, bif_f (show (!true) = false from rfl)]
  rcases l0 with ⟨i, hi, ho, _, e1⟩ | ⟨ha, e1⟩
  · have ho : ¬ (PartG ((tParts t).get i) t.1 ∧ ∀ q, q < i → strEq ((tParts t).get q).1 ((tParts t).get i).1 = false) := by simpa using ho
    have e1' : fixO s102_L0 (((), ((0 : Int), ())), (t, ())) = some (.inl ((false, ()), ())) := e1
    rw [e1']
    exact ⟨false, rfl, by simp only [Bool.false_eq_true, false_iff]; exact fun q => ho (q.1 i hi)⟩
  · have ha : ∀ i, i < (tParts t).len → PartG ((tParts t).get i) t.1 ∧ ∀ q, q < i → strEq ((tParts t).get q).1 ((tParts t).get i).1 = false := fun i hi => hok i hi (ha i hi)
    have e1' : fixO s102_L0 (((), ((0 : Int), ())), (t, ())) = some (.inr (.inl (((), ()), (t, ())))) := e1
    rw [e1']
    simp only [Option.bind_some]
    obtain ⟨all, a1, a2, a3⟩ := allWins (tParts t) hn (fun i hi => (ha i hi).1.2.2.1.2)
    have a1' : g140 t.2.2.2.2.2.2.2.1 = some ((all, ()), ()) := a1
    rw [a1']
    simp only [Option.bind_some]
    have hgood := winsOf_good (tParts t) t.1 (Nat.le_refl _) (fun i hi => (ha i hi).1)
    have hov : ∀ i k, i < all.len → k < i → (ovl all k i = false ↔ apart (all.get k) (all.get i)) := fun i k hi hk => by
      have g1 := (f163_iff _).mp (hgood (all.get i) (by rw [← a2]; exact (toL_mem _ _).mpr ⟨i, hi, rfl⟩))
      have g2 := (f163_iff _).mp (hgood (all.get k) (by rw [← a2]; exact (toL_mem _ _).mpr ⟨k, by omega, rfl⟩))
      unfold ovl apart
      rw [wI_id (by omega) (by omega), wI_id (by omega) (by omega)]
      simp only [Bool.and_eq_false_iff, decide_eq_false_iff_not]
      omega
    have hpw : (winsOf (tParts t) (tParts t).len).Pairwise apart ↔ ∀ i k, i < all.len → k < i → ovl all k i = false := by
      rw [← a2, List.pairwise_iff_getElem]
      constructor
      · intro q i k hi hk
        have := q k i (by rw [toL_len]; omega) (by rw [toL_len]; exact hi) hk
        rw [toL_getElem, toL_getElem] at this
        exact (hov i k hi hk).mpr this
      · intro q k i hk hi hki
        rw [toL_getElem, toL_getElem]
        rw [toL_len] at hi
        exact (hov i k hi hki).mp (q i k hi hki)
    rcases ovlAll all a3 with ⟨⟨i, k, hi, hk, ho⟩, o2⟩ | ⟨o1, o2⟩
    · rw [o2]
      refine ⟨false, rfl, ?_⟩
      simp only [Bool.false_eq_true, false_iff]
      rintro ⟨_, q⟩
      have := hpw.mp q i k hi hk
      rw [this] at ho; cases ho
    · rw [o2]
      exact ⟨true, rfl, fun _ => ⟨ha, hpw.mpr o1⟩, fun _ => rfl⟩

/-- What is known of sound tables. -/
def Facts (t : Tb) : Prop :=
  f138 t.2.2.2.1 = true ∧ (1 ≤ t.2.2.2.2.1 ∧ t.2.2.2.2.1 ≤ 5000) ∧ (1 ≤ t.2.2.2.2.2.1 ∧ t.2.2.2.2.2.1 ≤ 5000) ∧ (1 ≤ t.2.2.2.2.2.2.1 ∧ t.2.2.2.2.2.2.1 ≤ 5000) ∧ f105 t.2.1 = true ∧ (64 ≤ t.1 ∧ t.1 ≤ 2048) ∧
  (1 ≤ (tParts t).len ∧ (tParts t).len ≤ 6) ∧ Parts (tParts t) t.1 ∧ Tail t

/-- The program's look and the reference's come to the same. -/
theorem sound (t : Tb) (hn : (tParts t).len ≤ 2 ^ 47) (hl : (tSlots t).len ≤ 2 ^ 47) (hs : ∀ i, i < (tParts t).len → ((tParts t).get i).1.size ≤ 2 ^ 47) (hw : ∀ i, i < (tParts t).len → ((tParts t).get i).2.2.2.1.len ≤ 2 ^ 47) :
    ∃ b : Bool, g53 t = some ((b, ()), ()) ∧ g89 t = some ((b, ()), ()) ∧ (b = true → Facts t) := by
  unfold g53
  rcases head t with ⟨h1, h2⟩ | ⟨hc, p1, p2, p3, hsh, hm, h1, h2⟩
  · rw [h1, h2]; exact ⟨false, rfl, rfl, by simp⟩
  · rw [h1, h2]
    simp only [Option.bind_some, cond_true]
    unfold rest71
    rw [f61_60]
    cases g1 : f60 ((tParts t).len : Int) 1 6 with
    | false =>
      have : g102 t = some ((false, ()), ()) := by
        unfold g102
        have g1' : f60 (t.2.2.2.2.2.2.2.1.len : Int) 1 6 = false := g1
        rw [g1']; rfl
      rw [this]
      exact ⟨false, rfl, rfl, by simp⟩
    | true =>
      have g1 := (f60_iff _ _ _).mp g1
      obtain ⟨b1, r1, r2⟩ := refParts t (by omega) hs (by omega)
      obtain ⟨b2, i1, i2⟩ := impParts t (by omega) hs hw
      have : b1 = b2 := by
        rw [Bool.eq_iff_iff, r2, i2]
      subst this
      rw [r1, i1]
      simp only [Option.bind_some]
      cases b1 with
      | false => exact ⟨false, rfl, rfl, by simp⟩
      | true =>
        obtain ⟨b, t1, t2, t3⟩ := tail t hl hc hsh p1 p2 p3
        exact ⟨b, t1, t2, fun h => ⟨hc, p1, p2, p3, hsh, (f60_iff _ _ _).mp hm, by omega, r2.mp rfl, t3 h⟩⟩

/-- A draw's cursor. -/
abbrev Cur : Type := L Int × (Int × (Int × Unit))
def Cw (c : Cur) : Prop := (c.1.len : Int) ≤ 2 ^ 47 ∧ 0 ≤ c.2.1 ∧ c.2.1 ≤ c.1.len

theorem and255 (a : Int) : 0 ≤ andOf .i64 a 255 ∧ andOf .i64 a 255 ≤ 255 := by
  unfold andOf
  generalize hx : BitVec.ofInt (IntKind.i64).bits a = x
  have h : (x &&& BitVec.ofInt (IntKind.i64).bits 255).toNat ≤ 255 := by
    rw [BitVec.toNat_and]
    exact Nat.and_le_right
  generalize (x &&& BitVec.ofInt (IntKind.i64).bits 255).toNat = n at h
  have : IntKind.i64.wrap (n : Int) = n := wI_id (by omega) (by omega)
  rw [this]; omega

theorem byte (c : Cur) (h : Cw c) : ∃ (x : Int) (c' : Cur), g112 c = some ((x, ()), (c', ())) ∧ 0 ≤ x ∧ x ≤ 255 ∧ Cw c' := by
  obtain ⟨h1, h2, h3⟩ := h
  unfold g112
  by_cases hi : c.2.1 < (c.1.len : Int)
  · rw [bif_t (by simpa using hi), bif_t (by simp; omega)]
    refine ⟨_, _, rfl, (and255 _).1, (and255 _).2, h1, ?_, ?_⟩
    · show 0 ≤ wI (c.2.1 + 1)
      rw [wI_id (by omega) (by omega)]; omega
    · show wI (c.2.1 + 1) ≤ c.1.len
      rw [wI_id (by omega) (by omega)]; omega
  · rw [bif_f (by simpa using hi)]
    exact ⟨_, _, rfl, (and255 _).1, (and255 _).2, h1, h2, h3⟩

theorem below (c : Cur) (h : Cw c) (n : Int) (h1 : 1 ≤ n) (h2 : n ≤ 256) : ∃ (x : Int) (c' : Cur), g84 c n = some ((x, ()), (c', ())) ∧ 0 ≤ x ∧ x < n ∧ Cw c' := by
  obtain ⟨x, c', e, x0, x1, hc⟩ := byte c h
  unfold g84
  rw [bif_f (by simp; omega), bif_t (by simpa using h2), e]
  simp only [Option.bind_some]
  rw [bif_t (by simp; omega)]
  exact ⟨_, _, rfl, Int.tmod_nonneg _ x0, Int.tmod_lt_of_pos _ (by omega), hc⟩

theorem pick (c : Cur) (h : Cw c) (l : L Int) (h1 : 1 ≤ l.len) (h2 : l.len ≤ 256) : ∃ (i : Nat) (c' : Cur), g87 c l = some ((l.get i, ()), (c', ())) ∧ i < l.len ∧ Cw c' := by
  obtain ⟨x, c', e, x0, x1, hc⟩ := below c h l.len (by omega) (by omega)
  unfold g87
  rw [e]
  simp only [Option.bind_some]
  rw [bif_t (by simp; omega)]
  exact ⟨x.toNat, _, rfl, by omega, hc⟩

/-- What is picked is one of the list's. -/
theorem pickIn (c : Cur) (h : Cw c) (z : Int) (l : List Int) (h1 : 1 ≤ l.length) (h2 : l.length ≤ 256) : ∃ (x : Int) (c' : Cur), g87 c (L.of z l) = some ((x, ()), (c', ())) ∧ x ∈ l ∧ Cw c' := by
  obtain ⟨i, c', e, hi, hc⟩ := pick c h (L.of z l) h1 h2
  refine ⟨_, c', e, ?_, hc⟩
  show l.getD i z ∈ l
  have hi : i < l.length := hi
  rw [List.getD_eq_getElem?_getD, List.getElem?_eq_getElem hi]
  simp

theorem once (c : Cur) (h : Cw c) (n : Int) (h1 : 1 ≤ n) (h2 : n ≤ 256) : ∃ (b : Bool) (c' : Cur), g86 c n = some ((b, ()), (c', ())) ∧ Cw c' := by
  obtain ⟨x, c', e, _, _, hc⟩ := below c h n h1 h2
  unfold g86
  rw [e]
  exact ⟨_, _, rfl, hc⟩

theorem newCur (code : L Int) (h : code.len ≤ 2 ^ 46) : ∃ c : Cur, g82 code = some ((c, ()), ()) ∧ Cw c := by
  obtain ⟨d, e1, hh, e2⟩ := fixO_rel (step := s82_L0) (fun a => code.len - a.1.2.2.1.toNat)
    (fun a => ∃ (i : Nat) (k : Int), a = ((code, (k, ((i : Int), ()))), ()) ∧ i ≤ code.len) (fun _ d => ∃ k : Int, d = .inl ((code, (k, ())), ()))
    (by
      rintro _ ⟨i, k, rfl, hi⟩
      show (∃ y, q82_L0 code k i = _ ∧ _) ∨ ∃ d, q82_L0 code k i = _ ∧ _
      unfold q82_L0
      by_cases h1 : i < code.len
      · rw [bif_t (idx_lt h1)]
        by_cases h2 : (i : Int) < 4000
        · rw [bif_t (by simpa using h2), bif_t (idx_in h1), wI_succ h1 (by omega)]
          exact .inl ⟨_, rfl, ⟨i + 1, _, rfl, h1⟩, by simp; omega, fun d hd => hd⟩
        · rw [bif_f (by simpa using h2)]
          exact .inr ⟨_, rfl, k, rfl⟩
      · rw [bif_f (by simp; omega)]
        exact .inr ⟨_, rfl, k, rfl⟩) ((code, ((wI ((76076 : Int) + (code.len : Int))), ((0 : Int), ()))), ()) ⟨0, _, rfl, Nat.zero_le _⟩
  subst e2
  unfold g82
  rw [e1]
  exact ⟨_, rfl, by show (code.len : Int) ≤ _; omega, Int.le_refl 0, by show (0 : Int) ≤ _; omega⟩

theorem policyD (c : Cur) (h : Cw c) : ∃ (p : Int × (Int × Unit)) (c' : Cur), g113 c = some ((p, ()), (c', ())) ∧ f162 p = true ∧ Cw c' := by
  obtain ⟨x, c1, e, x0, x1, hc⟩ := below c h 3 (by omega) (by omega)
  unfold g113
  rw [e]
  simp only [Option.bind_some]
  by_cases hx : x = 1
  · subst hx
    rw [bif_t (by decide)]
    obtain ⟨y, c2, e2, hy, hc2⟩ := pickIn c1 hc (Ty.zero (.int .i64)) [0, 1, 2, 3, 100] (by decide) (by decide)
    rw [e2]
    refine ⟨(1, (y, ())), c2, rfl, ?_, hc2⟩
    simp only [List.mem_cons, List.not_mem_nil, or_false] at hy
    rcases hy with rfl | rfl | rfl | rfl | rfl <;> decide
  · rw [bif_f (by simpa using hx)]
    refine ⟨(x, (0, ())), c1, rfl, ?_, hc⟩
    have : x = 0 ∨ x = 2 := by omega
    rcases this with rfl | rfl <;> decide

theorem chanD (c : Cur) (h : Cw c) (n : Int) (h1 : 2 ≤ n) (h2 : n ≤ 4) : ∃ (r : Ch) (c' : Cur), g114 c n = some ((r, ()), (c', ())) ∧ (f141 r = true ∧ r.2.1 < n ∧ r.2.2.1 < n) ∧ Cw c' := by
  obtain ⟨k, c1, e1, k0, k1, hc1⟩ := below c h 2 (by omega) (by omega)
  obtain ⟨a, c2, e2, a0, a1, hc2⟩ := below c1 hc1 n (by omega) (by omega)
  have e3' : wI (n - 1) = n - 1 := wI_id (by omega) (by omega)
  obtain ⟨b, c3, e3, b0, b1, hc3⟩ := below c2 hc2 (n - 1) (by omega) (by omega)
  have hw : wI (wI (a + 1) + b) = a + 1 + b := by rw [wI_id (n := a + 1) (by omega) (by omega), wI_id (by omega) (by omega)]
  have ht : 0 ≤ Int.tmod (a + 1 + b) n ∧ Int.tmod (a + 1 + b) n < n ∧ Int.tmod (a + 1 + b) n ≠ a := by
    rw [Int.tmod_eq_emod_of_nonneg (by omega)]
    refine ⟨Int.emod_nonneg _ (by omega), Int.emod_lt_of_pos _ (by omega), ?_⟩
    intro he
    have : a + 1 + b = n * ((a + 1 + b) / n) + a := by have := Int.mul_ediv_add_emod (a + 1 + b) n; omega
    have h3 : (b + 1) = n * ((a + 1 + b) / n) := by omega
    have h4 : (b + 1) % n = 0 := by rw [h3]; exact Int.mul_emod_right _ _
    rw [Int.emod_eq_of_lt (by omega) (by omega)] at h4
    omega
  have f60i : ∀ x y z : Int, y ≤ x → x ≤ z → f60 x y z = true := fun x y z p q => by
    unfold f60; rw [bif_t (by simpa using p)]; simpa using q
  have hbad : ∀ d : Int, ((k = 0 ∧ d = 0) ∨ (k = 1 ∧ 1 ≤ d ∧ d ≤ 8)) → f141 (k, (a, (Int.tmod (a + 1 + b) n, (d, ())))) = true := by
    intro d hd
    unfold f141
    rw [bif_f (by rw [f60i _ _ _ (by simpa using a0) (by show a ≤ 5; omega)]; rfl), bif_f (by rw [f60i _ _ _ (by simpa using ht.1) (by show _ ≤ (5 : Int); simp only; omega)]; rfl), bif_f (by simp only [beq_eq_false_iff_ne, ne_eq]; exact fun q => ht.2.2 q.symm)]
    rcases hd with ⟨rfl, rfl⟩ | ⟨rfl, d1, d2⟩
    · rfl
    · exact (bif_f (show ((1 : Int) == 0) = false from rfl)).trans ((bif_t (show ((1 : Int) == 1) = true from rfl)).trans (f60i _ _ _ d1 d2))
  unfold g114
  rw [e1]; simp only [Option.bind_some]
  rw [e2]; simp only [Option.bind_some]
  rw [e3', e3]; simp only [Option.bind_some]
  rw [bif_t (by simp; omega), hw]
  by_cases hk : k = 1
  · subst hk
    rw [bif_t (by decide)]
    obtain ⟨d, c4, e4, d0, d1, hc4⟩ := below c3 hc3 4 (by omega) (by omega)
    obtain ⟨o, c5, e5, hc5⟩ := once c4 hc4 6 (by omega) (by omega)
    rw [e4]; simp only [Option.bind_some]
    rw [e5]; simp only [Option.bind_some]
    cases o with
    | true => exact ⟨_, _, rfl, ⟨hbad 8 (.inr ⟨rfl, by omega, by omega⟩), a1, ht.2.1⟩, hc5⟩
    | false =>
      refine ⟨_, _, rfl, ⟨hbad _ (.inr ⟨rfl, ?_, ?_⟩), a1, ht.2.1⟩, hc5⟩
      · rw [wI_id (by omega) (by omega)]; omega
      · rw [wI_id (by omega) (by omega)]; omega
  · rw [bif_f (by simpa using hk)]
    exact ⟨_, _, rfl, ⟨hbad 0 (.inl ⟨by omega, rfl⟩), a1, ht.2.1⟩, hc3⟩

/-- The names of drawn partitions. -/
def NM : L ByteArray := L.of (Ty.zero .str) [(⟨#[97, 108, 112, 104, 97]⟩ : ByteArray), (⟨#[98, 101, 116, 97]⟩ : ByteArray), (⟨#[103, 97, 109, 109, 97]⟩ : ByteArray), (⟨#[100, 101, 108, 116, 97]⟩ : ByteArray), (⟨#[101, 112, 115]⟩ : ByteArray), (⟨#[122, 101, 116, 97]⟩ : ByteArray)]

theorem nmOk (s : ByteArray) (h1 : 1 ≤ s.size) (h2 : s.size ≤ 8) (h : ∀ k : Nat, k < s.size → 97 ≤ bt s k ∧ bt s k ≤ 122) : nm s = true := by
  obtain ⟨b, e1, e2⟩ := end191 s h2
  have : b = true := e2.mpr ⟨fun j j0 j1 => by have := h j.toNat (by omega); rwa [Int.toNat_of_nonneg j0] at this, h1⟩
  subst this
  unfold nm
  have : g161 s = some ((true, ()), ()) := by
    unfold g161
    rw [bif_t (by simp; omega), e1]; rfl
  simp [this]

theorem nmNM (k : Nat) (h : k < 4) : nm (NM.get k) = true := by
  have : k = 0 ∨ k = 1 ∨ k = 2 ∨ k = 3 := by omega
  rcases this with rfl | rfl | rfl | rfl
  · exact nmOk _ (by decide) (by decide) (by decide +kernel)
  · exact nmOk _ (by decide) (by decide) (by decide +kernel)
  · exact nmOk _ (by decide) (by decide) (by decide +kernel)
  · exact nmOk _ (by decide) (by decide) (by decide +kernel)

theorem nmApart (k m : Nat) (h : k < m) (hm : m < 4) : strEq (NM.get k) (NM.get m) = false := by
  have : (k = 0 ∧ m = 1) ∨ (k = 0 ∧ m = 2) ∨ (k = 0 ∧ m = 3) ∨ (k = 1 ∧ m = 2) ∨ (k = 1 ∧ m = 3) ∨ (k = 2 ∧ m = 3) := by omega
  rcases this with ⟨rfl, rfl⟩ | ⟨rfl, rfl⟩ | ⟨rfl, rfl⟩ | ⟨rfl, rfl⟩ | ⟨rfl, rfl⟩ | ⟨rfl, rfl⟩ <;> decide +kernel

/-- A drawn partition: the k-th. -/
structure PartD (p : PR) (k : Nat) : Prop where
  name : p.1 = NM.get k
  pol : f162 p.2.2.1 = true
  len : p.2.2.2.1.len = 2
  w0 : (p.2.2.2.1.get 0).2.1 = 128 ∧ (p.2.2.2.1.get 0).2.2.1 = 5 ∧ 0 ≤ (p.2.2.2.1.get 0).1 ∧ (p.2.2.2.1.get 0).1 % 4 = 0
  w1 : (p.2.2.2.1.get 0).1 + 128 ≤ (p.2.2.2.1.get 1).1 ∧ (p.2.2.2.1.get 1).1 % 4 = 0 ∧ 32 ≤ (p.2.2.2.1.get 1).2.1 ∧ (p.2.2.2.1.get 1).2.1 ≤ 44 ∧ (p.2.2.2.1.get 1).2.1 % 4 = 0 ∧ (p.2.2.2.1.get 1).2.2.1 = 3
  ent : (p.2.2.2.1.get 0).1 ≤ p.2.1 ∧ p.2.1 ≤ (p.2.2.2.1.get 0).1 + 4 ∧ p.2.1 % 4 = 0

structure PartsD (x : L PR) (n : Nat) (at_ : Int) : Prop where
  len : x.len = n
  part : ∀ k, k < n → PartD (x.get k) k ∧ ((x.get k).2.2.2.1.get 1).1 + ((x.get k).2.2.2.1.get 1).2.1 ≤ at_
  ord : ∀ k m, k < m → m < n → ((x.get k).2.2.2.1.get 1).1 + ((x.get k).2.2.2.1.get 1).2.1 ≤ ((x.get m).2.2.2.1.get 0).1
  pos : 0 ≤ at_ ∧ at_ % 4 = 0 ∧ at_ ≤ 12 + 184 * n

theorem app_lo {α : Type} (x y : L α) {i : Nat} (h : i < x.len) : (L.app x y).get i = x.get i := by
  show (bif Nat.blt i x.len then _ else _) = _
  rw [show Nat.blt i x.len = true by simpa using h]; rfl
theorem app_hi {α : Type} (x : L α) (z v : α) : (L.app x (L.of z [v])).get x.len = v := by
  show (bif Nat.blt x.len x.len then _ else _) = _
  rw [show Nat.blt x.len x.len = false by rw [Bool.eq_false_iff]; simp]
  show [v].getD (x.len - x.len) z = v
  rw [Nat.sub_self]; rfl

theorem PartsD.add {x : L PR} {n : Nat} {a a' : Int} (h : PartsD x n a) {z p : PR} (hp : PartD p n) (h0 : a = (p.2.2.2.1.get 0).1) (h1 : (p.2.2.2.1.get 1).1 + (p.2.2.2.1.get 1).2.1 ≤ a') (h2 : a' % 4 = 0) (h3 : a' ≤ a + 184) : PartsD (L.app x (L.of z [p])) (n + 1) a' := by
  have hlen := h.len
  have hi : (L.app x (L.of z [p])).get n = p := by rw [← hlen]; exact app_hi x z p
  have lo : ∀ k, k < n → (L.app x (L.of z [p])).get k = x.get k := fun k hk => app_lo _ _ (by omega)
  have hw0 := hp.w0
  have hw1 := hp.w1
  refine ⟨by show x.len + 1 = n + 1; omega, fun k hk => ?_, fun k m hkm hm => ?_, ?_⟩
  · by_cases e : k = n
    · subst e; rw [hi]; exact ⟨hp, h1⟩
    · rw [lo k (by omega)]
      have := h.part k (by omega)
      exact ⟨this.1, by omega⟩
  · by_cases e : m = n
    · subst e
      rw [hi, lo k hkm]
      have := (h.part k hkm).2
      omega
    · rw [lo k (by omega), lo m (by omega)]
      exact h.ord k m hkm (by omega)
  · have := h.pos
    refine ⟨by omega, h2, ?_⟩
    have : ((n + 1 : Nat) : Int) = n + 1 := by simp
    rw [this]; omega

/-- A drawn table's fields, flat. -/
abbrev Fl : Type := Int × (Int × (Int × (Int × (Int × (Int × (Int × (Int × (Int × (Int × (Int × (Int × (Int × (Int × (Int × (L PR × (L Int × (L Ch × (L Sl × Unit))))))))))))))))))
section
variable (z : Fl) (m s1 s2 s3 tl c1 c2 c3 c4 c5 c6 c7 pd gd mj : Int) (dv : L Int) (ch : L Ch) (sl : L Sl)

theorem partsLoop (n : Nat) (h1 : 2 ≤ n) (h2 : n ≤ 4) (c : Cur) (hc : Cw c) (a0 : Int) (ha : 0 ≤ a0 ∧ a0 ≤ 12 ∧ a0 % 4 = 0) (x0 : L PR) (hx0 : x0.len = 0) : ∃ (a : Int) (x : L PR) (c' : Cur),
    fixO s88_L0 (((), ((n : Int), ((), ((), (a0, ((0 : Int), ())))))), (c, (z, ((m, (s1, (s2, (s3, (tl, (c1, (c2, (c3, (c4, (c5, (c6, (c7, (pd, (gd, (mj, (x0, (dv, (ch, (sl, ()))))))))))))))))))), ())))) = some (.inl (((), ((n : Int), ((), ((), (a, ()))))), (c', (z, ((m, (s1, (s2, (s3, (tl, (c1, (c2, (c3, (c4, (c5, (c6, (c7, (pd, (gd, (mj, (x, (dv, (ch, (sl, ()))))))))))))))))))), ()))))) ∧ Cw c' ∧ PartsD x n a := by
  obtain ⟨d, e1, a, x, c', rfl, e2, e3⟩ := fixO_rel (step := s88_L0) (fun q => n - q.1.2.2.2.2.2.1.toNat)
    (fun q => ∃ (i : Nat) (a : Int) (x : L PR) (c : Cur), q = (((), ((n : Int), ((), ((), (a, ((i : Int), ())))))), (c, (z, ((m, (s1, (s2, (s3, (tl, (c1, (c2, (c3, (c4, (c5, (c6, (c7, (pd, (gd, (mj, (x, (dv, (ch, (sl, ()))))))))))))))))))), ())))) ∧ i ≤ n ∧ Cw c ∧ PartsD x i a)
    (fun _ d => ∃ (a : Int) (x : L PR) (c' : Cur), d = .inl (((), ((n : Int), ((), ((), (a, ()))))), (c', (z, ((m, (s1, (s2, (s3, (tl, (c1, (c2, (c3, (c4, (c5, (c6, (c7, (pd, (gd, (mj, (x, (dv, (ch, (sl, ()))))))))))))))))))), ())))) ∧ Cw c' ∧ PartsD x n a)
    (by
      rintro _ ⟨i, a, x, c, rfl, hi, hc, hp⟩
      simp only [s88_L0]
      unfold q88_L0
      by_cases hlt : i < n
      · rw [bif_t (by simpa using hlt), bif_t (by simp; omega)]
        obtain ⟨po, k1, q1, po1, hk1⟩ := policyD c hc
        obtain ⟨b1, k2, q2, b10, b11, hk2⟩ := below k1 hk1 2 (by omega) (by omega)
        obtain ⟨b2, k3, q3, b20, b21, hk3⟩ := below k2 hk2 4 (by omega) (by omega)
        obtain ⟨b3, k4, q4, b30, b31, hk4⟩ := below k3 hk3 2 (by omega) (by omega)
        obtain ⟨b4, k5, q5, b40, b41, hk5⟩ := below k4 hk4 3 (by omega) (by omega)
        have hpos := hp.pos
        have hl := hp.len
        have hil : (12 : Int) + 184 * i ≤ 748 := by omega
        simp only [q1, q2, q3, q4, q5, Option.bind_some]
        have w4 : ∀ b : Int, 0 ≤ b → b ≤ 4 → wI (4 * b) = 4 * b := fun b p q => wI_id (by omega) (by omega)
        rw [w4 b1 b10 (by omega), w4 b2 b20 (by omega), w4 b3 b30 (by omega), w4 b4 b40 (by omega)]
        rw [wI_id (n := a + 4 * b3) (by omega) (by omega), wI_id (n := a + 128) (by omega) (by omega), wI_id (n := a + 128 + 4 * b1) (by omega) (by omega), wI_id (n := 32 + 4 * b2) (by omega) (by omega),
          wI_id (n := a + 128 + 4 * b1 + (32 + 4 * b2)) (by omega) (by omega), wI_id (n := a + 128 + 4 * b1 + (32 + 4 * b2) + 4 * b4) (by omega) (by omega), wI_succ hlt (by omega)]
        rw [bif_t (by
          have : most = 4294967296 := by decide
          simp only [decide_eq_true_eq]
          show x.len + 1 ≤ most
          omega)]
        refine .inl ⟨_, rfl, ⟨i + 1, _, _, k5, rfl, hlt, hk5, ?_⟩, ?_, fun d hd => hd⟩
        · refine hp.add ⟨?_, po1, rfl, ⟨rfl, rfl, hpos.1, hpos.2.1⟩, ⟨?_, ?_, ?_, ?_, ?_, rfl⟩, ⟨?_, ?_, ?_⟩⟩ rfl ?_ ?_ ?_
          · show L.get NM (((i : Nat) : Int)).toNat = NM.get i
            rw [Int.toNat_natCast]
          · show a + 128 ≤ a + 128 + 4 * b1; omega
          · show (a + 128 + 4 * b1) % 4 = 0; omega
          · show 32 ≤ 32 + 4 * b2; omega
          · show 32 + 4 * b2 ≤ 44; omega
          · show (32 + 4 * b2) % 4 = 0; omega
          · show a ≤ a + 4 * b3; omega
          · show a + 4 * b3 ≤ a + 4; omega
          · show (a + 4 * b3) % 4 = 0; omega
          · show a + 128 + 4 * b1 + (32 + 4 * b2) ≤ a + 128 + 4 * b1 + (32 + 4 * b2) + 4 * b4; omega
          · omega
          · omega
        · simp only [Int.toNat_natCast]; omega
      · have : i = n := by omega
        subst this
        rw [bif_f (by simp)]
        exact .inr ⟨_, rfl, a, x, c, rfl, hc, hp⟩) (((), ((n : Int), ((), ((), (a0, ((0 : Int), ())))))), (c, (z, ((m, (s1, (s2, (s3, (tl, (c1, (c2, (c3, (c4, (c5, (c6, (c7, (pd, (gd, (mj, (x0, (dv, (ch, (sl, ()))))))))))))))))))), ()))))
    ⟨0, a0, x0, c, rfl, Nat.zero_le _, hc, ⟨hx0, fun k hk => absurd hk (Nat.not_lt_zero _), fun k m _ hm => absurd hm (Nat.not_lt_zero _), ha.1, ha.2.2, by simpa using ha.2.1⟩⟩
  exact ⟨a, x, c', e1, e2, e3⟩
end

/-- What is appended is all that is new. -/
theorem app_all {α : Type} {x : L α} {n : Nat} {P : α → Prop} (hl : x.len = n) (h : ∀ k, k < n → P (x.get k)) (z v : α) (hv : P v) : (L.app x (L.of z [v])).len = n + 1 ∧ ∀ k, k < n + 1 → P ((L.app x (L.of z [v])).get k) := by
  refine ⟨by show x.len + 1 = n + 1; omega, fun k hk => ?_⟩
  by_cases e : k = x.len
  · subst e; rw [app_hi]; exact hv
  · rw [app_lo _ _ (by omega)]; exact h k (by omega)
theorem most_le {n : Nat} (h : n ≤ 100) : decide (n ≤ most) = true := by
  have : most = 4294967296 := by decide
  simp only [decide_eq_true_eq]; omega
section
variable (z : Fl) (m s1 s2 s3 tl c1 c2 c3 c4 c5 c6 c7 pd gd mj : Int) (x : L PR)

theorem devsLoop (ch : L Ch) (sl : L Sl) (n : Nat) (h1 : 2 ≤ n) (h2 : n ≤ 4) (c : Cur) (hc : Cw c) (d0 : L Int) (hd0 : d0.len = 0) : ∃ (dv : L Int) (c' : Cur),
    fixO s88_L2 (((), ((n : Int), ((), ((), ((0 : Int), ()))))), (c, (z, ((m, (s1, (s2, (s3, (tl, (c1, (c2, (c3, (c4, (c5, (c6, (c7, (pd, (gd, (mj, (x, (d0, (ch, (sl, ()))))))))))))))))))), ())))) = some (.inl (((), ((n : Int), ((), ((), ())))), (c', (z, ((m, (s1, (s2, (s3, (tl, (c1, (c2, (c3, (c4, (c5, (c6, (c7, (pd, (gd, (mj, (x, (dv, (ch, (sl, ()))))))))))))))))))), ()))))) ∧ Cw c' ∧ dv.len ≤ 3 ∧ ∀ k, k < dv.len → 0 ≤ dv.get k ∧ dv.get k < n := by
  obtain ⟨d, e1, dv, c', rfl, e2, e3⟩ := fixO_rel (step := s88_L2) (fun q => 5 - q.1.2.2.2.2.1.toNat)
    (fun q => ∃ (i : Nat) (dv : L Int) (c : Cur), q = (((), ((n : Int), ((), ((), ((i : Int), ()))))), (c, (z, ((m, (s1, (s2, (s3, (tl, (c1, (c2, (c3, (c4, (c5, (c6, (c7, (pd, (gd, (mj, (x, (dv, (ch, (sl, ()))))))))))))))))))), ())))) ∧ i ≤ 3 ∧ Cw c ∧ dv.len = i ∧ ∀ k, k < i → 0 ≤ dv.get k ∧ dv.get k < n)
    (fun _ d => ∃ (dv : L Int) (c' : Cur), d = .inl (((), ((n : Int), ((), ((), ())))), (c', (z, ((m, (s1, (s2, (s3, (tl, (c1, (c2, (c3, (c4, (c5, (c6, (c7, (pd, (gd, (mj, (x, (dv, (ch, (sl, ()))))))))))))))))))), ())))) ∧ Cw c' ∧ dv.len ≤ 3 ∧ ∀ k, k < dv.len → 0 ≤ dv.get k ∧ dv.get k < n)
    (by
      rintro _ ⟨i, dv, c, rfl, hi, hc, hl, hp⟩
      simp only [s88_L2]
      unfold q88_L2
      obtain ⟨b, k1, q1, b0, b1, hk1⟩ := below c hc 4 (by omega) (by omega)
      simp only [q1, Option.bind_some]
      by_cases hlt : (i : Int) < b
      · rw [bif_t (by simpa using hlt)]
        obtain ⟨y, k2, q2, y0, y1, hk2⟩ := below k1 hk1 n (by omega) (by omega)
        simp only [q2, Option.bind_some]
        rw [bif_t (by show decide (dv.len + 1 ≤ most) = true; exact most_le (by omega)), wI_succ (n := 10) (by omega) (by omega)]
        have A := app_all (P := fun v : Int => 0 ≤ v ∧ v < n) hl hp (Ty.zero (.int .i64)) y ⟨y0, y1⟩
        exact .inl ⟨_, rfl, ⟨i + 1, _, k2, rfl, by omega, hk2, A.1, A.2⟩, by simp only [Int.toNat_natCast]; omega, fun d hd => hd⟩
      · rw [bif_f (by simpa using hlt)]
        exact .inr ⟨_, rfl, dv, k1, rfl, hk1, by omega, by rw [hl]; exact hp⟩) (((), ((n : Int), ((), ((), ((0 : Int), ()))))), (c, (z, ((m, (s1, (s2, (s3, (tl, (c1, (c2, (c3, (c4, (c5, (c6, (c7, (pd, (gd, (mj, (x, (d0, (ch, (sl, ()))))))))))))))))))), ()))))
    ⟨0, d0, c, rfl, by omega, hc, hd0, fun k hk => absurd hk (Nat.not_lt_zero _)⟩
  exact ⟨dv, c', e1, e2, e3⟩

theorem chansLoop (dv : L Int) (sl : L Sl) (n : Nat) (h1 : 2 ≤ n) (h2 : n ≤ 4) (c : Cur) (hc : Cw c) (d0 : L Ch) (hd0 : d0.len = 0) : ∃ (ch : L Ch) (c' : Cur),
    fixO s88_L4 (((), ((n : Int), ((), ((), ((0 : Int), ()))))), (c, (z, ((m, (s1, (s2, (s3, (tl, (c1, (c2, (c3, (c4, (c5, (c6, (c7, (pd, (gd, (mj, (x, (dv, (d0, (sl, ()))))))))))))))))))), ())))) = some (.inl (((), ((n : Int), ((), ((), ())))), (c', (z, ((m, (s1, (s2, (s3, (tl, (c1, (c2, (c3, (c4, (c5, (c6, (c7, (pd, (gd, (mj, (x, (dv, (ch, (sl, ()))))))))))))))))))), ()))))) ∧ Cw c' ∧ ch.len ≤ 4 ∧ ∀ k, k < ch.len → f141 (ch.get k) = true ∧ (ch.get k).2.1 < n ∧ (ch.get k).2.2.1 < n := by
  obtain ⟨d, e1, ch, c', rfl, e2, e3⟩ := fixO_rel (step := s88_L4) (fun q => 6 - q.1.2.2.2.2.1.toNat)
    (fun q => ∃ (i : Nat) (ch : L Ch) (c : Cur), q = (((), ((n : Int), ((), ((), ((i : Int), ()))))), (c, (z, ((m, (s1, (s2, (s3, (tl, (c1, (c2, (c3, (c4, (c5, (c6, (c7, (pd, (gd, (mj, (x, (dv, (ch, (sl, ()))))))))))))))))))), ())))) ∧ i ≤ 4 ∧ Cw c ∧ ch.len = i ∧ ∀ k, k < i → f141 (ch.get k) = true ∧ (ch.get k).2.1 < n ∧ (ch.get k).2.2.1 < n)
    (fun _ d => ∃ (ch : L Ch) (c' : Cur), d = .inl (((), ((n : Int), ((), ((), ())))), (c', (z, ((m, (s1, (s2, (s3, (tl, (c1, (c2, (c3, (c4, (c5, (c6, (c7, (pd, (gd, (mj, (x, (dv, (ch, (sl, ()))))))))))))))))))), ())))) ∧ Cw c' ∧ ch.len ≤ 4 ∧ ∀ k, k < ch.len → f141 (ch.get k) = true ∧ (ch.get k).2.1 < n ∧ (ch.get k).2.2.1 < n)
    (by
      rintro _ ⟨i, ch, c, rfl, hi, hc, hl, hp⟩
      simp only [s88_L4]
      unfold q88_L4
      obtain ⟨b, k1, q1, b0, b1, hk1⟩ := below c hc 5 (by omega) (by omega)
      simp only [q1, Option.bind_some]
      by_cases hlt : (i : Int) < b
      · rw [bif_t (by simpa using hlt)]
        obtain ⟨y, k2, q2, y1, hk2⟩ := chanD k1 hk1 n (by omega) (by omega)
        simp only [q2, Option.bind_some]
        rw [bif_t (by show decide (ch.len + 1 ≤ most) = true; exact most_le (by omega)), wI_succ (n := 10) (by omega) (by omega)]
        have A := app_all (P := fun v : Ch => f141 v = true ∧ v.2.1 < n ∧ v.2.2.1 < n) hl hp (Ty.zero (.pair (.int .i64) (.pair (.int .i64) (.pair (.int .i64) (.pair (.int .i64) .unit))))) y y1
        exact .inl ⟨_, rfl, ⟨i + 1, _, k2, rfl, by omega, hk2, A.1, A.2⟩, by simp only [Int.toNat_natCast]; omega, fun d hd => hd⟩
      · rw [bif_f (by simpa using hlt)]
        exact .inr ⟨_, rfl, ch, k1, rfl, hk1, by omega, by rw [hl]; exact hp⟩) (((), ((n : Int), ((), ((), ((0 : Int), ()))))), (c, (z, ((m, (s1, (s2, (s3, (tl, (c1, (c2, (c3, (c4, (c5, (c6, (c7, (pd, (gd, (mj, (x, (dv, (d0, (sl, ()))))))))))))))))))), ()))))
    ⟨0, d0, c, rfl, by omega, hc, hd0, fun k hk => absurd hk (Nat.not_lt_zero _)⟩
  exact ⟨ch, c', e1, e2, e3⟩
end

structure SlotsD (sl : L Sl) (i : Nat) (n pg st : Int) : Prop where
  len : sl.len = i
  row : ∀ k, k < i → 0 ≤ (sl.get k).1 ∧ (sl.get k).1 < n ∧ pg < (sl.get k).2.2.1 ∧ (sl.get k).2.2.1 ≤ pg + 90 ∧ 0 ≤ (sl.get k).2.1 ∧ (sl.get k).2.1 + (sl.get k).2.2.1 ≤ st
  ord : ∀ k m, k < m → m < i → (sl.get k).2.1 + (sl.get k).2.2.1 ≤ (sl.get m).2.1
  low : 0 ≤ st
  top : st ≤ 5 + i * 393

theorem SlotsD.add {sl : L Sl} {i : Nat} {n pg st st' : Int} (h : SlotsD sl i n pg st) (hpg : 0 ≤ pg ∧ pg ≤ 300) {z v : Sl} (h1 : 0 ≤ v.1 ∧ v.1 < n) (h2 : pg < v.2.2.1 ∧ v.2.2.1 ≤ pg + 90) (h3 : v.2.1 = st) (h4 : v.2.1 + v.2.2.1 ≤ st' ∧ st' ≤ v.2.1 + v.2.2.1 + 3) : SlotsD (L.app sl (L.of z [v])) (i + 1) n pg st' := by
  have hlen := h.len
  have hlow := h.low
  have htop := h.top
  have hi : (L.app sl (L.of z [v])).get i = v := by rw [← hlen]; exact app_hi sl z v
  have lo : ∀ k, k < i → (L.app sl (L.of z [v])).get k = sl.get k := fun k hk => app_lo _ _ (by omega)
  refine ⟨by show sl.len + 1 = i + 1; omega, fun k hk => ?_, fun k m hkm hm => ?_, by omega, ?_⟩
  · by_cases e : k = i
    · subst e; rw [hi]; omega
    · rw [lo k (by omega)]
      have := h.row k (by omega)
      omega
  · by_cases e : m = i
    · subst e
      rw [hi, lo k hkm]
      have := h.row k hkm
      omega
    · rw [lo k (by omega), lo m (by omega)]
      exact h.ord k m hkm (by omega)
  · have : ((i + 1 : Nat) : Int) = i + 1 := by simp
    rw [this]; omega

section
variable (z : Fl) (m s1 s2 s3 tl c1 c2 c3 c4 c5 c6 c7 pd gd mj : Int) (x : L PR)
theorem slotsLoopD (dv : L Int) (ch : L Ch) (hpd : 0 ≤ pd ∧ pd ≤ 200) (hgd : 0 ≤ gd ∧ gd ≤ 99) (n : Nat) (h1 : 2 ≤ n) (h2 : n ≤ 4) (c : Cur) (hc : Cw c) (a0 : Int) (ha : 0 ≤ a0 ∧ a0 ≤ 5) (d0 : L Sl) (hd0 : d0.len = 0) : ∃ (sl : L Sl) (i : Nat) (st : Int) (c' : Cur),
    fixO s88_L6 (((), ((n : Int), ((), ((), (a0, ((0 : Int), ())))))), (c, (z, ((m, (s1, (s2, (s3, (tl, (c1, (c2, (c3, (c4, (c5, (c6, (c7, (pd, (gd, (mj, (x, (dv, (ch, (d0, ()))))))))))))))))))), ())))) = some (.inl (((), ((), ((), ()))), (c', (z, ((m, (s1, (s2, (s3, (tl, (c1, (c2, (c3, (c4, (c5, (c6, (c7, (pd, (gd, (mj, (x, (dv, (ch, (sl, ()))))))))))))))))))), ()))))) ∧ Cw c' ∧ n ≤ i ∧ i ≤ 6 ∧ SlotsD sl i n (pd + gd) st := by
  obtain ⟨d, e1, sl, i, st, c', rfl, e2, e3⟩ := fixO_rel (step := s88_L6) (fun q => 8 - q.1.2.2.2.2.2.1.toNat)
    (fun q => ∃ (i : Nat) (st : Int) (sl : L Sl) (c : Cur), q = (((), ((n : Int), ((), ((), (st, ((i : Int), ())))))), (c, (z, ((m, (s1, (s2, (s3, (tl, (c1, (c2, (c3, (c4, (c5, (c6, (c7, (pd, (gd, (mj, (x, (dv, (ch, (sl, ()))))))))))))))))))), ())))) ∧ i ≤ n + 2 ∧ Cw c ∧ SlotsD sl i n (pd + gd) st)
    (fun _ d => ∃ (sl : L Sl) (i : Nat) (st : Int) (c' : Cur), d = .inl (((), ((), ((), ()))), (c', (z, ((m, (s1, (s2, (s3, (tl, (c1, (c2, (c3, (c4, (c5, (c6, (c7, (pd, (gd, (mj, (x, (dv, (ch, (sl, ()))))))))))))))))))), ())))) ∧ Cw c' ∧ n ≤ i ∧ i ≤ 6 ∧ SlotsD sl i n (pd + gd) st)
    (by
      rintro _ ⟨i, st, sl, c, rfl, hi, hc, hp⟩
      simp only [s88_L6]
      unfold q88_L6
      obtain ⟨b, k1, q1, b0, b1, hk1⟩ := below c hc 3 (by omega) (by omega)
      simp only [q1, Option.bind_some]
      rw [wI_id (n := (n : Int) + b) (by omega) (by omega)]
      by_cases hlt : (i : Int) < n + b
      · rw [bif_t (by simpa using hlt), bif_t (by simp; omega)]
        obtain ⟨y, k2, q2, y0, y1, hk2⟩ := below k1 hk1 90 (by omega) (by omega)
        obtain ⟨o, k3, q3, hk3⟩ := once k2 hk2 5 (by omega) (by omega)
        simp only [q2, q3, Option.bind_some]
        have hlow := hp.low
        have htop := hp.top
        have hl := hp.len
        have hmul : (i : Int) * 393 ≤ 2358 := by omega
        rw [wI_id (n := pd + gd) (by omega) (by omega), wI_id (n := pd + gd + 1) (by omega) (by omega), wI_id (n := pd + gd + 1 + y) (by omega) (by omega), wI_id (n := st + (pd + gd + 1 + y)) (by omega) (by omega), wI_succ (n := 10) (by omega) (by omega)]
        have hb : decide (sl.len + 1 ≤ most) = true := most_le (by omega)
        cases o with
        | true =>
          obtain ⟨w, k4, q4, w0, w1, hk4⟩ := below k3 hk3 n (by omega) (by omega)
          obtain ⟨v, k5, q5, v0, hk5⟩ := pickIn k4 hk4 (Ty.zero (.int .i64)) [0, 0, 3] (by decide) (by decide)
          have v1 : 0 ≤ v ∧ v ≤ 3 := by
            simp only [List.mem_cons, List.not_mem_nil, or_false] at v0
            omega
          rw [bif_t rfl]
          simp only [q4, Option.bind_some]
          refine .inl ⟨_, (bif_t (show decide (sl.len + 1 ≤ most) = true from hb)).trans (by simp only [q5, Option.bind_some]; rfl), ⟨i + 1, wI (st + (pd + gd + 1 + y) + v), _, k5, rfl, by omega, hk5, ?_⟩, ?_, fun d hd => hd⟩
          · rw [wI_id (by omega) (by omega)]
            exact hp.add (by omega) ⟨w0, w1⟩ ⟨by show _ < pd + gd + 1 + y; omega, by show pd + gd + 1 + y ≤ _; omega⟩ rfl ⟨by show st + (pd + gd + 1 + y) ≤ _; omega, by show _ ≤ st + (pd + gd + 1 + y) + 3; omega⟩
          · simp only [Int.toNat_natCast]; omega
        | false =>
          obtain ⟨v, k5, q5, v0, hk5⟩ := pickIn k3 hk3 (Ty.zero (.int .i64)) [0, 0, 3] (by decide) (by decide)
          have v1 : 0 ≤ v ∧ v ≤ 3 := by
            simp only [List.mem_cons, List.not_mem_nil, or_false] at v0
            omega
          rw [bif_f rfl]
          refine .inl ⟨_, (bif_t (show decide (sl.len + 1 ≤ most) = true from hb)).trans (by simp only [q5, Option.bind_some]; rfl), ⟨i + 1, wI (st + (pd + gd + 1 + y) + v), _, k5, rfl, by omega, hk5, ?_⟩, ?_, fun d hd => hd⟩
          · rw [wI_id (by omega) (by omega)]
            refine hp.add (by omega) ⟨?_, ?_⟩ ⟨by show _ < pd + gd + 1 + y; omega, by show pd + gd + 1 + y ≤ _; omega⟩ rfl ⟨by show st + (pd + gd + 1 + y) ≤ _; omega, by show _ ≤ st + (pd + gd + 1 + y) + 3; omega⟩
            · show 0 ≤ Int.tmod (i : Int) n; exact Int.tmod_nonneg _ (by omega)
            · show Int.tmod (i : Int) n < n; exact Int.tmod_lt_of_pos _ (by omega)
          · simp only [Int.toNat_natCast]; omega
      · rw [bif_f (by simpa using hlt)]
        exact .inr ⟨_, rfl, sl, i, st, k1, rfl, hk1, by omega, by omega, hp⟩) (((), ((n : Int), ((), ((), (a0, ((0 : Int), ())))))), (c, (z, ((m, (s1, (s2, (s3, (tl, (c1, (c2, (c3, (c4, (c5, (c6, (c7, (pd, (gd, (mj, (x, (dv, (ch, (d0, ()))))))))))))))))))), ()))))
    ⟨0, a0, d0, c, rfl, by omega, hc, ⟨hd0, fun k hk => absurd hk (Nat.not_lt_zero _), fun k m _ hm => absurd hm (Nat.not_lt_zero _), ha.1, by simpa using ha.2⟩⟩
  exact ⟨sl, i, st, c', e1, e2, e3⟩
end

/-- Drawn costs. -/
structure CostD (c : Co) : Prop where
  b : 1 ≤ c.1 ∧ c.1 ≤ 2
  mul : 0 ≤ c.2.1 ∧ c.2.1 ≤ 3
  mem : 0 ≤ c.2.2.1 ∧ c.2.2.1 ≤ 2
  miss : 0 ≤ c.2.2.2.1 ∧ c.2.2.2.1 ≤ 5
  walk : 0 ≤ c.2.2.2.2.1 ∧ c.2.2.2.2.1 ≤ 3
  trap : 0 ≤ c.2.2.2.2.2.1 ∧ c.2.2.2.2.2.1 ≤ 2
  line : 0 ≤ c.2.2.2.2.2.2.1 ∧ c.2.2.2.2.2.2.1 ≤ 2

theorem f60_of {x y z : Int} (p : y ≤ x) (q : x ≤ z) : f60 x y z = true := by
  unfold f60; rw [bif_t (by simpa using p)]; simpa using q
theorem f61_of {x y z : Int} (p : y ≤ x) (q : x ≤ z) : f61 x y z = true := f60_of p q

theorem CostD.ok {c : Co} (h : CostD c) : f138 c = true := by
  obtain ⟨h1, h2, h3, h4, h5, h6, h7⟩ := h
  unfold f138
  rw [f60_of h1.1 (by omega), f60_of h2.1 (by omega), f60_of h3.1 (by omega), f60_of h4.1 (by omega), f60_of h5.1 (by omega), f60_of h6.1 (by omega), f60_of h7.1 (by omega)]
  rfl
theorem CostD.ok' {c : Co} (h : CostD c) : f119 c = true := by
  obtain ⟨h1, h2, h3, h4, h5, h6, h7⟩ := h
  unfold f119
  rw [f61_of h1.1 (by omega), f61_of h2.1 (by omega), f61_of h3.1 (by omega), f61_of h4.1 (by omega), f61_of h5.1 (by omega), f61_of h6.1 (by omega), f61_of h7.1 (by omega)]
  rfl

theorem CostD.op {c : Co} (h : CostD c) (k : Int) : 1 ≤ f167 c k ∧ f167 c k ≤ 5 := by
  obtain ⟨h1, h2, h3, h4, h5, h6, h7⟩ := h
  unfold f167
  have w1 : wI (c.1 + c.2.1) = c.1 + c.2.1 := wI_id (by omega) (by omega)
  have w2 : wI (c.1 + c.2.2.1) = c.1 + c.2.2.1 := wI_id (by omega) (by omega)
  have w3 : wI (c.1 + c.2.2.2.2.2.1) = c.1 + c.2.2.2.2.2.1 := wI_id (by omega) (by omega)
  rw [w1, w2, w3]
  cases k == 9 <;> cases k == 10 <;> cases f61 k 15 18 <;> cases decide (k ≥ 25) <;> simp only [cond_true, cond_false] <;> omega

theorem worstCost {c : Co} (h : CostD c) : ∃ n : Int, g115 c = some ((n, ()), ()) ∧ g146 c = some ((n, ()), ()) ∧ 1 ≤ n ∧ n ≤ 60 := by
  obtain ⟨n, e1, e2⟩ := worst h.ok
  refine ⟨n, e1, e2, ?_⟩
  obtain ⟨d, q1, m, rfl, q2⟩ := fixO_rel (step := s146_L0) (fun a => 33 - a.1.2.2.1.toNat)
    (fun a => ∃ (i : Nat) (m : Int), a = (((), (m, ((i : Int), ()))), (c, ())) ∧ i ≤ 33 ∧ 0 ≤ m ∧ m ≤ 5 ∧ (i = 0 ∨ 1 ≤ m)) (fun _ d => ∃ m : Int, d = .inl (((), (m, ())), (c, ())) ∧ 1 ≤ m ∧ m ≤ 5)
    (by
      rintro _ ⟨i, m, rfl, hi, m0, m1, m2⟩
      show (∃ y, q146_L0 m i c = _ ∧ _) ∨ ∃ d, q146_L0 m i c = _ ∧ _
      unfold q146_L0
      have ho := h.op i
      by_cases h1 : i < 33
      · rw [bif_t (by simp; omega), wI_succ h1 (by omega)]
        refine .inl ⟨_, rfl, ⟨i + 1, _, rfl, h1, ?_⟩, by simp only [Int.toNat_natCast]; omega, fun d hd => hd⟩
        split <;> omega
      · rw [bif_f (by simp; omega)]
        exact .inr ⟨_, rfl, m, rfl, by omega, m1⟩) (((), ((0 : Int), ((0 : Int), ()))), (c, ())) ⟨0, 0, rfl, by omega, by omega, by omega, .inl rfl⟩
  unfold g146 at e2
  rw [h.ok', q1] at e2
  simp only [Bool.not_true, cond_false, Option.bind_some, Option.some.injEq, Prod.mk.injEq, and_true] at e2
  obtain ⟨h1, h2, h3, h4, h5, h6, h7⟩ := h
  have w : f168 c (false, (false, (true, ()))) = c.2.2.2.1 + c.2.2.2.2.1 + c.2.2.2.2.2.2.1 := by
    show wI (wI (wI (0 + c.2.2.2.1) + c.2.2.2.2.1) + c.2.2.2.2.2.2.1) = _
    rw [wI_id (n := 0 + c.2.2.2.1) (by omega) (by omega), wI_id (n := 0 + c.2.2.2.1 + c.2.2.2.2.1) (by omega) (by omega), wI_id (by omega) (by omega)]; omega
  rw [w, wI_id (n := 2 * _) (by omega) (by omega), wI_id (n := m + _) (by omega) (by omega), wI_id (by omega) (by omega)] at e2
  omega

theorem padD {c : Co} (h : CostD c) (s : Int × (Int × (Int × Unit))) (hs : f105 s = true) (h1 : s.1 = 1 ∨ s.1 = 2 ∨ s.1 = 4) (h2 : s.2.1 = 1 ∨ s.2.1 = 2) (x : L Ch) (hx : x.len ≤ 4) (hok : ∀ j, j < x.len → f141 (x.get j) = true) :
    ∃ n : Int, g116 c s x = some ((n, ()), ()) ∧ g107 c s x = some ((n, ()), ()) ∧ 1 ≤ n ∧ n ≤ 190 := by
  have hc := h.ok
  have c1 : 1 ≤ c.1 ∧ c.1 ≤ 20 := by have := h.b; omega
  obtain ⟨m, e1, e2⟩ := good x (by omega) c c1 (wI ((wI (16 * c.1)) + (wI ((wI (s.1 * s.2.1)) * c.2.2.2.2.2.2.1)))) hok
  refine ⟨m, ?_, ?_, ?_⟩
  · unfold g116
    rw [hc, hs]
    simp only [Bool.not_true, cond_false]
    rw [bif_f (by simp; omega), e1]; rfl
  · unfold g107
    rw [e2]; rfl
  · have hb := h.b
    have hl := h.line
    have hn : 16 ≤ (wI ((wI (16 * c.1)) + (wI ((wI (s.1 * s.2.1)) * c.2.2.2.2.2.2.1)))) ∧ (wI ((wI (16 * c.1)) + (wI ((wI (s.1 * s.2.1)) * c.2.2.2.2.2.2.1)))) ≤ 48 := by
      rw [wI_id (n := 16 * c.1) (by omega) (by omega)]
      have key : ∀ k : Int, 0 ≤ k → k ≤ 8 → 16 ≤ wI (16 * c.1 + wI (wI k * c.2.2.2.2.2.2.1)) ∧ wI (16 * c.1 + wI (wI k * c.2.2.2.2.2.2.1)) ≤ 48 := by
        intro k k0 k1
        rw [wI_id (n := k) (by omega) (by omega)]
        have l3 : c.2.2.2.2.2.2.1 = 0 ∨ c.2.2.2.2.2.2.1 = 1 ∨ c.2.2.2.2.2.2.1 = 2 := by omega
        rcases l3 with l | l | l <;> rw [l]
        · rw [wI_id (n := k * 0) (by omega) (by omega), wI_id (by omega) (by omega)]; omega
        · rw [wI_id (n := k * 1) (by omega) (by omega), wI_id (by omega) (by omega)]; omega
        · rw [wI_id (n := k * 2) (by omega) (by omega), wI_id (by omega) (by omega)]; omega
      rcases h1 with a | a | a <;> rcases h2 with b | b <;> rw [a, b] <;> exact key _ (by decide) (by decide)
    generalize (wI ((wI (16 * c.1)) + (wI ((wI (s.1 * s.2.1)) * c.2.2.2.2.2.2.1)))) = n0 at hn e2
    obtain ⟨d, q1, m', rfl, q2⟩ := fixO_rel (step := s107_L0) (fun a => x.len - a.1.2.2.2.2.1.toNat)
      (fun a => ∃ (i : Nat) (n : Int), a = (((), (n, (x, ((x.len : Int), ((i : Int), ()))))), (c, ())) ∧ i ≤ x.len ∧ 16 ≤ n ∧ n ≤ 48 + 16 * i) (fun _ d => ∃ m : Int, d = .inl ((m, ()), ()) ∧ 16 ≤ m ∧ m ≤ 48 + 16 * x.len)
      (by
        rintro _ ⟨i, n, rfl, hi, n0, n1⟩
        show (∃ y, q107_L0 n x x.len i c = _ ∧ _) ∨ ∃ d, q107_L0 n x x.len i c = _ ∧ _
        unfold q107_L0
        by_cases h1 : i < x.len
        · rw [bif_t (idx_lt h1), bif_t (idx_in h1), wI_succ h1 (by omega), Int.toNat_natCast]
          have hd : 1 ≤ f136 (x.get i) ∧ f136 (x.get i) ≤ 8 := by
            have := chan_of (hok i h1)
            unfold f136
            split <;> omega
          have hm : 0 ≤ c.1 * f136 (x.get i) ∧ c.1 * f136 (x.get i) ≤ 16 := by
            have : c.1 = 1 ∨ c.1 = 2 := by omega
            rcases this with e | e <;> rw [e] <;> omega
          rw [wI_id (n := c.1 * _) (by omega) (by omega), wI_id (n := n + _) (by omega) (by omega)]
          exact .inl ⟨_, rfl, ⟨i + 1, _, rfl, h1, by omega, by omega⟩, by simp only [Int.toNat_natCast]; omega, fun d hd => hd⟩
        · have : i = x.len := by omega
          subst this
          rw [bif_f (by simp)]
          exact .inr ⟨_, rfl, n, rfl, n0, n1⟩) (((), (n0, (x, ((x.len : Int), ((0 : Int), ()))))), (c, ())) ⟨0, n0, rfl, Nat.zero_le _, hn.1, by omega⟩
    rw [e2] at q1
    simp only [Option.some.injEq, Sum.inl.injEq, Prod.mk.injEq, and_true] at q1
    omega

/-- Tables of which all is right are sound. -/
theorem soundOf (t : Tb) (hf : Facts t) (h4 : Int.tmod t.1 4 = 0) (htl : 1 ≤ t.2.2.1 ∧ t.2.2.1 ≤ 8) (hs : ∀ i, i < (tParts t).len → ((tParts t).get i).1.size ≤ 2 ^ 47) (hg : ∃ n : Int, g146 t.2.2.2.1 = some ((n, ()), ()) ∧ n ≤ t.2.2.2.2.2.1) :
    g89 t = some ((true, ()), ()) := by
  obtain ⟨hc, p1, p2, p3, hsh, hm, hpl, hP, d1, d2, d3, d4, ⟨d5, d6⟩, d7, n7, _, q7, l7⟩ := hf
  obtain ⟨n, e146, hn⟩ := hg
  have e122 : g122 t = some ((true, ()), ()) := by
    obtain ⟨b, e1, e2⟩ := impParts t (by omega) hs (fun i hi => by have := (hP.1 i hi).1.2.2.1; omega)
    rw [e1, e2.mpr hP]
  have eD : g123_124 (tDevs t) (((tParts t).len : Int), ()) = some ((false, ()), ()) := by
    rcases devs t d1 with ⟨⟨i, hi, k⟩, _⟩ | ⟨_, _, k⟩
    · rw [d3 i hi] at k; cases k
    · exact k
  have eC : g125_126 (tChans t) (((tParts t).len : Int), ()) = some ((false, ()), ()) := by
    have h2 := index_loop (step := s156_126_L0) (x := tChans t) (c := (((tParts t).len : Int), ())) (fun i => f126 ((tChans t).get i) (tParts t).len) (fun i hi => by
      simp only [s156_126_L0, q156_126_L0]
      refine (bif_t (idx_lt hi)).trans ((bif_t (idx_in hi)).trans ?_)
      rw [wI_succ hi (by omega), Int.toNat_natCast]
      by_cases hq : f126 ((tChans t).get i) (tParts t).len = true
      · rw [if_pos hq]; exact bif_t hq
      · rw [if_neg hq]; exact bif_f (by simpa using hq)) (by
      simp only [s156_126_L0, q156_126_L0]
      exact bif_f (idx_end (tChans t).len))
    rcases h2 with ⟨i, hi, k, _⟩ | ⟨_, k⟩
    · rw [(f126_iff _ _).mpr (d4 i hi)] at k; cases k
    · unfold g125_126 g156_126
      rw [k]; rfl
  have eS : g128 t = some ((true, ()), ()) := by
    let E : Nat → Int := fun i => match i with
      | 0 => 0
      | i + 1 => ((tSlots t).get i).2.1 + ((tSlots t).get i).2.2.1
    have hE : ∀ i, i < (tSlots t).len → E i ≤ ((tSlots t).get i).2.1 := by
      intro i hi
      cases i with
      | zero => exact (d5 0 hi).2.2.1
      | succ i => exact d6 i (i + 1) (by omega) hi
    have h2 := scan (step := s128_L0) (fun i => (((), (E i, (tSlots t, (((tSlots t).len : Int), ((i : Int), ()))))), (t, ()))) (tSlots t).len (fun _ => true) (fun _ => .inl ((false, ()), ())) (.inr (.inl (((), ()), (t, ()))))
      (fun i hi _ => by
        obtain ⟨r1, r2, r3, r4⟩ := d5 i hi
        simp only [s128_L0, q128_L0]
        have r1' : (!f61 ((tSlots t).get ((i : Int)).toNat).1 0 (wI (((t.2.2.2.2.2.2.2.1).len : Int) - 1))) = false := by rw [Int.toNat_natCast]; exact (congrArg _ r1).trans rfl
        have r2' : (!f157 t ((tSlots t).get ((i : Int)).toNat) (E i)) = false := by
          rw [Int.toNat_natCast, (f157_iff t _ _ p1 p2 p3).mpr ⟨by omega, by omega, hE i hi, by omega⟩]; rfl
        refine (bif_t (idx_lt hi)).trans ((bif_t (idx_in hi)).trans ((bif_f r1').trans ((bif_f r2').trans ?_)))
        rw [wI_succ hi (by omega), Int.toNat_natCast, wI_id (by omega) (by omega)])
      (fun i hi ho => by cases ho)
      (by
        simp only [s128_L0, q128_L0]
        exact bif_f (idx_end (tSlots t).len))
    rcases h2 with ⟨i, _, k, _⟩ | ⟨_, k⟩
    · cases k
    · unfold g128
      have k' : fixO s128_L0 (((), ((0 : Int), (t.2.2.2.2.2.2.2.2.2.2.1, ((t.2.2.2.2.2.2.2.2.2.2.1.len : Int), ((0 : Int), ()))))), (t, ())) = some (.inr (.inl (((), ()), (t, ())))) := k
      rw [k']
      have : f61 ((t.2.2.2.2.2.2.2.2.2.2.1.len : Int)) 1 16 = true := f61_of (by show (1 : Int) ≤ (tSlots t).len; omega) (by show ((tSlots t).len : Int) ≤ 16; omega)
      simp only [Option.bind_some]
      rw [this]
  unfold g89
  have e117 : f117 t.1 = true := by
    unfold f117
    rw [bif_t (f61_of hm.1 hm.2), h4]; rfl
  have e121 : g121 t.2.2.2.1 = some ((n, ()), ()) := by unfold g121; rw [e146]; rfl
  have e120 : ∀ x : Int, 1 ≤ x ∧ x ≤ 5000 → f120 x = true := fun x hx => f61_of hx.1 hx.2
  rw [e117, f118_105, hsh, f61_of htl.1 htl.2, f119_138, hc, e120 _ p1, e120 _ p2, e120 _ p3, e121]
  simp only [Bool.not_true, cond_false, Option.bind_some]
  have l8 : f61 ((t.2.2.2.2.2.2.2.1.len : Int)) 1 6 = true := f61_of (by show (1 : Int) ≤ (tParts t).len; omega) (by show ((tParts t).len : Int) ≤ 6; omega)
  have eD' : g123_124 t.2.2.2.2.2.2.2.2.1 ((t.2.2.2.2.2.2.2.1.len : Int), ()) = some ((false, ()), ()) := eD
  have eC' : g125_126 t.2.2.2.2.2.2.2.2.2.1 ((t.2.2.2.2.2.2.2.1.len : Int), ()) = some ((false, ()), ()) := eC
  have q7' : g107 t.2.2.2.1 t.2.1 t.2.2.2.2.2.2.2.2.2.1 = some ((n7, ()), ()) := q7
  have c1 : decide ((t.2.2.2.2.2.2.2.2.1.len : Int) > 8) = false := by
    have : ¬ ((t.2.2.2.2.2.2.2.2.1.len : Int) > 8) := by show ¬ (((tDevs t).len : Int) > 8); omega
    simpa using this
  have c2 : decide ((t.2.2.2.2.2.2.2.2.2.1.len : Int) > 8) = false := by
    have : ¬ ((t.2.2.2.2.2.2.2.2.2.1.len : Int) > 8) := by show ¬ (((tChans t).len : Int) > 8); omega
    simpa using this
  rw [bif_f (by simp; omega), l8, e122]
  simp only [Bool.not_true, cond_false, Option.bind_some]
  rw [c1, eD']
  simp only [cond_false, Option.bind_some]
  rw [c2, eC']
  simp only [cond_false, Option.bind_some]
  rw [q7']
  simp only [Option.bind_some]
  rw [bif_f (by simp; omega), eS]
  rfl

theorem tmod4 {a : Int} (h : 0 ≤ a) (h4 : a % 4 = 0) : Int.tmod a 4 = 0 := by rw [Int.tmod_eq_emod_of_nonneg h]; exact h4

/-- Drawn partitions are right. -/
theorem partsOk {x : L PR} {n : Nat} {a : Int} (h : PartsD x n a) (hn : n ≤ 4) : Parts x (a + 64) := by
  have hpos := h.pos
  have hl := h.len
  have g : ∀ i, i < n → f163 ((x.get i).2.2.2.1.get 0) = true ∧ f163 ((x.get i).2.2.2.1.get 1) = true := by
    intro i hi
    obtain ⟨hp, he⟩ := h.part i hi
    have w0 := hp.w0
    have w1 := hp.w1
    refine ⟨(f163_iff _).mpr ⟨by omega, by omega, tmod4 (by omega) (by omega), tmod4 (by omega) (by omega), by omega, by omega⟩, (f163_iff _).mpr ⟨by omega, by omega, tmod4 (by omega) (by omega), tmod4 (by omega) (by omega), by omega, by omega⟩⟩
  refine ⟨fun i hi => ?_, ?_⟩
  · obtain ⟨hp, he⟩ := h.part i (by omega)
    have w0 := hp.w0
    have w1 := hp.w1
    have we := hp.ent
    have hw := g i (by omega)
    refine ⟨⟨by rw [hp.name]; exact nmNM i (by omega), hp.pol, by rw [hp.len]; omega, fun j hj => ?_, ⟨0, by rw [hp.len]; omega, (f164_iff _ _ hw.1).mpr (by omega), ?_⟩, tmod4 (by omega) (by omega)⟩, fun q hq => ?_⟩
    · rw [hp.len] at hj
      have : j = 0 ∨ j = 1 := by omega
      rcases this with rfl | rfl
      · exact ⟨hw.1, by omega⟩
      · exact ⟨hw.2, by omega⟩
    · rw [w0.2.1]; decide
    · rw [(h.part q (by omega)).1.name, hp.name]
      exact nmApart q i hq (by omega)
  · have key : ∀ k, k ≤ n → (winsOf x k).Pairwise apart ∧ ∀ v, v ∈ winsOf x k → ∃ i, i < k ∧ v.1 + v.2.1 ≤ ((x.get i).2.2.2.1.get 1).1 + ((x.get i).2.2.2.1.get 1).2.1 := by
      intro k
      induction k with
      | zero => intro _; exact ⟨by simp [winsOf], fun v hv => by simp [winsOf] at hv⟩
      | succ k ih =>
        intro hk
        obtain ⟨i1, i2⟩ := ih (by omega)
        obtain ⟨hp, he⟩ := h.part k (by omega)
        have w0 := hp.w0
        have w1 := hp.w1
        have ht : toL (x.get k).2.2.2.1 = [(x.get k).2.2.2.1.get 0, (x.get k).2.2.2.1.get 1] := by
          unfold toL
          rw [hp.len]; rfl
        rw [winsOf_succ x (by omega), ht]
        refine ⟨List.pairwise_append.mpr ⟨i1, ?_, fun v hv w hw => ?_⟩, fun v hv => ?_⟩
        · refine List.pairwise_cons.mpr ⟨fun w hw => ?_, List.pairwise_singleton _ _⟩
          simp only [List.mem_cons, List.not_mem_nil, or_false] at hw
          subst hw
          exact .inl (by omega)
        · obtain ⟨i, hi, hle⟩ := i2 v hv
          have ho := h.ord i k hi (by omega)
          simp only [List.mem_cons, List.not_mem_nil, or_false] at hw
          rcases hw with rfl | rfl
          · exact .inl (by omega)
          · exact .inl (by omega)
        · rcases List.mem_append.mp hv with hv | hv
          · obtain ⟨i, hi, hle⟩ := i2 v hv
            exact ⟨i, by omega, hle⟩
          · refine ⟨k, by omega, ?_⟩
            simp only [List.mem_cons, List.not_mem_nil, or_false] at hv
            rcases hv with rfl | rfl <;> omega
    rw [hl]
    exact (key n (Nat.le_refl _)).1

theorem in3 {x a b c : Int} (h : x ∈ [a, b, c]) : x = a ∨ x = b ∨ x = c := by simpa using h
theorem in4 {x a b c d : Int} (h : x ∈ [a, b, c, d]) : x = a ∨ x = b ∨ x = c ∨ x = d := by simpa using h


set_option maxHeartbeats 1600000 in
theorem tablesD (c : Cur) (hc : Cw c) (n : Nat) (h1 : 2 ≤ n) (h2 : n ≤ 4) : ∃ (t : Tb) (c' : Cur), g88 c n = some ((t, ()), (c', ())) ∧ Cw c' ∧ g89 t = some ((true, ()), ()) ∧ Facts t ∧ t.2.2.2.2.2.2.1 ≤ 3000 := by
  obtain ⟨s1, k1, q1, m1, hk1⟩ := pickIn c hc (Ty.zero (.int .i64)) [1, 2, 4] (by decide) (by decide)
  obtain ⟨s2, k2, q2, a2, b2, hk2⟩ := below k1 hk1 2 (by omega) (by omega)
  obtain ⟨s3, k3, q3, m3, hk3⟩ := pickIn k2 hk2 (Ty.zero (.int .i64)) [4, 8, 16] (by decide) (by decide)
  obtain ⟨tl, k4, q4, a4, b4, hk4⟩ := below k3 hk3 4 (by omega) (by omega)
  obtain ⟨o1, k5, q5, a5, b5, hk5⟩ := below k4 hk4 2 (by omega) (by omega)
  obtain ⟨o2, k6, q6, a6, b6, hk6⟩ := below k5 hk5 4 (by omega) (by omega)
  obtain ⟨o3, k7, q7, a7, b7, hk7⟩ := below k6 hk6 3 (by omega) (by omega)
  obtain ⟨o4, k8, q8, a8, b8, hk8⟩ := below k7 hk7 6 (by omega) (by omega)
  obtain ⟨o5, k9, q9, a9, b9, hk9⟩ := below k8 hk8 4 (by omega) (by omega)
  obtain ⟨o6, k10, q10, a10, b10, hk10⟩ := below k9 hk9 3 (by omega) (by omega)
  obtain ⟨o7, k11, q11, a11, b11, hk11⟩ := below k10 hk10 3 (by omega) (by omega)
  obtain ⟨w, k12, q12, a12, b12, hk12⟩ := below k11 hk11 4 (by omega) (by omega)
  unfold g88
  simp only [q1, q2, q3, q4, q5, q6, q7, q8, q9, q10, q11, q12, Option.bind_some]
  have e2 : wI (1 + s2) = 1 + s2 := wI_id (by omega) (by omega)
  have e4 : wI (1 + tl) = 1 + tl := wI_id (by omega) (by omega)
  have e5 : wI (1 + o1) = 1 + o1 := wI_id (by omega) (by omega)
  have e12 : wI (4 * w) = 4 * w := wI_id (by omega) (by omega)
  rw [e2, e4, e5, e12]
  have m1 := in3 m1
  have m3 := in3 m3
  obtain ⟨a, x, c1, p1, hc1, hx⟩ := partsLoop _ 0 s1 (1 + s2) s3 (1 + tl) (1 + o1) o2 o3 o4 o5 o6 o7 0 0 0 (nilL (.int .i64)) (nilL (.pair (.int .i64) (.pair (.int .i64) (.pair (.int .i64) (.pair (.int .i64) .unit))))) (nilL (.pair (.int .i64) (.pair (.int .i64) (.pair (.int .i64) .unit)))) n h1 h2 k12 hk12 (4 * w) ⟨by omega, by omega, by omega⟩ (nilL (.pair .str (.pair (.int .i64) (.pair (.pair (.int .i64) (.pair (.int .i64) .unit)) (.pair (.sl (.pair (.int .i64) (.pair (.int .i64) (.pair (.int .i64) .unit)))) .unit))))) rfl
  rw [p1]
  simp only [Option.bind_some]
  have hpos := hx.pos
  have ea : wI (a + 64) = a + 64 := wI_id (by omega) (by omega)
  rw [ea]
  obtain ⟨dv, c2, p2, hc2, hdl, hdv⟩ := devsLoop _ (a + 64) s1 (1 + s2) s3 (1 + tl) (1 + o1) o2 o3 o4 o5 o6 o7 0 0 0 x _ _ n h1 h2 c1 hc1 (nilL (.int .i64)) rfl
  rw [p2]
  simp only [Option.bind_some]
  obtain ⟨ch, c3, p3, hc3, hcl, hch⟩ := chansLoop _ (a + 64) s1 (1 + s2) s3 (1 + tl) (1 + o1) o2 o3 o4 o5 o6 o7 0 0 0 x dv _ n h1 h2 c2 hc2 (nilL (.pair (.int .i64) (.pair (.int .i64) (.pair (.int .i64) (.pair (.int .i64) .unit))))) rfl
  rw [p3]
  simp only [Option.bind_some]
  have hcost : CostD (1 + o1, (o2, (o3, (o4, (o5, (o6, (o7, ()))))))) := ⟨by show 1 ≤ 1 + o1 ∧ 1 + o1 ≤ 2; omega, by show 0 ≤ o2 ∧ o2 ≤ 3; omega, by show 0 ≤ o3 ∧ o3 ≤ 2; omega, by show 0 ≤ o4 ∧ o4 ≤ 5; omega, by show 0 ≤ o5 ∧ o5 ≤ 3; omega, by show 0 ≤ o6 ∧ o6 ≤ 2; omega, by show 0 ≤ o7 ∧ o7 ≤ 2; omega⟩
  have hs2 : 1 + s2 = 1 ∨ 1 + s2 = 2 := by omega
  have hsh : f105 (s1, (1 + s2, (s3, ()))) = true := by
    have l2 := f60_of (x := 1 + s2) (y := 1) (z := 4) (by omega) (by omega)
    rcases m1 with rfl | rfl | rfl <;> rcases m3 with rfl | rfl | rfl <;> rcases hs2 with e | e <;> rw [e] <;> decide +kernel
  obtain ⟨gn, g1, g2, g3, g4⟩ := worstCost hcost
  obtain ⟨pn, r1, r2, r3, r4⟩ := padD hcost (s1, (1 + s2, (s3, ()))) hsh m1 hs2 ch hcl (fun j hj => (hch j hj).1)
  rw [g1]
  simp only [Option.bind_some]
  obtain ⟨v1, c4, p4, mv1, hc4⟩ := pickIn c3 hc3 (Ty.zero (.int .i64)) [0, 0, 1, 5] (by decide) (by decide)
  rw [p4]
  simp only [Option.bind_some]
  rw [r1]
  simp only [Option.bind_some]
  obtain ⟨v2, c5, p5, mv2, hc5⟩ := pickIn c4 hc4 (Ty.zero (.int .i64)) [0, 0, 1, 7] (by decide) (by decide)
  rw [p5]
  simp only [Option.bind_some]
  obtain ⟨v3, c6, p6, mv3, hc6⟩ := pickIn c5 hc5 (Ty.zero (.int .i64)) [0, 0, 5] (by decide) (by decide)
  rw [p6]
  simp only [Option.bind_some]
  have mv1 := in4 mv1
  have mv2 := in4 mv2
  have mv3 := in3 mv3
  have eg : wI (gn + v1) = gn + v1 := wI_id (by omega) (by omega)
  have ep : wI (pn + v2) = pn + v2 := wI_id (by omega) (by omega)
  rw [eg, ep]
  obtain ⟨sl, i, st, c7, p7, hc7, hni, hi6, hsl⟩ := slotsLoopD _ (a + 64) s1 (1 + s2) s3 (1 + tl) (1 + o1) o2 o3 o4 o5 o6 o7 (pn + v2) (gn + v1) 0 x dv ch ⟨by omega, by omega⟩ ⟨by omega, by omega⟩ n h1 h2 c6 hc6 v3 ⟨by omega, by omega⟩ (nilL (.pair (.int .i64) (.pair (.int .i64) (.pair (.int .i64) .unit)))) rfl
  rw [p7]
  simp only [Option.bind_some]
  have hll := hsl.len
  have htop := hsl.top
  have elast : wI ((sl.len : Int) - 1) = ((sl.len - 1 : Nat) : Int) := by rw [wI_id (by omega) (by omega)]; omega
  rw [elast, bif_t (by simp; omega), Int.toNat_natCast]
  obtain ⟨v4, c8, p8, mv4, hc8⟩ := pickIn c7 hc7 (Ty.zero (.int .i64)) [0, 0, 1, 20] (by decide) (by decide)
  rw [p8]
  simp only [Option.bind_some]
  have mv4 := in4 mv4
  have hlr := hsl.row (sl.len - 1) (by omega)
  have el1 : wI ((sl.get (sl.len - 1)).2.1 + (sl.get (sl.len - 1)).2.2.1) = (sl.get (sl.len - 1)).2.1 + (sl.get (sl.len - 1)).2.2.1 := wI_id (by omega) (by omega)
  rw [el1]
  have el2 : wI ((sl.get (sl.len - 1)).2.1 + (sl.get (sl.len - 1)).2.2.1 + v4) = (sl.get (sl.len - 1)).2.1 + (sl.get (sl.len - 1)).2.2.1 + v4 := wI_id (by omega) (by omega)
  rw [el2]
  generalize hmaj : (sl.get (sl.len - 1)).2.1 + (sl.get (sl.len - 1)).2.2.1 + v4 = mj
  refine ⟨_, c8, rfl, hc8, ?_⟩
  have hxl := hx.len
  have hF : Facts (a + 64, ((s1, (1 + s2, (s3, ()))), (1 + tl, ((1 + o1, (o2, (o3, (o4, (o5, (o6, (o7, ()))))))), (pn + v2, (gn + v1, (mj, (x, (dv, (ch, (sl, ()))))))))))) := by
    refine ⟨hcost.ok, ⟨by show 1 ≤ pn + v2; omega, by show pn + v2 ≤ 5000; omega⟩, ⟨by show 1 ≤ gn + v1; omega, by show gn + v1 ≤ 5000; omega⟩, ⟨by show 1 ≤ mj; omega, by show mj ≤ 5000; omega⟩, hsh, ⟨by show 64 ≤ a + 64; omega, by show a + 64 ≤ 2048; omega⟩, ⟨by show 1 ≤ x.len; omega, by show x.len ≤ 6; omega⟩, partsOk hx h2, ?_⟩
    have ew : wI ((x.len : Int) - 1) = (x.len : Int) - 1 := wI_id (by omega) (by omega)
    refine ⟨by show dv.len ≤ 8; omega, by show ch.len ≤ 8; omega, fun j hj => ?_, fun j hj => ?_, ⟨fun k hk => ?_, fun k m hkm hm => hsl.ord k m hkm (by rw [← hll]; exact hm)⟩, ⟨by show 1 ≤ sl.len; omega, by show sl.len ≤ 16; omega⟩, pn, r1, r2, by show pn + v2 ≥ pn; omega⟩
    · show f60 (dv.get j) 0 (wI ((x.len : Int) - 1)) = true
      have := hdv j hj
      rw [ew]
      exact f60_of (by omega) (by omega)
    · have := hch j hj
      exact ⟨this.1, by show _ < (x.len : Int); rw [hxl]; exact this.2.1, by show _ < (x.len : Int); rw [hxl]; exact this.2.2⟩
    · have hk : k < sl.len := hk
      have hr := hsl.row k (by omega)
      refine ⟨?_, hr.2.2.1, hr.2.2.2.2.1, ?_⟩
      · show f60 (sl.get k).1 0 (wI ((x.len : Int) - 1)) = true
        rw [ew]
        exact f60_of hr.1 (by omega)
      · show (sl.get k).2.1 + (sl.get k).2.2.1 ≤ mj
        by_cases e : k = sl.len - 1
        · subst e; omega
        · have := hsl.ord k (sl.len - 1) (by omega) (by omega)
          omega
  refine ⟨soundOf _ hF (tmod4 (by show 0 ≤ a + 64; omega) (by show (a + 64) % 4 = 0; omega)) ⟨by show 1 ≤ 1 + tl; omega, by show 1 + tl ≤ 8; omega⟩ (fun k hk => ?_) ⟨gn, g2, by show gn ≤ gn + v1; omega⟩, hF, by show mj ≤ 3000; omega⟩
  have hk : k < x.len := hk
  show (x.get k).1.size ≤ 2 ^ 47
  rw [(hx.part k (by omega)).1.name]
  have : k = 0 ∨ k = 1 ∨ k = 2 ∨ k = 3 := by omega
  rcases this with rfl | rfl | rfl | rfl <;> decide

theorem drawD (code : L Int) (h : code.len ≤ 2 ^ 46) : ∃ t : Tb, g39 code = some ((t, ()), ()) ∧ g89 t = some ((true, ()), ()) ∧ Facts t ∧ t.2.2.2.2.2.2.1 ≤ 3000 := by
  obtain ⟨c, e1, hc⟩ := newCur code h
  obtain ⟨b, c1, e2, b0, b1, hc1⟩ := below c hc 3 (by omega) (by omega)
  have eb : wI (2 + b) = ((2 + b.toNat : Nat) : Int) := by rw [wI_id (by omega) (by omega)]; omega
  obtain ⟨t, c2, e3, _, h1, h2, h3⟩ := tablesD c1 hc1 (2 + b.toNat) (by omega) (by omega)
  unfold g39
  rw [e1]; simp only [Option.bind_some]
  rw [e2]; simp only [Option.bind_some]
  rw [eb, e3]
  exact ⟨t, rfl, h1, h2, h3⟩

/-- The slots of sound tables. -/
structure SlF (t : Tb) : Prop where
  pad : 1 ≤ t.2.2.2.2.1 ∧ t.2.2.2.2.1 ≤ 5000
  grd : 1 ≤ t.2.2.2.2.2.1 ∧ t.2.2.2.2.2.1 ≤ 5000
  maj : 1 ≤ t.2.2.2.2.2.2.1 ∧ t.2.2.2.2.2.2.1 ≤ 5000
  np : 1 ≤ (tParts t).len ∧ (tParts t).len ≤ 6
  ns : 1 ≤ (tSlots t).len ∧ (tSlots t).len ≤ 16
  row : ∀ k, k < (tSlots t).len → (0 ≤ ((tSlots t).get k).1 ∧ ((tSlots t).get k).1 < (tParts t).len) ∧ t.2.2.2.2.1 + t.2.2.2.2.2.1 < ((tSlots t).get k).2.2.1 ∧ 0 ≤ ((tSlots t).get k).2.1 ∧ ((tSlots t).get k).2.1 + ((tSlots t).get k).2.2.1 ≤ t.2.2.2.2.2.2.1
  ord : ∀ k m, k < m → m < (tSlots t).len → ((tSlots t).get k).2.1 + ((tSlots t).get k).2.2.1 ≤ ((tSlots t).get m).2.1

theorem slF {t : Tb} (hf : Facts t) : SlF t := by
  obtain ⟨_, hp, hg, hm, _, _, hpl, _, _, _, _, _, ⟨hs1, hs2⟩, hl, _⟩ := hf
  refine ⟨hp, hg, hm, hpl, hl, fun k hk => ?_, hs2⟩
  obtain ⟨r1, r2, r3, r4⟩ := hs1 k hk
  have r1 := (f60_iff _ _ _).mp r1
  rw [wI_id (by omega) (by omega)] at r1
  exact ⟨⟨r1.1, by omega⟩, r2, r3, r4⟩

def inS (s : Sl) (q : Int) : Prop := s.2.1 ≤ q ∧ q < s.2.1 + s.2.2.1

theorem inS_uniq {t : Tb} (h : SlF t) {k m : Nat} (hk : k < (tSlots t).len) (hm : m < (tSlots t).len) {q : Int} (h1 : inS ((tSlots t).get k) q) (h2 : inS ((tSlots t).get m) q) : k = m := by
  obtain ⟨a1, a2⟩ := h1
  obtain ⟨b1, b2⟩ := h2
  rcases Nat.lt_trichotomy k m with e | e | e
  · have := h.ord k m e hm; omega
  · exact e
  · have := h.ord m k e hk; omega

theorem slotI (t : Tb) (h : SlF t) (c : Int) (hc : 0 ≤ c) : (∃ k, k < (tSlots t).len ∧ inS ((tSlots t).get k) (c % t.2.2.2.2.2.2.1) ∧ g92 t c = some (((k : Int), ()), ())) ∨ ((∀ k, k < (tSlots t).len → ¬ inS ((tSlots t).get k) (c % t.2.2.2.2.2.2.1)) ∧ g92 t c = some ((-1, ()), ())) := by
  have hm := h.maj
  have hp := h.pad
  have hg := h.grd
  have hl := h.ns
  have hne : (!decide (t.2.2.2.2.2.2.1 = 0)) = true := by simp; omega
  unfold g92
  rw [bif_t hne, Int.tmod_eq_emod_of_nonneg hc]
  generalize c % t.2.2.2.2.2.2.1 = q
  have e130 : ∀ i, i < (tSlots t).len → (f130 ((tSlots t).get i) q = true ↔ inS ((tSlots t).get i) q) := by
    intro i hi
    have r := h.row i hi
    unfold f130 inS
    rw [wI_id (by omega) (by omega)]
    by_cases a : ((tSlots t).get i).2.1 ≤ q
    · rw [bif_t (by simpa using a)]; simp; omega
    · rw [bif_f (by simpa using a)]; simp; omega
  have h2 := index_loop (step := s129_130_L0) (x := tSlots t) (c := (q, ())) (fun i => f130 ((tSlots t).get i) q) (fun i hi => by
    simp only [s129_130_L0, q129_130_L0]
    refine (bif_t (idx_lt hi)).trans ((bif_t (idx_in hi)).trans ?_)
    rw [wI_succ hi (by omega), Int.toNat_natCast]
    by_cases hq : f130 ((tSlots t).get i) q = true
    · rw [if_pos hq]; exact bif_t hq
    · rw [if_neg hq]; exact bif_f (by simpa using hq)) (by
    simp only [s129_130_L0, q129_130_L0]
    exact bif_f (idx_end (tSlots t).len))
  unfold g129_130
  rcases h2 with ⟨k, k1, k2, _, k4⟩ | ⟨k1, k2⟩
  · have k4' : fixO s129_130_L0 ((t.2.2.2.2.2.2.2.2.2.2.1, ((q, ()), ((t.2.2.2.2.2.2.2.2.2.2.1.len : Int), ((0 : Int), ())))), ()) = some (.inl (((k : Int), ()), ())) := k4
    rw [k4']
    exact .inl ⟨k, k1, (e130 k k1).mp k2, rfl⟩
  · have k2' : fixO s129_130_L0 ((t.2.2.2.2.2.2.2.2.2.2.1, ((q, ()), ((t.2.2.2.2.2.2.2.2.2.2.1.len : Int), ((0 : Int), ())))), ()) = some (.inr (.inl ((), ()))) := k2
    rw [k2']
    exact .inr ⟨fun k hk hi => (by have := k1 k hk; rw [(e130 k hk).mpr hi] at this; cases this), rfl⟩

/-- The phase of a place in a slot. -/
def phOf (t : Tb) (k : Nat) (q : Int) : Int := if q - ((tSlots t).get k).2.1 < t.2.2.2.2.1 then 1 else if q - ((tSlots t).get k).2.1 ≥ ((tSlots t).get k).2.2.1 - t.2.2.2.2.2.1 then 3 else 2

theorem phaseI (t : Tb) (h : SlF t) (c : Int) (hc : 0 ≤ c) : (∃ k, k < (tSlots t).len ∧ inS ((tSlots t).get k) (c % t.2.2.2.2.2.2.1) ∧ g92 t c = some (((k : Int), ()), ()) ∧ g93 t c = some ((phOf t k (c % t.2.2.2.2.2.2.1), (((tSlots t).get k).1, ())), ())) ∨
    ((∀ k, k < (tSlots t).len → ¬ inS ((tSlots t).get k) (c % t.2.2.2.2.2.2.1)) ∧ g92 t c = some ((-1, ()), ()) ∧ g93 t c = some ((0, (-1, ())), ())) := by
  have hm := h.maj
  have hne : (!decide (t.2.2.2.2.2.2.1 = 0)) = true := by simp; omega
  rcases slotI t h c hc with ⟨k, k1, k2, k3⟩ | ⟨k1, k2⟩
  · refine .inl ⟨k, k1, k2, k3, ?_⟩
    unfold g93
    rw [k3]
    simp only [Option.bind_some]
    have c2 : ∀ {α : Type} {a b : α}, (bif decide ((0 : Int) ≤ (k : Int)) && decide ((k : Int) < ((t.2.2.2.2.2.2.2.2.2.2.1).len : Int)) then a else b) = a := bif_t (idx_in k1)
    rw [bif_f (decide_eq_false (by omega)), bif_t hne, c2, Int.toNat_natCast, Int.tmod_eq_emod_of_nonneg hc]
    have r := h.row k k1
    have hg := h.grd
    have hp := h.pad
    obtain ⟨i1, i2⟩ := k2
    unfold phOf
    have r' : 0 ≤ ((t.2.2.2.2.2.2.2.2.2.2.1).get k).2.1 ∧ ((t.2.2.2.2.2.2.2.2.2.2.1).get k).2.1 + ((t.2.2.2.2.2.2.2.2.2.2.1).get k).2.2.1 ≤ t.2.2.2.2.2.2.1 ∧ t.2.2.2.2.1 + t.2.2.2.2.2.1 < ((t.2.2.2.2.2.2.2.2.2.2.1).get k).2.2.1 := ⟨r.2.2.1, r.2.2.2, r.2.1⟩
    have i' : ((t.2.2.2.2.2.2.2.2.2.2.1).get k).2.1 ≤ c % t.2.2.2.2.2.2.1 ∧ c % t.2.2.2.2.2.2.1 < ((t.2.2.2.2.2.2.2.2.2.2.1).get k).2.1 + ((t.2.2.2.2.2.2.2.2.2.2.1).get k).2.2.1 := ⟨i1, i2⟩
    rw [wI_id (n := c % t.2.2.2.2.2.2.1 - _) (by omega) (by omega), wI_id (n := _ - t.2.2.2.2.2.1) (by omega) (by omega)]
    show _ = some (((if c % t.2.2.2.2.2.2.1 - ((t.2.2.2.2.2.2.2.2.2.2.1).get k).2.1 < t.2.2.2.2.1 then (1 : Int) else if c % t.2.2.2.2.2.2.1 - ((t.2.2.2.2.2.2.2.2.2.2.1).get k).2.1 ≥ ((t.2.2.2.2.2.2.2.2.2.2.1).get k).2.2.1 - t.2.2.2.2.2.1 then 3 else 2), (((t.2.2.2.2.2.2.2.2.2.2.1).get k).1, ())), ())
    by_cases a : c % t.2.2.2.2.2.2.1 - ((t.2.2.2.2.2.2.2.2.2.2.1).get k).2.1 < t.2.2.2.2.1
    · rw [if_pos a, bif_t (by simpa using a)]
    · rw [if_neg a, bif_f (by simpa using a)]
      by_cases b : c % t.2.2.2.2.2.2.1 - ((t.2.2.2.2.2.2.2.2.2.2.1).get k).2.1 ≥ ((t.2.2.2.2.2.2.2.2.2.2.1).get k).2.2.1 - t.2.2.2.2.2.1
      · rw [if_pos b, bif_t (decide_eq_true b)]
      · rw [if_neg b, bif_f (decide_eq_false b)]
  · refine .inr ⟨k1, k2, ?_⟩
    unfold g93
    rw [k2]
    rfl

/-- The places in which steps of a slot begin. -/
def run (t : Tb) (k : Nat) (q : Int) : Prop := ((tSlots t).get k).2.1 + t.2.2.2.2.1 ≤ q ∧ q < ((tSlots t).get k).2.1 + ((tSlots t).get k).2.2.1 - t.2.2.2.2.2.1

theorem beginI (t : Tb) (h : SlF t) (c : Int) (hc : 0 ≤ c) : ∃ p : Int, g91 t c = some ((p, ()), ()) ∧ ((∃ k, k < (tSlots t).len ∧ run t k (c % t.2.2.2.2.2.2.1) ∧ p = ((tSlots t).get k).1) ∨ (p = -1 ∧ ∀ k, k < (tSlots t).len → ¬ run t k (c % t.2.2.2.2.2.2.1))) := by
  have hg := h.grd
  have hp := h.pad
  have runin : ∀ k q, k < (tSlots t).len → run t k q → inS ((tSlots t).get k) q := fun k q hk hr => by
    have r := h.row k hk
    exact ⟨by have := hr.1; omega, by have := hr.2; omega⟩
  rcases phaseI t h c hc with ⟨k, k1, k2, _, k3⟩ | ⟨k1, _, k2⟩
  · unfold g91
    rw [k3]
    simp only [Option.bind_some]
    by_cases hr : run t k (c % t.2.2.2.2.2.2.1)
    · have : phOf t k (c % t.2.2.2.2.2.2.1) = 2 := by
        unfold phOf
        obtain ⟨r1, r2⟩ := hr
        rw [if_neg (by omega), if_neg (by omega)]
      rw [this]
      exact ⟨_, rfl, .inl ⟨k, k1, hr, rfl⟩⟩
    · have : phOf t k (c % t.2.2.2.2.2.2.1) ≠ 2 := by
        unfold phOf
        intro e
        apply hr
        by_cases a : c % t.2.2.2.2.2.2.1 - ((tSlots t).get k).2.1 < t.2.2.2.2.1
        · rw [if_pos a] at e; cases e
        · rw [if_neg a] at e
          by_cases b : c % t.2.2.2.2.2.2.1 - ((tSlots t).get k).2.1 ≥ ((tSlots t).get k).2.2.1 - t.2.2.2.2.2.1
          · rw [if_pos b] at e; cases e
          · exact ⟨by omega, by omega⟩
      rw [bif_f (by simpa using this)]
      refine ⟨-1, rfl, .inr ⟨rfl, fun m hm hrm => ?_⟩⟩
      have := inS_uniq h k1 hm k2 (runin m _ hm hrm)
      subst this
      exact hr hrm
  · unfold g91
    rw [k2]
    exact ⟨-1, rfl, .inr ⟨rfl, fun m hm hrm => k1 m hm (runin m _ hm hrm)⟩⟩

/-- How many of n cycles from a on have a property. -/
def cnt (P : Int → Bool) (a : Int) : Nat → Int
  | 0 => 0
  | n + 1 => cnt P a n + if P (a + n) = true then 1 else 0

theorem cnt_congr {P Q : Int → Bool} {a : Int} : ∀ {n : Nat}, (∀ i : Nat, i < n → P (a + i) = Q (a + i)) → cnt P a n = cnt Q a n
  | 0, _ => rfl
  | n + 1, h => by
    show cnt P a n + _ = cnt Q a n + _
    rw [cnt_congr (fun i hi => h i (by omega)), h n (by omega)]

theorem cnt_first (P : Int → Bool) (a : Int) : ∀ n : Nat, cnt P a (n + 1) = (if P a = true then 1 else 0) + cnt P (a + 1) n
  | 0 => by simp [cnt]
  | n + 1 => by
    have ih := cnt_first P a n
    have h1 : cnt P a (n + 1 + 1) = cnt P a (n + 1) + if P (a + ((n + 1 : Nat) : Int)) = true then 1 else 0 := rfl
    have h2 : cnt P (a + 1) (n + 1) = cnt P (a + 1) n + if P (a + 1 + (n : Int)) = true then 1 else 0 := rfl
    have h3 : a + ((n + 1 : Nat) : Int) = a + 1 + (n : Int) := by omega
    rw [h1, h2, ih, h3]; omega

theorem cnt_period {P : Int → Bool} {M : Nat} (h : ∀ c : Int, 0 ≤ c → P (c + M) = P c) : ∀ a : Nat, cnt P a M = cnt P 0 M
  | 0 => rfl
  | a + 1 => by
    have ih := cnt_period h a
    have h1 := cnt_first P (a : Int) M
    have h2 : cnt P (a : Int) (M + 1) = cnt P a M + if P ((a : Int) + (M : Int)) = true then 1 else 0 := rfl
    rw [h2, h (a : Int) (by omega), ih] at h1
    have h3 : (((a + 1 : Nat) : Int)) = (a : Int) + 1 := by omega
    rw [h3]; omega

theorem cnt_or {P Q : Int → Bool} {a : Int} : ∀ {n : Nat}, (∀ i : Nat, i < n → ¬ (P (a + i) = true ∧ Q (a + i) = true)) → cnt (fun q => P q || Q q) a n = cnt P a n + cnt Q a n
  | 0, _ => rfl
  | n + 1, h => by
    have ih := cnt_or (P := P) (Q := Q) (a := a) (n := n) (fun i hi => h i (by omega))
    have hn := h n (by omega)
    show cnt (fun q => P q || Q q) a n + (if (P (a + n) || Q (a + n)) = true then 1 else 0) = (cnt P a n + if P (a + n) = true then 1 else 0) + (cnt Q a n + if Q (a + n) = true then 1 else 0)
    rw [ih]
    cases hp : P (a + n) <;> cases hq : Q (a + n)
    · simp
    · simp; omega
    · simp; omega
    · exact absurd ⟨hp, hq⟩ hn

theorem cnt_none {P : Int → Bool} {a : Int} : ∀ {n : Nat}, (∀ i : Nat, i < n → P (a + i) = false) → cnt P a n = 0
  | 0, _ => rfl
  | n + 1, h => by
    show cnt P a n + _ = 0
    rw [cnt_none (fun i hi => h i (by omega)), h n (by omega)]; rfl

theorem cnt_span {s e : Int} (hs : 0 ≤ s) (he : s ≤ e) : ∀ n : Nat, cnt (fun q => decide (s ≤ q) && decide (q < e)) 0 n = if (n : Int) ≤ s then 0 else if (n : Int) ≤ e then n - s else e - s
  | 0 => by simp [cnt, hs]
  | n + 1 => by
    have ih := cnt_span hs he n
    show cnt _ 0 n + (if (decide (s ≤ 0 + (n : Int)) && decide (0 + (n : Int) < e)) = true then 1 else 0) = _
    rw [ih]
    have e1 : (((n + 1 : Nat) : Int)) = n + 1 := by omega
    rw [e1]
    by_cases h1 : (n : Int) < s
    · rw [if_neg (show ¬ (decide (s ≤ 0 + (n : Int)) && decide (0 + (n : Int) < e)) = true by simp; omega)]
      repeat' split
      all_goals omega
    · by_cases h2 : (n : Int) < e
      · rw [if_pos (show (decide (s ≤ 0 + (n : Int)) && decide (0 + (n : Int) < e)) = true by simp; omega)]
        repeat' split
        all_goals omega
      · rw [if_neg (show ¬ (decide (s ≤ 0 + (n : Int)) && decide (0 + (n : Int) < e)) = true by simp; omega)]
        repeat' split
        all_goals omega

def lenJ (t : Tb) : Nat → Int
  | 0 => 0
  | j + 1 => lenJ t j + ((tSlots t).get j).2.2.1
def shareJ (t : Tb) (p : Int) : Nat → Int
  | 0 => 0
  | j + 1 => shareJ t p j + if ((tSlots t).get j).1 = p then ((tSlots t).get j).2.2.1 - t.2.2.2.2.1 - t.2.2.2.2.2.1 else 0
def runJ (t : Tb) (p : Int) : Nat → Int → Bool
  | 0, _ => false
  | j + 1, q => runJ t p j q || (decide (((tSlots t).get j).1 = p) && (decide (((tSlots t).get j).2.1 + t.2.2.2.2.1 ≤ q) && decide (q < ((tSlots t).get j).2.1 + ((tSlots t).get j).2.2.1 - t.2.2.2.2.2.1)))

theorem runJ_iff (t : Tb) (p q : Int) : ∀ j, runJ t p j q = true ↔ ∃ k, k < j ∧ ((tSlots t).get k).1 = p ∧ run t k q
  | 0 => by simp [runJ]
  | j + 1 => by
    have ih := runJ_iff t p q j
    simp only [runJ, Bool.or_eq_true, ih, Bool.and_eq_true, decide_eq_true_eq]
    constructor
    · rintro (⟨k, h1, h2⟩ | ⟨h1, h2⟩)
      · exact ⟨k, by omega, h2⟩
      · exact ⟨j, by omega, h1, h2⟩
    · rintro ⟨k, h1, h2, h3⟩
      by_cases e : k = j
      · subst e; exact .inr ⟨h2, h3⟩
      · exact .inl ⟨k, by omega, h2, h3⟩

theorem lenJ_le (t : Tb) (h : SlF t) : ∀ j, j ≤ (tSlots t).len → 0 ≤ lenJ t j ∧ lenJ t j ≤ t.2.2.2.2.2.2.1 ∧ (j < (tSlots t).len → lenJ t j ≤ ((tSlots t).get j).2.1) := by
  have hp := h.pad
  have hg := h.grd
  have hm := h.maj
  intro j
  induction j with
  | zero => exact fun hj => ⟨by simp [lenJ], by simp only [lenJ]; omega, fun h0 => by have := h.row 0 h0; simp only [lenJ]; omega⟩
  | succ j ih =>
    intro hj
    obtain ⟨i1, i2, i3⟩ := ih (by omega)
    have i3 := i3 (by omega)
    have r := h.row j (by omega)
    simp only [lenJ]
    refine ⟨by omega, by omega, fun h1 => ?_⟩
    have := h.ord j (j + 1) (by omega) h1
    omega

theorem share_bound (t : Tb) (h : SlF t) (p : Int) : ∀ j, j ≤ (tSlots t).len → 0 ≤ shareJ t p j ∧ shareJ t p j ≤ lenJ t j := by
  have hp := h.pad
  have hg := h.grd
  intro j
  induction j with
  | zero => exact fun _ => ⟨by simp [shareJ], by simp [shareJ, lenJ]⟩
  | succ j ih =>
    intro hj
    have i := ih (by omega)
    have r := h.row j (by omega)
    simp only [shareJ, lenJ]
    split <;> omega

theorem cnt_runJ (t : Tb) (h : SlF t) (p : Int) (M : Nat) (hM : (M : Int) = t.2.2.2.2.2.2.1) : ∀ j, j ≤ (tSlots t).len → cnt (runJ t p j) 0 M = shareJ t p j := by
  have hp := h.pad
  have hg := h.grd
  intro j
  induction j with
  | zero => exact fun _ => cnt_none fun i _ => rfl
  | succ j ih =>
    intro hj
    have r := h.row j (by omega)
    have e : runJ t p (j + 1) = fun q => runJ t p j q || (decide (((tSlots t).get j).1 = p) && (decide (((tSlots t).get j).2.1 + t.2.2.2.2.1 ≤ q) && decide (q < ((tSlots t).get j).2.1 + ((tSlots t).get j).2.2.1 - t.2.2.2.2.2.1))) := rfl
    rw [e, cnt_or, ih (by omega)]
    · simp only [shareJ]
      by_cases hq : ((tSlots t).get j).1 = p
      · rw [if_pos hq]
        have e2 : (fun q : Int => decide (((tSlots t).get j).1 = p) && (decide (((tSlots t).get j).2.1 + t.2.2.2.2.1 ≤ q) && decide (q < ((tSlots t).get j).2.1 + ((tSlots t).get j).2.2.1 - t.2.2.2.2.2.1))) = fun q => (decide (((tSlots t).get j).2.1 + t.2.2.2.2.1 ≤ q) && decide (q < ((tSlots t).get j).2.1 + ((tSlots t).get j).2.2.1 - t.2.2.2.2.2.1)) := by
          funext q; simp [hq]
        rw [e2, cnt_span (by omega) (by omega)]
        by_cases h1 : (M : Int) ≤ ((tSlots t).get j).2.1 + t.2.2.2.2.1
        · omega
        · rw [if_neg h1]
          by_cases h2 : (M : Int) ≤ ((tSlots t).get j).2.1 + ((tSlots t).get j).2.2.1 - t.2.2.2.2.2.1
          · omega
          · rw [if_neg h2]; omega
      · rw [if_neg hq, cnt_none]
        intro i _
        simp [hq]
    · rintro i _ ⟨h1, h2⟩
      obtain ⟨k, k1, k2, k3⟩ := (runJ_iff t p _ j).mp h1
      simp only [Bool.and_eq_true, decide_eq_true_eq] at h2
      have ho := h.ord k j k1 (by omega)
      have rk := h.row k (by omega)
      have := k3.2
      omega

theorem sum_one (a v : Int) : ∀ n : Nat, 0 ≤ a → a < n → (List.range n).foldl (fun s (p : Nat) => s + if a = (p : Int) then v else 0) 0 = v := by
  intro n
  induction n with
  | zero => intro h1 h2; omega
  | succ n ih =>
    intro h1 h2
    rw [List.range_succ, List.foldl_append]
    simp only [List.foldl_cons, List.foldl_nil]
    by_cases e : a = (n : Int)
    · rw [if_pos e]
      have : ∀ (l : List Nat) (s : Int), (∀ p ∈ l, (p : Int) < a) → l.foldl (fun s (p : Nat) => s + if a = (p : Int) then v else 0) s = s := by
        intro l
        induction l with
        | nil => intro s _; rfl
        | cons p l ih2 =>
          intro s hl
          simp only [List.foldl_cons]
          have := hl p (by simp)
          rw [if_neg (by omega), Int.add_zero]
          exact ih2 s fun q hq => hl q (by simp [hq])
      rw [this _ _ (fun p hp => by have := List.mem_range.mp hp; omega)]; omega
    · rw [if_neg e, ih h1 (by omega)]; omega

/-- The shares of the first n partitions. -/
def sumP (t : Tb) (j : Nat) : Nat → Int
  | 0 => 0
  | n + 1 => sumP t j n + shareJ t n j

theorem sumP_succ (t : Tb) (j : Nat) : ∀ n : Nat, sumP t (j + 1) n = sumP t j n + (if 0 ≤ ((tSlots t).get j).1 ∧ ((tSlots t).get j).1 < n then ((tSlots t).get j).2.2.1 - t.2.2.2.2.1 - t.2.2.2.2.2.1 else 0)
  | 0 => by simp only [sumP]; rw [if_neg (by omega)]; rfl
  | n + 1 => by
    have ih := sumP_succ t j n
    simp only [sumP, shareJ]
    rw [ih]
    have e1 : (((n + 1 : Nat) : Int)) = n + 1 := by omega
    rw [e1]
    by_cases h1 : ((tSlots t).get j).1 = (n : Int)
    · rw [if_pos h1, if_neg (by omega), if_pos (by omega)]; omega
    · rw [if_neg h1]
      by_cases h2 : 0 ≤ ((tSlots t).get j).1 ∧ ((tSlots t).get j).1 < n
      · rw [if_pos h2, if_pos (by omega)]; omega
      · rw [if_neg h2, if_neg (by omega)]; omega

theorem sumP_all (t : Tb) (h : SlF t) : ∀ j, j ≤ (tSlots t).len → sumP t j (tParts t).len = lenJ t j - j * (t.2.2.2.2.1 + t.2.2.2.2.2.1) := by
  intro j
  induction j with
  | zero =>
    intro _
    have : ∀ n, sumP t 0 n = 0 := by
      intro n
      induction n with
      | zero => rfl
      | succ n ih => simp only [sumP, ih, shareJ]; rfl
    rw [this]; simp [lenJ]
  | succ j ih =>
    intro hj
    have r := h.row j (by omega)
    rw [sumP_succ, ih (by omega), if_pos r.1]
    simp only [lenJ]
    have e1 : (((j + 1 : Nat) : Int)) = j + 1 := by omega
    rw [e1, Int.add_mul]; omega
theorem sumP_mono (t : Tb) (h : SlF t) {j : Nat} (hj : j ≤ (tSlots t).len) : ∀ {n m : Nat}, n ≤ m → 0 ≤ sumP t j n ∧ sumP t j n ≤ sumP t j m := by
  have hb : ∀ p, 0 ≤ shareJ t p j := fun p => (share_bound t h p j hj).1
  have h0 : ∀ n, 0 ≤ sumP t j n := by
    intro n
    induction n with
    | zero => simp [sumP]
    | succ n ih => simp only [sumP]; have := hb n; omega
  intro n m hnm
  refine ⟨h0 n, ?_⟩
  induction m with
  | zero => have : n = 0 := by omega
            subst this; omega
  | succ m ih =>
    by_cases e : n = m + 1
    · subst e; omega
    · have := ih (by omega)
      simp only [sumP]; have := hb m; omega

theorem cyc_ok {c : Int} (h1 : 0 ≤ c) (h2 : c ≤ 50000) : f90 c = true := f61_of h1 h2

theorem gapI (t : Tb) (hs : g89 t = some ((true, ()), ())) (h : SlF t) : g40 t = some ((t.2.2.2.2.2.2.1 - lenJ t (tSlots t).len, ()), ()) := by
  have hm := h.maj
  have hl := h.ns
  unfold g40
  rw [hs]
  simp only [Option.bind_some, Bool.not_true, cond_false]
  obtain ⟨d, e1, e2⟩ := fixO_rel (step := s40_L0) (fun a => (tSlots t).len - a.1.2.2.2.1.toNat)
    (fun a => ∃ i : Nat, a = ((t.2.2.2.2.2.2.1 - lenJ t i, (tSlots t, (((tSlots t).len : Int), ((i : Int), ())))), ()) ∧ i ≤ (tSlots t).len) (fun _ d => d = .inl ((t.2.2.2.2.2.2.1 - lenJ t (tSlots t).len, ()), ()))
    (by
      rintro _ ⟨i, rfl, hi⟩
      show (∃ y, q40_L0 _ (tSlots t) _ i = _ ∧ _) ∨ ∃ d, q40_L0 _ (tSlots t) _ i = _ ∧ _
      unfold q40_L0
      by_cases h1 : i < (tSlots t).len
      · have b1 := lenJ_le t h i hi
        have b2 := lenJ_le t h (i + 1) h1
        rw [bif_t (idx_lt h1), bif_t (idx_in h1), wI_succ h1 (by omega), Int.toNat_natCast]
        have e : t.2.2.2.2.2.2.1 - lenJ t i - ((tSlots t).get i).2.2.1 = t.2.2.2.2.2.2.1 - lenJ t (i + 1) := by simp only [lenJ]; omega
        rw [e, wI_id (by omega) (by omega)]
        exact .inl ⟨_, rfl, ⟨i + 1, rfl, h1⟩, by simp only [Int.toNat_natCast]; omega, fun d hd => hd⟩
      · have : i = (tSlots t).len := by omega
        subst this
        rw [bif_f (idx_end _)]
        exact .inr ⟨_, rfl, rfl⟩) ((t.2.2.2.2.2.2.1, (tSlots t, (((tSlots t).len : Int), ((0 : Int), ())))), ()) ⟨0, by simp [lenJ], Nat.zero_le _⟩
  subst e2
  have e1' : fixO s40_L0 ((t.2.2.2.2.2.2.1, (t.2.2.2.2.2.2.2.2.2.2.1, ((t.2.2.2.2.2.2.2.2.2.2.1.len : Int), ((0 : Int), ())))), ()) = _ := e1
  rw [e1']
  rfl

theorem shareI (t : Tb) (hs : g89 t = some ((true, ()), ())) (h : SlF t) (p : Int) : g41 t p = some ((shareJ t p (tSlots t).len, ()), ()) := by
  have hm := h.maj
  have hl := h.ns
  have hp := h.pad
  have hg := h.grd
  unfold g41
  rw [hs]
  simp only [Option.bind_some, Bool.not_true, cond_false]
  obtain ⟨d, e1, e2⟩ := fixO_rel (step := s41_L0) (fun a => (tSlots t).len - a.1.2.2.2.2.2.1.toNat)
    (fun a => ∃ i : Nat, a = ((p, ((), (shareJ t p i, (tSlots t, (((tSlots t).len : Int), ((i : Int), ())))))), (t, ())) ∧ i ≤ (tSlots t).len) (fun _ d => d = .inl ((shareJ t p (tSlots t).len, ()), ()))
    (by
      rintro _ ⟨i, rfl, hi⟩
      show (∃ y, q41_L0 _ _ (tSlots t) _ i t = _ ∧ _) ∨ ∃ d, q41_L0 _ _ (tSlots t) _ i t = _ ∧ _
      unfold q41_L0
      by_cases h1 : i < (tSlots t).len
      · have b1 := share_bound t h p i hi
        have b2 := share_bound t h p (i + 1) h1
        have b3 := lenJ_le t h i hi
        have b4 := lenJ_le t h (i + 1) h1
        have r := h.row i h1
        rw [bif_t (idx_lt h1), bif_t (idx_in h1), wI_succ h1 (by omega), Int.toNat_natCast, wI_id (n := _ - t.2.2.2.2.1) (by omega) (by omega), wI_id (n := _ - t.2.2.2.2.2.1) (by omega) (by omega)]
        by_cases hq : ((tSlots t).get i).1 = p
        · rw [bif_t (by simpa using hq)]
          have e : shareJ t p i + (((tSlots t).get i).2.2.1 - t.2.2.2.2.1 - t.2.2.2.2.2.1) = shareJ t p (i + 1) := by simp only [shareJ]; rw [if_pos hq]
          rw [e, wI_id (by omega) (by omega)]
          exact .inl ⟨_, rfl, ⟨i + 1, rfl, h1⟩, by simp only [Int.toNat_natCast]; omega, fun d hd => hd⟩
        · rw [bif_f (by simpa using hq)]
          have e : shareJ t p (i + 1) = shareJ t p i := by simp only [shareJ]; rw [if_neg hq]; omega
          exact .inl ⟨_, rfl, ⟨i + 1, by rw [e], h1⟩, by simp only [Int.toNat_natCast]; omega, fun d hd => hd⟩
      · have : i = (tSlots t).len := by omega
        subst this
        rw [bif_f (idx_end _)]
        exact .inr ⟨_, rfl, rfl⟩) ((p, ((), ((0 : Int), (tSlots t, (((tSlots t).len : Int), ((0 : Int), ())))))), (t, ())) ⟨0, rfl, Nat.zero_le _⟩
  subst e2
  have e1' : fixO s41_L0 ((p, ((), ((0 : Int), (t.2.2.2.2.2.2.2.2.2.2.1, ((t.2.2.2.2.2.2.2.2.2.2.1.len : Int), ((0 : Int), ())))))), (t, ())) = _ := e1
  rw [e1']
  rfl

theorem run_uniq {t : Tb} (h : SlF t) {k m : Nat} (hk : k < (tSlots t).len) (hm : m < (tSlots t).len) {q : Int} (h1 : run t k q) (h2 : run t m q) : k = m := by
  have hp := h.pad
  have hg := h.grd
  have rk := h.row k hk
  have rm := h.row m hm
  exact inS_uniq h hk hm (q := q) ⟨by have := h1.1; omega, by have := h1.2; omega⟩ ⟨by have := h2.1; omega, by have := h2.2; omega⟩

theorem begins_iff (t : Tb) (h : SlF t) (c : Int) (hc : 0 ≤ c) (p : Int) (hp : 0 ≤ p) : ∃ y : Int, g91 t c = some ((y, ()), ()) ∧ (y == p) = runJ t p (tSlots t).len (c % t.2.2.2.2.2.2.1) := by
  obtain ⟨y, e1, e2⟩ := beginI t h c hc
  refine ⟨y, e1, ?_⟩
  rw [Bool.eq_iff_iff, beq_iff_eq, runJ_iff]
  rcases e2 with ⟨k, k1, k2, rfl⟩ | ⟨rfl, k2⟩
  · constructor
    · intro e; exact ⟨k, k1, e, k2⟩
    · rintro ⟨m, m1, m2, m3⟩
      have := run_uniq h k1 m1 k2 m3
      subst this; exact m2
  · constructor
    · intro e; omega
    · rintro ⟨m, m1, m2, m3⟩
      exact absurd m3 (k2 m m1)

theorem cyclesI (t : Tb) (hs : g89 t = some ((true, ()), ())) (h : SlF t) (p : Int) (hp : 0 ≤ p) (a : Nat) (ha : a ≤ 1000) (hM : t.2.2.2.2.2.2.1 ≤ 5000) : g43 t p a (a + t.2.2.2.2.2.2.1) = some ((shareJ t p (tSlots t).len, ()), ()) := by
  have hm := h.maj
  obtain ⟨M, hMe⟩ : ∃ M : Nat, (M : Int) = t.2.2.2.2.2.2.1 := ⟨t.2.2.2.2.2.2.1.toNat, by omega⟩
  have hcnt : cnt (fun c => runJ t p (tSlots t).len (c % t.2.2.2.2.2.2.1)) a M = shareJ t p (tSlots t).len := by
    rw [cnt_period (M := M) (fun c _ => by rw [hMe, Int.add_emod_right]) a, ← cnt_runJ t h p M hMe _ (Nat.le_refl _)]
    refine cnt_congr fun i hi => ?_
    show runJ t p (tSlots t).len ((0 + (i : Int)) % t.2.2.2.2.2.2.1) = _
    rw [Int.emod_eq_of_lt (by omega) (by omega)]
  have hbnd : ∀ (P : Int → Bool) (a : Int) (n : Nat), 0 ≤ cnt P a n ∧ cnt P a n ≤ n := by
    intro P a n
    induction n with
    | zero => simp [cnt]
    | succ n ih => simp only [cnt]; split <;> omega
  unfold g43
  rw [hs]
  simp only [Option.bind_some, Bool.not_true, cond_false]
  rw [cyc_ok (c := (a : Int)) (by omega) (by omega), cyc_ok (c := (a : Int) + t.2.2.2.2.2.2.1) (by omega) (by omega)]
  simp only [Bool.not_true, cond_false]
  obtain ⟨d, e1, e2⟩ := fixO_rel (step := s43_L0) (fun x => a + M - x.1.2.2.2.2.1.toNat)
    (fun x => ∃ i : Nat, x = ((p, ((a : Int) + t.2.2.2.2.2.2.1, ((), (cnt (fun c => runJ t p (tSlots t).len (c % t.2.2.2.2.2.2.1)) a i, ((((a + i : Nat)) : Int), ()))))), (t, ())) ∧ i ≤ M) (fun _ d => d = .inl ((cnt (fun c => runJ t p (tSlots t).len (c % t.2.2.2.2.2.2.1)) a M, ()), ()))
    (by
      rintro _ ⟨i, rfl, hi⟩
      show (∃ y, q43_L0 p _ _ ((a + i : Nat) : Int) t = _ ∧ _) ∨ ∃ d, q43_L0 p _ _ ((a + i : Nat) : Int) t = _ ∧ _
      unfold q43_L0
      by_cases h1 : i < M
      · obtain ⟨y, y1, y2⟩ := begins_iff t h ((a + i : Nat) : Int) (by omega) p hp
        have hb := hbnd (fun c => runJ t p (tSlots t).len (c % t.2.2.2.2.2.2.1)) a i
        have ec : ((a + i : Nat) : Int) = (a : Int) + (i : Int) := by omega
        rw [bif_t (by simp; omega), bif_t (by simpa using hp), y1]
        simp only [Option.bind_some]
        rw [wI_succ (n := 7000) (by omega) (by omega), y2, wI_id (n := _ + 1) (by omega) (by omega)]
        cases hr : runJ t p (tSlots t).len (((a + i : Nat) : Int) % t.2.2.2.2.2.2.1) with
        | true =>
          refine .inl ⟨_, rfl, ⟨i + 1, ?_, h1⟩, by simp only [Int.toNat_natCast]; omega, fun d hd => hd⟩
          rw [ec] at hr
          have : cnt (fun c => runJ t p (tSlots t).len (c % t.2.2.2.2.2.2.1)) a (i + 1) = cnt (fun c => runJ t p (tSlots t).len (c % t.2.2.2.2.2.2.1)) a i + 1 := by
            show cnt _ _ _ + (if _ then _ else _) = _
            rw [if_pos hr]
          rw [this]; rfl
        | false =>
          refine .inl ⟨_, rfl, ⟨i + 1, ?_, h1⟩, by simp only [Int.toNat_natCast]; omega, fun d hd => hd⟩
          rw [ec] at hr
          have : cnt (fun c => runJ t p (tSlots t).len (c % t.2.2.2.2.2.2.1)) a (i + 1) = cnt (fun c => runJ t p (tSlots t).len (c % t.2.2.2.2.2.2.1)) a i := by
            show cnt _ _ _ + (if _ then _ else _) = _
            rw [if_neg (by simp only [hr]; simp), Int.add_zero]
          rw [this]; rfl
      · have : i = M := by omega
        subst this
        rw [bif_f (by simp; omega)]
        exact .inr ⟨_, rfl, rfl⟩) ((p, ((a : Int) + t.2.2.2.2.2.2.1, ((), ((0 : Int), (((a : Nat) : Int), ()))))), (t, ())) ⟨0, rfl, Nat.zero_le _⟩
  subst e2
  rw [e1, hcnt]
  rfl

theorem startsI (t : Tb) (hs : g89 t = some ((true, ()), ())) (h : SlF t) (p : Int) (hM : t.2.2.2.2.2.2.1 ≤ 5000) : ∃ l : L Int, g44 t p 0 t.2.2.2.2.2.2.1 = some ((l, ()), ()) ∧ ((∃ k, k < (tSlots t).len ∧ ((tSlots t).get k).1 = p) → 1 ≤ l.len) := by
  have hm := h.maj
  have hg := h.grd
  have hpd := h.pad
  have hne : (!decide (t.2.2.2.2.2.2.1 = 0)) = true := by simp; omega
  obtain ⟨M, hMe⟩ : ∃ M : Nat, (M : Int) = t.2.2.2.2.2.2.1 := ⟨t.2.2.2.2.2.2.1.toNat, by omega⟩
  unfold g44
  rw [hs]
  simp only [Option.bind_some, Bool.not_true, cond_false]
  rw [cyc_ok (c := 0) (by omega) (by omega), cyc_ok (c := t.2.2.2.2.2.2.1) (by omega) (by omega)]
  simp only [Bool.not_true, cond_false]
  obtain ⟨d, e1, l, rfl, e2⟩ := fixO_rel (step := s44_L0) (fun x => M - x.1.2.2.2.2.1.toNat)
    (fun x => ∃ (i : Nat) (l : L Int), x = ((p, (t.2.2.2.2.2.2.1, ((), (l, ((i : Int), ()))))), (t, ())) ∧ i ≤ M ∧ l.len ≤ i ∧ ((∃ k, k < (tSlots t).len ∧ ((tSlots t).get k).1 = p ∧ ((tSlots t).get k).2.1 < i) → 1 ≤ l.len)) (fun _ d => ∃ l : L Int, d = .inl ((l, ()), ()) ∧ ((∃ k, k < (tSlots t).len ∧ ((tSlots t).get k).1 = p ∧ ((tSlots t).get k).2.1 < M) → 1 ≤ l.len))
    (by
      rintro _ ⟨i, l, rfl, hi, hl, hk⟩
      show (∃ y, q44_L0 p _ l i t = _ ∧ _) ∨ ∃ d, q44_L0 p _ l i t = _ ∧ _
      unfold q44_L0
      by_cases h1 : i < M
      · have hq : (i : Int) % t.2.2.2.2.2.2.1 = i := Int.emod_eq_of_lt (by omega) (by omega)
        have hqt : Int.tmod (i : Int) t.2.2.2.2.2.2.1 = i := by rw [Int.tmod_eq_emod_of_nonneg (by omega), hq]
        have hmost : decide (l.len + (L.of (Ty.zero (.int .i64)) [(i : Int)]).len ≤ most) = true := by
          have : most = 4294967296 := by decide
          simp only [decide_eq_true_eq]
          show l.len + 1 ≤ most
          omega
        rw [bif_t (by simp; omega), wI_succ (n := 7000) (by omega) (by omega)]
        have goon : ∀ l' : L Int, l'.len ≤ i + 1 → (1 ≤ l.len → 1 ≤ l'.len) → ((∃ k, k < (tSlots t).len ∧ ((tSlots t).get k).1 = p ∧ ((tSlots t).get k).2.1 = (i : Int)) → 1 ≤ l'.len) →
            (∃ k, k < (tSlots t).len ∧ ((tSlots t).get k).1 = p ∧ ((tSlots t).get k).2.1 < ((i + 1 : Nat) : Int)) → 1 ≤ l'.len := by
          rintro l' _ h3 h4 ⟨k, k1, k2, k3⟩
          by_cases e : ((tSlots t).get k).2.1 = (i : Int)
          · exact h4 ⟨k, k1, k2, e⟩
          · exact h3 (hk ⟨k, k1, k2, by omega⟩)
        rcases slotI t h i (by omega) with ⟨k, k1, k2, k3⟩ | ⟨k1, k2⟩
        · rw [k3]
          simp only [Option.bind_some]
          have c2 : ∀ {α : Type} {a b : α}, (bif decide ((0 : Int) ≤ (k : Int)) && decide ((k : Int) < ((t.2.2.2.2.2.2.2.2.2.2.1).len : Int)) then a else b) = a := bif_t (idx_in k1)
          rw [bif_t (by simp), c2, c2, Int.toNat_natCast, hqt]
          rw [hq] at k2
          have same : ∀ m, m < (tSlots t).len → ((tSlots t).get m).2.1 = (i : Int) → m = k := fun m hm e => by
            have r := h.row m hm
            exact inS_uniq h hm k1 (q := i) ⟨by omega, by omega⟩ k2
          by_cases hp : ((tSlots t).get k).1 = p
          · rw [bif_t (show (((t.2.2.2.2.2.2.2.2.2.2.1).get k).1 == p) = true from beq_iff_eq.mpr hp), bif_t hne]
            by_cases hst : ((tSlots t).get k).2.1 = (i : Int)
            · rw [bif_t (show (((t.2.2.2.2.2.2.2.2.2.2.1).get k).2.1 == (i : Int)) = true from beq_iff_eq.mpr hst), bif_t hmost]
              exact .inl ⟨_, rfl, ⟨i + 1, _, rfl, h1, by show l.len + 1 ≤ i + 1; omega, fun _ => by show 1 ≤ l.len + 1; omega⟩, by simp only [Int.toNat_natCast]; omega, fun d hd => hd⟩
            · rw [bif_f (show (((t.2.2.2.2.2.2.2.2.2.2.1).get k).2.1 == (i : Int)) = false from beq_eq_false_iff_ne.mpr hst)]
              exact .inl ⟨_, rfl, ⟨i + 1, l, rfl, h1, by omega, goon l (by omega) id fun ⟨m, m1, m2, m3⟩ => by
                have := same m m1 m3
                subst this; exact absurd m3 hst⟩, by simp only [Int.toNat_natCast]; omega, fun d hd => hd⟩
          · rw [bif_f (show (((t.2.2.2.2.2.2.2.2.2.2.1).get k).1 == p) = false from beq_eq_false_iff_ne.mpr hp)]
            exact .inl ⟨_, rfl, ⟨i + 1, l, rfl, h1, by omega, goon l (by omega) id fun ⟨m, m1, m2, m3⟩ => by
              have := same m m1 m3
              subst this; exact absurd m2 hp⟩, by simp only [Int.toNat_natCast]; omega, fun d hd => hd⟩
        · rw [k2]
          simp only [Option.bind_some]
          rw [bif_f (by decide)]
          exact .inl ⟨_, rfl, ⟨i + 1, l, rfl, h1, by omega, goon l (by omega) id fun ⟨m, m1, m2, m3⟩ => by
            have r := h.row m m1
            exact absurd (show inS ((tSlots t).get m) ((i : Int) % t.2.2.2.2.2.2.1) by rw [hq]; exact ⟨by omega, by omega⟩) (k1 m m1)⟩, by simp only [Int.toNat_natCast]; omega, fun d hd => hd⟩
      · have : i = M := by omega
        subst this
        rw [bif_f (by simp; omega)]
        exact .inr ⟨_, rfl, l, rfl, hk⟩) ((p, (t.2.2.2.2.2.2.1, ((), (nilL (.int .i64), ((0 : Int), ()))))), (t, ())) ⟨0, _, rfl, Nat.zero_le _, Nat.le_refl 0, fun ⟨k, k1, k2, k3⟩ => by have := h.row k k1; omega⟩
  rw [e1]
  refine ⟨l, rfl, fun ⟨k, k1, k2⟩ => e2 ⟨k, k1, k2, ?_⟩⟩
  have r := h.row k k1
  omega

theorem share_zero (t : Tb) (p : Int) : ∀ j, (¬ ∃ k, k < j ∧ ((tSlots t).get k).1 = p) → shareJ t p j = 0
  | 0, _ => rfl
  | j + 1, h => by
    simp only [shareJ]
    rw [share_zero t p j (fun ⟨k, k1, k2⟩ => h ⟨k, by omega, k2⟩), if_neg (fun e => h ⟨j, by omega, e⟩)]; rfl

/-- The next cycle in which a slot begins. -/
structure Nxt (t : Tb) (c n : Int) : Prop where
  lo : c ≤ n
  hi : n ≤ c + t.2.2.2.2.2.2.1
  at_ : ∃ i, i < (tSlots t).len ∧ n % t.2.2.2.2.2.2.1 = ((tSlots t).get i).2.1
  first : ∀ m, c ≤ m → m < n → ∀ k, k < (tSlots t).len → m % t.2.2.2.2.2.2.1 ≠ ((tSlots t).get k).2.1

theorem start_mono {t : Tb} (h : SlF t) {k m : Nat} (hkm : k ≤ m) (hm : m < (tSlots t).len) : ((tSlots t).get k).2.1 ≤ ((tSlots t).get m).2.1 := by
  have hp := h.pad
  have hg := h.grd
  by_cases e : k = m
  · subst e; omega
  · have := h.ord k m (by omega) hm
    have r := h.row k (by omega)
    omega

theorem emod_base {M q b : Int} (h1 : b % M = 0) (h2 : 0 ≤ q) (h3 : q < M) : (b + q) % M = q := by
  rw [Int.add_emod, h1, Int.zero_add, Int.emod_emod_of_dvd _ (Int.dvd_refl M), Int.emod_eq_of_lt h2 h3]

theorem nextI (t : Tb) (h : SlF t) (c : Int) (hc : 0 ≤ c) (hc2 : c ≤ 20000) : ∃ n : Int, g94 t c = some ((n, ()), ()) ∧ Nxt t c n := by
  have hm := h.maj
  have hl := h.ns
  have hp := h.pad
  have hg := h.grd
  have hne : (!decide (t.2.2.2.2.2.2.1 = 0)) = true := by simp; omega
  unfold g94
  rw [bif_t hne, Int.tmod_eq_emod_of_nonneg hc]
  have q0 : 0 ≤ c % t.2.2.2.2.2.2.1 := Int.emod_nonneg _ (by omega)
  have q1 : c % t.2.2.2.2.2.2.1 < t.2.2.2.2.2.2.1 := Int.emod_lt_of_pos _ (by omega)
  have qc : c % t.2.2.2.2.2.2.1 ≤ c := by
    by_cases hlt : c < t.2.2.2.2.2.2.1
    · rw [Int.emod_eq_of_lt hc hlt]; omega
    · omega
  rw [wI_id (n := c - c % t.2.2.2.2.2.2.1) (by omega) (by omega)]
  generalize hb : c - c % t.2.2.2.2.2.2.1 = base
  have hb0 : base % t.2.2.2.2.2.2.1 = 0 := by rw [← hb]; exact Int.emod_eq_zero_of_dvd (Int.dvd_self_sub_emod)
  have rowb : ∀ k, k < (tSlots t).len → 0 ≤ ((tSlots t).get k).2.1 ∧ ((tSlots t).get k).2.1 < t.2.2.2.2.2.2.1 := fun k hk => by
    have r := h.row k hk
    omega
  have below : ∀ m : Int, base ≤ m → m < base + t.2.2.2.2.2.2.1 → m % t.2.2.2.2.2.2.1 = m - base := fun m m1 m2 => by
    have := emod_base (M := t.2.2.2.2.2.2.1) (q := m - base) hb0 (by omega) (by omega)
    rwa [show base + (m - base) = m by omega] at this
  have above : ∀ m : Int, base + t.2.2.2.2.2.2.1 ≤ m → m < base + 2 * t.2.2.2.2.2.2.1 → m % t.2.2.2.2.2.2.1 = m - base - t.2.2.2.2.2.2.1 := fun m m1 m2 => by
    have hb1 : (base + t.2.2.2.2.2.2.1) % t.2.2.2.2.2.2.1 = 0 := by rw [Int.add_emod_right, hb0]
    have := emod_base (M := t.2.2.2.2.2.2.1) (q := m - base - t.2.2.2.2.2.2.1) hb1 (by omega) (by omega)
    rwa [show base + t.2.2.2.2.2.2.1 + (m - base - t.2.2.2.2.2.2.1) = m by omega] at this
  have h2 := scan (step := s94_L0) (fun i => ((c, ((), (base, (tSlots t, (((tSlots t).len : Int), ((i : Int), ())))))), (t, ()))) (tSlots t).len (fun i => !decide (base + ((tSlots t).get i).2.1 ≥ c)) (fun i => .inl ((base + ((tSlots t).get i).2.1, ()), ())) (.inr (.inl (((), (base, ())), (t, ()))))
    (fun i hi ho => by
      have r := rowb i hi
      have ho : decide (base + ((tSlots t).get i).2.1 ≥ c) = false := by simpa using ho
      simp only [s94_L0, q94_L0]
      refine (bif_t (idx_lt hi)).trans ((bif_t (idx_in hi)).trans ?_)
      rw [wI_succ hi (by omega), Int.toNat_natCast, wI_id (by omega) (by omega), bif_f ho])
    (fun i hi ho => by
      have r := rowb i hi
      have ho : decide (base + ((tSlots t).get i).2.1 ≥ c) = true := by simpa using ho
      simp only [s94_L0, q94_L0]
      refine (bif_t (idx_lt hi)).trans ((bif_t (idx_in hi)).trans ?_)
      rw [Int.toNat_natCast, wI_id (by omega) (by omega), bif_t ho])
    (by
      simp only [s94_L0, q94_L0]
      exact bif_f (idx_end (tSlots t).len))
  rcases h2 with ⟨i, hi, ho, hj, e⟩ | ⟨ha, e⟩
  · have e' : fixO s94_L0 ((c, ((), (base, (t.2.2.2.2.2.2.2.2.2.2.1, ((t.2.2.2.2.2.2.2.2.2.2.1.len : Int), ((0 : Int), ())))))), (t, ())) = _ := e
    rw [e']
    have r := rowb i hi
    have ho : base + ((tSlots t).get i).2.1 ≥ c := by simpa using ho
    refine ⟨base + ((tSlots t).get i).2.1, rfl, ho, by omega, ⟨i, hi, ?_⟩, fun m m1 m2 k hk em => ?_⟩
    · rw [below _ (by omega) (by omega)]; omega
    · rw [below m (by omega) (by omega)] at em
      by_cases hki : k < i
      · have := hj k hki
        have : ¬ (base + ((tSlots t).get k).2.1 ≥ c) := by simpa using this
        omega
      · have := start_mono h (k := i) (m := k) (by omega) hk
        omega
  · have e' : fixO s94_L0 ((c, ((), (base, (t.2.2.2.2.2.2.2.2.2.2.1, ((t.2.2.2.2.2.2.2.2.2.2.1.len : Int), ((0 : Int), ())))))), (t, ())) = _ := e
    rw [e']
    have r := rowb 0 (by omega)
    have hall : ∀ k, k < (tSlots t).len → ¬ (base + ((tSlots t).get k).2.1 ≥ c) := fun k hk => by simpa using ha k hk
    have h0 := hall 0 (by omega)
    have l0 : decide ((0 : Int) < (t.2.2.2.2.2.2.2.2.2.2.1.len : Int)) = true := decide_eq_true (by show (0 : Int) < (tSlots t).len; omega)
    simp only [Option.bind_some]
    rw [bif_t l0, wI_id (n := base + t.2.2.2.2.2.2.1) (by omega) (by omega)]
    have ew : wI (base + t.2.2.2.2.2.2.1 + (t.2.2.2.2.2.2.2.2.2.2.1.get (0 : Int).toNat).2.1) = base + t.2.2.2.2.2.2.1 + ((tSlots t).get 0).2.1 := wI_id (by show -9223372036854775808 ≤ base + t.2.2.2.2.2.2.1 + ((tSlots t).get 0).2.1; omega) (by show base + t.2.2.2.2.2.2.1 + ((tSlots t).get 0).2.1 ≤ _; omega)
    rw [ew]
    refine ⟨_, rfl, by omega, by omega, ⟨0, by omega, ?_⟩, fun m m1 m2 k hk em => ?_⟩
    · rw [above _ (by omega) (by omega)]; omega
    · have rk := rowb k hk
      have hk' := hall k hk
      by_cases hlt : m < base + t.2.2.2.2.2.2.1
      · rw [below m (by omega) (by omega)] at em
        omega
      · rw [above m (by omega) (by omega)] at em
        have := start_mono h (k := 0) (m := k) (by omega) hk
        omega

theorem Nxt.same {t : Tb} {c n n' : Int} (h : Nxt t c n) (h' : Nxt t n n') : n' = n := by
  obtain ⟨i, i1, i2⟩ := h.at_
  have := h'.lo
  by_cases e : n' = n
  · exact e
  · exact absurd i2 (h'.first n (Int.le_refl n) (by omega) i i1)

/-- The one start of a slot up to the next switch. -/
theorem startsN (t : Tb) (hs : g89 t = some ((true, ()), ())) (h : SlF t) (c n : Int) (hc : 0 ≤ c) (hc2 : c ≤ 20000) (hn : Nxt t c n) (i : Nat) (hi : i < (tSlots t).len) (e : n % t.2.2.2.2.2.2.1 = ((tSlots t).get i).2.1) : ∃ l : L Int, g44 t ((tSlots t).get i).1 c (n + 1) = some ((l, ()), ()) ∧ l.len = 1 := by
  have hm := h.maj
  have hg := h.grd
  have hpd := h.pad
  have hlo := hn.lo
  have hhi := hn.hi
  have hne : (!decide (t.2.2.2.2.2.2.1 = 0)) = true := by simp; omega
  unfold g44
  rw [hs]
  simp only [Option.bind_some, Bool.not_true, cond_false]
  rw [cyc_ok (c := c) (by omega) (by omega), cyc_ok (c := n + 1) (by omega) (by omega)]
  simp only [Bool.not_true, cond_false]
  generalize hp : ((tSlots t).get i).1 = p
  obtain ⟨d, e1, l, rfl, e2⟩ := fixO_rel (step := s44_L0) (fun x => (n + 1 - x.1.2.2.2.2.1).toNat)
    (fun x => ∃ (m : Int) (l : L Int), x = ((p, (n + 1, ((), (l, (m, ()))))), (t, ())) ∧ c ≤ m ∧ m ≤ n + 1 ∧ l.len = if m ≤ n then 0 else 1) (fun _ d => ∃ l : L Int, d = .inl ((l, ()), ()) ∧ l.len = 1)
    (by
      rintro _ ⟨m, l, rfl, hm1, hm2, hl⟩
      show (∃ y, q44_L0 p _ l m t = _ ∧ _) ∨ ∃ d, q44_L0 p _ l m t = _ ∧ _
      unfold q44_L0
      by_cases h1 : m < n + 1
      · rw [if_pos (by omega)] at hl
        have hmost : decide (l.len + (L.of (Ty.zero (.int .i64)) [m]).len ≤ most) = true := by
          have : most = 4294967296 := by decide
          simp only [decide_eq_true_eq]
          show l.len + 1 ≤ most
          omega
        rw [bif_t (by simpa using h1), wI_id (n := m + 1) (by omega) (by omega), Int.tmod_eq_emod_of_nonneg (by omega)]
        by_cases hmn : m = n
        · subst hmn
          rcases slotI t h m (by omega) with ⟨k, k1, k2, k3⟩ | ⟨k1, k2⟩
          · have hk : k = i := by
              have r := h.row i hi
              exact inS_uniq h k1 hi k2 (by rw [e]; exact ⟨by omega, by omega⟩)
            subst hk
            rw [k3]
            simp only [Option.bind_some]
            have c2 : ∀ {α : Type} {a b : α}, (bif decide ((0 : Int) ≤ (k : Int)) && decide ((k : Int) < ((t.2.2.2.2.2.2.2.2.2.2.1).len : Int)) then a else b) = a := bif_t (idx_in k1)
            rw [bif_t (by simp), c2, c2, Int.toNat_natCast]
            rw [bif_t (show (((t.2.2.2.2.2.2.2.2.2.2.1).get k).1 == p) = true from beq_iff_eq.mpr hp), bif_t hne, bif_t (show (((t.2.2.2.2.2.2.2.2.2.2.1).get k).2.1 == m % t.2.2.2.2.2.2.1) = true from beq_iff_eq.mpr e.symm), bif_t hmost]
            refine .inl ⟨_, rfl, ⟨m + 1, _, rfl, by omega, by omega, ?_⟩, ?_, fun d hd => hd⟩
            · rw [if_neg (by omega)]
              show l.len + 1 = 1
              omega
            · show (m + 1 - (m + 1)).toNat < (m + 1 - m).toNat; omega
          · have r := h.row i hi
            exact absurd (show inS ((tSlots t).get i) (m % t.2.2.2.2.2.2.1) by rw [e]; exact ⟨by omega, by omega⟩) (k1 i hi)
        · have hf := hn.first m hm1 (by omega)
          rcases slotI t h m (by omega) with ⟨k, k1, k2, k3⟩ | ⟨k1, k2⟩
          · rw [k3]
            simp only [Option.bind_some]
            have c2 : ∀ {α : Type} {a b : α}, (bif decide ((0 : Int) ≤ (k : Int)) && decide ((k : Int) < ((t.2.2.2.2.2.2.2.2.2.2.1).len : Int)) then a else b) = a := bif_t (idx_in k1)
            rw [bif_t (by simp), c2, c2, Int.toNat_natCast]
            have st : ∀ (b : Bool) {α : Type} {x y z : α}, (bif b then (bif !decide (t.2.2.2.2.2.2.1 = 0) then (bif ((t.2.2.2.2.2.2.2.2.2.2.1).get k).2.1 == m % t.2.2.2.2.2.2.1 then x else y) else z) else y) = y := by
              intro b α x y z
              cases b with
              | false => rfl
              | true => exact (bif_t hne).trans (bif_f (show (((t.2.2.2.2.2.2.2.2.2.2.1).get k).2.1 == m % t.2.2.2.2.2.2.1) = false from beq_eq_false_iff_ne.mpr fun q => hf k k1 q.symm))
            rw [st]
            exact .inl ⟨_, rfl, ⟨m + 1, l, rfl, by omega, by omega, by rw [if_pos (by omega)]; exact hl⟩, by show (n + 1 - (m + 1)).toNat < (n + 1 - m).toNat; omega, fun d hd => hd⟩
          · rw [k2]
            simp only [Option.bind_some]
            rw [bif_f (by decide)]
            exact .inl ⟨_, rfl, ⟨m + 1, l, rfl, by omega, by omega, by rw [if_pos (by omega)]; exact hl⟩, by show (n + 1 - (m + 1)).toNat < (n + 1 - m).toNat; omega, fun d hd => hd⟩
      · have : m = n + 1 := by omega
        subst this
        rw [if_neg (by omega)] at hl
        rw [bif_f (by simp)]
        exact .inr ⟨_, rfl, l, rfl, hl⟩) ((p, (n + 1, ((), (nilL (.int .i64), (c, ()))))), (t, ())) ⟨c, _, rfl, by omega, by omega, by rw [if_pos (by omega)]; rfl⟩
  rw [e1]
  exact ⟨l, rfl, e2⟩

theorem at_ok2 (code : L Int) (h : code.len ≤ 1048576) (hb : ∀ i, i < code.len → 0 ≤ code.get i ∧ code.get i ≤ 255) (p : Nat) (hp : p ≤ 6) : ∃ a : Nat, g42 code p = some (((a : Int), ()), ()) ∧ a ≤ 255 := by
  unfold g42
  by_cases h1 : p < code.len
  · have := hb p h1
    rw [bif_t (idx_lt h1), bif_t (idx_in h1), Int.toNat_natCast, wI_id (by omega) (by omega)]
    exact ⟨(code.get p).toNat, by rw [Int.toNat_of_nonneg this.1], by omega⟩
  · rw [bif_f (by simp; omega), wI_id (n := (p : Int) * 7) (by omega) (by omega), wI_id (by omega) (by omega), Int.tmod_eq_emod_of_nonneg (by omega)]
    exact ⟨(((p : Int) * 7 + code.len) % 256).toNat, by rw [Int.toNat_of_nonneg (by omega)], by omega⟩

theorem per92 (t : Tb) (h : SlF t) (c : Int) (hc : 0 ≤ c) : g92 t (c + t.2.2.2.2.2.2.1) = g92 t c ∧ g93 t (c + t.2.2.2.2.2.2.1) = g93 t c := by
  have hm := h.maj
  have e : Int.tmod (c + t.2.2.2.2.2.2.1) t.2.2.2.2.2.2.1 = Int.tmod c t.2.2.2.2.2.2.1 := by
    rw [Int.tmod_eq_emod_of_nonneg (by omega), Int.tmod_eq_emod_of_nonneg hc, Int.add_emod_right]
  have e92 : g92 t (c + t.2.2.2.2.2.2.1) = g92 t c := by unfold g92; rw [e]
  refine ⟨e92, ?_⟩
  unfold g93
  rw [e92, e]

theorem law (code : L Int) (hb : ∀ i, i < code.len → 0 ≤ code.get i ∧ code.get i ≤ 255) : g11 code = some ((true, ()), ()) := by
  unfold g11
  by_cases hbig : (code.len : Int) > 1048576
  · rw [bif_t (show f37 code = true from decide_eq_true hbig)]
  rw [bif_f (show f37 code = false from decide_eq_false hbig)]
  obtain ⟨t, e1, hs, hf, hM⟩ := drawD code (by omega)
  have h := slF hf
  have hm := h.maj
  have hp := h.pad
  have hg := h.grd
  have hl := h.ns
  have hn := h.np
  obtain ⟨a, a1, a2⟩ := at_ok2 code (by omega) hb 1 (by omega)
  obtain ⟨b, b1, b2⟩ := at_ok2 code (by omega) hb 2 (by omega)
  have a1 : g42 code 1 = some (((a : Int), ()), ()) := a1
  have b1 : g42 code 2 = some (((b : Int), ()), ()) := b1
  have ew : wI (wI ((a : Int) * 40) + (b : Int)) = (a : Int) * 40 + b := by rw [wI_id (n := (a : Int) * 40) (by omega) (by omega), wI_id (by omega) (by omega)]
  simp only [e1, a1, b1, Option.bind_some, ew]
  generalize hcc : (a : Int) * 40 + b = c
  have hc0 : 0 ≤ c := by omega
  have hc1 : c ≤ 20000 := by omega
  have ew2 : wI (c + t.2.2.2.2.2.2.1) = c + t.2.2.2.2.2.2.1 := wI_id (by omega) (by omega)
  rw [ew2]
  have hne : (!decide (t.2.2.2.2.2.2.1 = 0)) = true := by simp; omega
  obtain ⟨q92, q93⟩ := per92 t h c hc0
  obtain ⟨n, n1, hN⟩ := nextI t h c hc0 hc1
  have hlo := hN.lo
  have hhi := hN.hi
  obtain ⟨i, i1, i2⟩ := hN.at_
  obtain ⟨l, l1, l2⟩ := startsN t hs h c n hc0 hc1 hN i i1 i2
  obtain ⟨n', n1', hN'⟩ := nextI t h n (by omega) (by omega)
  have := hN.same hN'
  subst this
  have ri := h.row i i1
  -- the functions
  have ok : ∀ x : Int, 0 ≤ x → x ≤ 50000 → (!f90 x) = false := fun x p q => by rw [cyc_ok p q]; rfl
  have F45 : ∀ x : Int, 0 ≤ x → x ≤ 50000 → g45 t x = (g93 t x).bind fun y2 => some ((y2.1.1, ()), ()) := fun x p q => by
    unfold g45; rw [hs]; simp only [Option.bind_some, Bool.not_true, cond_false]; rw [ok x p q]; rfl
  have F46 : ∀ x : Int, 0 ≤ x → x ≤ 50000 → g46 t x = (g92 t x).bind fun y2 => some ((y2.1.1, ()), ()) := fun x p q => by
    unfold g46; rw [hs]; simp only [Option.bind_some, Bool.not_true, cond_false]; rw [ok x p q]; rfl
  have F47 : ∀ x : Int, 0 ≤ x → x ≤ 50000 → g47 t x = some ((x / t.2.2.2.2.2.2.1, ()), ()) := fun x p q => by
    unfold g47; rw [hs]; simp only [Option.bind_some, Bool.not_true, cond_false]; rw [ok x p q, bif_f rfl, bif_t hne, Int.tdiv_eq_ediv_of_nonneg p]
    have : x / t.2.2.2.2.2.2.1 ≤ x := Int.ediv_le_self _ p
    have : 0 ≤ x / t.2.2.2.2.2.2.1 := Int.ediv_nonneg p (by omega)
    rw [wI_id (by omega) (by omega)]
  have F48 : ∀ x : Int, 0 ≤ x → x ≤ 50000 → g48 t x = (g93 t x).bind fun y2 => bif (y2.1.1 == (2 : Int)) then some ((y2.1.2.1, ()), ()) else bif (y2.1.1 == (3 : Int)) then some ((y2.1.2.1, ()), ()) else some (((-1 : Int), ()), ()) := fun x p q => by
    unfold g48; rw [hs]; simp only [Option.bind_some, Bool.not_true, cond_false]; rw [ok x p q]; rfl
  have F49 : ∀ x : Int, 0 ≤ x → x ≤ 50000 → g49 t x = (g91 t x).bind fun y2 => some ((y2.1.1, ()), ()) := fun x p q => by
    unfold g49; rw [hs]; simp only [Option.bind_some, Bool.not_true, cond_false]; rw [ok x p q]; rfl
  have F50 : ∀ x m : Int, 0 ≤ x → x ≤ 50000 → g94 t x = some ((m, ()), ()) → g50 t x = some ((m, ()), ()) := fun x m p q e => by
    unfold g50; rw [hs]; simp only [Option.bind_some, Bool.not_true, cond_false]; rw [ok x p q, bif_f rfl, e]; rfl
  -- at the next switch
  have inN : inS ((tSlots t).get i) (n' % t.2.2.2.2.2.2.1) := by rw [i2]; exact ⟨by omega, by omega⟩
  have sN : g92 t n' = some (((i : Int), ()), ()) ∧ g93 t n' = some ((1, (((tSlots t).get i).1, ())), ()) := by
    rcases phaseI t h n' (by omega) with ⟨k, k1, k2, k3, k4⟩ | ⟨k1, _⟩
    · have := inS_uniq h k1 i1 k2 inN
      subst this
      refine ⟨k3, ?_⟩
      rw [k4]
      have : phOf t k (n' % t.2.2.2.2.2.2.1) = 1 := by unfold phOf; rw [if_pos (by omega)]
      rw [this]
    · exact absurd inN (k1 i i1)
  have c2 : ∀ {α : Type} {a b : α}, (bif decide ((0 : Int) ≤ (i : Int)) && decide ((i : Int) < ((t.2.2.2.2.2.2.2.2.2.2.1).len : Int)) then a else b) = a := bif_t (idx_in i1)
  have eN : wI (n' + 1) = n' + 1 := wI_id (by omega) (by omega)
  have tail : (g50 t c).bind (fun y21 =>
      (g46 t y21.1.1).bind fun y22 =>
        bif (decide (y21.1.1 < c)) then some ((false, ()), ())
        else bif (decide (y21.1.1 > c + t.2.2.2.2.2.2.1)) then some ((false, ()), ())
        else bif (decide (y22.1.1 < (0 : Int))) then some ((false, ()), ())
        else bif (!decide (t.2.2.2.2.2.2.1 = 0)) then
          bif (decide (0 ≤ y22.1.1) && decide (y22.1.1 < (t.2.2.2.2.2.2.2.2.2.2.1.len : Int))) then
            bif ((Int.tmod y21.1.1 t.2.2.2.2.2.2.1) != (L.get t.2.2.2.2.2.2.2.2.2.2.1 y22.1.1.toNat).2.1) then some ((false, ()), ())
            else (g45 t y21.1.1).bind fun y23 =>
              bif (y23.1.1 != (1 : Int)) then some ((false, ()), ())
              else (g50 t y21.1.1).bind fun y24 =>
                bif (y24.1.1 == y21.1.1) then
                  bif (decide (0 ≤ y22.1.1) && decide (y22.1.1 < (t.2.2.2.2.2.2.2.2.2.2.1.len : Int))) then
                    (g44 t (L.get t.2.2.2.2.2.2.2.2.2.2.1 y22.1.1.toNat).1 c (wI (y21.1.1 + (1 : Int)))).bind fun y25 =>
                      some ((((y25.1.1.len : Int) == (1 : Int)), ()), ())
                  else none
                else some ((false, ()), ())
          else none
        else none) = some ((true, ()), ()) := by
    rw [F50 c n' (by omega) (by omega) n1]
    simp only [Option.bind_some]
    rw [F46 n' (by omega) (by omega), sN.1]
    simp only [Option.bind_some]
    rw [bif_f (decide_eq_false (by omega)), bif_f (decide_eq_false (by omega)), bif_f (decide_eq_false (by omega)), bif_t hne, c2, Int.toNat_natCast, Int.tmod_eq_emod_of_nonneg (by omega)]
    have e2 : (n' % t.2.2.2.2.2.2.1 != (t.2.2.2.2.2.2.2.2.2.2.1.get i).2.1) = false := by
      rw [bne_eq_false_iff_eq]; exact i2
    rw [e2, F45 n' (by omega) (by omega), sN.2]
    simp only [cond_false, Option.bind_some]
    rw [F50 n' n' (by omega) (by omega) n1']
    simp only [Option.bind_some]
    rw [bif_f (by decide), bif_t (by simp), c2, eN]
    have l1' : g44 t (t.2.2.2.2.2.2.2.2.2.2.1.get i).1 c (n' + 1) = some ((l, ()), ()) := l1
    rw [l1']
    simp only [Option.bind_some]
    rw [l2]; rfl
  have eF : (c + t.2.2.2.2.2.2.1) / t.2.2.2.2.2.2.1 = c / t.2.2.2.2.2.2.1 + 1 := by
    have := Int.add_mul_ediv_right c 1 (show t.2.2.2.2.2.2.1 ≠ 0 by omega)
    rwa [Int.one_mul] at this
  have eF2 : wI (c / t.2.2.2.2.2.2.1 + 1) = c / t.2.2.2.2.2.2.1 + 1 := by
    have : c / t.2.2.2.2.2.2.1 ≤ c := Int.ediv_le_self _ hc0
    have : 0 ≤ c / t.2.2.2.2.2.2.1 := Int.ediv_nonneg hc0 (by omega)
    exact wI_id (by omega) (by omega)
  rw [F45 c hc0 (by omega), F45 (c + t.2.2.2.2.2.2.1) (by omega) (by omega), F46 c hc0 (by omega), F46 (c + t.2.2.2.2.2.2.1) (by omega) (by omega), F47 c hc0 (by omega), F47 (c + t.2.2.2.2.2.2.1) (by omega) (by omega), F48 c hc0 (by omega), F49 c hc0 (by omega), q92, q93, eF]
  have e91 : g91 t c = (g93 t c).bind fun y1 => bif (y1.1.1 == (2 : Int)) then some ((y1.1.2.1, ()), ()) else some (((-1 : Int), ()), ()) := rfl
  rw [e91]
  rcases phaseI t h c hc0 with ⟨k, k1, k2, k3, k4⟩ | ⟨k1, k2, k3⟩
  · have rk := h.row k k1
    have c2k : ∀ {α : Type} {a b : α}, (bif decide ((0 : Int) ≤ (k : Int)) && decide ((k : Int) < ((t.2.2.2.2.2.2.2.2.2.2.1).len : Int)) then a else b) = a := bif_t (idx_in k1)
    have hk0 : decide ((k : Int) ≥ 0) = true := decide_eq_true (by omega)
    have hkl : decide ((k : Int) < ((t.2.2.2.2.2.2.2.2.2.2.1).len : Int)) = true := decide_eq_true (by show (k : Int) < ((tSlots t).len : Int); omega)
    have hpk : decide (((tSlots t).get k).1 ≥ 0) = true := decide_eq_true rk.1.1
    have hkm : ((k : Int) == -1) = false := beq_eq_false_iff_ne.mpr (by omega)
    have same : (((tSlots t).get k).1 != (L.get t.2.2.2.2.2.2.2.2.2.2.1 k).1) = false := by rw [bne_eq_false_iff_eq]; rfl
    have hph : phOf t k (c % t.2.2.2.2.2.2.1) = 1 ∨ phOf t k (c % t.2.2.2.2.2.2.1) = 2 ∨ phOf t k (c % t.2.2.2.2.2.2.1) = 3 := by
      unfold phOf
      split
      · exact .inl rfl
      · split
        · exact .inr (.inr rfl)
        · exact .inr (.inl rfl)
    rw [k3, k4]
    rcases hph with e | e | e <;> rw [e]
    · simp only [Option.bind_some, bne_self_eq_false, cond_false, eF2, hkm, hk0, cond_true]
      exact tail
    · have d0 : decide ((2 : Int) < 0) = false := rfl
      have d3 : decide ((2 : Int) > 3) = false := rfl
      have b0 : ((2 : Int) == 0) = false := rfl
      have b2 : ((2 : Int) == 2) = true := rfl
      have b3 : ((2 : Int) == 3) = false := rfl
      have m1 : decide ((-1 : Int) ≥ 0) = false := rfl
      have m2 : (true == true) = true := rfl
      have m3 : (false == true) = false := rfl
      have m4 : (true == false) = false := rfl
      have m5 : (false == false) = true := rfl
      simp only [Option.bind_some, bne_self_eq_false, cond_false, eF2, hkm, hk0, cond_true, hpk, hkl, Bool.true_and, Bool.not_true, Bool.not_false, d0, d3, b0, b2, b3, m1, m2, m3, m4, m5, Int.toNat_natCast, same]
      exact tail
    · have d0 : decide ((3 : Int) < 0) = false := rfl
      have d3 : decide ((3 : Int) > 3) = false := rfl
      have b0 : ((3 : Int) == 0) = false := rfl
      have b2 : ((3 : Int) == 2) = false := rfl
      have b3 : ((3 : Int) == 3) = true := rfl
      have m1 : decide ((-1 : Int) ≥ 0) = false := rfl
      have m2 : (true == true) = true := rfl
      have m3 : (false == true) = false := rfl
      have m4 : (true == false) = false := rfl
      have m5 : (false == false) = true := rfl
      simp only [Option.bind_some, bne_self_eq_false, cond_false, eF2, hkm, hk0, cond_true, hpk, hkl, Bool.true_and, Bool.not_true, Bool.not_false, d0, d3, b0, b2, b3, m1, m2, m3, m4, m5, Int.toNat_natCast, same]
      exact tail
  · rw [k2, k3]
    simp only [Option.bind_some, bne_self_eq_false, cond_false, eF2, cond_true]
    exact tail

theorem plain : ∀ x, wfIns tysOf x → ∃ z, c11.F x = some ((true, ()), z) := by
  rintro ⟨x, ⟨⟩⟩ ⟨hw, _⟩
  refine ⟨(), law x fun i hi => ?_⟩
  have := hw.2 i hi
  exact this


end Go.VE.VFnCyclic
