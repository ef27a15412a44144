import Derived.Test.YtgllenfbilnneaaGreatVFnExactPartSlot
import Derived.Test.YtgllenfbilnneaaGreatVkV
/- laws.FnExactPartSlot returns true: in plain words, no program in sight. -/
set_option linter.unusedVariables false
set_option linter.unusedSimpArgs false
namespace Go.VE.VFnExactPartSlot
open Go.VE
abbrev tysOf : List Ty := [(.pair (.int .i64) (.pair (.pair (.int .i64) (.pair (.int .i64) (.pair (.int .i64) .unit))) (.pair (.int .i64) (.pair (.pair (.int .i64) (.pair (.int .i64) (.pair (.int .i64) (.pair (.int .i64) (.pair (.int .i64) (.pair (.int .i64) (.pair (.int .i64) .unit))))))) (.pair (.int .i64) (.pair (.int .i64) (.pair (.int .i64) (.pair (.sl (.pair .str (.pair (.int .i64) (.pair (.pair (.int .i64) (.pair (.int .i64) .unit)) (.pair (.sl (.pair (.int .i64) (.pair (.int .i64) (.pair (.int .i64) .unit)))) .unit))))) (.pair (.sl (.int .i64)) (.pair (.sl (.pair (.int .i64) (.pair (.int .i64) (.pair (.int .i64) (.pair (.int .i64) .unit))))) (.pair (.sl (.pair (.int .i64) (.pair (.int .i64) (.pair (.int .i64) .unit)))) .unit))))))))))), (.int .i64), (.pair (.pair (.sl (.int .u32)) (.pair (.int .u32) (.pair (.sl (.sl (.int .u8))) .unit))) (.pair (.pair .bool (.pair (.int .u32) (.pair (.int .u32) (.pair (.int .u32) (.pair (.int .u32) (.pair .bool (.pair .bool (.pair (.int .u32) .unit)))))))) (.pair (.pair (.int .i64) (.pair (.int .i64) (.pair (.int .i64) (.pair .bool .unit)))) (.pair (.pair (.pair (.int .i64) (.pair (.int .i64) (.pair (.int .i64) .unit))) (.pair (.sl (.sl (.pair (.int .i64) (.pair .bool .unit)))) .unit)) (.pair (.pair (.int .i64) (.pair (.sl (.int .i64)) .unit)) (.pair (.int .i64) (.pair .bool (.pair (.sl (.sl (.int .u8))) (.pair (.sl (.pair (.int .i64) (.pair (.sl (.int .u32)) .unit))) (.pair (.sl (.pair (.sl (.int .u32)) .unit)) (.pair (.sl (.pair (.sl (.int .u32)) (.pair (.sl (.int .u32)) .unit))) .unit))))))))))), (.int .i64)]
abbrev Co:Type:=Int×(Int×(Int×(Int×(Int×(Int×(Int×Unit))))))

theorem f136_97:f136 = f97:=rfl
theorem f137_294 (c:Co):f137 c = f294 c:=by
  unfold f137 f294
  rw [f136_97]
  generalize f97 c.1 1 20 = b1
  generalize f97 c.2.1 0 50 = b2
  generalize f97 c.2.2.1 0 50 = b3
  generalize f97 c.2.2.2.1 0 50 = b4
  generalize f97 c.2.2.2.2.1 0 50 = b5
  generalize f97 c.2.2.2.2.2.1 0 50 = b6
  generalize f97 c.2.2.2.2.2.2.1 0 50 = b7
  cases b1 <;> cases b2 <;> cases b3 <;> cases b4 <;> cases b5 <;> cases b6 <;> cases b7 <;> rfl

theorem f97_iff (a b c:Int):f97 a b c = true ↔ b≤a ∧ a≤c:=by
  unfold f97
  by_cases h:a ≥ b
  · rw [bif_t (by simpa using h)]; simp; omega
  · rw [bif_f (by simpa using h)]; simp; omega

theorem costs_of {c:Co} (h:f294 c = true):(1≤c.1 ∧ c.1≤20) ∧ (0≤c.2.1 ∧ c.2.1≤50) ∧ (0≤c.2.2.1 ∧ c.2.2.1≤50) ∧ (0≤c.2.2.2.1 ∧ c.2.2.2.1≤50) ∧ (0≤c.2.2.2.2.1 ∧ c.2.2.2.2.1≤50) ∧ (0≤c.2.2.2.2.2.1 ∧ c.2.2.2.2.2.1≤50) ∧ (0≤c.2.2.2.2.2.2.1 ∧ c.2.2.2.2.2.2.1≤50):=by
  unfold f294 at h
  have step:∀ {b x:Bool},(bif b then x else false) = true→b = true ∧ x = true:=fun {b x} h=>by cases b <;> simp_all
  obtain ⟨h1,h⟩:=step h
  obtain ⟨h2,h⟩:=step h
  obtain ⟨h3,h⟩:=step h
  obtain ⟨h4,h⟩:=step h
  obtain ⟨h5,h⟩:=step h
  obtain ⟨h6,h7⟩:=step h
  exact ⟨(f97_iff _ _ _).mp h1,(f97_iff _ _ _).mp h2,(f97_iff _ _ _).mp h3,(f97_iff _ _ _).mp h4,(f97_iff _ _ _).mp h5,(f97_iff _ _ _).mp h6,(f97_iff _ _ _).mp h7⟩

theorem forms_pos:∀ k,k < 33→0≤L.get f350r k:=by decide +kernel

theorem opc {c:Co} (hc:f294 c = true) {i:Nat} (hi:i < 33):g275 c i = some ((f299 c i,()),()):=by
  have hf:g324 (i:Int) = some ((L.get f350r i,()),()):=by
    unfold g324
    have h1:f97 (i:Int) 0 32 = true:=(f97_iff _ _ _).mpr (by omega)
    rw [h1,bif_f (show (!true) = false from rfl),bif_t,Int.toNat_natCast]
    have:f350r.len = 33:=rfl
    rw [this]; simp; omega
  unfold g275 f299
  rw [hc,bif_f (show (!true) = false from rfl),hf]
  simp only [Option.bind_some]
  rw [bif_f (by simpa using forms_pos i hi),f136_97]
  cases ((i:Int) == 9) <;> cases ((i:Int) == 10) <;> cases f97 (i:Int) 15 18 <;> cases decide ((i:Int) ≥ 25) <;> rfl

theorem f327_300 {c:Co} (hc:f294 c = true) (a:Bool×(Bool×(Bool×Unit))):f327 c a = f300 c a:=by
  unfold f327 f300
  rw [hc]
  rfl

def wAcc (c:Co) (i:Nat):Int:=if i = 0 then -1 else if i≤4 then c.2.2.2.1 + c.2.2.2.2.1 else c.2.2.2.1 + c.2.2.2.2.1 + c.2.2.2.2.2.2.1

theorem acc_of {c:Co} (hc:f294 c = true) (a b d:Bool):f327 c (a,(b,(d,()))) = (if a then 0 else c.2.2.2.1) + (if b then 0 else c.2.2.2.2.1) + (if d then c.2.2.2.2.2.2.1 else 0):=by
  obtain ⟨_,_,_,h4,h5,_,h7⟩:=costs_of hc
  rw [f327_300 hc]
  unfold f300
  have e0:∀ n:Int,0≤n→n≤1000→wI n = n:=fun n h1 h2=>wI_id (by omega) (by omega)
  cases a <;> cases b <;> cases d <;> simp only [Bool.not_true,Bool.not_false,cond_true,cond_false,if_true,if_false,Bool.false_eq_true,Int.zero_add,Int.add_zero]
  · rw [e0 c.2.2.2.1 (by omega) (by omega),e0 _ (by omega) (by omega)]
  · rw [e0 c.2.2.2.1 (by omega) (by omega),e0 (c.2.2.2.1 + c.2.2.2.2.1) (by omega) (by omega),e0 _ (by omega) (by omega)]
  · rw [e0 _ (by omega) (by omega)]
  · rw [e0 c.2.2.2.1 (by omega) (by omega),e0 _ (by omega) (by omega)]
  · rw [e0 _ (by omega) (by omega)]
  · rw [e0 c.2.2.2.2.1 (by omega) (by omega),e0 _ (by omega) (by omega)]
  · rw [e0 _ (by omega) (by omega)]

theorem wacc {c:Co} (hc:f294 c = true):g314 c = some ((c.2.2.2.1 + c.2.2.2.2.1 + c.2.2.2.2.2.2.1,()),()):=by
  obtain ⟨_,_,_,h4,h5,_,h7⟩:=costs_of hc
  obtain ⟨d,h1,rfl⟩:=fixO_rel (step:=s314_L0) (fun a=>8 - a.1.2.2.1.toNat)
    (fun a=>∃ i:Nat,a = (((),(wAcc c i,((i:Int),()))),(c,())) ∧ i≤8)
    (fun _ d=>d = .inl ((wAcc c 8,()),())) (by
      rintro _ ⟨i,rfl,hi⟩
      by_cases h:i < 8
      · left
        have fin:s314_L0 (((),(wAcc c i,((i:Int),()))),(c,())) = some (.inl (((),(wAcc c (i + 1),(((i + 1:Nat):Int),()))),(c,()))):=by
          simp only [s314_L0,q314_L0]
          rw [bif_t (by simp; omega),wI_succ (n:=8) h (by omega)]
          have:i = 0 ∨ i = 1 ∨ i = 2 ∨ i = 3 ∨ i = 4 ∨ i = 5 ∨ i = 6 ∨ i = 7:=by omega
          have key:∀ (a b d:Bool) (m:Int),(((Int.tmod (i:Int) 2) == 1),(((Int.tmod (wI (Int.tdiv (i:Int) 2)) 2) == 1),(((wI (Int.tdiv (i:Int) 4)) == 1),()))) = (a,(b,(d,()))) →
              (if (if a then 0 else c.2.2.2.1) + (if b then 0 else c.2.2.2.2.1) + (if d then c.2.2.2.2.2.2.1 else 0) > wAcc c i then (if a then 0 else c.2.2.2.1) + (if b then 0 else c.2.2.2.2.1) + (if d then c.2.2.2.2.2.2.1 else 0) else wAcc c i) = m→m = wAcc c (i + 1) →
              (bif (decide ((f327 c (((Int.tmod (i:Int) 2) == 1),(((Int.tmod (wI (Int.tdiv (i:Int) 2)) 2) == 1),(((wI (Int.tdiv (i:Int) 4)) == 1),())))) > wAcc c i)) then
                some (.inl (((),((f327 c (((Int.tmod (i:Int) 2) == 1),(((Int.tmod (wI (Int.tdiv (i:Int) 2)) 2) == 1),(((wI (Int.tdiv (i:Int) 4)) == 1),())))),(((i + 1:Nat):Int),()))),(c,())))
              else some (.inl (((),(wAcc c i,(((i + 1:Nat):Int),()))),(c,())))) = (some (.inl (((),(wAcc c (i + 1),(((i + 1:Nat):Int),()))),(c,()))):Option (((Unit×(Int×(Int×Unit)))×(Co×Unit))⊕(((Int×Unit)×Unit)⊕Empty))):=by
            intro a b d m hb hm hw
            rw [hb,acc_of hc,← hw,← hm]
            generalize (if a then 0 else c.2.2.2.1) + (if b then 0 else c.2.2.2.2.1) + (if d then c.2.2.2.2.2.2.1 else 0) = v
            by_cases hgt:v > wAcc c i
            · rw [bif_t (by simpa using hgt),if_pos hgt]
            · rw [bif_f (by simpa using hgt),if_neg hgt]
          rcases this with rfl | rfl | rfl | rfl | rfl | rfl | rfl | rfl
          · exact key false false false _ (by decide +kernel) rfl (by simp [wAcc]; omega)
          · exact key true false false _ (by decide +kernel) rfl (by simp [wAcc]; omega)
          · exact key false true false _ (by decide +kernel) rfl (by simp [wAcc]; omega)
          · exact key true true false _ (by decide +kernel) rfl (by simp [wAcc]; omega)
          · exact key false false true _ (by decide +kernel) rfl (by simp [wAcc]; omega)
          · exact key true false true _ (by decide +kernel) rfl (by simp [wAcc]; omega)
          · exact key false true true _ (by decide +kernel) rfl (by simp [wAcc]; omega)
          · exact key true true true _ (by decide +kernel) rfl (by simp [wAcc]; omega)
        exact ⟨_,fin,⟨i + 1,rfl,h⟩,by simp only [Int.toNat_natCast]; omega,fun d hd=>hd⟩
      · right
        have:i = 8:=by omega
        subst this
        exact ⟨_,rfl,rfl⟩) (((),((-1:Int),((0:Int),()))),(c,())) ⟨0,rfl,by omega⟩
  unfold g314
  rw [h1]
  rfl

theorem worst {c:Co} (hc:f294 c = true):∃ n,g265 c = some ((n,()),()) ∧ g227 c = some ((n,()),()):=by
  obtain ⟨d,e,h1,h2,m,rfl,rfl⟩:=fixO_sim (s1:=s265_L0) (s2:=s227_L0)
    (fun a b=>∃ (i:Nat) (m:Int),a = (((),(m,((i:Int),()))),(c,())) ∧ b = (((),(m,((i:Int),()))),(c,())) ∧ i≤33)
    (fun d e=>∃ m,d = .inl (((),(m,())),(c,())) ∧ e = .inl (((),(m,())),(c,()))) (fun a=>33 - a.1.2.2.1.toNat) (by
      rintro _ _ ⟨i,m,rfl,rfl,hi⟩
      by_cases h:i < 33
      · left
        have hb:decide ((i:Int) < 33) = true:=by simp; omega
        have ho:g275 (c.1,(c.2.1,(c.2.2.1,(c.2.2.2.1,(c.2.2.2.2.1,(c.2.2.2.2.2.1,(c.2.2.2.2.2.2.1,()))))))) (i:Int) = some ((f299 c i,()),()):=opc hc h
        simp only [s265_L0,q265_L0,s227_L0,q227_L0,hb,cond_true,wI_succ h (by omega:33≤2 ^ 47),ho,Option.bind_some]
        by_cases hg:f299 c i > m
        · rw [bif_t (by simpa using hg)]
          refine ⟨_,_,rfl,rfl,⟨i + 1,f299 c i,rfl,?_,h⟩,by simp only [Int.toNat_natCast]; omega⟩
          have:(if f299 (c.1,(c.2.1,(c.2.2.1,(c.2.2.2.1,(c.2.2.2.2.1,(c.2.2.2.2.2.1,(c.2.2.2.2.2.2.1,()))))))) (i:Int) > m then f299 (c.1,(c.2.1,(c.2.2.1,(c.2.2.2.1,(c.2.2.2.2.1,(c.2.2.2.2.2.1,(c.2.2.2.2.2.2.1,()))))))) (i:Int) else m) = f299 c i:=if_pos hg
          rw [this]
        · rw [bif_f (by simpa using hg)]
          refine ⟨_,_,rfl,rfl,⟨i + 1,m,rfl,?_,h⟩,by simp only [Int.toNat_natCast]; omega⟩
          have:(if f299 (c.1,(c.2.1,(c.2.2.1,(c.2.2.2.1,(c.2.2.2.2.1,(c.2.2.2.2.2.1,(c.2.2.2.2.2.2.1,()))))))) (i:Int) > m then f299 (c.1,(c.2.1,(c.2.2.1,(c.2.2.2.1,(c.2.2.2.2.1,(c.2.2.2.2.2.1,(c.2.2.2.2.2.2.1,()))))))) (i:Int) else m) = m:=if_neg hg
          rw [this]
      · right
        have:i = 33:=by omega
        subst this
        exact ⟨_,_,rfl,rfl,m,rfl,rfl⟩) (((),((0:Int),((0:Int),()))),(c,())) (((),((0:Int),((0:Int),()))),(c,())) ⟨0,0,rfl,rfl,by omega⟩
  unfold g265 g227
  rw [f137_294,hc,bif_f (show (!true) = false from rfl),bif_f (show (!true) = false from rfl),h1,h2]
  simp only [Option.bind_some]
  rw [wacc hc]
  simp only [Option.bind_some]
  refine ⟨_,rfl,?_⟩
  have:f300 c (false,(false,(true,()))) = c.2.2.2.1 + c.2.2.2.2.1 + c.2.2.2.2.2.2.1:=by
    rw [← f327_300 hc,acc_of hc]; simp
  rw [this]

abbrev Ch:Type:=Int×(Int×(Int×(Int×Unit)))

theorem pow16 (n:Int) (h:f97 n 1 16 = true):f226 n = ((n == 1) || ((n == 2) || ((n == 4) || ((n == 8) || (n == 16))))):=by
  obtain ⟨h1,h2⟩:=(f97_iff _ _ _).mp h
  have:n = 1 ∨ n = 2 ∨ n = 3 ∨ n = 4 ∨ n = 5 ∨ n = 6 ∨ n = 7 ∨ n = 8 ∨ n = 9 ∨ n = 10 ∨ n = 11 ∨ n = 12 ∨ n = 13 ∨ n = 14 ∨ n = 15 ∨ n = 16:=by omega
  rcases this with rfl | rfl | rfl | rfl | rfl | rfl | rfl | rfl | rfl | rfl | rfl | rfl | rfl | rfl | rfl | rfl <;> decide +kernel

theorem pow32 (n:Int) (h:f97 n 4 32 = true):f226 n = ((n == 4) || ((n == 8) || ((n == 16) || (n == 32)))):=by
  obtain ⟨h1,h2⟩:=(f97_iff _ _ _).mp h
  have:n = 4 ∨ n = 5 ∨ n = 6 ∨ n = 7 ∨ n = 8 ∨ n = 9 ∨ n = 10 ∨ n = 11 ∨ n = 12 ∨ n = 13 ∨ n = 14 ∨ n = 15 ∨ n = 16 ∨ n = 17 ∨ n = 18 ∨ n = 19 ∨ n = 20 ∨ n = 21 ∨ n = 22 ∨ n = 23 ∨ n = 24 ∨ n = 25 ∨ n = 26 ∨ n = 27 ∨ n = 28 ∨ n = 29 ∨ n = 30 ∨ n = 31 ∨ n = 32:=by omega
  rcases this with rfl | rfl | rfl | rfl | rfl | rfl | rfl | rfl | rfl | rfl | rfl | rfl | rfl | rfl | rfl | rfl | rfl | rfl | rfl | rfl | rfl | rfl | rfl | rfl | rfl | rfl | rfl | rfl | rfl <;> decide +kernel

theorem f119_eq (s:Int×(Int×(Int×Unit))):f119 s = (((s.1 == 1) || ((s.1 == 2) || ((s.1 == 4) || ((s.1 == 8) || (s.1 == 16)))))&&(f97 s.2.1 1 4&&((s.2.2.1 == 4) || ((s.2.2.1 == 8) || ((s.2.2.1 == 16) || (s.2.2.1 == 32)))))):=by
  unfold f119
  generalize f97 s.2.1 1 4 = w
  generalize (s.1 == 1) = a1
  generalize (s.1 == 2) = a2
  generalize (s.1 == 4) = a3
  generalize (s.1 == 8) = a4
  generalize (s.1 == 16) = a5
  generalize (s.2.2.1 == 4) = l1
  generalize (s.2.2.1 == 8) = l2
  generalize (s.2.2.1 == 16) = l3
  generalize (s.2.2.1 == 32) = l4
  cases a1 <;> cases a2 <;> cases a3 <;> cases a4 <;> cases a5 <;> cases l1 <;> cases l2 <;> cases l3 <;> cases l4 <;> cases w <;> rfl

theorem f135_119 (s:Int×(Int×(Int×Unit))):f135 s = f119 s:=by
  rw [f119_eq]
  unfold f135
  rw [f136_97]
  have hs:(bif f97 s.1 1 16 then f226 s.1 else false) = ((s.1 == 1) || ((s.1 == 2) || ((s.1 == 4) || ((s.1 == 8) || (s.1 == 16))))):=by
    cases h:f97 s.1 1 16 with
    | true=>exact pow16 _ h
    | false =>
      have h':¬ (1≤s.1 ∧ s.1≤16):=fun q=>by rw [(f97_iff _ _ _).mpr q] at h; cases h
      have e:∀ k:Int,1≤k→k≤16→(s.1 == k) = false:=fun k h1 h2=>by simp; omega
      rw [e 1 (by omega) (by omega),e 2 (by omega) (by omega),e 4 (by omega) (by omega),e 8 (by omega) (by omega),e 16 (by omega) (by omega)]
      rfl
  have hl:(bif f97 s.2.2.1 4 32 then f226 s.2.2.1 else false) = ((s.2.2.1 == 4) || ((s.2.2.1 == 8) || ((s.2.2.1 == 16) || (s.2.2.1 == 32)))):=by
    cases h:f97 s.2.2.1 4 32 with
    | true=>exact pow32 _ h
    | false =>
      have h':¬ (4≤s.2.2.1 ∧ s.2.2.1≤32):=fun q=>by rw [(f97_iff _ _ _).mpr q] at h; cases h
      have e:∀ k:Int,4≤k→k≤32→(s.2.2.1 == k) = false:=fun k h1 h2=>by simp; omega
      rw [e 4 (by omega) (by omega),e 8 (by omega) (by omega),e 16 (by omega) (by omega),e 32 (by omega) (by omega)]
      rfl
  rw [← hs,← hl]
  generalize f97 s.1 1 16 = p1
  generalize f226 s.1 = p2
  generalize f97 s.2.1 1 4 = p3
  generalize f97 s.2.2.1 4 32 = p4
  generalize f226 s.2.2.1 = p5
  cases p1 <;> cases p2 <;> cases p3 <;> cases p4 <;> cases p5 <;> rfl

theorem chan_of {c:Ch} (h:f297 c = true):(c.1 = 0 ∧ c.2.2.2.1 = 0) ∨ (c.1 = 1 ∧ 1≤c.2.2.2.1 ∧ c.2.2.2.1≤8):=by
  unfold f297 at h
  have step:∀ {b:Bool} {x:Bool},(bif b then false else x) = true→x = true:=fun {b x} h=>by cases b <;> simp_all
  have h:=step (step (step h))
  by_cases h0:c.1 = 0
  · rw [bif_t (by simpa using h0)] at h
    by_cases hd:c.2.2.2.1 = 0
    · exact .inl ⟨h0,hd⟩
    · rw [bif_f (by simpa using hd),bif_f (by simp [h0])] at h
      cases h
  · rw [bif_f (by simpa using h0)] at h
    by_cases h1:c.1 = 1
    · rw [bif_t (by simpa using h1)] at h
      exact .inr ⟨h1,(f97_iff _ _ _).mp h⟩
    · rw [bif_f (by simpa using h1)] at h
      cases h

theorem good (x:L Ch) (hx:x.len≤8) (c:Co) (hc:1≤c.1 ∧ c.1≤20) (n:Int) (hok:∀ j,j < x.len→f297 (x.get j) = true) :
    ∃ m,fixO s266_L0 ((x,((),(n,((0:Int),())))),(c,())) = some (.inr (.inl ((m,()),()))) ∧ fixO s146_L0 (((),(n,(x,((x.len:Int),((0:Int),()))))),(c,())) = some (.inl ((m,()),())):=by
  obtain ⟨d,e,h1,h2,m,rfl,rfl⟩:=fixO_sim (s1:=s266_L0) (s2:=s146_L0)
    (fun a b=>∃ (i:Nat) (n:Int),a = ((x,((),(n,((i:Int),())))),(c,())) ∧ b = (((),(n,(x,((x.len:Int),((i:Int),()))))),(c,())) ∧ i≤x.len)
    (fun d e=>∃ m,d = .inr (.inl ((m,()),())) ∧ e = .inl ((m,()),())) (fun a=>x.len - a.1.2.2.2.1.toNat) (by
      rintro _ _ ⟨i,n,rfl,rfl,hi⟩
      by_cases h:i < x.len
      · left
        have hb0:decide ((0:Int)≤(i:Int)) = true:=by simp
        have hb2:decide ((i:Int) < (x.len:Int)) = true:=by simpa using h
        have hf:=hok i h
        simp only [s266_L0,q266_L0,s146_L0,q146_L0,hb0,hb2,Bool.and_self,cond_true,wI_succ h (by omega:x.len≤2 ^ 47),Int.toNat_natCast,hf,Bool.not_true,cond_false]
        rcases chan_of hf with ⟨k0,d0⟩ | ⟨k1,d1,d2⟩
        · have e1:f238 (x.get i) = 1:=by unfold f238; rw [if_neg (by omega)]
          have e2:wI (c.1 * 1) = c.1:=by rw [Int.mul_one]; exact wI_id (by omega) (by omega)
          rw [bif_t (by simpa using k0),e1,e2]
          exact ⟨_,_,rfl,rfl,⟨i + 1,_,rfl,rfl,h⟩,by simp only [Int.toNat_natCast]; omega⟩
        · have e1:f238 (x.get i) = (x.get i).2.2.2.1:=by unfold f238; split <;> omega
          rw [bif_f (by simp [k1]),e1]
          exact ⟨_,_,rfl,rfl,⟨i + 1,_,rfl,rfl,h⟩,by simp only [Int.toNat_natCast]; omega⟩
      · right
        simp only [s266_L0,q266_L0,s146_L0,q146_L0]
        rw [bif_f (by simp; omega),bif_f (by simp; omega)]
        exact ⟨_,_,rfl,rfl,n,rfl,rfl⟩) ((x,((),(n,((0:Int),())))),(c,())) (((),(n,(x,((x.len:Int),((0:Int),()))))),(c,())) ⟨0,n,rfl,rfl,Nat.zero_le _⟩
  exact ⟨m,h1,h2⟩


abbrev Sl:Type:=Int×(Int×(Int×Unit))
abbrev Wi:Type:=Int×(Int×(Int×Unit))
abbrev PR:Type:=ByteArray×(Int×((Int×(Int×Unit))×((L Wi)×Unit)))
abbrev Tb:Type:=Int×((Int×(Int×(Int×Unit)))×(Int×(Co×(Int×(Int×(Int×((L PR)×((L Int)×((L Ch)×((L Sl)×Unit))))))))))
def tParts (t:Tb):L PR:=t.2.2.2.2.2.2.2.1
def tDevs (t:Tb):L Int:=t.2.2.2.2.2.2.2.2.1
def tChans (t:Tb):L Ch:=t.2.2.2.2.2.2.2.2.2.1
def tSlots (t:Tb):L Sl:=t.2.2.2.2.2.2.2.2.2.2.1

theorem devs (t:Tb) (hd:(tDevs t).len≤8) :
    ((∃ i,i < (tDevs t).len ∧ f97 ((tDevs t).get i) 0 (wI (((tParts t).len:Int) - 1)) = false) ∧ fixO s222_L0 (((),((0:Int),())),(t,())) = some (.inl ((false,()),())) ∧ g141_142 (tDevs t) (((tParts t).len:Int),()) = some ((true,()),())) ∨
    ((∀ i,i < (tDevs t).len→f97 ((tDevs t).get i) 0 (wI (((tParts t).len:Int) - 1)) = true) ∧ fixO s222_L0 (((),((0:Int),())),(t,())) = some (.inr (.inl (((),()),(t,())))) ∧ g141_142 (tDevs t) (((tParts t).len:Int),()) = some ((false,()),())):=by
  have h1:=scan (step:=s222_L0) (fun i=>(((),((i:Int),())),(t,()))) (tDevs t).len (fun i=>f97 ((tDevs t).get i) 0 (wI (((tParts t).len:Int) - 1))) (fun _=>.inl ((false,()),())) (.inr (.inl (((),()),(t,()))))
    (fun i hi ho=>by
      have ho':(!f97 ((tDevs t).get ((i:Int)).toNat) 0 (wI (((tParts t).len:Int) - 1))) = false:=by rw [Int.toNat_natCast,ho]; rfl
      simp only [s222_L0,q222_L0]
      refine (bif_t (idx_lt hi)).trans ((bif_t (idx_in hi)).trans ((bif_f ho').trans ?_))
      rw [wI_succ hi (by omega)])
    (fun i hi ho=>by
      have ho':(!f97 ((tDevs t).get ((i:Int)).toNat) 0 (wI (((tParts t).len:Int) - 1))) = true:=by rw [Int.toNat_natCast,ho]; rfl
      simp only [s222_L0,q222_L0]
      exact (bif_t (idx_lt hi)).trans ((bif_t (idx_in hi)).trans (bif_t ho')))
    (by
      simp only [s222_L0,q222_L0]
      exact bif_f (idx_end (tDevs t).len))
  have h2:=scan (step:=s236_142_L0) (fun i=>((tDevs t,((((tParts t).len:Int),()),(((tDevs t).len:Int),((i:Int),())))),())) (tDevs t).len (fun i=>f97 ((tDevs t).get i) 0 (wI (((tParts t).len:Int) - 1))) (fun i=>.inl (((i:Int),()),())) (.inr (.inl ((),())))
    (fun i hi ho=>by
      have ho':f142 ((tDevs t).get ((i:Int)).toNat) ((tParts t).len:Int) = false:=by unfold f142; rw [Int.toNat_natCast,f136_97,ho]; rfl
      simp only [s236_142_L0,q236_142_L0]
      refine (bif_t (idx_lt hi)).trans ((bif_t (idx_in hi)).trans ((bif_f ho').trans ?_))
      rw [wI_succ hi (by omega)])
    (fun i hi ho=>by
      have ho':f142 ((tDevs t).get ((i:Int)).toNat) ((tParts t).len:Int) = true:=by unfold f142; rw [Int.toNat_natCast,f136_97,ho]; rfl
      simp only [s236_142_L0,q236_142_L0]
      exact (bif_t (idx_lt hi)).trans ((bif_t (idx_in hi)).trans (bif_t ho')))
    (by
      simp only [s236_142_L0,q236_142_L0]
      exact bif_f (idx_end (tDevs t).len))
  unfold g141_142 g236_142
  rcases h1 with ⟨i,hi,ho,_,e1⟩ | ⟨ha,e1⟩
  · rcases h2 with ⟨k,hk,hok,_,e2⟩ | ⟨hb,_⟩
    · refine .inl ⟨⟨i,hi,ho⟩,e1,?_⟩
      have e2':fixO s236_142_L0 ((tDevs t,((((tParts t).len:Int),()),(((tDevs t).len:Int),((0:Int),())))),()) = some (.inl (((k:Int),()),())):=e2
      rw [e2']
      simp
    · have:=hb i hi; rw [ho] at this; cases this
  · rcases h2 with ⟨k,hk,hok,_,_⟩ | ⟨hb,e2⟩
    · have:=ha k hk; rw [hok] at this; cases this
    · refine .inr ⟨ha,e1,?_⟩
      have e2':fixO s236_142_L0 ((tDevs t,((((tParts t).len:Int),()),(((tDevs t).len:Int),((0:Int),())))),()) = some (.inr (.inl ((),()))):=e2
      rw [e2']
      simp

theorem f145_297 (c:Ch):f145 c = f297 c:=rfl
theorem f144_iff (c:Ch) (n:Int):f144 c n = false ↔ f297 c = true ∧ c.2.1 < n ∧ c.2.2.1 < n:=by
  unfold f144
  rw [f145_297]
  cases h:f297 c with
  | false=>simp
  | true =>
    rw [bif_f (show (!true) = false from rfl)]
    by_cases h1:c.2.1 ≥ n
    · rw [bif_t (by simpa using h1)]; simp; omega
    · rw [bif_f (by simpa using h1)]; simp; omega

theorem chans (t:Tb) (hd:(tChans t).len≤8) :
    (fixO s222_L2 (((),((0:Int),())),(t,())) = some (.inl ((false,()),())) ∧ g143_144 (tChans t) (((tParts t).len:Int),()) = some ((true,()),())) ∨
    ((∀ i,i < (tChans t).len→f297 ((tChans t).get i) = true ∧ ((tChans t).get i).2.1 < ((tParts t).len:Int) ∧ ((tChans t).get i).2.2.1 < ((tParts t).len:Int)) ∧ fixO s222_L2 (((),((0:Int),())),(t,())) = some (.inr (.inl (((),()),(t,())))) ∧ g143_144 (tChans t) (((tParts t).len:Int),()) = some ((false,()),())):=by
  have h1:=scan (step:=s222_L2) (fun i=>(((),((i:Int),())),(t,()))) (tChans t).len (fun i=>!f144 ((tChans t).get i) ((tParts t).len:Int)) (fun _=>.inl ((false,()),())) (.inr (.inl (((),()),(t,()))))
    (fun i hi ho=>by
      have ho:f144 ((tChans t).get i) ((tParts t).len:Int) = false:=by simpa using ho
      obtain ⟨o1,o2,o3⟩:=(f144_iff _ _).mp ho
      have e1:(!f297 ((tChans t).get ((i:Int)).toNat)) = false:=by rw [Int.toNat_natCast,o1]; rfl
      have e2:decide (((tChans t).get ((i:Int)).toNat).2.1 ≥ ((tParts t).len:Int)) = false:=by rw [Int.toNat_natCast]; simp; omega
      have e3:decide (((tChans t).get ((i:Int)).toNat).2.2.1 ≥ ((tParts t).len:Int)) = false:=by rw [Int.toNat_natCast]; simp; omega
      simp only [s222_L2,q222_L2]
      refine (bif_t (idx_lt hi)).trans ((bif_t (idx_in hi)).trans ((bif_f e1).trans ((bif_t (idx_in hi)).trans ((bif_f e2).trans ((bif_t (idx_in hi)).trans ((bif_f e3).trans ?_))))))
      rw [wI_succ hi (by omega)])
    (fun i hi ho=>by
      have ho:¬ (f297 ((tChans t).get i) = true ∧ ((tChans t).get i).2.1 < ((tParts t).len:Int) ∧ ((tChans t).get i).2.2.1 < ((tParts t).len:Int)):=fun q=>by
        rw [(f144_iff _ _).mpr q] at ho; cases ho
      simp only [s222_L2,q222_L2]
      refine (bif_t (idx_lt hi)).trans ((bif_t (idx_in hi)).trans ?_)
      cases o1:f297 ((tChans t).get i) with
      | false=>exact bif_t (show (!f297 ((tChans t).get ((i:Int)).toNat)) = true by rw [Int.toNat_natCast,o1]; rfl)
      | true =>
        refine (bif_f (show (!f297 ((tChans t).get ((i:Int)).toNat)) = false by rw [Int.toNat_natCast,o1]; rfl)).trans ((bif_t (idx_in hi)).trans ?_)
        by_cases o2:((tChans t).get i).2.1 < ((tParts t).len:Int)
        · refine (bif_f (show decide (((tChans t).get ((i:Int)).toNat).2.1 ≥ ((tParts t).len:Int)) = false by rw [Int.toNat_natCast]; simp; omega)).trans ((bif_t (idx_in hi)).trans ?_)
          have o3:¬ ((tChans t).get i).2.2.1 < ((tParts t).len:Int):=fun q=>ho ⟨o1,o2,q⟩
          exact bif_t (show decide (((tChans t).get ((i:Int)).toNat).2.2.1 ≥ ((tParts t).len:Int)) = true by rw [Int.toNat_natCast]; simp; omega)
        · exact bif_t (show decide (((tChans t).get ((i:Int)).toNat).2.1 ≥ ((tParts t).len:Int)) = true by rw [Int.toNat_natCast]; simp; omega))
    (by
      simp only [s222_L2,q222_L2]
      exact bif_f (idx_end (tChans t).len))
  have h2:=scan (step:=s237_144_L0) (fun i=>((tChans t,((((tParts t).len:Int),()),(((tChans t).len:Int),((i:Int),())))),())) (tChans t).len (fun i=>!f144 ((tChans t).get i) ((tParts t).len:Int)) (fun i=>.inl (((i:Int),()),())) (.inr (.inl ((),())))
    (fun i hi ho=>by
      have ho':f144 ((tChans t).get ((i:Int)).toNat) ((tParts t).len:Int) = false:=by rw [Int.toNat_natCast]; simpa using ho
      simp only [s237_144_L0,q237_144_L0]
      refine (bif_t (idx_lt hi)).trans ((bif_t (idx_in hi)).trans ((bif_f ho').trans ?_))
      rw [wI_succ hi (by omega)])
    (fun i hi ho=>by
      have ho':f144 ((tChans t).get ((i:Int)).toNat) ((tParts t).len:Int) = true:=by rw [Int.toNat_natCast]; simpa using ho
      simp only [s237_144_L0,q237_144_L0]
      exact (bif_t (idx_lt hi)).trans ((bif_t (idx_in hi)).trans (bif_t ho')))
    (by
      simp only [s237_144_L0,q237_144_L0]
      exact bif_f (idx_end (tChans t).len))
  unfold g143_144 g237_144
  rcases h1 with ⟨i,hi,ho,_,e1⟩ | ⟨ha,e1⟩
  · rcases h2 with ⟨k,hk,hok,_,e2⟩ | ⟨hb,_⟩
    · refine .inl ⟨e1,?_⟩
      have e2':fixO s237_144_L0 ((tChans t,((((tParts t).len:Int),()),(((tChans t).len:Int),((0:Int),())))),()) = some (.inl (((k:Int),()),())):=e2
      rw [e2']
      simp
    · have:=hb i hi; rw [ho] at this; cases this
  · rcases h2 with ⟨k,hk,hok,_,_⟩ | ⟨hb,e2⟩
    · have:=ha k hk; rw [hok] at this; cases this
    · refine .inr ⟨fun i hi=>(f144_iff _ _).mp (by simpa using ha i hi),e1,?_⟩
      have e2':fixO s237_144_L0 ((tChans t,((((tParts t).len:Int),()),(((tChans t).len:Int),((0:Int),())))),()) = some (.inr (.inl ((),()))):=e2
      rw [e2']
      simp

theorem f239_iff (t:Tb) (s:Sl) (e:Int) (h1:1≤t.2.2.2.2.1 ∧ t.2.2.2.2.1≤5000) (h2:1≤t.2.2.2.2.2.1 ∧ t.2.2.2.2.2.1≤5000) (h3:1≤t.2.2.2.2.2.2.1 ∧ t.2.2.2.2.2.2.1≤5000) :
    f239 t s e = true ↔ s.2.2.1 > t.2.2.2.2.1 + t.2.2.2.2.2.1 ∧ s.2.2.1≤t.2.2.2.2.2.2.1 ∧ s.2.1 ≥ e ∧ s.2.1≤t.2.2.2.2.2.2.1 - s.2.2.1:=by
  unfold f239
  rw [wI_id (n:=t.2.2.2.2.1 + t.2.2.2.2.2.1) (by omega) (by omega)]
  by_cases a:s.2.2.1 > t.2.2.2.2.1 + t.2.2.2.2.2.1
  · rw [bif_t (by simpa using a)]
    by_cases b:s.2.2.1≤t.2.2.2.2.2.2.1
    · rw [bif_t (by simpa using b),wI_id (by omega) (by omega)]
      by_cases c:s.2.1 ≥ e
      · rw [bif_t (by simpa using c)]; simp; omega
      · rw [bif_f (by simpa using c)]; simp; omega
    · rw [bif_f (by simpa using b)]; simp; omega
  · rw [bif_f (by simpa using a)]; simp; omega

def SlotsIn (t:Tb):Prop :=
  (∀ k,k < (tSlots t).len→f97 ((tSlots t).get k).1 0 (wI (((tParts t).len:Int) - 1)) = true ∧ t.2.2.2.2.1 + t.2.2.2.2.2.1 < ((tSlots t).get k).2.2.1 ∧ 0≤((tSlots t).get k).2.1 ∧ ((tSlots t).get k).2.1 + ((tSlots t).get k).2.2.1≤t.2.2.2.2.2.2.1) ∧
  ∀ k m,k < m→m < (tSlots t).len→((tSlots t).get k).2.1 + ((tSlots t).get k).2.2.1≤((tSlots t).get m).2.1

theorem slotsLoop (t:Tb) (hl:(tSlots t).len≤2 ^ 47) (h1:1≤t.2.2.2.2.1 ∧ t.2.2.2.2.1≤5000) (h2:1≤t.2.2.2.2.2.1 ∧ t.2.2.2.2.2.1≤5000) (h3:1≤t.2.2.2.2.2.2.1 ∧ t.2.2.2.2.2.2.1≤5000) :
    ∃ d e,fixO s223_L0 (((),((0:Int),((0:Int),()))),(t,())) = some d ∧ fixO s147_L0 (((),((0:Int),(tSlots t,(((tSlots t).len:Int),((0:Int),()))))),(t,())) = some e ∧
      ((d = .inl ((false,()),()) ∧ e = .inl ((false,()),())) ∨ (d = .inr (.inl ((),())) ∧ e = .inr (.inl (((),()),(t,()))) ∧ SlotsIn t)):=by
  refine fixO_sim (s1:=s223_L0) (s2:=s147_L0)
    (fun a b=>∃ (i:Nat) (e:Int),a = (((),(e,((i:Int),()))),(t,())) ∧ b = (((),(e,(tSlots t,(((tSlots t).len:Int),((i:Int),()))))),(t,())) ∧ i≤(tSlots t).len ∧ 0≤e ∧ e≤5000 ∧
      (∀ k,k < i→(f97 ((tSlots t).get k).1 0 (wI (((tParts t).len:Int) - 1)) = true ∧ t.2.2.2.2.1 + t.2.2.2.2.2.1 < ((tSlots t).get k).2.2.1 ∧ 0≤((tSlots t).get k).2.1 ∧ ((tSlots t).get k).2.1 + ((tSlots t).get k).2.2.1≤t.2.2.2.2.2.2.1) ∧ ((tSlots t).get k).2.1 + ((tSlots t).get k).2.2.1≤e) ∧
      ∀ k m,k < m→m < i→((tSlots t).get k).2.1 + ((tSlots t).get k).2.2.1≤((tSlots t).get m).2.1)
    (fun d e=>(d = .inl ((false,()),()) ∧ e = .inl ((false,()),())) ∨ (d = .inr (.inl ((),())) ∧ e = .inr (.inl (((),()),(t,()))) ∧ SlotsIn t)) (fun a=>(tSlots t).len - a.1.2.2.1.toNat) ?_ _ _ ⟨0,0,rfl,rfl,Nat.zero_le _,by omega,by omega,fun k hk=>absurd hk (Nat.not_lt_zero _),fun k m _ hk=>absurd hk (Nat.not_lt_zero _)⟩
  rintro _ _ ⟨i,e,rfl,rfl,hi,he1,he2,hk1,hk2⟩
  by_cases h:i < (tSlots t).len
  · simp only [s223_L0,q223_L0,s147_L0,q147_L0]
    rw [wI_succ h hl,Int.toNat_natCast]
    generalize hs:(tSlots t).get i = s
    have hs':(t.2.2.2.2.2.2.2.2.2.2.1).get i = s:=hs
    have c1:∀ {α:Type} {a b:α},(bif decide ((i:Int) < ((t.2.2.2.2.2.2.2.2.2.2.1).len:Int)) then a else b) = a:=bif_t (idx_lt h)
    have c2:∀ {α:Type} {a b:α},(bif decide ((0:Int)≤(i:Int))&&decide ((i:Int) < ((t.2.2.2.2.2.2.2.2.2.2.1).len:Int)) then a else b) = a:=bif_t (idx_in h)
    have c3:∀ {α:Type} {a b:α},(bif decide ((i:Int) < ((tSlots t).len:Int)) then a else b) = a:=bif_t (idx_lt h)
    have c4:∀ {α:Type} {a b:α},(bif decide ((0:Int)≤(i:Int))&&decide ((i:Int) < ((tSlots t).len:Int)) then a else b) = a:=bif_t (idx_in h)
    rw [c1,c2,c3,c4,hs',f136_97,wI_id (n:=t.2.2.2.2.1 + t.2.2.2.2.2.1) (by omega) (by omega),wI_id (n:=t.2.2.2.2.1 + t.2.2.2.2.2.1 + 1) (by omega) (by omega)]
    have hiff:=f239_iff t s e h1 h2 h3
    cases hp:f97 s.1 0 (wI (((t.2.2.2.2.2.2.2.1).len:Int) - 1)) with
    | false=>exact .inr ⟨_,_,rfl,rfl,.inl ⟨rfl,rfl⟩⟩
    | true =>
      simp only [Bool.not_true,cond_false]
      cases ha:f97 s.2.1 e 5000 with
      | false =>
        have hf:f239 t s e = false:=by
          cases hq:f239 t s e with
          | false=>rfl
          | true =>
            have:=hiff.mp hq
            rw [(f97_iff _ _ _).mpr (by omega)] at ha; cases ha
        right
        rw [hf]
        exact ⟨_,_,rfl,rfl,.inl ⟨rfl,rfl⟩⟩
      | true =>
        have ha:=(f97_iff _ _ _).mp ha
        cases hb:f97 s.2.2.1 (t.2.2.2.2.1 + t.2.2.2.2.2.1 + 1) 5000 with
        | false =>
          have hf:f239 t s e = false:=by
            cases hq:f239 t s e with
            | false=>rfl
            | true =>
              have:=hiff.mp hq
              rw [(f97_iff _ _ _).mpr (by omega)] at hb; cases hb
          right
          rw [hf]
          exact ⟨_,_,rfl,rfl,.inl ⟨rfl,rfl⟩⟩
        | true =>
          have hb:=(f97_iff _ _ _).mp hb
          simp only [Bool.not_true,cond_false]
          rw [wI_id (n:=s.2.1 + s.2.2.1) (by omega) (by omega)]
          by_cases hc:s.2.1 + s.2.2.1 > t.2.2.2.2.2.2.1
          · have hf:f239 t s e = false:=by
              cases hq:f239 t s e with
              | false=>rfl
              | true =>
                have:=hiff.mp hq
                omega
            right
            rw [hf,bif_t (by simpa using hc)]
            exact ⟨_,_,rfl,rfl,.inl ⟨rfl,rfl⟩⟩
          · have hf:f239 t s e = true:=hiff.mpr (by omega)
            left
            rw [hf,bif_f (by simpa using hc)]
            have hk1':∀ k,k < i + 1→(f97 ((tSlots t).get k).1 0 (wI (((tParts t).len:Int) - 1)) = true ∧ t.2.2.2.2.1 + t.2.2.2.2.2.1 < ((tSlots t).get k).2.2.1 ∧ 0≤((tSlots t).get k).2.1 ∧ ((tSlots t).get k).2.1 + ((tSlots t).get k).2.2.1≤t.2.2.2.2.2.2.1) ∧ ((tSlots t).get k).2.1 + ((tSlots t).get k).2.2.1≤s.2.1 + s.2.2.1:=fun k hk=>by
              by_cases q:k = i
              · rw [q,hs]
                exact ⟨⟨hp,by omega,by omega,by omega⟩,by omega⟩
              · have:=hk1 k (by omega)
                exact ⟨this.1,by omega⟩
            have hk2':∀ k m,k < m→m < i + 1→((tSlots t).get k).2.1 + ((tSlots t).get k).2.2.1≤((tSlots t).get m).2.1:=fun k m h1 h2=>by
              by_cases q:m = i
              · rw [q,hs]
                have:=(hk1 k (by omega)).2
                omega
              · exact hk2 k m h1 (by omega)
            exact ⟨_,_,rfl,rfl,⟨i + 1,_,rfl,rfl,h,by omega,by omega,hk1',hk2'⟩,by simp only [Int.toNat_natCast]; omega⟩
  · right
    have:i = (tSlots t).len:=by omega
    subst this
    simp only [s223_L0,q223_L0,s147_L0,q147_L0]
    exact ⟨_,_,bif_f (idx_end (tSlots t).len),bif_f (idx_end (tSlots t).len),.inr ⟨rfl,rfl,fun k hk=>(hk1 k hk).1,hk2⟩⟩

theorem bt_range (s:ByteArray) (i:Int):0≤bt s i ∧ bt s i≤255:=by
  unfold bt
  have:=((s[i.toNat]?).getD 0).toNat_lt
  omega

def okFrom (s:ByteArray) (i:Int):Prop:=∀ j:Int,i≤j→j < s.size→97≤bt s j ∧ bt s j≤122

theorem okFrom_step {s:ByteArray} {i:Int} (h:97≤bt s i ∧ bt s i≤122):okFrom s (i + 1)→okFrom s i:=by
  intro h' j h1 h2
  by_cases e:j = i
  · subst e; exact h
  · exact h' j (by omega) h2

theorem okFrom_back {s:ByteArray} {i:Int} (h':okFrom s i):okFrom s (i + 1):=fun j h1 h2=>h' j (by omega) h2

theorem end191 (s:ByteArray) (hs:s.size≤8):∃ b,g355 s = some ((b,()),()) ∧ (b = true ↔ okFrom s 0 ∧ 1≤s.size):=by
  obtain ⟨d,h1,h2⟩:=fixO_rel (step:=s355_L0) (fun x=>((s.size:Int) - x.1.2.1).toNat) (fun x=>x.1.1 = s ∧ 0≤x.1.2.1 ∧ x.1.2.1≤s.size)
    (fun x d=>match d with
      | .inl y=>y.1.1 = false ∧ ¬ okFrom s x.1.2.1
      | .inr (.inl y)=>y.1.1 = s ∧ okFrom s x.1.2.1
      | .inr (.inr _)=>False) (by
      rintro ⟨⟨(t:ByteArray),(i:Int),⟨⟩⟩,⟨⟩⟩ ⟨h1,h2,h3⟩
      simp only at h1 h2 h3
      subst h1
      simp only [s355_L0,q355_L0]
      by_cases hi:i < t.size
      · rw [bif_t (by simpa using hi),bif_t (by simp; omega),bif_t (by simp; omega)]
        have hb:=bt_range t i
        rw [wI_id (by omega) (by omega),wI_id (n:=i + 1) (by omega) (by omega)]
        by_cases hr:97≤bt t i ∧ bt t i≤122
        · left
          have e:f97 (bt t i) 97 122 = true:=by
            unfold f97; rw [bif_t (by simpa using hr.1)]; simpa using hr.2
          rw [e]
          refine ⟨_,rfl,⟨rfl,by simp only; omega,by simp only; omega⟩,by simp only; omega,fun d hd=>?_⟩
          match d,hd with
          | .inl y,hd=>exact ⟨hd.1,fun h=>hd.2 (okFrom_back h)⟩
          | .inr (.inl y),hd=>exact ⟨hd.1,okFrom_step hr hd.2⟩
        · right
          have e:f97 (bt t i) 97 122 = false:=by
            unfold f97
            by_cases h97:bt t i ≥ 97
            · rw [bif_t (by simpa using h97)]; simp; omega
            · rw [bif_f (by simp; omega)]
          rw [e]
          exact ⟨_,rfl,rfl,fun h=>hr (h i (Int.le_refl _) hi)⟩
      · right
        rw [bif_f (by simp; omega)]
        exact ⟨_,rfl,rfl,fun j h4 h5=>by omega⟩) ((s,0,()),()) ⟨rfl,by simp,by simp⟩
  unfold g355
  rw [h1]
  simp only [Option.bind_some]
  match d,h2 with
  | .inl y,h2=>exact ⟨_,rfl,by rw [h2.1]; simp only [Bool.false_eq_true,false_iff]; exact fun h=>h2.2 h.1⟩
  | .inr (.inl y),h2 =>
    refine ⟨_,rfl,?_⟩
    rw [h2.1]
    unfold f97
    by_cases h0:1≤s.size
    · rw [bif_t (by simp; omega)]
      simp only [decide_eq_true_eq]
      exact ⟨fun _=>⟨h2.2,h0⟩,fun _=>by omega⟩
    · rw [bif_f (by simp; omega)]
      simp only [Bool.false_eq_true,false_iff]
      exact fun h=>h0 h.2

theorem end190 (s:ByteArray) (hs:s.size≤2 ^ 47):∃ b,g301 s = some ((b,()),()) ∧ (b = true ↔ okFrom s 0 ∧ 1≤s.size ∧ s.size≤12):=by
  have h47:(2:Nat) ^ 47 = 140737488355328:=by decide
  rw [h47] at hs
  obtain ⟨d,h1,h2⟩:=fixO_rel (step:=s301_L0) (fun x=>((s.size:Int) - x.1.2.2.1).toNat) (fun x=>x.1.1 = s ∧ x.1.2.1 = s.size ∧ 0≤x.1.2.2.1 ∧ x.1.2.2.1≤s.size)
    (fun x d=>match d with
      | .inl y=>y.1.1 = false ∧ ¬ okFrom s x.1.2.2.1
      | .inr (.inl y)=>y.1.1 = s ∧ okFrom s x.1.2.2.1
      | .inr (.inr _)=>False) (by
      rintro ⟨⟨(t:ByteArray),(n:Int),(i:Int),⟨⟩⟩,⟨⟩⟩ ⟨h1,hn,h2,h3⟩
      simp only at h1 h2 h3 hn
      subst h1 hn
      simp only [s301_L0,q301_L0]
      by_cases hi:i < t.size
      · rw [bif_t (by simpa using hi),bif_t (by simp; omega)]
        rw [wI_id (n:=i + 1) (by omega) (by omega)]
        by_cases hr:97≤bt t i ∧ bt t i≤122
        · left
          rw [bif_f (by simp; omega),bif_t (by simp; omega),bif_f (by simp; omega)]
          refine ⟨_,rfl,⟨rfl,rfl,by simp only; omega,by simp only; omega⟩,by simp only; omega,fun d hd=>?_⟩
          match d,hd with
          | .inl y,hd=>exact ⟨hd.1,fun h=>hd.2 (okFrom_back h)⟩
          | .inr (.inl y),hd=>exact ⟨hd.1,okFrom_step hr hd.2⟩
        · right
          by_cases h97:bt t i < 97
          · rw [bif_t (by simpa using h97)]
            exact ⟨_,rfl,rfl,fun h=>hr (h i (Int.le_refl _) hi)⟩
          · rw [bif_f (by simp; omega),bif_t (by simp; omega),bif_t (by simp; omega)]
            exact ⟨_,rfl,rfl,fun h=>hr (h i (Int.le_refl _) hi)⟩
      · right
        rw [bif_f (by simp; omega)]
        exact ⟨_,rfl,rfl,fun j h4 h5=>by omega⟩) ((s,s.size,0,()),()) ⟨rfl,rfl,by simp,by simp⟩
  unfold g301
  rw [h1]
  simp only [Option.bind_some]
  match d,h2 with
  | .inl y,h2=>exact ⟨_,rfl,by rw [h2.1]; simp only [Bool.false_eq_true,false_iff]; exact fun h=>h2.2 h.1⟩
  | .inr (.inl y),h2 =>
    refine ⟨_,rfl,?_⟩
    rw [h2.1]
    unfold f136
    by_cases h0:1≤s.size
    · rw [bif_t (by simp; omega)]
      simp only [decide_eq_true_eq]
      exact ⟨fun h=>⟨h2.2,h0,by omega⟩,fun h=>by omega⟩
    · rw [bif_f (by simp; omega)]
      simp only [Bool.false_eq_true,false_iff]
      exact fun h=>h0 h.2.1

theorem names (s:ByteArray) (hw:s.size≤2 ^ 47):∃ b,g342 s = some ((b,()),()) ∧ g228 s = some ((b,()),()):=by
  obtain ⟨b2,e2,r2⟩:=end190 s hw
  refine ⟨decide (b2 = true ∧ s.size≤8),?_,?_⟩
  · unfold g342
    by_cases h8:s.size≤8
    · obtain ⟨b1,e1,r1⟩:=end191 s h8
      rw [bif_t (by simp; omega),e1]
      simp only [Option.bind_some]
      congr 3
      cases b1 with
      | true =>
        have:=r1.mp rfl
        have h2:=r2.mpr ⟨this.1,this.2,by omega⟩
        simp [h2,h8]
      | false =>
        cases b2 with
        | false=>simp
        | true =>
          have:=r2.mp rfl
          have:=r1.mpr ⟨this.1,this.2.1⟩
          cases this
    · rw [bif_f (by simp; omega)]
      simp [h8]
  · unfold g228
    rw [e2]
    simp only [Option.bind_some]
    cases b2 with
    | true=>simp; omega
    | false=>simp

theorem policies (p:Int×(Int×Unit)):f230 p = f335 p:=rfl

theorem bif_and {b x:Bool}:(bif b then x else false) = (b&&x):=by cases b <;> rfl

theorem f308_iff (w:Wi):f308 w = true ↔ (0≤w.1 ∧ w.1≤2048) ∧ (4≤w.2.1 ∧ w.2.1≤2048) ∧ Int.tmod w.1 4 = 0 ∧ Int.tmod w.2.1 4 = 0 ∧ w.1 + w.2.1≤2048 ∧ (1≤w.2.2.1 ∧ w.2.2.1≤7):=by
  unfold f308
  simp only [bif_and,Bool.and_eq_true,f97_iff,beq_iff_eq,decide_eq_true_eq]
  constructor
  · rintro ⟨h1,h2,h3,h4,h5,h6⟩
    rw [wI_id (by omega) (by omega)] at h5
    exact ⟨h1,h2,h3,h4,h5,h6⟩
  · rintro ⟨h1,h2,h3,h4,h5,h6⟩
    refine ⟨h1,h2,h3,h4,?_,h6⟩
    rw [wI_id (by omega) (by omega)]
    exact h5

theorem f231_308 (w:Wi):f231 w = f308 w:=by
  rw [Bool.eq_iff_iff,f308_iff]
  unfold f231
  rw [f136_97]
  simp only [bif_and,Bool.and_eq_true,f97_iff,beq_iff_eq]
  constructor
  · rintro ⟨h1,h2,h3,h4,h5⟩
    rw [wI_id (by omega) (by omega)] at h3
    exact ⟨by omega,h1,h4,h2,by omega,h5⟩
  · rintro ⟨h1,h2,h3,h4,h5,h6⟩
    refine ⟨h2,h4,?_,h3,h6⟩
    rw [wI_id (by omega) (by omega)]
    omega

theorem f234_iff (v w:Wi) (hv:f308 v = true) (hw:f308 w = true):f234 v w = true ↔ v.1 + v.2.1≤w.1 ∨ w.1 + w.2.1≤v.1:=by
  have a:=(f308_iff v).mp hv
  have b:=(f308_iff w).mp hw
  unfold f234
  rw [wI_id (n:=v.1 + v.2.1) (by omega) (by omega),wI_id (n:=w.1 + w.2.1) (by omega) (by omega)]
  by_cases h:v.1 + v.2.1≤w.1
  · rw [bif_t (by simpa using h)]; simp; omega
  · rw [bif_f (by simpa using h)]; simp; omega

theorem f343_iff (w:Wi) (x:Int) (hw:f308 w = true):f343 w x = true ↔ w.1≤x ∧ x < w.1 + w.2.1:=by
  have b:=(f308_iff w).mp hw
  unfold f343
  rw [wI_id (n:=w.1 + w.2.1) (by omega) (by omega)]
  by_cases h:x ≥ w.1
  · rw [bif_t (by simpa using h)]; simp; omega
  · rw [bif_f (by simpa using h)]; simp; omega

theorem named (t:Tb) (hl:(tParts t).len≤2 ^ 47) (s:ByteArray):∃ n:Int,g229 t s = some ((n,()),()) ∧ ((∃ i:Nat,n = i ∧ i < (tParts t).len ∧ strEq ((tParts t).get i).1 s = true ∧ ∀ j,j < i→strEq ((tParts t).get j).1 s = false) ∨ (n = -1 ∧ ∀ i,i < (tParts t).len→strEq ((tParts t).get i).1 s = false)):=by
  have h:=index_loop (step:=s302_303_L0) (x:=tParts t) (c:=(s,())) (fun i=>strEq ((tParts t).get i).1 s) (fun i hi=>by
    simp only [s302_303_L0,q302_303_L0]
    refine (bif_t (idx_lt hi)).trans ((bif_t (idx_in hi)).trans ?_)
    rw [wI_succ hi hl,Int.toNat_natCast]
    by_cases hf:strEq ((tParts t).get i).1 s = true
    · rw [if_pos hf]; exact bif_t hf
    · rw [if_neg hf]; exact bif_f (show strEq ((tParts t).get i).1 s = false by simpa using hf)) (by
    simp only [s302_303_L0,q302_303_L0]
    exact bif_f (idx_end (tParts t).len))
  unfold g229 g302_303
  rcases h with ⟨i,h1,h2,h3,h4⟩ | ⟨h1,h2⟩
  · have h4':fixO s302_303_L0 ((t.2.2.2.2.2.2.2.1,((s,()),((t.2.2.2.2.2.2.2.1.len:Int),((0:Int),())))),()) = some (.inl (((i:Int),()),())):=h4
    rw [h4']
    exact ⟨i,rfl,.inl ⟨i,rfl,h1,h2,h3⟩⟩
  · have h2':fixO s302_303_L0 ((t.2.2.2.2.2.2.2.1,((s,()),((t.2.2.2.2.2.2.2.1.len:Int),((0:Int),())))),()) = some (.inr (.inl ((),()))):=h2
    rw [h2']
    exact ⟨-1,rfl,.inr ⟨rfl,h1⟩⟩

noncomputable def rest71 (t:Tb):Option ((Bool×Unit)×Unit) :=
  bif (!(f136 ((tParts t).len:Int) (1:Int) (6:Int))) then
    some ((false,()),())
  else
    (g140 t).bind fun y2 =>
      bif (!y2.1.1) then
        some ((false,()),())
      else
        bif (decide (((tDevs t).len:Int) > (8:Int))) then
          some ((false,()),())
        else
          (g141_142 (tDevs t) (((tParts t).len:Int),())).bind fun y3 =>
            bif y3.1.1 then
              some ((false,()),())
            else
              bif (decide (((tChans t).len:Int) > (8:Int))) then
                some ((false,()),())
              else
                (g143_144 (tChans t) (((tParts t).len:Int),())).bind fun y4 =>
                  bif y4.1.1 then
                    some ((false,()),())
                  else
                    (g146 t.2.2.2.1 t.2.1 (tChans t)).bind fun y5 =>
                      bif (decide (t.2.2.2.2.1 < y5.1.1)) then
                        some ((false,()),())
                      else
                        (g147 t).bind fun y6 =>
                          some ((y6.1.1,()),())

theorem head (t:Tb):(g220 t = some ((false,()),()) ∧ g54 t = some ((false,()),())) ∨
    (f294 t.2.2.2.1 = true ∧ (1≤t.2.2.2.2.1 ∧ t.2.2.2.2.1≤5000) ∧ (1≤t.2.2.2.2.2.1 ∧ t.2.2.2.2.2.1≤5000) ∧ (1≤t.2.2.2.2.2.2.1 ∧ t.2.2.2.2.2.2.1≤5000) ∧ f119 t.2.1 = true ∧ f97 t.1 64 2048 = true ∧ g220 t = some ((true,()),()) ∧ g54 t = rest71 t):=by
  have e127:∀ n,f138 n = f97 n 1 5000:=fun n=>rfl
  have e124:∀ n,f134 n = (f97 n 64 2048&&(Int.tmod n 4 == 0)):=fun n=>by
    unfold f134
    rw [f136_97]
    cases f97 n 64 2048 <;> rfl
  unfold g220 g54
  rw [e124,e127,e127,e127,f137_294,f135_119,f136_97]
  have g139_227:g139 t.2.2.2.1 = (g227 t.2.2.2.1).bind fun y=>some ((y.1.1,()),()):=rfl
  rw [g139_227]
  cases h1:f97 t.1 64 2048 with
  | false=>exact .inl ⟨rfl,rfl⟩
  | true =>
    cases h2:(Int.tmod t.1 4 == 0) with
    | false =>
      have:(Int.tmod t.1 4 != 0) = true:=by simpa [bne] using h2
      rw [this]
      exact .inl ⟨rfl,rfl⟩
    | true =>
      have:(Int.tmod t.1 4 != 0) = false:=by simpa [bne] using h2
      rw [this]
      cases h3:f119 t.2.1 with
      | false=>exact .inl ⟨rfl,rfl⟩
      | true =>
        cases h4:f97 t.2.2.1 1 8 with
        | false=>exact .inl ⟨rfl,rfl⟩
        | true =>
          cases h5:f294 t.2.2.2.1 with
          | false=>exact .inl ⟨rfl,rfl⟩
          | true =>
            cases h6:f97 t.2.2.2.2.1 1 5000 with
            | false=>exact .inl ⟨rfl,rfl⟩
            | true =>
              cases h7:f97 t.2.2.2.2.2.1 1 5000 with
              | false=>exact .inl ⟨rfl,rfl⟩
              | true =>
                cases h8:f97 t.2.2.2.2.2.2.1 1 5000 with
                | false=>exact .inl ⟨rfl,rfl⟩
                | true =>
                  obtain ⟨n,w1,w2⟩:=worst h5
                  rw [w1,w2]
                  simp only [Bool.not_true,cond_false,cond_true,Bool.and_self,Option.bind_some]
                  by_cases hg:t.2.2.2.2.2.1 ≥ n
                  · right
                    refine ⟨trivial,(f97_iff _ _ _).mp h6,(f97_iff _ _ _).mp h7,(f97_iff _ _ _).mp h8,trivial,trivial,?_,?_⟩
                    · rw [decide_eq_true hg]
                    · exact bif_f (by simp; omega)
                  · left
                    refine ⟨?_,?_⟩
                    · rw [decide_eq_false hg]
                    · exact bif_t (by simp; omega)

theorem pads (t:Tb) (hc:f294 t.2.2.2.1 = true) (hs:f119 t.2.1 = true) (hl:(tChans t).len≤8) (hok:∀ j,j < (tChans t).len→f297 ((tChans t).get j) = true) :
    ∃ n:Int,g266 t.2.2.2.1 t.2.1 (tChans t) = some ((n,()),()) ∧ g146 t.2.2.2.1 t.2.1 (tChans t) = some ((n,()),()):=by
  obtain ⟨c1,_⟩:=costs_of hc
  obtain ⟨m,h1,h2⟩:=good (tChans t) hl t.2.2.2.1 c1 (wI ((wI (16 * t.2.2.2.1.1)) + (wI ((wI (t.2.1.1 * t.2.1.2.1)) * t.2.2.2.1.2.2.2.2.2.2.1)))) hok
  unfold g266 g146
  rw [hc,hs]
  simp only [Bool.not_true,cond_false]
  rw [bif_f (by simp; omega),h1,h2]
  exact ⟨m,rfl,rfl⟩

def Tail (t:Tb):Prop :=
  (tDevs t).len≤8 ∧ (tChans t).len≤8 ∧ (∀ i,i < (tDevs t).len→f97 ((tDevs t).get i) 0 (wI (((tParts t).len:Int) - 1)) = true) ∧
  (∀ i,i < (tChans t).len→f297 ((tChans t).get i) = true ∧ ((tChans t).get i).2.1 < ((tParts t).len:Int) ∧ ((tChans t).get i).2.2.1 < ((tParts t).len:Int)) ∧ SlotsIn t ∧ (1≤(tSlots t).len ∧ (tSlots t).len≤16) ∧
  ∃ n:Int,g266 t.2.2.2.1 t.2.1 (tChans t) = some ((n,()),()) ∧ g146 t.2.2.2.1 t.2.1 (tChans t) = some ((n,()),()) ∧ t.2.2.2.2.1 ≥ n

theorem tail (t:Tb) (hl:(tSlots t).len≤2 ^ 47) (hc:f294 t.2.2.2.1 = true) (hs:f119 t.2.1 = true) (h1:1≤t.2.2.2.2.1 ∧ t.2.2.2.2.1≤5000) (h2:1≤t.2.2.2.2.2.1 ∧ t.2.2.2.2.2.1≤5000) (h3:1≤t.2.2.2.2.2.2.1 ∧ t.2.2.2.2.2.2.1≤5000) :
    ∃ b:Bool,((g222 t).bind fun y3=>bif y3.1.1 then (g223 t).bind fun y4=>some ((y4.1.1,()),()) else some ((false,()),())) = some ((b,()),()) ∧
      (bif (decide (((tDevs t).len:Int) > (8:Int))) then
          some ((false,()),())
        else
          (g141_142 (tDevs t) (((tParts t).len:Int),())).bind fun y3 =>
            bif y3.1.1 then
              some ((false,()),())
            else
              bif (decide (((tChans t).len:Int) > (8:Int))) then
                some ((false,()),())
              else
                (g143_144 (tChans t) (((tParts t).len:Int),())).bind fun y4 =>
                  bif y4.1.1 then
                    some ((false,()),())
                  else
                    (g146 t.2.2.2.1 t.2.1 (tChans t)).bind fun y5 =>
                      bif (decide (t.2.2.2.2.1 < y5.1.1)) then
                        some ((false,()),())
                      else
                        (g147 t).bind fun y6 =>
                          some ((y6.1.1,()),())) = some ((b,()),()) ∧ (b = true→Tail t):=by
  have slots:∃ b:Bool,g223 t = some ((b,()),()) ∧ g147 t = some ((b,()),()) ∧ (b = true→SlotsIn t ∧ 1≤(tSlots t).len ∧ (tSlots t).len≤16):=by
    obtain ⟨d,e,q1,q2,q3⟩:=slotsLoop t hl h1 h2 h3
    have q1':fixO s223_L0 (((),((0:Int),((0:Int),()))),(t,())) = some d:=q1
    have q2':fixO s147_L0 (((),((0:Int),(t.2.2.2.2.2.2.2.2.2.2.1,((t.2.2.2.2.2.2.2.2.2.2.1.len:Int),((0:Int),()))))),(t,())) = some e:=q2
    unfold g223 g147
    rw [q1',q2',f136_97]
    rcases q3 with ⟨rfl,rfl⟩ | ⟨rfl,rfl,q3⟩
    · refine ⟨false,?_,rfl,by simp⟩
      cases f97 (t.2.2.2.2.2.2.2.2.2.2.1.len:Int) 1 16 <;> rfl
    · refine ⟨f97 (t.2.2.2.2.2.2.2.2.2.2.1.len:Int) 1 16,?_,rfl,fun h=>⟨q3,?_⟩⟩
      · cases f97 (t.2.2.2.2.2.2.2.2.2.2.1.len:Int) 1 16 <;> rfl
      · have:=(f97_iff _ _ _).mp h
        unfold tSlots
        omega
  obtain ⟨b,s1,s2,s3⟩:=slots
  unfold g222
  by_cases hd:((tDevs t).len:Int) > 8
  · refine ⟨false,?_,bif_t (by simpa using hd),by simp⟩
    have:decide ((t.2.2.2.2.2.2.2.2.1.len:Int) > 8) = true:=decide_eq_true hd
    rw [this]; rfl
  · have e1:decide ((t.2.2.2.2.2.2.2.2.1.len:Int) > 8) = false:=decide_eq_false hd
    have e1':decide (((tDevs t).len:Int) > 8) = false:=by simpa using hd
    rw [e1,e1']
    simp only [cond_false]
    have hd8:(tDevs t).len≤8:=by omega
    by_cases hch:((tChans t).len:Int) > 8
    · have e2:decide ((t.2.2.2.2.2.2.2.2.2.1.len:Int) > 8) = true:=decide_eq_true hch
      have e2':decide (((tChans t).len:Int) > 8) = true:=by simpa using hch
      rw [e2,e2']
      rcases devs t hd8 with ⟨_,_,a2⟩ | ⟨_,_,a2⟩ <;> rw [a2] <;> exact ⟨false,rfl,rfl,by simp⟩
    · have e2:decide ((t.2.2.2.2.2.2.2.2.2.1.len:Int) > 8) = false:=decide_eq_false hch
      have e2':decide (((tChans t).len:Int) > 8) = false:=by simpa using hch
      rw [e2,e2']
      simp only [cond_false]
      have hc8:(tChans t).len≤8:=by omega
      rcases devs t hd8 with ⟨_,a1,a2⟩ | ⟨hdev,a1,a2⟩
      · rw [a1,a2]; exact ⟨false,rfl,rfl,by simp⟩
      · rw [a1,a2]
        simp only [Option.bind_some,cond_false]
        rcases chans t hc8 with ⟨b1,b2⟩ | ⟨hok,b1,b2⟩
        · rw [b1,b2]; exact ⟨false,rfl,rfl,by simp⟩
        · rw [b1,b2]
          simp only [Option.bind_some,cond_false]
          obtain ⟨n,p1,p2⟩:=pads t hc hs hc8 (fun j hj=>(hok j hj).1)
          have p1':g266 t.2.2.2.1 t.2.1 t.2.2.2.2.2.2.2.2.2.1 = some ((n,()),()):=p1
          rw [p1',p2,s1,s2]
          simp only [Option.bind_some]
          by_cases hp:t.2.2.2.2.1 ≥ n
          · rw [decide_eq_true hp,decide_eq_false (by omega)]
            exact ⟨b,rfl,rfl,fun h=>⟨hd8,hc8,hdev,hok,(s3 h).1,(s3 h).2,n,p1,p2,hp⟩⟩
          · rw [decide_eq_false hp,decide_eq_true (by omega)]
            exact ⟨false,rfl,rfl,by simp⟩

def toL {α:Type} (x:L α):List α:=(List.range x.len).map x.get

theorem toL_len {α:Type} (x:L α):(toL x).length = x.len:=by simp [toL]

theorem toL_get {α:Type} (x:L α) (i:Nat):(toL x)[i]? = if i < x.len then some (x.get i) else none:=by
  unfold toL
  rw [List.getElem?_map]
  by_cases h:i < x.len
  · rw [if_pos h,List.getElem?_range h]; rfl
  · rw [if_neg h,List.getElem?_eq_none (by simpa using h)]; rfl

theorem toL_app {α:Type} (a b:L α):toL (L.app a b) = toL a ++ toL b:=by
  apply List.ext_getElem?
  intro i
  rw [toL_get,List.getElem?_append,toL_len,toL_get,toL_get]
  show (if i < a.len + b.len then some (bif Nat.blt i a.len then a.get i else b.get (i - a.len)) else none) = _
  by_cases h:i < a.len
  · have:Nat.blt i a.len = true:=by simpa [Nat.blt_eq] using h
    rw [if_pos (by omega),if_pos h,if_pos h,this]; rfl
  · have:Nat.blt i a.len = false:=by
      cases hb:Nat.blt i a.len with
      | false=>rfl
      | true=>exact absurd (by simpa [Nat.blt_eq] using hb) h
    rw [if_neg h,this]
    by_cases h2:i < a.len + b.len
    · rw [if_pos h2,if_pos (by omega)]; rfl
    · rw [if_neg h2,if_neg (by omega)]

def winsOf (x:L PR) (n:Nat):List Wi:=((toL x).take n).flatMap fun p=>toL p.2.2.2.1

theorem winsOf_succ (x:L PR) {n:Nat} (h:n < x.len):winsOf x (n + 1) = winsOf x n ++ toL (x.get n).2.2.2.1:=by
  unfold winsOf
  have hn:n < (toL x).length:=by rw [toL_len]; exact h
  rw [List.take_succ_eq_append_getElem hn,List.flatMap_append]
  have:(toL x)[n] = x.get n:=by
    have:=toL_get x n
    rw [if_pos h,List.getElem?_eq_getElem hn] at this
    exact Option.some.inj this
  rw [this]
  simp

theorem allWins (x:L PR) (hn:x.len≤6) (hw:∀ i,i < x.len→(x.get i).2.2.2.1.len≤4):∃ all:L Wi,g296r x = some ((all,()),()) ∧ toL all = winsOf x x.len ∧ all.len≤24:=by
  obtain ⟨d,h1,all,rfl,h2,h3⟩:=fixO_rel (step:=s296r_L0) (fun a=>x.len - a.1.2.2.1.toNat)
    (fun a=>∃ (i:Nat) (acc:L Wi),a = ((x,((),((i:Int),()))),(acc,())) ∧ i≤x.len ∧ toL acc = winsOf x i ∧ acc.len≤4 * i)
    (fun _ d=>∃ all:L Wi,d = .inl (((),()),(all,())) ∧ toL all = winsOf x x.len ∧ all.len≤24) (by
      rintro _ ⟨i,acc,rfl,hi,ha,hl⟩
      by_cases h:i < x.len
      · left
        have hm:decide (acc.len + (x.get ((i:Int)).toNat).2.2.2.1.len≤most) = true:=by
          rw [Int.toNat_natCast]
          have:=hw i h
          have h32:most = 4294967296:=rfl
          rw [h32]
          exact decide_eq_true (by omega)
        have hstep:s296r_L0 ((x,((),((i:Int),()))),(acc,())) = some (.inl ((x,((),(((i + 1:Nat):Int),()))),(L.app acc (x.get i).2.2.2.1,()))):=by
          simp only [s296r_L0,q296r_L0]
          refine (bif_t (idx_lt h)).trans ((bif_t (idx_in h)).trans ((bif_t hm).trans ?_))
          rw [wI_succ h (by omega),Int.toNat_natCast]
        refine ⟨_,hstep,⟨i + 1,_,rfl,h,?_,?_⟩,by simp only [Int.toNat_natCast]; omega,fun d hd=>hd⟩
        · rw [toL_app,ha,winsOf_succ x h]
        · show acc.len + (x.get i).2.2.2.1.len≤_
          have:=hw i h
          omega
      · right
        have:i = x.len:=by omega
        subst this
        have hstep:s296r_L0 ((x,((),((x.len:Int),()))),(acc,())) = some (.inr (.inl (((),()),(acc,())))):=by
          simp only [s296r_L0,q296r_L0]
          exact bif_f (idx_end x.len)
        exact ⟨_,hstep,acc,rfl,ha,by omega⟩)
    ((x,((),((0:Int),()))),((L.of (Ty.zero (.pair (.int .i64) (.pair (.int .i64) (.pair (.int .i64) .unit)))) []),())) ⟨0,_,rfl,Nat.zero_le _,rfl,Nat.zero_le _⟩
  unfold g296r
  rw [h1]
  exact ⟨all,rfl,h2,h3⟩

def ovl (a:L Wi) (k i:Nat):Bool:=decide ((a.get k).1 < wI ((a.get i).1 + (a.get i).2.1))&&decide ((a.get i).1 < wI ((a.get k).1 + (a.get k).2.1))

theorem ovlInner (a:L Wi) (ha:a.len≤24) {i:Nat} (hi:i < a.len) :
    (∃ k,k < i ∧ ovl a k i = true ∧ fixO s221_L6 (((),((i:Int),((0:Int),()))),(a,())) = some (.inl ((false,()),()))) ∨
    ((∀ k,k < i→ovl a k i = false) ∧ fixO s221_L6 (((),((i:Int),((0:Int),()))),(a,())) = some (.inr (.inl (((),((i:Int),())),(a,()))))):=by
  have h:=scan (step:=s221_L6) (fun k=>(((),((i:Int),((k:Int),()))),(a,()))) i (fun k=>!ovl a k i) (fun _=>.inl ((false,()),())) (.inr (.inl (((),((i:Int),())),(a,()))))
    (fun k hk ho=>by
      have ho:ovl a k i = false:=by simpa using ho
      have hkl:k < a.len:=by omega
      simp only [s221_L6,q221_L6]
      refine (bif_t (idx_lt hk)).trans ((bif_t (idx_in hkl)).trans ((bif_t (idx_in hi)).trans ((bif_t (idx_in hi)).trans ?_)))
      rw [wI_succ hk (by omega),Int.toNat_natCast,Int.toNat_natCast]
      unfold ovl at ho
      cases h1:decide ((a.get k).1 < wI ((a.get i).1 + (a.get i).2.1)) with
      | false=>rfl
      | true =>
        rw [h1] at ho
        refine (bif_t (idx_in hi)).trans ((bif_t (idx_in hkl)).trans ((bif_t (idx_in hkl)).trans ?_))
        exact bif_f (by simpa using ho))
    (fun k hk ho=>by
      have ho:ovl a k i = true:=by simpa using ho
      have hkl:k < a.len:=by omega
      simp only [s221_L6,q221_L6]
      refine (bif_t (idx_lt hk)).trans ((bif_t (idx_in hkl)).trans ((bif_t (idx_in hi)).trans ((bif_t (idx_in hi)).trans ?_)))
      rw [wI_succ hk (by omega),Int.toNat_natCast,Int.toNat_natCast]
      unfold ovl at ho
      simp only [Bool.and_eq_true] at ho
      refine (bif_t ho.1).trans ((bif_t (idx_in hi)).trans ((bif_t (idx_in hkl)).trans ((bif_t (idx_in hkl)).trans ?_)))
      exact bif_t ho.2)
    (by
      simp only [s221_L6,q221_L6]
      exact bif_f (idx_end i))
  rcases h with ⟨k,h1,h2,_,h4⟩ | ⟨h1,h2⟩
  · exact .inl ⟨k,h1,by simpa using h2,h4⟩
  · exact .inr ⟨fun k hk=>by simpa using h1 k hk,h2⟩

theorem ovlAll (a:L Wi) (ha:a.len≤24) :
    ((∃ i k,i < a.len ∧ k < i ∧ ovl a k i = true) ∧ fixO s221_L4 (((),((0:Int),())),(a,())) = some (.inl ((false,()),()))) ∨
    ((∀ i k,i < a.len→k < i→ovl a k i = false) ∧ fixO s221_L4 (((),((0:Int),())),(a,())) = some (.inr (.inl ((),())))):=by
  have h:=scan (step:=s221_L4) (fun i=>(((),((i:Int),())),(a,()))) a.len (fun i=>(List.range i).all fun k=>!ovl a k i) (fun _=>.inl ((false,()),())) (.inr (.inl ((),())))
    (fun i hi ho=>by
      have ho:∀ k,k < i→ovl a k i = false:=fun k hk=>by simpa using List.all_eq_true.mp ho k (List.mem_range.mpr hk)
      simp only [s221_L4,q221_L4]
      refine (bif_t (idx_lt hi)).trans ?_
      rcases ovlInner a ha hi with ⟨k,hk,h1,_⟩ | ⟨_,h2⟩
      · rw [ho k hk] at h1; cases h1
      · rw [h2]
        simp only [Option.bind_some]
        rw [wI_succ hi (by omega)])
    (fun i hi ho=>by
      simp only [s221_L4,q221_L4]
      refine (bif_t (idx_lt hi)).trans ?_
      rcases ovlInner a ha hi with ⟨k,hk,h1,h2⟩ | ⟨h1,_⟩
      · rw [h2]; rfl
      · have:((List.range i).all fun k=>!ovl a k i) = true:=List.all_eq_true.mpr fun k hk=>by simp [h1 k (List.mem_range.mp hk)]
        rw [this] at ho; cases ho)
    (by
      simp only [s221_L4,q221_L4]
      exact bif_f (idx_end a.len))
  rcases h with ⟨i,h1,h2,_,h4⟩ | ⟨h1,h2⟩
  · refine .inl ⟨?_,h4⟩
    have h2':¬ ((List.range i).all fun k=>!ovl a k i) = true:=by rw [h2]; simp
    rw [List.all_eq_true] at h2'
    simp only [Classical.not_forall] at h2'
    obtain ⟨k,hk,hko⟩:=h2'
    exact ⟨i,k,h1,List.mem_range.mp hk,by simpa using hko⟩
  · exact .inr ⟨fun i k hi hk=>by simpa using List.all_eq_true.mp (h1 i hi) k (List.mem_range.mpr hk),h2⟩

def apart (v w:Wi):Prop:=v.1 + v.2.1≤w.1 ∨ w.1 + w.2.1≤v.1

theorem toL_mem {α:Type} (x:L α) (a:α):a ∈ toL x ↔ ∃ i,i < x.len ∧ x.get i = a:=by
  unfold toL
  rw [List.mem_map]
  constructor
  · rintro ⟨i,hi,rfl⟩; exact ⟨i,List.mem_range.mp hi,rfl⟩
  · rintro ⟨i,hi,rfl⟩; exact ⟨i,List.mem_range.mpr hi,rfl⟩

theorem toL_getElem {α:Type} (x:L α) (i:Nat) (h:i < (toL x).length):(toL x)[i] = x.get i:=by
  have:=toL_get x i
  rw [List.getElem?_eq_getElem h,if_pos (by rw [toL_len] at h; exact h)] at this
  exact Option.some.inj this

theorem toL_take_succ {α:Type} (x:L α) {i:Nat} (h:i < x.len):(toL x).take (i + 1) = (toL x).take i ++ [x.get i]:=by
  have hn:i < (toL x).length:=by rw [toL_len]; exact h
  rw [List.take_succ_eq_append_getElem hn,toL_getElem]

theorem toL_take_len {α:Type} (x:L α):(toL x).take x.len = toL x:=by
  rw [← toL_len x]; exact List.take_length

theorem winsOf_prefix (x:L PR) {i n:Nat} (h:i≤n) (hn:n≤x.len):∃ r,winsOf x n = winsOf x i ++ r:=by
  induction n with
  | zero => have : i = 0 := by omega
            subst this; exact ⟨[],(List.append_nil _).symm⟩
  | succ n ih =>
    by_cases e:i = n + 1
    · subst e; exact ⟨[],(List.append_nil _).symm⟩
    · obtain ⟨r,hr⟩:=ih (by omega) (by omega)
      refine ⟨r ++ toL (x.get n).2.2.2.1,?_⟩
      rw [winsOf_succ x (by omega),hr,List.append_assoc]

theorem overlaps (a:L Wi) (ha:a.len≤2 ^ 47) (w:Wi) (hw:f308 w = true) (hg:∀ v,v ∈ toL a→f308 v = true) :
    (g232_233 a (w,()) = some ((true,()),()) ∧ ¬ ∀ v,v ∈ toL a→apart v w) ∨ (g232_233 a (w,()) = some ((false,()),()) ∧ ∀ v,v ∈ toL a→apart v w):=by
  have h:=index_loop (step:=s304_233_L0) (x:=a) (c:=(w,())) (fun i=>f233 (a.get i) w) (fun i hi=>by
    simp only [s304_233_L0,q304_233_L0]
    refine (bif_t (idx_lt hi)).trans ((bif_t (idx_in hi)).trans ?_)
    rw [wI_succ hi ha,Int.toNat_natCast]
    by_cases hf:f233 (a.get i) w = true
    · rw [if_pos hf]; exact bif_t hf
    · rw [if_neg hf]; exact bif_f (by simpa using hf)) (by
    simp only [s304_233_L0,q304_233_L0]
    exact bif_f (idx_end a.len))
  have hf:∀ i,i < a.len→(f233 (a.get i) w = false ↔ apart (a.get i) w):=fun i hi=>by
    have:=f234_iff (a.get i) w (hg _ ((toL_mem _ _).mpr ⟨i,hi,rfl⟩)) hw
    unfold f233 apart
    rw [← this]
    cases f234 (a.get i) w <;> simp
  unfold g232_233 g304_233
  rcases h with ⟨i,h1,h2,h3,h4⟩ | ⟨h1,h2⟩
  · left
    rw [h4]
    refine ⟨by simp,fun q=>?_⟩
    have:=(hf i h1).mpr (q _ ((toL_mem _ _).mpr ⟨i,h1,rfl⟩))
    rw [this] at h2; cases h2
  · right
    rw [h2]
    refine ⟨by simp,fun v hv=>?_⟩
    obtain ⟨i,hi,rfl⟩:=(toL_mem _ _).mp hv
    exact (hf i hi).mp (h1 i hi)

theorem winAt (a:L Wi) (ha:a.len≤2 ^ 47) (x:Int) :
    (∃ i:Nat,i < a.len ∧ f343 (a.get i) x = true ∧ (∀ j,j < i→f343 (a.get j) x = false) ∧ g305 a x = some (((i:Int),()),())) ∨ ((∀ i,i < a.len→f343 (a.get i) x = false) ∧ g305 a x = some ((-1,()),())):=by
  have e95:∀ w:Wi,f344 w x = f343 w x:=fun w=>rfl
  have h:=index_loop (step:=s304_344_L0) (x:=a) (c:=(x,())) (fun i=>f343 (a.get i) x) (fun i hi=>by
    simp only [s304_344_L0,q304_344_L0]
    refine (bif_t (idx_lt hi)).trans ((bif_t (idx_in hi)).trans ?_)
    rw [wI_succ hi ha,Int.toNat_natCast]
    by_cases hf:f343 (a.get i) x = true
    · rw [if_pos hf]; exact bif_t hf
    · rw [if_neg hf]
      have hf':f343 (a.get i) x = false:=by simpa using hf
      exact bif_f hf') (by
    simp only [s304_344_L0,q304_344_L0]
    exact bif_f (idx_end a.len))
  unfold g305 g304_344
  rcases h with ⟨i,h1,h2,h3,h4⟩ | ⟨h1,h2⟩
  · left
    rw [h4]
    exact ⟨i,h1,h2,h3,rfl⟩
  · right
    rw [h2]
    exact ⟨h1,rfl⟩

def ins (w:Wi) (x:Int):Prop:=f343 w x = true ∧ wI (Int.tdiv w.2.2.1 4) = 1

theorem perm4 (n:Int) (h:1≤n ∧ n≤7):(andOf .i64 n 4 != 0) = (wI (Int.tdiv n 4) == 1):=by
  obtain ⟨h1,h2⟩:=h
  have:n = 1 ∨ n = 2 ∨ n = 3 ∨ n = 4 ∨ n = 5 ∨ n = 6 ∨ n = 7:=by omega
  rcases this with rfl | rfl | rfl | rfl | rfl | rfl | rfl <;> decide +kernel

theorem runs (p:PR) (hl:p.2.2.2.1.len≤2 ^ 47) (x:Int) (hg:∀ i,i < p.2.2.2.1.len→f308 (p.2.2.2.1.get i) = true) (hp:(toL p.2.2.2.1).Pairwise apart) :
    ∃ b,g235 p x = some ((b,()),()) ∧ (b = true ↔ ∃ i,i < p.2.2.2.1.len ∧ ins (p.2.2.2.1.get i) x):=by
  unfold g235
  rcases winAt p.2.2.2.1 hl x with ⟨i,h1,h2,h3,h4⟩ | ⟨h1,h2⟩
  · rw [h4]
    refine ⟨andOf .i64 (p.2.2.2.1.get i).2.2.1 4 != 0,?_,?_⟩
    · simp only [Option.bind_some]
      refine (bif_t (by simp)).trans ((bif_t (idx_in h1)).trans ?_)
      rw [Int.toNat_natCast]
    · rw [perm4 _ ((f308_iff _).mp (hg i h1)).2.2.2.2.2]
      constructor
      · intro h; exact ⟨i,h1,h2,by simpa using h⟩
      · rintro ⟨j,hj,q1,q2⟩
        have:j = i:=by
          by_cases e:j = i
          · exact e
          have a1:=(f343_iff _ x (hg i h1)).mp h2
          have a2:=(f343_iff _ x (hg j hj)).mp q1
          have hlen:(toL p.2.2.2.1).length = p.2.2.2.1.len:=toL_len _
          have hall:=List.pairwise_iff_getElem.mp hp
          rcases Nat.lt_or_gt_of_ne e with lt | gt
          · have:=hall j i (by rw [hlen]; exact hj) (by rw [hlen]; exact h1) lt
            rw [toL_getElem,toL_getElem] at this
            unfold apart at this
            omega
          · have:=hall i j (by rw [hlen]; exact h1) (by rw [hlen]; exact hj) gt
            rw [toL_getElem,toL_getElem] at this
            unfold apart at this
            omega
        subst this
        simpa using q2
  · rw [h2]
    refine ⟨false,?_,?_⟩
    · simp only [Option.bind_some]
      exact bif_f (by decide)
    · simp only [Bool.false_eq_true,false_iff,not_exists,not_and]
      intro i hi q
      have q1:=q.1
      rw [h1 i hi] at q1
      cases q1

noncomputable def nm (s:ByteArray):Bool:=open Classical in decide (g342 s = some ((true,()),()))

theorem nm_of (s:ByteArray) (hw:s.size≤2 ^ 47):g342 s = some ((nm s,()),()) ∧ g228 s = some ((nm s,()),()):=by
  obtain ⟨b,h1,h2⟩:=names s hw
  have:nm s = b:=by
    unfold nm
    rw [h1]
    cases b <;> simp
  rw [this]; exact ⟨h1,h2⟩

def PartG (p:PR) (mem:Int):Prop :=
  nm p.1 = true ∧ f335 p.2.2.1 = true ∧ (1≤p.2.2.2.1.len ∧ p.2.2.2.1.len≤4) ∧ (∀ j,j < p.2.2.2.1.len→f308 (p.2.2.2.1.get j) = true ∧ (p.2.2.2.1.get j).1 + (p.2.2.2.1.get j).2.1≤mem) ∧
    (∃ j,j < p.2.2.2.1.len ∧ ins (p.2.2.2.1.get j) p.2.1) ∧ Int.tmod p.2.1 4 = 0

theorem partok (p:PR) (mem:Int) (hs:p.1.size≤2 ^ 47):∃ b,g295 p mem = some ((b,()),()) ∧ (b = true ↔ PartG p mem):=by
  unfold g295 PartG
  rw [(nm_of p.1 hs).1]
  simp only [Option.bind_some]
  cases h1:nm p.1 with
  | false=>exact ⟨false,rfl,by simp⟩
  | true =>
    cases h2:f335 p.2.2.1 with
    | false=>exact ⟨false,rfl,by simp⟩
    | true =>
      cases h3:f97 (p.2.2.2.1.len:Int) 1 4 with
      | false =>
        refine ⟨false,rfl,?_⟩
        have:¬ (1≤p.2.2.2.1.len ∧ p.2.2.2.1.len≤4):=fun q=>by
          rw [(f97_iff _ _ _).mpr (by omega)] at h3; cases h3
        simp only [Bool.false_eq_true,false_iff]
        rintro ⟨_,_,q,_⟩
        exact this q
      | true =>
        have h3':1≤p.2.2.2.1.len ∧ p.2.2.2.1.len≤4:=by
          have:=(f97_iff _ _ _).mp h3
          omega
        simp only [Bool.not_true,cond_false]
        generalize hwn:p.2.2.2.1 = wn at *
        have hgood:∀ j,(!(f308 (wn.get j))) = false→decide (wI ((wn.get j).1 + (wn.get j).2.1) > mem) = false→f308 (wn.get j) = true ∧ (wn.get j).1 + (wn.get j).2.1≤mem:=fun j a b=>by
          have a':f308 (wn.get j) = true:=by simpa using a
          have:=(f308_iff _).mp a'
          rw [wI_id (by omega) (by omega)] at b
          exact ⟨a',by simpa using b⟩
        obtain ⟨d,e1,e2⟩:=fixO_rel (step:=s295_L0) (fun a=>wn.len - a.1.2.2.2.1.toNat)
          (fun a=>∃ (i:Nat) (fl:Bool),a = ((mem,((),(fl,((i:Int),())))),(p,())) ∧ i≤wn.len ∧ (∀ j,j < i→f308 (wn.get j) = true ∧ (wn.get j).1 + (wn.get j).2.1≤mem) ∧ (fl = true ↔ ∃ j,j < i ∧ ins (wn.get j) p.2.1))
          (fun _ d=>(d = .inl ((false,()),()) ∧ ¬ ∀ j,j < wn.len→f308 (wn.get j) = true ∧ (wn.get j).1 + (wn.get j).2.1≤mem) ∨
            ∃ fl:Bool,d = .inr (.inl (((),(fl,())),(p,()))) ∧ (∀ j,j < wn.len→f308 (wn.get j) = true ∧ (wn.get j).1 + (wn.get j).2.1≤mem) ∧ (fl = true ↔ ∃ j,j < wn.len ∧ ins (wn.get j) p.2.1)) (by
            rintro _ ⟨i,fl,rfl,hi,ha,hf⟩
            by_cases h:i < wn.len
            · simp only [s295_L0,q295_L0]
              rw [hwn,bif_t (idx_lt h),bif_t (idx_in h),wI_succ h (by omega),Int.toNat_natCast]
              cases g1:(!(f308 (wn.get i))) with
              | true =>
                right
                refine ⟨_,rfl,.inl ⟨rfl,fun q=>?_⟩⟩
                have:=(q i h).1
                rw [this] at g1; cases g1
              | false =>
                cases g2:decide (wI ((wn.get i).1 + (wn.get i).2.1) > mem) with
                | true =>
                  right
                  refine ⟨_,rfl,.inl ⟨rfl,fun q=>?_⟩⟩
                  have h1:=(q i h).1
                  have h2:=(q i h).2
                  have:=(f308_iff _).mp h1
                  rw [wI_id (by omega) (by omega)] at g2
                  have:=of_decide_eq_true g2
                  omega
                | false =>
                  left
                  have hg:=hgood i g1 g2
                  have ha':∀ j,j < i + 1→f308 (wn.get j) = true ∧ (wn.get j).1 + (wn.get j).2.1≤mem:=fun j hj=>by
                    by_cases e:j = i
                    · rw [e]; exact hg
                    · exact ha j (by omega)
                  have hm:wn.len - (((i + 1:Nat):Int)).toNat < wn.len - ((i:Int)).toNat:=by simp only [Int.toNat_natCast]; omega
                  have up:¬ ins (wn.get i) p.2.1→(fl = true ↔ ∃ j,j < i + 1 ∧ ins (wn.get j) p.2.1):=fun hn=>by
                    rw [hf]
                    constructor
                    · rintro ⟨j,hj,q⟩; exact ⟨j,by omega,q⟩
                    · rintro ⟨j,hj,q⟩
                      by_cases e:j = i
                      · rw [e] at q; exact absurd q hn
                      · exact ⟨j,by omega,q⟩
                  cases g3:f343 (wn.get i) p.2.1 with
                  | false =>
                    exact ⟨_,rfl,⟨i + 1,fl,rfl,h,ha',up (fun q=>by rw [q.1] at g3; cases g3)⟩,hm,fun d hd=>hd⟩
                  | true =>
                    cases g4:(wI (Int.tdiv (wn.get i).2.2.1 4) == 1) with
                    | false =>
                      exact ⟨_,rfl,⟨i + 1,fl,rfl,h,ha',up (fun q=>by rw [q.2] at g4; cases g4)⟩,hm,fun d hd=>hd⟩
                    | true =>
                      exact ⟨_,rfl,⟨i + 1,true,rfl,h,ha',⟨fun _=>⟨i,by omega,g3,by simpa using g4⟩,fun _=>rfl⟩⟩,hm,fun d hd=>hd⟩
            · right
              have:i = wn.len:=by omega
              subst this
              simp only [s295_L0,q295_L0]
              rw [hwn,bif_f (idx_end wn.len)]
              exact ⟨_,rfl,.inr ⟨fl,rfl,ha,hf⟩⟩)
          ((mem,((),(false,((0:Int),())))),(p,())) ⟨0,false,rfl,Nat.zero_le _,fun j hj=>absurd hj (Nat.not_lt_zero _),by simp⟩
        rw [e1]
        simp only [Option.bind_some]
        rcases e2 with ⟨rfl,hn⟩ | ⟨fl,rfl,hy,hfl⟩
        · refine ⟨false,rfl,?_⟩
          simp only [Bool.false_eq_true,false_iff]
          rintro ⟨_,_,_,q,_⟩
          exact hn q
        · cases fl with
          | false =>
            refine ⟨false,rfl,?_⟩
            simp only [Bool.false_eq_true,false_iff] at hfl ⊢
            rintro ⟨_,_,_,_,q,_⟩
            exact hfl q
          | true =>
            refine ⟨Int.tmod p.2.1 4 == 0,rfl,?_⟩
            rw [beq_iff_eq]
            exact ⟨fun q=>⟨trivial,trivial,h3',hy,hfl.mp rfl,q⟩,fun q=>q.2.2.2.2.2⟩

theorem toL_nil:toL (nilL (.pair (.int .i64) (.pair (.int .i64) (.pair (.int .i64) .unit)))) = ([]:List Wi):=rfl

theorem inner (t:Tb) (p:PR) (n i:Int) (a0:L Wi) (hl:p.2.2.2.1.len≤4) (ha0:a0.len≤20) (hg0:∀ v,v ∈ toL a0→f308 v = true) (hp0:(toL a0).Pairwise apart) :
    ∃ d,fixO s140_L2 (((),((),((),(tParts t,(n,(i,(p.2.2.2.1,((p.2.2.2.1.len:Int),((0:Int),()))))))))),(t,(a0,(p,())))) = some d ∧
      ((d = .inl ((false,()),()) ∧ ¬ ((∀ j,j < p.2.2.2.1.len→f308 (p.2.2.2.1.get j) = true ∧ (p.2.2.2.1.get j).1 + (p.2.2.2.1.get j).2.1≤t.1) ∧ (toL a0 ++ toL p.2.2.2.1).Pairwise apart)) ∨
       ∃ a1:L Wi,d = .inr (.inl (((),((),((),(tParts t,(n,(i,())))))),(t,(a1,(p,()))))) ∧ toL a1 = toL a0 ++ toL p.2.2.2.1 ∧
        (∀ j,j < p.2.2.2.1.len→f308 (p.2.2.2.1.get j) = true ∧ (p.2.2.2.1.get j).1 + (p.2.2.2.1.get j).2.1≤t.1) ∧ (toL a1).Pairwise apart):=by
  generalize hwn:p.2.2.2.1 = wn at *
  refine fixO_rel (step:=s140_L2) (fun x=>wn.len - x.1.2.2.2.2.2.2.2.2.1.toNat)
    (fun x=>∃ (j:Nat) (a:L Wi),x = (((),((),((),(tParts t,(n,(i,(wn,((wn.len:Int),((j:Int),()))))))))),(t,(a,(p,())))) ∧ j≤wn.len ∧ toL a = toL a0 ++ (toL wn).take j ∧ a.len = a0.len + j ∧
      (∀ k,k < j→f308 (wn.get k) = true ∧ (wn.get k).1 + (wn.get k).2.1≤t.1) ∧ (toL a).Pairwise apart)
    (fun _ d=>(d = .inl ((false,()),()) ∧ ¬ ((∀ j,j < wn.len→f308 (wn.get j) = true ∧ (wn.get j).1 + (wn.get j).2.1≤t.1) ∧ (toL a0 ++ toL wn).Pairwise apart)) ∨
       ∃ a1:L Wi,d = .inr (.inl (((),((),((),(tParts t,(n,(i,())))))),(t,(a1,(p,()))))) ∧ toL a1 = toL a0 ++ toL wn ∧
        (∀ j,j < wn.len→f308 (wn.get j) = true ∧ (wn.get j).1 + (wn.get j).2.1≤t.1) ∧ (toL a1).Pairwise apart) ?_ _ ⟨0,a0,rfl,Nat.zero_le _,by simp,rfl,fun k hk=>absurd hk (Nat.not_lt_zero _),hp0⟩
  rintro _ ⟨j,a,rfl,hj,ht,hlen,hg,hp⟩
  have e110:∀ w,f231 w = f308 w:=f231_308
  by_cases h:j < wn.len
  · simp only [s140_L2,q140_L2]
    rw [bif_t (idx_lt h),bif_t (idx_in h),wI_succ h (by omega),Int.toNat_natCast,e110]
    cases g1:f308 (wn.get j) with
    | false =>
      right
      exact ⟨_,rfl,.inl ⟨rfl,fun q=>by have:=(q.1 j h).1; rw [this] at g1; cases g1⟩⟩
    | true =>
      have hw:=(f308_iff _).mp g1
      rw [bif_f (show (!true) = false from rfl),wI_id (by omega) (by omega)]
      cases g2:decide ((wn.get j).1 + (wn.get j).2.1 > t.1) with
      | true =>
        right
        refine ⟨_,rfl,.inl ⟨rfl,fun q=>?_⟩⟩
        have:=(q.1 j h).2
        have:=of_decide_eq_true g2
        omega
      | false =>
        have g2':=of_decide_eq_false g2
        rw [bif_f rfl]
        have hga:∀ v,v ∈ toL a→f308 v = true:=fun v hv=>by
          rw [ht,List.mem_append] at hv
          rcases hv with hv | hv
          · exact hg0 v hv
          · obtain ⟨k,hk,rfl⟩:=(toL_mem _ _).mp (List.mem_of_mem_take hv)
            obtain ⟨k',hk',e⟩:=List.mem_iff_getElem.mp hv
            rw [List.getElem_take,toL_getElem] at e
            rw [← e]
            exact (hg k' (by rw [List.length_take] at hk'; omega)).1
        rcases overlaps a (by omega) (wn.get j) g1 hga with ⟨o1,o2⟩ | ⟨o1,o2⟩
        · rw [o1]
          right
          refine ⟨_,rfl,.inl ⟨rfl,fun q=>o2 fun v hv=>?_⟩⟩
          have hq:=q.2
          rw [← toL_take_len wn] at hq
          have hpre:∃ r,toL wn = (toL wn).take j ++ wn.get j::r:=by
            have hn:j < (toL wn).length:=by rw [toL_len]; exact h
            refine ⟨(toL wn).drop (j + 1),?_⟩
            rw [← toL_getElem wn j hn,List.getElem_cons_drop,List.take_append_drop]
          rw [toL_take_len] at hq
          obtain ⟨r,hr⟩:=hpre
          rw [hr,← List.append_assoc,← ht,List.pairwise_append] at hq
          exact hq.2.2 v hv _ (List.mem_cons_self ..)
        · rw [o1]
          left
          simp only [Option.bind_some,cond_false]
          have hm:decide (a.len + (L.of (Ty.zero (.pair (.int .i64) (.pair (.int .i64) (.pair (.int .i64) .unit)))) [wn.get j]).len≤most) = true:=by
            have h32:most = 4294967296:=rfl
            rw [h32]
            have:(L.of (Ty.zero (.pair (.int .i64) (.pair (.int .i64) (.pair (.int .i64) .unit)))) [wn.get j]).len = 1:=rfl
            rw [this]
            exact decide_eq_true (by omega)
          refine ⟨_,bif_t hm,⟨j + 1,_,rfl,h,?_,?_,?_,?_⟩,by simp only [Int.toNat_natCast]; omega,fun d hd=>hd⟩
          · rw [toL_app,ht,toL_take_succ wn h,List.append_assoc]; rfl
          · show a.len + 1 = _
            omega
          · intro k hk
            by_cases e:k = j
            · rw [e]; exact ⟨g1,by omega⟩
            · exact hg k (by omega)
          · rw [toL_app,List.pairwise_append]
            refine ⟨hp,?_,?_⟩
            · show List.Pairwise apart [wn.get j]
              exact List.pairwise_singleton _ _
            · intro v hv w hw'
              have:w = wn.get j:=List.mem_singleton.mp hw'
              rw [this]
              exact o2 v hv
  · right
    have:j = wn.len:=by omega
    subst this
    simp only [s140_L2,q140_L2]
    rw [bif_f (idx_end wn.len)]
    refine ⟨_,rfl,.inr ⟨a,rfl,?_,hg,hp⟩⟩
    rw [ht,toL_take_len]

def Parts (x:L PR) (mem:Int):Prop :=
  (∀ i,i < x.len→PartG (x.get i) mem ∧ ∀ q,q < i→strEq (x.get q).1 (x.get i).1 = false) ∧ (winsOf x x.len).Pairwise apart

theorem winsOf_good (x:L PR) (mem:Int) {n:Nat} (hn:n≤x.len) (h:∀ i,i < n→PartG (x.get i) mem):∀ v,v ∈ winsOf x n→f308 v = true:=by
  intro v hv
  unfold winsOf at hv
  rw [List.mem_flatMap] at hv
  obtain ⟨p,hp,hv⟩:=hv
  obtain ⟨k,hk,e⟩:=List.mem_iff_getElem.mp hp
  rw [List.getElem_take,toL_getElem] at e
  subst e
  obtain ⟨j,hj,rfl⟩:=(toL_mem _ _).mp hv
  exact ((h k (by rw [List.length_take] at hk; omega)).2.2.2.1 j hj).1

theorem strEq_self (s:ByteArray):strEq s s = true:=by unfold strEq; simp

theorem impParts (t:Tb) (hn:(tParts t).len≤6) (hs:∀ i,i < (tParts t).len→((tParts t).get i).1.size≤2 ^ 47) (hw:∀ i,i < (tParts t).len→((tParts t).get i).2.2.2.1.len≤2 ^ 47) :
    ∃ b,g140 t = some ((b,()),()) ∧ (b = true ↔ Parts (tParts t) t.1):=by
  generalize hx:tParts t = x at *
  have hx':t.2.2.2.2.2.2.2.1 = x:=hx
  obtain ⟨d,e1,e2⟩:=fixO_rel (step:=s140_L0) (fun a=>x.len - a.1.2.2.2.2.1.toNat)
    (fun a=>∃ (i:Nat) (all:L Wi),a = (((),(all,(x,((x.len:Int),((i:Int),()))))),(t,())) ∧ i≤x.len ∧ toL all = winsOf x i ∧ all.len≤4 * i ∧
      (∀ k,k < i→PartG (x.get k) t.1 ∧ ∀ q,q < k→strEq (x.get q).1 (x.get k).1 = false) ∧ (toL all).Pairwise apart)
    (fun _ d=>(d = .inl ((false,()),()) ∧ ¬ Parts x t.1) ∨ (d = .inr (.inl ((),())) ∧ Parts x t.1)) (by
      rintro _ ⟨i,all,rfl,hi,ht,hlen,hp,hap⟩
      by_cases h:i < x.len
      · simp only [s140_L0,q140_L0]
        rw [bif_t (idx_lt h),bif_t (idx_in h),Int.toNat_natCast,(nm_of _ (hs i h)).2]
        simp only [Option.bind_some]
        cases g1:nm (x.get i).1 with
        | false =>
          right
          exact ⟨_,rfl,.inl ⟨rfl,fun q=>by have:=(q.1 i h).1.1; rw [this] at g1; cases g1⟩⟩
        | true =>
          rw [bif_f (show (!true) = false from rfl)]
          obtain ⟨n,n1,n2⟩:=named t (by rw [hx]; omega) (x.get i).1
          rw [hx] at n2
          rw [n1]
          simp only [Option.bind_some]
          cases g2:decide (n < (i:Int)) with
          | true =>
            right
            refine ⟨_,rfl,.inl ⟨rfl,fun q=>?_⟩⟩
            have g2:=of_decide_eq_true g2
            rcases n2 with ⟨k,k1,k2,k3,_⟩ | ⟨_,k2⟩
            · have:=(q.1 i h).2 k (by omega)
              rw [k3] at this; cases this
            · have:=k2 i h
              rw [strEq_self] at this; cases this
          | false =>
            have g2:=of_decide_eq_false g2
            have hd:∀ q,q < i→strEq (x.get q).1 (x.get i).1 = false:=by
              rcases n2 with ⟨k,k1,_,_,k4⟩ | ⟨k1,_⟩
              · intro q hq; exact k4 q (by omega)
              · omega
            have e109:f230 (x.get i).2.2.1 = f335 (x.get i).2.2.1:=policies _
            rw [bif_f rfl,e109,f136_97]
            cases g3:f335 (x.get i).2.2.1 with
            | false =>
              right
              exact ⟨_,rfl,.inl ⟨rfl,fun q=>by have:=(q.1 i h).1.2.1; rw [this] at g3; cases g3⟩⟩
            | true =>
              rw [bif_f (show (!true) = false from rfl)]
              cases g4:f97 ((x.get i).2.2.2.1.len:Int) 1 4 with
              | false =>
                right
                refine ⟨_,rfl,.inl ⟨rfl,fun q=>?_⟩⟩
                have:=(q.1 i h).1.2.2.1
                rw [(f97_iff _ _ _).mpr (by omega)] at g4; cases g4
              | true =>
                have g4:1≤(x.get i).2.2.2.1.len ∧ (x.get i).2.2.2.1.len≤4:=by
                  have:=(f97_iff _ _ _).mp g4
                  omega
                rw [bif_f (show (!true) = false from rfl)]
                obtain ⟨d,i1,i2⟩:=inner t (x.get i) (x.len:Int) (i:Int) all g4.2 (by omega) (fun v hv=>winsOf_good x t.1 (n:=i) (by omega) (fun k hk=>(hp k hk).1) v (by rw [← ht]; exact hv)) hap
                rw [hx] at i1
                rw [i1]
                simp only [Option.bind_some]
                have hsucc:=winsOf_succ x h
                rcases i2 with ⟨rfl,i2⟩ | ⟨a1,rfl,i2,i3,i4⟩
                · right
                  refine ⟨_,rfl,.inl ⟨rfl,fun q=>i2 ⟨(q.1 i h).1.2.2.2.1,?_⟩⟩⟩
                  obtain ⟨r,hr⟩:=winsOf_prefix x (i:=i + 1) (n:=x.len) (by omega) (Nat.le_refl _)
                  have:=q.2
                  rw [hr,List.pairwise_append] at this
                  rw [ht,← hsucc]
                  exact this.1
                · simp only [hx]
                  cases g5:(Int.tmod (x.get i).2.1 4 != 0) with
                  | true =>
                    right
                    refine ⟨_,rfl,.inl ⟨rfl,fun q=>?_⟩⟩
                    have:=(q.1 i h).1.2.2.2.2.2
                    rw [this] at g5; cases g5
                  | false =>
                    have g5:Int.tmod (x.get i).2.1 4 = 0:=by simpa using g5
                    have hpw:(toL (x.get i).2.2.2.1).Pairwise apart:=by
                      rw [i2,List.pairwise_append] at i4
                      exact i4.2.1
                    obtain ⟨b,r1,r2⟩:=runs (x.get i) (hw i h) (x.get i).2.1 (fun j hj=>(i3 j hj).1) hpw
                    rw [bif_f rfl,r1]
                    simp only [Option.bind_some]
                    cases b with
                    | false =>
                      right
                      refine ⟨_,rfl,.inl ⟨rfl,fun q=>?_⟩⟩
                      have:=r2.mpr (q.1 i h).1.2.2.2.2.1
                      cases this
                    | true =>
                      left
                      rw [bif_f (show (!true) = false from rfl),wI_succ h (by omega)]
                      refine ⟨_,rfl,⟨i + 1,a1,rfl,h,?_,?_,?_,i4⟩,by simp only [Int.toNat_natCast]; omega,fun d hd=>hd⟩
                      · rw [hsucc,i2,ht]
                      · have l1:(toL a1).length = a1.len:=toL_len _
                        rw [i2,List.length_append,toL_len,toL_len] at l1
                        omega
                      · intro k hk
                        by_cases e:k = i
                        · subst e
                          exact ⟨⟨g1,g3,g4,i3,r2.mp rfl,g5⟩,hd⟩
                        · exact hp k (by omega)
      · right
        have:i = x.len:=by omega
        subst this
        simp only [s140_L0,q140_L0]
        rw [bif_f (idx_end x.len)]
        refine ⟨_,rfl,.inr ⟨rfl,hp,?_⟩⟩
        rw [← ht]; exact hap)
    (((),((nilL (.pair (.int .i64) (.pair (.int .i64) (.pair (.int .i64) .unit)))),(x,((x.len:Int),((0:Int),()))))),(t,()))
    ⟨0,_,rfl,Nat.zero_le _,toL_nil,Nat.zero_le _,fun k hk=>absurd hk (Nat.not_lt_zero _),by rw [toL_nil]; exact List.Pairwise.nil⟩
  unfold g140
  rw [hx',e1]
  simp only [Option.bind_some]
  rcases e2 with ⟨rfl,h⟩ | ⟨rfl,h⟩
  · exact ⟨false,rfl,by simpa using h⟩
  · exact ⟨true,rfl,by simpa using h⟩

theorem namesApart (t:Tb) (i:Nat) (h:i < (tParts t).len) (hn:(tParts t).len≤6) :
    (fixO s221_L2 (((),((i:Int),((0:Int),()))),(t,())) = some (.inl ((false,()),())) ∧ ¬ ∀ q,q < i→strEq ((tParts t).get q).1 ((tParts t).get i).1 = false) ∨
    (fixO s221_L2 (((),((i:Int),((0:Int),()))),(t,())) = some (.inr (.inl (((),((i:Int),())),(t,())))) ∧ ∀ q,q < i→strEq ((tParts t).get q).1 ((tParts t).get i).1 = false):=by
  have h1:=scan (step:=s221_L2) (fun k=>(((),((i:Int),((k:Int),()))),(t,()))) i (fun k=>!strEq ((tParts t).get k).1 ((tParts t).get i).1) (fun _=>.inl ((false,()),())) (.inr (.inl (((),((i:Int),())),(t,()))))
    (fun k hk ho=>by
      have ho':strEq ((tParts t).get ((k:Int)).toNat).1 ((tParts t).get ((i:Int)).toNat).1 = false:=by rw [Int.toNat_natCast,Int.toNat_natCast]; simpa using ho
      simp only [s221_L2,q221_L2]
      refine (bif_t (idx_lt hk)).trans ((bif_t (idx_in (n:=(tParts t).len) (by omega))).trans ((bif_t (idx_in h)).trans ((bif_f ho').trans ?_)))
      rw [wI_succ hk (by omega)])
    (fun k hk ho=>by
      have ho':strEq ((tParts t).get ((k:Int)).toNat).1 ((tParts t).get ((i:Int)).toNat).1 = true:=by rw [Int.toNat_natCast,Int.toNat_natCast]; simpa using ho
      simp only [s221_L2,q221_L2]
      exact (bif_t (idx_lt hk)).trans ((bif_t (idx_in (n:=(tParts t).len) (by omega))).trans ((bif_t (idx_in h)).trans (bif_t ho'))))
    (by
      simp only [s221_L2,q221_L2]
      exact bif_f (idx_end i))
  rcases h1 with ⟨k,hk,ho,_,e1⟩ | ⟨ha,e1⟩
  · exact .inl ⟨e1,fun q=>by have:=q k hk; rw [this] at ho; cases ho⟩
  · exact .inr ⟨e1,fun q hq=>by simpa using ha q hq⟩

theorem refParts (t:Tb) (hn:(tParts t).len≤6) (hs:∀ i,i < (tParts t).len→((tParts t).get i).1.size≤2 ^ 47) (h1:1≤(tParts t).len) :
    ∃ b,g221 t = some ((b,()),()) ∧ (b = true ↔ Parts (tParts t) t.1):=by
  have hok:∀ i,i < (tParts t).len→(open Classical in decide (PartG ((tParts t).get i) t.1 ∧ ∀ q,q < i→strEq ((tParts t).get q).1 ((tParts t).get i).1 = false)) = true→PartG ((tParts t).get i) t.1 ∧ ∀ q,q < i→strEq ((tParts t).get q).1 ((tParts t).get i).1 = false :=
    fun i hi h=>by simpa using h
  have l0:=scan (step:=s221_L0) (fun i=>(((),((i:Int),())),(t,()))) (tParts t).len (fun i=>open Classical in decide (PartG ((tParts t).get i) t.1 ∧ ∀ q,q < i→strEq ((tParts t).get q).1 ((tParts t).get i).1 = false)) (fun _=>.inl ((false,()),())) (.inr (.inl (((),()),(t,()))))
    (fun i hi ho=>by
      obtain ⟨o1,o2⟩:=hok i hi ho
      obtain ⟨b,p1,p2⟩:=partok ((tParts t).get i) t.1 (hs i hi)
      have hb:b = true:=p2.mpr o1
      subst hb
      simp only [s221_L0,q221_L0]
      refine (bif_t (idx_lt hi)).trans ((bif_t (idx_in hi)).trans ?_)
      rw [Int.toNat_natCast]
      have p1':g295 (L.get t.2.2.2.2.2.2.2.1 i) t.1 = some ((true,()),()):=p1
      rw [p1']
      simp only [Option.bind_some]
      rw [bif_f (show (!true) = false from rfl)]
      rcases namesApart t i hi hn with ⟨_,n2⟩ | ⟨n1,_⟩
      · exact absurd o2 n2
      · rw [n1]
        simp only [Option.bind_some]
        rw [wI_succ hi (by omega)])
    (fun i hi ho=>by
      have ho:¬ (PartG ((tParts t).get i) t.1 ∧ ∀ q,q < i→strEq ((tParts t).get q).1 ((tParts t).get i).1 = false):=by simpa using ho
      obtain ⟨b,p1,p2⟩:=partok ((tParts t).get i) t.1 (hs i hi)
      simp only [s221_L0,q221_L0]
      refine (bif_t (idx_lt hi)).trans ((bif_t (idx_in hi)).trans ?_)
      rw [Int.toNat_natCast]
      have p1':g295 (L.get t.2.2.2.2.2.2.2.1 i) t.1 = some ((b,()),()):=p1
      rw [p1']
      simp only [Option.bind_some]
      cases b with
      | false=>rfl
      | true =>
        rw [bif_f (show (!true) = false from rfl)]
        rcases namesApart t i hi hn with ⟨n1,_⟩ | ⟨_,n2⟩
        · rw [n1]; rfl
        · exact absurd ⟨p2.mp rfl,n2⟩ ho)
    (by
      simp only [s221_L0,q221_L0]
      exact bif_f (idx_end (tParts t).len))
  unfold g221
  have hl:f97 (t.2.2.2.2.2.2.2.1.len:Int) 1 6 = true:=(f97_iff _ _ _).mpr (by unfold tParts at hn h1; omega)
  rw [hl,bif_f (show (!true) = false from rfl)]
  rcases l0 with ⟨i,hi,ho,_,e1⟩ | ⟨ha,e1⟩
  · have ho:¬ (PartG ((tParts t).get i) t.1 ∧ ∀ q,q < i→strEq ((tParts t).get q).1 ((tParts t).get i).1 = false):=by simpa using ho
    have e1':fixO s221_L0 (((),((0:Int),())),(t,())) = some (.inl ((false,()),())):=e1
    rw [e1']
    exact ⟨false,rfl,by simp only [Bool.false_eq_true,false_iff]; exact fun q=>ho (q.1 i hi)⟩
  · have ha:∀ i,i < (tParts t).len→PartG ((tParts t).get i) t.1 ∧ ∀ q,q < i→strEq ((tParts t).get q).1 ((tParts t).get i).1 = false:=fun i hi=>hok i hi (ha i hi)
    have e1':fixO s221_L0 (((),((0:Int),())),(t,())) = some (.inr (.inl (((),()),(t,())))):=e1
    rw [e1']
    simp only [Option.bind_some]
    obtain ⟨all,a1,a2,a3⟩:=allWins (tParts t) hn (fun i hi=>(ha i hi).1.2.2.1.2)
    have a1':g296r t.2.2.2.2.2.2.2.1 = some ((all,()),()):=a1
    rw [a1']
    simp only [Option.bind_some]
    have hgood:=winsOf_good (tParts t) t.1 (Nat.le_refl _) (fun i hi=>(ha i hi).1)
    have hov:∀ i k,i < all.len→k < i→(ovl all k i = false ↔ apart (all.get k) (all.get i)):=fun i k hi hk=>by
      have g1:=(f308_iff _).mp (hgood (all.get i) (by rw [← a2]; exact (toL_mem _ _).mpr ⟨i,hi,rfl⟩))
      have g2:=(f308_iff _).mp (hgood (all.get k) (by rw [← a2]; exact (toL_mem _ _).mpr ⟨k,by omega,rfl⟩))
      unfold ovl apart
      rw [wI_id (by omega) (by omega),wI_id (by omega) (by omega)]
      simp only [Bool.and_eq_false_iff,decide_eq_false_iff_not]
      omega
    have hpw:(winsOf (tParts t) (tParts t).len).Pairwise apart ↔ ∀ i k,i < all.len→k < i→ovl all k i = false:=by
      rw [← a2,List.pairwise_iff_getElem]
      constructor
      · intro q i k hi hk
        have:=q k i (by rw [toL_len]; omega) (by rw [toL_len]; exact hi) hk
        rw [toL_getElem,toL_getElem] at this
        exact (hov i k hi hk).mpr this
      · intro q k i hk hi hki
        rw [toL_getElem,toL_getElem]
        rw [toL_len] at hi
        exact (hov i k hi hki).mp (q i k hi hki)
    rcases ovlAll all a3 with ⟨⟨i,k,hi,hk,ho⟩,o2⟩ | ⟨o1,o2⟩
    · rw [o2]
      refine ⟨false,rfl,?_⟩
      simp only [Bool.false_eq_true,false_iff]
      rintro ⟨_,q⟩
      have:=hpw.mp q i k hi hk
      rw [this] at ho; cases ho
    · rw [o2]
      exact ⟨true,rfl,fun _=>⟨ha,hpw.mpr o1⟩,fun _=>rfl⟩

def Facts (t:Tb):Prop :=
  f294 t.2.2.2.1 = true ∧ (1≤t.2.2.2.2.1 ∧ t.2.2.2.2.1≤5000) ∧ (1≤t.2.2.2.2.2.1 ∧ t.2.2.2.2.2.1≤5000) ∧ (1≤t.2.2.2.2.2.2.1 ∧ t.2.2.2.2.2.2.1≤5000) ∧ f119 t.2.1 = true ∧ (64≤t.1 ∧ t.1≤2048) ∧
  (1≤(tParts t).len ∧ (tParts t).len≤6) ∧ Parts (tParts t) t.1 ∧ Tail t

theorem sound (t:Tb) (hn:(tParts t).len≤2 ^ 47) (hl:(tSlots t).len≤2 ^ 47) (hs:∀ i,i < (tParts t).len→((tParts t).get i).1.size≤2 ^ 47) (hw:∀ i,i < (tParts t).len→((tParts t).get i).2.2.2.1.len≤2 ^ 47) :
    ∃ b:Bool,g127 t = some ((b,()),()) ∧ g54 t = some ((b,()),()) ∧ (b = true→Facts t):=by
  unfold g127
  rcases head t with ⟨h1,h2⟩ | ⟨hc,p1,p2,p3,hsh,hm,h1,h2⟩
  · rw [h1,h2]; exact ⟨false,rfl,rfl,by simp⟩
  · rw [h1,h2]
    simp only [Option.bind_some,cond_true]
    unfold rest71
    rw [f136_97]
    cases g1:f97 ((tParts t).len:Int) 1 6 with
    | false =>
      have:g221 t = some ((false,()),()):=by
        unfold g221
        have g1':f97 (t.2.2.2.2.2.2.2.1.len:Int) 1 6 = false:=g1
        rw [g1']; rfl
      rw [this]
      exact ⟨false,rfl,rfl,by simp⟩
    | true =>
      have g1:=(f97_iff _ _ _).mp g1
      obtain ⟨b1,r1,r2⟩:=refParts t (by omega) hs (by omega)
      obtain ⟨b2,i1,i2⟩:=impParts t (by omega) hs hw
      have:b1 = b2:=by
        rw [Bool.eq_iff_iff,r2,i2]
      subst this
      rw [r1,i1]
      simp only [Option.bind_some]
      cases b1 with
      | false=>exact ⟨false,rfl,rfl,by simp⟩
      | true =>
        obtain ⟨b,t1,t2,t3⟩:=tail t hl hc hsh p1 p2 p3
        exact ⟨b,t1,t2,fun h=>⟨hc,p1,p2,p3,hsh,(f97_iff _ _ _).mp hm,by omega,r2.mp rfl,t3 h⟩⟩

def Bnd (t:Tb):Prop :=
  (tParts t).len≤1048576 ∧ (tDevs t).len≤1048576 ∧ (tChans t).len≤1048576 ∧ (tSlots t).len≤1048576 ∧ ∀ i,i < (tParts t).len→((tParts t).get i).1.size≤1048576 ∧ ((tParts t).get i).2.2.2.1.len≤1048576

def Wf (t:Tb):Prop :=
  (tParts t).len≤2 ^ 47 ∧ (tDevs t).len≤2 ^ 47 ∧ (tChans t).len≤2 ^ 47 ∧ (tSlots t).len≤2 ^ 47 ∧ ∀ i,i < (tParts t).len→((tParts t).get i).1.size≤2 ^ 47 ∧ ((tParts t).get i).2.2.2.1.len≤2 ^ 47

theorem sz34 (x:L Int) (b:Int) (h:x.len≤2 ^ 47) (hb:0≤b) (hb':b≤1048576):f41 x b = if b < x.len then -1 else b - x.len:=by
  have h47:(2:Nat) ^ 47 = 140737488355328:=by decide
  rw [h47] at h
  unfold f41
  rw [wI_id (by omega) (by omega)]
  by_cases hc:b < x.len
  · rw [bif_t (by simp; omega),if_pos hc]
  · rw [bif_f (by simp; omega),if_neg hc]
theorem sz35 (x:L Ch) (b:Int) (h:x.len≤2 ^ 47) (hb:0≤b) (hb':b≤1048576):f42 x b = if b < x.len then -1 else b - x.len:=by
  have h47:(2:Nat) ^ 47 = 140737488355328:=by decide
  rw [h47] at h
  unfold f42
  rw [wI_id (by omega) (by omega)]
  by_cases hc:b < x.len
  · rw [bif_t (by simp; omega),if_pos hc]
  · rw [bif_f (by simp; omega),if_neg hc]
theorem sz36 (x:L Sl) (b:Int) (h:x.len≤2 ^ 47) (hb:0≤b) (hb':b≤1048576):f43 x b = if b < x.len then -1 else b - x.len:=by
  have h47:(2:Nat) ^ 47 = 140737488355328:=by decide
  rw [h47] at h
  unfold f43
  rw [wI_id (by omega) (by omega)]
  by_cases hc:b < x.len
  · rw [bif_t (by simp; omega),if_pos hc]
  · rw [bif_f (by simp; omega),if_neg hc]
theorem sz98 (x:L Wi) (b:Int) (h:x.len≤2 ^ 47) (hb:0≤b) (hb':b≤1048576):f219 x b = if b < x.len then -1 else b - x.len:=by
  have h47:(2:Nat) ^ 47 = 140737488355328:=by decide
  rw [h47] at h
  unfold f219
  rw [wI_id (by omega) (by omega)]
  by_cases hc:b < x.len
  · rw [bif_t (by simp; omega),if_pos hc]
  · rw [bif_f (by simp; omega),if_neg hc]

theorem sz66 (p:PR) (b:Int) (h1:p.1.size≤2 ^ 47) (h2:p.2.2.2.1.len≤2 ^ 47) (hb:0≤b) (hb':b≤1048576):f126 p b = -1 ∨ (0≤f126 p b ∧ f126 p b≤b ∧ p.1.size≤1048576 ∧ p.2.2.2.1.len≤1048576):=by
  have h47:(2:Nat) ^ 47 = 140737488355328:=by decide
  have h1':=h1
  rw [h47] at h1'
  unfold f126
  rw [wI_id (by omega) (by omega)]
  by_cases hc:b - (p.1.size:Int) < 0
  · rw [bif_t (by simpa using hc)]; exact .inl rfl
  · rw [bif_f (by simpa using hc),sz98 _ _ h2 (by omega) (by omega)]
    by_cases hd:b - (p.1.size:Int) < p.2.2.2.1.len
    · rw [if_pos hd]; exact .inl rfl
    · rw [if_neg hd,bif_f (by simp; omega)]
      right
      omega

theorem sz33 (x:L PR) (b:Int) (h:x.len≤2 ^ 47) (hp:∀ i,i < x.len→(x.get i).1.size≤2 ^ 47 ∧ (x.get i).2.2.2.1.len≤2 ^ 47) (hb:0≤b) (hb':b≤1048576) :
    ∃ n,g40 x b = some ((n,()),()) ∧ (n = -1 ∨ (0≤n ∧ n≤b ∧ x.len≤1048576 ∧ ∀ i,i < x.len→(x.get i).1.size≤1048576 ∧ (x.get i).2.2.2.1.len≤1048576)):=by
  have h47:(2:Nat) ^ 47 = 140737488355328:=by decide
  have h':=h
  rw [h47] at h'
  unfold g40
  rw [wI_id (by omega) (by omega)]
  by_cases hc:b - (x.len:Int) < 0
  · rw [bif_t (by simpa using hc)]; exact ⟨-1,rfl,.inl rfl⟩
  · rw [bif_f (by simpa using hc)]
    obtain ⟨d,e1,e2⟩:=fixO_rel (step:=s40_L0) (fun a=>x.len - a.1.2.2.1.toNat)
      (fun a=>∃ (i:Nat) (n:Int),a = ((x,(n,((i:Int),()))),()) ∧ i≤x.len ∧ 0≤n ∧ n≤b ∧ ∀ k,k < i→(x.get k).1.size≤1048576 ∧ (x.get k).2.2.2.1.len≤1048576)
      (fun _ d=>d = .inl ((-1,()),()) ∨ ∃ n,d = .inr (.inl ((n,()),())) ∧ 0≤n ∧ n≤b ∧ ∀ k,k < x.len→(x.get k).1.size≤1048576 ∧ (x.get k).2.2.2.1.len≤1048576) (by
        rintro _ ⟨i,n,rfl,hi,hn1,hn2,hk⟩
        simp only [s40_L0,q40_L0]
        by_cases hlt:i < x.len
        · rw [bif_t (idx_lt hlt),bif_t (idx_in hlt),wI_succ hlt h,Int.toNat_natCast]
          rcases sz66 (x.get i) n (hp i hlt).1 (hp i hlt).2 hn1 (by omega) with q | ⟨q1,q2,q3⟩
          · right
            rw [bif_t (by rw [q]; rfl)]
            exact ⟨_,rfl,.inl rfl⟩
          · left
            rw [bif_f (by simpa using q1)]
            refine ⟨_,rfl,⟨i + 1,_,rfl,hlt,q1,by omega,fun k hk'=>?_⟩,by simp only [Int.toNat_natCast]; omega,fun d hd=>hd⟩
            by_cases e:k = i
            · rw [e]; exact q3
            · exact hk k (by omega)
        · right
          have:i = x.len:=by omega
          subst this
          rw [bif_f (idx_end x.len)]
          exact ⟨_,rfl,.inr ⟨n,rfl,hn1,hn2,hk⟩⟩)
      ((x,(b - (x.len:Int),((0:Int),()))),()) ⟨0,_,rfl,Nat.zero_le _,by omega,by omega,fun k hk=>absurd hk (Nat.not_lt_zero _)⟩
    rw [e1]
    simp only [Option.bind_some]
    rcases e2 with rfl | ⟨n,rfl,n1,n2,n3⟩
    · exact ⟨-1,rfl,.inl rfl⟩
    · exact ⟨n,rfl,.inr ⟨n1,n2,by omega,n3⟩⟩

theorem sz12 (t:Tb) (h:Wf t):∃ n,g9 t 1048576 = some ((n,()),()) ∧ (n = -1 ∨ (0≤n ∧ Bnd t)):=by
  obtain ⟨w1,w2,w3,w4,w5⟩:=h
  obtain ⟨n,e1,e2⟩:=sz33 (tParts t) 1048576 w1 w5 (by omega) (by omega)
  unfold g9
  have e1':g40 t.2.2.2.2.2.2.2.1 1048576 = some ((n,()),()):=e1
  rw [e1']
  simp only [Option.bind_some]
  rcases e2 with rfl | ⟨n1,n2,n3,n4⟩
  · rw [bif_t (by decide)]; exact ⟨-1,rfl,.inl rfl⟩
  · rw [bif_f (by simpa using n1)]
    have a1:f41 t.2.2.2.2.2.2.2.2.1 n = _:=sz34 (tDevs t) n w2 n1 n2
    rw [a1]
    by_cases c1:n < ((tDevs t).len:Int)
    · rw [if_pos c1,bif_t (by decide)]; exact ⟨-1,rfl,.inl rfl⟩
    · rw [if_neg c1,bif_f (by simp; omega)]
      have a2:f42 t.2.2.2.2.2.2.2.2.2.1 (n - ((tDevs t).len:Int)) = _:=sz35 (tChans t) _ w3 (by omega) (by omega)
      rw [a2]
      by_cases c2:n - ((tDevs t).len:Int) < ((tChans t).len:Int)
      · rw [if_pos c2,bif_t (by decide)]; exact ⟨-1,rfl,.inl rfl⟩
      · rw [if_neg c2,bif_f (by simp; omega)]
        have a3:f43 t.2.2.2.2.2.2.2.2.2.2.1 (n - ((tDevs t).len:Int) - ((tChans t).len:Int)) = _:=sz36 (tSlots t) _ w4 (by omega) (by omega)
        rw [a3]
        by_cases c3:n - ((tDevs t).len:Int) - ((tChans t).len:Int) < ((tSlots t).len:Int)
        · rw [if_pos c3,bif_t (by decide)]; exact ⟨-1,rfl,.inl rfl⟩
        · rw [if_neg c3,bif_f (by simp; omega)]
          exact ⟨_,rfl,.inr ⟨by omega,n3,by omega,by omega,by omega,n4⟩⟩

theorem to105 (x:L Wi) (h:x.len≤1048576):∃ r:L Wi,g225r x = some ((r,()),()) ∧ r.len = x.len ∧ ∀ i,i < x.len→r.get i = x.get i:=by
  obtain ⟨r,h1,h2,h3⟩:=copy_loop (step:=s225r_L0) (x:=x) (fun i=>x.get i) (fun i r hi hr=>by
    simp only [s225r_L0,q225r_L0]
    rw [bif_t (idx_lt hi),bif_t (idx_in hi),bif_t (by simpa [hr] using hi),wI_succ hi (by omega),Int.toNat_natCast]
    rfl) (fun r=>by
    simp only [s225r_L0,q225r_L0]
    rw [bif_f (by simp)]) (r0:=L.rep (x.len:Int).toNat (Ty.zero (.pair (.int .i64) (.pair (.int .i64) (.pair (.int .i64) .unit))))) (by simp [L.rep])
  refine ⟨r,?_,h2,h3⟩
  unfold g225r
  rw [bif_t (by simp; omega),h1]
  rfl

theorem to46 (x:L Sl) (h:x.len≤1048576):∃ r:L Sl,g52r x = some ((r,()),()) ∧ r.len = x.len ∧ ∀ i,i < x.len→r.get i = x.get i:=by
  obtain ⟨r,h1,h2,h3⟩:=copy_loop (step:=s52r_L0) (x:=x) (fun i=>x.get i) (fun i r hi hr=>by
    simp only [s52r_L0,q52r_L0]
    rw [bif_t (idx_lt hi),bif_t (idx_in hi),bif_t (by simpa [hr] using hi),wI_succ hi (by omega),Int.toNat_natCast]
    rfl) (fun r=>by
    simp only [s52r_L0,q52r_L0]
    rw [bif_f (by simp)]) (r0:=L.rep (x.len:Int).toNat (Ty.zero (.pair (.int .i64) (.pair (.int .i64) (.pair (.int .i64) .unit))))) (by simp [L.rep])
  refine ⟨r,?_,h2,h3⟩
  unfold g52r
  rw [bif_t (by simp; omega),h1]
  rfl

theorem to45 (x:L Ch) (h:x.len≤1048576):∃ r:L Ch,g51r x = some ((r,()),()) ∧ r.len = x.len ∧ ∀ i,i < x.len→r.get i = x.get i:=by
  obtain ⟨r,h1,h2,h3⟩:=copy_loop (step:=s51r_L0) (x:=x) (fun i=>x.get i) (fun i r hi hr=>by
    simp only [s51r_L0,q51r_L0]
    rw [bif_t (idx_lt hi),bif_t (idx_in hi),bif_t (by simpa [hr] using hi),wI_succ hi (by omega),Int.toNat_natCast]
    rfl) (fun r=>by
    simp only [s51r_L0,q51r_L0]
    rw [bif_f (by simp)]) (r0:=L.rep (x.len:Int).toNat (Ty.zero (.pair (.int .i64) (.pair (.int .i64) (.pair (.int .i64) (.pair (.int .i64) .unit)))))) (by simp [L.rep])
  refine ⟨r,?_,h2,h3⟩
  unfold g51r
  rw [bif_t (by simp; omega),h1]
  rfl

theorem to44 (x:L Int) (h:x.len≤1048576):∃ r:L Int,g50r x = some ((r,()),()) ∧ r.len = x.len ∧ ∀ i,i < x.len→r.get i = x.get i:=by
  obtain ⟨r,h1,h2,h3⟩:=copy_loop (step:=s50r_L0) (x:=x) (fun i=>x.get i) (fun i r hi hr=>by
    simp only [s50r_L0,q50r_L0]
    rw [bif_t (idx_lt hi),bif_t (idx_in hi),bif_t (by simpa [hr] using hi),wI_succ hi (by omega),Int.toNat_natCast]) (fun r=>by
    simp only [s50r_L0,q50r_L0]
    rw [bif_f (by simp)]) (r0:=L.rep (x.len:Int).toNat (Ty.zero (.int .i64))) (by simp [L.rep])
  refine ⟨r,?_,h2,h3⟩
  unfold g50r
  rw [bif_t (by simp; omega),h1]
  rfl

def SameP (p q:PR):Prop:=p.1 = q.1 ∧ p.2.1 = q.2.1 ∧ p.2.2.1 = q.2.2.1 ∧ p.2.2.2.1.len = q.2.2.2.1.len ∧ ∀ j,j < q.2.2.2.1.len→p.2.2.2.1.get j = q.2.2.2.1.get j

theorem to74 (p:PR) (h:p.2.2.2.1.len≤1048576):∃ q:PR,g131r p = some ((q,()),()) ∧ SameP q p:=by
  obtain ⟨r,h1,h2,h3⟩:=to105 p.2.2.2.1 h
  unfold g131r
  rw [h1]
  exact ⟨(p.1,(p.2.1,(p.2.2.1,(r,())))),rfl,rfl,rfl,rfl,h2,h3⟩

theorem to43 (x:L PR) (h:x.len≤1048576) (hw:∀ i,i < x.len→(x.get i).2.2.2.1.len≤1048576):∃ r:L PR,g49r x = some ((r,()),()) ∧ r.len = x.len ∧ ∀ i,i < x.len→SameP (r.get i) (x.get i):=by
  have hex:∀ i:Nat,∃ q:PR,i < x.len→g131r (x.get i) = some ((q,()),()) ∧ SameP q (x.get i):=fun i=>by
    by_cases hi:i < x.len
    · obtain ⟨q,a,b⟩:=to74 (x.get i) (hw i hi)
      exact ⟨q,fun _=>⟨a,b⟩⟩
    · exact ⟨x.get i,fun h=>absurd h hi⟩
  obtain ⟨F,hF⟩:=Classical.axiomOfChoice hex
  obtain ⟨r,h1,h2,h3⟩:=copy_loop (step:=s49r_L0) (x:=x) F (fun i r hi hr=>by
    simp only [s49r_L0,q49r_L0]
    rw [bif_t (idx_lt hi),bif_t (idx_in hi),wI_succ hi (by omega),Int.toNat_natCast,(hF i hi).1]
    simp only [Option.bind_some]
    exact bif_t (by simpa [hr] using hi)) (fun r=>by
    simp only [s49r_L0,q49r_L0]
    rw [bif_f (by simp)]) (r0:=L.rep (x.len:Int).toNat (Ty.zero (.pair .str (.pair (.int .i64) (.pair (.pair (.int .i64) (.pair (.int .i64) .unit)) (.pair (.sl (.pair (.int .i64) (.pair (.int .i64) (.pair (.int .i64) .unit)))) .unit)))))) (by simp [L.rep])
  refine ⟨r,?_,h2,fun i hi=>by rw [h3 i hi]; exact (hF i hi).2⟩
  unfold g49r
  rw [bif_t (by simp; omega),h1]
  rfl

theorem to14 (t:Tb) (h:Bnd t):∃ r:Tb,g12r t = some ((r,()),()) ∧ Bnd r:=by
  obtain ⟨b1,b2,b3,b4,b5⟩:=h
  obtain ⟨r1,e1,l1,q1⟩:=to43 (tParts t) b1 (fun i hi=>(b5 i hi).2)
  obtain ⟨r2,e2,l2,q2⟩:=to44 (tDevs t) b2
  obtain ⟨r3,e3,l3,q3⟩:=to45 (tChans t) b3
  obtain ⟨r4,e4,l4,q4⟩:=to46 (tSlots t) b4
  have e1':g49r t.2.2.2.2.2.2.2.1 = some ((r1,()),()):=e1
  have e2':g50r t.2.2.2.2.2.2.2.2.1 = some ((r2,()),()):=e2
  have e3':g51r t.2.2.2.2.2.2.2.2.2.1 = some ((r3,()),()):=e3
  have e4':g52r t.2.2.2.2.2.2.2.2.2.2.1 = some ((r4,()),()):=e4
  unfold g12r
  rw [e1',e2',e3',e4']
  refine ⟨(t.1,(t.2.1,(t.2.2.1,(t.2.2.2.1,(t.2.2.2.2.1,(t.2.2.2.2.2.1,(t.2.2.2.2.2.2.1,(r1,(r2,(r3,(r4,()))))))))))),rfl,?_⟩
  refine ⟨show r1.len≤_ by omega,show r2.len≤_ by omega,show r3.len≤_ by omega,show r4.len≤_ by omega,fun i hi=>?_⟩
  have hi':i < (tParts t).len:=by
    have:i < r1.len:=hi
    omega
  obtain ⟨s1,_,_,s4,_⟩:=q1 i hi'
  have b:=b5 i hi'
  show (r1.get i).1.size≤_ ∧ (r1.get i).2.2.2.1.len≤_
  rw [s1,s4]
  exact b

theorem eq119 (x:L Wi) (h:x.len≤1048576):g244 x x = some ((true,()),()):=by
  have h1:=eq_loop (step:=s244_L0) (x:=x) (y:=x) (fun i hi=>by
    simp only [s244_L0,q244_L0]
    rw [bif_t (idx_lt hi),bif_t (idx_in hi),bif_t (idx_in hi),bif_f (by simp [f307]),wI_succ hi (by omega)]) (by
    simp only [s244_L0,q244_L0]
    rw [bif_f (by simp)])
  unfold g244
  rw [bif_f (by simp),h1]
  rfl
theorem eq90 (p:PR) (h:p.2.2.2.1.len≤1048576):g156 p p = some ((true,()),()):=by
  unfold g156
  rw [strEq_self,bif_f (by simp),bif_f (by simp),bif_f (by simp [f243]),eq119 _ h]
  rfl
theorem eq50 (x:L PR) (h:x.len≤1048576) (hw:∀ i,i < x.len→(x.get i).2.2.2.1.len≤1048576):g67 x x = some ((true,()),()):=by
  have h1:=eq_loop (step:=s67_L0) (x:=x) (y:=x) (fun i hi=>by
    simp only [s67_L0,q67_L0]
    rw [bif_t (idx_lt hi),bif_t (idx_in hi),bif_t (idx_in hi),Int.toNat_natCast,eq90 _ (hw i hi),wI_succ hi (by omega)]
    rfl) (by
    simp only [s67_L0,q67_L0]
    rw [bif_f (by simp)])
  unfold g67
  rw [bif_f (by simp),h1]
  rfl
theorem eq51 (x:L Int) (h:x.len≤1048576):g68 x x = some ((true,()),()):=by
  have h1:=eq_loop (step:=s68_L0) (x:=x) (y:=x) (fun i hi=>by
    simp only [s68_L0,q68_L0]
    rw [bif_t (idx_lt hi),bif_t (idx_in hi),bif_t (idx_in hi),bif_f (by simp),wI_succ hi (by omega)]) (by
    simp only [s68_L0,q68_L0]
    rw [bif_f (by simp)])
  unfold g68
  rw [bif_f (by simp),h1]
  rfl
theorem eq52 (x:L Ch) (h:x.len≤1048576):g69 x x = some ((true,()),()):=by
  have h1:=eq_loop (step:=s69_L0) (x:=x) (y:=x) (fun i hi=>by
    simp only [s69_L0,q69_L0]
    rw [bif_t (idx_lt hi),bif_t (idx_in hi),bif_t (idx_in hi),bif_f (by simp [f157]),wI_succ hi (by omega)]) (by
    simp only [s69_L0,q69_L0]
    rw [bif_f (by simp)])
  unfold g69
  rw [bif_f (by simp),h1]
  rfl
theorem eq53 (x:L Sl) (h:x.len≤1048576):g70 x x = some ((true,()),()):=by
  have h1:=eq_loop (step:=s70_L0) (x:=x) (y:=x) (fun i hi=>by
    simp only [s70_L0,q70_L0]
    rw [bif_t (idx_lt hi),bif_t (idx_in hi),bif_t (idx_in hi),bif_f (by simp [f158]),wI_succ hi (by omega)]) (by
    simp only [s70_L0,q70_L0]
    rw [bif_f (by simp)])
  unfold g70
  rw [bif_f (by simp),h1]
  rfl
theorem eq16 (t:Tb) (h:Bnd t):g16 t t = some ((true,()),()):=by
  obtain ⟨b1,b2,b3,b4,b5⟩:=h
  have e1:g67 t.2.2.2.2.2.2.2.1 t.2.2.2.2.2.2.2.1 = some ((true,()),()):=eq50 (tParts t) b1 (fun i hi=>(b5 i hi).2)
  have e2:g68 t.2.2.2.2.2.2.2.2.1 t.2.2.2.2.2.2.2.2.1 = some ((true,()),()):=eq51 (tDevs t) b2
  have e3:g69 t.2.2.2.2.2.2.2.2.2.1 t.2.2.2.2.2.2.2.2.2.1 = some ((true,()),()):=eq52 (tChans t) b3
  have e4:g70 t.2.2.2.2.2.2.2.2.2.2.1 t.2.2.2.2.2.2.2.2.2.2.1 = some ((true,()),()):=eq53 (tSlots t) b4
  unfold g16
  rw [bif_f (by simp),bif_f (by simp [f65]),bif_f (by simp),bif_f (by simp [f66]),bif_f (by simp),bif_f (by simp),bif_f (by simp),e1,e2,e3,e4]
  rfl

theorem wf_of_bnd {t:Tb} (h:Bnd t):Wf t:=by
  have h47:(2:Nat) ^ 47 = 140737488355328:=by decide
  obtain ⟨b1,b2,b3,b4,b5⟩:=h
  unfold Wf
  rw [h47]
  exact ⟨by omega,by omega,by omega,by omega,fun i hi=>by have:=b5 i hi; omega⟩

theorem sound_wf (t:Tb) (h:Wf t):∃ b:Bool,g127 t = some ((b,()),()) ∧ g54 t = some ((b,()),()) ∧ (b = true→Facts t) :=
  sound t h.1 h.2.2.2.1 (fun i hi=>(h.2.2.2.2 i hi).1) (fun i hi=>(h.2.2.2.2 i hi).2)



theorem szLin (n:Nat) (b:Int) (h:n≤2 ^ 47) (hb:0≤b) (hb':b≤1048576):(bif decide (wI (b - (n:Int)) < 0) then (-1:Int) else wI (b - (n:Int))) = if b < n then -1 else b - n:=by
  have h47:(2:Nat) ^ 47 = 140737488355328:=by decide
  rw [h47] at h
  rw [wI_id (by omega) (by omega)]
  by_cases hc:b < n
  · rw [bif_t (by simp; omega),if_pos hc]
  · rw [bif_f (by simp; omega),if_neg hc]

theorem szLoop {α:Type} {step:((L α×(Int×(Int×Unit)))×Unit)→Option (((L α×(Int×(Int×Unit)))×Unit)⊕(((Int×Unit)×Unit)⊕(((Int×Unit)×Unit)⊕Empty)))} {x:L α} (F:α→Int→Int) (Q:α→Prop)
    (hF:∀ i,i < x.len→∀ b:Int,0≤b→b≤1048576→F (x.get i) b = -1 ∨ (0≤F (x.get i) b ∧ F (x.get i) b≤b ∧ Q (x.get i)))
    (hstep:∀ (i:Nat) (n:Int),i < x.len→step ((x,(n,((i:Int),()))),()) = bif decide (F (x.get i) n < 0) then some (.inr (.inl ((-1,()),()))) else some (.inl ((x,(F (x.get i) n,(((i + 1:Nat):Int),()))),())))
    (hend:∀ n:Int,step ((x,(n,((x.len:Int),()))),()) = some (.inr (.inr (.inl ((n,()),()))))) (b:Int) (hb:0≤b) (hb':b≤1048576) :
    ∃ d,fixO step ((x,(b,((0:Int),()))),()) = some d ∧ (d = .inl ((-1,()),()) ∨ ∃ n,d = .inr (.inl ((n,()),())) ∧ 0≤n ∧ n≤b ∧ ∀ i,i < x.len→Q (x.get i)):=by
  refine fixO_rel (step:=step) (fun a=>x.len - a.1.2.2.1.toNat)
    (fun a=>∃ (i:Nat) (n:Int),a = ((x,(n,((i:Int),()))),()) ∧ i≤x.len ∧ 0≤n ∧ n≤b ∧ ∀ k,k < i→Q (x.get k))
    (fun _ d=>d = .inl ((-1,()),()) ∨ ∃ n,d = .inr (.inl ((n,()),())) ∧ 0≤n ∧ n≤b ∧ ∀ i,i < x.len→Q (x.get i)) ?_ _ ⟨0,b,rfl,Nat.zero_le _,hb,Int.le_refl _,fun k hk=>absurd hk (Nat.not_lt_zero _)⟩
  rintro _ ⟨i,n,rfl,hi,hn1,hn2,hk⟩
  by_cases hlt:i < x.len
  · rw [hstep i n hlt]
    rcases hF i hlt n hn1 (by omega) with q | ⟨q1,q2,q3⟩
    · right
      exact ⟨_,bif_t (by rw [q]; rfl),.inl rfl⟩
    · left
      refine ⟨_,bif_f (by simpa using q1),⟨i + 1,_,rfl,hlt,q1,by omega,fun k hk'=>?_⟩,by simp only [Int.toNat_natCast]; omega,fun d hd=>hd⟩
      by_cases e:k = i
      · rw [e]; exact q3
      · exact hk k (by omega)
  · right
    have:i = x.len:=by omega
    subst this
    exact ⟨_,hend n,.inr ⟨n,rfl,hn1,hn2,hk⟩⟩

theorem copy_each {α β:Type} {step:((L α×(Unit×(Int×Unit)))×(L β×Unit))→Option (((L α×(Unit×(Int×Unit)))×(L β×Unit))⊕(((Unit×Unit)×(L β×Unit))⊕Empty))} {x:L α} (R:Nat→β→Prop) (hex:∀ i,i < x.len→∃ q,R i q)
    (hstep:∀ (i:Nat) (r:L β) (q:β),i < x.len→r.len = x.len→R i q→step ((x,((),((i:Int),()))),(r,())) = some (.inl ((x,((),(((i + 1:Nat):Int),()))),(L.set r i q,()))))
    (hend:∀ r,step ((x,((),((x.len:Int),()))),(r,())) = some (.inr (.inl (((),()),(r,()))))) {r0:L β} (h0:r0.len = x.len) :
    ∃ r,fixO step ((x,((),((0:Int),()))),(r0,())) = some (.inl (((),()),(r,()))) ∧ r.len = x.len ∧ ∀ i,i < x.len→R i (r.get i):=by
  have hex':∀ i:Nat,∃ q:β,i < x.len→R i q:=fun i=>by
    by_cases hi:i < x.len
    · obtain ⟨q,a⟩:=hex i hi
      exact ⟨q,fun _=>a⟩
    · exact ⟨r0.get 0,fun h=>absurd h hi⟩
  obtain ⟨F,hF⟩:=Classical.axiomOfChoice hex'
  obtain ⟨r,h1,h2,h3⟩:=copy_loop (step:=step) (x:=x) F (fun i r hi hr=>hstep i r (F i) hi hr (hF i hi)) hend h0
  exact ⟨r,h1,h2,fun i hi=>by rw [h3 i hi]; exact hF i hi⟩


theorem sz12b (t:Tb) (h:Wf t):∃ n,g9 t 1048576 = some ((n,()),()) ∧ (n = -1 ∨ (0≤n ∧ n≤1048576 ∧ Bnd t)):=by
  obtain ⟨n,e1,e2⟩:=sz12 t h
  refine ⟨n,e1,?_⟩
  rcases e2 with rfl | ⟨n1,hb⟩
  · exact .inl rfl
  right
  refine ⟨n1,?_,hb⟩
  obtain ⟨w1,w2,w3,w4,w5⟩:=h
  obtain ⟨m,q1,q2⟩:=sz33 (tParts t) 1048576 w1 w5 (by omega) (by omega)
  unfold g9 at e1
  have q1':g40 t.2.2.2.2.2.2.2.1 1048576 = some ((m,()),()):=q1
  rw [q1'] at e1
  simp only [Option.bind_some] at e1
  rcases q2 with rfl | ⟨m1,m2,_,_⟩
  · rw [bif_t (by decide)] at e1
    have:=(Prod.mk.inj (Prod.mk.inj (Option.some.inj e1)).1).1
    omega
  · rw [bif_f (by simpa using m1)] at e1
    have a1:f41 t.2.2.2.2.2.2.2.2.1 m = _:=sz34 (tDevs t) m w2 m1 m2
    rw [a1] at e1
    by_cases c1:m < ((tDevs t).len:Int)
    · rw [if_pos c1,bif_t (by decide)] at e1
      have:=(Prod.mk.inj (Prod.mk.inj (Option.some.inj e1)).1).1
      omega
    · rw [if_neg c1,bif_f (by simp; omega)] at e1
      have a2:f42 t.2.2.2.2.2.2.2.2.2.1 (m - ((tDevs t).len:Int)) = _:=sz35 (tChans t) _ w3 (by omega) (by omega)
      rw [a2] at e1
      by_cases c2:m - ((tDevs t).len:Int) < ((tChans t).len:Int)
      · rw [if_pos c2,bif_t (by decide)] at e1
        have:=(Prod.mk.inj (Prod.mk.inj (Option.some.inj e1)).1).1
        omega
      · rw [if_neg c2,bif_f (by simp; omega)] at e1
        have a3:f43 t.2.2.2.2.2.2.2.2.2.2.1 (m - ((tDevs t).len:Int) - ((tChans t).len:Int)) = _:=sz36 (tSlots t) _ w4 (by omega) (by omega)
        rw [a3] at e1
        by_cases c3:m - ((tDevs t).len:Int) - ((tChans t).len:Int) < ((tSlots t).len:Int)
        · rw [if_pos c3,bif_t (by decide)] at e1
          have:=(Prod.mk.inj (Prod.mk.inj (Option.some.inj e1)).1).1
          omega
        · rw [if_neg c3,bif_f (by simp; omega)] at e1
          have:=(Prod.mk.inj (Prod.mk.inj (Option.some.inj e1)).1).1
          omega


abbrev Im:Type:=L (L Int)

theorem sz26 (x:Im) (b:Int) (h:x.len≤2 ^ 47) (hp:∀ i,i < x.len→(x.get i).len≤2 ^ 47) (hb:0≤b) (hb':b≤1048576) :
    ∃ n,g10 x b = some ((n,()),()) ∧ (n = -1 ∨ (0≤n ∧ n≤b ∧ x.len≤1048576 ∧ ∀ i,i < x.len→(x.get i).len≤1048576)):=by
  have h47:(2:Nat) ^ 47 = 140737488355328:=by decide
  have h':=h
  rw [h47] at h'
  unfold g10
  rw [wI_id (by omega) (by omega)]
  by_cases hc:b - (x.len:Int) < 0
  · rw [bif_t (by simpa using hc)]; exact ⟨-1,rfl,.inl rfl⟩
  · rw [bif_f (by simpa using hc)]
    obtain ⟨d,e1,e2⟩:=szLoop (step:=s10_L0) (x:=x) f44 (fun p=>p.len≤1048576) (fun i hi b hb hb'=>by
      have:f44 (x.get i) b = _:=szLin (x.get i).len b (hp i hi) hb hb'
      rw [this]
      by_cases hd:b < ((x.get i).len:Int)
      · rw [if_pos hd]; exact .inl rfl
      · rw [if_neg hd]; right; omega) (fun i n hi=>by
      simp only [s10_L0,q10_L0]
      refine (bif_t (idx_lt hi)).trans ((bif_t (idx_in hi)).trans ?_)
      rw [wI_succ hi h,Int.toNat_natCast]) (fun n=>by
      simp only [s10_L0,q10_L0]
      exact bif_f (idx_end x.len)) (b - (x.len:Int)) (by omega) (by omega)
    rw [e1]
    simp only [Option.bind_some]
    rcases e2 with rfl | ⟨n,rfl,n1,n2,n3⟩
    · exact ⟨-1,rfl,.inl rfl⟩
    · exact ⟨n,rfl,.inr ⟨n1,by omega,by omega,n3⟩⟩

theorem fits (t:Tb) (p:Int) (x:Im) (h:Bnd t) (hx:x.len≤1048576):∃ b:Bool,g128 t p x = some ((b,()),()) ∧ g55 t p x = some ((b,()),()):=by
  unfold g128 g55
  rw [show f136 = f97 from rfl]
  cases hp:f97 p 0 (wI ((t.2.2.2.2.2.2.2.1.len:Int) - 1)) with
  | false=>exact ⟨false,rfl,rfl⟩
  | true =>
    simp only [Bool.not_true,cond_false]
    have hp:=(f97_iff _ _ _).mp hp
    have hl:((t.2.2.2.2.2.2.2.1.len:Int)) = (tParts t).len:=rfl
    have hb1:(tParts t).len≤1048576:=h.1
    rw [hl,wI_id (by omega) (by omega)] at hp
    have hin:(decide (0≤p)&&decide (p < (t.2.2.2.2.2.2.2.1.len:Int))) = true:=by
      rw [hl]; simp; omega
    rw [bif_t hin,bif_t hin,bif_t hin]
    cases hne:((x.len:Int) != ((t.2.2.2.2.2.2.2.1.get p.toNat).2.2.2.1.len:Int)) with
    | true=>exact ⟨false,rfl,rfl⟩
    | false =>
      have hne:x.len = ((tParts t).get p.toNat).2.2.2.1.len:=by
        have:((x.len:Int)) = ((t.2.2.2.2.2.2.2.1.get p.toNat).2.2.2.1.len:Int):=by simpa using hne
        have e:(t.2.2.2.2.2.2.2.1.get p.toNat).2.2.2.1.len = ((tParts t).get p.toNat).2.2.2.1.len:=rfl
        omega
      simp only [cond_false]
      generalize hwn:((tParts t).get p.toNat).2.2.2.1 = wn at hne
      have hwn':(t.2.2.2.2.2.2.2.1.get p.toNat).2.2.2.1 = wn:=hwn
      rw [hwn']
      obtain ⟨d,e,e1,e2,e3⟩:=fixO_sim (s1:=s128_L0) (s2:=s55_L0)
        (fun a b=>∃ i:Nat,a = ((p,(x,((),((i:Int),())))),(t,())) ∧ b = ((x,(wn,((wn.len:Int),((i:Int),())))),()) ∧ i≤x.len)
        (fun d e=>(d = .inl ((false,()),()) ∧ e = .inl ((false,()),())) ∨ (d = .inr (.inl ((),())) ∧ e = .inr (.inl ((),())))) (fun a=>x.len - a.1.2.2.2.1.toNat) (by
          rintro _ _ ⟨i,rfl,rfl,hi⟩
          simp only [s128_L0,q128_L0,s55_L0,q55_L0]
          rw [hwn']
          by_cases hlt:i < x.len
          · rw [bif_t (idx_lt hlt),bif_t (idx_in hlt),bif_t hin,bif_t (idx_in (n:=wn.len) (by omega)),bif_t (idx_lt (n:=wn.len) (by omega)),bif_t (idx_in (n:=wn.len) (by omega)),bif_t (idx_in hlt),wI_succ hlt (by omega),Int.toNat_natCast]
            cases ((x.get i).len:Int) != (wn.get i).2.1 with
            | true=>exact .inr ⟨_,_,rfl,rfl,.inl ⟨rfl,rfl⟩⟩
            | false=>exact .inl ⟨_,_,rfl,rfl,⟨i + 1,rfl,rfl,hlt⟩,by simp only [Int.toNat_natCast]; omega⟩
          · right
            have:i = x.len:=by omega
            subst this
            exact ⟨_,_,bif_f (idx_end x.len),bif_f (by simp; omega),.inr ⟨rfl,rfl⟩⟩)
        ((p,(x,((),((0:Int),())))),(t,())) ((x,(wn,((wn.len:Int),((0:Int),())))),()) ⟨0,rfl,rfl,Nat.zero_le _⟩
      rw [e1,e2]
      rcases e3 with ⟨rfl,rfl⟩ | ⟨rfl,rfl⟩
      · exact ⟨false,rfl,rfl⟩
      · exact ⟨true,rfl,rfl⟩



abbrev Wy:Type:=Int×(Bool×Unit)
abbrev Sh:Type:=Int×(Int×(Int×Unit))
abbrev Ca:Type:=Sh×((L (L Wy))×Unit)
abbrev Gu:Type:=(L Int)×(Int×(Im×Unit))
abbrev Vi:Type:=Bool×(Int×(Int×(Int×(Int×(Bool×(Bool×(Int×Unit)))))))
abbrev He:Type:=Int×(Int×(Int×(Bool×Unit)))
abbrev Tl:Type:=Int×((L Int)×Unit)
abbrev Oe:Type:=Int×((L Int)×Unit)
abbrev Ie:Type:=(L Int)×Unit
abbrev De:Type:=(L Int)×((L Int)×Unit)
abbrev St:Type:=Gu×(Vi×(He×(Ca×(Tl×(Int×(Bool×(Im×((L Oe)×((L Ie)×((L De)×Unit))))))))))
def sOuts (s:St):L Oe:=s.2.2.2.2.2.2.2.2.1
def sIns (s:St):L Ie:=s.2.2.2.2.2.2.2.2.2.1
def sDevs (s:St):L De:=s.2.2.2.2.2.2.2.2.2.2.1
def sBoot (s:St):Im:=s.2.2.2.2.2.2.2.1
def BndI (x:Im) (m:Nat):Prop:=x.len≤m ∧ ∀ i,i < x.len→(x.get i).len≤m
def BndS (s:St) (m:Nat):Prop :=
  s.1.1.len≤m ∧ BndI s.1.2.2.1 m ∧ (s.2.2.2.1.2.1.len≤m ∧ ∀ i,i < s.2.2.2.1.2.1.len→(s.2.2.2.1.2.1.get i).len≤m) ∧ s.2.2.2.2.1.2.1.len≤m ∧ BndI (sBoot s) m ∧
  ((sOuts s).len≤m ∧ ∀ i,i < (sOuts s).len→((sOuts s).get i).2.1.len≤m) ∧ ((sIns s).len≤m ∧ ∀ i,i < (sIns s).len→((sIns s).get i).1.len≤m) ∧
  ((sDevs s).len≤m ∧ ∀ i,i < (sDevs s).len→((sDevs s).get i).1.len≤m ∧ ((sDevs s).get i).2.1.len≤m)



def BndC (c:Ca):Prop:=c.2.1.len≤1048576 ∧ ∀ i,i < c.2.1.len→(c.2.1.get i).len≤1048576

theorem sz41 (c:Ca) (b:Int) (h:c.2.1.len≤2 ^ 47) (hp:∀ i,i < c.2.1.len→(c.2.1.get i).len≤2 ^ 47) (hb:0≤b) (hb':b≤1048576) :
    ∃ n,g91 c b = some ((n,()),()) ∧ (n = -1 ∨ (0≤n ∧ n≤b ∧ BndC c)):=by
  have h47:(2:Nat) ^ 47 = 140737488355328:=by decide
  generalize hx:c.2.1 = x at *
  have h':=h
  rw [h47] at h'
  unfold g91 g168 BndC
  rw [hx,wI_id (by omega) (by omega)]
  by_cases hc:b - (x.len:Int) < 0
  · rw [bif_t (by simpa using hc)]; exact ⟨-1,rfl,.inl rfl⟩
  · rw [bif_f (by simpa using hc)]
    obtain ⟨d,e1,e2⟩:=szLoop (step:=s168_L0) (x:=x) f247 (fun p=>p.len≤1048576) (fun i hi b hb hb'=>by
      have:f247 (x.get i) b = _:=szLin (x.get i).len b (hp i hi) hb hb'
      rw [this]
      by_cases hd:b < ((x.get i).len:Int)
      · rw [if_pos hd]; exact .inl rfl
      · rw [if_neg hd]; right; omega) (fun i n hi=>by
      simp only [s168_L0,q168_L0]
      refine (bif_t (idx_lt hi)).trans ((bif_t (idx_in hi)).trans ?_)
      rw [wI_succ hi h,Int.toNat_natCast]) (fun n=>by
      simp only [s168_L0,q168_L0]
      exact bif_f (idx_end x.len)) (b - (x.len:Int)) (by omega) (by omega)
    rw [e1]
    simp only [Option.bind_some]
    rcases e2 with rfl | ⟨n,rfl,n1,n2,n3⟩
    · exact ⟨-1,rfl,.inl rfl⟩
    · refine ⟨n,?_,.inr ⟨n1,by omega,by omega,n3⟩⟩
      simp only [Option.bind_some]
      exact bif_f (by simpa using n1)

theorem tags (c:Ca) (r:Int) (row:L Wy) (hr:row.len≤1048576) (i:Nat) (hi:i < row.len) :
    ∃ n:Int,g216 row (row.get i).1 = some ((n,()),()) ∧
    ((n < i ∧ fixO s174_L4 (((),(r,(row,((i:Int),((0:Int),()))))),(c,())) = some (.inl ((false,()),()))) ∨
     (¬ n < i ∧ fixO s174_L4 (((),(r,(row,((i:Int),((0:Int),()))))),(c,())) = some (.inr (.inl (((),(r,(row,((i:Int),())))),(c,())))))):=by
  have h1:=scan (step:=s174_L4) (fun k=>(((),(r,(row,((i:Int),((k:Int),()))))),(c,()))) i (fun k=>!((row.get k).1 == (row.get i).1)) (fun _=>.inl ((false,()),())) (.inr (.inl (((),(r,(row,((i:Int),())))),(c,()))))
    (fun k hk ho=>by
      have ho':((row.get ((k:Int)).toNat).1 == (row.get ((i:Int)).toNat).1) = false:=by rw [Int.toNat_natCast,Int.toNat_natCast]; simpa using ho
      simp only [s174_L4,q174_L4]
      refine (bif_t (idx_lt hk)).trans ((bif_t (idx_in (n:=row.len) (by omega))).trans ((bif_t (idx_in hi)).trans ((bif_f ho').trans ?_)))
      rw [wI_succ hk (by omega)])
    (fun k hk ho=>by
      have ho':((row.get ((k:Int)).toNat).1 == (row.get ((i:Int)).toNat).1) = true:=by rw [Int.toNat_natCast,Int.toNat_natCast]; simpa using ho
      simp only [s174_L4,q174_L4]
      exact (bif_t (idx_lt hk)).trans ((bif_t (idx_in (n:=row.len) (by omega))).trans ((bif_t (idx_in hi)).trans (bif_t ho'))))
    (by
      simp only [s174_L4,q174_L4]
      exact bif_f (idx_end i))
  have h2:=index_loop (step:=s281_282_L0) (x:=row) (c:=((row.get i).1,())) (fun k=>(row.get k).1 == (row.get i).1) (fun k hk=>by
    simp only [s281_282_L0,q281_282_L0]
    refine (bif_t (idx_lt hk)).trans ((bif_t (idx_in hk)).trans ?_)
    rw [wI_succ hk (by omega),Int.toNat_natCast]
    by_cases hf:((row.get k).1 == (row.get i).1) = true
    · rw [if_pos hf]; exact bif_t hf
    · rw [if_neg hf]
      have hf':((row.get k).1 == (row.get i).1) = false:=by simpa using hf
      exact bif_f hf') (by
    simp only [s281_282_L0,q281_282_L0]
    exact bif_f (idx_end row.len))
  unfold g216 g281_282
  rcases h2 with ⟨k,k1,k2,k3,k4⟩ | ⟨k1,_⟩
  · rw [k4]
    refine ⟨k,rfl,?_⟩
    rcases h1 with ⟨j,hj,ho,_,e⟩ | ⟨ha,e⟩
    · left
      refine ⟨?_,e⟩
      have ho:((row.get j).1 == (row.get i).1) = true:=by simpa using ho
      by_cases q:k≤j
      · omega
      · have:=k3 j (by omega)
        rw [ho] at this; cases this
    · right
      refine ⟨fun q=>?_,e⟩
      have:=ha k (by omega)
      rw [k2] at this; cases this
  · have:=k1 i hi
    simp at this

theorem caches (c:Ca) (h:BndC c):∃ b:Bool,g174 c = some ((b,()),()) ∧ g124 c = some ((b,()),()) ∧ (b = true→f119 c.1 = true):=by
  obtain ⟨hl,hw⟩:=h
  unfold g174 g124
  rw [f135_119]
  cases hs:f119 c.1 with
  | false=>exact ⟨false,rfl,rfl,by simp⟩
  | true =>
    simp only [Bool.not_true,cond_false]
    cases hn:((c.2.1.len:Int) != c.1.1) with
    | true=>exact ⟨false,rfl,rfl,by simp⟩
    | false =>
      simp only [cond_false]
      generalize hx:c.2.1 = x at *
      obtain ⟨d,e,e1,e2,e3⟩:=fixO_sim (s1:=s174_L0) (s2:=s124_L0)
        (fun a b=>∃ r:Nat,a = (((),((r:Int),())),(c,())) ∧ b = (((),(x,((x.len:Int),((r:Int),())))),(c,())) ∧ r≤x.len)
        (fun d e=>(d = .inl ((false,()),()) ∧ e = .inl ((false,()),())) ∨ (d = .inr (.inl ((),())) ∧ e = .inr (.inl ((),())))) (fun a=>x.len - a.1.2.1.toNat) (by
          rintro _ _ ⟨r,rfl,rfl,hr⟩
          simp only [s174_L0,q174_L0,s124_L0,q124_L0]
          rw [hx]
          by_cases hlt:r < x.len
          · rw [bif_t (idx_lt hlt),bif_t (idx_in hlt),bif_t (idx_lt hlt),bif_t (idx_in hlt),Int.toNat_natCast]
            have hrow:=hw r hlt
            generalize hrw:x.get r = row at hrow
            cases hwy:decide ((row.len:Int) > c.1.2.1) with
            | true=>exact .inr ⟨_,_,rfl,rfl,.inl ⟨rfl,rfl⟩⟩
            | false =>
              simp only [cond_false]
              obtain ⟨d,e,i1,i2,i3⟩:=fixO_sim (s1:=s174_L2) (s2:=s124_L2)
                (fun a b=>∃ i:Nat,a = (((),((r:Int),(row,((i:Int),())))),(c,())) ∧ b = (((),(row,(x,((x.len:Int),((r:Int),(row,((row.len:Int),((i:Int),())))))))),(c,())) ∧ i≤row.len)
                (fun d e=>(d = .inl ((false,()),()) ∧ e = .inl ((false,()),())) ∨ (d = .inr (.inl (((),((r:Int),())),(c,()))) ∧ e = .inr (.inl (((),(x,((x.len:Int),((r:Int),())))),(c,()))))) (fun a=>row.len - a.1.2.2.2.1.toNat) (by
                  rintro _ _ ⟨i,rfl,rfl,hi⟩
                  simp only [s174_L2,q174_L2,s124_L2,q124_L2]
                  by_cases hit:i < row.len
                  · obtain ⟨n,n1,n2⟩:=tags c (r:Int) row hrow i hit
                    rw [bif_t (idx_lt hit),bif_t (idx_in hit),bif_t (idx_lt hit),bif_t (idx_in hit),Int.toNat_natCast,show f215 (row.get i).1 = f97 (row.get i).1 0 65535 from rfl,n1]
                    cases f97 (row.get i).1 0 65535 with
                    | false=>exact .inr ⟨_,_,rfl,rfl,.inl ⟨rfl,rfl⟩⟩
                    | true =>
                      simp only [Bool.not_true,cond_false,Option.bind_some]
                      rcases n2 with ⟨q1,q2⟩ | ⟨q1,q2⟩
                      · rw [q2,decide_eq_true q1]
                        exact .inr ⟨_,_,rfl,rfl,.inl ⟨rfl,rfl⟩⟩
                      · rw [q2,decide_eq_false q1]
                        simp only [Option.bind_some,cond_false]
                        rw [wI_succ hit (by omega)]
                        exact .inl ⟨_,_,rfl,rfl,⟨i + 1,rfl,rfl,hit⟩,by simp only [Int.toNat_natCast]; omega⟩
                  · right
                    have:i = row.len:=by omega
                    subst this
                    exact ⟨_,_,bif_f (idx_end row.len),bif_f (idx_end row.len),.inr ⟨rfl,rfl⟩⟩)
                (((),((r:Int),(row,((0:Int),())))),(c,())) (((),(row,(x,((x.len:Int),((r:Int),(row,((row.len:Int),((0:Int),())))))))),(c,())) ⟨0,rfl,rfl,Nat.zero_le _⟩
              rw [i1,i2]
              rcases i3 with ⟨rfl,rfl⟩ | ⟨rfl,rfl⟩
              · exact .inr ⟨_,_,rfl,rfl,.inl ⟨rfl,rfl⟩⟩
              · simp only [Option.bind_some]
                rw [wI_succ hlt (by omega)]
                exact .inl ⟨_,_,rfl,rfl,⟨r + 1,rfl,rfl,hlt⟩,by simp only [Int.toNat_natCast]; omega⟩
          · right
            have:r = x.len:=by omega
            subst this
            exact ⟨_,_,bif_f (idx_end x.len),bif_f (idx_end x.len),.inr ⟨rfl,rfl⟩⟩)
        (((),((0:Int),())),(c,())) (((),(x,((x.len:Int),((0:Int),())))),(c,())) ⟨0,rfl,rfl,Nat.zero_le _⟩
      rw [e1,e2]
      rcases e3 with ⟨rfl,rfl⟩ | ⟨rfl,rfl⟩
      · exact ⟨false,rfl,rfl,by simp⟩
      · exact ⟨true,rfl,rfl,fun _=>trivial⟩


theorem sz156 (x:L Int) (b:Int) (h:x.len≤2 ^ 47) (hb:0≤b) (hb':b≤1048576):f167 x b = -1 ∨ (0≤f167 x b ∧ f167 x b≤b ∧ x.len≤1048576):=by
  have:f167 x b = _:=szLin x.len b h hb hb'
  rw [this]
  by_cases hd:b < (x.len:Int)
  · rw [if_pos hd]; exact .inl rfl
  · rw [if_neg hd]; right; omega

theorem sz105 (x:L Oe) (b:Int) (h:x.len≤2 ^ 47) (hp:∀ i,i < x.len→(x.get i).2.1.len≤2 ^ 47) (hb:0≤b) (hb':b≤1048576) :
    ∃ n,g93 x b = some ((n,()),()) ∧ (n = -1 ∨ (0≤n ∧ n≤b ∧ x.len≤1048576 ∧ ∀ i,i < x.len→(x.get i).2.1.len≤1048576)):=by
  have h47:(2:Nat) ^ 47 = 140737488355328:=by decide
  have h':=h
  rw [h47] at h'
  unfold g93
  rw [wI_id (by omega) (by omega)]
  by_cases hc:b - (x.len:Int) < 0
  · rw [bif_t (by simpa using hc)]; exact ⟨-1,rfl,.inl rfl⟩
  · rw [bif_f (by simpa using hc)]
    obtain ⟨d,e1,e2⟩:=szLoop (step:=s93_L0) (x:=x) f169 (fun p=>p.2.1.len≤1048576) (fun i hi b hb hb'=>by
      unfold f169
      rcases sz156 (x.get i).2.1 b (hp i hi) hb hb' with q | ⟨q1,q2,q3⟩
      · rw [q]; exact .inl rfl
      · rw [bif_f (by simpa using q1)]; exact .inr ⟨q1,q2,q3⟩) (fun i n hi=>by
      simp only [s93_L0,q93_L0]
      refine (bif_t (idx_lt hi)).trans ((bif_t (idx_in hi)).trans ?_)
      rw [wI_succ hi h,Int.toNat_natCast]) (fun n=>by
      simp only [s93_L0,q93_L0]
      exact bif_f (idx_end x.len)) (b - (x.len:Int)) (by omega) (by omega)
    rw [e1]
    simp only [Option.bind_some]
    rcases e2 with rfl | ⟨n,rfl,n1,n2,n3⟩
    · exact ⟨-1,rfl,.inl rfl⟩
    · exact ⟨n,rfl,.inr ⟨n1,by omega,by omega,n3⟩⟩
theorem sz106 (x:L Ie) (b:Int) (h:x.len≤2 ^ 47) (hp:∀ i,i < x.len→(x.get i).1.len≤2 ^ 47) (hb:0≤b) (hb':b≤1048576) :
    ∃ n,g94 x b = some ((n,()),()) ∧ (n = -1 ∨ (0≤n ∧ n≤b ∧ x.len≤1048576 ∧ ∀ i,i < x.len→(x.get i).1.len≤1048576)):=by
  have h47:(2:Nat) ^ 47 = 140737488355328:=by decide
  have h':=h
  rw [h47] at h'
  unfold g94
  rw [wI_id (by omega) (by omega)]
  by_cases hc:b - (x.len:Int) < 0
  · rw [bif_t (by simpa using hc)]; exact ⟨-1,rfl,.inl rfl⟩
  · rw [bif_f (by simpa using hc)]
    obtain ⟨d,e1,e2⟩:=szLoop (step:=s94_L0) (x:=x) f170 (fun p=>p.1.len≤1048576) (fun i hi b hb hb'=>by
      unfold f170
      rcases sz156 (x.get i).1 b (hp i hi) hb hb' with q | ⟨q1,q2,q3⟩
      · rw [q]; exact .inl rfl
      · rw [bif_f (by simpa using q1)]; exact .inr ⟨q1,q2,q3⟩) (fun i n hi=>by
      simp only [s94_L0,q94_L0]
      refine (bif_t (idx_lt hi)).trans ((bif_t (idx_in hi)).trans ?_)
      rw [wI_succ hi h,Int.toNat_natCast]) (fun n=>by
      simp only [s94_L0,q94_L0]
      exact bif_f (idx_end x.len)) (b - (x.len:Int)) (by omega) (by omega)
    rw [e1]
    simp only [Option.bind_some]
    rcases e2 with rfl | ⟨n,rfl,n1,n2,n3⟩
    · exact ⟨-1,rfl,.inl rfl⟩
    · exact ⟨n,rfl,.inr ⟨n1,by omega,by omega,n3⟩⟩
theorem sz107 (x:L De) (b:Int) (h:x.len≤2 ^ 47) (hp:∀ i,i < x.len→(x.get i).1.len≤2 ^ 47 ∧ (x.get i).2.1.len≤2 ^ 47) (hb:0≤b) (hb':b≤1048576) :
    ∃ n,g95 x b = some ((n,()),()) ∧ (n = -1 ∨ (0≤n ∧ n≤b ∧ x.len≤1048576 ∧ ∀ i,i < x.len→(x.get i).1.len≤1048576 ∧ (x.get i).2.1.len≤1048576)):=by
  have h47:(2:Nat) ^ 47 = 140737488355328:=by decide
  have h':=h
  rw [h47] at h'
  unfold g95
  rw [wI_id (by omega) (by omega)]
  by_cases hc:b - (x.len:Int) < 0
  · rw [bif_t (by simpa using hc)]; exact ⟨-1,rfl,.inl rfl⟩
  · rw [bif_f (by simpa using hc)]
    obtain ⟨d,e1,e2⟩:=szLoop (step:=s95_L0) (x:=x) f171 (fun p=>p.1.len≤1048576 ∧ p.2.1.len≤1048576) (fun i hi b hb hb'=>by
      unfold f171
      rcases sz156 (x.get i).1 b (hp i hi).1 hb hb' with q | ⟨q1,q2,q3⟩
      · rw [q]; exact .inl rfl
      · rw [bif_f (by simpa using q1)]
        rcases sz156 (x.get i).2.1 (f167 (x.get i).1 b) (hp i hi).2 q1 (by omega) with r | ⟨r1,r2,r3⟩
        · rw [r]; exact .inl rfl
        · rw [bif_f (by simpa using r1)]; exact .inr ⟨r1,by omega,q3,r3⟩) (fun i n hi=>by
      simp only [s95_L0,q95_L0]
      refine (bif_t (idx_lt hi)).trans ((bif_t (idx_in hi)).trans ?_)
      rw [wI_succ hi h,Int.toNat_natCast]) (fun n=>by
      simp only [s95_L0,q95_L0]
      exact bif_f (idx_end x.len)) (b - (x.len:Int)) (by omega) (by omega)
    rw [e1]
    simp only [Option.bind_some]
    rcases e2 with rfl | ⟨n,rfl,n1,n2,n3⟩
    · exact ⟨-1,rfl,.inl rfl⟩
    · exact ⟨n,rfl,.inr ⟨n1,by omega,by omega,n3⟩⟩

theorem sz47 (s:St) (b:Int) (h:BndS s (2 ^ 47)) (hb:0≤b) (hb':b≤1048576):∃ n,g22 s b = some ((n,()),()) ∧ (n = -1 ∨ (0≤n ∧ BndS s 1048576)):=by
  obtain ⟨h1,⟨h2,h2'⟩,⟨h3,h3'⟩,h4,⟨h5,h5'⟩,⟨h6,h6'⟩,⟨h7,h7'⟩,h8,h8'⟩:=h
  unfold g22 g90
  rcases sz156 s.1.1 b h1 hb hb' with q | ⟨q1,q2,q3⟩
  · rw [q]; exact ⟨-1,rfl,.inl rfl⟩
  rw [bif_f (by simpa using q1)]
  obtain ⟨a,a1,a2⟩:=sz26 s.1.2.2.1 (f167 s.1.1 b) h2 h2' q1 (by omega)
  rw [a1]
  simp only [Option.bind_some]
  rcases a2 with rfl | ⟨a2,a3,a4,a5⟩
  · exact ⟨-1,rfl,.inl rfl⟩
  rw [bif_f (by simpa using a2)]
  simp only [Option.bind_some]
  rw [bif_f (by simpa using a2)]
  obtain ⟨c,c1,c2⟩:=sz41 s.2.2.2.1 a h3 h3' a2 (by omega)
  rw [c1]
  simp only [Option.bind_some]
  rcases c2 with rfl | ⟨c2,c3,c4⟩
  · exact ⟨-1,rfl,.inl rfl⟩
  rw [bif_f (by simpa using c2)]
  have e104:f92 s.2.2.2.2.1 c = -1 ∨ (0≤f92 s.2.2.2.2.1 c ∧ f92 s.2.2.2.2.1 c≤c ∧ s.2.2.2.2.1.2.1.len≤1048576):=by
    unfold f92
    have:f41 s.2.2.2.2.1.2.1 c = _:=sz34 s.2.2.2.2.1.2.1 c h4 c2 (by omega)
    rw [this]
    by_cases hd:c < ((s.2.2.2.2.1.2.1.len:Int))
    · rw [if_pos hd]; exact .inl rfl
    · rw [if_neg hd,bif_f (by simp; omega)]; right; omega
  rcases e104 with q | ⟨t1,t2,t3⟩
  · rw [q]; exact ⟨-1,rfl,.inl rfl⟩
  rw [bif_f (by simpa using t1)]
  obtain ⟨d,d1,d2⟩:=sz26 (sBoot s) (f92 s.2.2.2.2.1 c) h5 h5' t1 (by omega)
  have d1':g10 s.2.2.2.2.2.2.2.1 (f92 s.2.2.2.2.1 c) = some ((d,()),()):=d1
  rw [d1']
  simp only [Option.bind_some]
  rcases d2 with rfl | ⟨d2,d3,d4,d5⟩
  · exact ⟨-1,rfl,.inl rfl⟩
  rw [bif_f (by simpa using d2)]
  obtain ⟨e,e1,e2⟩:=sz105 (sOuts s) d h6 h6' d2 (by omega)
  have e1':g93 s.2.2.2.2.2.2.2.2.1 d = some ((e,()),()):=e1
  rw [e1']
  simp only [Option.bind_some]
  rcases e2 with rfl | ⟨e2,e3,e4,e5⟩
  · exact ⟨-1,rfl,.inl rfl⟩
  rw [bif_f (by simpa using e2)]
  obtain ⟨f,f1,f2⟩:=sz106 (sIns s) e h7 h7' e2 (by omega)
  have f1':g94 s.2.2.2.2.2.2.2.2.2.1 e = some ((f,()),()):=f1
  rw [f1']
  simp only [Option.bind_some]
  rcases f2 with rfl | ⟨f2,f3,f4,f5⟩
  · exact ⟨-1,rfl,.inl rfl⟩
  rw [bif_f (by simpa using f2)]
  obtain ⟨g,g1,g2⟩:=sz107 (sDevs s) f h8 h8' f2 (by omega)
  have g1':g95 s.2.2.2.2.2.2.2.2.2.2.1 f = some ((g,()),()):=g1
  rw [g1']
  simp only [Option.bind_some]
  rcases g2 with rfl | ⟨g2,g3,g4,g5⟩
  · exact ⟨-1,rfl,.inl rfl⟩
  rw [bif_f (by simpa using g2)]
  exact ⟨g,rfl,.inr ⟨g2,q3,⟨a4,a5⟩,c4,t3,⟨d4,d5⟩,⟨e4,e5⟩,⟨f4,f5⟩,⟨g4,g5⟩⟩⟩

theorem overlaps2 (a:L Wi) (ha:a.len≤2 ^ 47) (w:Wi) (hw:f308 w = true) (hg:∀ v,v ∈ toL a→f308 v = true) (hap:∀ v,v ∈ toL a→apart v w):g232_311 a (w,()) = some ((false,()),()):=by
  have hf:∀ i,i < a.len→f311 (a.get i) w = false:=fun i hi=>by
    have hm:=(toL_mem a (a.get i)).mpr ⟨i,hi,rfl⟩
    have:=(f234_iff (a.get i) w (hg _ hm) hw).mpr (hap _ hm)
    unfold f311
    rw [this]; rfl
  have h:=index_loop (step:=s304_311_L0) (x:=a) (c:=(w,())) (fun i=>f311 (a.get i) w) (fun i hi=>by
    simp only [s304_311_L0,q304_311_L0]
    refine (bif_t (idx_lt hi)).trans ((bif_t (idx_in hi)).trans ?_)
    rw [wI_succ hi ha,Int.toNat_natCast]
    by_cases hf:f311 (a.get i) w = true
    · rw [if_pos hf]; exact bif_t hf
    · rw [if_neg hf]; exact bif_f (by simpa using hf)) (by
    simp only [s304_311_L0,q304_311_L0]
    exact bif_f (idx_end a.len))
  unfold g232_311 g304_311
  rcases h with ⟨i,h1,h2,h3,h4⟩ | ⟨h1,h2⟩
  · rw [hf i h1] at h2; cases h2
  · rw [h2]; rfl

theorem aparts (a b:Wi) (ha:f308 a = true) (hb:f308 b = true) (h:apart a b):g309 a b = some ((true,()),()):=by
  unfold g309
  rw [ha,hb]
  simp only [Bool.not_true,cond_false]
  obtain ⟨d,e1,rfl⟩:=fixO_rel (step:=s309_L0) (fun y=>(2052 - y.1.2.2.1).toNat)
    (fun y=>∃ x:Int,y = (((),((),(x,()))),(a,(b,()))) ∧ 0≤x ∧ x≤2051)
    (fun _ d=>d = .inr (.inl ((),()))) (by
      rintro _ ⟨x,rfl,x1,x2⟩
      simp only [s309_L0,q309_L0]
      by_cases hlt:x < 2048
      · left
        rw [bif_t (by simpa using hlt),wI_id (by omega) (by omega)]
        have hm:(2052 - (x + 4)).toNat < (2052 - x).toNat:=by omega
        cases h1:f343 a x with
        | false=>exact ⟨_,rfl,⟨x + 4,rfl,by omega,by omega⟩,hm,fun d hd=>hd⟩
        | true =>
          cases h2:f343 b x with
          | false=>exact ⟨_,rfl,⟨x + 4,rfl,by omega,by omega⟩,hm,fun d hd=>hd⟩
          | true =>
            have h1:=(f343_iff a x ha).mp h1
            have h2:=(f343_iff b x hb).mp h2
            unfold apart at h
            omega
      · right
        rw [bif_f (by simpa using hlt)]
        exact ⟨_,rfl,rfl⟩)
    (((),((),((0:Int),()))),(a,(b,()))) ⟨0,rfl,by omega,by omega⟩
  rw [e1]; rfl

theorem winsOk (w:L Wi) (hl:w.len≤4) (hg:∀ j,j < w.len→f308 (w.get j) = true) (hp:(toL w).Pairwise apart):g248 w = some ((true,()),()) ∧ g252 w = some ((true,()),()):=by
  have hap:∀ k i,k < i→i < w.len→apart (w.get k) (w.get i):=fun k i h1 h2=>by
    have:=List.pairwise_iff_getElem.mp hp k i (by rw [toL_len]; omega) (by rw [toL_len]; exact h2) h1
    rw [toL_getElem,toL_getElem] at this
    exact this
  constructor
  · unfold g248
    rw [bif_f (by simp; omega)]
    obtain ⟨d,e1,rfl⟩:=fixO_rel (step:=s248_L0) (fun a=>w.len - a.1.2.1.toNat) (fun a=>∃ i:Nat,a = ((w,((i:Int),())),()) ∧ i≤w.len) (fun _ d=>d = .inr (.inl ((),()))) (by
      rintro _ ⟨i,rfl,hi⟩
      simp only [s248_L0,q248_L0]
      by_cases hlt:i < w.len
      · left
        rw [bif_t (idx_lt hlt),bif_t (idx_in hlt),Int.toNat_natCast,hg i hlt]
        obtain ⟨d,e2,rfl⟩:=fixO_rel (step:=s248_L2) (fun a=>i - a.1.2.2.1.toNat) (fun a=>∃ k:Nat,a = ((w,((i:Int),((k:Int),()))),()) ∧ k≤i) (fun _ d=>d = .inr (.inl ((w,((i:Int),())),()))) (by
          rintro _ ⟨k,rfl,hk⟩
          simp only [s248_L2,q248_L2]
          by_cases hkt:k < i
          · left
            rw [bif_t (idx_lt hkt),bif_t (idx_in (n:=w.len) (by omega)),bif_t (idx_in hlt),Int.toNat_natCast,Int.toNat_natCast,aparts _ _ (hg k (by omega)) (hg i hlt) (hap k i hkt hlt),wI_succ hkt (by omega)]
            exact ⟨_,rfl,⟨k + 1,rfl,hkt⟩,by simp only [Int.toNat_natCast]; omega,fun d hd=>hd⟩
          · right
            have:k = i:=by omega
            subst this
            exact ⟨_,bif_f (idx_end k),rfl⟩) ((w,((i:Int),((0:Int),()))),()) ⟨0,rfl,Nat.zero_le _⟩
        rw [e2]
        simp only [Bool.not_true,cond_false,Option.bind_some]
        rw [wI_succ hlt (by omega)]
        exact ⟨_,rfl,⟨i + 1,rfl,hlt⟩,by simp only [Int.toNat_natCast]; omega,fun d hd=>hd⟩
      · right
        have:i = w.len:=by omega
        subst this
        exact ⟨_,bif_f (idx_end w.len),rfl⟩) ((w,((0:Int),())),()) ⟨0,rfl,Nat.zero_le _⟩
    rw [e1]; rfl
  · unfold g252
    rw [bif_f (by simp; omega)]
    obtain ⟨d,e1,rfl⟩:=fixO_rel (step:=s252_L0) (fun a=>w.len - a.1.2.2.2.1.toNat) (fun a=>∃ i:Nat,a = ((w,(w,((w.len:Int),((i:Int),())))),()) ∧ i≤w.len) (fun _ d=>d = .inr (.inl ((),()))) (by
      rintro _ ⟨i,rfl,hi⟩
      simp only [s252_L0,q252_L0]
      by_cases hlt:i < w.len
      · left
        have e194:f231 (w.get i) = true:=by rw [f231_308]; exact hg i hlt
        have hcut:∀ v,v ∈ toL (L.cut w (0:Int).toNat i)→∃ k,k < i ∧ w.get k = v:=fun v hv=>by
          obtain ⟨k,k1,k2⟩:=(toL_mem _ _).mp hv
          have k1:k < i - 0:=k1
          have k2:w.get (0 + k) = v:=k2
          rw [Nat.zero_add] at k2
          exact ⟨k,by omega,k2⟩
        have ho:=overlaps2 (L.cut w (0:Int).toNat i) (show i - 0≤2 ^ 47 by omega) (w.get i) (hg i hlt) (fun v hv=>by
          obtain ⟨k,k1,rfl⟩:=hcut v hv
          exact hg k (by omega)) (fun v hv=>by
          obtain ⟨k,k1,rfl⟩:=hcut v hv
          exact hap k i k1 hlt)
        rw [bif_t (idx_lt hlt),bif_t (idx_in hlt),Int.toNat_natCast,e194,bif_f (show (!true) = false from rfl),bif_t (by simp; omega),ho]
        simp only [Option.bind_some,cond_false]
        rw [wI_succ hlt (by omega)]
        exact ⟨_,rfl,⟨i + 1,rfl,hlt⟩,by simp only [Int.toNat_natCast]; omega,fun d hd=>hd⟩
      · right
        have:i = w.len:=by omega
        subst this
        exact ⟨_,bif_f (idx_end w.len),rfl⟩) ((w,(w,((w.len:Int),((0:Int),())))),()) ⟨0,rfl,Nat.zero_le _⟩
    rw [e1]; rfl

theorem guests (w:L Wi) (g:Gu) (hl:w.len≤4) (hg:∀ j,j < w.len→f308 (w.get j) = true) (hp:(toL w).Pairwise apart):∃ b:Bool,g172 w g = some ((b,()),()) ∧ g186 w g = some ((b,()),()):=by
  obtain ⟨w1,w2⟩:=winsOk w hl hg hp
  unfold g172 g186
  rw [w1,w2]
  simp only [Option.bind_some,Bool.not_true,cond_false]
  cases h16:((g.1.len:Int) != 16) with
  | true=>exact ⟨false,rfl,rfl⟩
  | false =>
    have h16:(g.1.len:Int) = 16:=by simpa using h16
    have hb:decide ((0:Int) < (g.1.len:Int)) = true:=by rw [h16]; rfl
    rw [hb]
    simp only [cond_false,cond_true]
    cases (g.1.get (0:Int).toNat != 0) with
    | true=>exact ⟨false,rfl,rfl⟩
    | false =>
      cases hr:((g.2.2.1.len:Int) != (w.len:Int)) with
      | true=>exact ⟨false,rfl,rfl⟩
      | false =>
        have hr:g.2.2.1.len = w.len:=by
          have:(g.2.2.1.len:Int) = (w.len:Int):=by simpa using hr
          omega
        simp only [cond_false]
        obtain ⟨d,e,e1,e2,e3⟩:=fixO_sim (s1:=s172_L0) (s2:=s186_L0)
          (fun a b=>∃ i:Nat,a = ((w,((),((i:Int),()))),(g,())) ∧ b = (((),(w,((w.len:Int),((i:Int),())))),(g,())) ∧ i≤w.len)
          (fun d e=>(d = .inl ((false,()),()) ∧ e = .inl ((false,()),())) ∨ (d = .inr (.inl ((),())) ∧ e = .inr (.inl ((),())))) (fun a=>w.len - a.1.2.2.1.toNat) (by
            rintro _ _ ⟨i,rfl,rfl,hi⟩
            simp only [s172_L0,q172_L0,s186_L0,q186_L0]
            by_cases hlt:i < w.len
            · have hlr:i < g.2.2.1.len:=by omega
              have x1:decide ((i:Int) < (w.len:Int)) = true:=idx_lt hlt
              have x2:(decide ((0:Int)≤(i:Int))&&decide ((i:Int) < (w.len:Int))) = true:=idx_in hlt
              have x3:(decide ((0:Int)≤(i:Int))&&decide ((i:Int) < (g.2.2.1.len:Int))) = true:=idx_in hlr
              rw [x2,x3,x1,wI_succ hlt (by omega),Int.toNat_natCast]
              simp only [cond_true]
              cases ((g.2.2.1.get i).len:Int) != (w.get i).2.1 with
              | true=>exact .inr ⟨_,_,rfl,rfl,.inl ⟨rfl,rfl⟩⟩
              | false=>exact .inl ⟨_,_,rfl,rfl,⟨i + 1,rfl,rfl,hlt⟩,by simp only [Int.toNat_natCast]; omega⟩
            · right
              have:i = w.len:=by omega
              subst this
              exact ⟨_,_,bif_f (idx_end w.len),bif_f (idx_end w.len),.inr ⟨rfl,rfl⟩⟩)
          ((w,((),((0:Int),()))),(g,())) (((),(w,((w.len:Int),((0:Int),())))),(g,())) ⟨0,rfl,rfl,Nat.zero_le _⟩
        rw [e1,e2]
        rcases e3 with ⟨rfl,rfl⟩ | ⟨rfl,rfl⟩
        · exact ⟨false,rfl,rfl⟩
        · exact ⟨true,rfl,rfl⟩

theorem pages (t:Tl) (hr:t.2.1.len≤1048576) (i:Nat) (hi:i < t.2.1.len) :
    ∃ b:Bool,g253 (L.cut t.2.1 (0:Int).toNat i) (t.2.1.get i) = some ((b,()),()) ∧
    ((b = true ∧ fixO s175_L2 (((),((i:Int),((0:Int),()))),(t,())) = some (.inl ((false,()),()))) ∨
     (b = false ∧ fixO s175_L2 (((),((i:Int),((0:Int),()))),(t,())) = some (.inr (.inl (((),((i:Int),())),(t,())))))):=by
  generalize hx:t.2.1 = x at *
  have h1:=scan (step:=s175_L2) (fun k=>(((),((i:Int),((k:Int),()))),(t,()))) i (fun k=>!(x.get k == x.get i)) (fun _=>.inl ((false,()),())) (.inr (.inl (((),((i:Int),())),(t,()))))
    (fun k hk ho=>by
      have ho':(x.get ((k:Int)).toNat == x.get ((i:Int)).toNat) = false:=by rw [Int.toNat_natCast,Int.toNat_natCast]; simpa using ho
      simp only [s175_L2,q175_L2]
      rw [hx]
      refine (bif_t (idx_lt hk)).trans ((bif_t (idx_in (n:=x.len) (by omega))).trans ((bif_t (idx_in hi)).trans ((bif_f ho').trans ?_)))
      rw [wI_succ hk (by omega)])
    (fun k hk ho=>by
      have ho':(x.get ((k:Int)).toNat == x.get ((i:Int)).toNat) = true:=by rw [Int.toNat_natCast,Int.toNat_natCast]; simpa using ho
      simp only [s175_L2,q175_L2]
      rw [hx]
      exact (bif_t (idx_lt hk)).trans ((bif_t (idx_in (n:=x.len) (by omega))).trans ((bif_t (idx_in hi)).trans (bif_t ho'))))
    (by
      simp only [s175_L2,q175_L2]
      exact bif_f (idx_end i))
  generalize hy:L.cut x (0:Int).toNat i = y
  have hyl:y.len = i:=by rw [← hy]; rfl
  have hyg:∀ k,y.get k = x.get k:=fun k=>by
    rw [← hy]
    show x.get (0 + k) = _
    rw [Nat.zero_add]
  have h2:=index_loop (step:=s312_L0) (x:=y) (c:=x.get i) (fun k=>x.get i == x.get k) (fun k hk=>by
    simp only [s312_L0,q312_L0]
    refine (bif_t (idx_lt hk)).trans ((bif_t (idx_in hk)).trans ?_)
    rw [wI_succ hk (by omega),Int.toNat_natCast,hyg]
    by_cases hf:(x.get i == x.get k) = true
    · rw [if_pos hf]; exact bif_t hf
    · rw [if_neg hf]
      have hf':(x.get i == x.get k) = false:=by simpa using hf
      exact bif_f hf') (by
    simp only [s312_L0,q312_L0]
    exact bif_f (idx_end y.len))
  unfold g253 g312
  rcases h2 with ⟨k,k1,k2,k3,k4⟩ | ⟨k1,k2⟩
  · rw [k4]
    refine ⟨true,by simp,.inl ⟨rfl,?_⟩⟩
    rcases h1 with ⟨j,hj,ho,_,e⟩ | ⟨ha,e⟩
    · exact e
    · have:=ha k (by omega)
      have k2':(x.get k == x.get i) = true:=by rw [beq_iff_eq] at k2 ⊢; exact k2.symm
      rw [k2'] at this; cases this
  · rw [k2]
    refine ⟨false,by simp,.inr ⟨rfl,?_⟩⟩
    rcases h1 with ⟨j,hj,ho,_,e⟩ | ⟨ha,e⟩
    · have:=k1 j (by omega)
      have ho:(x.get j == x.get i) = true:=by simpa using ho
      have ho':(x.get i == x.get j) = true:=by rw [beq_iff_eq] at ho ⊢; exact ho.symm
      rw [ho'] at this; cases this
    · exact e

theorem tlbs (t:Tl) (hr:t.2.1.len≤1048576):∃ b:Bool,g175 t = some ((b,()),()) ∧ g188 t = some ((b,()),()):=by
  unfold g175 g188
  rw [show f136 = f97 from rfl]
  cases f97 t.1 1 8 with
  | false=>exact ⟨false,rfl,rfl⟩
  | true =>
    simp only [Bool.not_true,cond_false]
    cases decide ((t.2.1.len:Int) > t.1) with
    | true=>exact ⟨false,rfl,rfl⟩
    | false =>
      simp only [cond_false]
      have hpg:=pages t hr
      generalize hx:t.2.1 = x at *
      obtain ⟨d,e,e1,e2,e3⟩:=fixO_sim (s1:=s175_L0) (s2:=s188_L0)
        (fun a b=>∃ i:Nat,a = (((),((i:Int),())),(t,())) ∧ b = (((),(x,((x.len:Int),((i:Int),())))),(t,())) ∧ i≤x.len)
        (fun d e=>(d = .inl ((false,()),()) ∧ e = .inl ((false,()),())) ∨ (d = .inr (.inl ((),())) ∧ e = .inr (.inl ((),())))) (fun a=>x.len - a.1.2.1.toNat) (by
          rintro _ _ ⟨i,rfl,rfl,hi⟩
          simp only [s175_L0,q175_L0,s188_L0,q188_L0]
          rw [hx,show f136 = f97 from rfl]
          by_cases hlt:i < x.len
          · obtain ⟨b,b1,b2⟩:=hpg i hlt
            rw [bif_t (idx_lt hlt),bif_t (idx_in hlt),bif_t (idx_lt hlt),bif_t (idx_in hlt),Int.toNat_natCast]
            cases f97 (x.get i) 0 1023 with
            | false=>exact .inr ⟨_,_,rfl,rfl,.inl ⟨rfl,rfl⟩⟩
            | true =>
              simp only [Bool.not_true,cond_false]
              have hcut:(decide ((0:Int)≤(0:Int))&&(decide ((0:Int)≤(i:Int))&&decide ((i:Int)≤(x.len:Int)))) = true:=by simp; omega
              rw [hcut,b1]
              simp only [cond_true,Option.bind_some]
              rcases b2 with ⟨rfl,b2⟩ | ⟨rfl,b2⟩
              · rw [b2]
                exact .inr ⟨_,_,rfl,rfl,.inl ⟨rfl,rfl⟩⟩
              · rw [b2]
                simp only [Option.bind_some,cond_false]
                rw [wI_succ hlt (by omega)]
                exact .inl ⟨_,_,rfl,rfl,⟨i + 1,rfl,rfl,hlt⟩,by simp only [Int.toNat_natCast]; omega⟩
          · right
            have:i = x.len:=by omega
            subst this
            exact ⟨_,_,bif_f (idx_end x.len),bif_f (idx_end x.len),.inr ⟨rfl,rfl⟩⟩)
        (((),((0:Int),())),(t,())) (((),(x,((x.len:Int),((0:Int),())))),(t,())) ⟨0,rfl,rfl,Nat.zero_le _⟩
      rw [e1,e2]
      rcases e3 with ⟨rfl,rfl⟩ | ⟨rfl,rfl⟩
      · exact ⟨false,rfl,rfl⟩
      · exact ⟨true,rfl,rfl⟩

theorem outs (r:Ch) (o:Oe) (hr:f297 r = true) (hl:o.2.1.len≤1048576):f249 r o = f255 r o:=by
  unfold f249 f255 f238
  rw [show f145 r = f297 r from rfl,hr,show f136 = f97 from rfl]
  simp only [Bool.not_true,cond_false]
  rcases chan_of hr with ⟨h1,h2⟩ | ⟨h1,h2,h3⟩
  · rw [bif_t (by simpa using h1),bif_t (c:=(r.1 == 0)) (by simpa using h1),h2,if_neg (by omega)]
    by_cases h0:o.1 = 0
    · rw [bif_t (by simpa using h0),bif_t ((f97_iff _ _ _).mpr (by omega))]
      by_cases hs:(o.2.1.len:Int) > 1
      · rw [bif_t (by simpa using hs)]; simp; omega
      · rw [bif_f (by simpa using hs)]; simp; omega
    · have:f97 o.1 0 0 = false:=by
        cases hq:f97 o.1 0 0 with
        | false=>rfl
        | true=>have:=(f97_iff _ _ _).mp hq; omega
      rw [bif_f (by simpa using h0),this]
      cases decide ((o.2.1.len:Int) > 1) <;> rfl
  · rw [bif_f (by simp [h1]),bif_f (c:=(r.1 == 0)) (by simp [h1])]
    have hd:(if r.2.2.2.1 > 1 then r.2.2.2.1 else 1) = r.2.2.2.1:=by split <;> omega
    rw [hd]
    cases hq:f97 o.1 0 r.2.2.2.1 with
    | false=>cases decide ((o.2.1.len:Int) > r.2.2.2.1) <;> rfl
    | true =>
      have hq:=(f97_iff _ _ _).mp hq
      simp only [cond_true]
      rw [wI_id (by omega) (by omega),wI_id (by omega) (by omega)]
      by_cases hs:(o.2.1.len:Int) > r.2.2.2.1
      · rw [bif_t (by simpa using hs)]; simp; omega
      · rw [bif_f (by simpa using hs),decide_eq_decide]; omega

theorem inns (r:Ch) (o:Ie) (hr:f297 r = true):f250 r o = f257 r o:=by
  unfold f250 f257 f238
  rw [show f145 r = f297 r from rfl,hr]
  simp only [Bool.not_true,cond_false,cond_true]
  rcases chan_of hr with ⟨h1,h2⟩ | ⟨h1,h2,h3⟩
  · rw [bif_t (by simpa using h1),h2,if_neg (by omega)]
  · rw [bif_f (by simp [h1])]
    have hd:(if r.2.2.2.1 > 1 then r.2.2.2.1 else 1) = r.2.2.2.1:=by split <;> omega
    rw [hd]

def Ends (t:Tb) (p:Int) (s:St):Prop:=(sOuts s).len = (tChans t).len ∧ (sIns s).len = (tChans t).len ∧ (sDevs s).len = (tDevs t).len ∧ ∀ j,j < (tDevs t).len→(tDevs t).get j = p→f180 ((sDevs s).get j) = true
theorem ends (t:Tb) (p:Int) (s:St) (hF:Facts t) (hS:BndS s 1048576):∃ b:Bool,g176 t p s = some ((b,()),()) ∧ g189 t p s = some ((b,()),()) ∧ (b = true→Ends t p s):=by
  obtain ⟨_,_,_,_,_,_,_,_,hd8,hc8,_,hc,_,_,_⟩:=hF
  obtain ⟨_,_,_,_,_,⟨ho,ho'⟩,⟨hi,hi'⟩,hv,hv'⟩:=hS
  have h213:∀ i:Nat,i < (tChans t).len→g254 t p (i:Int) = some ((((tChans t).get i).2.1 == p,()),()):=fun i h=>by
    unfold g254
    have e:((t.2.2.2.2.2.2.2.2.2.1.len:Int)) = (tChans t).len:=rfl
    rw [show f136 = f97 from rfl,e,wI_id (by omega) (by omega),bif_t ((f97_iff _ _ _).mpr (by omega)),bif_t (idx_in h),Int.toNat_natCast]
    rfl
  have h212:∀ i:Nat,i < (tChans t).len→g256 t p (i:Int) = some ((((tChans t).get i).2.2.1 == p,()),()):=fun i h=>by
    unfold g256
    have e:((t.2.2.2.2.2.2.2.2.2.1.len:Int)) = (tChans t).len:=rfl
    rw [show f136 = f97 from rfl,e,wI_id (by omega) (by omega),bif_t ((f97_iff _ _ _).mpr (by omega)),bif_t (idx_in h),Int.toNat_natCast]
    rfl
  have h214:∀ i:Nat,i < (tDevs t).len→g109 t p (i:Int) = some (((tDevs t).get i == p,()),()):=fun i h=>by
    unfold g109
    have e:((t.2.2.2.2.2.2.2.2.1.len:Int)) = (tDevs t).len:=rfl
    rw [show f136 = f97 from rfl,e,wI_id (by omega) (by omega),bif_t ((f97_iff _ _ _).mpr (by omega)),bif_t (idx_in h),Int.toNat_natCast]
    rfl
  unfold g176 g189
  have eo:(s.2.2.2.2.2.2.2.2.1.len:Int) = (sOuts s).len:=rfl
  have ei:(s.2.2.2.2.2.2.2.2.2.1.len:Int) = (sIns s).len:=rfl
  have ev:(s.2.2.2.2.2.2.2.2.2.2.1.len:Int) = (sDevs s).len:=rfl
  have ec:(t.2.2.2.2.2.2.2.2.2.1.len:Int) = (tChans t).len:=rfl
  have ed:(t.2.2.2.2.2.2.2.2.1.len:Int) = (tDevs t).len:=rfl
  rw [eo,ei,ev,ec,ed]
  cases n1:(((sOuts s).len:Int) != ((tChans t).len:Int)) with
  | true=>exact ⟨false,rfl,rfl,by simp⟩
  | false =>
    cases n2:(((sIns s).len:Int) != ((tChans t).len:Int)) with
    | true=>exact ⟨false,rfl,rfl,by simp⟩
    | false =>
      cases n3:(((sDevs s).len:Int) != ((tDevs t).len:Int)) with
      | true=>exact ⟨false,rfl,rfl,by simp⟩
      | false =>
        have n1:(sOuts s).len = (tChans t).len:=by
          have:((sOuts s).len:Int) = ((tChans t).len:Int):=by simpa using n1
          omega
        have n2:(sIns s).len = (tChans t).len:=by
          have:((sIns s).len:Int) = ((tChans t).len:Int):=by simpa using n2
          omega
        have n3:(sDevs s).len = (tDevs t).len:=by
          have:((sDevs s).len:Int) = ((tDevs t).len:Int):=by simpa using n3
          omega
        simp only [cond_false]
        obtain ⟨d,e,e1,e2,e3⟩:=fixO_sim (s1:=s176_L0) (s2:=s189_L0)
          (fun a b=>∃ i:Nat,a = ((p,((),((),((i:Int),())))),(t,(s,()))) ∧ b = ((p,((),((),(tChans t,(((tChans t).len:Int),((i:Int),())))))),(t,(s,()))) ∧ i≤(tChans t).len)
          (fun d e=>(d = .inl ((false,()),()) ∧ e = .inl ((false,()),())) ∨ (d = .inr (.inl ((p,((),((),()))),(t,(s,())))) ∧ e = .inr (.inl ((p,((),((),()))),(t,(s,())))))) (fun a=>(tChans t).len - a.1.2.2.2.1.toNat) (by
            rintro _ _ ⟨i,rfl,rfl,hile⟩
            simp only [s176_L0,q176_L0,s189_L0,q189_L0]
            by_cases hlt:i < (tChans t).len
            · have x1:decide ((i:Int) < ((tChans t).len:Int)) = true:=idx_lt hlt
              have x1':decide ((i:Int) < (t.2.2.2.2.2.2.2.2.2.1.len:Int)) = true:=idx_lt hlt
              have x2:(decide ((0:Int)≤(i:Int))&&decide ((i:Int) < ((tChans t).len:Int))) = true:=idx_in hlt
              have x2':(decide ((0:Int)≤(i:Int))&&decide ((i:Int) < (t.2.2.2.2.2.2.2.2.2.1.len:Int))) = true:=idx_in hlt
              have x3:(decide ((0:Int)≤(i:Int))&&decide ((i:Int) < (s.2.2.2.2.2.2.2.2.1.len:Int))) = true:=idx_in (n:=(sOuts s).len) (by omega)
              have x4:(decide ((0:Int)≤(i:Int))&&decide ((i:Int) < (s.2.2.2.2.2.2.2.2.2.1.len:Int))) = true:=idx_in (n:=(sIns s).len) (by omega)
              have hr:=(hc i hlt).1
              have ho1:=outs ((tChans t).get i) ((sOuts s).get i) hr (ho' i (by omega))
              have hi1:=inns ((tChans t).get i) ((sIns s).get i) hr
              have y1:t.2.2.2.2.2.2.2.2.2.1.get i = (tChans t).get i:=rfl
              have y2:s.2.2.2.2.2.2.2.2.1.get i = (sOuts s).get i:=rfl
              have y3:s.2.2.2.2.2.2.2.2.2.1.get i = (sIns s).get i:=rfl
              rw [x2,x2',x3,x4,x1,x1',h213 i hlt,h212 i hlt,Int.toNat_natCast,y1,y2,y3,← ho1,← hi1,wI_succ hlt (by omega)]
              simp only [cond_true,Option.bind_some]
              have hm:(tChans t).len - (((i + 1:Nat):Int)).toNat < (tChans t).len - i:=by simp only [Int.toNat_natCast]; omega
              have zz:decide ((((sOuts s).get i).2.1.len:Int) > 0) = (((((sOuts s).get i).2.1.len:Int)) != 0):=by
                rw [Bool.eq_iff_iff]; simp; omega
              have zy:decide ((((sIns s).get i).1.len:Int) > 0) = (((((sIns s).get i).1.len:Int)) != 0):=by
                rw [Bool.eq_iff_iff]; simp; omega
              rw [zz,zy]
              generalize (((tChans t).get i).2.1 == p) = q1
              generalize (((tChans t).get i).2.2.1 == p) = q2
              generalize f249 ((tChans t).get i) ((sOuts s).get i) = q3
              generalize f250 ((tChans t).get i) ((sIns s).get i) = q4
              generalize (((sOuts s).get i).1 != 0) = q5
              generalize (((((sOuts s).get i).2.1.len:Int)) != 0) = q6
              generalize (((((sIns s).get i).1.len:Int)) != 0) = q7
              cases q1 <;> cases q2 <;> cases q3 <;> cases q4 <;> cases q5 <;> cases q6 <;> cases q7 <;>
                first
                | exact .inr ⟨_,_,rfl,rfl,.inl ⟨rfl,rfl⟩⟩
                | exact .inl ⟨_,_,rfl,rfl,⟨i + 1,rfl,rfl,hlt⟩,hm⟩
            · right
              have:i = (tChans t).len:=by omega
              subst this
              exact ⟨_,_,bif_f (idx_end (tChans t).len),bif_f (idx_end (tChans t).len),.inr ⟨rfl,rfl⟩⟩)
          ((p,((),((),((0:Int),())))),(t,(s,()))) ((p,((),((),(tChans t,(((tChans t).len:Int),((0:Int),())))))),(t,(s,()))) ⟨0,rfl,rfl,Nat.zero_le _⟩
        have e2':fixO s189_L0 ((p,((),((),(t.2.2.2.2.2.2.2.2.2.1,(((tChans t).len:Int),((0:Int),())))))),(t,(s,()))) = some e:=e2
        rw [e1,e2']
        rcases e3 with ⟨rfl,rfl⟩ | ⟨rfl,rfl⟩
        · exact ⟨false,rfl,rfl,by simp⟩
        · simp only [Option.bind_some]
          obtain ⟨d,e,e1,e2,e3⟩:=fixO_sim (s1:=s176_L2) (s2:=s189_L2)
            (fun a b=>∃ i:Nat,a = ((p,((),((),((i:Int),())))),(t,(s,()))) ∧ b = ((p,((),(sDevs s,(((sDevs s).len:Int),((i:Int),()))))),(t,())) ∧ i≤(tDevs t).len ∧ ∀ j,j < i→(tDevs t).get j = p→f180 ((sDevs s).get j) = true)
            (fun d e=>(d = .inl ((false,()),()) ∧ e = .inl ((false,()),())) ∨ (d = .inr (.inl ((),())) ∧ e = .inr (.inl ((),())) ∧ ∀ j,j < (tDevs t).len→(tDevs t).get j = p→f180 ((sDevs s).get j) = true)) (fun a=>(tDevs t).len - a.1.2.2.2.1.toNat) (by
              rintro _ _ ⟨i,rfl,rfl,hile,hall⟩
              simp only [s176_L2,q176_L2,s189_L2,q189_L2]
              by_cases hlt:i < (tDevs t).len
              · have hls:i < (sDevs s).len:=by omega
                have x1:decide ((i:Int) < ((sDevs s).len:Int)) = true:=idx_lt hls
                have x1':decide ((i:Int) < (t.2.2.2.2.2.2.2.2.1.len:Int)) = true:=idx_lt hlt
                have x2:(decide ((0:Int)≤(i:Int))&&decide ((i:Int) < ((sDevs s).len:Int))) = true:=idx_in hls
                have x2':(decide ((0:Int)≤(i:Int))&&decide ((i:Int) < (t.2.2.2.2.2.2.2.2.1.len:Int))) = true:=idx_in hlt
                have x3:(decide ((0:Int)≤(i:Int))&&decide ((i:Int) < (s.2.2.2.2.2.2.2.2.2.2.1.len:Int))) = true:=idx_in hls
                have y1:t.2.2.2.2.2.2.2.2.1.get i = (tDevs t).get i:=rfl
                have y2:s.2.2.2.2.2.2.2.2.2.2.1.get i = (sDevs s).get i:=rfl
                have hb:=hv' i hls
                rw [x2,x2',x3,x1,x1',h214 i hlt,Int.toNat_natCast,y1,y2,show f258 ((sDevs s).get i) = f180 ((sDevs s).get i) from rfl,wI_succ hlt (by omega)]
                simp only [cond_true,Option.bind_some]
                have hm:(tDevs t).len - (((i + 1:Nat):Int)).toNat < (tDevs t).len - i:=by simp only [Int.toNat_natCast]; omega
                have zz:decide (wI ((((sDevs s).get i).1.len:Int) + (((sDevs s).get i).2.1.len:Int)) > 0) = (((((sDevs s).get i).1.len:Int) != 0) || ((((sDevs s).get i).2.1.len:Int) != 0)):=by
                  rw [wI_id (by omega) (by omega),Bool.eq_iff_iff]; simp; omega
                rw [zz]
                generalize hq1:((tDevs t).get i == p) = q1
                generalize hq2:f180 ((sDevs s).get i) = q2
                generalize ((((sDevs s).get i).1.len:Int) != 0) = q3
                generalize ((((sDevs s).get i).2.1.len:Int) != 0) = q4
                cases q1 <;> cases q2 <;> cases q3 <;> cases q4 <;>
                  first
                  | exact .inr ⟨_,_,rfl,rfl,.inl ⟨rfl,rfl⟩⟩
                  | exact .inl ⟨_,_,rfl,rfl,⟨i + 1,rfl,rfl,hlt,fun j hj hp=>by
                      rcases Nat.lt_or_eq_of_le (Nat.le_of_lt_succ hj) with q | rfl
                      · exact hall j q hp
                      · first
                        | exact hq2
                        | (rw [hp] at hq1; simp at hq1)⟩,hm⟩
              · right
                have:i = (tDevs t).len:=by omega
                subst this
                exact ⟨_,_,bif_f (idx_end (tDevs t).len),bif_f (by simp; omega),.inr ⟨rfl,rfl,hall⟩⟩)
            ((p,((),((),((0:Int),())))),(t,(s,()))) ((p,((),(sDevs s,(((sDevs s).len:Int),((0:Int),()))))),(t,())) ⟨0,rfl,rfl,Nat.zero_le _,fun j hj=>absurd hj (Nat.not_lt_zero j)⟩
          have e2':fixO s189_L2 ((p,((),(s.2.2.2.2.2.2.2.2.2.2.1,((s.2.2.2.2.2.2.2.2.2.2.1.len:Int),((0:Int),()))))),(t,())) = some e:=e2
          rw [e1,e2']
          rcases e3 with ⟨rfl,rfl⟩ | ⟨rfl,rfl,hall⟩
          · exact ⟨false,rfl,rfl,by simp⟩
          · exact ⟨true,rfl,rfl,fun _=>⟨n1,n2,n3,hall⟩⟩

theorem main (t:Tb) (p:Int) (s:St) (h:Bnd t) (hS:BndS s 1048576):∃ b:Bool,g96 t p s = some ((b,()),()) ∧ g108 t p s = some ((b,()),()) ∧ (b = true→Facts t ∧ (0≤p ∧ p < (tParts t).len) ∧ Ends t p s ∧ f119 s.2.2.2.1.1 = true):=by
  obtain ⟨b,h1,h2,h3⟩:=sound_wf t (wf_of_bnd h)
  obtain ⟨k,k1,k2⟩:=fits t p (sBoot s) h hS.2.2.2.2.1.1
  have k1':g128 t p s.2.2.2.2.2.2.2.1 = some ((k,()),()):=k1
  have k2':g55 t p s.2.2.2.2.2.2.2.1 = some ((k,()),()):=k2
  unfold g96 g108 g45
  rw [h1,h2,k1',k2',show f136 = f97 from rfl]
  simp only [Option.bind_some]
  cases b with
  | false=>exact ⟨false,rfl,rfl,by simp⟩
  | true =>
    have hF:=h3 rfl
    simp only [Bool.not_true,cond_false,cond_true,Option.bind_some]
    cases k with
    | false=>exact ⟨false,rfl,rfl,by simp⟩
    | true =>
      have hin:0≤p ∧ p < (tParts t).len:=by
        unfold g128 at k1
        cases hp:f97 p 0 (wI ((t.2.2.2.2.2.2.2.1.len:Int) - 1)) with
        | false=>rw [hp] at k1; cases k1
        | true =>
          have hp:=(f97_iff _ _ _).mp hp
          have hl:((t.2.2.2.2.2.2.2.1.len:Int)) = (tParts t).len:=rfl
          have hb1:(tParts t).len≤1048576:=h.1
          rw [hl,wI_id (by omega) (by omega)] at hp
          omega
      have hix:(decide (0≤p)&&decide (p < (t.2.2.2.2.2.2.2.1.len:Int))) = true:=by
        have hl:((t.2.2.2.2.2.2.2.1.len:Int)) = (tParts t).len:=rfl
        rw [hl]; simp; omega
      have hP:Parts (tParts t) t.1:=hF.2.2.2.2.2.2.2.1
      have hG:=(hP.1 p.toNat (by omega)).1
      have hpw:(toL ((tParts t).get p.toNat).2.2.2.1).Pairwise apart:=by
        obtain ⟨r,hr⟩:=winsOf_prefix (tParts t) (i:=p.toNat + 1) (n:=(tParts t).len) (by omega) (Nat.le_refl _)
        have:=hP.2
        rw [hr,List.pairwise_append] at this
        have h2:=this.1
        rw [winsOf_succ (tParts t) (by omega),List.pairwise_append] at h2
        exact h2.2.1
      obtain ⟨g,g1,g2⟩:=guests ((tParts t).get p.toNat).2.2.2.1 s.1 hG.2.2.1.2 (fun j hj=>(hG.2.2.2.1 j hj).1) hpw
      have g1':g172 (t.2.2.2.2.2.2.2.1.get p.toNat).2.2.2.1 s.1 = some ((g,()),()):=g1
      have g2':g186 (t.2.2.2.2.2.2.2.1.get p.toNat).2.2.2.1 s.1 = some ((g,()),()):=g2
      obtain ⟨c,c1,c2,c3⟩:=caches s.2.2.2.1 ⟨hS.2.2.1.1,hS.2.2.1.2⟩
      obtain ⟨l,l1,l2⟩:=tlbs s.2.2.2.2.1 hS.2.2.2.1
      obtain ⟨e,e1,e2,e3⟩:=ends t p s hF hS
      rw [hix,g1',g2',c1,c2,l1,l2,e1,e2,show f187 s.2.2.1 = f173 s.2.2.1 from rfl]
      simp only [Bool.not_true,cond_false,cond_true,Option.bind_some]
      generalize f173 s.2.2.1 = q1
      generalize ((s.2.2.2.1.1.1 == t.2.1.1)&&((s.2.2.2.1.1.2.1 == t.2.1.2.1)&&((s.2.2.2.1.1.2.2.1 == t.2.1.2.2.1)&&true))) = q2
      generalize (s.2.2.2.2.1.1 != t.2.2.1) = q3
      generalize f97 s.2.2.2.2.2.1 0 100000 = q4
      cases g <;> cases q1 <;> cases c <;> cases q2 <;> cases l <;> cases q3 <;> cases q4 <;>
        first
        | exact ⟨_,rfl,rfl,fun h=>by first | exact ⟨hF,hin,e3 h,c3 rfl⟩ | cases h⟩




end Go.VE.VFnExactPartSlot
