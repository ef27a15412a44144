import Derived.Test.YtnjlpdagdedbaaaVFnPadded
import Derived.Test.YtnjlpdagdedbaaaVkV
/- laws.FnPadded returns true: in plain words, no program in sight. -/
set_option linter.unusedVariables false
set_option linter.unusedSimpArgs false
namespace Go.VE.VFnPadded
open Go.VE
abbrev tysOf : List Ty := [(.sl (.int .u8))]
abbrev Co:Type:=Int×(Int×(Int×(Int×(Int×(Int×(Int×Unit))))))

theorem f61_60:f61 = f60:=rfl
theorem f119_138 (c:Co):f119 c = f138 c:=by
  unfold f119 f138
  rw [f61_60]
  generalize f60 c.1 1 20 = b1
  generalize f60 c.2.1 0 50 = b2
  generalize f60 c.2.2.1 0 50 = b3
  generalize f60 c.2.2.2.1 0 50 = b4
  generalize f60 c.2.2.2.2.1 0 50 = b5
  generalize f60 c.2.2.2.2.2.1 0 50 = b6
  generalize f60 c.2.2.2.2.2.2.1 0 50 = b7
  cases b1 <;> cases b2 <;> cases b3 <;> cases b4 <;> cases b5 <;> cases b6 <;> cases b7 <;> rfl

theorem f60_iff (a b c:Int):f60 a b c = true ↔ b≤a ∧ a≤c:=by
  unfold f60
  by_cases h:a ≥ b
  · rw [bif_t (by simpa using h)]; simp; omega
  · rw [bif_f (by simpa using h)]; simp; omega

theorem costs_of {c:Co} (h:f138 c = true):(1≤c.1 ∧ c.1≤20) ∧ (0≤c.2.1 ∧ c.2.1≤50) ∧ (0≤c.2.2.1 ∧ c.2.2.1≤50) ∧ (0≤c.2.2.2.1 ∧ c.2.2.2.1≤50) ∧ (0≤c.2.2.2.2.1 ∧ c.2.2.2.2.1≤50) ∧ (0≤c.2.2.2.2.2.1 ∧ c.2.2.2.2.2.1≤50) ∧ (0≤c.2.2.2.2.2.2.1 ∧ c.2.2.2.2.2.2.1≤50):=by
  unfold f138 at h
  have step:∀ {b x:Bool},(bif b then x else false) = true→b = true ∧ x = true:=fun {b x} h=>by cases b <;> simp_all
  obtain ⟨h1,h⟩:=step h
  obtain ⟨h2,h⟩:=step h
  obtain ⟨h3,h⟩:=step h
  obtain ⟨h4,h⟩:=step h
  obtain ⟨h5,h⟩:=step h
  obtain ⟨h6,h7⟩:=step h
  exact ⟨(f60_iff _ _ _).mp h1,(f60_iff _ _ _).mp h2,(f60_iff _ _ _).mp h3,(f60_iff _ _ _).mp h4,(f60_iff _ _ _).mp h5,(f60_iff _ _ _).mp h6,(f60_iff _ _ _).mp h7⟩

theorem forms_pos:∀ k,k < 33→0≤L.get f175r k:=by decide +kernel

theorem opc {c:Co} (hc:f138 c = true) {i:Nat} (hi:i < 33):g143 c i = some ((f167 c i,()),()):=by
  have hf:g165 (i:Int) = some ((L.get f175r i,()),()):=by
    unfold g165
    have h1:f60 (i:Int) 0 32 = true:=(f60_iff _ _ _).mpr (by omega)
    rw [h1,bif_f (show (!true) = false from rfl),bif_t,Int.toNat_natCast]
    have:f175r.len = 33:=rfl
    rw [this]; simp; omega
  unfold g143 f167
  rw [hc,bif_f (show (!true) = false from rfl),hf]
  simp only [Option.bind_some]
  rw [bif_f (by simpa using forms_pos i hi),f61_60]
  cases ((i:Int) == 9) <;> cases ((i:Int) == 10) <;> cases f60 (i:Int) 15 18 <;> cases decide ((i:Int) ≥ 25) <;> rfl

theorem f166_168 {c:Co} (hc:f138 c = true) (a:Bool×(Bool×(Bool×Unit))):f166 c a = f168 c a:=by
  unfold f166 f168
  rw [hc]
  rfl

def wAcc (c:Co) (i:Nat):Int:=if i = 0 then -1 else if i≤4 then c.2.2.2.1 + c.2.2.2.2.1 else c.2.2.2.1 + c.2.2.2.2.1 + c.2.2.2.2.2.2.1

theorem acc_of {c:Co} (hc:f138 c = true) (a b d:Bool):f166 c (a,(b,(d,()))) = (if a then 0 else c.2.2.2.1) + (if b then 0 else c.2.2.2.2.1) + (if d then c.2.2.2.2.2.2.1 else 0):=by
  obtain ⟨_,_,_,h4,h5,_,h7⟩:=costs_of hc
  rw [f166_168 hc]
  unfold f168
  have e0:∀ n:Int,0≤n→n≤1000→wI n = n:=fun n h1 h2=>wI_id (by omega) (by omega)
  cases a <;> cases b <;> cases d <;> simp only [Bool.not_true,Bool.not_false,cond_true,cond_false,if_true,if_false,Bool.false_eq_true,Int.zero_add,Int.add_zero]
  · rw [e0 c.2.2.2.1 (by omega) (by omega),e0 _ (by omega) (by omega)]
  · rw [e0 c.2.2.2.1 (by omega) (by omega),e0 (c.2.2.2.1 + c.2.2.2.2.1) (by omega) (by omega),e0 _ (by omega) (by omega)]
  · rw [e0 _ (by omega) (by omega)]
  · rw [e0 c.2.2.2.1 (by omega) (by omega),e0 _ (by omega) (by omega)]
  · rw [e0 _ (by omega) (by omega)]
  · rw [e0 c.2.2.2.2.1 (by omega) (by omega),e0 _ (by omega) (by omega)]
  · rw [e0 _ (by omega) (by omega)]

theorem wacc {c:Co} (hc:f138 c = true):g144 c = some ((c.2.2.2.1 + c.2.2.2.2.1 + c.2.2.2.2.2.2.1,()),()):=by
  obtain ⟨_,_,_,h4,h5,_,h7⟩:=costs_of hc
  obtain ⟨d,h1,rfl⟩:=fixO_rel (step:=s144_L0) (fun a=>8 - a.1.2.2.1.toNat)
    (fun a=>∃ i:Nat,a = (((),(wAcc c i,((i:Int),()))),(c,())) ∧ i≤8)
    (fun _ d=>d = .inl ((wAcc c 8,()),())) (by
      rintro _ ⟨i,rfl,hi⟩
      by_cases h:i < 8
      · left
        have fin:s144_L0 (((),(wAcc c i,((i:Int),()))),(c,())) = some (.inl (((),(wAcc c (i + 1),(((i + 1:Nat):Int),()))),(c,()))):=by
          simp only [s144_L0,q144_L0]
          rw [bif_t (by simp; omega),wI_succ (n:=8) h (by omega)]
          have:i = 0 ∨ i = 1 ∨ i = 2 ∨ i = 3 ∨ i = 4 ∨ i = 5 ∨ i = 6 ∨ i = 7:=by omega
          have key:∀ (a b d:Bool) (m:Int),(((Int.tmod (i:Int) 2) == 1),(((Int.tmod (wI (Int.tdiv (i:Int) 2)) 2) == 1),(((wI (Int.tdiv (i:Int) 4)) == 1),()))) = (a,(b,(d,()))) →
              (if (if a then 0 else c.2.2.2.1) + (if b then 0 else c.2.2.2.2.1) + (if d then c.2.2.2.2.2.2.1 else 0) > wAcc c i then (if a then 0 else c.2.2.2.1) + (if b then 0 else c.2.2.2.2.1) + (if d then c.2.2.2.2.2.2.1 else 0) else wAcc c i) = m→m = wAcc c (i + 1) →
              (bif (decide ((f166 c (((Int.tmod (i:Int) 2) == 1),(((Int.tmod (wI (Int.tdiv (i:Int) 2)) 2) == 1),(((wI (Int.tdiv (i:Int) 4)) == 1),())))) > wAcc c i)) then
                some (.inl (((),((f166 c (((Int.tmod (i:Int) 2) == 1),(((Int.tmod (wI (Int.tdiv (i:Int) 2)) 2) == 1),(((wI (Int.tdiv (i:Int) 4)) == 1),())))),(((i + 1:Nat):Int),()))),(c,())))
              else some (.inl (((),(wAcc c i,(((i + 1:Nat):Int),()))),(c,())))) = (some (.inl (((),(wAcc c (i + 1),(((i + 1:Nat):Int),()))),(c,()))):Option (((Unit×(Int×(Int×Unit)))×(Co×Unit))⊕(((Int×Unit)×Unit)⊕Empty))):=by
            intro a b d m hb hm hw
            rw [hb,acc_of hc,← hw,← hm]
            generalize (if a then 0 else c.2.2.2.1) + (if b then 0 else c.2.2.2.2.1) + (if d then c.2.2.2.2.2.2.1 else 0) = v
            by_cases hgt:v > wAcc c i
            · rw [bif_t (by simpa using hgt),if_pos hgt]
            · rw [bif_f (by simpa using hgt),if_neg hgt]
          rcases this with rfl | rfl | rfl | rfl | rfl | rfl | rfl | rfl
          · exact key false false false _ (by decide +kernel) rfl (by simp [wAcc]; omega)
          · exact key true false false _ (by decide +kernel) rfl (by simp [wAcc]; omega)
          · exact key false true false _ (by decide +kernel) rfl (by simp [wAcc]; omega)
          · exact key true true false _ (by decide +kernel) rfl (by simp [wAcc]; omega)
          · exact key false false true _ (by decide +kernel) rfl (by simp [wAcc]; omega)
          · exact key true false true _ (by decide +kernel) rfl (by simp [wAcc]; omega)
          · exact key false true true _ (by decide +kernel) rfl (by simp [wAcc]; omega)
          · exact key true true true _ (by decide +kernel) rfl (by simp [wAcc]; omega)
        exact ⟨_,fin,⟨i + 1,rfl,h⟩,by simp only [Int.toNat_natCast]; omega,fun d hd=>hd⟩
      · right
        have:i = 8:=by omega
        subst this
        exact ⟨_,rfl,rfl⟩) (((),((-1:Int),((0:Int),()))),(c,())) ⟨0,rfl,by omega⟩
  unfold g144
  rw [h1]
  rfl

theorem worst {c:Co} (hc:f138 c = true):∃ n,g115 c = some ((n,()),()) ∧ g146 c = some ((n,()),()):=by
  obtain ⟨d,e,h1,h2,m,rfl,rfl⟩:=fixO_sim (s1:=s115_L0) (s2:=s146_L0)
    (fun a b=>∃ (i:Nat) (m:Int),a = (((),(m,((i:Int),()))),(c,())) ∧ b = (((),(m,((i:Int),()))),(c,())) ∧ i≤33)
    (fun d e=>∃ m,d = .inl (((),(m,())),(c,())) ∧ e = .inl (((),(m,())),(c,()))) (fun a=>33 - a.1.2.2.1.toNat) (by
      rintro _ _ ⟨i,m,rfl,rfl,hi⟩
      by_cases h:i < 33
      · left
        have hb:decide ((i:Int) < 33) = true:=by simp; omega
        have ho:g143 (c.1,(c.2.1,(c.2.2.1,(c.2.2.2.1,(c.2.2.2.2.1,(c.2.2.2.2.2.1,(c.2.2.2.2.2.2.1,()))))))) (i:Int) = some ((f167 c i,()),()):=opc hc h
        simp only [s115_L0,q115_L0,s146_L0,q146_L0,hb,cond_true,wI_succ h (by omega:33≤2 ^ 47),ho,Option.bind_some]
        by_cases hg:f167 c i > m
        · rw [bif_t (by simpa using hg)]
          refine ⟨_,_,rfl,rfl,⟨i + 1,f167 c i,rfl,?_,h⟩,by simp only [Int.toNat_natCast]; omega⟩
          have:(if f167 (c.1,(c.2.1,(c.2.2.1,(c.2.2.2.1,(c.2.2.2.2.1,(c.2.2.2.2.2.1,(c.2.2.2.2.2.2.1,()))))))) (i:Int) > m then f167 (c.1,(c.2.1,(c.2.2.1,(c.2.2.2.1,(c.2.2.2.2.1,(c.2.2.2.2.2.1,(c.2.2.2.2.2.2.1,()))))))) (i:Int) else m) = f167 c i:=if_pos hg
          rw [this]
        · rw [bif_f (by simpa using hg)]
          refine ⟨_,_,rfl,rfl,⟨i + 1,m,rfl,?_,h⟩,by simp only [Int.toNat_natCast]; omega⟩
          have:(if f167 (c.1,(c.2.1,(c.2.2.1,(c.2.2.2.1,(c.2.2.2.2.1,(c.2.2.2.2.2.1,(c.2.2.2.2.2.2.1,()))))))) (i:Int) > m then f167 (c.1,(c.2.1,(c.2.2.1,(c.2.2.2.1,(c.2.2.2.2.1,(c.2.2.2.2.2.1,(c.2.2.2.2.2.2.1,()))))))) (i:Int) else m) = m:=if_neg hg
          rw [this]
      · right
        have:i = 33:=by omega
        subst this
        exact ⟨_,_,rfl,rfl,m,rfl,rfl⟩) (((),((0:Int),((0:Int),()))),(c,())) (((),((0:Int),((0:Int),()))),(c,())) ⟨0,0,rfl,rfl,by omega⟩
  unfold g115 g146
  rw [f119_138,hc,bif_f (show (!true) = false from rfl),bif_f (show (!true) = false from rfl),h1,h2]
  simp only [Option.bind_some]
  rw [wacc hc]
  simp only [Option.bind_some]
  refine ⟨_,rfl,?_⟩
  have:f168 c (false,(false,(true,()))) = c.2.2.2.1 + c.2.2.2.2.1 + c.2.2.2.2.2.2.1:=by
    rw [← f166_168 hc,acc_of hc]; simp
  rw [this]

abbrev Ch:Type:=Int×(Int×(Int×(Int×Unit)))

theorem pow16 (n:Int) (h:f60 n 1 16 = true):f145 n = ((n == 1) || ((n == 2) || ((n == 4) || ((n == 8) || (n == 16))))):=by
  obtain ⟨h1,h2⟩:=(f60_iff _ _ _).mp h
  have:n = 1 ∨ n = 2 ∨ n = 3 ∨ n = 4 ∨ n = 5 ∨ n = 6 ∨ n = 7 ∨ n = 8 ∨ n = 9 ∨ n = 10 ∨ n = 11 ∨ n = 12 ∨ n = 13 ∨ n = 14 ∨ n = 15 ∨ n = 16:=by omega
  rcases this with rfl | rfl | rfl | rfl | rfl | rfl | rfl | rfl | rfl | rfl | rfl | rfl | rfl | rfl | rfl | rfl <;> decide +kernel

theorem pow32 (n:Int) (h:f60 n 4 32 = true):f145 n = ((n == 4) || ((n == 8) || ((n == 16) || (n == 32)))):=by
  obtain ⟨h1,h2⟩:=(f60_iff _ _ _).mp h
  have:n = 4 ∨ n = 5 ∨ n = 6 ∨ n = 7 ∨ n = 8 ∨ n = 9 ∨ n = 10 ∨ n = 11 ∨ n = 12 ∨ n = 13 ∨ n = 14 ∨ n = 15 ∨ n = 16 ∨ n = 17 ∨ n = 18 ∨ n = 19 ∨ n = 20 ∨ n = 21 ∨ n = 22 ∨ n = 23 ∨ n = 24 ∨ n = 25 ∨ n = 26 ∨ n = 27 ∨ n = 28 ∨ n = 29 ∨ n = 30 ∨ n = 31 ∨ n = 32:=by omega
  rcases this with rfl | rfl | rfl | rfl | rfl | rfl | rfl | rfl | rfl | rfl | rfl | rfl | rfl | rfl | rfl | rfl | rfl | rfl | rfl | rfl | rfl | rfl | rfl | rfl | rfl | rfl | rfl | rfl | rfl <;> decide +kernel

theorem f105_eq (s:Int×(Int×(Int×Unit))):f105 s = (((s.1 == 1) || ((s.1 == 2) || ((s.1 == 4) || ((s.1 == 8) || (s.1 == 16)))))&&(f60 s.2.1 1 4&&((s.2.2.1 == 4) || ((s.2.2.1 == 8) || ((s.2.2.1 == 16) || (s.2.2.1 == 32)))))):=by
  unfold f105
  generalize f60 s.2.1 1 4 = w
  generalize (s.1 == 1) = a1
  generalize (s.1 == 2) = a2
  generalize (s.1 == 4) = a3
  generalize (s.1 == 8) = a4
  generalize (s.1 == 16) = a5
  generalize (s.2.2.1 == 4) = l1
  generalize (s.2.2.1 == 8) = l2
  generalize (s.2.2.1 == 16) = l3
  generalize (s.2.2.1 == 32) = l4
  cases a1 <;> cases a2 <;> cases a3 <;> cases a4 <;> cases a5 <;> cases l1 <;> cases l2 <;> cases l3 <;> cases l4 <;> cases w <;> rfl

theorem f118_105 (s:Int×(Int×(Int×Unit))):f118 s = f105 s:=by
  rw [f105_eq]
  unfold f118
  rw [f61_60]
  have hs:(bif f60 s.1 1 16 then f145 s.1 else false) = ((s.1 == 1) || ((s.1 == 2) || ((s.1 == 4) || ((s.1 == 8) || (s.1 == 16))))):=by
    cases h:f60 s.1 1 16 with
    | true=>exact pow16 _ h
    | false =>
      have h':¬ (1≤s.1 ∧ s.1≤16):=fun q=>by rw [(f60_iff _ _ _).mpr q] at h; cases h
      have e:∀ k:Int,1≤k→k≤16→(s.1 == k) = false:=fun k h1 h2=>by simp; omega
      rw [e 1 (by omega) (by omega),e 2 (by omega) (by omega),e 4 (by omega) (by omega),e 8 (by omega) (by omega),e 16 (by omega) (by omega)]
      rfl
  have hl:(bif f60 s.2.2.1 4 32 then f145 s.2.2.1 else false) = ((s.2.2.1 == 4) || ((s.2.2.1 == 8) || ((s.2.2.1 == 16) || (s.2.2.1 == 32)))):=by
    cases h:f60 s.2.2.1 4 32 with
    | true=>exact pow32 _ h
    | false =>
      have h':¬ (4≤s.2.2.1 ∧ s.2.2.1≤32):=fun q=>by rw [(f60_iff _ _ _).mpr q] at h; cases h
      have e:∀ k:Int,4≤k→k≤32→(s.2.2.1 == k) = false:=fun k h1 h2=>by simp; omega
      rw [e 4 (by omega) (by omega),e 8 (by omega) (by omega),e 16 (by omega) (by omega),e 32 (by omega) (by omega)]
      rfl
  rw [← hs,← hl]
  generalize f60 s.1 1 16 = p1
  generalize f145 s.1 = p2
  generalize f60 s.2.1 1 4 = p3
  generalize f60 s.2.2.1 4 32 = p4
  generalize f145 s.2.2.1 = p5
  cases p1 <;> cases p2 <;> cases p3 <;> cases p4 <;> cases p5 <;> rfl

theorem chan_of {c:Ch} (h:f141 c = true):(c.1 = 0 ∧ c.2.2.2.1 = 0) ∨ (c.1 = 1 ∧ 1≤c.2.2.2.1 ∧ c.2.2.2.1≤8):=by
  unfold f141 at h
  have step:∀ {b:Bool} {x:Bool},(bif b then false else x) = true→x = true:=fun {b x} h=>by cases b <;> simp_all
  have h:=step (step (step h))
  by_cases h0:c.1 = 0
  · rw [bif_t (by simpa using h0)] at h
    by_cases hd:c.2.2.2.1 = 0
    · exact .inl ⟨h0,hd⟩
    · rw [bif_f (by simpa using hd),bif_f (by simp [h0])] at h
      cases h
  · rw [bif_f (by simpa using h0)] at h
    by_cases h1:c.1 = 1
    · rw [bif_t (by simpa using h1)] at h
      exact .inr ⟨h1,(f60_iff _ _ _).mp h⟩
    · rw [bif_f (by simpa using h1)] at h
      cases h

theorem good (x:L Ch) (hx:x.len≤8) (c:Co) (hc:1≤c.1 ∧ c.1≤20) (n:Int) (hok:∀ j,j < x.len→f141 (x.get j) = true) :
    ∃ m,fixO s116_L0 ((x,((),(n,((0:Int),())))),(c,())) = some (.inr (.inl ((m,()),()))) ∧ fixO s107_L0 (((),(n,(x,((x.len:Int),((0:Int),()))))),(c,())) = some (.inl ((m,()),())):=by
  obtain ⟨d,e,h1,h2,m,rfl,rfl⟩:=fixO_sim (s1:=s116_L0) (s2:=s107_L0)
    (fun a b=>∃ (i:Nat) (n:Int),a = ((x,((),(n,((i:Int),())))),(c,())) ∧ b = (((),(n,(x,((x.len:Int),((i:Int),()))))),(c,())) ∧ i≤x.len)
    (fun d e=>∃ m,d = .inr (.inl ((m,()),())) ∧ e = .inl ((m,()),())) (fun a=>x.len - a.1.2.2.2.1.toNat) (by
      rintro _ _ ⟨i,n,rfl,rfl,hi⟩
      by_cases h:i < x.len
      · left
        have hb0:decide ((0:Int)≤(i:Int)) = true:=by simp
        have hb2:decide ((i:Int) < (x.len:Int)) = true:=by simpa using h
        have hf:=hok i h
        simp only [s116_L0,q116_L0,s107_L0,q107_L0,hb0,hb2,Bool.and_self,cond_true,wI_succ h (by omega:x.len≤2 ^ 47),Int.toNat_natCast,hf,Bool.not_true,cond_false]
        rcases chan_of hf with ⟨k0,d0⟩ | ⟨k1,d1,d2⟩
        · have e1:f136 (x.get i) = 1:=by unfold f136; rw [if_neg (by omega)]
          have e2:wI (c.1 * 1) = c.1:=by rw [Int.mul_one]; exact wI_id (by omega) (by omega)
          rw [bif_t (by simpa using k0),e1,e2]
          exact ⟨_,_,rfl,rfl,⟨i + 1,_,rfl,rfl,h⟩,by simp only [Int.toNat_natCast]; omega⟩
        · have e1:f136 (x.get i) = (x.get i).2.2.2.1:=by unfold f136; split <;> omega
          rw [bif_f (by simp [k1]),e1]
          exact ⟨_,_,rfl,rfl,⟨i + 1,_,rfl,rfl,h⟩,by simp only [Int.toNat_natCast]; omega⟩
      · right
        simp only [s116_L0,q116_L0,s107_L0,q107_L0]
        rw [bif_f (by simp; omega),bif_f (by simp; omega)]
        exact ⟨_,_,rfl,rfl,n,rfl,rfl⟩) ((x,((),(n,((0:Int),())))),(c,())) (((),(n,(x,((x.len:Int),((0:Int),()))))),(c,())) ⟨0,n,rfl,rfl,Nat.zero_le _⟩
  exact ⟨m,h1,h2⟩


abbrev Sl:Type:=Int×(Int×(Int×Unit))
abbrev Wi:Type:=Int×(Int×(Int×Unit))
abbrev PR:Type:=ByteArray×(Int×((Int×(Int×Unit))×((L Wi)×Unit)))
abbrev Tb:Type:=Int×((Int×(Int×(Int×Unit)))×(Int×(Co×(Int×(Int×(Int×((L PR)×((L Int)×((L Ch)×((L Sl)×Unit))))))))))
def tParts (t:Tb):L PR:=t.2.2.2.2.2.2.2.1
def tDevs (t:Tb):L Int:=t.2.2.2.2.2.2.2.2.1
def tChans (t:Tb):L Ch:=t.2.2.2.2.2.2.2.2.2.1
def tSlots (t:Tb):L Sl:=t.2.2.2.2.2.2.2.2.2.2.1

theorem devs (t:Tb) (hd:(tDevs t).len≤8) :
    ((∃ i,i < (tDevs t).len ∧ f60 ((tDevs t).get i) 0 (wI (((tParts t).len:Int) - 1)) = false) ∧ fixO s103_L0 (((),((0:Int),())),(t,())) = some (.inl ((false,()),())) ∧ g123_124 (tDevs t) (((tParts t).len:Int),()) = some ((true,()),())) ∨
    ((∀ i,i < (tDevs t).len→f60 ((tDevs t).get i) 0 (wI (((tParts t).len:Int) - 1)) = true) ∧ fixO s103_L0 (((),((0:Int),())),(t,())) = some (.inr (.inl (((),()),(t,())))) ∧ g123_124 (tDevs t) (((tParts t).len:Int),()) = some ((false,()),())):=by
  have h1:=scan (step:=s103_L0) (fun i=>(((),((i:Int),())),(t,()))) (tDevs t).len (fun i=>f60 ((tDevs t).get i) 0 (wI (((tParts t).len:Int) - 1))) (fun _=>.inl ((false,()),())) (.inr (.inl (((),()),(t,()))))
    (fun i hi ho=>by
      have ho':(!f60 ((tDevs t).get ((i:Int)).toNat) 0 (wI (((tParts t).len:Int) - 1))) = false:=by rw [Int.toNat_natCast,ho]; rfl
      simp only [s103_L0,q103_L0]
      refine (bif_t (idx_lt hi)).trans ((bif_t (idx_in hi)).trans ((bif_f ho').trans ?_))
      rw [wI_succ hi (by omega)])
    (fun i hi ho=>by
      have ho':(!f60 ((tDevs t).get ((i:Int)).toNat) 0 (wI (((tParts t).len:Int) - 1))) = true:=by rw [Int.toNat_natCast,ho]; rfl
      simp only [s103_L0,q103_L0]
      exact (bif_t (idx_lt hi)).trans ((bif_t (idx_in hi)).trans (bif_t ho')))
    (by
      simp only [s103_L0,q103_L0]
      exact bif_f (idx_end (tDevs t).len))
  have h2:=scan (step:=s155_124_L0) (fun i=>((tDevs t,((((tParts t).len:Int),()),(((tDevs t).len:Int),((i:Int),())))),())) (tDevs t).len (fun i=>f60 ((tDevs t).get i) 0 (wI (((tParts t).len:Int) - 1))) (fun i=>.inl (((i:Int),()),())) (.inr (.inl ((),())))
    (fun i hi ho=>by
      have ho':f124 ((tDevs t).get ((i:Int)).toNat) ((tParts t).len:Int) = false:=by unfold f124; rw [Int.toNat_natCast,f61_60,ho]; rfl
      simp only [s155_124_L0,q155_124_L0]
      refine (bif_t (idx_lt hi)).trans ((bif_t (idx_in hi)).trans ((bif_f ho').trans ?_))
      rw [wI_succ hi (by omega)])
    (fun i hi ho=>by
      have ho':f124 ((tDevs t).get ((i:Int)).toNat) ((tParts t).len:Int) = true:=by unfold f124; rw [Int.toNat_natCast,f61_60,ho]; rfl
      simp only [s155_124_L0,q155_124_L0]
      exact (bif_t (idx_lt hi)).trans ((bif_t (idx_in hi)).trans (bif_t ho')))
    (by
      simp only [s155_124_L0,q155_124_L0]
      exact bif_f (idx_end (tDevs t).len))
  unfold g123_124 g155_124
  rcases h1 with ⟨i,hi,ho,_,e1⟩ | ⟨ha,e1⟩
  · rcases h2 with ⟨k,hk,hok,_,e2⟩ | ⟨hb,_⟩
    · refine .inl ⟨⟨i,hi,ho⟩,e1,?_⟩
      have e2':fixO s155_124_L0 ((tDevs t,((((tParts t).len:Int),()),(((tDevs t).len:Int),((0:Int),())))),()) = some (.inl (((k:Int),()),())):=e2
      rw [e2']
      simp
    · have:=hb i hi; rw [ho] at this; cases this
  · rcases h2 with ⟨k,hk,hok,_,_⟩ | ⟨hb,e2⟩
    · have:=ha k hk; rw [hok] at this; cases this
    · refine .inr ⟨ha,e1,?_⟩
      have e2':fixO s155_124_L0 ((tDevs t,((((tParts t).len:Int),()),(((tDevs t).len:Int),((0:Int),())))),()) = some (.inr (.inl ((),()))):=e2
      rw [e2']
      simp

theorem f127_141 (c:Ch):f127 c = f141 c:=rfl
theorem f126_iff (c:Ch) (n:Int):f126 c n = false ↔ f141 c = true ∧ c.2.1 < n ∧ c.2.2.1 < n:=by
  unfold f126
  rw [f127_141]
  cases h:f141 c with
  | false=>simp
  | true =>
    rw [bif_f (show (!true) = false from rfl)]
    by_cases h1:c.2.1 ≥ n
    · rw [bif_t (by simpa using h1)]; simp; omega
    · rw [bif_f (by simpa using h1)]; simp; omega

theorem chans (t:Tb) (hd:(tChans t).len≤8) :
    (fixO s103_L2 (((),((0:Int),())),(t,())) = some (.inl ((false,()),())) ∧ g125_126 (tChans t) (((tParts t).len:Int),()) = some ((true,()),())) ∨
    ((∀ i,i < (tChans t).len→f141 ((tChans t).get i) = true ∧ ((tChans t).get i).2.1 < ((tParts t).len:Int) ∧ ((tChans t).get i).2.2.1 < ((tParts t).len:Int)) ∧ fixO s103_L2 (((),((0:Int),())),(t,())) = some (.inr (.inl (((),()),(t,())))) ∧ g125_126 (tChans t) (((tParts t).len:Int),()) = some ((false,()),())):=by
  have h1:=scan (step:=s103_L2) (fun i=>(((),((i:Int),())),(t,()))) (tChans t).len (fun i=>!f126 ((tChans t).get i) ((tParts t).len:Int)) (fun _=>.inl ((false,()),())) (.inr (.inl (((),()),(t,()))))
    (fun i hi ho=>by
      have ho:f126 ((tChans t).get i) ((tParts t).len:Int) = false:=by simpa using ho
      obtain ⟨o1,o2,o3⟩:=(f126_iff _ _).mp ho
      have e1:(!f141 ((tChans t).get ((i:Int)).toNat)) = false:=by rw [Int.toNat_natCast,o1]; rfl
      have e2:decide (((tChans t).get ((i:Int)).toNat).2.1 ≥ ((tParts t).len:Int)) = false:=by rw [Int.toNat_natCast]; simp; omega
      have e3:decide (((tChans t).get ((i:Int)).toNat).2.2.1 ≥ ((tParts t).len:Int)) = false:=by rw [Int.toNat_natCast]; simp; omega
      simp only [s103_L2,q103_L2]
      refine (bif_t (idx_lt hi)).trans ((bif_t (idx_in hi)).trans ((bif_f e1).trans ((bif_t (idx_in hi)).trans ((bif_f e2).trans ((bif_t (idx_in hi)).trans ((bif_f e3).trans ?_))))))
      rw [wI_succ hi (by omega)])
    (fun i hi ho=>by
      have ho:¬ (f141 ((tChans t).get i) = true ∧ ((tChans t).get i).2.1 < ((tParts t).len:Int) ∧ ((tChans t).get i).2.2.1 < ((tParts t).len:Int)):=fun q=>by
        rw [(f126_iff _ _).mpr q] at ho; cases ho
      simp only [s103_L2,q103_L2]
      refine (bif_t (idx_lt hi)).trans ((bif_t (idx_in hi)).trans ?_)
      cases o1:f141 ((tChans t).get i) with
      | false=>exact bif_t (show (!f141 ((tChans t).get ((i:Int)).toNat)) = true by rw [Int.toNat_natCast,o1]; rfl)
      | true =>
        refine (bif_f (show (!f141 ((tChans t).get ((i:Int)).toNat)) = false by rw [Int.toNat_natCast,o1]; rfl)).trans ((bif_t (idx_in hi)).trans ?_)
        by_cases o2:((tChans t).get i).2.1 < ((tParts t).len:Int)
        · refine (bif_f (show decide (((tChans t).get ((i:Int)).toNat).2.1 ≥ ((tParts t).len:Int)) = false by rw [Int.toNat_natCast]; simp; omega)).trans ((bif_t (idx_in hi)).trans ?_)
          have o3:¬ ((tChans t).get i).2.2.1 < ((tParts t).len:Int):=fun q=>ho ⟨o1,o2,q⟩
          exact bif_t (show decide (((tChans t).get ((i:Int)).toNat).2.2.1 ≥ ((tParts t).len:Int)) = true by rw [Int.toNat_natCast]; simp; omega)
        · exact bif_t (show decide (((tChans t).get ((i:Int)).toNat).2.1 ≥ ((tParts t).len:Int)) = true by rw [Int.toNat_natCast]; simp; omega))
    (by
      simp only [s103_L2,q103_L2]
      exact bif_f (idx_end (tChans t).len))
  have h2:=scan (step:=s156_126_L0) (fun i=>((tChans t,((((tParts t).len:Int),()),(((tChans t).len:Int),((i:Int),())))),())) (tChans t).len (fun i=>!f126 ((tChans t).get i) ((tParts t).len:Int)) (fun i=>.inl (((i:Int),()),())) (.inr (.inl ((),())))
    (fun i hi ho=>by
      have ho':f126 ((tChans t).get ((i:Int)).toNat) ((tParts t).len:Int) = false:=by rw [Int.toNat_natCast]; simpa using ho
      simp only [s156_126_L0,q156_126_L0]
      refine (bif_t (idx_lt hi)).trans ((bif_t (idx_in hi)).trans ((bif_f ho').trans ?_))
      rw [wI_succ hi (by omega)])
    (fun i hi ho=>by
      have ho':f126 ((tChans t).get ((i:Int)).toNat) ((tParts t).len:Int) = true:=by rw [Int.toNat_natCast]; simpa using ho
      simp only [s156_126_L0,q156_126_L0]
      exact (bif_t (idx_lt hi)).trans ((bif_t (idx_in hi)).trans (bif_t ho')))
    (by
      simp only [s156_126_L0,q156_126_L0]
      exact bif_f (idx_end (tChans t).len))
  unfold g125_126 g156_126
  rcases h1 with ⟨i,hi,ho,_,e1⟩ | ⟨ha,e1⟩
  · rcases h2 with ⟨k,hk,hok,_,e2⟩ | ⟨hb,_⟩
    · refine .inl ⟨e1,?_⟩
      have e2':fixO s156_126_L0 ((tChans t,((((tParts t).len:Int),()),(((tChans t).len:Int),((0:Int),())))),()) = some (.inl (((k:Int),()),())):=e2
      rw [e2']
      simp
    · have:=hb i hi; rw [ho] at this; cases this
  · rcases h2 with ⟨k,hk,hok,_,_⟩ | ⟨hb,e2⟩
    · have:=ha k hk; rw [hok] at this; cases this
    · refine .inr ⟨fun i hi=>(f126_iff _ _).mp (by simpa using ha i hi),e1,?_⟩
      have e2':fixO s156_126_L0 ((tChans t,((((tParts t).len:Int),()),(((tChans t).len:Int),((0:Int),())))),()) = some (.inr (.inl ((),()))):=e2
      rw [e2']
      simp

theorem f157_iff (t:Tb) (s:Sl) (e:Int) (h1:1≤t.2.2.2.2.1 ∧ t.2.2.2.2.1≤5000) (h2:1≤t.2.2.2.2.2.1 ∧ t.2.2.2.2.2.1≤5000) (h3:1≤t.2.2.2.2.2.2.1 ∧ t.2.2.2.2.2.2.1≤5000) :
    f157 t s e = true ↔ s.2.2.1 > t.2.2.2.2.1 + t.2.2.2.2.2.1 ∧ s.2.2.1≤t.2.2.2.2.2.2.1 ∧ s.2.1 ≥ e ∧ s.2.1≤t.2.2.2.2.2.2.1 - s.2.2.1:=by
  unfold f157
  rw [wI_id (n:=t.2.2.2.2.1 + t.2.2.2.2.2.1) (by omega) (by omega)]
  by_cases a:s.2.2.1 > t.2.2.2.2.1 + t.2.2.2.2.2.1
  · rw [bif_t (by simpa using a)]
    by_cases b:s.2.2.1≤t.2.2.2.2.2.2.1
    · rw [bif_t (by simpa using b),wI_id (by omega) (by omega)]
      by_cases c:s.2.1 ≥ e
      · rw [bif_t (by simpa using c)]; simp; omega
      · rw [bif_f (by simpa using c)]; simp; omega
    · rw [bif_f (by simpa using b)]; simp; omega
  · rw [bif_f (by simpa using a)]; simp; omega

def SlotsIn (t:Tb):Prop :=
  (∀ k,k < (tSlots t).len→f60 ((tSlots t).get k).1 0 (wI (((tParts t).len:Int) - 1)) = true ∧ t.2.2.2.2.1 + t.2.2.2.2.2.1 < ((tSlots t).get k).2.2.1 ∧ 0≤((tSlots t).get k).2.1 ∧ ((tSlots t).get k).2.1 + ((tSlots t).get k).2.2.1≤t.2.2.2.2.2.2.1) ∧
  ∀ k m,k < m→m < (tSlots t).len→((tSlots t).get k).2.1 + ((tSlots t).get k).2.2.1≤((tSlots t).get m).2.1

theorem slotsLoop (t:Tb) (hl:(tSlots t).len≤2 ^ 47) (h1:1≤t.2.2.2.2.1 ∧ t.2.2.2.2.1≤5000) (h2:1≤t.2.2.2.2.2.1 ∧ t.2.2.2.2.2.1≤5000) (h3:1≤t.2.2.2.2.2.2.1 ∧ t.2.2.2.2.2.2.1≤5000) :
    ∃ d e,fixO s104_L0 (((),((0:Int),((0:Int),()))),(t,())) = some d ∧ fixO s128_L0 (((),((0:Int),(tSlots t,(((tSlots t).len:Int),((0:Int),()))))),(t,())) = some e ∧
      ((d = .inl ((false,()),()) ∧ e = .inl ((false,()),())) ∨ (d = .inr (.inl ((),())) ∧ e = .inr (.inl (((),()),(t,()))) ∧ SlotsIn t)):=by
  refine fixO_sim (s1:=s104_L0) (s2:=s128_L0)
    (fun a b=>∃ (i:Nat) (e:Int),a = (((),(e,((i:Int),()))),(t,())) ∧ b = (((),(e,(tSlots t,(((tSlots t).len:Int),((i:Int),()))))),(t,())) ∧ i≤(tSlots t).len ∧ 0≤e ∧ e≤5000 ∧
      (∀ k,k < i→(f60 ((tSlots t).get k).1 0 (wI (((tParts t).len:Int) - 1)) = true ∧ t.2.2.2.2.1 + t.2.2.2.2.2.1 < ((tSlots t).get k).2.2.1 ∧ 0≤((tSlots t).get k).2.1 ∧ ((tSlots t).get k).2.1 + ((tSlots t).get k).2.2.1≤t.2.2.2.2.2.2.1) ∧ ((tSlots t).get k).2.1 + ((tSlots t).get k).2.2.1≤e) ∧
      ∀ k m,k < m→m < i→((tSlots t).get k).2.1 + ((tSlots t).get k).2.2.1≤((tSlots t).get m).2.1)
    (fun d e=>(d = .inl ((false,()),()) ∧ e = .inl ((false,()),())) ∨ (d = .inr (.inl ((),())) ∧ e = .inr (.inl (((),()),(t,()))) ∧ SlotsIn t)) (fun a=>(tSlots t).len - a.1.2.2.1.toNat) ?_ _ _ ⟨0,0,rfl,rfl,Nat.zero_le _,by omega,by omega,fun k hk=>absurd hk (Nat.not_lt_zero _),fun k m _ hk=>absurd hk (Nat.not_lt_zero _)⟩
  rintro _ _ ⟨i,e,rfl,rfl,hi,he1,he2,hk1,hk2⟩
  by_cases h:i < (tSlots t).len
  · simp only [s104_L0,q104_L0,s128_L0,q128_L0]
    rw [wI_succ h hl,Int.toNat_natCast]
    generalize hs:(tSlots t).get i = s
    have hs':(t.2.2.2.2.2.2.2.2.2.2.1).get i = s:=hs
    have c1:∀ {α:Type} {a b:α},(bif decide ((i:Int) < ((t.2.2.2.2.2.2.2.2.2.2.1).len:Int)) then a else b) = a:=bif_t (idx_lt h)
    have c2:∀ {α:Type} {a b:α},(bif decide ((0:Int)≤(i:Int))&&decide ((i:Int) < ((t.2.2.2.2.2.2.2.2.2.2.1).len:Int)) then a else b) = a:=bif_t (idx_in h)
    have c3:∀ {α:Type} {a b:α},(bif decide ((i:Int) < ((tSlots t).len:Int)) then a else b) = a:=bif_t (idx_lt h)
    have c4:∀ {α:Type} {a b:α},(bif decide ((0:Int)≤(i:Int))&&decide ((i:Int) < ((tSlots t).len:Int)) then a else b) = a:=bif_t (idx_in h)
    rw [c1,c2,c3,c4,hs',f61_60,wI_id (n:=t.2.2.2.2.1 + t.2.2.2.2.2.1) (by omega) (by omega),wI_id (n:=t.2.2.2.2.1 + t.2.2.2.2.2.1 + 1) (by omega) (by omega)]
    have hiff:=f157_iff t s e h1 h2 h3
    cases hp:f60 s.1 0 (wI (((t.2.2.2.2.2.2.2.1).len:Int) - 1)) with
    | false=>exact .inr ⟨_,_,rfl,rfl,.inl ⟨rfl,rfl⟩⟩
    | true =>
      simp only [Bool.not_true,cond_false]
      cases ha:f60 s.2.1 e 5000 with
      | false =>
        have hf:f157 t s e = false:=by
          cases hq:f157 t s e with
          | false=>rfl
          | true =>
            have:=hiff.mp hq
            rw [(f60_iff _ _ _).mpr (by omega)] at ha; cases ha
        right
        rw [hf]
        exact ⟨_,_,rfl,rfl,.inl ⟨rfl,rfl⟩⟩
      | true =>
        have ha:=(f60_iff _ _ _).mp ha
        cases hb:f60 s.2.2.1 (t.2.2.2.2.1 + t.2.2.2.2.2.1 + 1) 5000 with
        | false =>
          have hf:f157 t s e = false:=by
            cases hq:f157 t s e with
            | false=>rfl
            | true =>
              have:=hiff.mp hq
              rw [(f60_iff _ _ _).mpr (by omega)] at hb; cases hb
          right
          rw [hf]
          exact ⟨_,_,rfl,rfl,.inl ⟨rfl,rfl⟩⟩
        | true =>
          have hb:=(f60_iff _ _ _).mp hb
          simp only [Bool.not_true,cond_false]
          rw [wI_id (n:=s.2.1 + s.2.2.1) (by omega) (by omega)]
          by_cases hc:s.2.1 + s.2.2.1 > t.2.2.2.2.2.2.1
          · have hf:f157 t s e = false:=by
              cases hq:f157 t s e with
              | false=>rfl
              | true =>
                have:=hiff.mp hq
                omega
            right
            rw [hf,bif_t (by simpa using hc)]
            exact ⟨_,_,rfl,rfl,.inl ⟨rfl,rfl⟩⟩
          · have hf:f157 t s e = true:=hiff.mpr (by omega)
            left
            rw [hf,bif_f (by simpa using hc)]
            have hk1':∀ k,k < i + 1→(f60 ((tSlots t).get k).1 0 (wI (((tParts t).len:Int) - 1)) = true ∧ t.2.2.2.2.1 + t.2.2.2.2.2.1 < ((tSlots t).get k).2.2.1 ∧ 0≤((tSlots t).get k).2.1 ∧ ((tSlots t).get k).2.1 + ((tSlots t).get k).2.2.1≤t.2.2.2.2.2.2.1) ∧ ((tSlots t).get k).2.1 + ((tSlots t).get k).2.2.1≤s.2.1 + s.2.2.1:=fun k hk=>by
              by_cases q:k = i
              · rw [q,hs]
                exact ⟨⟨hp,by omega,by omega,by omega⟩,by omega⟩
              · have:=hk1 k (by omega)
                exact ⟨this.1,by omega⟩
            have hk2':∀ k m,k < m→m < i + 1→((tSlots t).get k).2.1 + ((tSlots t).get k).2.2.1≤((tSlots t).get m).2.1:=fun k m h1 h2=>by
              by_cases q:m = i
              · rw [q,hs]
                have:=(hk1 k (by omega)).2
                omega
              · exact hk2 k m h1 (by omega)
            exact ⟨_,_,rfl,rfl,⟨i + 1,_,rfl,rfl,h,by omega,by omega,hk1',hk2'⟩,by simp only [Int.toNat_natCast]; omega⟩
  · right
    have:i = (tSlots t).len:=by omega
    subst this
    simp only [s104_L0,q104_L0,s128_L0,q128_L0]
    exact ⟨_,_,bif_f (idx_end (tSlots t).len),bif_f (idx_end (tSlots t).len),.inr ⟨rfl,rfl,fun k hk=>(hk1 k hk).1,hk2⟩⟩

theorem bt_range (s:ByteArray) (i:Int):0≤bt s i ∧ bt s i≤255:=by
  unfold bt
  have:=((s[i.toNat]?).getD 0).toNat_lt
  omega

def okFrom (s:ByteArray) (i:Int):Prop:=∀ j:Int,i≤j→j < s.size→97≤bt s j ∧ bt s j≤122

theorem okFrom_step {s:ByteArray} {i:Int} (h:97≤bt s i ∧ bt s i≤122):okFrom s (i + 1)→okFrom s i:=by
  intro h' j h1 h2
  by_cases e:j = i
  · subst e; exact h
  · exact h' j (by omega) h2

theorem okFrom_back {s:ByteArray} {i:Int} (h':okFrom s i):okFrom s (i + 1):=fun j h1 h2=>h' j (by omega) h2

theorem end191 (s:ByteArray) (hs:s.size≤8):∃ b,g174 s = some ((b,()),()) ∧ (b = true ↔ okFrom s 0 ∧ 1≤s.size):=by
  obtain ⟨d,h1,h2⟩:=fixO_rel (step:=s174_L0) (fun x=>((s.size:Int) - x.1.2.1).toNat) (fun x=>x.1.1 = s ∧ 0≤x.1.2.1 ∧ x.1.2.1≤s.size)
    (fun x d=>match d with
      | .inl y=>y.1.1 = false ∧ ¬ okFrom s x.1.2.1
      | .inr (.inl y)=>y.1.1 = s ∧ okFrom s x.1.2.1
      | .inr (.inr _)=>False) (by
      rintro ⟨⟨(t:ByteArray),(i:Int),⟨⟩⟩,⟨⟩⟩ ⟨h1,h2,h3⟩
      simp only at h1 h2 h3
      subst h1
      simp only [s174_L0,q174_L0]
      by_cases hi:i < t.size
      · rw [bif_t (by simpa using hi),bif_t (by simp; omega),bif_t (by simp; omega)]
        have hb:=bt_range t i
        rw [wI_id (by omega) (by omega),wI_id (n:=i + 1) (by omega) (by omega)]
        by_cases hr:97≤bt t i ∧ bt t i≤122
        · left
          have e:f60 (bt t i) 97 122 = true:=by
            unfold f60; rw [bif_t (by simpa using hr.1)]; simpa using hr.2
          rw [e]
          refine ⟨_,rfl,⟨rfl,by simp only; omega,by simp only; omega⟩,by simp only; omega,fun d hd=>?_⟩
          match d,hd with
          | .inl y,hd=>exact ⟨hd.1,fun h=>hd.2 (okFrom_back h)⟩
          | .inr (.inl y),hd=>exact ⟨hd.1,okFrom_step hr hd.2⟩
        · right
          have e:f60 (bt t i) 97 122 = false:=by
            unfold f60
            by_cases h97d:bt t i ≥ 97
            · rw [bif_t (by simpa using h97d)]; simp; omega
            · rw [bif_f (by simp; omega)]
          rw [e]
          exact ⟨_,rfl,rfl,fun h=>hr (h i (Int.le_refl _) hi)⟩
      · right
        rw [bif_f (by simp; omega)]
        exact ⟨_,rfl,rfl,fun j h4 h5=>by omega⟩) ((s,0,()),()) ⟨rfl,by simp,by simp⟩
  unfold g174
  rw [h1]
  simp only [Option.bind_some]
  match d,h2 with
  | .inl y,h2=>exact ⟨_,rfl,by rw [h2.1]; simp only [Bool.false_eq_true,false_iff]; exact fun h=>h2.2 h.1⟩
  | .inr (.inl y),h2 =>
    refine ⟨_,rfl,?_⟩
    rw [h2.1]
    unfold f60
    by_cases h0:1≤s.size
    · rw [bif_t (by simp; omega)]
      simp only [decide_eq_true_eq]
      exact ⟨fun _=>⟨h2.2,h0⟩,fun _=>by omega⟩
    · rw [bif_f (by simp; omega)]
      simp only [Bool.false_eq_true,false_iff]
      exact fun h=>h0 h.2

theorem end190 (s:ByteArray) (hs:s.size≤2 ^ 47):∃ b,g169 s = some ((b,()),()) ∧ (b = true ↔ okFrom s 0 ∧ 1≤s.size ∧ s.size≤12):=by
  have h47:(2:Nat) ^ 47 = 140737488355328:=by decide
  rw [h47] at hs
  obtain ⟨d,h1,h2⟩:=fixO_rel (step:=s169_L0) (fun x=>((s.size:Int) - x.1.2.2.1).toNat) (fun x=>x.1.1 = s ∧ x.1.2.1 = s.size ∧ 0≤x.1.2.2.1 ∧ x.1.2.2.1≤s.size)
    (fun x d=>match d with
      | .inl y=>y.1.1 = false ∧ ¬ okFrom s x.1.2.2.1
      | .inr (.inl y)=>y.1.1 = s ∧ okFrom s x.1.2.2.1
      | .inr (.inr _)=>False) (by
      rintro ⟨⟨(t:ByteArray),(n:Int),(i:Int),⟨⟩⟩,⟨⟩⟩ ⟨h1,hn,h2,h3⟩
      simp only at h1 h2 h3 hn
      subst h1 hn
      simp only [s169_L0,q169_L0]
      by_cases hi:i < t.size
      · rw [bif_t (by simpa using hi),bif_t (by simp; omega)]
        rw [wI_id (n:=i + 1) (by omega) (by omega)]
        by_cases hr:97≤bt t i ∧ bt t i≤122
        · left
          rw [bif_f (by simp; omega),bif_t (by simp; omega),bif_f (by simp; omega)]
          refine ⟨_,rfl,⟨rfl,rfl,by simp only; omega,by simp only; omega⟩,by simp only; omega,fun d hd=>?_⟩
          match d,hd with
          | .inl y,hd=>exact ⟨hd.1,fun h=>hd.2 (okFrom_back h)⟩
          | .inr (.inl y),hd=>exact ⟨hd.1,okFrom_step hr hd.2⟩
        · right
          by_cases h97d:bt t i < 97
          · rw [bif_t (by simpa using h97d)]
            exact ⟨_,rfl,rfl,fun h=>hr (h i (Int.le_refl _) hi)⟩
          · rw [bif_f (by simp; omega),bif_t (by simp; omega),bif_t (by simp; omega)]
            exact ⟨_,rfl,rfl,fun h=>hr (h i (Int.le_refl _) hi)⟩
      · right
        rw [bif_f (by simp; omega)]
        exact ⟨_,rfl,rfl,fun j h4 h5=>by omega⟩) ((s,s.size,0,()),()) ⟨rfl,rfl,by simp,by simp⟩
  unfold g169
  rw [h1]
  simp only [Option.bind_some]
  match d,h2 with
  | .inl y,h2=>exact ⟨_,rfl,by rw [h2.1]; simp only [Bool.false_eq_true,false_iff]; exact fun h=>h2.2 h.1⟩
  | .inr (.inl y),h2 =>
    refine ⟨_,rfl,?_⟩
    rw [h2.1]
    unfold f61
    by_cases h0:1≤s.size
    · rw [bif_t (by simp; omega)]
      simp only [decide_eq_true_eq]
      exact ⟨fun h=>⟨h2.2,h0,by omega⟩,fun h=>by omega⟩
    · rw [bif_f (by simp; omega)]
      simp only [Bool.false_eq_true,false_iff]
      exact fun h=>h0 h.2.1

theorem names (s:ByteArray) (hw:s.size≤2 ^ 47):∃ b,g161 s = some ((b,()),()) ∧ g147 s = some ((b,()),()):=by
  obtain ⟨b2,e2,r2⟩:=end190 s hw
  refine ⟨decide (b2 = true ∧ s.size≤8),?_,?_⟩
  · unfold g161
    by_cases h8:s.size≤8
    · obtain ⟨b1,e1,r1⟩:=end191 s h8
      rw [bif_t (by simp; omega),e1]
      simp only [Option.bind_some]
      congr 3
      cases b1 with
      | true =>
        have:=r1.mp rfl
        have h2:=r2.mpr ⟨this.1,this.2,by omega⟩
        simp [h2,h8]
      | false =>
        cases b2 with
        | false=>simp
        | true =>
          have:=r2.mp rfl
          have:=r1.mpr ⟨this.1,this.2.1⟩
          cases this
    · rw [bif_f (by simp; omega)]
      simp [h8]
  · unfold g147
    rw [e2]
    simp only [Option.bind_some]
    cases b2 with
    | true=>simp; omega
    | false=>simp

theorem policies (p:Int×(Int×Unit)):f149 p = f162 p:=rfl

theorem bif_and {b x:Bool}:(bif b then x else false) = (b&&x):=by cases b <;> rfl

theorem f163_iff (w:Wi):f163 w = true ↔ (0≤w.1 ∧ w.1≤2048) ∧ (4≤w.2.1 ∧ w.2.1≤2048) ∧ Int.tmod w.1 4 = 0 ∧ Int.tmod w.2.1 4 = 0 ∧ w.1 + w.2.1≤2048 ∧ (1≤w.2.2.1 ∧ w.2.2.1≤7):=by
  unfold f163
  simp only [bif_and,Bool.and_eq_true,f60_iff,beq_iff_eq,decide_eq_true_eq]
  constructor
  · rintro ⟨h1,h2,h3,h4,h5,h6⟩
    rw [wI_id (by omega) (by omega)] at h5
    exact ⟨h1,h2,h3,h4,h5,h6⟩
  · rintro ⟨h1,h2,h3,h4,h5,h6⟩
    refine ⟨h1,h2,h3,h4,?_,h6⟩
    rw [wI_id (by omega) (by omega)]
    exact h5

theorem f150_163 (w:Wi):f150 w = f163 w:=by
  rw [Bool.eq_iff_iff,f163_iff]
  unfold f150
  rw [f61_60]
  simp only [bif_and,Bool.and_eq_true,f60_iff,beq_iff_eq]
  constructor
  · rintro ⟨h1,h2,h3,h4,h5⟩
    rw [wI_id (by omega) (by omega)] at h3
    exact ⟨by omega,h1,h4,h2,by omega,h5⟩
  · rintro ⟨h1,h2,h3,h4,h5,h6⟩
    refine ⟨h2,h4,?_,h3,h6⟩
    rw [wI_id (by omega) (by omega)]
    omega

theorem f153_iff (v w:Wi) (hv:f163 v = true) (hw:f163 w = true):f153 v w = true ↔ v.1 + v.2.1≤w.1 ∨ w.1 + w.2.1≤v.1:=by
  have a:=(f163_iff v).mp hv
  have b:=(f163_iff w).mp hw
  unfold f153
  rw [wI_id (n:=v.1 + v.2.1) (by omega) (by omega),wI_id (n:=w.1 + w.2.1) (by omega) (by omega)]
  by_cases h:v.1 + v.2.1≤w.1
  · rw [bif_t (by simpa using h)]; simp; omega
  · rw [bif_f (by simpa using h)]; simp; omega

theorem f164_iff (w:Wi) (x:Int) (hw:f163 w = true):f164 w x = true ↔ w.1≤x ∧ x < w.1 + w.2.1:=by
  have b:=(f163_iff w).mp hw
  unfold f164
  rw [wI_id (n:=w.1 + w.2.1) (by omega) (by omega)]
  by_cases h:x ≥ w.1
  · rw [bif_t (by simpa using h)]; simp; omega
  · rw [bif_f (by simpa using h)]; simp; omega

theorem named (t:Tb) (hl:(tParts t).len≤2 ^ 47) (s:ByteArray):∃ n:Int,g148 t s = some ((n,()),()) ∧ ((∃ i:Nat,n = i ∧ i < (tParts t).len ∧ strEq ((tParts t).get i).1 s = true ∧ ∀ j,j < i→strEq ((tParts t).get j).1 s = false) ∨ (n = -1 ∧ ∀ i,i < (tParts t).len→strEq ((tParts t).get i).1 s = false)):=by
  have h:=index_loop (step:=s170_171_L0) (x:=tParts t) (c:=(s,())) (fun i=>strEq ((tParts t).get i).1 s) (fun i hi=>by
    simp only [s170_171_L0,q170_171_L0]
    refine (bif_t (idx_lt hi)).trans ((bif_t (idx_in hi)).trans ?_)
    rw [wI_succ hi hl,Int.toNat_natCast]
    by_cases hf:strEq ((tParts t).get i).1 s = true
    · rw [if_pos hf]; exact bif_t hf
    · rw [if_neg hf]; exact bif_f (show strEq ((tParts t).get i).1 s = false by simpa using hf)) (by
    simp only [s170_171_L0,q170_171_L0]
    exact bif_f (idx_end (tParts t).len))
  unfold g148 g170_171
  rcases h with ⟨i,h1,h2,h3,h4⟩ | ⟨h1,h2⟩
  · have h4':fixO s170_171_L0 ((t.2.2.2.2.2.2.2.1,((s,()),((t.2.2.2.2.2.2.2.1.len:Int),((0:Int),())))),()) = some (.inl (((i:Int),()),())):=h4
    rw [h4']
    exact ⟨i,rfl,.inl ⟨i,rfl,h1,h2,h3⟩⟩
  · have h2':fixO s170_171_L0 ((t.2.2.2.2.2.2.2.1,((s,()),((t.2.2.2.2.2.2.2.1.len:Int),((0:Int),())))),()) = some (.inr (.inl ((),()))):=h2
    rw [h2']
    exact ⟨-1,rfl,.inr ⟨rfl,h1⟩⟩

noncomputable def rest71 (t:Tb):Option ((Bool×Unit)×Unit) :=
  bif (!(f61 ((tParts t).len:Int) (1:Int) (6:Int))) then
    some ((false,()),())
  else
    (g122 t).bind fun y2 =>
      bif (!y2.1.1) then
        some ((false,()),())
      else
        bif (decide (((tDevs t).len:Int) > (8:Int))) then
          some ((false,()),())
        else
          (g123_124 (tDevs t) (((tParts t).len:Int),())).bind fun y3 =>
            bif y3.1.1 then
              some ((false,()),())
            else
              bif (decide (((tChans t).len:Int) > (8:Int))) then
                some ((false,()),())
              else
                (g125_126 (tChans t) (((tParts t).len:Int),())).bind fun y4 =>
                  bif y4.1.1 then
                    some ((false,()),())
                  else
                    (g107 t.2.2.2.1 t.2.1 (tChans t)).bind fun y5 =>
                      bif (decide (t.2.2.2.2.1 < y5.1.1)) then
                        some ((false,()),())
                      else
                        (g128 t).bind fun y6 =>
                          some ((y6.1.1,()),())

theorem head (t:Tb):(g101 t = some ((false,()),()) ∧ g89 t = some ((false,()),())) ∨
    (f138 t.2.2.2.1 = true ∧ (1≤t.2.2.2.2.1 ∧ t.2.2.2.2.1≤5000) ∧ (1≤t.2.2.2.2.2.1 ∧ t.2.2.2.2.2.1≤5000) ∧ (1≤t.2.2.2.2.2.2.1 ∧ t.2.2.2.2.2.2.1≤5000) ∧ f105 t.2.1 = true ∧ f60 t.1 64 2048 = true ∧ g101 t = some ((true,()),()) ∧ g89 t = rest71 t):=by
  have e127:∀ n,f120 n = f60 n 1 5000:=fun n=>rfl
  have e124:∀ n,f117 n = (f60 n 64 2048&&(Int.tmod n 4 == 0)):=fun n=>by
    unfold f117
    rw [f61_60]
    cases f60 n 64 2048 <;> rfl
  unfold g101 g89
  rw [e124,e127,e127,e127,f119_138,f118_105,f61_60]
  have g121_146:g121 t.2.2.2.1 = (g146 t.2.2.2.1).bind fun y=>some ((y.1.1,()),()):=rfl
  rw [g121_146]
  cases h1:f60 t.1 64 2048 with
  | false=>exact .inl ⟨rfl,rfl⟩
  | true =>
    cases h2:(Int.tmod t.1 4 == 0) with
    | false =>
      have:(Int.tmod t.1 4 != 0) = true:=by simpa [bne] using h2
      rw [this]
      exact .inl ⟨rfl,rfl⟩
    | true =>
      have:(Int.tmod t.1 4 != 0) = false:=by simpa [bne] using h2
      rw [this]
      cases h3:f105 t.2.1 with
      | false=>exact .inl ⟨rfl,rfl⟩
      | true =>
        cases h4:f60 t.2.2.1 1 8 with
        | false=>exact .inl ⟨rfl,rfl⟩
        | true =>
          cases h5:f138 t.2.2.2.1 with
          | false=>exact .inl ⟨rfl,rfl⟩
          | true =>
            cases h6:f60 t.2.2.2.2.1 1 5000 with
            | false=>exact .inl ⟨rfl,rfl⟩
            | true =>
              cases h7:f60 t.2.2.2.2.2.1 1 5000 with
              | false=>exact .inl ⟨rfl,rfl⟩
              | true =>
                cases h8:f60 t.2.2.2.2.2.2.1 1 5000 with
                | false=>exact .inl ⟨rfl,rfl⟩
                | true =>
                  obtain ⟨n,w1,w2⟩:=worst h5
                  rw [w1,w2]
                  simp only [Bool.not_true,cond_false,cond_true,Bool.and_self,Option.bind_some]
                  by_cases hg:t.2.2.2.2.2.1 ≥ n
                  · right
                    refine ⟨trivial,(f60_iff _ _ _).mp h6,(f60_iff _ _ _).mp h7,(f60_iff _ _ _).mp h8,trivial,trivial,?_,?_⟩
                    · rw [decide_eq_true hg]
                    · exact bif_f (by simp; omega)
                  · left
                    refine ⟨?_,?_⟩
                    · rw [decide_eq_false hg]
                    · exact bif_t (by simp; omega)

theorem pads (t:Tb) (hc:f138 t.2.2.2.1 = true) (hs:f105 t.2.1 = true) (hl:(tChans t).len≤8) (hok:∀ j,j < (tChans t).len→f141 ((tChans t).get j) = true) :
    ∃ n:Int,g116 t.2.2.2.1 t.2.1 (tChans t) = some ((n,()),()) ∧ g107 t.2.2.2.1 t.2.1 (tChans t) = some ((n,()),()):=by
  obtain ⟨c1,_⟩:=costs_of hc
  obtain ⟨m,h1,h2⟩:=good (tChans t) hl t.2.2.2.1 c1 (wI ((wI (16 * t.2.2.2.1.1)) + (wI ((wI (t.2.1.1 * t.2.1.2.1)) * t.2.2.2.1.2.2.2.2.2.2.1)))) hok
  unfold g116 g107
  rw [hc,hs]
  simp only [Bool.not_true,cond_false]
  rw [bif_f (by simp; omega),h1,h2]
  exact ⟨m,rfl,rfl⟩

def Tail (t:Tb):Prop :=
  (tDevs t).len≤8 ∧ (tChans t).len≤8 ∧ (∀ i,i < (tDevs t).len→f60 ((tDevs t).get i) 0 (wI (((tParts t).len:Int) - 1)) = true) ∧
  (∀ i,i < (tChans t).len→f141 ((tChans t).get i) = true ∧ ((tChans t).get i).2.1 < ((tParts t).len:Int) ∧ ((tChans t).get i).2.2.1 < ((tParts t).len:Int)) ∧ SlotsIn t ∧ (1≤(tSlots t).len ∧ (tSlots t).len≤16) ∧
  ∃ n:Int,g116 t.2.2.2.1 t.2.1 (tChans t) = some ((n,()),()) ∧ g107 t.2.2.2.1 t.2.1 (tChans t) = some ((n,()),()) ∧ t.2.2.2.2.1 ≥ n

theorem tail (t:Tb) (hl:(tSlots t).len≤2 ^ 47) (hc:f138 t.2.2.2.1 = true) (hs:f105 t.2.1 = true) (h1:1≤t.2.2.2.2.1 ∧ t.2.2.2.2.1≤5000) (h2:1≤t.2.2.2.2.2.1 ∧ t.2.2.2.2.2.1≤5000) (h3:1≤t.2.2.2.2.2.2.1 ∧ t.2.2.2.2.2.2.1≤5000) :
    ∃ b:Bool,((g103 t).bind fun y3=>bif y3.1.1 then (g104 t).bind fun y4=>some ((y4.1.1,()),()) else some ((false,()),())) = some ((b,()),()) ∧
      (bif (decide (((tDevs t).len:Int) > (8:Int))) then
          some ((false,()),())
        else
          (g123_124 (tDevs t) (((tParts t).len:Int),())).bind fun y3 =>
            bif y3.1.1 then
              some ((false,()),())
            else
              bif (decide (((tChans t).len:Int) > (8:Int))) then
                some ((false,()),())
              else
                (g125_126 (tChans t) (((tParts t).len:Int),())).bind fun y4 =>
                  bif y4.1.1 then
                    some ((false,()),())
                  else
                    (g107 t.2.2.2.1 t.2.1 (tChans t)).bind fun y5 =>
                      bif (decide (t.2.2.2.2.1 < y5.1.1)) then
                        some ((false,()),())
                      else
                        (g128 t).bind fun y6 =>
                          some ((y6.1.1,()),())) = some ((b,()),()) ∧ (b = true→Tail t):=by
  have slots:∃ b:Bool,g104 t = some ((b,()),()) ∧ g128 t = some ((b,()),()) ∧ (b = true→SlotsIn t ∧ 1≤(tSlots t).len ∧ (tSlots t).len≤16):=by
    obtain ⟨d,e,q1,q2,q3⟩:=slotsLoop t hl h1 h2 h3
    have q1':fixO s104_L0 (((),((0:Int),((0:Int),()))),(t,())) = some d:=q1
    have q2':fixO s128_L0 (((),((0:Int),(t.2.2.2.2.2.2.2.2.2.2.1,((t.2.2.2.2.2.2.2.2.2.2.1.len:Int),((0:Int),()))))),(t,())) = some e:=q2
    unfold g104 g128
    rw [q1',q2',f61_60]
    rcases q3 with ⟨rfl,rfl⟩ | ⟨rfl,rfl,q3⟩
    · refine ⟨false,?_,rfl,by simp⟩
      cases f60 (t.2.2.2.2.2.2.2.2.2.2.1.len:Int) 1 16 <;> rfl
    · refine ⟨f60 (t.2.2.2.2.2.2.2.2.2.2.1.len:Int) 1 16,?_,rfl,fun h=>⟨q3,?_⟩⟩
      · cases f60 (t.2.2.2.2.2.2.2.2.2.2.1.len:Int) 1 16 <;> rfl
      · have:=(f60_iff _ _ _).mp h
        unfold tSlots
        omega
  obtain ⟨b,s1,s2,s3⟩:=slots
  unfold g103
  by_cases hd:((tDevs t).len:Int) > 8
  · refine ⟨false,?_,bif_t (by simpa using hd),by simp⟩
    have:decide ((t.2.2.2.2.2.2.2.2.1.len:Int) > 8) = true:=decide_eq_true hd
    rw [this]; rfl
  · have e1:decide ((t.2.2.2.2.2.2.2.2.1.len:Int) > 8) = false:=decide_eq_false hd
    have e1':decide (((tDevs t).len:Int) > 8) = false:=by simpa using hd
    rw [e1,e1']
    simp only [cond_false]
    have hd8:(tDevs t).len≤8:=by omega
    by_cases hch:((tChans t).len:Int) > 8
    · have e2:decide ((t.2.2.2.2.2.2.2.2.2.1.len:Int) > 8) = true:=decide_eq_true hch
      have e2':decide (((tChans t).len:Int) > 8) = true:=by simpa using hch
      rw [e2,e2']
      rcases devs t hd8 with ⟨_,_,a2⟩ | ⟨_,_,a2⟩ <;> rw [a2] <;> exact ⟨false,rfl,rfl,by simp⟩
    · have e2:decide ((t.2.2.2.2.2.2.2.2.2.1.len:Int) > 8) = false:=decide_eq_false hch
      have e2':decide (((tChans t).len:Int) > 8) = false:=by simpa using hch
      rw [e2,e2']
      simp only [cond_false]
      have hc8:(tChans t).len≤8:=by omega
      rcases devs t hd8 with ⟨_,a1,a2⟩ | ⟨hdev,a1,a2⟩
      · rw [a1,a2]; exact ⟨false,rfl,rfl,by simp⟩
      · rw [a1,a2]
        simp only [Option.bind_some,cond_false]
        rcases chans t hc8 with ⟨b1,b2⟩ | ⟨hok,b1,b2⟩
        · rw [b1,b2]; exact ⟨false,rfl,rfl,by simp⟩
        · rw [b1,b2]
          simp only [Option.bind_some,cond_false]
          obtain ⟨n,p1,p2⟩:=pads t hc hs hc8 (fun j hj=>(hok j hj).1)
          have p1':g116 t.2.2.2.1 t.2.1 t.2.2.2.2.2.2.2.2.2.1 = some ((n,()),()):=p1
          rw [p1',p2,s1,s2]
          simp only [Option.bind_some]
          by_cases hp:t.2.2.2.2.1 ≥ n
          · rw [decide_eq_true hp,decide_eq_false (by omega)]
            exact ⟨b,rfl,rfl,fun h=>⟨hd8,hc8,hdev,hok,(s3 h).1,(s3 h).2,n,p1,p2,hp⟩⟩
          · rw [decide_eq_false hp,decide_eq_true (by omega)]
            exact ⟨false,rfl,rfl,by simp⟩

def toL {α:Type} (x:L α):List α:=(List.range x.len).map x.get

theorem toL_len {α:Type} (x:L α):(toL x).length = x.len:=by simp [toL]

theorem toL_get {α:Type} (x:L α) (i:Nat):(toL x)[i]? = if i < x.len then some (x.get i) else none:=by
  unfold toL
  rw [List.getElem?_map]
  by_cases h:i < x.len
  · rw [if_pos h,List.getElem?_range h]; rfl
  · rw [if_neg h,List.getElem?_eq_none (by simpa using h)]; rfl

theorem toL_app {α:Type} (a b:L α):toL (L.app a b) = toL a ++ toL b:=by
  apply List.ext_getElem?
  intro i
  rw [toL_get,List.getElem?_append,toL_len,toL_get,toL_get]
  show (if i < a.len + b.len then some (bif Nat.blt i a.len then a.get i else b.get (i - a.len)) else none) = _
  by_cases h:i < a.len
  · have:Nat.blt i a.len = true:=by simpa [Nat.blt_eq] using h
    rw [if_pos (by omega),if_pos h,if_pos h,this]; rfl
  · have:Nat.blt i a.len = false:=by
      cases hb:Nat.blt i a.len with
      | false=>rfl
      | true=>exact absurd (by simpa [Nat.blt_eq] using hb) h
    rw [if_neg h,this]
    by_cases h2:i < a.len + b.len
    · rw [if_pos h2,if_pos (by omega)]; rfl
    · rw [if_neg h2,if_neg (by omega)]

def winsOf (x:L PR) (n:Nat):List Wi:=((toL x).take n).flatMap fun p=>toL p.2.2.2.1

theorem winsOf_succ (x:L PR) {n:Nat} (h:n < x.len):winsOf x (n + 1) = winsOf x n ++ toL (x.get n).2.2.2.1:=by
  unfold winsOf
  have hn:n < (toL x).length:=by rw [toL_len]; exact h
  rw [List.take_succ_eq_append_getElem hn,List.flatMap_append]
  have:(toL x)[n] = x.get n:=by
    have:=toL_get x n
    rw [if_pos h,List.getElem?_eq_getElem hn] at this
    exact Option.some.inj this
  rw [this]
  simp

theorem allWins (x:L PR) (hn:x.len≤6) (hw:∀ i,i < x.len→(x.get i).2.2.2.1.len≤4):∃ all:L Wi,g140r x = some ((all,()),()) ∧ toL all = winsOf x x.len ∧ all.len≤24:=by
  obtain ⟨d,h1,all,rfl,h2,h3⟩:=fixO_rel (step:=s140r_L0) (fun a=>x.len - a.1.2.2.1.toNat)
    (fun a=>∃ (i:Nat) (acc:L Wi),a = ((x,((),((i:Int),()))),(acc,())) ∧ i≤x.len ∧ toL acc = winsOf x i ∧ acc.len≤4 * i)
    (fun _ d=>∃ all:L Wi,d = .inl (((),()),(all,())) ∧ toL all = winsOf x x.len ∧ all.len≤24) (by
      rintro _ ⟨i,acc,rfl,hi,ha,hl⟩
      by_cases h:i < x.len
      · left
        have hm:decide (acc.len + (x.get ((i:Int)).toNat).2.2.2.1.len≤most) = true:=by
          rw [Int.toNat_natCast]
          have:=hw i h
          have h32:most = 4294967296:=rfl
          rw [h32]
          exact decide_eq_true (by omega)
        have hstep:s140r_L0 ((x,((),((i:Int),()))),(acc,())) = some (.inl ((x,((),(((i + 1:Nat):Int),()))),(L.app acc (x.get i).2.2.2.1,()))):=by
          simp only [s140r_L0,q140r_L0]
          refine (bif_t (idx_lt h)).trans ((bif_t (idx_in h)).trans ((bif_t hm).trans ?_))
          rw [wI_succ h (by omega),Int.toNat_natCast]
        refine ⟨_,hstep,⟨i + 1,_,rfl,h,?_,?_⟩,by simp only [Int.toNat_natCast]; omega,fun d hd=>hd⟩
        · rw [toL_app,ha,winsOf_succ x h]
        · show acc.len + (x.get i).2.2.2.1.len≤_
          have:=hw i h
          omega
      · right
        have:i = x.len:=by omega
        subst this
        have hstep:s140r_L0 ((x,((),((x.len:Int),()))),(acc,())) = some (.inr (.inl (((),()),(acc,())))):=by
          simp only [s140r_L0,q140r_L0]
          exact bif_f (idx_end x.len)
        exact ⟨_,hstep,acc,rfl,ha,by omega⟩)
    ((x,((),((0:Int),()))),((L.of (Ty.zero (.pair (.int .i64) (.pair (.int .i64) (.pair (.int .i64) .unit)))) []),())) ⟨0,_,rfl,Nat.zero_le _,rfl,Nat.zero_le _⟩
  unfold g140r
  rw [h1]
  exact ⟨all,rfl,h2,h3⟩

def ovl (a:L Wi) (k i:Nat):Bool:=decide ((a.get k).1 < wI ((a.get i).1 + (a.get i).2.1))&&decide ((a.get i).1 < wI ((a.get k).1 + (a.get k).2.1))

theorem ovlInner (a:L Wi) (ha:a.len≤24) {i:Nat} (hi:i < a.len) :
    (∃ k,k < i ∧ ovl a k i = true ∧ fixO s102_L6 (((),((i:Int),((0:Int),()))),(a,())) = some (.inl ((false,()),()))) ∨
    ((∀ k,k < i→ovl a k i = false) ∧ fixO s102_L6 (((),((i:Int),((0:Int),()))),(a,())) = some (.inr (.inl (((),((i:Int),())),(a,()))))):=by
  have h:=scan (step:=s102_L6) (fun k=>(((),((i:Int),((k:Int),()))),(a,()))) i (fun k=>!ovl a k i) (fun _=>.inl ((false,()),())) (.inr (.inl (((),((i:Int),())),(a,()))))
    (fun k hk ho=>by
      have ho:ovl a k i = false:=by simpa using ho
      have hkl:k < a.len:=by omega
      simp only [s102_L6,q102_L6]
      refine (bif_t (idx_lt hk)).trans ((bif_t (idx_in hkl)).trans ((bif_t (idx_in hi)).trans ((bif_t (idx_in hi)).trans ?_)))
      rw [wI_succ hk (by omega),Int.toNat_natCast,Int.toNat_natCast]
      unfold ovl at ho
      cases h1:decide ((a.get k).1 < wI ((a.get i).1 + (a.get i).2.1)) with
      | false=>rfl
      | true =>
        rw [h1] at ho
        refine (bif_t (idx_in hi)).trans ((bif_t (idx_in hkl)).trans ((bif_t (idx_in hkl)).trans ?_))
        exact bif_f (by simpa using ho))
    (fun k hk ho=>by
      have ho:ovl a k i = true:=by simpa using ho
      have hkl:k < a.len:=by omega
      simp only [s102_L6,q102_L6]
      refine (bif_t (idx_lt hk)).trans ((bif_t (idx_in hkl)).trans ((bif_t (idx_in hi)).trans ((bif_t (idx_in hi)).trans ?_)))
      rw [wI_succ hk (by omega),Int.toNat_natCast,Int.toNat_natCast]
      unfold ovl at ho
      simp only [Bool.and_eq_true] at ho
      refine (bif_t ho.1).trans ((bif_t (idx_in hi)).trans ((bif_t (idx_in hkl)).trans ((bif_t (idx_in hkl)).trans ?_)))
      exact bif_t ho.2)
    (by
      simp only [s102_L6,q102_L6]
      exact bif_f (idx_end i))
  rcases h with ⟨k,h1,h2,_,h4⟩ | ⟨h1,h2⟩
  · exact .inl ⟨k,h1,by simpa using h2,h4⟩
  · exact .inr ⟨fun k hk=>by simpa using h1 k hk,h2⟩

theorem ovlAll (a:L Wi) (ha:a.len≤24) :
    ((∃ i k,i < a.len ∧ k < i ∧ ovl a k i = true) ∧ fixO s102_L4 (((),((0:Int),())),(a,())) = some (.inl ((false,()),()))) ∨
    ((∀ i k,i < a.len→k < i→ovl a k i = false) ∧ fixO s102_L4 (((),((0:Int),())),(a,())) = some (.inr (.inl ((),())))):=by
  have h:=scan (step:=s102_L4) (fun i=>(((),((i:Int),())),(a,()))) a.len (fun i=>(List.range i).all fun k=>!ovl a k i) (fun _=>.inl ((false,()),())) (.inr (.inl ((),())))
    (fun i hi ho=>by
      have ho:∀ k,k < i→ovl a k i = false:=fun k hk=>by simpa using List.all_eq_true.mp ho k (List.mem_range.mpr hk)
      simp only [s102_L4,q102_L4]
      refine (bif_t (idx_lt hi)).trans ?_
      rcases ovlInner a ha hi with ⟨k,hk,h1,_⟩ | ⟨_,h2⟩
      · rw [ho k hk] at h1; cases h1
      · rw [h2]
        simp only [Option.bind_some]
        rw [wI_succ hi (by omega)])
    (fun i hi ho=>by
      simp only [s102_L4,q102_L4]
      refine (bif_t (idx_lt hi)).trans ?_
      rcases ovlInner a ha hi with ⟨k,hk,h1,h2⟩ | ⟨h1,_⟩
      · rw [h2]; rfl
      · have:((List.range i).all fun k=>!ovl a k i) = true:=List.all_eq_true.mpr fun k hk=>by simp [h1 k (List.mem_range.mp hk)]
        rw [this] at ho; cases ho)
    (by
      simp only [s102_L4,q102_L4]
      exact bif_f (idx_end a.len))
  rcases h with ⟨i,h1,h2,_,h4⟩ | ⟨h1,h2⟩
  · refine .inl ⟨?_,h4⟩
    have h2':¬ ((List.range i).all fun k=>!ovl a k i) = true:=by rw [h2]; simp
    rw [List.all_eq_true] at h2'
    simp only [Classical.not_forall] at h2'
    obtain ⟨k,hk,hko⟩:=h2'
    exact ⟨i,k,h1,List.mem_range.mp hk,by simpa using hko⟩
  · exact .inr ⟨fun i k hi hk=>by simpa using List.all_eq_true.mp (h1 i hi) k (List.mem_range.mpr hk),h2⟩

def apart (v w:Wi):Prop:=v.1 + v.2.1≤w.1 ∨ w.1 + w.2.1≤v.1

theorem toL_mem {α:Type} (x:L α) (a:α):a ∈ toL x ↔ ∃ i,i < x.len ∧ x.get i = a:=by
  unfold toL
  rw [List.mem_map]
  constructor
  · rintro ⟨i,hi,rfl⟩; exact ⟨i,List.mem_range.mp hi,rfl⟩
  · rintro ⟨i,hi,rfl⟩; exact ⟨i,List.mem_range.mpr hi,rfl⟩

theorem toL_getElem {α:Type} (x:L α) (i:Nat) (h:i < (toL x).length):(toL x)[i] = x.get i:=by
  have:=toL_get x i
  rw [List.getElem?_eq_getElem h,if_pos (by rw [toL_len] at h; exact h)] at this
  exact Option.some.inj this

theorem toL_take_succ {α:Type} (x:L α) {i:Nat} (h:i < x.len):(toL x).take (i + 1) = (toL x).take i ++ [x.get i]:=by
  have hn:i < (toL x).length:=by rw [toL_len]; exact h
  rw [List.take_succ_eq_append_getElem hn,toL_getElem]

theorem toL_take_len {α:Type} (x:L α):(toL x).take x.len = toL x:=by
  rw [← toL_len x]; exact List.take_length

theorem winsOf_prefix (x:L PR) {i n:Nat} (h:i≤n) (hn:n≤x.len):∃ r,winsOf x n = winsOf x i ++ r:=by
  induction n with
  | zero => have : i = 0 := by omega
            subst this; exact ⟨[],(List.append_nil _).symm⟩
  | succ n ih =>
    by_cases e:i = n + 1
    · subst e; exact ⟨[],(List.append_nil _).symm⟩
    · obtain ⟨r,hr⟩:=ih (by omega) (by omega)
      refine ⟨r ++ toL (x.get n).2.2.2.1,?_⟩
      rw [winsOf_succ x (by omega),hr,List.append_assoc]

theorem overlaps (a:L Wi) (ha:a.len≤2 ^ 47) (w:Wi) (hw:f163 w = true) (hg:∀ v,v ∈ toL a→f163 v = true) :
    (g151_152 a (w,()) = some ((true,()),()) ∧ ¬ ∀ v,v ∈ toL a→apart v w) ∨ (g151_152 a (w,()) = some ((false,()),()) ∧ ∀ v,v ∈ toL a→apart v w):=by
  have h:=index_loop (step:=s172_152_L0) (x:=a) (c:=(w,())) (fun i=>f152 (a.get i) w) (fun i hi=>by
    simp only [s172_152_L0,q172_152_L0]
    refine (bif_t (idx_lt hi)).trans ((bif_t (idx_in hi)).trans ?_)
    rw [wI_succ hi ha,Int.toNat_natCast]
    by_cases hf:f152 (a.get i) w = true
    · rw [if_pos hf]; exact bif_t hf
    · rw [if_neg hf]; exact bif_f (by simpa using hf)) (by
    simp only [s172_152_L0,q172_152_L0]
    exact bif_f (idx_end a.len))
  have hf:∀ i,i < a.len→(f152 (a.get i) w = false ↔ apart (a.get i) w):=fun i hi=>by
    have:=f153_iff (a.get i) w (hg _ ((toL_mem _ _).mpr ⟨i,hi,rfl⟩)) hw
    unfold f152 apart
    rw [← this]
    cases f153 (a.get i) w <;> simp
  unfold g151_152 g172_152
  rcases h with ⟨i,h1,h2,h3,h4⟩ | ⟨h1,h2⟩
  · left
    rw [h4]
    refine ⟨by simp,fun q=>?_⟩
    have:=(hf i h1).mpr (q _ ((toL_mem _ _).mpr ⟨i,h1,rfl⟩))
    rw [this] at h2; cases h2
  · right
    rw [h2]
    refine ⟨by simp,fun v hv=>?_⟩
    obtain ⟨i,hi,rfl⟩:=(toL_mem _ _).mp hv
    exact (hf i hi).mp (h1 i hi)

theorem winAt (a:L Wi) (ha:a.len≤2 ^ 47) (x:Int) :
    (∃ i:Nat,i < a.len ∧ f164 (a.get i) x = true ∧ (∀ j,j < i→f164 (a.get j) x = false) ∧ g173 a x = some (((i:Int),()),())) ∨ ((∀ i,i < a.len→f164 (a.get i) x = false) ∧ g173 a x = some ((-1,()),())):=by
  have e95:∀ w:Wi,f176 w x = f164 w x:=fun w=>rfl
  have h:=index_loop (step:=s172_176_L0) (x:=a) (c:=(x,())) (fun i=>f164 (a.get i) x) (fun i hi=>by
    simp only [s172_176_L0,q172_176_L0]
    refine (bif_t (idx_lt hi)).trans ((bif_t (idx_in hi)).trans ?_)
    rw [wI_succ hi ha,Int.toNat_natCast]
    by_cases hf:f164 (a.get i) x = true
    · rw [if_pos hf]; exact bif_t hf
    · rw [if_neg hf]
      have hf':f164 (a.get i) x = false:=by simpa using hf
      exact bif_f hf') (by
    simp only [s172_176_L0,q172_176_L0]
    exact bif_f (idx_end a.len))
  unfold g173 g172_176
  rcases h with ⟨i,h1,h2,h3,h4⟩ | ⟨h1,h2⟩
  · left
    rw [h4]
    exact ⟨i,h1,h2,h3,rfl⟩
  · right
    rw [h2]
    exact ⟨h1,rfl⟩

def ins (w:Wi) (x:Int):Prop:=f164 w x = true ∧ wI (Int.tdiv w.2.2.1 4) = 1

theorem perm4 (n:Int) (h:1≤n ∧ n≤7):(andOf .i64 n 4 != 0) = (wI (Int.tdiv n 4) == 1):=by
  obtain ⟨h1,h2⟩:=h
  have:n = 1 ∨ n = 2 ∨ n = 3 ∨ n = 4 ∨ n = 5 ∨ n = 6 ∨ n = 7:=by omega
  rcases this with rfl | rfl | rfl | rfl | rfl | rfl | rfl <;> decide +kernel

theorem runs (p:PR) (hl:p.2.2.2.1.len≤2 ^ 47) (x:Int) (hg:∀ i,i < p.2.2.2.1.len→f163 (p.2.2.2.1.get i) = true) (hp:(toL p.2.2.2.1).Pairwise apart) :
    ∃ b,g154 p x = some ((b,()),()) ∧ (b = true ↔ ∃ i,i < p.2.2.2.1.len ∧ ins (p.2.2.2.1.get i) x):=by
  unfold g154
  rcases winAt p.2.2.2.1 hl x with ⟨i,h1,h2,h3,h4⟩ | ⟨h1,h2⟩
  · rw [h4]
    refine ⟨andOf .i64 (p.2.2.2.1.get i).2.2.1 4 != 0,?_,?_⟩
    · simp only [Option.bind_some]
      refine (bif_t (by simp)).trans ((bif_t (idx_in h1)).trans ?_)
      rw [Int.toNat_natCast]
    · rw [perm4 _ ((f163_iff _).mp (hg i h1)).2.2.2.2.2]
      constructor
      · intro h; exact ⟨i,h1,h2,by simpa using h⟩
      · rintro ⟨j,hj,q1,q2⟩
        have:j = i:=by
          by_cases e:j = i
          · exact e
          have a1:=(f164_iff _ x (hg i h1)).mp h2
          have a2:=(f164_iff _ x (hg j hj)).mp q1
          have hlen:(toL p.2.2.2.1).length = p.2.2.2.1.len:=toL_len _
          have hall:=List.pairwise_iff_getElem.mp hp
          rcases Nat.lt_or_gt_of_ne e with lt | gt
          · have:=hall j i (by rw [hlen]; exact hj) (by rw [hlen]; exact h1) lt
            rw [toL_getElem,toL_getElem] at this
            unfold apart at this
            omega
          · have:=hall i j (by rw [hlen]; exact h1) (by rw [hlen]; exact hj) gt
            rw [toL_getElem,toL_getElem] at this
            unfold apart at this
            omega
        subst this
        simpa using q2
  · rw [h2]
    refine ⟨false,?_,?_⟩
    · simp only [Option.bind_some]
      exact bif_f (by decide)
    · simp only [Bool.false_eq_true,false_iff,not_exists,not_and]
      intro i hi q
      have q1:=q.1
      rw [h1 i hi] at q1
      cases q1

noncomputable def nm (s:ByteArray):Bool:=open Classical in decide (g161 s = some ((true,()),()))

theorem nm_of (s:ByteArray) (hw:s.size≤2 ^ 47):g161 s = some ((nm s,()),()) ∧ g147 s = some ((nm s,()),()):=by
  obtain ⟨b,h1,h2⟩:=names s hw
  have:nm s = b:=by
    unfold nm
    rw [h1]
    cases b <;> simp
  rw [this]; exact ⟨h1,h2⟩

def PartG (p:PR) (mem:Int):Prop :=
  nm p.1 = true ∧ f162 p.2.2.1 = true ∧ (1≤p.2.2.2.1.len ∧ p.2.2.2.1.len≤4) ∧ (∀ j,j < p.2.2.2.1.len→f163 (p.2.2.2.1.get j) = true ∧ (p.2.2.2.1.get j).1 + (p.2.2.2.1.get j).2.1≤mem) ∧
    (∃ j,j < p.2.2.2.1.len ∧ ins (p.2.2.2.1.get j) p.2.1) ∧ Int.tmod p.2.1 4 = 0

theorem partok (p:PR) (mem:Int) (hs:p.1.size≤2 ^ 47):∃ b,g139 p mem = some ((b,()),()) ∧ (b = true ↔ PartG p mem):=by
  unfold g139 PartG
  rw [(nm_of p.1 hs).1]
  simp only [Option.bind_some]
  cases h1:nm p.1 with
  | false=>exact ⟨false,rfl,by simp⟩
  | true =>
    cases h2:f162 p.2.2.1 with
    | false=>exact ⟨false,rfl,by simp⟩
    | true =>
      cases h3:f60 (p.2.2.2.1.len:Int) 1 4 with
      | false =>
        refine ⟨false,rfl,?_⟩
        have:¬ (1≤p.2.2.2.1.len ∧ p.2.2.2.1.len≤4):=fun q=>by
          rw [(f60_iff _ _ _).mpr (by omega)] at h3; cases h3
        simp only [Bool.false_eq_true,false_iff]
        rintro ⟨_,_,q,_⟩
        exact this q
      | true =>
        have h3':1≤p.2.2.2.1.len ∧ p.2.2.2.1.len≤4:=by
          have:=(f60_iff _ _ _).mp h3
          omega
        simp only [Bool.not_true,cond_false]
        generalize hwn:p.2.2.2.1 = wn at *
        have hgood:∀ j,(!(f163 (wn.get j))) = false→decide (wI ((wn.get j).1 + (wn.get j).2.1) > mem) = false→f163 (wn.get j) = true ∧ (wn.get j).1 + (wn.get j).2.1≤mem:=fun j a b=>by
          have a':f163 (wn.get j) = true:=by simpa using a
          have:=(f163_iff _).mp a'
          rw [wI_id (by omega) (by omega)] at b
          exact ⟨a',by simpa using b⟩
        obtain ⟨d,e1,e2⟩:=fixO_rel (step:=s139_L0) (fun a=>wn.len - a.1.2.2.2.1.toNat)
          (fun a=>∃ (i:Nat) (fl:Bool),a = ((mem,((),(fl,((i:Int),())))),(p,())) ∧ i≤wn.len ∧ (∀ j,j < i→f163 (wn.get j) = true ∧ (wn.get j).1 + (wn.get j).2.1≤mem) ∧ (fl = true ↔ ∃ j,j < i ∧ ins (wn.get j) p.2.1))
          (fun _ d=>(d = .inl ((false,()),()) ∧ ¬ ∀ j,j < wn.len→f163 (wn.get j) = true ∧ (wn.get j).1 + (wn.get j).2.1≤mem) ∨
            ∃ fl:Bool,d = .inr (.inl (((),(fl,())),(p,()))) ∧ (∀ j,j < wn.len→f163 (wn.get j) = true ∧ (wn.get j).1 + (wn.get j).2.1≤mem) ∧ (fl = true ↔ ∃ j,j < wn.len ∧ ins (wn.get j) p.2.1)) (by
            rintro _ ⟨i,fl,rfl,hi,ha,hf⟩
            by_cases h:i < wn.len
            · simp only [s139_L0,q139_L0]
              rw [hwn,bif_t (idx_lt h),bif_t (idx_in h),wI_succ h (by omega),Int.toNat_natCast]
              cases g1:(!(f163 (wn.get i))) with
              | true =>
                right
                refine ⟨_,rfl,.inl ⟨rfl,fun q=>?_⟩⟩
                have:=(q i h).1
                rw [this] at g1; cases g1
              | false =>
                cases g2:decide (wI ((wn.get i).1 + (wn.get i).2.1) > mem) with
                | true =>
                  right
                  refine ⟨_,rfl,.inl ⟨rfl,fun q=>?_⟩⟩
                  have h1:=(q i h).1
                  have h2:=(q i h).2
                  have:=(f163_iff _).mp h1
                  rw [wI_id (by omega) (by omega)] at g2
                  have:=of_decide_eq_true g2
                  omega
                | false =>
                  left
                  have hg:=hgood i g1 g2
                  have ha':∀ j,j < i + 1→f163 (wn.get j) = true ∧ (wn.get j).1 + (wn.get j).2.1≤mem:=fun j hj=>by
                    by_cases e:j = i
                    · rw [e]; exact hg
                    · exact ha j (by omega)
                  have hm:wn.len - (((i + 1:Nat):Int)).toNat < wn.len - ((i:Int)).toNat:=by simp only [Int.toNat_natCast]; omega
                  have up:¬ ins (wn.get i) p.2.1→(fl = true ↔ ∃ j,j < i + 1 ∧ ins (wn.get j) p.2.1):=fun hn=>by
                    rw [hf]
                    constructor
                    · rintro ⟨j,hj,q⟩; exact ⟨j,by omega,q⟩
                    · rintro ⟨j,hj,q⟩
                      by_cases e:j = i
                      · rw [e] at q; exact absurd q hn
                      · exact ⟨j,by omega,q⟩
                  cases g3:f164 (wn.get i) p.2.1 with
                  | false =>
                    exact ⟨_,rfl,⟨i + 1,fl,rfl,h,ha',up (fun q=>by rw [q.1] at g3; cases g3)⟩,hm,fun d hd=>hd⟩
                  | true =>
                    cases g4:(wI (Int.tdiv (wn.get i).2.2.1 4) == 1) with
                    | false =>
                      exact ⟨_,rfl,⟨i + 1,fl,rfl,h,ha',up (fun q=>by rw [q.2] at g4; cases g4)⟩,hm,fun d hd=>hd⟩
                    | true =>
                      exact ⟨_,rfl,⟨i + 1,true,rfl,h,ha',⟨fun _=>⟨i,by omega,g3,by simpa using g4⟩,fun _=>rfl⟩⟩,hm,fun d hd=>hd⟩
            · right
              have:i = wn.len:=by omega
              subst this
              simp only [s139_L0,q139_L0]
              rw [hwn,bif_f (idx_end wn.len)]
              exact ⟨_,rfl,.inr ⟨fl,rfl,ha,hf⟩⟩)
          ((mem,((),(false,((0:Int),())))),(p,())) ⟨0,false,rfl,Nat.zero_le _,fun j hj=>absurd hj (Nat.not_lt_zero _),by simp⟩
        rw [e1]
        simp only [Option.bind_some]
        rcases e2 with ⟨rfl,hn⟩ | ⟨fl,rfl,hy,hfl⟩
        · refine ⟨false,rfl,?_⟩
          simp only [Bool.false_eq_true,false_iff]
          rintro ⟨_,_,_,q,_⟩
          exact hn q
        · cases fl with
          | false =>
            refine ⟨false,rfl,?_⟩
            simp only [Bool.false_eq_true,false_iff] at hfl ⊢
            rintro ⟨_,_,_,_,q,_⟩
            exact hfl q
          | true =>
            refine ⟨Int.tmod p.2.1 4 == 0,rfl,?_⟩
            rw [beq_iff_eq]
            exact ⟨fun q=>⟨trivial,trivial,h3',hy,hfl.mp rfl,q⟩,fun q=>q.2.2.2.2.2⟩

theorem toL_nil:toL (nilL (.pair (.int .i64) (.pair (.int .i64) (.pair (.int .i64) .unit)))) = ([]:List Wi):=rfl

theorem inner (t:Tb) (p:PR) (n i:Int) (a0:L Wi) (hl:p.2.2.2.1.len≤4) (ha0:a0.len≤20) (hg0:∀ v,v ∈ toL a0→f163 v = true) (hp0:(toL a0).Pairwise apart) :
    ∃ d,fixO s122_L2 (((),((),((),(tParts t,(n,(i,(p.2.2.2.1,((p.2.2.2.1.len:Int),((0:Int),()))))))))),(t,(a0,(p,())))) = some d ∧
      ((d = .inl ((false,()),()) ∧ ¬ ((∀ j,j < p.2.2.2.1.len→f163 (p.2.2.2.1.get j) = true ∧ (p.2.2.2.1.get j).1 + (p.2.2.2.1.get j).2.1≤t.1) ∧ (toL a0 ++ toL p.2.2.2.1).Pairwise apart)) ∨
       ∃ a1:L Wi,d = .inr (.inl (((),((),((),(tParts t,(n,(i,())))))),(t,(a1,(p,()))))) ∧ toL a1 = toL a0 ++ toL p.2.2.2.1 ∧
        (∀ j,j < p.2.2.2.1.len→f163 (p.2.2.2.1.get j) = true ∧ (p.2.2.2.1.get j).1 + (p.2.2.2.1.get j).2.1≤t.1) ∧ (toL a1).Pairwise apart):=by
  generalize hwn:p.2.2.2.1 = wn at *
  refine fixO_rel (step:=s122_L2) (fun x=>wn.len - x.1.2.2.2.2.2.2.2.2.1.toNat)
    (fun x=>∃ (j:Nat) (a:L Wi),x = (((),((),((),(tParts t,(n,(i,(wn,((wn.len:Int),((j:Int),()))))))))),(t,(a,(p,())))) ∧ j≤wn.len ∧ toL a = toL a0 ++ (toL wn).take j ∧ a.len = a0.len + j ∧
      (∀ k,k < j→f163 (wn.get k) = true ∧ (wn.get k).1 + (wn.get k).2.1≤t.1) ∧ (toL a).Pairwise apart)
    (fun _ d=>(d = .inl ((false,()),()) ∧ ¬ ((∀ j,j < wn.len→f163 (wn.get j) = true ∧ (wn.get j).1 + (wn.get j).2.1≤t.1) ∧ (toL a0 ++ toL wn).Pairwise apart)) ∨
       ∃ a1:L Wi,d = .inr (.inl (((),((),((),(tParts t,(n,(i,())))))),(t,(a1,(p,()))))) ∧ toL a1 = toL a0 ++ toL wn ∧
        (∀ j,j < wn.len→f163 (wn.get j) = true ∧ (wn.get j).1 + (wn.get j).2.1≤t.1) ∧ (toL a1).Pairwise apart) ?_ _ ⟨0,a0,rfl,Nat.zero_le _,by simp,rfl,fun k hk=>absurd hk (Nat.not_lt_zero _),hp0⟩
  rintro _ ⟨j,a,rfl,hj,ht,hlen,hg,hp⟩
  have e110:∀ w,f150 w = f163 w:=f150_163
  by_cases h:j < wn.len
  · simp only [s122_L2,q122_L2]
    rw [bif_t (idx_lt h),bif_t (idx_in h),wI_succ h (by omega),Int.toNat_natCast,e110]
    cases g1:f163 (wn.get j) with
    | false =>
      right
      exact ⟨_,rfl,.inl ⟨rfl,fun q=>by have:=(q.1 j h).1; rw [this] at g1; cases g1⟩⟩
    | true =>
      have hw:=(f163_iff _).mp g1
      rw [bif_f (show (!true) = false from rfl),wI_id (by omega) (by omega)]
      cases g2:decide ((wn.get j).1 + (wn.get j).2.1 > t.1) with
      | true =>
        right
        refine ⟨_,rfl,.inl ⟨rfl,fun q=>?_⟩⟩
        have:=(q.1 j h).2
        have:=of_decide_eq_true g2
        omega
      | false =>
        have g2':=of_decide_eq_false g2
        rw [bif_f rfl]
        have hga:∀ v,v ∈ toL a→f163 v = true:=fun v hv=>by
          rw [ht,List.mem_append] at hv
          rcases hv with hv | hv
          · exact hg0 v hv
          · obtain ⟨k,hk,rfl⟩:=(toL_mem _ _).mp (List.mem_of_mem_take hv)
            obtain ⟨k',hk',e⟩:=List.mem_iff_getElem.mp hv
            rw [List.getElem_take,toL_getElem] at e
            rw [← e]
            exact (hg k' (by rw [List.length_take] at hk'; omega)).1
        rcases overlaps a (by omega) (wn.get j) g1 hga with ⟨o1,o2⟩ | ⟨o1,o2⟩
        · rw [o1]
          right
          refine ⟨_,rfl,.inl ⟨rfl,fun q=>o2 fun v hv=>?_⟩⟩
          have hq:=q.2
          rw [← toL_take_len wn] at hq
          have hpre:∃ r,toL wn = (toL wn).take j ++ wn.get j::r:=by
            have hn:j < (toL wn).length:=by rw [toL_len]; exact h
            refine ⟨(toL wn).drop (j + 1),?_⟩
            rw [← toL_getElem wn j hn,List.getElem_cons_drop,List.take_append_drop]
          rw [toL_take_len] at hq
          obtain ⟨r,hr⟩:=hpre
          rw [hr,← List.append_assoc,← ht,List.pairwise_append] at hq
          exact hq.2.2 v hv _ (List.mem_cons_self ..)
        · rw [o1]
          left
          simp only [Option.bind_some,cond_false]
          have hm:decide (a.len + (L.of (Ty.zero (.pair (.int .i64) (.pair (.int .i64) (.pair (.int .i64) .unit)))) [wn.get j]).len≤most) = true:=by
            have h32:most = 4294967296:=rfl
            rw [h32]
            have:(L.of (Ty.zero (.pair (.int .i64) (.pair (.int .i64) (.pair (.int .i64) .unit)))) [wn.get j]).len = 1:=rfl
            rw [this]
            exact decide_eq_true (by omega)
          refine ⟨_,bif_t hm,⟨j + 1,_,rfl,h,?_,?_,?_,?_⟩,by simp only [Int.toNat_natCast]; omega,fun d hd=>hd⟩
          · rw [toL_app,ht,toL_take_succ wn h,List.append_assoc]; rfl
          · show a.len + 1 = _
            omega
          · intro k hk
            by_cases e:k = j
            · rw [e]; exact ⟨g1,by omega⟩
            · exact hg k (by omega)
          · rw [toL_app,List.pairwise_append]
            refine ⟨hp,?_,?_⟩
            · show List.Pairwise apart [wn.get j]
              exact List.pairwise_singleton _ _
            · intro v hv w hw'
              have:w = wn.get j:=List.mem_singleton.mp hw'
              rw [this]
              exact o2 v hv
  · right
    have:j = wn.len:=by omega
    subst this
    simp only [s122_L2,q122_L2]
    rw [bif_f (idx_end wn.len)]
    refine ⟨_,rfl,.inr ⟨a,rfl,?_,hg,hp⟩⟩
    rw [ht,toL_take_len]

def Parts (x:L PR) (mem:Int):Prop :=
  (∀ i,i < x.len→PartG (x.get i) mem ∧ ∀ q,q < i→strEq (x.get q).1 (x.get i).1 = false) ∧ (winsOf x x.len).Pairwise apart

theorem winsOf_good (x:L PR) (mem:Int) {n:Nat} (hn:n≤x.len) (h:∀ i,i < n→PartG (x.get i) mem):∀ v,v ∈ winsOf x n→f163 v = true:=by
  intro v hv
  unfold winsOf at hv
  rw [List.mem_flatMap] at hv
  obtain ⟨p,hp,hv⟩:=hv
  obtain ⟨k,hk,e⟩:=List.mem_iff_getElem.mp hp
  rw [List.getElem_take,toL_getElem] at e
  subst e
  obtain ⟨j,hj,rfl⟩:=(toL_mem _ _).mp hv
  exact ((h k (by rw [List.length_take] at hk; omega)).2.2.2.1 j hj).1

theorem strEq_self (s:ByteArray):strEq s s = true:=by unfold strEq; simp

theorem impParts (t:Tb) (hn:(tParts t).len≤6) (hs:∀ i,i < (tParts t).len→((tParts t).get i).1.size≤2 ^ 47) (hw:∀ i,i < (tParts t).len→((tParts t).get i).2.2.2.1.len≤2 ^ 47) :
    ∃ b,g122 t = some ((b,()),()) ∧ (b = true ↔ Parts (tParts t) t.1):=by
  generalize hx:tParts t = x at *
  have hx':t.2.2.2.2.2.2.2.1 = x:=hx
  obtain ⟨d,e1,e2⟩:=fixO_rel (step:=s122_L0) (fun a=>x.len - a.1.2.2.2.2.1.toNat)
    (fun a=>∃ (i:Nat) (all:L Wi),a = (((),(all,(x,((x.len:Int),((i:Int),()))))),(t,())) ∧ i≤x.len ∧ toL all = winsOf x i ∧ all.len≤4 * i ∧
      (∀ k,k < i→PartG (x.get k) t.1 ∧ ∀ q,q < k→strEq (x.get q).1 (x.get k).1 = false) ∧ (toL all).Pairwise apart)
    (fun _ d=>(d = .inl ((false,()),()) ∧ ¬ Parts x t.1) ∨ (d = .inr (.inl ((),())) ∧ Parts x t.1)) (by
      rintro _ ⟨i,all,rfl,hi,ht,hlen,hp,hap⟩
      by_cases h:i < x.len
      · simp only [s122_L0,q122_L0]
        rw [bif_t (idx_lt h),bif_t (idx_in h),Int.toNat_natCast,(nm_of _ (hs i h)).2]
        simp only [Option.bind_some]
        cases g1:nm (x.get i).1 with
        | false =>
          right
          exact ⟨_,rfl,.inl ⟨rfl,fun q=>by have:=(q.1 i h).1.1; rw [this] at g1; cases g1⟩⟩
        | true =>
          rw [bif_f (show (!true) = false from rfl)]
          obtain ⟨n,n1,n2⟩:=named t (by rw [hx]; omega) (x.get i).1
          rw [hx] at n2
          rw [n1]
          simp only [Option.bind_some]
          cases g2:decide (n < (i:Int)) with
          | true =>
            right
            refine ⟨_,rfl,.inl ⟨rfl,fun q=>?_⟩⟩
            have g2:=of_decide_eq_true g2
            rcases n2 with ⟨k,k1,k2,k3,_⟩ | ⟨_,k2⟩
            · have:=(q.1 i h).2 k (by omega)
              rw [k3] at this; cases this
            · have:=k2 i h
              rw [strEq_self] at this; cases this
          | false =>
            have g2:=of_decide_eq_false g2
            have hd:∀ q,q < i→strEq (x.get q).1 (x.get i).1 = false:=by
              rcases n2 with ⟨k,k1,_,_,k4⟩ | ⟨k1,_⟩
              · intro q hq; exact k4 q (by omega)
              · omega
            have e109:f149 (x.get i).2.2.1 = f162 (x.get i).2.2.1:=policies _
            rw [bif_f rfl,e109,f61_60]
            cases g3:f162 (x.get i).2.2.1 with
            | false =>
              right
              exact ⟨_,rfl,.inl ⟨rfl,fun q=>by have:=(q.1 i h).1.2.1; rw [this] at g3; cases g3⟩⟩
            | true =>
              rw [bif_f (show (!true) = false from rfl)]
              cases g4:f60 ((x.get i).2.2.2.1.len:Int) 1 4 with
              | false =>
                right
                refine ⟨_,rfl,.inl ⟨rfl,fun q=>?_⟩⟩
                have:=(q.1 i h).1.2.2.1
                rw [(f60_iff _ _ _).mpr (by omega)] at g4; cases g4
              | true =>
                have g4:1≤(x.get i).2.2.2.1.len ∧ (x.get i).2.2.2.1.len≤4:=by
                  have:=(f60_iff _ _ _).mp g4
                  omega
                rw [bif_f (show (!true) = false from rfl)]
                obtain ⟨d,i1,i2⟩:=inner t (x.get i) (x.len:Int) (i:Int) all g4.2 (by omega) (fun v hv=>winsOf_good x t.1 (n:=i) (by omega) (fun k hk=>(hp k hk).1) v (by rw [← ht]; exact hv)) hap
                rw [hx] at i1
                rw [i1]
                simp only [Option.bind_some]
                have hsucc:=winsOf_succ x h
                rcases i2 with ⟨rfl,i2⟩ | ⟨a1,rfl,i2,i3,i4⟩
                · right
                  refine ⟨_,rfl,.inl ⟨rfl,fun q=>i2 ⟨(q.1 i h).1.2.2.2.1,?_⟩⟩⟩
                  obtain ⟨r,hr⟩:=winsOf_prefix x (i:=i + 1) (n:=x.len) (by omega) (Nat.le_refl _)
                  have:=q.2
                  rw [hr,List.pairwise_append] at this
                  rw [ht,← hsucc]
                  exact this.1
                · simp only [hx]
                  cases g5:(Int.tmod (x.get i).2.1 4 != 0) with
                  | true =>
                    right
                    refine ⟨_,rfl,.inl ⟨rfl,fun q=>?_⟩⟩
                    have:=(q.1 i h).1.2.2.2.2.2
                    rw [this] at g5; cases g5
                  | false =>
                    have g5:Int.tmod (x.get i).2.1 4 = 0:=by simpa using g5
                    have hpw:(toL (x.get i).2.2.2.1).Pairwise apart:=by
                      rw [i2,List.pairwise_append] at i4
                      exact i4.2.1
                    obtain ⟨b,r1,r2⟩:=runs (x.get i) (hw i h) (x.get i).2.1 (fun j hj=>(i3 j hj).1) hpw
                    rw [bif_f rfl,r1]
                    simp only [Option.bind_some]
                    cases b with
                    | false =>
                      right
                      refine ⟨_,rfl,.inl ⟨rfl,fun q=>?_⟩⟩
                      have:=r2.mpr (q.1 i h).1.2.2.2.2.1
                      cases this
                    | true =>
                      left
                      rw [bif_f (show (!true) = false from rfl),wI_succ h (by omega)]
                      refine ⟨_,rfl,⟨i + 1,a1,rfl,h,?_,?_,?_,i4⟩,by simp only [Int.toNat_natCast]; omega,fun d hd=>hd⟩
                      · rw [hsucc,i2,ht]
                      · have l1:(toL a1).length = a1.len:=toL_len _
                        rw [i2,List.length_append,toL_len,toL_len] at l1
                        omega
                      · intro k hk
                        by_cases e:k = i
                        · subst e
                          exact ⟨⟨g1,g3,g4,i3,r2.mp rfl,g5⟩,hd⟩
                        · exact hp k (by omega)
      · right
        have:i = x.len:=by omega
        subst this
        simp only [s122_L0,q122_L0]
        rw [bif_f (idx_end x.len)]
        refine ⟨_,rfl,.inr ⟨rfl,hp,?_⟩⟩
        rw [← ht]; exact hap)
    (((),((nilL (.pair (.int .i64) (.pair (.int .i64) (.pair (.int .i64) .unit)))),(x,((x.len:Int),((0:Int),()))))),(t,()))
    ⟨0,_,rfl,Nat.zero_le _,toL_nil,Nat.zero_le _,fun k hk=>absurd hk (Nat.not_lt_zero _),by rw [toL_nil]; exact List.Pairwise.nil⟩
  unfold g122
  rw [hx',e1]
  simp only [Option.bind_some]
  rcases e2 with ⟨rfl,h⟩ | ⟨rfl,h⟩
  · exact ⟨false,rfl,by simpa using h⟩
  · exact ⟨true,rfl,by simpa using h⟩

theorem namesApart (t:Tb) (i:Nat) (h:i < (tParts t).len) (hn:(tParts t).len≤6) :
    (fixO s102_L2 (((),((i:Int),((0:Int),()))),(t,())) = some (.inl ((false,()),())) ∧ ¬ ∀ q,q < i→strEq ((tParts t).get q).1 ((tParts t).get i).1 = false) ∨
    (fixO s102_L2 (((),((i:Int),((0:Int),()))),(t,())) = some (.inr (.inl (((),((i:Int),())),(t,())))) ∧ ∀ q,q < i→strEq ((tParts t).get q).1 ((tParts t).get i).1 = false):=by
  have h1:=scan (step:=s102_L2) (fun k=>(((),((i:Int),((k:Int),()))),(t,()))) i (fun k=>!strEq ((tParts t).get k).1 ((tParts t).get i).1) (fun _=>.inl ((false,()),())) (.inr (.inl (((),((i:Int),())),(t,()))))
    (fun k hk ho=>by
      have ho':strEq ((tParts t).get ((k:Int)).toNat).1 ((tParts t).get ((i:Int)).toNat).1 = false:=by rw [Int.toNat_natCast,Int.toNat_natCast]; simpa using ho
      simp only [s102_L2,q102_L2]
      refine (bif_t (idx_lt hk)).trans ((bif_t (idx_in (n:=(tParts t).len) (by omega))).trans ((bif_t (idx_in h)).trans ((bif_f ho').trans ?_)))
      rw [wI_succ hk (by omega)])
    (fun k hk ho=>by
      have ho':strEq ((tParts t).get ((k:Int)).toNat).1 ((tParts t).get ((i:Int)).toNat).1 = true:=by rw [Int.toNat_natCast,Int.toNat_natCast]; simpa using ho
      simp only [s102_L2,q102_L2]
      exact (bif_t (idx_lt hk)).trans ((bif_t (idx_in (n:=(tParts t).len) (by omega))).trans ((bif_t (idx_in h)).trans (bif_t ho'))))
    (by
      simp only [s102_L2,q102_L2]
      exact bif_f (idx_end i))
  rcases h1 with ⟨k,hk,ho,_,e1⟩ | ⟨ha,e1⟩
  · exact .inl ⟨e1,fun q=>by have:=q k hk; rw [this] at ho; cases ho⟩
  · exact .inr ⟨e1,fun q hq=>by simpa using ha q hq⟩

theorem refParts (t:Tb) (hn:(tParts t).len≤6) (hs:∀ i,i < (tParts t).len→((tParts t).get i).1.size≤2 ^ 47) (h1:1≤(tParts t).len) :
    ∃ b,g102 t = some ((b,()),()) ∧ (b = true ↔ Parts (tParts t) t.1):=by
  have hok:∀ i,i < (tParts t).len→(open Classical in decide (PartG ((tParts t).get i) t.1 ∧ ∀ q,q < i→strEq ((tParts t).get q).1 ((tParts t).get i).1 = false)) = true→PartG ((tParts t).get i) t.1 ∧ ∀ q,q < i→strEq ((tParts t).get q).1 ((tParts t).get i).1 = false :=
    fun i hi h=>by simpa using h
  have l0:=scan (step:=s102_L0) (fun i=>(((),((i:Int),())),(t,()))) (tParts t).len (fun i=>open Classical in decide (PartG ((tParts t).get i) t.1 ∧ ∀ q,q < i→strEq ((tParts t).get q).1 ((tParts t).get i).1 = false)) (fun _=>.inl ((false,()),())) (.inr (.inl (((),()),(t,()))))
    (fun i hi ho=>by
      obtain ⟨o1,o2⟩:=hok i hi ho
      obtain ⟨b,p1,p2⟩:=partok ((tParts t).get i) t.1 (hs i hi)
      have hb:b = true:=p2.mpr o1
      subst hb
      simp only [s102_L0,q102_L0]
      refine (bif_t (idx_lt hi)).trans ((bif_t (idx_in hi)).trans ?_)
      rw [Int.toNat_natCast]
      have p1':g139 (L.get t.2.2.2.2.2.2.2.1 i) t.1 = some ((true,()),()):=p1
      rw [p1']
      simp only [Option.bind_some]
      rw [bif_f (show (!true) = false from rfl)]
      rcases namesApart t i hi hn with ⟨_,n2⟩ | ⟨n1,_⟩
      · exact absurd o2 n2
      · rw [n1]
        simp only [Option.bind_some]
        rw [wI_succ hi (by omega)])
    (fun i hi ho=>by
      have ho:¬ (PartG ((tParts t).get i) t.1 ∧ ∀ q,q < i→strEq ((tParts t).get q).1 ((tParts t).get i).1 = false):=by simpa using ho
      obtain ⟨b,p1,p2⟩:=partok ((tParts t).get i) t.1 (hs i hi)
      simp only [s102_L0,q102_L0]
      refine (bif_t (idx_lt hi)).trans ((bif_t (idx_in hi)).trans ?_)
      rw [Int.toNat_natCast]
      have p1':g139 (L.get t.2.2.2.2.2.2.2.1 i) t.1 = some ((b,()),()):=p1
      rw [p1']
      simp only [Option.bind_some]
      cases b with
      | false=>rfl
      | true =>
        rw [bif_f (show (!true) = false from rfl)]
        rcases namesApart t i hi hn with ⟨n1,_⟩ | ⟨_,n2⟩
        · rw [n1]; rfl
        · exact absurd ⟨p2.mp rfl,n2⟩ ho)
    (by
      simp only [s102_L0,q102_L0]
      exact bif_f (idx_end (tParts t).len))
  unfold g102
  have hl:f60 (t.2.2.2.2.2.2.2.1.len:Int) 1 6 = true:=(f60_iff _ _ _).mpr (by unfold tParts at hn h1; omega)
  rw [hl,bif_f (show (!true) = false from rfl)]
  rcases l0 with ⟨i,hi,ho,_,e1⟩ | ⟨ha,e1⟩
  · have ho:¬ (PartG ((tParts t).get i) t.1 ∧ ∀ q,q < i→strEq ((tParts t).get q).1 ((tParts t).get i).1 = false):=by simpa using ho
    have e1':fixO s102_L0 (((),((0:Int),())),(t,())) = some (.inl ((false,()),())):=e1
    rw [e1']
    exact ⟨false,rfl,by simp only [Bool.false_eq_true,false_iff]; exact fun q=>ho (q.1 i hi)⟩
  · have ha:∀ i,i < (tParts t).len→PartG ((tParts t).get i) t.1 ∧ ∀ q,q < i→strEq ((tParts t).get q).1 ((tParts t).get i).1 = false:=fun i hi=>hok i hi (ha i hi)
    have e1':fixO s102_L0 (((),((0:Int),())),(t,())) = some (.inr (.inl (((),()),(t,())))):=e1
    rw [e1']
    simp only [Option.bind_some]
    obtain ⟨all,a1,a2,a3⟩:=allWins (tParts t) hn (fun i hi=>(ha i hi).1.2.2.1.2)
    have a1':g140r t.2.2.2.2.2.2.2.1 = some ((all,()),()):=a1
    rw [a1']
    simp only [Option.bind_some]
    have hgood:=winsOf_good (tParts t) t.1 (Nat.le_refl _) (fun i hi=>(ha i hi).1)
    have hov:∀ i k,i < all.len→k < i→(ovl all k i = false ↔ apart (all.get k) (all.get i)):=fun i k hi hk=>by
      have g1:=(f163_iff _).mp (hgood (all.get i) (by rw [← a2]; exact (toL_mem _ _).mpr ⟨i,hi,rfl⟩))
      have g2:=(f163_iff _).mp (hgood (all.get k) (by rw [← a2]; exact (toL_mem _ _).mpr ⟨k,by omega,rfl⟩))
      unfold ovl apart
      rw [wI_id (by omega) (by omega),wI_id (by omega) (by omega)]
      simp only [Bool.and_eq_false_iff,decide_eq_false_iff_not]
      omega
    have hpw:(winsOf (tParts t) (tParts t).len).Pairwise apart ↔ ∀ i k,i < all.len→k < i→ovl all k i = false:=by
      rw [← a2,List.pairwise_iff_getElem]
      constructor
      · intro q i k hi hk
        have:=q k i (by rw [toL_len]; omega) (by rw [toL_len]; exact hi) hk
        rw [toL_getElem,toL_getElem] at this
        exact (hov i k hi hk).mpr this
      · intro q k i hk hi hki
        rw [toL_getElem,toL_getElem]
        rw [toL_len] at hi
        exact (hov i k hi hki).mp (q i k hi hki)
    rcases ovlAll all a3 with ⟨⟨i,k,hi,hk,ho⟩,o2⟩ | ⟨o1,o2⟩
    · rw [o2]
      refine ⟨false,rfl,?_⟩
      simp only [Bool.false_eq_true,false_iff]
      rintro ⟨_,q⟩
      have:=hpw.mp q i k hi hk
      rw [this] at ho; cases ho
    · rw [o2]
      exact ⟨true,rfl,fun _=>⟨ha,hpw.mpr o1⟩,fun _=>rfl⟩

def Facts (t:Tb):Prop :=
  f138 t.2.2.2.1 = true ∧ (1≤t.2.2.2.2.1 ∧ t.2.2.2.2.1≤5000) ∧ (1≤t.2.2.2.2.2.1 ∧ t.2.2.2.2.2.1≤5000) ∧ (1≤t.2.2.2.2.2.2.1 ∧ t.2.2.2.2.2.2.1≤5000) ∧ f105 t.2.1 = true ∧ (64≤t.1 ∧ t.1≤2048) ∧
  (1≤(tParts t).len ∧ (tParts t).len≤6) ∧ Parts (tParts t) t.1 ∧ Tail t

theorem sound (t:Tb) (hn:(tParts t).len≤2 ^ 47) (hl:(tSlots t).len≤2 ^ 47) (hs:∀ i,i < (tParts t).len→((tParts t).get i).1.size≤2 ^ 47) (hw:∀ i,i < (tParts t).len→((tParts t).get i).2.2.2.1.len≤2 ^ 47) :
    ∃ b:Bool,g53 t = some ((b,()),()) ∧ g89 t = some ((b,()),()) ∧ (b = true→Facts t):=by
  unfold g53
  rcases head t with ⟨h1,h2⟩ | ⟨hc,p1,p2,p3,hsh,hm,h1,h2⟩
  · rw [h1,h2]; exact ⟨false,rfl,rfl,by simp⟩
  · rw [h1,h2]
    simp only [Option.bind_some,cond_true]
    unfold rest71
    rw [f61_60]
    cases g1:f60 ((tParts t).len:Int) 1 6 with
    | false =>
      have:g102 t = some ((false,()),()):=by
        unfold g102
        have g1':f60 (t.2.2.2.2.2.2.2.1.len:Int) 1 6 = false:=g1
        rw [g1']; rfl
      rw [this]
      exact ⟨false,rfl,rfl,by simp⟩
    | true =>
      have g1:=(f60_iff _ _ _).mp g1
      obtain ⟨b1,r1,r2⟩:=refParts t (by omega) hs (by omega)
      obtain ⟨b2,i1,i2⟩:=impParts t (by omega) hs hw
      have:b1 = b2:=by
        rw [Bool.eq_iff_iff,r2,i2]
      subst this
      rw [r1,i1]
      simp only [Option.bind_some]
      cases b1 with
      | false=>exact ⟨false,rfl,rfl,by simp⟩
      | true =>
        obtain ⟨b,t1,t2,t3⟩:=tail t hl hc hsh p1 p2 p3
        exact ⟨b,t1,t2,fun h=>⟨hc,p1,p2,p3,hsh,(f60_iff _ _ _).mp hm,by omega,r2.mp rfl,t3 h⟩⟩

def Bnd (t:Tb):Prop :=
  (tParts t).len≤1048576 ∧ (tDevs t).len≤1048576 ∧ (tChans t).len≤1048576 ∧ (tSlots t).len≤1048576 ∧ ∀ i,i < (tParts t).len→((tParts t).get i).1.size≤1048576 ∧ ((tParts t).get i).2.2.2.1.len≤1048576

def Wf (t:Tb):Prop :=
  (tParts t).len≤2 ^ 47 ∧ (tDevs t).len≤2 ^ 47 ∧ (tChans t).len≤2 ^ 47 ∧ (tSlots t).len≤2 ^ 47 ∧ ∀ i,i < (tParts t).len→((tParts t).get i).1.size≤2 ^ 47 ∧ ((tParts t).get i).2.2.2.1.len≤2 ^ 47

theorem wf_of_bnd {t:Tb} (h:Bnd t):Wf t:=by
  have h47:(2:Nat) ^ 47 = 140737488355328:=by decide
  obtain ⟨b1,b2,b3,b4,b5⟩:=h
  unfold Wf
  rw [h47]
  exact ⟨by omega,by omega,by omega,by omega,fun i hi=>by have:=b5 i hi; omega⟩

theorem sound_wf (t:Tb) (h:Wf t):∃ b:Bool,g53 t = some ((b,()),()) ∧ g89 t = some ((b,()),()) ∧ (b = true→Facts t) :=
  sound t h.1 h.2.2.2.1 (fun i hi=>(h.2.2.2.2 i hi).1) (fun i hi=>(h.2.2.2.2 i hi).2)



abbrev Wy:Type:=Int×(Bool×Unit)
abbrev Sh:Type:=Int×(Int×(Int×Unit))
abbrev Ca:Type:=Sh×((L (L Wy))×Unit)

end Go.VE.VFnPadded
