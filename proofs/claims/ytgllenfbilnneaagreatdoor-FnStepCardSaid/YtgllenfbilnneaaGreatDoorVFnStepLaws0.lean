import Derived.Test.YtgllenfbilnneaaGreatDoorVFnStep
import Derived.Test.YtgllenfbilnneaaGreatDoorVkV
/- laws.FnStep returns true: in plain words,no program in sight. -/
set_option linter.unusedVariables false
set_option linter.unusedSimpArgs false
namespace Go.VE.VFnStep
open Go.VE
theorem tN (n:Nat):((n:Int)).toNat = n:=rfl
theorem oB {α β:Type} (a:α) (f:α→Option β):(some a).bind f = f a:=rfl
abbrev tysOf:List Ty:=[(.sl (.int .u8))]
abbrev Co:Type:=Int×(Int×(Int×(Int×(Int×(Int×(Int×Unit))))))
theorem f157_42:f157 = f42:=rfl
theorem f99_249 (c:Co):f99 c = f249 c:=by
 unfold f99 f249
 rw [f157_42]
 generalize f42 c.1 1 20 = b1
 generalize f42 c.2.1 0 50 = b2
 generalize f42 c.2.2.1 0 50 = b3
 generalize f42 c.2.2.2.1 0 50 = b4
 generalize f42 c.2.2.2.2.1 0 50 = b5
 generalize f42 c.2.2.2.2.2.1 0 50 = b6
 generalize f42 c.2.2.2.2.2.2.1 0 50 = b7
 cases b1 <;> cases b2 <;> cases b3 <;> cases b4 <;> cases b5 <;> cases b6 <;> cases b7 <;> rfl
theorem f42_iff (a b c:Int):f42 a b c = true ↔ b≤a ∧ a≤c:=by
 unfold f42
 by_cases h:a ≥ b
 · rw [bif_t (by simpa using h)]; simp; omega
 · rw [bif_f (by simpa using h)]; simp; omega
theorem costs_of {c:Co} (h:f249 c = true):(1≤c.1 ∧ c.1≤20) ∧ (0≤c.2.1 ∧ c.2.1≤50) ∧ (0≤c.2.2.1 ∧ c.2.2.1≤50) ∧ (0≤c.2.2.2.1 ∧ c.2.2.2.1≤50) ∧ (0≤c.2.2.2.2.1 ∧ c.2.2.2.2.1≤50) ∧ (0≤c.2.2.2.2.2.1 ∧ c.2.2.2.2.2.1≤50) ∧ (0≤c.2.2.2.2.2.2.1 ∧ c.2.2.2.2.2.2.1≤50):=by
 unfold f249 at h
 have step:∀ {b x:Bool},(bif b then x else false) = true→b = true ∧ x = true:=fun {b x} h=>by cases b <;> simp_all
 obtain ⟨h1,h⟩:=step h
 obtain ⟨h2,h⟩:=step h
 obtain ⟨h3,h⟩:=step h
 obtain ⟨h4,h⟩:=step h
 obtain ⟨h5,h⟩:=step h
 obtain ⟨h6,h7⟩:=step h
 exact ⟨(f42_iff _ _ _).mp h1,(f42_iff _ _ _).mp h2,(f42_iff _ _ _).mp h3,(f42_iff _ _ _).mp h4,(f42_iff _ _ _).mp h5,(f42_iff _ _ _).mp h6,(f42_iff _ _ _).mp h7⟩
theorem forms_pos:∀ k,k < 33→0≤L.get f333r k:=by decide +kernel
theorem opc {c:Co} (hc:f249 c = true) {i:Nat} (hi:i < 33):g137 c i = some ((f100 c i,()),()):=by
 have hf:g250 (i:Int) = some ((L.get f333r i,()),()):=by
  unfold g250
  have h1:f42 (i:Int) 0 32 = true:=(f42_iff _ _ _).mpr (by omega)
  rw [h1,bif_f (show (!true) = false from rfl),bif_t,tN]
  have:f333r.len = 33:=rfl
  rw [this]; simp; omega
 unfold g137 f100
 rw [hc,bif_f (show (!true) = false from rfl),hf]
 simp only [oB]
 rw [bif_f (by simpa using forms_pos i hi),f157_42]
 cases ((i:Int) == 9) <;> cases ((i:Int) == 10) <;> cases f42 (i:Int) 15 18 <;> cases decide ((i:Int) ≥ 25) <;> rfl
theorem f253_101 {c:Co} (hc:f249 c = true) (a:Bool×(Bool×(Bool×Unit))):f253 c a = f101 c a:=by
 unfold f253 f101
 rw [hc]
 rfl
def wAcc (c:Co) (i:Nat):Int:=if i = 0 then -1 else if i≤4 then c.2.2.2.1 + c.2.2.2.2.1 else c.2.2.2.1 + c.2.2.2.2.1 + c.2.2.2.2.2.2.1
theorem acc_of {c:Co} (hc:f249 c = true) (a b d:Bool):f253 c (a,(b,(d,()))) = (if a then 0 else c.2.2.2.1) + (if b then 0 else c.2.2.2.2.1) + (if d then c.2.2.2.2.2.2.1 else 0):=by
 obtain ⟨_,_,_,h4,h5,_,h7⟩:=costs_of hc
 rw [f253_101 hc]
 unfold f101
 have e0:∀ n:Int,0≤n→n≤1000→wI n = n:=fun n h1 h2=>wI_id (by omega) (by omega)
 cases a <;> cases b <;> cases d <;> simp only [Bool.not_true,Bool.not_false,cond_true,cond_false,if_true,if_false,Bool.false_eq_true,Int.zero_add,Int.add_zero]
 · rw [e0 c.2.2.2.1 (by omega) (by omega),e0 _ (by omega) (by omega)]
 · rw [e0 c.2.2.2.1 (by omega) (by omega),e0 (c.2.2.2.1 + c.2.2.2.2.1) (by omega) (by omega),e0 _ (by omega) (by omega)]
 · rw [e0 _ (by omega) (by omega)]
 · rw [e0 c.2.2.2.1 (by omega) (by omega),e0 _ (by omega) (by omega)]
 · rw [e0 _ (by omega) (by omega)]
 · rw [e0 c.2.2.2.2.1 (by omega) (by omega),e0 _ (by omega) (by omega)]
 · rw [e0 _ (by omega) (by omega)]
theorem wacc {c:Co} (hc:f249 c = true):g360 c = some ((c.2.2.2.1 + c.2.2.2.2.1 + c.2.2.2.2.2.2.1,()),()):=by
 obtain ⟨_,_,_,h4,h5,_,h7⟩:=costs_of hc
 obtain ⟨d,h1,rfl⟩:=fixO_rel (step:=s360_L0) (fun a=>8 - a.1.2.2.1.toNat)
  (fun a=>∃ i:Nat,a = (((),(wAcc c i,((i:Int),()))),(c,())) ∧ i≤8)
  (fun _ d=>d = .inl ((wAcc c 8,()),())) (by
   rintro _ ⟨i,rfl,hi⟩
   by_cases h:i < 8
   · left
     have fin:s360_L0 (((),(wAcc c i,((i:Int),()))),(c,())) = some (.inl (((),(wAcc c (i + 1),(((i + 1:Nat):Int),()))),(c,()))):=by
      simp only [s360_L0,q360_L0]
      rw [bif_t (by simp; omega),wI_succ (n:=8) h (by omega)]
      have:i = 0 ∨ i = 1 ∨ i = 2 ∨ i = 3 ∨ i = 4 ∨ i = 5 ∨ i = 6 ∨ i = 7:=by omega
      have key:∀ (a b d:Bool) (m:Int),(((Int.tmod (i:Int) 2) == 1),(((Int.tmod (wI (Int.tdiv (i:Int) 2)) 2) == 1),(((wI (Int.tdiv (i:Int) 4)) == 1),()))) = (a,(b,(d,()))) →
       (if (if a then 0 else c.2.2.2.1) + (if b then 0 else c.2.2.2.2.1) + (if d then c.2.2.2.2.2.2.1 else 0) > wAcc c i then (if a then 0 else c.2.2.2.1) + (if b then 0 else c.2.2.2.2.1) + (if d then c.2.2.2.2.2.2.1 else 0) else wAcc c i) = m→m = wAcc c (i + 1) →
       (bif (decide ((f253 c (((Int.tmod (i:Int) 2) == 1),(((Int.tmod (wI (Int.tdiv (i:Int) 2)) 2) == 1),(((wI (Int.tdiv (i:Int) 4)) == 1),())))) > wAcc c i)) then
        some (.inl (((),((f253 c (((Int.tmod (i:Int) 2) == 1),(((Int.tmod (wI (Int.tdiv (i:Int) 2)) 2) == 1),(((wI (Int.tdiv (i:Int) 4)) == 1),())))),(((i + 1:Nat):Int),()))),(c,())))
       else some (.inl (((),(wAcc c i,(((i + 1:Nat):Int),()))),(c,())))) = (some (.inl (((),(wAcc c (i + 1),(((i + 1:Nat):Int),()))),(c,()))):Option (((Unit×(Int×(Int×Unit)))×(Co×Unit))⊕(((Int×Unit)×Unit)⊕Empty))):=by
       intro a b d m hb hm hw
       rw [hb,acc_of hc,← hw,← hm]
       generalize (if a then 0 else c.2.2.2.1) + (if b then 0 else c.2.2.2.2.1) + (if d then c.2.2.2.2.2.2.1 else 0) = v
       by_cases hgt:v > wAcc c i
       · rw [bif_t (by simpa using hgt),if_pos hgt]
       · rw [bif_f (by simpa using hgt),if_neg hgt]
      rcases this with rfl | rfl | rfl | rfl | rfl | rfl | rfl | rfl
      · exact key false false false _ (by decide +kernel) rfl (by simp [wAcc]; omega)
      · exact key true false false _ (by decide +kernel) rfl (by simp [wAcc]; omega)
      · exact key false true false _ (by decide +kernel) rfl (by simp [wAcc]; omega)
      · exact key true true false _ (by decide +kernel) rfl (by simp [wAcc]; omega)
      · exact key false false true _ (by decide +kernel) rfl (by simp [wAcc]; omega)
      · exact key true false true _ (by decide +kernel) rfl (by simp [wAcc]; omega)
      · exact key false true true _ (by decide +kernel) rfl (by simp [wAcc]; omega)
      · exact key true true true _ (by decide +kernel) rfl (by simp [wAcc]; omega)
     exact ⟨_,fin,⟨i + 1,rfl,h⟩,by simp only [tN]; omega,fun d hd=>hd⟩
   · right
     have:i = 8:=by omega
     subst this
     exact ⟨_,rfl,rfl⟩) (((),((-1:Int),((0:Int),()))),(c,())) ⟨0,rfl,by omega⟩
 unfold g360
 rw [h1]
 rfl
theorem worst {c:Co} (hc:f249 c = true):∃ n,g292 c = some ((n,()),()) ∧ g22 c = some ((n,()),()):=by
 obtain ⟨d,e,h1,h2,m,rfl,rfl⟩:=fixO_sim (s1:=s292_L0) (s2:=s22_L0)
  (fun a b=>∃ (i:Nat) (m:Int),a = (((),(m,((i:Int),()))),(c,())) ∧ b = (((),(m,((i:Int),()))),(c,())) ∧ i≤33)
  (fun d e=>∃ m,d = .inl (((),(m,())),(c,())) ∧ e = .inl (((),(m,())),(c,()))) (fun a=>33 - a.1.2.2.1.toNat) (by
   rintro _ _ ⟨i,m,rfl,rfl,hi⟩
   by_cases h:i < 33
   · left
     have hb:decide ((i:Int) < 33) = true:=by simp; omega
     have ho:g137 (c.1,(c.2.1,(c.2.2.1,(c.2.2.2.1,(c.2.2.2.2.1,(c.2.2.2.2.2.1,(c.2.2.2.2.2.2.1,()))))))) (i:Int) = some ((f100 c i,()),()):=opc hc h
     simp only [s292_L0,q292_L0,s22_L0,q22_L0,hb,cond_true,wI_succ h (by omega:33≤2 ^ 47),ho,oB]
     by_cases hg:f100 c i > m
     · rw [bif_t (by simpa using hg)]
       refine ⟨_,_,rfl,rfl,⟨i + 1,f100 c i,rfl,?_,h⟩,by simp only [tN]; omega⟩
       have:(if f100 (c.1,(c.2.1,(c.2.2.1,(c.2.2.2.1,(c.2.2.2.2.1,(c.2.2.2.2.2.1,(c.2.2.2.2.2.2.1,()))))))) (i:Int) > m then f100 (c.1,(c.2.1,(c.2.2.1,(c.2.2.2.1,(c.2.2.2.2.1,(c.2.2.2.2.2.1,(c.2.2.2.2.2.2.1,()))))))) (i:Int) else m) = f100 c i:=if_pos hg
       rw [this]
     · rw [bif_f (by simpa using hg)]
       refine ⟨_,_,rfl,rfl,⟨i + 1,m,rfl,?_,h⟩,by simp only [tN]; omega⟩
       have:(if f100 (c.1,(c.2.1,(c.2.2.1,(c.2.2.2.1,(c.2.2.2.2.1,(c.2.2.2.2.2.1,(c.2.2.2.2.2.2.1,()))))))) (i:Int) > m then f100 (c.1,(c.2.1,(c.2.2.1,(c.2.2.2.1,(c.2.2.2.2.1,(c.2.2.2.2.2.1,(c.2.2.2.2.2.2.1,()))))))) (i:Int) else m) = m:=if_neg hg
       rw [this]
   · right
     have:i = 33:=by omega
     subst this
     exact ⟨_,_,rfl,rfl,m,rfl,rfl⟩) (((),((0:Int),((0:Int),()))),(c,())) (((),((0:Int),((0:Int),()))),(c,())) ⟨0,0,rfl,rfl,by omega⟩
 unfold g292 g22
 rw [f99_249,hc,bif_f (show (!true) = false from rfl),bif_f (show (!true) = false from rfl),h1,h2]
 simp only [oB]
 rw [wacc hc]
 simp only [oB]
 refine ⟨_,rfl,?_⟩
 have:f101 c (false,(false,(true,()))) = c.2.2.2.1 + c.2.2.2.2.1 + c.2.2.2.2.2.2.1:=by
  rw [← f253_101 hc,acc_of hc]; simp
 rw [this]
abbrev Ch:Type:=Int×(Int×(Int×(Int×Unit)))
theorem pow16 (n:Int) (h:f42 n 1 16 = true):f300 n = ((n == 1) || ((n == 2) || ((n == 4) || ((n == 8) || (n == 16))))):=by
 obtain ⟨h1,h2⟩:=(f42_iff _ _ _).mp h
 have:n = 1 ∨ n = 2 ∨ n = 3 ∨ n = 4 ∨ n = 5 ∨ n = 6 ∨ n = 7 ∨ n = 8 ∨ n = 9 ∨ n = 10 ∨ n = 11 ∨ n = 12 ∨ n = 13 ∨ n = 14 ∨ n = 15 ∨ n = 16:=by omega
 rcases this with rfl | rfl | rfl | rfl | rfl | rfl | rfl | rfl | rfl | rfl | rfl | rfl | rfl | rfl | rfl | rfl <;> decide +kernel
theorem pow32 (n:Int) (h:f42 n 4 32 = true):f300 n = ((n == 4) || ((n == 8) || ((n == 16) || (n == 32)))):=by
 obtain ⟨h1,h2⟩:=(f42_iff _ _ _).mp h
 have:n = 4 ∨ n = 5 ∨ n = 6 ∨ n = 7 ∨ n = 8 ∨ n = 9 ∨ n = 10 ∨ n = 11 ∨ n = 12 ∨ n = 13 ∨ n = 14 ∨ n = 15 ∨ n = 16 ∨ n = 17 ∨ n = 18 ∨ n = 19 ∨ n = 20 ∨ n = 21 ∨ n = 22 ∨ n = 23 ∨ n = 24 ∨ n = 25 ∨ n = 26 ∨ n = 27 ∨ n = 28 ∨ n = 29 ∨ n = 30 ∨ n = 31 ∨ n = 32:=by omega
 rcases this with rfl | rfl | rfl | rfl | rfl | rfl | rfl | rfl | rfl | rfl | rfl | rfl | rfl | rfl | rfl | rfl | rfl | rfl | rfl | rfl | rfl | rfl | rfl | rfl | rfl | rfl | rfl | rfl | rfl <;> decide +kernel
theorem f237_eq (s:Int×(Int×(Int×Unit))):f237 s = (((s.1 == 1) || ((s.1 == 2) || ((s.1 == 4) || ((s.1 == 8) || (s.1 == 16)))))&&(f42 s.2.1 1 4&&((s.2.2.1 == 4) || ((s.2.2.1 == 8) || ((s.2.2.1 == 16) || (s.2.2.1 == 32)))))):=by
 unfold f237
 generalize f42 s.2.1 1 4 = w
 generalize (s.1 == 1) = a1
 generalize (s.1 == 2) = a2
 generalize (s.1 == 4) = a3
 generalize (s.1 == 8) = a4
 generalize (s.1 == 16) = a5
 generalize (s.2.2.1 == 4) = l1
 generalize (s.2.2.1 == 8) = l2
 generalize (s.2.2.1 == 16) = l3
 generalize (s.2.2.1 == 32) = l4
 cases a1 <;> cases a2 <;> cases a3 <;> cases a4 <;> cases a5 <;> cases l1 <;> cases l2 <;> cases l3 <;> cases l4 <;> cases w <;> rfl
theorem f201_237 (s:Int×(Int×(Int×Unit))):f201 s = f237 s:=by
 rw [f237_eq]
 unfold f201
 rw [f157_42]
 have hs:(bif f42 s.1 1 16 then f300 s.1 else false) = ((s.1 == 1) || ((s.1 == 2) || ((s.1 == 4) || ((s.1 == 8) || (s.1 == 16))))):=by
  cases h:f42 s.1 1 16 with
  | true=>exact pow16 _ h
  | false =>
    have h':¬ (1≤s.1 ∧ s.1≤16):=fun q=>by rw [(f42_iff _ _ _).mpr q] at h; cases h
    have e:∀ k:Int,1≤k→k≤16→(s.1 == k) = false:=fun k h1 h2=>by simp; omega
    rw [e 1 (by omega) (by omega),e 2 (by omega) (by omega),e 4 (by omega) (by omega),e 8 (by omega) (by omega),e 16 (by omega) (by omega)]
    rfl
 have hl:(bif f42 s.2.2.1 4 32 then f300 s.2.2.1 else false) = ((s.2.2.1 == 4) || ((s.2.2.1 == 8) || ((s.2.2.1 == 16) || (s.2.2.1 == 32)))):=by
  cases h:f42 s.2.2.1 4 32 with
  | true=>exact pow32 _ h
  | false =>
    have h':¬ (4≤s.2.2.1 ∧ s.2.2.1≤32):=fun q=>by rw [(f42_iff _ _ _).mpr q] at h; cases h
    have e:∀ k:Int,4≤k→k≤32→(s.2.2.1 == k) = false:=fun k h1 h2=>by simp; omega
    rw [e 4 (by omega) (by omega),e 8 (by omega) (by omega),e 16 (by omega) (by omega),e 32 (by omega) (by omega)]
    rfl
 rw [← hs,← hl]
 generalize f42 s.1 1 16 = p1
 generalize f300 s.1 = p2
 generalize f42 s.2.1 1 4 = p3
 generalize f42 s.2.2.1 4 32 = p4
 generalize f300 s.2.2.1 = p5
 cases p1 <;> cases p2 <;> cases p3 <;> cases p4 <;> cases p5 <;> rfl
theorem chan_of {c:Ch} (h:f328 c = true):(c.1 = 0 ∧ c.2.2.2.1 = 0) ∨ (c.1 = 1 ∧ 1≤c.2.2.2.1 ∧ c.2.2.2.1≤8):=by
 unfold f328 at h
 have step:∀ {b:Bool} {x:Bool},(bif b then false else x) = true→x = true:=fun {b x} h=>by cases b <;> simp_all
 have h:=step (step (step h))
 by_cases h0:c.1 = 0
 · rw [bif_t (by simpa using h0)] at h
   by_cases hd:c.2.2.2.1 = 0
   · exact .inl ⟨h0,hd⟩
   · rw [bif_f (by simpa using hd),bif_f (by simp [h0])] at h
     cases h
 · rw [bif_f (by simpa using h0)] at h
   by_cases h1:c.1 = 1
   · rw [bif_t (by simpa using h1)] at h
     exact .inr ⟨h1,(f42_iff _ _ _).mp h⟩
   · rw [bif_f (by simpa using h1)] at h
     cases h
theorem good (x:L Ch) (hx:x.len≤8) (c:Co) (hc:1≤c.1 ∧ c.1≤20) (n:Int) (hok:∀ j,j < x.len→f328 (x.get j) = true) :
 ∃ m,fixO s293_L0 ((x,((),(n,((0:Int),())))),(c,())) = some (.inr (.inl ((m,()),()))) ∧ fixO s210_L0 (((),(n,(x,((x.len:Int),((0:Int),()))))),(c,())) = some (.inl ((m,()),())):=by
 obtain ⟨d,e,h1,h2,m,rfl,rfl⟩:=fixO_sim (s1:=s293_L0) (s2:=s210_L0)
  (fun a b=>∃ (i:Nat) (n:Int),a = ((x,((),(n,((i:Int),())))),(c,())) ∧ b = (((),(n,(x,((x.len:Int),((i:Int),()))))),(c,())) ∧ i≤x.len)
  (fun d e=>∃ m,d = .inr (.inl ((m,()),())) ∧ e = .inl ((m,()),())) (fun a=>x.len - a.1.2.2.2.1.toNat) (by
   rintro _ _ ⟨i,n,rfl,rfl,hi⟩
   by_cases h:i < x.len
   · left
     have hb0:decide ((0:Int)≤(i:Int)) = true:=by simp
     have hb2:decide ((i:Int) < (x.len:Int)) = true:=by simpa using h
     have hf:=hok i h
     simp only [s293_L0,q293_L0,s210_L0,q210_L0,hb0,hb2,Bool.and_self,cond_true,wI_succ h (by omega:x.len≤2 ^ 47),tN,hf,Bool.not_true,cond_false]
     rcases chan_of hf with ⟨k0,d0⟩ | ⟨k1,d1,d2⟩
     · have e1:f311 (x.get i) = 1:=by unfold f311; rw [if_neg (by omega)]
       have e2:wI (c.1 * 1) = c.1:=by rw [Int.mul_one]; exact wI_id (by omega) (by omega)
       rw [bif_t (by simpa using k0),e1,e2]
       exact ⟨_,_,rfl,rfl,⟨i + 1,_,rfl,rfl,h⟩,by simp only [tN]; omega⟩
     · have e1:f311 (x.get i) = (x.get i).2.2.2.1:=by unfold f311; split <;> omega
       rw [bif_f (by simp [k1]),e1]
       exact ⟨_,_,rfl,rfl,⟨i + 1,_,rfl,rfl,h⟩,by simp only [tN]; omega⟩
   · right
     simp only [s293_L0,q293_L0,s210_L0,q210_L0]
     rw [bif_f (by simp; omega),bif_f (by simp; omega)]
     exact ⟨_,_,rfl,rfl,n,rfl,rfl⟩) ((x,((),(n,((0:Int),())))),(c,())) (((),(n,(x,((x.len:Int),((0:Int),()))))),(c,())) ⟨0,n,rfl,rfl,Nat.zero_le _⟩
 exact ⟨m,h1,h2⟩
abbrev Sl:Type:=Int×(Int×(Int×Unit))
abbrev Wi:Type:=Int×(Int×(Int×Unit))
abbrev PR:Type:=ByteArray×(Int×((Int×(Int×Unit))×((L Wi)×Unit)))
abbrev Tb:Type:=Int×((Int×(Int×(Int×Unit)))×(Int×(Co×(Int×(Int×(Int×((L PR)×((L Int)×((L Ch)×((L Sl)×Unit))))))))))
def tParts (t:Tb):L PR:=t.2.2.2.2.2.2.2.1
def tDevs (t:Tb):L Int:=t.2.2.2.2.2.2.2.2.1
def tChans (t:Tb):L Ch:=t.2.2.2.2.2.2.2.2.2.1
def tSlots (t:Tb):L Sl:=t.2.2.2.2.2.2.2.2.2.2.1
theorem devs (t:Tb) (hd:(tDevs t).len≤8) :
 ((∃ i,i < (tDevs t).len ∧ f42 ((tDevs t).get i) 0 (wI (((tParts t).len:Int) - 1)) = false) ∧ True) ∨ (True ∧ True ∧ g205_206 (tDevs t) (((tParts t).len:Int),()) = some ((false,()),())):=by
 have h2:=scan (step:=s309_206_L0) (fun i=>((tDevs t,((((tParts t).len:Int),()),(((tDevs t).len:Int),((i:Int),())))),())) (tDevs t).len (fun i=>f42 ((tDevs t).get i) 0 (wI (((tParts t).len:Int) - 1))) (fun i=>.inl (((i:Int),()),())) (.inr (.inl ((),())))
  (fun i hi ho=>by
   have ho':f206 ((tDevs t).get ((i:Int)).toNat) ((tParts t).len:Int) = false:=by unfold f206; rw [tN,f157_42,ho]; rfl
   simp only [s309_206_L0,q309_206_L0]
   refine (bif_t (idx_lt hi)).trans ((bif_t (idx_in hi)).trans ((bif_f ho').trans ?_))
   rw [wI_succ hi (by omega)])
  (fun i hi ho=>by
   have ho':f206 ((tDevs t).get ((i:Int)).toNat) ((tParts t).len:Int) = true:=by unfold f206; rw [tN,f157_42,ho]; rfl
   simp only [s309_206_L0,q309_206_L0]
   exact (bif_t (idx_lt hi)).trans ((bif_t (idx_in hi)).trans (bif_t ho')))
  (by
   simp only [s309_206_L0,q309_206_L0]
   exact bif_f (idx_end (tDevs t).len))
 unfold g205_206 g309_206
 rcases h2 with ⟨k,hk,hok,_,_⟩ | ⟨_,e2⟩
 · exact .inl ⟨⟨k,hk,hok⟩,trivial⟩
 · refine .inr ⟨trivial,trivial,?_⟩
   have e2':fixO s309_206_L0 ((tDevs t,((((tParts t).len:Int),()),(((tDevs t).len:Int),((0:Int),())))),()) = some (.inr (.inl ((),()))):=e2
   rw [e2']
   simp
theorem f209_328 (c:Ch):f209 c = f328 c:=rfl
theorem f208_iff (c:Ch) (n:Int):f208 c n = false ↔ f328 c = true ∧ c.2.1 < n ∧ c.2.2.1 < n:=by
 unfold f208
 rw [f209_328]
 cases h:f328 c with
 | false=>simp
 | true =>
   rw [bif_f (show (!true) = false from rfl)]
   by_cases h1:c.2.1 ≥ n
   · rw [bif_t (by simpa using h1)]; simp; omega
   · rw [bif_f (by simpa using h1)]; simp; omega
theorem f312_iff (t:Tb) (s:Sl) (e:Int) (h1:1≤t.2.2.2.2.1 ∧ t.2.2.2.2.1≤5000) (h2:1≤t.2.2.2.2.2.1 ∧ t.2.2.2.2.2.1≤5000) (h3:1≤t.2.2.2.2.2.2.1 ∧ t.2.2.2.2.2.2.1≤5000) :
 f312 t s e = true ↔ s.2.2.1 > t.2.2.2.2.1 + t.2.2.2.2.2.1 ∧ s.2.2.1≤t.2.2.2.2.2.2.1 ∧ s.2.1 ≥ e ∧ s.2.1≤t.2.2.2.2.2.2.1 - s.2.2.1:=by
 unfold f312
 rw [wI_id (n:=t.2.2.2.2.1 + t.2.2.2.2.2.1) (by omega) (by omega)]
 by_cases a:s.2.2.1 > t.2.2.2.2.1 + t.2.2.2.2.2.1
 · rw [bif_t (by simpa using a)]
   by_cases b:s.2.2.1≤t.2.2.2.2.2.2.1
   · rw [bif_t (by simpa using b),wI_id (by omega) (by omega)]
     by_cases c:s.2.1 ≥ e
     · rw [bif_t (by simpa using c)]; simp; omega
     · rw [bif_f (by simpa using c)]; simp; omega
   · rw [bif_f (by simpa using b)]; simp; omega
 · rw [bif_f (by simpa using a)]; simp; omega
def SlotsIn (t:Tb):Prop :=
 (∀ k,k < (tSlots t).len→f42 ((tSlots t).get k).1 0 (wI (((tParts t).len:Int) - 1)) = true ∧ t.2.2.2.2.1 + t.2.2.2.2.2.1 < ((tSlots t).get k).2.2.1 ∧ 0≤((tSlots t).get k).2.1 ∧ ((tSlots t).get k).2.1 + ((tSlots t).get k).2.2.1≤t.2.2.2.2.2.2.1) ∧
 ∀ k m,k < m→m < (tSlots t).len→((tSlots t).get k).2.1 + ((tSlots t).get k).2.2.1≤((tSlots t).get m).2.1
def okFrom (s:ByteArray) (i:Int):Prop:=∀ j:Int,i≤j→j < s.size→97≤bt s j ∧ bt s j≤122
theorem okFrom_step {s:ByteArray} {i:Int} (h:97≤bt s i ∧ bt s i≤122):okFrom s (i + 1)→okFrom s i:=by
 intro h' j h1 h2
 by_cases e:j = i
 · subst e; exact h
 · exact h' j (by omega) h2
theorem okFrom_back {s:ByteArray} {i:Int} (h':okFrom s i):okFrom s (i + 1):=fun j h1 h2=>h' j (by omega) h2
theorem end190 (s:ByteArray) (hs:s.size≤2 ^ 47):∃ b,g363 s = some ((b,()),()) ∧ (b = true ↔ okFrom s 0 ∧ 1≤s.size ∧ s.size≤12):=by
 have h47:(2:Nat) ^ 47 = 140737488355328:=by decide
 rw [h47] at hs
 obtain ⟨d,h1,h2⟩:=fixO_rel (step:=s363_L0) (fun x=>((s.size:Int) - x.1.2.2.1).toNat) (fun x=>x.1.1 = s ∧ x.1.2.1 = s.size ∧ 0≤x.1.2.2.1 ∧ x.1.2.2.1≤s.size)
  (fun x d=>match d with
   | .inl y=>y.1.1 = false ∧ ¬ okFrom s x.1.2.2.1
   | .inr (.inl y)=>y.1.1 = s ∧ okFrom s x.1.2.2.1
   | .inr (.inr _)=>False) (by
   rintro ⟨⟨(t:ByteArray),(n:Int),(i:Int),⟨⟩⟩,⟨⟩⟩ ⟨h1,hn,h2,h3⟩
   simp only at h1 h2 h3 hn
   subst h1 hn
   simp only [s363_L0,q363_L0]
   by_cases hi:i < t.size
   · rw [bif_t (by simpa using hi),bif_t (by simp; omega)]
     rw [wI_id (n:=i + 1) (by omega) (by omega)]
     by_cases hr:97≤bt t i ∧ bt t i≤122
     · left
       rw [bif_f (by simp; omega),bif_t (by simp; omega),bif_f (by simp; omega)]
       refine ⟨_,rfl,⟨rfl,rfl,by simp only; omega,by simp only; omega⟩,by simp only; omega,fun d hd=>?_⟩
       match d,hd with
       | .inl y,hd=>exact ⟨hd.1,fun h=>hd.2 (okFrom_back h)⟩
       | .inr (.inl y),hd=>exact ⟨hd.1,okFrom_step hr hd.2⟩
     · right
       by_cases h97d:bt t i < 97
       · rw [bif_t (by simpa using h97d)]
         exact ⟨_,rfl,rfl,fun h=>hr (h i (Int.le_refl _) hi)⟩
       · rw [bif_f (by simp; omega),bif_t (by simp; omega),bif_t (by simp; omega)]
         exact ⟨_,rfl,rfl,fun h=>hr (h i (Int.le_refl _) hi)⟩
   · right
     rw [bif_f (by simp; omega)]
     exact ⟨_,rfl,rfl,fun j h4 h5=>by omega⟩) ((s,s.size,0,()),()) ⟨rfl,rfl,by simp,by simp⟩
 unfold g363
 rw [h1]
 simp only [oB]
 match d,h2 with
 | .inl y,h2=>exact ⟨_,rfl,by rw [h2.1]; simp only [Bool.false_eq_true,false_iff]; exact fun h=>h2.2 h.1⟩
 | .inr (.inl y),h2 =>
   refine ⟨_,rfl,?_⟩
   rw [h2.1]
   unfold f157
   by_cases h0:1≤s.size
   · rw [bif_t (by simp; omega)]
     simp only [decide_eq_true_eq]
     exact ⟨fun h=>⟨h2.2,h0,by omega⟩,fun h=>by omega⟩
   · rw [bif_f (by simp; omega)]
     simp only [Bool.false_eq_true,false_iff]
     exact fun h=>h0 h.2.1
theorem policies (p:Int×(Int×Unit)):f303 p = f261 p:=rfl
theorem bif_and {b x:Bool}:(bif b then x else false) = (b&&x):=by cases b <;> rfl
noncomputable def f326 (w:Wi):Bool:=f304 w
theorem f326_iff (w:Wi):f326 w = true ↔ (0≤w.1 ∧ w.1≤2048) ∧ (4≤w.2.1 ∧ w.2.1≤2048) ∧ Int.tmod w.1 4 = 0 ∧ Int.tmod w.2.1 4 = 0 ∧ w.1 + w.2.1≤2048 ∧ (1≤w.2.2.1 ∧ w.2.2.1≤7):=by
 unfold f326 f304
 rw [f157_42]
 simp only [bif_and,Bool.and_eq_true,f42_iff,beq_iff_eq]
 constructor
 · rintro ⟨h1,h2,h3,h4,h5⟩
   rw [wI_id (by omega) (by omega)] at h3
   exact ⟨by omega,h1,h4,h2,by omega,h5⟩
 · rintro ⟨h1,h2,h3,h4,h5,h6⟩
   refine ⟨h2,h4,?_,h3,h6⟩
   rw [wI_id (by omega) (by omega)]
   omega
theorem f304_326 (w:Wi):f304 w = f326 w:=rfl
theorem f307_iff (v w:Wi) (hv:f326 v = true) (hw:f326 w = true):f307 v w = true ↔ v.1 + v.2.1≤w.1 ∨ w.1 + w.2.1≤v.1:=by
 have a:=(f326_iff v).mp hv
 have b:=(f326_iff w).mp hw
 unfold f307
 rw [wI_id (n:=v.1 + v.2.1) (by omega) (by omega),wI_id (n:=w.1 + w.2.1) (by omega) (by omega)]
 by_cases h:v.1 + v.2.1≤w.1
 · rw [bif_t (by simpa using h)]; simp; omega
 · rw [bif_f (by simpa using h)]; simp; omega
theorem f369_iff (w:Wi) (x:Int) (hw:f326 w = true):f369 w x = true ↔ w.1≤x ∧ x < w.1 + w.2.1:=by
 have b:=(f326_iff w).mp hw
 unfold f369
 rw [wI_id (n:=w.1 + w.2.1) (by omega) (by omega)]
 by_cases h:x ≥ w.1
 · rw [bif_t (by simpa using h)]; simp; omega
 · rw [bif_f (by simpa using h)]; simp; omega
theorem named (t:Tb) (hl:(tParts t).len≤2 ^ 47) (s:ByteArray):∃ n:Int,g302 t s = some ((n,()),()) ∧ ((∃ i:Nat,n = i ∧ i < (tParts t).len ∧ strEq ((tParts t).get i).1 s = true ∧ ∀ j,j < i→strEq ((tParts t).get j).1 s = false) ∨ (n = -1 ∧ ∀ i,i < (tParts t).len→strEq ((tParts t).get i).1 s = false)):=by
 have h:=index_loop (step:=s364_365_L0) (x:=tParts t) (c:=(s,())) (fun i=>strEq ((tParts t).get i).1 s) (fun i hi=>by
  simp only [s364_365_L0,q364_365_L0]
  refine (bif_t (idx_lt hi)).trans ((bif_t (idx_in hi)).trans ?_)
  rw [wI_succ hi hl,tN]
  by_cases hf:strEq ((tParts t).get i).1 s = true
  · rw [if_pos hf]; exact bif_t hf
  · rw [if_neg hf]; exact bif_f (show strEq ((tParts t).get i).1 s = false by simpa using hf)) (by
  simp only [s364_365_L0,q364_365_L0]
  exact bif_f (idx_end (tParts t).len))
 unfold g302 g364_365
 rcases h with ⟨i,h1,h2,h3,h4⟩ | ⟨h1,h2⟩
 · have h4':fixO s364_365_L0 ((t.2.2.2.2.2.2.2.1,((s,()),((t.2.2.2.2.2.2.2.1.len:Int),((0:Int),())))),()) = some (.inl (((i:Int),()),())):=h4
   rw [h4']
   exact ⟨i,rfl,.inl ⟨i,rfl,h1,h2,h3⟩⟩
 · have h2':fixO s364_365_L0 ((t.2.2.2.2.2.2.2.1,((s,()),((t.2.2.2.2.2.2.2.1.len:Int),((0:Int),())))),()) = some (.inr (.inl ((),()))):=h2
   rw [h2']
   exact ⟨-1,rfl,.inr ⟨rfl,h1⟩⟩
def Tail (t:Tb):Prop :=
 (tDevs t).len≤8 ∧ (tChans t).len≤8 ∧ (∀ i,i < (tDevs t).len→f42 ((tDevs t).get i) 0 (wI (((tParts t).len:Int) - 1)) = true) ∧
 (∀ i,i < (tChans t).len→f328 ((tChans t).get i) = true ∧ ((tChans t).get i).2.1 < ((tParts t).len:Int) ∧ ((tChans t).get i).2.2.1 < ((tParts t).len:Int)) ∧ SlotsIn t ∧ (1≤(tSlots t).len ∧ (tSlots t).len≤16) ∧
 ∃ n:Int,g293 t.2.2.2.1 t.2.1 (tChans t) = some ((n,()),()) ∧ g210 t.2.2.2.1 t.2.1 (tChans t) = some ((n,()),()) ∧ t.2.2.2.2.1 ≥ n
def toL {α:Type} (x:L α):List α:=(List.range x.len).map x.get
theorem toL_len {α:Type} (x:L α):(toL x).length = x.len:=by simp [toL]
theorem toL_get {α:Type} (x:L α) (i:Nat):(toL x)[i]? = if i < x.len then some (x.get i) else none:=by
 unfold toL
 rw [List.getElem?_map]
 by_cases h:i < x.len
 · rw [if_pos h,List.getElem?_range h]; rfl
 · rw [if_neg h,List.getElem?_eq_none (by simpa using h)]; rfl
theorem toL_app {α:Type} (a b:L α):toL (L.app a b) = toL a ++ toL b:=by
 apply List.ext_getElem?
 intro i
 rw [toL_get,List.getElem?_append,toL_len,toL_get,toL_get]
 show (if i < a.len + b.len then some (bif Nat.blt i a.len then a.get i else b.get (i - a.len)) else none) = _
 by_cases h:i < a.len
 · have:Nat.blt i a.len = true:=by simpa [Nat.blt_eq] using h
   rw [if_pos (by omega),if_pos h,if_pos h,this]; rfl
 · have:Nat.blt i a.len = false:=by
    cases hb:Nat.blt i a.len with
    | false=>rfl
    | true=>exact absurd (by simpa [Nat.blt_eq] using hb) h
   rw [if_neg h,this]
   by_cases h2:i < a.len + b.len
   · rw [if_pos h2,if_pos (by omega)]; rfl
   · rw [if_neg h2,if_neg (by omega)]
def winsOf (x:L PR) (n:Nat):List Wi:=((toL x).take n).flatMap fun p=>toL p.2.2.2.1
theorem winsOf_succ (x:L PR) {n:Nat} (h:n < x.len):winsOf x (n + 1) = winsOf x n ++ toL (x.get n).2.2.2.1:=by
 unfold winsOf
 have hn:n < (toL x).length:=by rw [toL_len]; exact h
 rw [List.take_succ_eq_append_getElem hn,List.flatMap_append]
 have:(toL x)[n] = x.get n:=by
  have:=toL_get x n
  rw [if_pos h,List.getElem?_eq_getElem hn] at this
  exact Option.some.inj this
 rw [this]
 simp
def apart (v w:Wi):Prop:=v.1 + v.2.1≤w.1 ∨ w.1 + w.2.1≤v.1
theorem toL_mem {α:Type} (x:L α) (a:α):a ∈ toL x ↔ ∃ i,i < x.len ∧ x.get i = a:=by
 unfold toL
 rw [List.mem_map]
 constructor
 · rintro ⟨i,hi,rfl⟩; exact ⟨i,List.mem_range.mp hi,rfl⟩
 · rintro ⟨i,hi,rfl⟩; exact ⟨i,List.mem_range.mpr hi,rfl⟩
theorem toL_getElem {α:Type} (x:L α) (i:Nat) (h:i < (toL x).length):(toL x)[i] = x.get i:=by
 have:=toL_get x i
 rw [List.getElem?_eq_getElem h,if_pos (by rw [toL_len] at h; exact h)] at this
 exact Option.some.inj this
theorem toL_take_succ {α:Type} (x:L α) {i:Nat} (h:i < x.len):(toL x).take (i + 1) = (toL x).take i ++ [x.get i]:=by
 have hn:i < (toL x).length:=by rw [toL_len]; exact h
 rw [List.take_succ_eq_append_getElem hn,toL_getElem]
theorem toL_take_len {α:Type} (x:L α):(toL x).take x.len = toL x:=by
 rw [← toL_len x]; exact List.take_length
theorem winsOf_prefix (x:L PR) {i n:Nat} (h:i≤n) (hn:n≤x.len):∃ r,winsOf x n = winsOf x i ++ r:=by
 induction n with
 | zero=>have:i = 0:=by omega
         subst this; exact ⟨[],(List.append_nil _).symm⟩
 | succ n ih =>
   by_cases e:i = n + 1
   · subst e; exact ⟨[],(List.append_nil _).symm⟩
   · obtain ⟨r,hr⟩:=ih (by omega) (by omega)
     refine ⟨r ++ toL (x.get n).2.2.2.1,?_⟩
     rw [winsOf_succ x (by omega),hr,List.append_assoc]
theorem overlaps (a:L Wi) (ha:a.len≤2 ^ 47) (w:Wi) (hw:f326 w = true) (hg:∀ v,v ∈ toL a→f326 v = true) :
 (g305_306 a (w,()) = some ((true,()),()) ∧ ¬ ∀ v,v ∈ toL a→apart v w) ∨ (g305_306 a (w,()) = some ((false,()),()) ∧ ∀ v,v ∈ toL a→apart v w):=by
 have h:=index_loop (step:=s366_306_L0) (x:=a) (c:=(w,())) (fun i=>f306 (a.get i) w) (fun i hi=>by
  simp only [s366_306_L0,q366_306_L0]
  refine (bif_t (idx_lt hi)).trans ((bif_t (idx_in hi)).trans ?_)
  rw [wI_succ hi ha,tN]
  by_cases hf:f306 (a.get i) w = true
  · rw [if_pos hf]; exact bif_t hf
  · rw [if_neg hf]; exact bif_f (by simpa using hf)) (by
  simp only [s366_306_L0,q366_306_L0]
  exact bif_f (idx_end a.len))
 have hf:∀ i,i < a.len→(f306 (a.get i) w = false ↔ apart (a.get i) w):=fun i hi=>by
  have:=f307_iff (a.get i) w (hg _ ((toL_mem _ _).mpr ⟨i,hi,rfl⟩)) hw
  unfold f306 apart
  rw [← this]
  cases f307 (a.get i) w <;> simp
 unfold g305_306 g366_306
 rcases h with ⟨i,h1,h2,h3,h4⟩ | ⟨h1,h2⟩
 · left
   rw [h4]
   refine ⟨by simp,fun q=>?_⟩
   have:=(hf i h1).mpr (q _ ((toL_mem _ _).mpr ⟨i,h1,rfl⟩))
   rw [this] at h2; cases h2
 · right
   rw [h2]
   refine ⟨by simp,fun v hv=>?_⟩
   obtain ⟨i,hi,rfl⟩:=(toL_mem _ _).mp hv
   exact (hf i hi).mp (h1 i hi)
theorem winAt (a:L Wi) (ha:a.len≤2 ^ 47) (x:Int) :
 (∃ i:Nat,i < a.len ∧ f369 (a.get i) x = true ∧ (∀ j,j < i→f369 (a.get j) x = false) ∧ g344 a x = some (((i:Int),()),())) ∨ ((∀ i,i < a.len→f369 (a.get i) x = false) ∧ g344 a x = some ((-1,()),())):=by
 have e95:∀ w:Wi,f371 w x = f369 w x:=fun w=>rfl
 have h:=index_loop (step:=s366_371_L0) (x:=a) (c:=(x,())) (fun i=>f369 (a.get i) x) (fun i hi=>by
  simp only [s366_371_L0,q366_371_L0]
  refine (bif_t (idx_lt hi)).trans ((bif_t (idx_in hi)).trans ?_)
  rw [wI_succ hi ha,tN]
  by_cases hf:f369 (a.get i) x = true
  · rw [if_pos hf]; exact bif_t hf
  · rw [if_neg hf]
    have hf':f369 (a.get i) x = false:=by simpa using hf
    exact bif_f hf') (by
  simp only [s366_371_L0,q366_371_L0]
  exact bif_f (idx_end a.len))
 unfold g344 g366_371
 rcases h with ⟨i,h1,h2,h3,h4⟩ | ⟨h1,h2⟩
 · left
   rw [h4]
   exact ⟨i,h1,h2,h3,rfl⟩
 · right
   rw [h2]
   exact ⟨h1,rfl⟩
def ins (w:Wi) (x:Int):Prop:=f369 w x = true ∧ wI (Int.tdiv w.2.2.1 4) = 1
theorem perm4 (n:Int) (h:1≤n ∧ n≤7):(andOf .i64 n 4 != 0) = (wI (Int.tdiv n 4) == 1):=by
 obtain ⟨h1,h2⟩:=h
 have:n = 1 ∨ n = 2 ∨ n = 3 ∨ n = 4 ∨ n = 5 ∨ n = 6 ∨ n = 7:=by omega
 rcases this with rfl | rfl | rfl | rfl | rfl | rfl | rfl <;> decide +kernel
theorem runs (p:PR) (hl:p.2.2.2.1.len≤2 ^ 47) (x:Int) (hg:∀ i,i < p.2.2.2.1.len→f326 (p.2.2.2.1.get i) = true) (hp:(toL p.2.2.2.1).Pairwise apart) :
 ∃ b,g308 p x = some ((b,()),()) ∧ (b = true ↔ ∃ i,i < p.2.2.2.1.len ∧ ins (p.2.2.2.1.get i) x):=by
 unfold g308
 rcases winAt p.2.2.2.1 hl x with ⟨i,h1,h2,h3,h4⟩ | ⟨h1,h2⟩
 · rw [h4]
   refine ⟨andOf .i64 (p.2.2.2.1.get i).2.2.1 4 != 0,?_,?_⟩
   · simp only [oB]
     refine (bif_t (by simp)).trans ((bif_t (idx_in h1)).trans ?_)
     rw [tN]
   · rw [perm4 _ ((f326_iff _).mp (hg i h1)).2.2.2.2.2]
     constructor
     · intro h; exact ⟨i,h1,h2,by simpa using h⟩
     · rintro ⟨j,hj,q1,q2⟩
       have:j = i:=by
        by_cases e:j = i
        · exact e
        have a1:=(f369_iff _ x (hg i h1)).mp h2
        have a2:=(f369_iff _ x (hg j hj)).mp q1
        have hlen:(toL p.2.2.2.1).length = p.2.2.2.1.len:=toL_len _
        have hall:=List.pairwise_iff_getElem.mp hp
        rcases Nat.lt_or_gt_of_ne e with lt | gt
        · have:=hall j i (by rw [hlen]; exact hj) (by rw [hlen]; exact h1) lt
          rw [toL_getElem,toL_getElem] at this
          unfold apart at this
          omega
        · have:=hall i j (by rw [hlen]; exact h1) (by rw [hlen]; exact hj) gt
          rw [toL_getElem,toL_getElem] at this
          unfold apart at this
          omega
       subst this
       simpa using q2
 · rw [h2]
   refine ⟨false,?_,?_⟩
   · simp only [oB]
     exact bif_f (by decide)
   · simp only [Bool.false_eq_true,false_iff,not_exists,not_and]
     intro i hi q
     have q1:=q.1
     rw [h1 i hi] at q1
     cases q1
noncomputable def nm (s:ByteArray):Bool:=open Classical in decide (g301 s = some ((true,()),()))
theorem nm_is (s:ByteArray) (hw:s.size≤2 ^ 47):∃ b,(b = true ↔ okFrom s 0 ∧ 1≤s.size ∧ s.size≤12) ∧ nm s = decide (b = true ∧ s.size≤8) ∧ g301 s = some ((nm s,()),()):=by
 obtain ⟨b,e,hb⟩:=end190 s hw
 have h:g301 s = some ((decide (b = true ∧ s.size≤8),()),()):=by
  unfold g301
  rw [e]
  simp only [oB]
  cases b with
  | true=>simp; omega
  | false=>simp
 have k:nm s = decide (b = true ∧ s.size≤8):=by
  unfold nm
  rw [h]
  cases decide (b = true ∧ s.size≤8) <;> simp
 exact ⟨b,hb,k,by rw [k]; exact h⟩
theorem nm_of (s:ByteArray) (hw:s.size≤2 ^ 47):True ∧ g301 s = some ((nm s,()),()):=by
 obtain ⟨b,_,_,h⟩:=nm_is s hw
 exact ⟨trivial,h⟩
theorem nmOk (s:ByteArray) (h1:1≤s.size) (h2:s.size≤8) (h:∀ k:Nat,k < s.size→97≤bt s k ∧ bt s k≤122):nm s = true:=by
 obtain ⟨b,hb,k,_⟩:=nm_is s (Nat.le_trans h2 (by decide))
 rw [k,decide_eq_true_eq]
 exact ⟨hb.mpr ⟨fun j j0 j1=>by have:=h j.toNat (by omega); rwa [Int.toNat_of_nonneg j0] at this,h1,by omega⟩,h2⟩
def PartG (p:PR) (mem:Int):Prop :=
 nm p.1 = true ∧ f261 p.2.2.1 = true ∧ (1≤p.2.2.2.1.len ∧ p.2.2.2.1.len≤4) ∧ (∀ j,j < p.2.2.2.1.len→f326 (p.2.2.2.1.get j) = true ∧ (p.2.2.2.1.get j).1 + (p.2.2.2.1.get j).2.1≤mem) ∧
  (∃ j,j < p.2.2.2.1.len ∧ ins (p.2.2.2.1.get j) p.2.1) ∧ Int.tmod p.2.1 4 = 0
theorem toL_nil:toL (nilL (.pair (.int .i64) (.pair (.int .i64) (.pair (.int .i64) .unit)))) = ([]:List Wi):=rfl
theorem inner (t:Tb) (p:PR) (n i:Int) (a0:L Wi) (hl:p.2.2.2.1.len≤4) (ha0:a0.len≤20) (hg0:∀ v,v ∈ toL a0→f326 v = true) (hp0:(toL a0).Pairwise apart) :
 ∃ d,fixO s204_L2 (((),((),((),(tParts t,(n,(i,(p.2.2.2.1,((p.2.2.2.1.len:Int),((0:Int),()))))))))),(t,(a0,(p,())))) = some d ∧
   ((d = .inl ((false,()),()) ∧ ¬ ((∀ j,j < p.2.2.2.1.len→f326 (p.2.2.2.1.get j) = true ∧ (p.2.2.2.1.get j).1 + (p.2.2.2.1.get j).2.1≤t.1) ∧ (toL a0 ++ toL p.2.2.2.1).Pairwise apart)) ∨
    ∃ a1:L Wi,d = .inr (.inl (((),((),((),(tParts t,(n,(i,())))))),(t,(a1,(p,()))))) ∧ toL a1 = toL a0 ++ toL p.2.2.2.1 ∧
     (∀ j,j < p.2.2.2.1.len→f326 (p.2.2.2.1.get j) = true ∧ (p.2.2.2.1.get j).1 + (p.2.2.2.1.get j).2.1≤t.1) ∧ (toL a1).Pairwise apart):=by
 generalize hwn:p.2.2.2.1 = wn at *
 refine fixO_rel (step:=s204_L2) (fun x=>wn.len - x.1.2.2.2.2.2.2.2.2.1.toNat)
  (fun x=>∃ (j:Nat) (a:L Wi),x = (((),((),((),(tParts t,(n,(i,(wn,((wn.len:Int),((j:Int),()))))))))),(t,(a,(p,())))) ∧ j≤wn.len ∧ toL a = toL a0 ++ (toL wn).take j ∧ a.len = a0.len + j ∧
   (∀ k,k < j→f326 (wn.get k) = true ∧ (wn.get k).1 + (wn.get k).2.1≤t.1) ∧ (toL a).Pairwise apart)
  (fun _ d=>(d = .inl ((false,()),()) ∧ ¬ ((∀ j,j < wn.len→f326 (wn.get j) = true ∧ (wn.get j).1 + (wn.get j).2.1≤t.1) ∧ (toL a0 ++ toL wn).Pairwise apart)) ∨
   ∃ a1:L Wi,d = .inr (.inl (((),((),((),(tParts t,(n,(i,())))))),(t,(a1,(p,()))))) ∧ toL a1 = toL a0 ++ toL wn ∧
    (∀ j,j < wn.len→f326 (wn.get j) = true ∧ (wn.get j).1 + (wn.get j).2.1≤t.1) ∧ (toL a1).Pairwise apart) ?_ _ ⟨0,a0,rfl,Nat.zero_le _,by simp,rfl,fun k hk=>absurd hk (Nat.not_lt_zero _),hp0⟩
 rintro _ ⟨j,a,rfl,hj,ht,hlen,hg,hp⟩
 have e110:∀ w,f304 w = f326 w:=f304_326
 by_cases h:j < wn.len
 · simp only [s204_L2,q204_L2]
   rw [bif_t (idx_lt h),bif_t (idx_in h),wI_succ h (by omega),tN,e110]
   cases g1:f326 (wn.get j) with
   | false =>
     right
     exact ⟨_,rfl,.inl ⟨rfl,fun q=>by have:=(q.1 j h).1; rw [this] at g1; cases g1⟩⟩
   | true =>
     have hw:=(f326_iff _).mp g1
     rw [bif_f (show (!true) = false from rfl),wI_id (by omega) (by omega)]
     cases g2:decide ((wn.get j).1 + (wn.get j).2.1 > t.1) with
     | true =>
       right
       refine ⟨_,rfl,.inl ⟨rfl,fun q=>?_⟩⟩
       have:=(q.1 j h).2
       have:=of_decide_eq_true g2
       omega
     | false =>
       have g2':=of_decide_eq_false g2
       rw [bif_f rfl]
       have hga:∀ v,v ∈ toL a→f326 v = true:=fun v hv=>by
        rw [ht,List.mem_append] at hv
        rcases hv with hv | hv
        · exact hg0 v hv
        · obtain ⟨k,hk,rfl⟩:=(toL_mem _ _).mp (List.mem_of_mem_take hv)
          obtain ⟨k',hk',e⟩:=List.mem_iff_getElem.mp hv
          rw [List.getElem_take,toL_getElem] at e
          rw [← e]
          exact (hg k' (by rw [List.length_take] at hk'; omega)).1
       rcases overlaps a (by omega) (wn.get j) g1 hga with ⟨o1,o2⟩ | ⟨o1,o2⟩
       · rw [o1]
         right
         refine ⟨_,rfl,.inl ⟨rfl,fun q=>o2 fun v hv=>?_⟩⟩
         have hq:=q.2
         rw [← toL_take_len wn] at hq
         have hpre:∃ r,toL wn = (toL wn).take j ++ wn.get j::r:=by
          have hn:j < (toL wn).length:=by rw [toL_len]; exact h
          refine ⟨(toL wn).drop (j + 1),?_⟩
          rw [← toL_getElem wn j hn,List.getElem_cons_drop,List.take_append_drop]
         rw [toL_take_len] at hq
         obtain ⟨r,hr⟩:=hpre
         rw [hr,← List.append_assoc,← ht,List.pairwise_append] at hq
         exact hq.2.2 v hv _ (List.mem_cons_self ..)
       · rw [o1]
         left
         simp only [oB,cond_false]
         have hm:decide (a.len + (L.of (Ty.zero (.pair (.int .i64) (.pair (.int .i64) (.pair (.int .i64) .unit)))) [wn.get j]).len≤most) = true:=by
          have h32:most = 4294967296:=rfl
          rw [h32]
          have:(L.of (Ty.zero (.pair (.int .i64) (.pair (.int .i64) (.pair (.int .i64) .unit)))) [wn.get j]).len = 1:=rfl
          rw [this]
          exact decide_eq_true (by omega)
         refine ⟨_,bif_t hm,⟨j + 1,_,rfl,h,?_,?_,?_,?_⟩,by simp only [tN]; omega,fun d hd=>hd⟩
         · rw [toL_app,ht,toL_take_succ wn h,List.append_assoc]; rfl
         · show a.len + 1 = _
           omega
         · intro k hk
           by_cases e:k = j
           · rw [e]; exact ⟨g1,by omega⟩
           · exact hg k (by omega)
         · rw [toL_app,List.pairwise_append]
           refine ⟨hp,?_,?_⟩
           · show List.Pairwise apart [wn.get j]
             exact List.pairwise_singleton _ _
           · intro v hv w hw'
             have:w = wn.get j:=List.mem_singleton.mp hw'
             rw [this]
             exact o2 v hv
 · right
   have:j = wn.len:=by omega
   subst this
   simp only [s204_L2,q204_L2]
   rw [bif_f (idx_end wn.len)]
   refine ⟨_,rfl,.inr ⟨a,rfl,?_,hg,hp⟩⟩
   rw [ht,toL_take_len]
def Parts (x:L PR) (mem:Int):Prop :=
 (∀ i,i < x.len→PartG (x.get i) mem ∧ ∀ q,q < i→strEq (x.get q).1 (x.get i).1 = false) ∧ (winsOf x x.len).Pairwise apart
theorem winsOf_good (x:L PR) (mem:Int) {n:Nat} (hn:n≤x.len) (h:∀ i,i < n→PartG (x.get i) mem):∀ v,v ∈ winsOf x n→f326 v = true:=by
 intro v hv
 unfold winsOf at hv
 rw [List.mem_flatMap] at hv
 obtain ⟨p,hp,hv⟩:=hv
 obtain ⟨k,hk,e⟩:=List.mem_iff_getElem.mp hp
 rw [List.getElem_take,toL_getElem] at e
 subst e
 obtain ⟨j,hj,rfl⟩:=(toL_mem _ _).mp hv
 exact ((h k (by rw [List.length_take] at hk; omega)).2.2.2.1 j hj).1
theorem strEq_self (s:ByteArray):strEq s s = true:=by unfold strEq; simp
theorem impParts (t:Tb) (hn:(tParts t).len≤6) (hs:∀ i,i < (tParts t).len→((tParts t).get i).1.size≤2 ^ 47) (hw:∀ i,i < (tParts t).len→((tParts t).get i).2.2.2.1.len≤2 ^ 47) :
 ∃ b,g204 t = some ((b,()),()) ∧ (b = true ↔ Parts (tParts t) t.1):=by
 generalize hx:tParts t = x at *
 have hx':t.2.2.2.2.2.2.2.1 = x:=hx
 obtain ⟨d,e1,e2⟩:=fixO_rel (step:=s204_L0) (fun a=>x.len - a.1.2.2.2.2.1.toNat)
  (fun a=>∃ (i:Nat) (all:L Wi),a = (((),(all,(x,((x.len:Int),((i:Int),()))))),(t,())) ∧ i≤x.len ∧ toL all = winsOf x i ∧ all.len≤4 * i ∧
   (∀ k,k < i→PartG (x.get k) t.1 ∧ ∀ q,q < k→strEq (x.get q).1 (x.get k).1 = false) ∧ (toL all).Pairwise apart)
  (fun _ d=>(d = .inl ((false,()),()) ∧ ¬ Parts x t.1) ∨ (d = .inr (.inl ((),())) ∧ Parts x t.1)) (by
   rintro _ ⟨i,all,rfl,hi,ht,hlen,hp,hap⟩
   by_cases h:i < x.len
   · simp only [s204_L0,q204_L0]
     rw [bif_t (idx_lt h),bif_t (idx_in h),tN,(nm_of _ (hs i h)).2]
     simp only [oB]
     cases g1:nm (x.get i).1 with
     | false =>
       right
       exact ⟨_,rfl,.inl ⟨rfl,fun q=>by have:=(q.1 i h).1.1; rw [this] at g1; cases g1⟩⟩
     | true =>
       rw [bif_f (show (!true) = false from rfl)]
       obtain ⟨n,n1,n2⟩:=named t (by rw [hx]; omega) (x.get i).1
       rw [hx] at n2
       rw [n1]
       simp only [oB]
       cases g2:decide (n < (i:Int)) with
       | true =>
         right
         refine ⟨_,rfl,.inl ⟨rfl,fun q=>?_⟩⟩
         have g2:=of_decide_eq_true g2
         rcases n2 with ⟨k,k1,k2,k3,_⟩ | ⟨_,k2⟩
         · have:=(q.1 i h).2 k (by omega)
           rw [k3] at this; cases this
         · have:=k2 i h
           rw [strEq_self] at this; cases this
       | false =>
         have g2:=of_decide_eq_false g2
         have hd:∀ q,q < i→strEq (x.get q).1 (x.get i).1 = false:=by
          rcases n2 with ⟨k,k1,_,_,k4⟩ | ⟨k1,_⟩
          · intro q hq; exact k4 q (by omega)
          · omega
         have e109:f303 (x.get i).2.2.1 = f261 (x.get i).2.2.1:=policies _
         rw [bif_f rfl,e109,f157_42]
         cases g3:f261 (x.get i).2.2.1 with
         | false =>
           right
           exact ⟨_,rfl,.inl ⟨rfl,fun q=>by have:=(q.1 i h).1.2.1; rw [this] at g3; cases g3⟩⟩
         | true =>
           rw [bif_f (show (!true) = false from rfl)]
           cases g4:f42 ((x.get i).2.2.2.1.len:Int) 1 4 with
           | false =>
             right
             refine ⟨_,rfl,.inl ⟨rfl,fun q=>?_⟩⟩
             have:=(q.1 i h).1.2.2.1
             rw [(f42_iff _ _ _).mpr (by omega)] at g4; cases g4
           | true =>
             have g4:1≤(x.get i).2.2.2.1.len ∧ (x.get i).2.2.2.1.len≤4:=by
              have:=(f42_iff _ _ _).mp g4
              omega
             rw [bif_f (show (!true) = false from rfl)]
             obtain ⟨d,i1,i2⟩:=inner t (x.get i) (x.len:Int) (i:Int) all g4.2 (by omega) (fun v hv=>winsOf_good x t.1 (n:=i) (by omega) (fun k hk=>(hp k hk).1) v (by rw [← ht]; exact hv)) hap
             rw [hx] at i1
             rw [i1]
             simp only [oB]
             have hsucc:=winsOf_succ x h
             rcases i2 with ⟨rfl,i2⟩ | ⟨a1,rfl,i2,i3,i4⟩
             · right
               refine ⟨_,rfl,.inl ⟨rfl,fun q=>i2 ⟨(q.1 i h).1.2.2.2.1,?_⟩⟩⟩
               obtain ⟨r,hr⟩:=winsOf_prefix x (i:=i + 1) (n:=x.len) (by omega) (Nat.le_refl _)
               have:=q.2
               rw [hr,List.pairwise_append] at this
               rw [ht,← hsucc]
               exact this.1
             · simp only [hx]
               cases g5:(Int.tmod (x.get i).2.1 4 != 0) with
               | true =>
                 right
                 refine ⟨_,rfl,.inl ⟨rfl,fun q=>?_⟩⟩
                 have:=(q.1 i h).1.2.2.2.2.2
                 rw [this] at g5; cases g5
               | false =>
                 have g5:Int.tmod (x.get i).2.1 4 = 0:=by simpa using g5
                 have hpw:(toL (x.get i).2.2.2.1).Pairwise apart:=by
                  rw [i2,List.pairwise_append] at i4
                  exact i4.2.1
                 obtain ⟨b,r1,r2⟩:=runs (x.get i) (hw i h) (x.get i).2.1 (fun j hj=>(i3 j hj).1) hpw
                 rw [bif_f rfl,r1]
                 simp only [oB]
                 cases b with
                 | false =>
                   right
                   refine ⟨_,rfl,.inl ⟨rfl,fun q=>?_⟩⟩
                   have:=r2.mpr (q.1 i h).1.2.2.2.2.1
                   cases this
                 | true =>
                   left
                   rw [bif_f (show (!true) = false from rfl),wI_succ h (by omega)]
                   refine ⟨_,rfl,⟨i + 1,a1,rfl,h,?_,?_,?_,i4⟩,by simp only [tN]; omega,fun d hd=>hd⟩
                   · rw [hsucc,i2,ht]
                   · have l1:(toL a1).length = a1.len:=toL_len _
                     rw [i2,List.length_append,toL_len,toL_len] at l1
                     omega
                   · intro k hk
                     by_cases e:k = i
                     · subst e
                       exact ⟨⟨g1,g3,g4,i3,r2.mp rfl,g5⟩,hd⟩
                     · exact hp k (by omega)
   · right
     have:i = x.len:=by omega
     subst this
     simp only [s204_L0,q204_L0]
     rw [bif_f (idx_end x.len)]
     refine ⟨_,rfl,.inr ⟨rfl,hp,?_⟩⟩
     rw [← ht]; exact hap)
  (((),((nilL (.pair (.int .i64) (.pair (.int .i64) (.pair (.int .i64) .unit)))),(x,((x.len:Int),((0:Int),()))))),(t,()))
  ⟨0,_,rfl,Nat.zero_le _,toL_nil,Nat.zero_le _,fun k hk=>absurd hk (Nat.not_lt_zero _),by rw [toL_nil]; exact List.Pairwise.nil⟩
 unfold g204
 rw [hx',e1]
 simp only [oB]
 rcases e2 with ⟨rfl,h⟩ | ⟨rfl,h⟩
 · exact ⟨false,rfl,by simpa using h⟩
 · exact ⟨true,rfl,by simpa using h⟩
def Facts (t:Tb):Prop :=
 f249 t.2.2.2.1 = true ∧ (1≤t.2.2.2.2.1 ∧ t.2.2.2.2.1≤5000) ∧ (1≤t.2.2.2.2.2.1 ∧ t.2.2.2.2.2.1≤5000) ∧ (1≤t.2.2.2.2.2.2.1 ∧ t.2.2.2.2.2.2.1≤5000) ∧ f237 t.2.1 = true ∧ (64≤t.1 ∧ t.1≤2048) ∧
 (1≤(tParts t).len ∧ (tParts t).len≤6) ∧ Parts (tParts t) t.1 ∧ Tail t
abbrev Cur:Type:=L Int×(Int×(Int×Unit))
def Cw (c:Cur):Prop:=(c.1.len:Int)≤2 ^ 47 ∧ 0≤c.2.1 ∧ c.2.1≤c.1.len
theorem and255 (a:Int):0≤andOf .i64 a 255 ∧ andOf .i64 a 255≤255:=by
 unfold andOf
 generalize hx:BitVec.ofInt (IntKind.i64).bits a = x
 have h:(x &&&BitVec.ofInt (IntKind.i64).bits 255).toNat≤255:=by
  rw [BitVec.toNat_and]
  exact Nat.and_le_right
 generalize (x &&&BitVec.ofInt (IntKind.i64).bits 255).toNat = n at h
 have:IntKind.i64.wrap (n:Int) = n:=wI_id (by omega) (by omega)
 rw [this]; omega
theorem byte (c:Cur) (h:Cw c):∃ (x:Int) (c':Cur),g294d c = some ((x,()),(c',())) ∧ 0≤x ∧ x≤255 ∧ Cw c':=by
 obtain ⟨h1,h2,h3⟩:=h
 unfold g294d
 by_cases hi:c.2.1 < (c.1.len:Int)
 · rw [bif_t (by simpa using hi),bif_t (by simp; omega)]
   refine ⟨_,_,rfl,(and255 _).1,(and255 _).2,h1,?_,?_⟩
   · show 0≤wI (c.2.1 + 1)
     rw [wI_id (by omega) (by omega)]; omega
   · show wI (c.2.1 + 1)≤c.1.len
     rw [wI_id (by omega) (by omega)]; omega
 · rw [bif_f (by simpa using hi)]
   exact ⟨_,_,rfl,(and255 _).1,(and255 _).2,h1,h2,h3⟩
theorem below (c:Cur) (h:Cw c) (n:Int) (h1:1≤n) (h2:n≤256):∃ (x:Int) (c':Cur),g191d c n = some ((x,()),(c',())) ∧ 0≤x ∧ x < n ∧ Cw c':=by
 obtain ⟨x,c',e,x0,x1,hc⟩:=byte c h
 unfold g191d
 rw [bif_f (by simp; omega),bif_t (by simpa using h2),e]
 simp only [oB]
 rw [bif_t (by simp; omega)]
 exact ⟨_,_,rfl,Int.tmod_nonneg _ x0,Int.tmod_lt_of_pos _ (by omega),hc⟩
theorem pick (c:Cur) (h:Cw c) (l:L Int) (h1:1≤l.len) (h2:l.len≤256):∃ (i:Nat) (c':Cur),g289dw c l = some ((l.get i,()),(c',(l,()))) ∧ i < l.len ∧ Cw c':=by
 obtain ⟨x,c',e,x0,x1,hc⟩:=below c h l.len (by omega) (by omega)
 unfold g289dw
 rw [e]
 simp only [oB]
 rw [bif_t (by simp; omega)]
 exact ⟨x.toNat,_,rfl,by omega,hc⟩
theorem pickIn (c:Cur) (h:Cw c) (z:Int) (l:List Int) (h1:1≤l.length) (h2:l.length≤256):∃ (x:Int) (c':Cur),g289dw c (L.of z l) = some ((x,()),(c',(L.of z l,()))) ∧ x ∈ l ∧ Cw c':=by
 obtain ⟨i,c',e,hi,hc⟩:=pick c h (L.of z l) h1 h2
 refine ⟨_,c',e,?_,hc⟩
 show l.getD i z ∈ l
 have hi:i < l.length:=hi
 rw [List.getD_eq_getElem?_getD,List.getElem?_eq_getElem hi]
 simp
theorem once (c:Cur) (h:Cw c) (n:Int) (h1:1≤n) (h2:n≤256):∃ (b:Bool) (c':Cur),g194d c n = some ((b,()),(c',())) ∧ Cw c':=by
 obtain ⟨x,c',e,_,_,hc⟩:=below c h n h1 h2
 unfold g194d
 rw [e]
 exact ⟨_,_,rfl,hc⟩
theorem newCur (code:L Int) (h:code.len≤2 ^ 46):∃ c:Cur,g98 code = some ((c,()),()) ∧ Cw c:=by
 obtain ⟨d,e1,hh,e2⟩:=fixO_rel (step:=s98_L0) (fun a=>code.len - a.1.2.2.1.toNat)
  (fun a=>∃ (i:Nat) (k:Int),a = ((code,(k,((i:Int),()))),()) ∧ i≤code.len) (fun _ d=>∃ k:Int,d = .inl ((code,(k,())),()))
  (by
   rintro _ ⟨i,k,rfl,hi⟩
   show (∃ y,q98_L0 code k i = _ ∧ _) ∨ ∃ d,q98_L0 code k i = _ ∧ _
   unfold q98_L0
   by_cases h1:i < code.len
   · rw [bif_t (idx_lt h1)]
     by_cases h2:(i:Int) < 4000
     · rw [bif_t (by simpa using h2),bif_t (idx_in h1),wI_succ h1 (by omega)]
       exact .inl ⟨_,rfl,⟨i + 1,_,rfl,h1⟩,by simp; omega,fun d hd=>hd⟩
     · rw [bif_f (by simpa using h2)]
       exact .inr ⟨_,rfl,k,rfl⟩
   · rw [bif_f (by simp; omega)]
     exact .inr ⟨_,rfl,k,rfl⟩) ((code,((wI ((76076:Int) + (code.len:Int))),((0:Int),()))),()) ⟨0,_,rfl,Nat.zero_le _⟩
 subst e2
 unfold g98
 rw [e1]
 exact ⟨_,rfl,by show (code.len:Int)≤_; omega,Int.le_refl 0,by show (0:Int)≤_; omega⟩
theorem policyD (c:Cur) (h:Cw c):∃ (p:Int×(Int×Unit)) (c':Cur),g290d c = some ((p,()),(c',())) ∧ f261 p = true ∧ Cw c':=by
 obtain ⟨x,c1,e,x0,x1,hc⟩:=below c h 3 (by omega) (by omega)
 unfold g290d
 rw [e]
 simp only [oB]
 by_cases hx:x = 1
 · subst hx
   rw [bif_t (by decide)]
   obtain ⟨y,c2,e2,hy,hc2⟩:=pickIn c1 hc (Ty.zero (.int .i64)) [0,1,2,3,100] (by decide) (by decide)
   rw [e2]
   refine ⟨(1,(y,())),c2,rfl,?_,hc2⟩
   simp only [List.mem_cons,List.not_mem_nil,or_false] at hy
   rcases hy with rfl | rfl | rfl | rfl | rfl <;> decide
 · rw [bif_f (by simpa using hx)]
   refine ⟨(x,(0,())),c1,rfl,?_,hc⟩
   have:x = 0 ∨ x = 2:=by omega
   rcases this with rfl | rfl <;> decide
theorem chanD (c:Cur) (h:Cw c) (n:Int) (h1:2≤n) (h2:n≤4):∃ (r:Ch) (c':Cur),g291d c n = some ((r,()),(c',())) ∧ (f328 r = true ∧ r.2.1 < n ∧ r.2.2.1 < n) ∧ Cw c':=by
 obtain ⟨k,c1,e1,k0,k1,hc1⟩:=below c h 2 (by omega) (by omega)
 obtain ⟨a,c2,e2,a0,a1,hc2⟩:=below c1 hc1 n (by omega) (by omega)
 have e3':wI (n - 1) = n - 1:=wI_id (by omega) (by omega)
 obtain ⟨b,c3,e3,b0,b1,hc3⟩:=below c2 hc2 (n - 1) (by omega) (by omega)
 have hw:wI (wI (a + 1) + b) = a + 1 + b:=by rw [wI_id (n:=a + 1) (by omega) (by omega),wI_id (by omega) (by omega)]
 have ht:0≤Int.tmod (a + 1 + b) n ∧ Int.tmod (a + 1 + b) n < n ∧ Int.tmod (a + 1 + b) n ≠ a:=by
  rw [Int.tmod_eq_emod_of_nonneg (by omega)]
  refine ⟨Int.emod_nonneg _ (by omega),Int.emod_lt_of_pos _ (by omega),?_⟩
  intro he
  have:a + 1 + b = n * ((a + 1 + b) / n) + a:=by have:=Int.mul_ediv_add_emod (a + 1 + b) n; omega
  have h3:(b + 1) = n * ((a + 1 + b) / n):=by omega
  have h4:(b + 1) % n = 0:=by rw [h3]; exact Int.mul_emod_right _ _
  rw [Int.emod_eq_of_lt (by omega) (by omega)] at h4
  omega
 have f60i:∀ x y z:Int,y≤x→x≤z→f42 x y z = true:=fun x y z p q=>by
  unfold f42; rw [bif_t (by simpa using p)]; simpa using q
 have hbad:∀ d:Int,((k = 0 ∧ d = 0) ∨ (k = 1 ∧ 1≤d ∧ d≤8))→f328 (k,(a,(Int.tmod (a + 1 + b) n,(d,())))) = true:=by
  intro d hd
  unfold f328
  rw [bif_f (by rw [f60i _ _ _ (by simpa using a0) (by show a≤5; omega)]; rfl),bif_f (by rw [f60i _ _ _ (by simpa using ht.1) (by show _≤(5:Int); simp only; omega)]; rfl),bif_f (by simp only [beq_eq_false_iff_ne,ne_eq]; exact fun q=>ht.2.2 q.symm)]
  rcases hd with ⟨rfl,rfl⟩ | ⟨rfl,d1,d2⟩
  · rfl
  · exact (bif_f (show ((1:Int) == 0) = false from rfl)).trans ((bif_t (show ((1:Int) == 1) = true from rfl)).trans (f60i _ _ _ d1 d2))
 unfold g291d
 rw [e1]; simp only [oB]
 rw [e2]; simp only [oB]
 rw [e3',e3]; simp only [oB]
 rw [bif_t (by simp; omega),hw]
 by_cases hk:k = 1
 · subst hk
   rw [bif_t (by decide)]
   obtain ⟨d,c4,e4,d0,d1,hc4⟩:=below c3 hc3 4 (by omega) (by omega)
   obtain ⟨o,c5,e5,hc5⟩:=once c4 hc4 6 (by omega) (by omega)
   rw [e4]; simp only [oB]
   rw [e5]; simp only [oB]
   cases o with
   | true=>exact ⟨_,_,rfl,⟨hbad 8 (.inr ⟨rfl,by omega,by omega⟩),a1,ht.2.1⟩,hc5⟩
   | false =>
     refine ⟨_,_,rfl,⟨hbad _ (.inr ⟨rfl,?_,?_⟩),a1,ht.2.1⟩,hc5⟩
     · rw [wI_id (by omega) (by omega)]; omega
     · rw [wI_id (by omega) (by omega)]; omega
 · rw [bif_f (by simpa using hk)]
   exact ⟨_,_,rfl,⟨hbad 0 (.inl ⟨by omega,rfl⟩),a1,ht.2.1⟩,hc3⟩
def NM:L ByteArray:=L.of (Ty.zero .str) [(⟨#[97,108,112,104,97]⟩:ByteArray),(⟨#[98,101,116,97]⟩:ByteArray),(⟨#[103,97,109,109,97]⟩:ByteArray),(⟨#[100,101,108,116,97]⟩:ByteArray),(⟨#[101,112,115]⟩:ByteArray),(⟨#[122,101,116,97]⟩:ByteArray)]
theorem nmNM (k:Nat) (h:k < 4):nm (NM.get k) = true:=by
 have:k = 0 ∨ k = 1 ∨ k = 2 ∨ k = 3:=by omega
 rcases this with rfl | rfl | rfl | rfl
 · exact nmOk _ (by decide) (by decide) (by decide +kernel)
 · exact nmOk _ (by decide) (by decide) (by decide +kernel)
 · exact nmOk _ (by decide) (by decide) (by decide +kernel)
 · exact nmOk _ (by decide) (by decide) (by decide +kernel)
theorem nmApart (k m:Nat) (h:k < m) (hm:m < 4):strEq (NM.get k) (NM.get m) = false:=by
 have:(k = 0 ∧ m = 1) ∨ (k = 0 ∧ m = 2) ∨ (k = 0 ∧ m = 3) ∨ (k = 1 ∧ m = 2) ∨ (k = 1 ∧ m = 3) ∨ (k = 2 ∧ m = 3):=by omega
 rcases this with ⟨rfl,rfl⟩ | ⟨rfl,rfl⟩ | ⟨rfl,rfl⟩ | ⟨rfl,rfl⟩ | ⟨rfl,rfl⟩ | ⟨rfl,rfl⟩ <;> decide +kernel
structure PartD (p:PR) (k:Nat):Prop where
 name:p.1 = NM.get k
 pol:f261 p.2.2.1 = true
 len:p.2.2.2.1.len = 2
 w0:(p.2.2.2.1.get 0).2.1 = 128 ∧ (p.2.2.2.1.get 0).2.2.1 = 5 ∧ 0≤(p.2.2.2.1.get 0).1 ∧ (p.2.2.2.1.get 0).1 % 4 = 0
 w1:(p.2.2.2.1.get 0).1 + 128≤(p.2.2.2.1.get 1).1 ∧ (p.2.2.2.1.get 1).1 % 4 = 0 ∧ 32≤(p.2.2.2.1.get 1).2.1 ∧ (p.2.2.2.1.get 1).2.1≤44 ∧ (p.2.2.2.1.get 1).2.1 % 4 = 0 ∧ (p.2.2.2.1.get 1).2.2.1 = 3
 ent:(p.2.2.2.1.get 0).1≤p.2.1 ∧ p.2.1≤(p.2.2.2.1.get 0).1 + 4 ∧ p.2.1 % 4 = 0
structure PartsD (x:L PR) (n:Nat) (at_:Int):Prop where
 len:x.len = n
 part:∀ k,k < n→PartD (x.get k) k ∧ ((x.get k).2.2.2.1.get 1).1 + ((x.get k).2.2.2.1.get 1).2.1≤at_
 ord:∀ k m,k < m→m < n→((x.get k).2.2.2.1.get 1).1 + ((x.get k).2.2.2.1.get 1).2.1≤((x.get m).2.2.2.1.get 0).1
 pos:0≤at_ ∧ at_ % 4 = 0 ∧ at_≤12 + 184 * n
theorem app_lo {α:Type} (x y:L α) {i:Nat} (h:i < x.len):(L.app x y).get i = x.get i:=by
 show (bif Nat.blt i x.len then _ else _) = _
 rw [show Nat.blt i x.len = true by simpa using h]; rfl
theorem app_hi {α:Type} (x:L α) (z v:α):(L.app x (L.of z [v])).get x.len = v:=by
 show (bif Nat.blt x.len x.len then _ else _) = _
 rw [show Nat.blt x.len x.len = false by rw [Bool.eq_false_iff]; simp]
 show [v].getD (x.len - x.len) z = v
 rw [Nat.sub_self]; rfl
theorem PartsD.add {x:L PR} {n:Nat} {a a':Int} (h:PartsD x n a) {z p:PR} (hp:PartD p n) (h0:a = (p.2.2.2.1.get 0).1) (h1:(p.2.2.2.1.get 1).1 + (p.2.2.2.1.get 1).2.1≤a') (h2:a' % 4 = 0) (h3:a'≤a + 184):PartsD (L.app x (L.of z [p])) (n + 1) a':=by
 have hlen:=h.len
 have hi:(L.app x (L.of z [p])).get n = p:=by rw [← hlen]; exact app_hi x z p
 have lo:∀ k,k < n→(L.app x (L.of z [p])).get k = x.get k:=fun k hk=>app_lo _ _ (by omega)
 have hw0:=hp.w0
 have hw1:=hp.w1
 refine ⟨by show x.len + 1 = n + 1; omega,fun k hk=>?_,fun k m hkm hm=>?_,?_⟩
 · by_cases e:k = n
   · subst e; rw [hi]; exact ⟨hp,h1⟩
   · rw [lo k (by omega)]
     have:=h.part k (by omega)
     exact ⟨this.1,by omega⟩
 · by_cases e:m = n
   · subst e
     rw [hi,lo k hkm]
     have:=(h.part k hkm).2
     omega
   · rw [lo k (by omega),lo m (by omega)]
     exact h.ord k m hkm (by omega)
 · have:=h.pos
   refine ⟨by omega,h2,?_⟩
   have:((n + 1:Nat):Int) = n + 1:=by simp
   rw [this]; omega
section
variable (z0 z1 z2 z3 z4 z5 z6 z7 z8 z9 z10 z11 z12 z13 z14:Int) (z15:L PR) (z16:L Int) (z17:L Ch) (z18:L Sl) (m s1 s2 s3 tl c1 c2 c3 c4 c5 c6 c7 pd gd mj:Int) (dv:L Int) (ch:L Ch) (sl:L Sl)
theorem partsLoop (n:Nat) (h1:2≤n) (h2:n≤4) (c:Cur) (hc:Cw c) (a0:Int) (ha:0≤a0 ∧ a0≤12 ∧ a0 % 4 = 0) (x0:L PR) (hx0:x0.len = 0):∃ (a:Int) (x:L PR) (c':Cur),
 fixO s190d_L0 (((),((n:Int),((),((),(a0,((0:Int),())))))),(c,((z0,(z1,(z2,(z3,(z4,(z5,(z6,(z7,(z8,(z9,(z10,(z11,(z12,(z13,(z14,(z15,(z16,(z17,(z18,()))))))))))))))))))),((m,(s1,(s2,(s3,(tl,(c1,(c2,(c3,(c4,(c5,(c6,(c7,(pd,(gd,(mj,(x0,(dv,(ch,(sl,()))))))))))))))))))),())))) = some (.inl (((),((n:Int),((),((),(a,()))))),(c',((z0,(z1,(z2,(z3,(z4,(z5,(z6,(z7,(z8,(z9,(z10,(z11,(z12,(z13,(z14,((),((),((),((),()))))))))))))))))))),((m,(s1,(s2,(s3,(tl,(c1,(c2,(c3,(c4,(c5,(c6,(c7,(pd,(gd,(mj,((),((),((),((),()))))))))))))))))))),(z15,(z16,(z17,(z18,(x,(dv,(ch,(sl,()))))))))))))) ∧ Cw c' ∧ PartsD x n a:=by
 obtain ⟨d,e1,a,x,c',rfl,e2,e3⟩:=fixO_rel (step:=s190d_L0) (fun q=>n - q.1.2.2.2.2.2.1.toNat)
  (fun q=>∃ (i:Nat) (a:Int) (x:L PR) (c:Cur),q = (((),((n:Int),((),((),(a,((i:Int),())))))),(c,((z0,(z1,(z2,(z3,(z4,(z5,(z6,(z7,(z8,(z9,(z10,(z11,(z12,(z13,(z14,(z15,(z16,(z17,(z18,()))))))))))))))))))),((m,(s1,(s2,(s3,(tl,(c1,(c2,(c3,(c4,(c5,(c6,(c7,(pd,(gd,(mj,(x,(dv,(ch,(sl,()))))))))))))))))))),())))) ∧ i≤n ∧ Cw c ∧ PartsD x i a)
  (fun _ d=>∃ (a:Int) (x:L PR) (c':Cur),d = .inl (((),((n:Int),((),((),(a,()))))),(c',((z0,(z1,(z2,(z3,(z4,(z5,(z6,(z7,(z8,(z9,(z10,(z11,(z12,(z13,(z14,((),((),((),((),()))))))))))))))))))),((m,(s1,(s2,(s3,(tl,(c1,(c2,(c3,(c4,(c5,(c6,(c7,(pd,(gd,(mj,((),((),((),((),()))))))))))))))))))),(z15,(z16,(z17,(z18,(x,(dv,(ch,(sl,())))))))))))) ∧ Cw c' ∧ PartsD x n a)
  (by
   rintro _ ⟨i,a,x,c,rfl,hi,hc,hp⟩
   simp only [s190d_L0]
   unfold q190d_L0
   by_cases hlt:i < n
   · rw [bif_t (by simpa using hlt),bif_t (by simp; omega)]
     obtain ⟨po,k1,q1,po1,hk1⟩:=policyD c hc
     obtain ⟨b1,k2,q2,b10,b11,hk2⟩:=below k1 hk1 2 (by omega) (by omega)
     obtain ⟨b2,k3,q3,b20,b21,hk3⟩:=below k2 hk2 4 (by omega) (by omega)
     obtain ⟨b3,k4,q4,b30,b31,hk4⟩:=below k3 hk3 2 (by omega) (by omega)
     obtain ⟨b4,k5,q5,b40,b41,hk5⟩:=below k4 hk4 3 (by omega) (by omega)
     have hpos:=hp.pos
     have hl:=hp.len
     have hil:(12:Int) + 184 * i≤748:=by omega
     simp only [q1,q2,q3,q4,k4_1,q5,oB]
     have w4:∀ b:Int,0≤b→b≤4→wI (4 * b) = 4 * b:=fun b p q=>wI_id (by omega) (by omega)
     rw [w4 b1 b10 (by omega),w4 b2 b20 (by omega),w4 b3 b30 (by omega),w4 b4 b40 (by omega)]
     rw [wI_id (n:=a + 4 * b3) (by omega) (by omega),wI_id (n:=a + 128) (by omega) (by omega),wI_id (n:=a + 128 + 4 * b1) (by omega) (by omega),wI_id (n:=32 + 4 * b2) (by omega) (by omega),
      wI_id (n:=a + 128 + 4 * b1 + (32 + 4 * b2)) (by omega) (by omega),wI_id (n:=a + 128 + 4 * b1 + (32 + 4 * b2) + 4 * b4) (by omega) (by omega),wI_succ hlt (by omega)]
     rw [bif_t (by
      have:most = 4294967296:=by decide
      simp only [decide_eq_true_eq]
      show x.len + 1≤most
      omega)]
     refine .inl ⟨_,rfl,⟨i + 1,_,_,k5,rfl,hlt,hk5,?_⟩,?_,fun d hd=>hd⟩
     · refine hp.add ⟨?_,po1,rfl,⟨rfl,rfl,hpos.1,hpos.2.1⟩,⟨?_,?_,?_,?_,?_,rfl⟩,⟨?_,?_,?_⟩⟩ rfl ?_ ?_ ?_
       · show L.get NM (((i:Nat):Int)).toNat = NM.get i
         rw [tN]
       · show a + 128≤a + 128 + 4 * b1; omega
       · show (a + 128 + 4 * b1) % 4 = 0; omega
       · show 32≤32 + 4 * b2; omega
       · show 32 + 4 * b2≤44; omega
       · show (32 + 4 * b2) % 4 = 0; omega
       · show a≤a + 4 * b3; omega
       · show a + 4 * b3≤a + 4; omega
       · show (a + 4 * b3) % 4 = 0; omega
       · show a + 128 + 4 * b1 + (32 + 4 * b2)≤a + 128 + 4 * b1 + (32 + 4 * b2) + 4 * b4; omega
       · omega
       · omega
     · simp only [tN]; omega
   · have:i = n:=by omega
     subst this
     rw [bif_f (by simp)]
     exact .inr ⟨_,rfl,a,x,c,rfl,hc,hp⟩) (((),((n:Int),((),((),(a0,((0:Int),())))))),(c,((z0,(z1,(z2,(z3,(z4,(z5,(z6,(z7,(z8,(z9,(z10,(z11,(z12,(z13,(z14,(z15,(z16,(z17,(z18,()))))))))))))))))))),((m,(s1,(s2,(s3,(tl,(c1,(c2,(c3,(c4,(c5,(c6,(c7,(pd,(gd,(mj,(x0,(dv,(ch,(sl,()))))))))))))))))))),()))))
  ⟨0,a0,x0,c,rfl,Nat.zero_le _,hc,⟨hx0,fun k hk=>absurd hk (Nat.not_lt_zero _),fun k m _ hm=>absurd hm (Nat.not_lt_zero _),ha.1,ha.2.2,by simpa using ha.2.1⟩⟩
 exact ⟨a,x,c',e1,e2,e3⟩
end
theorem app_all {α:Type} {x:L α} {n:Nat} {P:α→Prop} (hl:x.len = n) (h:∀ k,k < n→P (x.get k)) (z v:α) (hv:P v):(L.app x (L.of z [v])).len = n + 1 ∧ ∀ k,k < n + 1→P ((L.app x (L.of z [v])).get k):=by
 refine ⟨by show x.len + 1 = n + 1; omega,fun k hk=>?_⟩
 by_cases e:k = x.len
 · subst e; rw [app_hi]; exact hv
 · rw [app_lo _ _ (by omega)]; exact h k (by omega)
theorem most_le {n:Nat} (h:n≤100):decide (n≤most) = true:=by
 have:most = 4294967296:=by decide
 simp only [decide_eq_true_eq]; omega
section
variable (z0 z1 z2 z3 z4 z5 z6 z7 z8 z9 z10 z11 z12 z13 z14:Int) (z15:L PR) (z16:L Int) (z17:L Ch) (z18:L Sl) (m s1 s2 s3 tl c1 c2 c3 c4 c5 c6 c7 pd gd mj:Int) (x:L PR)
theorem devsLoop (ch:L Ch) (sl:L Sl) (n:Nat) (h1:2≤n) (h2:n≤4) (c:Cur) (hc:Cw c) (d0:L Int) (hd0:d0.len = 0):∃ (dv:L Int) (c':Cur),
 fixO s190d_L2 (((),((n:Int),((),((),((0:Int),()))))),(c,((z0,(z1,(z2,(z3,(z4,(z5,(z6,(z7,(z8,(z9,(z10,(z11,(z12,(z13,(z14,((),((),((),((),()))))))))))))))))))),((m,(s1,(s2,(s3,(tl,(c1,(c2,(c3,(c4,(c5,(c6,(c7,(pd,(gd,(mj,((),((),((),((),()))))))))))))))))))),(z15,(z16,(z17,(z18,(x,(d0,(ch,(sl,())))))))))))) = some (.inl (((),((n:Int),((),((),())))),(c',((z0,(z1,(z2,(z3,(z4,(z5,(z6,(z7,(z8,(z9,(z10,(z11,(z12,(z13,(z14,((),((),((),((),()))))))))))))))))))),((m,(s1,(s2,(s3,(tl,(c1,(c2,(c3,(c4,(c5,(c6,(c7,(pd,(gd,(mj,((),((),((),((),()))))))))))))))))))),(z15,(z16,(z17,(z18,(x,(dv,(ch,(sl,()))))))))))))) ∧ Cw c' ∧ dv.len≤3 ∧ ∀ k,k < dv.len→0≤dv.get k ∧ dv.get k < n:=by
 obtain ⟨d,e1,dv,c',rfl,e2,e3⟩:=fixO_rel (step:=s190d_L2) (fun q=>5 - q.1.2.2.2.2.1.toNat)
  (fun q=>∃ (i:Nat) (dv:L Int) (c:Cur),q = (((),((n:Int),((),((),((i:Int),()))))),(c,((z0,(z1,(z2,(z3,(z4,(z5,(z6,(z7,(z8,(z9,(z10,(z11,(z12,(z13,(z14,((),((),((),((),()))))))))))))))))))),((m,(s1,(s2,(s3,(tl,(c1,(c2,(c3,(c4,(c5,(c6,(c7,(pd,(gd,(mj,((),((),((),((),()))))))))))))))))))),(z15,(z16,(z17,(z18,(x,(dv,(ch,(sl,())))))))))))) ∧ i≤3 ∧ Cw c ∧ dv.len = i ∧ ∀ k,k < i→0≤dv.get k ∧ dv.get k < n)
  (fun _ d=>∃ (dv:L Int) (c':Cur),d = .inl (((),((n:Int),((),((),())))),(c',((z0,(z1,(z2,(z3,(z4,(z5,(z6,(z7,(z8,(z9,(z10,(z11,(z12,(z13,(z14,((),((),((),((),()))))))))))))))))))),((m,(s1,(s2,(s3,(tl,(c1,(c2,(c3,(c4,(c5,(c6,(c7,(pd,(gd,(mj,((),((),((),((),()))))))))))))))))))),(z15,(z16,(z17,(z18,(x,(dv,(ch,(sl,())))))))))))) ∧ Cw c' ∧ dv.len≤3 ∧ ∀ k,k < dv.len→0≤dv.get k ∧ dv.get k < n)
  (by
   rintro _ ⟨i,dv,c,rfl,hi,hc,hl,hp⟩
   simp only [s190d_L2]
   unfold q190d_L2
   obtain ⟨b,k1,q1,b0,b1,hk1⟩:=below c hc 4 (by omega) (by omega)
   simp only [q1,oB]
   by_cases hlt:(i:Int) < b
   · rw [bif_t (by simpa using hlt)]
     obtain ⟨y,k2,q2,y0,y1,hk2⟩:=below k1 hk1 n (by omega) (by omega)
     simp only [q2,oB]
     rw [bif_t (by show decide (dv.len + 1≤most) = true; exact most_le (by omega)),wI_succ (n:=10) (by omega) (by omega)]
     have A:=app_all (P:=fun v:Int=>0≤v ∧ v < n) hl hp (Ty.zero (.int .i64)) y ⟨y0,y1⟩
     exact .inl ⟨_,rfl,⟨i + 1,_,k2,rfl,by omega,hk2,A.1,A.2⟩,by simp only [tN]; omega,fun d hd=>hd⟩
   · rw [bif_f (by simpa using hlt)]
     exact .inr ⟨_,rfl,dv,k1,rfl,hk1,by omega,by rw [hl]; exact hp⟩) (((),((n:Int),((),((),((0:Int),()))))),(c,((z0,(z1,(z2,(z3,(z4,(z5,(z6,(z7,(z8,(z9,(z10,(z11,(z12,(z13,(z14,((),((),((),((),()))))))))))))))))))),((m,(s1,(s2,(s3,(tl,(c1,(c2,(c3,(c4,(c5,(c6,(c7,(pd,(gd,(mj,((),((),((),((),()))))))))))))))))))),(z15,(z16,(z17,(z18,(x,(d0,(ch,(sl,()))))))))))))
  ⟨0,d0,c,rfl,by omega,hc,hd0,fun k hk=>absurd hk (Nat.not_lt_zero _)⟩
 exact ⟨dv,c',e1,e2,e3⟩
theorem chansLoop (dv:L Int) (sl:L Sl) (n:Nat) (h1:2≤n) (h2:n≤4) (c:Cur) (hc:Cw c) (d0:L Ch) (hd0:d0.len = 0):∃ (ch:L Ch) (c':Cur),
 fixO s190d_L4 (((),((n:Int),((),((),((0:Int),()))))),(c,((z0,(z1,(z2,(z3,(z4,(z5,(z6,(z7,(z8,(z9,(z10,(z11,(z12,(z13,(z14,((),((),((),((),()))))))))))))))))))),((m,(s1,(s2,(s3,(tl,(c1,(c2,(c3,(c4,(c5,(c6,(c7,(pd,(gd,(mj,((),((),((),((),()))))))))))))))))))),(z15,(z16,(z17,(z18,(x,(dv,(d0,(sl,())))))))))))) = some (.inl (((),((n:Int),((),((),())))),(c',((z0,(z1,(z2,(z3,(z4,(z5,(z6,(z7,(z8,(z9,(z10,(z11,(z12,(z13,(z14,((),((),((),((),()))))))))))))))))))),((m,(s1,(s2,(s3,(tl,(c1,(c2,(c3,(c4,(c5,(c6,(c7,(pd,(gd,(mj,((),((),((),((),()))))))))))))))))))),(z15,(z16,(z17,(z18,(x,(dv,(ch,(sl,()))))))))))))) ∧ Cw c' ∧ ch.len≤4 ∧ ∀ k,k < ch.len→f328 (ch.get k) = true ∧ (ch.get k).2.1 < n ∧ (ch.get k).2.2.1 < n:=by
 obtain ⟨d,e1,ch,c',rfl,e2,e3⟩:=fixO_rel (step:=s190d_L4) (fun q=>6 - q.1.2.2.2.2.1.toNat)
  (fun q=>∃ (i:Nat) (ch:L Ch) (c:Cur),q = (((),((n:Int),((),((),((i:Int),()))))),(c,((z0,(z1,(z2,(z3,(z4,(z5,(z6,(z7,(z8,(z9,(z10,(z11,(z12,(z13,(z14,((),((),((),((),()))))))))))))))))))),((m,(s1,(s2,(s3,(tl,(c1,(c2,(c3,(c4,(c5,(c6,(c7,(pd,(gd,(mj,((),((),((),((),()))))))))))))))))))),(z15,(z16,(z17,(z18,(x,(dv,(ch,(sl,())))))))))))) ∧ i≤4 ∧ Cw c ∧ ch.len = i ∧ ∀ k,k < i→f328 (ch.get k) = true ∧ (ch.get k).2.1 < n ∧ (ch.get k).2.2.1 < n)
  (fun _ d=>∃ (ch:L Ch) (c':Cur),d = .inl (((),((n:Int),((),((),())))),(c',((z0,(z1,(z2,(z3,(z4,(z5,(z6,(z7,(z8,(z9,(z10,(z11,(z12,(z13,(z14,((),((),((),((),()))))))))))))))))))),((m,(s1,(s2,(s3,(tl,(c1,(c2,(c3,(c4,(c5,(c6,(c7,(pd,(gd,(mj,((),((),((),((),()))))))))))))))))))),(z15,(z16,(z17,(z18,(x,(dv,(ch,(sl,())))))))))))) ∧ Cw c' ∧ ch.len≤4 ∧ ∀ k,k < ch.len→f328 (ch.get k) = true ∧ (ch.get k).2.1 < n ∧ (ch.get k).2.2.1 < n)
  (by
   rintro _ ⟨i,ch,c,rfl,hi,hc,hl,hp⟩
   simp only [s190d_L4]
   unfold q190d_L4
   obtain ⟨b,k1,q1,b0,b1,hk1⟩:=below c hc 5 (by omega) (by omega)
   simp only [q1,oB]
   by_cases hlt:(i:Int) < b
   · rw [bif_t (by simpa using hlt)]
     obtain ⟨y,k2,q2,y1,hk2⟩:=chanD k1 hk1 n (by omega) (by omega)
     simp only [q2,oB]
     rw [bif_t (by show decide (ch.len + 1≤most) = true; exact most_le (by omega)),wI_succ (n:=10) (by omega) (by omega)]
     have A:=app_all (P:=fun v:Ch=>f328 v = true ∧ v.2.1 < n ∧ v.2.2.1 < n) hl hp (Ty.zero (.pair (.int .i64) (.pair (.int .i64) (.pair (.int .i64) (.pair (.int .i64) .unit))))) y y1
     exact .inl ⟨_,rfl,⟨i + 1,_,k2,rfl,by omega,hk2,A.1,A.2⟩,by simp only [tN]; omega,fun d hd=>hd⟩
   · rw [bif_f (by simpa using hlt)]
     exact .inr ⟨_,rfl,ch,k1,rfl,hk1,by omega,by rw [hl]; exact hp⟩) (((),((n:Int),((),((),((0:Int),()))))),(c,((z0,(z1,(z2,(z3,(z4,(z5,(z6,(z7,(z8,(z9,(z10,(z11,(z12,(z13,(z14,((),((),((),((),()))))))))))))))))))),((m,(s1,(s2,(s3,(tl,(c1,(c2,(c3,(c4,(c5,(c6,(c7,(pd,(gd,(mj,((),((),((),((),()))))))))))))))))))),(z15,(z16,(z17,(z18,(x,(dv,(d0,(sl,()))))))))))))
  ⟨0,d0,c,rfl,by omega,hc,hd0,fun k hk=>absurd hk (Nat.not_lt_zero _)⟩
 exact ⟨ch,c',e1,e2,e3⟩
end
structure SlotsD (sl:L Sl) (i:Nat) (n pg st:Int):Prop where
 len:sl.len = i
 row:∀ k,k < i→0≤(sl.get k).1 ∧ (sl.get k).1 < n ∧ pg < (sl.get k).2.2.1 ∧ (sl.get k).2.2.1≤pg + 90 ∧ 0≤(sl.get k).2.1 ∧ (sl.get k).2.1 + (sl.get k).2.2.1≤st
 ord:∀ k m,k < m→m < i→(sl.get k).2.1 + (sl.get k).2.2.1≤(sl.get m).2.1
 low:0≤st
 top:st≤5 + i * 393
theorem SlotsD.add {sl:L Sl} {i:Nat} {n pg st st':Int} (h:SlotsD sl i n pg st) (hpg:0≤pg ∧ pg≤300) {z v:Sl} (h1:0≤v.1 ∧ v.1 < n) (h2:pg < v.2.2.1 ∧ v.2.2.1≤pg + 90) (h3:v.2.1 = st) (h4:v.2.1 + v.2.2.1≤st' ∧ st'≤v.2.1 + v.2.2.1 + 3):SlotsD (L.app sl (L.of z [v])) (i + 1) n pg st':=by
 have hlen:=h.len
 have hlow:=h.low
 have htop:=h.top
 have hi:(L.app sl (L.of z [v])).get i = v:=by rw [← hlen]; exact app_hi sl z v
 have lo:∀ k,k < i→(L.app sl (L.of z [v])).get k = sl.get k:=fun k hk=>app_lo _ _ (by omega)
 refine ⟨by show sl.len + 1 = i + 1; omega,fun k hk=>?_,fun k m hkm hm=>?_,by omega,?_⟩
 · by_cases e:k = i
   · subst e; rw [hi]; omega
   · rw [lo k (by omega)]
     have:=h.row k (by omega)
     omega
 · by_cases e:m = i
   · subst e
     rw [hi,lo k hkm]
     have:=h.row k hkm
     omega
   · rw [lo k (by omega),lo m (by omega)]
     exact h.ord k m hkm (by omega)
 · have:((i + 1:Nat):Int) = i + 1:=by simp
   rw [this]; omega
section
variable (z0 z1 z2 z3 z4 z5 z6 z7 z8 z9 z10 z11 z12 z13 z14:Int) (z15:L PR) (z16:L Int) (z17:L Ch) (z18:L Sl) (m s1 s2 s3 tl c1 c2 c3 c4 c5 c6 c7 pd gd mj:Int) (x:L PR)
theorem slotsLoopD (dv:L Int) (ch:L Ch) (hpd:0≤pd ∧ pd≤200) (hgd:0≤gd ∧ gd≤99) (n:Nat) (h1:2≤n) (h2:n≤4) (c:Cur) (hc:Cw c) (a0:Int) (ha:0≤a0 ∧ a0≤5) (d0:L Sl) (hd0:d0.len = 0):∃ (sl:L Sl) (i:Nat) (st:Int) (c':Cur),
 fixO s190d_L6 (((),((n:Int),((),((),(a0,((0:Int),())))))),(c,((z0,(z1,(z2,(z3,(z4,(z5,(z6,(z7,(z8,(z9,(z10,(z11,(z12,(z13,(z14,((),((),((),((),()))))))))))))))))))),((m,(s1,(s2,(s3,(tl,(c1,(c2,(c3,(c4,(c5,(c6,(c7,(pd,(gd,(mj,((),((),((),((),()))))))))))))))))))),(z15,(z16,(z17,(z18,(x,(dv,(ch,(d0,())))))))))))) = some (.inl (((),((),((),()))),(c',((z0,(z1,(z2,(z3,(z4,(z5,(z6,(z7,(z8,(z9,(z10,(z11,(z12,(z13,(z14,((),((),((),((),()))))))))))))))))))),((m,(s1,(s2,(s3,(tl,(c1,(c2,(c3,(c4,(c5,(c6,(c7,(pd,(gd,(mj,((),((),((),((),()))))))))))))))))))),(z15,(z16,(z17,(z18,(x,(dv,(ch,(sl,()))))))))))))) ∧ Cw c' ∧ n≤i ∧ i≤6 ∧ SlotsD sl i n (pd + gd) st:=by
 obtain ⟨d,e1,sl,i,st,c',rfl,e2,e3⟩:=fixO_rel (step:=s190d_L6) (fun q=>8 - q.1.2.2.2.2.2.1.toNat)
  (fun q=>∃ (i:Nat) (st:Int) (sl:L Sl) (c:Cur),q = (((),((n:Int),((),((),(st,((i:Int),())))))),(c,((z0,(z1,(z2,(z3,(z4,(z5,(z6,(z7,(z8,(z9,(z10,(z11,(z12,(z13,(z14,((),((),((),((),()))))))))))))))))))),((m,(s1,(s2,(s3,(tl,(c1,(c2,(c3,(c4,(c5,(c6,(c7,(pd,(gd,(mj,((),((),((),((),()))))))))))))))))))),(z15,(z16,(z17,(z18,(x,(dv,(ch,(sl,())))))))))))) ∧ i≤n + 2 ∧ Cw c ∧ SlotsD sl i n (pd + gd) st)
  (fun _ d=>∃ (sl:L Sl) (i:Nat) (st:Int) (c':Cur),d = .inl (((),((),((),()))),(c',((z0,(z1,(z2,(z3,(z4,(z5,(z6,(z7,(z8,(z9,(z10,(z11,(z12,(z13,(z14,((),((),((),((),()))))))))))))))))))),((m,(s1,(s2,(s3,(tl,(c1,(c2,(c3,(c4,(c5,(c6,(c7,(pd,(gd,(mj,((),((),((),((),()))))))))))))))))))),(z15,(z16,(z17,(z18,(x,(dv,(ch,(sl,())))))))))))) ∧ Cw c' ∧ n≤i ∧ i≤6 ∧ SlotsD sl i n (pd + gd) st)
  (by
   rintro _ ⟨i,st,sl,c,rfl,hi,hc,hp⟩
   simp only [s190d_L6]
   unfold q190d_L6
   obtain ⟨b,k1,q1,b0,b1,hk1⟩:=below c hc 3 (by omega) (by omega)
   simp only [q1,oB]
   rw [wI_id (n:=(n:Int) + b) (by omega) (by omega)]
   by_cases hlt:(i:Int) < n + b
   · rw [bif_t (by simpa using hlt),bif_t (by simp; omega)]
     obtain ⟨y,k2,q2,y0,y1,hk2⟩:=below k1 hk1 90 (by omega) (by omega)
     obtain ⟨o,k3,q3,hk3⟩:=once k2 hk2 5 (by omega) (by omega)
     simp only [q2,q3,oB]
     have hlow:=hp.low
     have htop:=hp.top
     have hl:=hp.len
     have hmul:(i:Int) * 393≤2358:=by omega
     rw [wI_id (n:=pd + gd) (by omega) (by omega),wI_id (n:=pd + gd + 1) (by omega) (by omega),wI_id (n:=pd + gd + 1 + y) (by omega) (by omega),wI_id (n:=st + (pd + gd + 1 + y)) (by omega) (by omega),wI_succ (n:=10) (by omega) (by omega)]
     have hb:decide (sl.len + 1≤most) = true:=most_le (by omega)
     cases o with
     | true =>
       obtain ⟨w,k4,q4,w0,w1,hk4⟩:=below k3 hk3 n (by omega) (by omega)
       obtain ⟨v,k5,q5,v0,hk5⟩:=pickIn k4 hk4 (Ty.zero (.int .i64)) [0,0,3] (by decide) (by decide)
       have v1:0≤v ∧ v≤3:=by
        simp only [List.mem_cons,List.not_mem_nil,or_false] at v0
        omega
       rw [bif_t rfl]
       simp only [q4,k4_1,oB]
       refine .inl ⟨_,(bif_t (show decide (sl.len + 1≤most) = true from hb)).trans (by simp only [q5,oB]; rfl),⟨i + 1,wI (st + (pd + gd + 1 + y) + v),_,k5,rfl,by omega,hk5,?_⟩,?_,fun d hd=>hd⟩
       · rw [wI_id (by omega) (by omega)]
         exact hp.add (by omega) ⟨w0,w1⟩ ⟨by show _ < pd + gd + 1 + y; omega,by show pd + gd + 1 + y≤_; omega⟩ rfl ⟨by show st + (pd + gd + 1 + y)≤_; omega,by show _≤st + (pd + gd + 1 + y) + 3; omega⟩
       · simp only [tN]; omega
     | false =>
       obtain ⟨v,k5,q5,v0,hk5⟩:=pickIn k3 hk3 (Ty.zero (.int .i64)) [0,0,3] (by decide) (by decide)
       have v1:0≤v ∧ v≤3:=by
        simp only [List.mem_cons,List.not_mem_nil,or_false] at v0
        omega
       rw [bif_f rfl]
       refine .inl ⟨_,(bif_t (show decide (sl.len + 1≤most) = true from hb)).trans (by simp only [q5,oB]; rfl),⟨i + 1,wI (st + (pd + gd + 1 + y) + v),_,k5,rfl,by omega,hk5,?_⟩,?_,fun d hd=>hd⟩
       · rw [wI_id (by omega) (by omega)]
         refine hp.add (by omega) ⟨?_,?_⟩ ⟨by show _ < pd + gd + 1 + y; omega,by show pd + gd + 1 + y≤_; omega⟩ rfl ⟨by show st + (pd + gd + 1 + y)≤_; omega,by show _≤st + (pd + gd + 1 + y) + 3; omega⟩
         · show 0≤Int.tmod (i:Int) n; exact Int.tmod_nonneg _ (by omega)
         · show Int.tmod (i:Int) n < n; exact Int.tmod_lt_of_pos _ (by omega)
       · simp only [tN]; omega
   · rw [bif_f (by simpa using hlt)]
     exact .inr ⟨_,rfl,sl,i,st,k1,rfl,hk1,by omega,by omega,hp⟩) (((),((n:Int),((),((),(a0,((0:Int),())))))),(c,((z0,(z1,(z2,(z3,(z4,(z5,(z6,(z7,(z8,(z9,(z10,(z11,(z12,(z13,(z14,((),((),((),((),()))))))))))))))))))),((m,(s1,(s2,(s3,(tl,(c1,(c2,(c3,(c4,(c5,(c6,(c7,(pd,(gd,(mj,((),((),((),((),()))))))))))))))))))),(z15,(z16,(z17,(z18,(x,(dv,(ch,(d0,()))))))))))))
  ⟨0,a0,d0,c,rfl,by omega,hc,⟨hd0,fun k hk=>absurd hk (Nat.not_lt_zero _),fun k m _ hm=>absurd hm (Nat.not_lt_zero _),ha.1,by simpa using ha.2⟩⟩
 exact ⟨sl,i,st,c',e1,e2,e3⟩
end
structure CostD (c:Co):Prop where
 b:1≤c.1 ∧ c.1≤2
 mul:0≤c.2.1 ∧ c.2.1≤3
 mem:0≤c.2.2.1 ∧ c.2.2.1≤2
 miss:0≤c.2.2.2.1 ∧ c.2.2.2.1≤5
 walk:0≤c.2.2.2.2.1 ∧ c.2.2.2.2.1≤3
 trap:0≤c.2.2.2.2.2.1 ∧ c.2.2.2.2.2.1≤2
 line:0≤c.2.2.2.2.2.2.1 ∧ c.2.2.2.2.2.2.1≤2
theorem f42_of {x y z:Int} (p:y≤x) (q:x≤z):f42 x y z = true:=by
 unfold f42; rw [bif_t (by simpa using p)]; simpa using q
theorem f157_of {x y z:Int} (p:y≤x) (q:x≤z):f157 x y z = true:=f42_of p q
theorem CostD.ok {c:Co} (h:CostD c):f249 c = true:=by
 obtain ⟨h1,h2,h3,h4,h5,h6,h7⟩:=h
 unfold f249
 rw [f42_of h1.1 (by omega),f42_of h2.1 (by omega),f42_of h3.1 (by omega),f42_of h4.1 (by omega),f42_of h5.1 (by omega),f42_of h6.1 (by omega),f42_of h7.1 (by omega)]
 rfl
theorem CostD.ok' {c:Co} (h:CostD c):f99 c = true:=by
 obtain ⟨h1,h2,h3,h4,h5,h6,h7⟩:=h
 unfold f99
 rw [f157_of h1.1 (by omega),f157_of h2.1 (by omega),f157_of h3.1 (by omega),f157_of h4.1 (by omega),f157_of h5.1 (by omega),f157_of h6.1 (by omega),f157_of h7.1 (by omega)]
 rfl
theorem CostD.op {c:Co} (h:CostD c) (k:Int):1≤f100 c k ∧ f100 c k≤5:=by
 obtain ⟨h1,h2,h3,h4,h5,h6,h7⟩:=h
 unfold f100
 have w1:wI (c.1 + c.2.1) = c.1 + c.2.1:=wI_id (by omega) (by omega)
 have w2:wI (c.1 + c.2.2.1) = c.1 + c.2.2.1:=wI_id (by omega) (by omega)
 have w3:wI (c.1 + c.2.2.2.2.2.1) = c.1 + c.2.2.2.2.2.1:=wI_id (by omega) (by omega)
 rw [w1,w2,w3]
 cases k == 9 <;> cases k == 10 <;> cases f157 k 15 18 <;> cases decide (k ≥ 25) <;> simp only [cond_true,cond_false] <;> omega
theorem worstCost {c:Co} (h:CostD c):∃ n:Int,g292 c = some ((n,()),()) ∧ g22 c = some ((n,()),()) ∧ 1≤n ∧ n≤60:=by
 obtain ⟨n,e1,e2⟩:=worst h.ok
 refine ⟨n,e1,e2,?_⟩
 obtain ⟨d,q1,m,rfl,q2⟩:=fixO_rel (step:=s22_L0) (fun a=>33 - a.1.2.2.1.toNat)
  (fun a=>∃ (i:Nat) (m:Int),a = (((),(m,((i:Int),()))),(c,())) ∧ i≤33 ∧ 0≤m ∧ m≤5 ∧ (i = 0 ∨ 1≤m)) (fun _ d=>∃ m:Int,d = .inl (((),(m,())),(c,())) ∧ 1≤m ∧ m≤5)
  (by
   rintro _ ⟨i,m,rfl,hi,m0,m1,m2⟩
   show (∃ y,q22_L0 m i c = _ ∧ _) ∨ ∃ d,q22_L0 m i c = _ ∧ _
   unfold q22_L0
   have ho:=h.op i
   by_cases h1:i < 33
   · rw [bif_t (by simp; omega),wI_succ h1 (by omega)]
     refine .inl ⟨_,rfl,⟨i + 1,_,rfl,h1,?_⟩,by simp only [tN]; omega,fun d hd=>hd⟩
     split <;> omega
   · rw [bif_f (by simp; omega)]
     exact .inr ⟨_,rfl,m,rfl,by omega,m1⟩) (((),((0:Int),((0:Int),()))),(c,())) ⟨0,0,rfl,by omega,by omega,by omega,.inl rfl⟩
 unfold g22 at e2
 rw [h.ok',q1] at e2
 simp only [Bool.not_true,cond_false,oB,Option.some.injEq,Prod.mk.injEq,and_true] at e2
 obtain ⟨h1,h2,h3,h4,h5,h6,h7⟩:=h
 have w:f101 c (false,(false,(true,()))) = c.2.2.2.1 + c.2.2.2.2.1 + c.2.2.2.2.2.2.1:=by
  show wI (wI (wI (0 + c.2.2.2.1) + c.2.2.2.2.1) + c.2.2.2.2.2.2.1) = _
  rw [wI_id (n:=0 + c.2.2.2.1) (by omega) (by omega),wI_id (n:=0 + c.2.2.2.1 + c.2.2.2.2.1) (by omega) (by omega),wI_id (by omega) (by omega)]; omega
 rw [w,wI_id (n:=2 * _) (by omega) (by omega),wI_id (n:=m + _) (by omega) (by omega),wI_id (by omega) (by omega)] at e2
 omega
theorem padD {c:Co} (h:CostD c) (s:Int×(Int×(Int×Unit))) (hs:f237 s = true) (h1:s.1 = 1 ∨ s.1 = 2 ∨ s.1 = 4) (h2:s.2.1 = 1 ∨ s.2.1 = 2) (x:L Ch) (hx:x.len≤4) (hok:∀ j,j < x.len→f328 (x.get j) = true) :
 ∃ n:Int,g293 c s x = some ((n,()),()) ∧ g210 c s x = some ((n,()),()) ∧ 1≤n ∧ n≤190:=by
 have hc:=h.ok
 have c1:1≤c.1 ∧ c.1≤20:=by have:=h.b; omega
 obtain ⟨m,e1,e2⟩:=good x (by omega) c c1 (wI ((wI (16 * c.1)) + (wI ((wI (s.1 * s.2.1)) * c.2.2.2.2.2.2.1)))) hok
 refine ⟨m,?_,?_,?_⟩
 · unfold g293
   rw [hc,hs]
   simp only [Bool.not_true,cond_false]
   rw [bif_f (by simp; omega),e1]; rfl
 · unfold g210
   rw [e2]; rfl
 · have hb:=h.b
   have hl:=h.line
   have hn:16≤(wI ((wI (16 * c.1)) + (wI ((wI (s.1 * s.2.1)) * c.2.2.2.2.2.2.1)))) ∧ (wI ((wI (16 * c.1)) + (wI ((wI (s.1 * s.2.1)) * c.2.2.2.2.2.2.1))))≤48:=by
    rw [wI_id (n:=16 * c.1) (by omega) (by omega)]
    have key:∀ k:Int,0≤k→k≤8→16≤wI (16 * c.1 + wI (wI k * c.2.2.2.2.2.2.1)) ∧ wI (16 * c.1 + wI (wI k * c.2.2.2.2.2.2.1))≤48:=by
     intro k k0 k1
     rw [wI_id (n:=k) (by omega) (by omega)]
     have l3:c.2.2.2.2.2.2.1 = 0 ∨ c.2.2.2.2.2.2.1 = 1 ∨ c.2.2.2.2.2.2.1 = 2:=by omega
     rcases l3 with l | l | l <;> rw [l]
     · rw [wI_id (n:=k * 0) (by omega) (by omega),wI_id (by omega) (by omega)]; omega
     · rw [wI_id (n:=k * 1) (by omega) (by omega),wI_id (by omega) (by omega)]; omega
     · rw [wI_id (n:=k * 2) (by omega) (by omega),wI_id (by omega) (by omega)]; omega
    rcases h1 with a | a | a <;> rcases h2 with b | b <;> rw [a,b] <;> exact key _ (by decide) (by decide)
   generalize (wI ((wI (16 * c.1)) + (wI ((wI (s.1 * s.2.1)) * c.2.2.2.2.2.2.1)))) = n0 at hn e2
   obtain ⟨d,q1,m',rfl,q2⟩:=fixO_rel (step:=s210_L0) (fun a=>x.len - a.1.2.2.2.2.1.toNat)
    (fun a=>∃ (i:Nat) (n:Int),a = (((),(n,(x,((x.len:Int),((i:Int),()))))),(c,())) ∧ i≤x.len ∧ 16≤n ∧ n≤48 + 16 * i) (fun _ d=>∃ m:Int,d = .inl ((m,()),()) ∧ 16≤m ∧ m≤48 + 16 * x.len)
    (by
     rintro _ ⟨i,n,rfl,hi,n0,n1⟩
     show (∃ y,q210_L0 n x x.len i c = _ ∧ _) ∨ ∃ d,q210_L0 n x x.len i c = _ ∧ _
     unfold q210_L0
     by_cases h1:i < x.len
     · rw [bif_t (idx_lt h1),bif_t (idx_in h1),wI_succ h1 (by omega),tN]
       have hd:1≤f311 (x.get i) ∧ f311 (x.get i)≤8:=by
        have:=chan_of (hok i h1)
        unfold f311
        split <;> omega
       have hm:0≤c.1 * f311 (x.get i) ∧ c.1 * f311 (x.get i)≤16:=by
        have:c.1 = 1 ∨ c.1 = 2:=by omega
        rcases this with e | e <;> rw [e] <;> omega
       rw [wI_id (n:=c.1 * _) (by omega) (by omega),wI_id (n:=n + _) (by omega) (by omega)]
       exact .inl ⟨_,rfl,⟨i + 1,_,rfl,h1,by omega,by omega⟩,by simp only [tN]; omega,fun d hd=>hd⟩
     · have:i = x.len:=by omega
       subst this
       rw [bif_f (by simp)]
       exact .inr ⟨_,rfl,n,rfl,n0,n1⟩) (((),(n0,(x,((x.len:Int),((0:Int),()))))),(c,())) ⟨0,n0,rfl,Nat.zero_le _,hn.1,by omega⟩
   rw [e2] at q1
   simp only [Option.some.injEq,Sum.inl.injEq,Prod.mk.injEq,and_true] at q1
   omega
theorem soundOf (t:Tb) (hf:Facts t) (h4:Int.tmod t.1 4 = 0) (htl:1≤t.2.2.1 ∧ t.2.2.1≤8) (hs:∀ i,i < (tParts t).len→((tParts t).get i).1.size≤2 ^ 47) (hg:∃ n:Int,g22 t.2.2.2.1 = some ((n,()),()) ∧ n≤t.2.2.2.2.2.1) :
 g104 t = some ((true,()),()):=by
 obtain ⟨hc,p1,p2,p3,hsh,hm,hpl,hP,d1,d2,d3,d4,⟨d5,d6⟩,d7,n7,_,q7,l7⟩:=hf
 obtain ⟨n,e146,hn⟩:=hg
 have e122:g204 t = some ((true,()),()):=by
  obtain ⟨b,e1,e2⟩:=impParts t (by omega) hs (fun i hi=>by have:=(hP.1 i hi).1.2.2.1; omega)
  rw [e1,e2.mpr hP]
 have eD:g205_206 (tDevs t) (((tParts t).len:Int),()) = some ((false,()),()):=by
  rcases devs t d1 with ⟨⟨i,hi,k⟩,_⟩ | ⟨_,_,k⟩
  · rw [d3 i hi] at k; cases k
  · exact k
 have eC:g207_208 (tChans t) (((tParts t).len:Int),()) = some ((false,()),()):=by
  have h2:=index_loop (step:=s310_208_L0) (x:=tChans t) (c:=(((tParts t).len:Int),())) (fun i=>f208 ((tChans t).get i) (tParts t).len) (fun i hi=>by
   simp only [s310_208_L0,q310_208_L0]
   refine (bif_t (idx_lt hi)).trans ((bif_t (idx_in hi)).trans ?_)
   rw [wI_succ hi (by omega),tN]
   by_cases hq:f208 ((tChans t).get i) (tParts t).len = true
   · rw [if_pos hq]; exact bif_t hq
   · rw [if_neg hq]; exact bif_f (by simpa using hq)) (by
   simp only [s310_208_L0,q310_208_L0]
   exact bif_f (idx_end (tChans t).len))
  rcases h2 with ⟨i,hi,k,_⟩ | ⟨_,k⟩
  · rw [(f208_iff _ _).mpr (d4 i hi)] at k; cases k
  · unfold g207_208 g310_208
    rw [k]; rfl
 have eS:g211 t = some ((true,()),()):=by
  let E:Nat→Int:=fun i=>match i with
   | 0=>0
   | i + 1=>((tSlots t).get i).2.1 + ((tSlots t).get i).2.2.1
  have hE:∀ i,i < (tSlots t).len→E i≤((tSlots t).get i).2.1:=by
   intro i hi
   cases i with
   | zero=>exact (d5 0 hi).2.2.1
   | succ i=>exact d6 i (i + 1) (by omega) hi
  have h2:=scan (step:=s211_L0) (fun i=>(((),(E i,(tSlots t,(((tSlots t).len:Int),((i:Int),()))))),(t,()))) (tSlots t).len (fun _=>true) (fun _=>.inl ((false,()),())) (.inr (.inl (((),()),(t,()))))
   (fun i hi _=>by
    obtain ⟨r1,r2,r3,r4⟩:=d5 i hi
    simp only [s211_L0,q211_L0]
    have r1':(!f157 ((tSlots t).get ((i:Int)).toNat).1 0 (wI (((t.2.2.2.2.2.2.2.1).len:Int) - 1))) = false:=by rw [tN]; exact (congrArg _ r1).trans rfl
    have r2':(!f312 t ((tSlots t).get ((i:Int)).toNat) (E i)) = false:=by
     rw [tN,(f312_iff t _ _ p1 p2 p3).mpr ⟨by omega,by omega,hE i hi,by omega⟩]; rfl
    refine (bif_t (idx_lt hi)).trans ((bif_t (idx_in hi)).trans ((bif_f r1').trans ((bif_f r2').trans ?_)))
    rw [wI_succ hi (by omega),tN,wI_id (by omega) (by omega)])
   (fun i hi ho=>by cases ho)
   (by
    simp only [s211_L0,q211_L0]
    exact bif_f (idx_end (tSlots t).len))
  rcases h2 with ⟨i,_,k,_⟩ | ⟨_,k⟩
  · cases k
  · unfold g211
    have k':fixO s211_L0 (((),((0:Int),(t.2.2.2.2.2.2.2.2.2.2.1,((t.2.2.2.2.2.2.2.2.2.2.1.len:Int),((0:Int),()))))),(t,())) = some (.inr (.inl (((),()),(t,())))):=k
    rw [k']
    have:f157 ((t.2.2.2.2.2.2.2.2.2.2.1.len:Int)) 1 16 = true:=f157_of (by show (1:Int)≤(tSlots t).len; omega) (by show ((tSlots t).len:Int)≤16; omega)
    simp only [oB]
    rw [this]
 unfold g104
 have e117:f200 t.1 = true:=by
  unfold f200
  rw [bif_t (f157_of hm.1 hm.2),h4]; rfl
 have e121:g203 t.2.2.2.1 = some ((n,()),()):=by unfold g203; rw [e146]; rfl
 have e120:∀ x:Int,1≤x ∧ x≤5000→f202 x = true:=fun x hx=>f157_of hx.1 hx.2
 rw [e117,f201_237,hsh,f157_of htl.1 htl.2,f99_249,hc,e120 _ p1,e120 _ p2,e120 _ p3,e121]
 simp only [Bool.not_true,cond_false,oB]
 have l8:f157 ((t.2.2.2.2.2.2.2.1.len:Int)) 1 6 = true:=f157_of (by show (1:Int)≤(tParts t).len; omega) (by show ((tParts t).len:Int)≤6; omega)
 have eD':g205_206 t.2.2.2.2.2.2.2.2.1 ((t.2.2.2.2.2.2.2.1.len:Int),()) = some ((false,()),()):=eD
 have eC':g207_208 t.2.2.2.2.2.2.2.2.2.1 ((t.2.2.2.2.2.2.2.1.len:Int),()) = some ((false,()),()):=eC
 have q7':g210 t.2.2.2.1 t.2.1 t.2.2.2.2.2.2.2.2.2.1 = some ((n7,()),()):=q7
 have c1:decide ((t.2.2.2.2.2.2.2.2.1.len:Int) > 8) = false:=by
  have:¬ ((t.2.2.2.2.2.2.2.2.1.len:Int) > 8):=by show ¬ (((tDevs t).len:Int) > 8); omega
  simpa using this
 have c2:decide ((t.2.2.2.2.2.2.2.2.2.1.len:Int) > 8) = false:=by
  have:¬ ((t.2.2.2.2.2.2.2.2.2.1.len:Int) > 8):=by show ¬ (((tChans t).len:Int) > 8); omega
  simpa using this
 rw [bif_f (by simp; omega),l8,e122]
 simp only [Bool.not_true,cond_false,oB]
 rw [c1,eD']
 simp only [cond_false,oB]
 rw [c2,eC']
 simp only [cond_false,oB]
 rw [q7']
 simp only [oB]
 rw [bif_f (by simp; omega),eS]
 rfl
theorem tmod4 {a:Int} (h:0≤a) (h4:a % 4 = 0):Int.tmod a 4 = 0:=by rw [Int.tmod_eq_emod_of_nonneg h]; exact h4
theorem partsOk {x:L PR} {n:Nat} {a:Int} (h:PartsD x n a) (hn:n≤4):Parts x (a + 64):=by
 have hpos:=h.pos
 have hl:=h.len
 have g:∀ i,i < n→f326 ((x.get i).2.2.2.1.get 0) = true ∧ f326 ((x.get i).2.2.2.1.get 1) = true:=by
  intro i hi
  obtain ⟨hp,he⟩:=h.part i hi
  have w0:=hp.w0
  have w1:=hp.w1
  refine ⟨(f326_iff _).mpr ⟨by omega,by omega,tmod4 (by omega) (by omega),tmod4 (by omega) (by omega),by omega,by omega⟩,(f326_iff _).mpr ⟨by omega,by omega,tmod4 (by omega) (by omega),tmod4 (by omega) (by omega),by omega,by omega⟩⟩
 refine ⟨fun i hi=>?_,?_⟩
 · obtain ⟨hp,he⟩:=h.part i (by omega)
   have w0:=hp.w0
   have w1:=hp.w1
   have we:=hp.ent
   have hw:=g i (by omega)
   refine ⟨⟨by rw [hp.name]; exact nmNM i (by omega),hp.pol,by rw [hp.len]; omega,fun j hj=>?_,⟨0,by rw [hp.len]; omega,(f369_iff _ _ hw.1).mpr (by omega),?_⟩,tmod4 (by omega) (by omega)⟩,fun q hq=>?_⟩
   · rw [hp.len] at hj
     have:j = 0 ∨ j = 1:=by omega
     rcases this with rfl | rfl
     · exact ⟨hw.1,by omega⟩
     · exact ⟨hw.2,by omega⟩
   · rw [w0.2.1]; decide
   · rw [(h.part q (by omega)).1.name,hp.name]
     exact nmApart q i hq (by omega)
 · have key:∀ k,k≤n→(winsOf x k).Pairwise apart ∧ ∀ v,v ∈ winsOf x k→∃ i,i < k ∧ v.1 + v.2.1≤((x.get i).2.2.2.1.get 1).1 + ((x.get i).2.2.2.1.get 1).2.1:=by
    intro k
    induction k with
    | zero=>intro _; exact ⟨by simp [winsOf],fun v hv=>by simp [winsOf] at hv⟩
    | succ k ih =>
      intro hk
      obtain ⟨i1,i2⟩:=ih (by omega)
      obtain ⟨hp,he⟩:=h.part k (by omega)
      have w0:=hp.w0
      have w1:=hp.w1
      have ht:toL (x.get k).2.2.2.1 = [(x.get k).2.2.2.1.get 0,(x.get k).2.2.2.1.get 1]:=by
       unfold toL
       rw [hp.len]; rfl
      rw [winsOf_succ x (by omega),ht]
      refine ⟨List.pairwise_append.mpr ⟨i1,?_,fun v hv w hw=>?_⟩,fun v hv=>?_⟩
      · refine List.pairwise_cons.mpr ⟨fun w hw=>?_,List.pairwise_singleton _ _⟩
        simp only [List.mem_cons,List.not_mem_nil,or_false] at hw
        subst hw
        exact .inl (by omega)
      · obtain ⟨i,hi,hle⟩:=i2 v hv
        have ho:=h.ord i k hi (by omega)
        simp only [List.mem_cons,List.not_mem_nil,or_false] at hw
        rcases hw with rfl | rfl
        · exact .inl (by omega)
        · exact .inl (by omega)
      · rcases List.mem_append.mp hv with hv | hv
        · obtain ⟨i,hi,hle⟩:=i2 v hv
          exact ⟨i,by omega,hle⟩
        · refine ⟨k,by omega,?_⟩
          simp only [List.mem_cons,List.not_mem_nil,or_false] at hv
          rcases hv with rfl | rfl <;> omega
   rw [hl]
   exact (key n (Nat.le_refl _)).1
theorem in3 {x a b c:Int} (h:x ∈ [a,b,c]):x = a ∨ x = b ∨ x = c:=by simpa using h
theorem in4 {x a b c d:Int} (h:x ∈ [a,b,c,d]):x = a ∨ x = b ∨ x = c ∨ x = d:=by simpa using h
set_option maxHeartbeats 1600000 in
theorem tablesD (c:Cur) (hc:Cw c) (n:Nat) (h1:2≤n) (h2:n≤4):∃ (t:Tb) (c':Cur),g190d c n = some ((t,()),(c',())) ∧ Cw c' ∧ g104 t = some ((true,()),()) ∧ Facts t ∧ t.2.2.2.2.2.2.1≤3000 ∧ ∃ a,PartsD (tParts t) n a:=by
 obtain ⟨s1,k1,q1,m1,hk1⟩:=pickIn c hc (Ty.zero (.int .i64)) [1,2,4] (by decide) (by decide)
 obtain ⟨s2,k2,q2,a2,b2,hk2⟩:=below k1 hk1 2 (by omega) (by omega)
 obtain ⟨s3,k3,q3,m3,hk3⟩:=pickIn k2 hk2 (Ty.zero (.int .i64)) [4,8,16] (by decide) (by decide)
 obtain ⟨tl,k4,q4,a4,b4,hk4⟩:=below k3 hk3 4 (by omega) (by omega)
 obtain ⟨o1,k5,q5,a5,b5,hk5⟩:=below k4 hk4 2 (by omega) (by omega)
 obtain ⟨o2,k6,q6,a6,b6,hk6⟩:=below k5 hk5 4 (by omega) (by omega)
 obtain ⟨o3,k7,q7,a7,b7,hk7⟩:=below k6 hk6 3 (by omega) (by omega)
 obtain ⟨o4,k8,q8,a8,b8,hk8⟩:=below k7 hk7 6 (by omega) (by omega)
 obtain ⟨o5,k9,q9,a9,b9,hk9⟩:=below k8 hk8 4 (by omega) (by omega)
 obtain ⟨o6,k10,q10,a10,b10,hk10⟩:=below k9 hk9 3 (by omega) (by omega)
 obtain ⟨o7,k11,q11,a11,b11,hk11⟩:=below k10 hk10 3 (by omega) (by omega)
 obtain ⟨w,k12,q12r,a12,b12,hk12⟩:=below k11 hk11 4 (by omega) (by omega)
 unfold g190d
 simp only [q1,q2,q3,q4,k4_1,q5,q6,q7,q8,q9,q10,q11,q12r,oB]
 have e2:wI (1 + s2) = 1 + s2:=wI_id (by omega) (by omega)
 have e4:wI (1 + tl) = 1 + tl:=wI_id (by omega) (by omega)
 have e5:wI (1 + o1) = 1 + o1:=wI_id (by omega) (by omega)
 have e12:wI (4 * w) = 4 * w:=wI_id (by omega) (by omega)
 rw [e2,e4,e5,e12]
 have m1:=in3 m1
 have m3:=in3 m3
 obtain ⟨a,x,c1,p1,hc1,hx⟩:=partsLoop _ _ _ _ _ _ _ _ _ _ _ _ _ _ _ _ _ _ _ 0 s1 (1 + s2) s3 (1 + tl) (1 + o1) o2 o3 o4 o5 o6 o7 0 0 0 (nilL (.int .i64)) (nilL (.pair (.int .i64) (.pair (.int .i64) (.pair (.int .i64) (.pair (.int .i64) .unit))))) (nilL (.pair (.int .i64) (.pair (.int .i64) (.pair (.int .i64) .unit)))) n h1 h2 k12 hk12 (4 * w) ⟨by omega,by omega,by omega⟩ (nilL (.pair .str (.pair (.int .i64) (.pair (.pair (.int .i64) (.pair (.int .i64) .unit)) (.pair (.sl (.pair (.int .i64) (.pair (.int .i64) (.pair (.int .i64) .unit)))) .unit))))) rfl
 rw [p1]
 simp only [oB]
 have hpos:=hx.pos
 have ea:wI (a + 64) = a + 64:=wI_id (by omega) (by omega)
 rw [ea]
 obtain ⟨dv,c2,p2,hc2,hdl,hdv⟩:=devsLoop _ _ _ _ _ _ _ _ _ _ _ _ _ _ _ _ _ _ _ (a + 64) s1 (1 + s2) s3 (1 + tl) (1 + o1) o2 o3 o4 o5 o6 o7 0 0 0 x _ _ n h1 h2 c1 hc1 (nilL (.int .i64)) rfl
 rw [p2]
 simp only [oB]
 obtain ⟨ch,c3,p3,hc3,hcl,hch⟩:=chansLoop _ _ _ _ _ _ _ _ _ _ _ _ _ _ _ _ _ _ _ (a + 64) s1 (1 + s2) s3 (1 + tl) (1 + o1) o2 o3 o4 o5 o6 o7 0 0 0 x dv _ n h1 h2 c2 hc2 (nilL (.pair (.int .i64) (.pair (.int .i64) (.pair (.int .i64) (.pair (.int .i64) .unit))))) rfl
 rw [p3]
 simp only [oB]
 have hcost:CostD (1 + o1,(o2,(o3,(o4,(o5,(o6,(o7,()))))))):=⟨by show 1≤1 + o1 ∧ 1 + o1≤2; omega,by show 0≤o2 ∧ o2≤3; omega,by show 0≤o3 ∧ o3≤2; omega,by show 0≤o4 ∧ o4≤5; omega,by show 0≤o5 ∧ o5≤3; omega,by show 0≤o6 ∧ o6≤2; omega,by show 0≤o7 ∧ o7≤2; omega⟩
 have hs2:1 + s2 = 1 ∨ 1 + s2 = 2:=by omega
 have hsh:f237 (s1,(1 + s2,(s3,()))) = true:=by
  have l2:=f42_of (x:=1 + s2) (y:=1) (z:=4) (by omega) (by omega)
  rcases m1 with rfl | rfl | rfl <;> rcases m3 with rfl | rfl | rfl <;> rcases hs2 with e | e <;> rw [e] <;> decide +kernel
 obtain ⟨gn,g1,g2,g3,g4⟩:=worstCost hcost
 obtain ⟨pn,r1,r2,r3,r4⟩:=padD hcost (s1,(1 + s2,(s3,()))) hsh m1 hs2 ch hcl (fun j hj=>(hch j hj).1)
 rw [g1]
 simp only [oB]
 obtain ⟨v1,c4,p4,mv1,hc4⟩:=pickIn c3 hc3 (Ty.zero (.int .i64)) [0,0,1,5] (by decide) (by decide)
 rw [p4]
 simp only [oB]
 rw [r1]
 simp only [oB]
 obtain ⟨v2,c5,p5,mv2,hc5⟩:=pickIn c4 hc4 (Ty.zero (.int .i64)) [0,0,1,7] (by decide) (by decide)
 rw [p5]
 simp only [oB]
 obtain ⟨v3,c6,p6,mv3,hc6⟩:=pickIn c5 hc5 (Ty.zero (.int .i64)) [0,0,5] (by decide) (by decide)
 rw [p6]
 simp only [oB]
 have mv1:=in4 mv1
 have mv2:=in4 mv2
 have mv3:=in3 mv3
 have eg:wI (gn + v1) = gn + v1:=wI_id (by omega) (by omega)
 have ep:wI (pn + v2) = pn + v2:=wI_id (by omega) (by omega)
 rw [eg,ep]
 obtain ⟨sl,i,st,c7,p7,hc7,hni,hi6,hsl⟩:=slotsLoopD _ _ _ _ _ _ _ _ _ _ _ _ _ _ _ _ _ _ _ (a + 64) s1 (1 + s2) s3 (1 + tl) (1 + o1) o2 o3 o4 o5 o6 o7 (pn + v2) (gn + v1) 0 x dv ch ⟨by omega,by omega⟩ ⟨by omega,by omega⟩ n h1 h2 c6 hc6 v3 ⟨by omega,by omega⟩ (nilL (.pair (.int .i64) (.pair (.int .i64) (.pair (.int .i64) .unit)))) rfl
 rw [p7]
 simp only [oB]
 have hll:=hsl.len
 have htop:=hsl.top
 have elast:wI ((sl.len:Int) - 1) = ((sl.len - 1:Nat):Int):=by rw [wI_id (by omega) (by omega)]; omega
 rw [elast,bif_t (by simp; omega),tN]
 obtain ⟨v4,c8,p8,mv4,hc8⟩:=pickIn c7 hc7 (Ty.zero (.int .i64)) [0,0,1,20] (by decide) (by decide)
 rw [p8]
 simp only [oB]
 have mv4:=in4 mv4
 have hlr:=hsl.row (sl.len - 1) (by omega)
 have el1:wI ((sl.get (sl.len - 1)).2.1 + (sl.get (sl.len - 1)).2.2.1) = (sl.get (sl.len - 1)).2.1 + (sl.get (sl.len - 1)).2.2.1:=wI_id (by omega) (by omega)
 rw [el1]
 have el2:wI ((sl.get (sl.len - 1)).2.1 + (sl.get (sl.len - 1)).2.2.1 + v4) = (sl.get (sl.len - 1)).2.1 + (sl.get (sl.len - 1)).2.2.1 + v4:=wI_id (by omega) (by omega)
 rw [el2]
 generalize hmaj:(sl.get (sl.len - 1)).2.1 + (sl.get (sl.len - 1)).2.2.1 + v4 = mj
 refine ⟨_,c8,rfl,hc8,?_⟩
 have hxl:=hx.len
 have hF:Facts (a + 64,((s1,(1 + s2,(s3,()))),(1 + tl,((1 + o1,(o2,(o3,(o4,(o5,(o6,(o7,()))))))),(pn + v2,(gn + v1,(mj,(x,(dv,(ch,(sl,()))))))))))):=by
  refine ⟨hcost.ok,⟨by show 1≤pn + v2; omega,by show pn + v2≤5000; omega⟩,⟨by show 1≤gn + v1; omega,by show gn + v1≤5000; omega⟩,⟨by show 1≤mj; omega,by show mj≤5000; omega⟩,hsh,⟨by show 64≤a + 64; omega,by show a + 64≤2048; omega⟩,⟨by show 1≤x.len; omega,by show x.len≤6; omega⟩,partsOk hx h2,?_⟩
  have ew:wI ((x.len:Int) - 1) = (x.len:Int) - 1:=wI_id (by omega) (by omega)
  refine ⟨by show dv.len≤8; omega,by show ch.len≤8; omega,fun j hj=>?_,fun j hj=>?_,⟨fun k hk=>?_,fun k m hkm hm=>hsl.ord k m hkm (by rw [← hll]; exact hm)⟩,⟨by show 1≤sl.len; omega,by show sl.len≤16; omega⟩,pn,r1,r2,by show pn + v2 ≥ pn; omega⟩
  · show f42 (dv.get j) 0 (wI ((x.len:Int) - 1)) = true
    have:=hdv j hj
    rw [ew]
    exact f42_of (by omega) (by omega)
  · have:=hch j hj
    exact ⟨this.1,by show _ < (x.len:Int); rw [hxl]; exact this.2.1,by show _ < (x.len:Int); rw [hxl]; exact this.2.2⟩
  · have hk:k < sl.len:=hk
    have hr:=hsl.row k (by omega)
    refine ⟨?_,hr.2.2.1,hr.2.2.2.2.1,?_⟩
    · show f42 (sl.get k).1 0 (wI ((x.len:Int) - 1)) = true
      rw [ew]
      exact f42_of hr.1 (by omega)
    · show (sl.get k).2.1 + (sl.get k).2.2.1≤mj
      by_cases e:k = sl.len - 1
      · subst e; omega
      · have:=hsl.ord k (sl.len - 1) (by omega) (by omega)
        omega
 refine ⟨soundOf _ hF (tmod4 (by show 0≤a + 64; omega) (by show (a + 64) % 4 = 0; omega)) ⟨by show 1≤1 + tl; omega,by show 1 + tl≤8; omega⟩ (fun k hk=>?_) ⟨gn,g2,by show gn≤gn + v1; omega⟩,hF,by show mj≤3000; omega,a,hx⟩
 have hk:k < x.len:=hk
 show (x.get k).1.size≤2 ^ 47
 rw [(hx.part k (by omega)).1.name]
 have:k = 0 ∨ k = 1 ∨ k = 2 ∨ k = 3:=by omega
 rcases this with rfl | rfl | rfl | rfl <;> decide
abbrev Im:Type:=L (L Int)
abbrev Wy:Type:=Int×(Bool×Unit)
abbrev Sh:Type:=Int×(Int×(Int×Unit))
abbrev Ca:Type:=Sh×((L (L Wy))×Unit)
abbrev Gu:Type:=(L Int)×(Int×(Im×Unit))
abbrev Vi:Type:=Bool×(Int×(Int×(Int×(Int×(Bool×(Bool×(Int×Unit)))))))
abbrev He:Type:=Int×(Int×(Int×(Bool×Unit)))
abbrev Tl:Type:=Int×((L Int)×Unit)
abbrev Oe:Type:=Int×((L Int)×Unit)
abbrev Ie:Type:=(L Int)×Unit
abbrev De:Type:=(L Int)×((L Int)×Unit)
abbrev St:Type:=Gu×(Vi×(He×(Ca×(Tl×(Int×(Bool×(Im×((L Oe)×((L Ie)×((L De)×Unit))))))))))
def sOuts (s:St):L Oe:=s.2.2.2.2.2.2.2.2.1
def sIns (s:St):L Ie:=s.2.2.2.2.2.2.2.2.2.1
def sDevs (s:St):L De:=s.2.2.2.2.2.2.2.2.2.2.1
def sBoot (s:St):Im:=s.2.2.2.2.2.2.2.1
def BndI (x:Im) (m:Nat):Prop:=x.len≤m ∧ ∀ i,i < x.len→(x.get i).len≤m
def BndS (s:St) (m:Nat):Prop :=
 s.1.1.len≤m ∧ BndI s.1.2.2.1 m ∧ (s.2.2.2.1.2.1.len≤m ∧ ∀ i,i < s.2.2.2.1.2.1.len→(s.2.2.2.1.2.1.get i).len≤m) ∧ s.2.2.2.2.1.2.1.len≤m ∧ BndI (sBoot s) m ∧
 ((sOuts s).len≤m ∧ ∀ i,i < (sOuts s).len→((sOuts s).get i).2.1.len≤m) ∧ ((sIns s).len≤m ∧ ∀ i,i < (sIns s).len→((sIns s).get i).1.len≤m) ∧
 ((sDevs s).len≤m ∧ ∀ i,i < (sDevs s).len→((sDevs s).get i).1.len≤m ∧ ((sDevs s).get i).2.1.len≤m)
theorem below4 (c:Cur) (h:Cw c) (n:Int) (h1:257≤n) (h2:n≤2147483648):∃ (x:Int) (c':Cur),g191d c n = some ((x,()),(c',())) ∧ 0≤x ∧ x < n ∧ Cw c':=by
 obtain ⟨x1,d1,e1,a1,b1,k1⟩:=byte c h
 obtain ⟨x2,d2,e2,a2,b2,k2⟩:=byte d1 k1
 obtain ⟨x3,d3,e3,a3,b3,k3⟩:=byte d2 k2
 obtain ⟨x4,d4,e4,a4,b4,k4⟩:=byte d3 k3
 unfold g191d
 rw [bif_f (by simp; omega),bif_f (by simp; omega)]
 simp only [e1,e2,e3,e4,oB]
 rw [bif_t (by simp; omega),wI_id (n:=x1 * 16777216) (by omega) (by omega),wI_id (n:=x2 * 65536) (by omega) (by omega),wI_id (n:=x1 * 16777216 + x2 * 65536) (by omega) (by omega)]
 refine ⟨_,_,rfl,?_,Int.tmod_lt_of_pos _ (by omega),k4⟩
 apply Int.tmod_nonneg
 rw [wI_id (n:=x3 * 256) (by omega) (by omega),wI_id (n:=x1 * 16777216 + x2 * 65536 + x3 * 256) (by omega) (by omega),wI_id (by omega) (by omega)]
 omega
def RowG (wy:Int) (row:L Wy):Prop:=(row.len:Int)≤wy ∧ (∀ i,i < row.len→0≤(row.get i).1 ∧ (row.get i).1≤65535) ∧ ∀ i k,i < k→k < row.len→(row.get i).1 ≠ (row.get k).1
def CaG (c:Ca):Prop:=f237 c.1 = true ∧ (c.2.1.len:Int) = c.1.1 ∧ ∀ r,r < c.2.1.len→RowG c.1.2.1 (c.2.1.get r)
theorem shapeG {s:Sh} (h:f237 s = true):(1≤s.1 ∧ s.1≤16) ∧ (1≤s.2.1 ∧ s.2.1≤4) ∧ 4≤s.2.2.1 ∧ s.2.2.1≤32:=by
 rw [f237_eq] at h
 simp only [Bool.and_eq_true,Bool.or_eq_true,beq_iff_eq] at h
 have:=(f42_iff _ _ _).mp h.2.1
 omega
theorem useRow (row:L Wy) (wy t:Int) (hr:RowG wy row) (hwy:wy≤4):∀ {t2 t10 t13 t14 t15 b3 va vb vc vd ve vf vg vh:_} (d0:Bool),∃ (k:L Wy) (b d:Bool),
 fixO s252r_L2 ((t2,((),((),(t10,(t,((),(t13,(t14,(t15,(row,((),((),((0:Int),()))))))))))))),(b3,((va,(vb,(vc,((),())))),((vd,(ve,(vf,((),())))),((t,(d0,())),((L.of (Ty.zero (.pair (.int .i64) (.pair .bool .unit))) []),(vg,(vh,())))))))) = some (.inl ((t2,((),((),(t10,(t,((),(b,(t14,(t15,((),((),()))))))))))),(b3,((va,(vb,(vc,((),())))),((vd,(ve,(vf,((),())))),((t,(d,())),(k,(vg,(vh,()))))))))) ∧ RowG wy k ∧ ∀ i,i < k.len→(k.get i).1 ≠ t:=by
 intro t2 t10 t13 t14 t15 b3 va vb vc vd ve vf vg vh d0
 obtain ⟨h1,h2,h3⟩:=hr
 obtain ⟨d,e1,k,b,d',rfl,e2⟩:=loop_n (step:=s252r_L2) row.len (fun i x=>∃ (k:L Wy) (b d:Bool),x = ((t2,((),((),(t10,(t,((),(b,(t14,(t15,(row,((),((),((i:Int),()))))))))))))),(b3,((va,(vb,(vc,((),())))),((vd,(ve,(vf,((),())))),((t,(d,())),(k,(vg,(vh,())))))))) ∧ k.len≤i ∧ (∀ m,m < k.len→∃ j,j < i ∧ k.get m = row.get j ∧ (row.get j).1 ≠ t) ∧ ∀ a b,a < b→b < k.len→(k.get a).1 ≠ (k.get b).1)
  (fun d=>∃ (k:L Wy) (b d':Bool),d = .inl ((t2,((),((),(t10,(t,((),(b,(t14,(t15,((),((),()))))))))))),(b3,((va,(vb,(vc,((),())))),((vd,(ve,(vf,((),())))),((t,(d',())),(k,(vg,(vh,())))))))) ∧ RowG wy k ∧ ∀ i,i < k.len→(k.get i).1 ≠ t)
  (by
   rintro i _ hi ⟨k,b,d,rfl,g1,g2,g3⟩
   left
   simp only [s252r_L2,q252r_L2]
   rw [bif_t (idx_lt hi),bif_t (idx_in hi),bif_t (idx_in hi),tN,wI_succ hi (by omega)]
   by_cases ht:(row.get i).1 = t
   · rw [bif_t (by simpa using ht)]
     have g2':∀ m,m < k.len→∃ j,j < i + 1 ∧ k.get m = row.get j ∧ (row.get j).1 ≠ t:=fun m hm=>by obtain ⟨j,p,q⟩:=g2 m hm; exact ⟨j,by omega,q⟩
     cases t2 with
     | true=>exact ⟨_,rfl,k,true,true,rfl,by omega,g2',g3⟩
     | false=>exact ⟨_,rfl,k,true,(row.get i).2.1,rfl,by omega,g2',g3⟩
   · rw [bif_f (by simpa using ht),bif_t (idx_in hi),bif_t (by
      show decide (k.len + 1≤most) = true
      exact most_le (by omega))]
     refine ⟨_,rfl,L.app k (L.of (Ty.zero (.pair (.int .i64) (.pair .bool .unit))) [row.get i]),b,d,rfl,by show k.len + 1≤i + 1; omega,fun m hm=>?_,fun a c hac hc=>?_⟩
     · by_cases e:m = k.len
       · subst e; rw [app_hi]; exact ⟨i,by omega,rfl,ht⟩
       · have hm:m < k.len + 1:=hm
         rw [app_lo _ _ (by omega)]
         obtain ⟨j,p,q⟩:=g2 m (by omega)
         exact ⟨j,by omega,q⟩
     · have hc:c < k.len + 1:=hc
       rw [app_lo _ _ (show a < k.len by omega)]
       by_cases e:c = k.len
       · subst e
         rw [app_hi]
         obtain ⟨j,p,q,_⟩:=g2 a hac
         rw [q]
         exact h3 j i p hi
       · rw [app_lo _ _ (by omega)]
         exact g3 a c hac (by omega))
  (by
   rintro _ ⟨k,b,d,rfl,g1,g2,g3⟩
   simp only [s252r_L2,q252r_L2]
   rw [bif_f (idx_end row.len)]
   refine ⟨_,rfl,k,b,d,rfl,⟨by omega,fun i hi=>?_,g3⟩,fun i hi=>?_⟩
   · obtain ⟨j,p,q,_⟩:=g2 i hi
     rw [q]; exact h2 j p
   · obtain ⟨j,p,q,r⟩:=g2 i hi
     rw [q]; exact r) _ ⟨L.of (Ty.zero (.pair (.int .i64) (.pair .bool .unit))) [],_,_,rfl,Nat.le_refl 0,fun m hm=>absurd hm (Nat.not_lt_zero m),fun a b _ hb=>absurd hb (Nat.not_lt_zero b)⟩
 exact ⟨k,b,d',e1,e2⟩
theorem cons_get {α:Type} (z v:α) (k:L α) (i:Nat):(L.app (L.of z [v]) k).get (i + 1) = k.get i:=by
 have e:Nat.blt (i + 1) 1 = false:=by rw [Bool.eq_false_iff]; simp
 show (bif Nat.blt (i + 1) 1 then (L.of z [v]).get (i + 1) else k.get (i + 1 - 1)) = _
 rw [e]
 rfl
theorem RowG.cons {wy t:Int} {k:L Wy} (hk:RowG wy k) (hl:(k.len:Int) < wy) (ht:0≤t ∧ t≤65535) (hn:∀ i,i < k.len→(k.get i).1 ≠ t) (z:Wy) (d:Bool):RowG wy (L.app (L.of z [(t,(d,()))]) k):=by
 obtain ⟨h1,h2,h3⟩:=hk
 have e0:(L.app (L.of z [(t,(d,()))]) k).get 0 = (t,(d,())):=rfl
 have el:(L.app (L.of z [(t,(d,()))]) k).len = 1 + k.len:=rfl
 refine ⟨by rw [el]; omega,fun i hi=>?_,fun i j hij hj=>?_⟩
 · cases i with
   | zero=>rw [e0]; exact ht
   | succ i=>rw [cons_get]; exact h2 i (by omega)
 · cases j with
   | zero=>omega
   | succ j =>
     rw [cons_get]
     cases i with
     | zero=>rw [e0]; exact fun q=>hn j (by omega) q.symm
     | succ i=>rw [cons_get]; exact h3 i j (by omega) (by omega)
theorem RowG.cut {wy:Int} {k:L Wy} (hk:RowG wy k) (n:Nat) (hn:n≤k.len):RowG wy (L.cut k 0 n):=by
 obtain ⟨h1,h2,h3⟩:=hk
 have el:(L.cut k 0 n).len = n:=Nat.sub_zero n
 have eg:∀ i,(L.cut k 0 n).get i = k.get i:=fun i=>congrArg k.get (Nat.zero_add i)
 exact ⟨by rw [el]; omega,fun i hi=>by rw [eg]; exact h2 i (by omega),fun i j a b=>by rw [eg,eg]; exact h3 i j a (by omega)⟩
theorem RowG.ofApp {wy:Int} {k:L Wy} (hk:RowG wy k) (z:Wy):RowG wy (L.app (L.of z []) k):=by
 obtain ⟨h1,h2,h3⟩:=hk
 have el:(L.app (L.of z []) k).len = k.len:=Nat.zero_add _
 have eg:∀ i,(L.app (L.of z []) k).get i = k.get i:=fun i=>rfl
 exact ⟨by rw [el]; omega,fun i hi=>by rw [eg]; exact h2 i (by omega),fun i j a b=>by rw [eg,eg]; exact h3 i j a (by omega)⟩
theorem tagG {x l s:Int} (hx:0≤x ∧ x≤65535) (hl:4≤l) (hs:1≤s):wI (Int.tdiv x l) = x / l ∧ 0≤x / l ∧ x / l≤65535 ∧ wI (Int.tdiv (x / l) s) = x / l / s ∧ 0≤x / l / s ∧ x / l / s≤65535:=by
 have a1:0≤x / l:=Int.ediv_nonneg hx.1 (by omega)
 have a2:x / l≤x:=Int.ediv_le_self _ hx.1
 have b1:0≤x / l / s:=Int.ediv_nonneg a1 (by omega)
 have b2:x / l / s≤x / l:=Int.ediv_le_self _ a1
 rw [Int.tdiv_eq_ediv_of_nonneg hx.1,Int.tdiv_eq_ediv_of_nonneg a1,wI_id (by omega) (by omega),wI_id (by omega) (by omega)]
 exact ⟨rfl,a1,by omega,rfl,b1,by omega⟩
def CaN (c:Ca):Prop:=∀ i,i < c.2.1.len→(c.2.1.get i).nil = false
def RowQ (wy:Int) (row:L Wy):Prop:=RowG wy row ∧ row.nil = false
set_option maxHeartbeats 1000000 in
theorem useD (c:Ca) (h:CaG c) (x:Int) (hx:0≤x ∧ x≤65535) (w:Bool):∃ (c':Ca) (p q:Bool),g252r c x w = some ((c',(p,(q,()))),()) ∧ c'.1 = c.1 ∧ CaG c' ∧ CaN c':=by
 obtain ⟨hs,hl,hr⟩:=h
 obtain ⟨s1,s2,s3⟩:=shapeG hs
 obtain ⟨u1,u2,u3,u4,u5,u6⟩:=tagG hx s3.1 s1.1
 unfold g252r
 rw [bif_t (by simp; omega),bif_t (by simp; omega),bif_t (by simp; omega),u1,u4]
 generalize hT:x / c.1.2.2.1 / c.1.1 = T at *
 generalize hS:Int.tmod (x / c.1.2.2.1) c.1.1 = S
 obtain ⟨⟨sets,ways,line,⟨⟩⟩,rows,⟨⟩⟩:=c
 simp only at hs hl hr s1 s2 s3 ⊢
 have key:∀ {va vb vc vi:_},∃ (p q:Bool) (r:L (L Wy)),fixO s252r_L0 ((w,((),((),(S,(T,((),(false,(false,((0:Int),()))))))))),(((sets,(ways,(line,()))),(rows,())),((va,(vb,(vc,(vi,())))),((sets,(ways,(line,((nilL (.sl (.pair (.int .i64) (.pair .bool .unit)))),())))),())))) = some (.inl (((),((),(p,(q,())))),((va,(vb,(vc,((),())))),((sets,(ways,(line,((),())))),(vi,(r,())))))) ∧ r.len = rows.len ∧ ∀ i,i < rows.len→RowQ ways (r.get i):=by
  intro va vb vc vi
  obtain ⟨d,e1,p,q,r,rfl,e2⟩:=loop_n (step:=s252r_L0) rows.len (fun i y=>∃ (p q:Bool) (r:L (L Wy)),y = ((w,((),((),(S,(T,((),(p,(q,((i:Int),()))))))))),(((sets,(ways,(line,()))),(rows,())),((va,(vb,(vc,(vi,())))),((sets,(ways,(line,(r,())))),())))) ∧ r.len = i ∧ ∀ j,j < i→RowQ ways (r.get j))
   (fun d=>∃ (p q:Bool) (r:L (L Wy)),d = .inl (((),((),(p,(q,())))),((va,(vb,(vc,((),())))),((sets,(ways,(line,((),())))),(vi,(r,()))))) ∧ r.len = rows.len ∧ ∀ i,i < rows.len→RowQ ways (r.get i))
   (by
    rintro i _ hi ⟨p,q,r,rfl,g1,g2⟩
    left
    have hrow:=hr i hi
    have add:∀ {v:L Wy} {z:L Wy},RowQ ways v→(L.app r (L.of z [v])).len = i + 1 ∧ ∀ j,j < i + 1→RowQ ways ((L.app r (L.of z [v])).get j):=fun hv=>app_all g1 g2 _ _ hv
    simp only [s252r_L0,q252r_L0]
    rw [bif_t (idx_lt hi),bif_t (idx_in hi),tN,wI_succ hi (by omega)]
    by_cases hiS:(i:Int) = S
    · rw [bif_f (by simpa using hiS)]
      obtain ⟨k,b,d,k1,k2,k3⟩:=useRow (rows.get i) ways T hrow s2.2 w
      rw [k1]
      simp only [oB]
      rw [wI_succ hi (by omega)]
      by_cases hk:(k.len:Int) = ways
      · have ew:wI ((k.len:Int) - 1) = ((k.len - 1:Nat):Int):=by rw [wI_id (by omega) (by omega)]; omega
        rw [bif_t (by simpa using hk),ew,bif_t (by simp; omega),bif_t (by simp),tN,bif_t (by
         show decide (1 + (k.len - 1 - 0)≤most) = true
         exact most_le (by omega)),bif_t (by
         show decide (r.len + 1≤most) = true
         exact most_le (by omega))]
        have A:=add (z:=Ty.zero (.sl (.pair (.int .i64) (.pair .bool .unit)))) ⟨RowG.cons (k2.cut (k.len - 1) (by omega)) (by show ((k.len - 1 - 0:Nat):Int) < ways; omega) ⟨u5,u6⟩ (fun j hj=>by
         have hj:j < k.len - 1 - 0:=hj
         have eg:(L.cut k 0 (k.len - 1)).get j = k.get j:=congrArg k.get (Nat.zero_add j)
         rw [eg]; exact k3 j (by omega)) (Ty.zero (.pair (.int .i64) (.pair .bool .unit))) d,rfl⟩
        exact ⟨_,rfl,_,_,_,rfl,A.1,A.2⟩
      · have hk1:=k2.1
        rw [bif_f (by simpa using hk),bif_t (by
         show decide (1 + k.len≤most) = true
         exact most_le (by omega)),bif_t (by
         show decide (r.len + 1≤most) = true
         exact most_le (by omega))]
        have A:=add (z:=Ty.zero (.sl (.pair (.int .i64) (.pair .bool .unit)))) ⟨RowG.cons k2 (by omega) ⟨u5,u6⟩ k3 (Ty.zero (.pair (.int .i64) (.pair .bool .unit))) d,rfl⟩
        exact ⟨_,rfl,_,_,_,rfl,A.1,A.2⟩
    · have hr1:=hrow.1
      rw [bif_t (by simpa using hiS),bif_t (by
       show decide (0 + (rows.get i).len≤most) = true
       exact most_le (by omega)),bif_t (by
       show decide (r.len + 1≤most) = true
       exact most_le (by omega))]
      have A:=add (z:=Ty.zero (.sl (.pair (.int .i64) (.pair .bool .unit)))) ⟨RowG.ofApp hrow (Ty.zero (.pair (.int .i64) (.pair .bool .unit))),rfl⟩
      exact ⟨_,rfl,_,_,_,rfl,A.1,A.2⟩)
   (by
    rintro _ ⟨p,q,r,rfl,g1,g2⟩
    simp only [s252r_L0,q252r_L0]
    exact ⟨_,bif_f (idx_end rows.len),p,q,r,rfl,g1,g2⟩) _ ⟨false,false,nilL (.sl (.pair (.int .i64) (.pair .bool .unit))),rfl,rfl,fun j hj=>absurd hj (Nat.not_lt_zero j)⟩
  exact ⟨p,q,r,e1,e2⟩
 obtain ⟨p,q,r,k1,k2,k3⟩:=@key 0 0 0 (nilL (.sl (.pair (.int .i64) (.pair .bool .unit))))
 rw [k1]
 exact ⟨_,p,q,rfl,rfl,⟨hs,by show (r.len:Int) = sets; omega,fun j hj=>(k3 j (by have hj:j < r.len:=hj; omega)).1⟩,fun j hj=>(k3 j (by have hj:j < r.len:=hj; omega)).2⟩
theorem emptyD (s:Sh) (h:f237 s = true):∃ c:Ca,g227r s = some ((c,()),()) ∧ c.1 = s ∧ CaG c ∧ CaN c ∧ ∀ i,i < c.2.1.len→(c.2.1.get i).len = 0:=by
 obtain ⟨s1,s2,s3⟩:=shapeG h
 have key:∀ {vj vk vl vm vn vo vp:_},∃ r:L (L Wy),fixO s227r_L0 (((),((),((),((0:Int),())))),(s,((vj,(vk,(vl,(vm,())))),((vn,(vo,(vp,((nilL (.sl (.pair (.int .i64) (.pair .bool .unit)))),())))),())))) = some (.inl (((),((),())),((vj,(vk,(vl,((),())))),((vn,(vo,(vp,((),())))),(vm,(r,())))))) ∧ r.len = s.1.toNat ∧ ∀ i,i < s.1.toNat→(r.get i).len = 0 ∧ (r.get i).nil = false:=by
  intro vj vk vl vm vn vo vp
  obtain ⟨d,e1,r,rfl,e2⟩:=loop_n (step:=s227r_L0) s.1.toNat (fun i y=>∃ r:L (L Wy),y = (((),((),((),((i:Int),())))),(s,((vj,(vk,(vl,(vm,())))),((vn,(vo,(vp,(r,())))),())))) ∧ r.len = i ∧ ∀ j,j < i→(r.get j).len = 0 ∧ (r.get j).nil = false)
   (fun d=>∃ r:L (L Wy),d = .inl (((),((),())),((vj,(vk,(vl,((),())))),((vn,(vo,(vp,((),())))),(vm,(r,()))))) ∧ r.len = s.1.toNat ∧ ∀ i,i < s.1.toNat→(r.get i).len = 0 ∧ (r.get i).nil = false)
   (by
    rintro i _ hi ⟨r,rfl,g1,g2⟩
    left
    simp only [s227r_L0,q227r_L0]
    rw [bif_t (by simp; omega),wI_succ hi (by omega),bif_t (by
     show decide (r.len + 1≤most) = true
     exact most_le (by omega))]
    have A:=app_all (P:=fun v:L Wy=>v.len = 0 ∧ v.nil = false) g1 g2 (Ty.zero (.sl (.pair (.int .i64) (.pair .bool .unit)))) (L.of (Ty.zero (.pair (.int .i64) (.pair .bool .unit))) []) ⟨rfl,rfl⟩
    exact ⟨_,rfl,_,rfl,A.1,A.2⟩)
   (by
    rintro _ ⟨r,rfl,g1,g2⟩
    simp only [s227r_L0,q227r_L0]
    rw [bif_f (by simp; omega)]
    exact ⟨_,rfl,r,rfl,g1,g2⟩) _ ⟨nilL (.sl (.pair (.int .i64) (.pair .bool .unit))),rfl,rfl,fun j hj=>absurd hj (Nat.not_lt_zero j)⟩
  exact ⟨r,e1,e2⟩
 unfold g227r
 rw [h]
 simp only [Bool.not_true,cond_false]
 obtain ⟨r,k1,k2,k3⟩:=@key 0 0 0 (nilL (.sl (.pair (.int .i64) (.pair .bool .unit)))) s.1 s.2.1 s.2.2.1
 rw [k1]
 refine ⟨_,rfl,rfl,⟨h,by show (r.len:Int) = s.1; omega,fun j hj=>?_⟩,fun i hi=>(k3 i (by rw [← k2]; exact hi)).2,fun i hi=>(k3 i (by rw [← k2]; exact hi)).1⟩
 have e:=(k3 j (by rw [← k2]; exact hj)).1
 show RowG s.2.1 (r.get j)
 exact ⟨by omega,fun i hi=>by omega,fun i k _ hk=>by omega⟩
end Go.VE.VFnStep
