import Derived.Test.YtgllenfbilnneaaGreatDoorVFnOwn
import Derived.Test.YtgllenfbilnneaaGreatDoorVkV
/- laws.FnOwn returns true: in plain words,no program in sight. -/
set_option linter.unusedVariables false
set_option linter.unusedSimpArgs false
namespace Go.VE.VFnOwn
open Go.VE
theorem tN (n:Nat):((n:Int)).toNat = n:=rfl
theorem oB {α β:Type} (a:α) (f:α→Option β):(some a).bind f = f a:=rfl
abbrev UN:List Ty:=[(.sl (.int .u8))]
abbrev Co:Type:=Int×(Int×(Int×(Int×(Int×(Int×(Int×Unit))))))
theorem eT:f157 = f42:=rfl
theorem EJ (c:Co):f99 c = f249 c:=by
 unfold f99 f249
 rw [eT]
 generalize f42 c.1 1 20 = b1
 generalize f42 c.2.1 0 50 = b2
 generalize f42 c.2.2.1 0 50 = b3
 generalize f42 c.2.2.2.1 0 50 = b4
 generalize f42 c.2.2.2.2.1 0 50 = b5
 generalize f42 c.2.2.2.2.2.1 0 50 = b6
 generalize f42 c.2.2.2.2.2.2.1 0 50 = b7
 cases b1 <;> cases b2 <;> cases b3 <;> cases b4 <;> cases b5 <;> cases b6 <;> cases b7 <;> rfl
theorem aZ (a b c:Int):f42 a b c = true ↔ b≤a ∧ a≤c:=by
 unfold f42
 by_cases h:a ≥ b
 · rw [ah (by simpa using h)]; simp; omega
 · rw [au (by simpa using h)]; simp; omega
theorem nX {c:Co} (h:f249 c = true):(1≤c.1 ∧ c.1≤20) ∧ (0≤c.2.1 ∧ c.2.1≤50) ∧ (0≤c.2.2.1 ∧ c.2.2.1≤50) ∧ (0≤c.2.2.2.1 ∧ c.2.2.2.1≤50) ∧ (0≤c.2.2.2.2.1 ∧ c.2.2.2.2.1≤50) ∧ (0≤c.2.2.2.2.2.1 ∧ c.2.2.2.2.2.1≤50) ∧ (0≤c.2.2.2.2.2.2.1 ∧ c.2.2.2.2.2.2.1≤50):=by
 unfold f249 at h
 have step:∀ {b x:Bool},(bif b then x else false) = true→b = true ∧ x = true:=fun {b x} h=>by cases b <;> simp_all
 obtain ⟨h1,h⟩:=step h
 obtain ⟨h2,h⟩:=step h
 obtain ⟨h3,h⟩:=step h
 obtain ⟨h4,h⟩:=step h
 obtain ⟨h5,h⟩:=step h
 obtain ⟨h6,h7⟩:=step h
 exact ⟨(aZ _ _ _).mp h1,(aZ _ _ _).mp h2,(aZ _ _ _).mp h3,(aZ _ _ _).mp h4,(aZ _ _ _).mp h5,(aZ _ _ _).mp h6,(aZ _ _ _).mp h7⟩
theorem Dv:∀ k,k < 33→0≤L.get sP k:=by decide +kernel
theorem opc {c:Co} (hc:f249 c = true) {i:Nat} (hi:i < 33):GJ c i = some ((f100 c i,()),()):=by
 have hf:GK (i:Int) = some ((L.get sP i,()),()):=by
  unfold GK
  have h1:f42 (i:Int) 0 32 = true:=(aZ _ _ _).mpr (by omega)
  rw [h1,au (show (!true) = false from rfl),ah,tN]
  have:sP.len = 33:=rfl
  rw [this]; simp; omega
 unfold GJ f100
 rw [hc,au (show (!true) = false from rfl),hf]
 simp only [oB]
 rw [au (by simpa using Dv i hi),eT]
 cases ((i:Int) == 9) <;> cases ((i:Int) == 10) <;> cases f42 (i:Int) 15 18 <;> cases decide ((i:Int) ≥ 25) <;> rfl
theorem GL {c:Co} (hc:f249 c = true) (a:Bool×(Bool×(Bool×Unit))):f253 c a = f101 c a:=by
 unfold f253 f101
 rw [hc]
 rfl
def pF (c:Co) (i:Nat):Int:=if i = 0 then -1 else if i≤4 then c.2.2.2.1 + c.2.2.2.2.1 else c.2.2.2.1 + c.2.2.2.2.1 + c.2.2.2.2.2.2.1
theorem Jf {c:Co} (hc:f249 c = true) (a b d:Bool):f253 c (a,(b,(d,()))) = (if a then 0 else c.2.2.2.1) + (if b then 0 else c.2.2.2.2.1) + (if d then c.2.2.2.2.2.2.1 else 0):=by
 obtain ⟨_,_,_,h4,h5,_,h7⟩:=nX hc
 rw [GL hc]
 unfold f101
 have e0:∀ n:Int,0≤n→n≤1000→wI n = n:=fun n h1 h2=>aJ (by omega) (by omega)
 cases a <;> cases b <;> cases d <;> simp only [Bool.not_true,Bool.not_false,cond_true,cond_false,if_true,if_false,Bool.false_eq_true,Int.zero_add,Int.add_zero]
 · rw [e0 c.2.2.2.1 (by omega) (by omega),e0 _ (by omega) (by omega)]
 · rw [e0 c.2.2.2.1 (by omega) (by omega),e0 (c.2.2.2.1 + c.2.2.2.2.1) (by omega) (by omega),e0 _ (by omega) (by omega)]
 · rw [e0 _ (by omega) (by omega)]
 · rw [e0 c.2.2.2.1 (by omega) (by omega),e0 _ (by omega) (by omega)]
 · rw [e0 _ (by omega) (by omega)]
 · rw [e0 c.2.2.2.2.1 (by omega) (by omega),e0 _ (by omega) (by omega)]
 · rw [e0 _ (by omega) (by omega)]
theorem ahr {c:Co} (hc:f249 c = true):Tp c = some ((c.2.2.2.1 + c.2.2.2.2.1 + c.2.2.2.2.2.2.1,()),()):=by
 obtain ⟨_,_,_,h4,h5,_,h7⟩:=nX hc
 obtain ⟨d,h1,rfl⟩:=eH (step:=vF) (fun a=>8 - a.1.2.2.1.toNat)
  (fun a=>∃ i:Nat,a = (((),(pF c i,((i:Int),()))),(c,())) ∧ i≤8)
  (fun _ d=>d = .inl ((pF c 8,()),())) (by
   rintro _ ⟨i,rfl,hi⟩
   by_cases h:i < 8
   · left
     have fin:vF (((),(pF c i,((i:Int),()))),(c,())) = some (.inl (((),(pF c (i + 1),(((i + 1:Nat):Int),()))),(c,()))):=by
      simp only [vF]
      rw [ah (by simp; omega),av (n:=8) h (by omega)]
      have:i = 0 ∨ i = 1 ∨ i = 2 ∨ i = 3 ∨ i = 4 ∨ i = 5 ∨ i = 6 ∨ i = 7:=by omega
      have key:∀ (a b d:Bool) (m:Int),(((Int.tmod (i:Int) 2) == 1),(((Int.tmod (wI (Int.tdiv (i:Int) 2)) 2) == 1),(((wI (Int.tdiv (i:Int) 4)) == 1),()))) = (a,(b,(d,()))) →
       (if (if a then 0 else c.2.2.2.1) + (if b then 0 else c.2.2.2.2.1) + (if d then c.2.2.2.2.2.2.1 else 0) > pF c i then (if a then 0 else c.2.2.2.1) + (if b then 0 else c.2.2.2.2.1) + (if d then c.2.2.2.2.2.2.1 else 0) else pF c i) = m→m = pF c (i + 1) →
       (bif (decide ((f253 c (((Int.tmod (i:Int) 2) == 1),(((Int.tmod (wI (Int.tdiv (i:Int) 2)) 2) == 1),(((wI (Int.tdiv (i:Int) 4)) == 1),())))) > pF c i)) then
        some (.inl (((),((f253 c (((Int.tmod (i:Int) 2) == 1),(((Int.tmod (wI (Int.tdiv (i:Int) 2)) 2) == 1),(((wI (Int.tdiv (i:Int) 4)) == 1),())))),(((i + 1:Nat):Int),()))),(c,())))
       else some (.inl (((),(pF c i,(((i + 1:Nat):Int),()))),(c,())))) = (some (.inl (((),(pF c (i + 1),(((i + 1:Nat):Int),()))),(c,()))):Option (((Unit×(Int×(Int×Unit)))×(Co×Unit))⊕(((Int×Unit)×Unit)⊕Empty))):=by
       intro a b d m hb hm hw
       rw [hb,Jf hc,← hw,← hm]
       generalize (if a then 0 else c.2.2.2.1) + (if b then 0 else c.2.2.2.2.1) + (if d then c.2.2.2.2.2.2.1 else 0) = v
       by_cases hgt:v > pF c i
       · rw [ah (by simpa using hgt),if_pos hgt]
       · rw [au (by simpa using hgt),if_neg hgt]
      rcases this with rfl | rfl | rfl | rfl | rfl | rfl | rfl | rfl
      · exact key false false false _ (by decide +kernel) rfl (by simp [pF]; omega)
      · exact key true false false _ (by decide +kernel) rfl (by simp [pF]; omega)
      · exact key false true false _ (by decide +kernel) rfl (by simp [pF]; omega)
      · exact key true true false _ (by decide +kernel) rfl (by simp [pF]; omega)
      · exact key false false true _ (by decide +kernel) rfl (by simp [pF]; omega)
      · exact key true false true _ (by decide +kernel) rfl (by simp [pF]; omega)
      · exact key false true true _ (by decide +kernel) rfl (by simp [pF]; omega)
      · exact key true true true _ (by decide +kernel) rfl (by simp [pF]; omega)
     exact ⟨_,fin,⟨i + 1,rfl,h⟩,by simp only [tN]; omega,fun d hd=>hd⟩
   · right
     have:i = 8:=by omega
     subst this
     exact ⟨_,rfl,rfl⟩) (((),((-1:Int),((0:Int),()))),(c,())) ⟨0,rfl,by omega⟩
 unfold Tp
 rw [h1]
 rfl
theorem worst {c:Co} (hc:f249 c = true):∃ n,Mx c = some ((n,()),()) ∧ g22 c = some ((n,()),()):=by
 obtain ⟨d,e,h1,h2,m,rfl,rfl⟩:=AY (s1:=zF) (s2:=xg)
  (fun a b=>∃ (i:Nat) (m:Int),a = (((),(m,((i:Int),()))),(c,())) ∧ b = (((),(m,((i:Int),()))),(c,())) ∧ i≤33)
  (fun d e=>∃ m,d = .inl (((),(m,())),(c,())) ∧ e = .inl (((),(m,())),(c,()))) (fun a=>33 - a.1.2.2.1.toNat) (by
   rintro _ _ ⟨i,m,rfl,rfl,hi⟩
   by_cases h:i < 33
   · left
     have hb:decide ((i:Int) < 33) = true:=by simp; omega
     have ho:GJ (c.1,(c.2.1,(c.2.2.1,(c.2.2.2.1,(c.2.2.2.2.1,(c.2.2.2.2.2.1,(c.2.2.2.2.2.2.1,()))))))) (i:Int) = some ((f100 c i,()),()):=opc hc h
     simp only [zF,xg,hb,cond_true,av h (by omega:33≤2 ^ 47),ho,oB]
     by_cases hg:f100 c i > m
     · rw [ah (by simpa using hg)]
       refine ⟨_,_,rfl,rfl,⟨i + 1,f100 c i,rfl,?_,h⟩,by simp only [tN]; omega⟩
       have:(if f100 (c.1,(c.2.1,(c.2.2.1,(c.2.2.2.1,(c.2.2.2.2.1,(c.2.2.2.2.2.1,(c.2.2.2.2.2.2.1,()))))))) (i:Int) > m then f100 (c.1,(c.2.1,(c.2.2.1,(c.2.2.2.1,(c.2.2.2.2.1,(c.2.2.2.2.2.1,(c.2.2.2.2.2.2.1,()))))))) (i:Int) else m) = f100 c i:=if_pos hg
       rw [this]
     · rw [au (by simpa using hg)]
       refine ⟨_,_,rfl,rfl,⟨i + 1,m,rfl,?_,h⟩,by simp only [tN]; omega⟩
       have:(if f100 (c.1,(c.2.1,(c.2.2.1,(c.2.2.2.1,(c.2.2.2.2.1,(c.2.2.2.2.2.1,(c.2.2.2.2.2.2.1,()))))))) (i:Int) > m then f100 (c.1,(c.2.1,(c.2.2.1,(c.2.2.2.1,(c.2.2.2.2.1,(c.2.2.2.2.2.1,(c.2.2.2.2.2.2.1,()))))))) (i:Int) else m) = m:=if_neg hg
       rw [this]
   · right
     have:i = 33:=by omega
     subst this
     exact ⟨_,_,rfl,rfl,m,rfl,rfl⟩) (((),((0:Int),((0:Int),()))),(c,())) (((),((0:Int),((0:Int),()))),(c,())) ⟨0,0,rfl,rfl,by omega⟩
 unfold Mx g22
 rw [EJ,hc,au (show (!true) = false from rfl),au (show (!true) = false from rfl),h1,h2]
 simp only [oB]
 rw [ahr hc]
 simp only [oB]
 refine ⟨_,rfl,?_⟩
 have:f101 c (false,(false,(true,()))) = c.2.2.2.1 + c.2.2.2.2.1 + c.2.2.2.2.2.2.1:=by
  rw [← GL hc,Jf hc]; simp
 rw [this]
abbrev Ch:Type:=Int×(Int×(Int×(Int×Unit)))
theorem aaq (n:Int) (h:f42 n 1 16 = true):f300 n = ((n == 1) || ((n == 2) || ((n == 4) || ((n == 8) || (n == 16))))):=by
 obtain ⟨h1,h2⟩:=(aZ _ _ _).mp h
 have:n = 1 ∨ n = 2 ∨ n = 3 ∨ n = 4 ∨ n = 5 ∨ n = 6 ∨ n = 7 ∨ n = 8 ∨ n = 9 ∨ n = 10 ∨ n = 11 ∨ n = 12 ∨ n = 13 ∨ n = 14 ∨ n = 15 ∨ n = 16:=by omega
 rcases this with rfl | rfl | rfl | rfl | rfl | rfl | rfl | rfl | rfl | rfl | rfl | rfl | rfl | rfl | rfl | rfl <;> decide +kernel
theorem aar (n:Int) (h:f42 n 4 32 = true):f300 n = ((n == 4) || ((n == 8) || ((n == 16) || (n == 32)))):=by
 obtain ⟨h1,h2⟩:=(aZ _ _ _).mp h
 have:n = 4 ∨ n = 5 ∨ n = 6 ∨ n = 7 ∨ n = 8 ∨ n = 9 ∨ n = 10 ∨ n = 11 ∨ n = 12 ∨ n = 13 ∨ n = 14 ∨ n = 15 ∨ n = 16 ∨ n = 17 ∨ n = 18 ∨ n = 19 ∨ n = 20 ∨ n = 21 ∨ n = 22 ∨ n = 23 ∨ n = 24 ∨ n = 25 ∨ n = 26 ∨ n = 27 ∨ n = 28 ∨ n = 29 ∨ n = 30 ∨ n = 31 ∨ n = 32:=by omega
 rcases this with rfl | rfl | rfl | rfl | rfl | rfl | rfl | rfl | rfl | rfl | rfl | rfl | rfl | rfl | rfl | rfl | rfl | rfl | rfl | rfl | rfl | rfl | rfl | rfl | rfl | rfl | rfl | rfl | rfl <;> decide +kernel
theorem KQ (s:Int×(Int×(Int×Unit))):f237 s = (((s.1 == 1) || ((s.1 == 2) || ((s.1 == 4) || ((s.1 == 8) || (s.1 == 16)))))&&(f42 s.2.1 1 4&&((s.2.2.1 == 4) || ((s.2.2.1 == 8) || ((s.2.2.1 == 16) || (s.2.2.1 == 32)))))):=by
 unfold f237
 generalize f42 s.2.1 1 4 = w
 generalize (s.1 == 1) = a1
 generalize (s.1 == 2) = a2
 generalize (s.1 == 4) = a3
 generalize (s.1 == 8) = a4
 generalize (s.1 == 16) = a5
 generalize (s.2.2.1 == 4) = l1
 generalize (s.2.2.1 == 8) = l2
 generalize (s.2.2.1 == 16) = l3
 generalize (s.2.2.1 == 32) = l4
 cases a1 <;> cases a2 <;> cases a3 <;> cases a4 <;> cases a5 <;> cases l1 <;> cases l2 <;> cases l3 <;> cases l4 <;> cases w <;> rfl
theorem Bp (s:Int×(Int×(Int×Unit))):f201 s = f237 s:=by
 rw [KQ]
 unfold f201
 rw [eT]
 have hs:(bif f42 s.1 1 16 then f300 s.1 else false) = ((s.1 == 1) || ((s.1 == 2) || ((s.1 == 4) || ((s.1 == 8) || (s.1 == 16))))):=by
  cases h:f42 s.1 1 16 with
  | true=>exact aaq _ h
  | false =>
    have h':¬ (1≤s.1 ∧ s.1≤16):=fun q=>by rw [(aZ _ _ _).mpr q] at h; cases h
    have e:∀ k:Int,1≤k→k≤16→(s.1 == k) = false:=fun k h1 h2=>by simp; omega
    rw [e 1 (by omega) (by omega),e 2 (by omega) (by omega),e 4 (by omega) (by omega),e 8 (by omega) (by omega),e 16 (by omega) (by omega)]
    rfl
 have hl:(bif f42 s.2.2.1 4 32 then f300 s.2.2.1 else false) = ((s.2.2.1 == 4) || ((s.2.2.1 == 8) || ((s.2.2.1 == 16) || (s.2.2.1 == 32)))):=by
  cases h:f42 s.2.2.1 4 32 with
  | true=>exact aar _ h
  | false =>
    have h':¬ (4≤s.2.2.1 ∧ s.2.2.1≤32):=fun q=>by rw [(aZ _ _ _).mpr q] at h; cases h
    have e:∀ k:Int,4≤k→k≤32→(s.2.2.1 == k) = false:=fun k h1 h2=>by simp; omega
    rw [e 4 (by omega) (by omega),e 8 (by omega) (by omega),e 16 (by omega) (by omega),e 32 (by omega) (by omega)]
    rfl
 rw [← hs,← hl]
 generalize f42 s.1 1 16 = p1
 generalize f300 s.1 = p2
 generalize f42 s.2.1 1 4 = p3
 generalize f42 s.2.2.1 4 32 = p4
 generalize f300 s.2.2.1 = p5
 cases p1 <;> cases p2 <;> cases p3 <;> cases p4 <;> cases p5 <;> rfl
theorem eU {c:Ch} (h:f328 c = true):(c.1 = 0 ∧ c.2.2.2.1 = 0) ∨ (c.1 = 1 ∧ 1≤c.2.2.2.1 ∧ c.2.2.2.1≤8):=by
 unfold f328 at h
 have step:∀ {b:Bool} {x:Bool},(bif b then false else x) = true→x = true:=fun {b x} h=>by cases b <;> simp_all
 have h:=step (step (step h))
 by_cases h0:c.1 = 0
 · rw [ah (by simpa using h0)] at h
   by_cases hd:c.2.2.2.1 = 0
   · exact .inl ⟨h0,hd⟩
   · rw [au (by simpa using hd),au (by simp [h0])] at h
     cases h
 · rw [au (by simpa using h0)] at h
   by_cases h1:c.1 = 1
   · rw [ah (by simpa using h1)] at h
     exact .inr ⟨h1,(aZ _ _ _).mp h⟩
   · rw [au (by simpa using h1)] at h
     cases h
theorem good (x:L Ch) (hx:x.len≤8) (c:Co) (hc:1≤c.1 ∧ c.1≤20) (n:Int) (hok:∀ j,j < x.len→f328 (x.get j) = true) :
 ∃ m,aL rR ((x,((),(n,((0:Int),())))),(c,())) = some (.inr (.inl ((m,()),()))) ∧ aL mW (((),(n,(x,((x.len:Int),((0:Int),()))))),(c,())) = some (.inl ((m,()),())):=by
 obtain ⟨d,e,h1,h2,m,rfl,rfl⟩:=AY (s1:=rR) (s2:=mW)
  (fun a b=>∃ (i:Nat) (n:Int),a = ((x,((),(n,((i:Int),())))),(c,())) ∧ b = (((),(n,(x,((x.len:Int),((i:Int),()))))),(c,())) ∧ i≤x.len)
  (fun d e=>∃ m,d = .inr (.inl ((m,()),())) ∧ e = .inl ((m,()),())) (fun a=>x.len - a.1.2.2.2.1.toNat) (by
   rintro _ _ ⟨i,n,rfl,rfl,hi⟩
   by_cases h:i < x.len
   · left
     have hb0:decide ((0:Int)≤(i:Int)) = true:=by simp
     have hb2:decide ((i:Int) < (x.len:Int)) = true:=by simpa using h
     have hf:=hok i h
     simp only [rR,mW,hb0,hb2,Bool.and_self,cond_true,av h (by omega:x.len≤2 ^ 47),tN,hf,Bool.not_true,cond_false]
     rcases eU hf with ⟨k0,d0⟩ | ⟨k1,d1,d2⟩
     · have e1:f311 (x.get i) = 1:=by unfold f311; rw [if_neg (by omega)]
       have e2:wI (c.1 * 1) = c.1:=by rw [Int.mul_one]; exact aJ (by omega) (by omega)
       rw [ah (by simpa using k0),e1,e2]
       exact ⟨_,_,rfl,rfl,⟨i + 1,_,rfl,rfl,h⟩,by simp only [tN]; omega⟩
     · have e1:f311 (x.get i) = (x.get i).2.2.2.1:=by unfold f311; split <;> omega
       rw [au (by simp [k1]),e1]
       exact ⟨_,_,rfl,rfl,⟨i + 1,_,rfl,rfl,h⟩,by simp only [tN]; omega⟩
   · right
     simp only [rR,mW]
     rw [au (by simp; omega),au (by simp; omega)]
     exact ⟨_,_,rfl,rfl,n,rfl,rfl⟩) ((x,((),(n,((0:Int),())))),(c,())) (((),(n,(x,((x.len:Int),((0:Int),()))))),(c,())) ⟨0,n,rfl,rfl,Nat.zero_le _⟩
 exact ⟨m,h1,h2⟩
abbrev Sl:Type:=Int×(Int×(Int×Unit))
abbrev Wi:Type:=Int×(Int×(Int×Unit))
abbrev PR:Type:=ByteArray×(Int×((Int×(Int×Unit))×((L Wi)×Unit)))
abbrev Tb:Type:=Int×((Int×(Int×(Int×Unit)))×(Int×(Co×(Int×(Int×(Int×((L PR)×((L Int)×((L Ch)×((L Sl)×Unit))))))))))
def tParts (t:Tb):L PR:=t.2.2.2.2.2.2.2.1
def tDevs (t:Tb):L Int:=t.2.2.2.2.2.2.2.2.1
def tChans (t:Tb):L Ch:=t.2.2.2.2.2.2.2.2.2.1
def tSlots (t:Tb):L Sl:=t.2.2.2.2.2.2.2.2.2.2.1
theorem devs (t:Tb) (hd:(tDevs t).len≤8) :
 ((∃ i,i < (tDevs t).len ∧ f42 ((tDevs t).get i) 0 (wI (((tParts t).len:Int) - 1)) = false) ∧ aL mU (((),((0:Int),())),(t,())) = some (.inl ((false,()),())) ∧ jD (tDevs t) (((tParts t).len:Int),()) = some ((true,()),())) ∨
 ((∀ i,i < (tDevs t).len→f42 ((tDevs t).get i) 0 (wI (((tParts t).len:Int) - 1)) = true) ∧ aL mU (((),((0:Int),())),(t,())) = some (.inr (.inl (((),()),(t,())))) ∧ jD (tDevs t) (((tParts t).len:Int),()) = some ((false,()),())):=by
 have h1:=scan (step:=mU) (fun i=>(((),((i:Int),())),(t,()))) (tDevs t).len (fun i=>f42 ((tDevs t).get i) 0 (wI (((tParts t).len:Int) - 1))) (fun _=>.inl ((false,()),())) (.inr (.inl (((),()),(t,()))))
  (fun i hi ho=>by
   have ho':(!f42 ((tDevs t).get ((i:Int)).toNat) 0 (wI (((tParts t).len:Int) - 1))) = false:=by rw [tN,ho]; rfl
   simp only [mU]
   refine (ah (aM hi)).trans ((ah (aj hi)).trans ((au ho').trans ?_))
   rw [av hi (by omega)])
  (fun i hi ho=>by
   have ho':(!f42 ((tDevs t).get ((i:Int)).toNat) 0 (wI (((tParts t).len:Int) - 1))) = true:=by rw [tN,ho]; rfl
   simp only [mU]
   exact (ah (aM hi)).trans ((ah (aj hi)).trans (ah ho')))
  (by
   simp only [mU]
   exact au (aK (tDevs t).len))
 have h2:=scan (step:=fI) (fun i=>((tDevs t,((((tParts t).len:Int),()),(((tDevs t).len:Int),((i:Int),())))),())) (tDevs t).len (fun i=>f42 ((tDevs t).get i) 0 (wI (((tParts t).len:Int) - 1))) (fun i=>.inl (((i:Int),()),())) (.inr (.inl ((),())))
  (fun i hi ho=>by
   have ho':f206 ((tDevs t).get ((i:Int)).toNat) ((tParts t).len:Int) = false:=by unfold f206; rw [tN,eT,ho]; rfl
   simp only [fI]
   refine (ah (aM hi)).trans ((ah (aj hi)).trans ((au ho').trans ?_))
   rw [av hi (by omega)])
  (fun i hi ho=>by
   have ho':f206 ((tDevs t).get ((i:Int)).toNat) ((tParts t).len:Int) = true:=by unfold f206; rw [tN,eT,ho]; rfl
   simp only [fI]
   exact (ah (aM hi)).trans ((ah (aj hi)).trans (ah ho')))
  (by
   simp only [fI]
   exact au (aK (tDevs t).len))
 unfold jD Bq
 rcases h1 with ⟨i,hi,ho,_,e1⟩ | ⟨ha,e1⟩
 · rcases h2 with ⟨k,hk,hok,_,e2⟩ | ⟨hb,_⟩
   · refine .inl ⟨⟨i,hi,ho⟩,e1,?_⟩
     have e2':aL fI ((tDevs t,((((tParts t).len:Int),()),(((tDevs t).len:Int),((0:Int),())))),()) = some (.inl (((k:Int),()),())):=e2
     rw [e2']
     simp
   · have:=hb i hi; rw [ho] at this; cases this
 · rcases h2 with ⟨k,hk,hok,_,_⟩ | ⟨hb,e2⟩
   · have:=ha k hk; rw [hok] at this; cases this
   · refine .inr ⟨ha,e1,?_⟩
     have e2':aL fI ((tDevs t,((((tParts t).len:Int),()),(((tDevs t).len:Int),((0:Int),())))),()) = some (.inr (.inl ((),()))):=e2
     rw [e2']
     simp
theorem Py (c:Ch):f209 c = f328 c:=rfl
theorem vG (c:Ch) (n:Int):f208 c n = false ↔ f328 c = true ∧ c.2.1 < n ∧ c.2.2.1 < n:=by
 unfold f208
 rw [Py]
 cases h:f328 c with
 | false=>simp
 | true =>
   rw [au (show (!true) = false from rfl)]
   by_cases h1:c.2.1 ≥ n
   · rw [ah (by simpa using h1)]; simp; omega
   · rw [au (by simpa using h1)]; simp; omega
theorem chans (t:Tb) (hd:(tChans t).len≤8) :
 (aL mV (((),((0:Int),())),(t,())) = some (.inl ((false,()),())) ∧ iD (tChans t) (((tParts t).len:Int),()) = some ((true,()),())) ∨
 ((∀ i,i < (tChans t).len→f328 ((tChans t).get i) = true ∧ ((tChans t).get i).2.1 < ((tParts t).len:Int) ∧ ((tChans t).get i).2.2.1 < ((tParts t).len:Int)) ∧ aL mV (((),((0:Int),())),(t,())) = some (.inr (.inl (((),()),(t,())))) ∧ iD (tChans t) (((tParts t).len:Int),()) = some ((false,()),())):=by
 have h1:=scan (step:=mV) (fun i=>(((),((i:Int),())),(t,()))) (tChans t).len (fun i=>!f208 ((tChans t).get i) ((tParts t).len:Int)) (fun _=>.inl ((false,()),())) (.inr (.inl (((),()),(t,()))))
  (fun i hi ho=>by
   have ho:f208 ((tChans t).get i) ((tParts t).len:Int) = false:=by simpa using ho
   obtain ⟨o1,o2,o3⟩:=(vG _ _).mp ho
   have e1:(!f328 ((tChans t).get ((i:Int)).toNat)) = false:=by rw [tN,o1]; rfl
   have e2:decide (((tChans t).get ((i:Int)).toNat).2.1 ≥ ((tParts t).len:Int)) = false:=by rw [tN]; simp; omega
   have e3:decide (((tChans t).get ((i:Int)).toNat).2.2.1 ≥ ((tParts t).len:Int)) = false:=by rw [tN]; simp; omega
   simp only [mV]
   refine (ah (aM hi)).trans ((ah (aj hi)).trans ((au e1).trans ((ah (aj hi)).trans ((au e2).trans ((ah (aj hi)).trans ((au e3).trans ?_))))))
   rw [av hi (by omega)])
  (fun i hi ho=>by
   have ho:¬ (f328 ((tChans t).get i) = true ∧ ((tChans t).get i).2.1 < ((tParts t).len:Int) ∧ ((tChans t).get i).2.2.1 < ((tParts t).len:Int)):=fun q=>by
    rw [(vG _ _).mpr q] at ho; cases ho
   simp only [mV]
   refine (ah (aM hi)).trans ((ah (aj hi)).trans ?_)
   cases o1:f328 ((tChans t).get i) with
   | false=>exact ah (show (!f328 ((tChans t).get ((i:Int)).toNat)) = true by rw [tN,o1]; rfl)
   | true =>
     refine (au (show (!f328 ((tChans t).get ((i:Int)).toNat)) = false by rw [tN,o1]; rfl)).trans ((ah (aj hi)).trans ?_)
     by_cases o2:((tChans t).get i).2.1 < ((tParts t).len:Int)
     · refine (au (show decide (((tChans t).get ((i:Int)).toNat).2.1 ≥ ((tParts t).len:Int)) = false by rw [tN]; simp; omega)).trans ((ah (aj hi)).trans ?_)
       have o3:¬ ((tChans t).get i).2.2.1 < ((tParts t).len:Int):=fun q=>ho ⟨o1,o2,q⟩
       exact ah (show decide (((tChans t).get ((i:Int)).toNat).2.2.1 ≥ ((tParts t).len:Int)) = true by rw [tN]; simp; omega)
     · exact ah (show decide (((tChans t).get ((i:Int)).toNat).2.1 ≥ ((tParts t).len:Int)) = true by rw [tN]; simp; omega))
  (by
   simp only [mV]
   exact au (aK (tChans t).len))
 have h2:=scan (step:=dJ) (fun i=>((tChans t,((((tParts t).len:Int),()),(((tChans t).len:Int),((i:Int),())))),())) (tChans t).len (fun i=>!f208 ((tChans t).get i) ((tParts t).len:Int)) (fun i=>.inl (((i:Int),()),())) (.inr (.inl ((),())))
  (fun i hi ho=>by
   have ho':f208 ((tChans t).get ((i:Int)).toNat) ((tParts t).len:Int) = false:=by rw [tN]; simpa using ho
   simp only [dJ]
   refine (ah (aM hi)).trans ((ah (aj hi)).trans ((au ho').trans ?_))
   rw [av hi (by omega)])
  (fun i hi ho=>by
   have ho':f208 ((tChans t).get ((i:Int)).toNat) ((tParts t).len:Int) = true:=by rw [tN]; simpa using ho
   simp only [dJ]
   exact (ah (aM hi)).trans ((ah (aj hi)).trans (ah ho')))
  (by
   simp only [dJ]
   exact au (aK (tChans t).len))
 unfold iD vH
 rcases h1 with ⟨i,hi,ho,_,e1⟩ | ⟨ha,e1⟩
 · rcases h2 with ⟨k,hk,hok,_,e2⟩ | ⟨hb,_⟩
   · refine .inl ⟨e1,?_⟩
     have e2':aL dJ ((tChans t,((((tParts t).len:Int),()),(((tChans t).len:Int),((0:Int),())))),()) = some (.inl (((k:Int),()),())):=e2
     rw [e2']
     simp
   · have:=hb i hi; rw [ho] at this; cases this
 · rcases h2 with ⟨k,hk,hok,_,_⟩ | ⟨hb,e2⟩
   · have:=ha k hk; rw [hok] at this; cases this
   · refine .inr ⟨fun i hi=>(vG _ _).mp (by simpa using ha i hi),e1,?_⟩
     have e2':aL dJ ((tChans t,((((tParts t).len:Int),()),(((tChans t).len:Int),((0:Int),())))),()) = some (.inr (.inl ((),()))):=e2
     rw [e2']
     simp
theorem GN (t:Tb) (s:Sl) (e:Int) (h1:1≤t.2.2.2.2.1 ∧ t.2.2.2.2.1≤5000) (h2:1≤t.2.2.2.2.2.1 ∧ t.2.2.2.2.2.1≤5000) (h3:1≤t.2.2.2.2.2.2.1 ∧ t.2.2.2.2.2.2.1≤5000) :
 f312 t s e = true ↔ s.2.2.1 > t.2.2.2.2.1 + t.2.2.2.2.2.1 ∧ s.2.2.1≤t.2.2.2.2.2.2.1 ∧ s.2.1 ≥ e ∧ s.2.1≤t.2.2.2.2.2.2.1 - s.2.2.1:=by
 unfold f312
 rw [aJ (n:=t.2.2.2.2.1 + t.2.2.2.2.2.1) (by omega) (by omega)]
 by_cases a:s.2.2.1 > t.2.2.2.2.1 + t.2.2.2.2.2.1
 · rw [ah (by simpa using a)]
   by_cases b:s.2.2.1≤t.2.2.2.2.2.2.1
   · rw [ah (by simpa using b),aJ (by omega) (by omega)]
     by_cases c:s.2.1 ≥ e
     · rw [ah (by simpa using c)]; simp; omega
     · rw [au (by simpa using c)]; simp; omega
   · rw [au (by simpa using b)]; simp; omega
 · rw [au (by simpa using a)]; simp; omega
def zG (t:Tb):Prop :=
 (∀ k,k < (tSlots t).len→f42 ((tSlots t).get k).1 0 (wI (((tParts t).len:Int) - 1)) = true ∧ t.2.2.2.2.1 + t.2.2.2.2.2.1 < ((tSlots t).get k).2.2.1 ∧ 0≤((tSlots t).get k).2.1 ∧ ((tSlots t).get k).2.1 + ((tSlots t).get k).2.2.1≤t.2.2.2.2.2.2.1) ∧
 ∀ k m,k < m→m < (tSlots t).len→((tSlots t).get k).2.1 + ((tSlots t).get k).2.2.1≤((tSlots t).get m).2.1
theorem MF (t:Tb) (hl:(tSlots t).len≤2 ^ 47) (h1:1≤t.2.2.2.2.1 ∧ t.2.2.2.2.1≤5000) (h2:1≤t.2.2.2.2.2.1 ∧ t.2.2.2.2.2.1≤5000) (h3:1≤t.2.2.2.2.2.2.1 ∧ t.2.2.2.2.2.2.1≤5000) :
 ∃ d e,aL pE (((),((0:Int),((0:Int),()))),(t,())) = some d ∧ aL jB (((),((0:Int),(tSlots t,(((tSlots t).len:Int),((0:Int),()))))),(t,())) = some e ∧
   ((d = .inl ((false,()),()) ∧ e = .inl ((false,()),())) ∨ (d = .inr (.inl ((),())) ∧ e = .inr (.inl (((),()),(t,()))) ∧ zG t)):=by
 refine AY (s1:=pE) (s2:=jB)
  (fun a b=>∃ (i:Nat) (e:Int),a = (((),(e,((i:Int),()))),(t,())) ∧ b = (((),(e,(tSlots t,(((tSlots t).len:Int),((i:Int),()))))),(t,())) ∧ i≤(tSlots t).len ∧ 0≤e ∧ e≤5000 ∧
   (∀ k,k < i→(f42 ((tSlots t).get k).1 0 (wI (((tParts t).len:Int) - 1)) = true ∧ t.2.2.2.2.1 + t.2.2.2.2.2.1 < ((tSlots t).get k).2.2.1 ∧ 0≤((tSlots t).get k).2.1 ∧ ((tSlots t).get k).2.1 + ((tSlots t).get k).2.2.1≤t.2.2.2.2.2.2.1) ∧ ((tSlots t).get k).2.1 + ((tSlots t).get k).2.2.1≤e) ∧
   ∀ k m,k < m→m < i→((tSlots t).get k).2.1 + ((tSlots t).get k).2.2.1≤((tSlots t).get m).2.1)
  (fun d e=>(d = .inl ((false,()),()) ∧ e = .inl ((false,()),())) ∨ (d = .inr (.inl ((),())) ∧ e = .inr (.inl (((),()),(t,()))) ∧ zG t)) (fun a=>(tSlots t).len - a.1.2.2.1.toNat) ?_ _ _ ⟨0,0,rfl,rfl,Nat.zero_le _,by omega,by omega,fun k hk=>absurd hk (Nat.not_lt_zero _),fun k m _ hk=>absurd hk (Nat.not_lt_zero _)⟩
 rintro _ _ ⟨i,e,rfl,rfl,hi,he1,he2,hk1,hk2⟩
 by_cases h:i < (tSlots t).len
 · simp only [pE,jB]
   rw [av h hl,tN]
   generalize hs:(tSlots t).get i = s
   have hs':(t.2.2.2.2.2.2.2.2.2.2.1).get i = s:=hs
   have c1:∀ {α:Type} {a b:α},(bif decide ((i:Int) < ((t.2.2.2.2.2.2.2.2.2.2.1).len:Int)) then a else b) = a:=ah (aM h)
   have c2:∀ {α:Type} {a b:α},(bif decide ((0:Int)≤(i:Int))&&decide ((i:Int) < ((t.2.2.2.2.2.2.2.2.2.2.1).len:Int)) then a else b) = a:=ah (aj h)
   have c3:∀ {α:Type} {a b:α},(bif decide ((i:Int) < ((tSlots t).len:Int)) then a else b) = a:=ah (aM h)
   have c4:∀ {α:Type} {a b:α},(bif decide ((0:Int)≤(i:Int))&&decide ((i:Int) < ((tSlots t).len:Int)) then a else b) = a:=ah (aj h)
   rw [c1,c2,c3,c4,hs',eT,aJ (n:=t.2.2.2.2.1 + t.2.2.2.2.2.1) (by omega) (by omega),aJ (n:=t.2.2.2.2.1 + t.2.2.2.2.2.1 + 1) (by omega) (by omega)]
   have hiff:=GN t s e h1 h2 h3
   cases hp:f42 s.1 0 (wI (((t.2.2.2.2.2.2.2.1).len:Int) - 1)) with
   | false=>exact .inr ⟨_,_,rfl,rfl,.inl ⟨rfl,rfl⟩⟩
   | true =>
     simp only [Bool.not_true,cond_false]
     cases ha:f42 s.2.1 e 5000 with
     | false =>
       have hf:f312 t s e = false:=by
        cases hq:f312 t s e with
        | false=>rfl
        | true =>
          have:=hiff.mp hq
          rw [(aZ _ _ _).mpr (by omega)] at ha; cases ha
       right
       rw [hf]
       exact ⟨_,_,rfl,rfl,.inl ⟨rfl,rfl⟩⟩
     | true =>
       have ha:=(aZ _ _ _).mp ha
       cases hb:f42 s.2.2.1 (t.2.2.2.2.1 + t.2.2.2.2.2.1 + 1) 5000 with
       | false =>
         have hf:f312 t s e = false:=by
          cases hq:f312 t s e with
          | false=>rfl
          | true =>
            have:=hiff.mp hq
            rw [(aZ _ _ _).mpr (by omega)] at hb; cases hb
         right
         rw [hf]
         exact ⟨_,_,rfl,rfl,.inl ⟨rfl,rfl⟩⟩
       | true =>
         have hb:=(aZ _ _ _).mp hb
         simp only [Bool.not_true,cond_false]
         rw [aJ (n:=s.2.1 + s.2.2.1) (by omega) (by omega)]
         by_cases hc:s.2.1 + s.2.2.1 > t.2.2.2.2.2.2.1
         · have hf:f312 t s e = false:=by
            cases hq:f312 t s e with
            | false=>rfl
            | true =>
              have:=hiff.mp hq
              omega
           right
           rw [hf,ah (by simpa using hc)]
           exact ⟨_,_,rfl,rfl,.inl ⟨rfl,rfl⟩⟩
         · have hf:f312 t s e = true:=hiff.mpr (by omega)
           left
           rw [hf,au (by simpa using hc)]
           have ahs:∀ k,k < i + 1→(f42 ((tSlots t).get k).1 0 (wI (((tParts t).len:Int) - 1)) = true ∧ t.2.2.2.2.1 + t.2.2.2.2.2.1 < ((tSlots t).get k).2.2.1 ∧ 0≤((tSlots t).get k).2.1 ∧ ((tSlots t).get k).2.1 + ((tSlots t).get k).2.2.1≤t.2.2.2.2.2.2.1) ∧ ((tSlots t).get k).2.1 + ((tSlots t).get k).2.2.1≤s.2.1 + s.2.2.1:=fun k hk=>by
            by_cases q:k = i
            · rw [q,hs]
              exact ⟨⟨hp,by omega,by omega,by omega⟩,by omega⟩
            · have:=hk1 k (by omega)
              exact ⟨this.1,by omega⟩
           have aht:∀ k m,k < m→m < i + 1→((tSlots t).get k).2.1 + ((tSlots t).get k).2.2.1≤((tSlots t).get m).2.1:=fun k m h1 h2=>by
            by_cases q:m = i
            · rw [q,hs]
              have:=(hk1 k (by omega)).2
              omega
            · exact hk2 k m h1 (by omega)
           exact ⟨_,_,rfl,rfl,⟨i + 1,_,rfl,rfl,h,by omega,by omega,ahs,aht⟩,by simp only [tN]; omega⟩
 · right
   have:i = (tSlots t).len:=by omega
   subst this
   simp only [pE,jB]
   exact ⟨_,_,au (aK (tSlots t).len),au (aK (tSlots t).len),.inr ⟨rfl,rfl,fun k hk=>(hk1 k hk).1,hk2⟩⟩
theorem Pz (s:ByteArray) (i:Int):0≤bt s i ∧ bt s i≤255:=by
 unfold bt
 have:=((s[i.toNat]?).getD 0).toNat_lt
 omega
def nH (s:ByteArray) (i:Int):Prop:=∀ j:Int,i≤j→j < s.size→97≤bt s j ∧ bt s j≤122
theorem xV {s:ByteArray} {i:Int} (h:97≤bt s i ∧ bt s i≤122):nH s (i + 1)→nH s i:=by
 intro h' j h1 h2
 by_cases e:j = i
 · subst e; exact h
 · exact h' j (by omega) h2
theorem xW {s:ByteArray} {i:Int} (h':nH s i):nH s (i + 1):=fun j h1 h2=>h' j (by omega) h2
theorem PD (s:ByteArray) (hs:s.size≤8):∃ b,SY s = some ((b,()),()) ∧ (b = true ↔ nH s 0 ∧ 1≤s.size):=by
 obtain ⟨d,h1,h2⟩:=eH (step:=zh) (fun x=>((s.size:Int) - x.1.2.1).toNat) (fun x=>x.1.1 = s ∧ 0≤x.1.2.1 ∧ x.1.2.1≤s.size)
  (fun x d=>match d with
   | .inl y=>y.1.1 = false ∧ ¬ nH s x.1.2.1
   | .inr (.inl y)=>y.1.1 = s ∧ nH s x.1.2.1
   | .inr (.inr _)=>False) (by
   rintro ⟨⟨(t:ByteArray),(i:Int),⟨⟩⟩,⟨⟩⟩ ⟨h1,h2,h3⟩
   simp only at h1 h2 h3
   subst h1
   simp only [zh]
   by_cases hi:i < t.size
   · rw [ah (by simpa using hi),ah (by simp; omega),ah (by simp; omega)]
     have hb:=Pz t i
     rw [aJ (by omega) (by omega),aJ (n:=i + 1) (by omega) (by omega)]
     by_cases hr:97≤bt t i ∧ bt t i≤122
     · left
       have e:f42 (bt t i) 97 122 = true:=by
        unfold f42; rw [ah (by simpa using hr.1)]; simpa using hr.2
       rw [e]
       refine ⟨_,rfl,⟨rfl,by simp only; omega,by simp only; omega⟩,by simp only; omega,fun d hd=>?_⟩
       match d,hd with
       | .inl y,hd=>exact ⟨hd.1,fun h=>hd.2 (xW h)⟩
       | .inr (.inl y),hd=>exact ⟨hd.1,xV hr hd.2⟩
     · right
       have e:f42 (bt t i) 97 122 = false:=by
        unfold f42
        by_cases W9:bt t i ≥ 97
        · rw [ah (by simpa using W9)]; simp; omega
        · rw [au (by simp; omega)]
       rw [e]
       exact ⟨_,rfl,rfl,fun h=>hr (h i (Int.le_refl _) hi)⟩
   · right
     rw [au (by simp; omega)]
     exact ⟨_,rfl,rfl,fun j h4 h5=>by omega⟩) ((s,0,()),()) ⟨rfl,by simp,by simp⟩
 unfold SY
 rw [h1]
 simp only [oB]
 match d,h2 with
 | .inl y,h2=>exact ⟨_,rfl,by rw [h2.1]; simp only [Bool.false_eq_true,false_iff]; exact fun h=>h2.2 h.1⟩
 | .inr (.inl y),h2 =>
   refine ⟨_,rfl,?_⟩
   rw [h2.1]
   unfold f42
   by_cases h0:1≤s.size
   · rw [ah (by simp; omega)]
     simp only [decide_eq_true_eq]
     exact ⟨fun _=>⟨h2.2,h0⟩,fun _=>by omega⟩
   · rw [au (by simp; omega)]
     simp only [Bool.false_eq_true,false_iff]
     exact fun h=>h0 h.2
theorem Xa (s:ByteArray) (hs:s.size≤2 ^ 47):∃ b,Tq s = some ((b,()),()) ∧ (b = true ↔ nH s 0 ∧ 1≤s.size ∧ s.size≤12):=by
 have h47:(2:Nat) ^ 47 = 140737488355328:=by decide
 rw [h47] at hs
 obtain ⟨d,h1,h2⟩:=eH (step:=zH) (fun x=>((s.size:Int) - x.1.2.2.1).toNat) (fun x=>x.1.1 = s ∧ x.1.2.1 = s.size ∧ 0≤x.1.2.2.1 ∧ x.1.2.2.1≤s.size)
  (fun x d=>match d with
   | .inl y=>y.1.1 = false ∧ ¬ nH s x.1.2.2.1
   | .inr (.inl y)=>y.1.1 = s ∧ nH s x.1.2.2.1
   | .inr (.inr _)=>False) (by
   rintro ⟨⟨(t:ByteArray),(n:Int),(i:Int),⟨⟩⟩,⟨⟩⟩ ⟨h1,hn,h2,h3⟩
   simp only at h1 h2 h3 hn
   subst h1 hn
   simp only [zH]
   by_cases hi:i < t.size
   · rw [ah (by simpa using hi),ah (by simp; omega)]
     rw [aJ (n:=i + 1) (by omega) (by omega)]
     by_cases hr:97≤bt t i ∧ bt t i≤122
     · left
       rw [au (by simp; omega),ah (by simp; omega),au (by simp; omega)]
       refine ⟨_,rfl,⟨rfl,rfl,by simp only; omega,by simp only; omega⟩,by simp only; omega,fun d hd=>?_⟩
       match d,hd with
       | .inl y,hd=>exact ⟨hd.1,fun h=>hd.2 (xW h)⟩
       | .inr (.inl y),hd=>exact ⟨hd.1,xV hr hd.2⟩
     · right
       by_cases W9:bt t i < 97
       · rw [ah (by simpa using W9)]
         exact ⟨_,rfl,rfl,fun h=>hr (h i (Int.le_refl _) hi)⟩
       · rw [au (by simp; omega),ah (by simp; omega),ah (by simp; omega)]
         exact ⟨_,rfl,rfl,fun h=>hr (h i (Int.le_refl _) hi)⟩
   · right
     rw [au (by simp; omega)]
     exact ⟨_,rfl,rfl,fun j h4 h5=>by omega⟩) ((s,s.size,0,()),()) ⟨rfl,rfl,by simp,by simp⟩
 unfold Tq
 rw [h1]
 simp only [oB]
 match d,h2 with
 | .inl y,h2=>exact ⟨_,rfl,by rw [h2.1]; simp only [Bool.false_eq_true,false_iff]; exact fun h=>h2.2 h.1⟩
 | .inr (.inl y),h2 =>
   refine ⟨_,rfl,?_⟩
   rw [h2.1]
   unfold f157
   by_cases h0:1≤s.size
   · rw [ah (by simp; omega)]
     simp only [decide_eq_true_eq]
     exact ⟨fun h=>⟨h2.2,h0,by omega⟩,fun h=>by omega⟩
   · rw [au (by simp; omega)]
     simp only [Bool.false_eq_true,false_iff]
     exact fun h=>h0 h.2.1
theorem names (s:ByteArray) (hw:s.size≤2 ^ 47):∃ b,BS s = some ((b,()),()) ∧ PE s = some ((b,()),()):=by
 obtain ⟨b2,e2,r2⟩:=Xa s hw
 refine ⟨decide (b2 = true ∧ s.size≤8),?_,?_⟩
 · unfold BS
   by_cases h8:s.size≤8
   · obtain ⟨b1,e1,r1⟩:=PD s h8
     rw [ah (by simp; omega),e1]
     simp only [oB]
     congr 3
     cases b1 with
     | true =>
       have:=r1.mp rfl
       have h2:=r2.mpr ⟨this.1,this.2,by omega⟩
       simp [h2,h8]
     | false =>
       cases b2 with
       | false=>simp
       | true =>
         have:=r2.mp rfl
         have:=r1.mpr ⟨this.1,this.2.1⟩
         cases this
   · rw [au (by simp; omega)]
     simp [h8]
 · unfold PE
   rw [e2]
   simp only [oB]
   cases b2 with
   | true=>simp; omega
   | false=>simp
theorem policies (p:Int×(Int×Unit)):f303 p = f261 p:=rfl
theorem zI {b x:Bool}:(bif b then x else false) = (b&&x):=by cases b <;> rfl
theorem dK (w:Wi):f326 w = true ↔ (0≤w.1 ∧ w.1≤2048) ∧ (4≤w.2.1 ∧ w.2.1≤2048) ∧ Int.tmod w.1 4 = 0 ∧ Int.tmod w.2.1 4 = 0 ∧ w.1 + w.2.1≤2048 ∧ (1≤w.2.2.1 ∧ w.2.2.1≤7):=by
 unfold f326
 simp only [zI,Bool.and_eq_true,aZ,beq_iff_eq,decide_eq_true_eq]
 constructor
 · rintro ⟨h1,h2,h3,h4,h5,h6⟩
   rw [aJ (by omega) (by omega)] at h5
   exact ⟨h1,h2,h3,h4,h5,h6⟩
 · rintro ⟨h1,h2,h3,h4,h5,h6⟩
   refine ⟨h1,h2,h3,h4,?_,h6⟩
   rw [aJ (by omega) (by omega)]
   exact h5
theorem GQ (w:Wi):f304 w = f326 w:=by
 rw [Bool.eq_iff_iff,dK]
 unfold f304
 rw [eT]
 simp only [zI,Bool.and_eq_true,aZ,beq_iff_eq]
 constructor
 · rintro ⟨h1,h2,h3,h4,h5⟩
   rw [aJ (by omega) (by omega)] at h3
   exact ⟨by omega,h1,h4,h2,by omega,h5⟩
 · rintro ⟨h1,h2,h3,h4,h5,h6⟩
   refine ⟨h2,h4,?_,h3,h6⟩
   rw [aJ (by omega) (by omega)]
   omega
theorem GR (v w:Wi) (hv:f326 v = true) (hw:f326 w = true):f307 v w = true ↔ v.1 + v.2.1≤w.1 ∨ w.1 + w.2.1≤v.1:=by
 have a:=(dK v).mp hv
 have b:=(dK w).mp hw
 unfold f307
 rw [aJ (n:=v.1 + v.2.1) (by omega) (by omega),aJ (n:=w.1 + w.2.1) (by omega) (by omega)]
 by_cases h:v.1 + v.2.1≤w.1
 · rw [ah (by simpa using h)]; simp; omega
 · rw [au (by simpa using h)]; simp; omega
theorem lY (w:Wi) (x:Int) (hw:f326 w = true):lV w x = true ↔ w.1≤x ∧ x < w.1 + w.2.1:=by
 have b:=(dK w).mp hw
 unfold lV
 rw [aJ (n:=w.1 + w.2.1) (by omega) (by omega)]
 by_cases h:x ≥ w.1
 · rw [ah (by simpa using h)]; simp; omega
 · rw [au (by simpa using h)]; simp; omega
theorem named (t:Tb) (hl:(tParts t).len≤2 ^ 47) (s:ByteArray):∃ n:Int,Tt t s = some ((n,()),()) ∧ ((∃ i:Nat,n = i ∧ i < (tParts t).len ∧ strEq ((tParts t).get i).1 s = true ∧ ∀ j,j < i→strEq ((tParts t).get j).1 s = false) ∨ (n = -1 ∧ ∀ i,i < (tParts t).len→strEq ((tParts t).get i).1 s = false)):=by
 have h:=lQ (step:=gW) (x:=tParts t) (c:=(s,())) (fun i=>strEq ((tParts t).get i).1 s) (fun i hi=>by
  simp only [gW]
  refine (ah (aM hi)).trans ((ah (aj hi)).trans ?_)
  rw [av hi hl,tN]
  by_cases hf:strEq ((tParts t).get i).1 s = true
  · rw [if_pos hf]; exact ah hf
  · rw [if_neg hf]; exact au (show strEq ((tParts t).get i).1 s = false by simpa using hf)) (by
  simp only [gW]
  exact au (aK (tParts t).len))
 unfold Tt Br
 rcases h with ⟨i,h1,h2,h3,h4⟩ | ⟨h1,h2⟩
 · have h4':aL gW ((t.2.2.2.2.2.2.2.1,((s,()),((t.2.2.2.2.2.2.2.1.len:Int),((0:Int),())))),()) = some (.inl (((i:Int),()),())):=h4
   rw [h4']
   exact ⟨i,rfl,.inl ⟨i,rfl,h1,h2,h3⟩⟩
 · have h2':aL gW ((t.2.2.2.2.2.2.2.1,((s,()),((t.2.2.2.2.2.2.2.1.len:Int),((0:Int),())))),()) = some (.inr (.inl ((),()))):=h2
   rw [h2']
   exact ⟨-1,rfl,.inr ⟨rfl,h1⟩⟩
noncomputable def PI (t:Tb):Option ((Bool×Unit)×Unit) :=
 bif (!(f157 ((tParts t).len:Int) (1:Int) (6:Int))) then
  some ((false,()),())
 else
  (Mq t).bind fun y2 =>
   bif (!y2.1.1) then
    some ((false,()),())
   else
    bif (decide (((tDevs t).len:Int) > (8:Int))) then
     some ((false,()),())
    else
     (jD (tDevs t) (((tParts t).len:Int),())).bind fun y3 =>
      bif y3.1.1 then
       some ((false,()),())
      else
       bif (decide (((tChans t).len:Int) > (8:Int))) then
        some ((false,()),())
       else
        (iD (tChans t) (((tParts t).len:Int),())).bind fun y4 =>
         bif y4.1.1 then
          some ((false,()),())
         else
          (BP t.2.2.2.1 t.2.1 (tChans t)).bind fun y5 =>
           bif (decide (t.2.2.2.2.1 < y5.1.1)) then
            some ((false,()),())
           else
            (Ga t).bind fun y6 =>
             some ((y6.1.1,()),())
theorem head (t:Tb):(O8 t = some ((false,()),()) ∧ tV t = some ((false,()),())) ∨
 (f249 t.2.2.2.1 = true ∧ (1≤t.2.2.2.2.1 ∧ t.2.2.2.2.1≤5000) ∧ (1≤t.2.2.2.2.2.1 ∧ t.2.2.2.2.2.1≤5000) ∧ (1≤t.2.2.2.2.2.2.1 ∧ t.2.2.2.2.2.2.1≤5000) ∧ f237 t.2.1 = true ∧ f42 t.1 64 2048 = true ∧ O8 t = some ((true,()),()) ∧ tV t = PI t):=by
 have e127:∀ n,f202 n = f42 n 1 5000:=fun n=>rfl
 have ahu:∀ n,f200 n = (f42 n 64 2048&&(Int.tmod n 4 == 0)):=fun n=>by
  unfold f200
  rw [eT]
  cases f42 n 64 2048 <;> rfl
 unfold O8 tV
 rw [ahu,e127,e127,e127,EJ,Bp,eT]
 have Tv:OH t.2.2.2.1 = (g22 t.2.2.2.1).bind fun y=>some ((y.1.1,()),()):=rfl
 rw [Tv]
 cases h1:f42 t.1 64 2048 with
 | false=>exact .inl ⟨rfl,rfl⟩
 | true =>
   cases h2:(Int.tmod t.1 4 == 0) with
   | false =>
     have:(Int.tmod t.1 4 != 0) = true:=by simpa [bne] using h2
     rw [this]
     exact .inl ⟨rfl,rfl⟩
   | true =>
     have:(Int.tmod t.1 4 != 0) = false:=by simpa [bne] using h2
     rw [this]
     cases h3:f237 t.2.1 with
     | false=>exact .inl ⟨rfl,rfl⟩
     | true =>
       cases h4:f42 t.2.2.1 1 8 with
       | false=>exact .inl ⟨rfl,rfl⟩
       | true =>
         cases h5:f249 t.2.2.2.1 with
         | false=>exact .inl ⟨rfl,rfl⟩
         | true =>
           cases h6:f42 t.2.2.2.2.1 1 5000 with
           | false=>exact .inl ⟨rfl,rfl⟩
           | true =>
             cases h7:f42 t.2.2.2.2.2.1 1 5000 with
             | false=>exact .inl ⟨rfl,rfl⟩
             | true =>
               cases h8:f42 t.2.2.2.2.2.2.1 1 5000 with
               | false=>exact .inl ⟨rfl,rfl⟩
               | true =>
                 obtain ⟨n,w1,w2⟩:=worst h5
                 rw [w1,w2]
                 simp only [Bool.not_true,cond_false,cond_true,Bool.and_self,oB]
                 by_cases hg:t.2.2.2.2.2.1 ≥ n
                 · right
                   refine ⟨trivial,(aZ _ _ _).mp h6,(aZ _ _ _).mp h7,(aZ _ _ _).mp h8,trivial,trivial,?_,?_⟩
                   · rw [decide_eq_true hg]
                   · exact au (by simp; omega)
                 · left
                   refine ⟨?_,?_⟩
                   · rw [decide_eq_false hg]
                   · exact ah (by simp; omega)
theorem pads (t:Tb) (hc:f249 t.2.2.2.1 = true) (hs:f237 t.2.1 = true) (hl:(tChans t).len≤8) (hok:∀ j,j < (tChans t).len→f328 ((tChans t).get j) = true) :
 ∃ n:Int,EH t.2.2.2.1 t.2.1 (tChans t) = some ((n,()),()) ∧ BP t.2.2.2.1 t.2.1 (tChans t) = some ((n,()),()):=by
 obtain ⟨c1,_⟩:=nX hc
 obtain ⟨m,h1,h2⟩:=good (tChans t) hl t.2.2.2.1 c1 (wI ((wI (16 * t.2.2.2.1.1)) + (wI ((wI (t.2.1.1 * t.2.1.2.1)) * t.2.2.2.1.2.2.2.2.2.2.1)))) hok
 unfold EH BP
 rw [hc,hs]
 simp only [Bool.not_true,cond_false]
 rw [au (by simp; omega),h1,h2]
 exact ⟨m,rfl,rfl⟩
def Tail (t:Tb):Prop :=
 (tDevs t).len≤8 ∧ (tChans t).len≤8 ∧ (∀ i,i < (tDevs t).len→f42 ((tDevs t).get i) 0 (wI (((tParts t).len:Int) - 1)) = true) ∧
 (∀ i,i < (tChans t).len→f328 ((tChans t).get i) = true ∧ ((tChans t).get i).2.1 < ((tParts t).len:Int) ∧ ((tChans t).get i).2.2.1 < ((tParts t).len:Int)) ∧ zG t ∧ (1≤(tSlots t).len ∧ (tSlots t).len≤16) ∧
 ∃ n:Int,EH t.2.2.2.1 t.2.1 (tChans t) = some ((n,()),()) ∧ BP t.2.2.2.1 t.2.1 (tChans t) = some ((n,()),()) ∧ t.2.2.2.2.1 ≥ n
theorem tail (t:Tb) (hl:(tSlots t).len≤2 ^ 47) (hc:f249 t.2.2.2.1 = true) (hs:f237 t.2.1 = true) (h1:1≤t.2.2.2.2.1 ∧ t.2.2.2.2.1≤5000) (h2:1≤t.2.2.2.2.2.1 ∧ t.2.2.2.2.2.1≤5000) (h3:1≤t.2.2.2.2.2.2.1 ∧ t.2.2.2.2.2.2.1≤5000) :
 ∃ b:Bool,((S9 t).bind fun y3=>bif y3.1.1 then (Pg t).bind fun y4=>some ((y4.1.1,()),()) else some ((false,()),())) = some ((b,()),()) ∧
   (bif (decide (((tDevs t).len:Int) > (8:Int))) then
    some ((false,()),())
    else
     (jD (tDevs t) (((tParts t).len:Int),())).bind fun y3 =>
      bif y3.1.1 then
       some ((false,()),())
      else
       bif (decide (((tChans t).len:Int) > (8:Int))) then
        some ((false,()),())
       else
        (iD (tChans t) (((tParts t).len:Int),())).bind fun y4 =>
         bif y4.1.1 then
          some ((false,()),())
         else
          (BP t.2.2.2.1 t.2.1 (tChans t)).bind fun y5 =>
           bif (decide (t.2.2.2.2.1 < y5.1.1)) then
            some ((false,()),())
           else
            (Ga t).bind fun y6 =>
             some ((y6.1.1,()),())) = some ((b,()),()) ∧ (b = true→Tail t):=by
 have slots:∃ b:Bool,Pg t = some ((b,()),()) ∧ Ga t = some ((b,()),()) ∧ (b = true→zG t ∧ 1≤(tSlots t).len ∧ (tSlots t).len≤16):=by
  obtain ⟨d,e,q1,q2,q3⟩:=MF t hl h1 h2 h3
  have q1':aL pE (((),((0:Int),((0:Int),()))),(t,())) = some d:=q1
  have q2':aL jB (((),((0:Int),(t.2.2.2.2.2.2.2.2.2.2.1,((t.2.2.2.2.2.2.2.2.2.2.1.len:Int),((0:Int),()))))),(t,())) = some e:=q2
  unfold Pg Ga
  rw [q1',q2',eT]
  rcases q3 with ⟨rfl,rfl⟩ | ⟨rfl,rfl,q3⟩
  · refine ⟨false,?_,rfl,by simp⟩
    cases f42 (t.2.2.2.2.2.2.2.2.2.2.1.len:Int) 1 16 <;> rfl
  · refine ⟨f42 (t.2.2.2.2.2.2.2.2.2.2.1.len:Int) 1 16,?_,rfl,fun h=>⟨q3,?_⟩⟩
    · cases f42 (t.2.2.2.2.2.2.2.2.2.2.1.len:Int) 1 16 <;> rfl
    · have:=(aZ _ _ _).mp h
      unfold tSlots
      omega
 obtain ⟨b,s1,s2,s3⟩:=slots
 unfold S9
 by_cases hd:((tDevs t).len:Int) > 8
 · refine ⟨false,?_,ah (by simpa using hd),by simp⟩
   have:decide ((t.2.2.2.2.2.2.2.2.1.len:Int) > 8) = true:=decide_eq_true hd
   rw [this]; rfl
 · have e1:decide ((t.2.2.2.2.2.2.2.2.1.len:Int) > 8) = false:=decide_eq_false hd
   have e1':decide (((tDevs t).len:Int) > 8) = false:=by simpa using hd
   rw [e1,e1']
   simp only [cond_false]
   have UO:(tDevs t).len≤8:=by omega
   by_cases hch:((tChans t).len:Int) > 8
   · have e2:decide ((t.2.2.2.2.2.2.2.2.2.1.len:Int) > 8) = true:=decide_eq_true hch
     have e2':decide (((tChans t).len:Int) > 8) = true:=by simpa using hch
     rw [e2,e2']
     rcases devs t UO with ⟨_,_,a2⟩ | ⟨_,_,a2⟩ <;> rw [a2] <;> exact ⟨false,rfl,rfl,by simp⟩
   · have e2:decide ((t.2.2.2.2.2.2.2.2.2.1.len:Int) > 8) = false:=decide_eq_false hch
     have e2':decide (((tChans t).len:Int) > 8) = false:=by simpa using hch
     rw [e2,e2']
     simp only [cond_false]
     have hc8:(tChans t).len≤8:=by omega
     rcases devs t UO with ⟨_,a1,a2⟩ | ⟨ahv,a1,a2⟩
     · rw [a1,a2]; exact ⟨false,rfl,rfl,by simp⟩
     · rw [a1,a2]
       simp only [oB,cond_false]
       rcases chans t hc8 with ⟨b1,b2⟩ | ⟨hok,b1,b2⟩
       · rw [b1,b2]; exact ⟨false,rfl,rfl,by simp⟩
       · rw [b1,b2]
         simp only [oB,cond_false]
         obtain ⟨n,p1,p2⟩:=pads t hc hs hc8 (fun j hj=>(hok j hj).1)
         have p1':EH t.2.2.2.1 t.2.1 t.2.2.2.2.2.2.2.2.2.1 = some ((n,()),()):=p1
         rw [p1',p2,s1,s2]
         simp only [oB]
         by_cases hp:t.2.2.2.2.1 ≥ n
         · rw [decide_eq_true hp,decide_eq_false (by omega)]
           exact ⟨b,rfl,rfl,fun h=>⟨UO,hc8,ahv,hok,(s3 h).1,(s3 h).2,n,p1,p2,hp⟩⟩
         · rw [decide_eq_false hp,decide_eq_true (by omega)]
           exact ⟨false,rfl,rfl,by simp⟩
def toL {α:Type} (x:L α):List α:=(List.range x.len).map x.get
theorem fV {α:Type} (x:L α):(toL x).length = x.len:=by simp [toL]
theorem vI {α:Type} (x:L α) (i:Nat):(toL x)[i]? = if i < x.len then some (x.get i) else none:=by
 unfold toL
 rw [List.getElem?_map]
 by_cases h:i < x.len
 · rw [if_pos h,List.getElem?_range h]; rfl
 · rw [if_neg h,List.getElem?_eq_none (by simpa using h)]; rfl
theorem EK {α:Type} (a b:L α):toL (L.app a b) = toL a ++ toL b:=by
 apply List.ext_getElem?
 intro i
 rw [vI,List.getElem?_append,fV,vI,vI]
 show (if i < a.len + b.len then some (bif Nat.blt i a.len then a.get i else b.get (i - a.len)) else none) = _
 by_cases h:i < a.len
 · have:Nat.blt i a.len = true:=by simpa [Nat.blt_eq] using h
   rw [if_pos (by omega),if_pos h,if_pos h,this]; rfl
 · have:Nat.blt i a.len = false:=by
    cases hb:Nat.blt i a.len with
    | false=>rfl
    | true=>exact absurd (by simpa [Nat.blt_eq] using hb) h
   rw [if_neg h,this]
   by_cases h2:i < a.len + b.len
   · rw [if_pos h2,if_pos (by omega)]; rfl
   · rw [if_neg h2,if_neg (by omega)]
def bg (x:L PR) (n:Nat):List Wi:=((toL x).take n).flatMap fun p=>toL p.2.2.2.1
theorem kS (x:L PR) {n:Nat} (h:n < x.len):bg x (n + 1) = bg x n ++ toL (x.get n).2.2.2.1:=by
 unfold bg
 have hn:n < (toL x).length:=by rw [fV]; exact h
 rw [List.take_succ_eq_append_getElem hn,List.flatMap_append]
 have:(toL x)[n] = x.get n:=by
  have:=vI x n
  rw [if_pos h,List.getElem?_eq_getElem hn] at this
  exact Option.some.inj this
 rw [this]
 simp
theorem Tw (x:L PR) (hn:x.len≤6) (hw:∀ i,i < x.len→(x.get i).2.2.2.1.len≤4):∃ all:L Wi,Gx x = some ((all,()),()) ∧ toL all = bg x x.len ∧ all.len≤24:=by
 obtain ⟨d,h1,all,rfl,h2,h3⟩:=eH (step:=lW) (fun a=>x.len - a.1.2.2.1.toNat)
  (fun a=>∃ (i:Nat) (acc:L Wi),a = ((x,((),((i:Int),()))),(acc,())) ∧ i≤x.len ∧ toL acc = bg x i ∧ acc.len≤4 * i)
  (fun _ d=>∃ all:L Wi,d = .inl (((),()),(all,())) ∧ toL all = bg x x.len ∧ all.len≤24) (by
   rintro _ ⟨i,acc,rfl,hi,ha,hl⟩
   by_cases h:i < x.len
   · left
     have hm:decide (acc.len + (x.get ((i:Int)).toNat).2.2.2.1.len≤most) = true:=by
      rw [tN]
      have:=hw i h
      have h32:most = 4294967296:=rfl
      rw [h32]
      exact decide_eq_true (by omega)
     have hstep:lW ((x,((),((i:Int),()))),(acc,())) = some (.inl ((x,((),(((i + 1:Nat):Int),()))),(L.app acc (x.get i).2.2.2.1,()))):=by
      simp only [lW]
      refine (ah (aM h)).trans ((ah (aj h)).trans ((ah hm).trans ?_))
      rw [av h (by omega),tN]
     refine ⟨_,hstep,⟨i + 1,_,rfl,h,?_,?_⟩,by simp only [tN]; omega,fun d hd=>hd⟩
     · rw [EK,ha,kS x h]
     · show acc.len + (x.get i).2.2.2.1.len≤_
       have:=hw i h
       omega
   · right
     have:i = x.len:=by omega
     subst this
     have hstep:lW ((x,((),((x.len:Int),()))),(acc,())) = some (.inr (.inl (((),()),(acc,())))):=by
      simp only [lW]
      exact au (aK x.len)
     exact ⟨_,hstep,acc,rfl,ha,by omega⟩)
  ((x,((),((0:Int),()))),((L.of (Ty.zero (.pair (.int .i64) (.pair (.int .i64) (.pair (.int .i64) .unit)))) []),())) ⟨0,_,rfl,Nat.zero_le _,rfl,Nat.zero_le _⟩
 unfold Gx
 rw [h1]
 exact ⟨all,rfl,h2,h3⟩
def H7 (a:L Wi) (k i:Nat):Bool:=decide ((a.get k).1 < wI ((a.get i).1 + (a.get i).2.1))&&decide ((a.get i).1 < wI ((a.get k).1 + (a.get k).2.1))
theorem GU (a:L Wi) (ha:a.len≤24) {i:Nat} (hi:i < a.len) :
 (∃ k,k < i ∧ H7 a k i = true ∧ aL mQ (((),((i:Int),((0:Int),()))),(a,())) = some (.inl ((false,()),()))) ∨
 ((∀ k,k < i→H7 a k i = false) ∧ aL mQ (((),((i:Int),((0:Int),()))),(a,())) = some (.inr (.inl (((),((i:Int),())),(a,()))))):=by
 have h:=scan (step:=mQ) (fun k=>(((),((i:Int),((k:Int),()))),(a,()))) i (fun k=>!H7 a k i) (fun _=>.inl ((false,()),())) (.inr (.inl (((),((i:Int),())),(a,()))))
  (fun k hk ho=>by
   have ho:H7 a k i = false:=by simpa using ho
   have hkl:k < a.len:=by omega
   simp only [mQ]
   refine (ah (aM hk)).trans ((ah (aj hkl)).trans ((ah (aj hi)).trans ((ah (aj hi)).trans ?_)))
   rw [av hk (by omega),tN,tN]
   unfold H7 at ho
   cases h1:decide ((a.get k).1 < wI ((a.get i).1 + (a.get i).2.1)) with
   | false=>rfl
   | true =>
     rw [h1] at ho
     refine (ah (aj hi)).trans ((ah (aj hkl)).trans ((ah (aj hkl)).trans ?_))
     exact au (by simpa using ho))
  (fun k hk ho=>by
   have ho:H7 a k i = true:=by simpa using ho
   have hkl:k < a.len:=by omega
   simp only [mQ]
   refine (ah (aM hk)).trans ((ah (aj hkl)).trans ((ah (aj hi)).trans ((ah (aj hi)).trans ?_)))
   rw [av hk (by omega),tN,tN]
   unfold H7 at ho
   simp only [Bool.and_eq_true] at ho
   refine (ah ho.1).trans ((ah (aj hi)).trans ((ah (aj hkl)).trans ((ah (aj hkl)).trans ?_)))
   exact ah ho.2)
  (by
   simp only [mQ]
   exact au (aK i))
 rcases h with ⟨k,h1,h2,_,h4⟩ | ⟨h1,h2⟩
 · exact .inl ⟨k,h1,by simpa using h2,h4⟩
 · exact .inr ⟨fun k hk=>by simpa using h1 k hk,h2⟩
theorem Xb (a:L Wi) (ha:a.len≤24) :
 ((∃ i k,i < a.len ∧ k < i ∧ H7 a k i = true) ∧ aL mR (((),((0:Int),())),(a,())) = some (.inl ((false,()),()))) ∨
 ((∀ i k,i < a.len→k < i→H7 a k i = false) ∧ aL mR (((),((0:Int),())),(a,())) = some (.inr (.inl ((),())))):=by
 have h:=scan (step:=mR) (fun i=>(((),((i:Int),())),(a,()))) a.len (fun i=>(List.range i).all fun k=>!H7 a k i) (fun _=>.inl ((false,()),())) (.inr (.inl ((),())))
  (fun i hi ho=>by
   have ho:∀ k,k < i→H7 a k i = false:=fun k hk=>by simpa using List.all_eq_true.mp ho k (List.mem_range.mpr hk)
   simp only [mR]
   refine (ah (aM hi)).trans ?_
   rcases GU a ha hi with ⟨k,hk,h1,_⟩ | ⟨_,h2⟩
   · rw [ho k hk] at h1; cases h1
   · rw [h2]
     simp only [oB]
     rw [av hi (by omega)])
  (fun i hi ho=>by
   simp only [mR]
   refine (ah (aM hi)).trans ?_
   rcases GU a ha hi with ⟨k,hk,h1,h2⟩ | ⟨h1,_⟩
   · rw [h2]; rfl
   · have:((List.range i).all fun k=>!H7 a k i) = true:=List.all_eq_true.mpr fun k hk=>by simp [h1 k (List.mem_range.mp hk)]
     rw [this] at ho; cases ho)
  (by
   simp only [mR]
   exact au (aK a.len))
 rcases h with ⟨i,h1,h2,_,h4⟩ | ⟨h1,h2⟩
 · refine .inl ⟨?_,h4⟩
   have h2':¬ ((List.range i).all fun k=>!H7 a k i) = true:=by rw [h2]; simp
   rw [List.all_eq_true] at h2'
   simp only [Classical.not_forall] at h2'
   obtain ⟨k,hk,hko⟩:=h2'
   exact ⟨i,k,h1,List.mem_range.mp hk,by simpa using hko⟩
 · exact .inr ⟨fun i k hi hk=>by simpa using List.all_eq_true.mp (h1 i hi) k (List.mem_range.mpr hk),h2⟩
def apart (v w:Wi):Prop:=v.1 + v.2.1≤w.1 ∨ w.1 + w.2.1≤v.1
theorem lC {α:Type} (x:L α) (a:α):a ∈ toL x ↔ ∃ i,i < x.len ∧ x.get i = a:=by
 unfold toL
 rw [List.mem_map]
 constructor
 · rintro ⟨i,hi,rfl⟩; exact ⟨i,List.mem_range.mp hi,rfl⟩
 · rintro ⟨i,hi,rfl⟩; exact ⟨i,List.mem_range.mpr hi,rfl⟩
theorem bX {α:Type} (x:L α) (i:Nat) (h:i < (toL x).length):(toL x)[i] = x.get i:=by
 have:=vI x i
 rw [List.getElem?_eq_getElem h,if_pos (by rw [fV] at h; exact h)] at this
 exact Option.some.inj this
theorem BZ {α:Type} (x:L α) {i:Nat} (h:i < x.len):(toL x).take (i + 1) = (toL x).take i ++ [x.get i]:=by
 have hn:i < (toL x).length:=by rw [fV]; exact h
 rw [List.take_succ_eq_append_getElem hn,bX]
theorem pG {α:Type} (x:L α):(toL x).take x.len = toL x:=by
 rw [← fV x]; exact List.take_length
theorem sQ (x:L PR) {i n:Nat} (h:i≤n) (hn:n≤x.len):∃ r,bg x n = bg x i ++ r:=by
 induction n with
 | zero=>have:i = 0:=by omega
         subst this; exact ⟨[],(List.append_nil _).symm⟩
 | succ n ih =>
   by_cases e:i = n + 1
   · subst e; exact ⟨[],(List.append_nil _).symm⟩
   · obtain ⟨r,hr⟩:=ih (by omega) (by omega)
     refine ⟨r ++ toL (x.get n).2.2.2.1,?_⟩
     rw [kS x (by omega),hr,List.append_assoc]
theorem overlaps (a:L Wi) (ha:a.len≤2 ^ 47) (w:Wi) (hw:f326 w = true) (hg:∀ v,v ∈ toL a→f326 v = true) :
 (qD a (w,()) = some ((true,()),()) ∧ ¬ ∀ v,v ∈ toL a→apart v w) ∨ (qD a (w,()) = some ((false,()),()) ∧ ∀ v,v ∈ toL a→apart v w):=by
 have h:=lQ (step:=kT) (x:=a) (c:=(w,())) (fun i=>f306 (a.get i) w) (fun i hi=>by
  simp only [kT]
  refine (ah (aM hi)).trans ((ah (aj hi)).trans ?_)
  rw [av hi ha,tN]
  by_cases hf:f306 (a.get i) w = true
  · rw [if_pos hf]; exact ah hf
  · rw [if_neg hf]; exact au (by simpa using hf)) (by
  simp only [kT]
  exact au (aK a.len))
 have hf:∀ i,i < a.len→(f306 (a.get i) w = false ↔ apart (a.get i) w):=fun i hi=>by
  have:=GR (a.get i) w (hg _ ((lC _ _).mpr ⟨i,hi,rfl⟩)) hw
  unfold f306 apart
  rw [← this]
  cases f307 (a.get i) w <;> simp
 unfold qD Bt
 rcases h with ⟨i,h1,h2,h3,h4⟩ | ⟨h1,h2⟩
 · left
   rw [h4]
   refine ⟨by simp,fun q=>?_⟩
   have:=(hf i h1).mpr (q _ ((lC _ _).mpr ⟨i,h1,rfl⟩))
   rw [this] at h2; cases h2
 · right
   rw [h2]
   refine ⟨by simp,fun v hv=>?_⟩
   obtain ⟨i,hi,rfl⟩:=(lC _ _).mp hv
   exact (hf i hi).mp (h1 i hi)
theorem aas (a:L Wi) (ha:a.len≤2 ^ 47) (x:Int) :
 (∃ i:Nat,i < a.len ∧ lV (a.get i) x = true ∧ (∀ j,j < i→lV (a.get j) x = false) ∧ yH a x = some (((i:Int),()),())) ∨ ((∀ i,i < a.len→lV (a.get i) x = false) ∧ yH a x = some ((-1,()),())):=by
 have e95:∀ w:Wi,Cb w x = lV w x:=fun w=>rfl
 have h:=lQ (step:=gX) (x:=a) (c:=(x,())) (fun i=>lV (a.get i) x) (fun i hi=>by
  simp only [gX]
  refine (ah (aM hi)).trans ((ah (aj hi)).trans ?_)
  rw [av hi ha,tN]
  by_cases hf:lV (a.get i) x = true
  · rw [if_pos hf]; exact ah hf
  · rw [if_neg hf]
    have hf':lV (a.get i) x = false:=by simpa using hf
    exact au hf') (by
  simp only [gX]
  exact au (aK a.len))
 unfold yH qE
 rcases h with ⟨i,h1,h2,h3,h4⟩ | ⟨h1,h2⟩
 · left
   rw [h4]
   exact ⟨i,h1,h2,h3,rfl⟩
 · right
   rw [h2]
   exact ⟨h1,rfl⟩
def ins (w:Wi) (x:Int):Prop:=lV w x = true ∧ wI (Int.tdiv w.2.2.1 4) = 1
theorem aat (n:Int) (h:1≤n ∧ n≤7):(bP .i64 n 4 != 0) = (wI (Int.tdiv n 4) == 1):=by
 obtain ⟨h1,h2⟩:=h
 have:n = 1 ∨ n = 2 ∨ n = 3 ∨ n = 4 ∨ n = 5 ∨ n = 6 ∨ n = 7:=by omega
 rcases this with rfl | rfl | rfl | rfl | rfl | rfl | rfl <;> decide +kernel
theorem runs (p:PR) (hl:p.2.2.2.1.len≤2 ^ 47) (x:Int) (hg:∀ i,i < p.2.2.2.1.len→f326 (p.2.2.2.1.get i) = true) (hp:(toL p.2.2.2.1).Pairwise apart) :
 ∃ b,Tx p x = some ((b,()),()) ∧ (b = true ↔ ∃ i,i < p.2.2.2.1.len ∧ ins (p.2.2.2.1.get i) x):=by
 unfold Tx
 rcases aas p.2.2.2.1 hl x with ⟨i,h1,h2,h3,h4⟩ | ⟨h1,h2⟩
 · rw [h4]
   refine ⟨bP .i64 (p.2.2.2.1.get i).2.2.1 4 != 0,?_,?_⟩
   · simp only [oB]
     refine (ah (by simp)).trans ((ah (aj h1)).trans ?_)
     rw [tN]
   · rw [aat _ ((dK _).mp (hg i h1)).2.2.2.2.2]
     constructor
     · intro h; exact ⟨i,h1,h2,by simpa using h⟩
     · rintro ⟨j,hj,q1,q2⟩
       have:j = i:=by
        by_cases e:j = i
        · exact e
        have a1:=(lY _ x (hg i h1)).mp h2
        have a2:=(lY _ x (hg j hj)).mp q1
        have hlen:(toL p.2.2.2.1).length = p.2.2.2.1.len:=fV _
        have hall:=List.pairwise_iff_getElem.mp hp
        rcases Nat.lt_or_gt_of_ne e with lt | gt
        · have:=hall j i (by rw [hlen]; exact hj) (by rw [hlen]; exact h1) lt
          rw [bX,bX] at this
          unfold apart at this
          omega
        · have:=hall i j (by rw [hlen]; exact h1) (by rw [hlen]; exact hj) gt
          rw [bX,bX] at this
          unfold apart at this
          omega
       subst this
       simpa using q2
 · rw [h2]
   refine ⟨false,?_,?_⟩
   · simp only [oB]
     exact au (by decide)
   · simp only [Bool.false_eq_true,false_iff,not_exists,not_and]
     intro i hi q
     have q1:=q.1
     rw [h1 i hi] at q1
     cases q1
noncomputable def nm (s:ByteArray):Bool:=open Classical in decide (BS s = some ((true,()),()))
theorem UQ (s:ByteArray) (hw:s.size≤2 ^ 47):BS s = some ((nm s,()),()) ∧ PE s = some ((nm s,()),()):=by
 obtain ⟨b,h1,h2⟩:=names s hw
 have:nm s = b:=by
  unfold nm
  rw [h1]
  cases b <;> simp
 rw [this]; exact ⟨h1,h2⟩
def qF (p:PR) (mem:Int):Prop :=
 nm p.1 = true ∧ f261 p.2.2.1 = true ∧ (1≤p.2.2.2.1.len ∧ p.2.2.2.1.len≤4) ∧ (∀ j,j < p.2.2.2.1.len→f326 (p.2.2.2.1.get j) = true ∧ (p.2.2.2.1.get j).1 + (p.2.2.2.1.get j).2.1≤mem) ∧
  (∃ j,j < p.2.2.2.1.len ∧ ins (p.2.2.2.1.get j) p.2.1) ∧ Int.tmod p.2.1 4 = 0
theorem PK (p:PR) (mem:Int) (hs:p.1.size≤2 ^ 47):∃ b,MB p mem = some ((b,()),()) ∧ (b = true ↔ qF p mem):=by
 unfold MB qF
 rw [(UQ p.1 hs).1]
 simp only [oB]
 cases h1:nm p.1 with
 | false=>exact ⟨false,rfl,by simp⟩
 | true =>
   cases h2:f261 p.2.2.1 with
   | false=>exact ⟨false,rfl,by simp⟩
   | true =>
     cases h3:f42 (p.2.2.2.1.len:Int) 1 4 with
     | false =>
       refine ⟨false,rfl,?_⟩
       have:¬ (1≤p.2.2.2.1.len ∧ p.2.2.2.1.len≤4):=fun q=>by
        rw [(aZ _ _ _).mpr (by omega)] at h3; cases h3
       simp only [Bool.false_eq_true,false_iff]
       rintro ⟨_,_,q,_⟩
       exact this q
     | true =>
       have h3':1≤p.2.2.2.1.len ∧ p.2.2.2.1.len≤4:=by
        have:=(aZ _ _ _).mp h3
        omega
       simp only [Bool.not_true,cond_false]
       generalize hwn:p.2.2.2.1 = wn at *
       have hgood:∀ j,(!(f326 (wn.get j))) = false→decide (wI ((wn.get j).1 + (wn.get j).2.1) > mem) = false→f326 (wn.get j) = true ∧ (wn.get j).1 + (wn.get j).2.1≤mem:=fun j a b=>by
        have a':f326 (wn.get j) = true:=by simpa using a
        have:=(dK _).mp a'
        rw [aJ (by omega) (by omega)] at b
        exact ⟨a',by simpa using b⟩
       obtain ⟨d,e1,e2⟩:=eH (step:=vB) (fun a=>wn.len - a.1.2.2.2.1.toNat)
        (fun a=>∃ (i:Nat) (fl:Bool),a = ((mem,((),(fl,((i:Int),())))),(p,())) ∧ i≤wn.len ∧ (∀ j,j < i→f326 (wn.get j) = true ∧ (wn.get j).1 + (wn.get j).2.1≤mem) ∧ (fl = true ↔ ∃ j,j < i ∧ ins (wn.get j) p.2.1))
        (fun _ d=>(d = .inl ((false,()),()) ∧ ¬ ∀ j,j < wn.len→f326 (wn.get j) = true ∧ (wn.get j).1 + (wn.get j).2.1≤mem) ∨
         ∃ fl:Bool,d = .inr (.inl (((),(fl,())),(p,()))) ∧ (∀ j,j < wn.len→f326 (wn.get j) = true ∧ (wn.get j).1 + (wn.get j).2.1≤mem) ∧ (fl = true ↔ ∃ j,j < wn.len ∧ ins (wn.get j) p.2.1)) (by
         rintro _ ⟨i,fl,rfl,hi,ha,hf⟩
         by_cases h:i < wn.len
         · simp only [vB]
           rw [hwn,ah (aM h),ah (aj h),av h (by omega),tN]
           cases g1:(!(f326 (wn.get i))) with
           | true =>
             right
             refine ⟨_,rfl,.inl ⟨rfl,fun q=>?_⟩⟩
             have:=(q i h).1
             rw [this] at g1; cases g1
           | false =>
             cases g2:decide (wI ((wn.get i).1 + (wn.get i).2.1) > mem) with
             | true =>
               right
               refine ⟨_,rfl,.inl ⟨rfl,fun q=>?_⟩⟩
               have h1:=(q i h).1
               have h2:=(q i h).2
               have:=(dK _).mp h1
               rw [aJ (by omega) (by omega)] at g2
               have:=of_decide_eq_true g2
               omega
             | false =>
               left
               have hg:=hgood i g1 g2
               have ha':∀ j,j < i + 1→f326 (wn.get j) = true ∧ (wn.get j).1 + (wn.get j).2.1≤mem:=fun j hj=>by
                by_cases e:j = i
                · rw [e]; exact hg
                · exact ha j (by omega)
               have hm:wn.len - (((i + 1:Nat):Int)).toNat < wn.len - ((i:Int)).toNat:=by simp only [tN]; omega
               have up:¬ ins (wn.get i) p.2.1→(fl = true ↔ ∃ j,j < i + 1 ∧ ins (wn.get j) p.2.1):=fun hn=>by
                rw [hf]
                constructor
                · rintro ⟨j,hj,q⟩; exact ⟨j,by omega,q⟩
                · rintro ⟨j,hj,q⟩
                  by_cases e:j = i
                  · rw [e] at q; exact absurd q hn
                  · exact ⟨j,by omega,q⟩
               cases g3:lV (wn.get i) p.2.1 with
               | false =>
                 exact ⟨_,rfl,⟨i + 1,fl,rfl,h,ha',up (fun q=>by rw [q.1] at g3; cases g3)⟩,hm,fun d hd=>hd⟩
               | true =>
                 cases g4:(wI (Int.tdiv (wn.get i).2.2.1 4) == 1) with
                 | false =>
                   exact ⟨_,rfl,⟨i + 1,fl,rfl,h,ha',up (fun q=>by rw [q.2] at g4; cases g4)⟩,hm,fun d hd=>hd⟩
                 | true =>
                   exact ⟨_,rfl,⟨i + 1,true,rfl,h,ha',⟨fun _=>⟨i,by omega,g3,by simpa using g4⟩,fun _=>rfl⟩⟩,hm,fun d hd=>hd⟩
         · right
           have:i = wn.len:=by omega
           subst this
           simp only [vB]
           rw [hwn,au (aK wn.len)]
           exact ⟨_,rfl,.inr ⟨fl,rfl,ha,hf⟩⟩)
        ((mem,((),(false,((0:Int),())))),(p,())) ⟨0,false,rfl,Nat.zero_le _,fun j hj=>absurd hj (Nat.not_lt_zero _),by simp⟩
       rw [e1]
       simp only [oB]
       rcases e2 with ⟨rfl,hn⟩ | ⟨fl,rfl,hy,hfl⟩
       · refine ⟨false,rfl,?_⟩
         simp only [Bool.false_eq_true,false_iff]
         rintro ⟨_,_,_,q,_⟩
         exact hn q
       · cases fl with
         | false =>
           refine ⟨false,rfl,?_⟩
           simp only [Bool.false_eq_true,false_iff] at hfl ⊢
           rintro ⟨_,_,_,_,q,_⟩
           exact hfl q
         | true =>
           refine ⟨Int.tmod p.2.1 4 == 0,rfl,?_⟩
           rw [beq_iff_eq]
           exact ⟨fun q=>⟨trivial,trivial,h3',hy,hfl.mp rfl,q⟩,fun q=>q.2.2.2.2.2⟩
theorem KR:toL (bG (.pair (.int .i64) (.pair (.int .i64) (.pair (.int .i64) .unit)))) = ([]:List Wi):=rfl
theorem inner (t:Tb) (p:PR) (n i:Int) (a0:L Wi) (hl:p.2.2.2.1.len≤4) (ha0:a0.len≤20) (hg0:∀ v,v ∈ toL a0→f326 v = true) (hp0:(toL a0).Pairwise apart) :
 ∃ d,aL rT (((),((),((),(tParts t,(n,(i,(p.2.2.2.1,((p.2.2.2.1.len:Int),((0:Int),()))))))))),(t,(a0,(p,())))) = some d ∧
   ((d = .inl ((false,()),()) ∧ ¬ ((∀ j,j < p.2.2.2.1.len→f326 (p.2.2.2.1.get j) = true ∧ (p.2.2.2.1.get j).1 + (p.2.2.2.1.get j).2.1≤t.1) ∧ (toL a0 ++ toL p.2.2.2.1).Pairwise apart)) ∨
    ∃ a1:L Wi,d = .inr (.inl (((),((),((),(tParts t,(n,(i,())))))),(t,(a1,(p,()))))) ∧ toL a1 = toL a0 ++ toL p.2.2.2.1 ∧
     (∀ j,j < p.2.2.2.1.len→f326 (p.2.2.2.1.get j) = true ∧ (p.2.2.2.1.get j).1 + (p.2.2.2.1.get j).2.1≤t.1) ∧ (toL a1).Pairwise apart):=by
 generalize hwn:p.2.2.2.1 = wn at *
 refine eH (step:=rT) (fun x=>wn.len - x.1.2.2.2.2.2.2.2.2.1.toNat)
  (fun x=>∃ (j:Nat) (a:L Wi),x = (((),((),((),(tParts t,(n,(i,(wn,((wn.len:Int),((j:Int),()))))))))),(t,(a,(p,())))) ∧ j≤wn.len ∧ toL a = toL a0 ++ (toL wn).take j ∧ a.len = a0.len + j ∧
   (∀ k,k < j→f326 (wn.get k) = true ∧ (wn.get k).1 + (wn.get k).2.1≤t.1) ∧ (toL a).Pairwise apart)
  (fun _ d=>(d = .inl ((false,()),()) ∧ ¬ ((∀ j,j < wn.len→f326 (wn.get j) = true ∧ (wn.get j).1 + (wn.get j).2.1≤t.1) ∧ (toL a0 ++ toL wn).Pairwise apart)) ∨
   ∃ a1:L Wi,d = .inr (.inl (((),((),((),(tParts t,(n,(i,())))))),(t,(a1,(p,()))))) ∧ toL a1 = toL a0 ++ toL wn ∧
    (∀ j,j < wn.len→f326 (wn.get j) = true ∧ (wn.get j).1 + (wn.get j).2.1≤t.1) ∧ (toL a1).Pairwise apart) ?_ _ ⟨0,a0,rfl,Nat.zero_le _,by simp,rfl,fun k hk=>absurd hk (Nat.not_lt_zero _),hp0⟩
 rintro _ ⟨j,a,rfl,hj,ht,hlen,hg,hp⟩
 have ahw:∀ w,f304 w = f326 w:=GQ
 by_cases h:j < wn.len
 · simp only [rT]
   rw [ah (aM h),ah (aj h),av h (by omega),tN,ahw]
   cases g1:f326 (wn.get j) with
   | false =>
     right
     exact ⟨_,rfl,.inl ⟨rfl,fun q=>by have:=(q.1 j h).1; rw [this] at g1; cases g1⟩⟩
   | true =>
     have hw:=(dK _).mp g1
     rw [au (show (!true) = false from rfl),aJ (by omega) (by omega)]
     cases g2:decide ((wn.get j).1 + (wn.get j).2.1 > t.1) with
     | true =>
       right
       refine ⟨_,rfl,.inl ⟨rfl,fun q=>?_⟩⟩
       have:=(q.1 j h).2
       have:=of_decide_eq_true g2
       omega
     | false =>
       have g2':=of_decide_eq_false g2
       rw [au rfl]
       have hga:∀ v,v ∈ toL a→f326 v = true:=fun v hv=>by
        rw [ht,List.mem_append] at hv
        rcases hv with hv | hv
        · exact hg0 v hv
        · obtain ⟨k,hk,rfl⟩:=(lC _ _).mp (List.mem_of_mem_take hv)
          obtain ⟨k',hk',e⟩:=List.mem_iff_getElem.mp hv
          rw [List.getElem_take,bX] at e
          rw [← e]
          exact (hg k' (by rw [List.length_take] at hk'; omega)).1
       rcases overlaps a (by omega) (wn.get j) g1 hga with ⟨o1,o2⟩ | ⟨o1,o2⟩
       · rw [o1]
         right
         refine ⟨_,rfl,.inl ⟨rfl,fun q=>o2 fun v hv=>?_⟩⟩
         have hq:=q.2
         rw [← pG wn] at hq
         have hpre:∃ r,toL wn = (toL wn).take j ++ wn.get j::r:=by
          have hn:j < (toL wn).length:=by rw [fV]; exact h
          refine ⟨(toL wn).drop (j + 1),?_⟩
          rw [← bX wn j hn,List.getElem_cons_drop,List.take_append_drop]
         rw [pG] at hq
         obtain ⟨r,hr⟩:=hpre
         rw [hr,← List.append_assoc,← ht,List.pairwise_append] at hq
         exact hq.2.2 v hv _ (List.mem_cons_self ..)
       · rw [o1]
         left
         simp only [oB,cond_false]
         have hm:decide (a.len + (L.of (Ty.zero (.pair (.int .i64) (.pair (.int .i64) (.pair (.int .i64) .unit)))) [wn.get j]).len≤most) = true:=by
          have h32:most = 4294967296:=rfl
          rw [h32]
          have:(L.of (Ty.zero (.pair (.int .i64) (.pair (.int .i64) (.pair (.int .i64) .unit)))) [wn.get j]).len = 1:=rfl
          rw [this]
          exact decide_eq_true (by omega)
         refine ⟨_,ah hm,⟨j + 1,_,rfl,h,?_,?_,?_,?_⟩,by simp only [tN]; omega,fun d hd=>hd⟩
         · rw [EK,ht,BZ wn h,List.append_assoc]; rfl
         · show a.len + 1 = _
           omega
         · intro k hk
           by_cases e:k = j
           · rw [e]; exact ⟨g1,by omega⟩
           · exact hg k (by omega)
         · rw [EK,List.pairwise_append]
           refine ⟨hp,?_,?_⟩
           · show List.Pairwise apart [wn.get j]
             exact List.pairwise_singleton _ _
           · intro v hv w hw'
             have:w = wn.get j:=List.mem_singleton.mp hw'
             rw [this]
             exact o2 v hv
 · right
   have:j = wn.len:=by omega
   subst this
   simp only [rT]
   rw [au (aK wn.len)]
   refine ⟨_,rfl,.inr ⟨a,rfl,?_,hg,hp⟩⟩
   rw [ht,pG]
def Parts (x:L PR) (mem:Int):Prop :=
 (∀ i,i < x.len→qF (x.get i) mem ∧ ∀ q,q < i→strEq (x.get q).1 (x.get i).1 = false) ∧ (bg x x.len).Pairwise apart
theorem xX (x:L PR) (mem:Int) {n:Nat} (hn:n≤x.len) (h:∀ i,i < n→qF (x.get i) mem):∀ v,v ∈ bg x n→f326 v = true:=by
 intro v hv
 unfold bg at hv
 rw [List.mem_flatMap] at hv
 obtain ⟨p,hp,hv⟩:=hv
 obtain ⟨k,hk,e⟩:=List.mem_iff_getElem.mp hp
 rw [List.getElem_take,bX] at e
 subst e
 obtain ⟨j,hj,rfl⟩:=(lC _ _).mp hv
 exact ((h k (by rw [List.length_take] at hk; omega)).2.2.2.1 j hj).1
theorem Jg (s:ByteArray):strEq s s = true:=by unfold strEq; simp
theorem GV (t:Tb) (hn:(tParts t).len≤6) (hs:∀ i,i < (tParts t).len→((tParts t).get i).1.size≤2 ^ 47) (hw:∀ i,i < (tParts t).len→((tParts t).get i).2.2.2.1.len≤2 ^ 47) :
 ∃ b,Mq t = some ((b,()),()) ∧ (b = true ↔ Parts (tParts t) t.1):=by
 generalize hx:tParts t = x at *
 have hx':t.2.2.2.2.2.2.2.1 = x:=hx
 obtain ⟨d,e1,e2⟩:=eH (step:=vJ) (fun a=>x.len - a.1.2.2.2.2.1.toNat)
  (fun a=>∃ (i:Nat) (all:L Wi),a = (((),(all,(x,((x.len:Int),((i:Int),()))))),(t,())) ∧ i≤x.len ∧ toL all = bg x i ∧ all.len≤4 * i ∧
   (∀ k,k < i→qF (x.get k) t.1 ∧ ∀ q,q < k→strEq (x.get q).1 (x.get k).1 = false) ∧ (toL all).Pairwise apart)
  (fun _ d=>(d = .inl ((false,()),()) ∧ ¬ Parts x t.1) ∨ (d = .inr (.inl ((),())) ∧ Parts x t.1)) (by
   rintro _ ⟨i,all,rfl,hi,ht,hlen,hp,hap⟩
   by_cases h:i < x.len
   · simp only [vJ]
     rw [ah (aM h),ah (aj h),tN,(UQ _ (hs i h)).2]
     simp only [oB]
     cases g1:nm (x.get i).1 with
     | false =>
       right
       exact ⟨_,rfl,.inl ⟨rfl,fun q=>by have:=(q.1 i h).1.1; rw [this] at g1; cases g1⟩⟩
     | true =>
       rw [au (show (!true) = false from rfl)]
       obtain ⟨n,n1,n2⟩:=named t (by rw [hx]; omega) (x.get i).1
       rw [hx] at n2
       rw [n1]
       simp only [oB]
       cases g2:decide (n < (i:Int)) with
       | true =>
         right
         refine ⟨_,rfl,.inl ⟨rfl,fun q=>?_⟩⟩
         have g2:=of_decide_eq_true g2
         rcases n2 with ⟨k,k1,k2,k3,_⟩ | ⟨_,k2⟩
         · have:=(q.1 i h).2 k (by omega)
           rw [k3] at this; cases this
         · have:=k2 i h
           rw [Jg] at this; cases this
       | false =>
         have g2:=of_decide_eq_false g2
         have hd:∀ q,q < i→strEq (x.get q).1 (x.get i).1 = false:=by
          rcases n2 with ⟨k,k1,_,_,k4⟩ | ⟨k1,_⟩
          · intro q hq; exact k4 q (by omega)
          · omega
         have e109:f303 (x.get i).2.2.1 = f261 (x.get i).2.2.1:=policies _
         rw [au rfl,e109,eT]
         cases g3:f261 (x.get i).2.2.1 with
         | false =>
           right
           exact ⟨_,rfl,.inl ⟨rfl,fun q=>by have:=(q.1 i h).1.2.1; rw [this] at g3; cases g3⟩⟩
         | true =>
           rw [au (show (!true) = false from rfl)]
           cases g4:f42 ((x.get i).2.2.2.1.len:Int) 1 4 with
           | false =>
             right
             refine ⟨_,rfl,.inl ⟨rfl,fun q=>?_⟩⟩
             have:=(q.1 i h).1.2.2.1
             rw [(aZ _ _ _).mpr (by omega)] at g4; cases g4
           | true =>
             have g4:1≤(x.get i).2.2.2.1.len ∧ (x.get i).2.2.2.1.len≤4:=by
              have:=(aZ _ _ _).mp g4
              omega
             rw [au (show (!true) = false from rfl)]
             obtain ⟨d,i1,i2⟩:=inner t (x.get i) (x.len:Int) (i:Int) all g4.2 (by omega) (fun v hv=>xX x t.1 (n:=i) (by omega) (fun k hk=>(hp k hk).1) v (by rw [← ht]; exact hv)) hap
             rw [hx] at i1
             rw [i1]
             simp only [oB]
             have hsucc:=kS x h
             rcases i2 with ⟨rfl,i2⟩ | ⟨a1,rfl,i2,i3,i4⟩
             · right
               refine ⟨_,rfl,.inl ⟨rfl,fun q=>i2 ⟨(q.1 i h).1.2.2.2.1,?_⟩⟩⟩
               obtain ⟨r,hr⟩:=sQ x (i:=i + 1) (n:=x.len) (by omega) (Nat.le_refl _)
               have:=q.2
               rw [hr,List.pairwise_append] at this
               rw [ht,← hsucc]
               exact this.1
             · simp only [hx]
               cases g5:(Int.tmod (x.get i).2.1 4 != 0) with
               | true =>
                 right
                 refine ⟨_,rfl,.inl ⟨rfl,fun q=>?_⟩⟩
                 have:=(q.1 i h).1.2.2.2.2.2
                 rw [this] at g5; cases g5
               | false =>
                 have g5:Int.tmod (x.get i).2.1 4 = 0:=by simpa using g5
                 have hpw:(toL (x.get i).2.2.2.1).Pairwise apart:=by
                  rw [i2,List.pairwise_append] at i4
                  exact i4.2.1
                 obtain ⟨b,r1,r2⟩:=runs (x.get i) (hw i h) (x.get i).2.1 (fun j hj=>(i3 j hj).1) hpw
                 rw [au rfl,r1]
                 simp only [oB]
                 cases b with
                 | false =>
                   right
                   refine ⟨_,rfl,.inl ⟨rfl,fun q=>?_⟩⟩
                   have:=r2.mpr (q.1 i h).1.2.2.2.2.1
                   cases this
                 | true =>
                   left
                   rw [au (show (!true) = false from rfl),av h (by omega)]
                   refine ⟨_,rfl,⟨i + 1,a1,rfl,h,?_,?_,?_,i4⟩,by simp only [tN]; omega,fun d hd=>hd⟩
                   · rw [hsucc,i2,ht]
                   · have l1:(toL a1).length = a1.len:=fV _
                     rw [i2,List.length_append,fV,fV] at l1
                     omega
                   · intro k hk
                     by_cases e:k = i
                     · subst e
                       exact ⟨⟨g1,g3,g4,i3,r2.mp rfl,g5⟩,hd⟩
                     · exact hp k (by omega)
   · right
     have:i = x.len:=by omega
     subst this
     simp only [vJ]
     rw [au (aK x.len)]
     refine ⟨_,rfl,.inr ⟨rfl,hp,?_⟩⟩
     rw [← ht]; exact hap)
  (((),((bG (.pair (.int .i64) (.pair (.int .i64) (.pair (.int .i64) .unit)))),(x,((x.len:Int),((0:Int),()))))),(t,()))
  ⟨0,_,rfl,Nat.zero_le _,KR,Nat.zero_le _,fun k hk=>absurd hk (Nat.not_lt_zero _),by rw [KR]; exact List.Pairwise.nil⟩
 unfold Mq
 rw [hx',e1]
 simp only [oB]
 rcases e2 with ⟨rfl,h⟩ | ⟨rfl,h⟩
 · exact ⟨false,rfl,by simpa using h⟩
 · exact ⟨true,rfl,by simpa using h⟩
theorem Bu (t:Tb) (i:Nat) (h:i < (tParts t).len) (hn:(tParts t).len≤6) :
 (aL mO (((),((i:Int),((0:Int),()))),(t,())) = some (.inl ((false,()),())) ∧ ¬ ∀ q,q < i→strEq ((tParts t).get q).1 ((tParts t).get i).1 = false) ∨
 (aL mO (((),((i:Int),((0:Int),()))),(t,())) = some (.inr (.inl (((),((i:Int),())),(t,())))) ∧ ∀ q,q < i→strEq ((tParts t).get q).1 ((tParts t).get i).1 = false):=by
 have h1:=scan (step:=mO) (fun k=>(((),((i:Int),((k:Int),()))),(t,()))) i (fun k=>!strEq ((tParts t).get k).1 ((tParts t).get i).1) (fun _=>.inl ((false,()),())) (.inr (.inl (((),((i:Int),())),(t,()))))
  (fun k hk ho=>by
   have ho':strEq ((tParts t).get ((k:Int)).toNat).1 ((tParts t).get ((i:Int)).toNat).1 = false:=by rw [tN,tN]; simpa using ho
   simp only [mO]
   refine (ah (aM hk)).trans ((ah (aj (n:=(tParts t).len) (by omega))).trans ((ah (aj h)).trans ((au ho').trans ?_)))
   rw [av hk (by omega)])
  (fun k hk ho=>by
   have ho':strEq ((tParts t).get ((k:Int)).toNat).1 ((tParts t).get ((i:Int)).toNat).1 = true:=by rw [tN,tN]; simpa using ho
   simp only [mO]
   exact (ah (aM hk)).trans ((ah (aj (n:=(tParts t).len) (by omega))).trans ((ah (aj h)).trans (ah ho'))))
  (by
   simp only [mO]
   exact au (aK i))
 rcases h1 with ⟨k,hk,ho,_,e1⟩ | ⟨ha,e1⟩
 · exact .inl ⟨e1,fun q=>by have:=q k hk; rw [this] at ho; cases ho⟩
 · exact .inr ⟨e1,fun q hq=>by simpa using ha q hq⟩
theorem PL (t:Tb) (hn:(tParts t).len≤6) (hs:∀ i,i < (tParts t).len→((tParts t).get i).1.size≤2 ^ 47) (h1:1≤(tParts t).len) :
 ∃ b,MC t = some ((b,()),()) ∧ (b = true ↔ Parts (tParts t) t.1):=by
 have hok:∀ i,i < (tParts t).len→(open Classical in decide (qF ((tParts t).get i) t.1 ∧ ∀ q,q < i→strEq ((tParts t).get q).1 ((tParts t).get i).1 = false)) = true→qF ((tParts t).get i) t.1 ∧ ∀ q,q < i→strEq ((tParts t).get q).1 ((tParts t).get i).1 = false :=
  fun i hi h=>by simpa using h
 have l0:=scan (step:=mP) (fun i=>(((),((i:Int),())),(t,()))) (tParts t).len (fun i=>open Classical in decide (qF ((tParts t).get i) t.1 ∧ ∀ q,q < i→strEq ((tParts t).get q).1 ((tParts t).get i).1 = false)) (fun _=>.inl ((false,()),())) (.inr (.inl (((),()),(t,()))))
  (fun i hi ho=>by
   obtain ⟨o1,o2⟩:=hok i hi ho
   obtain ⟨b,p1,p2⟩:=PK ((tParts t).get i) t.1 (hs i hi)
   have hb:b = true:=p2.mpr o1
   subst hb
   simp only [mP]
   refine (ah (aM hi)).trans ((ah (aj hi)).trans ?_)
   rw [tN]
   have p1':MB (L.get t.2.2.2.2.2.2.2.1 i) t.1 = some ((true,()),()):=p1
   rw [p1']
   simp only [oB]
   rw [au (show (!true) = false from rfl)]
   rcases Bu t i hi hn with ⟨_,n2⟩ | ⟨n1,_⟩
   · exact absurd o2 n2
   · rw [n1]
     simp only [oB]
     rw [av hi (by omega)])
  (fun i hi ho=>by
   have ho:¬ (qF ((tParts t).get i) t.1 ∧ ∀ q,q < i→strEq ((tParts t).get q).1 ((tParts t).get i).1 = false):=by simpa using ho
   obtain ⟨b,p1,p2⟩:=PK ((tParts t).get i) t.1 (hs i hi)
   simp only [mP]
   refine (ah (aM hi)).trans ((ah (aj hi)).trans ?_)
   rw [tN]
   have p1':MB (L.get t.2.2.2.2.2.2.2.1 i) t.1 = some ((b,()),()):=p1
   rw [p1']
   simp only [oB]
   cases b with
   | false=>rfl
   | true =>
     rw [au (show (!true) = false from rfl)]
     rcases Bu t i hi hn with ⟨n1,_⟩ | ⟨_,n2⟩
     · rw [n1]; rfl
     · exact absurd ⟨p2.mp rfl,n2⟩ ho)
  (by
   simp only [mP]
   exact au (aK (tParts t).len))
 unfold MC
 have hl:f42 (t.2.2.2.2.2.2.2.1.len:Int) 1 6 = true:=(aZ _ _ _).mpr (by unfold tParts at hn h1; omega)
 rw [hl,au (show (!true) = false from rfl)]
 rcases l0 with ⟨i,hi,ho,_,e1⟩ | ⟨ha,e1⟩
 · have ho:¬ (qF ((tParts t).get i) t.1 ∧ ∀ q,q < i→strEq ((tParts t).get q).1 ((tParts t).get i).1 = false):=by simpa using ho
   have e1':aL mP (((),((0:Int),())),(t,())) = some (.inl ((false,()),())):=e1
   rw [e1']
   exact ⟨false,rfl,by simp only [Bool.false_eq_true,false_iff]; exact fun q=>ho (q.1 i hi)⟩
 · have ha:∀ i,i < (tParts t).len→qF ((tParts t).get i) t.1 ∧ ∀ q,q < i→strEq ((tParts t).get q).1 ((tParts t).get i).1 = false:=fun i hi=>hok i hi (ha i hi)
   have e1':aL mP (((),((0:Int),())),(t,())) = some (.inr (.inl (((),()),(t,())))):=e1
   rw [e1']
   simp only [oB]
   obtain ⟨all,a1,a2,a3⟩:=Tw (tParts t) hn (fun i hi=>(ha i hi).1.2.2.1.2)
   have a1':Gx t.2.2.2.2.2.2.2.1 = some ((all,()),()):=a1
   rw [a1']
   simp only [oB]
   have hgood:=xX (tParts t) t.1 (Nat.le_refl _) (fun i hi=>(ha i hi).1)
   have hov:∀ i k,i < all.len→k < i→(H7 all k i = false ↔ apart (all.get k) (all.get i)):=fun i k hi hk=>by
    have g1:=(dK _).mp (hgood (all.get i) (by rw [← a2]; exact (lC _ _).mpr ⟨i,hi,rfl⟩))
    have g2:=(dK _).mp (hgood (all.get k) (by rw [← a2]; exact (lC _ _).mpr ⟨k,by omega,rfl⟩))
    unfold H7 apart
    rw [aJ (by omega) (by omega),aJ (by omega) (by omega)]
    simp only [Bool.and_eq_false_iff,decide_eq_false_iff_not]
    omega
   have hpw:(bg (tParts t) (tParts t).len).Pairwise apart ↔ ∀ i k,i < all.len→k < i→H7 all k i = false:=by
    rw [← a2,List.pairwise_iff_getElem]
    constructor
    · intro q i k hi hk
      have:=q k i (by rw [fV]; omega) (by rw [fV]; exact hi) hk
      rw [bX,bX] at this
      exact (hov i k hi hk).mpr this
    · intro q k i hk hi hki
      rw [bX,bX]
      rw [fV] at hi
      exact (hov i k hi hki).mp (q i k hi hki)
   rcases Xb all a3 with ⟨⟨i,k,hi,hk,ho⟩,o2⟩ | ⟨o1,o2⟩
   · rw [o2]
     refine ⟨false,rfl,?_⟩
     simp only [Bool.false_eq_true,false_iff]
     rintro ⟨_,q⟩
     have:=hpw.mp q i k hi hk
     rw [this] at ho; cases ho
   · rw [o2]
     exact ⟨true,rfl,fun _=>⟨ha,hpw.mpr o1⟩,fun _=>rfl⟩
def Facts (t:Tb):Prop :=
 f249 t.2.2.2.1 = true ∧ (1≤t.2.2.2.2.1 ∧ t.2.2.2.2.1≤5000) ∧ (1≤t.2.2.2.2.2.1 ∧ t.2.2.2.2.2.1≤5000) ∧ (1≤t.2.2.2.2.2.2.1 ∧ t.2.2.2.2.2.2.1≤5000) ∧ f237 t.2.1 = true ∧ (64≤t.1 ∧ t.1≤2048) ∧
 (1≤(tParts t).len ∧ (tParts t).len≤6) ∧ Parts (tParts t) t.1 ∧ Tail t
theorem sound (t:Tb) (hn:(tParts t).len≤2 ^ 47) (hl:(tSlots t).len≤2 ^ 47) (hs:∀ i,i < (tParts t).len→((tParts t).get i).1.size≤2 ^ 47) (hw:∀ i,i < (tParts t).len→((tParts t).get i).2.2.2.1.len≤2 ^ 47) :
 ∃ b:Bool,Ph t = some ((b,()),()) ∧ tV t = some ((b,()),()) ∧ (b = true→Facts t):=by
 unfold Ph
 rcases head t with ⟨h1,h2⟩ | ⟨hc,p1,p2,p3,hsh,hm,h1,h2⟩
 · rw [h1,h2]; exact ⟨false,rfl,rfl,by simp⟩
 · rw [h1,h2]
   simp only [oB,cond_true]
   unfold PI
   rw [eT]
   cases g1:f42 ((tParts t).len:Int) 1 6 with
   | false =>
     have:MC t = some ((false,()),()):=by
      unfold MC
      have g1':f42 (t.2.2.2.2.2.2.2.1.len:Int) 1 6 = false:=g1
      rw [g1']; rfl
     rw [this]
     exact ⟨false,rfl,rfl,by simp⟩
   | true =>
     have g1:=(aZ _ _ _).mp g1
     obtain ⟨b1,r1,r2⟩:=PL t (by omega) hs (by omega)
     obtain ⟨b2,i1,i2⟩:=GV t (by omega) hs hw
     have:b1 = b2:=by
      rw [Bool.eq_iff_iff,r2,i2]
     subst this
     rw [r1,i1]
     simp only [oB]
     cases b1 with
     | false=>exact ⟨false,rfl,rfl,by simp⟩
     | true =>
       obtain ⟨b,t1,t2,t3⟩:=tail t hl hc hsh p1 p2 p3
       exact ⟨b,t1,t2,fun h=>⟨hc,p1,p2,p3,hsh,(aZ _ _ _).mp hm,by omega,r2.mp rfl,t3 h⟩⟩
def Wf (t:Tb):Prop :=
 (tParts t).len≤2 ^ 47 ∧ (tDevs t).len≤2 ^ 47 ∧ (tChans t).len≤2 ^ 47 ∧ (tSlots t).len≤2 ^ 47 ∧ ∀ i,i < (tParts t).len→((tParts t).get i).1.size≤2 ^ 47 ∧ ((tParts t).get i).2.2.2.1.len≤2 ^ 47
theorem PN (t:Tb) (h:Wf t):∃ b:Bool,Ph t = some ((b,()),()) ∧ tV t = some ((b,()),()) ∧ (b = true→Facts t) :=
 sound t h.1 h.2.2.2.1 (fun i hi=>(h.2.2.2.2 i hi).1) (fun i hi=>(h.2.2.2.2 i hi).2)
abbrev ig:Type:=L Int×(Int×(Int×Unit))
def Cw (c:ig):Prop:=(c.1.len:Int)≤2 ^ 47 ∧ 0≤c.2.1 ∧ c.2.1≤c.1.len
theorem EL (a:Int):0≤bP .i64 a 255 ∧ bP .i64 a 255≤255:=by
 unfold bP
 generalize hx:BitVec.ofInt (IntKind.i64).bits a = x
 have h:(x &&&BitVec.ofInt (IntKind.i64).bits 255).toNat≤255:=by
  rw [BitVec.toNat_and]
  exact Nat.and_le_right
 generalize (x &&&BitVec.ofInt (IntKind.i64).bits 255).toNat = n at h
 have:IntKind.i64.wrap (n:Int) = n:=aJ (by omega) (by omega)
 rw [this]; omega
theorem byte (c:ig) (h:Cw c):∃ (x:Int) (c':ig),xY c = some ((x,()),(c',())) ∧ 0≤x ∧ x≤255 ∧ Cw c':=by
 obtain ⟨h1,h2,h3⟩:=h
 unfold xY
 by_cases hi:c.2.1 < (c.1.len:Int)
 · rw [ah (by simpa using hi),ah (by simp; omega)]
   refine ⟨_,_,rfl,(EL _).1,(EL _).2,h1,?_,?_⟩
   · show 0≤wI (c.2.1 + 1)
     rw [aJ (by omega) (by omega)]; omega
   · show wI (c.2.1 + 1)≤c.1.len
     rw [aJ (by omega) (by omega)]; omega
 · rw [au (by simpa using hi)]
   exact ⟨_,_,rfl,(EL _).1,(EL _).2,h1,h2,h3⟩
theorem below (c:ig) (h:Cw c) (n:Int) (h1:1≤n) (h2:n≤256):∃ (x:Int) (c':ig),bB c n = some ((x,()),(c',())) ∧ 0≤x ∧ x < n ∧ Cw c':=by
 obtain ⟨x,c',e,x0,x1,hc⟩:=byte c h
 unfold bB
 rw [au (by simp; omega),ah (by simpa using h2),e]
 simp only [oB]
 rw [ah (by simp; omega)]
 exact ⟨_,_,rfl,Int.tmod_nonneg _ x0,Int.tmod_lt_of_pos _ (by omega),hc⟩
theorem pick (c:ig) (h:Cw c) (l:L Int) (h1:1≤l.len) (h2:l.len≤256):∃ (i:Nat) (c':ig),fq c l = some ((l.get i,()),(c',(l,()))) ∧ i < l.len ∧ Cw c':=by
 obtain ⟨x,c',e,x0,x1,hc⟩:=below c h l.len (by omega) (by omega)
 unfold fq
 rw [e]
 simp only [oB]
 rw [ah (by simp; omega)]
 exact ⟨x.toNat,_,rfl,by omega,hc⟩
theorem nJ (c:ig) (h:Cw c) (z:Int) (l:List Int) (h1:1≤l.length) (h2:l.length≤256):∃ (x:Int) (c':ig),fq c (L.of z l) = some ((x,()),(c',(L.of z l,()))) ∧ x ∈ l ∧ Cw c':=by
 obtain ⟨i,c',e,hi,hc⟩:=pick c h (L.of z l) h1 h2
 refine ⟨_,c',e,?_,hc⟩
 show l.getD i z ∈ l
 have hi:i < l.length:=hi
 rw [List.getD_eq_getElem?_getD,List.getElem?_eq_getElem hi]
 simp
theorem once (c:ig) (h:Cw c) (n:Int) (h1:1≤n) (h2:n≤256):∃ (b:Bool) (c':ig),iG c n = some ((b,()),(c',())) ∧ Cw c':=by
 obtain ⟨x,c',e,_,_,hc⟩:=below c h n h1 h2
 unfold iG
 rw [e]
 exact ⟨_,_,rfl,hc⟩
theorem Xc (code:L Int) (h:code.len≤2 ^ 46):∃ c:ig,g98 code = some ((c,()),()) ∧ Cw c:=by
 obtain ⟨d,e1,hh,e2⟩:=eH (step:=EM) (fun a=>code.len - a.1.2.2.1.toNat)
  (fun a=>∃ (i:Nat) (k:Int),a = ((code,(k,((i:Int),()))),()) ∧ i≤code.len) (fun _ d=>∃ k:Int,d = .inl ((code,(k,())),()))
  (by
   rintro _ ⟨i,k,rfl,hi⟩
   simp only [EM]
   skip
   by_cases h1:i < code.len
   · rw [ah (aM h1)]
     by_cases h2:(i:Int) < 4000
     · rw [ah (by simpa using h2),ah (aj h1),av h1 (by omega)]
       exact .inl ⟨_,rfl,⟨i + 1,_,rfl,h1⟩,by simp; omega,fun d hd=>hd⟩
     · rw [au (by simpa using h2)]
       exact .inr ⟨_,rfl,k,rfl⟩
   · rw [au (by simp; omega)]
     exact .inr ⟨_,rfl,k,rfl⟩) ((code,((wI ((76076:Int) + (code.len:Int))),((0:Int),()))),()) ⟨0,_,rfl,Nat.zero_le _⟩
 subst e2
 unfold g98
 rw [e1]
 exact ⟨_,rfl,by show (code.len:Int)≤_; omega,Int.le_refl 0,by show (0:Int)≤_; omega⟩
theorem Tz (c:ig) (h:Cw c):∃ (p:Int×(Int×Unit)) (c':ig),KS c = some ((p,()),(c',())) ∧ f261 p = true ∧ Cw c':=by
 obtain ⟨x,c1,e,x0,x1,hc⟩:=below c h 3 (by omega) (by omega)
 unfold KS
 rw [e]
 simp only [oB]
 by_cases hx:x = 1
 · subst hx
   rw [ah (by decide)]
   obtain ⟨y,c2,e2,hy,hc2⟩:=nJ c1 hc (Ty.zero (.int .i64)) [0,1,2,3,100] (by decide) (by decide)
   rw [e2]
   refine ⟨(1,(y,())),c2,rfl,?_,hc2⟩
   simp only [List.mem_cons,List.not_mem_nil,or_false] at hy
   rcases hy with rfl | rfl | rfl | rfl | rfl <;> decide
 · rw [au (by simpa using hx)]
   refine ⟨(x,(0,())),c1,rfl,?_,hc⟩
   have:x = 0 ∨ x = 2:=by omega
   rcases this with rfl | rfl <;> decide
theorem aau (c:ig) (h:Cw c) (n:Int) (h1:2≤n) (h2:n≤4):∃ (r:Ch) (c':ig),KT c n = some ((r,()),(c',())) ∧ (f328 r = true ∧ r.2.1 < n ∧ r.2.2.1 < n) ∧ Cw c':=by
 obtain ⟨k,c1,e1,k0,k1,hc1⟩:=below c h 2 (by omega) (by omega)
 obtain ⟨a,c2,e2,a0,a1,hc2⟩:=below c1 hc1 n (by omega) (by omega)
 have e3':wI (n - 1) = n - 1:=aJ (by omega) (by omega)
 obtain ⟨b,c3,e3,b0,b1,hc3⟩:=below c2 hc2 (n - 1) (by omega) (by omega)
 have hw:wI (wI (a + 1) + b) = a + 1 + b:=by rw [aJ (n:=a + 1) (by omega) (by omega),aJ (by omega) (by omega)]
 have ht:0≤Int.tmod (a + 1 + b) n ∧ Int.tmod (a + 1 + b) n < n ∧ Int.tmod (a + 1 + b) n ≠ a:=by
  rw [Int.tmod_eq_emod_of_nonneg (by omega)]
  refine ⟨Int.emod_nonneg _ (by omega),Int.emod_lt_of_pos _ (by omega),?_⟩
  intro he
  have:a + 1 + b = n * ((a + 1 + b) / n) + a:=by have:=Int.mul_ediv_add_emod (a + 1 + b) n; omega
  have h3:(b + 1) = n * ((a + 1 + b) / n):=by omega
  have h4:(b + 1) % n = 0:=by rw [h3]; exact Int.mul_emod_right _ _
  rw [Int.emod_eq_of_lt (by omega) (by omega)] at h4
  omega
 have Xd:∀ x y z:Int,y≤x→x≤z→f42 x y z = true:=fun x y z p q=>by
  unfold f42; rw [ah (by simpa using p)]; simpa using q
 have hbad:∀ d:Int,((k = 0 ∧ d = 0) ∨ (k = 1 ∧ 1≤d ∧ d≤8))→f328 (k,(a,(Int.tmod (a + 1 + b) n,(d,())))) = true:=by
  intro d hd
  unfold f328
  rw [au (by rw [Xd _ _ _ (by simpa using a0) (by show a≤5; omega)]; rfl),au (by rw [Xd _ _ _ (by simpa using ht.1) (by show _≤(5:Int); simp only; omega)]; rfl),au (by simp only [beq_eq_false_iff_ne,ne_eq]; exact fun q=>ht.2.2 q.symm)]
  rcases hd with ⟨rfl,rfl⟩ | ⟨rfl,d1,d2⟩
  · rfl
  · exact (au (show ((1:Int) == 0) = false from rfl)).trans ((ah (show ((1:Int) == 1) = true from rfl)).trans (Xd _ _ _ d1 d2))
 unfold KT
 rw [e1]; simp only [oB]
 rw [e2]; simp only [oB]
 rw [e3',e3]; simp only [oB]
 rw [ah (by simp; omega),hw]
 by_cases hk:k = 1
 · subst hk
   rw [ah (by decide)]
   obtain ⟨d,c4,e4,d0,d1,hc4⟩:=below c3 hc3 4 (by omega) (by omega)
   obtain ⟨o,c5,e5,hc5⟩:=once c4 hc4 6 (by omega) (by omega)
   rw [e4]; simp only [oB]
   rw [e5]; simp only [oB]
   cases o with
   | true=>exact ⟨_,_,rfl,⟨hbad 8 (.inr ⟨rfl,by omega,by omega⟩),a1,ht.2.1⟩,hc5⟩
   | false =>
     refine ⟨_,_,rfl,⟨hbad _ (.inr ⟨rfl,?_,?_⟩),a1,ht.2.1⟩,hc5⟩
     · rw [aJ (by omega) (by omega)]; omega
     · rw [aJ (by omega) (by omega)]; omega
 · rw [au (by simpa using hk)]
   exact ⟨_,_,rfl,⟨hbad 0 (.inl ⟨by omega,rfl⟩),a1,ht.2.1⟩,hc3⟩
def NM:L ByteArray:=L.of (Ty.zero .str) [(⟨#[97,108,112,104,97]⟩:ByteArray),(⟨#[98,101,116,97]⟩:ByteArray),(⟨#[103,97,109,109,97]⟩:ByteArray),(⟨#[100,101,108,116,97]⟩:ByteArray),(⟨#[101,112,115]⟩:ByteArray),(⟨#[122,101,116,97]⟩:ByteArray)]
theorem TA (s:ByteArray) (h1:1≤s.size) (h2:s.size≤8) (h:∀ k:Nat,k < s.size→97≤bt s k ∧ bt s k≤122):nm s = true:=by
 obtain ⟨b,e1,e2⟩:=PD s h2
 have:b = true:=e2.mpr ⟨fun j j0 j1=>by have:=h j.toNat (by omega); rwa [Int.toNat_of_nonneg j0] at this,h1⟩
 subst this
 unfold nm
 have:BS s = some ((true,()),()):=by
  unfold BS
  rw [ah (by simp; omega),e1]; rfl
 simp [this]
theorem ahx (k:Nat) (h:k < 4):nm (NM.get k) = true:=by
 have:k = 0 ∨ k = 1 ∨ k = 2 ∨ k = 3:=by omega
 rcases this with rfl | rfl | rfl | rfl
 · exact TA _ (by decide) (by decide) (by decide +kernel)
 · exact TA _ (by decide) (by decide) (by decide +kernel)
 · exact TA _ (by decide) (by decide) (by decide +kernel)
 · exact TA _ (by decide) (by decide) (by decide +kernel)
theorem TB (k m:Nat) (h:k < m) (hm:m < 4):strEq (NM.get k) (NM.get m) = false:=by
 have:(k = 0 ∧ m = 1) ∨ (k = 0 ∧ m = 2) ∨ (k = 0 ∧ m = 3) ∨ (k = 1 ∧ m = 2) ∨ (k = 1 ∧ m = 3) ∨ (k = 2 ∧ m = 3):=by omega
 rcases this with ⟨rfl,rfl⟩ | ⟨rfl,rfl⟩ | ⟨rfl,rfl⟩ | ⟨rfl,rfl⟩ | ⟨rfl,rfl⟩ | ⟨rfl,rfl⟩ <;> decide +kernel
structure UR (p:PR) (k:Nat):Prop where
 name:p.1 = NM.get k
 pol:f261 p.2.2.1 = true
 len:p.2.2.2.1.len = 2
 w0:(p.2.2.2.1.get 0).2.1 = 128 ∧ (p.2.2.2.1.get 0).2.2.1 = 5 ∧ 0≤(p.2.2.2.1.get 0).1 ∧ (p.2.2.2.1.get 0).1 % 4 = 0
 w1:(p.2.2.2.1.get 0).1 + 128≤(p.2.2.2.1.get 1).1 ∧ (p.2.2.2.1.get 1).1 % 4 = 0 ∧ 32≤(p.2.2.2.1.get 1).2.1 ∧ (p.2.2.2.1.get 1).2.1≤44 ∧ (p.2.2.2.1.get 1).2.1 % 4 = 0 ∧ (p.2.2.2.1.get 1).2.2.1 = 3
 ent:(p.2.2.2.1.get 0).1≤p.2.1 ∧ p.2.1≤(p.2.2.2.1.get 0).1 + 4 ∧ p.2.1 % 4 = 0
structure qG (x:L PR) (n:Nat) (at_:Int):Prop where
 len:x.len = n
 part:∀ k,k < n→UR (x.get k) k ∧ ((x.get k).2.2.2.1.get 1).1 + ((x.get k).2.2.2.1.get 1).2.1≤at_
 ord:∀ k m,k < m→m < n→((x.get k).2.2.2.1.get 1).1 + ((x.get k).2.2.2.1.get 1).2.1≤((x.get m).2.2.2.1.get 0).1
 pos:0≤at_ ∧ at_ % 4 = 0 ∧ at_≤12 + 184 * n
theorem nK {α:Type} (x y:L α) {i:Nat} (h:i < x.len):(L.app x y).get i = x.get i:=by
 show (bif Nat.blt i x.len then _ else _) = _
 rw [show Nat.blt i x.len = true by simpa using h]; rfl
theorem qH {α:Type} (x:L α) (z v:α):(L.app x (L.of z [v])).get x.len = v:=by
 show (bif Nat.blt x.len x.len then _ else _) = _
 rw [show Nat.blt x.len x.len = false by rw [Bool.eq_false_iff]; simp]
 show [v].getD (x.len - x.len) z = v
 rw [Nat.sub_self]; rfl
theorem qG.add {x:L PR} {n:Nat} {a a':Int} (h:qG x n a) {z p:PR} (hp:UR p n) (h0:a = (p.2.2.2.1.get 0).1) (h1:(p.2.2.2.1.get 1).1 + (p.2.2.2.1.get 1).2.1≤a') (h2:a' % 4 = 0) (h3:a'≤a + 184):qG (L.app x (L.of z [p])) (n + 1) a':=by
 have hlen:=h.len
 have hi:(L.app x (L.of z [p])).get n = p:=by rw [← hlen]; exact qH x z p
 have lo:∀ k,k < n→(L.app x (L.of z [p])).get k = x.get k:=fun k hk=>nK _ _ (by omega)
 have hw0:=hp.w0
 have hw1:=hp.w1
 refine ⟨by show x.len + 1 = n + 1; omega,fun k hk=>?_,fun k m hkm hm=>?_,?_⟩
 · by_cases e:k = n
   · subst e; rw [hi]; exact ⟨hp,h1⟩
   · rw [lo k (by omega)]
     have:=h.part k (by omega)
     exact ⟨this.1,by omega⟩
 · by_cases e:m = n
   · subst e
     rw [hi,lo k hkm]
     have:=(h.part k hkm).2
     omega
   · rw [lo k (by omega),lo m (by omega)]
     exact h.ord k m hkm (by omega)
 · have:=h.pos
   refine ⟨by omega,h2,?_⟩
   have:((n + 1:Nat):Int) = n + 1:=by simp
   rw [this]; omega
section
variable (z0 z1 z2 z3 z4 z5 z6 z7 z8 z9 z10 z11 z12 z13 z14:Int) (z15:L PR) (z16:L Int) (z17:L Ch) (z18:L Sl) (m s1 s2 s3 tl c1 c2 c3 c4 c5 c6 c7 pd gd mj:Int) (dv:L Int) (ch:L Ch) (sl:L Sl)
theorem MG (n:Nat) (h1:2≤n) (h2:n≤4) (c:ig) (hc:Cw c) (a0:Int) (ha:0≤a0 ∧ a0≤12 ∧ a0 % 4 = 0) (x0:L PR) (hx0:x0.len = 0):∃ (a:Int) (x:L PR) (c':ig),
 aL qI (((),((n:Int),((),((),(a0,((0:Int),())))))),(c,(((),((),((),((),((),((),((),((),((),((),((),((),((),((),((),((),((),((),((),()))))))))))))))))))),((m,(s1,(s2,(s3,(tl,(c1,(c2,(c3,(c4,(c5,(c6,(c7,(pd,(gd,(mj,(x0,(dv,(ch,(sl,()))))))))))))))))))),())))) = some (.inl (((),((n:Int),((),((),(a,()))))),(c',(((),((),((),((),((),((),((),((),((),((),((),((),((),((),((),((),((),((),((),()))))))))))))))))))),((m,(s1,(s2,(s3,(tl,(c1,(c2,(c3,(c4,(c5,(c6,(c7,(pd,(gd,(mj,((),((),((),((),()))))))))))))))))))),(x,(dv,(ch,(sl,()))))))))) ∧ Cw c' ∧ qG x n a:=by
 obtain ⟨d,e1,a,x,c',rfl,e2,e3⟩:=eH (step:=qI) (fun q=>n - q.1.2.2.2.2.2.1.toNat)
  (fun q=>∃ (i:Nat) (a:Int) (x:L PR) (c:ig),q = (((),((n:Int),((),((),(a,((i:Int),())))))),(c,(((),((),((),((),((),((),((),((),((),((),((),((),((),((),((),((),((),((),((),()))))))))))))))))))),((m,(s1,(s2,(s3,(tl,(c1,(c2,(c3,(c4,(c5,(c6,(c7,(pd,(gd,(mj,(x,(dv,(ch,(sl,()))))))))))))))))))),())))) ∧ i≤n ∧ Cw c ∧ qG x i a)
  (fun _ d=>∃ (a:Int) (x:L PR) (c':ig),d = .inl (((),((n:Int),((),((),(a,()))))),(c',(((),((),((),((),((),((),((),((),((),((),((),((),((),((),((),((),((),((),((),()))))))))))))))))))),((m,(s1,(s2,(s3,(tl,(c1,(c2,(c3,(c4,(c5,(c6,(c7,(pd,(gd,(mj,((),((),((),((),()))))))))))))))))))),(x,(dv,(ch,(sl,())))))))) ∧ Cw c' ∧ qG x n a)
  (by
   rintro _ ⟨i,a,x,c,rfl,hi,hc,hp⟩
   simp only [qI]
   skip
   by_cases hlt:i < n
   · rw [ah (by simpa using hlt),ah (by simp; omega)]
     obtain ⟨po,k1,q1,po1,hk1⟩:=Tz c hc
     obtain ⟨b1,k2,q2,b10,b11,hk2⟩:=below k1 hk1 2 (by omega) (by omega)
     obtain ⟨b2,k3,q3,b20,b21,hk3⟩:=below k2 hk2 4 (by omega) (by omega)
     obtain ⟨b3,k4,q4,b30,b31,hk4⟩:=below k3 hk3 2 (by omega) (by omega)
     obtain ⟨b4,k5,q5,b40,b41,hk5⟩:=below k4 hk4 3 (by omega) (by omega)
     have hpos:=hp.pos
     have hl:=hp.len
     have hil:(12:Int) + 184 * i≤748:=by omega
     simp only [q1,q2,q3,q4,q5,oB]
     have w4:∀ b:Int,0≤b→b≤4→wI (4 * b) = 4 * b:=fun b p q=>aJ (by omega) (by omega)
     rw [w4 b1 b10 (by omega),w4 b2 b20 (by omega),w4 b3 b30 (by omega),w4 b4 b40 (by omega)]
     rw [aJ (n:=a + 4 * b3) (by omega) (by omega),aJ (n:=a + 128) (by omega) (by omega),aJ (n:=a + 128 + 4 * b1) (by omega) (by omega),aJ (n:=32 + 4 * b2) (by omega) (by omega),
      aJ (n:=a + 128 + 4 * b1 + (32 + 4 * b2)) (by omega) (by omega),aJ (n:=a + 128 + 4 * b1 + (32 + 4 * b2) + 4 * b4) (by omega) (by omega),av hlt (by omega)]
     rw [ah (by
      have:most = 4294967296:=by decide
      simp only [decide_eq_true_eq]
      show x.len + 1≤most
      omega)]
     refine .inl ⟨_,rfl,⟨i + 1,_,_,k5,rfl,hlt,hk5,?_⟩,?_,fun d hd=>hd⟩
     · refine hp.add ⟨?_,po1,rfl,⟨rfl,rfl,hpos.1,hpos.2.1⟩,⟨?_,?_,?_,?_,?_,rfl⟩,⟨?_,?_,?_⟩⟩ rfl ?_ ?_ ?_
       · show L.get NM (((i:Nat):Int)).toNat = NM.get i
         rw [tN]
       · show a + 128≤a + 128 + 4 * b1; omega
       · show (a + 128 + 4 * b1) % 4 = 0; omega
       · show 32≤32 + 4 * b2; omega
       · show 32 + 4 * b2≤44; omega
       · show (32 + 4 * b2) % 4 = 0; omega
       · show a≤a + 4 * b3; omega
       · show a + 4 * b3≤a + 4; omega
       · show (a + 4 * b3) % 4 = 0; omega
       · show a + 128 + 4 * b1 + (32 + 4 * b2)≤a + 128 + 4 * b1 + (32 + 4 * b2) + 4 * b4; omega
       · omega
       · omega
     · simp only [tN]; omega
   · have:i = n:=by omega
     subst this
     rw [au (by simp)]
     exact .inr ⟨_,rfl,a,x,c,rfl,hc,hp⟩) (((),((n:Int),((),((),(a0,((0:Int),())))))),(c,(((),((),((),((),((),((),((),((),((),((),((),((),((),((),((),((),((),((),((),()))))))))))))))))))),((m,(s1,(s2,(s3,(tl,(c1,(c2,(c3,(c4,(c5,(c6,(c7,(pd,(gd,(mj,(x0,(dv,(ch,(sl,()))))))))))))))))))),()))))
  ⟨0,a0,x0,c,rfl,Nat.zero_le _,hc,⟨hx0,fun k hk=>absurd hk (Nat.not_lt_zero _),fun k m _ hm=>absurd hm (Nat.not_lt_zero _),ha.1,ha.2.2,by simpa using ha.2.1⟩⟩
 exact ⟨a,x,c',e1,e2,e3⟩
end
theorem zJ {α:Type} {x:L α} {n:Nat} {P:α→Prop} (hl:x.len = n) (h:∀ k,k < n→P (x.get k)) (z v:α) (hv:P v):(L.app x (L.of z [v])).len = n + 1 ∧ ∀ k,k < n + 1→P ((L.app x (L.of z [v])).get k):=by
 refine ⟨by show x.len + 1 = n + 1; omega,fun k hk=>?_⟩
 by_cases e:k = x.len
 · subst e; rw [qH]; exact hv
 · rw [nK _ _ (by omega)]; exact h k (by omega)
theorem jF {n:Nat} (h:n≤100):decide (n≤most) = true:=by
 have:most = 4294967296:=by decide
 simp only [decide_eq_true_eq]; omega
section
variable (z0 z1 z2 z3 z4 z5 z6 z7 z8 z9 z10 z11 z12 z13 z14:Int) (z15:L PR) (z16:L Int) (z17:L Ch) (z18:L Sl) (m s1 s2 s3 tl c1 c2 c3 c4 c5 c6 c7 pd gd mj:Int) (x:L PR)
theorem PO (ch:L Ch) (sl:L Sl) (n:Nat) (h1:2≤n) (h2:n≤4) (c:ig) (hc:Cw c) (d0:L Int) (hd0:d0.len = 0):∃ (dv:L Int) (c':ig),
 aL qJ (((),((n:Int),((),((),((0:Int),()))))),(c,(((),((),((),((),((),((),((),((),((),((),((),((),((),((),((),((),((),((),((),()))))))))))))))))))),((m,(s1,(s2,(s3,(tl,(c1,(c2,(c3,(c4,(c5,(c6,(c7,(pd,(gd,(mj,((),((),((),((),()))))))))))))))))))),(x,(d0,(ch,(sl,())))))))) = some (.inl (((),((n:Int),((),((),())))),(c',(((),((),((),((),((),((),((),((),((),((),((),((),((),((),((),((),((),((),((),()))))))))))))))))))),((m,(s1,(s2,(s3,(tl,(c1,(c2,(c3,(c4,(c5,(c6,(c7,(pd,(gd,(mj,((),((),((),((),()))))))))))))))))))),(x,(dv,(ch,(sl,()))))))))) ∧ Cw c' ∧ dv.len≤3 ∧ ∀ k,k < dv.len→0≤dv.get k ∧ dv.get k < n:=by
 obtain ⟨d,e1,dv,c',rfl,e2,e3⟩:=eH (step:=qJ) (fun q=>5 - q.1.2.2.2.2.1.toNat)
  (fun q=>∃ (i:Nat) (dv:L Int) (c:ig),q = (((),((n:Int),((),((),((i:Int),()))))),(c,(((),((),((),((),((),((),((),((),((),((),((),((),((),((),((),((),((),((),((),()))))))))))))))))))),((m,(s1,(s2,(s3,(tl,(c1,(c2,(c3,(c4,(c5,(c6,(c7,(pd,(gd,(mj,((),((),((),((),()))))))))))))))))))),(x,(dv,(ch,(sl,())))))))) ∧ i≤3 ∧ Cw c ∧ dv.len = i ∧ ∀ k,k < i→0≤dv.get k ∧ dv.get k < n)
  (fun _ d=>∃ (dv:L Int) (c':ig),d = .inl (((),((n:Int),((),((),())))),(c',(((),((),((),((),((),((),((),((),((),((),((),((),((),((),((),((),((),((),((),()))))))))))))))))))),((m,(s1,(s2,(s3,(tl,(c1,(c2,(c3,(c4,(c5,(c6,(c7,(pd,(gd,(mj,((),((),((),((),()))))))))))))))))))),(x,(dv,(ch,(sl,())))))))) ∧ Cw c' ∧ dv.len≤3 ∧ ∀ k,k < dv.len→0≤dv.get k ∧ dv.get k < n)
  (by
   rintro _ ⟨i,dv,c,rfl,hi,hc,hl,hp⟩
   simp only [qJ]
   skip
   obtain ⟨b,k1,q1,b0,b1,hk1⟩:=below c hc 4 (by omega) (by omega)
   simp only [q1,oB]
   by_cases hlt:(i:Int) < b
   · rw [ah (by simpa using hlt)]
     obtain ⟨y,k2,q2,y0,y1,hk2⟩:=below k1 hk1 n (by omega) (by omega)
     simp only [q2,oB]
     rw [ah (by show decide (dv.len + 1≤most) = true; exact jF (by omega)),av (n:=10) (by omega) (by omega)]
     have A:=zJ (P:=fun v:Int=>0≤v ∧ v < n) hl hp (Ty.zero (.int .i64)) y ⟨y0,y1⟩
     exact .inl ⟨_,rfl,⟨i + 1,_,k2,rfl,by omega,hk2,A.1,A.2⟩,by simp only [tN]; omega,fun d hd=>hd⟩
   · rw [au (by simpa using hlt)]
     exact .inr ⟨_,rfl,dv,k1,rfl,hk1,by omega,by rw [hl]; exact hp⟩) (((),((n:Int),((),((),((0:Int),()))))),(c,(((),((),((),((),((),((),((),((),((),((),((),((),((),((),((),((),((),((),((),()))))))))))))))))))),((m,(s1,(s2,(s3,(tl,(c1,(c2,(c3,(c4,(c5,(c6,(c7,(pd,(gd,(mj,((),((),((),((),()))))))))))))))))))),(x,(d0,(ch,(sl,()))))))))
  ⟨0,d0,c,rfl,by omega,hc,hd0,fun k hk=>absurd hk (Nat.not_lt_zero _)⟩
 exact ⟨dv,c',e1,e2,e3⟩
theorem MH (dv:L Int) (sl:L Sl) (n:Nat) (h1:2≤n) (h2:n≤4) (c:ig) (hc:Cw c) (d0:L Ch) (hd0:d0.len = 0):∃ (ch:L Ch) (c':ig),
 aL qK (((),((n:Int),((),((),((0:Int),()))))),(c,(((),((),((),((),((),((),((),((),((),((),((),((),((),((),((),((),((),((),((),()))))))))))))))))))),((m,(s1,(s2,(s3,(tl,(c1,(c2,(c3,(c4,(c5,(c6,(c7,(pd,(gd,(mj,((),((),((),((),()))))))))))))))))))),(x,(dv,(d0,(sl,())))))))) = some (.inl (((),((n:Int),((),((),())))),(c',(((),((),((),((),((),((),((),((),((),((),((),((),((),((),((),((),((),((),((),()))))))))))))))))))),((m,(s1,(s2,(s3,(tl,(c1,(c2,(c3,(c4,(c5,(c6,(c7,(pd,(gd,(mj,((),((),((),((),()))))))))))))))))))),(x,(dv,(ch,(sl,()))))))))) ∧ Cw c' ∧ ch.len≤4 ∧ ∀ k,k < ch.len→f328 (ch.get k) = true ∧ (ch.get k).2.1 < n ∧ (ch.get k).2.2.1 < n:=by
 obtain ⟨d,e1,ch,c',rfl,e2,e3⟩:=eH (step:=qK) (fun q=>6 - q.1.2.2.2.2.1.toNat)
  (fun q=>∃ (i:Nat) (ch:L Ch) (c:ig),q = (((),((n:Int),((),((),((i:Int),()))))),(c,(((),((),((),((),((),((),((),((),((),((),((),((),((),((),((),((),((),((),((),()))))))))))))))))))),((m,(s1,(s2,(s3,(tl,(c1,(c2,(c3,(c4,(c5,(c6,(c7,(pd,(gd,(mj,((),((),((),((),()))))))))))))))))))),(x,(dv,(ch,(sl,())))))))) ∧ i≤4 ∧ Cw c ∧ ch.len = i ∧ ∀ k,k < i→f328 (ch.get k) = true ∧ (ch.get k).2.1 < n ∧ (ch.get k).2.2.1 < n)
  (fun _ d=>∃ (ch:L Ch) (c':ig),d = .inl (((),((n:Int),((),((),())))),(c',(((),((),((),((),((),((),((),((),((),((),((),((),((),((),((),((),((),((),((),()))))))))))))))))))),((m,(s1,(s2,(s3,(tl,(c1,(c2,(c3,(c4,(c5,(c6,(c7,(pd,(gd,(mj,((),((),((),((),()))))))))))))))))))),(x,(dv,(ch,(sl,())))))))) ∧ Cw c' ∧ ch.len≤4 ∧ ∀ k,k < ch.len→f328 (ch.get k) = true ∧ (ch.get k).2.1 < n ∧ (ch.get k).2.2.1 < n)
  (by
   rintro _ ⟨i,ch,c,rfl,hi,hc,hl,hp⟩
   simp only [qK]
   skip
   obtain ⟨b,k1,q1,b0,b1,hk1⟩:=below c hc 5 (by omega) (by omega)
   simp only [q1,oB]
   by_cases hlt:(i:Int) < b
   · rw [ah (by simpa using hlt)]
     obtain ⟨y,k2,q2,y1,hk2⟩:=aau k1 hk1 n (by omega) (by omega)
     simp only [q2,oB]
     rw [ah (by show decide (ch.len + 1≤most) = true; exact jF (by omega)),av (n:=10) (by omega) (by omega)]
     have A:=zJ (P:=fun v:Ch=>f328 v = true ∧ v.2.1 < n ∧ v.2.2.1 < n) hl hp (Ty.zero (.pair (.int .i64) (.pair (.int .i64) (.pair (.int .i64) (.pair (.int .i64) .unit))))) y y1
     exact .inl ⟨_,rfl,⟨i + 1,_,k2,rfl,by omega,hk2,A.1,A.2⟩,by simp only [tN]; omega,fun d hd=>hd⟩
   · rw [au (by simpa using hlt)]
     exact .inr ⟨_,rfl,ch,k1,rfl,hk1,by omega,by rw [hl]; exact hp⟩) (((),((n:Int),((),((),((0:Int),()))))),(c,(((),((),((),((),((),((),((),((),((),((),((),((),((),((),((),((),((),((),((),()))))))))))))))))))),((m,(s1,(s2,(s3,(tl,(c1,(c2,(c3,(c4,(c5,(c6,(c7,(pd,(gd,(mj,((),((),((),((),()))))))))))))))))))),(x,(dv,(d0,(sl,()))))))))
  ⟨0,d0,c,rfl,by omega,hc,hd0,fun k hk=>absurd hk (Nat.not_lt_zero _)⟩
 exact ⟨ch,c',e1,e2,e3⟩
end
structure xk (sl:L Sl) (i:Nat) (n pg st:Int):Prop where
 len:sl.len = i
 row:∀ k,k < i→0≤(sl.get k).1 ∧ (sl.get k).1 < n ∧ pg < (sl.get k).2.2.1 ∧ (sl.get k).2.2.1≤pg + 90 ∧ 0≤(sl.get k).2.1 ∧ (sl.get k).2.1 + (sl.get k).2.2.1≤st
 ord:∀ k m,k < m→m < i→(sl.get k).2.1 + (sl.get k).2.2.1≤(sl.get m).2.1
 low:0≤st
 top:st≤5 + i * 393
theorem xk.add {sl:L Sl} {i:Nat} {n pg st st':Int} (h:xk sl i n pg st) (hpg:0≤pg ∧ pg≤300) {z v:Sl} (h1:0≤v.1 ∧ v.1 < n) (h2:pg < v.2.2.1 ∧ v.2.2.1≤pg + 90) (h3:v.2.1 = st) (h4:v.2.1 + v.2.2.1≤st' ∧ st'≤v.2.1 + v.2.2.1 + 3):xk (L.app sl (L.of z [v])) (i + 1) n pg st':=by
 have hlen:=h.len
 have hlow:=h.low
 have htop:=h.top
 have hi:(L.app sl (L.of z [v])).get i = v:=by rw [← hlen]; exact qH sl z v
 have lo:∀ k,k < i→(L.app sl (L.of z [v])).get k = sl.get k:=fun k hk=>nK _ _ (by omega)
 refine ⟨by show sl.len + 1 = i + 1; omega,fun k hk=>?_,fun k m hkm hm=>?_,by omega,?_⟩
 · by_cases e:k = i
   · subst e; rw [hi]; omega
   · rw [lo k (by omega)]
     have:=h.row k (by omega)
     omega
 · by_cases e:m = i
   · subst e
     rw [hi,lo k hkm]
     have:=h.row k hkm
     omega
   · rw [lo k (by omega),lo m (by omega)]
     exact h.ord k m hkm (by omega)
 · have:((i + 1:Nat):Int) = i + 1:=by simp
   rw [this]; omega
section
variable (z0 z1 z2 z3 z4 z5 z6 z7 z8 z9 z10 z11 z12 z13 z14:Int) (z15:L PR) (z16:L Int) (z17:L Ch) (z18:L Sl) (m s1 s2 s3 tl c1 c2 c3 c4 c5 c6 c7 pd gd mj:Int) (x:L PR)
theorem Jh (dv:L Int) (ch:L Ch) (hpd:0≤pd ∧ pd≤200) (hgd:0≤gd ∧ gd≤99) (n:Nat) (h1:2≤n) (h2:n≤4) (c:ig) (hc:Cw c) (a0:Int) (ha:0≤a0 ∧ a0≤5) (d0:L Sl) (hd0:d0.len = 0):∃ (sl:L Sl) (i:Nat) (st:Int) (c':ig),
 aL qL (((),((n:Int),((),((),(a0,((0:Int),())))))),(c,(((),((),((),((),((),((),((),((),((),((),((),((),((),((),((),((),((),((),((),()))))))))))))))))))),((m,(s1,(s2,(s3,(tl,(c1,(c2,(c3,(c4,(c5,(c6,(c7,(pd,(gd,(mj,((),((),((),((),()))))))))))))))))))),(x,(dv,(ch,(d0,())))))))) = some (.inl (((),((),((),()))),(c',(((),((),((),((),((),((),((),((),((),((),((),((),((),((),((),((),((),((),((),()))))))))))))))))))),((m,(s1,(s2,(s3,(tl,(c1,(c2,(c3,(c4,(c5,(c6,(c7,(pd,(gd,(mj,((),((),((),((),()))))))))))))))))))),(x,(dv,(ch,(sl,()))))))))) ∧ Cw c' ∧ n≤i ∧ i≤6 ∧ xk sl i n (pd + gd) st:=by
 obtain ⟨d,e1,sl,i,st,c',rfl,e2,e3⟩:=eH (step:=qL) (fun q=>8 - q.1.2.2.2.2.2.1.toNat)
  (fun q=>∃ (i:Nat) (st:Int) (sl:L Sl) (c:ig),q = (((),((n:Int),((),((),(st,((i:Int),())))))),(c,(((),((),((),((),((),((),((),((),((),((),((),((),((),((),((),((),((),((),((),()))))))))))))))))))),((m,(s1,(s2,(s3,(tl,(c1,(c2,(c3,(c4,(c5,(c6,(c7,(pd,(gd,(mj,((),((),((),((),()))))))))))))))))))),(x,(dv,(ch,(sl,())))))))) ∧ i≤n + 2 ∧ Cw c ∧ xk sl i n (pd + gd) st)
  (fun _ d=>∃ (sl:L Sl) (i:Nat) (st:Int) (c':ig),d = .inl (((),((),((),()))),(c',(((),((),((),((),((),((),((),((),((),((),((),((),((),((),((),((),((),((),((),()))))))))))))))))))),((m,(s1,(s2,(s3,(tl,(c1,(c2,(c3,(c4,(c5,(c6,(c7,(pd,(gd,(mj,((),((),((),((),()))))))))))))))))))),(x,(dv,(ch,(sl,())))))))) ∧ Cw c' ∧ n≤i ∧ i≤6 ∧ xk sl i n (pd + gd) st)
  (by
   rintro _ ⟨i,st,sl,c,rfl,hi,hc,hp⟩
   simp only [qL]
   skip
   obtain ⟨b,k1,q1,b0,b1,hk1⟩:=below c hc 3 (by omega) (by omega)
   simp only [q1,oB]
   rw [aJ (n:=(n:Int) + b) (by omega) (by omega)]
   by_cases hlt:(i:Int) < n + b
   · rw [ah (by simpa using hlt),ah (by simp; omega)]
     obtain ⟨y,k2,q2,y0,y1,hk2⟩:=below k1 hk1 90 (by omega) (by omega)
     obtain ⟨o,k3,q3,hk3⟩:=once k2 hk2 5 (by omega) (by omega)
     simp only [q2,q3,oB]
     have hlow:=hp.low
     have htop:=hp.top
     have hl:=hp.len
     have hmul:(i:Int) * 393≤2358:=by omega
     rw [aJ (n:=pd + gd) (by omega) (by omega),aJ (n:=pd + gd + 1) (by omega) (by omega),aJ (n:=pd + gd + 1 + y) (by omega) (by omega),aJ (n:=st + (pd + gd + 1 + y)) (by omega) (by omega),av (n:=10) (by omega) (by omega)]
     have hb:decide (sl.len + 1≤most) = true:=jF (by omega)
     cases o with
     | true =>
       obtain ⟨w,k4,q4,w0,w1,hk4⟩:=below k3 hk3 n (by omega) (by omega)
       obtain ⟨v,k5,q5,v0,hk5⟩:=nJ k4 hk4 (Ty.zero (.int .i64)) [0,0,3] (by decide) (by decide)
       have v1:0≤v ∧ v≤3:=by
        simp only [List.mem_cons,List.not_mem_nil,or_false] at v0
        omega
       rw [ah rfl]
       simp only [q4,oB]
       refine .inl ⟨_,(ah (show decide (sl.len + 1≤most) = true from hb)).trans (by simp only [q5,oB]; rfl),⟨i + 1,wI (st + (pd + gd + 1 + y) + v),_,k5,rfl,by omega,hk5,?_⟩,?_,fun d hd=>hd⟩
       · rw [aJ (by omega) (by omega)]
         exact hp.add (by omega) ⟨w0,w1⟩ ⟨by show _ < pd + gd + 1 + y; omega,by show pd + gd + 1 + y≤_; omega⟩ rfl ⟨by show st + (pd + gd + 1 + y)≤_; omega,by show _≤st + (pd + gd + 1 + y) + 3; omega⟩
       · simp only [tN]; omega
     | false =>
       obtain ⟨v,k5,q5,v0,hk5⟩:=nJ k3 hk3 (Ty.zero (.int .i64)) [0,0,3] (by decide) (by decide)
       have v1:0≤v ∧ v≤3:=by
        simp only [List.mem_cons,List.not_mem_nil,or_false] at v0
        omega
       rw [au rfl]
       refine .inl ⟨_,(ah (show decide (sl.len + 1≤most) = true from hb)).trans (by simp only [q5,oB]; rfl),⟨i + 1,wI (st + (pd + gd + 1 + y) + v),_,k5,rfl,by omega,hk5,?_⟩,?_,fun d hd=>hd⟩
       · rw [aJ (by omega) (by omega)]
         refine hp.add (by omega) ⟨?_,?_⟩ ⟨by show _ < pd + gd + 1 + y; omega,by show pd + gd + 1 + y≤_; omega⟩ rfl ⟨by show st + (pd + gd + 1 + y)≤_; omega,by show _≤st + (pd + gd + 1 + y) + 3; omega⟩
         · show 0≤Int.tmod (i:Int) n; exact Int.tmod_nonneg _ (by omega)
         · show Int.tmod (i:Int) n < n; exact Int.tmod_lt_of_pos _ (by omega)
       · simp only [tN]; omega
   · rw [au (by simpa using hlt)]
     exact .inr ⟨_,rfl,sl,i,st,k1,rfl,hk1,by omega,by omega,hp⟩) (((),((n:Int),((),((),(a0,((0:Int),())))))),(c,(((),((),((),((),((),((),((),((),((),((),((),((),((),((),((),((),((),((),((),()))))))))))))))))))),((m,(s1,(s2,(s3,(tl,(c1,(c2,(c3,(c4,(c5,(c6,(c7,(pd,(gd,(mj,((),((),((),((),()))))))))))))))))))),(x,(dv,(ch,(d0,()))))))))
  ⟨0,a0,d0,c,rfl,by omega,hc,⟨hd0,fun k hk=>absurd hk (Nat.not_lt_zero _),fun k m _ hm=>absurd hm (Nat.not_lt_zero _),ha.1,by simpa using ha.2⟩⟩
 exact ⟨sl,i,st,c',e1,e2,e3⟩
end
structure vK (c:Co):Prop where
 b:1≤c.1 ∧ c.1≤2
 mul:0≤c.2.1 ∧ c.2.1≤3
 mem:0≤c.2.2.1 ∧ c.2.2.1≤2
 miss:0≤c.2.2.2.1 ∧ c.2.2.2.1≤5
 walk:0≤c.2.2.2.2.1 ∧ c.2.2.2.2.1≤3
 trap:0≤c.2.2.2.2.2.1 ∧ c.2.2.2.2.2.1≤2
 line:0≤c.2.2.2.2.2.2.1 ∧ c.2.2.2.2.2.2.1≤2
theorem lZ {x y z:Int} (p:y≤x) (q:x≤z):f42 x y z = true:=by
 unfold f42; rw [ah (by simpa using p)]; simpa using q
theorem iK {x y z:Int} (p:y≤x) (q:x≤z):f157 x y z = true:=lZ p q
theorem vK.ok {c:Co} (h:vK c):f249 c = true:=by
 obtain ⟨h1,h2,h3,h4,h5,h6,h7⟩:=h
 unfold f249
 rw [lZ h1.1 (by omega),lZ h2.1 (by omega),lZ h3.1 (by omega),lZ h4.1 (by omega),lZ h5.1 (by omega),lZ h6.1 (by omega),lZ h7.1 (by omega)]
 rfl
theorem vK.ok' {c:Co} (h:vK c):f99 c = true:=by
 obtain ⟨h1,h2,h3,h4,h5,h6,h7⟩:=h
 unfold f99
 rw [iK h1.1 (by omega),iK h2.1 (by omega),iK h3.1 (by omega),iK h4.1 (by omega),iK h5.1 (by omega),iK h6.1 (by omega),iK h7.1 (by omega)]
 rfl
theorem vK.op {c:Co} (h:vK c) (k:Int):1≤f100 c k ∧ f100 c k≤5:=by
 obtain ⟨h1,h2,h3,h4,h5,h6,h7⟩:=h
 unfold f100
 have w1:wI (c.1 + c.2.1) = c.1 + c.2.1:=aJ (by omega) (by omega)
 have w2:wI (c.1 + c.2.2.1) = c.1 + c.2.2.1:=aJ (by omega) (by omega)
 have w3:wI (c.1 + c.2.2.2.2.2.1) = c.1 + c.2.2.2.2.2.1:=aJ (by omega) (by omega)
 rw [w1,w2,w3]
 cases k == 9 <;> cases k == 10 <;> cases f157 k 15 18 <;> cases decide (k ≥ 25) <;> simp only [cond_true,cond_false] <;> omega
theorem MI {c:Co} (h:vK c):∃ n:Int,Mx c = some ((n,()),()) ∧ g22 c = some ((n,()),()) ∧ 1≤n ∧ n≤60:=by
 obtain ⟨n,e1,e2⟩:=worst h.ok
 refine ⟨n,e1,e2,?_⟩
 obtain ⟨d,q1,m,rfl,q2⟩:=eH (step:=xg) (fun a=>33 - a.1.2.2.1.toNat)
  (fun a=>∃ (i:Nat) (m:Int),a = (((),(m,((i:Int),()))),(c,())) ∧ i≤33 ∧ 0≤m ∧ m≤5 ∧ (i = 0 ∨ 1≤m)) (fun _ d=>∃ m:Int,d = .inl (((),(m,())),(c,())) ∧ 1≤m ∧ m≤5)
  (by
   rintro _ ⟨i,m,rfl,hi,m0,m1,m2⟩
   simp only [xg]
   skip
   have ho:=h.op i
   by_cases h1:i < 33
   · rw [ah (by simp; omega),av h1 (by omega)]
     refine .inl ⟨_,rfl,⟨i + 1,_,rfl,h1,?_⟩,by simp only [tN]; omega,fun d hd=>hd⟩
     split <;> omega
   · rw [au (by simp; omega)]
     exact .inr ⟨_,rfl,m,rfl,by omega,m1⟩) (((),((0:Int),((0:Int),()))),(c,())) ⟨0,0,rfl,by omega,by omega,by omega,.inl rfl⟩
 unfold g22 at e2
 rw [h.ok',q1] at e2
 simp only [Bool.not_true,cond_false,oB,Option.some.injEq,Prod.mk.injEq,and_true] at e2
 obtain ⟨h1,h2,h3,h4,h5,h6,h7⟩:=h
 have w:f101 c (false,(false,(true,()))) = c.2.2.2.1 + c.2.2.2.2.1 + c.2.2.2.2.2.2.1:=by
  show wI (wI (wI (0 + c.2.2.2.1) + c.2.2.2.2.1) + c.2.2.2.2.2.2.1) = _
  rw [aJ (n:=0 + c.2.2.2.1) (by omega) (by omega),aJ (n:=0 + c.2.2.2.1 + c.2.2.2.2.1) (by omega) (by omega),aJ (by omega) (by omega)]; omega
 rw [w,aJ (n:=2 * _) (by omega) (by omega),aJ (n:=m + _) (by omega) (by omega),aJ (by omega) (by omega)] at e2
 omega
theorem ahy {c:Co} (h:vK c) (s:Int×(Int×(Int×Unit))) (hs:f237 s = true) (h1:s.1 = 1 ∨ s.1 = 2 ∨ s.1 = 4) (h2:s.2.1 = 1 ∨ s.2.1 = 2) (x:L Ch) (hx:x.len≤4) (hok:∀ j,j < x.len→f328 (x.get j) = true) :
 ∃ n:Int,EH c s x = some ((n,()),()) ∧ BP c s x = some ((n,()),()) ∧ 1≤n ∧ n≤190:=by
 have hc:=h.ok
 have c1:1≤c.1 ∧ c.1≤20:=by have:=h.b; omega
 obtain ⟨m,e1,e2⟩:=good x (by omega) c c1 (wI ((wI (16 * c.1)) + (wI ((wI (s.1 * s.2.1)) * c.2.2.2.2.2.2.1)))) hok
 refine ⟨m,?_,?_,?_⟩
 · unfold EH
   rw [hc,hs]
   simp only [Bool.not_true,cond_false]
   rw [au (by simp; omega),e1]; rfl
 · unfold BP
   rw [e2]; rfl
 · have hb:=h.b
   have hl:=h.line
   have hn:16≤(wI ((wI (16 * c.1)) + (wI ((wI (s.1 * s.2.1)) * c.2.2.2.2.2.2.1)))) ∧ (wI ((wI (16 * c.1)) + (wI ((wI (s.1 * s.2.1)) * c.2.2.2.2.2.2.1))))≤48:=by
    rw [aJ (n:=16 * c.1) (by omega) (by omega)]
    have key:∀ k:Int,0≤k→k≤8→16≤wI (16 * c.1 + wI (wI k * c.2.2.2.2.2.2.1)) ∧ wI (16 * c.1 + wI (wI k * c.2.2.2.2.2.2.1))≤48:=by
     intro k k0 k1
     rw [aJ (n:=k) (by omega) (by omega)]
     have l3:c.2.2.2.2.2.2.1 = 0 ∨ c.2.2.2.2.2.2.1 = 1 ∨ c.2.2.2.2.2.2.1 = 2:=by omega
     rcases l3 with l | l | l <;> rw [l]
     · rw [aJ (n:=k * 0) (by omega) (by omega),aJ (by omega) (by omega)]; omega
     · rw [aJ (n:=k * 1) (by omega) (by omega),aJ (by omega) (by omega)]; omega
     · rw [aJ (n:=k * 2) (by omega) (by omega),aJ (by omega) (by omega)]; omega
    rcases h1 with a | a | a <;> rcases h2 with b | b <;> rw [a,b] <;> exact key _ (by decide) (by decide)
   generalize (wI ((wI (16 * c.1)) + (wI ((wI (s.1 * s.2.1)) * c.2.2.2.2.2.2.1)))) = n0 at hn e2
   obtain ⟨d,q1,m',rfl,q2⟩:=eH (step:=mW) (fun a=>x.len - a.1.2.2.2.2.1.toNat)
    (fun a=>∃ (i:Nat) (n:Int),a = (((),(n,(x,((x.len:Int),((i:Int),()))))),(c,())) ∧ i≤x.len ∧ 16≤n ∧ n≤48 + 16 * i) (fun _ d=>∃ m:Int,d = .inl ((m,()),()) ∧ 16≤m ∧ m≤48 + 16 * x.len)
    (by
     rintro _ ⟨i,n,rfl,hi,n0,n1⟩
     simp only [mW]
     skip
     by_cases h1:i < x.len
     · rw [ah (aM h1),ah (aj h1),av h1 (by omega),tN]
       have hd:1≤f311 (x.get i) ∧ f311 (x.get i)≤8:=by
        have:=eU (hok i h1)
        unfold f311
        split <;> omega
       have hm:0≤c.1 * f311 (x.get i) ∧ c.1 * f311 (x.get i)≤16:=by
        have:c.1 = 1 ∨ c.1 = 2:=by omega
        rcases this with e | e <;> rw [e] <;> omega
       rw [aJ (n:=c.1 * _) (by omega) (by omega),aJ (n:=n + _) (by omega) (by omega)]
       exact .inl ⟨_,rfl,⟨i + 1,_,rfl,h1,by omega,by omega⟩,by simp only [tN]; omega,fun d hd=>hd⟩
     · have:i = x.len:=by omega
       subst this
       rw [au (by simp)]
       exact .inr ⟨_,rfl,n,rfl,n0,n1⟩) (((),(n0,(x,((x.len:Int),((0:Int),()))))),(c,())) ⟨0,n0,rfl,Nat.zero_le _,hn.1,by omega⟩
   rw [e2] at q1
   simp only [Option.some.injEq,Sum.inl.injEq,Prod.mk.injEq,and_true] at q1
   omega
theorem TD (t:Tb) (hf:Facts t) (h4:Int.tmod t.1 4 = 0) (htl:1≤t.2.2.1 ∧ t.2.2.1≤8) (hs:∀ i,i < (tParts t).len→((tParts t).get i).1.size≤2 ^ 47) (hg:∃ n:Int,g22 t.2.2.2.1 = some ((n,()),()) ∧ n≤t.2.2.2.2.2.1) :
 tV t = some ((true,()),()):=by
 obtain ⟨hc,p1,p2,p3,hsh,hm,hpl,hP,d1,d2,d3,d4,⟨d5,d6⟩,d7,n7,_,q7,l7⟩:=hf
 obtain ⟨n,ahz,hn⟩:=hg
 have ahA:Mq t = some ((true,()),()):=by
  obtain ⟨b,e1,e2⟩:=GV t (by omega) hs (fun i hi=>by have:=(hP.1 i hi).1.2.2.1; omega)
  rw [e1,e2.mpr hP]
 have eD:jD (tDevs t) (((tParts t).len:Int),()) = some ((false,()),()):=by
  rcases devs t d1 with ⟨⟨i,hi,k⟩,_⟩ | ⟨_,_,k⟩
  · rw [d3 i hi] at k; cases k
  · exact k
 have eC:iD (tChans t) (((tParts t).len:Int),()) = some ((false,()),()):=by
  have h2:=lQ (step:=dJ) (x:=tChans t) (c:=(((tParts t).len:Int),())) (fun i=>f208 ((tChans t).get i) (tParts t).len) (fun i hi=>by
   simp only [dJ]
   refine (ah (aM hi)).trans ((ah (aj hi)).trans ?_)
   rw [av hi (by omega),tN]
   by_cases hq:f208 ((tChans t).get i) (tParts t).len = true
   · rw [if_pos hq]; exact ah hq
   · rw [if_neg hq]; exact au (by simpa using hq)) (by
   simp only [dJ]
   exact au (aK (tChans t).len))
  rcases h2 with ⟨i,hi,k,_⟩ | ⟨_,k⟩
  · rw [(vG _ _).mpr (d4 i hi)] at k; cases k
  · unfold iD vH
    rw [k]; rfl
 have eS:Ga t = some ((true,()),()):=by
  let E:Nat→Int:=fun i=>match i with
   | 0=>0
   | i + 1=>((tSlots t).get i).2.1 + ((tSlots t).get i).2.2.1
  have hE:∀ i,i < (tSlots t).len→E i≤((tSlots t).get i).2.1:=by
   intro i hi
   cases i with
   | zero=>exact (d5 0 hi).2.2.1
   | succ i=>exact d6 i (i + 1) (by omega) hi
  have h2:=scan (step:=jB) (fun i=>(((),(E i,(tSlots t,(((tSlots t).len:Int),((i:Int),()))))),(t,()))) (tSlots t).len (fun _=>true) (fun _=>.inl ((false,()),())) (.inr (.inl (((),()),(t,()))))
   (fun i hi _=>by
    obtain ⟨r1,r2,r3,r4⟩:=d5 i hi
    simp only [jB]
    have r1':(!f157 ((tSlots t).get ((i:Int)).toNat).1 0 (wI (((t.2.2.2.2.2.2.2.1).len:Int) - 1))) = false:=by rw [tN]; exact (congrArg _ r1).trans rfl
    have r2':(!f312 t ((tSlots t).get ((i:Int)).toNat) (E i)) = false:=by
     rw [tN,(GN t _ _ p1 p2 p3).mpr ⟨by omega,by omega,hE i hi,by omega⟩]; rfl
    refine (ah (aM hi)).trans ((ah (aj hi)).trans ((au r1').trans ((au r2').trans ?_)))
    rw [av hi (by omega),tN,aJ (by omega) (by omega)])
   (fun i hi ho=>by cases ho)
   (by
    simp only [jB]
    exact au (aK (tSlots t).len))
  rcases h2 with ⟨i,_,k,_⟩ | ⟨_,k⟩
  · cases k
  · unfold Ga
    have k':aL jB (((),((0:Int),(t.2.2.2.2.2.2.2.2.2.2.1,((t.2.2.2.2.2.2.2.2.2.2.1.len:Int),((0:Int),()))))),(t,())) = some (.inr (.inl (((),()),(t,())))):=k
    rw [k']
    have:f157 ((t.2.2.2.2.2.2.2.2.2.2.1.len:Int)) 1 16 = true:=iK (by show (1:Int)≤(tSlots t).len; omega) (by show ((tSlots t).len:Int)≤16; omega)
    simp only [oB]
    rw [this]
 unfold tV
 have e117:f200 t.1 = true:=by
  unfold f200
  rw [ah (iK hm.1 hm.2),h4]; rfl
 have ahB:OH t.2.2.2.1 = some ((n,()),()):=by unfold OH; rw [ahz]; rfl
 have e120:∀ x:Int,1≤x ∧ x≤5000→f202 x = true:=fun x hx=>iK hx.1 hx.2
 rw [e117,Bp,hsh,iK htl.1 htl.2,EJ,hc,e120 _ p1,e120 _ p2,e120 _ p3,ahB]
 simp only [Bool.not_true,cond_false,oB]
 have l8:f157 ((t.2.2.2.2.2.2.2.1.len:Int)) 1 6 = true:=iK (by show (1:Int)≤(tParts t).len; omega) (by show ((tParts t).len:Int)≤6; omega)
 have eD':jD t.2.2.2.2.2.2.2.2.1 ((t.2.2.2.2.2.2.2.1.len:Int),()) = some ((false,()),()):=eD
 have eC':iD t.2.2.2.2.2.2.2.2.2.1 ((t.2.2.2.2.2.2.2.1.len:Int),()) = some ((false,()),()):=eC
 have q7':BP t.2.2.2.1 t.2.1 t.2.2.2.2.2.2.2.2.2.1 = some ((n7,()),()):=q7
 have c1:decide ((t.2.2.2.2.2.2.2.2.1.len:Int) > 8) = false:=by
  have:¬ ((t.2.2.2.2.2.2.2.2.1.len:Int) > 8):=by show ¬ (((tDevs t).len:Int) > 8); omega
  simpa using this
 have c2:decide ((t.2.2.2.2.2.2.2.2.2.1.len:Int) > 8) = false:=by
  have:¬ ((t.2.2.2.2.2.2.2.2.2.1.len:Int) > 8):=by show ¬ (((tChans t).len:Int) > 8); omega
  simpa using this
 rw [au (by simp; omega),l8,ahA]
 simp only [Bool.not_true,cond_false,oB]
 rw [c1,eD']
 simp only [cond_false,oB]
 rw [c2,eC']
 simp only [cond_false,oB]
 rw [q7']
 simp only [oB]
 rw [au (by simp; omega),eS]
 rfl
theorem Dw {a:Int} (h:0≤a) (h4:a % 4 = 0):Int.tmod a 4 = 0:=by rw [Int.tmod_eq_emod_of_nonneg h]; exact h4
theorem TF {x:L PR} {n:Nat} {a:Int} (h:qG x n a) (hn:n≤4):Parts x (a + 64):=by
 have hpos:=h.pos
 have hl:=h.len
 have g:∀ i,i < n→f326 ((x.get i).2.2.2.1.get 0) = true ∧ f326 ((x.get i).2.2.2.1.get 1) = true:=by
  intro i hi
  obtain ⟨hp,he⟩:=h.part i hi
  have w0:=hp.w0
  have w1:=hp.w1
  refine ⟨(dK _).mpr ⟨by omega,by omega,Dw (by omega) (by omega),Dw (by omega) (by omega),by omega,by omega⟩,(dK _).mpr ⟨by omega,by omega,Dw (by omega) (by omega),Dw (by omega) (by omega),by omega,by omega⟩⟩
 refine ⟨fun i hi=>?_,?_⟩
 · obtain ⟨hp,he⟩:=h.part i (by omega)
   have w0:=hp.w0
   have w1:=hp.w1
   have we:=hp.ent
   have hw:=g i (by omega)
   refine ⟨⟨by rw [hp.name]; exact ahx i (by omega),hp.pol,by rw [hp.len]; omega,fun j hj=>?_,⟨0,by rw [hp.len]; omega,(lY _ _ hw.1).mpr (by omega),?_⟩,Dw (by omega) (by omega)⟩,fun q hq=>?_⟩
   · rw [hp.len] at hj
     have:j = 0 ∨ j = 1:=by omega
     rcases this with rfl | rfl
     · exact ⟨hw.1,by omega⟩
     · exact ⟨hw.2,by omega⟩
   · rw [w0.2.1]; decide
   · rw [(h.part q (by omega)).1.name,hp.name]
     exact TB q i hq (by omega)
 · have key:∀ k,k≤n→(bg x k).Pairwise apart ∧ ∀ v,v ∈ bg x k→∃ i,i < k ∧ v.1 + v.2.1≤((x.get i).2.2.2.1.get 1).1 + ((x.get i).2.2.2.1.get 1).2.1:=by
    intro k
    induction k with
    | zero=>intro _; exact ⟨by simp [bg],fun v hv=>by simp [bg] at hv⟩
    | succ k ih =>
      intro hk
      obtain ⟨i1,i2⟩:=ih (by omega)
      obtain ⟨hp,he⟩:=h.part k (by omega)
      have w0:=hp.w0
      have w1:=hp.w1
      have ht:toL (x.get k).2.2.2.1 = [(x.get k).2.2.2.1.get 0,(x.get k).2.2.2.1.get 1]:=by
       unfold toL
       rw [hp.len]; rfl
      rw [kS x (by omega),ht]
      refine ⟨List.pairwise_append.mpr ⟨i1,?_,fun v hv w hw=>?_⟩,fun v hv=>?_⟩
      · refine List.pairwise_cons.mpr ⟨fun w hw=>?_,List.pairwise_singleton _ _⟩
        simp only [List.mem_cons,List.not_mem_nil,or_false] at hw
        subst hw
        exact .inl (by omega)
      · obtain ⟨i,hi,hle⟩:=i2 v hv
        have ho:=h.ord i k hi (by omega)
        simp only [List.mem_cons,List.not_mem_nil,or_false] at hw
        rcases hw with rfl | rfl
        · exact .inl (by omega)
        · exact .inl (by omega)
      · rcases List.mem_append.mp hv with hv | hv
        · obtain ⟨i,hi,hle⟩:=i2 v hv
          exact ⟨i,by omega,hle⟩
        · refine ⟨k,by omega,?_⟩
          simp only [List.mem_cons,List.not_mem_nil,or_false] at hv
          rcases hv with rfl | rfl <;> omega
   rw [hl]
   exact (key n (Nat.le_refl _)).1
theorem in3 {x a b c:Int} (h:x ∈ [a,b,c]):x = a ∨ x = b ∨ x = c:=by simpa using h
theorem in4 {x a b c d:Int} (h:x ∈ [a,b,c,d]):x = a ∨ x = b ∨ x = c ∨ x = d:=by simpa using h
set_option maxHeartbeats 1600000 in
theorem TH (c:ig) (hc:Cw c) (n:Nat) (h1:2≤n) (h2:n≤4):∃ (t:Tb) (c':ig),KU c n = some ((t,()),(c',())) ∧ Cw c' ∧ tV t = some ((true,()),()) ∧ Facts t ∧ t.2.2.2.2.2.2.1≤3000 ∧ ∃ a,qG (tParts t) n a:=by
 obtain ⟨s1,k1,q1,m1,hk1⟩:=nJ c hc (Ty.zero (.int .i64)) [1,2,4] (by decide) (by decide)
 obtain ⟨s2,k2,q2,a2,b2,hk2⟩:=below k1 hk1 2 (by omega) (by omega)
 obtain ⟨s3,k3,q3,m3,hk3⟩:=nJ k2 hk2 (Ty.zero (.int .i64)) [4,8,16] (by decide) (by decide)
 obtain ⟨tl,k4,q4,a4,b4,hk4⟩:=below k3 hk3 4 (by omega) (by omega)
 obtain ⟨o1,k5,q5,a5,b5,hk5⟩:=below k4 hk4 2 (by omega) (by omega)
 obtain ⟨o2,k6,q6,a6,b6,hk6⟩:=below k5 hk5 4 (by omega) (by omega)
 obtain ⟨o3,k7,q7,a7,b7,hk7⟩:=below k6 hk6 3 (by omega) (by omega)
 obtain ⟨o4,k8,q8,a8,b8,hk8⟩:=below k7 hk7 6 (by omega) (by omega)
 obtain ⟨o5,k9,q9r,a9,b9,hk9⟩:=below k8 hk8 4 (by omega) (by omega)
 obtain ⟨o6,k10,q10,a10,b10,hk10⟩:=below k9 hk9 3 (by omega) (by omega)
 obtain ⟨o7,k11,q11,a11,b11,ahC⟩:=below k10 hk10 3 (by omega) (by omega)
 obtain ⟨w,k12,ahD,a12,b12,ahE⟩:=below k11 ahC 4 (by omega) (by omega)
 unfold KU
 simp only [q1,q2,q3,q4,q5,q6,q7,q8,q9r,Du,q10,q11,ahD,wZ,oB]
 have e2:wI (1 + s2) = 1 + s2:=aJ (by omega) (by omega)
 have e4:wI (1 + tl) = 1 + tl:=aJ (by omega) (by omega)
 have e5:wI (1 + o1) = 1 + o1:=aJ (by omega) (by omega)
 have e12:wI (4 * w) = 4 * w:=aJ (by omega) (by omega)
 rw [e2,e4,e5,e12]
 have m1:=in3 m1
 have m3:=in3 m3
 obtain ⟨a,x,c1,p1,hc1,hx⟩:=MG 0 s1 (1 + s2) s3 (1 + tl) (1 + o1) o2 o3 o4 o5 o6 o7 0 0 0 (bG (.int .i64)) (bG (.pair (.int .i64) (.pair (.int .i64) (.pair (.int .i64) (.pair (.int .i64) .unit))))) (bG (.pair (.int .i64) (.pair (.int .i64) (.pair (.int .i64) .unit)))) n h1 h2 k12 ahE (4 * w) ⟨by omega,by omega,by omega⟩ (bG (.pair .str (.pair (.int .i64) (.pair (.pair (.int .i64) (.pair (.int .i64) .unit)) (.pair (.sl (.pair (.int .i64) (.pair (.int .i64) (.pair (.int .i64) .unit)))) .unit))))) rfl
 rw [p1]
 simp only [oB]
 have hpos:=hx.pos
 have ea:wI (a + 64) = a + 64:=aJ (by omega) (by omega)
 rw [ea]
 obtain ⟨dv,c2,p2,hc2,hdl,hdv⟩:=PO (a + 64) s1 (1 + s2) s3 (1 + tl) (1 + o1) o2 o3 o4 o5 o6 o7 0 0 0 x _ _ n h1 h2 c1 hc1 (bG (.int .i64)) rfl
 rw [p2]
 simp only [oB]
 obtain ⟨ch,c3,p3,hc3,hcl,hch⟩:=MH (a + 64) s1 (1 + s2) s3 (1 + tl) (1 + o1) o2 o3 o4 o5 o6 o7 0 0 0 x dv _ n h1 h2 c2 hc2 (bG (.pair (.int .i64) (.pair (.int .i64) (.pair (.int .i64) (.pair (.int .i64) .unit))))) rfl
 rw [p3]
 simp only [oB]
 have PU:vK (1 + o1,(o2,(o3,(o4,(o5,(o6,(o7,()))))))):=⟨by show 1≤1 + o1 ∧ 1 + o1≤2; omega,by show 0≤o2 ∧ o2≤3; omega,by show 0≤o3 ∧ o3≤2; omega,by show 0≤o4 ∧ o4≤5; omega,by show 0≤o5 ∧ o5≤3; omega,by show 0≤o6 ∧ o6≤2; omega,by show 0≤o7 ∧ o7≤2; omega⟩
 have hs2:1 + s2 = 1 ∨ 1 + s2 = 2:=by omega
 have hsh:f237 (s1,(1 + s2,(s3,()))) = true:=by
  have l2:=lZ (x:=1 + s2) (y:=1) (z:=4) (by omega) (by omega)
  rcases m1 with rfl | rfl | rfl <;> rcases m3 with rfl | rfl | rfl <;> rcases hs2 with e | e <;> rw [e] <;> decide +kernel
 obtain ⟨gn,g1,g2,g3,g4⟩:=MI PU
 obtain ⟨pn,r1,r2,r3,r4⟩:=ahy PU (s1,(1 + s2,(s3,()))) hsh m1 hs2 ch hcl (fun j hj=>(hch j hj).1)
 rw [g1]
 simp only [oB]
 obtain ⟨v1,c4,p4,mv1,hc4⟩:=nJ c3 hc3 (Ty.zero (.int .i64)) [0,0,1,5] (by decide) (by decide)
 rw [p4]
 simp only [oB]
 rw [r1]
 simp only [oB]
 obtain ⟨v2,c5,p5,mv2,hc5⟩:=nJ c4 hc4 (Ty.zero (.int .i64)) [0,0,1,7] (by decide) (by decide)
 rw [p5]
 simp only [oB]
 obtain ⟨v3,c6,p6,mv3,hc6⟩:=nJ c5 hc5 (Ty.zero (.int .i64)) [0,0,5] (by decide) (by decide)
 rw [p6]
 simp only [oB]
 have mv1:=in4 mv1
 have mv2:=in4 mv2
 have mv3:=in3 mv3
 have eg:wI (gn + v1) = gn + v1:=aJ (by omega) (by omega)
 have ep:wI (pn + v2) = pn + v2:=aJ (by omega) (by omega)
 rw [eg,ep]
 obtain ⟨sl,i,st,c7,p7,hc7,hni,hi6,hsl⟩:=Jh (a + 64) s1 (1 + s2) s3 (1 + tl) (1 + o1) o2 o3 o4 o5 o6 o7 (pn + v2) (gn + v1) 0 x dv ch ⟨by omega,by omega⟩ ⟨by omega,by omega⟩ n h1 h2 c6 hc6 v3 ⟨by omega,by omega⟩ (bG (.pair (.int .i64) (.pair (.int .i64) (.pair (.int .i64) .unit)))) rfl
 rw [p7]
 simp only [oB]
 have hll:=hsl.len
 have htop:=hsl.top
 have elast:wI ((sl.len:Int) - 1) = ((sl.len - 1:Nat):Int):=by rw [aJ (by omega) (by omega)]; omega
 rw [elast,ah (by simp; omega),tN]
 obtain ⟨v4,c8,p8,mv4,hc8⟩:=nJ c7 hc7 (Ty.zero (.int .i64)) [0,0,1,20] (by decide) (by decide)
 rw [p8]
 simp only [oB]
 have mv4:=in4 mv4
 have hlr:=hsl.row (sl.len - 1) (by omega)
 have el1:wI ((sl.get (sl.len - 1)).2.1 + (sl.get (sl.len - 1)).2.2.1) = (sl.get (sl.len - 1)).2.1 + (sl.get (sl.len - 1)).2.2.1:=aJ (by omega) (by omega)
 rw [el1]
 have el2:wI ((sl.get (sl.len - 1)).2.1 + (sl.get (sl.len - 1)).2.2.1 + v4) = (sl.get (sl.len - 1)).2.1 + (sl.get (sl.len - 1)).2.2.1 + v4:=aJ (by omega) (by omega)
 rw [el2]
 generalize ajK:(sl.get (sl.len - 1)).2.1 + (sl.get (sl.len - 1)).2.2.1 + v4 = mj
 refine ⟨_,c8,rfl,hc8,?_⟩
 have hxl:=hx.len
 have hF:Facts (a + 64,((s1,(1 + s2,(s3,()))),(1 + tl,((1 + o1,(o2,(o3,(o4,(o5,(o6,(o7,()))))))),(pn + v2,(gn + v1,(mj,(x,(dv,(ch,(sl,()))))))))))):=by
  refine ⟨PU.ok,⟨by show 1≤pn + v2; omega,by show pn + v2≤5000; omega⟩,⟨by show 1≤gn + v1; omega,by show gn + v1≤5000; omega⟩,⟨by show 1≤mj; omega,by show mj≤5000; omega⟩,hsh,⟨by show 64≤a + 64; omega,by show a + 64≤2048; omega⟩,⟨by show 1≤x.len; omega,by show x.len≤6; omega⟩,TF hx h2,?_⟩
  have ew:wI ((x.len:Int) - 1) = (x.len:Int) - 1:=aJ (by omega) (by omega)
  refine ⟨by show dv.len≤8; omega,by show ch.len≤8; omega,fun j hj=>?_,fun j hj=>?_,⟨fun k hk=>?_,fun k m hkm hm=>hsl.ord k m hkm (by rw [← hll]; exact hm)⟩,⟨by show 1≤sl.len; omega,by show sl.len≤16; omega⟩,pn,r1,r2,by show pn + v2 ≥ pn; omega⟩
  · show f42 (dv.get j) 0 (wI ((x.len:Int) - 1)) = true
    have:=hdv j hj
    rw [ew]
    exact lZ (by omega) (by omega)
  · have:=hch j hj
    exact ⟨this.1,by show _ < (x.len:Int); rw [hxl]; exact this.2.1,by show _ < (x.len:Int); rw [hxl]; exact this.2.2⟩
  · have hk:k < sl.len:=hk
    have hr:=hsl.row k (by omega)
    refine ⟨?_,hr.2.2.1,hr.2.2.2.2.1,?_⟩
    · show f42 (sl.get k).1 0 (wI ((x.len:Int) - 1)) = true
      rw [ew]
      exact lZ hr.1 (by omega)
    · show (sl.get k).2.1 + (sl.get k).2.2.1≤mj
      by_cases e:k = sl.len - 1
      · subst e; omega
      · have:=hsl.ord k (sl.len - 1) (by omega) (by omega)
        omega
 refine ⟨TD _ hF (Dw (by show 0≤a + 64; omega) (by show (a + 64) % 4 = 0; omega)) ⟨by show 1≤1 + tl; omega,by show 1 + tl≤8; omega⟩ (fun k hk=>?_) ⟨gn,g2,by show gn≤gn + v1; omega⟩,hF,by show mj≤3000; omega,a,hx⟩
 have hk:k < x.len:=hk
 show (x.get k).1.size≤2 ^ 47
 rw [(hx.part k (by omega)).1.name]
 have:k = 0 ∨ k = 1 ∨ k = 2 ∨ k = 3:=by omega
 rcases this with rfl | rfl | rfl | rfl <;> decide
abbrev Im:Type:=L (L Int)
abbrev Wy:Type:=Int×(Bool×Unit)
abbrev Sh:Type:=Int×(Int×(Int×Unit))
abbrev Ca:Type:=Sh×((L (L Wy))×Unit)
abbrev Gu:Type:=(L Int)×(Int×(Im×Unit))
abbrev Vi:Type:=Bool×(Int×(Int×(Int×(Int×(Bool×(Bool×(Int×Unit)))))))
abbrev He:Type:=Int×(Int×(Int×(Bool×Unit)))
abbrev Tl:Type:=Int×((L Int)×Unit)
abbrev Oe:Type:=Int×((L Int)×Unit)
abbrev Ie:Type:=(L Int)×Unit
abbrev De:Type:=(L Int)×((L Int)×Unit)
abbrev St:Type:=Gu×(Vi×(He×(Ca×(Tl×(Int×(Bool×(Im×((L Oe)×((L Ie)×((L De)×Unit))))))))))
def bn (s:St):L Oe:=s.2.2.2.2.2.2.2.2.1
def bW (s:St):L Ie:=s.2.2.2.2.2.2.2.2.2.1
def bq (s:St):L De:=s.2.2.2.2.2.2.2.2.2.2.1
def qM (s:St):Im:=s.2.2.2.2.2.2.2.1
def PW (x:Im) (m:Nat):Prop:=x.len≤m ∧ ∀ i,i < x.len→(x.get i).len≤m
def MJ (s:St) (m:Nat):Prop :=
 s.1.1.len≤m ∧ PW s.1.2.2.1 m ∧ (s.2.2.2.1.2.1.len≤m ∧ ∀ i,i < s.2.2.2.1.2.1.len→(s.2.2.2.1.2.1.get i).len≤m) ∧ s.2.2.2.2.1.2.1.len≤m ∧ PW (qM s) m ∧
 ((bn s).len≤m ∧ ∀ i,i < (bn s).len→((bn s).get i).2.1.len≤m) ∧ ((bW s).len≤m ∧ ∀ i,i < (bW s).len→((bW s).get i).1.len≤m) ∧
 ((bq s).len≤m ∧ ∀ i,i < (bq s).len→((bq s).get i).1.len≤m ∧ ((bq s).get i).2.1.len≤m)
theorem Xe (c:ig) (h:Cw c) (n:Int) (h1:257≤n) (h2:n≤2147483648):∃ (x:Int) (c':ig),bB c n = some ((x,()),(c',())) ∧ 0≤x ∧ x < n ∧ Cw c':=by
 obtain ⟨x1,d1,e1,a1,b1,k1⟩:=byte c h
 obtain ⟨x2,d2,e2,a2,b2,k2⟩:=byte d1 k1
 obtain ⟨x3,d3,e3,a3,b3,k3⟩:=byte d2 k2
 obtain ⟨x4,d4,e4,a4,b4,k4⟩:=byte d3 k3
 unfold bB
 rw [au (by simp; omega),au (by simp; omega)]
 simp only [e1,e2,e3,e4,oB]
 rw [ah (by simp; omega),aJ (n:=x1 * 16777216) (by omega) (by omega),aJ (n:=x2 * 65536) (by omega) (by omega),aJ (n:=x1 * 16777216 + x2 * 65536) (by omega) (by omega)]
 refine ⟨_,_,rfl,?_,Int.tmod_lt_of_pos _ (by omega),k4⟩
 apply Int.tmod_nonneg
 rw [aJ (n:=x3 * 256) (by omega) (by omega),aJ (n:=x1 * 16777216 + x2 * 65536 + x3 * 256) (by omega) (by omega),aJ (by omega) (by omega)]
 omega
def jX (wy:Int) (row:L Wy):Prop:=(row.len:Int)≤wy ∧ (∀ i,i < row.len→0≤(row.get i).1 ∧ (row.get i).1≤65535) ∧ ∀ i k,i < k→k < row.len→(row.get i).1 ≠ (row.get k).1
def Ji (c:Ca):Prop:=f237 c.1 = true ∧ (c.2.1.len:Int) = c.1.1 ∧ ∀ r,r < c.2.1.len→jX c.1.2.1 (c.2.1.get r)
theorem xq {s:Sh} (h:f237 s = true):(1≤s.1 ∧ s.1≤16) ∧ (1≤s.2.1 ∧ s.2.1≤4) ∧ 4≤s.2.2.1 ∧ s.2.2.1≤32:=by
 rw [KQ] at h
 simp only [Bool.and_eq_true,Bool.or_eq_true,beq_iff_eq] at h
 have:=(aZ _ _ _).mp h.2.1
 omega
theorem Xf (row:L Wy) (wy t:Int) (hr:jX wy row) (hwy:wy≤4):∀ {t2 t10 nE fH ug b3 va vb vc vd:_} (d0:Bool),∃ (k:L Wy) (b d:Bool),
 aL nY ((t2,((),((),(t10,(t,((),(nE,(fH,(ug,(row,((),((),((0:Int),()))))))))))))),(b3,(((),((),((),((),())))),((va,(vb,(vc,((),())))),((t,(d0,())),((L.of (Ty.zero (.pair (.int .i64) (.pair .bool .unit))) []),(vd,()))))))) = some (.inl ((t2,((),((),(t10,(t,((),(b,(fH,(ug,((),((),()))))))))))),(b3,(((),((),((),((),())))),((va,(vb,(vc,((),())))),((t,(d,())),(k,(vd,())))))))) ∧ jX wy k ∧ ∀ i,i < k.len→(k.get i).1 ≠ t:=by
 intro t2 t10 nE fH ug b3 va vb vc vd d0
 obtain ⟨h1,h2,h3⟩:=hr
 obtain ⟨d,e1,k,b,d',rfl,e2⟩:=qx (step:=nY) row.len (fun i x=>∃ (k:L Wy) (b d:Bool),x = ((t2,((),((),(t10,(t,((),(b,(fH,(ug,(row,((),((),((i:Int),()))))))))))))),(b3,(((),((),((),((),())))),((va,(vb,(vc,((),())))),((t,(d,())),(k,(vd,()))))))) ∧ k.len≤i ∧ (∀ m,m < k.len→∃ j,j < i ∧ k.get m = row.get j ∧ (row.get j).1 ≠ t) ∧ ∀ a b,a < b→b < k.len→(k.get a).1 ≠ (k.get b).1)
  (fun d=>∃ (k:L Wy) (b d':Bool),d = .inl ((t2,((),((),(t10,(t,((),(b,(fH,(ug,((),((),()))))))))))),(b3,(((),((),((),((),())))),((va,(vb,(vc,((),())))),((t,(d',())),(k,(vd,()))))))) ∧ jX wy k ∧ ∀ i,i < k.len→(k.get i).1 ≠ t)
  (by
   rintro i _ hi ⟨k,b,d,rfl,g1,g2,g3⟩
   left
   simp only [nY]
   rw [ah (aM hi),ah (aj hi),ah (aj hi),tN,av hi (by omega)]
   by_cases ht:(row.get i).1 = t
   · rw [ah (by simpa using ht)]
     have g2':∀ m,m < k.len→∃ j,j < i + 1 ∧ k.get m = row.get j ∧ (row.get j).1 ≠ t:=fun m hm=>by obtain ⟨j,p,q⟩:=g2 m hm; exact ⟨j,by omega,q⟩
     cases t2 with
     | true=>exact ⟨_,rfl,k,true,true,rfl,by omega,g2',g3⟩
     | false=>exact ⟨_,rfl,k,true,(row.get i).2.1,rfl,by omega,g2',g3⟩
   · rw [au (by simpa using ht),ah (aj hi),ah (by
      show decide (k.len + 1≤most) = true
      exact jF (by omega))]
     refine ⟨_,rfl,L.app k (L.of (Ty.zero (.pair (.int .i64) (.pair .bool .unit))) [row.get i]),b,d,rfl,by show k.len + 1≤i + 1; omega,fun m hm=>?_,fun a c hac hc=>?_⟩
     · by_cases e:m = k.len
       · subst e; rw [qH]; exact ⟨i,by omega,rfl,ht⟩
       · have hm:m < k.len + 1:=hm
         rw [nK _ _ (by omega)]
         obtain ⟨j,p,q⟩:=g2 m (by omega)
         exact ⟨j,by omega,q⟩
     · have hc:c < k.len + 1:=hc
       rw [nK _ _ (show a < k.len by omega)]
       by_cases e:c = k.len
       · subst e
         rw [qH]
         obtain ⟨j,p,q,_⟩:=g2 a hac
         rw [q]
         exact h3 j i p hi
       · rw [nK _ _ (by omega)]
         exact g3 a c hac (by omega))
  (by
   rintro _ ⟨k,b,d,rfl,g1,g2,g3⟩
   simp only [nY]
   rw [au (aK row.len)]
   refine ⟨_,rfl,k,b,d,rfl,⟨by omega,fun i hi=>?_,g3⟩,fun i hi=>?_⟩
   · obtain ⟨j,p,q,_⟩:=g2 i hi
     rw [q]; exact h2 j p
   · obtain ⟨j,p,q,r⟩:=g2 i hi
     rw [q]; exact r) _ ⟨L.of (Ty.zero (.pair (.int .i64) (.pair .bool .unit))) [],_,_,rfl,Nat.le_refl 0,fun m hm=>absurd hm (Nat.not_lt_zero m),fun a b _ hb=>absurd hb (Nat.not_lt_zero b)⟩
 exact ⟨k,b,d',e1,e2⟩
theorem Bv {α:Type} (z v:α) (k:L α) (i:Nat):(L.app (L.of z [v]) k).get (i + 1) = k.get i:=by
 have e:Nat.blt (i + 1) 1 = false:=by rw [Bool.eq_false_iff]; simp
 show (bif Nat.blt (i + 1) 1 then (L.of z [v]).get (i + 1) else k.get (i + 1 - 1)) = _
 rw [e]
 rfl
theorem jX.cons {wy t:Int} {k:L Wy} (hk:jX wy k) (hl:(k.len:Int) < wy) (ht:0≤t ∧ t≤65535) (hn:∀ i,i < k.len→(k.get i).1 ≠ t) (z:Wy) (d:Bool):jX wy (L.app (L.of z [(t,(d,()))]) k):=by
 obtain ⟨h1,h2,h3⟩:=hk
 have e0:(L.app (L.of z [(t,(d,()))]) k).get 0 = (t,(d,())):=rfl
 have el:(L.app (L.of z [(t,(d,()))]) k).len = 1 + k.len:=rfl
 refine ⟨by rw [el]; omega,fun i hi=>?_,fun i j hij hj=>?_⟩
 · cases i with
   | zero=>rw [e0]; exact ht
   | succ i=>rw [Bv]; exact h2 i (by omega)
 · cases j with
   | zero=>omega
   | succ j =>
     rw [Bv]
     cases i with
     | zero=>rw [e0]; exact fun q=>hn j (by omega) q.symm
     | succ i=>rw [Bv]; exact h3 i j (by omega) (by omega)
theorem jX.cut {wy:Int} {k:L Wy} (hk:jX wy k) (n:Nat) (hn:n≤k.len):jX wy (L.cut k 0 n):=by
 obtain ⟨h1,h2,h3⟩:=hk
 have el:(L.cut k 0 n).len = n:=Nat.sub_zero n
 have eg:∀ i,(L.cut k 0 n).get i = k.get i:=fun i=>congrArg k.get (Nat.zero_add i)
 exact ⟨by rw [el]; omega,fun i hi=>by rw [eg]; exact h2 i (by omega),fun i j a b=>by rw [eg,eg]; exact h3 i j a (by omega)⟩
theorem jX.aav {wy:Int} {k:L Wy} (hk:jX wy k) (z:Wy):jX wy (L.app (L.of z []) k):=by
 obtain ⟨h1,h2,h3⟩:=hk
 have el:(L.app (L.of z []) k).len = k.len:=Nat.zero_add _
 have eg:∀ i,(L.app (L.of z []) k).get i = k.get i:=fun i=>rfl
 exact ⟨by rw [el]; omega,fun i hi=>by rw [eg]; exact h2 i (by omega),fun i j a b=>by rw [eg,eg]; exact h3 i j a (by omega)⟩
theorem aaw {x l s:Int} (hx:0≤x ∧ x≤65535) (hl:4≤l) (hs:1≤s):wI (Int.tdiv x l) = x / l ∧ 0≤x / l ∧ x / l≤65535 ∧ wI (Int.tdiv (x / l) s) = x / l / s ∧ 0≤x / l / s ∧ x / l / s≤65535:=by
 have a1:0≤x / l:=Int.ediv_nonneg hx.1 (by omega)
 have a2:x / l≤x:=Int.ediv_le_self _ hx.1
 have b1:0≤x / l / s:=Int.ediv_nonneg a1 (by omega)
 have b2:x / l / s≤x / l:=Int.ediv_le_self _ a1
 rw [Int.tdiv_eq_ediv_of_nonneg hx.1,Int.tdiv_eq_ediv_of_nonneg a1,aJ (by omega) (by omega),aJ (by omega) (by omega)]
 exact ⟨rfl,a1,by omega,rfl,b1,by omega⟩
def CaN (c:Ca):Prop:=∀ i,i < c.2.1.len→(c.2.1.get i).nil = false
def PX (wy:Int) (row:L Wy):Prop:=jX wy row ∧ row.nil = false
set_option maxHeartbeats 1000000 in
theorem ahF (c:Ca) (h:Ji c) (x:Int) (hx:0≤x ∧ x≤65535) (w:Bool):∃ (c':Ca) (p q:Bool),GX c x w = some ((c',(p,(q,()))),()) ∧ c'.1 = c.1 ∧ Ji c' ∧ CaN c':=by
 obtain ⟨hs,hl,hr⟩:=h
 obtain ⟨s1,s2,s3⟩:=xq hs
 obtain ⟨u1,u2,u3,u4,u5,u6⟩:=aaw hx s3.1 s1.1
 unfold GX
 rw [ah (by simp; omega),ah (by simp; omega),ah (by simp; omega),u1,u4]
 generalize hT:x / c.1.2.2.1 / c.1.1 = T at *
 generalize hS:Int.tmod (x / c.1.2.2.1) c.1.1 = S
 obtain ⟨⟨sets,ways,line,⟨⟩⟩,rows,⟨⟩⟩:=c
 simp only at hs hl hr s1 s2 s3 ⊢
 have key:∃ (p q:Bool) (r:L (L Wy)),aL nZ ((w,((),((),(S,(T,((),(false,(false,((0:Int),()))))))))),(((sets,(ways,(line,()))),(rows,())),(((),((),((),((),())))),((sets,(ways,(line,((bG (.sl (.pair (.int .i64) (.pair .bool .unit)))),())))),())))) = some (.inl (((),((),(p,(q,())))),(((),((),((),((),())))),((sets,(ways,(line,((),())))),(r,()))))) ∧ r.len = rows.len ∧ ∀ i,i < rows.len→PX ways (r.get i):=by
  skip
  obtain ⟨d,e1,p,q,r,rfl,e2⟩:=qx (step:=nZ) rows.len (fun i y=>∃ (p q:Bool) (r:L (L Wy)),y = ((w,((),((),(S,(T,((),(p,(q,((i:Int),()))))))))),(((sets,(ways,(line,()))),(rows,())),(((),((),((),((),())))),((sets,(ways,(line,(r,())))),())))) ∧ r.len = i ∧ ∀ j,j < i→PX ways (r.get j))
   (fun d=>∃ (p q:Bool) (r:L (L Wy)),d = .inl (((),((),(p,(q,())))),(((),((),((),((),())))),((sets,(ways,(line,((),())))),(r,())))) ∧ r.len = rows.len ∧ ∀ i,i < rows.len→PX ways (r.get i))
   (by
    rintro i _ hi ⟨p,q,r,rfl,g1,g2⟩
    left
    have hrow:=hr i hi
    have add:∀ {v:L Wy} {z:L Wy},PX ways v→(L.app r (L.of z [v])).len = i + 1 ∧ ∀ j,j < i + 1→PX ways ((L.app r (L.of z [v])).get j):=fun hv=>zJ g1 g2 _ _ hv
    simp only [nZ]
    rw [ah (aM hi),ah (aj hi),tN,av hi (by omega)]
    by_cases Zk:(i:Int) = S
    · rw [au (by simpa using Zk)]
      obtain ⟨k,b,d,k1,k2,k3⟩:=Xf (rows.get i) ways T hrow s2.2 w
      rw [k1]
      simp only [oB]
      rw [av hi (by omega)]
      by_cases hk:(k.len:Int) = ways
      · have ew:wI ((k.len:Int) - 1) = ((k.len - 1:Nat):Int):=by rw [aJ (by omega) (by omega)]; omega
        rw [ah (by simpa using hk),ew,ah (by simp; omega),ah (by simp),tN,ah (by
         show decide (1 + (k.len - 1 - 0)≤most) = true
         exact jF (by omega)),ah (by
         show decide (r.len + 1≤most) = true
         exact jF (by omega))]
        have A:=add (z:=Ty.zero (.sl (.pair (.int .i64) (.pair .bool .unit)))) ⟨jX.cons (k2.cut (k.len - 1) (by omega)) (by show ((k.len - 1 - 0:Nat):Int) < ways; omega) ⟨u5,u6⟩ (fun j hj=>by
         have hj:j < k.len - 1 - 0:=hj
         have eg:(L.cut k 0 (k.len - 1)).get j = k.get j:=congrArg k.get (Nat.zero_add j)
         rw [eg]; exact k3 j (by omega)) (Ty.zero (.pair (.int .i64) (.pair .bool .unit))) d,rfl⟩
        exact ⟨_,rfl,_,_,_,rfl,A.1,A.2⟩
      · have hk1:=k2.1
        rw [au (by simpa using hk),ah (by
         show decide (1 + k.len≤most) = true
         exact jF (by omega)),ah (by
         show decide (r.len + 1≤most) = true
         exact jF (by omega))]
        have A:=add (z:=Ty.zero (.sl (.pair (.int .i64) (.pair .bool .unit)))) ⟨jX.cons k2 (by omega) ⟨u5,u6⟩ k3 (Ty.zero (.pair (.int .i64) (.pair .bool .unit))) d,rfl⟩
        exact ⟨_,rfl,_,_,_,rfl,A.1,A.2⟩
    · have hr1:=hrow.1
      rw [ah (by simpa using Zk),ah (by
       show decide (0 + (rows.get i).len≤most) = true
       exact jF (by omega)),ah (by
       show decide (r.len + 1≤most) = true
       exact jF (by omega))]
      have A:=add (z:=Ty.zero (.sl (.pair (.int .i64) (.pair .bool .unit)))) ⟨jX.aav hrow (Ty.zero (.pair (.int .i64) (.pair .bool .unit))),rfl⟩
      exact ⟨_,rfl,_,_,_,rfl,A.1,A.2⟩)
   (by
    rintro _ ⟨p,q,r,rfl,g1,g2⟩
    simp only [nZ]
    exact ⟨_,au (aK rows.len),p,q,r,rfl,g1,g2⟩) _ ⟨false,false,bG (.sl (.pair (.int .i64) (.pair .bool .unit))),rfl,rfl,fun j hj=>absurd hj (Nat.not_lt_zero j)⟩
  exact ⟨p,q,r,e1,e2⟩
 obtain ⟨p,q,r,k1,k2,k3⟩:=key
 rw [k1]
 exact ⟨_,p,q,rfl,rfl,⟨hs,by show (r.len:Int) = sets; omega,fun j hj=>(k3 j (by have hj:j < r.len:=hj; omega)).1⟩,fun j hj=>(k3 j (by have hj:j < r.len:=hj; omega)).2⟩
theorem Xg (s:Sh) (h:f237 s = true):∃ c:Ca,Dx s = some ((c,()),()) ∧ c.1 = s ∧ Ji c ∧ CaN c ∧ ∀ i,i < c.2.1.len→(c.2.1.get i).len = 0:=by
 obtain ⟨s1,s2,s3⟩:=xq h
 have key:∀ {ve vf vg:_},∃ r:L (L Wy),aL og (((),((),((),((0:Int),())))),(s,(((),((),((),((),())))),((ve,(vf,(vg,((bG (.sl (.pair (.int .i64) (.pair .bool .unit)))),())))),())))) = some (.inl (((),((),())),(((),((),((),((),())))),((ve,(vf,(vg,((),())))),(r,()))))) ∧ r.len = s.1.toNat ∧ ∀ i,i < s.1.toNat→(r.get i).len = 0 ∧ (r.get i).nil = false:=by
  intro ve vf vg
  obtain ⟨d,e1,r,rfl,e2⟩:=qx (step:=og) s.1.toNat (fun i y=>∃ r:L (L Wy),y = (((),((),((),((i:Int),())))),(s,(((),((),((),((),())))),((ve,(vf,(vg,(r,())))),())))) ∧ r.len = i ∧ ∀ j,j < i→(r.get j).len = 0 ∧ (r.get j).nil = false)
   (fun d=>∃ r:L (L Wy),d = .inl (((),((),())),(((),((),((),((),())))),((ve,(vf,(vg,((),())))),(r,())))) ∧ r.len = s.1.toNat ∧ ∀ i,i < s.1.toNat→(r.get i).len = 0 ∧ (r.get i).nil = false)
   (by
    rintro i _ hi ⟨r,rfl,g1,g2⟩
    left
    simp only [og]
    rw [ah (by simp; omega),av hi (by omega),ah (by
     show decide (r.len + 1≤most) = true
     exact jF (by omega))]
    have A:=zJ (P:=fun v:L Wy=>v.len = 0 ∧ v.nil = false) g1 g2 (Ty.zero (.sl (.pair (.int .i64) (.pair .bool .unit)))) (L.of (Ty.zero (.pair (.int .i64) (.pair .bool .unit))) []) ⟨rfl,rfl⟩
    exact ⟨_,rfl,_,rfl,A.1,A.2⟩)
   (by
    rintro _ ⟨r,rfl,g1,g2⟩
    simp only [og]
    rw [au (by simp; omega)]
    exact ⟨_,rfl,r,rfl,g1,g2⟩) _ ⟨bG (.sl (.pair (.int .i64) (.pair .bool .unit))),rfl,rfl,fun j hj=>absurd hj (Nat.not_lt_zero j)⟩
  exact ⟨r,e1,e2⟩
 unfold Dx
 rw [h]
 simp only [Bool.not_true,cond_false]
 obtain ⟨r,k1,k2,k3⟩:=key
 rw [k1]
 refine ⟨_,rfl,rfl,⟨h,by show (r.len:Int) = s.1; omega,fun j hj=>?_⟩,fun i hi=>(k3 i (by rw [← k2]; exact hi)).2,fun i hi=>(k3 i (by rw [← k2]; exact hi)).1⟩
 have e:=(k3 j (by rw [← k2]; exact hj)).1
 show jX s.2.1 (r.get j)
 exact ⟨by omega,fun i hi=>by omega,fun i k _ hk=>by omega⟩
end Go.VE.VFnOwn
