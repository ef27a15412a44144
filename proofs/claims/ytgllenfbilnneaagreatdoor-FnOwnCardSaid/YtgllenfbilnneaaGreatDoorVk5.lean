import Derived.Test.YtgllenfbilnneaaGreatDoorVk4
/- Functions: a function does what the evaluator says. -/
namespace Go.VE
def J3 (σ:AS):List In→Nat→Nat→Nat→Prop
 | [],_,_,_=>False
 | .pt t::r,i,id,n=>(∃ cs,σ.box (pN i) = some (.cells cs) ∧ V3 t cs (pN i + 1) id n) ∨ J3 σ r (i + 1) id n
 | _::r,i,id,n=>J3 σ r (i + 1) id n
theorem uX {σ:AS} {a:In} {r:List In} {i id n:Nat} (h:J3 σ (a::r) i id n):(∃ t cs,a = .pt t ∧ σ.box (pN i) = some (.cells cs) ∧ V3 t cs (pN i + 1) id n) ∨ J3 σ r (i + 1) id n:=by
 cases a with
 | pt t=>exact h.imp (fun ⟨cs,q⟩=>⟨t,cs,rfl,q⟩) (fun q=>q)
 | _=>exact .inr h
theorem Oy {σ:AS} {a:In} {r:List In} {i id n:Nat} (h:J3 σ r (i + 1) id n):J3 σ (a::r) i id n:=by
 cases a with
 | pt t=>exact .inr h
 | _=>exact h
theorem Oz:∀ {t:Ty},t.flat = true→t.bJ = 0:=by
 intro t
 induction t with
 | pair a b iha ihb=>intro q; simp only [Ty.flat,Bool.and_eq_true] at q; simp only [Ty.bJ]; rw [iha q.1,ihb q.2]
 | sl u ih=>intro q; simp [Ty.flat] at q
 | _=>intro _; rfl
theorem Er {σ:AS}:∀ {is:List In} {i id n:Nat},mg is = true→¬ J3 σ is i id n
 | [],_,_,_,_,h=>h
 | a::r,i,id,n,hn,h=>by
   rcases uX h with ⟨t,cs,rfl,_,j,hj,_⟩ | h
   · simp only [mg,Bool.and_eq_true] at hn
     rw [Oz hn.1] at hj; omega
   · refine Er ?_ h
     cases a <;> simp only [mg,Bool.and_eq_true] at hn
     all_goals first | exact hn.2 | exact hn | cases hn
def V5 (P:Program) (σ:AS) (vs:List ResultVar) (id n:Nat):Prop:=∃ v,vs = [v] ∧ uq P σ v = some (.bx id 0) ∧ n = bY
section
variable {P:Program} {N:Fr} {n0:Nat→Nat→Nat→bT} {c0:Nat→Nat→Col} {w0:World} {σ:AS} {g:Gh} {a:Act} {w:World} {Rn:Nat→Nat→Nat→Nat→Prop}
theorem tT {i:In} {r:List In} {k:Nat} {y:lI (i::r)} {lp:List Nat} (h:xC σ (i::r) k = some (y,lp)):∃ l1 l2,uw σ i k = some (Ry i r y,l1) ∧ xC σ r (k + 1) = some (Rz i r y,l2) ∧ lp = l1 ++ l2:=by
 simp only [xC] at h
 split at h
 · rename_i x1 l1 h1
   split at h
   · rename_i x2 l2 h2
     simp only [Option.some.injEq,Prod.mk.injEq] at h
     obtain ⟨rfl,rfl⟩:=h
     refine ⟨l1,l2,?_,?_,rfl⟩
     · rw [h1]; cases i <;> rfl
     · rw [h2]; cases i <;> rfl
   · cases h
 · cases h
theorem Es (hs:bO N c0 w0 σ g a w) {t:Ty} {k:Nat} {y:lI [In.pt t]} {l:List Nat} (h:uw σ (.pt t) k = some (y,l)):∃ cs us,σ.box (pN k) = some (.cells cs) ∧ l = ay cs ∧ cs.length = t.size ∧ ak g w cs us ∧ JD g w (pN k) (g.bx (pN k)).2 us ∧ g.db (pN k) ∧ (∀ r ∈ ay cs,jI r = true) ∧
 jJ (fun j u y h=>FL g w (ay [dX t cs j]) u y h) t y.1 us 0:=by
 simp only [uw] at h
 split at h
 · rename_i cs hb
   split at h
   · rename_i x hx
     simp only [Option.some.injEq,Prod.mk.injEq] at h
     obtain ⟨rfl,rfl⟩:=h
     obtain ⟨d1,us,d2,d3⟩:=hs.box _ _ hb
     obtain ⟨c1,v1,v2,e1,e2,k1,k2,k3,_,k5,k6⟩:=jl (μ:=σ) (fun id c hc=>hs.box id c hc) (dF hx) d2
     rw [List.append_nil] at e1
     subst e1
     simp only [ak] at k1
     subst k1
     rw [List.append_nil] at e2
     subst e2
     exact ⟨cs,us,hb,rfl,k3,d2,d3,d1,fun r hr=>(k5 r hr).1,by have:=k6 0; simpa using this⟩
   · cases h
 · cases h
theorem Et (hs:bO N c0 w0 σ g a w):∀ {is:List In} {y:lI is} {lp:List Nat} {i:Nat},xC σ is i = some (y,lp)→is.all fu = true→i + is.length < 1000→∀ {id n:Nat},J3 σ is i id n→id ∈ lp ∧ jI id = true ∧ given n
 | [],_,_,_,_,_,_,_,_,h=>h.elim
 | i::r,y,lp,k,hu,hf,hl,id,n,h=>by
   obtain ⟨l1,l2,h1,h2,rfl⟩:=tT hu
   simp only [List.all_cons,Bool.and_eq_true] at hf
   simp only [List.length_cons] at hl
   rcases uX h with ⟨t,cs,rfl,hb,j,hj,hid,rfl⟩ | h
   · obtain ⟨cs',us,q1,q2,q3,_,_,_,q7,_⟩:=Es hs h1
     rw [hb] at q1; cases q1
     have hfit:=hf.1
     simp only [fu,Bool.and_eq_true,Nat.blt_eq] at hfit
     have hm:=dD q3 hj hid
     exact ⟨by rw [q2]; exact List.mem_append_left _ hm,q7 id hm,nR (by omega) (by omega)⟩
   · obtain ⟨q1,q2⟩:=Et hs h2 hf.2 (by omega) h
     exact ⟨List.mem_append_right _ q1,q2⟩
theorem OA (hs:bO N c0 w0 σ g a w):∀ {is:List In} {y:lI is} {lp:List Nat} {i:Nat},xC σ is i = some (y,lp)→is.all fu = true→i + is.length < 1000→lp.Nodup→∀ {id n n':Nat},J3 σ is i id n→J3 σ is i id n'→n = n'
 | [],_,_,_,_,_,_,_,_,_,_,h,_=>h.elim
 | i::r,y,lp,k,hu,hf,hl,hn,id,n,n',h,h'=>by
   obtain ⟨l1,l2,h1,h2,rfl⟩:=tT hu
   simp only [List.all_cons,Bool.and_eq_true] at hf
   simp only [List.length_cons] at hl
   rw [List.nodup_append] at hn
   have hd:∀ {n},(∃ t cs,i = .pt t ∧ σ.box (pN k) = some (.cells cs) ∧ V3 t cs (pN k + 1) id n)→id ∈ l1:=fun ⟨t,cs,e,hb,j,hj,hid,_⟩=>by
    subst e
    obtain ⟨cs',us,q1,q2,q3,_⟩:=Es hs h1
    rw [hb] at q1; cases q1
    rw [q2]; exact dD q3 hj hid
   rcases uX h with q | q <;> rcases uX h' with q' | q'
   · obtain ⟨t,cs,rfl,hb,hr⟩:=q
     obtain ⟨t',cs',e,hb',hr'⟩:=q'
     cases e
     rw [hb] at hb'; cases hb'
     obtain ⟨cs',us,q1,q2,q3,_⟩:=Es hs h1
     rw [hb] at q1; cases q1
     exact Ov q3 (by rw [← q2]; exact hn.1) hr hr'
   · exact absurd rfl (hn.2.2 id (hd q) id (Et hs h2 hf.2 (by omega) q').1)
   · exact absurd rfl (hn.2.2 id (hd q') id (Et hs h2 hf.2 (by omega) q).1)
   · exact OA hs h2 hf.2 (by omega) hn.2.1 q q'
theorem V6 (hs:bO N c0 w0 σ g a w) (hst:∀ id,dV≤id→∀ b o n,¬ Rn id b o n) {base:Nat} (hb:dV≤base):∀ {t:Ty} {x' y:t.T} {us:List Value} {j:Nat},jJ (fun j _ _ h=>h = N.h0 (base + j)) t x' us j→uw.Lu σ.box base t j = some y→Uv (fun j u y h=>RP N.n0 (dU w0 g Rn) w (base + j) u y h) t y us j:=by
 intro t
 induction t with
 | pair p q Iw Iy =>
   rintro x' y us j ⟨v1,v2,rfl,h1,h2⟩ h
   simp only [uw.Lu] at h
   split at h
   · rename_i y1 e1
     split at h
     · rename_i y2 e2
       simp only [Option.some.injEq] at h; subst h
       exact ⟨v1,v2,rfl,Iw h1 e1,Iy h2 e2⟩
     · cases h
   · cases h
 | sl u ih =>
   rintro x' y us j ⟨h,rfl,rfl⟩ hu
   simp only [uw.Lu] at hu
   split at hu
   · rename_i t x hbx
     split at hu
     · rename_i hbq
       obtain rfl:=Ty.eq_of_beq hbq
       simp only [Option.some.injEq,dx] at hu; subst hu
       obtain ⟨d1,d2,_,d4,d5⟩:=hs.box _ _ hbx
       obtain ⟨f1,f2⟩:=hs.fix (base + j) (by omega) 0
       rw [f1 d1,f2 d2] at d4
       refine ⟨_,rfl,g.R (base + j),cB.lM d4,fun b o hR=>?_⟩
       obtain ⟨a1,a2⟩:=d5 b o hR
       refine ⟨Mi a1 (hst _ (by omega) b o) ⟨by unfold dV bF at *; omega,fun q=>?_⟩,a2⟩
       have:=q.2.1; omega
     · cases hu
   · cases hu
 | int k=>intro x' y us j h _; have h:us = _:=h; rw [h]; rfl
 | bool=>intro x' y us j h _; have h:us = _:=h; rw [h]; rfl
 | str=>intro x' y us j h _; have h:us = _:=h; rw [h]; rfl
 | unit=>intro x' y us j h _; have h:us = _:=h; rw [h]; rfl
theorem yP (hs:bO N c0 w0 σ g a w) (hu:Em Rn) (hst:∀ id,dV≤id→∀ b o n,¬ Rn id b o n):∀ {is:List In} {y:lI is} {lp:List Nat} {i:Nat} {vs:List Value},xC σ is i = some (y,lp)→vs.length = is.length→(∀ (k:Nat) t,(is[k]? = some (.pt t) ∨ is[k]? = some (.pd t))→∃ b o,vs[k]? = some (.pointer (some ⟨b,o,none⟩)) ∧ N.b0 (pN (i + k)) = (b,o)) →
 (∀ (k:Nat) t,is[k]? = some (.ow t)→∃ (us:List Value) (x':t.T),vs[k]? = some (mkV t us) ∧ jJ (fun j _ _ h=>h = N.h0 (wN (i + k) + j)) t x' us 0)→(∀ id n,J3 σ is i id n→∀ b o,Rn id b o n)→nA N.n0 (dU w0 g Rn) w is y i vs
 | [],_,_,_,_,_,_,_,_,_=>by simp only [nA]
 | b::r,y,lp,i,[],_,hl,_,_,_=>by simp at hl
 | b::r,y,lp,i,v::vs,h,hl,hpt,how,hR=>by
   obtain ⟨l1,l2,h1,h2,rfl⟩:=tT h
   refine ⟨v,vs,rfl,?_,yP hs hu hst h2 (by simpa using hl) (fun k t e=>?_) (fun k t e=>?_) fun id n q=>hR id n (Oy q)⟩
   · cases b with
     | pt t =>
       obtain ⟨cs,us,q1,q2,q3,q4,q5,q6,q7,q8⟩:=Es hs h1
       obtain ⟨b,o,e1,e2⟩:=hpt 0 t (.inl rfl)
       simp only [List.getElem?_cons_zero,Option.some.injEq] at e1
       subst e1
       have hbx:g.bx (pN i) = (b,o):=(hs.pts _ (by unfold pN bF; omega) q6).trans e2
       rw [hbx] at q5
       refine ⟨b,o,us,rfl,q8.mono fun j u y h _ hj hq=>F8 hu (fun id hid b o=>hR id _ (.inl ⟨cs,q1,j,by omega,hid,rfl⟩) b o) hq,fun j u hj=>?_⟩
       have:=(q5 j u hj).2.1
       rwa [hbx] at this
     | ow t =>
       obtain ⟨us,x',e1,e2⟩:=how 0 t rfl
       simp only [List.getElem?_cons_zero,Option.some.injEq] at e1
       subst e1
       refine ⟨us,rfl,?_⟩
       simp only [uw] at h1
       split at h1
       · rename_i z hz
         simp only [Option.some.injEq,Prod.mk.injEq] at h1
         have:=V6 hs hst (base:=wN i) (by unfold wN; omega) e2 hz
         rw [← h1.1]
         exact this
       · cases h1
     | pd t =>
       simp only [uw] at h1
       split at h1
       · rename_i cs hbx
         split at h1
         · rename_i x hx
           simp only [Option.some.injEq,Prod.mk.injEq] at h1
           rw [← h1.1]
           obtain ⟨b,o,e1,e2⟩:=hpt 0 t (.inr rfl)
           simp only [List.getElem?_cons_zero,Option.some.injEq] at e1
           subst e1
           obtain ⟨d1,us,d2,d3⟩:=hs.box _ _ hbx
           have hb:g.bx (pN i) = (b,o):=(hs.pts _ (by unfold pN bF; omega) d1).trans e2
           refine ⟨b,o,us,rfl,bC.mono (kN w0 g Rn w).toStays _ _ _ (fA hx d2),fun j u hj=>?_⟩
           have:=(d3 j u hj).2.1
           rwa [hb] at this
         · cases h1
       · cases h1
     | _=>trivial
   · obtain ⟨b,o,e1,e2⟩:=hpt (k + 1) t (by simpa using e)
     exact ⟨b,o,by simpa using e1,by rw [show i + 1 + k = i + (k + 1) by omega]; exact e2⟩
   · obtain ⟨us,x',e1,e2⟩:=how (k + 1) t (by simpa using e)
     exact ⟨us,x',by simpa using e1,by rw [show i + 1 + k = i + (k + 1) by omega]; exact e2⟩
theorem R9 {c:sK} (hs:bO N c0 w0 σ g a w) (hc:uM c c0 w0) (hn:mg c.ins = true) (hu:Em Rn):∀ {ts:List Ty} {vs:List ResultVar} {y:dR ts},Ac P σ ts vs = some y→(∀ id n,V5 P σ vs id n→∀ b o,Rn id b o n) →
 ∃ (u:Value) (r:Nat),(vs.mapM (rD a.tmps)).run P w = .ok [u] w ∧ IL (dU w0 g Rn) w0 w ts y u ∧ r < bF ∧ g.db r ∧ ∀ id n,V5 P σ vs id n→id = r
 | [],_,_,h,_=>by simp [Ac] at h
 | [t],[],_,h,_=>by simp [Ac] at h
 | [t],[v],y,h,hR=>by
   simp only [Ac] at h
   split at h
   · rename_i id hp
     cases hlt:Nat.blt id bF with
     | false=>rw [hlt] at h; cases h
     | true =>
       rw [hlt] at h
       simp only [cond_true] at h
       have hlt:id < bF:=by simpa using hlt
       split at h
       · rename_i cs hb
         split at h
         · rename_i x hx
           cases hsz:Nat.blt 0 t.size with
           | false=>rw [hsz] at h; cases h
           | true =>
             rw [hsz] at h
             simp only [cond_true,Option.some.injEq] at h
             subst h
             have hsz:0 < t.size:=by simpa using hsz
             obtain ⟨u,h3,h4⟩:=yO hs hp
             simp only [aF] at h4
             obtain ⟨_,rfl⟩:=h4
             obtain ⟨d1,us,d2,d3⟩:=hs.box _ _ hb
             have hrep:=fA hx d2
             have Y0:=hrep.length
             have hns:¬ stay id:=by rintro (q | ⟨q,_⟩) <;> (unfold dV bF at *; omega)
             refine ⟨_,id,?_,⟨(g.bx id).1,(g.bx id).2 + 0,us,rfl,?_,bC.mono (kN w0 g Rn w).toStays _ _ _ hrep,fun j u hj=>?_⟩,hlt,d1,fun id' n ⟨v',e1,e2,_⟩=>?_⟩
             · rw [List.mapM_cons,List.mapM_nil]
               simp only [Sem.run_bind,h3,Result.andThen_ok,Sem.run_pure]
             · exact made hs hc hn (d3 0 us[0] (List.getElem?_eq_getElem (by omega))).1 hns
             · obtain ⟨q1,q2⟩:=d3 j u hj
               rw [Nat.add_zero]
               exact ⟨En hu q1 (hR id _ ⟨v,rfl,hp,rfl⟩ _ _),q2⟩
             · cases e1
               rw [hp] at e2; cases e2; rfl
         · cases h
       · cases h
   · cases h
 | [t],_::_::_,_,h,_=>by simp [Ac] at h
 | _::_::_,_,_,h,_=>by simp [Ac] at h
theorem J4 (hs:bO N c0 w0 σ g a w) {fr:Nat}:∀ {ts:List Ty} {vs:List ResultVar} {y:dR ts} {l:List Nat} {j:Nat},BL P σ fr ts vs = some (y,l)→(∀ {id n:Nat},Mj P σ ts vs j id n→id ∈ l ∧ ¬ stay id ∧ bY≤n) ∧ (l.Nodup→∀ {id n n':Nat},Mj P σ ts vs j id n→Mj P σ ts vs j id n'→n = n')
 | [],[],y,l,j,_=>⟨fun h=>h.elim,fun _ _ _ _ h=>h.elim⟩
 | [],v::vs,y,l,j,h=>by simp [BL] at h
 | t::r,[],y,l,j,h=>by simp [BL] at h
 | t::r,v::vs,y,l,j,h=>by
   simp only [BL] at h
   split at h
   · rename_i p hp
     split at h
     · rename_i hag
       split at h
       · rename_i x hx
         split at h
         · rename_i y2 l2 hy
           simp only [Option.some.injEq,Prod.mk.injEq] at h
           obtain ⟨rfl,rfl⟩:=h
           obtain ⟨i1,i2⟩:=J4 hs (j:=j + t.bJ) hy
           obtain ⟨u,_,h4⟩:=yO hs hp
           obtain ⟨Uw,su⟩:=gU h4
           have hx:=dF hx
           have key:p.dY.length = t.size ∧ ∀ j',j' < t.bJ→∀ id ∈ ay [dX t p.dY j'],¬ stay id:=by
            cases hf:Nat.beq fr 1 with
            | true =>
              rw [hf] at hx
              obtain ⟨c1,v1,v2,e1,_,_,_,k3,_,k5,_⟩:=jl (μ:=σ) (fun id c hc=>hs.box id c hc) hx su
              rw [List.append_nil] at e1
              subst e1
              exact ⟨k3,fun j' hj id hid=>eG (k5 id (dD k3 hj hid)).1⟩
            | false =>
              rw [hf] at hx
              have agn:∀ {u:Ty} {q:PV} {z:L u.T},YS σ.box u q = some z→∀ id ∈ ay [q],id < bF:=fun {u q z} hq id hid=>by
               unfold YS at hq
               split at hq
               · simp [ay] at hid
               · rename_i r v'
                 split at hq
                 · split at hq
                   · rename_i hv _ _ _ _
                     cases hb:(Nat.beq v' _&&Nat.blt r bF) with
                     | false=>rw [hb] at hq; cases hq
                     | true =>
                       simp only [Bool.and_eq_true,Nat.blt_eq] at hb
                       simp [ay] at hid
                       rw [hid]; exact hb.2
                   · cases hq
                 · cases hq
               · cases hq
              have hall:∀ {t:Ty} {cs r:List PV} {z:t.T},yx σ.box t cs = some (z,r)→∃ c1,cs = c1 ++ r ∧ c1.length = t.size ∧ ∀ id ∈ ay c1,id < bF:=by
               intro t
               induction t with
               | int k =>
                 intro cs r z h
                 cases cs with
                 | nil=>simp [yx] at h
                 | cons q qs=>cases q <;> simp [yx] at h; obtain ⟨_,_,rfl⟩:=h; exact ⟨[_],rfl,rfl,by simp [ay]⟩
               | bool =>
                 intro cs r z h
                 cases cs with
                 | nil=>simp [yx] at h
                 | cons q qs=>cases q <;> simp [yx] at h; obtain ⟨_,rfl⟩:=h; exact ⟨[_],rfl,rfl,by simp [ay]⟩
               | str =>
                 intro cs r z h
                 cases cs with
                 | nil=>simp [yx] at h
                 | cons q qs=>cases q <;> simp [yx] at h; obtain ⟨_,rfl⟩:=h; exact ⟨[_],rfl,rfl,by simp [ay]⟩
               | unit=>intro cs r z h; simp [yx] at h; subst h; exact ⟨[],rfl,rfl,by simp [ay]⟩
               | pair a b iha ihb =>
                 intro cs r z h
                 simp only [yx] at h
                 split at h
                 · rename_i x1 r1 h1
                   split at h
                   · rename_i x2 r2 h2
                     simp only [Option.some.injEq,Prod.mk.injEq] at h
                     obtain ⟨_,rfl⟩:=h
                     obtain ⟨c1,rfl,q1,q2⟩:=iha h1
                     obtain ⟨d1,rfl,q3,q4⟩:=ihb h2
                     refine ⟨c1 ++ d1,by simp,by simp [q1,q3,Ty.size],fun id hid=>?_⟩
                     rw [eY] at hid
                     exact (List.mem_append.mp hid).elim (q2 id) (q4 id)
                   · cases h
                 · cases h
               | sl u ih =>
                 intro cs r z h
                 cases cs with
                 | nil=>simp [yx] at h
                 | cons q qs =>
                   simp only [yx] at h
                   split at h
                   · rename_i y' h1
                     simp only [Option.some.injEq,Prod.mk.injEq] at h
                     obtain ⟨_,rfl⟩:=h
                     exact ⟨[q],rfl,rfl,agn h1⟩
                   · cases h
              obtain ⟨c1,e1,k3,k4⟩:=hall hx
              rw [List.append_nil] at e1
              rw [e1]
              refine ⟨k3,fun j' hj id hid=>?_⟩
              have:=k4 id (dD k3 hj hid)
              rintro (q | ⟨q,_⟩) <;> (unfold dV bF at *; omega)
           obtain ⟨kl,kn⟩:=key
           refine ⟨fun {id n} h=>?_,fun hnd {id n n'} h h'=>?_⟩
           · rcases h with ⟨p',e,j',hj,hid,rfl⟩ | h
             · rw [hp] at e; cases e
               exact ⟨List.mem_append_left _ (dD kl hj hid),kn j' hj id hid,by omega⟩
             · obtain ⟨q1,q2⟩:=i1 h
               exact ⟨List.mem_append_right _ q1,q2⟩
           · rw [List.nodup_append] at hnd
             have hd:∀ {n},(∃ p,uq P σ v = some p ∧ V3 t p.dY (bY + j) id n)→id ∈ ay p.dY:=fun ⟨p',e,j',hj,hid,_⟩=>by
              rw [hp] at e; cases e
              exact dD kl hj hid
             rcases h with q | q <;> rcases h' with q' | q'
             · obtain ⟨p',e,q⟩:=q
               obtain ⟨p'',e',q'⟩:=q'
               rw [hp] at e e'; cases e; cases e'
               exact Ov kl hnd.1 q q'
             · exact absurd rfl (hnd.2.2 id (hd q) id (i1 q').1)
             · exact absurd rfl (hnd.2.2 id (hd q') id (i1 q).1)
             · exact i2 hnd.2.1 q q'
         · cases h
       · cases h
     · cases h
   · cases h
end
end Go.VE
