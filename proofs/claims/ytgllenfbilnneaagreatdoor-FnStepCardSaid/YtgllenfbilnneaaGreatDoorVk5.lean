import Derived.Test.YtgllenfbilnneaaGreatDoorVk4
/- Functions: a function does what the evaluator says. -/
namespace Go.VE
def ptR (σ:AS):List In→Nat→Nat→Nat→Prop
 | [],_,_,_=>False
 | .pt t::r,i,id,n=>(∃ cs,σ.box (pN i) = some (.cells cs) ∧ slR t cs (pN i + 1) id n) ∨ ptR σ r (i + 1) id n
 | _::r,i,id,n=>ptR σ r (i + 1) id n
theorem ptR_skip {σ:AS} {a:In} {r:List In} {i id n:Nat} (h:ptR σ (a::r) i id n):(∃ t cs,a = .pt t ∧ σ.box (pN i) = some (.cells cs) ∧ slR t cs (pN i + 1) id n) ∨ ptR σ r (i + 1) id n:=by
 cases a with
 | pt t=>exact h.imp (fun ⟨cs,q⟩=>⟨t,cs,rfl,q⟩) (fun q=>q)
 | _=>exact .inr h
theorem ptR_tail {σ:AS} {a:In} {r:List In} {i id n:Nat} (h:ptR σ r (i + 1) id n):ptR σ (a::r) i id n:=by
 cases a with
 | pt t=>exact .inr h
 | _=>exact h
theorem flat_nsl:∀ {t:Ty},t.flat = true→t.nsl = 0:=by
 intro t
 induction t with
 | pair a b iha ihb=>intro q; simp only [Ty.flat,Bool.and_eq_true] at q; simp only [Ty.nsl]; rw [iha q.1,ihb q.2]
 | sl u ih=>intro q; simp [Ty.flat] at q
 | _=>intro _; rfl
theorem ptR_no {σ:AS}:∀ {is:List In} {i id n:Nat},noMv is = true→¬ ptR σ is i id n
 | [],_,_,_,_,h=>h
 | a::r,i,id,n,hn,h=>by
   rcases ptR_skip h with ⟨t,cs,rfl,_,j,hj,_⟩ | h
   · simp only [noMv,Bool.and_eq_true] at hn
     rw [flat_nsl hn.1] at hj; omega
   · refine ptR_no ?_ h
     cases a <;> simp only [noMv,Bool.and_eq_true] at hn
     all_goals first | exact hn.2 | exact hn | cases hn
def ptrR (P:Program) (σ:AS) (vs:List ResultVar) (id n:Nat):Prop:=∃ v,vs = [v] ∧ resPV P σ v = some (.bx id 0) ∧ n = oBase
section
variable {P:Program} {N:Fr} {n0:Nat→Nat→Nat→Hdr} {c0:Nat→Nat→Col} {w0:World} {σ:AS} {g:Gh} {a:Act} {w:World} {Rn:Nat→Nat→Nat→Nat→Prop}
theorem unPts_cons {i:In} {r:List In} {k:Nat} {y:PtT (i::r)} {lp:List Nat} (h:unPts σ (i::r) k = some (y,lp)):∃ l1 l2,unPt1 σ i k = some (ptHd i r y,l1) ∧ unPts σ r (k + 1) = some (ptTl i r y,l2) ∧ lp = l1 ++ l2:=by
 simp only [unPts] at h
 split at h
 · rename_i x1 l1 h1
   split at h
   · rename_i x2 l2 h2
     simp only [Option.some.injEq,Prod.mk.injEq] at h
     obtain ⟨rfl,rfl⟩:=h
     refine ⟨l1,l2,?_,?_,rfl⟩
     · rw [h1]; cases i <;> rfl
     · rw [h2]; cases i <;> rfl
   · cases h
 · cases h
theorem pt_win (hs:Sim N c0 w0 σ g a w) {t:Ty} {k:Nat} {y:PtT [In.pt t]} {l:List Nat} (h:unPt1 σ (.pt t) k = some (y,l)):∃ cs us,σ.box (pN k) = some (.cells cs) ∧ l = rowIds cs ∧ cs.length = t.size ∧ Reps g w cs us ∧ BoxAt g w (pN k) (g.bx (pN k)).2 us ∧ g.db (pN k) ∧ (∀ r ∈ rowIds cs,mvB r = true) ∧
 SlP (fun j u y h=>RowP g w (rowIds [slPv t cs j]) u y h) t y.1 us 0:=by
 simp only [unPt1] at h
 split at h
 · rename_i cs hb
   split at h
   · rename_i x hx
     simp only [Option.some.injEq,Prod.mk.injEq] at h
     obtain ⟨rfl,rfl⟩:=h
     obtain ⟨d1,us,d2,d3⟩:=hs.box _ _ hb
     obtain ⟨c1,v1,v2,e1,e2,k1,k2,k3,_,k5,k6⟩:=unM_sl (μ:=σ) (fun id c hc=>hs.box id c hc) (all0_some hx) d2
     rw [List.append_nil] at e1
     subst e1
     simp only [Reps] at k1
     subst k1
     rw [List.append_nil] at e2
     subst e2
     exact ⟨cs,us,hb,rfl,k3,d2,d3,d1,fun r hr=>(k5 r hr).1,by have:=k6 0; simpa using this⟩
   · cases h
 · cases h
theorem ptR_ok (hs:Sim N c0 w0 σ g a w):∀ {is:List In} {y:PtT is} {lp:List Nat} {i:Nat},unPts σ is i = some (y,lp)→is.all inFit = true→i + is.length < 1000→∀ {id n:Nat},ptR σ is i id n→id ∈ lp ∧ mvB id = true ∧ given n
 | [],_,_,_,_,_,_,_,_,h=>h.elim
 | i::r,y,lp,k,hu,hf,hl,id,n,h=>by
   obtain ⟨l1,l2,h1,h2,rfl⟩:=unPts_cons hu
   simp only [List.all_cons,Bool.and_eq_true] at hf
   simp only [List.length_cons] at hl
   rcases ptR_skip h with ⟨t,cs,rfl,hb,j,hj,hid,rfl⟩ | h
   · obtain ⟨cs',us,q1,q2,q3,_,_,_,q7,_⟩:=pt_win hs h1
     rw [hb] at q1; cases q1
     have hfit:=hf.1
     simp only [inFit,Bool.and_eq_true,Nat.blt_eq] at hfit
     have hm:=slPv_mem q3 hj hid
     exact ⟨by rw [q2]; exact List.mem_append_left _ hm,q7 id hm,given_pN (by omega) (by omega)⟩
   · obtain ⟨q1,q2⟩:=ptR_ok hs h2 hf.2 (by omega) h
     exact ⟨List.mem_append_right _ q1,q2⟩
theorem ptR_uq (hs:Sim N c0 w0 σ g a w):∀ {is:List In} {y:PtT is} {lp:List Nat} {i:Nat},unPts σ is i = some (y,lp)→is.all inFit = true→i + is.length < 1000→lp.Nodup→∀ {id n n':Nat},ptR σ is i id n→ptR σ is i id n'→n = n'
 | [],_,_,_,_,_,_,_,_,_,_,h,_=>h.elim
 | i::r,y,lp,k,hu,hf,hl,hn,id,n,n',h,h'=>by
   obtain ⟨l1,l2,h1,h2,rfl⟩:=unPts_cons hu
   simp only [List.all_cons,Bool.and_eq_true] at hf
   simp only [List.length_cons] at hl
   rw [List.nodup_append] at hn
   have hd:∀ {n},(∃ t cs,i = .pt t ∧ σ.box (pN k) = some (.cells cs) ∧ slR t cs (pN k + 1) id n)→id ∈ l1:=fun ⟨t,cs,e,hb,j,hj,hid,_⟩=>by
    subst e
    obtain ⟨cs',us,q1,q2,q3,_⟩:=pt_win hs h1
    rw [hb] at q1; cases q1
    rw [q2]; exact slPv_mem q3 hj hid
   rcases ptR_skip h with q | q <;> rcases ptR_skip h' with q' | q'
   · obtain ⟨t,cs,rfl,hb,hr⟩:=q
     obtain ⟨t',cs',e,hb',hr'⟩:=q'
     cases e
     rw [hb] at hb'; cases hb'
     obtain ⟨cs',us,q1,q2,q3,_⟩:=pt_win hs h1
     rw [hb] at q1; cases q1
     exact slR_uq q3 (by rw [← q2]; exact hn.1) hr hr'
   · exact absurd rfl (hn.2.2 id (hd q) id (ptR_ok hs h2 hf.2 (by omega) q').1)
   · exact absurd rfl (hn.2.2 id (hd q') id (ptR_ok hs h2 hf.2 (by omega) q).1)
   · exact ptR_uq hs h2 hf.2 (by omega) hn.2.1 q q'
theorem ow_rep (hs:Sim N c0 w0 σ g a w) (hst:∀ id,wBase≤id→∀ b o n,¬ Rn id b o n) {base:Nat} (hb:wBase≤base):∀ {t:Ty} {x' y:t.T} {us:List Value} {j:Nat},SlP (fun j _ _ h=>h = N.h0 (base + j)) t x' us j→unPt1.unOw σ.box base t j = some y→SlW (fun j u y h=>RowF N.n0 (colF w0 g Rn) w (base + j) u y h) t y us j:=by
 intro t
 induction t with
 | pair p q ihp ihq =>
   rintro x' y us j ⟨v1,v2,rfl,h1,h2⟩ h
   simp only [unPt1.unOw] at h
   split at h
   · rename_i y1 e1
     split at h
     · rename_i y2 e2
       simp only [Option.some.injEq] at h; subst h
       exact ⟨v1,v2,rfl,ihp h1 e1,ihq h2 e2⟩
     · cases h
   · cases h
 | sl u ih =>
   rintro x' y us j ⟨h,rfl,rfl⟩ hu
   simp only [unPt1.unOw] at hu
   split at hu
   · rename_i t x hbx
     split at hu
     · rename_i hbq
       obtain rfl:=Ty.eq_of_beq hbq
       simp only [Option.some.injEq,castT] at hu; subst hu
       obtain ⟨d1,d2,_,d4,d5⟩:=hs.box _ _ hbx
       obtain ⟨f1,f2⟩:=hs.fix (base + j) (by omega) 0
       rw [f1 d1,f2 d2] at d4
       refine ⟨_,rfl,g.R (base + j),RowR.recol d4,fun b o hR=>?_⟩
       obtain ⟨a1,a2⟩:=d5 b o hR
       refine ⟨colF_stay a1 (hst _ (by omega) b o) ⟨by unfold wBase pBase at *; omega,fun q=>?_⟩,a2⟩
       have:=q.2.1; omega
     · cases hu
   · cases hu
 | int k=>intro x' y us j h _; have h:us = _:=h; rw [h]; rfl
 | bool=>intro x' y us j h _; have h:us = _:=h; rw [h]; rfl
 | str=>intro x' y us j h _; have h:us = _:=h; rw [h]; rfl
 | unit=>intro x' y us j h _; have h:us = _:=h; rw [h]; rfl
theorem pts_rep (hs:Sim N c0 w0 σ g a w) (hu:RnUq Rn) (hst:∀ id,wBase≤id→∀ b o n,¬ Rn id b o n):∀ {is:List In} {y:PtT is} {lp:List Nat} {i:Nat} {vs:List Value},unPts σ is i = some (y,lp)→vs.length = is.length→(∀ (k:Nat) t,(is[k]? = some (.pt t) ∨ is[k]? = some (.pd t))→∃ b o,vs[k]? = some (.pointer (some ⟨b,o,none⟩)) ∧ N.b0 (pN (i + k)) = (b,o)) →
 (∀ (k:Nat) t,is[k]? = some (.ow t)→∃ (us:List Value) (x':t.T),vs[k]? = some (mkV t us) ∧ SlP (fun j _ _ h=>h = N.h0 (wN (i + k) + j)) t x' us 0)→(∀ id n,ptR σ is i id n→∀ b o,Rn id b o n)→PtsRep N.n0 (colF w0 g Rn) w is y i vs
 | [],_,_,_,_,_,_,_,_,_=>by simp only [PtsRep]
 | b::r,y,lp,i,[],_,hl,_,_,_=>by simp at hl
 | b::r,y,lp,i,v::vs,h,hl,hpt,how,hR=>by
   obtain ⟨l1,l2,h1,h2,rfl⟩:=unPts_cons h
   refine ⟨v,vs,rfl,?_,pts_rep hs hu hst h2 (by simpa using hl) (fun k t e=>?_) (fun k t e=>?_) fun id n q=>hR id n (ptR_tail q)⟩
   · cases b with
     | pt t =>
       obtain ⟨cs,us,q1,q2,q3,q4,q5,q6,q7,q8⟩:=pt_win hs h1
       obtain ⟨b,o,e1,e2⟩:=hpt 0 t (.inl rfl)
       simp only [List.getElem?_cons_zero,Option.some.injEq] at e1
       subst e1
       have hbx:g.bx (pN i) = (b,o):=(hs.pts _ (by unfold pN pBase; omega) q6).trans e2
       rw [hbx] at q5
       refine ⟨b,o,us,rfl,q8.mono fun j u y h _ hj hq=>rowP_out hu (fun id hid b o=>hR id _ (.inl ⟨cs,q1,j,by omega,hid,rfl⟩) b o) hq,fun j u hj=>?_⟩
       have:=(q5 j u hj).2.1
       rwa [hbx] at this
     | ow t =>
       obtain ⟨us,x',e1,e2⟩:=how 0 t rfl
       simp only [List.getElem?_cons_zero,Option.some.injEq] at e1
       subst e1
       refine ⟨us,rfl,?_⟩
       simp only [unPt1] at h1
       split at h1
       · rename_i z hz
         simp only [Option.some.injEq,Prod.mk.injEq] at h1
         have:=ow_rep hs hst (base:=wN i) (by unfold wN; omega) e2 hz
         rw [← h1.1]
         exact this
       · cases h1
     | pd t =>
       simp only [unPt1] at h1
       split at h1
       · rename_i cs hbx
         split at h1
         · rename_i x hx
           simp only [Option.some.injEq,Prod.mk.injEq] at h1
           rw [← h1.1]
           obtain ⟨b,o,e1,e2⟩:=hpt 0 t (.inr rfl)
           simp only [List.getElem?_cons_zero,Option.some.injEq] at e1
           subst e1
           obtain ⟨d1,us,d2,d3⟩:=hs.box _ _ hbx
           have hb:g.bx (pN i) = (b,o):=(hs.pts _ (by unfold pN pBase; omega) d1).trans e2
           refine ⟨b,o,us,rfl,RepT.mono (gstays_colF w0 g Rn w).toStays _ _ _ (unA_rep hx d2),fun j u hj=>?_⟩
           have:=(d3 j u hj).2.1
           rwa [hb] at this
         · cases h1
       · cases h1
     | _=>trivial
   · obtain ⟨b,o,e1,e2⟩:=hpt (k + 1) t (by simpa using e)
     exact ⟨b,o,by simpa using e1,by rw [show i + 1 + k = i + (k + 1) by omega]; exact e2⟩
   · obtain ⟨us,x',e1,e2⟩:=how (k + 1) t (by simpa using e)
     exact ⟨us,x',by simpa using e1,by rw [show i + 1 + k = i + (k + 1) by omega]; exact e2⟩
theorem ptr_run {c:Ctr} (hs:Sim N c0 w0 σ g a w) (hc:ColOk c c0 w0) (hn:noMv c.ins = true) (hu:RnUq Rn):∀ {ts:List Ty} {vs:List ResultVar} {y:TysT ts},unPtr P σ ts vs = some y→(∀ id n,ptrR P σ vs id n→∀ b o,Rn id b o n) →
 ∃ (u:Value) (r:Nat),(vs.mapM (resStep a.tmps)).run P w = .ok [u] w ∧ PtrRep (colF w0 g Rn) w0 w ts y u ∧ r < pBase ∧ g.db r ∧ ∀ id n,ptrR P σ vs id n→id = r
 | [],_,_,h,_=>by simp [unPtr] at h
 | [t],[],_,h,_=>by simp [unPtr] at h
 | [t],[v],y,h,hR=>by
   simp only [unPtr] at h
   split at h
   · rename_i id hp
     cases hlt:Nat.blt id pBase with
     | false=>rw [hlt] at h; cases h
     | true =>
       rw [hlt] at h
       simp only [cond_true] at h
       have hlt:id < pBase:=by simpa using hlt
       split at h
       · rename_i cs hb
         split at h
         · rename_i x hx
           cases hsz:Nat.blt 0 t.size with
           | false=>rw [hsz] at h; cases h
           | true =>
             rw [hsz] at h
             simp only [cond_true,Option.some.injEq] at h
             subst h
             have hsz:0 < t.size:=by simpa using hsz
             obtain ⟨u,h3,h4⟩:=res_run hs hp
             simp only [Rep] at h4
             obtain ⟨_,rfl⟩:=h4
             obtain ⟨d1,us,d2,d3⟩:=hs.box _ _ hb
             have hrep:=unA_rep hx d2
             have hul:=hrep.length
             have hns:¬ stay id:=by rintro (q | ⟨q,_⟩) <;> (unfold wBase pBase at *; omega)
             refine ⟨_,id,?_,⟨(g.bx id).1,(g.bx id).2 + 0,us,rfl,?_,RepT.mono (gstays_colF w0 g Rn w).toStays _ _ _ hrep,fun j u hj=>?_⟩,hlt,d1,fun id' n ⟨v',e1,e2,_⟩=>?_⟩
             · rw [List.mapM_cons,List.mapM_nil]
               simp only [Sem.run_bind,h3,Result.andThen_ok,Sem.run_pure]
             · exact made hs hc hn (d3 0 us[0] (List.getElem?_eq_getElem (by omega))).1 hns
             · obtain ⟨q1,q2⟩:=d3 j u hj
               rw [Nat.add_zero]
               exact ⟨colF_rn hu q1 (hR id _ ⟨v,rfl,hp,rfl⟩ _ _),q2⟩
             · cases e1
               rw [hp] at e2; cases e2; rfl
         · cases h
       · cases h
   · cases h
 | [t],_::_::_,_,h,_=>by simp [unPtr] at h
 | _::_::_,_,_,h,_=>by simp [unPtr] at h
theorem resR_ok (hs:Sim N c0 w0 σ g a w) {fr:Nat}:∀ {ts:List Ty} {vs:List ResultVar} {y:TysT ts} {l:List Nat} {j:Nat},unFs P σ fr ts vs = some (y,l)→(∀ {id n:Nat},resR P σ ts vs j id n→id ∈ l ∧ ¬ stay id ∧ oBase≤n) ∧ (l.Nodup→∀ {id n n':Nat},resR P σ ts vs j id n→resR P σ ts vs j id n'→n = n')
 | [],[],y,l,j,_=>⟨fun h=>h.elim,fun _ _ _ _ h=>h.elim⟩
 | [],v::vs,y,l,j,h=>by simp [unFs] at h
 | t::r,[],y,l,j,h=>by simp [unFs] at h
 | t::r,v::vs,y,l,j,h=>by
   simp only [unFs] at h
   split at h
   · rename_i p hp
     split at h
     · rename_i hag
       split at h
       · rename_i x hx
         split at h
         · rename_i y2 l2 hy
           simp only [Option.some.injEq,Prod.mk.injEq] at h
           obtain ⟨rfl,rfl⟩:=h
           obtain ⟨i1,i2⟩:=resR_ok hs (j:=j + t.nsl) hy
           obtain ⟨u,_,h4⟩:=res_run hs hp
           obtain ⟨us0,hus0⟩:=cel_reps h4
           have hx:=all0_some hx
           have key:p.cel.length = t.size ∧ ∀ j',j' < t.nsl→∀ id ∈ rowIds [slPv t p.cel j'],¬ stay id:=by
            cases hf:Nat.beq fr 1 with
            | true =>
              rw [hf] at hx
              obtain ⟨c1,v1,v2,e1,_,_,_,k3,_,k5,_⟩:=unM_sl (μ:=σ) (fun id c hc=>hs.box id c hc) hx hus0
              rw [List.append_nil] at e1
              subst e1
              exact ⟨k3,fun j' hj id hid=>mvB_not (k5 id (slPv_mem k3 hj hid)).1⟩
            | false =>
              rw [hf] at hx
              have hslS:∀ {u:Ty} {q:PV} {z:L u.T},slS σ.box u q = some z→∀ id ∈ rowIds [q],id < pBase:=fun {u q z} hq id hid=>by
               unfold slS at hq
               split at hq
               · simp [rowIds] at hid
               · rename_i r v'
                 split at hq
                 · split at hq
                   · rename_i hv _ _ _ _
                     cases hb:(Nat.beq v' _&&Nat.blt r pBase) with
                     | false=>rw [hb] at hq; cases hq
                     | true =>
                       simp only [Bool.and_eq_true,Nat.blt_eq] at hb
                       simp [rowIds] at hid
                       rw [hid]; exact hb.2
                   · cases hq
                 · cases hq
               · cases hq
              have hall:∀ {t:Ty} {cs r:List PV} {z:t.T},unS σ.box t cs = some (z,r)→∃ c1,cs = c1 ++ r ∧ c1.length = t.size ∧ ∀ id ∈ rowIds c1,id < pBase:=by
               intro t
               induction t with
               | int k =>
                 intro cs r z h
                 cases cs with
                 | nil=>simp [unS] at h
                 | cons q qs=>cases q <;> simp [unS] at h; obtain ⟨_,_,rfl⟩:=h; exact ⟨[_],rfl,rfl,by simp [rowIds]⟩
               | bool =>
                 intro cs r z h
                 cases cs with
                 | nil=>simp [unS] at h
                 | cons q qs=>cases q <;> simp [unS] at h; obtain ⟨_,rfl⟩:=h; exact ⟨[_],rfl,rfl,by simp [rowIds]⟩
               | str =>
                 intro cs r z h
                 cases cs with
                 | nil=>simp [unS] at h
                 | cons q qs=>cases q <;> simp [unS] at h; obtain ⟨_,rfl⟩:=h; exact ⟨[_],rfl,rfl,by simp [rowIds]⟩
               | unit=>intro cs r z h; simp [unS] at h; subst h; exact ⟨[],rfl,rfl,by simp [rowIds]⟩
               | pair a b iha ihb =>
                 intro cs r z h
                 simp only [unS] at h
                 split at h
                 · rename_i x1 r1 h1
                   split at h
                   · rename_i x2 r2 h2
                     simp only [Option.some.injEq,Prod.mk.injEq] at h
                     obtain ⟨_,rfl⟩:=h
                     obtain ⟨c1,rfl,q1,q2⟩:=iha h1
                     obtain ⟨d1,rfl,q3,q4⟩:=ihb h2
                     refine ⟨c1 ++ d1,by simp,by simp [q1,q3,Ty.size],fun id hid=>?_⟩
                     rw [rowIds_append] at hid
                     exact (List.mem_append.mp hid).elim (q2 id) (q4 id)
                   · cases h
                 · cases h
               | sl u ih =>
                 intro cs r z h
                 cases cs with
                 | nil=>simp [unS] at h
                 | cons q qs =>
                   simp only [unS] at h
                   split at h
                   · rename_i y' h1
                     simp only [Option.some.injEq,Prod.mk.injEq] at h
                     obtain ⟨_,rfl⟩:=h
                     exact ⟨[q],rfl,rfl,hslS h1⟩
                   · cases h
              obtain ⟨c1,e1,k3,k4⟩:=hall hx
              rw [List.append_nil] at e1
              rw [e1]
              refine ⟨k3,fun j' hj id hid=>?_⟩
              have:=k4 id (slPv_mem k3 hj hid)
              rintro (q | ⟨q,_⟩) <;> (unfold wBase pBase at *; omega)
           obtain ⟨kl,kn⟩:=key
           refine ⟨fun {id n} h=>?_,fun hnd {id n n'} h h'=>?_⟩
           · rcases h with ⟨p',e,j',hj,hid,rfl⟩ | h
             · rw [hp] at e; cases e
               exact ⟨List.mem_append_left _ (slPv_mem kl hj hid),kn j' hj id hid,by omega⟩
             · obtain ⟨q1,q2⟩:=i1 h
               exact ⟨List.mem_append_right _ q1,q2⟩
           · rw [List.nodup_append] at hnd
             have hd:∀ {n},(∃ p,resPV P σ v = some p ∧ slR t p.cel (oBase + j) id n)→id ∈ rowIds p.cel:=fun ⟨p',e,j',hj,hid,_⟩=>by
              rw [hp] at e; cases e
              exact slPv_mem kl hj hid
             rcases h with q | q <;> rcases h' with q' | q'
             · obtain ⟨p',e,q⟩:=q
               obtain ⟨p'',e',q'⟩:=q'
               rw [hp] at e e'; cases e; cases e'
               exact slR_uq kl hnd.1 q q'
             · exact absurd rfl (hnd.2.2 id (hd q) id (i1 q').1)
             · exact absurd rfl (hnd.2.2 id (hd q') id (i1 q).1)
             · exact i2 hnd.2.1 q q'
         · cases h
       · cases h
     · cases h
   · cases h
end
end Go.VE
