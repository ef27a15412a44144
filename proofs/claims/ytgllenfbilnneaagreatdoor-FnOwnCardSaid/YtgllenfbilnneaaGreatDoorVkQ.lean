import Derived.Test.YtgllenfbilnneaaGreatDoorVkP
/- Calls: what is handed in. -/
namespace Go.VE
section
variable {P:Program} {N:Fr} {c0:Nat→Nat→Col} {w0:World} {σ μ:AS} {g:Gh} {a:Act} {w:World} {box:Nat→Option aU} {fP:List Nat} {W:List Au}
def yN:PV→List Nat
 | .bx id _=>[id]
 | .me id _ _ _ _=>[id]
 | .mp id _ _ _ _ _ _=>[id]
 | _=>[]
theorem nC (hb:bK g w box) {n:Nat} {p:PV} {cs:List PV} {v:Value} (h:dS box n p = some cs) (hr:aF g w p v) :
 ∃ b o us,v = .pointer (some ⟨b,o,none⟩) ∧ ak g w cs us ∧ ∀ (j:Nat) (u:Value),us[j]? = some u→w.cell? ⟨b,o + j,none⟩ = some u ∧ (g.col b (o + j) = .st ∨ ∃ id ∈ yN p,g.col b (o + j) = .bx id):=by
 have tk:∀ {cs:List PV} {us:List Value} {b o:Nat} {ids:List Nat} (off:Nat),ak g w cs us→(∀ (j:Nat) (u:Value),us[j]? = some u→w.cell? ⟨b,o + j,none⟩ = some u ∧ (g.col b (o + j) = .st ∨ ∃ id ∈ ids,g.col b (o + j) = .bx id)) →
  ak g w ((cs.drop off).take n) ((us.drop off).take n) ∧ ∀ (j:Nat) (u:Value),((us.drop off).take n)[j]? = some u→w.cell? ⟨b,o + off + j,none⟩ = some u ∧ (g.col b (o + off + j) = .st ∨ ∃ id ∈ ids,g.col b (o + off + j) = .bx id):=by
  intro cs us b o ids off h1 h2
  refine ⟨(h1.drop off).take n,fun j u hj=>?_⟩
  rw [List.getElem?_take] at hj
  split at hj
  · rw [List.getElem?_drop] at hj
    have:=h2 _ u hj
    rwa [← Nat.add_assoc] at this
  · cases hj
 cases p <;> simp only [dS] at h <;> try cases h
 · rename_i id off
   simp only [aF] at hr
   obtain ⟨_,rfl⟩:=hr
   split at h
   · rename_i cs' hbx
     simp only [Option.some.injEq] at h; subst h
     obtain ⟨_,us,h2,h3⟩:=hb _ _ hbx
     obtain ⟨k1,k2⟩:=tk (b:=(g.bx id).1) (o:=(g.bx id).2) (ids:=[id]) off h2 fun j u hj=>⟨(h3 j u hj).2.1,.inr ⟨id,by simp,(h3 j u hj).1⟩⟩
     exact ⟨_,_,_,rfl,k1,k2⟩
   · cases h
 · rename_i id u' sz i off
   simp only [aF] at hr
   obtain ⟨_,hi,ad,had,rfl⟩:=hr
   split at h
   · rename_i ty x own hv nv hbx
     cases hq:(Nat.beq u' hv&&Nat.beq sz ty.size) with
     | false=>rw [hq] at h; cases h
     | true =>
       rw [hq] at h
       simp only [cond_true,Option.some.injEq] at h; subst h
       simp only [Bool.and_eq_true] at hq
       obtain rfl:=Nat.eq_of_beq_eq_true hq.1
       obtain rfl:=Nat.eq_of_beq_eq_true hq.2
       obtain ⟨_,hn,hni,⟨⟨hl,hc,_⟩,ho,he⟩,hp⟩:=hb _ _ hbx
       obtain ⟨us,q1,q2,q3⟩:=he i (by omega)
       obtain ⟨k1,k2⟩:=tk (b:=ad.block) (o:=ad.off + i * ty.size) (ids:=[id]) off (FD hn (by omega) q2) fun j u hj=>⟨q3 ad had j u hj,.inr ⟨id,by simp,(hp _ _ (by
        have hjl:j < ty.size:=by rw [← q1]; exact (List.getElem?_eq_some_iff.mp hj).1
        have:=((ho ad had).2 (i * ty.size + j) (Nat.lt_of_lt_of_le (iy (n:=x.len) (by omega) hjl) (Nat.mul_le_mul_right _ hc))).1
        rw [← Nat.add_assoc] at this
        rw [this]; simp)).1⟩⟩
       exact ⟨_,_,_,rfl,k1,k2⟩
   · cases h
 · rename_i id u' i j sz k off
   simp only [aF] at hr
   obtain ⟨_,hi,hk,ad,had,rfl⟩:=hr
   split at h
   · rename_i ty x own hv nv hbx
     cases hq:Nat.beq u' nv with
     | false=>rw [hq] at h; cases h
     | true =>
       rw [hq] at h
       simp only [cond_true] at h
       obtain rfl:=Nat.eq_of_beq_eq_true hq
       split at h
       · rename_i ut y hy
         cases hq2:(Nat.beq sz ut.size&&ut.flat) with
         | false=>rw [hq2] at h; cases h
         | true =>
           rw [hq2] at h
           simp only [cond_true,Option.some.injEq] at h; subst h
           simp only [Bool.and_eq_true] at hq2
           obtain rfl:=Nat.eq_of_beq_eq_true hq2.1
           obtain ⟨_,hn,hni,_,_⟩:=hb _ _ hbx
           obtain ⟨a',cap',e,q1,_,q4⟩:=Nz (σ:={ env:=fun _=>.any,box:=box }) hb hbx (by omega) hy
           simp only [gP,List.cons.injEq,Value.slice.injEq,and_true] at e
           obtain ⟨rfl,e2,rfl⟩:=e
           obtain ⟨us,q6,q7⟩:=(q4 ad had).2 k (by omega)
           obtain ⟨v',hns⟩:=qg (σ:={ env:=fun _=>.any,box:=box }) (u:=0) hb hbx (by omega) hy
           have gG:∀ j',j' < us.length→g.col ad.block (ad.off + k * ut.size + j') = .st ∨ ∃ id' ∈ [id],g.col ad.block (ad.off + k * ut.size + j') = .bx id':=by
            intro j' hj'
            have hs:=(q7 j' us[j'] (List.getElem?_eq_getElem hj')).1
            simp only [Nw] at hs
            cases hc:g.col ad.block (ad.off + k * ut.size + j') with
            | st=>exact .inl rfl
            | free=>rw [hc] at hs; cases hs
            | bx id' =>
              cases own with
              | none =>
                obtain ⟨_,_,h5,_⟩:=hns
                obtain ⟨_,h6,_⟩:=h5 rfl
                have h7:=((h6 ad had).2 (k * ut.size + j') (Nat.lt_of_lt_of_le (iy (n:=y.len) (by omega) (by rw [← q6.length]; exact hj')) (Nat.mul_le_mul_right _ q1))).1
                rw [← Nat.add_assoc] at h7
                obtain ⟨_,_,_,_,hp⟩:=hb _ _ hbx
                have h8:=(hp _ _ (by rw [h7]; simp)).1
                rw [hc] at h8; cases h8
                exact .inr ⟨_,List.mem_singleton.mpr rfl,rfl⟩
              | some f =>
                cases hf:f i with
                | true =>
                  obtain ⟨_,_,h5,_⟩:=hns
                  obtain ⟨_,h6,_⟩:=h5 hf
                  have h7:=((h6 ad had).2 (k * ut.size + j') (Nat.lt_of_lt_of_le (iy (n:=y.len) (by omega) (by rw [← q6.length]; exact hj')) (Nat.mul_le_mul_right _ q1))).1
                  rw [← Nat.add_assoc] at h7
                  obtain ⟨_,_,_,_,hp⟩:=hb _ _ hbx
                  have h8:=(hp _ _ (by rw [h7]; simp)).1
                  rw [hc] at h8; cases h8
                  exact .inr ⟨_,List.mem_singleton.mpr rfl,rfl⟩
                | false =>
                  obtain ⟨e5,_,_,h5⟩:=hns
                  obtain ⟨a2,c2,e6,_,_,r4⟩:=h5 hf
                  rw [e5] at e6
                  simp only [gP,List.cons.injEq,Value.slice.injEq,and_true] at e6
                  obtain ⟨e7,_,_⟩:=e6
                  rw [had] at e7
                  obtain ⟨us2,r5,r6⟩:=(r4 ad e7.symm).2 k (by omega)
                  have hj2:j' < us2.length:=by rw [r5.length,← q6.length]; exact hj'
                  have:=(r6 j' us2[j'] (List.getElem?_eq_getElem hj2)).1
                  rw [hc] at this; cases this
           obtain ⟨k1,k2⟩:=tk (b:=ad.block) (o:=ad.off + k * ut.size) (ids:=[id]) off (gK (bC.flat (c':=g.col) (w':=w) hq2.2 q6)) fun j' u hj=>⟨(q7 j' u hj).2,gG j' (List.getElem?_eq_some_iff.mp hj).1⟩
           exact ⟨_,_,_,rfl,k1,k2⟩
       · cases h
   · cases h
 · rename_i cs'
   simp only [aF] at hr
   obtain ⟨b,o,us,rfl,h2,h3⟩:=hr
   obtain ⟨k1,k2⟩:=tk (b:=b) (o:=o) (ids:=yN (.rf cs')) 0 h2 fun j u hj=>⟨(h3 j u hj).2,.inl (h3 j u hj).1⟩
   exact ⟨b,o,_,rfl,k1,k2⟩
theorem IU {n:Nat} {p:PV}:∀ id ∈ yN p,id ∈ Ck box n p:=by
 intro id hid
 unfold Ck
 cases p <;> simp only [yN,List.not_mem_nil] at hid <;> simp at hid <;> subst hid <;> simp
theorem FN (hb:bK g w box) {t:Ty} {p:PV} {x:t.T} {v:Value} (h:Rx box t p = some x) (hr:aF g w p v) (hin:∀ id ∈ Ck box t.size p,id ∈ fP):IJ (dI g fP W) w t x v:=by
 unfold Rx at h
 split at h
 · rename_i cs hcs
   obtain ⟨b,o,us,rfl,h1,h2⟩:=nC hb hcs hr
   have h3:=Ai (σ:={ env:=fun _=>.any,box:=box }) hb (xI g w fP W) (fun id hid b o hc=>Ef hc (hin id (by unfold Ck; rw [hcs]; exact List.mem_append_right _ hid))) h1
   refine ⟨b,o,us,rfl,fA h h3,fun j u hj=>⟨?_,(h2 j u hj).1⟩⟩
   rcases (h2 j u hj).2 with q | ⟨id,q1,q2⟩
   · exact Ee q
   · exact Ef q2 (hin id (IU id q1))
 · cases h
theorem Aw (hb:bK g w box):∀ {ts:List Ty} {ps:List PV} {x:dR ts} {vs:List Value},wu box ts ps = some x→ak g w ps vs→(∀ id ∈ zS box ts ps,id ∈ fP)→q9 (dI g fP W) w ts x vs
 | [],ps,x,vs,h,hr,_=>by
   cases ps with
   | nil=>simp only [ak] at hr; exact hr
   | cons p ps=>simp [wu] at h
 | t::r,ps,x,vs,h,hr,hin=>by
   cases ps with
   | nil=>simp [wu] at h
   | cons p ps =>
     simp only [wu] at h
     split at h
     · rename_i x1 h1
       split at h
       · rename_i y1 h2
         cases h
         simp only [ak] at hr
         obtain ⟨u,us,rfl,h3,h4⟩:=hr
         exact ⟨u,us,rfl,FN hb h1 h3 fun id hid=>hin id (by simp only [zS,List.mem_append]; exact .inl hid),Aw hb h2 h4 fun id hid=>hin id (by simp only [zS,List.mem_append]; exact .inr hid)⟩
       · cases h
     · cases h
def OwP (g:Gh) (box:Nat→Option aU) (p:PV) (u:Ty) (y:L u.T) (h:bT):Prop :=
 (p = .l9 ∧ y = iO u ∧ h = (none,0,0)) ∨ (∃ r v nv,p = .ms r v ∧ box r = some (.row u y none v nv) ∧ h = g.hd r v) ∨
 ∃ r v i j t x hv,p = .mn r v i j ∧ box r = some (.row t x none hv v) ∧ sI t (x.get i) j = some ⟨u,y⟩ ∧ i < x.len ∧ h = g.nh r v i j
theorem Y6 (hb:bK g w box) {u:Ty} {p:PV} {y:L u.T} {v:Value} (h:owC box u p = some y) (hr:aF g w p v):∃ hd,v = gP hd ∧ OwP g box p u y hd:=by
 unfold owC at h
 split at h
 · simp only [Option.some.injEq] at h; subst h
   simp only [aF] at hr
   exact ⟨(none,0,0),hr,.inl ⟨rfl,rfl,rfl⟩⟩
 · rename_i r v'
   split at h
   · rename_i t x hv nv hbx
     split at h
     · rename_i hbq
       obtain rfl:=Ty.eq_of_beq hbq
       cases hq:Nat.beq v' hv with
       | false=>rw [hq] at h; cases h
       | true =>
         rw [hq] at h
         simp only [cond_true,Option.some.injEq,dx] at h
         subst h
         obtain rfl:=Nat.eq_of_beq_eq_true hq
         simp only [aF] at hr
         exact ⟨_,hr.2,.inr (.inl ⟨r,v',nv,rfl,hbx,rfl⟩)⟩
     · cases h
   · cases h
 · rename_i r v' i j
   split at h
   · rename_i t x hv nv hbx
     split at h
     · rename_i u' z hz
       split at h
       · rename_i hbq
         obtain rfl:=Ty.eq_of_beq hbq
         cases hq:Nat.beq v' nv with
         | false=>rw [hq] at h; cases h
         | true =>
           rw [hq] at h
           simp only [cond_true,Option.some.injEq,dx] at h
           subst h
           obtain rfl:=Nat.eq_of_beq_eq_true hq
           simp only [aF] at hr
           obtain ⟨_,hi,e⟩:=hr
           obtain ⟨_,_,hni,_⟩:=hb _ _ hbx
           exact ⟨_,e,.inr (.inr ⟨r,v',i,j,t,x,hv,rfl,hbx,hz,by omega,rfl⟩)⟩
       · cases h
     · cases h
   · cases h
 · cases h
theorem wP (hb:bK g w box):∀ {t:Ty} {cs r:List PV} {y:t.T} {vs:List Value},JB box t cs = some (y,r)→ak g w cs vs →
 ∃ c1 v1 v2,cs = c1 ++ r ∧ vs = v1 ++ v2 ∧ ak g w r v2 ∧ c1.length = t.size ∧ ∀ j0,jJ (fun j u y h=>OwP g box (dX t c1 (j - j0)) u y h) t y v1 j0:=by
 intro t
 induction t with
 | int k =>
   intro cs r y vs h hr
   cases cs with
   | nil=>simp [JB] at h
   | cons p ps =>
     cases p <;> simp [JB] at h
     obtain ⟨rfl,rfl,rfl⟩:=h
     simp only [ak,aF] at hr
     obtain ⟨u,us,rfl,rfl,h3⟩:=hr
     exact ⟨[_],[_],us,rfl,rfl,h3,rfl,fun _=>rfl⟩
 | bool =>
   intro cs r y vs h hr
   cases cs with
   | nil=>simp [JB] at h
   | cons p ps =>
     cases p <;> simp [JB] at h
     obtain ⟨rfl,rfl⟩:=h
     simp only [ak,aF] at hr
     obtain ⟨u,us,rfl,rfl,h3⟩:=hr
     exact ⟨[_],[_],us,rfl,rfl,h3,rfl,fun _=>rfl⟩
 | str =>
   intro cs r y vs h hr
   cases cs with
   | nil=>simp [JB] at h
   | cons p ps =>
     cases p <;> simp [JB] at h
     obtain ⟨rfl,rfl⟩:=h
     simp only [ak,aF] at hr
     obtain ⟨u,us,rfl,rfl,h3⟩:=hr
     exact ⟨[_],[_],us,rfl,rfl,h3,rfl,fun _=>rfl⟩
 | unit =>
   intro cs r y vs h hr
   simp [JB] at h
   subst h
   exact ⟨[],[],vs,rfl,rfl,hr,rfl,fun _=>rfl⟩
 | pair p q Iw Iy =>
   intro cs r y vs h hr
   simp only [JB] at h
   split at h
   · rename_i x1 r1 h1
     split at h
     · rename_i x2 r2 h2
       simp only [Option.some.injEq,Prod.mk.injEq] at h
       obtain ⟨rfl,rfl⟩:=h
       obtain ⟨c1,v1,v2,rfl,rfl,k1,k3,k6⟩:=Iw h1 hr
       obtain ⟨d1,u1,u2,rfl,rfl,l1,l3,l6⟩:=Iy h2 k1
       have e1:(c1 ++ d1).take p.size = c1:=by rw [← k3]; exact List.take_left
       have e2:(c1 ++ d1).drop p.size = d1:=by rw [← k3]; exact List.drop_left
       refine ⟨c1 ++ d1,v1 ++ u1,u2,by simp,by simp,l1,by simp [k3,l3,Ty.size],fun j0=>⟨v1,u1,rfl,(k6 j0).mono fun j u y h a1 a2 hq=>?_,(l6 (j0 + p.bJ)).mono fun j u y h a1 a2 hq=>?_⟩⟩
       · have hb':Nat.blt (j - j0) p.bJ = true:=by rw [Nat.blt_eq]; omega
         simp only [dX,hb',cond_true,e1]
         exact hq
       · have hb':Nat.blt (j - j0) p.bJ = false:=by rw [Bool.eq_false_iff]; intro q; have:=Nat.blt_eq.mp q; omega
         simp only [dX,hb',cond_false,e2]
         rw [show j - j0 - p.bJ = j - (j0 + p.bJ) by omega]
         exact hq
     · cases h
   · cases h
 | sl u ih =>
   intro cs r y vs h hr
   cases cs with
   | nil=>simp [JB] at h
   | cons p ps =>
     simp only [JB] at h
     split at h
     · rename_i y' h1
       simp only [Option.some.injEq,Prod.mk.injEq] at h
       obtain ⟨rfl,rfl⟩:=h
       simp only [ak] at hr
       obtain ⟨v,us,rfl,h2,h3⟩:=hr
       obtain ⟨hd,rfl,h4⟩:=Y6 hb h1 h2
       exact ⟨[p],[_],us,rfl,rfl,h3,rfl,fun j0=>⟨hd,rfl,h4⟩⟩
     · cases h
theorem Ay {t:Ty} {p:PV} {v:Value} (ha:(p.DR == t.isAgg) = true) (hl:p.dY.length = t.size) (hr:aF g w p v):∃ us,ak g w p.dY us ∧ v = mkV t us:=by
 cases p with
 | agg cs =>
   simp only [aF] at hr
   obtain ⟨vs,rfl,h2⟩:=hr
   refine ⟨vs,h2,?_⟩
   cases t <;> simp [PV.DR,Ty.isAgg] at ha <;> rfl
 | _ =>
   refine ⟨[v],by simp only [PV.dY,ak]; exact ⟨v,[],rfl,hr,rfl⟩,?_⟩
   cases t <;> simp [PV.DR,Ty.isAgg] at ha <;> rfl
def M0 (g:Gh) (box:Nat→Option aU) (ins:List In) (ps:List PV) (m:Nat):Nat→Nat→bT:=match ins[(m - dV) / 64]?,ps[(m - dV) / 64]? with
 | some (.ow t),some p=>match dX t p.dY ((m - dV) % 64) with
   | .ms r _=>match box r with
     | some (.row _ _ _ _ nv)=>g.nh r nv
     | _=>fun _ _=>(none,0,0)
   | _=>fun _ _=>(none,0,0)
 | _,_=>fun _ _=>(none,0,0)
theorem N8 {ins:List In} {ps:List PV} {pos j:Nat} {t:Ty} {p:PV} {r v:Nat} {ty:Ty} {x:L ty.T} {own:Option (Nat→Bool)} {hv nv:Nat} (hi:ins[pos]? = some (.ow t)) (hp:ps[pos]? = some p) (hj:j < 64) (hs:dX t p.dY j = .ms r v) (hb:box r = some (.row ty x own hv nv)) :
 M0 g box ins ps (wN pos + j) = g.nh r nv:=by
 have e1:(wN pos + j - dV) / 64 = pos:=by unfold wN; omega
 have e2:(wN pos + j - dV) % 64 = j:=by unfold wN; omega
 unfold M0
 rw [e1,e2,hi,hp]
 simp only [hs,hb]
theorem FP {R:iI} {nh:Nat→Nat→bT} {c c':Nat→Nat→Col} {i j:Nat} {u:Ty} {y:L u.T} {v:Value} (hn:bD c w R nh true i (.sl u) y [v] j) (lD:Nat→Nat→bT) (R':iI) (hR:∀ b o,R b o = some (some (i,j))→R' b o = some none):u.flat = true ∧ cB c' w R' lD (fun _=>true) u y (nh i j):=by
 obtain ⟨_,h1,h2,_⟩:=hn
 obtain ⟨hf,h3,h4⟩:=h2 rfl
 exact ⟨hf,h1,h3.mono fun b o v a1 a2 a3=>⟨hR b o a1,⟨v,a2⟩,a3⟩,fun k hk=>by obtain ⟨us,q1,q2,q3⟩:=h4 k hk; exact ⟨us,q1,bD.of_flat hf q2,q3⟩⟩
theorem iT {p:PV} {n:Nat} {e:Au} (h:e ∈ jm g p n):e.1 ∈ eF p ∧ e.2.2 = n:=by
 cases p <;> simp [jm,eF] at h ⊢ <;> simp [h]
theorem fQ {t:Ty} {cs:List PV} {n:Nat} {e:Au}:e ∈ Av g t cs n ↔ ∃ j,j < t.bJ ∧ e ∈ jm g (dX t cs j) (n + j):=by
 simp [Av,List.mem_flatMap]
theorem fT {p:PV} {n:Nat} {e:Au} (h:e ∈ IQ p n):e.1 ∈ ay [p] ∧ e.2.2 = n:=by
 obtain ⟨r,hr,rfl⟩:=List.mem_map.mp h
 exact ⟨hr,rfl⟩
theorem dW {t:Ty} {cs:List PV} {n:Nat} {e:Au}:e ∈ kF t cs n ↔ ∃ j,j < t.bJ ∧ e ∈ IQ (dX t cs j) (n + j):=by
 simp [kF,List.mem_flatMap]
theorem N9 (hu:uN W) {t:Ty} {cs:List PV} {n j:Nat} {u:Ty} {y:L u.T} {h:bT} (hj:j < t.bJ) (hw:∀ e ∈ kF t cs n,e ∈ W ∧ e.1 ∉ fP) (hp:FL g w (ay [dX t cs j]) u y h):mh true (dI g fP W) w (n + j) u y h:=by
 obtain ⟨nh,R,h1,h2⟩:=hp
 refine ⟨nh,R,h1.lM,fun b o hr=>?_⟩
 obtain ⟨⟨r,r1,r2⟩,r3⟩:=h2 b o hr
 refine ⟨?_,r3⟩
 have hm:(r,(fun _ _=>True:Nat→Nat→Prop),n + j) ∈ kF t cs n:=dW.mpr ⟨j,hj,List.mem_map.mpr ⟨r,r1,rfl⟩⟩
 exact lN hu (hw _ hm).1 r2 (hw _ hm).2 trivial
theorem Oa (hb:bK g w box) (hu:uN W) {ins:List In} {yE:List PV} {i:In} {p:PV} {x:i.T} {v:Value} {pos:Nat} (hi:ins[pos]? = some i) (hps:yE[pos]? = some p) (hfit:fu i = true) (h:iL box i p = some x) (hr:aF g w p v) (hin:∀ id ∈ YP box i p,id ∈ fP)
 (hw:∀ e ∈ bg g box i p pos,e ∈ W ∧ e.1 ∉ fP):IK (M0 g box ins yE) (dI g fP W) w i x pos v:=by
 cases i with
 | v t =>
   simp only [iL] at h
   have h1:=RH (σ:={ env:=fun _=>.any,box:=box }) hb (xI g w fP W) (fun id hid b o hc=>Ef hc (hin id hid)) hr
   exact DY (g:={ g with col:=dI g fP W }) h h1
 | rf t =>
   simp only [iL] at h
   exact FN hb h hr hin
 | nl =>
   cases p <;> simp only [iL] at h <;> try cases h
   show v = _
   simpa only [aF] using hr
 | pW f ts =>
   cases p <;> simp only [iL] at h <;> try cases h
   rename_i f' caps
   split at h
   · rename_i hq
     obtain rfl:=Nat.eq_of_beq_eq_true hq
     simp only [aF] at hr
     obtain ⟨vs,e,h2⟩:=hr
     exact ⟨vs,e,Aw hb h h2 hin⟩
   · cases h
 | mv t =>
   simp only [iL] at h
   split at h
   · rename_i hag
     have h1:=dF h
     obtain ⟨Uw,su⟩:=gU hr
     obtain ⟨c1,v1,v2,e1,_,_,_,k3,_,_,_⟩:=jl (μ:={ env:=fun _=>.any,box:=box }) hb h1 su
     rw [List.append_nil] at e1
     subst e1
     obtain ⟨us,uf,rfl⟩:=Ay hag k3 hr
     obtain ⟨c1,v1,v2,e1,e2,k1,k2,k3,k4,k5,k6⟩:=jl (μ:={ env:=fun _=>.any,box:=box }) hb h1 uf
     rw [List.append_nil] at e1
     subst e1
     simp only [ak] at k1
     subst k1
     rw [List.append_nil] at e2
     subst e2
     refine ⟨us,rfl,(k6 0).mono fun j u y h _ hj hq=>?_⟩
     rw [Nat.sub_zero] at hq
     exact N9 hu (by omega) hw hq
   · cases h
 | ow t =>
   simp only [iL] at h
   split at h
   · rename_i hag
     have h1:=dF h
     obtain ⟨Uw,su⟩:=gU hr
     obtain ⟨c1,v1,v2,e1,_,_,k3,_⟩:=wP hb h1 su
     rw [List.append_nil] at e1
     subst e1
     obtain ⟨us,uf,rfl⟩:=Ay hag k3 hr
     obtain ⟨c1,v1,v2,e1,e2,k1,k3,k6⟩:=wP hb h1 uf
     rw [List.append_nil] at e1
     subst e1
     simp only [ak] at k1
     subst k1
     rw [List.append_nil] at e2
     subst e2
     simp only [fu,Bool.and_eq_true,Nat.blt_eq] at hfit
     refine ⟨us,rfl,(k6 0).mono fun j u y h _ hj hq=>?_⟩
     rw [Nat.sub_zero] at hq
     have hj:j < t.bJ:=by omega
     rcases hq with ⟨q1,rfl,rfl⟩ | ⟨r,v,nv,q1,q2,rfl⟩ | ⟨r,v,k,m,ty,x0,hv,q1,q2,q3,q4,rfl⟩
     · refine ⟨fun _ _=>none,?_,fun _ _ q=>absurd rfl q⟩
       exact ⟨⟨rfl,Nat.le_refl _,fun _=>rfl,by simp [iO]⟩,fun ad e=>(by cases e),fun k hk=>absurd hk (Nat.not_lt_zero k)⟩
     · obtain ⟨_,_,_,h4,h5⟩:=hb _ _ q2
       refine ⟨g.R r,?_,fun b o hr=>?_⟩
       · rw [N8 hi hps (by omega) q1 q2]
         exact cB.lM h4
       · obtain ⟨a1,a2⟩:=h5 b o hr
         have hm:(r,(fun _ _=>True:Nat→Nat→Prop),wN pos + j) ∈ Av g t p.dY (wN pos):=fQ.mpr ⟨j,hj,by rw [q1]; simp [jm]⟩
         exact ⟨lN hu (hw _ hm).1 a1 (hw _ hm).2 trivial,a2⟩
     · obtain ⟨_,_,_,h4,h5⟩:=hb _ _ q2
       obtain ⟨v',hn⟩:=qg (σ:={ env:=fun _=>.any,box:=box }) (u:=0) hb q2 q4 q3
       obtain ⟨hf,hrow⟩:=FP (c':=dI g fP W) hn (M0 g box ins yE (wN pos + j)) (fun b o=>if g.R r b o = some (some (k,m)) then some none else none) (fun b o e=>if_pos e)
       refine ⟨_,hrow,fun b o hr=>?_⟩
       by_cases e:g.R r b o = some (some (k,m))
       · obtain ⟨a1,a2⟩:=h5 b o (by rw [e]; simp)
         have hm:(r,(fun b o=>g.R r b o = some (some (k,m)):Nat→Nat→Prop),wN pos + j) ∈ Av g t p.dY (wN pos):=fQ.mpr ⟨j,hj,by rw [q1]; simp [jm]⟩
         exact ⟨lN hu (hw _ hm).1 a1 (hw _ hm).2 e,a2⟩
       · exact absurd (if_neg e) hr
   · cases h
 | pd t =>
   cases p <;> simp only [iL] at h <;> try cases h
   rename_i id off
   split at h
   · rename_i cs hcs
     have hcs':=hcs
     simp only [dS] at hcs'
     split at hcs'
     · rename_i cs0 hbx
       simp only [Option.some.injEq] at hcs'
       simp only [aF] at hr
       obtain ⟨_,rfl⟩:=hr
       obtain ⟨_,E9,h2,h3⟩:=hb _ _ hbx
       have uf:ak g w cs ((E9.drop off).take t.size):=by rw [← hcs']; exact (h2.drop off).take _
       have h4:=fA h uf
       refine ⟨_,_,(E9.drop off).take t.size,rfl,bC.mono ⟨fun _ _ _ q r=>⟨Ee q,r⟩⟩ _ _ _ h4,fun j u hj=>?_⟩
       rw [List.getElem?_take] at hj
       split at hj
       · rename_i hjt
         rw [List.getElem?_drop] at hj
         obtain ⟨a1,a2,a3⟩:=h3 _ u hj
         rw [← Nat.add_assoc] at a1 a2 a3
         have hm:=hw (id,(fun _ o=>(g.bx id).2 + off≤o ∧ o < (g.bx id).2 + off + t.size:Nat→Nat→Prop),pN pos) (by simp [bg,xG])
         exact ⟨lN hu hm.1 a1 hm.2 (by simp only; omega),a2,a3⟩
       · cases hj
     · cases hcs'
   · cases h
 | pt t =>
   cases p <;> simp only [iL] at h <;> try cases h
   · rename_i id off
     split at h
     · rename_i cs hcs
       have h1:=dF h
       have hcs':=hcs
       simp only [dS] at hcs'
       split at hcs'
       · rename_i cs0 hbx
         simp only [Option.some.injEq] at hcs'
         simp only [aF] at hr
         obtain ⟨_,rfl⟩:=hr
         obtain ⟨_,E9,h2,h3⟩:=hb _ _ hbx
         have uf:ak g w cs ((E9.drop off).take t.size):=by rw [← hcs']; exact (h2.drop off).take _
         obtain ⟨c1,v1,v2,e1,e2,k1,k2,k3,k4,k5,k6⟩:=jl (μ:={ env:=fun _=>.any,box:=box }) hb h1 uf
         rw [List.append_nil] at e1
         subst e1
         simp only [ak] at k1
         subst k1
         rw [List.append_nil] at e2
         rw [e2] at uf
         have hw':∀ e ∈ kF t cs (pN pos + 1),e ∈ W ∧ e.1 ∉ fP:=fun e he=>hw e (by simp only [bg,hcs,Option.getD_some]; exact List.mem_cons_of_mem _ he)
         refine ⟨_,_,v1,rfl,(k6 0).mono fun j u y h _ hj hq=>?_,fun j u hj=>?_⟩
         · rw [Nat.sub_zero] at hq
           exact N9 hu (by omega) hw' hq
         · rw [← e2,List.getElem?_take] at hj
           split at hj
           · rename_i hjt
             rw [List.getElem?_drop] at hj
             obtain ⟨a1,a2,a3⟩:=h3 _ u hj
             rw [← Nat.add_assoc] at a1 a2 a3
             have hm:=hw (id,(fun _ o=>(g.bx id).2 + off≤o ∧ o < (g.bx id).2 + off + t.size:Nat→Nat→Prop),pN pos) (by simp [bg])
             exact ⟨lN hu hm.1 a1 hm.2 (by simp only; omega),a2,a3⟩
           · cases hj
       · cases hcs'
     · cases h
   · rename_i id v sz k off
     cases off with
     | succ off=>cases h
     | zero =>
     change (match box id with
      | some (.row ty x none hv _)=>if h:ty.beq t = true then (bif Nat.beq v hv&&(Nat.beq sz ty.size&&(jI id&&ty.yj)) then some (Ty.eq_of_beq h ▸ x.get k) else none) else none
      | _=>none) = some x at h
     split at h
     · rename_i ty x0 hv nv hbx
       split at h
       · rename_i hbq
         obtain rfl:=Ty.eq_of_beq hbq
         cases hq:(Nat.beq v hv&&(Nat.beq sz ty.size&&(jI id&&ty.yj))) with
         | false=>rw [hq] at h; cases h
         | true =>
           rw [hq] at h
           simp only [cond_true,Option.some.injEq] at h
           subst h
           simp only [Bool.and_eq_true] at hq
           obtain rfl:=Nat.eq_of_beq_eq_true hq.1
           obtain rfl:=Nat.eq_of_beq_eq_true hq.2.1
           simp only [aF] at hr
           obtain ⟨_,hk,ad,had,rfl⟩:=hr
           obtain ⟨_,hn,hni,⟨⟨hl,hc,_⟩,ho,he⟩,hp⟩:=hb _ _ hbx
           obtain ⟨us,q1,q2,q3⟩:=he k (by omega)
           refine ⟨_,_,us,rfl,(jJ.yj hq.2.2.2 q2.toP).mono fun j u y h _ hj hqq=>?_,fun j u hj=>?_⟩
           · obtain ⟨⟨rfl,hns⟩,_⟩:=hqq
             obtain ⟨hf,hrow⟩:=FP (c':=dI g fP W) hns (fun _ _=>(none,0,0)) (fun b o=>if g.R id b o = some (some (k,j)) then some none else none) (fun b o e=>if_pos e)
             refine ⟨_,_,hrow,fun b o hr=>?_⟩
             by_cases e:g.R id b o = some (some (k,j))
             · obtain ⟨a1,a2⟩:=hp b o (by rw [e]; simp)
               have hm:=hw (id,(fun b o=>g.R id b o = some (some (k,j)):Nat→Nat→Prop),pN pos + 1 + j) (by simp only [bg]; exact List.mem_cons_of_mem _ (List.mem_map.mpr ⟨j,List.mem_range.mpr (by omega),rfl⟩))
               exact ⟨lN hu hm.1 a1 hm.2 e,a2⟩
             · exact absurd (if_neg e) hr
           · have hjl:j < ty.size:=by rw [← q1]; exact (List.getElem?_eq_some_iff.mp hj).1
             have hlt:=Nat.lt_of_lt_of_le (iy (n:=x0.len) (i:=k) (by omega) hjl) (Nat.mul_le_mul_right ty.size hc)
             obtain ⟨a1,_,a3⟩:=(ho ad had).2 (k * ty.size + j) hlt
             rw [← Nat.add_assoc] at a1 a3
             have hm:=hw (id,(fun b o=>g.R id b o = some none ∧ ∃ ad,(g.hd id v).1 = some ad ∧ b = ad.block ∧ ad.off + k * ty.size≤o ∧ o < ad.off + k * ty.size + ty.size:Nat→Nat→Prop),pN pos) (by simp [bg])
             rw [Nat.add_zero]
             exact ⟨lN hu hm.1 (hp _ _ (by rw [a1]; simp)).1 hm.2 ⟨a1,ad,had,rfl,by omega,by omega⟩,q3 ad had j u hj,a3⟩
       · cases h
     · cases h
end
end Go.VE
