import Derived.Test.YtgllenfbilnneaaGreatDoorVkZ
/- A loop's shape: the state that it tells of. -/
namespace Go.VE
section
variable {P:Program} {Γ:TypeId→Option Ty} {T:tZ} {N:Fr} {c0:Nat→Nat→Col} {w0:World} {σ:AS} {g:Gh} {a:Act} {w:World}
theorem Da {g':Gh} {id o:Nat} {us:List Value} (hbx:g'.bx = g.bx) (hc:∀ b o,g.col b o = .bx id→g'.col b o = .bx id) (h:JD g w id o us):JD g' w id o us:=fun j v hj=>by
 obtain ⟨q1,q2,q3⟩:=h j v hj
 rw [hbx]
 exact ⟨hc _ _ q1,q2,q3⟩
theorem Mh {own:Option (Nat→Bool)} {n i:Nat} (h:pX own n = true) (hi:i < n):ownB own i = true:=by
 cases own with
 | none=>rfl
 | some f =>
   simp only [pX,List.all_eq_true] at h
   exact h i (List.mem_range.mpr hi)
theorem cB.own {c:Nat→Nat→Col} {R:iI} {nh:Nat→Nat→bT} {own own':Nat→Bool} {t:Ty} {x:L t.T} {h:bT} (ho:∀ i,i < x.len→own i = own' i) (hr:cB c w R nh own t x h):cB c w R nh own' t x h :=
 ⟨hr.1,hr.2.1,fun i hi=>by obtain ⟨us,q1,q2,q3⟩:=hr.2.2 i hi; exact ⟨us,q1,by show bD c w R nh (own' i) i t (x.get i) us 0; rw [← ho i hi]; exact q2,q3⟩⟩
theorem rA (hs:bO N c0 w0 σ g a w):∀ {bs:List (Nat×jd)} {y:oJ bs},je σ.box bs = some y→(∀ i ss t k,(i,jd.cells ss) ∈ bs→Slot.row t k ∈ ss→jI k = true) →
 ∃ L:List RE,(∀ e ∈ L,uT g w e) ∧ L.map (·.n.id) = ((bM bs y).filter fun q=>!q.2.mG).map (·.1) ∧ (L.flatMap (·.src)) = BJ σ.box bs ∧
   (∀ id s,(id,s) ∈ bs→(match s with | .cells _=>True | .typ _=>True | _=>False)→g.db id) ∧
   (∀ id s,(id,s) ∈ bs→(match s with | .row _=>True | .pV _=>True | _=>False)→∃ e ∈ L,e.n.id = id ∧ ∃ v,e.n.hd = g.hd id v ∧ ∀ u,zX σ.box id u = true→u = v) ∧
   (bM bs y).map (·.1) = bs.flatMap Cq ∧
   (∀ q ∈ bM bs y,(q.2.mG = true ∧ g.db q.1 ∧ ∃ s,(q.1,s) ∈ bs ∧ (match s with | .cells _=>True | .typ _=>True | _=>False)) ∨ (q.2.mG = false ∧ ∃ e ∈ L,e.n.id = q.1)) ∧
   ∀ g' IY,yF σ g g' w IY L→(∀ p ∈ bs,p ∈ IY)→(bs.all fun p=>match p.2 with | .cells ss=>ss.all (BK IY) | _=>true) = true→∀ q ∈ bM bs y,gF g' w q.1 q.2
 | [],y,h,_=>⟨[],by simp,rfl,rfl,by simp,by simp,rfl,by simp [bM],fun g' IY _ _ _=>by simp [bM]⟩
 | (i,s)::r,y,h,hcl=>by
   have hcl':∀ i ss t k,(i,jd.cells ss) ∈ r→Slot.row t k ∈ ss→jI k = true:=fun i ss t k h1 h2=>hcl i ss t k (List.mem_cons_of_mem _ h1) h2
   -- a row
   have row:∀ {t:Ty} {x:L t.T} {own:Option (Nat→Bool)} {hv nv:Nat} {y2:oJ r} {own':Option (Nat→Bool)},σ.box i = some (.row t x own hv nv)→(∀ k,k < x.len→ownB own k = ownB own' k)→je σ.box r = some y2→(s = .row t ∨ s = .pV t)→BJ σ.box ((i,s)::r) = i::BJ σ.box r→Cq (i,s) = [i]→bM ((i,s)::r) y = (i,.row t x own' 0 0)::bM r y2 →
    ∃ L:List RE,(∀ e ∈ L,uT g w e) ∧ L.map (·.n.id) = ((bM ((i,s)::r) y).filter fun q=>!q.2.mG).map (·.1) ∧ (L.flatMap (·.src)) = BJ σ.box ((i,s)::r) ∧
      (∀ id s',(id,s') ∈ (i,s)::r→(match s' with | .cells _=>True | .typ _=>True | _=>False)→g.db id) ∧
      (∀ id s',(id,s') ∈ (i,s)::r→(match s' with | .row _=>True | .pV _=>True | _=>False)→∃ e ∈ L,e.n.id = id ∧ ∃ v,e.n.hd = g.hd id v ∧ ∀ u,zX σ.box id u = true→u = v) ∧
      (bM ((i,s)::r) y).map (·.1) = ((i,s)::r).flatMap Cq ∧
      (∀ q ∈ bM ((i,s)::r) y,(q.2.mG = true ∧ g.db q.1 ∧ ∃ s',(q.1,s') ∈ (i,s)::r ∧ (match s' with | .cells _=>True | .typ _=>True | _=>False)) ∨ (q.2.mG = false ∧ ∃ e ∈ L,e.n.id = q.1)) ∧
      ∀ g' IY,yF σ g g' w IY L→(∀ p ∈ (i,s)::r,p ∈ IY)→(((i,s)::r).all fun p=>match p.2 with | .cells ss=>ss.all (BK IY) | _=>true) = true→∀ q ∈ bM ((i,s)::r) y,gF g' w q.1 q.2:=by
    intro t x own hv nv y2 own' hb how h2 hsr hsrc hnm hbl
    obtain ⟨L,k1,k2,k3,k4,k5,k6,k7,k8⟩:=rA hs h2 hcl'
    obtain ⟨d1,d2,d3,d4,d5⟩:=hs.box _ _ hb
    let e:RE:={ n:={ id:=i,hv:=0,nv:=0,hd:=g.hd i hv,nh:=g.nh i nv,ni:=x.len,R:=g.R i },src:=[i] }
    have hg:uT g w e:=⟨⟨rfl,rfl⟩,fun b o hR=>by obtain ⟨q1,q2⟩:=d5 b o hR; exact ⟨⟨i,by simp [e],q1⟩,q2⟩,fun s hs'=>(by rw [List.mem_singleton.mp hs']; exact dL hs hb rfl),.inr ⟨rfl,⟨hv,d1,rfl⟩,nv,d2,rfl⟩⟩
    refine ⟨e::L,fun e' he=>?_,?_,?_,fun id s' hm hk=>?_,fun id s' hm hk=>?_,?_,fun q hq=>?_,fun g' IY hf hsub hall q hq=>?_⟩
    · rcases List.mem_cons.mp he with rfl | he
      · exact hg
      · exact k1 e' he
    · rw [hbl,List.map_cons,k2]; rfl
    · rw [hsrc,List.flatMap_cons,k3]; rfl
    · rcases List.mem_cons.mp hm with q | hm
      · cases q; rcases hsr with rfl | rfl <;> exact hk.elim
      · exact k4 id s' hm hk
    · rcases List.mem_cons.mp hm with q | hm
      · cases q
        exact ⟨e,by simp,rfl,hv,rfl,fun u hu=>by simp only [zX,hb] at hu; exact Nat.eq_of_beq_eq_true hu⟩
      · obtain ⟨e',q1,q2⟩:=k5 id s' hm hk
        exact ⟨e',List.mem_cons_of_mem _ q1,q2⟩
    · rw [hbl,List.map_cons,k6,List.flatMap_cons,hnm]; rfl
    · rw [hbl] at hq
      rcases List.mem_cons.mp hq with rfl | hq
      · exact .inr ⟨rfl,e,by simp,rfl⟩
      · rcases k7 q hq with ⟨q1,q2,s',q3,q4⟩ | ⟨q1,e',q2,q3⟩
        · exact .inl ⟨q1,q2,s',List.mem_cons_of_mem _ q3,q4⟩
        · exact .inr ⟨q1,e',List.mem_cons_of_mem _ q2,q3⟩
    · simp only [List.all_cons,Bool.and_eq_true] at hall
      rw [hbl] at hq
      rcases List.mem_cons.mp hq with rfl | hq
      · refine JY hg (hf.n e (by simp)) rfl ?_
        exact cB.own how (cB.mono hf.st (fun b o v _ hv hf=>⟨rfl,hv,hf⟩) d4)
      · exact k8 g' IY { hf with n:=fun e' he=>hf.n e' (List.mem_cons_of_mem _ he) } (fun p hp=>hsub p (List.mem_cons_of_mem _ hp)) hall.2 q hq
   cases s with
   | cells ss =>
     simp only [je] at h
     split at h
     · rename_i cs hb
       split at h
       · rename_i x1 h1
         split at h
         · rename_i y2 h2
           simp only [Option.some.injEq] at h; subst h
           obtain ⟨L,k1,k2,k3,k4,k5,k6,k7,k8⟩:=rA hs h2 hcl'
           obtain ⟨d1,us,d2,d3⟩:=hs.box _ _ hb
           obtain ⟨L1,e1,e2,e3,e4⟩:=C8 hs h1 d2 (fun t k hm=>hcl i ss t k (by simp) hm)
           have Ol:∀ q ∈ fB ss x1,q.2.mG = false ∧ ∃ e ∈ L1,e.n.id = q.1:=by
            have key:∀ (ss:List Slot) (x:nk ss),(fB ss x).map (·.1) = ss.flatMap um ∧ ∀ q ∈ fB ss x,q.2.mG = false:=by
             intro ss
             induction ss with
             | nil=>intro x; exact ⟨rfl,by simp [fB]⟩
             | cons s r ih =>
               intro x
               obtain ⟨q1,q2⟩:=ih x.2
               refine ⟨by simp only [fB,List.map_append,List.flatMap_cons,q1]; cases s <;> rfl,fun q hq=>?_⟩
               simp only [fB,List.mem_append] at hq
               rcases hq with hq | hq
               · cases s <;> simp [slotL] at hq
                 subst hq; rfl
               · exact q2 q hq
            intro q hq
            obtain ⟨q1,q2⟩:=key ss x1
            refine ⟨q2 q hq,?_⟩
            have:q.1 ∈ L1.map (·.n.id):=by rw [e1,← q1]; exact List.mem_map.mpr ⟨q,hq,rfl⟩
            obtain ⟨e,he,he2⟩:=List.mem_map.mp this
            exact ⟨e,he,he2⟩
           have wQ:(fB ss x1).map (·.1) = ss.flatMap um:=by
            have key:∀ (ss:List Slot) (x:nk ss),(fB ss x).map (·.1) = ss.flatMap um:=by
             intro ss
             induction ss with
             | nil=>intro x; rfl
             | cons s r ih=>intro x; simp only [fB,List.map_append,List.flatMap_cons,ih x.2]; cases s <;> rfl
            exact key ss x1
           refine ⟨L1 ++ L,fun e he=>(List.mem_append.mp he).elim (e3 e) (k1 e),?_,?_,fun id s' hm hk=>?_,fun id s' hm hk=>?_,?_,fun q hq=>?_,fun g' IY hf hsub hall q hq=>?_⟩
           · have hkeep:(fB ss x1).filter (fun q=>!q.2.mG) = fB ss x1:=List.filter_eq_self.mpr fun q hq=>by rw [(Ol q hq).1]; rfl
             have e5:(bM ((i,.cells ss)::r) (x1,y2)).filter (fun q=>!q.2.mG) = fB ss x1 ++ (bM r y2).filter (fun q=>!q.2.mG):=by
              show ((i,aU.cells (oM ss x1))::(fB ss x1 ++ bM r y2)).filter _ = _
              rw [List.filter_cons_of_neg (by simp [aU.mG]),List.filter_append,hkeep]
             rw [e5,List.map_append,List.map_append,e1,k2,wQ]
           · rw [List.flatMap_append,e2,k3]
             simp only [BJ,hb]
           · rcases List.mem_cons.mp hm with q | hm
             · cases q; exact d1
             · exact k4 id s' hm hk
           · rcases List.mem_cons.mp hm with q | hm
             · cases q; exact hk.elim
             · obtain ⟨e',q1,q2⟩:=k5 id s' hm hk
               exact ⟨e',List.mem_append_right _ q1,q2⟩
           · simp only [bM,List.map_cons,List.map_append,k6,wQ,List.flatMap_cons,Cq,List.cons_append]
           · simp only [bM,List.mem_cons,List.mem_append] at hq
             rcases hq with rfl | hq | hq
             · exact .inl ⟨rfl,d1,.cells ss,by simp,trivial⟩
             · obtain ⟨q1,e,q2,q3⟩:=Ol q hq
               exact .inr ⟨q1,e,List.mem_append_left _ q2,q3⟩
             · rcases k7 q hq with ⟨q1,q2,s',q3,q4⟩ | ⟨q1,e',q2,q3⟩
               · exact .inl ⟨q1,q2,s',List.mem_cons_of_mem _ q3,q4⟩
               · exact .inr ⟨q1,e',List.mem_append_right _ q2,q3⟩
           · simp only [List.all_cons,Bool.and_eq_true] at hall
             obtain ⟨q1,q2⟩:=e4 g' IY hf.left hall.1
             simp only [bM,List.mem_cons,List.mem_append] at hq
             rcases hq with rfl | hq | hq
             · obtain ⟨m1,m2⟩:=hf.db i ⟨.cells ss,hsub _ (by simp),trivial⟩ d1
               refine ⟨m1,us,q1,?_⟩
               rw [hf.bx]
               exact Da hf.bx m2 d3
             · exact q2 q hq
             · exact k8 g' IY hf.right (fun p hp=>hsub p (List.mem_cons_of_mem _ hp)) hall.2 q hq
         · cases h
       · cases h
     · cases h
   | row t =>
     simp only [je] at h
     split at h
     · rename_i t' x own hv nv hb
       split at h
       · rename_i hbq
         obtain rfl:=Ty.eq_of_beq hbq
         cases hao:pX own x.len with
         | false=>rw [hao] at h; cases h
         | true =>
           rw [hao] at h
           simp only [cond_true,dx] at h
           split at h
           · rename_i y2 h2
             simp only [Option.some.injEq] at h; subst h
             exact row (own':=none) hb (fun k hk=>Mh hao hk) h2 (.inl rfl) rfl rfl rfl
           · cases h
       · cases h
     · cases h
   | pV t =>
     simp only [je] at h
     split at h
     · rename_i t' x own hv nv hb
       split at h
       · rename_i hbq
         obtain rfl:=Ty.eq_of_beq hbq
         split at h
         · rename_i y2 h2
           simp only [Option.some.injEq,dx] at h; subst h
           exact row (own':=some (ownB own)) hb (fun k hk=>rfl) h2 (.inr rfl) rfl rfl rfl
         · cases h
       · cases h
     · cases h
   | typ t =>
     simp only [je] at h
     split at h
     · rename_i cs hb
       split at h
       · rename_i x1 h1
         split at h
         · rename_i y2 h2
           simp only [Option.some.injEq] at h; subst h
           obtain ⟨L,k1,k2,k3,k4,k5,k6,k7,k8⟩:=rA hs h2 hcl'
           obtain ⟨d1,us,d2,d3⟩:=hs.box _ _ hb
           refine ⟨L,k1,?_,k3,fun id s' hm hk=>?_,fun id s' hm hk=>?_,?_,fun q hq=>?_,fun g' IY hf hsub hall q hq=>?_⟩
           · rw [k2]; rfl
           · rcases List.mem_cons.mp hm with q | hm
             · cases q; exact d1
             · exact k4 id s' hm hk
           · rcases List.mem_cons.mp hm with q | hm
             · cases q; exact hk.elim
             · exact k5 id s' hm hk
           · simp only [bM,List.map_cons,k6,List.flatMap_cons,Cq]; rfl
           · simp only [bM,List.mem_cons] at hq
             rcases hq with rfl | hq
             · exact .inl ⟨rfl,d1,.typ t,by simp,trivial⟩
             · rcases k7 q hq with ⟨q1,q2,s',q3,q4⟩ | ⟨q1,e',q2,q3⟩
               · exact .inl ⟨q1,q2,s',List.mem_cons_of_mem _ q3,q4⟩
               · exact .inr ⟨q1,e',q2,q3⟩
           · simp only [List.all_cons,Bool.and_eq_true] at hall
             simp only [bM,List.mem_cons] at hq
             rcases hq with rfl | hq
             · obtain ⟨m1,m2⟩:=hf.db i ⟨.typ t,hsub _ (by simp),trivial⟩ d1
               refine ⟨m1,us,gK (bC.mono hf.st _ _ _ (fA h1 d2)),?_⟩
               rw [hf.bx]
               exact Da hf.bx m2 d3
             · exact k8 g' IY hf (fun p hp=>hsub p (List.mem_cons_of_mem _ hp)) hall.2 q hq
         · cases h
       · cases h
     · cases h
theorem wR:∀ {l:List (Nat×aU)} {id:Nat} {c:aU},iC l id = some c→(id,c) ∈ l
 | [],id,c,h=>by simp [iC] at h
 | (i,d)::r,id,c,h=>by
   simp only [iC] at h
   cases hb:Nat.beq id i with
   | true =>
     rw [hb] at h
     simp only [cond_true,Option.some.injEq] at h
     rw [Nat.eq_of_beq_eq_true hb,h]; simp
   | false=>rw [hb] at h; exact List.mem_cons_of_mem _ (wR h)
theorem qp:∀ {l:List (Nat×aU)} {id:Nat} {c:aU},(l.map (·.1)).Nodup→(id,c) ∈ l→iC l id = some c
 | (i,d)::r,id,c,hn,h=>by
   simp only [List.map_cons,List.nodup_cons] at hn
   simp only [iC]
   rcases List.mem_cons.mp h with e | h
   · cases e; simp
   · have hne:Nat.beq id i = false:=by
      cases hb:Nat.beq id i with
      | false=>rfl
      | true=>exact absurd (Nat.eq_of_beq_eq_true hb ▸ List.mem_map.mpr ⟨_,h,rfl⟩) hn.1
     rw [hne]
     exact qp hn.2 h
theorem Db (s:Slot) (x:s.T) (l:List (Nat×aU)):Vr s x (iC l) = iC (slotL s x ++ l):=by cases s <;> rfl
theorem Dc:∀ (ss:List Slot) (x:nk ss) (l:List (Nat×aU)),RG ss x (iC l) = iC (fB ss x ++ l)
 | [],_,_=>rfl
 | s::r,x,l=>by simp only [RG,fB]; rw [Dc r x.2 l,Db,List.append_assoc]
theorem Df:∀ (ss:List (Nat×Slot)) (x:oI ss) (l:List (Nat×aU)),Nl ss x (iC l) = iC (jq ss x ++ l)
 | [],_,_=>rfl
 | (_,s)::r,x,l=>by simp only [Nl,jq]; rw [Df r x.2 l,Db,List.append_assoc]
theorem jv:∀ (bs:List (Nat×jd)) (y:oJ bs),jf bs y = iC (bM bs y)
 | [],_=>rfl
 | (i,.cells ss)::r,x=>by funext j; simp only [jf,bM,iC]; rw [jv r x.2,Dc]
 | (i,.row t)::r,x=>by funext j; simp only [jf,bM,iC]; rw [jv r x.2]
 | (i,.pV t)::r,x=>by funext j; simp only [jf,bM,iC]; rw [jv r x.2]
 | (i,.typ t)::r,x=>by funext j; simp only [jf,bM,iC]; rw [jv r x.2]
theorem uU:∀ (ss:List (Nat×Slot)) (x:oI ss),(jq ss x).map (·.1) = ss.flatMap (fun p=>um p.2) ∧ ∀ q ∈ jq ss x,q.2.mG = false
 | [],_=>⟨rfl,by simp [jq]⟩
 | (j,s)::r,x=>by
   obtain ⟨q1,q2⟩:=uU r x.2
   refine ⟨by simp only [jq,List.map_append,List.flatMap_cons,q1]; cases s <;> rfl,fun q hq=>?_⟩
   simp only [jq,List.mem_append] at hq
   rcases hq with hq | hq
   · cases s <;> simp [slotL] at hq
     subst hq; rfl
   · exact q2 q hq
theorem jy:∀ (bs:List (Nat×jd)) (y:oJ bs) (id:Nat) (s:jd),(id,s) ∈ bs→(match s with | .cells _=>True | .typ _=>True | _=>False)→∃ c,(id,c) ∈ bM bs y ∧ c.mG = true
 | (i,s')::r,y,id,s,h,hk=>by
   rcases List.mem_cons.mp h with e | hm
   · obtain ⟨rfl,rfl⟩:=Prod.mk.inj e
     cases s with
     | cells ss=>exact ⟨_,by simp only [bM]; exact List.mem_cons_self,rfl⟩
     | typ t=>exact ⟨_,by simp only [bM]; exact List.mem_cons_self,rfl⟩
     | row t=>exact hk.elim
     | pV t=>exact hk.elim
   · cases s' with
     | cells ss =>
       obtain ⟨c,h1,h2⟩:=jy r y.2 id s hm hk
       exact ⟨c,by simp only [bM]; exact List.mem_cons_of_mem _ (List.mem_append_right _ h1),h2⟩
     | row t =>
       obtain ⟨c,h1,h2⟩:=jy r y.2 id s hm hk
       exact ⟨c,by simp only [bM]; exact List.mem_cons_of_mem _ h1,h2⟩
     | pV t =>
       obtain ⟨c,h1,h2⟩:=jy r y.2 id s hm hk
       exact ⟨c,by simp only [bM]; exact List.mem_cons_of_mem _ h1,h2⟩
     | typ t =>
       obtain ⟨c,h1,h2⟩:=jy r y.2 id s hm hk
       exact ⟨c,by simp only [bM]; exact List.mem_cons_of_mem _ h1,h2⟩
theorem rC {α:Type} {f:α→Nat}:∀ {l:List α},(l.map f).Nodup→∀ {x y:α},x ∈ l→y ∈ l→f x = f y→x = y
 | c::r,hn,x,y,hx,hy,h=>by
   simp only [List.map_cons,List.nodup_cons,List.mem_map,not_exists,not_and] at hn
   rcases List.mem_cons.mp hx with hx' | hx' <;> rcases List.mem_cons.mp hy with hy' | hy'
   · rw [hx',hy']
   · exact absurd (by rw [← h,hx']) (hn.1 y hy')
   · exact absurd (by rw [h,hy']) (hn.1 x hx')
   · exact rC hn.2 hx' hy' h
open Classical in
noncomputable def BM (g:Gh) (cb:Nat→Prop) (L:List RE):Gh :=
 { col:=fun b o=>match L.find? (fun e=>decide (e.n.R b o ≠ none)) with
    | some e=>.bx e.n.id
    | none=>match g.col b o with
      | .bx id=>if cb id then .bx id else .free
      | c=>c
   bx:=g.bx
   db:=fun id=>g.db id ∧ cb id
   hd:=fun id _=>match L.find? (fun e=>decide (e.n.id = id)) with | some e=>e.n.hd | none=>(none,0,0)
   dh:=fun id u=>u = 0 ∧ ∃ e ∈ L,e.n.id = id
   nh:=fun id _=>match L.find? (fun e=>decide (e.n.id = id)) with | some e=>e.n.nh | none=>fun _ _=>(none,0,0)
   ni:=fun id _=>match L.find? (fun e=>decide (e.n.id = id)) with | some e=>e.n.ni | none=>0
   dn:=fun id u=>u = 0 ∧ ∃ e ∈ L,e.n.id = id
   R:=fun id=>match L.find? (fun e=>decide (e.n.id = id)) with | some e=>e.n.R | none=>fun _ _=>none }
theorem uV (hs:bO N c0 w0 σ g a w) {sh:Shape} {x:sh.T} (h:Lr sh σ = some x):∃ g',bO N c0 w0 (zY sh x) g' a w:=by
 classical
 unfold Lr at h
 split at h
 · rename_i x1 h1
   split at h
   · rename_i y1 h2
     split at h
     · rename_i hc
       simp only [Option.some.injEq] at h; subst h
       simp only [Bool.and_eq_true] at hc
       obtain ⟨hcl,hnn,hns⟩:=hc
       have hnn:=gT hnn
       have hns:=gT hns
       simp only [Shape.closed,Bool.and_eq_true] at hcl
       obtain ⟨Zl,Ol⟩:=hcl
       have Uy:∀ {s:Slot} {t k},s = .row t k→BK sh.boxes s = true→jI k = true:=fun e h=>by subst e; exact h
       obtain ⟨L1,a1,a2,a3,a4⟩:=C9 hs h1 (fun i t k hm=>Uy rfl (List.all_eq_true.mp Zl _ hm))
       obtain ⟨L2,k1,k2,k3,k4,k5,k6,k7,k8⟩:=rA hs h2 (fun i ss t k hm hm2=>by
        have:=List.all_eq_true.mp Ol _ hm
        simp only at this
        exact Uy rfl (List.all_eq_true.mp this _ hm2))
       let cb:Nat→Prop:=fun id=>∃ s,(id,s) ∈ sh.boxes ∧ (match s with | .cells _=>True | .typ _=>True | _=>False)
       generalize hL:L1 ++ L2 = L
       obtain ⟨s1,s2⟩:=uU sh.slots x1
       have wQ:((jq sh.slots x1 ++ bM sh.boxes y1).map (·.1)).Nodup:=by
        rw [List.map_append,s1,k6]; exact hnn
       have hLn:L.map (·.n.id) = ((jq sh.slots x1 ++ bM sh.boxes y1).filter fun q=>!q.2.mG).map (·.1):=by
        rw [← hL,List.map_append,a1,k2,List.filter_append,List.map_append,← s1]
        congr 1
        rw [List.filter_eq_self.mpr fun q hq=>by rw [s2 q hq]; rfl]
       have agl:(L.map (·.n.id)).Nodup:=by
        rw [hLn]
        exact wQ.sublist (List.Sublist.map _ List.filter_sublist)
       have hgood:∀ e ∈ L,uT g w e:=fun e he=>by
        rw [← hL] at he
        exact (List.mem_append.mp he).elim (a3 e) (k1 e)
       have hsrc:(L.flatMap (·.src)).Nodup:=by rw [← hL,List.flatMap_append,a2,k3]; exact hns
       have fM:(zY sh (x1,y1)).box = iC (jq sh.slots x1 ++ bM sh.boxes y1):=by
        show Nl sh.slots x1 (jf sh.boxes y1) = _
        rw [jv,Df]
       have Uz:∀ e ∈ L,∃ c,(zY sh (x1,y1)).box e.n.id = some c ∧ c.mG = false:=fun e he=>by
        have:e.n.id ∈ L.map (·.n.id):=List.mem_map.mpr ⟨e,he,rfl⟩
        rw [hLn] at this
        obtain ⟨q,hq,e2⟩:=List.mem_map.mp this
        obtain ⟨hq1,hq2⟩:=List.mem_filter.mp hq
        refine ⟨q.2,?_,by simpa using hq2⟩
        rw [fM,← e2]
        exact qp wQ hq1
       -- cells
       have hone:∀ e ∈ L,∀ e' ∈ L,∀ b o,e.n.R b o ≠ none→e'.n.R b o ≠ none→e = e':=fun e he e' he' b o hr hr'=>by
        obtain ⟨⟨s,q1,q2⟩,_⟩:=(hgood e he).reg b o hr
        obtain ⟨⟨s',q1',q2'⟩,_⟩:=(hgood e' he').reg b o hr'
        rw [q2] at q2'
        simp only [Col.bx.injEq] at q2'
        subst q2'
        obtain ⟨i,hi⟩:=List.getElem?_of_mem he
        obtain ⟨j,hj⟩:=List.getElem?_of_mem he'
        obtain ⟨rfl,_⟩:=tH hsrc hi hj q1 q1'
        rw [hi] at hj; exact Option.some.inj hj
       have UA:∀ e ∈ L,∀ b o,e.n.R b o ≠ none→(BM g cb L).col b o = .bx e.n.id:=fun e he b o hr=>by
        simp only [BM]
        rw [iP he (by simpa using hr) fun m hm hmr=>hone m hm e he b o (by simpa using hmr) hr]
       have Om:∀ b o,(∀ e ∈ L,e.n.R b o = none)→(BM g cb L).col b o = match g.col b o with | .bx id=>if cb id then .bx id else .free | c=>c:=fun b o hn=>by
        simp only [BM]
        rw [List.find?_eq_none.mpr fun e he=>by simpa using hn e he]
       have Oo:∀ b o,(∃ e ∈ L,e.n.R b o ≠ none) ∨ ∀ e ∈ L,e.n.R b o = none:=fun b o=>by
        by_cases q:∃ e ∈ L,e.n.R b o ≠ none
        · exact .inl q
        · right
          intro e he
          cases hr:e.n.R b o with
          | none=>rfl
          | some l=>exact absurd ⟨e,he,by rw [hr]; simp⟩ q
       have hfind:∀ e ∈ L,L.find? (fun e'=>decide (e'.n.id = e.n.id)) = some e:=fun e he=>iP he (by simp) fun m hm hme=>rC agl hm he (by simpa using hme)
       have hfit:yF σ g (BM g cb L) w sh.boxes L :=
        { st:=⟨fun b o v q1 q2=>⟨by
           rcases Oo b o with ⟨e,he,hr⟩ | hn
           · obtain ⟨⟨s,_,q3⟩,_⟩:=(hgood e he).reg b o hr
             rw [q1] at q3; cases q3
           · rw [Om b o hn,q1],q2⟩⟩
          bx:=rfl
          db:=fun id hid hd=>⟨⟨hd,hid⟩,fun b o hc=>by
           rcases Oo b o with ⟨e,he,hr⟩ | hn
           · obtain ⟨⟨s,q3,q4⟩,_⟩:=(hgood e he).reg b o hr
             rw [hc] at q4
             simp only [Col.bx.injEq] at q4
             exact absurd hd ((hgood e he).nd id (q4 ▸ q3))
           · rw [Om b o hn,hc]
             exact if_pos hid⟩
          ms:=fun id v ⟨s,hm,hk⟩ hat=>by
           obtain ⟨e,he,e1,v',e2,e3⟩:=k5 id s hm hk
           have he:e ∈ L:=by rw [← hL]; exact List.mem_append_right _ he
           refine ⟨⟨rfl,e,he,e1⟩,?_⟩
           simp only [BM]
           rw [← e1,hfind e he]
           simp only
           rw [e2,e1,e3 v hat]
          n:=fun e he=>by
           refine ⟨⟨rfl,e,he,rfl⟩,?_,⟨rfl,e,he,rfl⟩,?_,?_,?_,UA e he⟩ <;> (simp only [BM]; rw [hfind e he]) }
       have hf1:=hfit
       rw [← hL] at hf1
       obtain ⟨b1,b2⟩:=a4 _ sh.boxes hf1.left Zl
       have b3:=k8 _ sh.boxes hf1.right (fun p hp=>hp) Ol
       rw [hL] at b1 b2 b3
       refine ⟨BM g cb L,{ size:=hs.size,env:=b1,defers:=hs.defers,box:=fun id c hc=>?_,db:=fun id hid=>?_,dh:=fun id u hu=>?_,dn:=fun id u hu=>?_,pts:=fun id hid hd=>hs.pts id hid hd.1,fix:=fun id hid u=>?_,keep:=hs.keep,old:=fun b hb o=>?_ }⟩
       · rw [fM] at hc
         rcases List.mem_append.mp (wR hc) with hm | hm
         · exact b2 _ hm
         · exact b3 _ hm
       · obtain ⟨s,hm,hk⟩:=hid.2
         obtain ⟨c,q1,q2⟩:=jy sh.boxes y1 id s hm hk
         exact ⟨c,by rw [fM]; exact qp wQ (List.mem_append_right _ q1),q2⟩
       · obtain ⟨rfl,e,he,rfl⟩:=hu
         obtain ⟨c,q1,q2⟩:=Uz e he
         exact ⟨c,q1,q2,Nat.zero_le _⟩
       · obtain ⟨rfl,e,he,rfl⟩:=hu
         obtain ⟨c,q1,q2⟩:=Uz e he
         exact ⟨c,q1,q2,Nat.zero_le _⟩
       · refine ⟨fun hu=>?_,fun hu=>?_⟩
         · obtain ⟨rfl,e,he,rfl⟩:=hu
           simp only [BM]
           rw [hfind e he]
           rcases (hgood e he).nm with ⟨q,_⟩ | ⟨_,⟨v,q1,q2⟩,_⟩
           · exact absurd (.inl hid) (eG q)
           · simp only
             rw [q2]; exact (hs.fix _ hid v).1 q1
         · obtain ⟨rfl,e,he,rfl⟩:=hu
           simp only [BM]
           rw [hfind e he]
           rcases (hgood e he).nm with ⟨q,_⟩ | ⟨_,_,v,q1,q2⟩
           · exact absurd (.inl hid) (eG q)
           · simp only
             rw [q2]; exact (hs.fix _ hid v).2 q1
       · obtain ⟨o1,o2⟩:=hs.old b hb o
         rcases Oo b o with ⟨e,he,hr⟩ | hn
         · obtain ⟨⟨s,q1,q2⟩,_⟩:=(hgood e he).reg b o hr
           rw [UA e he b o hr]
           refine ⟨⟨fun q=>(by cases q),fun q=>absurd (o1.mpr q) (by rw [q2]; simp)⟩,fun id q=>?_⟩
           cases q
           rcases (hgood e he).nm with ⟨q3,q4⟩ | ⟨q3,_⟩
           · obtain ⟨m,hm⟩:=(o2 s q2).2 (eG (q4 s q1))
             exact ⟨fun q=>absurd q (eG q3),fun _=>⟨m,hm⟩⟩
           · rw [q3] at q1
             rw [List.mem_singleton.mp q1] at q2
             exact o2 _ q2
         · rw [Om b o hn]
           cases hc:g.col b o with
           | st=>exact ⟨by rw [hc] at o1; exact o1,fun id q=>by cases q⟩
           | free=>exact ⟨by rw [hc] at o1; exact o1,fun id q=>by cases q⟩
           | bx id =>
             simp only
             have hne:c0 b o ≠ .st:=fun q=>by have:=o1.mpr q; rw [hc] at this; cases this
             split
             · exact ⟨⟨fun q=>(by cases q),fun q=>absurd q hne⟩,fun id' q=>by cases q; exact o2 id hc⟩
             · exact ⟨⟨fun q=>(by cases q),fun q=>absurd q hne⟩,fun id' q=>by cases q⟩
     · cases h
   · cases h
 · cases h
end
end Go.VE
