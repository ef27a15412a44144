import Derived.Test.YtgllenfbilnneaaGreatDoorVk3
/- Functions: what a call leaves. -/
namespace Go.VE
open Classical in
noncomputable def dU (w0:World) (g:Gh) (Rn:Nat→Nat→Nat→Nat→Prop):Nat→Nat→Col:=fun b o=>match g.col b o with
 | .bx id=>if h:∃ n,Rn id b o n then .bx (Classical.choose h) else if bF≤id ∧ ¬ given id then .bx id else if w0.heap.size≤b then .st else .free
 | c=>c
section
variable {P:Program} {N:Fr} {c0:Nat→Nat→Col} {w0:World} {σ:AS} {g:Gh} {a:Act} {w:World} {Rn:Nat→Nat→Nat→Nat→Prop}
theorem JZ {b o:Nat} (h:g.col b o = .st):dU w0 g Rn b o = .st:=by simp [dU,h]
def Em (Rn:Nat→Nat→Nat→Nat→Prop):Prop:=∀ id b o n n',Rn id b o n→Rn id b o n'→n = n'
theorem En (hu:Em Rn) {b o id n:Nat} (h:g.col b o = .bx id) (hr:Rn id b o n):dU w0 g Rn b o = .bx n:=by
 have hex:∃ n,Rn id b o n:=⟨n,hr⟩
 unfold dU
 rw [h]
 simp only
 rw [dif_pos hex,hu _ _ _ _ _ (Classical.choose_spec hex) hr]
theorem Mi {b o id:Nat} (h:g.col b o = .bx id) (hn:∀ n,¬ Rn id b o n) (hs:bF≤id ∧ ¬ given id):dU w0 g Rn b o = .bx id:=by
 unfold dU
 rw [h]
 simp only
 rw [dif_neg (fun ⟨n,q⟩=>hn n q),if_pos hs]
theorem F5 {b o id:Nat} (h:g.col b o = .bx id) (hn:∀ n,¬ Rn id b o n) (hs:¬ (bF≤id ∧ ¬ given id)) (hb:w0.heap.size≤b):dU w0 g Rn b o = .st:=by
 unfold dU
 rw [h]
 simp only
 rw [dif_neg (fun ⟨n,q⟩=>hn n q),if_neg hs,if_pos hb]
theorem F6 {b o:Nat} (h:dU w0 g Rn b o = .st) (hb:b < w0.heap.size):g.col b o = .st:=by
 unfold dU at h
 split at h
 · split at h
   · cases h
   · split at h
     · cases h
     · rw [if_neg (by omega)] at h; cases h
 · exact h
theorem Ou {b o m:Nat} (h:dU w0 g Rn b o = .bx m):(∃ id,g.col b o = .bx id ∧ Rn id b o m) ∨ (g.col b o = .bx m ∧ bF≤m ∧ ¬ given m):=by
 unfold dU at h
 split at h
 · rename_i id hid
   split at h
   · rename_i hex
     cases h
     exact .inl ⟨id,hid,Classical.choose_spec hex⟩
   · split at h
     · rename_i hs
       cases h
       exact .inr ⟨hid,hs⟩
     · split at h <;> cases h
 · rename_i hne
   exact absurd h (by intro q; exact hne m q)
theorem kN (w0:World) (g:Gh) (Rn:Nat→Nat→Nat→Nat→Prop) (w:World):bV g w { g with col:=dU w0 g Rn } w:={ st:=fun _ _ _ h h'=>⟨JZ h,h'⟩,db:=fun _ h=>⟨h,rfl⟩,dh:=fun _ _ h=>⟨h,rfl⟩,dn:=fun _ _ h=>⟨h,rfl,rfl⟩ }
theorem Eo {id:Nat} (h:bF≤id) (hg:¬ given id):stay id:=by
 rcases Nat.lt_or_ge id dV with q | q
 · right
   refine ⟨h,?_⟩
   by_cases h0:id % 64 = 0
   · exact h0
   · exact absurd ⟨h,q,h0⟩ hg
 · exact .inl q
theorem Ep {c:sK} (hs:bO N c0 w0 σ g a w) (hc:uM c c0 w0) (hR:∀ id b o n,Rn id b o n→¬ stay id ∧ ¬ (n < bY ∧ stay n)):∀ b,b < w0.heap.size→∀ o,(dU w0 g Rn b o = .st ↔ c0 b o = .st) ∧ ∀ id,dU w0 g Rn b o = .bx id→OutOk c0 b o id:=fun b hb o=>by
 obtain ⟨o1,o2⟩:=hs.old b hb o
 refine ⟨⟨fun h=>o1.mp (F6 h hb),fun h=>JZ (o1.mpr h)⟩,fun m hm=>?_⟩
 rcases Ou hm with ⟨id,q1,q2⟩ | ⟨q1,q2,q3⟩
 · obtain ⟨r1,r2⟩:=hR id b o m q2
   exact ⟨fun q=>absurd q r2,fun _=>(o2 id q1).2 r1⟩
 · have hst:=Eo q2 q3
   have h0:=(o2 m q1).1 hst
   exact ⟨fun _=>h0,fun q=>absurd ⟨(hc.1 b o m h0).1.1.2,hst⟩ q⟩
theorem made {c:sK} (hs:bO N c0 w0 σ g a w) (hc:uM c c0 w0) (hn:mg c.ins = true) {b o id:Nat} (h:g.col b o = .bx id) (hid:¬ stay id):w0.heap.size≤b:=by
 rcases Nat.lt_or_ge b w0.heap.size with hb | hb
 · obtain ⟨m,hm,h0⟩:=((hs.old b hb o).2 id h).2 hid
   exact absurd hm ((hc.1 b o m h0).1.2 hn)
 · exact hb
/-! ### Results -/
def rD (tmps:Array Value):ResultVar→Sem Value
 | .tmp t=>pure (tmps.getD t undef)
 | .cell a t=>do loadVar t (← asAddr (tmps.getD a undef))
theorem tQ (fn:Func) (tmps:Array Value):results fn tmps = (fn.results.mapM (rD tmps) >>= fun vs=>pure (if h:vs.size = 1 then vs[0] else .tuple vs)):=by
 unfold results
 congr 1
theorem AX {α β:Type} (f:α→β) (s:Sem α) (w:World):(f <$> s).run P w = (s.run P w).andThen fun x w'=>.ok (f x) w':=by
 rw [← bind_pure_comp,Sem.run_bind]
 rfl
theorem yO (hs:bO N c0 w0 σ g a w) {v:ResultVar} {p:PV} (hp:uq P σ v = some p):∃ u,(rD a.tmps v).run P w = .ok u w ∧ aF g w p u:=by
 cases v with
 | tmp i =>
   simp only [uq,Option.some.injEq] at hp
   subst hp
   exact ⟨_,rfl,hs.env i⟩
 | cell i ty =>
   simp only [uq] at hp
   split at hp
   · rename_i id off he
     have hq:=hs.env i
     rw [he] at hq
     simp only [aF] at hq
     obtain ⟨_,hq⟩:=hq
     simp only [M9] at hp
     split at hp
     · rename_i cs hb
       obtain ⟨_,us',h3,h4⟩:=hs.box _ _ hb
       obtain ⟨u,h5,h6⟩:=kJ (P:=P) (g:=g) (w:=w) (g.bx id).1 ((g.bx id).2 + off) hp (h3.drop off) (fun j v hj=>by
        rw [List.getElem?_drop] at hj
        have:=(h4 _ v hj).2.1
        rwa [← Nat.add_assoc] at this)
       refine ⟨u,?_,h6⟩
       simp only [rD]
       rw [hq]
       simp only [asAddr,Sem.run_bind,Sem.run_pure,Result.andThen_ok]
       exact h5
     · cases hp
   · cases hp
theorem R6 (hs:bO N c0 w0 σ g a w) {t:Ty} {p:PV} {x:t.T} {v:Value} (h:YI t (JC σ.box p) = some x) (hr:aF g w p v) (hd:∀ id ∈ ay p.dY,id < bF→∀ b o,g.col b o = .bx id→dU w0 g Rn b o = .st):∃ us,bC (dU w0 g Rn) w t x us ∧ v = mkV t us:=by
 have hb:bK g w σ.box:=fun id c hc=>hs.box id c hc
 have one:∀ {q:PV} {u:Value},aF g w q u→(∀ id ∈ ay [q],id < bF→∀ b o,g.col b o = .bx id→dU w0 g Rn b o = .st)→aF { g with col:=dU w0 g Rn } w (p9 σ.box q) u:=by
  intro q u hq hin
  have base:∀ {q:PV},aF g w q u→(∀ id ∈ eF q,∀ b o,g.col b o = .bx id→dU w0 g Rn b o = .st)→aF { g with col:=dU w0 g Rn } w (kG σ.box q) u:=fun h1 h2=>uE (σ:=σ) hb (kN w0 g Rn w) h2 h1
  cases q with
  | ms id u' =>
    simp only [p9]
    cases hlt:Nat.blt id bF with
    | false=>simp only [cond_false,aF]
    | true =>
      exact base hq fun id' hid=>by
       simp only [eF,List.mem_singleton] at hid
       subst hid
       exact hin _ (by simp [ay]) (by simpa using hlt)
  | vw id u' sz lo hi =>
    simp only [p9]
    cases hlt:Nat.blt id bF with
    | false=>simp only [cond_false,aF]
    | true =>
      exact base hq fun id' hid=>by
       simp only [eF,List.mem_singleton] at hid
       subst hid
       exact hin _ (by simp [ay]) (by simpa using hlt)
  | mn id u' i j=>simp only [p9,aF]
  | vn id u' i j sz lo hi=>simp only [p9,aF]
  | _=>exact aF.mono (kN w0 g Rn w) _ _ hq
 have all:∀ {qs:List PV} {us:List Value},ak g w qs us→(∀ id ∈ ay qs,id < bF→∀ b o,g.col b o = .bx id→dU w0 g Rn b o = .st)→ak { g with col:=dU w0 g Rn } w (qs.map (p9 σ.box)) us:=by
  intro qs
  induction qs with
  | nil=>intro us h _; simpa only [ak,List.map_nil] using h
  | cons q qs ih =>
    intro us h hin
    simp only [ak] at h
    obtain ⟨u,us',rfl,h1,h2⟩:=h
    simp only [List.map_cons,ak]
    have hsp:ay (q::qs) = ay [q] ++ ay qs:=by rw [← eY]; rfl
    exact ⟨u,us',rfl,one h1 fun id hid=>hin id (by rw [hsp]; exact List.mem_append_left _ hid),ih h2 fun id hid=>hin id (by rw [hsp]; exact List.mem_append_right _ hid)⟩
 have hr':aF { g with col:=dU w0 g Rn } w (JC σ.box p) v:=by
  cases p with
  | agg cs =>
    simp only [aF] at hr
    obtain ⟨vs,rfl,h2⟩:=hr
    simp only [JC,aF]
    exact ⟨vs,rfl,all h2 hd⟩
  | _=>exact one hr hd
 exact DY (g:={ g with col:=dU w0 g Rn }) h hr'
theorem F7 (hs:bO N c0 w0 σ g a w):∀ {ts:List Ty} {vs:List ResultVar} {y:dR ts} {l:List Nat} {j:Nat},wD P σ ts vs = some (y,l)→(∀ id ∈ l,id < bF→∀ b o,g.col b o = .bx id→dU w0 g Rn b o = .st)→∃ us:List Value,(vs.mapM (rD a.tmps)).run P w = .ok us w ∧ fO (fun t x cs _=>bC (dU w0 g Rn) w t x cs) ts y us j
 | [],[],y,l,j,_,_=>⟨[],rfl,by simp only [fO]⟩
 | [],v::vs,y,l,j,h,_=>by simp [wD] at h
 | t::r,[],y,l,j,h,_=>by simp [wD] at h
 | t::r,v::vs,y,l,j,h,hd=>by
   simp only [wD] at h
   split at h
   · rename_i p hp
     split at h
     · rename_i x hx
       split at h
       · rename_i y2 l2 hy
         simp only [Option.some.injEq,Prod.mk.injEq] at h
         obtain ⟨rfl,rfl⟩:=h
         obtain ⟨us,h1,h2⟩:=F7 hs (j:=j + t.bJ) hy fun id hid=>hd id (List.mem_append_right _ hid)
         obtain ⟨u,h3,h4⟩:=yO hs hp
         obtain ⟨cs,h5,h6⟩:=R6 hs hx h4 fun id hid=>hd id (List.mem_append_left _ hid)
         refine ⟨u::us,?_,u,us,rfl,⟨cs,h5,h6⟩,h2⟩
         rw [List.mapM_cons]
         simp only [Sem.run_bind,h3,Result.andThen_ok,h1,Sem.run_pure]
       · cases h
     · cases h
   · cases h
def V3 (t:Ty) (cs:List PV) (n0:Nat) (id n:Nat):Prop:=∃ j,j < t.bJ ∧ id ∈ ay [dX t cs j] ∧ n = n0 + j
theorem Ov {t:Ty} {cs:List PV} {n0 id n n':Nat} (hl:cs.length = t.size) (hn:(ay cs).Nodup) (h:V3 t cs n0 id n) (h':V3 t cs n0 id n'):n = n':=by
 obtain ⟨j,h1,h2,rfl⟩:=h
 obtain ⟨j',h1',h2',rfl⟩:=h'
 rw [uJ hl hn h1 h1' h2 h2']
theorem F8 (hu:Em Rn) {ids:List Nat} {n:Nat} (hr:∀ id ∈ ids,∀ b o,Rn id b o n) {u:Ty} {y:L u.T} {h:bT} (hp:FL g w ids u y h):mh true (dU w0 g Rn) w n u y h:=by
 obtain ⟨nh,R,h1,h2⟩:=hp
 refine ⟨nh,R,cB.lM h1,fun b o hR=>?_⟩
 obtain ⟨⟨r,r1,r2⟩,r3⟩:=h2 b o hR
 exact ⟨En hu r2 (hr r r1 b o),r3⟩
def V4 (g:Gh) (w:World) (ids:List Nat) (u:Ty) (y:L u.T) (h:bT):Prop :=
 (ids = [] ∧ y = iO u ∧ h = (none,0,0)) ∨ ∃ r nv own,ids = [r] ∧ r < bF ∧ cB g.col w (g.R r) (g.nh r nv) own u y h ∧ DX g w r
theorem R7 (hs:bO N c0 w0 σ g a w) {u:Ty} {p:PV} {y:L u.T} {v:Value} (h:YS σ.box u p = some y) (hr:aF g w p v):∃ hd,v = gP hd ∧ V4 g w (ay [p]) u y hd:=by
 unfold YS at h
 split at h
 · simp only [Option.some.injEq] at h; subst h
   simp only [aF] at hr
   exact ⟨(none,0,0),hr,.inl ⟨rfl,rfl,rfl⟩⟩
 · rename_i r v'
   split at h
   · rename_i t x f hv nv hbx
     split at h
     · rename_i hbq
       obtain rfl:=Ty.eq_of_beq hbq
       cases hq:(Nat.beq v' hv&&Nat.blt r bF) with
       | false=>rw [hq] at h; cases h
       | true =>
         rw [hq] at h
         simp only [cond_true,Option.some.injEq,dx] at h
         subst h
         simp only [Bool.and_eq_true,Nat.blt_eq] at hq
         obtain rfl:=Nat.eq_of_beq_eq_true hq.1
         simp only [aF] at hr
         obtain ⟨_,_,_,h4,h5⟩:=hs.box _ _ hbx
         exact ⟨_,hr.2,.inr ⟨r,nv,_,rfl,hq.2,h4,h5⟩⟩
     · cases h
   · cases h
 · cases h
theorem Ow (hs:bO N c0 w0 σ g a w):∀ {t:Ty} {cs r:List PV} {y:t.T} {vs:List Value},yx σ.box t cs = some (y,r)→ak g w cs vs →
 ∃ c1 v1 v2,cs = c1 ++ r ∧ vs = v1 ++ v2 ∧ ak g w r v2 ∧ c1.length = t.size ∧ ∀ j0,jJ (fun j u y h=>V4 g w (ay [dX t c1 (j - j0)]) u y h) t y v1 j0:=by
 intro t
 induction t with
 | int k =>
   intro cs r y vs h hr
   cases cs with
   | nil=>simp [yx] at h
   | cons p ps =>
     cases p <;> simp [yx] at h
     obtain ⟨rfl,rfl,rfl⟩:=h
     simp only [ak,aF] at hr
     obtain ⟨u,us,rfl,rfl,h3⟩:=hr
     exact ⟨[_],[_],us,rfl,rfl,h3,rfl,fun _=>rfl⟩
 | bool =>
   intro cs r y vs h hr
   cases cs with
   | nil=>simp [yx] at h
   | cons p ps =>
     cases p <;> simp [yx] at h
     obtain ⟨rfl,rfl⟩:=h
     simp only [ak,aF] at hr
     obtain ⟨u,us,rfl,rfl,h3⟩:=hr
     exact ⟨[_],[_],us,rfl,rfl,h3,rfl,fun _=>rfl⟩
 | str =>
   intro cs r y vs h hr
   cases cs with
   | nil=>simp [yx] at h
   | cons p ps =>
     cases p <;> simp [yx] at h
     obtain ⟨rfl,rfl⟩:=h
     simp only [ak,aF] at hr
     obtain ⟨u,us,rfl,rfl,h3⟩:=hr
     exact ⟨[_],[_],us,rfl,rfl,h3,rfl,fun _=>rfl⟩
 | unit =>
   intro cs r y vs h hr
   simp [yx] at h
   subst h
   exact ⟨[],[],vs,rfl,rfl,hr,rfl,fun _=>rfl⟩
 | pair p q Iw Iy =>
   intro cs r y vs h hr
   simp only [yx] at h
   split at h
   · rename_i x1 r1 h1
     split at h
     · rename_i x2 r2 h2
       simp only [Option.some.injEq,Prod.mk.injEq] at h
       obtain ⟨rfl,rfl⟩:=h
       obtain ⟨c1,v1,v2,rfl,rfl,k1,k3,k6⟩:=Iw h1 hr
       obtain ⟨d1,u1,u2,rfl,rfl,l1,l3,l6⟩:=Iy h2 k1
       have e1:(c1 ++ d1).take p.size = c1:=by rw [← k3]; exact List.take_left
       have e2:(c1 ++ d1).drop p.size = d1:=by rw [← k3]; exact List.drop_left
       refine ⟨c1 ++ d1,v1 ++ u1,u2,by simp,by simp,l1,by simp [k3,l3,Ty.size],fun j0=>⟨v1,u1,rfl,(k6 j0).mono fun j u y h a1 a2 hq=>?_,(l6 (j0 + p.bJ)).mono fun j u y h a1 a2 hq=>?_⟩⟩
       · have hb':Nat.blt (j - j0) p.bJ = true:=by rw [Nat.blt_eq]; omega
         simp only [dX,hb',cond_true,e1]
         exact hq
       · have hb':Nat.blt (j - j0) p.bJ = false:=by rw [Bool.eq_false_iff]; intro q; have:=Nat.blt_eq.mp q; omega
         simp only [dX,hb',cond_false,e2]
         rw [show j - j0 - p.bJ = j - (j0 + p.bJ) by omega]
         exact hq
     · cases h
   · cases h
 | sl u ih =>
   intro cs r y vs h hr
   cases cs with
   | nil=>simp [yx] at h
   | cons p ps =>
     simp only [yx] at h
     split at h
     · rename_i y' h1
       simp only [Option.some.injEq,Prod.mk.injEq] at h
       obtain ⟨rfl,rfl⟩:=h
       simp only [ak] at hr
       obtain ⟨v,us,rfl,h2,h3⟩:=hr
       obtain ⟨hd,rfl,h4⟩:=R7 hs h1 h2
       exact ⟨[p],[_],us,rfl,rfl,h3,rfl,fun j0=>⟨hd,rfl,h4⟩⟩
     · cases h
theorem Ox (hu:Em Rn) {ids:List Nat} {n:Nat} (hr:∀ id ∈ ids,∀ b o,g.R id b o = some none→Rn id b o n) (Zm:∀ id ∈ ids,∀ b o l,g.R id b o = some (some l)→g.col b o = .bx id→dU w0 g Rn b o = .st) {u:Ty} {y:L u.T} {h:bT} (hp:V4 g w ids u y h):mh false (dU w0 g Rn) w n u y h:=by
 rcases hp with ⟨_,rfl,rfl⟩ | ⟨r,nv,own,rfl,_,⟨h1,h2,h3⟩,h4⟩
 · exact ⟨_,_,Ea u _,fun _ _ q=>absurd rfl q⟩
 · have hst:Stays g.col w (dU w0 g Rn) w:=(kN w0 g Rn w).toStays
   -- elements as data
   have hel:∀ i,i < y.len→∃ us,us.length = u.size ∧ bC (dU w0 g Rn) w u (y.get i) us ∧ ∀ ad,h.1 = some ad→∀ (q:Nat) (v:Value),us[q]? = some v→w.cell? ⟨ad.block,ad.off + i * u.size + q,none⟩ = some v:=fun i hi=>by
    obtain ⟨us,q1,q2,q3⟩:=h3 i hi
    refine ⟨us,q1,?_,q3⟩
    have toT:∀ {t:Ty} {x:t.T} {vs:List Value} {j:Nat},bD g.col w (g.R r) (g.nh r nv) (own i) i t x vs j→bC (dU w0 g Rn) w t x vs:=by
     intro t
     induction t with
     | int k=>exact fun h=>h
     | bool=>exact fun h=>h
     | str=>exact fun h=>h
     | unit=>exact fun h=>h
     | pair a b iha ihb =>
       rintro x vs j ⟨v1,v2,e,h1,h2⟩
       exact ⟨v1,v2,e,iha h1,ihb h2⟩
     | sl t ih =>
       rintro x vs j ⟨e,⟨m0,m1,m2,m3⟩,m4,m5⟩
       cases hown:own i with
       | false=>exact bC.mono hst _ _ _ (m5 hown)
       | true =>
         obtain ⟨hf,ho,he⟩:=m4 hown
         refine ⟨(g.nh r nv i j).1,(g.nh r nv i j).2.2,by rw [e,gP,m0],m1,⟨m2,m3⟩,fun ad had=>⟨fun _=>(ho ad had).1,fun k hk=>?_⟩⟩
         obtain ⟨us,p1,p2,p3⟩:=he k hk
         refine ⟨us,bC.flat hf p2,fun q v hq=>⟨?_,p3 ad had q v hq⟩⟩
         have MZ:q < t.size:=by rw [← p1]; exact (List.getElem?_eq_some_iff.mp hq).1
         have hR:=((ho ad had).2 (k * t.size + q) (Nat.lt_of_lt_of_le (iy hk MZ) (Nat.mul_le_mul_right _ m1))).1
         rw [← Nat.add_assoc] at hR
         exact Zm r (by simp) _ _ _ hR (h4 _ _ (by rw [hR]; simp)).1
    exact toT q2
   have hch:∀ i,∃ nhi:Nat→bT,i < y.len→∃ us,us.length = u.size ∧ (∀ nh:Nat→Nat→bT,nh i = nhi→bD (dU w0 g Rn) w (fun b o=>if g.R r b o = some none then some none else none) nh false i u (y.get i) us 0) ∧ ∀ ad,h.1 = some ad→∀ (q:Nat) (v:Value),us[q]? = some v→w.cell? ⟨ad.block,ad.off + i * u.size + q,none⟩ = some v:=fun i=>by
    by_cases hi:i < y.len
    · obtain ⟨us,q1,q2,q3⟩:=hel i hi
      obtain ⟨nhi,q4⟩:=bD.Vw (R:=fun b o=>if g.R r b o = some none then some none else none) (i:=i) (j:=0) q2
      exact ⟨nhi,fun _=>⟨us,q1,fun nh hn=>q4 nh fun j' _ _=>by rw [hn],q3⟩⟩
    · exact ⟨fun _=>(none,0,0),fun q=>absurd q hi⟩
   refine ⟨fun i=>Classical.choose (hch i),fun b o=>if g.R r b o = some none then some none else none,⟨h1,h2.mono fun b o v a1 a2 a3=>⟨if_pos a1,⟨v,a2⟩,a3⟩,fun i hi=>?_⟩,fun b o hR=>?_⟩
   · obtain ⟨us,q1,q2,q3⟩:=Classical.choose_spec (hch i) hi
     exact ⟨us,q1,q2 _ rfl,q3⟩
   · by_cases e:g.R r b o = some none
     · obtain ⟨a1,a2⟩:=h4 b o (by rw [e]; simp)
       exact ⟨En hu a1 (hr r (by simp) b o e),a2⟩
     · exact absurd (if_neg e) hR
def Mj (P:Program) (σ:AS):List Ty→List ResultVar→Nat→Nat→Nat→Prop
 | t::r,v::vs,j0,id,n=>(∃ p,uq P σ v = some p ∧ V3 t p.dY (bY + j0) id n) ∨ Mj P σ r vs (j0 + t.bJ) id n
 | _,_,_,_,_=>False
theorem J2 (hs:bO N c0 w0 σ g a w) (hu:Em Rn) {fr:Nat}:∀ {ts:List Ty} {vs:List ResultVar} {y:dR ts} {l:List Nat} {j:Nat},BL P σ fr ts vs = some (y,l)→(∀ id n,Mj P σ ts vs j id n→∀ b o,(Nat.beq fr 1 = false→g.R id b o = some none)→Rn id b o n) →
 (Nat.beq fr 1 = false→∀ id ∈ l,id < bF→∀ b o m,g.R id b o = some (some m)→g.col b o = .bx id→dU w0 g Rn b o = .st) →
 ∃ us:List Value,(vs.mapM (rD a.tmps)).run P w = .ok us w ∧ fO (fun t x cs j=>jJ (fun j u y h=>mh (Nat.beq fr 1) (dU w0 g Rn) w (bY + j) u y h) t x cs j) ts y us j
 | [],[],y,l,j,_,_,_=>⟨[],rfl,by simp only [fO]⟩
 | [],v::vs,y,l,j,h,_,_=>by simp [BL] at h
 | t::r,[],y,l,j,h,_,_=>by simp [BL] at h
 | t::r,v::vs,y,l,j,h,hd,hn=>by
   simp only [BL] at h
   split at h
   · rename_i p hp
     split at h
     · rename_i hag
       split at h
       · rename_i x hx
         split at h
         · rename_i y2 l2 hy
           simp only [Option.some.injEq,Prod.mk.injEq] at h
           obtain ⟨rfl,rfl⟩:=h
           obtain ⟨us,h1,h2⟩:=J2 hs hu (j:=j + t.bJ) hy (fun id n hr=>hd id n (.inr hr)) (fun e id hid=>hn e id (List.mem_append_right _ hid))
           obtain ⟨u,h3,h4⟩:=yO hs hp
           obtain ⟨Uw,su⟩:=gU h4
           have hx:=dF hx
           have key:∃ cs,jJ (fun j u y h=>mh (Nat.beq fr 1) (dU w0 g Rn) w (bY + j) u y h) t x cs j ∧ u = mkV t cs:=by
            cases hf:Nat.beq fr 1 with
            | true =>
              rw [hf] at hx
              obtain ⟨c1,v1,v2,e1,_,_,_,k3,_⟩:=jl (μ:=σ) (fun id c hc=>hs.box id c hc) hx su
              rw [List.append_nil] at e1
              subst e1
              obtain ⟨cs,hcs,rfl⟩:=Ay hag k3 h4
              obtain ⟨c1,v1,v2,e1,e2,k1,_,k3,_,_,k6⟩:=jl (μ:=σ) (fun id c hc=>hs.box id c hc) hx hcs
              rw [List.append_nil] at e1
              subst e1
              simp only [ak] at k1
              subst k1
              rw [List.append_nil] at e2
              subst e2
              refine ⟨cs,(k6 j).mono fun j' u y h q1 q2 hq=>F8 hu (fun id hid b o=>?_) hq,rfl⟩
              exact hd id _ (.inl ⟨p,hp,j' - j,by omega,hid,by omega⟩) b o (fun q=>by rw [hf] at q; cases q)
            | false =>
              rw [hf] at hx
              obtain ⟨c1,v1,v2,e1,_,_,k3,_⟩:=Ow hs hx su
              rw [List.append_nil] at e1
              subst e1
              obtain ⟨cs,hcs,rfl⟩:=Ay hag k3 h4
              obtain ⟨c1,v1,v2,e1,e2,k1,k3,k6⟩:=Ow hs hx hcs
              rw [List.append_nil] at e1
              subst e1
              simp only [ak] at k1
              subst k1
              rw [List.append_nil] at e2
              subst e2
              refine ⟨cs,(k6 j).mono fun j' u y h q1 q2 hq=>Ox hu (fun id hid b o hR=>hd id _ (.inl ⟨p,hp,j' - j,by omega,hid,by omega⟩) b o fun _=>hR) (fun id hid b o m hR hc=>?_) hq,rfl⟩
              refine hn hf id (List.mem_append_left _ (dD k3 (by omega) hid)) ?_ b o m hR hc
              rcases hq with ⟨q,_⟩ | ⟨r',_,_,q,q',_⟩
              · rw [q] at hid; cases hid
              · rw [q] at hid; rw [List.mem_singleton.mp hid]; exact q'
           obtain ⟨cs,q1,q2⟩:=key
           refine ⟨u::us,?_,u,us,rfl,⟨cs,q1,q2⟩,h2⟩
           rw [List.mapM_cons]
           simp only [Sem.run_bind,h3,Result.andThen_ok,h1,Sem.run_pure]
         · cases h
       · cases h
     · cases h
   · cases h
end
end Go.VE
