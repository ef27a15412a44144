import Derived.Test.YtgllenfbilnneaaGreatDoorVk3
/- Functions: what a call leaves. -/
namespace Go.VE
open Classical in
noncomputable def colF (w0:World) (g:Gh) (Rn:Nat→Nat→Nat→Nat→Prop):Nat→Nat→Col:=fun b o=>match g.col b o with
 | .bx id=>if h:∃ n,Rn id b o n then .bx (Classical.choose h) else if pBase≤id ∧ ¬ given id then .bx id else if w0.heap.size≤b then .st else .free
 | c=>c
section
variable {P:Program} {N:Fr} {c0:Nat→Nat→Col} {w0:World} {σ:AS} {g:Gh} {a:Act} {w:World} {Rn:Nat→Nat→Nat→Nat→Prop}
theorem colF_st {b o:Nat} (h:g.col b o = .st):colF w0 g Rn b o = .st:=by simp [colF,h]
def RnUq (Rn:Nat→Nat→Nat→Nat→Prop):Prop:=∀ id b o n n',Rn id b o n→Rn id b o n'→n = n'
theorem colF_rn (hu:RnUq Rn) {b o id n:Nat} (h:g.col b o = .bx id) (hr:Rn id b o n):colF w0 g Rn b o = .bx n:=by
 have hex:∃ n,Rn id b o n:=⟨n,hr⟩
 unfold colF
 rw [h]
 simp only
 rw [dif_pos hex,hu _ _ _ _ _ (Classical.choose_spec hex) hr]
theorem colF_stay {b o id:Nat} (h:g.col b o = .bx id) (hn:∀ n,¬ Rn id b o n) (hs:pBase≤id ∧ ¬ given id):colF w0 g Rn b o = .bx id:=by
 unfold colF
 rw [h]
 simp only
 rw [dif_neg (fun ⟨n,q⟩=>hn n q),if_pos hs]
theorem colF_dat {b o id:Nat} (h:g.col b o = .bx id) (hn:∀ n,¬ Rn id b o n) (hs:¬ (pBase≤id ∧ ¬ given id)) (hb:w0.heap.size≤b):colF w0 g Rn b o = .st:=by
 unfold colF
 rw [h]
 simp only
 rw [dif_neg (fun ⟨n,q⟩=>hn n q),if_neg hs,if_pos hb]
theorem colF_st_inv {b o:Nat} (h:colF w0 g Rn b o = .st) (hb:b < w0.heap.size):g.col b o = .st:=by
 unfold colF at h
 split at h
 · split at h
   · cases h
   · split at h
     · cases h
     · rw [if_neg (by omega)] at h; cases h
 · exact h
theorem colF_inv {b o m:Nat} (h:colF w0 g Rn b o = .bx m):(∃ id,g.col b o = .bx id ∧ Rn id b o m) ∨ (g.col b o = .bx m ∧ pBase≤m ∧ ¬ given m):=by
 unfold colF at h
 split at h
 · rename_i id hid
   split at h
   · rename_i hex
     cases h
     exact .inl ⟨id,hid,Classical.choose_spec hex⟩
   · split at h
     · rename_i hs
       cases h
       exact .inr ⟨hid,hs⟩
     · split at h <;> cases h
 · rename_i hne
   exact absurd h (by intro q; exact hne m q)
theorem gstays_colF (w0:World) (g:Gh) (Rn:Nat→Nat→Nat→Nat→Prop) (w:World):GStays g w { g with col:=colF w0 g Rn } w:={ st:=fun _ _ _ h h'=>⟨colF_st h,h'⟩,db:=fun _ h=>⟨h,rfl⟩,dh:=fun _ _ h=>⟨h,rfl⟩,dn:=fun _ _ h=>⟨h,rfl,rfl⟩ }
theorem stay_of {id:Nat} (h:pBase≤id) (hg:¬ given id):stay id:=by
 rcases Nat.lt_or_ge id wBase with q | q
 · right
   refine ⟨h,?_⟩
   by_cases h0:id % 64 = 0
   · exact h0
   · exact absurd ⟨h,q,h0⟩ hg
 · exact .inl q
theorem colF_ok {c:Ctr} (hs:Sim N c0 w0 σ g a w) (hc:ColOk c c0 w0) (hR:∀ id b o n,Rn id b o n→¬ stay id ∧ ¬ (n < oBase ∧ stay n)):∀ b,b < w0.heap.size→∀ o,(colF w0 g Rn b o = .st ↔ c0 b o = .st) ∧ ∀ id,colF w0 g Rn b o = .bx id→OutOk c0 b o id:=fun b hb o=>by
 obtain ⟨o1,o2⟩:=hs.old b hb o
 refine ⟨⟨fun h=>o1.mp (colF_st_inv h hb),fun h=>colF_st (o1.mpr h)⟩,fun m hm=>?_⟩
 rcases colF_inv hm with ⟨id,q1,q2⟩ | ⟨q1,q2,q3⟩
 · obtain ⟨r1,r2⟩:=hR id b o m q2
   exact ⟨fun q=>absurd q r2,fun _=>(o2 id q1).2 r1⟩
 · have hst:=stay_of q2 q3
   have h0:=(o2 m q1).1 hst
   exact ⟨fun _=>h0,fun q=>absurd ⟨(hc.1 b o m h0).1.1.2,hst⟩ q⟩
theorem made {c:Ctr} (hs:Sim N c0 w0 σ g a w) (hc:ColOk c c0 w0) (hn:noMv c.ins = true) {b o id:Nat} (h:g.col b o = .bx id) (hid:¬ stay id):w0.heap.size≤b:=by
 rcases Nat.lt_or_ge b w0.heap.size with hb | hb
 · obtain ⟨m,hm,h0⟩:=((hs.old b hb o).2 id h).2 hid
   exact absurd hm ((hc.1 b o m h0).1.2 hn)
 · exact hb
/-! ### Results -/
def resStep (tmps:Array Value):ResultVar→Sem Value
 | .tmp t=>pure (tmps.getD t undef)
 | .cell a t=>do loadVar t (← asAddr (tmps.getD a undef))
theorem results_eq (fn:Func) (tmps:Array Value):results fn tmps = (fn.results.mapM (resStep tmps) >>= fun vs=>pure (if h:vs.size = 1 then vs[0] else .tuple vs)):=by
 unfold results
 congr 1
theorem run_fmap {α β:Type} (f:α→β) (s:Sem α) (w:World):(f <$> s).run P w = (s.run P w).andThen fun x w'=>.ok (f x) w':=by
 rw [← bind_pure_comp,Sem.run_bind]
 rfl
theorem res_run (hs:Sim N c0 w0 σ g a w) {v:ResultVar} {p:PV} (hp:resPV P σ v = some p):∃ u,(resStep a.tmps v).run P w = .ok u w ∧ Rep g w p u:=by
 cases v with
 | tmp i =>
   simp only [resPV,Option.some.injEq] at hp
   subst hp
   exact ⟨_,rfl,hs.env i⟩
 | cell i ty =>
   simp only [resPV] at hp
   split at hp
   · rename_i id off he
     have hq:=hs.env i
     rw [he] at hq
     simp only [Rep] at hq
     obtain ⟨_,hq⟩:=hq
     simp only [rdAt] at hp
     split at hp
     · rename_i cs hb
       obtain ⟨_,us',h3,h4⟩:=hs.box _ _ hb
       obtain ⟨u,h5,h6⟩:=loadVar_run (P:=P) (g:=g) (w:=w) (g.bx id).1 ((g.bx id).2 + off) hp (h3.drop off) (fun j v hj=>by
        rw [List.getElem?_drop] at hj
        have:=(h4 _ v hj).2.1
        rwa [← Nat.add_assoc] at this)
       refine ⟨u,?_,h6⟩
       simp only [resStep]
       rw [hq]
       simp only [asAddr,Sem.run_bind,Sem.run_pure,Result.andThen_ok]
       exact h5
     · cases hp
   · cases hp
theorem out_rep (hs:Sim N c0 w0 σ g a w) {t:Ty} {p:PV} {x:t.T} {v:Value} (h:unV t (rslvN σ.box p) = some x) (hr:Rep g w p v) (hd:∀ id ∈ rowIds p.cel,id < pBase→∀ b o,g.col b o = .bx id→colF w0 g Rn b o = .st):∃ us,RepT (colF w0 g Rn) w t x us ∧ v = mkV t us:=by
 have hb:BoxesOk g w σ.box:=fun id c hc=>hs.box id c hc
 have one:∀ {q:PV} {u:Value},Rep g w q u→(∀ id ∈ rowIds [q],id < pBase→∀ b o,g.col b o = .bx id→colF w0 g Rn b o = .st)→Rep { g with col:=colF w0 g Rn } w (rslvN1 σ.box q) u:=by
  intro q u hq hin
  have base:∀ {q:PV},Rep g w q u→(∀ id ∈ leafIds q,∀ b o,g.col b o = .bx id→colF w0 g Rn b o = .st)→Rep { g with col:=colF w0 g Rn } w (rslv1 σ.box q) u:=fun h1 h2=>rslv1_to (σ:=σ) hb (gstays_colF w0 g Rn w) h2 h1
  cases q with
  | ms id u' =>
    simp only [rslvN1]
    cases hlt:Nat.blt id pBase with
    | false=>simp only [cond_false,Rep]
    | true =>
      exact base hq fun id' hid=>by
       simp only [leafIds,List.mem_singleton] at hid
       subst hid
       exact hin _ (by simp [rowIds]) (by simpa using hlt)
  | vw id u' sz lo hi =>
    simp only [rslvN1]
    cases hlt:Nat.blt id pBase with
    | false=>simp only [cond_false,Rep]
    | true =>
      exact base hq fun id' hid=>by
       simp only [leafIds,List.mem_singleton] at hid
       subst hid
       exact hin _ (by simp [rowIds]) (by simpa using hlt)
  | mn id u' i j=>simp only [rslvN1,Rep]
  | vn id u' i j sz lo hi=>simp only [rslvN1,Rep]
  | _=>exact Rep.mono (gstays_colF w0 g Rn w) _ _ hq
 have all:∀ {qs:List PV} {us:List Value},Reps g w qs us→(∀ id ∈ rowIds qs,id < pBase→∀ b o,g.col b o = .bx id→colF w0 g Rn b o = .st)→Reps { g with col:=colF w0 g Rn } w (qs.map (rslvN1 σ.box)) us:=by
  intro qs
  induction qs with
  | nil=>intro us h _; simpa only [Reps,List.map_nil] using h
  | cons q qs ih =>
    intro us h hin
    simp only [Reps] at h
    obtain ⟨u,us',rfl,h1,h2⟩:=h
    simp only [List.map_cons,Reps]
    have hsp:rowIds (q::qs) = rowIds [q] ++ rowIds qs:=by rw [← rowIds_append]; rfl
    exact ⟨u,us',rfl,one h1 fun id hid=>hin id (by rw [hsp]; exact List.mem_append_left _ hid),ih h2 fun id hid=>hin id (by rw [hsp]; exact List.mem_append_right _ hid)⟩
 have hr':Rep { g with col:=colF w0 g Rn } w (rslvN σ.box p) v:=by
  cases p with
  | agg cs =>
    simp only [Rep] at hr
    obtain ⟨vs,rfl,h2⟩:=hr
    simp only [rslvN,Rep]
    exact ⟨vs,rfl,all h2 hd⟩
  | _=>exact one hr hd
 exact unV_rep (g:={ g with col:=colF w0 g Rn }) h hr'
theorem outs_run (hs:Sim N c0 w0 σ g a w):∀ {ts:List Ty} {vs:List ResultVar} {y:TysT ts} {l:List Nat} {j:Nat},unOuts P σ ts vs = some (y,l)→(∀ id ∈ l,id < pBase→∀ b o,g.col b o = .bx id→colF w0 g Rn b o = .st)→∃ us:List Value,(vs.mapM (resStep a.tmps)).run P w = .ok us w ∧ FrOuts (fun t x cs _=>RepT (colF w0 g Rn) w t x cs) ts y us j
 | [],[],y,l,j,_,_=>⟨[],rfl,by simp only [FrOuts]⟩
 | [],v::vs,y,l,j,h,_=>by simp [unOuts] at h
 | t::r,[],y,l,j,h,_=>by simp [unOuts] at h
 | t::r,v::vs,y,l,j,h,hd=>by
   simp only [unOuts] at h
   split at h
   · rename_i p hp
     split at h
     · rename_i x hx
       split at h
       · rename_i y2 l2 hy
         simp only [Option.some.injEq,Prod.mk.injEq] at h
         obtain ⟨rfl,rfl⟩:=h
         obtain ⟨us,h1,h2⟩:=outs_run hs (j:=j + t.nsl) hy fun id hid=>hd id (List.mem_append_right _ hid)
         obtain ⟨u,h3,h4⟩:=res_run hs hp
         obtain ⟨cs,h5,h6⟩:=out_rep hs hx h4 fun id hid=>hd id (List.mem_append_left _ hid)
         refine ⟨u::us,?_,u,us,rfl,⟨cs,h5,h6⟩,h2⟩
         rw [List.mapM_cons]
         simp only [Sem.run_bind,h3,Result.andThen_ok,h1,Sem.run_pure]
       · cases h
     · cases h
   · cases h
def slR (t:Ty) (cs:List PV) (n0:Nat) (id n:Nat):Prop:=∃ j,j < t.nsl ∧ id ∈ rowIds [slPv t cs j] ∧ n = n0 + j
theorem slR_uq {t:Ty} {cs:List PV} {n0 id n n':Nat} (hl:cs.length = t.size) (hn:(rowIds cs).Nodup) (h:slR t cs n0 id n) (h':slR t cs n0 id n'):n = n':=by
 obtain ⟨j,h1,h2,rfl⟩:=h
 obtain ⟨j',h1',h2',rfl⟩:=h'
 rw [slPv_inj hl hn h1 h1' h2 h2']
theorem rowP_out (hu:RnUq Rn) {ids:List Nat} {n:Nat} (hr:∀ id ∈ ids,∀ b o,Rn id b o n) {u:Ty} {y:L u.T} {h:Hdr} (hp:RowP g w ids u y h):RowC true (colF w0 g Rn) w n u y h:=by
 obtain ⟨nh,R,h1,h2⟩:=hp
 refine ⟨nh,R,RowR.recol h1,fun b o hR=>?_⟩
 obtain ⟨⟨r,r1,r2⟩,r3⟩:=h2 b o hR
 exact ⟨colF_rn hu r2 (hr r r1 b o),r3⟩
def RowS (g:Gh) (w:World) (ids:List Nat) (u:Ty) (y:L u.T) (h:Hdr):Prop :=
 (ids = [] ∧ y = nilL0 u ∧ h = (none,0,0)) ∨ ∃ r nv own,ids = [r] ∧ r < pBase ∧ RowR g.col w (g.R r) (g.nh r nv) own u y h ∧ Painted g w r
theorem slS_row (hs:Sim N c0 w0 σ g a w) {u:Ty} {p:PV} {y:L u.T} {v:Value} (h:slS σ.box u p = some y) (hr:Rep g w p v):∃ hd,v = slV hd ∧ RowS g w (rowIds [p]) u y hd:=by
 unfold slS at h
 split at h
 · simp only [Option.some.injEq] at h; subst h
   simp only [Rep] at hr
   exact ⟨(none,0,0),hr,.inl ⟨rfl,rfl,rfl⟩⟩
 · rename_i r v'
   split at h
   · rename_i t x f hv nv hbx
     split at h
     · rename_i hbq
       obtain rfl:=Ty.eq_of_beq hbq
       cases hq:(Nat.beq v' hv&&Nat.blt r pBase) with
       | false=>rw [hq] at h; cases h
       | true =>
         rw [hq] at h
         simp only [cond_true,Option.some.injEq,castT] at h
         subst h
         simp only [Bool.and_eq_true,Nat.blt_eq] at hq
         obtain rfl:=Nat.eq_of_beq_eq_true hq.1
         simp only [Rep] at hr
         obtain ⟨_,_,_,h4,h5⟩:=hs.box _ _ hbx
         exact ⟨_,hr.2,.inr ⟨r,nv,_,rfl,hq.2,h4,h5⟩⟩
     · cases h
   · cases h
 · cases h
theorem unS_sl (hs:Sim N c0 w0 σ g a w):∀ {t:Ty} {cs r:List PV} {y:t.T} {vs:List Value},unS σ.box t cs = some (y,r)→Reps g w cs vs →
 ∃ c1 v1 v2,cs = c1 ++ r ∧ vs = v1 ++ v2 ∧ Reps g w r v2 ∧ c1.length = t.size ∧ ∀ j0,SlP (fun j u y h=>RowS g w (rowIds [slPv t c1 (j - j0)]) u y h) t y v1 j0:=by
 intro t
 induction t with
 | int k =>
   intro cs r y vs h hr
   cases cs with
   | nil=>simp [unS] at h
   | cons p ps =>
     cases p <;> simp [unS] at h
     obtain ⟨rfl,rfl,rfl⟩:=h
     simp only [Reps,Rep] at hr
     obtain ⟨u,us,rfl,rfl,h3⟩:=hr
     exact ⟨[_],[_],us,rfl,rfl,h3,rfl,fun _=>rfl⟩
 | bool =>
   intro cs r y vs h hr
   cases cs with
   | nil=>simp [unS] at h
   | cons p ps =>
     cases p <;> simp [unS] at h
     obtain ⟨rfl,rfl⟩:=h
     simp only [Reps,Rep] at hr
     obtain ⟨u,us,rfl,rfl,h3⟩:=hr
     exact ⟨[_],[_],us,rfl,rfl,h3,rfl,fun _=>rfl⟩
 | str =>
   intro cs r y vs h hr
   cases cs with
   | nil=>simp [unS] at h
   | cons p ps =>
     cases p <;> simp [unS] at h
     obtain ⟨rfl,rfl⟩:=h
     simp only [Reps,Rep] at hr
     obtain ⟨u,us,rfl,rfl,h3⟩:=hr
     exact ⟨[_],[_],us,rfl,rfl,h3,rfl,fun _=>rfl⟩
 | unit =>
   intro cs r y vs h hr
   simp [unS] at h
   subst h
   exact ⟨[],[],vs,rfl,rfl,hr,rfl,fun _=>rfl⟩
 | pair p q ihp ihq =>
   intro cs r y vs h hr
   simp only [unS] at h
   split at h
   · rename_i x1 r1 h1
     split at h
     · rename_i x2 r2 h2
       simp only [Option.some.injEq,Prod.mk.injEq] at h
       obtain ⟨rfl,rfl⟩:=h
       obtain ⟨c1,v1,v2,rfl,rfl,k1,k3,k6⟩:=ihp h1 hr
       obtain ⟨d1,u1,u2,rfl,rfl,l1,l3,l6⟩:=ihq h2 k1
       have e1:(c1 ++ d1).take p.size = c1:=by rw [← k3]; exact List.take_left
       have e2:(c1 ++ d1).drop p.size = d1:=by rw [← k3]; exact List.drop_left
       refine ⟨c1 ++ d1,v1 ++ u1,u2,by simp,by simp,l1,by simp [k3,l3,Ty.size],fun j0=>⟨v1,u1,rfl,(k6 j0).mono fun j u y h a1 a2 hq=>?_,(l6 (j0 + p.nsl)).mono fun j u y h a1 a2 hq=>?_⟩⟩
       · have hb':Nat.blt (j - j0) p.nsl = true:=by rw [Nat.blt_eq]; omega
         simp only [slPv,hb',cond_true,e1]
         exact hq
       · have hb':Nat.blt (j - j0) p.nsl = false:=by rw [Bool.eq_false_iff]; intro q; have:=Nat.blt_eq.mp q; omega
         simp only [slPv,hb',cond_false,e2]
         rw [show j - j0 - p.nsl = j - (j0 + p.nsl) by omega]
         exact hq
     · cases h
   · cases h
 | sl u ih =>
   intro cs r y vs h hr
   cases cs with
   | nil=>simp [unS] at h
   | cons p ps =>
     simp only [unS] at h
     split at h
     · rename_i y' h1
       simp only [Option.some.injEq,Prod.mk.injEq] at h
       obtain ⟨rfl,rfl⟩:=h
       simp only [Reps] at hr
       obtain ⟨v,us,rfl,h2,h3⟩:=hr
       obtain ⟨hd,rfl,h4⟩:=slS_row hs h1 h2
       exact ⟨[p],[_],us,rfl,rfl,h3,rfl,fun j0=>⟨hd,rfl,h4⟩⟩
     · cases h
theorem rowS_out (hu:RnUq Rn) {ids:List Nat} {n:Nat} (hr:∀ id ∈ ids,∀ b o,g.R id b o = some none→Rn id b o n) (hnest:∀ id ∈ ids,∀ b o l,g.R id b o = some (some l)→g.col b o = .bx id→colF w0 g Rn b o = .st) {u:Ty} {y:L u.T} {h:Hdr} (hp:RowS g w ids u y h):RowC false (colF w0 g Rn) w n u y h:=by
 rcases hp with ⟨_,rfl,rfl⟩ | ⟨r,nv,own,rfl,_,⟨h1,h2,h3⟩,h4⟩
 · exact ⟨_,_,nil_row u _,fun _ _ q=>absurd rfl q⟩
 · have hst:Stays g.col w (colF w0 g Rn) w:=(gstays_colF w0 g Rn w).toStays
   -- elements as data
   have hel:∀ i,i < y.len→∃ us,us.length = u.size ∧ RepT (colF w0 g Rn) w u (y.get i) us ∧ ∀ ad,h.1 = some ad→∀ (q:Nat) (v:Value),us[q]? = some v→w.cell? ⟨ad.block,ad.off + i * u.size + q,none⟩ = some v:=fun i hi=>by
    obtain ⟨us,q1,q2,q3⟩:=h3 i hi
    refine ⟨us,q1,?_,q3⟩
    have toT:∀ {t:Ty} {x:t.T} {vs:List Value} {j:Nat},RepN g.col w (g.R r) (g.nh r nv) (own i) i t x vs j→RepT (colF w0 g Rn) w t x vs:=by
     intro t
     induction t with
     | int k=>exact fun h=>h
     | bool=>exact fun h=>h
     | str=>exact fun h=>h
     | unit=>exact fun h=>h
     | pair a b iha ihb =>
       rintro x vs j ⟨v1,v2,e,h1,h2⟩
       exact ⟨v1,v2,e,iha h1,ihb h2⟩
     | sl t ih =>
       rintro x vs j ⟨e,⟨m0,m1,m2,m3⟩,m4,m5⟩
       cases hown:own i with
       | false=>exact RepT.mono hst _ _ _ (m5 hown)
       | true =>
         obtain ⟨hf,ho,he⟩:=m4 hown
         refine ⟨(g.nh r nv i j).1,(g.nh r nv i j).2.2,by rw [e,slV,m0],m1,⟨m2,m3⟩,fun ad had=>⟨fun _=>(ho ad had).1,fun k hk=>?_⟩⟩
         obtain ⟨us,p1,p2,p3⟩:=he k hk
         refine ⟨us,RepT.flat hf p2,fun q v hq=>⟨?_,p3 ad had q v hq⟩⟩
         have hql:q < t.size:=by rw [← p1]; exact (List.getElem?_eq_some_iff.mp hq).1
         have hR:=((ho ad had).2 (k * t.size + q) (Nat.lt_of_lt_of_le (lt_row hk hql) (Nat.mul_le_mul_right _ m1))).1
         rw [← Nat.add_assoc] at hR
         exact hnest r (by simp) _ _ _ hR (h4 _ _ (by rw [hR]; simp)).1
    exact toT q2
   have hch:∀ i,∃ nhi:Nat→Hdr,i < y.len→∃ us,us.length = u.size ∧ (∀ nh:Nat→Nat→Hdr,nh i = nhi→RepN (colF w0 g Rn) w (fun b o=>if g.R r b o = some none then some none else none) nh false i u (y.get i) us 0) ∧ ∀ ad,h.1 = some ad→∀ (q:Nat) (v:Value),us[q]? = some v→w.cell? ⟨ad.block,ad.off + i * u.size + q,none⟩ = some v:=fun i=>by
    by_cases hi:i < y.len
    · obtain ⟨us,q1,q2,q3⟩:=hel i hi
      obtain ⟨nhi,q4⟩:=RepN.of_T (R:=fun b o=>if g.R r b o = some none then some none else none) (i:=i) (j:=0) q2
      exact ⟨nhi,fun _=>⟨us,q1,fun nh hn=>q4 nh fun j' _ _=>by rw [hn],q3⟩⟩
    · exact ⟨fun _=>(none,0,0),fun q=>absurd q hi⟩
   refine ⟨fun i=>Classical.choose (hch i),fun b o=>if g.R r b o = some none then some none else none,⟨h1,h2.mono fun b o v a1 a2 a3=>⟨if_pos a1,⟨v,a2⟩,a3⟩,fun i hi=>?_⟩,fun b o hR=>?_⟩
   · obtain ⟨us,q1,q2,q3⟩:=Classical.choose_spec (hch i) hi
     exact ⟨us,q1,q2 _ rfl,q3⟩
   · by_cases e:g.R r b o = some none
     · obtain ⟨a1,a2⟩:=h4 b o (by rw [e]; simp)
       exact ⟨colF_rn hu a1 (hr r (by simp) b o e),a2⟩
     · exact absurd (if_neg e) hR
def resR (P:Program) (σ:AS):List Ty→List ResultVar→Nat→Nat→Nat→Prop
 | t::r,v::vs,j0,id,n=>(∃ p,resPV P σ v = some p ∧ slR t p.cel (oBase + j0) id n) ∨ resR P σ r vs (j0 + t.nsl) id n
 | _,_,_,_,_=>False
theorem frs_run (hs:Sim N c0 w0 σ g a w) (hu:RnUq Rn) {fr:Nat}:∀ {ts:List Ty} {vs:List ResultVar} {y:TysT ts} {l:List Nat} {j:Nat},unFs P σ fr ts vs = some (y,l)→(∀ id n,resR P σ ts vs j id n→∀ b o,(Nat.beq fr 1 = false→g.R id b o = some none)→Rn id b o n) →
 (Nat.beq fr 1 = false→∀ id ∈ l,id < pBase→∀ b o m,g.R id b o = some (some m)→g.col b o = .bx id→colF w0 g Rn b o = .st) →
 ∃ us:List Value,(vs.mapM (resStep a.tmps)).run P w = .ok us w ∧ FrOuts (fun t x cs j=>SlP (fun j u y h=>RowC (Nat.beq fr 1) (colF w0 g Rn) w (oBase + j) u y h) t x cs j) ts y us j
 | [],[],y,l,j,_,_,_=>⟨[],rfl,by simp only [FrOuts]⟩
 | [],v::vs,y,l,j,h,_,_=>by simp [unFs] at h
 | t::r,[],y,l,j,h,_,_=>by simp [unFs] at h
 | t::r,v::vs,y,l,j,h,hd,hn=>by
   simp only [unFs] at h
   split at h
   · rename_i p hp
     split at h
     · rename_i hag
       split at h
       · rename_i x hx
         split at h
         · rename_i y2 l2 hy
           simp only [Option.some.injEq,Prod.mk.injEq] at h
           obtain ⟨rfl,rfl⟩:=h
           obtain ⟨us,h1,h2⟩:=frs_run hs hu (j:=j + t.nsl) hy (fun id n hr=>hd id n (.inr hr)) (fun e id hid=>hn e id (List.mem_append_right _ hid))
           obtain ⟨u,h3,h4⟩:=res_run hs hp
           obtain ⟨us0,hus0⟩:=cel_reps h4
           have hx:=all0_some hx
           have key:∃ cs,SlP (fun j u y h=>RowC (Nat.beq fr 1) (colF w0 g Rn) w (oBase + j) u y h) t x cs j ∧ u = mkV t cs:=by
            cases hf:Nat.beq fr 1 with
            | true =>
              rw [hf] at hx
              obtain ⟨c1,v1,v2,e1,_,_,_,k3,_⟩:=unM_sl (μ:=σ) (fun id c hc=>hs.box id c hc) hx hus0
              rw [List.append_nil] at e1
              subst e1
              obtain ⟨cs,hcs,rfl⟩:=cel_of hag k3 h4
              obtain ⟨c1,v1,v2,e1,e2,k1,_,k3,_,_,k6⟩:=unM_sl (μ:=σ) (fun id c hc=>hs.box id c hc) hx hcs
              rw [List.append_nil] at e1
              subst e1
              simp only [Reps] at k1
              subst k1
              rw [List.append_nil] at e2
              subst e2
              refine ⟨cs,(k6 j).mono fun j' u y h q1 q2 hq=>rowP_out hu (fun id hid b o=>?_) hq,rfl⟩
              exact hd id _ (.inl ⟨p,hp,j' - j,by omega,hid,by omega⟩) b o (fun q=>by rw [hf] at q; cases q)
            | false =>
              rw [hf] at hx
              obtain ⟨c1,v1,v2,e1,_,_,k3,_⟩:=unS_sl hs hx hus0
              rw [List.append_nil] at e1
              subst e1
              obtain ⟨cs,hcs,rfl⟩:=cel_of hag k3 h4
              obtain ⟨c1,v1,v2,e1,e2,k1,k3,k6⟩:=unS_sl hs hx hcs
              rw [List.append_nil] at e1
              subst e1
              simp only [Reps] at k1
              subst k1
              rw [List.append_nil] at e2
              subst e2
              refine ⟨cs,(k6 j).mono fun j' u y h q1 q2 hq=>rowS_out hu (fun id hid b o hR=>hd id _ (.inl ⟨p,hp,j' - j,by omega,hid,by omega⟩) b o fun _=>hR) (fun id hid b o m hR hc=>?_) hq,rfl⟩
              refine hn hf id (List.mem_append_left _ (slPv_mem k3 (by omega) hid)) ?_ b o m hR hc
              rcases hq with ⟨q,_⟩ | ⟨r',_,_,q,q',_⟩
              · rw [q] at hid; cases hid
              · rw [q] at hid; rw [List.mem_singleton.mp hid]; exact q'
           obtain ⟨cs,q1,q2⟩:=key
           refine ⟨u::us,?_,u,us,rfl,⟨cs,q1,q2⟩,h2⟩
           rw [List.mapM_cons]
           simp only [Sem.run_bind,h3,Result.andThen_ok,h1,Sem.run_pure]
         · cases h
       · cases h
     · cases h
   · cases h
end
end Go.VE
