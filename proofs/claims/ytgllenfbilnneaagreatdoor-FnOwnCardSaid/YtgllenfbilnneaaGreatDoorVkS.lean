import Derived.Test.YtgllenfbilnneaaGreatDoorVkR
/- Calls: behind them. -/
namespace Go.VE
structure GOOD (g g':Gh) (w w':World) (bx:List (Nat×aU)) (F:List Nat) (ns:List iZ):Prop where
 st:bV g w g' w'
 n:∀ n ∈ ns,g'.dh n.id n.hv ∧ g'.hd n.id n.hv = n.hd ∧ g'.dn n.id n.nv ∧ g'.nh n.id n.nv = n.nh ∧ g'.ni n.id n.nv = n.ni ∧ g'.R n.id = n.R ∧ ∀ b o,n.R b o ≠ none→g'.col b o = .bx n.id
 keep:∀ id ∈ bx.map (·.1),id ∉ F→g'.R id = g.R id ∧ ∀ b o,b < w.heap.size→g.col b o = .bx id→g'.col b o = .bx id
structure AP (g:Gh) (w w':World) (κ col':Nat→Nat→Col) (ν:Nat→Nat) (dat:Gh→Prop) (bx:List (Nat×aU)) (F:List Nat) (ns:List iZ):Prop where
 sub:(ns.map (·.id)).Sublist (bx.map (·.1))
 nF:∀ n ∈ ns,n.id ∈ F
 gv:∀ id ∈ F,id ∈ bx.map (·.1) ∧ ¬ stay id ∧ ¬ g.db id
 fresh:∀ n ∈ ns,(∀ u,g.dh n.id u→u < n.hv ∨ (u = n.hv ∧ g.hd n.id u = n.hd)) ∧ ∀ u,g.dn n.id u→u < n.nv ∨ (u = n.nv ∧ g.nh n.id u = n.nh ∧ g.ni n.id u = n.ni)
 reg:∀ n ∈ ns,∀ b o,n.R b o ≠ none→(∃ v,w'.cell? ⟨b,o,none⟩ = some v) ∧ w'.frozen? ⟨b,o,none⟩ = false ∧
  ((∃ s,col' b o = .bx s ∧ ν s = n.id ∧ (w.heap.size≤b ∨ ∃ m,given m ∧ κ b o = .bx m)) ∨ (b < w.heap.size ∧ g.col b o = .bx n.id ∧ ∀ m,given m→κ b o ≠ .bx m))
 db:∀ id c,(id,c) ∈ bx→(g.db id ∧ c.mG = true) ∨ (¬ g.db id ∧ c.mG = false ∧ (∀ u,g.dh id u→u≤c.hv) ∧ (∀ u,g.dn id u→u≤c.nv) ∧ ∀ n ∈ ns,n.id = id→n.hv≤c.hv ∧ n.nv≤c.nv)
 rep:∀ g',GOOD g g' w w' bx F ns→dat g'→∀ id c,(id,c) ∈ bx→gF g' w' id c
theorem AP.nil {g:Gh} {w w':World} {κ col':Nat→Nat→Col} {ν:Nat→Nat} {dat:Gh→Prop}:AP g w w' κ col' ν dat [] [] [] :=
 ⟨by simp,fun n hn=>(by cases hn),fun id hi=>(by cases hi),fun n hn=>(by cases hn),fun n hn=>(by cases hn),fun id c hm=>(by cases hm),fun g' _ _ id c hm=>(by cases hm)⟩
theorem AP.append {g:Gh} {w w':World} {κ col':Nat→Nat→Col} {ν:Nat→Nat} {dat:Gh→Prop} {b1 b2:List (Nat×aU)} {F1 F2:List Nat} {n1 n2:List iZ} (h1:AP g w w' κ col' ν dat b1 F1 n1) (h2:AP g w w' κ col' ν dat b2 F2 n2)
 (hn:((b1 ++ b2).map (·.1)).Nodup):AP g w w' κ col' ν dat (b1 ++ b2) (F1 ++ F2) (n1 ++ n2):=by
 rw [List.map_append,List.nodup_append] at hn
 obtain ⟨_,_,Ag⟩:=hn
 have m1:∀ {id},id ∈ b1.map (·.1)→id ∈ (b1 ++ b2).map (·.1):=fun h=>by rw [List.map_append]; exact List.mem_append_left _ h
 have m2:∀ {id},id ∈ b2.map (·.1)→id ∈ (b1 ++ b2).map (·.1):=fun h=>by rw [List.map_append]; exact List.mem_append_right _ h
 have fst:∀ {id c} {b:List (Nat×aU)},(id,c) ∈ b→id ∈ b.map (·.1):=fun h=>List.mem_map.mpr ⟨_,h,rfl⟩
 refine ⟨by rw [List.map_append,List.map_append]; exact h1.sub.append h2.sub,fun n hn=>?_,fun id hi=>?_,fun n hn=>?_,fun n hn=>?_,fun id c hm=>?_,fun g' hg hdt id c hm=>?_⟩
 · rcases List.mem_append.mp hn with hn | hn
   · exact List.mem_append_left _ (h1.nF n hn)
   · exact List.mem_append_right _ (h2.nF n hn)
 · rcases List.mem_append.mp hi with hi | hi
   · obtain ⟨q1,q2⟩:=h1.gv id hi; exact ⟨m1 q1,q2⟩
   · obtain ⟨q1,q2⟩:=h2.gv id hi; exact ⟨m2 q1,q2⟩
 · rcases List.mem_append.mp hn with hn | hn
   · exact h1.fresh n hn
   · exact h2.fresh n hn
 · rcases List.mem_append.mp hn with hn | hn
   · exact h1.reg n hn
   · exact h2.reg n hn
 · rcases List.mem_append.mp hm with hm | hm
   · refine (h1.db id c hm).imp (fun q=>q) fun ⟨q1,q2,q3,q4,q5⟩=>⟨q1,q2,q3,q4,fun n hn e=>?_⟩
     rcases List.mem_append.mp hn with hn | hn
     · exact q5 n hn e
     · exact absurd rfl (Ag id (fst hm) id (e ▸ (h2.gv _ (h2.nF n hn)).1))
   · refine (h2.db id c hm).imp (fun q=>q) fun ⟨q1,q2,q3,q4,q5⟩=>⟨q1,q2,q3,q4,fun n hn e=>?_⟩
     rcases List.mem_append.mp hn with hn | hn
     · exact absurd rfl (Ag id (e ▸ (h1.gv _ (h1.nF n hn)).1) id (fst hm))
     · exact q5 n hn e
 · rcases List.mem_append.mp hm with hm | hm
   · refine h1.rep g' ⟨hg.st,fun n hn=>hg.n n (List.mem_append_left _ hn),fun id hid hF=>hg.keep id (m1 hid) fun q=>?_⟩ hdt id c hm
     rcases List.mem_append.mp q with q | q
     · exact hF q
     · exact absurd rfl (Ag id hid id (h2.gv id q).1)
   · refine h2.rep g' ⟨hg.st,fun n hn=>hg.n n (List.mem_append_right _ hn),fun id hid hF=>hg.keep id (m2 hid) fun q=>?_⟩ hdt id c hm
     rcases List.mem_append.mp q with q | q
     · exact absurd rfl (Ag id (h1.gv id q).1 id hid)
     · exact hF q
def uO (box:Nat→Option aU):In→PV→List Nat
 | .pt t,.bx id off=>mZ id t ((dS box t.size (.bx id off)).getD []) off
 | .pt _,.me id _ _ _ _=>[id]
 | .mv _,p=>ay p.dY
 | _,_=>[]
def JQ (box:Nat→Option aU):In→PV→Nat→Nat
 | .pt t,.bx id off,j=>(mZ id t ((dS box t.size (.bx id off)).getD []) off).getD j 0
 | .pt _,.me id _ _ _ _,_=>id
 | _,_,_=>0
theorem nR {i j:Nat} (hi:i < 1000) (hj:j < 60):given (pN i + 1 + j):=by
 unfold given pN bF dV; omega
theorem gZ {i:Nat}:¬ given (pN i):=by
 rintro ⟨_,_,h⟩; unfold pN bF at h; omega
theorem uP {i j:Nat}:¬ given (wN i + j):=by
 rintro ⟨_,h,_⟩; unfold wN at h; omega
theorem ru {m:Nat} (h:given m):¬ (m < bY ∧ stay m):=by
 obtain ⟨h1,h2,h3⟩:=h
 rintro ⟨_,q | ⟨_,q⟩⟩
 · omega
 · exact h3 q
section
variable {P:Program} {N:Fr} {c0:Nat→Nat→Col} {w0:World} {σ:AS} {g:Gh} {a:Act} {w w':World} {box:Nat→Option aU} {fP:List Nat} {W:List Au} {col':Nat→Nat→Col} {ν:Nat→Nat} {dat:Gh→Prop}
theorem o9 {i:In} {p:PV} {x:i.T} {pos:Nat} (h:iL box i p = some x) (hb:bK g w box) {v:Value} (hr:aF g w p v) {e:Au} (he:e ∈ bg g box i p pos):e.1 ∈ yK box i p:=by
 cases i with
 | pt t =>
   cases p <;> simp only [bg,List.not_mem_nil] at he
   · rename_i id off
     rcases List.mem_cons.mp he with rfl | he
     · simp [yK]
     · obtain ⟨j,hj,he⟩:=dW.mp he
       have hm:=(fT he).1
       simp only [iL] at h
       split at h
       · rename_i cs hcs
         rw [hcs,Option.getD_some] at hm
         simp only [yK,hcs,Option.getD_some,List.mem_cons]
         right
         obtain ⟨_,_,us,_,uf,_⟩:=nC hb hcs hr
         obtain ⟨c1,v1,v2,e1,_,_,_,k3,_⟩:=jl (μ:={ env:=fun _=>.any,box:=box }) hb (dF h) uf
         rw [List.append_nil] at e1
         subst e1
         exact dD k3 hj hm
       · cases h
   · rcases List.mem_cons.mp he with rfl | he
     · simp [yK]
     · obtain ⟨j,_,rfl⟩:=List.mem_map.mp he
       simp [yK]
 | ow t =>
   simp only [bg] at he
   obtain ⟨j,hj,he⟩:=fQ.mp he
   have hm:=(iT he).1
   simp only [iL] at h
   split at h
   · obtain ⟨us,uf⟩:=gU hr
     obtain ⟨c1,v1,v2,e1,_,_,k3,_⟩:=wP hb (dF h) uf
     rw [List.append_nil] at e1
     subst e1
     simp only [yK]
     exact lF k3 hj hm
   · cases h
 | mv t =>
   simp only [bg] at he
   obtain ⟨j,hj,he⟩:=dW.mp he
   have hm:=(fT he).1
   simp only [iL] at h
   split at h
   · obtain ⟨us,uf⟩:=gU hr
     obtain ⟨c1,v1,v2,e1,_,_,_,k3,_⟩:=jl (μ:={ env:=fun _=>.any,box:=box }) hb (dF h) uf
     rw [List.append_nil] at e1
     subst e1
     simp only [yK]
     exact dD k3 hj hm
   · cases h
 | pd t =>
   cases p <;> simp only [iL] at h <;> try cases h
   simp only [bg,xG,List.mem_singleton] at he
   subst he
   simp [yK]
 | _=>simp [bg] at he
theorem VN {i:In} {p:PV} {x:i.T} {pos:Nat} (h:iL box i p = some x) (hb:bK g w box) {v:Value} (hr:aF g w p v) (hn:(yK box i p).Nodup):uN (bg g box i p pos):=by
 have rows:∀ {t:Ty} {cs:List PV} {n:Nat},cs.length = t.size→(ay cs).Nodup→∀ e ∈ kF t cs n,∀ e' ∈ kF t cs n,e.1 = e'.1→e.2.2 = e'.2.2:=by
  intro t cs n hl hnd e he e' he' heq
  obtain ⟨j,hj,he⟩:=dW.mp he
  obtain ⟨j',hj',he'⟩:=dW.mp he'
  obtain ⟨m1,m2⟩:=fT he
  obtain ⟨m1',m2'⟩:=fT he'
  have:=uJ hl hnd hj hj' m1 (heq ▸ m1')
  rw [m2,m2',this]
 cases i with
 | pt t =>
   cases p <;> simp only [iL] at h <;> try cases h
   · rename_i id off
     split at h
     · rename_i cs hcs
       obtain ⟨_,_,us,_,uf,_⟩:=nC hb hcs hr
       obtain ⟨c1,v1,v2,e1,_,_,_,k3,_⟩:=jl (μ:={ env:=fun _=>.any,box:=box }) hb (dF h) uf
       rw [List.append_nil] at e1
       subst e1
       simp only [yK,hcs,Option.getD_some] at hn
       obtain ⟨hn1,hn2⟩:=List.nodup_cons.mp hn
       have hne:∀ e ∈ kF t cs (pN pos + 1),e.1 ≠ id:=fun e he q=>by
        obtain ⟨j,hj,he⟩:=dW.mp he
        exact hn1 (q ▸ dD k3 hj (fT he).1)
       intro e he e' he' heq b o _ _
       simp only [bg,hcs,Option.getD_some] at he he'
       rcases List.mem_cons.mp he with rfl | he <;> rcases List.mem_cons.mp he' with rfl | he'
       · rfl
       · exact absurd heq.symm (hne e' he')
       · exact absurd heq (hne e he)
       · exact rows k3 hn2 e he e' he' heq
     · cases h
   · rename_i id v' sz k off
     intro e he e' he' heq b o q q'
     simp only [bg] at he he'
     rcases List.mem_cons.mp he with rfl | he <;> rcases List.mem_cons.mp he' with rfl | he'
     · rfl
     · obtain ⟨j,_,rfl⟩:=List.mem_map.mp he'
       have:=q.1.symm.trans q'; cases this
     · obtain ⟨j,_,rfl⟩:=List.mem_map.mp he
       have:=q'.1.symm.trans q; cases this
     · obtain ⟨j,_,rfl⟩:=List.mem_map.mp he
       obtain ⟨j',_,rfl⟩:=List.mem_map.mp he'
       have:=q.symm.trans q'
       simp only [Option.some.injEq,Prod.mk.injEq,true_and] at this
       rw [this]
 | ow t =>
   simp only [iL] at h
   split at h
   · obtain ⟨us,uf⟩:=gU hr
     obtain ⟨c1,v1,v2,e1,_,_,k3,_⟩:=wP hb (dF h) uf
     rw [List.append_nil] at e1
     subst e1
     intro e he e' he' heq b o _ _
     simp only [bg] at he he'
     obtain ⟨j,hj,he⟩:=fQ.mp he
     obtain ⟨j',hj',he'⟩:=fQ.mp he'
     obtain ⟨m1,m2⟩:=iT he
     obtain ⟨m1',m2'⟩:=iT he'
     have:=CJ k3 hn hj hj' m1 (heq ▸ m1')
     rw [m2,m2',this]
   · cases h
 | mv t =>
   simp only [iL] at h
   split at h
   · obtain ⟨us,uf⟩:=gU hr
     obtain ⟨c1,v1,v2,e1,_,_,_,k3,_⟩:=jl (μ:={ env:=fun _=>.any,box:=box }) hb (dF h) uf
     rw [List.append_nil] at e1
     subst e1
     intro e he e' he' heq b o _ _
     exact rows k3 hn e he e' he' heq
   · cases h
 | pd t =>
   cases p <;> simp only [iL] at h <;> try cases h
   intro e he e' he' _ b o _ _
   simp only [bg,xG,List.mem_singleton] at he he'
   rw [he,he']
 | _=>intro e he; simp [bg] at he
theorem Y7 (hs:bO N c0 w0 σ g a w) (hb:bK g w box) (hk:Keep (dI g fP W) w w') {n0:Nat→Nat→Nat→bT} {pos:Nat}
 {t:Ty} {id off:Nat} {x:t.T} {v:Value} {y:lI [In.pd t]} {tK:List (Nat×aU)} (h:iL box (.pd t) (.bx id off) = some x) (hr:aF g w (.bx id off) v) (hwb:Fp box (.pd t) (.bx id off) y = some tK)
 (hdat:∀ g':Gh,dat g'→∀ us,bC col' w' t y.1 us→bC g'.col w' t y.1 us)
 (hpt:CG n0 col' w' (.pd t) y pos v) (hW:∀ e ∈ W,e.1 = id→e ∈ bg g box (.pd t) (.bx id off) pos) :
 AP g w w' (dI g fP W) col' ν dat tK [] [] ∧ tK.map (·.1) = [id]:=by
 simp only [Fp] at hwb
 split at hwb
 · rename_i cs0 hbx
   simp only [Option.some.injEq] at hwb
   have hcs:dS box t.size (.bx id off) = some ((cs0.drop off).take t.size):=by simp only [dS,hbx]
   simp only [iL,hcs] at h
   obtain ⟨b,o,us,rfl,hrt,huc⟩:=hpt
   simp only [aF] at hr
   obtain ⟨hdb,e⟩:=hr
   simp only [Value.pointer.injEq,Option.some.injEq,Addr.mk.injEq,and_true] at e
   obtain ⟨rfl,rfl⟩:=e
   have wL:tK.map (·.1) = [id]:=by rw [← hwb]; rfl
   obtain ⟨_,E9,h2,h3⟩:=hb _ _ hbx
   have hl1:=h2.length
   have lc:((cs0.drop off).take t.size).length = t.size:=by
    have:=(fA h ((h2.drop off).take t.size)).length
    have h9:=((h2.drop off).take t.size).length
    omega
   have Y0:us.length = t.size:=hrt.length
   refine ⟨⟨by simp,fun n hn=>(by cases hn),fun m hm=>(by cases hm),fun n hn=>(by cases hn),fun n hn=>(by cases hn),fun m c hm=>?_,fun g' hg hdt m c hm=>?_⟩,wL⟩
   · rw [← hwb,List.mem_singleton] at hm
     cases hm
     exact .inl ⟨hdb,rfl⟩
   · rw [← hwb,List.mem_singleton] at hm
     cases hm
     have hkp:=hg.keep id (by rw [wL]; simp) (by simp)
     have VO:(g'.bx id) = g.bx id:=(hg.st.db id hdb).2
     have uK:ak g' w' (pk t y.1) us:=gK (hdat g' hdt us hrt)
     have hnl:(pk t y.1).length = us.length:=uK.length.symm
     have Ob:t.size = 0 ∨ off + t.size≤E9.length:=by
      simp only [List.length_take,List.length_drop] at lc; omega
     refine ⟨(hg.st.db id hdb).1,E9.take off ++ us ++ E9.drop (off + us.length),?_,fun j v hj=>?_⟩
     · unfold splice
       rw [hnl]
       exact ak.append (ak.append ((ak.mono hg.st _ _ h2).take off) uK) ((ak.mono hg.st _ _ h2).drop _)
     · rw [VO]
       have hold:E9[j]? = some v→¬ (off≤j ∧ j < off + t.size)→g'.col (g.bx id).1 ((g.bx id).2 + j) = .bx id ∧ w'.cell? ⟨(g.bx id).1,(g.bx id).2 + j,none⟩ = some v ∧ w'.frozen? ⟨(g.bx id).1,(g.bx id).2 + j,none⟩ = false:=fun hj' hout=>by
        obtain ⟨q1,q2,q3⟩:=h3 j v hj'
        have hbl:=World.block_lt_of_cell? w _ q2
        refine ⟨hkp.2 _ _ hbl q1,(hk.dY _ hbl _ fun m hm=>?_).trans q2,(hk.uD _ hbl _).trans q3⟩
        obtain ⟨e,he,Eh,heq,_⟩:=kL hm
        rw [q1] at Eh
        have hid:id = e.1:=by cases Eh; rfl
        have:=hW e he hid.symm
        simp only [bg,xG,List.mem_singleton] at this
        subst this
        simp only at heq; omega
       rcases Ob with h0 | hfw
       · have su:us = []:=List.eq_nil_of_length_eq_zero (by omega)
         subst su
         simp only [List.append_nil,List.length_nil,Nat.add_zero,List.take_append_drop] at hj
         exact hold hj (by omega)
       · rw [iQ _ _ _ (by omega)] at hj
         by_cases hin:off≤j ∧ j < off + us.length
         · rw [if_pos hin] at hj
           obtain ⟨q1,q2,q3⟩:=h3 j E9[j] (List.getElem?_eq_getElem (by omega))
           have hbl:=World.block_lt_of_cell? w _ q2
           have h6:=huc _ v hj
           rw [show (g.bx id).2 + off + (j - off) = (g.bx id).2 + j by omega] at h6
           exact ⟨hkp.2 _ _ hbl q1,h6,(hk.uD _ hbl _).trans q3⟩
         · rw [if_neg hin] at hj
           exact hold hj (by omega)
 · cases hwb
theorem VQ (hs:bO N c0 w0 σ g a w) (hb:bK g w box) (hk:Keep (dI g fP W) w w') (hst:∀ b,b < w.heap.size→∀ o id,col' b o = .bx id→OutOk (dI g fP W) b o id) {n0:Nat→Nat→Nat→bT} {pos:Nat} (hpos:pos < 1000)
 {t:Ty} {id off:Nat} {x:t.T} {v:Value} {y:lI [In.pt t]} {tK:List (Nat×aU)} (hfit:fu (.pt t) = true) (h:iL box (.pt t) (.bx id off) = some x) (hr:aF g w (.bx id off) v) (hwb:Fp box (.pt t) (.bx id off) y = some tK) (fM:∀ m ∈ tK.map (·.1),box m = σ.box m)
 (hpt:CG n0 col' w' (.pt t) y pos v) (Y8:∀ j,j < t.bJ→ν (pN pos + 1 + j) = JQ box (.pt t) (.bx id off) j) (hW:∀ e ∈ W,e.1 ∈ yK box (.pt t) (.bx id off)→e ∈ bg g box (.pt t) (.bx id off) pos) :
 (∃ ns,AP g w w' (dI g fP W) col' ν dat tK (uO box (.pt t) (.bx id off)) ns) ∧ (∀ m ∈ yK box (.pt t) (.bx id off),m ∈ tK.map (·.1)) ∧ ∀ e ∈ bg g box (.pt t) (.bx id off) pos,given e.2.2→e.1 ∈ uO box (.pt t) (.bx id off):=by
 simp only [fu,Bool.and_eq_true,Nat.blt_eq] at hfit
 simp only [Fp] at hwb
 split at hwb
 · rename_i cs0 hbx
   have hcs:dS box t.size (.bx id off) = some ((cs0.drop off).take t.size):=by simp only [dS,hbx]
   simp only [iL,hcs] at h
   split at hwb
   · rename_i l hl
     cases hq:(nodupB (id::l.map (·.1))&&l.all fun m=>jI m.1) with
     | false=>rw [hq] at hwb; cases hwb
     | true =>
       rw [hq] at hwb
       simp only [cond_true,Option.some.injEq] at hwb
       simp only [Bool.and_eq_true,List.all_eq_true] at hq
       obtain ⟨hq1,hq2⟩:=hq
       have hq1:=gT hq1
       obtain ⟨l1,l2⟩:=tJ hl
       obtain ⟨c1,e1,lc,hrows⟩:=FQ (id:=id) (q:=off) (dF h)
       rw [List.append_nil] at e1
       have lc:((cs0.drop off).take t.size).length = t.size:=by rw [e1]; exact lc
       have hll:l.length = t.bJ:=by
        have:=congrArg List.length l1
        rw [List.length_map,IV (by omega)] at this
        exact this
       have hF:uO box (.pt t) (.bx id off) = l.map (·.1):=by simp only [uO,hcs,Option.getD_some,l1]
       have FR:(HZ false t y.1 l).map (·.1) = l.map (·.1):=by rw [JN (by omega),← hll,List.take_length]
       have wL:tK.map (·.1) = id::l.map (·.1):=by rw [← hwb,List.map_cons,FR]
       have hmem:∀ m ∈ yK box (.pt t) (.bx id off),m ∈ tK.map (·.1):=fun m hm=>by
        simp only [yK,hcs,Option.getD_some] at hm
        rw [wL]
        rcases List.mem_cons.mp hm with rfl | hm
        · simp
        · rw [l1]
          rw [e1] at hm ⊢
          exact List.mem_cons_of_mem _ (hrows m hm)
       have hdb:g.db id:=by
        simp only [aF] at hr; exact hr.1
       have hnx:∀ m ∈ l,sJ σ.box m.1 = some (m.2.1,m.2.2):=fun m hm=>by
        have:=l2 m hm
        unfold sJ at this ⊢
        rw [← fM m.1 (by rw [wL]; exact List.mem_cons_of_mem _ (List.mem_map.mpr ⟨m,hm,rfl⟩))]
        exact this
       refine ⟨?_,hmem,fun e he hgv=>?_⟩
       · obtain ⟨b,o,us,rfl,hsl,huc⟩:=hpt
         simp only [aF] at hr
         obtain ⟨_,e⟩:=hr
         simp only [Value.pointer.injEq,Option.some.injEq,Addr.mk.injEq,and_true] at e
         obtain ⟨rfl,rfl⟩:=e
         obtain ⟨ns,k1,k2,k3,k4⟩:=JO (own:=true) (nm:=fun j=>pN pos + 1 + j) hsl (l:=l) (by omega)
         simp only [Bool.not_true,cond_false] at k1 k3
         have Az:∀ n ∈ ns,(n.id,n.hv,n.nv) ∈ l:=fun n hn=>by
          obtain ⟨j,_,_,q,_⟩:=k2 n hn
          exact List.mem_of_getElem? q
         have Y9:id ∉ l.map (·.1):=(List.nodup_cons.mp hq1).1
         refine ⟨ns,⟨?_,fun n hn=>?_,fun m hm=>?_,fun n hn=>?_,fun n hn b o hR=>?_,fun m c hm=>?_,fun g' hg hdt m c hm=>?_⟩⟩
         · rw [k1,← hwb,List.map_cons]
           exact List.sublist_cons_self _ _
         · rw [hF]; exact List.mem_map.mpr ⟨_,Az n hn,rfl⟩
         · rw [hF] at hm
           obtain ⟨m',hm',rfl⟩:=List.mem_map.mp hm
           exact ⟨by rw [wL]; exact List.mem_cons_of_mem _ hm,eG (hq2 m' hm'),(gY hs (hnx m' hm')).1⟩
         · obtain ⟨_,q2,q3⟩:=gY hs (hnx _ (Az n hn))
           exact ⟨fun u hu=>.inl (q2 u hu),fun u hu=>.inl (q3 u hu)⟩
         · obtain ⟨j,_,hj,hlj,hp⟩:=k2 n hn
           obtain ⟨q1,q2,q3⟩:=hp b o hR
           have hj:j < t.bJ:=by omega
           refine ⟨q2,q3,.inl ⟨_,q1,?_,?_⟩⟩
           · rw [Y8 j hj]
             simp only [JQ,hcs,Option.getD_some]
             rw [← l1,List.getD_eq_getElem?_getD,List.getElem?_map]
             rw [Nat.sub_zero] at hlj
             rw [hlj]; rfl
           · rcases Nat.lt_or_ge b w.heap.size with hbl | hbl
             · exact .inr ((hst b hbl o _ q1).2 (ru (nR hpos (by omega))))
             · exact .inl hbl
         · rw [← hwb] at hm
           rcases List.mem_cons.mp hm with e | hm
           · cases e; exact .inl ⟨hdb,rfl⟩
           · right
             obtain ⟨n,hn,rfl,u,z,rfl,_⟩:=k3 m c hm
             obtain ⟨q1,q2,q3⟩:=gY hs (hnx _ (Az n hn))
             refine ⟨q1,rfl,fun u hu=>Nat.le_of_lt (q2 u hu),fun u hu=>Nat.le_of_lt (q3 u hu),fun n' hn' e=>?_⟩
             have e2:(n'.id,n'.hv,n'.nv) = (n.id,n.hv,n.nv):=by
              obtain ⟨i1,hi1⟩:=List.getElem?_of_mem (Az n' hn')
              obtain ⟨i2,hi2⟩:=List.getElem?_of_mem (Az n hn)
              have h1:(l.map (·.1))[i1]? = some n.id:=by rw [List.getElem?_map,hi1,← e]; rfl
              have h2:(l.map (·.1))[i2]? = some n.id:=by rw [List.getElem?_map,hi2]; rfl
              have:=(List.nodup_cons.mp hq1).2
              have hlt:=(List.getElem?_eq_some_iff.mp h1).1
              have:=(List.getElem?_inj hlt this).mp (h1.trans h2.symm)
              subst this
              rw [hi1] at hi2; exact Option.some.inj hi2
             simp only [Prod.mk.injEq] at e2
             exact ⟨by rw [e2.2.1]; exact Nat.le_refl _,by rw [e2.2.2]; exact Nat.le_refl _⟩
         · rw [← hwb] at hm
           rcases List.mem_cons.mp hm with e | hm
           · cases e
             obtain ⟨_,E9,h2,h3⟩:=hb _ _ hbx
             have hkp:=hg.keep id (by rw [wL]; simp) (by rw [hF]; exact Y9)
             have VO:(g'.bx id) = g.bx id:=(hg.st.db id hdb).2
             have Y0:us.length = t.size:=hsl.length
             have hl1:=h2.length
             have uK:=k4 g' w' fun n hn=>⟨(hg.n n hn).1,(hg.n n hn).2.1⟩
             have hnl:(Nj t y.1 l).length = us.length:=uK.length.symm
             have Ob:t.size = 0 ∨ off + t.size≤E9.length:=by
              simp only [List.length_take,List.length_drop] at lc; omega
             refine ⟨(hg.st.db id hdb).1,E9.take off ++ us ++ E9.drop (off + us.length),?_,fun j v hj=>?_⟩
             · unfold splice
               rw [hnl]
               exact ak.append (ak.append ((ak.mono hg.st _ _ h2).take off) uK) ((ak.mono hg.st _ _ h2).drop _)
             · rw [VO]
               have hold:E9[j]? = some v→¬ (off≤j ∧ j < off + t.size)→g'.col (g.bx id).1 ((g.bx id).2 + j) = .bx id ∧ w'.cell? ⟨(g.bx id).1,(g.bx id).2 + j,none⟩ = some v ∧ w'.frozen? ⟨(g.bx id).1,(g.bx id).2 + j,none⟩ = false:=fun hj' hout=>by
                obtain ⟨q1,q2,q3⟩:=h3 j v hj'
                have hbl:=World.block_lt_of_cell? w _ q2
                refine ⟨hkp.2 _ _ hbl q1,(hk.dY _ hbl _ fun m hm=>?_).trans q2,(hk.uD _ hbl _).trans q3⟩
                obtain ⟨e,he,Eh,heq,_⟩:=kL hm
                rw [q1] at Eh
                have hid:id = e.1:=by cases Eh; rfl
                have:=hW e he (by rw [← hid]; simp [yK])
                simp only [bg,hcs,Option.getD_some] at this
                rcases List.mem_cons.mp this with rfl | this
                · simp only at heq; omega
                · obtain ⟨j',hj',he'⟩:=dW.mp this
                  have hm2:=(fT he').1
                  rw [← hid] at hm2
                  have h4:=dD lc hj' hm2
                  rw [e1] at h4
                  have h5:=hrows id h4
                  rw [← e1,← l1] at h5
                  exact Y9 h5
               rcases Ob with h0 | hfw
               · have su:us = []:=List.eq_nil_of_length_eq_zero (by omega)
                 subst su
                 simp only [List.append_nil,List.length_nil,Nat.add_zero,List.take_append_drop] at hj
                 exact hold hj (by omega)
               · rw [iQ _ _ _ (by omega)] at hj
                 by_cases hin:off≤j ∧ j < off + us.length
                 · rw [if_pos hin] at hj
                   obtain ⟨q1,q2,q3⟩:=h3 j E9[j] (List.getElem?_eq_getElem (by omega))
                   have hbl:=World.block_lt_of_cell? w _ q2
                   have h6:=huc _ v hj
                   rw [show (g.bx id).2 + off + (j - off) = (g.bx id).2 + j by omega] at h6
                   exact ⟨hkp.2 _ _ hbl q1,h6,(hk.uD _ hbl _).trans q3⟩
                 · rw [if_neg hin] at hj
                   exact hold hj (by omega)
           · obtain ⟨n,hn,rfl,u,z,rfl,hni,hrow⟩:=k3 m c hm
             obtain ⟨p1,p2,p3,p4,p5,p6,p7⟩:=hg.n n hn
             refine ⟨p1,p3,p5.trans hni,?_,fun b o hR=>?_⟩
             · rw [p2,p4,p6]; exact cB.lM hrow
             · rw [p6] at hR
               obtain ⟨j,_,_,_,hp⟩:=k2 n hn
               exact ⟨p7 b o hR,(hp b o hR).2⟩
       · simp only [bg,hcs,Option.getD_some] at he
         rcases List.mem_cons.mp he with rfl | he
         · exact absurd hgv gZ
         · obtain ⟨j,hj,he⟩:=dW.mp he
           rw [hF,l1,e1]
           refine hrows _ ?_
           rw [← e1]
           exact dD lc hj (fT he).1
   · cases hwb
 · cases hwb
end
end Go.VE
