import Derived.Test.YtgllenfbilnneaaGreatDoorVkT
/- Calls: behind them,as a whole. -/
namespace Go.VE
def giveL (box:Nat→Option BoxC):List In→List PV→List Nat
 | i::r,p::ps=>giveF box i p ++ giveL box r ps
 | _,_=>[]
def nuL (box:Nat→Option BoxC) (ins:List In) (ps:List PV) (rb s:Nat):Nat:=if oBase≤s then rb + (s - oBase) else match ins[(s - pBase) / 64]?,ps[(s - pBase) / 64]? with
 | some i,some p=>nuArg box i p ((s - pBase) % 64 - 1)
 | _,_=>0
theorem nuL_eq {box:Nat→Option BoxC} {ins:List In} {ps:List PV} {rb pos j:Nat} {i:In} {p:PV} (hi:ins[pos]? = some i) (hp:ps[pos]? = some p) (hpos:pos < 1000) (hj:j < 60):nuL box ins ps rb (pN pos + 1 + j) = nuArg box i p j:=by
 have e1:(pN pos + 1 + j - pBase) / 64 = pos:=by unfold pN; omega
 have e2:(pN pos + 1 + j - pBase) % 64 - 1 = j:=by unfold pN; omega
 have e3:¬ oBase≤pN pos + 1 + j:=by unfold oBase pN pBase; omega
 unfold nuL
 rw [if_neg e3,e1,e2,hi,hp]
section
variable {P:Program} {N:Fr} {c0:Nat→Nat→Col} {w0:World} {σ:AS} {g:Gh} {a:Act} {w w':World} {box:Nat→Option BoxC} {rfs:List Nat} {W:List Win} {col':Nat→Nat→Col} {dat:Gh→Prop}
theorem unIns_cons {i:In} {r:List In} {p:PV} {ps:List PV} {x:InsT (i::r)} (h:unIns box (i::r) (p::ps) = some x):unIn box i p = some x.1 ∧ unIns box r ps = some x.2:=by
 simp only [unIns] at h
 split at h
 · rename_i x1 h1
   split at h
   · rename_i x2 h2
     cases h
     exact ⟨h1,h2⟩
   · cases h
 · cases h
theorem wb_cons {i:In} {r:List In} {p:PV} {ps:List PV} {y:PtT (i::r)} {b:List (Nat×BoxC)} (h:wb box (i::r) (p::ps) y = some b):∃ b1 b2,wb1 box i p (ptHd i r y) = some b1 ∧ wb box r ps (ptTl i r y) = some b2 ∧ b = b1 ++ b2:=by
 simp only [wb] at h
 split at h
 · rename_i b1 h1
   split at h
   · rename_i b2 h2
     cases h
     exact ⟨b1,b2,h1,h2,rfl⟩
   · cases h
 · cases h
theorem winL_id (hb:BoxesOk g w box):∀ {is:List In} {ps:List PV} {vs:List Value} {x:InsT is} {pos:Nat},unIns box is ps = some x→Reps g w ps vs→∀ e ∈ winsL g box is ps pos,e.1 ∈ wIds box is ps
 | [],ps,vs,x,pos,_,_,e,he=>by cases ps <;> simp [winsL] at he
 | i::r,[],vs,x,pos,h,_,e,he=>by simp [winsL] at he
 | i::r,p::ps,vs,x,pos,h,hr,e,he=>by
   obtain ⟨h1,h2⟩:=unIns_cons h
   simp only [Reps] at hr
   obtain ⟨u,us,rfl,r1,r2⟩:=hr
   simp only [winsL,List.mem_append] at he
   simp only [wIds,List.mem_append]
   rcases he with he | he
   · exact .inl (win_id h1 hb r1 he)
   · exact .inr (winL_id hb h2 r2 e he)
theorem winL_uq (hb:BoxesOk g w box):∀ {is:List In} {ps:List PV} {vs:List Value} {x:InsT is} {pos:Nat},unIns box is ps = some x→Reps g w ps vs→(wIds box is ps).Nodup→WinUq (winsL g box is ps pos)
 | [],ps,vs,x,pos,_,_,_=>by cases ps <;> (intro e he; simp [winsL] at he)
 | i::r,[],vs,x,pos,h,_,_=>by intro e he; simp [winsL] at he
 | i::r,p::ps,vs,x,pos,h,hr,hn=>by
   obtain ⟨h1,h2⟩:=unIns_cons h
   simp only [Reps] at hr
   obtain ⟨u,us,rfl,r1,r2⟩:=hr
   simp only [wIds,List.nodup_append] at hn
   obtain ⟨n1,n2,n3⟩:=hn
   intro e he e' he' heq b o q q'
   simp only [winsL,List.mem_append] at he he'
   rcases he with he | he <;> rcases he' with he' | he'
   · exact win_uq h1 hb r1 n1 e he e' he' heq b o q q'
   · exact absurd heq (n3 _ (win_id h1 hb r1 he) _ (winL_id hb h2 r2 e' he'))
   · exact absurd heq.symm (n3 _ (win_id h1 hb r1 he') _ (winL_id hb h2 r2 e he))
   · exact winL_uq hb h2 r2 n2 e he e' he' heq b o q q'
theorem unIns_rep (hb:BoxesOk g w box) (hu:WinUq W) {ins:List In} {pss:List PV}:∀ {is:List In} {ps:List PV} {vs:List Value} {x:InsT is} {pos:Nat},(∀ k,ins[pos + k]? = is[k]?)→(∀ k,pss[pos + k]? = ps[k]?)→is.all inFit = true→unIns box is ps = some x→Reps g w ps vs→(∀ id ∈ rfIds box is ps,id ∈ rfs) →
 (∀ e ∈ winsL g box is ps pos,e ∈ W ∧ e.1 ∉ rfs)→ArgsRep (n0f g box ins pss) (colC g rfs W) w is x pos vs
 | [],ps,vs,x,pos,_,_,_,h,hr,_,_=>by
   cases ps with
   | nil=>simp only [Reps] at hr; exact hr
   | cons p ps=>simp [unIns] at h
 | i::r,[],vs,x,pos,_,_,_,h,_,_,_=>by simp [unIns] at h
 | i::r,p::ps,vs,x,pos,hi,hp,hf,h,hr,hin,hw=>by
   obtain ⟨h1,h2⟩:=unIns_cons h
   simp only [Reps] at hr
   obtain ⟨u,us,rfl,r1,r2⟩:=hr
   simp only [List.all_cons,Bool.and_eq_true] at hf
   refine ⟨u,us,rfl,unIn_rep hb hu (by simpa using hi 0) (by simpa using hp 0) hf.1 h1 r1 (fun id hid=>hin id (by simp only [rfIds,List.mem_append]; exact .inl hid)) (fun e he=>hw e (by simp only [winsL,List.mem_append]; exact .inl he)),
    unIns_rep hb hu (fun k=>by have:=hi (k + 1); rw [show pos + 1 + k = pos + (k + 1) by omega,this]; rfl) (fun k=>by have:=hp (k + 1); rw [show pos + 1 + k = pos + (k + 1) by omega,this]; rfl) hf.2 h2 r2 (fun id hid=>hin id (by simp only [rfIds,List.mem_append]; exact .inr hid)) (fun e he=>hw e (by simp only [winsL,List.mem_append]; exact .inr he))⟩
theorem ap_arg (hs:Sim N c0 w0 σ g a w) (hb:BoxesOk g w box) (hu:WinUq W) (hk:Keep (colC g rfs W) w w') (hst:∀ b,b < w.heap.size→∀ o id,col' b o = .bx id→OutOk (colC g rfs W) b o id) {ins:List In} {pss:List PV} {rb pos:Nat} (hdat:∀ t,In.pd t ∈ ins→∀ g':Gh,dat g'→∀ (x:t.T) us,RepT col' w' t x us→RepT g'.col w' t x us) (hpos:pos < 1000)
 {i:In} {p:PV} {x:i.T} {v:Value} {y:PtT [i]} {bxA:List (Nat×BoxC)} (hi:ins[pos]? = some i) (hps:pss[pos]? = some p) (hfit:inFit i = true) (h:unIn box i p = some x) (hr:Rep g w p v) (hwb:wb1 box i p y = some bxA) (hbox:∀ m ∈ bxA.map (·.1),box m = σ.box m)
 (hpt:PtRep (n0f g box ins pss) col' w' i y pos v) (hW:∀ e ∈ W,e.1 ∈ wId box i p→e ∈ winsOf g box i p pos) (hW':∀ e ∈ winsOf g box i p pos,e ∈ W ∧ e.1 ∉ rfs) (hn:(wId box i p).Nodup) :
 ∃ ns,AP g w w' (colC g rfs W) col' (nuL box ins pss rb) dat bxA (giveF box i p) ns ∧ (∀ e ∈ winsOf g box i p pos,e.1 ∈ bxA.map (·.1)) ∧ ∀ e ∈ winsOf g box i p pos,given e.2.2→e.1 ∈ giveF box i p:=by
 cases i with
 | pt t =>
   cases p with
   | bx id off =>
     obtain ⟨⟨ns,k1⟩,k2,k3⟩:=ap_ptB (dat:=dat) (ν:=nuL box ins pss rb) hs hb hk hst hpos hfit h hr hwb hbox hpt (fun j hj=>by
      simp only [inFit,Bool.and_eq_true,Nat.blt_eq] at hfit
      exact nuL_eq hi hps hpos (by omega)) hW
     exact ⟨ns,k1,fun e he=>k2 _ (win_id h hb hr he),k3⟩
   | me id u sz k off =>
     cases off with
     | succ off=>cases h
     | zero =>
       obtain ⟨ns,k1,k2⟩:=ap_ptE (dat:=dat) (ν:=nuL box ins pss rb) hs hb hu hk hst hpos hfit h hr hwb hbox hpt (fun j hj=>by
        simp only [inFit,Bool.and_eq_true,Nat.blt_eq] at hfit
        exact nuL_eq hi hps hpos (by omega)) (fun e he hid=>hW e he (by rw [hid]; simp [wId])) hW'
       refine ⟨ns,k1,fun e he=>?_,fun e he _=>?_⟩
       · rw [k2]
         have:=win_id h hb hr he
         simpa [wId] using this
       · have:=win_id h hb hr he
         simpa [wId,giveF] using this
   | _=>cases h
 | pd t =>
   cases p with
   | bx id off =>
     obtain ⟨k1,k2⟩:=ap_pd (col':=col') (dat:=dat) (ν:=nuL box ins pss rb) hs hb hk h hr hwb (fun g' hg us q=>hdat t (List.mem_of_getElem? hi) g' hg _ us q) hpt (fun e he hid=>hW e he (by rw [hid]; simp [wId]))
     refine ⟨[],k1,fun e he=>?_,fun e he hgv=>?_⟩
     · rw [k2]
       simp only [winsOf,pdWin,List.mem_singleton] at he
       subst he
       simp
     · simp only [winsOf,pdWin,List.mem_singleton] at he
       subst he
       exact absurd hgv not_given_pN
   | _=>cases h
 | ow t =>
   obtain ⟨k,kk⟩:=ap_ow (dat:=dat) (ν:=nuL box ins pss rb) hs hb hk hfit hi hps h hr hwb hbox hpt hW hn
   refine ⟨[],by cases p <;> exact k,kk,fun e he hgv=>?_⟩
   · simp only [winsOf] at he
     obtain ⟨j,hj,he⟩:=mem_slWins.mp he
     rw [(mem_leafWin he).2] at hgv
     exact absurd hgv not_given_wN
 | mv t =>
   obtain ⟨k1,k2⟩:=ap_mv (rfs:=rfs) (W:=W) (col':=col') (w':=w') (dat:=dat) (ν:=nuL box ins pss rb) hs hb h hr hwb hbox
   have e:giveF box (.mv t) p = rowIds p.cel:=by cases p <;> rfl
   rw [e]
   exact ⟨[],k1,fun e he=>by rw [k2]; exact win_id h hb hr he,fun e he _=>win_id h hb hr he⟩
 | v t=>cases p <;> (simp only [wb1,Option.some.injEq] at hwb; subst hwb; exact ⟨[],AP.nil,fun e he=>(by simp [winsOf] at he),fun e he=>(by simp [winsOf] at he)⟩)
 | rf t=>cases p <;> (simp only [wb1,Option.some.injEq] at hwb; subst hwb; exact ⟨[],AP.nil,fun e he=>(by simp [winsOf] at he),fun e he=>(by simp [winsOf] at he)⟩)
 | nl=>cases p <;> (simp only [wb1,Option.some.injEq] at hwb; subst hwb; exact ⟨[],AP.nil,fun e he=>(by simp [winsOf] at he),fun e he=>(by simp [winsOf] at he)⟩)
 | clo f ts=>cases p <;> (simp only [wb1,Option.some.injEq] at hwb; subst hwb; exact ⟨[],AP.nil,fun e he=>(by simp [winsOf] at he),fun e he=>(by simp [winsOf] at he)⟩)
theorem ap_args (hs:Sim N c0 w0 σ g a w) (hb:BoxesOk g w box) (hu:WinUq W) (hk:Keep (colC g rfs W) w w') (hst:∀ b,b < w.heap.size→∀ o id,col' b o = .bx id→OutOk (colC g rfs W) b o id) {ins:List In} {pss:List PV} {rb:Nat} (hdat:∀ t,In.pd t ∈ ins→∀ g':Gh,dat g'→∀ (x:t.T) us,RepT col' w' t x us→RepT g'.col w' t x us) (hlen:ins.length < 1000) :
 ∀ {is:List In} {ps:List PV} {vs:List Value} {x:InsT is} {y:PtT is} {bs:List (Nat×BoxC)} {pos:Nat},(∀ k,ins[pos + k]? = is[k]?)→(∀ k,pss[pos + k]? = ps[k]?)→is.all inFit = true→unIns box is ps = some x→Reps g w ps vs→wb box is ps y = some bs→(∀ m ∈ bs.map (·.1),box m = σ.box m)→PtsRep (n0f g box ins pss) col' w' is y pos vs →
   (∀ e ∈ W,e.1 ∈ wIds box is ps→e ∈ winsL g box is ps pos)→(∀ e ∈ winsL g box is ps pos,e ∈ W ∧ e.1 ∉ rfs)→(wIds box is ps).Nodup→(bs.map (·.1)).Nodup →
   ∃ ns,AP g w w' (colC g rfs W) col' (nuL box ins pss rb) dat bs (giveL box is ps) ns ∧ (∀ e ∈ winsL g box is ps pos,e.1 ∈ bs.map (·.1)) ∧ ∀ e ∈ winsL g box is ps pos,given e.2.2→e.1 ∈ giveL box is ps
 | [],ps,vs,x,y,bs,pos,_,_,_,_,_,hwb,_,_,_,_,_,_=>by
   have:bs = []:=by cases ps <;> simpa [wb] using hwb
   subst this
   refine ⟨[],by cases ps <;> exact AP.nil,fun e he=>?_,fun e he=>?_⟩ <;> (cases ps <;> simp [winsL] at he)
 | i::r,[],vs,x,y,bs,pos,_,_,_,h,_,_,_,_,_,_,_,_=>by simp [unIns] at h
 | i::r,p::ps,vs,x,y,bs,pos,hi,hp,hf,h,hr,hwb,hbox,hpt,hW,hW',hn,hnb=>by
   obtain ⟨h1,h2⟩:=unIns_cons h
   simp only [Reps] at hr
   obtain ⟨u,us,rfl,r1,r2⟩:=hr
   obtain ⟨b1,b2,w1,w2,rfl⟩:=wb_cons hwb
   simp only [List.all_cons,Bool.and_eq_true] at hf
   obtain ⟨u',us',e,p1,p2⟩:=hpt
   cases e
   simp only [wIds,List.nodup_append] at hn
   obtain ⟨n1,n2,n3⟩:=hn
   have hi0:ins[pos]? = some i:=by simpa using hi 0
   have hp0:pss[pos]? = some p:=by simpa using hp 0
   have hpos:pos < 1000:=by have:=(List.getElem?_eq_some_iff.mp hi0).1; omega
   have hnb2:(b2.map (·.1)).Nodup:=by rw [List.map_append,List.nodup_append] at hnb; exact hnb.2.1
   obtain ⟨ns1,k1,k2,k3⟩:=ap_arg (dat:=dat) (rb:=rb) hs hb hu hk hst hdat hpos hi0 hp0 hf.1 h1 r1 w1 (fun m hm=>hbox m (by rw [List.map_append]; exact List.mem_append_left _ hm)) p1 (fun e he hid=>by
    have:=hW e he (by simp only [wIds,List.mem_append]; exact .inl hid)
    simp only [winsL,List.mem_append] at this
    exact this.resolve_right fun q=>absurd rfl (n3 _ hid _ (winL_id hb h2 r2 e q))) (fun e he=>hW' e (by simp only [winsL,List.mem_append]; exact .inl he)) n1
   obtain ⟨ns2,l1,l2,l3⟩:=ap_args hs hb hu hk hst hdat hlen (pos:=pos + 1) (fun k=>by have:=hi (k + 1); rw [show pos + 1 + k = pos + (k + 1) by omega,this]; rfl) (fun k=>by have:=hp (k + 1); rw [show pos + 1 + k = pos + (k + 1) by omega,this]; rfl) hf.2 h2 r2 w2 (fun m hm=>hbox m (by rw [List.map_append]; exact List.mem_append_right _ hm)) p2 (fun e he hid=>by
    have:=hW e he (by simp only [wIds,List.mem_append]; exact .inr hid)
    simp only [winsL,List.mem_append] at this
    exact this.resolve_left fun q=>absurd rfl (n3 _ (win_id h1 hb r1 q) _ hid)) (fun e he=>hW' e (by simp only [winsL,List.mem_append]; exact .inr he)) n2 hnb2
   refine ⟨ns1 ++ ns2,k1.append l1 hnb,fun e he=>?_,fun e he hgv=>?_⟩
   · rw [List.map_append]
     simp only [winsL,List.mem_append] at he
     rcases he with he | he
     · exact List.mem_append_left _ (k2 e he)
     · exact List.mem_append_right _ (l2 e he)
   · simp only [winsL,List.mem_append] at he
     simp only [giveL,List.mem_append]
     rcases he with he | he
     · exact .inl (k3 e he hgv)
     · exact .inr (l3 e he hgv)
theorem Sim.recol (h:Sim N c0 w0 σ g a w) {col2:Nat→Nat→Col} (hc:∀ b o,b < w.heap.size→col2 b o = g.col b o):Sim N c0 w0 σ { g with col:=col2 } a w:=by
 have hlt:∀ {b o v},w.cell? ⟨b,o,none⟩ = some v→b < w.heap.size:=fun hv=>World.block_lt_of_cell? w _ hv
 have hs:GStays g w { g with col:=col2 } w:={ st:=fun b o v h1 h2=>⟨(hc b o (hlt h2)).trans h1,h2⟩,db:=fun _ h=>⟨h,rfl⟩,dh:=fun _ _ h=>⟨h,rfl⟩,dn:=fun _ _ h=>⟨h,rfl,rfl⟩ }
 exact { h with
  env:=fun i=>Rep.mono hs _ _ (h.env i)
  box:=fun id c hid=>(h.box id c hid).stay hs rfl (fun b o v a1 a2 a3=>⟨(hc b o (hlt a2)).trans a1,a2,a3⟩) fun ob c1 c2 _=>⟨c2,fun o=>(hc _ o (heap_lt c2)).trans (c1 o)⟩
  old:=fun b hb o=>by
   have:=h.keep.size
   show (col2 b o = .st ↔ _) ∧ ∀ id,col2 b o = .bx id→_
   rw [hc b o (by omega)]
   exact h.old b hb o }
def Dat (rfs:List Nat) (col':Nat→Nat→Col) (w':World) (g':Gh):Prop:=rfs = []→Stays col' w' g'.col w'
theorem Sim.callUpd (hs:Sim N c0 w0 σ g a w) (hk:Keep (colC g rfs W) w w') (hst:∀ b,b < w.heap.size→∀ o,(col' b o = .st ↔ colC g rfs W b o = .st) ∧ ∀ id,col' b o = .bx id→OutOk (colC g rfs W) b o id) {ν:Nat→Nat} {bx:List (Nat×BoxC)} {F:List Nat} {ns:List RowN}
 (hap:AP g w w' (colC g rfs W) col' ν (Dat rfs col' w') bx F ns) (hnb:(bx.map (·.1)).Nodup) (hWb:∀ e ∈ W,e.1 ∈ bx.map (·.1)) (hWg:∀ e ∈ W,given e.2.2→e.1 ∈ F)
 {dst:Option Nat} (hd:dstOk N dst = true) {p:PV} {v:Value} (hp:∀ g',GOOD g g' w w' bx F ns→Dat rfs col' w' g'→Rep g' w' p v) :
 ∃ g',Sim N c0 w0 (σ.app dst { v:=p,bx:=bx }) g' (a.put dst v) w' ∧ Dat rfs col' w' g' ∧ ∀ b o,w.heap.size≤b→col' b o ≠ .st→(∀ n ∈ ns,n.R b o = none)→g'.col b o = .free:=by
 have hlt:∀ {b o v},w.cell? ⟨b,o,none⟩ = some v→b < w.heap.size:=fun hv=>World.block_lt_of_cell? w _ hv
 let col2:Nat→Nat→Col:=fun b o=>if b < w.heap.size then g.col b o else match col' b o with | .st=>.st | _=>.free
 have hc2:∀ b o,b < w.heap.size→col2 b o = g.col b o:=fun b o h=>if_pos h
 have hs0:=hs.recol (col2:=col2) hc2
 generalize hg0:({ g with col:=col2 }:Gh) = g0 at hs0
 have e1:g0.col = col2:=by rw [← hg0]
 have hs01:GStays g w g0 w:=by
  rw [← hg0]
  exact { st:=fun b o v h1 h2=>⟨(hc2 b o (hlt h2)).trans h1,h2⟩,db:=fun _ h=>⟨h,rfl⟩,dh:=fun _ _ h=>⟨h,rfl⟩,dn:=fun _ _ h=>⟨h,rfl,rfl⟩ }
 have hR:∀ n ∈ ns,∀ b o,n.R b o ≠ none→(∃ k ∈ F,g0.col b o = .bx k) ∨ w.heap.size≤b:=fun n hn b o hr=>by
  rcases (hap.reg n hn b o hr).2.2 with ⟨s,_,_,q | ⟨m,hgm,hm⟩⟩ | ⟨q1,q2,_⟩
  · exact .inr q
  · obtain ⟨e,he,hec,_,hem⟩:=colC_inv hm
    rcases Nat.lt_or_ge b w.heap.size with hbl | hbl
    · exact .inl ⟨e.1,hWg e he (by rw [hem]; exact hgm),by rw [e1,hc2 b o hbl]; exact hec⟩
    · exact .inr hbl
  · exact .inl ⟨n.id,hap.nF n hn,by rw [e1,hc2 b o q1]; exact q2⟩
 have hnobx:∀ b o,b < w.heap.size→(∀ k ∈ bx.map (·.1),g0.col b o ≠ .bx k)→∀ id,colC g rfs W b o ≠ .bx id:=fun b o hbl hne id hid=>by
  obtain ⟨e,he,hec,_,_⟩:=colC_inv hid
  exact hne e.1 (hWb e he) (by rw [e1,hc2 b o hbl]; exact hec)
 have hnn:(ns.map (·.id)).Nodup:=hap.sub.nodup hnb
 have hdis:∀ n ∈ ns,∀ m ∈ ns,n.id ≠ m.id→∀ b o,n.R b o ≠ none→m.R b o = none:=fun n hn m hm hne b o hr=>by
  cases hmr:m.R b o with
  | none=>rfl
  | some l =>
    exfalso
    rcases (hap.reg n hn b o hr).2.2 with ⟨s,q1,q2,q3⟩ | ⟨q1,q2,q3⟩ <;> rcases (hap.reg m hm b o (by rw [hmr]; simp)).2.2 with ⟨s',r1,r2,r3⟩ | ⟨r1,r2,r3⟩
    · rw [q1] at r1; cases r1; exact hne (q2.symm.trans r2)
    · rcases q3 with q3 | ⟨m',hg,hm'⟩
      · omega
      · exact r3 m' hg hm'
    · rcases r3 with r3 | ⟨m',hg,hm'⟩
      · omega
      · exact q3 m' hg hm'
    · rw [q2] at r2
      simp only [Col.bx.injEq] at r2
      exact hne r2
 have hgood:GStays g0 w (ghU g0 ns F) w'→GOOD g (ghU g0 ns F) w w' bx F ns:=fun hst' =>
  ⟨hs01.trans hst',fun n hn=>⟨.inl ⟨n,hn,rfl,rfl⟩,ghU_hd hnn hn,.inl ⟨n,hn,rfl,rfl⟩,(ghU_nh hnn hn).1,(ghU_nh hnn hn).2,ghU_R hnn hn,fun b o hr=>ghU_col hdis hn hr⟩,fun id _ hF=>⟨by
   rw [ghU_R_other (fun n hn (e:n.id = id)=>hF (by rw [← e]; exact hap.nF n hn)) hF,← hg0],fun b o hbl hc=>by
   rw [ghU_keep hR hbl fun k hk e=>?_]
   · rw [e1,hc2 b o hbl]; exact hc
   · rw [e1,hc2 b o hbl,hc] at e; cases e; exact hF hk⟩⟩
 have hfreec:∀ b o,w.heap.size≤b→(∀ n ∈ ns,n.R b o = none)→g0.col b o ≠ .free→(∀ k,g0.col b o ≠ .bx k)→(ghU g0 ns F).col b o = g0.col b o:=fun b o _ hn _ hnb=>(ghU_col_other hn).resolve_left fun ⟨_,k,_,e⟩=>hnb k e
 have hdat:Dat rfs col' w' (ghU g0 ns F):=fun hrf=>⟨fun b o v h1 h2=>⟨by
  have hnr:∀ n ∈ ns,n.R b o = none:=fun n hn=>by
   cases hr:n.R b o with
   | none=>rfl
   | some l =>
     rcases (hap.reg n hn b o (by rw [hr]; simp)).2.2 with ⟨s,q1,_⟩ | ⟨q1,q2,_⟩
     · rw [h1] at q1; cases q1
     · have h3:=((hst b q1 o).1.mp h1)
       rcases colC_st_inv h3 with q | ⟨id,hid,_⟩
       · rw [q2] at q; cases q
       · rw [hrf] at hid; cases hid
  have hg0s:g0.col b o = .st:=by
   rw [e1]
   show (if b < w.heap.size then g.col b o else _) = _
   split
   · rename_i hbl
     have h3:=((hst b hbl o).1.mp h1)
     rcases colC_st_inv h3 with q | ⟨id,hid,_⟩
     · exact q
     · rw [hrf] at hid; cases hid
   · rw [h1]
  rcases ghU_col_other (g:=g0) (F:=F) hnr with ⟨_,k,_,e⟩ | e
  · rw [hg0s] at e; cases e
  · rw [e,hg0s],h2⟩⟩
 have:=hs0.upd ns F bx (w':=w') (dst:=dst) (p:=p) (v:=v) hnb (fun id hid=>by rw [← hg0]; exact hap.gv id hid) hap.nF hnn (fun n hn=>by rw [← hg0]; exact hap.fresh n hn) hR
  (fun b o v hv hne=>(hk.cel b (hlt hv) o (hnobx b o (hlt hv) hne)).trans hv) ⟨fun b o hb=>hk.frz b hb o,fun b o hb=>hk.new b hb o⟩ (fun b ob hob hne=>(hk.blk b (heap_lt hob) fun o=>hnobx b o (heap_lt hob) (hne o)).trans hob) (fun b o hb=>hk.ex b hb o) ⟨hk.os,hk.tape,hk.output,hk.size⟩
  (fun id c hm=>by rw [← hg0]; exact hap.db id c hm) (fun hst' id c hm=>hap.rep _ (hgood hst') hdat id c hm) hd (fun hst'=>hp _ (hgood hst') hdat)
 refine ⟨_,this.2,hdat,fun b o hb hns hnr=>?_⟩
 have hf:g0.col b o = .free:=by
  rw [e1]
  show (if b < w.heap.size then g.col b o else _) = _
  rw [if_neg (by omega)]
  cases hc:col' b o with
  | st=>exact absurd hc hns
  | _=>rfl
 rcases ghU_col_other (g:=g0) (F:=F) hnr with ⟨e,_⟩ | e
 · exact e
 · rw [e,hf]
end
end Go.VE
