import Derived.Test.YtgllenfbilnneaaGreatDoorVkT
/- Calls: behind them,as a whole. -/
namespace Go.VE
def CK (box:Nat→Option aU):List In→List PV→List Nat
 | i::r,p::ps=>uO box i p ++ CK box r ps
 | _,_=>[]
def JR (box:Nat→Option aU) (ins:List In) (ps:List PV) (rb s:Nat):Nat:=if bY≤s then rb + (s - bY) else match ins[(s - bF) / 64]?,ps[(s - bF) / 64]? with
 | some i,some p=>JQ box i p ((s - bF) % 64 - 1)
 | _,_=>0
theorem Oc {box:Nat→Option aU} {ins:List In} {ps:List PV} {rb pos j:Nat} {i:In} {p:PV} (hi:ins[pos]? = some i) (hp:ps[pos]? = some p) (hpos:pos < 1000) (hj:j < 60):JR box ins ps rb (pN pos + 1 + j) = JQ box i p j:=by
 have e1:(pN pos + 1 + j - bF) / 64 = pos:=by unfold pN; omega
 have e2:(pN pos + 1 + j - bF) % 64 - 1 = j:=by unfold pN; omega
 have e3:¬ bY≤pN pos + 1 + j:=by unfold bY pN bF; omega
 unfold JR
 rw [if_neg e3,e1,e2,hi,hp]
section
variable {P:Program} {N:Fr} {c0:Nat→Nat→Col} {w0:World} {σ:AS} {g:Gh} {a:Act} {w w':World} {box:Nat→Option aU} {fP:List Nat} {W:List Au} {col':Nat→Nat→Col} {dat:Gh→Prop}
theorem pq {i:In} {r:List In} {p:PV} {ps:List PV} {x:jK (i::r)} (h:lJ box (i::r) (p::ps) = some x):iL box i p = some x.1 ∧ lJ box r ps = some x.2:=by
 simp only [lJ] at h
 split at h
 · rename_i x1 h1
   split at h
   · rename_i x2 h2
     cases h
     exact ⟨h1,h2⟩
   · cases h
 · cases h
theorem RS {i:In} {r:List In} {p:PV} {ps:List PV} {y:lI (i::r)} {b:List (Nat×aU)} (h:wb box (i::r) (p::ps) y = some b):∃ b1 b2,Fp box i p (Ry i r y) = some b1 ∧ wb box r ps (Rz i r y) = some b2 ∧ b = b1 ++ b2:=by
 simp only [wb] at h
 split at h
 · rename_i b1 h1
   split at h
   · rename_i b2 h2
     cases h
     exact ⟨b1,b2,h1,h2,rfl⟩
   · cases h
 · cases h
theorem rz (hb:bK g w box):∀ {is:List In} {ps:List PV} {vs:List Value} {x:jK is} {pos:Nat},lJ box is ps = some x→ak g w ps vs→∀ e ∈ dO g box is ps pos,e.1 ∈ oH box is ps
 | [],ps,vs,x,pos,_,_,e,he=>by cases ps <;> simp [dO] at he
 | i::r,[],vs,x,pos,h,_,e,he=>by simp [dO] at he
 | i::r,p::ps,vs,x,pos,h,hr,e,he=>by
   obtain ⟨h1,h2⟩:=pq h
   simp only [ak] at hr
   obtain ⟨u,us,rfl,r1,r2⟩:=hr
   simp only [dO,List.mem_append] at he
   simp only [oH,List.mem_append]
   rcases he with he | he
   · exact .inl (o9 h1 hb r1 he)
   · exact .inr (rz hb h2 r2 e he)
theorem Ei (hb:bK g w box):∀ {is:List In} {ps:List PV} {vs:List Value} {x:jK is} {pos:Nat},lJ box is ps = some x→ak g w ps vs→(oH box is ps).Nodup→uN (dO g box is ps pos)
 | [],ps,vs,x,pos,_,_,_=>by cases ps <;> (intro e he; simp [dO] at he)
 | i::r,[],vs,x,pos,h,_,_=>by intro e he; simp [dO] at he
 | i::r,p::ps,vs,x,pos,h,hr,hn=>by
   obtain ⟨h1,h2⟩:=pq h
   simp only [ak] at hr
   obtain ⟨u,us,rfl,r1,r2⟩:=hr
   simp only [oH,List.nodup_append] at hn
   obtain ⟨n1,n2,n3⟩:=hn
   intro e he e' he' heq b o q q'
   simp only [dO,List.mem_append] at he he'
   rcases he with he | he <;> rcases he' with he' | he'
   · exact VN h1 hb r1 n1 e he e' he' heq b o q q'
   · exact absurd heq (n3 _ (o9 h1 hb r1 he) _ (rz hb h2 r2 e' he'))
   · exact absurd heq.symm (n3 _ (o9 h1 hb r1 he') _ (rz hb h2 r2 e he))
   · exact Ei hb h2 r2 n2 e he e' he' heq b o q q'
theorem CO (hb:bK g w box) (hu:uN W) {ins:List In} {yE:List PV}:∀ {is:List In} {ps:List PV} {vs:List Value} {x:jK is} {pos:Nat},(∀ k,ins[pos + k]? = is[k]?)→(∀ k,yE[pos + k]? = ps[k]?)→is.all fu = true→lJ box is ps = some x→ak g w ps vs→(∀ id ∈ fZ box is ps,id ∈ fP) →
 (∀ e ∈ dO g box is ps pos,e ∈ W ∧ e.1 ∉ fP)→kE (M0 g box ins yE) (dI g fP W) w is x pos vs
 | [],ps,vs,x,pos,_,_,_,h,hr,_,_=>by
   cases ps with
   | nil=>simp only [ak] at hr; exact hr
   | cons p ps=>simp [lJ] at h
 | i::r,[],vs,x,pos,_,_,_,h,_,_,_=>by simp [lJ] at h
 | i::r,p::ps,vs,x,pos,hi,hp,hf,h,hr,hin,hw=>by
   obtain ⟨h1,h2⟩:=pq h
   simp only [ak] at hr
   obtain ⟨u,us,rfl,r1,r2⟩:=hr
   simp only [List.all_cons,Bool.and_eq_true] at hf
   refine ⟨u,us,rfl,Oa hb hu (by simpa using hi 0) (by simpa using hp 0) hf.1 h1 r1 (fun id hid=>hin id (by simp only [fZ,List.mem_append]; exact .inl hid)) (fun e he=>hw e (by simp only [dO,List.mem_append]; exact .inl he)),
    CO hb hu (fun k=>by have:=hi (k + 1); rw [show pos + 1 + k = pos + (k + 1) by omega,this]; rfl) (fun k=>by have:=hp (k + 1); rw [show pos + 1 + k = pos + (k + 1) by omega,this]; rfl) hf.2 h2 r2 (fun id hid=>hin id (by simp only [fZ,List.mem_append]; exact .inr hid)) (fun e he=>hw e (by simp only [dO,List.mem_append]; exact .inr he))⟩
theorem VT (hs:bO N c0 w0 σ g a w) (hb:bK g w box) (hu:uN W) (hk:Keep (dI g fP W) w w') (hst:∀ b,b < w.heap.size→∀ o id,col' b o = .bx id→OutOk (dI g fP W) b o id) {ins:List In} {yE:List PV} {rb pos:Nat} (hdat:∀ t,In.pd t ∈ ins→∀ g':Gh,dat g'→∀ (x:t.T) us,bC col' w' t x us→bC g'.col w' t x us) (hpos:pos < 1000)
 {i:In} {p:PV} {x:i.T} {v:Value} {y:lI [i]} {tK:List (Nat×aU)} (hi:ins[pos]? = some i) (hps:yE[pos]? = some p) (hfit:fu i = true) (h:iL box i p = some x) (hr:aF g w p v) (hwb:Fp box i p y = some tK) (fM:∀ m ∈ tK.map (·.1),box m = σ.box m)
 (hpt:CG (M0 g box ins yE) col' w' i y pos v) (hW:∀ e ∈ W,e.1 ∈ yK box i p→e ∈ bg g box i p pos) (hW':∀ e ∈ bg g box i p pos,e ∈ W ∧ e.1 ∉ fP) (hn:(yK box i p).Nodup) :
 ∃ ns,AP g w w' (dI g fP W) col' (JR box ins yE rb) dat tK (uO box i p) ns ∧ (∀ e ∈ bg g box i p pos,e.1 ∈ tK.map (·.1)) ∧ ∀ e ∈ bg g box i p pos,given e.2.2→e.1 ∈ uO box i p:=by
 cases i with
 | pt t =>
   cases p with
   | bx id off =>
     obtain ⟨⟨ns,k1⟩,k2,k3⟩:=VQ (dat:=dat) (ν:=JR box ins yE rb) hs hb hk hst hpos hfit h hr hwb fM hpt (fun j hj=>by
      simp only [fu,Bool.and_eq_true,Nat.blt_eq] at hfit
      exact Oc hi hps hpos (by omega)) hW
     exact ⟨ns,k1,fun e he=>k2 _ (o9 h hb hr he),k3⟩
   | me id u sz k off =>
     cases off with
     | succ off=>cases h
     | zero =>
       obtain ⟨ns,k1,k2⟩:=VR (dat:=dat) (ν:=JR box ins yE rb) hs hb hu hk hst hpos hfit h hr hwb fM hpt (fun j hj=>by
        simp only [fu,Bool.and_eq_true,Nat.blt_eq] at hfit
        exact Oc hi hps hpos (by omega)) (fun e he hid=>hW e he (by rw [hid]; simp [yK])) hW'
       refine ⟨ns,k1,fun e he=>?_,fun e he _=>?_⟩
       · rw [k2]
         have:=o9 h hb hr he
         simpa [yK] using this
       · have:=o9 h hb hr he
         simpa [yK,uO] using this
   | _=>cases h
 | pd t =>
   cases p with
   | bx id off =>
     obtain ⟨k1,k2⟩:=Y7 (col':=col') (dat:=dat) (ν:=JR box ins yE rb) hs hb hk h hr hwb (fun g' hg us q=>hdat t (List.mem_of_getElem? hi) g' hg _ us q) hpt (fun e he hid=>hW e he (by rw [hid]; simp [yK]))
     refine ⟨[],k1,fun e he=>?_,fun e he hgv=>?_⟩
     · rw [k2]
       simp only [bg,xG,List.mem_singleton] at he
       subst he
       simp
     · simp only [bg,xG,List.mem_singleton] at he
       subst he
       exact absurd hgv gZ
   | _=>cases h
 | ow t =>
   obtain ⟨k,kk⟩:=Zb (dat:=dat) (ν:=JR box ins yE rb) hs hb hk hfit hi hps h hr hwb fM hpt hW hn
   refine ⟨[],by cases p <;> exact k,kk,fun e he hgv=>?_⟩
   · simp only [bg] at he
     obtain ⟨j,hj,he⟩:=fQ.mp he
     rw [(iT he).2] at hgv
     exact absurd hgv uP
 | mv t =>
   obtain ⟨k1,k2⟩:=Zd (fP:=fP) (W:=W) (col':=col') (w':=w') (dat:=dat) (ν:=JR box ins yE rb) hs hb h hr hwb fM
   have e:uO box (.mv t) p = ay p.dY:=by cases p <;> rfl
   rw [e]
   exact ⟨[],k1,fun e he=>by rw [k2]; exact o9 h hb hr he,fun e he _=>o9 h hb hr he⟩
 | v t=>cases p <;> (simp only [Fp,Option.some.injEq] at hwb; subst hwb; exact ⟨[],AP.nil,fun e he=>(by simp [bg] at he),fun e he=>(by simp [bg] at he)⟩)
 | rf t=>cases p <;> (simp only [Fp,Option.some.injEq] at hwb; subst hwb; exact ⟨[],AP.nil,fun e he=>(by simp [bg] at he),fun e he=>(by simp [bg] at he)⟩)
 | nl=>cases p <;> (simp only [Fp,Option.some.injEq] at hwb; subst hwb; exact ⟨[],AP.nil,fun e he=>(by simp [bg] at he),fun e he=>(by simp [bg] at he)⟩)
 | pW f ts=>cases p <;> (simp only [Fp,Option.some.injEq] at hwb; subst hwb; exact ⟨[],AP.nil,fun e he=>(by simp [bg] at he),fun e he=>(by simp [bg] at he)⟩)
theorem JU (hs:bO N c0 w0 σ g a w) (hb:bK g w box) (hu:uN W) (hk:Keep (dI g fP W) w w') (hst:∀ b,b < w.heap.size→∀ o id,col' b o = .bx id→OutOk (dI g fP W) b o id) {ins:List In} {yE:List PV} {rb:Nat} (hdat:∀ t,In.pd t ∈ ins→∀ g':Gh,dat g'→∀ (x:t.T) us,bC col' w' t x us→bC g'.col w' t x us) (hlen:ins.length < 1000) :
 ∀ {is:List In} {ps:List PV} {vs:List Value} {x:jK is} {y:lI is} {bs:List (Nat×aU)} {pos:Nat},(∀ k,ins[pos + k]? = is[k]?)→(∀ k,yE[pos + k]? = ps[k]?)→is.all fu = true→lJ box is ps = some x→ak g w ps vs→wb box is ps y = some bs→(∀ m ∈ bs.map (·.1),box m = σ.box m)→nA (M0 g box ins yE) col' w' is y pos vs →
   (∀ e ∈ W,e.1 ∈ oH box is ps→e ∈ dO g box is ps pos)→(∀ e ∈ dO g box is ps pos,e ∈ W ∧ e.1 ∉ fP)→(oH box is ps).Nodup→(bs.map (·.1)).Nodup →
   ∃ ns,AP g w w' (dI g fP W) col' (JR box ins yE rb) dat bs (CK box is ps) ns ∧ (∀ e ∈ dO g box is ps pos,e.1 ∈ bs.map (·.1)) ∧ ∀ e ∈ dO g box is ps pos,given e.2.2→e.1 ∈ CK box is ps
 | [],ps,vs,x,y,bs,pos,_,_,_,_,_,hwb,_,_,_,_,_,_=>by
   have:bs = []:=by cases ps <;> simpa [wb] using hwb
   subst this
   refine ⟨[],by cases ps <;> exact AP.nil,fun e he=>?_,fun e he=>?_⟩ <;> (cases ps <;> simp [dO] at he)
 | i::r,[],vs,x,y,bs,pos,_,_,_,h,_,_,_,_,_,_,_,_=>by simp [lJ] at h
 | i::r,p::ps,vs,x,y,bs,pos,hi,hp,hf,h,hr,hwb,fM,hpt,hW,hW',hn,hnb=>by
   obtain ⟨h1,h2⟩:=pq h
   simp only [ak] at hr
   obtain ⟨u,us,rfl,r1,r2⟩:=hr
   obtain ⟨b1,b2,w1,w2,rfl⟩:=RS hwb
   simp only [List.all_cons,Bool.and_eq_true] at hf
   obtain ⟨u',us',e,p1,p2⟩:=hpt
   cases e
   simp only [oH,List.nodup_append] at hn
   obtain ⟨n1,n2,n3⟩:=hn
   have hi0:ins[pos]? = some i:=by simpa using hi 0
   have hp0:yE[pos]? = some p:=by simpa using hp 0
   have hpos:pos < 1000:=by have:=(List.getElem?_eq_some_iff.mp hi0).1; omega
   have agi:(b2.map (·.1)).Nodup:=by rw [List.map_append,List.nodup_append] at hnb; exact hnb.2.1
   obtain ⟨ns1,k1,k2,k3⟩:=VT (dat:=dat) (rb:=rb) hs hb hu hk hst hdat hpos hi0 hp0 hf.1 h1 r1 w1 (fun m hm=>fM m (by rw [List.map_append]; exact List.mem_append_left _ hm)) p1 (fun e he hid=>by
    have:=hW e he (by simp only [oH,List.mem_append]; exact .inl hid)
    simp only [dO,List.mem_append] at this
    exact this.resolve_right fun q=>absurd rfl (n3 _ hid _ (rz hb h2 r2 e q))) (fun e he=>hW' e (by simp only [dO,List.mem_append]; exact .inl he)) n1
   obtain ⟨ns2,l1,l2,l3⟩:=JU hs hb hu hk hst hdat hlen (pos:=pos + 1) (fun k=>by have:=hi (k + 1); rw [show pos + 1 + k = pos + (k + 1) by omega,this]; rfl) (fun k=>by have:=hp (k + 1); rw [show pos + 1 + k = pos + (k + 1) by omega,this]; rfl) hf.2 h2 r2 w2 (fun m hm=>fM m (by rw [List.map_append]; exact List.mem_append_right _ hm)) p2 (fun e he hid=>by
    have:=hW e he (by simp only [oH,List.mem_append]; exact .inr hid)
    simp only [dO,List.mem_append] at this
    exact this.resolve_left fun q=>absurd rfl (n3 _ (o9 h1 hb r1 q) _ hid)) (fun e he=>hW' e (by simp only [dO,List.mem_append]; exact .inr he)) n2 agi
   refine ⟨ns1 ++ ns2,k1.append l1 hnb,fun e he=>?_,fun e he hgv=>?_⟩
   · rw [List.map_append]
     simp only [dO,List.mem_append] at he
     rcases he with he | he
     · exact List.mem_append_left _ (k2 e he)
     · exact List.mem_append_right _ (l2 e he)
   · simp only [dO,List.mem_append] at he
     simp only [CK,List.mem_append]
     rcases he with he | he
     · exact .inl (k3 e he hgv)
     · exact .inr (l3 e he hgv)
theorem bO.lM (h:bO N c0 w0 σ g a w) {AA:Nat→Nat→Col} (hc:∀ b o,b < w.heap.size→AA b o = g.col b o):bO N c0 w0 σ { g with col:=AA } a w:=by
 have hlt:∀ {b o v},w.cell? ⟨b,o,none⟩ = some v→b < w.heap.size:=fun hv=>World.block_lt_of_cell? w _ hv
 have hs:bV g w { g with col:=AA } w:={ st:=fun b o v h1 h2=>⟨(hc b o (hlt h2)).trans h1,h2⟩,db:=fun _ h=>⟨h,rfl⟩,dh:=fun _ _ h=>⟨h,rfl⟩,dn:=fun _ _ h=>⟨h,rfl,rfl⟩ }
 exact { h with
  env:=fun i=>aF.mono hs _ _ (h.env i)
  box:=fun id c hid=>(h.box id c hid).stay hs rfl (fun b o v a1 a2 a3=>⟨(hc b o (hlt a2)).trans a1,a2,a3⟩) fun ob c1 c2 _=>⟨c2,fun o=>(hc _ o (ji c2)).trans (c1 o)⟩
  old:=fun b hb o=>by
   have:=h.keep.size
   show (AA b o = .st ↔ _) ∧ ∀ id,AA b o = .bx id→_
   rw [hc b o (by omega)]
   exact h.old b hb o }
def Dat (fP:List Nat) (col':Nat→Nat→Col) (w':World) (g':Gh):Prop:=fP = []→Stays col' w' g'.col w'
theorem bO.Ej (hs:bO N c0 w0 σ g a w) (hk:Keep (dI g fP W) w w') (hst:∀ b,b < w.heap.size→∀ o,(col' b o = .st ↔ dI g fP W b o = .st) ∧ ∀ id,col' b o = .bx id→OutOk (dI g fP W) b o id) {ν:Nat→Nat} {bx:List (Nat×aU)} {F:List Nat} {ns:List iZ}
 (hap:AP g w w' (dI g fP W) col' ν (Dat fP col' w') bx F ns) (hnb:(bx.map (·.1)).Nodup) (hWb:∀ e ∈ W,e.1 ∈ bx.map (·.1)) (hWg:∀ e ∈ W,given e.2.2→e.1 ∈ F)
 {dst:Option Nat} (hd:dZ N dst = true) {p:PV} {v:Value} (hp:∀ g',GOOD g g' w w' bx F ns→Dat fP col' w' g'→aF g' w' p v) :
 ∃ g',bO N c0 w0 (σ.app dst { v:=p,bx:=bx }) g' (a.put dst v) w' ∧ Dat fP col' w' g' ∧ ∀ b o,w.heap.size≤b→col' b o ≠ .st→(∀ n ∈ ns,n.R b o = none)→g'.col b o = .free:=by
 have hlt:∀ {b o v},w.cell? ⟨b,o,none⟩ = some v→b < w.heap.size:=fun hv=>World.block_lt_of_cell? w _ hv
 let AA:Nat→Nat→Col:=fun b o=>if b < w.heap.size then g.col b o else match col' b o with | .st=>.st | _=>.free
 have hc2:∀ b o,b < w.heap.size→AA b o = g.col b o:=fun b o h=>if_pos h
 have hs0:=hs.lM (AA:=AA) hc2
 generalize hg0:({ g with col:=AA }:Gh) = g0 at hs0
 have e1:g0.col = AA:=by rw [← hg0]
 have agj:bV g w g0 w:=by
  rw [← hg0]
  exact { st:=fun b o v h1 h2=>⟨(hc2 b o (hlt h2)).trans h1,h2⟩,db:=fun _ h=>⟨h,rfl⟩,dh:=fun _ _ h=>⟨h,rfl⟩,dn:=fun _ _ h=>⟨h,rfl,rfl⟩ }
 have hR:∀ n ∈ ns,∀ b o,n.R b o ≠ none→(∃ k ∈ F,g0.col b o = .bx k) ∨ w.heap.size≤b:=fun n hn b o hr=>by
  rcases (hap.reg n hn b o hr).2.2 with ⟨s,_,_,q | ⟨m,hgm,hm⟩⟩ | ⟨q1,q2,_⟩
  · exact .inr q
  · obtain ⟨e,he,Eh,_,hem⟩:=kL hm
    rcases Nat.lt_or_ge b w.heap.size with hbl | hbl
    · exact .inl ⟨e.1,hWg e he (by rw [hem]; exact hgm),by rw [e1,hc2 b o hbl]; exact Eh⟩
    · exact .inr hbl
  · exact .inl ⟨n.id,hap.nF n hn,by rw [e1,hc2 b o q1]; exact q2⟩
 have Ux:∀ b o,b < w.heap.size→(∀ k ∈ bx.map (·.1),g0.col b o ≠ .bx k)→∀ id,dI g fP W b o ≠ .bx id:=fun b o hbl hne id hid=>by
  obtain ⟨e,he,Eh,_,_⟩:=kL hid
  exact hne e.1 (hWb e he) (by rw [e1,hc2 b o hbl]; exact Eh)
 have hnn:(ns.map (·.id)).Nodup:=hap.sub.nodup hnb
 have Ag:∀ n ∈ ns,∀ m ∈ ns,n.id ≠ m.id→∀ b o,n.R b o ≠ none→m.R b o = none:=fun n hn m hm hne b o hr=>by
  cases hmr:m.R b o with
  | none=>rfl
  | some l =>
    exfalso
    rcases (hap.reg n hn b o hr).2.2 with ⟨s,q1,q2,q3⟩ | ⟨q1,q2,q3⟩ <;> rcases (hap.reg m hm b o (by rw [hmr]; simp)).2.2 with ⟨s',r1,r2,r3⟩ | ⟨r1,r2,r3⟩
    · rw [q1] at r1; cases r1; exact hne (q2.symm.trans r2)
    · rcases q3 with q3 | ⟨m',hg,hm'⟩
      · omega
      · exact r3 m' hg hm'
    · rcases r3 with r3 | ⟨m',hg,hm'⟩
      · omega
      · exact q3 m' hg hm'
    · rw [q2] at r2
      simp only [Col.bx.injEq] at r2
      exact hne r2
 have hgood:bV g0 w (jT g0 ns F) w'→GOOD g (jT g0 ns F) w w' bx F ns:=fun hst' =>
  ⟨agj.trans hst',fun n hn=>⟨.inl ⟨n,hn,rfl,rfl⟩,qb hnn hn,.inl ⟨n,hn,rfl,rfl⟩,(sW hnn hn).1,(sW hnn hn).2,Cu hnn hn,fun b o hr=>qZ Ag hn hr⟩,fun id _ hF=>⟨by
   rw [xE (fun n hn (e:n.id = id)=>hF (by rw [← e]; exact hap.nF n hn)) hF,← hg0],fun b o hbl hc=>by
   rw [qc hR hbl fun k hk e=>?_]
   · rw [e1,hc2 b o hbl]; exact hc
   · rw [e1,hc2 b o hbl,hc] at e; cases e; exact hF hk⟩⟩
 have agk:∀ b o,w.heap.size≤b→(∀ n ∈ ns,n.R b o = none)→g0.col b o ≠ .free→(∀ k,g0.col b o ≠ .bx k)→(jT g0 ns F).col b o = g0.col b o:=fun b o _ hn _ hnb=>(ko hn).resolve_left fun ⟨_,k,_,e⟩=>hnb k e
 have hdat:Dat fP col' w' (jT g0 ns F):=fun hrf=>⟨fun b o v h1 h2=>⟨by
  have hnr:∀ n ∈ ns,n.R b o = none:=fun n hn=>by
   cases hr:n.R b o with
   | none=>rfl
   | some l =>
     rcases (hap.reg n hn b o (by rw [hr]; simp)).2.2 with ⟨s,q1,_⟩ | ⟨q1,q2,_⟩
     · rw [h1] at q1; cases q1
     · have h3:=((hst b q1 o).1.mp h1)
       rcases xH h3 with q | ⟨id,hid,_⟩
       · rw [q2] at q; cases q
       · rw [hrf] at hid; cases hid
  have Ze:g0.col b o = .st:=by
   rw [e1]
   show (if b < w.heap.size then g.col b o else _) = _
   split
   · rename_i hbl
     have h3:=((hst b hbl o).1.mp h1)
     rcases xH h3 with q | ⟨id,hid,_⟩
     · exact q
     · rw [hrf] at hid; cases hid
   · rw [h1]
  rcases ko (g:=g0) (F:=F) hnr with ⟨_,k,_,e⟩ | e
  · rw [Ze] at e; cases e
  · rw [e,Ze],h2⟩⟩
 have:=hs0.upd ns F bx (w':=w') (dst:=dst) (p:=p) (v:=v) hnb (fun id hid=>by rw [← hg0]; exact hap.gv id hid) hap.nF hnn (fun n hn=>by rw [← hg0]; exact hap.fresh n hn) hR
  (fun b o v hv hne=>(hk.dY b (hlt hv) o (Ux b o (hlt hv) hne)).trans hv) ⟨fun b o hb=>hk.uD b hb o,fun b o hb=>hk.new b hb o⟩ (fun b ob lK hne=>(hk.blk b (ji lK) fun o=>Ux b o (ji lK) (hne o)).trans lK) (fun b o hb=>hk.ex b hb o) ⟨hk.os,hk.tape,hk.output,hk.size⟩
  (fun id c hm=>by rw [← hg0]; exact hap.db id c hm) (fun hst' id c hm=>hap.rep _ (hgood hst') hdat id c hm) hd (fun hst'=>hp _ (hgood hst') hdat)
 refine ⟨_,this.2,hdat,fun b o hb hns hnr=>?_⟩
 have hf:g0.col b o = .free:=by
  rw [e1]
  show (if b < w.heap.size then g.col b o else _) = _
  rw [if_neg (by omega)]
  cases hc:col' b o with
  | st=>exact absurd hc hns
  | _=>rfl
 rcases ko (g:=g0) (F:=F) hnr with ⟨e,_⟩ | e
 · exact e
 · rw [e,hf]
end
end Go.VE
