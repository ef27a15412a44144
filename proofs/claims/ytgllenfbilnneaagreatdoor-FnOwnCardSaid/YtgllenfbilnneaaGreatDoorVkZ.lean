import Derived.Test.YtgllenfbilnneaaGreatDoorVkY
import Derived.LoopN
/- Code: weaker states; a loop's shape: the state that it tells of. -/
namespace Go.VE
theorem fU {l:List Nat} {a:Nat}:hasNat l a = true ↔ a ∈ l:=by
 unfold hasNat
 rw [List.any_eq_true]
 constructor
 · rintro ⟨x,hx,h⟩; rw [Nat.eq_of_beq_eq_true h]; exact hx
 · intro h; exact ⟨a,h,by simp⟩
section
variable {P:Program} {Γ:TypeId→Option Ty} {T:tZ} {N:Fr} {c0:Nat→Nat→Col} {w0:World} {σ:AS} {g:Gh} {a:Act} {w:World}
/-! ### Values that name few boxes -/
theorem Mg {g':Gh} (hst:Stays g.col w g'.col w):∀ {p:PV} {v:Value},kX p = true→aF g w p v→aF g' w p v
 | .int _ _,_,_,h=>by simpa only [aF] using h
 | .bool _,_,_,h=>by simpa only [aF] using h
 | .str _,_,_,h=>by simpa only [aF] using h
 | .l9,_,_,h=>by simpa only [aF] using h
 | .any,_,_,_=>by simp only [aF]
 | .sl t x,v,_,h=>by
   simp only [aF] at h ⊢
   exact bC.mono hst _ _ _ h
 | .agg _,_,h,_=>by simp [kX] at h
 | .bx _ _,_,h,_=>by simp [kX] at h
 | .ms _ _,_,h,_=>by simp [kX] at h
 | .vw _ _ _ _ _,_,h,_=>by simp [kX] at h
 | .mn _ _ _ _,_,h,_=>by simp [kX] at h
 | .vn _ _ _ _ _ _ _,_,h,_=>by simp [kX] at h
 | .me _ _ _ _ _,_,h,_=>by simp [kX] at h
 | .mp _ _ _ _ _ _ _,_,h,_=>by simp [kX] at h
 | .so _ _,_,h,_=>by simp [kX] at h
 | .rf _,_,h,_=>by simp [kX] at h
 | .fn _ _,_,h,_=>by simp [kX] at h
 | .HY _,_,h,_=>by simp [kX] at h
theorem qo {g':Gh} {q:PV→Bool} (hq:∀ {p:PV} {v:Value},q p = true→aF g w p v→aF g' w p v):∀ {ps:List PV} {vs:List Value},ps.all q = true→ak g w ps vs→ak g' w ps vs
 | [],vs,_,h=>by simpa only [ak] using h
 | p::ps,vs,hl,h=>by
   simp only [List.all_cons,Bool.and_eq_true] at hl
   simp only [ak] at h ⊢
   obtain ⟨u,us,e1,e2,e3⟩:=h
   exact ⟨u,us,e1,hq hl.1 e2,qo hq hl.2 e3⟩
def uS (g:Gh) (l:List Nat):Gh:={ g with db:=fun id=>g.db id ∧ id ∈ l,dh:=fun id u=>g.dh id u ∧ id ∈ l,dn:=fun id u=>g.dn id u ∧ id ∈ l }
theorem CZ {l:List Nat} {p:PV} {v:Value} (hp:pY l p = true) (hr:aF g w p v):aF (uS g l) w p v:=by
 have hst:Stays g.col w (uS g l).col w:=⟨fun _ _ _ h h'=>⟨h,h'⟩⟩
 have hB:∀ {p:PV} {v:Value},kX p = true→aF g w p v→aF (uS g l) w p v:=fun h h'=>Mg (g':=uS g l) hst h h'
 have hC:∀ {p:PV} {v:Value},nN l p = true→aF g w p v→aF (uS g l) w p v:=by
  intro p v hl h
  cases p with
  | bx id off =>
    simp only [nN] at hl
    simp only [aF] at h ⊢
    exact ⟨⟨h.1,fU.mp hl⟩,h.2⟩
  | ms id u =>
    simp only [nN] at hl
    simp only [aF] at h ⊢
    exact ⟨⟨h.1,fU.mp hl⟩,h.2⟩
  | vw id u sz lo hi =>
    simp only [nN] at hl
    simp only [aF] at h ⊢
    exact ⟨⟨h.1,fU.mp hl⟩,h.2⟩
  | mn id u i j =>
    simp only [nN] at hl
    simp only [aF] at h ⊢
    exact ⟨⟨h.1,fU.mp hl⟩,h.2⟩
  | vn id u i j sz lo hi =>
    simp only [nN] at hl
    simp only [aF] at h ⊢
    exact ⟨⟨h.1,fU.mp hl⟩,h.2⟩
  | me id u sz i off =>
    simp only [nN] at hl
    simp only [aF] at h ⊢
    exact ⟨⟨h.1,fU.mp hl⟩,h.2⟩
  | mp id u i j sz k off =>
    simp only [nN] at hl
    simp only [aF] at h ⊢
    exact ⟨⟨h.1,fU.mp hl⟩,h.2⟩
  | rf cs =>
    simp only [nN] at hl
    simp only [aF] at h ⊢
    obtain ⟨b,o,us,e1,e2,e3⟩:=h
    exact ⟨b,o,us,e1,qo hB hl e2,e3⟩
  | _=>exact hB (by simpa [nN] using hl) h
 have hA:∀ {p:PV} {v:Value},Fv l p = true→aF g w p v→aF (uS g l) w p v:=by
  intro p v hl h
  cases p with
  | agg cs =>
    simp only [aF] at h ⊢
    obtain ⟨vs,e1,e2⟩:=h
    exact ⟨vs,e1,qo hC (by simpa [Fv] using hl) e2⟩
  | _=>exact hC (by simpa [Fv] using hl) h
 cases p with
 | fn f cap =>
   simp only [aF] at hr ⊢
   obtain ⟨vs,e1,e2⟩:=hr
   exact ⟨vs,e1,qo hC (by simpa [pY] using hp) e2⟩
 | HY cs =>
   simp only [aF] at hr ⊢
   obtain ⟨vs,e1,e2⟩:=hr
   exact ⟨vs,e1,qo hA (by simpa [pY] using hp) e2⟩
 | _=>exact hA (by simpa [pY] using hp) hr
theorem AQ (hs:bO N c0 w0 σ g a w) (keep boxes:List Nat):∃ g',bO N c0 w0 (narrow keep boxes σ) g' a w:=by
 have hst:bV (uS g boxes) w g w:={ st:=fun _ _ _ h h'=>⟨h,h'⟩,db:=fun _ h=>⟨h.1,rfl⟩,dh:=fun _ _ h=>⟨h.1,rfl⟩,dn:=fun _ _ h=>⟨h.1,rfl,rfl⟩ }
 have hbx:∀ {id c},id ∈ boxes→σ.box id = some c→∃ c',(narrow keep boxes σ).box id = some c' ∧ c'.mG = c.mG ∧ c'.hv = c.hv ∧ c'.nv = c.nv:=fun {id c} hm hc=>by
  simp only [narrow,fU.mpr hm,cond_true,hc]
  cases c <;> exact ⟨_,rfl,rfl,rfl,rfl⟩
 refine ⟨uS g boxes,{ size:=hs.size,env:=fun i=>?_,defers:=hs.defers,box:=fun id c hc=>?_,db:=fun id h=>?_,dh:=fun id u h=>?_,dn:=fun id u h=>?_,pts:=fun id hid h=>hs.pts id hid h.1,fix:=fun id hid u=>⟨fun h=>(hs.fix id hid u).1 h.1,fun h=>(hs.fix id hid u).2 h.1⟩,keep:=hs.keep,old:=hs.old }⟩
 · show aF (uS g boxes) w ((narrow keep boxes σ).env i) _
   simp only [narrow]
   cases h1:hasNat keep i with
   | false=>simp only [cond_false,aF]
   | true =>
     simp only [cond_true]
     cases h2:pY boxes (σ.env i) with
     | false=>simp only [cond_false,aF]
     | true=>simp only [cond_true]; exact CZ h2 (hs.env i)
 · simp only [narrow] at hc
   cases h1:hasNat boxes id with
   | false=>rw [h1] at hc; simp at hc
   | true =>
     have hm:=fU.mp h1
     rw [h1] at hc
     simp only [cond_true] at hc
     cases h2:σ.box id with
     | none=>rw [h2] at hc; simp at hc
     | some c' =>
       rw [h2] at hc
       have h4:=hs.box id c' h2
       cases c' with
       | row t x own hv nv =>
         simp only [Option.some.injEq] at hc
         subst hc
         obtain ⟨q1,q2,q3⟩:=h4
         exact ⟨⟨q1,hm⟩,⟨q2,hm⟩,q3⟩
       | gone hv nv =>
         simp only [Option.some.injEq] at hc
         subst hc
         exact trivial
       | hol u x i hv nv =>
         simp only [Option.some.injEq] at hc
         subst hc
         obtain ⟨q1,q2,q3⟩:=h4
         exact ⟨⟨q1,hm⟩,⟨q2,hm⟩,q3⟩
       | iter s pos =>
         simp only [Option.some.injEq] at hc
         subst hc
         obtain ⟨q1,q2⟩:=h4
         exact ⟨⟨q1,hm⟩,q2⟩
       | cells cs =>
         simp only [Option.some.injEq] at hc
         subst hc
         obtain ⟨q1,us,h5,h6⟩:=h4
         refine ⟨⟨q1,hm⟩,us,?_,h6⟩
         refine ak.oP (by simp [h5.length]) fun i p v hp hv=>?_
         simp only [List.getElem?_map,Option.map_eq_some_iff] at hp
         obtain ⟨q,hq,rfl⟩:=hp
         obtain ⟨v',hv',hr⟩:=h5.get i q hq
         rw [hv] at hv'; cases hv'
         cases h7:pY boxes q with
         | false=>simp only [cond_false,aF]
         | true=>simp only [cond_true]; exact CZ h7 hr
 · obtain ⟨c,e1,e2⟩:=hs.db id h.1
   obtain ⟨c',q1,q2,_⟩:=hbx h.2 e1
   exact ⟨c',q1,q2.trans e2⟩
 · obtain ⟨c,e1,e2,e3⟩:=hs.dh id u h.1
   obtain ⟨c',q1,q2,q3,_⟩:=hbx h.2 e1
   exact ⟨c',q1,q2.trans e2,by rw [q3]; exact e3⟩
 · obtain ⟨c,e1,e2,e3⟩:=hs.dn id u h.1
   obtain ⟨c',q1,q2,_,q3⟩:=hbx h.2 e1
   exact ⟨c',q1,q2.trans e2,by rw [q3]; exact e3⟩
/-! ### Shapes -/
structure RE where
 n:iZ
 src:List Nat
structure uT (g:Gh) (w:World) (e:RE):Prop where
 z:e.n.hv = 0 ∧ e.n.nv = 0
 reg:∀ b o,e.n.R b o ≠ none→(∃ s ∈ e.src,g.col b o = .bx s) ∧ (∃ v,w.cell? ⟨b,o,none⟩ = some v) ∧ w.frozen? ⟨b,o,none⟩ = false
 nd:∀ s ∈ e.src,¬ g.db s
 nm:(jI e.n.id = true ∧ ∀ s ∈ e.src,jI s = true) ∨ (e.src = [e.n.id] ∧ (∃ u,g.dh e.n.id u ∧ e.n.hd = g.hd e.n.id u) ∧ ∃ u,g.dn e.n.id u ∧ e.n.nh = g.nh e.n.id u)
structure yF (σ:AS) (g g':Gh) (w:World) (bs:List (Nat×jd)) (L:List RE):Prop where
 st:Stays g.col w g'.col w
 bx:g'.bx = g.bx
 db:∀ id,(∃ s,(id,s) ∈ bs ∧ (match s with | .cells _=>True | .typ _=>True | _=>False))→g.db id→g'.db id ∧ ∀ b o,g.col b o = .bx id→g'.col b o = .bx id
 ms:∀ id v,(∃ s,(id,s) ∈ bs ∧ (match s with | .row _=>True | .pV _=>True | _=>False))→zX σ.box id v = true→g'.dh id 0 ∧ g'.hd id 0 = g.hd id v
 n:∀ e ∈ L,g'.dh e.n.id 0 ∧ g'.hd e.n.id 0 = e.n.hd ∧ g'.dn e.n.id 0 ∧ g'.nh e.n.id 0 = e.n.nh ∧ g'.ni e.n.id 0 = e.n.ni ∧ g'.R e.n.id = e.n.R ∧ ∀ b o,e.n.R b o ≠ none→g'.col b o = .bx e.n.id
theorem yF.left {g':Gh} {bs:List (Nat×jd)} {L1 L2:List RE} (h:yF σ g g' w bs (L1 ++ L2)):yF σ g g' w bs L1:={ h with n:=fun e he=>h.n e (List.mem_append_left _ he) }
theorem yF.right {g':Gh} {bs:List (Nat×jd)} {L1 L2:List RE} (h:yF σ g g' w bs (L1 ++ L2)):yF σ g g' w bs L2:={ h with n:=fun e he=>h.n e (List.mem_append_right _ he) }
theorem JX {g':Gh} (hst:Stays g.col w g'.col w):∀ {ts:List Ty} {ps:List PV} {x:dR ts} {vs:List Value},Cn ts ps = some x→ak g w ps vs→ak g' w (Fu ts x) vs
 | [],[],x,vs,_,hr=>by simp only [ak] at hr; simp only [Fu,ak]; exact hr
 | [],p::ps,x,vs,h,_=>by simp [Cn] at h
 | t::r,[],x,vs,h,_=>by simp [Cn] at h
 | t::r,p::ps,x,vs,h,hr=>by
   cases p <;> simp only [Cn] at h <;> try cases h
   rename_i cs
   split at h
   · rename_i x1 h1
     split at h
     · rename_i x2 h2
       simp only [Option.some.injEq] at h; subst h
       simp only [ak,aF] at hr
       obtain ⟨u,us,rfl,⟨b,o,vs',rfl,h3,h4⟩,h5⟩:=hr
       simp only [Fu,ak,aF]
       exact ⟨_,us,rfl,⟨b,o,vs',rfl,gK (bC.mono hst _ _ _ (fA h1 h3)),h4.mono hst⟩,JX hst h2 h5⟩
     · cases h
   · cases h
def slotL:(s:Slot)→s.T→List (Nat×aU)
 | .row t k,x=>[(k,.row t x none 0 0)]
 | _,_=>[]
def fB:(ss:List Slot)→nk ss→List (Nat×aU)
 | [],_=>[]
 | s::r,x=>slotL s x.1 ++ fB r x.2
def jq:(ss:List (Nat×Slot))→oI ss→List (Nat×aU)
 | [],_=>[]
 | (_,s)::r,x=>slotL s x.1 ++ jq r x.2
def bM:(bs:List (Nat×jd))→oJ bs→List (Nat×aU)
 | [],_=>[]
 | (i,.cells ss)::r,x=>(i,.cells (oM ss x.1))::(fB ss x.1 ++ bM r x.2)
 | (i,.row t)::r,x=>(i,.row t x.1 none 0 0)::bM r x.2
 | (i,.pV t)::r,x=>(i,.row t x.1.1 (some x.1.2) 0 0)::bM r x.2
 | (i,.typ t)::r,x=>(i,.cells (pk t x.1))::bM r x.2
theorem JY {g':Gh} {e:RE} {u:Ty} {y:L u.T} {own:Option (Nat→Bool)} (hg:uT g w e) (hn:g'.dh e.n.id 0 ∧ g'.hd e.n.id 0 = e.n.hd ∧ g'.dn e.n.id 0 ∧ g'.nh e.n.id 0 = e.n.nh ∧ g'.ni e.n.id 0 = e.n.ni ∧ g'.R e.n.id = e.n.R ∧ ∀ b o,e.n.R b o ≠ none→g'.col b o = .bx e.n.id)
 (hni:e.n.ni = y.len) (hr:cB g'.col w e.n.R e.n.nh (ownB own) u y e.n.hd):gF g' w e.n.id (.row u y own 0 0):=by
 obtain ⟨p1,p2,p3,p4,p5,p6,p7⟩:=hn
 refine ⟨p1,p3,p5.trans hni,by rw [p2,p4,p6]; exact hr,fun b o hR=>?_⟩
 rw [p6] at hR
 exact ⟨p7 b o hR,(hg.reg b o hR).2⟩
theorem F3 (hs:bO N c0 w0 σ g a w) {s:Slot} {p:PV} {x:s.T} {v:Value} (h:oK σ.box s p = some x) (hr:aF g w p v) (hcl:∀ t k,s = .row t k→jI k = true) :
 ∃ L:List RE,L.map (·.n.id) = um s ∧ (L.flatMap (·.src)) = RB s p ∧ (∀ e ∈ L,uT g w e) ∧ ∀ g' bs,yF σ g g' w bs L→BK bs s = true→aF g' w (oL s x) v ∧ ∀ q ∈ slotL s x,gF g' w q.1 q.2:=by
 cases s with
 | v t =>
   refine ⟨[],rfl,by cases p <;> rfl,by simp,fun g' bs hf _=>⟨?_,by simp [slotL]⟩⟩
   simp only [oK] at h
   obtain ⟨us,h1,rfl⟩:=DY h hr
   exact Ij (bC.mono hf.st _ _ _ h1)
 | rf t =>
   refine ⟨[],rfl,by cases p <;> rfl,by simp,fun g' bs hf _=>⟨?_,by simp [slotL]⟩⟩
   cases p <;> simp only [oK] at h <;> try cases h
   simp only [aF] at hr
   obtain ⟨b,o,us,rfl,h2,h3⟩:=hr
   simp only [oL,aF]
   exact ⟨b,o,us,rfl,gK (bC.mono hf.st _ _ _ (fA h h2)),h3.mono hf.st⟩
 | ms id =>
   refine ⟨[],rfl,by cases p <;> rfl,by simp,fun g' bs hf hb=>⟨?_,by simp [slotL]⟩⟩
   cases p <;> simp only [oK] at h <;> try cases h
   rename_i id' u
   split at h
   · rename_i hbq
     simp only [Bool.and_eq_true] at hbq
     obtain rfl:=Nat.eq_of_beq_eq_true hbq.1
     simp only [aF] at hr
     simp only [oL,aF]
     simp only [BK] at hb
     obtain ⟨q,hq,he⟩:=List.any_eq_true.mp hb
     simp only [Bool.and_eq_true] at he
     have e1:=Nat.eq_of_beq_eq_true he.1
     obtain ⟨k1,k2⟩:=hf.ms id u ⟨q.2,by rw [e1]; exact hq,by
      have:=he.2
      revert this
      cases q.2 <;> simp⟩ hbq.2
     exact ⟨k1,by rw [k2]; exact hr.2⟩
   · cases h
 | bx id off =>
   refine ⟨[],rfl,by cases p <;> rfl,by simp,fun g' bs hf hb=>⟨?_,by simp [slotL]⟩⟩
   cases p <;> simp only [oK] at h <;> try cases h
   split at h
   · rename_i id' off' hbq
     simp only [Bool.and_eq_true] at hbq
     obtain rfl:=Nat.eq_of_beq_eq_true hbq.1
     obtain rfl:=Nat.eq_of_beq_eq_true hbq.2
     simp only [aF] at hr
     simp only [oL,aF]
     simp only [BK] at hb
     obtain ⟨q,hq,he⟩:=List.any_eq_true.mp hb
     simp only [Bool.and_eq_true] at he
     have e1:=Nat.eq_of_beq_eq_true he.1
     exact ⟨(hf.db id ⟨q.2,by rw [e1]; exact hq,by
      have:=he.2
      revert this
      cases q.2 <;> simp⟩ hr.1).1,by rw [hf.bx]; exact hr.2⟩
   · cases h
 | pW f ts =>
   refine ⟨[],rfl,by cases p <;> rfl,by simp,fun g' bs hf hb=>⟨?_,by simp [slotL]⟩⟩
   cases p <;> simp only [oK] at h <;> try cases h
   split at h
   · rename_i f' cap hbq
     obtain rfl:=Nat.eq_of_beq_eq_true hbq
     simp only [aF] at hr
     obtain ⟨vs,rfl,h2⟩:=hr
     simp only [oL,aF]
     exact ⟨vs,rfl,JX hf.st h h2⟩
   · cases h
 | any=>exact ⟨[],rfl,by cases p <;> rfl,by simp,fun g' bs hf hb=>⟨by simp only [oL,aF],by simp [slotL]⟩⟩
 | row t k =>
   simp only [oK] at h
   obtain ⟨hd,rfl,⟨nh,R,h1,h2⟩,h3⟩:=yM (μ:=σ) (fun id c hc=>hs.box id c hc) h hr
   let e:RE:={ n:={ id:=k,hv:=0,nv:=0,hd:=hd,nh:=nh,ni:=x.len,R:=R },src:=ay [p] }
   have hg:uT g w e:=⟨⟨rfl,rfl⟩,h2,fun s hs'=>(by obtain ⟨_,t,x,own,hv,nv,q⟩:=h3 s hs'; exact dL hs q rfl),.inl ⟨hcl t k rfl,fun s hs'=>(h3 s hs').1⟩⟩
   refine ⟨[e],rfl,by simp [e,RB],fun e' he=>by rw [List.mem_singleton.mp he]; exact hg,fun g' bs hf _=>?_⟩
   have hn:=hf.n e (List.mem_singleton.mpr rfl)
   refine ⟨?_,fun q hq=>?_⟩
   · simp only [oL,aF]
     have e1:g'.hd k 0 = hd:=hn.2.1
     exact ⟨hn.1,by rw [e1]⟩
   · simp only [slotL,List.mem_singleton] at hq
     subst hq
     exact JY hg hn rfl (cB.lM h1)
theorem C8 (hs:bO N c0 w0 σ g a w):∀ {ss:List Slot} {ps:List PV} {x:nk ss} {vs:List Value},qX σ.box ss ps = some x→ak g w ps vs→(∀ t k,Slot.row t k ∈ ss→jI k = true) →
 ∃ L:List RE,L.map (·.n.id) = ss.flatMap um ∧ (L.flatMap (·.src)) = RD ss ps ∧ (∀ e ∈ L,uT g w e) ∧ ∀ g' bs,yF σ g g' w bs L→ss.all (BK bs) = true→ak g' w (oM ss x) vs ∧ ∀ q ∈ fB ss x,gF g' w q.1 q.2
 | [],[],x,vs,h,hr,_=>⟨[],rfl,rfl,by simp,fun g' bs _ _=>⟨by simp only [ak] at hr; simp only [oM,ak]; exact hr,by simp [fB]⟩⟩
 | [],p::ps,x,vs,h,hr,_=>by simp [qX] at h
 | s::r,[],x,vs,h,hr,_=>by simp [qX] at h
 | s::r,p::ps,x,vs,h,hr,hcl=>by
   simp only [qX] at h
   split at h
   · rename_i x1 h1
     split at h
     · rename_i x2 h2
       simp only [Option.some.injEq] at h; subst h
       simp only [ak] at hr
       obtain ⟨u,us,rfl,hr1,hr2⟩:=hr
       obtain ⟨L1,e1,e2,e3,e4⟩:=F3 hs h1 hr1 (fun t k e=>hcl t k (by rw [e]; simp))
       obtain ⟨L2,f1,f2,f3,f4⟩:=C8 hs h2 hr2 (fun t k e=>hcl t k (List.mem_cons_of_mem _ e))
       refine ⟨L1 ++ L2,by simp [e1,f1],by simp [e2,f2,RD],fun e he=>(List.mem_append.mp he).elim (e3 e) (f3 e),fun g' bs hf hb=>?_⟩
       simp only [List.all_cons,Bool.and_eq_true] at hb
       obtain ⟨q1,q2⟩:=e4 g' bs hf.left hb.1
       obtain ⟨q3,q4⟩:=f4 g' bs hf.right hb.2
       simp only [oM,ak]
       exact ⟨⟨u,us,rfl,q1,q3⟩,fun q hq=>by
        simp only [fB,List.mem_append] at hq
        exact hq.elim (q2 q) (q4 q)⟩
     · cases h
   · cases h
theorem C9 (hs:bO N c0 w0 σ g a w):∀ {ss:List (Nat×Slot)} {x:oI ss},yL σ.env σ.box ss = some x→(∀ i t k,(i,Slot.row t k) ∈ ss→jI k = true) →
 ∃ L:List RE,L.map (·.n.id) = ss.flatMap (fun p=>um p.2) ∧ (L.flatMap (·.src)) = RF σ.env ss ∧ (∀ e ∈ L,uT g w e) ∧ ∀ g' bs,yF σ g g' w bs L→(ss.all fun p=>BK bs p.2) = true→(∀ i,aF g' w (uo ss x i) (a.tmps.getD i undef)) ∧ ∀ q ∈ jq ss x,gF g' w q.1 q.2
 | [],x,h,_=>⟨[],rfl,rfl,by simp,fun g' bs _ _=>⟨fun i=>by simp only [uo,aF],by simp [jq]⟩⟩
 | (j,s)::r,x,h,hcl=>by
   simp only [yL] at h
   split at h
   · rename_i x1 h1
     split at h
     · rename_i x2 h2
       simp only [Option.some.injEq] at h; subst h
       obtain ⟨L1,e1,e2,e3,e4⟩:=F3 hs h1 (hs.env j) (fun t k e=>hcl j t k (by rw [e]; simp))
       obtain ⟨L2,f1,f2,f3,f4⟩:=C9 hs h2 (fun i t k e=>hcl i t k (List.mem_cons_of_mem _ e))
       refine ⟨L1 ++ L2,by simp [e1,f1],by simp [e2,f2,RF],fun e he=>(List.mem_append.mp he).elim (e3 e) (f3 e),fun g' bs hf hb=>?_⟩
       simp only [List.all_cons,Bool.and_eq_true] at hb
       obtain ⟨q1,q2⟩:=e4 g' bs hf.left hb.1
       obtain ⟨q3,q4⟩:=f4 g' bs hf.right hb.2
       refine ⟨fun i=>?_,fun q hq=>by
        simp only [jq,List.mem_append] at hq
        exact hq.elim (q2 q) (q4 q)⟩
       simp only [uo]
       cases hb:Nat.beq i j with
       | true=>rw [Nat.eq_of_beq_eq_true hb]; exact q1
       | false=>exact q3 i
     · cases h
   · cases h
end
end Go.VE
