import Derived.Test.YtgllenfbilnneaaGreatDoorVkY
import Derived.LoopN
/- Code: weaker states; a loop's shape: the state that it tells of. -/
namespace Go.VE
theorem hasNat_iff {l:List Nat} {a:Nat}:hasNat l a = true ↔ a ∈ l:=by
 unfold hasNat
 rw [List.any_eq_true]
 constructor
 · rintro ⟨x,hx,h⟩; rw [Nat.eq_of_beq_eq_true h]; exact hx
 · intro h; exact ⟨a,h,by simp⟩
section
variable {P:Program} {Γ:TypeId→Option Ty} {T:Tbl} {N:Fr} {c0:Nat→Nat→Col} {w0:World} {σ:AS} {g:Gh} {a:Act} {w:World}
/-! ### Values that name few boxes -/
theorem leafB_rep {g':Gh} (hst:Stays g.col w g'.col w):∀ {p:PV} {v:Value},leafB p = true→Rep g w p v→Rep g' w p v
 | .int _ _,_,_,h=>by simpa only [Rep] using h
 | .bool _,_,_,h=>by simpa only [Rep] using h
 | .str _,_,_,h=>by simpa only [Rep] using h
 | .nils,_,_,h=>by simpa only [Rep] using h
 | .any,_,_,_=>by simp only [Rep]
 | .sl t x,v,_,h=>by
   simp only [Rep] at h ⊢
   exact RepT.mono hst _ _ _ h
 | .agg _,_,h,_=>by simp [leafB] at h
 | .bx _ _,_,h,_=>by simp [leafB] at h
 | .ms _ _,_,h,_=>by simp [leafB] at h
 | .vw _ _ _ _ _,_,h,_=>by simp [leafB] at h
 | .mn _ _ _ _,_,h,_=>by simp [leafB] at h
 | .vn _ _ _ _ _ _ _,_,h,_=>by simp [leafB] at h
 | .me _ _ _ _ _,_,h,_=>by simp [leafB] at h
 | .mp _ _ _ _ _ _ _,_,h,_=>by simp [leafB] at h
 | .so _ _,_,h,_=>by simp [leafB] at h
 | .rf _,_,h,_=>by simp [leafB] at h
 | .fn _ _,_,h,_=>by simp [leafB] at h
 | .tup _,_,h,_=>by simp [leafB] at h
theorem reps_map {g':Gh} {q:PV→Bool} (hq:∀ {p:PV} {v:Value},q p = true→Rep g w p v→Rep g' w p v):∀ {ps:List PV} {vs:List Value},ps.all q = true→Reps g w ps vs→Reps g' w ps vs
 | [],vs,_,h=>by simpa only [Reps] using h
 | p::ps,vs,hl,h=>by
   simp only [List.all_cons,Bool.and_eq_true] at hl
   simp only [Reps] at h ⊢
   obtain ⟨u,us,e1,e2,e3⟩:=h
   exact ⟨u,us,e1,hq hl.1 e2,reps_map hq hl.2 e3⟩
def ghDom (g:Gh) (l:List Nat):Gh:={ g with db:=fun id=>g.db id ∧ id ∈ l,dh:=fun id u=>g.dh id u ∧ id ∈ l,dn:=fun id u=>g.dn id u ∧ id ∈ l }
theorem names_rep {l:List Nat} {p:PV} {v:Value} (hp:namesB l p = true) (hr:Rep g w p v):Rep (ghDom g l) w p v:=by
 have hst:Stays g.col w (ghDom g l).col w:=⟨fun _ _ _ h h'=>⟨h,h'⟩⟩
 have hB:∀ {p:PV} {v:Value},leafB p = true→Rep g w p v→Rep (ghDom g l) w p v:=fun h h'=>leafB_rep (g':=ghDom g l) hst h h'
 have hC:∀ {p:PV} {v:Value},leafC l p = true→Rep g w p v→Rep (ghDom g l) w p v:=by
  intro p v hl h
  cases p with
  | bx id off =>
    simp only [leafC] at hl
    simp only [Rep] at h ⊢
    exact ⟨⟨h.1,hasNat_iff.mp hl⟩,h.2⟩
  | ms id u =>
    simp only [leafC] at hl
    simp only [Rep] at h ⊢
    exact ⟨⟨h.1,hasNat_iff.mp hl⟩,h.2⟩
  | vw id u sz lo hi =>
    simp only [leafC] at hl
    simp only [Rep] at h ⊢
    exact ⟨⟨h.1,hasNat_iff.mp hl⟩,h.2⟩
  | mn id u i j =>
    simp only [leafC] at hl
    simp only [Rep] at h ⊢
    exact ⟨⟨h.1,hasNat_iff.mp hl⟩,h.2⟩
  | vn id u i j sz lo hi =>
    simp only [leafC] at hl
    simp only [Rep] at h ⊢
    exact ⟨⟨h.1,hasNat_iff.mp hl⟩,h.2⟩
  | me id u sz i off =>
    simp only [leafC] at hl
    simp only [Rep] at h ⊢
    exact ⟨⟨h.1,hasNat_iff.mp hl⟩,h.2⟩
  | mp id u i j sz k off =>
    simp only [leafC] at hl
    simp only [Rep] at h ⊢
    exact ⟨⟨h.1,hasNat_iff.mp hl⟩,h.2⟩
  | rf cs =>
    simp only [leafC] at hl
    simp only [Rep] at h ⊢
    obtain ⟨b,o,us,e1,e2,e3⟩:=h
    exact ⟨b,o,us,e1,reps_map hB hl e2,e3⟩
  | _=>exact hB (by simpa [leafC] using hl) h
 have hA:∀ {p:PV} {v:Value},leafA l p = true→Rep g w p v→Rep (ghDom g l) w p v:=by
  intro p v hl h
  cases p with
  | agg cs =>
    simp only [Rep] at h ⊢
    obtain ⟨vs,e1,e2⟩:=h
    exact ⟨vs,e1,reps_map hC (by simpa [leafA] using hl) e2⟩
  | _=>exact hC (by simpa [leafA] using hl) h
 cases p with
 | fn f cap =>
   simp only [Rep] at hr ⊢
   obtain ⟨vs,e1,e2⟩:=hr
   exact ⟨vs,e1,reps_map hC (by simpa [namesB] using hp) e2⟩
 | tup cs =>
   simp only [Rep] at hr ⊢
   obtain ⟨vs,e1,e2⟩:=hr
   exact ⟨vs,e1,reps_map hA (by simpa [namesB] using hp) e2⟩
 | _=>exact hA (by simpa [namesB] using hp) hr
theorem sim_narrow (hs:Sim N c0 w0 σ g a w) (keep boxes:List Nat):∃ g',Sim N c0 w0 (narrow keep boxes σ) g' a w:=by
 have hst:GStays (ghDom g boxes) w g w:={ st:=fun _ _ _ h h'=>⟨h,h'⟩,db:=fun _ h=>⟨h.1,rfl⟩,dh:=fun _ _ h=>⟨h.1,rfl⟩,dn:=fun _ _ h=>⟨h.1,rfl,rfl⟩ }
 have hbx:∀ {id c},id ∈ boxes→σ.box id = some c→∃ c',(narrow keep boxes σ).box id = some c' ∧ c'.isC = c.isC ∧ c'.hv = c.hv ∧ c'.nv = c.nv:=fun {id c} hm hc=>by
  simp only [narrow,hasNat_iff.mpr hm,cond_true,hc]
  cases c <;> exact ⟨_,rfl,rfl,rfl,rfl⟩
 refine ⟨ghDom g boxes,{ size:=hs.size,env:=fun i=>?_,defers:=hs.defers,box:=fun id c hc=>?_,db:=fun id h=>?_,dh:=fun id u h=>?_,dn:=fun id u h=>?_,pts:=fun id hid h=>hs.pts id hid h.1,fix:=fun id hid u=>⟨fun h=>(hs.fix id hid u).1 h.1,fun h=>(hs.fix id hid u).2 h.1⟩,keep:=hs.keep,old:=hs.old }⟩
 · show Rep (ghDom g boxes) w ((narrow keep boxes σ).env i) _
   simp only [narrow]
   cases h1:hasNat keep i with
   | false=>simp only [cond_false,Rep]
   | true =>
     simp only [cond_true]
     cases h2:namesB boxes (σ.env i) with
     | false=>simp only [cond_false,Rep]
     | true=>simp only [cond_true]; exact names_rep h2 (hs.env i)
 · simp only [narrow] at hc
   cases h1:hasNat boxes id with
   | false=>rw [h1] at hc; simp at hc
   | true =>
     have hm:=hasNat_iff.mp h1
     rw [h1] at hc
     simp only [cond_true] at hc
     cases h2:σ.box id with
     | none=>rw [h2] at hc; simp at hc
     | some c' =>
       rw [h2] at hc
       have h4:=hs.box id c' h2
       cases c' with
       | row t x own hv nv =>
         simp only [Option.some.injEq] at hc
         subst hc
         obtain ⟨q1,q2,q3⟩:=h4
         exact ⟨⟨q1,hm⟩,⟨q2,hm⟩,q3⟩
       | gone hv nv =>
         simp only [Option.some.injEq] at hc
         subst hc
         exact trivial
       | hol u x i hv nv =>
         simp only [Option.some.injEq] at hc
         subst hc
         obtain ⟨q1,q2,q3⟩:=h4
         exact ⟨⟨q1,hm⟩,⟨q2,hm⟩,q3⟩
       | iter s pos =>
         simp only [Option.some.injEq] at hc
         subst hc
         obtain ⟨q1,q2⟩:=h4
         exact ⟨⟨q1,hm⟩,q2⟩
       | cells cs =>
         simp only [Option.some.injEq] at hc
         subst hc
         obtain ⟨q1,us,h5,h6⟩:=h4
         refine ⟨⟨q1,hm⟩,us,?_,h6⟩
         refine Reps.of_get (by simp [h5.length]) fun i p v hp hv=>?_
         simp only [List.getElem?_map,Option.map_eq_some_iff] at hp
         obtain ⟨q,hq,rfl⟩:=hp
         obtain ⟨v',hv',hr⟩:=h5.get i q hq
         rw [hv] at hv'; cases hv'
         cases h7:namesB boxes q with
         | false=>simp only [cond_false,Rep]
         | true=>simp only [cond_true]; exact names_rep h7 hr
 · obtain ⟨c,e1,e2⟩:=hs.db id h.1
   obtain ⟨c',q1,q2,_⟩:=hbx h.2 e1
   exact ⟨c',q1,q2.trans e2⟩
 · obtain ⟨c,e1,e2,e3⟩:=hs.dh id u h.1
   obtain ⟨c',q1,q2,q3,_⟩:=hbx h.2 e1
   exact ⟨c',q1,q2.trans e2,by rw [q3]; exact e3⟩
 · obtain ⟨c,e1,e2,e3⟩:=hs.dn id u h.1
   obtain ⟨c',q1,q2,_,q3⟩:=hbx h.2 e1
   exact ⟨c',q1,q2.trans e2,by rw [q3]; exact e3⟩
/-! ### Shapes -/
structure RE where
 n:RowN
 src:List Nat
structure GoodE (g:Gh) (w:World) (e:RE):Prop where
 z:e.n.hv = 0 ∧ e.n.nv = 0
 reg:∀ b o,e.n.R b o ≠ none→(∃ s ∈ e.src,g.col b o = .bx s) ∧ (∃ v,w.cell? ⟨b,o,none⟩ = some v) ∧ w.frozen? ⟨b,o,none⟩ = false
 nd:∀ s ∈ e.src,¬ g.db s
 nm:(mvB e.n.id = true ∧ ∀ s ∈ e.src,mvB s = true) ∨ (e.src = [e.n.id] ∧ (∃ u,g.dh e.n.id u ∧ e.n.hd = g.hd e.n.id u) ∧ ∃ u,g.dn e.n.id u ∧ e.n.nh = g.nh e.n.id u)
structure Fit' (σ:AS) (g g':Gh) (w:World) (bs:List (Nat×BSlot)) (L:List RE):Prop where
 st:Stays g.col w g'.col w
 bx:g'.bx = g.bx
 db:∀ id,(∃ s,(id,s) ∈ bs ∧ (match s with | .cells _=>True | .typ _=>True | _=>False))→g.db id→g'.db id ∧ ∀ b o,g.col b o = .bx id→g'.col b o = .bx id
 ms:∀ id v,(∃ s,(id,s) ∈ bs ∧ (match s with | .row _=>True | .msk _=>True | _=>False))→atTurn σ.box id v = true→g'.dh id 0 ∧ g'.hd id 0 = g.hd id v
 n:∀ e ∈ L,g'.dh e.n.id 0 ∧ g'.hd e.n.id 0 = e.n.hd ∧ g'.dn e.n.id 0 ∧ g'.nh e.n.id 0 = e.n.nh ∧ g'.ni e.n.id 0 = e.n.ni ∧ g'.R e.n.id = e.n.R ∧ ∀ b o,e.n.R b o ≠ none→g'.col b o = .bx e.n.id
theorem Fit'.left {g':Gh} {bs:List (Nat×BSlot)} {L1 L2:List RE} (h:Fit' σ g g' w bs (L1 ++ L2)):Fit' σ g g' w bs L1:={ h with n:=fun e he=>h.n e (List.mem_append_left _ he) }
theorem Fit'.right {g':Gh} {bs:List (Nat×BSlot)} {L1 L2:List RE} (h:Fit' σ g g' w bs (L1 ++ L2)):Fit' σ g g' w bs L2:={ h with n:=fun e he=>h.n e (List.mem_append_right _ he) }
theorem rfs_fit {g':Gh} (hst:Stays g.col w g'.col w):∀ {ts:List Ty} {ps:List PV} {x:TysT ts} {vs:List Value},unRfs ts ps = some x→Reps g w ps vs→Reps g' w (pkRfs ts x) vs
 | [],[],x,vs,_,hr=>by simp only [Reps] at hr; simp only [pkRfs,Reps]; exact hr
 | [],p::ps,x,vs,h,_=>by simp [unRfs] at h
 | t::r,[],x,vs,h,_=>by simp [unRfs] at h
 | t::r,p::ps,x,vs,h,hr=>by
   cases p <;> simp only [unRfs] at h <;> try cases h
   rename_i cs
   split at h
   · rename_i x1 h1
     split at h
     · rename_i x2 h2
       simp only [Option.some.injEq] at h; subst h
       simp only [Reps,Rep] at hr
       obtain ⟨u,us,rfl,⟨b,o,vs',rfl,h3,h4⟩,h5⟩:=hr
       simp only [pkRfs,Reps,Rep]
       exact ⟨_,us,rfl,⟨b,o,vs',rfl,reps_pk (RepT.mono hst _ _ _ (unA_rep h1 h3)),h4.mono hst⟩,rfs_fit hst h2 h5⟩
     · cases h
   · cases h
def slotL:(s:Slot)→s.T→List (Nat×BoxC)
 | .row t k,x=>[(k,.row t x none 0 0)]
 | _,_=>[]
def cellsL:(ss:List Slot)→CellsT ss→List (Nat×BoxC)
 | [],_=>[]
 | s::r,x=>slotL s x.1 ++ cellsL r x.2
def slotsL:(ss:List (Nat×Slot))→SlotsT ss→List (Nat×BoxC)
 | [],_=>[]
 | (_,s)::r,x=>slotL s x.1 ++ slotsL r x.2
def boxesL:(bs:List (Nat×BSlot))→BoxesT bs→List (Nat×BoxC)
 | [],_=>[]
 | (i,.cells ss)::r,x=>(i,.cells (pkCells ss x.1))::(cellsL ss x.1 ++ boxesL r x.2)
 | (i,.row t)::r,x=>(i,.row t x.1 none 0 0)::boxesL r x.2
 | (i,.msk t)::r,x=>(i,.row t x.1.1 (some x.1.2) 0 0)::boxesL r x.2
 | (i,.typ t)::r,x=>(i,.cells (pk t x.1))::boxesL r x.2
theorem row_box {g':Gh} {e:RE} {u:Ty} {y:L u.T} {own:Option (Nat→Bool)} (hg:GoodE g w e) (hn:g'.dh e.n.id 0 ∧ g'.hd e.n.id 0 = e.n.hd ∧ g'.dn e.n.id 0 ∧ g'.nh e.n.id 0 = e.n.nh ∧ g'.ni e.n.id 0 = e.n.ni ∧ g'.R e.n.id = e.n.R ∧ ∀ b o,e.n.R b o ≠ none→g'.col b o = .bx e.n.id)
 (hni:e.n.ni = y.len) (hr:RowR g'.col w e.n.R e.n.nh (ownB own) u y e.n.hd):BoxRep g' w e.n.id (.row u y own 0 0):=by
 obtain ⟨p1,p2,p3,p4,p5,p6,p7⟩:=hn
 refine ⟨p1,p3,p5.trans hni,by rw [p2,p4,p6]; exact hr,fun b o hR=>?_⟩
 rw [p6] at hR
 exact ⟨p7 b o hR,(hg.reg b o hR).2⟩
theorem slot_fit (hs:Sim N c0 w0 σ g a w) {s:Slot} {p:PV} {x:s.T} {v:Value} (h:unSlot σ.box s p = some x) (hr:Rep g w p v) (hcl:∀ t k,s = .row t k→mvB k = true) :
 ∃ L:List RE,L.map (·.n.id) = nameS s ∧ (L.flatMap (·.src)) = srcS s p ∧ (∀ e ∈ L,GoodE g w e) ∧ ∀ g' bs,Fit' σ g g' w bs L→boxS bs s = true→Rep g' w (pkSlot s x) v ∧ ∀ q ∈ slotL s x,BoxRep g' w q.1 q.2:=by
 cases s with
 | v t =>
   refine ⟨[],rfl,by cases p <;> rfl,by simp,fun g' bs hf _=>⟨?_,by simp [slotL]⟩⟩
   simp only [unSlot] at h
   obtain ⟨us,h1,rfl⟩:=unV_rep h hr
   exact rep_mk (RepT.mono hf.st _ _ _ h1)
 | rf t =>
   refine ⟨[],rfl,by cases p <;> rfl,by simp,fun g' bs hf _=>⟨?_,by simp [slotL]⟩⟩
   cases p <;> simp only [unSlot] at h <;> try cases h
   simp only [Rep] at hr
   obtain ⟨b,o,us,rfl,h2,h3⟩:=hr
   simp only [pkSlot,Rep]
   exact ⟨b,o,us,rfl,reps_pk (RepT.mono hf.st _ _ _ (unA_rep h h2)),h3.mono hf.st⟩
 | ms id =>
   refine ⟨[],rfl,by cases p <;> rfl,by simp,fun g' bs hf hb=>⟨?_,by simp [slotL]⟩⟩
   cases p <;> simp only [unSlot] at h <;> try cases h
   rename_i id' u
   split at h
   · rename_i hbq
     simp only [Bool.and_eq_true] at hbq
     obtain rfl:=Nat.eq_of_beq_eq_true hbq.1
     simp only [Rep] at hr
     simp only [pkSlot,Rep]
     simp only [boxS] at hb
     obtain ⟨q,hq,he⟩:=List.any_eq_true.mp hb
     simp only [Bool.and_eq_true] at he
     have e1:=Nat.eq_of_beq_eq_true he.1
     obtain ⟨k1,k2⟩:=hf.ms id u ⟨q.2,by rw [e1]; exact hq,by
      have:=he.2
      revert this
      cases q.2 <;> simp⟩ hbq.2
     exact ⟨k1,by rw [k2]; exact hr.2⟩
   · cases h
 | bx id off =>
   refine ⟨[],rfl,by cases p <;> rfl,by simp,fun g' bs hf hb=>⟨?_,by simp [slotL]⟩⟩
   cases p <;> simp only [unSlot] at h <;> try cases h
   split at h
   · rename_i id' off' hbq
     simp only [Bool.and_eq_true] at hbq
     obtain rfl:=Nat.eq_of_beq_eq_true hbq.1
     obtain rfl:=Nat.eq_of_beq_eq_true hbq.2
     simp only [Rep] at hr
     simp only [pkSlot,Rep]
     simp only [boxS] at hb
     obtain ⟨q,hq,he⟩:=List.any_eq_true.mp hb
     simp only [Bool.and_eq_true] at he
     have e1:=Nat.eq_of_beq_eq_true he.1
     exact ⟨(hf.db id ⟨q.2,by rw [e1]; exact hq,by
      have:=he.2
      revert this
      cases q.2 <;> simp⟩ hr.1).1,by rw [hf.bx]; exact hr.2⟩
   · cases h
 | clo f ts =>
   refine ⟨[],rfl,by cases p <;> rfl,by simp,fun g' bs hf hb=>⟨?_,by simp [slotL]⟩⟩
   cases p <;> simp only [unSlot] at h <;> try cases h
   split at h
   · rename_i f' cap hbq
     obtain rfl:=Nat.eq_of_beq_eq_true hbq
     simp only [Rep] at hr
     obtain ⟨vs,rfl,h2⟩:=hr
     simp only [pkSlot,Rep]
     exact ⟨vs,rfl,rfs_fit hf.st h h2⟩
   · cases h
 | row t k =>
   simp only [unSlot] at h
   obtain ⟨hd,rfl,⟨nh,R,h1,h2⟩,h3⟩:=slC_row (μ:=σ) (fun id c hc=>hs.box id c hc) h hr
   let e:RE:={ n:={ id:=k,hv:=0,nv:=0,hd:=hd,nh:=nh,ni:=x.len,R:=R },src:=rowIds [p] }
   have hg:GoodE g w e:=⟨⟨rfl,rfl⟩,h2,fun s hs'=>(by obtain ⟨_,t,x,own,hv,nv,q⟩:=h3 s hs'; exact row_ndb hs q rfl),.inl ⟨hcl t k rfl,fun s hs'=>(h3 s hs').1⟩⟩
   refine ⟨[e],rfl,by simp [e,srcS],fun e' he=>by rw [List.mem_singleton.mp he]; exact hg,fun g' bs hf _=>?_⟩
   have hn:=hf.n e (List.mem_singleton.mpr rfl)
   refine ⟨?_,fun q hq=>?_⟩
   · simp only [pkSlot,Rep]
     have e1:g'.hd k 0 = hd:=hn.2.1
     exact ⟨hn.1,by rw [e1]⟩
   · simp only [slotL,List.mem_singleton] at hq
     subst hq
     exact row_box hg hn rfl (RowR.recol h1)
theorem cells_fit (hs:Sim N c0 w0 σ g a w):∀ {ss:List Slot} {ps:List PV} {x:CellsT ss} {vs:List Value},unCells σ.box ss ps = some x→Reps g w ps vs→(∀ t k,Slot.row t k ∈ ss→mvB k = true) →
 ∃ L:List RE,L.map (·.n.id) = ss.flatMap nameS ∧ (L.flatMap (·.src)) = srcC ss ps ∧ (∀ e ∈ L,GoodE g w e) ∧ ∀ g' bs,Fit' σ g g' w bs L→ss.all (boxS bs) = true→Reps g' w (pkCells ss x) vs ∧ ∀ q ∈ cellsL ss x,BoxRep g' w q.1 q.2
 | [],[],x,vs,h,hr,_=>⟨[],rfl,rfl,by simp,fun g' bs _ _=>⟨by simp only [Reps] at hr; simp only [pkCells,Reps]; exact hr,by simp [cellsL]⟩⟩
 | [],p::ps,x,vs,h,hr,_=>by simp [unCells] at h
 | s::r,[],x,vs,h,hr,_=>by simp [unCells] at h
 | s::r,p::ps,x,vs,h,hr,hcl=>by
   simp only [unCells] at h
   split at h
   · rename_i x1 h1
     split at h
     · rename_i x2 h2
       simp only [Option.some.injEq] at h; subst h
       simp only [Reps] at hr
       obtain ⟨u,us,rfl,hr1,hr2⟩:=hr
       obtain ⟨L1,e1,e2,e3,e4⟩:=slot_fit hs h1 hr1 (fun t k e=>hcl t k (by rw [e]; simp))
       obtain ⟨L2,f1,f2,f3,f4⟩:=cells_fit hs h2 hr2 (fun t k e=>hcl t k (List.mem_cons_of_mem _ e))
       refine ⟨L1 ++ L2,by simp [e1,f1],by simp [e2,f2,srcC],fun e he=>(List.mem_append.mp he).elim (e3 e) (f3 e),fun g' bs hf hb=>?_⟩
       simp only [List.all_cons,Bool.and_eq_true] at hb
       obtain ⟨q1,q2⟩:=e4 g' bs hf.left hb.1
       obtain ⟨q3,q4⟩:=f4 g' bs hf.right hb.2
       simp only [pkCells,Reps]
       exact ⟨⟨u,us,rfl,q1,q3⟩,fun q hq=>by
        simp only [cellsL,List.mem_append] at hq
        exact hq.elim (q2 q) (q4 q)⟩
     · cases h
   · cases h
theorem slots_fit (hs:Sim N c0 w0 σ g a w):∀ {ss:List (Nat×Slot)} {x:SlotsT ss},unSlots σ.env σ.box ss = some x→(∀ i t k,(i,Slot.row t k) ∈ ss→mvB k = true) →
 ∃ L:List RE,L.map (·.n.id) = ss.flatMap (fun p=>nameS p.2) ∧ (L.flatMap (·.src)) = srcL σ.env ss ∧ (∀ e ∈ L,GoodE g w e) ∧ ∀ g' bs,Fit' σ g g' w bs L→(ss.all fun p=>boxS bs p.2) = true→(∀ i,Rep g' w (pkSlots ss x i) (a.tmps.getD i undef)) ∧ ∀ q ∈ slotsL ss x,BoxRep g' w q.1 q.2
 | [],x,h,_=>⟨[],rfl,rfl,by simp,fun g' bs _ _=>⟨fun i=>by simp only [pkSlots,Rep],by simp [slotsL]⟩⟩
 | (j,s)::r,x,h,hcl=>by
   simp only [unSlots] at h
   split at h
   · rename_i x1 h1
     split at h
     · rename_i x2 h2
       simp only [Option.some.injEq] at h; subst h
       obtain ⟨L1,e1,e2,e3,e4⟩:=slot_fit hs h1 (hs.env j) (fun t k e=>hcl j t k (by rw [e]; simp))
       obtain ⟨L2,f1,f2,f3,f4⟩:=slots_fit hs h2 (fun i t k e=>hcl i t k (List.mem_cons_of_mem _ e))
       refine ⟨L1 ++ L2,by simp [e1,f1],by simp [e2,f2,srcL],fun e he=>(List.mem_append.mp he).elim (e3 e) (f3 e),fun g' bs hf hb=>?_⟩
       simp only [List.all_cons,Bool.and_eq_true] at hb
       obtain ⟨q1,q2⟩:=e4 g' bs hf.left hb.1
       obtain ⟨q3,q4⟩:=f4 g' bs hf.right hb.2
       refine ⟨fun i=>?_,fun q hq=>by
        simp only [slotsL,List.mem_append] at hq
        exact hq.elim (q2 q) (q4 q)⟩
       simp only [pkSlots]
       cases hb:Nat.beq i j with
       | true=>rw [Nat.eq_of_beq_eq_true hb]; exact q1
       | false=>exact q3 i
     · cases h
   · cases h
end
end Go.VE
