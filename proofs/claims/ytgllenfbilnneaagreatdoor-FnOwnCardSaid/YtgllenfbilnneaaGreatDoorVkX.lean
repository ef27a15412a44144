import Derived.Test.YtgllenfbilnneaaGreatDoorVkU
/- Calls: what comes back. -/
namespace Go.VE
section
variable {P:Program} {N:Fr} {c0:Nat→Nat→Col} {w0:World} {σ:AS} {g:Gh} {a:Act} {w w':World} {box:Nat→Option aU} {fP:List Nat} {W:List Au} {col':Nat→Nat→Col}
theorem AB {t:Ty} {ps:List PV} {cs:List Value} (hl:cs.length = t.size) (h:ak g w ps cs):aF g w (yh t ps) (mkV t cs):=by
 cases t with
 | unit=>simp only [yh,mkV,aF]; exact ⟨cs,rfl,h⟩
 | pair a b=>simp only [yh,mkV,aF]; exact ⟨cs,rfl,h⟩
 | _ =>
   simp only [Ty.size] at hl
   match cs,hl with
   | [c],_ =>
     match ps,h with
     | [p],h=>simp only [ak] at h; obtain ⟨u,us,e,h2,_⟩:=h; cases e; exact h2
     | [],h=>simp only [ak] at h; cases h
     | _::_::_,h=>have:=h.length; simp at this
theorem JV {ps:List PV} {vs:List Value} (h:ak g w ps vs):aF g w (one ps) (yD vs):=by
 have hl:=h.length
 match ps,vs,h,hl with
 | [],[],h,_=>simp only [one,aF,yD]; exact ⟨[],rfl,by simp only [ak]⟩
 | [p],[v],h,_ =>
   simp only [ak] at h
   obtain ⟨u,us,e,h2,_⟩:=h
   cases e
   simpa [one,yD] using h2
 | p::q::r,u::v::s,h,_ =>
   simp only [one,aF]
   refine ⟨u::v::s,?_,h⟩
   unfold yD
   rw [dif_neg (by simp)]
theorem FT {g':Gh}:∀ {ts:List Ty} {y:dR ts} {vs:List Value} {j:Nat},(∀ t ∈ ts,∀ (x:t.T) us,bC col' w' t x us→bC g'.col w' t x us)→fO (fun t x cs _=>bC col' w' t x cs) ts y vs j→ak g' w' (zV ts y) vs
 | [],y,vs,j,_,h=>by simp only [fO] at h; simp only [zV,ak]; exact h
 | t::r,y,vs,j,hm,h=>by
   obtain ⟨u,us,rfl,⟨cs,h1,rfl⟩,h2⟩:=h
   simp only [zV,ak,Uq]
   exact ⟨_,us,rfl,Ij (hm t (by simp) _ _ h1),FT (fun t ht=>hm t (by simp [ht])) h2⟩
theorem CP {own:Bool}:∀ {ts:List Ty} {y:dR ts} {vs:List Value} {j0:Nat} {l:List (Nat×Nat×Nat)},fO (fun t x cs j=>jJ (fun j u y h=>mh own col' w' (bY + j) u y h) t x cs j) ts y vs j0→sV ts≤l.length →
 ∃ ns:List iZ,ns.map (·.id) = (yu (!own) ts y l).map (·.1) ∧ (yu (!own) ts y l).map (·.1) = (l.take (sV ts)).map (·.1) ∧
   (∀ n ∈ ns,∃ j,j0≤j ∧ j < j0 + sV ts ∧ l[j - j0]? = some (n.id,n.hv,n.nv) ∧ oZ col' w' (bY + j) n.R) ∧
   (∀ id c,(id,c) ∈ yu (!own) ts y l→∃ n ∈ ns,n.id = id ∧ ∃ (u:Ty) (z:L u.T),c = .row u z (bif !own then some fun _=>false else none) n.hv n.nv ∧ n.ni = z.len ∧ cB col' w' n.R n.nh (fun _=>own) u z n.hd) ∧
   ∀ g' w'',(∀ n ∈ ns,g'.dh n.id n.hv ∧ g'.hd n.id n.hv = n.hd)→ak g' w'' (Ic ts y l) vs
 | [],y,vs,j0,l,h,_=>by
   simp only [fO] at h
   subst h
   exact ⟨[],rfl,by simp [yu,sV],fun n hn=>(by cases hn),fun id c hm=>(by simp [yu] at hm),fun g' w'' _=>by simp only [Ic,ak]⟩
 | t::r,y,vs,j0,l,h,hl=>by
   obtain ⟨u,us,rfl,⟨cs,h1,rfl⟩,h2⟩:=h
   simp only [sV] at hl
   obtain ⟨n1,a1,a2,a3,a4⟩:=JO h1 (l:=l) (by omega)
   obtain ⟨n2,b1,b0,b2,b3,b4⟩:=CP h2 (l:=l.drop t.bJ) (by rw [List.length_drop]; omega)
   refine ⟨n1 ++ n2,by simp [yu,a1,b1],?_,fun n hn=>?_,fun id c hm=>?_,fun g' w'' hg=>?_⟩
   · simp only [yu,List.map_append,sV]
     rw [JN (by omega),b0,← List.map_append]
     congr 1
     rw [List.take_add]
   · rcases List.mem_append.mp hn with hn | hn
     · obtain ⟨j,k1,k2,k3⟩:=a2 n hn
       exact ⟨j,k1,by simp only [sV]; omega,k3⟩
     · obtain ⟨j,k1,k2,k3,k4⟩:=b2 n hn
       rw [List.getElem?_drop,show t.bJ + (j - (j0 + t.bJ)) = j - j0 by omega] at k3
       exact ⟨j,by omega,by simp only [sV]; omega,k3,k4⟩
   · rcases List.mem_append.mp hm with hm | hm
     · obtain ⟨n,hn,k⟩:=a3 id c hm
       exact ⟨n,List.mem_append_left _ hn,k⟩
     · obtain ⟨n,hn,k⟩:=b3 id c hm
       exact ⟨n,List.mem_append_right _ hn,k⟩
   · simp only [Ic,ak]
     exact ⟨_,us,rfl,AB h1.length (a4 g' w'' fun n hn=>hg n (List.mem_append_left _ hn)),b4 g' w'' fun n hn=>hg n (List.mem_append_right _ hn)⟩
theorem FU {l:List (Nat×Nat×Nat)} (hn:(l.map (·.1)).Nodup) {x y:Nat×Nat×Nat} (hx:x ∈ l) (hy:y ∈ l) (e:x.1 = y.1):x = y:=by
 obtain ⟨i1,hi1⟩:=List.getElem?_of_mem hx
 obtain ⟨i2,hi2⟩:=List.getElem?_of_mem hy
 have h1:(l.map (·.1))[i1]? = some x.1:=by rw [List.getElem?_map,hi1]; rfl
 have h2:(l.map (·.1))[i2]? = some x.1:=by rw [List.getElem?_map,hi2,e]; rfl
 have:=(List.getElem?_inj (List.getElem?_eq_some_iff.mp h1).1 hn).mp (h1.trans h2.symm)
 subst this
 rw [hi1] at hi2; exact Option.some.inj hi2
theorem VU (hs:bO N c0 w0 σ g a w) (hst:∀ b,b < w.heap.size→∀ o id,col' b o = .bx id→OutOk (dI g fP W) b o id) {ν:Nat→Nat} {rb:Nat} {own:Bool} {ts:List Ty} {y:dR ts} {vs:List Value} {l:List (Nat×Nat×Nat)}
 (h:fO (fun t x cs j=>jJ (fun j u y h=>mh own col' w' (bY + j) u y h) t x cs j) ts y vs 0) (hl:turns box ((List.range (sV ts)).map (rb + ·)) = some l) (fM:∀ m ∈ (yu (!own) ts y l).map (·.1),box m = σ.box m) (hlt:rb + 64 < bF) (h64:sV ts < 64)
 (Y8:∀ j,ν (bY + j) = rb + j) (hown:own = true ∨ fP = []) :
 ∃ F ns,AP g w w' (dI g fP W) col' ν (Dat fP col' w') (yu (!own) ts y l) F ns ∧ ∀ g' w'',(∀ n ∈ ns,g'.dh n.id n.hv ∧ g'.hd n.id n.hv = n.hd)→ak g' w'' (Ic ts y l) vs:=by
 obtain ⟨l1,l2⟩:=tJ hl
 have hll:l.length = sV ts:=by
  have:=congrArg List.length l1
  simpa using this
 obtain ⟨ns,k1,k0,k2,k3,k4⟩:=CP h (l:=l) (by omega)
 have FR:(yu (!own) ts y l).map (·.1) = l.map (·.1):=by rw [k0,← hll,List.take_length]
 have hnl:(l.map (·.1)).Nodup:=by
  rw [l1]
  exact List.pairwise_map.mpr (List.Pairwise.imp (fun h e=>h (by omega)) List.nodup_range)
 have hmem:∀ m ∈ l,m.1 < bF ∧ sJ σ.box m.1 = some (m.2.1,m.2.2):=fun m hm=>by
  have hm1:m.1 ∈ l.map (·.1):=List.mem_map.mpr ⟨m,hm,rfl⟩
  refine ⟨?_,?_⟩
  · rw [l1] at hm1
    obtain ⟨k,hk,e⟩:=List.mem_map.mp hm1
    have:=List.mem_range.mp hk
    omega
  · have:=l2 m hm
    unfold sJ at this ⊢
    rw [← fM m.1 (by rw [FR]; exact hm1)]
    exact this
 have Az:∀ n ∈ ns,(n.id,n.hv,n.nv) ∈ l:=fun n hn=>by
  obtain ⟨j,_,_,q,_⟩:=k2 n hn
  exact List.mem_of_getElem? q
 refine ⟨l.map (·.1),ns,⟨by rw [k1]; exact List.Sublist.refl _,fun n hn=>List.mem_map.mpr ⟨_,Az n hn,rfl⟩,fun m hm=>?_,fun n hn=>?_,fun n hn b o hR=>?_,fun m c hm=>?_,fun g' hg hdt m c hm=>?_⟩,k4⟩
 · obtain ⟨m',hm',rfl⟩:=List.mem_map.mp hm
   obtain ⟨q1,q2⟩:=hmem m' hm'
   refine ⟨by rw [FR]; exact hm,?_,(gY hs q2).1⟩
   rintro (q | ⟨q,_⟩)
   · unfold dV bF at *; omega
   · omega
 · obtain ⟨_,q2,q3⟩:=gY hs (hmem _ (Az n hn)).2
   exact ⟨fun u hu=>.inl (q2 u hu),fun u hu=>.inl (q3 u hu)⟩
 · obtain ⟨j,_,hj,hlj,hp⟩:=k2 n hn
   obtain ⟨q1,q2,q3⟩:=hp b o hR
   refine ⟨q2,q3,.inl ⟨_,q1,?_,?_⟩⟩
   · rw [Y8]
     have h1:(l.map (·.1))[j]? = some n.id:=by rw [List.getElem?_map,show j = j - 0 by omega,hlj]; rfl
     rw [l1,List.getElem?_map,List.getElem?_range (by omega)] at h1
     simpa using h1
   · rcases Nat.lt_or_ge b w.heap.size with hbl | hbl
     · exact .inr ((hst b hbl o _ q1).2 fun q=>by have:=q.1; omega)
     · exact .inl hbl
 · right
   obtain ⟨n,hn,rfl,u,z,rfl,_⟩:=k3 m c hm
   obtain ⟨q1,q2,q3⟩:=gY hs (hmem _ (Az n hn)).2
   refine ⟨q1,rfl,fun u hu=>Nat.le_of_lt (q2 u hu),fun u hu=>Nat.le_of_lt (q3 u hu),fun n' hn' e=>?_⟩
   have e2:=FU hnl (Az n' hn') (Az n hn) e
   simp only [Prod.mk.injEq] at e2
   exact ⟨by rw [e2.2.1]; exact Nat.le_refl _,by rw [e2.2.2]; exact Nat.le_refl _⟩
 · obtain ⟨n,hn,rfl,u,z,rfl,hni,hrow⟩:=k3 m c hm
   obtain ⟨p1,p2,p3,p4,p5,p6,p7⟩:=hg.n n hn
   refine ⟨p1,p3,p5.trans hni,?_,fun b o hR=>?_⟩
   · rw [p2,p4,p6]
     cases own with
     | true=>exact cB.lM hrow
     | false =>
       exact cB.mono (hdt (hown.resolve_left (by simp))) (fun b o v _ hv hf=>⟨rfl,hv,hf⟩) hrow
   · rw [p6] at hR
     obtain ⟨j,_,_,_,hp⟩:=k2 n hn
     exact ⟨p7 b o hR,(hp b o hR).2⟩
def CQ (g:Gh) (b lo hi d:Nat):Gh :=
 { g with col:=fun b' o=>if b' = b ∧ lo≤o ∧ o < hi then .bx d else g.col b' o,bx:=upd g.bx d (b,lo),db:=fun i=>i = d ∨ g.db i }
theorem bO.VW (h:bO N c0 w0 σ g a w) {dst:Option Nat} {d b o:Nat} {us:List Value} {cs:List PV} (hd:dZ N dst = true) (hpb:d < bF) (hn:σ.box d = none) (hfree:∀ j,j < us.length→g.col b (o + j) = .free)
 (hcell:∀ (j:Nat) (u:Value),us[j]? = some u→w.cell? ⟨b,o + j,none⟩ = some u ∧ w.frozen? ⟨b,o + j,none⟩ = false) (hb:w0.heap.size≤b) (hr:ak g w cs us) :
 bO N c0 w0 (σ.app dst { v:=.bx d 0,bx:=[(d,.cells cs)] }) (CQ g b o (o + us.length) d) (a.put dst (.pointer (some ⟨b,o,none⟩))) w:=by
 have hin:∀ b' o',b' = b ∧ o≤o' ∧ o' < o + us.length→g.col b' o' = .free:=by
  rintro b' o' ⟨rfl,h1,h2⟩
  have:=hfree (o' - o) (by omega)
  rwa [show o + (o' - o) = o' by omega] at this
 have gG:∀ b' o',g.col b' o' ≠ .free→(CQ g b o (o + us.length) d).col b' o' = g.col b' o':=fun b' o' hne=>by
  show (if _ then _ else _) = _
  rw [if_neg (fun q=>hne (hin b' o' q))]
 have hnd:∀ id,g.db id→id ≠ d:=by
  rintro id hid rfl
  obtain ⟨c,hc,_⟩:=h.db _ hid
  rw [hn] at hc; cases hc
 have hne:∀ id c',σ.box id = some c'→id ≠ d:=fun id c' e=>by rintro rfl; rw [hn] at e; cases e
 have hs:bV g w (CQ g b o (o + us.length) d) w :=
  { st:=fun b' o' v h1 h2=>⟨by rw [gG _ _ (by rw [h1]; simp)]; exact h1,h2⟩
    db:=fun id hid=>⟨.inr hid,by show Go.VE.upd _ _ _ _ = _; rw [cK,if_neg (hnd id hid)]⟩
    dh:=fun _ _ h=>⟨h,rfl⟩
    dn:=fun _ _ h=>⟨h,rfl,rfl⟩ }
 have ebx:(CQ g b o (o + us.length) d).bx d = (b,o):=by show Go.VE.upd _ _ _ _ = _; rw [cK,if_pos rfl]
 have hbx:∀ id,(σ.app dst { v:=.bx d 0,bx:=[(d,.cells cs)] }).box id = if id = d then some (.cells cs) else σ.box id:=fun id=>cK _ _ _ _
 have Ip:bO N c0 w0 { σ with box:=(σ.app dst { v:=.bx d 0,bx:=[(d,.cells cs)] }).box } (CQ g b o (o + us.length) d) a w :=
  { size:=h.size
    env:=fun i=>aF.mono hs _ _ (h.env i)
    defers:=h.defers
    box:=fun id c hc=>by
     change (σ.app dst { v:=.bx d 0,bx:=[(d,.cells cs)] }).box id = some c at hc
     rw [hbx] at hc
     split at hc
     · rename_i e; subst e
       cases hc
       refine ⟨.inl rfl,us,ak.mono hs _ _ hr,fun j u hj=>?_⟩
       rw [ebx]
       refine ⟨?_,hcell j u hj⟩
       show (if _ then _ else _) = _
       have hjl:=(List.getElem?_eq_some_iff.mp hj).1
       rw [if_pos ⟨rfl,by omega,by omega⟩]
     · exact (h.box id c hc).stay hs rfl (fun bb o' u a1 a2 a3=>⟨(gG _ _ (by rw [a1]; simp)).trans a1,a2,a3⟩) (fun ob c1 c2 c3=>⟨c2,fun o'=>(gG _ _ (by rw [c1]; simp)).trans (c1 o')⟩)
    db:=fun id hid=>by
     show ∃ c',(σ.app dst { v:=.bx d 0,bx:=[(d,.cells cs)] }).box id = some c' ∧ _
     rw [hbx]
     split
     · exact ⟨_,rfl,rfl⟩
     · rename_i q
       exact h.db id (hid.resolve_left q)
    dh:=fun id u hu=>by
     show ∃ c',(σ.app dst { v:=.bx d 0,bx:=[(d,.cells cs)] }).box id = some c' ∧ _
     obtain ⟨c',e1,e2⟩:=h.dh id u hu
     rw [hbx,if_neg (hne _ _ e1)]
     exact ⟨c',e1,e2⟩
    dn:=fun id u hu=>by
     show ∃ c',(σ.app dst { v:=.bx d 0,bx:=[(d,.cells cs)] }).box id = some c' ∧ _
     obtain ⟨c',e1,e2⟩:=h.dn id u hu
     rw [hbx,if_neg (hne _ _ e1)]
     exact ⟨c',e1,e2⟩
    pts:=fun id hid hdom=>by
     have hq:g.db id:=hdom.resolve_left (by omega)
     rw [(hs.db id hq).2]
     exact h.pts id hid hq
    fix:=h.fix
    keep:=h.keep
    old:=fun b' hb' o'=>by
     have hne:¬ (b' = b ∧ o≤o' ∧ o' < o + us.length):=by omega
     have:(CQ g b o (o + us.length) d).col b' o' = g.col b' o':=if_neg hne
     rw [this]
     exact h.old b' hb' o' }
 have:=Ip.put hd (p:=.bx d 0) (v:=.pointer (some ⟨b,o,none⟩)) (by simp only [aF]; exact ⟨.inl rfl,by rw [ebx,Nat.add_zero]⟩)
 cases dst with
 | none=>exact this
 | some dd=>exact this
theorem CR:∀ {is:List In} {ps:List PV} {pos:Nat},is.all fu = true→pos + is.length < 1000→∀ e ∈ dO g box is ps pos,(bF≤e.2.2 ∧ e.2.2 < bY) ∧ (mg is = true→¬ given e.2.2)
 | [],ps,pos,_,_,e,he=>by cases ps <;> simp [dO] at he
 | i::r,[],pos,_,_,e,he=>by simp [dO] at he
 | i::r,p::ps,pos,hf,hl,e,he=>by
   simp only [List.all_cons,Bool.and_eq_true] at hf
   simp only [List.length_cons] at hl
   simp only [dO,List.mem_append] at he
   have hno:mg (i::r) = true→mg r = true:=fun q=>by
    cases i <;> simp only [mg,Bool.and_eq_true] at q
    all_goals first | exact q.2 | exact q | cases q
   have hfn:∀ {t:Ty},t.flat = true→t.bJ = 0:=fun {t}=>by
    induction t with
    | pair a b iha ihb=>intro q; simp only [Ty.flat,Bool.and_eq_true] at q; simp only [Ty.bJ]; rw [iha q.1,ihb q.2]
    | sl u ih=>intro q; simp [Ty.flat] at q
    | _=>intro _; rfl
   rcases he with he | he
   · cases i with
     | pd t =>
       cases p <;> simp only [bg,xG,List.not_mem_nil] at he
       rw [List.mem_singleton] at he
       subst he
       exact ⟨by unfold pN bF bY; simp only; omega,fun _=>gZ⟩
     | pt t =>
       have hn:t.bJ < 60:=by have:=hf.1; simp only [fu,Bool.and_eq_true,Nat.blt_eq] at this; exact this.2
       have h0:mg (.pt t::r) = true→t.bJ = 0:=fun q=>by simp only [mg,Bool.and_eq_true] at q; exact hfn q.1
       cases p <;> simp only [bg,List.not_mem_nil] at he
       · rcases List.mem_cons.mp he with rfl | he
         · exact ⟨by unfold pN bF bY; simp only; omega,fun _=>gZ⟩
         · obtain ⟨j,hj,he⟩:=dW.mp he
           rw [(fT he).2]; exact ⟨by unfold pN bF bY; omega,fun q=>by have:=h0 q; omega⟩
       · rcases List.mem_cons.mp he with rfl | he
         · exact ⟨by unfold pN bF bY; simp only; omega,fun _=>gZ⟩
         · obtain ⟨j,hj,rfl⟩:=List.mem_map.mp he
           have:=List.mem_range.mp hj
           exact ⟨by unfold pN bF bY; simp only; omega,fun q=>by have:=h0 q; omega⟩
     | ow t =>
       have hn:t.bJ < 60:=by have:=hf.1; simp only [fu,Bool.and_eq_true,Nat.blt_eq] at this; exact this.2
       simp only [bg] at he
       obtain ⟨j,hj,he⟩:=fQ.mp he
       rw [(iT he).2]; exact ⟨by unfold wN dV bF bY; omega,fun _=>uP⟩
     | mv t =>
       have hn:t.bJ < 60:=by have:=hf.1; simp only [fu,Bool.and_eq_true,Nat.blt_eq] at this; exact this.2
       simp only [bg] at he
       obtain ⟨j,hj,he⟩:=dW.mp he
       rw [(fT he).2]; exact ⟨by unfold pN bF bY; omega,fun q=>by simp [mg] at q⟩
     | _=>simp [bg] at he
   · obtain ⟨q1,q2⟩:=CR hf.2 (by omega) e he
     exact ⟨q1,fun q=>q2 (hno q)⟩
theorem CS {α:Type}:∀ (l:List (Nat×α)) (f:Nat→α) (d:Nat) (v:α),d ∉ l.map (·.1)→oG (Go.VE.upd f d v) l = Go.VE.upd (oG f l) d v
 | [],f,d,v,_=>rfl
 | (i,u)::r,f,d,v,h=>by
   simp only [List.map_cons,List.mem_cons,not_or] at h
   simp only [oG]
   have:Go.VE.upd (Go.VE.upd f d v) i u = Go.VE.upd (Go.VE.upd f i u) d v:=by
    funext j
    rw [cK,cK,cK,cK]
    by_cases h1:j = i
    · rw [if_pos h1,if_neg (by rw [h1]; exact Ne.symm h.1),if_pos h1]
    · rw [if_neg h1,if_neg h1]
   rw [this]
   exact CS r _ d v h.2
theorem sum_lt:∀ {l:List Nat} {m:Nat},m ∈ l→m < l.sum + 1
 | a::r,m,h=>by
   rw [List.sum_cons]
   rcases List.mem_cons.mp h with rfl | h
   · omega
   · have:=sum_lt h; omega
theorem bO.Od {μ:AS} (hs:bO N c0 w0 σ g a w) {bs:List (Nat×aU)} (ho:∀ m ∈ bs.map (·.1),μ.box m = σ.box m) (pR:bK g w μ.box) {c:sK} (hfit:Fit c) {ps:List PV} {vs:List Value} (hr:ak g w ps vs) {x:jK c.ins} (hx:lJ μ.box c.ins ps = some x) (hn:(oH μ.box c.ins ps).Nodup) (hdj:zW (oH μ.box c.ins ps) (fZ μ.box c.ins ps) = true)
 {y:dR c.out×lI c.ins} (hwb:wb μ.box c.ins ps y.2 = some bs) (hnb:(bs.map (·.1)).Nodup) {col':Nat→Nat→Col}
 (hk:Keep (dI g (fZ μ.box c.ins ps) (dO g μ.box c.ins ps 0)) w w') (hst:∀ b,b < w.heap.size→∀ o,(col' b o = .st ↔ dI g (fZ μ.box c.ins ps) (dO g μ.box c.ins ps 0) b o = .st) ∧ ∀ id,col' b o = .bx id→OutOk (dI g (fZ μ.box c.ins ps) (dO g μ.box c.ins ps 0)) b o id)
 (hpt:nA (M0 g μ.box c.ins ps) col' w' c.ins y.2 0 vs) (rb:Nat) {dat:Gh→Prop} (hdat:∀ t,In.pd t ∈ c.ins→∀ g':Gh,dat g'→∀ (x:t.T) us,bC col' w' t x us→bC g'.col w' t x us) :
 ∃ ns,AP g w w' (dI g (fZ μ.box c.ins ps) (dO g μ.box c.ins ps 0)) col' (JR μ.box c.ins ps rb) dat bs (CK μ.box c.ins ps) ns ∧ (∀ e ∈ dO g μ.box c.ins ps 0,e.1 ∈ bs.map (·.1)) ∧ ∀ e ∈ dO g μ.box c.ins ps 0,given e.2.2→e.1 ∈ CK μ.box c.ins ps :=
 JU hs pR (Ei pR hx hr hn) hk (fun b hb o id h=>(hst b hb o).2 id h) hdat hfit.2 (fun k=>by rw [Nat.zero_add]) (fun k=>by rw [Nat.zero_add]) hfit.1 hx hr hwb ho hpt (fun e he _=>he) (fun e he=>⟨he,JL hdj _ (rz pR hx hr e he)⟩) hn hnb
theorem FV {own:Bool} {c:sK} (h0:c.fr ≠ 0) (ho:Nat.beq c.fr 1 = own):∀ {ts:List Ty} {y:dR ts} {vs:List Value} {j:Nat},fO (fun t x cs j=>if c.fr = 0 then bC col' w' t x cs else jJ (fun j u y h=>mh (Nat.beq c.fr 1) col' w' (bY + j) u y h) t x cs j) ts y vs j→fO (fun t x cs j=>jJ (fun j u y h=>mh own col' w' (bY + j) u y h) t x cs j) ts y vs j
 | [],_,_,_,h=>h
 | t::r,_,_,_,h=>by
   obtain ⟨u,us,e,⟨cs,h1,e2⟩,h2⟩:=h
   rw [if_neg h0,ho] at h1
   exact ⟨u,us,e,⟨cs,h1,e2⟩,FV h0 ho h2⟩
theorem CU {c:sK} (h0:c.fr = 0):∀ {ts:List Ty} {y:dR ts} {vs:List Value} {j:Nat},fO (fun t x cs j=>if c.fr = 0 then bC col' w' t x cs else jJ (fun j u y h=>mh (Nat.beq c.fr 1) col' w' (bY + j) u y h) t x cs j) ts y vs j→fO (fun t x cs _=>bC col' w' t x cs) ts y vs j
 | [],_,_,_,h=>h
 | t::r,_,_,_,h=>by
   obtain ⟨u,us,e,⟨cs,h1,e2⟩,h2⟩:=h
   rw [if_pos h0] at h1
   exact ⟨u,us,e,⟨cs,h1,e2⟩,CU h0 h2⟩
theorem RU {d:Nat} {v':PV} {b':List (Nat×aU)}:∀ {ts:List Ty} {y:dR ts} {v:Value},IL col' w w' ts y v→Ig d ts y = some (v',b') →
 ∃ (t:Ty) (z:t.T) (b o:Nat) (us:List Value),t ∈ ts ∧ v' = .bx d 0 ∧ b' = [(d,.cells (pk t z))] ∧ v = .pointer (some ⟨b,o,none⟩) ∧ w.heap.size≤b ∧ bC col' w' t z us ∧
   ∀ (j:Nat) (u:Value),us[j]? = some u→col' b (o + j) = .bx bY ∧ w'.cell? ⟨b,o + j,none⟩ = some u ∧ w'.frozen? ⟨b,o + j,none⟩ = false
 | [],_,_,h,_=>h.elim
 | [t],y,v,h,hp=>by
   simp only [Ig,Option.some.injEq,Prod.mk.injEq] at hp
   obtain ⟨rfl,rfl⟩:=hp
   obtain ⟨b,o,us,h1,h2,h3,h4⟩:=h
   exact ⟨t,y.1,b,o,us,by simp,rfl,rfl,h1,h2,h3,h4⟩
 | _::_::_,_,_,h,_=>h.elim
theorem bO.call {μ:AS} (hs:bO N c0 w0 σ g a w) {d:Dl} (ho:Ak μ σ (d.bx.map (·.1))) {c:sK} (hfit:Fit c) {ps:List PV} {vs:List Value} (hr:ak g w ps vs) {x:jK c.ins} (hx:lJ μ.box c.ins ps = some x) (hn:nodupB (oH μ.box c.ins ps) = true) (hdj:zW (oH μ.box c.ins ps) (fZ μ.box c.ins ps) = true)
 (hfl:((fZ μ.box c.ins ps).isEmpty || (c.ins.all Ih&&(Nat.beq c.fr 0&&c.out.all Ty.flat || Nat.beq c.fr 1))) = true) {y:dR c.out×lI c.ins} {bs:List (Nat×aU)} (hwb:wb μ.box c.ins ps y.2 = some bs) {dst:Option Nat} (hd:dZ N dst = true) (hres:Nk μ.box c dst y.1 bs = some d) (hnb:nodupB (d.bx.map (·.1)) = true)
 {e:Ending} (hbh:Behind c (M0 g μ.box c.ins ps) (dI g (fZ μ.box c.ins ps) (dO g μ.box c.ins ps 0)) w vs.toArray y e w'):∃ v,e = .returned v ∧ ∃ g',bO N c0 w0 (σ.app dst d) g' (a.put dst v) w':=by
 have pR:=ho.ok hs
 have hn:=gT hn
 have hnb:=gT hnb
 obtain ⟨v,col',rfl,hk,hst,hout,hpt⟩:=hbh
 have hpt:nA (M0 g μ.box c.ins ps) col' w' c.ins y.2 0 vs:=by simpa using hpt
 refine ⟨v,rfl,?_⟩
 have hrf:∀ {t:Ty},(fZ μ.box c.ins ps = [] ∨ t.flat = true)→∀ {g':Gh},Dat (fZ μ.box c.ins ps) col' w' g'→∀ (z:t.T) us,bC col' w' t z us→bC g'.col w' t z us:=fun {t} ht {g'} hdt z us h=>by
  rcases ht with ht | ht
  · exact bC.mono (hdt ht) _ _ _ h
  · exact bC.flat ht h
 have hpd:∀ t,In.pd t ∈ c.ins→∀ g':Gh,Dat (fZ μ.box c.ins ps) col' w' g'→∀ (x:t.T) us,bC col' w' t x us→bC g'.col w' t x us:=fun t ht g' hg z us q=>by
  refine hrf ?_ hg z us q
  simp only [Bool.or_eq_true,Bool.and_eq_true,List.isEmpty_iff,List.all_eq_true] at hfl
  rcases hfl with q | ⟨q,_⟩
  · exact .inl q
  · exact .inr (q _ ht)
 have Zf:c.fr = 0→∀ t ∈ c.out,fZ μ.box c.ins ps = [] ∨ t.flat = true:=fun h0 t ht=>by
  simp only [Bool.or_eq_true,Bool.and_eq_true,List.isEmpty_iff,List.all_eq_true] at hfl
  rcases hfl with q | ⟨_,q | q⟩
  · exact .inl q
  · exact .inr (q.2 t ht)
  · rw [h0] at q; cases q
 unfold Nk at hres
 cases hpq:c.ptr with
 | true =>
   rw [hpq] at hres
   simp only [cond_true] at hres
   cases hdst:dst with
   | none=>rw [hdst] at hres; cases hres
   | some dd =>
     rw [hdst] at hres
     simp only at hres
     split at hres
     · cases hres
     · rename_i hcc
       simp only [Bool.or_eq_true,Bool.not_eq_true',not_or,Bool.not_eq_false] at hcc
       have hfr:c.fr = 0:=Nat.eq_of_beq_eq_true hcc.1
       split at hres
       · rename_i v' b' hbn hpr
         simp only [Option.some.injEq] at hres
         subst hres
         simp only [uL,hpq,if_true] at hout
         obtain ⟨t,z,b,o,us,ht,rfl,rfl,rfl,hb,hrep,hcells⟩:=RU hout hpr
         simp only [List.map_cons,List.cons_append,List.nil_append] at hnb ho
         obtain ⟨hdn,hnb'⟩:=List.nodup_cons.mp hnb
         obtain ⟨ns,k1,k2,k3⟩:=bO.Od (dat:=Dat (fZ μ.box c.ins ps) col' w') hs (fun m hm=>ho.new m (List.mem_cons_of_mem _ hm)) pR hfit hr hx hn hdj hwb hnb' hk hst hpt ((bs.map (·.1)).sum + 1) hpd
         obtain ⟨g',s1,s2,s3⟩:=bO.Ej hs hk hst k1 hnb' k2 k3 (dst:=none) rfl (p:=.any) (v:=undef) (fun _ _ _=>by simp only [aF])
         have hbx:(σ.app none { v:=.any,bx:=bs }).box dd = none:=by
          show oG σ.box _ dd = none
          rw [fK _ _ _ (by simpa [List.map_map] using hdn),← ho.new dd (by simp)]
          exact hbn
         rw [hdst] at hd
         have:=s1.VW (dst:=some dd) (d:=dd) (b:=b) (o:=o) (us:=us) (cs:=pk t z) hd (jk hd) hbx (fun j hj=>s3 b (o + j) hb (by rw [(hcells j _ (List.getElem?_eq_getElem hj)).1]; simp) fun n hn'=>by
          cases hR:n.R b (o + j) with
          | none=>rfl
          | some l =>
            exfalso
            rcases (k1.reg n hn' b (o + j) (by rw [hR]; simp)).2.2 with ⟨s,q1,q2,_⟩ | ⟨q1,_⟩
            · rw [(hcells j _ (List.getElem?_eq_getElem hj)).1] at q1
              cases q1
              have h4:=sum_lt (k1.gv _ (k1.nF n hn')).1
              have h5:JR μ.box c.ins ps ((bs.map (·.1)).sum + 1) bY = (bs.map (·.1)).sum + 1:=by
               unfold JR; rw [if_pos (Nat.le_refl _)]; omega
              omega
            · omega) (fun j u hj=>(hcells j u hj).2) (Nat.le_trans hs.keep.size hb) (gK (hrf (Zf hfr t ht) s2 _ _ hrep))
         have e3:(σ.app none { v:=.any,bx:=bs }).app (some dd) { v:=.bx dd 0,bx:=[(dd,.cells (pk t z))] } = σ.app (some dd) { v:=.bx dd 0,bx:=[(dd,.cells (pk t z))] ++ bs }:=by
          show ({ env:=_,box:=_ }:AS) = { env:=_,box:=_ }
          congr 1
          simp only [AS.app,List.map_cons,List.map_nil,List.cons_append,List.nil_append,oG]
          rw [CS _ _ _ _ (by simpa [List.map_map] using hdn)]
         rw [e3] at this
         exact ⟨_,this⟩
       · cases hres
 | false =>
   rw [hpq] at hres
   simp only [cond_false] at hres
   simp only [uL,hpq,Bool.false_eq_true,if_false] at hout
   obtain ⟨os,hos,rfl⟩:=hout
   cases hf0:Nat.beq c.fr 0 with
   | true =>
     rw [hf0] at hres
     simp only [cond_true,Option.some.injEq] at hres
     subst hres
     have hfr:c.fr = 0:=Nat.eq_of_beq_eq_true hf0
     obtain ⟨ns,k1,k2,k3⟩:=bO.Od (dat:=Dat (fZ μ.box c.ins ps) col' w') hs ho.new pR hfit hr hx hn hdj hwb hnb hk hst hpt 0 hpd
     obtain ⟨g',s1,_⟩:=bO.Ej hs hk hst k1 hnb k2 k3 hd (p:=Ur c.out y.1) (v:=yD os) (fun g' _ hdt=>JV (FT (fun t ht=>hrf (Zf hfr t ht) hdt) (CU hfr hos)))
     exact ⟨g',s1⟩
   | false =>
     rw [hf0] at hres
     simp only [cond_false] at hres
     have hfr:c.fr ≠ 0:=fun q=>by rw [q] at hf0; cases hf0
     cases hdst:dst with
     | none=>rw [hdst] at hres; cases hres
     | some dd =>
       rw [hdst] at hres
       simp only at hres
       split at hres
       · rename_i l hl
         split at hres
         · rename_i hcc
           simp only [Option.some.injEq] at hres
           subst hres
           simp only [Bool.and_eq_true,Nat.blt_eq] at hcc
           obtain ⟨_,hc1,hc2,_⟩:=hcc
           have Zg:=hnb
           rw [List.map_append,List.nodup_append] at hnb
           obtain ⟨ns,k1,k2,k3⟩:=bO.Od (dat:=Dat (fZ μ.box c.ins ps) col' w') hs (fun m hm=>ho.new m (by rw [List.map_append]; exact List.mem_append_left _ hm)) pR hfit hr hx hn hdj hwb hnb.1 hk hst hpt (Cm dd) hpd
           obtain ⟨F2,ns2,l1,l2⟩:=VU (ν:=JR μ.box c.ins ps (Cm dd)) (rb:=Cm dd) (own:=Nat.beq c.fr 1) hs (fun b hb o id h=>(hst b hb o).2 id h) (FV hfr rfl hos) hl (fun m hm=>ho.new m (by rw [List.map_append]; exact List.mem_append_right _ hm)) hc1 hc2 (fun j=>by unfold JR; rw [if_pos (by omega)]; omega) (by
            simp only [Bool.or_eq_true,Bool.and_eq_true,List.isEmpty_iff] at hfl
            rcases hfl with q | ⟨_,q | q⟩
            · exact .inr q
            · rw [hf0] at q; cases q.1
            · exact .inl q)
           have hap:=k1.append l1 Zg
           obtain ⟨g',s1,_⟩:=bO.Ej hs hk hst hap Zg (fun e he=>by rw [List.map_append]; exact List.mem_append_left _ (k2 e he)) (fun e he hg=>List.mem_append_left _ (k3 e he hg)) (by rw [hdst] at hd; exact hd) (p:=one (Ic c.out y.1 l)) (v:=yD os)
            (fun g' hg _=>JV (l2 g' w' fun n hn=>⟨(hg.n n (List.mem_append_right _ hn)).1,(hg.n n (List.mem_append_right _ hn)).2.1⟩))
           exact ⟨g',s1⟩
         · cases hres
       · cases hres
end
end Go.VE
