import Derived.Test.YtgllenfbilnneaaGreatDoorVk2
/- Functions: what a call begins with. -/
namespace Go.VE
def agm (n0:Nat→Nat→Nat→bT) (col:Nat→Nat→Col) (w:World) (id:Nat) (u:Ty) (y:L u.T) (h:bT):Prop:=∃ nh R,cB col w R nh (fun _=>true) u y h ∧ oZ col w id R ∧ (dV≤id→nh = n0 id)
section
variable {P:Program} {n0:Nat→Nat→Nat→bT} {col:Nat→Nat→Col} {w:World}
theorem AU {base:Nat}:∀ {t:Ty} {x:t.T} {us:List Value} {j0:Nat},jJ (fun j u y h=>agm n0 col w (base + j) u y h) t x us j0 →
 ∃ ns:List iZ,ns.map (·.id) = (jL base t x j0).map (·.1) ∧ (∀ e ∈ jL base t x j0,base + j0≤e.1 ∧ e.1 < base + j0 + t.bJ) ∧ ((jL base t x j0).map (·.1)).Nodup ∧
   (∀ n ∈ ns,n.hv = 0 ∧ n.nv = 0 ∧ oZ col w n.id n.R ∧ (dV≤n.id→n.nh = n0 n.id)) ∧
   (∀ id c,(id,c) ∈ jL base t x j0→c.mG = false ∧ ∃ n ∈ ns,n.id = id ∧ ∃ (u:Ty) (z:L u.T),c = .row u z none 0 0 ∧ n.ni = z.len ∧ cB col w n.R n.nh (fun _=>true) u z n.hd) ∧
   jJ (fun j _ _ h=>∃ n ∈ ns,n.id = base + j ∧ h = n.hd) t x us j0 ∧
   ∀ g' w',(∀ n ∈ ns,g'.dh n.id 0 ∧ g'.hd n.id 0 = n.hd)→ak g' w' (zT base t x j0) us:=by
 intro t
 induction t with
 | int k=>rintro x us j0 rfl; exact ⟨[],rfl,by simp [jL],by simp [jL],by simp,by simp [jL],rfl,fun g' w' _=>by simp only [zT,ak,aF]; exact ⟨_,_,rfl,rfl,rfl⟩⟩
 | bool=>rintro x us j0 rfl; exact ⟨[],rfl,by simp [jL],by simp [jL],by simp,by simp [jL],rfl,fun g' w' _=>by simp only [zT,ak,aF]; exact ⟨_,_,rfl,rfl,rfl⟩⟩
 | str=>rintro x us j0 rfl; exact ⟨[],rfl,by simp [jL],by simp [jL],by simp,by simp [jL],rfl,fun g' w' _=>by simp only [zT,ak,aF]; exact ⟨_,_,rfl,rfl,rfl⟩⟩
 | unit=>rintro x us j0 rfl; exact ⟨[],rfl,by simp [jL],by simp [jL],by simp,by simp [jL],rfl,fun g' w' _=>by simp only [zT,ak]⟩
 | pair p q Iw Iy =>
   rintro x us j0 ⟨v1,v2,rfl,h1,h2⟩
   obtain ⟨n1,a1,a2,a3,a4,a5,a6,a7⟩:=Iw h1
   obtain ⟨n2,b1,b2,b3,b4,b5,b6,b7⟩:=Iy h2
   refine ⟨n1 ++ n2,by simp [jL,a1,b1],fun e he=>?_,?_,fun n hn=>(List.mem_append.mp hn).elim (a4 n) (b4 n),fun id c hm=>?_,⟨v1,v2,rfl,a6.mono fun j _ _ h _ _ ⟨n,q1,q2⟩=>⟨n,List.mem_append_left _ q1,q2⟩,b6.mono fun j _ _ h _ _ ⟨n,q1,q2⟩=>⟨n,List.mem_append_right _ q1,q2⟩⟩,fun g' w' hg=>?_⟩
   · simp only [Ty.bJ]
     rcases List.mem_append.mp he with he | he
     · have:=a2 e he; omega
     · have:=b2 e he; omega
   · simp only [jL,List.map_append,List.nodup_append]
     refine ⟨a3,b3,fun a ha b hb=>?_⟩
     obtain ⟨e,he,rfl⟩:=List.mem_map.mp ha
     obtain ⟨e',he',rfl⟩:=List.mem_map.mp hb
     have:=a2 e he
     have:=b2 e' he'
     omega
   · rcases List.mem_append.mp hm with hm | hm
     · obtain ⟨q0,n,hn,k⟩:=a5 id c hm
       exact ⟨q0,n,List.mem_append_left _ hn,k⟩
     · obtain ⟨q0,n,hn,k⟩:=b5 id c hm
       exact ⟨q0,n,List.mem_append_right _ hn,k⟩
   · exact ak.append (a7 g' w' fun n hn=>hg n (List.mem_append_left _ hn)) (b7 g' w' fun n hn=>hg n (List.mem_append_right _ hn))
 | sl u ih =>
   rintro x us j0 ⟨h,rfl,nh,R,h1,h2,h3⟩
   refine ⟨[{ id:=base + j0,hv:=0,nv:=0,hd:=h,nh:=nh,ni:=x.len,R:=R }],rfl,fun e he=>?_,by simp [jL],fun n hn=>?_,fun id c hm=>?_,⟨h,rfl,_,List.mem_singleton.mpr rfl,rfl,rfl⟩,fun g' w' hg=>?_⟩
   · simp only [jL,List.mem_singleton] at he
     subst he
     simp only [Ty.bJ]; omega
   · rw [List.mem_singleton.mp hn]; exact ⟨rfl,rfl,h2,h3⟩
   · simp only [jL,List.mem_singleton,Prod.mk.injEq] at hm
     obtain ⟨rfl,rfl⟩:=hm
     exact ⟨rfl,_,List.mem_singleton.mpr rfl,rfl,u,x,rfl,rfl,h1⟩
   · obtain ⟨k1,k2⟩:=hg _ (List.mem_singleton.mpr rfl)
     simp only [zT,ak,aF]
     exact ⟨_,[],rfl,⟨k1,by rw [k2]⟩,rfl⟩
theorem AV {g:Gh}:∀ {ts:List Ty} {x:dR ts} {vs:List Value},q9 g.col w ts x vs→ak g w (Aa ts x) vs
 | [],x,vs,h=>by simp only [q9] at h; simp only [Aa,ak]; exact h
 | t::r,x,vs,h=>by
   simp only [q9] at h
   obtain ⟨u,us,rfl,⟨b,o,cs,rfl,h1,h2⟩,h3⟩:=h
   simp only [Aa,ak,aF]
   exact ⟨_,us,rfl,⟨b,o,cs,rfl,gK h1,h2⟩,AV h3⟩
structure Ini (g:Gh) (ns:List iZ) (ad:List (Nat×Nat×Nat)):Prop where
 n:∀ n ∈ ns,g.dh n.id 0 ∧ g.hd n.id 0 = n.hd ∧ g.dn n.id 0 ∧ g.nh n.id 0 = n.nh ∧ g.ni n.id 0 = n.ni ∧ g.R n.id = n.R
 ad:∀ e ∈ ad,g.db e.1 ∧ g.bx e.1 = e.2
def R4 (k m:Nat):Prop:=∃ r,r < 64 ∧ (m = pN k + r ∨ m = wN k + r)
theorem R5 {k k' m:Nat} (hk:k < 1000) (hk':k' < 1000) (h:R4 k m) (h':R4 k' m):k = k':=by
 obtain ⟨r,h1,h2⟩:=h
 obtain ⟨r',h1',h2'⟩:=h'
 unfold pN wN bF dV at *
 omega
theorem Oq {a:In} {x:a.T} {i:Nat} {v:Value} (hf:fu a = true) (hi:i < 1000) (h:IK n0 col w a x i v) :
 ∃ (ns:List iZ) (ad:List (Nat×Nat×Nat)),ns.map (·.id) = ((iB a x i).filter fun q=>!q.2.mG).map (·.1) ∧ ad.map (·.1) = ((iB a x i).filter fun q=>q.2.mG).map (·.1) ∧ (∀ e ∈ iB a x i,R4 i e.1) ∧ ((iB a x i).map (·.1)).Nodup ∧
   (∀ n ∈ ns,n.hv = 0 ∧ n.nv = 0 ∧ oZ col w n.id n.R ∧ (dV≤n.id→n.nh = n0 n.id)) ∧
   (∀ t,(a = .pt t ∨ a = .pd t)→∃ b o,v = .pointer (some ⟨b,o,none⟩) ∧ (pN i,b,o) ∈ ad) ∧ (∀ t,a = .ow t→∃ (us:List Value) (x':t.T),v = mkV t us ∧ jJ (fun j _ _ h=>∃ n ∈ ns,n.id = wN i + j ∧ h = n.hd) t x' us 0) ∧
   ∀ g,g.col = col→Ini g ns ad→aF g w (Ii a x i) v ∧ ∀ q ∈ iB a x i,gF g w q.1 q.2:=by
 have rows:∀ {base:Nat} {t:Ty} {x:t.T} {us:List Value} {ns:List iZ} {g:Gh},(∀ id c,(id,c) ∈ jL base t x 0→c.mG = false ∧ ∃ n ∈ ns,n.id = id ∧ ∃ (u:Ty) (z:L u.T),c = .row u z none 0 0 ∧ n.ni = z.len ∧ cB col w n.R n.nh (fun _=>true) u z n.hd) →
  (∀ n ∈ ns,n.hv = 0 ∧ n.nv = 0 ∧ oZ col w n.id n.R ∧ (dV≤n.id→n.nh = n0 n.id))→g.col = col→(∀ n ∈ ns,g.dh n.id 0 ∧ g.hd n.id 0 = n.hd ∧ g.dn n.id 0 ∧ g.nh n.id 0 = n.nh ∧ g.ni n.id 0 = n.ni ∧ g.R n.id = n.R)→∀ q ∈ jL base t x 0,gF g w q.1 q.2:=by
  intro base t x us ns g h1 h2 hc hn q hq
  obtain ⟨_,n,hm,e,u,z,ec,hni,hr⟩:=h1 q.1 q.2 hq
  obtain ⟨p1,p2,p3,p4,p5,p6⟩:=hn n hm
  rw [ec,← e]
  refine ⟨p1,p3,p5.trans hni,?_,fun b o hR=>?_⟩
  · rw [p2,p4,p6,hc]; exact hr
  · rw [p6] at hR
    rw [hc]
    exact (h2 n hm).2.2.1 b o hR
 have flt:∀ {l:List (Nat×aU)},(∀ q ∈ l,q.2.mG = false)→l.filter (fun q=>!q.2.mG) = l ∧ l.filter (fun q=>q.2.mG) = []:=fun {l} h =>
  ⟨List.filter_eq_self.mpr fun q hq=>by rw [h q hq]; rfl,List.filter_eq_nil_iff.mpr fun q hq=>by rw [h q hq]; simp⟩
 cases a with
 | v t =>
   obtain ⟨us,h1,rfl⟩:=h
   exact ⟨[],[],rfl,rfl,by simp [iB],by simp [iB],by simp,fun t e=>(by rcases e with e | e <;> cases e),fun t e=>(by cases e),fun g hc _=>⟨Ij (by rw [hc]; exact h1),by simp [iB]⟩⟩
 | rf t =>
   obtain ⟨b,o,us,rfl,h1,h2⟩:=h
   exact ⟨[],[],rfl,rfl,by simp [iB],by simp [iB],by simp,fun t e=>(by rcases e with e | e <;> cases e),fun t e=>(by cases e),fun g hc _=>⟨by simp only [Ii,aF]; exact ⟨b,o,us,rfl,gK (by rw [hc]; exact h1),by rw [hc]; exact h2⟩,by simp [iB]⟩⟩
 | nl =>
   have h:v = _:=h
   subst h
   exact ⟨[],[],rfl,rfl,by simp [iB],by simp [iB],by simp,fun t e=>(by rcases e with e | e <;> cases e),fun t e=>(by cases e),fun g hc _=>⟨by simp only [Ii,aF],by simp [iB]⟩⟩
 | pW f ts =>
   obtain ⟨vs,rfl,h1⟩:=h
   exact ⟨[],[],rfl,rfl,by simp [iB],by simp [iB],by simp,fun t e=>(by rcases e with e | e <;> cases e),fun t e=>(by cases e),fun g hc _=>⟨by simp only [Ii,aF]; exact ⟨vs,rfl,AV (by rw [hc]; exact h1)⟩,by simp [iB]⟩⟩
 | mv t =>
   obtain ⟨us,rfl,h1⟩:=h
   simp only [fu,Bool.and_eq_true,Nat.blt_eq] at hf
   obtain ⟨ns,k1,k2,k3,k4,k5,k6,k7⟩:=AU (n0:=n0) (base:=pN i + 1) (h1.mono fun j u y h _ hj ⟨nh,R,q1,q2⟩=>⟨nh,R,q1,q2,fun q=>absurd q (by have:=nR hi (show j < 60 by omega); have:=this.2.1; omega)⟩)
   obtain ⟨f1,f2⟩:=flt fun q hq=>(k5 q.1 q.2 hq).1
   refine ⟨ns,[],by simp only [iB]; rw [f1]; exact k1,by simp only [iB]; rw [f2]; rfl,fun e he=>?_,k3,k4,fun t e=>(by rcases e with e | e <;> cases e),fun t e=>(by cases e),fun g hc hg=>⟨AB h1.length (k7 g w fun n hn=>⟨(hg.n n hn).1,(hg.n n hn).2.1⟩),rows (us:=us) k5 k4 hc hg.n⟩⟩
   have:=k2 e he
   exact ⟨e.1 - pN i,by omega,.inl (by omega)⟩
 | ow t =>
   obtain ⟨us,rfl,h1⟩:=h
   simp only [fu,Bool.and_eq_true,Nat.blt_eq] at hf
   obtain ⟨ns,k1,k2,k3,k4,k5,k6,k7⟩:=AU (n0:=n0) (base:=wN i) (h1.mono fun j u y h _ hj ⟨R,q1,q2⟩=>⟨_,R,q1,q2,fun _=>rfl⟩)
   obtain ⟨f1,f2⟩:=flt fun q hq=>(k5 q.1 q.2 hq).1
   refine ⟨ns,[],by simp only [iB]; rw [f1]; exact k1,by simp only [iB]; rw [f2]; rfl,fun e he=>?_,k3,k4,fun t e=>(by rcases e with e | e <;> cases e),fun t' e=>(by cases e; exact ⟨us,x,rfl,k6⟩),fun g hc hg=>⟨AB h1.length (k7 g w fun n hn=>⟨(hg.n n hn).1,(hg.n n hn).2.1⟩),rows (us:=us) k5 k4 hc hg.n⟩⟩
   have:=k2 e he
   exact ⟨e.1 - wN i,by omega,.inr (by omega)⟩
 | pd t =>
   obtain ⟨b,o,us,rfl,h1,h2⟩:=h
   refine ⟨[],[(pN i,b,o)],by simp [iB,aU.mG],by simp [iB,aU.mG],fun e he=>?_,by simp [iB],by simp,fun t' e=>⟨b,o,rfl,List.mem_singleton.mpr rfl⟩,fun t e=>(by cases e),fun g hc hg=>⟨?_,fun q hq=>?_⟩⟩
   · simp only [iB,List.mem_singleton] at he
     subst he
     exact ⟨0,by omega,.inl rfl⟩
   · obtain ⟨q1,q2⟩:=hg.ad _ (List.mem_singleton.mpr rfl)
     simp only [Ii,aF]
     exact ⟨q1,by rw [q2]; rfl⟩
   · simp only [iB,List.mem_singleton] at hq
     subst hq
     obtain ⟨q1,q2⟩:=hg.ad _ (List.mem_singleton.mpr rfl)
     refine ⟨q1,us,gK (by rw [hc]; exact h1),fun j v hj=>?_⟩
     have q2':g.bx (pN i) = (b,o):=q2
     rw [q2',hc]
     exact h2 j v hj
 | pt t =>
   obtain ⟨b,o,us,rfl,h1,h2⟩:=h
   simp only [fu,Bool.and_eq_true,Nat.blt_eq] at hf
   obtain ⟨ns,k1,k2,k3,k4,k5,k6,k7⟩:=AU (n0:=n0) (base:=pN i + 1) (h1.mono fun j u y h _ hj ⟨nh,R,q1,q2⟩=>⟨nh,R,q1,q2,fun q=>absurd q (by have:=nR hi (show j < 60 by omega); have:=this.2.1; omega)⟩)
   obtain ⟨f1,f2⟩:=flt fun q hq=>(k5 q.1 q.2 hq).1
   refine ⟨ns,[(pN i,b,o)],?_,?_,fun e he=>?_,?_,k4,fun t' e=>⟨b,o,rfl,List.mem_singleton.mpr rfl⟩,fun t e=>(by cases e),fun g hc hg=>⟨?_,fun q hq=>?_⟩⟩
   · simp only [iB]
     rw [List.filter_cons_of_neg (by simp [aU.mG]),f1]; exact k1
   · simp only [iB]
     rw [List.filter_cons_of_pos (by rfl),f2]; rfl
   · simp only [iB] at he
     rcases List.mem_cons.mp he with rfl | he
     · exact ⟨0,by omega,.inl rfl⟩
     · have:=k2 e he
       exact ⟨e.1 - pN i,by omega,.inl (by omega)⟩
   · simp only [iB,List.map_cons]
     refine List.nodup_cons.mpr ⟨fun hm=>?_,k3⟩
     obtain ⟨e,he,e2⟩:=List.mem_map.mp hm
     have:=k2 e he
     omega
   · obtain ⟨q1,q2⟩:=hg.ad _ (List.mem_singleton.mpr rfl)
     simp only [Ii,aF]
     exact ⟨q1,by rw [q2]; rfl⟩
   · simp only [iB] at hq
     rcases List.mem_cons.mp hq with rfl | hq
     · obtain ⟨q1,q2⟩:=hg.ad _ (List.mem_singleton.mpr rfl)
       refine ⟨q1,us,k7 g w fun n hn=>⟨(hg.n n hn).1,(hg.n n hn).2.1⟩,fun j v hj=>?_⟩
       have q2':g.bx (pN i) = (b,o):=q2
       rw [q2',hc]
       exact h2 j v hj
     · exact rows (us:=us) k5 k4 hc hg.n q hq
theorem Dh:∀ {is:List In} {x:jK is} {i:Nat} {vs:List Value},is.all fu = true→i + is.length < 1000→kE n0 col w is x i vs →
 ∃ (ns:List iZ) (ad:List (Nat×Nat×Nat)),ns.map (·.id) = ((Ls is x i).filter fun q=>!q.2.mG).map (·.1) ∧ ad.map (·.1) = ((Ls is x i).filter fun q=>q.2.mG).map (·.1) ∧ (∀ e ∈ Ls is x i,∃ k,i≤k ∧ k < i + is.length ∧ R4 k e.1) ∧ ((Ls is x i).map (·.1)).Nodup ∧
   (∀ n ∈ ns,n.hv = 0 ∧ n.nv = 0 ∧ oZ col w n.id n.R ∧ (dV≤n.id→n.nh = n0 n.id)) ∧
   (∀ (k:Nat) t,(is[k]? = some (.pt t) ∨ is[k]? = some (.pd t))→∃ b o,vs[k]? = some (.pointer (some ⟨b,o,none⟩)) ∧ (pN (i + k),b,o) ∈ ad) ∧ (∀ (k:Nat) t,is[k]? = some (.ow t)→∃ (us:List Value) (x':t.T),vs[k]? = some (mkV t us) ∧ jJ (fun j _ _ h=>∃ n ∈ ns,n.id = wN (i + k) + j ∧ h = n.hd) t x' us 0) ∧
   ∀ g,g.col = col→Ini g ns ad→ak g w (Ab is x i) vs ∧ ∀ q ∈ Ls is x i,gF g w q.1 q.2
 | [],x,i,vs,_,_,h=>by
   simp only [kE] at h
   subst h
   exact ⟨[],[],rfl,rfl,by simp [Ls],by simp [Ls],by simp,fun k t e=>(by simp at e),fun k t e=>(by simp at e),fun g _ _=>⟨by simp only [Ab,ak],by simp [Ls]⟩⟩
 | a::r,x,i,vs,hf,hl,h=>by
   obtain ⟨u,us,rfl,h1,h2⟩:=h
   simp only [List.all_cons,Bool.and_eq_true] at hf
   simp only [List.length_cons] at hl
   obtain ⟨n1,d1,a1,a2,a3,a4,a5,a6,a7,a8⟩:=Oq hf.1 (by omega) h1
   obtain ⟨n2,d2,b1,b2,b3,b4,b5,b6,b7,b8⟩:=Dh hf.2 (by omega) h2
   refine ⟨n1 ++ n2,d1 ++ d2,by simp [Ls,a1,b1],by simp [Ls,a2,b2],fun e he=>?_,?_,fun n hn=>(List.mem_append.mp hn).elim (a5 n) (b5 n),fun k t e=>?_,fun k t e=>?_,fun g hc hg=>?_⟩
   · simp only [List.length_cons]
     rcases List.mem_append.mp he with he | he
     · exact ⟨i,Nat.le_refl _,by omega,a3 e he⟩
     · obtain ⟨k,q1,q2,q3⟩:=b3 e he
       exact ⟨k,by omega,by omega,q3⟩
   · simp only [Ls,List.map_append,List.nodup_append]
     refine ⟨a4,b4,fun m hm m' hm'=>?_⟩
     obtain ⟨e,he,rfl⟩:=List.mem_map.mp hm
     obtain ⟨e',he',rfl⟩:=List.mem_map.mp hm'
     obtain ⟨k,q1,q2,q3⟩:=b3 e' he'
     rintro q
     rw [← q] at q3
     have:=R5 (by omega) (by omega) (a3 e he) q3
     omega
   · cases k with
     | zero =>
       obtain ⟨b,o,q1,q2⟩:=a6 t (by simpa using e)
       exact ⟨b,o,by simp [q1],List.mem_append_left _ q2⟩
     | succ k =>
       simp only [List.getElem?_cons_succ] at e
       obtain ⟨b,o,q1,q2⟩:=b6 k t e
       rw [show i + 1 + k = i + (k + 1) by omega] at q2
       exact ⟨b,o,by simpa using q1,List.mem_append_right _ q2⟩
   · cases k with
     | zero =>
       simp at e
       obtain ⟨us',x',q1,q2⟩:=a7 t e
       exact ⟨us',x',by simp [q1],q2.mono fun j _ _ h _ _ ⟨n,hn,q⟩=>⟨n,List.mem_append_left _ hn,q⟩⟩
     | succ k =>
       simp only [List.getElem?_cons_succ] at e
       obtain ⟨us',x',q1,q2⟩:=b7 k t e
       rw [show i + 1 + k = i + (k + 1) by omega] at q2
       exact ⟨us',x',by simpa using q1,q2.mono fun j _ _ h _ _ ⟨n,hn,q⟩=>⟨n,List.mem_append_right _ hn,q⟩⟩
   · obtain ⟨q1,q2⟩:=a8 g hc ⟨fun n hn=>hg.n n (List.mem_append_left _ hn),fun e he=>hg.ad e (List.mem_append_left _ he)⟩
     obtain ⟨q3,q4⟩:=b8 g hc ⟨fun n hn=>hg.n n (List.mem_append_right _ hn),fun e he=>hg.ad e (List.mem_append_right _ he)⟩
     refine ⟨by simp only [Ab,ak]; exact ⟨u,us,rfl,q1,q3⟩,fun q hq=>?_⟩
     rcases List.mem_append.mp hq with hq | hq
     · exact q2 q hq
     · exact q4 q hq
theorem F4 {is:List In} {x:jK is} {i:Nat} {vs:List Value} (h:kE n0 col w is x i vs):vs.length = is.length:=by
 induction is generalizing i vs with
 | nil=>simp only [kE] at h; rw [h]; rfl
 | cons a r ih =>
   obtain ⟨u,us,rfl,_,h2⟩:=h
   simp [ih h2]
open Classical in
noncomputable def BN (col:Nat→Nat→Col) (ns:List iZ) (ad:List (Nat×Nat×Nat)):Gh :=
 { col,bx:=fun id=>match ad.find? (fun e=>decide (e.1 = id)) with | some e=>e.2 | none=>(0,0),db:=fun id=>id ∈ ad.map (·.1)
   hd:=fun id _=>match ns.find? (fun n=>decide (n.id = id)) with | some n=>n.hd | none=>(none,0,0)
   dh:=fun id u=>u = 0 ∧ ∃ n ∈ ns,n.id = id
   nh:=fun id _=>match ns.find? (fun n=>decide (n.id = id)) with | some n=>n.nh | none=>fun _ _=>(none,0,0)
   ni:=fun id _=>match ns.find? (fun n=>decide (n.id = id)) with | some n=>n.ni | none=>0
   dn:=fun id u=>u = 0 ∧ ∃ n ∈ ns,n.id = id
   R:=fun id=>match ns.find? (fun n=>decide (n.id = id)) with | some n=>n.R | none=>fun _ _=>none }
theorem Ot {ns:List iZ} {ad:List (Nat×Nat×Nat)} (hn:(ns.map (·.id)).Nodup) (ha:(ad.map (·.1)).Nodup):Ini (BN col ns ad) ns ad:=by
 refine ⟨fun n hm=>?_,fun e he=>⟨List.mem_map.mpr ⟨e,he,rfl⟩,?_⟩⟩
 · have hf:ns.find? (fun m=>decide (m.id = n.id)) = some n:=iP hm (by simp) fun m h1 h2=>rC hn h1 hm (by simpa using h2)
   refine ⟨⟨rfl,n,hm,rfl⟩,?_,⟨rfl,n,hm,rfl⟩,?_,?_,?_⟩ <;> (simp only [BN]; rw [hf])
 · have hf:ad.find? (fun m=>decide (m.1 = e.1)) = some e:=iP he (by simp) fun m h1 h2=>rC ha h1 he (by simpa using h2)
   simp only [BN]
   rw [hf]
end
end Go.VE
