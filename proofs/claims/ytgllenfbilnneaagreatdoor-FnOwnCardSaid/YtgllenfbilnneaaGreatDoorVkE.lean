import Derived.Test.YtgllenfbilnneaaGreatDoorVkD
/- New variables; what is read. -/
namespace Go.VE
open Go.RowKit (Below)
def qd (g:Gh) (n d:Nat):Gh :=
 { g with col:=DZ g.col n (fun _=>.bx d),bx:=upd g.bx d (n,0),db:=fun i=>i = d ∨ g.db i }
theorem wE (g:Gh) (n d:Nat) {b:Nat} (o:Nat) (h:b ≠ n):(qd g n d).col b o = g.col b o:=if_neg h
theorem wF (g:Gh) (n d o:Nat):(qd g n d).col n o = .bx d:=if_pos rfl
theorem kH (g:Gh) (n d:Nat):(qd g n d).bx d = (n,0):=by
 show upd _ _ _ _ = _; rw [cK,if_pos rfl]
section
variable {P:Program} {N:Fr} {c0:Nat→Nat→Col} {w0:World} {σ:AS} {g:Gh} {a:Act} {w:World}
theorem sZ (h:bO N c0 w0 σ g a w) {d:Nat} (hn:σ.box d = none) (ob:Obj):bV g w (qd g w.heap.size d) (w.alloc ob) where
 st:=(xD g.col w (fun _=>.bx d) ob).st
 db id hid:=by
  have:id ≠ d:=by
   rintro rfl
   obtain ⟨c,hc,_⟩:=h.db id hid
   rw [hn] at hc; cases hc
  exact ⟨.inr hid,by show upd _ _ _ _ = _; rw [cK,if_neg this]⟩
 dh _ _ hu:=⟨hu,rfl⟩
 dn _ _ hu:=⟨hu,rfl,rfl⟩
theorem bO.Iq (h:bO N c0 w0 σ g a w) {dst:Option Nat} {d:Nat} (hd:dZ N dst = true) (hpb:d < bF) (hn:σ.box d = none)
 {ob:Obj} (lK:∀ o',(w.alloc ob).frozen? ⟨w.heap.size,o',none⟩ = false) {c:aU} {p:PV} {v:Value} (hcc:c.mG = true)
 (hc:gF (qd g w.heap.size d) (w.alloc ob) d c) (hp:aF (qd g w.heap.size d) (w.alloc ob) p v) :
 bO N c0 w0 (σ.app dst { v:=p,bx:=[(d,c)] }) (qd g w.heap.size d) (a.put dst v) (w.alloc ob):=by
 have hs:=sZ h hn ob
 have hcell:∀ b o u,w.cell? ⟨b,o,none⟩ = some u→b ≠ w.heap.size:=fun b o u hu=>Nat.ne_of_lt (World.block_lt_of_cell? w ⟨b,o,none⟩ hu)
 have hne:∀ id c',σ.box id = some c'→id ≠ d:=fun id c' e=>by rintro rfl; rw [hn] at e; cases e
 have hb:∀ id,(σ.app dst { v:=p,bx:=[(d,c)] }).box id = if id = d then some c else σ.box id:=fun id=>cK _ _ _ _
 have Ip:bO N c0 w0 { σ with box:=(σ.app dst { v:=p,bx:=[(d,c)] }).box } (qd g w.heap.size d) a (w.alloc ob) :=
  { size:=h.size
    env:=fun i=>aF.mono hs _ _ (h.env i)
    defers:=h.defers
    box:=fun id c' hc'=>by
     change (σ.app dst { v:=p,bx:=[(d,c)] }).box id = some c' at hc'
     rw [hb] at hc'
     split at hc'
     · rename_i e; subst e
       cases hc'
       exact hc
     · refine (h.box id c' hc').stay hs rfl (fun bb o u a1 a2 a3=>?_) (fun ob' c1 c2 c3=>?_)
       · have hb:=hcell _ _ _ a2
         exact ⟨(wE _ _ _ _ hb).trans a1,by rw [World.cell?_alloc_old _ _ _ hb]; exact a2,by rw [World.frozen?_alloc_old _ _ _ hb]; exact a3⟩
       · have hlt:=ji c2
         exact ⟨(Below.heap_alloc w ob _ hlt).trans c2,fun o=>(wE _ _ _ _ (by omega)).trans (c1 o)⟩
    db:=fun id hid=>by
     show ∃ c',(σ.app dst { v:=p,bx:=[(d,c)] }).box id = some c' ∧ _
     rw [hb]
     split
     · exact ⟨_,rfl,hcc⟩
     · rename_i q
       exact h.db id (hid.resolve_left q)
    dh:=fun id u hu=>by
     show ∃ c',(σ.app dst { v:=p,bx:=[(d,c)] }).box id = some c' ∧ _
     obtain ⟨c',e1,e2⟩:=h.dh id u hu
     rw [hb,if_neg (hne _ _ e1)]
     exact ⟨c',e1,e2⟩
    dn:=fun id u hu=>by
     show ∃ c',(σ.app dst { v:=p,bx:=[(d,c)] }).box id = some c' ∧ _
     obtain ⟨c',e1,e2⟩:=h.dn id u hu
     rw [hb,if_neg (hne _ _ e1)]
     exact ⟨c',e1,e2⟩
    pts:=fun id hid hdom=>by
     have hq:g.db id:=hdom.resolve_left (by omega)
     rw [(hs.db id hq).2]
     exact h.pts id hid hq
    fix:=h.fix
    keep:=h.keep.alloc _ lK
    old:=fun b hb o=>by
     have hne:b ≠ w.heap.size:=by have:=h.keep.size; omega
     rw [wE _ _ _ _ hne]
     exact h.old b hb o }
 have:=Ip.put hd hp
 cases dst with
 | none=>exact this
 | some d=>exact this
/-! ### What is read: all boxes as data that stays -/
def Nw (g:Gh):Gh:={ g with col:=fun b o=>match g.col b o with | .bx _=>.st | c=>c }
theorem Ny {b o id:Nat} (h:g.col b o = .bx id):(Nw g).col b o = .st:=by simp [Nw,h]
theorem Ah (g:Gh) (w:World):bV g w (Nw g) w:={ st:=fun b o v h h'=>⟨by simp [Nw,h],h'⟩,db:=fun _ h=>⟨h,rfl⟩,dh:=fun _ _ h=>⟨h,rfl⟩,dn:=fun _ _ h=>⟨h,rfl,rfl⟩ }
def bK (g:Gh) (w:World) (box:Nat→Option aU):Prop:=∀ id c,box id = some c→gF g w id c
theorem gq (b o n:Nat):(⟨b,o,none⟩:Addr).add n = ⟨b,o + n,none⟩:=by
 unfold Addr.add
 split
 · rename_i h; subst h; rfl
 · rfl
theorem kI {ad:Addr} (h:ad.spot = none):ad = ⟨ad.block,ad.off,none⟩:=by cases ad; simp_all
theorem xF {c:Nat→Nat→Col} {R:iI} {lab:Option (Nat×Nat)} {Q:Nat→List Value→Prop} {h:bT} {n sz:Nat} (he:Ad w Q h n sz) (ho:Fx R lab w h sz) (hn:n≤h.2.2) (hc:∀ b o,R b o = some lab→c b o = .st) {ad:Addr} (had:h.1 = some ad) :
 (0 < n→ad.spot = none) ∧ ∀ i,i < n→∃ us,Q i us ∧ jY c w ad.block (ad.off + i * sz) us:=by
 refine ⟨fun _=>(ho ad had).1,fun i hi=>?_⟩
 obtain ⟨us,hl,h1,h2⟩:=he i hi
 refine ⟨us,h1,fun j v hj=>⟨?_,h2 ad had j v hj⟩⟩
 have hjl:j < sz:=by rw [← hl]; exact (List.getElem?_eq_some_iff.mp hj).1
 have:=((ho ad had).2 (i * sz + j) (Nat.lt_of_lt_of_le (iy hi hjl) (Nat.mul_le_mul_right _ hn))).1
 rw [← Nat.add_assoc] at this
 exact hc _ _ this
theorem bD.toT {c c':Nat→Nat→Col} {R:iI} {nh:Nat→Nat→bT} {own:Bool} {i:Nat} (hs:Stays c w c' w) (hc:∀ b o l,R b o = some l→c' b o = .st):∀ {t:Ty} {x:t.T} {vs:List Value} {j:Nat},bD c w R nh own i t x vs j→bC c' w t x vs:=by
 intro t
 induction t with
 | int k=>exact fun h=>h
 | bool=>exact fun h=>h
 | str=>exact fun h=>h
 | unit=>exact fun h=>h
 | pair a b iha ihb =>
   rintro x vs j ⟨v1,v2,e,h1,h2⟩
   exact ⟨v1,v2,e,iha h1,ihb h2⟩
 | sl t ih =>
   rintro x vs j ⟨e,⟨h0,h1,h2,h3⟩,h4,h5⟩
   cases own with
   | false=>exact bC.mono hs _ _ _ (h5 rfl)
   | true =>
     obtain ⟨hf,ho,he⟩:=h4 rfl
     refine ⟨(nh i j).1,(nh i j).2.2,by rw [e,gP,h0],h1,⟨h2,h3⟩,fun ad had=>?_⟩
     obtain ⟨q1,q2⟩:=xF (c:=c') he ho h1 (fun b o hr=>hc b o _ hr) had
     exact ⟨q1,fun k hk=>by obtain ⟨us,q3,q4⟩:=q2 k hk; exact ⟨us,bC.flat hf q3,q4⟩⟩
theorem cB.toT {c c':Nat→Nat→Col} {R:iI} {nh:Nat→Nat→bT} {own:Nat→Bool} {t:Ty} {x:L t.T} {h:bT} (hr:cB c w R nh own t x h) (hs:Stays c w c' w) (hc:∀ b o l,R b o = some l→c' b o = .st):bC c' w (.sl t) x [gP h]:=by
 obtain ⟨⟨h0,h1,h2,h3⟩,h4,h5⟩:=hr
 refine ⟨h.1,h.2.2,by rw [gP,h0],h1,⟨h2,h3⟩,fun ad had=>?_⟩
 obtain ⟨q1,q2⟩:=xF (c:=c') h5 h4 h1 (fun b o hr=>hc b o _ hr) had
 exact ⟨q1,fun k hk=>by obtain ⟨us,q3,q4⟩:=q2 k hk; exact ⟨us,bD.toT hs hc q3,q4⟩⟩
theorem uy.cut {h:bT} {n:Nat} {nil:Bool} {sz lo hi:Nat} (q:uy h n nil) (hh:hi≤n):uy (oO sz lo hi h) (hi - lo) nil:=by
 obtain ⟨h0,h1,h2,h3⟩:=q
 refine ⟨rfl,by show hi - lo≤h.2.2 - lo; omega,fun e=>?_,h3.trans ?_⟩
 · have:h.1 = none:=by
    simp only [oO] at e
    split at e
    · exact e
    · simpa using e
   show h.2.2 - lo = 0
   rw [h2 this]; omega
 · simp only [oO]
   split
   · exact Iff.rfl
   · simp
theorem Fy {h:bT} {sz lo hi:Nat} {ad:Addr} (had:(oO sz lo hi h).1 = some ad) (hsp:∀ ad,h.1 = some ad→ad.spot = none):h.2.2 = lo ∨ ∃ ad0,h.1 = some ad0 ∧ ad0.spot = none ∧ ad = ⟨ad0.block,ad0.off + lo * sz,none⟩:=by
 by_cases hc:h.2.2 = lo
 · exact .inl hc
 · right
   simp only [oO,if_neg hc] at had
   cases h1:h.1 with
   | none=>rw [h1] at had; cases had
   | some ad0 =>
     rw [h1] at had
     simp only [Option.map_some,Option.some.injEq] at had
     have hq:=hsp ad0 h1
     refine ⟨ad0,rfl,hq,?_⟩
     rw [← had,kI hq,gq]
theorem bC.cut {c:Nat→Nat→Col} {t:Ty} {x:L t.T} {h:bT} {lo hi:Nat} (hr:bC c w (.sl t) x [gP h]) (hlh:lo≤hi) (hh:hi≤x.len):bC c w (.sl t) (x.cut lo hi) [gP (oO t.size lo hi h)]:=by
 obtain ⟨a',cap',e,q1,⟨q2,q3⟩,q4⟩:=hr
 simp only [gP,List.cons.injEq,Value.slice.injEq,and_true] at e
 obtain ⟨rfl,e2,rfl⟩:=e
 obtain ⟨_,k1,k2,k3⟩:=uy.cut (sz:=t.size) (lo:=lo) (hi:=hi) (h:=h) (n:=x.len) (nil:=x.nil) ⟨e2,q1,q2,q3⟩ hh
 refine ⟨(oO t.size lo hi h).1,(oO t.size lo hi h).2.2,rfl,k1,⟨k2,k3⟩,fun ad had=>?_⟩
 by_cases h0:hi - lo = 0
 · exact ⟨fun hp=>by have:0 < hi - lo:=hp; omega,fun i hi'=>by have:i < hi - lo:=hi'; omega⟩
 · rcases Nat.eq_or_lt_of_le (Nat.le_trans (Nat.le_trans hlh hh) q1) with hc | hc
   · omega
   · simp only [oO,if_neg (Nat.ne_of_gt hc)] at had
     cases h1:h.1 with
     | none=>rw [h1] at had; cases had
     | some ad0 =>
       rw [h1] at had
       simp only [Option.map_some,Option.some.injEq] at had
       obtain ⟨m1,m2⟩:=q4 ad0 h1
       have hq:=m1 (by omega)
       have e3:ad = ⟨ad0.block,ad0.off + lo * t.size,none⟩:=by rw [← had,kI hq,gq]
       subst e3
       refine ⟨fun _=>rfl,fun i hi'=>?_⟩
       have hi':i < hi - lo:=hi'
       obtain ⟨us,m3,m4⟩:=m2 (lo + i) (by omega)
       refine ⟨us,m3,?_⟩
       simp only
       rw [show ad0.off + lo * t.size + i * t.size = ad0.off + (lo + i) * t.size by rw [Nat.add_mul]; omega]
       exact m4
theorem JH {c:Nat→Nat→Col} {R:iI} {nh:Nat→Nat→bT} {own:Bool} {i:Nat} {u:Ty} {y:L u.T}:∀ {t:Ty} {x:t.T} {vs:List Value} {j0 j:Nat},sI t x j = some ⟨u,y⟩→bD c w R nh own i t x vs j0→∃ v,bD c w R nh own i (.sl u) y [v] (j0 + j):=by
 intro t
 induction t with
 | sl t ih =>
   intro x vs j0 j h hr
   cases j with
   | zero =>
     simp only [sI,Option.some.injEq,Sigma.mk.injEq] at h
     obtain ⟨rfl,h⟩:=h
     obtain rfl:=eq_of_heq h
     obtain ⟨rfl,h⟩:=hr
     exact ⟨_,rfl,h⟩
   | succ j=>simp [sI] at h
 | pair a b iha ihb =>
   rintro x vs j0 j h ⟨v1,v2,rfl,h1,h2⟩
   simp only [sI] at h
   cases hb:Nat.blt j a.bJ with
   | true =>
     rw [hb] at h
     exact iha h h1
   | false =>
     rw [hb] at h
     have hge:a.bJ≤j:=by
      rcases Nat.lt_or_ge j a.bJ with q | q
      · have:Nat.blt j a.bJ = true:=by simpa using q
        rw [hb] at this; cases this
      · exact q
     obtain ⟨v,q⟩:=ihb h h2
     rw [show j0 + a.bJ + (j - a.bJ) = j0 + j by omega] at q
     exact ⟨v,q⟩
 | _=>intro x vs j0 j h; simp [sI] at h
theorem qg (hb:bK g w σ.box) {id u i j:Nat} {t:Ty} {x:L t.T} {own:Option (Nat→Bool)} {hv nv:Nat} (hbx:σ.box id = some (.row t x own hv nv)) (hi:i < x.len) {ut:Ty} {y:L ut.T} (hy:sI t (x.get i) j = some ⟨ut,y⟩) :
 ∃ v,bD g.col w (g.R id) (g.nh id nv) (ownB own i) i (.sl ut) y [v] j:=by
 obtain ⟨_,_,_,⟨_,_,he⟩,_⟩:=hb _ _ hbx
 obtain ⟨us,_,h1,_⟩:=he i hi
 obtain ⟨v,h2⟩:=JH hy h1
 rw [Nat.zero_add] at h2
 exact ⟨v,h2⟩
theorem Fz {g':Gh} (hb:bK g w σ.box) (hgs:bV g w g' w) {p:PV} {v:Value} (hc:∀ id ∈ iA p,∀ b o,g.col b o = .bx id→g'.col b o = .st) (h:aF g w p v):aF g' w (xB σ.box p) v:=by
 have row:∀ {id hv nv:Nat} {t:Ty} {x:L t.T} {own:Option (Nat→Bool)},id ∈ iA p→σ.box id = some (.row t x own hv nv)→bC g'.col w (.sl t) x [gP (g.hd id hv)]:=by
  intro id hv nv t x own hm hbx
  obtain ⟨_,_,_,hr,hp⟩:=hb _ _ hbx
  exact hr.toT hgs.toStays fun b o l e=>hc id hm b o (hp b o (by rw [e]; simp)).1
 have nest:∀ {id i j hv nv:Nat} {t ut:Ty} {x:L t.T} {own:Option (Nat→Bool)} {y:L ut.T},id ∈ iA p→σ.box id = some (.row t x own hv nv)→i < x.len→sI t (x.get i) j = some ⟨ut,y⟩→bC g'.col w (.sl ut) y [gP (g.nh id nv i j)]:=by
  intro id i j hv nv t ut x own y hm hbx hi hy
  obtain ⟨v,h2⟩:=qg (u:=0) hb hbx hi hy
  have e:=h2.1
  obtain ⟨_,_,_,_,hp⟩:=hb _ _ hbx
  have:=bD.toT hgs.toStays (fun b o l e=>hc id hm b o (hp b o (by rw [e]; simp)).1) h2
  rwa [e] at this
 cases p with
 | ms id u =>
   simp only [xB]
   split
   · rename_i t x own hv nv hbx
     cases hq:Nat.beq u hv with
     | false=>simp only [cond_false,aF]
     | true =>
       obtain rfl:=Nat.eq_of_beq_eq_true hq
       simp only [aF] at h
       simp only [cond_true,aF]
       rw [h.2]
       exact row (by simp [iA]) hbx
   · simp only [aF]
 | vw id u sz lo hi =>
   simp only [xB]
   split
   · rename_i t x own hv nv hbx
     cases hq:(Nat.beq u hv&&Nat.beq sz t.size) with
     | false=>simp only [cond_false,aF]
     | true =>
       simp only [Bool.and_eq_true] at hq
       obtain rfl:=Nat.eq_of_beq_eq_true hq.1
       obtain rfl:=Nat.eq_of_beq_eq_true hq.2
       simp only [aF] at h
       obtain ⟨_,h1,h2,rfl⟩:=h
       simp only [cond_true,aF]
       have hl:(g.hd id u).2.1 = x.len:=by obtain ⟨_,_,_,⟨⟨q,_⟩,_⟩,_⟩:=hb _ _ hbx; exact q
       exact (row (by simp [iA]) hbx).cut h1 (by omega)
   · simp only [aF]
 | mn id u i j =>
   simp only [xB]
   split
   · rename_i t x own hv nv hbx
     cases hq:Nat.beq u nv with
     | false=>simp only [cond_false,aF]
     | true =>
       obtain rfl:=Nat.eq_of_beq_eq_true hq
       simp only [aF] at h
       obtain ⟨_,h1,rfl⟩:=h
       simp only [cond_true]
       split
       · rename_i ut y hy
         simp only [aF]
         have hl:g.ni id u = x.len:=by obtain ⟨_,_,q,_⟩:=hb _ _ hbx; exact q
         exact nest (by simp [iA]) hbx (by omega) hy
       · simp only [aF]
   · simp only [aF]
 | vn id u i j sz lo hi =>
   simp only [xB]
   split
   · rename_i t x own hv nv hbx
     cases hq:Nat.beq u nv with
     | false=>simp only [cond_false,aF]
     | true =>
       obtain rfl:=Nat.eq_of_beq_eq_true hq
       simp only [aF] at h
       obtain ⟨_,h1,h2,h3,rfl⟩:=h
       simp only [cond_true]
       split
       · rename_i ut y hy
         cases hq2:Nat.beq sz ut.size with
         | false=>simp only [cond_false,aF]
         | true =>
           obtain rfl:=Nat.eq_of_beq_eq_true hq2
           simp only [cond_true,aF]
           have hl:g.ni id u = x.len:=by obtain ⟨_,_,q,_⟩:=hb _ _ hbx; exact q
           have hn:=nest (by simp [iA]) hbx (by omega) hy
           have hyl:(g.nh id u i j).2.1 = y.len:=by
            obtain ⟨a',cap',e,_⟩:=hn
            simp only [gP,List.cons.injEq,Value.slice.injEq,and_true] at e
            exact e.2.1
           exact hn.cut h2 (by omega)
       · simp only [aF]
   · simp only [aF]
 | _=>exact aF.mono hgs _ _ h
theorem FB {u:Ty}:∀ {ps:List PV} {xs:List u.T},Fg u ps = some xs→xs.length = ps.length
 | [],xs,h=>by simp only [Fg,Option.some.injEq] at h; subst h; rfl
 | p::r,xs,h=>by
   simp only [Fg] at h
   split at h
   · rename_i x ys h1 h2
     simp only [Option.some.injEq] at h; subst h
     simp [FB h2]
   · cases h
theorem FC {u:Ty}:∀ {ps:List PV} {xs:List u.T} {vs:List Value},Fg u ps = some xs→ak g w ps vs→∀ (i:Nat) (x:u.T),xs[i]? = some x→∃ v,vs[i]? = some v ∧ bC g.col w u x [v]
 | [],xs,vs,h,_,i,x,hi=>by simp only [Fg,Option.some.injEq] at h; subst h; simp at hi
 | p::r,xs,vs,h,hr,i,x,hi=>by
   simp only [Fg] at h
   split at h
   · rename_i y ys h1 h2
     simp only [Option.some.injEq] at h; subst h
     simp only [ak] at hr
     obtain ⟨v,us,rfl,q1,q2⟩:=hr
     cases i with
     | zero =>
       simp only [List.getElem?_cons_zero,Option.some.injEq] at hi; subst hi
       exact ⟨v,rfl,fA h1 (by simp only [ak]; exact ⟨v,[],rfl,q1,rfl⟩)⟩
     | succ i=>exact FC h2 q2 i x (by simpa using hi)
   · cases h
theorem Cv {g':Gh} (hb:bK g w σ.box) (hgs:bV g w g' w):∀ {ps:List PV} {vs:List Value},(∀ id ∈ ps.flatMap iA,∀ b o,g.col b o = .bx id→g'.col b o = .st)→ak g w ps vs→ak g' w (ps.map (xB σ.box)) vs
 | [],vs,_,h=>by simpa only [ak,List.map_nil] using h
 | p::ps,vs,hc,h=>by
   simp only [ak] at h
   obtain ⟨u,us,rfl,h1,h2⟩:=h
   simp only [List.map_cons,ak]
   exact ⟨u,us,rfl,Fz hb hgs (fun id hm=>hc id (by simp [hm])) h1,Cv hb hgs (fun id hm=>hc id (by simp only [List.flatMap_cons,List.mem_append]; exact .inr hm)) h2⟩
theorem Vv {p:PV} (h:∀ u cs,p ≠ .so u cs):eF p = iA p:=by
 cases p <;> first | rfl | exact absurd rfl (h _ _)
theorem uE {g':Gh} (hb:bK g w σ.box) (hgs:bV g w g' w) {p:PV} {v:Value} (hc:∀ id ∈ eF p,∀ b o,g.col b o = .bx id→g'.col b o = .st) (h:aF g w p v):aF g' w (kG σ.box p) v:=by
 cases p with
 | so u cs =>
   simp only [kG]
   split
   · rename_i xs hxs
     simp only [aF] at h
     obtain ⟨b,us,rfl,hz,h3,h4⟩:=h
     have hl:=FB hxs
     rw [List.length_map] at hl
     have h5:=Cv hb hgs (fun id hm=>hc id (by simp only [eF]; exact hm)) h3
     simp only [aF,bC]
     refine ⟨some ⟨b,0,none⟩,cs.length,?_,?_,⟨fun q=>(by cases q),fun q=>(by cases q),fun q=>(by cases q)⟩,fun ad had=>⟨fun _=>(by cases had; rfl),fun i hi=>?_⟩⟩
     · show _ = [Value.slice _ xs.length _]; rw [hl]
     · show xs.length≤_; omega
     · cases had
       have hi:i < xs.length:=hi
       obtain ⟨y,q1,q2⟩:=FC hxs h5 i xs[i] (List.getElem?_eq_getElem hi)
       refine ⟨[y],?_,fun j z hj=>?_⟩
       · show bC _ _ _ (xs.getD i u.zero) _
         rw [List.getD_eq_getElem?_getD,List.getElem?_eq_getElem hi]; exact q2
       · obtain ⟨z1,z2⟩:=h4 i y q1
         cases j with
         | zero =>
           simp only [List.getElem?_cons_zero,Option.some.injEq] at hj; subst hj
           rw [hz,Nat.mul_one]
           obtain ⟨s1,s2⟩:=hgs.st _ _ _ z1 z2
           exact ⟨by simpa using s1,by simpa using s2⟩
         | succ j=>simp at hj
   · simp only [aF]
 | _=>exact Fz hb hgs (fun id hm=>hc id (by rw [Vv (by intro _ _ e; cases e)]; exact hm)) h
theorem wG (hb:bK g w σ.box) {p:PV} {v:Value} (h:aF g w p v):aF (Nw g) w (kG σ.box p) v:=uE hb (Ah g w) (fun _ _ _ _ e=>Ny e) h
theorem Ai {g':Gh} (hb:bK g w σ.box) (hgs:bV g w g' w):∀ {ps:List PV} {vs:List Value},(∀ id ∈ ps.flatMap eF,∀ b o,g.col b o = .bx id→g'.col b o = .st)→ak g w ps vs→ak g' w (ps.map (kG σ.box)) vs
 | [],vs,_,h=>by simpa only [ak,List.map_nil] using h
 | p::ps,vs,hc,h=>by
   simp only [ak] at h
   obtain ⟨u,us,rfl,h1,h2⟩:=h
   simp only [List.map_cons,ak]
   exact ⟨u,us,rfl,uE hb hgs (fun id hm=>hc id (by simp [hm])) h1,Ai hb hgs (fun id hm=>hc id (by simp only [List.flatMap_cons,List.mem_append]; exact .inr hm)) h2⟩
theorem RH {g':Gh} (hb:bK g w σ.box) (hgs:bV g w g' w) {p:PV} {v:Value} (hc:∀ id ∈ p.dY.flatMap eF,∀ b o,g.col b o = .bx id→g'.col b o = .st) (h:aF g w p v):aF g' w (Vf σ.box p) v:=by
 cases p with
 | agg cs =>
   simp only [aF] at h
   obtain ⟨vs,rfl,h2⟩:=h
   simp only [Vf,aF]
   exact ⟨vs,rfl,Ai hb hgs hc h2⟩
 | _=>exact uE hb hgs (fun id hm=>hc id (by simpa [PV.dY] using hm)) h
end
end Go.VE
