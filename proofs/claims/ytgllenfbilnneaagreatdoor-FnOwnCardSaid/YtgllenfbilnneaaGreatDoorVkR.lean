import Derived.Test.YtgllenfbilnneaaGreatDoorVkQ
/- Calls: what comes of what was handed in. -/
namespace Go.VE
theorem JM {h h':bT} (e:gP h = gP h'):h = h':=by
 obtain ⟨a,b,c⟩:=h
 obtain ⟨a',b',c'⟩:=h'
 simp only [gP,Value.slice.injEq] at e
 obtain ⟨rfl,rfl,rfl⟩:=e
 rfl
theorem tJ {box:Nat→Option aU}:∀ {ms:List Nat} {l:List (Nat×Nat×Nat)},turns box ms = some l→l.map (·.1) = ms ∧ ∀ m ∈ l,sJ box m.1 = some (m.2.1,m.2.2)
 | [],l,h=>by simp [turns] at h; subst h; exact ⟨rfl,fun m hm=>by cases hm⟩
 | m::r,l,h=>by
   simp only [turns] at h
   split at h
   · rename_i hh n hn
     split at h
     · rename_i l' hl
       simp only [Option.some.injEq] at h; subst h
       obtain ⟨k1,k2⟩:=tJ hl
       refine ⟨by simp [k1],fun x hx=>?_⟩
       rcases List.mem_cons.mp hx with rfl | hx
       · exact hn
       · exact k2 x hx
     · cases h
   · cases h
theorem IV {id:Nat}:∀ {t:Ty} {cs:List PV} {q:Nat},t.size≤cs.length→(mZ id t cs q).length = t.bJ:=by
 intro t
 induction t with
 | pair a b iha ihb =>
   intro cs q h
   simp only [Ty.size] at h
   simp only [mZ,List.length_append,Ty.bJ]
   rw [iha (by rw [List.length_take]; omega),ihb (by rw [List.length_drop]; omega)]
 | sl u ih =>
   intro cs q h
   match cs,h with
   | c::r,_=>rfl
 | _=>intro cs q _; rfl
theorem FQ {id:Nat} {box:Nat→Option aU}:∀ {t:Ty} {cs r:List PV} {y:t.T} {q:Nat},sS box t cs = some (y,r)→∃ c1,cs = c1 ++ r ∧ c1.length = t.size ∧ ∀ m ∈ ay c1,m ∈ mZ id t c1 q:=by
 intro t
 induction t with
 | int k =>
   intro cs r y q h
   cases cs with
   | nil=>simp [sS] at h
   | cons p ps=>cases p <;> simp [sS] at h; obtain ⟨_,_,rfl⟩:=h; exact ⟨[_],rfl,rfl,fun m hm=>by simp [ay] at hm⟩
 | bool =>
   intro cs r y q h
   cases cs with
   | nil=>simp [sS] at h
   | cons p ps=>cases p <;> simp [sS] at h; obtain ⟨_,rfl⟩:=h; exact ⟨[_],rfl,rfl,fun m hm=>by simp [ay] at hm⟩
 | str =>
   intro cs r y q h
   cases cs with
   | nil=>simp [sS] at h
   | cons p ps=>cases p <;> simp [sS] at h; obtain ⟨_,rfl⟩:=h; exact ⟨[_],rfl,rfl,fun m hm=>by simp [ay] at hm⟩
 | unit=>intro cs r y q h; simp [sS] at h; subst h; exact ⟨[],rfl,rfl,fun m hm=>by simp [ay] at hm⟩
 | pair a b iha ihb =>
   intro cs r y q h
   simp only [sS] at h
   split at h
   · rename_i x1 r1 h1
     split at h
     · rename_i x2 r2 h2
       simp only [Option.some.injEq,Prod.mk.injEq] at h
       obtain ⟨_,rfl⟩:=h
       obtain ⟨c1,rfl,l1,k1⟩:=iha (q:=q) h1
       obtain ⟨c2,rfl,l2,k2⟩:=ihb (q:=q + a.size) h2
       refine ⟨c1 ++ c2,by simp,by simp [l1,l2,Ty.size],fun m hm=>?_⟩
       rw [eY] at hm
       simp only [mZ]
       rw [← l1,List.take_left,List.drop_left,l1]
       rcases List.mem_append.mp hm with hm | hm
       · exact List.mem_append_left _ (k1 m hm)
       · exact List.mem_append_right _ (k2 m hm)
     · cases h
   · cases h
 | sl u ih =>
   intro cs r y q h
   cases cs with
   | nil=>simp [sS] at h
   | cons p ps =>
     simp only [sS] at h
     split at h
     · rename_i y' h1
       simp only [Option.some.injEq,Prod.mk.injEq] at h
       obtain ⟨_,rfl⟩:=h
       refine ⟨[p],rfl,rfl,fun m hm=>?_⟩
       simp only [mZ]
       cases p <;> simp [ay,Uo] at hm ⊢ <;> exact hm
     · cases h
theorem JN {sh:Bool}:∀ {t:Ty} {y:t.T} {l:List (Nat×Nat×Nat)},t.bJ≤l.length→(HZ sh t y l).map (·.1) = (l.take t.bJ).map (·.1):=by
 intro t
 induction t with
 | pair a b iha ihb =>
   intro y l h
   simp only [Ty.bJ] at h
   simp only [HZ,List.map_append,Ty.bJ]
   rw [iha (by omega),ihb (by rw [List.length_drop]; omega),← List.map_append]
   congr 1
   rw [List.take_add]
 | sl u ih =>
   intro y l h
   match l,h with
   | (m,hh,n)::r,_=>rfl
 | _=>intro y l _; simp [HZ,Ty.bJ]
section
variable {P:Program} {N:Fr} {c0:Nat→Nat→Col} {w0:World} {σ:AS} {g:Gh} {a:Act} {w w':World} {box:Nat→Option aU} {fP:List Nat} {W:List Au} {col':Nat→Nat→Col}
theorem JO {own:Bool} {nm:Nat→Nat}:∀ {t:Ty} {y:t.T} {us:List Value} {j0:Nat} {l:List (Nat×Nat×Nat)},jJ (fun j u y h=>mh own col' w' (nm j) u y h) t y us j0→t.bJ≤l.length →
 ∃ ns:List iZ,ns.map (·.id) = (HZ (!own) t y l).map (·.1) ∧
   (∀ n ∈ ns,∃ j,j0≤j ∧ j < j0 + t.bJ ∧ l[j - j0]? = some (n.id,n.hv,n.nv) ∧ oZ col' w' (nm j) n.R) ∧
   (∀ id c,(id,c) ∈ HZ (!own) t y l→∃ n ∈ ns,n.id = id ∧ ∃ (u:Ty) (z:L u.T),c = .row u z (bif !own then some fun _=>false else none) n.hv n.nv ∧ n.ni = z.len ∧ cB col' w' n.R n.nh (fun _=>own) u z n.hd) ∧
   ∀ g' w'',(∀ n ∈ ns,g'.dh n.id n.hv ∧ g'.hd n.id n.hv = n.hd)→ak g' w'' (Nj t y l) us:=by
 intro t
 induction t with
 | int k=>rintro y us j0 l rfl _; exact ⟨[],rfl,fun n hn=>(by cases hn),fun id c hm=>(by simp [HZ] at hm),fun g' w'' _=>by simp only [Nj,ak,aF]; exact ⟨_,_,rfl,rfl,rfl⟩⟩
 | bool=>rintro y us j0 l rfl _; exact ⟨[],rfl,fun n hn=>(by cases hn),fun id c hm=>(by simp [HZ] at hm),fun g' w'' _=>by simp only [Nj,ak,aF]; exact ⟨_,_,rfl,rfl,rfl⟩⟩
 | str=>rintro y us j0 l rfl _; exact ⟨[],rfl,fun n hn=>(by cases hn),fun id c hm=>(by simp [HZ] at hm),fun g' w'' _=>by simp only [Nj,ak,aF]; exact ⟨_,_,rfl,rfl,rfl⟩⟩
 | unit=>rintro y us j0 l rfl _; exact ⟨[],rfl,fun n hn=>(by cases hn),fun id c hm=>(by simp [HZ] at hm),fun g' w'' _=>by simp only [Nj,ak]⟩
 | pair p q Iw Iy =>
   rintro y us j0 l ⟨v1,v2,rfl,h1,h2⟩ hl
   simp only [Ty.bJ] at hl
   obtain ⟨n1,a1,a2,a3,a4⟩:=Iw h1 (l:=l) (by omega)
   obtain ⟨n2,b1,b2,b3,b4⟩:=Iy h2 (l:=l.drop p.bJ) (by rw [List.length_drop]; omega)
   refine ⟨n1 ++ n2,by simp [HZ,a1,b1],fun n hn=>?_,fun id c hm=>?_,fun g' w'' hg=>?_⟩
   · rcases List.mem_append.mp hn with hn | hn
     · obtain ⟨j,k1,k2,k3⟩:=a2 n hn
       exact ⟨j,k1,by simp only [Ty.bJ]; omega,k3⟩
     · obtain ⟨j,k1,k2,k3,k4⟩:=b2 n hn
       rw [List.getElem?_drop,show p.bJ + (j - (j0 + p.bJ)) = j - j0 by omega] at k3
       exact ⟨j,by omega,by simp only [Ty.bJ]; omega,k3,k4⟩
   · rcases List.mem_append.mp hm with hm | hm
     · obtain ⟨n,hn,k⟩:=a3 id c hm
       exact ⟨n,List.mem_append_left _ hn,k⟩
     · obtain ⟨n,hn,k⟩:=b3 id c hm
       exact ⟨n,List.mem_append_right _ hn,k⟩
   · exact ak.append (a4 g' w'' fun n hn=>hg n (List.mem_append_left _ hn)) (b4 g' w'' fun n hn=>hg n (List.mem_append_right _ hn))
 | sl u ih =>
   rintro y us j0 l ⟨h,rfl,nh,R,h1,h2⟩ hl
   match l,hl with
   | (m,hh,n)::r,_ =>
     refine ⟨[{ id:=m,hv:=hh,nv:=n,hd:=h,nh:=nh,ni:=y.len,R:=R }],rfl,fun n' hn=>?_,fun id c hm=>?_,fun g' w'' hg=>?_⟩
     · rw [List.mem_singleton.mp hn]
       exact ⟨j0,Nat.le_refl _,by simp [Ty.bJ],by simp,h2⟩
     · simp only [HZ,List.mem_singleton,Prod.mk.injEq] at hm
       obtain ⟨rfl,rfl⟩:=hm
       exact ⟨_,List.mem_singleton.mpr rfl,rfl,u,y,rfl,rfl,h1⟩
     · obtain ⟨k1,k2⟩:=hg _ (List.mem_singleton.mpr rfl)
       simp only [Nj,ak,aF]
       exact ⟨_,[],rfl,⟨k1,by rw [k2]⟩,rfl⟩
/-! ### Rows that stay where they are -/
theorem bD.join {c c' c'':Nat→Nat→Col} {R R':iI} {nh:Nat→Nat→bT} {i:Nat}:∀ {t:Ty} {x y:t.T} {vs us:List Value} {j:Nat},bD c w R nh true i t x vs j→bD c' w' R' nh true i t y us j→bD c'' w' R nh true i t y us j:=by
 intro t
 induction t with
 | int k=>exact fun _ h=>h
 | bool=>exact fun _ h=>h
 | str=>exact fun _ h=>h
 | unit=>exact fun _ h=>h
 | pair a b iha ihb =>
   rintro x y vs us j ⟨v1,v2,e,h1,h2⟩ ⟨u1,u2,e',k1,k2⟩
   exact ⟨u1,u2,e',iha h1 k1,ihb h2 k2⟩
 | sl t ih =>
   rintro x y vs us j ⟨e,h1,h2,_⟩ ⟨e',k1,k2,_⟩
   obtain ⟨f,h3,_⟩:=h2 rfl
   obtain ⟨_,k3,k4⟩:=k2 rfl
   exact ⟨e',k1,fun _=>⟨f,fun ad had=>⟨(h3 ad had).1,fun k hk=>⟨((h3 ad had).2 k hk).1,((k3 ad had).2 k hk).2⟩⟩,fun k hk=>by obtain ⟨us',q1,q2,q3⟩:=k4 k hk; exact ⟨us',q1,bC.flat f q2,q3⟩⟩,fun q=>(by cases q)⟩
theorem cB.join {c c' c'':Nat→Nat→Col} {R R':iI} {nh:Nat→Nat→bT} {t:Ty} {x y:L t.T} {h:bT} (hr:cB c w R nh (fun _=>true) t x h) (hr':cB c' w' R' nh (fun _=>true) t y h):cB c'' w' R nh (fun _=>true) t y h:=by
 obtain ⟨h1,h2,h3⟩:=hr
 obtain ⟨k1,k2,k3⟩:=hr'
 have hl:x.len = y.len:=h1.1.symm.trans k1.1
 refine ⟨k1,fun ad had=>⟨(h2 ad had).1,fun k hk=>⟨((h2 ad had).2 k hk).1,((k2 ad had).2 k hk).2⟩⟩,fun i hi=>?_⟩
 obtain ⟨us,q1,q2,q3⟩:=k3 i hi
 obtain ⟨vs,_,p2,_⟩:=h3 i (by omega)
 exact ⟨us,q1,p2.join q2,q3⟩
theorem cB.jP {c c' cq:Nat→Nat→Col} {R Rq:iI} {nh nhq:Nat→Nat→bT} {t:Ty} {x:L t.T} {z:t.T} {h:bT} (hr:cB c w R nh (fun _=>true) t x h) {i j:Nat} (hi:i < x.len) {u:Ty} {y y':L u.T} (hy:sI t (x.get i) j = some ⟨u,y⟩) (hz:Go.VE.jP u y' t (x.get i) j = some z)
 (hnew:cB cq w' Rq nhq (fun _=>true) u y' (nh i j)) (hs:Stays c w c' w') (hk:∀ b o v,R b o ≠ none→R b o ≠ some (some (i,j))→w.cell? ⟨b,o,none⟩ = some v→w'.cell? ⟨b,o,none⟩ = some v)
 (hex:∀ b o v,R b o ≠ none→w.cell? ⟨b,o,none⟩ = some v→w.frozen? ⟨b,o,none⟩ = false→(∃ v',w'.cell? ⟨b,o,none⟩ = some v') ∧ w'.frozen? ⟨b,o,none⟩ = false):cB c' w' R nh (fun _=>true) t (x.set i z) h:=by
 obtain ⟨h1,h2,h3⟩:=hr
 refine ⟨h1,h2.mono fun b o v a1 a2 a3=>⟨a1,hex b o v (by rw [a1]; simp) a2 a3⟩,?_⟩
 refine h3.mono h2 h1.2.1 (Q':=fun k us=>bD c' w' R nh true k t ((x.set i z).get k) us 0) (fun k us hkl hq=>?_) fun b o v a1 a2 _=>hk b o v (by rw [a1]; simp) (by rw [a1]; simp) a2
 rw [nQ]
 by_cases hki:k = i
 · subst hki
   rw [if_pos rfl]
   obtain ⟨v,hold⟩:=JH hy hq
   rw [Nat.zero_add] at hold
   obtain ⟨_,o1,o2,_⟩:=hold
   obtain ⟨hf,o3,_⟩:=o2 rfl
   obtain ⟨k1,k2,k3⟩:=hnew
   have hn:bD c' w' R nh true k (.sl u) y' [gP (nh k (0 + j))] (0 + j):=by
    rw [Nat.zero_add]
    exact ⟨rfl,k1,fun _=>⟨hf,fun ad had=>⟨(o3 ad had).1,fun m hm=>⟨((o3 ad had).2 m hm).1,((k2 ad had).2 m hm).2⟩⟩,fun m hm=>by obtain ⟨us',q1,q2,q3⟩:=k3 m hm; exact ⟨us',q1,bD.NJ hf q2,q3⟩⟩,fun q=>(by cases q)⟩
   obtain ⟨us',q1,_,q3⟩:=bD.set (c':=c') (w':=w') (R':=R) (lD:=nh) hz hq hn fun j' v q vs hne hr'=>hr'.slot hs rfl fun b o v' a1 a2 a3=>⟨a1,hk b o v' (by rw [a1]; simp) (by rw [a1]; simp; omega) a2,(hex b o v' (by rw [a1]; simp) a2 a3).2⟩
   rw [q3 rfl] at q1
   exact q1
 · rw [if_neg hki]
   exact bD.mono hs (fun b o v j' a1 a2 a3=>⟨a1,hk b o v (by rw [a1]; simp) (by rw [a1]; simp; intro q; exact absurd q hki) a2,(hex b o v (by rw [a1]; simp) a2 a3).2⟩) (fun _=>rfl) _ _ _ _ hq
theorem cB.agh {c c':Nat→Nat→Col} {R R':iI} {nh lD:Nat→Nat→bT} {t:Ty} {x:L t.T} {y:t.T} {h:bT} (hr:cB c w R nh (fun _=>true) t x h) {ad:Addr} (had:h.1 = some ad) {i:Nat} (hs:Stays c w c' w')
 (hb:∀ b o v,R b o = some none→w.cell? ⟨b,o,none⟩ = some v→w.frozen? ⟨b,o,none⟩ = false→R' b o = some none ∧ (∃ v',w'.cell? ⟨b,o,none⟩ = some v') ∧ w'.frozen? ⟨b,o,none⟩ = false)
 (hbk:∀ b o v,R b o = some none→¬ (b = ad.block ∧ ad.off + i * t.size≤o ∧ o < ad.off + i * t.size + t.size)→w.cell? ⟨b,o,none⟩ = some v→w'.cell? ⟨b,o,none⟩ = some v)
 (hn:∀ k,k ≠ i→lD k = nh k)
 (hnk:∀ b o v k j,k ≠ i→R b o = some (some (k,j))→w.cell? ⟨b,o,none⟩ = some v→w.frozen? ⟨b,o,none⟩ = false→R' b o = some (some (k,j)) ∧ w'.cell? ⟨b,o,none⟩ = some v ∧ w'.frozen? ⟨b,o,none⟩ = false)
 {us:List Value} (Y0:us.length = t.size) (uf:bD c' w' R' lD true i t y us 0) (huc:∀ (q:Nat) (v:Value),us[q]? = some v→w'.cell? ⟨ad.block,ad.off + i * t.size + q,none⟩ = some v):cB c' w' R' lD (fun _=>true) t (x.set i y) h:=by
 obtain ⟨h1,h2,h3⟩:=hr
 have hcap:x.len≤h.2.2:=h1.2.1
 refine ⟨h1,h2.mono hb,fun k hk=>?_⟩
 have hk:k < x.len:=hk
 simp only [nQ]
 by_cases hki:k = i
 · subst hki
   rw [if_pos rfl]
   exact ⟨us,Y0,uf,fun yB kK q v hq=>by obtain rfl:ad = yB:=by rw [had] at kK; exact Option.some.inj kK
                                        exact huc q v hq⟩
 · rw [if_neg hki]
   obtain ⟨vs,q1,q2,q3⟩:=h3 k hk
   refine ⟨vs,q1,bD.mono hs (fun b o v j a1 a2 a3=>hnk b o v k j hki a1 a2 a3) (fun j=>by rw [hn k hki]) _ _ _ _ q2,fun yB kK q v hq=>?_⟩
   obtain rfl:ad = yB:=by rw [had] at kK; exact Option.some.inj kK
   have MZ:q < t.size:=by rw [← q1]; exact (List.getElem?_eq_some_iff.mp hq).1
   have hR:=((h2 ad had).2 (k * t.size + q) (Nat.lt_of_lt_of_le (iy hk MZ) (Nat.mul_le_mul_right _ hcap))).1
   rw [← Nat.add_assoc] at hR
   refine hbk _ _ v hR ?_ (q3 ad had q v hq)
   rintro ⟨_,p1,p2⟩
   rcases Nat.lt_or_ge k i with hlt | hge
   · have:(k + 1) * t.size≤i * t.size:=Nat.mul_le_mul_right _ hlt
     rw [Nat.add_mul] at this; omega
   · have:(i + 1) * t.size≤k * t.size:=Nat.mul_le_mul_right _ (by omega)
     rw [Nat.add_mul] at this; omega
theorem jJ.both {Q Q':Nat→(u:Ty)→L u.T→bT→Prop} {box:Nat→Option aU}:∀ {t:Ty} {x y:t.T} {us:List Value} {cs:List PV} {j0:Nat},jJ Q t x us j0→Uv Q' t y us j0→cs.length = t.size→∀ id c,(id,c) ∈ zU box t y cs →
 ∃ j u x0 y0 h,j0≤j ∧ j < j0 + t.bJ ∧ Q j u x0 h ∧ Q' j u y0 h ∧ (id,c) ∈ MX box u y0 (dX t cs (j - j0)):=by
 intro t
 induction t with
 | pair p q Iw Iy =>
   rintro x y us cs j0 ⟨v1,v2,e,h1,h2⟩ ⟨u1,u2,e',k1,k2⟩ hl id c hm
   simp only [Ty.size] at hl
   have:v1 = u1 ∧ v2 = u2:=List.append_inj (e.symm.trans e') (by rw [h1.length,k1.length])
   obtain ⟨rfl,rfl⟩:=this
   simp only [zU,List.mem_append] at hm
   rcases hm with hm | hm
   · obtain ⟨j,u,x0,y0,h,l1,l2,l3,l4,l5⟩:=Iw h1 k1 (by rw [List.length_take]; omega) id c hm
     refine ⟨j,u,x0,y0,h,l1,by simp only [Ty.bJ]; omega,l3,l4,?_⟩
     have hb':Nat.blt (j - j0) p.bJ = true:=by rw [Nat.blt_eq]; omega
     simp only [dX,hb',cond_true]
     exact l5
   · obtain ⟨j,u,x0,y0,h,l1,l2,l3,l4,l5⟩:=Iy h2 k2 (by rw [List.length_drop]; omega) id c hm
     refine ⟨j,u,x0,y0,h,by omega,by simp only [Ty.bJ]; omega,l3,l4,?_⟩
     have hb':Nat.blt (j - j0) p.bJ = false:=by rw [Bool.eq_false_iff]; intro q; have:=Nat.blt_eq.mp q; omega
     simp only [dX,hb',cond_false]
     rw [show j - j0 - p.bJ = j - (j0 + p.bJ) by omega]
     exact l5
 | sl u ih =>
   rintro x y us cs j0 ⟨h,rfl,h1⟩ ⟨h',e',k1⟩ hl id c hm
   simp only [List.cons.injEq,and_true] at e'
   obtain rfl:=JM e'
   match cs,hl with
   | [p],_ =>
     exact ⟨j0,u,x,y,h,Nat.le_refl _,by simp [Ty.bJ],h1,k1,by simpa [dX,zU] using hm⟩
 | _=>intro x y us cs j0 _ _ _ id c hm; simp [zU] at hm
end
end Go.VE
