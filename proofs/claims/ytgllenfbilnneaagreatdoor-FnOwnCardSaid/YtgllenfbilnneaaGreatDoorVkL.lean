import Derived.Test.YtgllenfbilnneaaGreatDoorVkK
/- Each operation of the evaluator is what the machine does: rows that take slices in; stores; copy. -/
namespace Go.VE
open Classical in
noncomputable def pQ (R:iI) (i:Nat) (J:Nat→Prop) (C:Nat→Nat→Nat→Prop):iI:=fun b o=>match R b o with
 | some none=>some none
 | some (some (i',j))=>if i' = i ∧ J j then none else some (some (i',j))
 | none=>if h:∃ j,J j ∧ C j b o then some (some (i,Classical.choose h)) else none
theorem bD.slot {c c':Nat→Nat→Col} {w w':World} {R R':iI} {nh lD:Nat→Nat→bT} {own:Bool} {i j:Nat} {u:Ty} {x:L u.T} {vs:List Value} (hs:Stays c w c' w') (hn:lD i j = nh i j)
 (hk:∀ b o v,R b o = some (some (i,j))→w.cell? ⟨b,o,none⟩ = some v→w.frozen? ⟨b,o,none⟩ = false→R' b o = some (some (i,j)) ∧ w'.cell? ⟨b,o,none⟩ = some v ∧ w'.frozen? ⟨b,o,none⟩ = false)
 (h:bD c w R nh own i (.sl u) x vs j):bD c' w' R' lD own i (.sl u) x vs j:=by
 obtain ⟨e,h1,h2,h3⟩:=h
 refine ⟨by rw [hn]; exact e,by rw [hn]; exact h1,fun ho=>?_,fun ho=>bC.mono hs _ _ _ (h3 ho)⟩
 obtain ⟨f,h4,h5⟩:=h2 ho
 rw [hn]
 exact ⟨f,h4.mono fun b o v a1 a2 a3=>by obtain ⟨q1,q2,q3⟩:=hk b o v a1 a2 a3; exact ⟨q1,⟨v,q2⟩,q3⟩,h5.mono h4 h1.2.1 (fun k us _ hr=>bC.flat f hr) fun b o v a1 a2 a3=>(hk b o v a1 a2 a3).2.1⟩
theorem RL:∀ {t:Ty} {x y:t.T} {u:Ty} {z:L u.T} {j:Nat},jP u z t x j = some y→t.yj = true→u.flat = true:=by
 intro t
 induction t with
 | sl u' ih =>
   intro x y u z j h hf
   cases j with
   | succ j=>simp [jP] at h
   | zero =>
     simp only [jP] at h
     split at h
     · rename_i hb
       obtain rfl:=Ty.eq_of_beq hb
       exact hf
     · cases h
 | pair a b iha ihb =>
   intro x y u z j h hf
   simp only [Ty.yj,Bool.and_eq_true] at hf
   simp only [jP] at h
   cases hb:Nat.blt j a.bJ with
   | true =>
     rw [hb] at h
     simp only [cond_true] at h
     split at h
     · rename_i q hq; exact iha hq hf.1
     · cases h
   | false =>
     rw [hb] at h
     simp only [cond_false] at h
     split at h
     · rename_i q hq; exact ihb hq hf.2
     · cases h
 | _=>intro x y u z j h; simp [jP] at h
theorem Cr.wrH {c c':Nat→Nat→Col} {w:World} {R R':iI} {nh lD:Nat→Nat→bT} {u:Ty} {x:L (L u.T)} {y:L u.T} {h:bT} {i:Nat} (hr:Cr c w R nh u x i h) {ad:Addr} (had:h.1 = some ad) {off:Nat} {vs:List Value} (hi:i < x.len) (hfit:off + vs.length≤(Ty.sl u).size)
 (hs:Stays c w c' (w.setCells ad.block (ad.off + i * (Ty.sl u).size + off) vs)) (hR:∀ b o,R b o = some none→R' b o = some none) (hn:∀ k,k ≠ i→lD k = nh k)
 (hRn:∀ b o k j,k ≠ i→R b o = some (some (k,j))→R' b o = some (some (k,j)))
 (hel:∀ us:List Value,us.length = (Ty.sl u).size→bD c' (w.setCells ad.block (ad.off + i * (Ty.sl u).size + off) vs) R' lD true i (.sl u) y (us.take off ++ vs ++ us.drop (off + vs.length)) 0) :
 cB c' (w.setCells ad.block (ad.off + i * (Ty.sl u).size + off) vs) R' lD (ownB none) (.sl u) (x.set i y) h:=by
 obtain ⟨h1,h2,h3⟩:=hr
 have hcap:x.len≤h.2.2:=h1.2.1
 have hin:∀ j,j < vs.length→i * (Ty.sl u).size + off + j < h.2.2 * (Ty.sl u).size:=fun j hj=>by
  have:=Nat.lt_of_lt_of_le (iy (q:=off + j) (sz:=(Ty.sl u).size) hi (by omega)) (Nat.mul_le_mul_right _ hcap)
  omega
 have hcs:=bE (w:=w) (b:=ad.block) (o:=ad.off + i * (Ty.sl u).size + off) (vs:=vs) fun j hj=>by
  obtain ⟨_,⟨v,q⟩,_⟩:=(h2 ad had).2 (i * (Ty.sl u).size + off + j) (hin j hj)
  rw [show ad.off + (i * (Ty.sl u).size + off + j) = ad.off + i * (Ty.sl u).size + off + j by omega] at q
  rw [q]; rfl
 have hother:∀ {b o l},R b o = some (some l)→∀ v,w.cell? ⟨b,o,none⟩ = some v→(w.setCells ad.block (ad.off + i * (Ty.sl u).size + off) vs).cell? ⟨b,o,none⟩ = some v:=by
  intro b o l hl v hv
  rw [hcs,if_neg,hv]
  rintro ⟨rfl,q1,q2⟩
  have:=((h2 ad had).2 (o - ad.off) (by have:=hin (o - (ad.off + i * (Ty.sl u).size + off)) (by omega); omega)).1
  rw [show ad.off + (o - ad.off) = o by omega,hl] at this
  cases this
 refine ⟨h1,fun yB kK=>?_,fun k hk=>?_⟩
 · obtain rfl:ad = yB:=by rw [had] at kK; exact Option.some.inj kK
   refine ⟨(h2 ad had).1,fun k hk=>?_⟩
   obtain ⟨q1,⟨v,q2⟩,q3⟩:=(h2 ad had).2 k hk
   refine ⟨hR _ _ q1,?_,by rw [World.frozen?_setCells]; exact q3⟩
   rw [hcs]
   split
   · exact ⟨_,List.getElem?_eq_getElem (by omega)⟩
   · exact ⟨v,q2⟩
 · have hk':k < x.len:=hk
   obtain ⟨us,q1,q2,q3⟩:=h3 k hk'
   simp only [nQ]
   by_cases hki:k = i
   · subst hki
     rw [if_pos rfl]
     refine ⟨_,by simp; omega,hel us q1,fun yB kK q v hq=>?_⟩
     obtain rfl:ad = yB:=by rw [had] at kK; exact Option.some.inj kK
     rw [hcs]
     rw [iQ _ _ _ (by omega)] at hq
     by_cases hw:off≤q ∧ q < off + vs.length
     · rw [if_pos hw] at hq
       rw [if_pos ⟨rfl,by omega,by omega⟩,← hq]
       congr 1; omega
     · rw [if_neg hw] at hq
       rw [if_neg (by omega)]
       exact q3 ad had q v hq
   · rw [if_neg hki]
     refine ⟨us,q1,?_,fun yB kK q v hq=>?_⟩
     · exact bD.mono hs (fun b o v j a1 a2 a3=>⟨hRn b o k j hki a1,hother a1 v a2,by rw [World.frozen?_setCells]; exact a3⟩) (fun j=>by rw [hn k hki]) _ _ _ _ (q2 hki)
     · obtain rfl:ad = yB:=by rw [had] at kK; exact Option.some.inj kK
       have MZ:q < (Ty.sl u).size:=by rw [← q1]; exact (List.getElem?_eq_some_iff.mp hq).1
       rw [hcs,if_neg]
       · exact q3 ad had q v hq
       · rintro ⟨_,p1,p2⟩
         rcases Nat.lt_or_ge k i with hlt | hge
         · have:(k + 1) * (Ty.sl u).size≤i * (Ty.sl u).size:=Nat.mul_le_mul_right _ hlt
           rw [Nat.add_mul] at this; omega
         · have:(i + 1) * (Ty.sl u).size≤k * (Ty.sl u).size:=Nat.mul_le_mul_right _ (by omega)
           rw [Nat.add_mul] at this; omega
section
variable {P:Program} {N:Fr} {c0:Nat→Nat→Col} {w0:World} {σ μ:AS} {g:Gh} {a:Act} {w w':World}
theorem bO.NK (h:bO N c0 w0 σ g a w) {id:Nat} {t:Ty} {x:L t.T} {own:Option (Nat→Bool)} {hv nv:Nat} (hb:σ.box id = some (.row t x own hv nv)) (hmv:jI id = true) {ad:Addr} (had:(g.hd id hv).1 = some ad) {i off:Nat} {vs:List Value} (hi:i < x.len) (hfit:off + vs.length≤t.size)
 {tk:List Nat} (htk:Rows σ tk) (hnd:(id::tk).Nodup) {box:Nat→Option aU} (fM:∀ r ∈ tk,box r = σ.box r) {J:Nat→Prop} {ids:Nat→List Nat} {hf:Nat→bT} (NP:∀ j,J j→∀ r ∈ ids j,r ∈ tk) (hinj:∀ j j' r,J j→J j'→r ∈ ids j→r ∈ ids j'→j = j')
 {y:t.T} {own':Option (Nat→Bool)} (ho:∀ k,k ≠ i→ownB own' k = ownB own k)
 (hel:∀ (c':Nat→Nat→Col) (w':World) (R':iI) (lD:Nat→Nat→bT),Stays g.col w c' w'→(∀ j,J j→lD i j = hf j)→(∀ j,¬ J j→lD i j = g.nh id nv i j) →
  (∀ j,J j→∀ b o,(∃ r ∈ ids j,g.col b o = .bx r)→∀ v,w.cell? ⟨b,o,none⟩ = some v→w.frozen? ⟨b,o,none⟩ = false→R' b o = some (some (i,j)) ∧ w'.cell? ⟨b,o,none⟩ = some v ∧ w'.frozen? ⟨b,o,none⟩ = false) →
  (∀ j,¬ J j→∀ b o v,g.R id b o = some (some (i,j))→w.cell? ⟨b,o,none⟩ = some v→w.frozen? ⟨b,o,none⟩ = false→R' b o = some (some (i,j)) ∧ w'.cell? ⟨b,o,none⟩ = some v ∧ w'.frozen? ⟨b,o,none⟩ = false) →
  ∀ us,us.length = t.size→bD g.col w (g.R id) (g.nh id nv) (ownB own i) i t (x.get i) us 0→bD c' w' R' lD (ownB own' i) i t y (us.take off ++ vs ++ us.drop (off + vs.length)) 0)
 {dst:Option Nat} (hd:dZ N dst = true):∃ g',bO N c0 w0 (σ.app dst { v:=.any,bx:=(id,.row t (x.set i y) own' hv (nv + 1))::tk.map (gQ box) }) g' (a.put dst undef) (w.setCells ad.block (ad.off + i * t.size + off) vs):=by
 have hat:=Iz h hb had hi hfit
 obtain ⟨d1,d2,d3,d4,d5⟩:=h.box _ _ hb
 obtain ⟨t1,t2⟩:=dM h hb
 have sj:¬ g.db id:=dL h hb rfl
 have hnotin:id ∉ tk:=(List.nodup_cons.mp hnd).1
 have hcs:=bE (w:=w) (b:=ad.block) (o:=ad.off + i * t.size + off) (vs:=vs) fun j hj=>(hat j hj).2.1
 have hbase:∀ j,j < vs.length→g.R id ad.block (ad.off + i * t.size + off + j) = some none:=fun j hj=>by
  have:=Nat.lt_of_lt_of_le (iy (q:=off + j) (sz:=t.size) hi (by omega)) (Nat.mul_le_mul_right _ d4.1.2.1)
  have:=((d4.2.1 ad had).2 (i * t.size + off + j) (by omega)).1
  rwa [show ad.off + (i * t.size + off + j) = ad.off + i * t.size + off + j by omega] at this
 have hun:∀ b o v,(g.R id b o ≠ some none)→w.cell? ⟨b,o,none⟩ = some v→w.frozen? ⟨b,o,none⟩ = false→(w.setCells ad.block (ad.off + i * t.size + off) vs).cell? ⟨b,o,none⟩ = some v ∧ (w.setCells ad.block (ad.off + i * t.size + off) vs).frozen? ⟨b,o,none⟩ = false:=fun b o v hR hv hf=>by
  refine ⟨?_,by rw [World.frozen?_setCells]; exact hf⟩
  rw [hcs,if_neg,hv]
  rintro ⟨rfl,q1,q2⟩
  have:=hbase (o - (ad.off + i * t.size + off)) (by omega)
  rw [show ad.off + i * t.size + off + (o - (ad.off + i * t.size + off)) = o by omega] at this
  exact hR this
 have hw:Wr g (id::tk) w (w.setCells ad.block (ad.off + i * t.size + off) vs):=(qm (k:=id) fun j hj=>⟨(hat j hj).1,(hat j hj).2.1⟩).mono fun k hk=>by rw [List.mem_singleton.mp hk]; simp
 let C:Nat→Nat→Nat→Prop:=fun j b o=>(∃ r ∈ ids j,g.col b o = .bx r) ∧ (∃ v,w.cell? ⟨b,o,none⟩ = some v) ∧ w.frozen? ⟨b,o,none⟩ = false
 let n:iZ:={ id:=id,hv:=hv,nv:=nv + 1,hd:=g.hd id hv,nh:=open Classical in fun i' j=>if i' = i ∧ J j then hf j else g.nh id nv i' j,ni:=x.len,R:=pQ (g.R id) i J C }
 have hC:∀ j b o,J j→C j b o→g.R id b o = none:=fun j b o hj hc=>by
  obtain ⟨⟨r,r1,r2⟩,_⟩:=hc
  cases hR:g.R id b o with
  | none=>rfl
  | some l =>
    have:=(d5 b o (by rw [hR]; simp)).1
    rw [r2] at this; cases this
    exact absurd (NP j hj _ r1) hnotin
 have Ap:∀ b o,n.R b o ≠ none→g.R id b o ≠ none ∨ ∃ j,J j ∧ C j b o:=fun b o hr=>by
  have hr:pQ (g.R id) i J C b o ≠ none:=hr
  unfold pQ at hr
  split at hr
  · rename_i e; left; rw [e]; simp
  · rename_i e; left; rw [e]; simp
  · split at hr
    · exact .inr (by assumption)
    · exact absurd rfl hr
 have NQ:∀ j b o,J j→C j b o→n.R b o = some (some (i,j)):=fun j b o hj hc=>by
  have hex:∃ j,J j ∧ C j b o:=⟨j,hj,hc⟩
  have e:pQ (g.R id) i J C b o = some (some (i,Classical.choose hex)):=by
   unfold pQ
   rw [hC j b o hj hc]
   exact dif_pos hex
  have hsp:=Classical.choose_spec hex
  obtain ⟨⟨r,r1,r2⟩,_⟩:=hc
  obtain ⟨⟨r',r1',r2'⟩,_⟩:=hsp.2
  rw [r2] at r2'; cases r2'
  have:=hinj _ _ r hj hsp.1 r1 r1'
  rw [← this] at e
  exact e
 have FM:∀ b o k j,¬ (k = i ∧ J j)→g.R id b o = some (some (k,j))→n.R b o = some (some (k,j)):=fun b o k j hk hR=>by
  show pQ _ _ _ _ b o = _
  unfold pQ
  rw [hR]
  exact if_neg hk
 have hbx:(((id,aU.row t (x.set i y) own' hv (nv + 1))::tk.map (gQ box)).map (·.1)) = id::tk:=by simp only [List.map_cons,gB]
 refine ⟨jT g [n] (id::tk),(h.upd [n] (id::tk) ((id,.row t (x.set i y) own' hv (nv + 1))::tk.map (gQ box)) (w':=w.setCells ad.block (ad.off + i * t.size + off) vs) (p:=.any) (v:=undef) ?_ ?_ ?_ (by simp) ?_ ?_ (by rw [hbx]; exact hw.cell) hw.uD (by rw [hbx]; exact hw.blk) hw.none hw.os ?_ ?_ hd (fun _=>by simp only [aF])).2⟩
 · rw [hbx]; exact hnd
 · intro k hk
   rw [hbx]
   refine ⟨hk,?_⟩
   rcases List.mem_cons.mp hk with rfl | hk
   · exact ⟨eG hmv,sj⟩
   · obtain ⟨q1,t',x',o',h0,n0,q2⟩:=htk k hk
     exact ⟨eG q1,dL h q2 rfl⟩
 · intro m hm
   rw [List.mem_singleton.mp hm]
   simp [n]
 · intro m hm
   rw [List.mem_singleton.mp hm]
   exact ⟨fun u hu=>by have:=t1 u hu; rcases Nat.lt_or_ge u hv with q | q; exact .inl q; exact .inr ⟨Nat.le_antisymm this q,by rw [Nat.le_antisymm this q]; rfl⟩,fun u hu=>.inl (Nat.lt_succ_of_le (t2 u hu))⟩
 · intro m hm b o hr
   rw [List.mem_singleton.mp hm] at hr
   left
   rcases Ap b o hr with q | ⟨j,hj,⟨r,r1,r2⟩,_⟩
   · exact ⟨id,by simp,(d5 b o q).1⟩
   · exact ⟨r,by simp [NP j hj r r1],r2⟩
 · intro k c hm
   right
   rcases List.mem_cons.mp hm with e | hm
   · cases e
     exact ⟨sj,rfl,t1,fun u hu=>Nat.le_succ_of_le (t2 u hu),fun m hm _=>by rw [List.mem_singleton.mp hm]; exact ⟨Nat.le_refl _,Nat.le_refl _⟩⟩
   · exact (nP h htk fM (ns:=[n]) (fun m hm=>by rw [List.mem_singleton.mp hm]; exact hnotin) hm).1
 · intro hst k c hm
   rcases List.mem_cons.mp hm with e | hm
   · cases e
     have eh:=qb (g:=g) (F:=id::tk) (ns:=[n]) (by simp) (List.mem_singleton.mpr rfl)
     have en:=sW (g:=g) (F:=id::tk) (ns:=[n]) (by simp) (List.mem_singleton.mpr rfl)
     have eR:=Cu (g:=g) (F:=id::tk) (ns:=[n]) (by simp) (List.mem_singleton.mpr rfl)
     refine ⟨.inl ⟨n,by simp,rfl,rfl⟩,.inl ⟨n,by simp,rfl,rfl⟩,en.2,?_,fun b o hr=>?_⟩
     · have VD:(jT g [n] (id::tk)).hd id hv = g.hd id hv:=eh
       have en':(jT g [n] (id::tk)).nh id (nv + 1) = n.nh:=en.1
       have VF:(jT g [n] (id::tk)).R id = n.R:=eR
       rw [VD,en',VF]
       refine d4.wrE had hi hfit hst.toStays (fun b o q=>?_) ho (fun k hk=>?_) (fun b o k j hk hR=>FM b o k j (fun q=>hk q.1) hR) ?_
       · show pQ _ _ _ _ b o = _
         unfold pQ
         rw [q]
       · funext j
         exact if_neg fun q=>hk q.1
       · refine hel _ _ _ _ hst.toStays (fun j hj=>if_pos ⟨rfl,hj⟩) (fun j hj=>if_neg fun q=>hj q.2) (fun j hj b o hc v hv hfr=>?_) fun j hj b o v hR hv hfr=>?_
         · have hcc:C j b o:=⟨hc,⟨v,hv⟩,hfr⟩
           exact ⟨NQ j b o hj hcc,hun b o v (by rw [hC j b o hj hcc]; simp) hv hfr⟩
         · exact ⟨FM b o i j (fun q=>hj q.2) hR,hun b o v (by rw [hR]; simp) hv hfr⟩
     · have hr:n.R b o ≠ none:=by have e:(jT g [n] (id::tk)).R id = n.R:=eR; rwa [e] at hr
       refine ⟨qZ (ns:=[n]) (fun m1 h1 m2 h2 hne=>absurd (by rw [List.mem_singleton.mp h1,List.mem_singleton.mp h2]) hne) (List.mem_singleton.mpr rfl) hr,?_⟩
       have hex:(∃ v,w.cell? ⟨b,o,none⟩ = some v) ∧ w.frozen? ⟨b,o,none⟩ = false:=by
        rcases Ap b o hr with q | ⟨j,_,_,q⟩
        · exact (d5 b o q).2
        · exact q
       obtain ⟨⟨v,hv⟩,hfr⟩:=hex
       refine ⟨?_,by rw [World.frozen?_setCells]; exact hfr⟩
       rw [hcs]
       split
       · exact ⟨_,List.getElem?_eq_getElem (by omega)⟩
       · exact ⟨v,hv⟩
   · obtain ⟨_,h0,n0,rfl⟩:=nP h htk fM (ns:=[]) (fun m hm=>by cases hm) hm
     exact trivial
theorem NR (h:bO N c0 w0 σ g a w) {id:Nat} {u:Ty} {x:L (L u.T)} {i' hv nv:Nat} (hb:σ.box id = some (.hol u x i' hv nv)) {ad:Addr} (had:(g.hd id hv).1 = some ad) {i off n:Nat} (hi:i < x.len) (hfit:off + n≤(Ty.sl u).size) :
 ∀ j,j < n→g.col ad.block (ad.off + i * (Ty.sl u).size + off + j) = .bx id ∧ (w.cell? ⟨ad.block,ad.off + i * (Ty.sl u).size + off + j,none⟩).isSome = true ∧ w.frozen? ⟨ad.block,ad.off + i * (Ty.sl u).size + off + j,none⟩ = false:=fun j hj=>by
 obtain ⟨_,_,_,⟨h1,h2,h3⟩,h4⟩:=h.box _ _ hb
 have:=Nat.lt_of_lt_of_le (iy (q:=off + j) (sz:=(Ty.sl u).size) hi (by omega)) (Nat.mul_le_mul_right _ h1.2.1)
 obtain ⟨q1,⟨v,q2⟩,q3⟩:=(h2 ad had).2 (i * (Ty.sl u).size + off + j) (by omega)
 rw [show ad.off + (i * (Ty.sl u).size + off + j) = ad.off + i * (Ty.sl u).size + off + j by omega] at q1 q2 q3
 exact ⟨(h4 _ _ (by rw [q1]; simp)).1,by rw [q2]; rfl,q3⟩
theorem bO.fill (h:bO N c0 w0 σ g a w) {id:Nat} {u:Ty} {x:L (L u.T)} {i hv nv:Nat} (hb:σ.box id = some (.hol u x i hv nv)) (hmv:jI id = true) {ad:Addr} (had:(g.hd id hv).1 = some ad) {off:Nat} {vs:List Value} (hi:i < x.len) (hfit:off + vs.length≤(Ty.sl u).size)
 {tk:List Nat} (htk:Rows σ tk) (hnd:(id::tk).Nodup) {box:Nat→Option aU} (fM:∀ r ∈ tk,box r = σ.box r) {J:Nat→Prop} {ids:Nat→List Nat} {hf:Nat→bT} (NP:∀ j,J j→∀ r ∈ ids j,r ∈ tk) (hinj:∀ j j' r,J j→J j'→r ∈ ids j→r ∈ ids j'→j = j')
 {y:L u.T}
 (hel:∀ (c':Nat→Nat→Col) (w':World) (R':iI) (lD:Nat→Nat→bT),Stays g.col w c' w'→(∀ j,J j→lD i j = hf j)→(∀ j,¬ J j→lD i j = g.nh id nv i j) →
  (∀ j,J j→∀ b o,(∃ r ∈ ids j,g.col b o = .bx r)→∀ v,w.cell? ⟨b,o,none⟩ = some v→w.frozen? ⟨b,o,none⟩ = false→R' b o = some (some (i,j)) ∧ w'.cell? ⟨b,o,none⟩ = some v ∧ w'.frozen? ⟨b,o,none⟩ = false) →
  (∀ j,¬ J j→∀ b o v,g.R id b o = some (some (i,j))→w.cell? ⟨b,o,none⟩ = some v→w.frozen? ⟨b,o,none⟩ = false→R' b o = some (some (i,j)) ∧ w'.cell? ⟨b,o,none⟩ = some v ∧ w'.frozen? ⟨b,o,none⟩ = false) →
  ∀ us:List Value,us.length = (Ty.sl u).size→bD c' w' R' lD true i (.sl u) y (us.take off ++ vs ++ us.drop (off + vs.length)) 0)
 {dst:Option Nat} (hd:dZ N dst = true):∃ g',bO N c0 w0 (σ.app dst { v:=.any,bx:=(id,.row (.sl u) (x.set i y) none hv (nv + 1))::tk.map (gQ box) }) g' (a.put dst undef) (w.setCells ad.block (ad.off + i * (Ty.sl u).size + off) vs):=by
 have hat:=NR h hb had hi hfit
 obtain ⟨d1,d2,d3,d4,d5⟩:=h.box _ _ hb
 obtain ⟨t1,t2⟩:=dM h hb
 have sj:¬ g.db id:=dL h hb rfl
 have hnotin:id ∉ tk:=(List.nodup_cons.mp hnd).1
 have hcs:=bE (w:=w) (b:=ad.block) (o:=ad.off + i * (Ty.sl u).size + off) (vs:=vs) fun j hj=>(hat j hj).2.1
 have hbase:∀ j,j < vs.length→g.R id ad.block (ad.off + i * (Ty.sl u).size + off + j) = some none:=fun j hj=>by
  have:=Nat.lt_of_lt_of_le (iy (q:=off + j) (sz:=(Ty.sl u).size) hi (by omega)) (Nat.mul_le_mul_right _ d4.1.2.1)
  have:=((d4.2.1 ad had).2 (i * (Ty.sl u).size + off + j) (by omega)).1
  rwa [show ad.off + (i * (Ty.sl u).size + off + j) = ad.off + i * (Ty.sl u).size + off + j by omega] at this
 have hun:∀ b o v,(g.R id b o ≠ some none)→w.cell? ⟨b,o,none⟩ = some v→w.frozen? ⟨b,o,none⟩ = false→(w.setCells ad.block (ad.off + i * (Ty.sl u).size + off) vs).cell? ⟨b,o,none⟩ = some v ∧ (w.setCells ad.block (ad.off + i * (Ty.sl u).size + off) vs).frozen? ⟨b,o,none⟩ = false:=fun b o v hR hv hf=>by
  refine ⟨?_,by rw [World.frozen?_setCells]; exact hf⟩
  rw [hcs,if_neg,hv]
  rintro ⟨rfl,q1,q2⟩
  have:=hbase (o - (ad.off + i * (Ty.sl u).size + off)) (by omega)
  rw [show ad.off + i * (Ty.sl u).size + off + (o - (ad.off + i * (Ty.sl u).size + off)) = o by omega] at this
  exact hR this
 have hw:Wr g (id::tk) w (w.setCells ad.block (ad.off + i * (Ty.sl u).size + off) vs):=(qm (k:=id) fun j hj=>⟨(hat j hj).1,(hat j hj).2.1⟩).mono fun k hk=>by rw [List.mem_singleton.mp hk]; simp
 let C:Nat→Nat→Nat→Prop:=fun j b o=>(∃ r ∈ ids j,g.col b o = .bx r) ∧ (∃ v,w.cell? ⟨b,o,none⟩ = some v) ∧ w.frozen? ⟨b,o,none⟩ = false
 let n:iZ:={ id:=id,hv:=hv,nv:=nv + 1,hd:=g.hd id hv,nh:=open Classical in fun i' j=>if i' = i ∧ J j then hf j else g.nh id nv i' j,ni:=x.len,R:=pQ (g.R id) i J C }
 have hC:∀ j b o,J j→C j b o→g.R id b o = none:=fun j b o hj hc=>by
  obtain ⟨⟨r,r1,r2⟩,_⟩:=hc
  cases hR:g.R id b o with
  | none=>rfl
  | some l =>
    have:=(d5 b o (by rw [hR]; simp)).1
    rw [r2] at this; cases this
    exact absurd (NP j hj _ r1) hnotin
 have Ap:∀ b o,n.R b o ≠ none→g.R id b o ≠ none ∨ ∃ j,J j ∧ C j b o:=fun b o hr=>by
  have hr:pQ (g.R id) i J C b o ≠ none:=hr
  unfold pQ at hr
  split at hr
  · rename_i e; left; rw [e]; simp
  · rename_i e; left; rw [e]; simp
  · split at hr
    · exact .inr (by assumption)
    · exact absurd rfl hr
 have NQ:∀ j b o,J j→C j b o→n.R b o = some (some (i,j)):=fun j b o hj hc=>by
  have hex:∃ j,J j ∧ C j b o:=⟨j,hj,hc⟩
  have e:pQ (g.R id) i J C b o = some (some (i,Classical.choose hex)):=by
   unfold pQ
   rw [hC j b o hj hc]
   exact dif_pos hex
  have hsp:=Classical.choose_spec hex
  obtain ⟨⟨r,r1,r2⟩,_⟩:=hc
  obtain ⟨⟨r',r1',r2'⟩,_⟩:=hsp.2
  rw [r2] at r2'; cases r2'
  have:=hinj _ _ r hj hsp.1 r1 r1'
  rw [← this] at e
  exact e
 have FM:∀ b o k j,¬ (k = i ∧ J j)→g.R id b o = some (some (k,j))→n.R b o = some (some (k,j)):=fun b o k j hk hR=>by
  show pQ _ _ _ _ b o = _
  unfold pQ
  rw [hR]
  exact if_neg hk
 have hbx:(((id,aU.row (.sl u) (x.set i y) none hv (nv + 1))::tk.map (gQ box)).map (·.1)) = id::tk:=by simp only [List.map_cons,gB]
 refine ⟨jT g [n] (id::tk),(h.upd [n] (id::tk) ((id,.row (.sl u) (x.set i y) none hv (nv + 1))::tk.map (gQ box)) (w':=w.setCells ad.block (ad.off + i * (Ty.sl u).size + off) vs) (p:=.any) (v:=undef) ?_ ?_ ?_ (by simp) ?_ ?_ (by rw [hbx]; exact hw.cell) hw.uD (by rw [hbx]; exact hw.blk) hw.none hw.os ?_ ?_ hd (fun _=>by simp only [aF])).2⟩
 · rw [hbx]; exact hnd
 · intro k hk
   rw [hbx]
   refine ⟨hk,?_⟩
   rcases List.mem_cons.mp hk with rfl | hk
   · exact ⟨eG hmv,sj⟩
   · obtain ⟨q1,t',x',o',h0,n0,q2⟩:=htk k hk
     exact ⟨eG q1,dL h q2 rfl⟩
 · intro m hm
   rw [List.mem_singleton.mp hm]
   simp [n]
 · intro m hm
   rw [List.mem_singleton.mp hm]
   exact ⟨fun u hu=>by have:=t1 u hu; rcases Nat.lt_or_ge u hv with q | q; exact .inl q; exact .inr ⟨Nat.le_antisymm this q,by rw [Nat.le_antisymm this q]; rfl⟩,fun u hu=>.inl (Nat.lt_succ_of_le (t2 u hu))⟩
 · intro m hm b o hr
   rw [List.mem_singleton.mp hm] at hr
   left
   rcases Ap b o hr with q | ⟨j,hj,⟨r,r1,r2⟩,_⟩
   · exact ⟨id,by simp,(d5 b o q).1⟩
   · exact ⟨r,by simp [NP j hj r r1],r2⟩
 · intro k c hm
   right
   rcases List.mem_cons.mp hm with e | hm
   · cases e
     exact ⟨sj,rfl,t1,fun u hu=>Nat.le_succ_of_le (t2 u hu),fun m hm _=>by rw [List.mem_singleton.mp hm]; exact ⟨Nat.le_refl _,Nat.le_refl _⟩⟩
   · exact (nP h htk fM (ns:=[n]) (fun m hm=>by rw [List.mem_singleton.mp hm]; exact hnotin) hm).1
 · intro hst k c hm
   rcases List.mem_cons.mp hm with e | hm
   · cases e
     have eh:=qb (g:=g) (F:=id::tk) (ns:=[n]) (by simp) (List.mem_singleton.mpr rfl)
     have en:=sW (g:=g) (F:=id::tk) (ns:=[n]) (by simp) (List.mem_singleton.mpr rfl)
     have eR:=Cu (g:=g) (F:=id::tk) (ns:=[n]) (by simp) (List.mem_singleton.mpr rfl)
     refine ⟨.inl ⟨n,by simp,rfl,rfl⟩,.inl ⟨n,by simp,rfl,rfl⟩,en.2,?_,fun b o hr=>?_⟩
     · have VD:(jT g [n] (id::tk)).hd id hv = g.hd id hv:=eh
       have en':(jT g [n] (id::tk)).nh id (nv + 1) = n.nh:=en.1
       have VF:(jT g [n] (id::tk)).R id = n.R:=eR
       rw [VD,en',VF]
       refine d4.wrH had hi hfit hst.toStays (fun b o q=>?_) (fun k hk=>?_) (fun b o k j hk hR=>FM b o k j (fun q=>hk q.1) hR) ?_
       · show pQ _ _ _ _ b o = _
         unfold pQ
         rw [q]
       · funext j
         exact if_neg fun q=>hk q.1
       · refine hel _ _ _ _ hst.toStays (fun j hj=>if_pos ⟨rfl,hj⟩) (fun j hj=>if_neg fun q=>hj q.2) (fun j hj b o hc v hv hfr=>?_) fun j hj b o v hR hv hfr=>?_
         · have hcc:C j b o:=⟨hc,⟨v,hv⟩,hfr⟩
           exact ⟨NQ j b o hj hcc,hun b o v (by rw [hC j b o hj hcc]; simp) hv hfr⟩
         · exact ⟨FM b o i j (fun q=>hj q.2) hR,hun b o v (by rw [hR]; simp) hv hfr⟩
     · have hr:n.R b o ≠ none:=by have e:(jT g [n] (id::tk)).R id = n.R:=eR; rwa [e] at hr
       refine ⟨qZ (ns:=[n]) (fun m1 h1 m2 h2 hne=>absurd (by rw [List.mem_singleton.mp h1,List.mem_singleton.mp h2]) hne) (List.mem_singleton.mpr rfl) hr,?_⟩
       have hex:(∃ v,w.cell? ⟨b,o,none⟩ = some v) ∧ w.frozen? ⟨b,o,none⟩ = false:=by
        rcases Ap b o hr with q | ⟨j,_,_,q⟩
        · exact (d5 b o q).2
        · exact q
       obtain ⟨⟨v,hv⟩,hfr⟩:=hex
       refine ⟨?_,by rw [World.frozen?_setCells]; exact hfr⟩
       rw [hcs]
       split
       · exact ⟨_,List.getElem?_eq_getElem (by omega)⟩
       · exact ⟨v,hv⟩
   · obtain ⟨_,h0,n0,rfl⟩:=nP h htk fM (ns:=[]) (fun m hm=>by cases hm) hm
     exact trivial
theorem bD.ofT {c c':Nat→Nat→Col} {w w':World} {R:iI} {nh:Nat→Nat→bT} {own:Bool} {i:Nat}:∀ {t:Ty} {x:t.T} {vs:List Value} {j:Nat},t.flat = true→bC c w t x vs→bD c' w' R nh own i t x vs j:=by
 intro t
 induction t with
 | int k=>exact fun _ h=>h
 | bool=>exact fun _ h=>h
 | str=>exact fun _ h=>h
 | unit=>exact fun _ h=>h
 | pair a b iha ihb =>
   rintro x vs j hf ⟨v1,v2,e,h1,h2⟩
   simp only [Ty.flat,Bool.and_eq_true] at hf
   exact ⟨v1,v2,e,iha hf.1 h1,ihb hf.2 h2⟩
 | sl t ih=>intro x vs j hf; simp [Ty.flat] at hf
theorem bO.extract (h:bO N c0 w0 σ g a w) {id:Nat} {u:Ty} {x:L (L u.T)} {hv nv:Nat} (hb:σ.box id = some (.row (.sl u) x none hv nv)) (hmv:jI id = true) {i:Nat} (hi:i < x.len) {d hh n:Nat} (hd:d < bF) (hne:id ≠ d) (hnx:sJ σ.box d = some (hh,n)) :
 ∃ g',bV g w g' w ∧ bO N c0 w0 { σ with box:=Go.VE.upd (Go.VE.upd σ.box id (some (.hol u x i hv nv))) d (some (.row u (x.get i) none hh n)) } g' a w ∧ g'.dh d hh ∧ g'.hd d hh = g.nh id nv i 0:=by
 obtain ⟨d1,d2,d3,d4,d5⟩:=h.box _ _ hb
 obtain ⟨t1,t2⟩:=dM h hb
 have sj:¬ g.db id:=dL h hb rfl
 obtain ⟨f1,f2,f3⟩:=gY h hnx
 have hmd:jI d = true:=by unfold jI; simp [hd]
 let nI:iZ:={ id:=id,hv:=hv,nv:=nv,hd:=g.hd id hv,nh:=g.nh id nv,ni:=x.len,R:=open Classical in fun b o=>if g.R id b o = some (some (i,0)) then none else g.R id b o }
 let nM:iZ:={ id:=d,hv:=hh,nv:=n,hd:=g.nh id nv i 0,nh:=fun _ _=>(none,0,0),ni:=(x.get i).len,R:=open Classical in fun b o=>if g.R id b o = some (some (i,0)) then some none else none }
 have hRI:∀ b o,nI.R b o ≠ none→g.R id b o ≠ none ∧ g.R id b o ≠ some (some (i,0)):=fun b o hr=>by
  have hr:(if g.R id b o = some (some (i,0)) then none else g.R id b o) ≠ none:=hr
  split at hr
  · exact absurd rfl hr
  · rename_i q; exact ⟨hr,q⟩
 have hRM:∀ b o,nM.R b o ≠ none→g.R id b o = some (some (i,0)):=fun b o hr=>by
  have hr:(if g.R id b o = some (some (i,0)) then some (none:Option (Nat×Nat)) else none) ≠ none:=hr
  split at hr
  · assumption
  · exact absurd rfl hr
 have Y1:∀ b o l,g.R id b o = some l→l ≠ some (i,0)→nI.R b o = some l:=fun b o l hl hn=>by
  show (if g.R id b o = some (some (i,0)) then none else g.R id b o) = _
  rw [if_neg (by rw [hl]; simpa using hn),hl]
 have agb:∀ b o,g.R id b o = some (some (i,0))→nM.R b o = some none:=fun b o hl=>if_pos hl
 have hnn:([nI,nM].map (·.id)).Nodup:=by simp [nI,nM,hne]
 have Ag:∀ m ∈ [nI,nM],∀ m' ∈ [nI,nM],m.id ≠ m'.id→∀ b o,m.R b o ≠ none→m'.R b o = none:=by
  intro m hm m' hm' hmm b o hr
  simp only [List.mem_cons,List.not_mem_nil,or_false] at hm hm'
  rcases hm with rfl | rfl <;> rcases hm' with rfl | rfl
  · exact absurd rfl hmm
  · exact if_neg (hRI b o hr).2
  · exact if_pos (hRM b o hr)
  · exact absurd rfl hmm
 have hI:nI ∈ [nI,nM]:=by simp
 have hM:nM ∈ [nI,nM]:=by simp
 have key:=h.upd (w':=w) [nI,nM] [id,d] [(id,.hol u x i hv nv),(d,.row u (x.get i) none hh n)] (by simp [hne])
  (fun k hk=>by
   simp only [List.mem_cons,List.not_mem_nil,or_false] at hk
   rcases hk with rfl | rfl
   · exact ⟨by simp,eG hmv,sj⟩
   · exact ⟨by simp,eG hmd,f1⟩)
  (fun m hm=>by
   simp only [List.mem_cons,List.not_mem_nil,or_false] at hm
   rcases hm with rfl | rfl <;> simp [nI,nM]) hnn
  (fun m hm=>by
   simp only [List.mem_cons,List.not_mem_nil,or_false] at hm
   rcases hm with rfl | rfl
   · exact ⟨fun v hv'=>by have:=t1 v hv'; rcases Nat.lt_or_ge v hv with q | q; exact .inl q; exact .inr ⟨Nat.le_antisymm this q,by rw [Nat.le_antisymm this q]; rfl⟩,fun v hv'=>by have:=t2 v hv'; rcases Nat.lt_or_ge v nv with q | q; exact .inl q; exact .inr ⟨Nat.le_antisymm this q,by rw [Nat.le_antisymm this q]; rfl,by rw [Nat.le_antisymm this q]; exact d3⟩⟩
   · exact ⟨fun v hv'=>.inl (f2 v hv'),fun v hv'=>.inl (f3 v hv')⟩)
  (fun m hm b o hr=>by
   simp only [List.mem_cons,List.not_mem_nil,or_false] at hm
   left
   rcases hm with rfl | rfl
   · exact ⟨id,by simp,(d5 b o (hRI b o hr).1).1⟩
   · exact ⟨id,by simp,(d5 b o (by rw [hRM b o hr]; simp)).1⟩)
  (fun _ _ _ h _=>h) ⟨fun _ _ _=>rfl,fun _ o h=>dH h o⟩ (fun _ _ h _=>h) (fun _ _ _=>rfl) ⟨rfl,rfl,rfl,Nat.le_refl _⟩
  (fun k c hm=>by
   right
   simp only [List.mem_cons,List.not_mem_nil,or_false,Prod.mk.injEq] at hm
   rcases hm with ⟨rfl,rfl⟩ | ⟨rfl,rfl⟩
   · refine ⟨sj,rfl,t1,t2,fun m hm hmid=>?_⟩
     simp only [List.mem_cons,List.not_mem_nil,or_false] at hm
     rcases hm with rfl | rfl
     · exact ⟨Nat.le_refl _,Nat.le_refl _⟩
     · exact absurd hmid.symm hne
   · refine ⟨f1,rfl,fun v hv'=>Nat.le_of_lt (f2 v hv'),fun v hv'=>Nat.le_of_lt (f3 v hv'),fun m hm hmid=>?_⟩
     simp only [List.mem_cons,List.not_mem_nil,or_false] at hm
     rcases hm with rfl | rfl
     · exact absurd hmid hne
     · exact ⟨Nat.le_refl _,Nat.le_refl _⟩)
  (fun hst k c hm=>by
   simp only [List.mem_cons,List.not_mem_nil,or_false,Prod.mk.injEq] at hm
   obtain ⟨h1,h2,h3⟩:=d4
   rcases hm with ⟨rfl,rfl⟩ | ⟨rfl,rfl⟩
   · have eh:=qb (g:=g) (F:=[k,d]) hnn hI
     have en:=sW (g:=g) (F:=[k,d]) hnn hI
     have eR:=Cu (g:=g) (F:=[k,d]) hnn hI
     refine ⟨.inl ⟨nI,hI,rfl,rfl⟩,.inl ⟨nI,hI,rfl,rfl⟩,en.2,?_,fun b o hr=>?_⟩
     · have VD:(jT g [nI,nM] [k,d]).hd k hv = g.hd k hv:=eh
       have en':(jT g [nI,nM] [k,d]).nh k nv = g.nh k nv:=en.1
       have VF:(jT g [nI,nM] [k,d]).R k = nI.R:=eR
       rw [VD,en',VF]
       refine ⟨h1,h2.mono fun b o v a1 a2 a3=>⟨Y1 b o _ a1 (by simp),⟨v,a2⟩,a3⟩,fun m hm=>?_⟩
       obtain ⟨us,q1,q2,q3⟩:=h3 m hm
       exact ⟨us,q1,fun hki=>bD.mono hst.toStays (fun b o v j a1 a2 a3=>⟨Y1 b o _ a1 (by simp; exact fun e=>absurd e hki),a2,a3⟩) (fun _=>rfl) _ _ _ _ q2,q3⟩
     · have hr:nI.R b o ≠ none:=by have e:(jT g [nI,nM] [k,d]).R k = nI.R:=eR; rwa [e] at hr
       exact ⟨qZ Ag hI hr,(d5 b o (hRI b o hr).1).2⟩
   · have eh:=qb (g:=g) (F:=[id,k]) hnn hM
     have en:=sW (g:=g) (F:=[id,k]) hnn hM
     have eR:=Cu (g:=g) (F:=[id,k]) hnn hM
     refine ⟨.inl ⟨nM,hM,rfl,rfl⟩,.inl ⟨nM,hM,rfl,rfl⟩,en.2,?_,fun b o hr=>?_⟩
     · have VD:(jT g [nI,nM] [id,k]).hd k hh = g.nh id nv i 0:=eh
       have en':(jT g [nI,nM] [id,k]).nh k n = nM.nh:=en.1
       have VF:(jT g [nI,nM] [id,k]).R k = nM.R:=eR
       rw [VD,en',VF]
       obtain ⟨us,q1,q2,q3⟩:=h3 i hi
       obtain ⟨_,p1,p2,_⟩:=q2
       obtain ⟨p3,p4,p5⟩:=p2 rfl
       refine ⟨p1,p4.mono fun b o v a1 a2 a3=>⟨agb b o a1,⟨v,a2⟩,a3⟩,fun m hm=>?_⟩
       obtain ⟨vs,r1,r2,r3⟩:=p5 m hm
       exact ⟨vs,r1,bD.ofT p3 r2,r3⟩
     · have hr:nM.R b o ≠ none:=by have e:(jT g [nI,nM] [id,k]).R k = nM.R:=eR; rwa [e] at hr
       exact ⟨qZ Ag hM hr,(d5 b o (by rw [hRM b o hr]; simp)).2⟩)
  (dst:=none) rfl (p:=.any) (v:=undef) (fun _=>by simp only [aF])
 exact ⟨_,key.1,key.2,.inl ⟨nM,hM,rfl,rfl⟩,qb hnn hM⟩
theorem bO.wrN (h:bO N c0 w0 σ g a w) {id:Nat} {t:Ty} {x:L t.T} {hv nv:Nat} (hb:σ.box id = some (.row t x none hv nv)) {i j:Nat} (hi:i < x.len) {ut:Ty} {y y':L ut.T} (hy:sI t (x.get i) j = some ⟨ut,y⟩) {ad:Addr} (had:(g.nh id nv i j).1 = some ad) {o0:Nat} {vs:List Value} (hfit:o0 + vs.length≤y.len * ut.size)
 (hyl:y'.len = y.len) (hyn:y'.nil = y.nil)
 (hy':∀ k,k < y.len→∀ us,us.length = ut.size→bC g.col w ut (y.get k) us→∃ us',us'.length = ut.size ∧ bC g.col w ut (y'.get k) us' ∧ ∀ (q:Nat) (v:Value),us'[q]? = some v→(if o0≤k * ut.size + q ∧ k * ut.size + q < o0 + vs.length then vs[k * ut.size + q - o0]? else us[q]?) = some v)
 {e:t.T} (he:jP ut y' t (x.get i) j = some e) :
 (∀ k,k < vs.length→(w.cell? ⟨ad.block,ad.off + o0 + k,none⟩).isSome = true ∧ w.frozen? ⟨ad.block,ad.off + o0 + k,none⟩ = false) ∧
 ∀ {dst:Option Nat} (_:dZ N dst = true) {p:PV} {v:Value},(∀ g w,aF g w p v)→bO N c0 w0 (σ.app dst { v:=p,bx:=[(id,.row t (x.set i e) none hv nv)] }) g (a.put dst v) (w.setCells ad.block (ad.off + o0) vs):=by
 obtain ⟨d1,d2,d3,d4,d5⟩:=h.box _ _ hb
 obtain ⟨t1,t2⟩:=dM h hb
 obtain ⟨vh,hn⟩:=qg (u:=0) (fun id c hc=>h.box id c hc) hb hi hy
 obtain ⟨ev,⟨n1,n2,n3⟩,n4,_⟩:=hn
 obtain ⟨hf,n5,n6⟩:=n4 rfl
 obtain ⟨hsp,n7⟩:=n5 ad had
 have hle:y.len * ut.size≤(g.nh id nv i j).2.2 * ut.size:=Nat.mul_le_mul_right _ n2
 have hat:∀ k,k < vs.length→g.R id ad.block (ad.off + o0 + k) = some (some (i,j)) ∧ (w.cell? ⟨ad.block,ad.off + o0 + k,none⟩).isSome = true ∧ w.frozen? ⟨ad.block,ad.off + o0 + k,none⟩ = false:=fun k hk=>by
  obtain ⟨q1,⟨v,q2⟩,q3⟩:=n7 (o0 + k) (by omega)
  rw [← Nat.add_assoc] at q1 q2 q3
  exact ⟨q1,by rw [q2]; rfl,q3⟩
 refine ⟨fun k hk=>(hat k hk).2,fun {dst} hd {p} {v} hp=>?_⟩
 have hcs:=bE (w:=w) (b:=ad.block) (o:=ad.off + o0) (vs:=vs) fun k hk=>(hat k hk).2.1
 have hun:∀ b o v,g.R id b o ≠ some (some (i,j))→w.cell? ⟨b,o,none⟩ = some v→(w.setCells ad.block (ad.off + o0) vs).cell? ⟨b,o,none⟩ = some v:=fun b o v hR hv=>by
  rw [hcs,if_neg,hv]
  rintro ⟨rfl,q1,q2⟩
  have:=(hat (o - (ad.off + o0)) (by omega)).1
  rw [show ad.off + o0 + (o - (ad.off + o0)) = o by omega] at this
  exact hR this
 have hfr:∀ b o,(w.setCells ad.block (ad.off + o0) vs).frozen? ⟨b,o,none⟩ = w.frozen? ⟨b,o,none⟩:=fun b o=>World.frozen?_setCells _ _ _ _ _
 refine h.YZ (c:=.row t (x.set i e) none hv nv) (p:=p) (v:=v) (qm (k:=id) fun k hk=>⟨(d5 _ _ (by rw [(hat k hk).1]; simp)).1,(hat k hk).2.1⟩) (.inr ⟨dL h hb rfl,rfl,t1,t2⟩) (fun hst=>⟨d1,d2,d3,?_,fun b o hr=>?_⟩) hd fun _=>hp _ _
 · obtain ⟨h1,h2,h3⟩:=d4
   refine ⟨h1,h2.mono fun b o v a1 a2 a3=>⟨a1,⟨v,hun b o v (by rw [a1]; simp) a2⟩,by rw [hfr]; exact a3⟩,?_⟩
   refine h3.mono h2 h1.2.1 (Q':=fun k us=>bD g.col (w.setCells ad.block (ad.off + o0) vs) (g.R id) (g.nh id nv) true k t ((x.set i e).get k) us 0) (fun k us hk hq=>?_) fun b o v a1 a2 _=>hun b o v (by rw [a1]; simp) a2
   rw [nQ]
   by_cases hki:k = i
   · subst hki
     rw [if_pos rfl]
     have hnew:bD g.col (w.setCells ad.block (ad.off + o0) vs) (g.R id) (g.nh id nv) true k (.sl ut) y' [gP (g.nh id nv k (0 + j))] (0 + j):=by
      rw [Nat.zero_add]
      refine ⟨rfl,⟨by rw [hyl]; exact n1,by rw [hyl]; exact n2,n3.1,by rw [hyn]; exact n3.2⟩,fun _=>⟨hf,n5.mono fun b o v a1 a2 a3=>⟨a1,?_,by rw [hfr]; exact a3⟩,fun m hm=>?_⟩,fun q=>(by cases q)⟩
      · rw [hcs]
        split
        · exact ⟨_,List.getElem?_eq_getElem (by omega)⟩
        · exact ⟨v,a2⟩
      · rw [hyl] at hm
        obtain ⟨us,m1,m2,m3⟩:=n6 m hm
        obtain ⟨us',k1,k2,k3⟩:=hy' m hm us m1 m2
        refine ⟨us',k1,bC.flat hf k2,fun yB kK q v hq=>?_⟩
        obtain rfl:ad = yB:=by rw [had] at kK; exact Option.some.inj kK
        have h4:=k3 q v hq
        rw [hcs]
        by_cases hin:o0≤m * ut.size + q ∧ m * ut.size + q < o0 + vs.length
        · rw [if_pos hin] at h4
          rw [if_pos ⟨rfl,by omega,by omega⟩,← h4]
          congr 1; omega
        · rw [if_neg hin] at h4
          rw [if_neg (by omega)]
          exact m3 ad had q v h4
     obtain ⟨us',k1,_,k3⟩:=bD.set (c':=g.col) (w':=w.setCells ad.block (ad.off + o0) vs) (R':=g.R id) (lD:=g.nh id nv) he hq hnew fun j' v q vs' hne hr =>
      hr.slot hst.toStays rfl fun b o v' a1 a2 a3=>⟨a1,hun b o v' (by rw [a1]; simp; omega) a2,by rw [hfr]; exact a3⟩
     rw [k3 rfl] at k1
     exact k1
   · rw [if_neg hki]
     exact bD.mono hst.toStays (fun b o v j' a1 a2 a3=>⟨a1,hun b o v (by rw [a1]; simp; intro q; exact absurd q hki) a2,by rw [hfr]; exact a3⟩) (fun _=>rfl) _ _ _ _ hq
 · obtain ⟨q1,⟨v',q2⟩,q3⟩:=d5 b o hr
   refine ⟨q1,?_,by rw [hfr]; exact q3⟩
   rw [hcs]
   split
   · exact ⟨_,List.getElem?_eq_getElem (by omega)⟩
   · exact ⟨v',q2⟩
end
end Go.VE
