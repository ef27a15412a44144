import Derived.Test.YtgllenfbilnneaaGreatDoorVkS
/- Calls: behind them,each kind of argument. -/
namespace Go.VE
section
variable {P:Program} {N:Fr} {c0:Nat→Nat→Col} {w0:World} {σ:AS} {g:Gh} {a:Act} {w w':World} {box:Nat→Option aU} {fP:List Nat} {W:List Au} {col':Nat→Nat→Col} {ν:Nat→Nat} {dat:Gh→Prop}
theorem Keep.cell' {κ:Nat→Nat→Col} (hk:Keep κ w w') {b o:Nat} {v:Value} (hv:w.cell? ⟨b,o,none⟩ = some v):∃ v',w'.cell? ⟨b,o,none⟩ = some v':=by
 have:=hk.ex b (World.block_lt_of_cell? w _ hv) o
 rw [hv] at this
 cases h:w'.cell? ⟨b,o,none⟩ with
 | none=>rw [h] at this; cases this
 | some v'=>exact ⟨v',rfl⟩
open Classical in
noncomputable def RQ (R:iI) (k:Nat) (pl:Nat→Nat→Nat→Prop):iI:=fun b o=>match R b o with
 | some none=>some none
 | some (some (i,j))=>if i = k then (if h:∃ j,pl j b o then some (some (k,Classical.choose h)) else none) else some (some (i,j))
 | none=>if h:∃ j,pl j b o then some (some (k,Classical.choose h)) else none
theorem VR (hs:bO N c0 w0 σ g a w) (hb:bK g w box) (hu:uN W) (hk:Keep (dI g fP W) w w') (hst:∀ b,b < w.heap.size→∀ o id,col' b o = .bx id→OutOk (dI g fP W) b o id) {n0:Nat→Nat→Nat→bT} {pos:Nat} (hpos:pos < 1000)
 {t:Ty} {id u sz k:Nat} {x:t.T} {v:Value} {y:lI [In.pt t]} {tK:List (Nat×aU)} (hfit:fu (.pt t) = true) (h:iL box (.pt t) (.me id u sz k 0) = some x) (hr:aF g w (.me id u sz k 0) v) (hwb:Fp box (.pt t) (.me id u sz k 0) y = some tK) (fM:∀ m ∈ tK.map (·.1),box m = σ.box m)
 (hpt:CG n0 col' w' (.pt t) y pos v) (Y8:∀ j,j < t.bJ→ν (pN pos + 1 + j) = id) (hW:∀ e ∈ W,e.1 = id→e ∈ bg g box (.pt t) (.me id u sz k 0) pos) (hW':∀ e ∈ bg g box (.pt t) (.me id u sz k 0) pos,e ∈ W ∧ e.1 ∉ fP) :
 ∃ ns,AP g w w' (dI g fP W) col' ν dat tK [id] ns ∧ tK.map (·.1) = [id]:=by
 simp only [fu,Bool.and_eq_true,Nat.blt_eq] at hfit
 change (match box id with
  | some (.row ty x none hv _)=>if h:ty.beq t = true then (bif Nat.beq u hv&&(Nat.beq sz ty.size&&(jI id&&ty.yj)) then some (Ty.eq_of_beq h ▸ x.get k) else none) else none
  | _=>none) = some x at h
 split at h
 · rename_i ty x0 hv nv hbx
   split at h
   · rename_i hbq
     obtain rfl:=Ty.eq_of_beq hbq
     cases hq:(Nat.beq u hv&&(Nat.beq sz ty.size&&(jI id&&ty.yj))) with
     | false=>rw [hq] at h; cases h
     | true =>
       simp only [Bool.and_eq_true] at hq
       obtain ⟨hq1,hq2,hmv,hfl⟩:=hq
       obtain rfl:=Nat.eq_of_beq_eq_true hq1
       obtain rfl:=Nat.eq_of_beq_eq_true hq2
       simp only [Fp,hbx,hbq,dite_true,Option.some.injEq] at hwb
       subst hwb
       have LY:σ.box id = some (.row ty x0 none u nv):=by rw [← fM id (by simp)]; exact hbx
       obtain ⟨d1,d2,d3,d4,d5⟩:=hb _ _ hbx
       obtain ⟨t1,t2⟩:=dM hs LY
       have sj:¬ g.db id:=dL hs LY rfl
       simp only [aF] at hr
       obtain ⟨_,hki,ad,had,rfl⟩:=hr
       obtain ⟨b,o,us,e,hsl,huc⟩:=hpt
       simp only [Value.pointer.injEq,Option.some.injEq,Addr.mk.injEq,and_true,Nat.add_zero] at e
       obtain ⟨rfl,rfl⟩:=e
       have hkx:k < x0.len:=by rw [← d4.1.1]; exact hki
       obtain ⟨hf,hsl2⟩:=hsl.hdr
       -- where the new slices lie
       let pl:Nat→Nat→Nat→Prop:=fun j b o=>j < ty.bJ ∧ col' b o = .bx (pN pos + 1 + j) ∧ (∃ v,w'.cell? ⟨b,o,none⟩ = some v) ∧ w'.frozen? ⟨b,o,none⟩ = false
       let n:iZ:={ id:=id,hv:=u,nv:=nv + 1,hd:=g.hd id u,nh:=fun i j=>if i = k then hf j else g.nh id nv i j,ni:=x0.len,R:=RQ (g.R id) k pl }
       have hlt:∀ {b o v},w.cell? ⟨b,o,none⟩ = some v→b < w.heap.size:=fun hv=>World.block_lt_of_cell? w _ hv
       -- the cells that the callee was shown
       have hwin:∀ {b o m},g.col b o = .bx id→dI g fP W b o = .bx m→(m = pN pos ∧ g.R id b o = some none ∧ b = ad.block ∧ ad.off + k * ty.size≤o ∧ o < ad.off + k * ty.size + ty.size) ∨ ∃ j,j < ty.bJ ∧ m = pN pos + 1 + j ∧ g.R id b o = some (some (k,j)):=fun {b o m} hc hm=>by
        obtain ⟨e,he,Eh,heq,hem⟩:=kL hm
        rw [hc] at Eh
        have hid:e.1 = id:=by cases Eh; rfl
        have:=hW e he hid
        simp only [bg] at this
        rcases List.mem_cons.mp this with rfl | this
        · obtain ⟨q1,yB,q2,q3,q4,q5⟩:=heq
          obtain rfl:ad = yB:=by rw [had] at q2; exact Option.some.inj q2
          exact .inl ⟨hem.symm,q1,q3,q4,q5⟩
        · obtain ⟨j,hj,rfl⟩:=List.mem_map.mp this
          exact .inr ⟨j,List.mem_range.mp hj,hem.symm,heq⟩
       -- a cell of the row that was not given away
       have hkept:∀ {b o},g.R id b o ≠ none→(∀ j,g.R id b o ≠ some (some (k,j)))→(∀ j,¬ pl j b o) ∧ b < w.heap.size ∧ g.col b o = .bx id ∧ ∀ m,given m→dI g fP W b o ≠ .bx m:=fun {b o} hR hnk=>by
        obtain ⟨q1,⟨v,q2⟩,q3⟩:=d5 b o hR
        have hgn:∀ m,given m→dI g fP W b o ≠ .bx m:=fun m hgm hm=>by
         rcases hwin q1 hm with ⟨rfl,_⟩ | ⟨j,_,_,e⟩
         · exact gZ hgm
         · exact hnk j e
        refine ⟨fun j hp=>?_,hlt q2,q1,hgn⟩
        obtain ⟨m,hgm,hm⟩:=(hst b (hlt q2) o _ hp.2.1).2 (ru (nR hpos (by have:=hp.1; omega)))
        exact hgn m hgm hm
       have hpl:∀ j b o,pl j b o→n.R b o = some (some (k,j)):=fun j b o hp=>by
        have hex:∃ j,pl j b o:=⟨j,hp⟩
        have hch:Classical.choose hex = j:=by
         have:=(Classical.choose_spec hex).2.1
         rw [hp.2.1] at this
         simp only [Col.bx.injEq] at this; omega
        show RQ (g.R id) k pl b o = _
        unfold RQ
        split
        · rename_i e
          exact absurd hp ((hkept (by rw [e]; simp) (fun j=>by rw [e]; simp)).1 j)
        · rename_i i' j' e
          split
          · first | rw [dif_pos hex,hch] | rw [hch]
          · rename_i hne
            exact absurd hp ((hkept (by rw [e]; simp) (fun j=>by rw [e]; simp; intro q; exact absurd q hne)).1 j)
        · first | rw [dif_pos hex,hch] | rw [hch]
       have hbase:∀ b o,g.R id b o = some none→n.R b o = some none:=fun b o e=>by
        show RQ (g.R id) k pl b o = _
        unfold RQ; rw [e]
       have hoth:∀ b o i j,i ≠ k→g.R id b o = some (some (i,j))→n.R b o = some (some (i,j)):=fun b o i j hne e=>by
        show RQ (g.R id) k pl b o = _
        unfold RQ; rw [e]; exact if_neg hne
       have hcases:∀ b o,n.R b o ≠ none→(∃ j,pl j b o) ∨ (g.R id b o ≠ none ∧ ∀ j,g.R id b o ≠ some (some (k,j))):=fun b o hR=>by
        have hR:RQ (g.R id) k pl b o ≠ none:=hR
        unfold RQ at hR
        split at hR
        · rename_i e; right; rw [e]; simp
        · rename_i i' j' e
          split at hR
          · split at hR
            · left; assumption
            · exact absurd rfl hR
          · rename_i hne; right; rw [e]; exact ⟨by simp,fun j=>by simp; intro q; exact absurd q hne⟩
        · split at hR
          · left; assumption
          · exact absurd rfl hR
       have hdone:∀ b o,n.R b o ≠ none→(∃ v,w'.cell? ⟨b,o,none⟩ = some v) ∧ w'.frozen? ⟨b,o,none⟩ = false:=fun b o hR=>by
        rcases hcases b o hR with ⟨j,hp⟩ | ⟨h1,_⟩
        · exact hp.2.2
        · obtain ⟨_,⟨v,q2⟩,q3⟩:=d5 b o h1
          exact ⟨hk.cell' q2,(hk.uD _ (hlt q2) _).trans q3⟩
       refine ⟨[n],⟨by simp [n],fun m hm=>by rw [List.mem_singleton.mp hm]; simp [n],fun m hm=>?_,fun m hm=>?_,fun m hm b o hR=>?_,fun m c hm=>?_,fun g' hg hdt m c hm=>?_⟩,rfl⟩
       · rw [List.mem_singleton.mp hm]
         exact ⟨by simp,eG hmv,sj⟩
       · rw [List.mem_singleton.mp hm]
         exact ⟨fun u' hu'=>by
          rcases Nat.lt_or_ge u' u with q | q
          · exact .inl q
          · have:=Nat.le_antisymm (t1 u' hu') q
            exact .inr ⟨this,by rw [this]; rfl⟩,fun u' hu'=>.inl (Nat.lt_succ_of_le (t2 u' hu'))⟩
       · rw [List.mem_singleton.mp hm] at hR ⊢
         obtain ⟨q1,q2⟩:=hdone b o hR
         refine ⟨q1,q2,?_⟩
         rcases hcases b o hR with ⟨j,hp⟩ | ⟨h1,h2⟩
         · left
           refine ⟨_,hp.2.1,Y8 j hp.1,?_⟩
           rcases Nat.lt_or_ge b w.heap.size with hbl | hbl
           · exact .inr ((hst b hbl o _ hp.2.1).2 (ru (nR hpos (by have:=hp.1; omega))))
           · exact .inl hbl
         · exact .inr (hkept h1 h2).2
       · simp only [List.mem_singleton,Prod.mk.injEq] at hm
         obtain ⟨rfl,rfl⟩:=hm
         exact .inr ⟨sj,rfl,t1,fun u' hu'=>Nat.le_succ_of_le (t2 u' hu'),fun m hm _=>by rw [List.mem_singleton.mp hm]; exact ⟨Nat.le_refl _,Nat.le_refl _⟩⟩
       · simp only [List.mem_singleton,Prod.mk.injEq] at hm
         obtain ⟨rfl,rfl⟩:=hm
         obtain ⟨p1,p2,p3,p4,p5,p6,p7⟩:=hg.n n (List.mem_singleton.mpr rfl)
         refine ⟨p1,p3,p5,?_,fun b o hR=>?_⟩
         · have p2':g'.hd m u = g.hd m u:=p2
           have p4':g'.nh m (nv + 1) = n.nh:=p4
           have p6':g'.R m = n.R:=p6
           rw [p2',p4',p6']
           refine cB.agh (c:=g.col) (cB.lM d4) had hg.st.toStays (fun b o v a1 a2 a3=>⟨hbase b o a1,hk.cell' a2,(hk.uD _ (hlt a2) _).trans a3⟩) (fun b o v a1 a2 a3=>?_) (fun i hi=>by funext j; exact if_neg hi) (fun b o v i j hne a1 a2 a3=>⟨hoth b o i j hne a1,?_,(hk.uD _ (hlt a2) _).trans a3⟩) hsl.length ?_ huc
           · refine (hk.dY _ (hlt a3) _ fun m' hm'=>?_).trans a3
             rcases hwin (d5 b o (by rw [a1]; simp)).1 hm' with ⟨_,_,q⟩ | ⟨j,_,_,e⟩
             · exact a2 q
             · rw [a1] at e; cases e
           · refine (hk.dY _ (hlt a2) _ fun m' hm'=>?_).trans a2
             rcases hwin (d5 b o (by rw [a1]; simp)).1 hm' with ⟨_,q,_⟩ | ⟨j',_,_,e⟩
             · rw [a1] at q; cases q
             · rw [a1] at e
               simp only [Option.some.injEq,Prod.mk.injEq] at e
               exact hne e.1
           · refine (jJ.yj hfl hsl2).toN fun j u' z hd _ hj hq=>?_
             obtain ⟨⟨⟨nh,R,q1,q2⟩,rfl⟩,q3⟩:=hq
             have hj:j < ty.bJ:=by omega
             refine Ao (g:={ g with col:=col' }) (w:=w') (ids:=[pN pos + 1 + j]) q3 ⟨nh,R,cB.lM q1,fun b o hR=>⟨⟨_,by simp,(q2 b o hR).1⟩,(q2 b o hR).2⟩⟩ (if_pos rfl) fun b o hc v hv hfr=>?_
             obtain ⟨r,r1,r2⟩:=hc
             rw [List.mem_singleton.mp r1] at r2
             exact ⟨hpl j b o ⟨hj,r2,⟨v,hv⟩,hfr⟩,hv,hfr⟩
         · have p6':g'.R m = n.R:=p6
           rw [p6'] at hR
           exact ⟨p7 b o hR,hdone b o hR⟩
   · cases h
 · cases h
theorem L8:∀ {t:Ty} {x:t.T} {u:Ty} {y z:L u.T} {j:Nat},sI t x j = some ⟨u,y⟩→∃ e,jP u z t x j = some e:=by
 intro t
 induction t with
 | sl u' ih =>
   intro x u y z j h
   cases j with
   | succ j=>simp [sI] at h
   | zero =>
     simp only [sI,Option.some.injEq,Sigma.mk.injEq] at h
     obtain ⟨rfl,h⟩:=h
     have hb:u'.beq u' = true:=by
      have:∀ t:Ty,t.beq t = true:=by intro t; induction t <;> simp [Ty.beq, *]
      exact this _
     exact ⟨_,by simp only [jP]; exact dif_pos hb⟩
 | pair a b iha ihb =>
   intro x u y z j h
   simp only [sI] at h
   simp only [jP]
   cases hb:Nat.blt j a.bJ with
   | true =>
     rw [hb] at h
     simp only [cond_true] at h ⊢
     obtain ⟨e,he⟩:=iha (z:=z) h
     exact ⟨(e,x.2),by rw [he]⟩
   | false =>
     rw [hb] at h
     simp only [cond_false] at h ⊢
     obtain ⟨e,he⟩:=ihb (z:=z) h
     exact ⟨(x.1,e),by rw [he]⟩
 | _=>intro x u y z j h; simp [sI] at h
theorem jJ.Za {Q Q':Nat→(u:Ty)→L u.T→bT→Prop} {box:Nat→Option aU}:∀ {t:Ty} {x y:t.T} {us:List Value} {cs:List PV} {j0:Nat},jJ Q t x us j0→Uv Q' t y us j0→cs.length = t.size→∀ j,j < t.bJ →
 ∃ u x0 y0 h,Q (j0 + j) u x0 h ∧ Q' (j0 + j) u y0 h ∧ ∀ e ∈ MX box u y0 (dX t cs j),e ∈ zU box t y cs:=by
 intro t
 induction t with
 | pair p q Iw Iy =>
   rintro x y us cs j0 ⟨v1,v2,e,h1,h2⟩ ⟨u1,u2,e',k1,k2⟩ hl j hj
   simp only [Ty.size] at hl
   simp only [Ty.bJ] at hj
   have:v1 = u1 ∧ v2 = u2:=List.append_inj (e.symm.trans e') (by rw [h1.length,k1.length])
   obtain ⟨rfl,rfl⟩:=this
   simp only [dX,zU]
   cases hb:Nat.blt j p.bJ with
   | true =>
     obtain ⟨u,x0,y0,h,l1,l2,l3⟩:=Iw h1 k1 (cs:=cs.take p.size) (by rw [List.length_take]; omega) j (by simpa using hb)
     exact ⟨u,x0,y0,h,l1,l2,fun e he=>List.mem_append_left _ (l3 e he)⟩
   | false =>
     have:=dN hb
     obtain ⟨u,x0,y0,h,l1,l2,l3⟩:=Iy h2 k2 (cs:=cs.drop p.size) (by rw [List.length_drop]; omega) (j - p.bJ) (by omega)
     rw [show j0 + p.bJ + (j - p.bJ) = j0 + j by omega] at l1 l2
     exact ⟨u,x0,y0,h,l1,l2,fun e he=>List.mem_append_right _ (l3 e he)⟩
 | sl u ih =>
   rintro x y us cs j0 ⟨h,rfl,h1⟩ ⟨h',e',k1⟩ hl j hj
   simp only [List.cons.injEq,and_true] at e'
   obtain rfl:=JM e'
   have hj0:j = 0:=by simp only [Ty.bJ] at hj; omega
   subst hj0
   match cs,hl with
   | [p],_=>exact ⟨u,x,y,h,h1,k1,fun e he=>by simpa [zU,dX] using he⟩
 | _=>intro x y us cs j0 _ _ _ j hj; simp [Ty.bJ] at hj
theorem Zb (hs:bO N c0 w0 σ g a w) (hb:bK g w box) (hk:Keep (dI g fP W) w w') {ins:List In} {yE:List PV} {pos:Nat}
 {t:Ty} {p:PV} {x:t.T} {v:Value} {y:lI [In.ow t]} {tK:List (Nat×aU)} (hfit:fu (.ow t) = true) (hi:ins[pos]? = some (.ow t)) (hps:yE[pos]? = some p) (h:iL box (.ow t) p = some x) (hr:aF g w p v) (hwb:Fp box (.ow t) p y = some tK) (fM:∀ m ∈ tK.map (·.1),box m = σ.box m)
 (hpt:CG (M0 g box ins yE) col' w' (.ow t) y pos v) (hW:∀ e ∈ W,e.1 ∈ yK box (.ow t) p→e ∈ bg g box (.ow t) p pos) (hnd:(yK box (.ow t) p).Nodup):AP g w w' (dI g fP W) col' ν dat tK [] [] ∧ ∀ e ∈ bg g box (.ow t) p pos,e.1 ∈ tK.map (·.1):=by
 simp only [fu,Bool.and_eq_true,Nat.blt_eq] at hfit
 simp only [Fp,Option.some.injEq] at hwb
 subst hwb
 have hlt:∀ {b o v},w.cell? ⟨b,o,none⟩ = some v→b < w.heap.size:=fun hv=>World.block_lt_of_cell? w _ hv
 simp only [iL] at h
 split at h
 · rename_i hag
   have h1:=dF h
   obtain ⟨Uw,su⟩:=gU hr
   obtain ⟨c1,v1,v2,e1,_,_,k3,_⟩:=wP hb h1 su
   rw [List.append_nil] at e1
   subst e1
   obtain ⟨us,uf,rfl⟩:=Ay hag k3 hr
   obtain ⟨c1,v1,v2,e1,e2,k1,k3,k6⟩:=wP hb h1 uf
   rw [List.append_nil] at e1
   subst e1
   simp only [ak] at k1
   subst k1
   rw [List.append_nil] at e2
   subst e2
   have hnd':(p.dY.flatMap eF).Nodup:=hnd
   obtain ⟨us',e3,hsl⟩:=hpt
   have hmk:us = us':=by
    have hl1:=(k6 0).length
    have hl2:=hsl.length
    cases t with
    | unit=>simp only [Ty.size] at hl1 hl2; rw [List.eq_nil_of_length_eq_zero hl1,List.eq_nil_of_length_eq_zero hl2]
    | pair a b=>simpa [mkV] using e3
    | _ =>
      simp only [Ty.size] at hl1 hl2
      match us,us',hl1,hl2 with
      | [a],[b],_,_=>simpa [mkV] using e3
   subst hmk
   -- each box
   have each:∀ id c,(id,c) ∈ zU box t y.1 p.dY→∃ j u x0 y0 hd,j < t.bJ ∧ OwP g box (dX t p.dY j) u x0 hd ∧ RP (M0 g box ins yE) col' w' (wN pos + j) u y0 hd ∧ (id,c) ∈ MX box u y0 (dX t p.dY j):=fun id c hm=>by
    obtain ⟨j,u,x0,y0,hd,_,l2,l3,l4,l5⟩:=jJ.both (k6 0) hsl k3 id c hm
    rw [Nat.sub_zero] at l3 l5
    exact ⟨j,u,x0,y0,hd,by omega,l3,l4,l5⟩
   -- what the callee was shown of a box
   have shown:∀ {j r b o m},j < t.bJ→r ∈ eF (dX t p.dY j)→g.col b o = .bx r→dI g fP W b o = .bx m→∃ e ∈ jm g (dX t p.dY j) (wN pos + j),e.1 = r ∧ e.2.1 b o:=fun {j r b o m} hj hr hc hm=>by
    obtain ⟨e,he,Eh,heq,_⟩:=kL hm
    rw [hc] at Eh
    have hid:e.1 = r:=by cases Eh; rfl
    have:=hW e he (by rw [hid]; exact lF k3 hj hr)
    simp only [bg] at this
    obtain ⟨j',hj',he'⟩:=fQ.mp this
    have:j' = j:=CJ k3 hnd' hj' hj (iT he').1 (by rw [hid]; exact hr)
    subst this
    exact ⟨e,he',hid,heq⟩
   refine ⟨⟨by simp,fun n hn=>(by cases hn),fun id hi=>(by cases hi),fun n hn=>(by cases hn),fun n hn=>(by cases hn),fun id c hm=>?_,fun g' hg hdt id c hm=>?_⟩,fun e he=>?_⟩
   rotate_left
   rotate_left
   · simp only [bg] at he
     obtain ⟨j,hj,he⟩:=fQ.mp he
     obtain ⟨u,x0,y0,hd,hP,_,hsub⟩:=jJ.Za (box:=box) (k6 0) hsl k3 j hj
     rw [Nat.sub_zero,Nat.zero_add] at hP
     rcases hP with ⟨q1,_,_⟩ | ⟨r,v,nv,q1,q2,_⟩ | ⟨r,v,i,m,ty,x1,hv,q1,q2,q3,_,_⟩ <;> rw [q1] at he hsub
     · simp [jm] at he
     · simp only [jm,List.mem_singleton] at he
       subst he
       exact List.mem_map.mpr ⟨_,hsub (r,.row u y0 none v nv) (by simp [MX,q2]),rfl⟩
     · simp only [jm,List.mem_singleton] at he
       subst he
       obtain ⟨z,hz⟩:=L8 (z:=y0) q3
       exact List.mem_map.mpr ⟨_,hsub (r,.row ty (x1.set i z) none hv v) (by simp [MX,q2,hz]),rfl⟩
   · right
     have hbs:=fM id (List.mem_map.mpr ⟨_,hm,rfl⟩)
     obtain ⟨j,u,x0,y0,hd,hj,hP,_,hm⟩:=each id c hm
     rcases hP with ⟨q1,_,_⟩ | ⟨r,v,nv,q1,q2,_⟩ | ⟨r,v,i,m,ty,x1,hv,q1,q2,q3,_,_⟩ <;> rw [q1] at hm
     · simp [MX] at hm
     · simp only [MX,q2,List.mem_singleton,Prod.mk.injEq] at hm
       obtain ⟨rfl,rfl⟩:=hm
       rw [q2] at hbs
       obtain ⟨t1,t2⟩:=dM hs hbs.symm
       exact ⟨dL hs hbs.symm rfl,rfl,t1,t2,fun n hn=>by cases hn⟩
     · simp only [MX,q2] at hm
       split at hm
       · simp only [List.mem_singleton,Prod.mk.injEq] at hm
         obtain ⟨rfl,rfl⟩:=hm
         rw [q2] at hbs
         obtain ⟨t1,t2⟩:=dM hs hbs.symm
         exact ⟨dL hs hbs.symm rfl,rfl,t1,t2,fun n hn=>by cases hn⟩
       · cases hm
   · have hkp:=hg.keep id (List.mem_map.mpr ⟨_,hm,rfl⟩) (fun q=>by cases q)
     obtain ⟨j,u,x0,y0,hd,hj,hP,⟨R,hF1,hF2⟩,hm⟩:=each id c hm
     rcases hP with ⟨q1,_,_⟩ | ⟨r,v,nv,q1,q2,rfl⟩ | ⟨r,v,i,m,ty,x1,hv,q1,q2,q3,q4,rfl⟩
     · rw [q1] at hm; simp [MX] at hm
     · rw [N8 hi hps (by omega) q1 q2] at hF1
       rw [q1] at hm
       simp only [MX,q2,List.mem_singleton,Prod.mk.injEq] at hm
       obtain ⟨rfl,rfl⟩:=hm
       obtain ⟨d1,d2,d3,d4,d5⟩:=hb _ _ q2
       obtain ⟨e1,e2⟩:=hg.st.dh _ _ d1
       obtain ⟨e4,e5,e6⟩:=hg.st.dn _ _ d2
       refine ⟨e1,e4,?_,?_,fun b o hR=>?_⟩
       · rw [e6,d3,← d4.1.1,hF1.1.1]
       · rw [e2,e5,hkp.1]
         exact cB.join (c:=g.col) (c':=col') (cB.lM d4) hF1
       · rw [hkp.1] at hR
         obtain ⟨a1,⟨v',a2⟩,a3⟩:=d5 b o hR
         exact ⟨hkp.2 b o (hlt a2) a1,hk.cell' a2,(hk.uD _ (hlt a2) _).trans a3⟩
     · obtain ⟨d1,d2,d3,d4,d5⟩:=hb _ _ q2
       have Zc:∀ {b o m'},g.col b o = .bx r→dI g fP W b o = .bx m'→g.R r b o = some (some (i,m)):=fun {b o m'} hc hm'=>by
        obtain ⟨e,he,_,he2⟩:=shown hj (by rw [q1]; simp [eF]) hc hm'
        rw [q1] at he
        simp only [jm,List.mem_singleton] at he
        rw [he] at he2
        exact he2
       rw [q1] at hm
       simp only [MX,q2] at hm
       split at hm
       · rename_i z hz
         simp only [List.mem_singleton,Prod.mk.injEq] at hm
         obtain ⟨rfl,rfl⟩:=hm
         obtain ⟨e1,e2⟩:=hg.st.dh _ _ d1
         obtain ⟨e4,e5,e6⟩:=hg.st.dn _ _ d2
         refine ⟨e1,e4,e6.trans d3,?_,fun b o hR=>?_⟩
         · rw [e2,e5,hkp.1]
           refine cB.jP (c:=g.col) (cB.lM d4) q4 q3 hz hF1 hg.st.toStays (fun b o v' a1 a2 a3=>?_) fun b o v' a1 a2 a3=>⟨hk.cell' a2,(hk.uD _ (hlt a2) _).trans a3⟩
           exact (hk.dY _ (hlt a3) _ fun m' hm'=>a2 (Zc (d5 b o a1).1 hm')).trans a3
         · rw [hkp.1] at hR
           obtain ⟨a1,⟨v',a2⟩,a3⟩:=d5 b o hR
           exact ⟨hkp.2 b o (hlt a2) a1,hk.cell' a2,(hk.uD _ (hlt a2) _).trans a3⟩
       · cases hm
 · cases h
theorem Zd (hs:bO N c0 w0 σ g a w) (hb:bK g w box) {t:Ty} {p:PV} {x:t.T} {v:Value} {y:lI [In.mv t]} {tK:List (Nat×aU)} (h:iL box (.mv t) p = some x) (hr:aF g w p v) (hwb:Fp box (.mv t) p y = some tK) (fM:∀ m ∈ tK.map (·.1),box m = σ.box m) :
 AP g w w' (dI g fP W) col' ν dat tK (ay p.dY) [] ∧ tK.map (·.1) = ay p.dY:=by
 simp only [Fp,Option.some.injEq] at hwb
 subst hwb
 simp only [iL] at h
 split at h
 · rename_i hag
   obtain ⟨Uw,su⟩:=gU hr
   obtain ⟨c1,v1,v2,e1,_,_,_,_,_,k5,_⟩:=jl (μ:={ env:=fun _=>.any,box:=box }) hb (dF h) su
   rw [List.append_nil] at e1
   subst e1
   have FR:=gB box (ay p.dY)
   have hrow:∀ r ∈ ay p.dY,jI r = true ∧ ∃ t x own hv nv,box r = some (.row t x own hv nv) ∧ σ.box r = some (.row t x own hv nv):=fun r hr=>by
    obtain ⟨q1,t,x,own,hv,nv,q2⟩:=k5 r hr
    exact ⟨q1,t,x,own,hv,nv,q2,by rw [← fM r (by rw [FR]; exact hr)]; exact q2⟩
   refine ⟨⟨by simp,fun n hn=>(by cases hn),fun r hr=>?_,fun n hn=>(by cases hn),fun n hn=>(by cases hn),fun id c hm=>?_,fun g' hg hdt id c hm=>?_⟩,FR⟩
   · obtain ⟨q1,_,_,_,_,_,_,q3⟩:=hrow r hr
     exact ⟨by rw [FR]; exact hr,eG q1,dL hs q3 rfl⟩
   · obtain ⟨r,hr,e⟩:=List.mem_map.mp hm
     obtain ⟨q1,_,_,_,_,_,q2,q3⟩:=hrow r hr
     rw [wJ q2] at e
     cases e
     obtain ⟨t1,t2⟩:=dM hs q3
     exact .inr ⟨dL hs q3 rfl,rfl,t1,t2,fun n hn=>by cases hn⟩
   · obtain ⟨r,hr,e⟩:=List.mem_map.mp hm
     obtain ⟨q1,_,_,_,_,_,q2,q3⟩:=hrow r hr
     rw [wJ q2] at e
     cases e
     exact trivial
 · cases h
end
end Go.VE
