import Derived.Test.YtgllenfbilnneaaGreatDoorVkL
/- Each operation of the evaluator is what the machine does: stores,copy,new rows. -/
namespace Go.VE
theorem gT {l:List Nat}:nodupB l = true→l.Nodup:=by
 induction l with
 | nil=>intro _; exact List.nodup_nil
 | cons a r ih =>
   intro h
   simp only [nodupB,Bool.and_eq_true,List.all_eq_true] at h
   refine List.nodup_cons.mpr ⟨fun hm=>?_,ih h.2⟩
   have:=h.1 a hm
   simp at this
section
variable {P:Program} {N:Fr} {c0:Nat→Nat→Col} {w0:World} {σ μ:AS} {g:Gh} {a:Act} {w w':World}
theorem LQ:∀ {t:Ty} {x y:t.T} {u:Ty} {z:L u.T} {j:Nat},sI t x j = some ⟨u,z⟩→jP u z t x j = some y→y = x:=by
 intro t
 induction t with
 | sl u' ih =>
   intro x y u z j h h2
   cases j with
   | succ j=>simp [jP] at h2
   | zero =>
     simp only [sI,Option.some.injEq,Sigma.mk.injEq] at h
     obtain ⟨rfl,h⟩:=h
     obtain rfl:=eq_of_heq h
     simp only [jP] at h2
     split at h2
     · simp only [Option.some.injEq,dx] at h2; exact h2.symm
     · cases h2
 | pair a b iha ihb =>
   intro x y u z j h h2
   simp only [sI] at h
   simp only [jP] at h2
   cases hb:Nat.blt j a.bJ with
   | true =>
     rw [hb] at h h2
     simp only [cond_true] at h h2
     split at h2
     · rename_i q hq; cases h2; rw [iha h hq]
     · cases h2
   | false =>
     rw [hb] at h h2
     simp only [cond_false] at h h2
     split at h2
     · rename_i q hq; cases h2; rw [ihb h hq]
     · cases h2
 | _=>intro x y u z j h; simp [sI] at h
theorem Ed {cs:List PV} {W:List Nat} (ho:Ak μ σ W) (h:∀ r ∈ ay cs,jI r = true ∧ ∃ t x own hv nv,μ.box r = some (.row t x own hv nv)):Rows σ (ay cs):=fun r hr=>by
 obtain ⟨q,t,x,own,hv,nv,e⟩:=h r hr
 exact ⟨q,t,x,own,hv,nv,ho.box _ _ e⟩
theorem LU (hs:bO N c0 w0 σ g a w) {id:Nat} {ty:Ty} {x:L ty.T} {own:Option (Nat→Bool)} {hv nv i off:Nat} {cs:List PV} {b:List (Nat×aU)} {vs:List Value} (h:Na μ.box id ty x own hv nv i off cs = some b) (ho:Ak μ σ (b.map (·.1))) (hb:μ.box id = some (.row ty x own hv nv))
 (hvs:ak g w cs vs) {ad:Addr} (had:(g.hd id hv).1 = some ad) (hi:i < x.len) (hfit:off + vs.length≤ty.size) {dst:Option Nat} (hd:dZ N dst = true) :
 ∃ g',bO N c0 w0 (σ.app dst { v:=.any,bx:=b }) g' (a.put dst undef) (w.setCells ad.block (ad.off + i * ty.size + off) vs):=by
 have pR:=ho.ok hs
 have hb':=ho.box _ _ hb
 have hvl:=hvs.length
 unfold Na at h
 split at h
 · rename_i y hy
   simp only [Option.some.injEq] at h; subst h
   exact ⟨g,hs.wrR hb' had hi hfit hvs hy hd⟩
 · split at h
   · rename_i hc
     obtain ⟨hn,hmv,hfl⟩:=hc
     have hnd:=gT hn
     cases hw:(Nat.beq off 0&&Nat.beq cs.length ty.size) with
     | true =>
       rw [hw] at h
       simp only [cond_true] at h
       simp only [Bool.and_eq_true] at hw
       obtain rfl:=Nat.eq_of_beq_eq_true hw.1
       have hcl:=Nat.eq_of_beq_eq_true hw.2
       split at h
       · rename_i y hy
         simp only [Option.some.injEq] at h; subst h
         obtain ⟨c1,v1,v2,e1,e2,k1,k2,k3,k4,k5,k6⟩:=jl pR hy hvs
         rw [List.append_nil] at e1
         subst e1
         simp only [ak] at k1
         subst k1
         rw [List.append_nil] at e2
         subst e2
         obtain ⟨hf,k7⟩:=(k6 0).hdr
         refine hs.NK hb' hmv had hi hfit (tk:=ay cs) (Ed ho k5) hnd (fun r hr=>ho.new r (by simp only [List.map_cons,gB]; exact List.mem_cons_of_mem _ hr)) (J:=fun j=>j < ty.bJ) (ids:=fun j=>ay [dX ty cs j]) (hf:=hf)
          (fun j hj r hr=>dD k3 hj hr) (fun j j' r hj hj' h1 h2=>uJ k3 (List.nodup_cons.mp hnd).2 hj hj' h1 h2) (y:=y) (own':=H9 own i) (fun k hk=>?_) (fun c' w' R' lD hst hJ _ hk _ us hl _=>?_) hd
         · cases own with
           | none=>rfl
           | some f =>
             show upd f i true k = f k
             rw [cK,if_neg hk]
         · have eo:ownB (H9 own i) i = true:=by
            cases own with
            | none=>rfl
            | some f=>show upd f i true i = true; rw [cK,if_pos rfl]
           have e:us.drop (0 + vs.length) = []:=by
            rw [List.drop_eq_nil_iff]; omega
           rw [e,List.take_zero,List.nil_append,List.append_nil,eo]
           refine (jJ.yj hfl k7).toN fun j u z hd' _ hj hq=>?_
           obtain ⟨⟨q1,q2⟩,q3⟩:=hq
           rw [Nat.sub_zero] at q1
           have hj:j < ty.bJ:=by omega
           refine Ao q3 q1 (by rw [hJ j hj,q2]) fun b o hc v hv hfr=>hk j hj b o hc v hv hfr
       · cases h
     | false =>
       rw [hw] at h
       simp only [cond_false] at h
       split at h
       · rename_i j p hj _
         split at h
         · rename_i u0 y0 hy0
           split at h
           · rename_i z hz
             split at h
             · rename_i y hy
               simp only [Option.some.injEq] at h; subst h
               simp only [ak] at hvs
               obtain ⟨v,vs',rfl,hv,rfl⟩:=hvs
               obtain ⟨hd',rfl,k1,k2⟩:=yM pR hz hv
               have hfu:=RL hy hfl
               refine hs.NK hb' hmv had hi hfit (tk:=ay [p]) (Ed ho k2) hnd (fun r hr=>ho.new r (by simp only [List.map_cons,gB]; exact List.mem_cons_of_mem _ hr)) (J:=fun j'=>j' = j) (ids:=fun _=>ay [p]) (hf:=fun _=>hd')
                (fun j hj r hr=>hr) (fun j j' r hj hj' h1 h2=>hj.trans hj'.symm) (y:=y) (own':=none) (fun k hk=>rfl) (fun c' w' R' lD hst hJ hJ' hk hk' us hl uf=>?_) hd
               have Y2:lD i j = hd':=hJ j rfl
               obtain ⟨us',q1,q2,_⟩:=bD.set (c':=c') (w':=w') (R':=R') (lD:=lD) hy uf (by
                rw [Nat.zero_add,Y2]
                exact Ao hfu k1 Y2 fun b o hc v hv hfr=>hk j rfl b o hc v hv hfr) fun j' v q vs hne hr=>hr.slot hst (hJ' j' (by omega)) fun b o v a1 a2 a3=>hk' j' (by omega) b o v a1 a2 a3
               have:=q2 off hj
               rw [Nat.zero_add,Y2] at this
               rw [this] at q1
               exact q1
             · cases h
           · cases h
         · cases h
       · cases h
   · cases h
theorem NS (hs:bO N c0 w0 σ g a w) {t:TypeId} {v q:PV} {b:List (Nat×aU)} {vv qv:Value} (h:Vh P μ.box t v q = some b) (hG:Vj μ.box q = true) (ho:Ak μ σ (b.map (·.1))) (hv:aF g w v vv) (hq:aF g w q qv) {dst:Option Nat} (hd:dZ N dst = true) :
 ∃ w' g',(Instr.storeAt t qv vv).run P w = .ok () w' ∧ bO N c0 w0 (σ.app dst { v:=.any,bx:=b }) g' (a.put dst undef) w':=by
 have pR:=ho.ok hs
 cases q <;> simp only [Vh] at h <;> try cases h
 · -- a variable
   rename_i id off
   split at h
   · rename_i cs hb
     split at h
     · rename_i hc
       obtain ⟨wO,hz,hfit⟩:=hc
       simp only [Option.some.injEq] at h; subst h
       obtain ⟨oW,hone⟩:=oQ hv wO
       have hl:=oW.length
       obtain ⟨k1,k2,k3⟩:=hs.wrB (ho.box _ _ hb) oW hfit hd
       simp only [aF] at hq
       obtain ⟨_,rfl⟩:=hq
       exact ⟨_,g,mI (by rw [hl]; exact hz) hone k1 k2,k3⟩
     · cases h
   · cases h
 · -- a row's element
   rename_i id u sz i off
   split at h
   · rename_i ty x own hv' nv hb
     split at h
     · rename_i hc
       obtain ⟨wO,hz,hfit,hc⟩:=hc
       simp only [Bool.and_eq_true] at hc
       obtain rfl:=Nat.eq_of_beq_eq_true hc.1
       obtain rfl:=Nat.eq_of_beq_eq_true hc.2
       obtain ⟨oW,hone⟩:=oQ hv wO
       have hl:=oW.length
       simp only [aF] at hq
       obtain ⟨_,hi,ad,had,rfl⟩:=hq
       have hxl:(g.hd id u).2.1 = x.len:=by obtain ⟨_,_,_,⟨⟨q,_⟩,_⟩,_⟩:=pR _ _ hb; exact q
       have hat:=Iz hs (ho.box _ _ hb) had (i:=i) (off:=off) (n:=vv.cells.toList.length) (by omega) (by omega)
       obtain ⟨g',k⟩:=LU hs h ho hb oW had (by omega) (by omega) hd
       exact ⟨_,g',mI (by rw [hl]; exact hz) hone (fun j hj=>(hat j hj).2.1) (fun j hj=>(hat j hj).2.2),k⟩
     · cases h
   · rename_i ut x i' hv' nv hb
     split at h
     · rename_i p hp
       split at h
       · rename_i hc
         obtain ⟨wO,hz,hn,hc⟩:=hc
         simp only [Bool.and_eq_true] at hc
         obtain ⟨e1,e2,e3,hmv,hfl⟩:=hc
         simp only [Vj,hb] at hG
         obtain rfl:=Nat.eq_of_beq_eq_true e1
         obtain rfl:=Nat.eq_of_beq_eq_true e2
         obtain rfl:=Nat.eq_of_beq_eq_true e3
         obtain rfl:=Nat.eq_of_beq_eq_true hG
         split at h
         · rename_i z hz2
           simp only [Option.some.injEq] at h; subst h
           obtain ⟨oW,hone⟩:=oQ hv (by rw [hp]; simp [wO])
           have hl:=oW.length
           rw [hp] at oW hl
           have hpv:∃ vp,vv.cells.toList = [vp] ∧ aF g w p vp:=by
            simp only [ak] at oW
            obtain ⟨v0,vs',q1,q2,rfl⟩:=oW
            exact ⟨v0,q1,q2⟩
           obtain ⟨vp,hvp,hrp⟩:=hpv
           simp only [aF] at hq
           obtain ⟨_,hi2,ad,had,rfl⟩:=hq
           have hi:i < x.len:=by obtain ⟨_,_,_,⟨⟨q,_⟩,_⟩,_⟩:=pR _ _ hb; rw [← q]; exact hi2
           obtain ⟨hd',rfl,k1,k2⟩:=yM pR hz2 hrp
           have hat:=NR hs (ho.box _ _ hb) had (i:=i) (off:=0) (n:=vv.cells.toList.length) hi (by rw [hvp]; simp [Ty.size])
           have hnd:=gT hn
           obtain ⟨g',k⟩:=hs.fill (ho.box _ _ hb) hmv had (off:=0) (vs:=vv.cells.toList) hi (by rw [hvp]; simp [Ty.size]) (tk:=ay [p]) (Ed ho k2) hnd (fun r hr=>ho.new r (by simp only [List.map_cons,gB]; exact List.mem_cons_of_mem _ hr)) (J:=fun j=>j = 0) (ids:=fun _=>ay [p]) (hf:=fun _=>hd')
            (fun j hj r hr=>hr) (fun j j' r hj hj' h1 h2=>hj.trans hj'.symm) (y:=z) (fun c' w' R' lD hst hJ hJ' hk hk' us hl2=>by
             have Y2:lD i 0 = hd':=hJ 0 rfl
             rw [hvp]
             have e:us.take 0 ++ [gP hd'] ++ us.drop (0 + [gP hd'].length) = [gP hd']:=by
              have:us.drop (0 + [gP hd'].length) = []:=by
               rw [List.drop_eq_nil_iff]; simp [Ty.size] at hl2 ⊢; omega
              rw [this]; rfl
             rw [e]
             exact Ao hfl k1 Y2 fun b o hc v hv hfr=>hk 0 rfl b o hc v hv hfr) hd
           exact ⟨_,g',mI (by rw [hl]; exact hz) hone (fun j hj=>(hat j hj).2.1) (fun j hj=>(hat j hj).2.2),k⟩
         · cases h
       · cases h
     · cases h
   · cases h
 · -- an element of a row's element's slice
   rename_i id u i j sz k off
   split at h
   · rename_i ty x hv' nv hb
     cases hq2:Nat.beq u nv with
     | false=>rw [hq2] at h; cases h
     | true =>
       rw [hq2] at h
       simp only [cond_true] at h
       obtain rfl:=Nat.eq_of_beq_eq_true hq2
       split at h
       · rename_i ut y hy
         split at h
         · rename_i hc
           obtain ⟨wO,hz,hfit,hc⟩:=hc
           simp only [Bool.and_eq_true] at hc
           obtain rfl:=Nat.eq_of_beq_eq_true hc.1
           have hf:=hc.2
           split at h
           · rename_i z hz2
             split at h
             · rename_i e he
               simp only [Option.some.injEq] at h; subst h
               obtain ⟨oW,hone⟩:=oQ hv wO
               have hl:=oW.length
               simp only [aF] at hq
               obtain ⟨_,hi,hk,ad,had,rfl⟩:=hq
               obtain ⟨_,_,hni,_⟩:=pR _ _ hb
               obtain ⟨_,hn⟩:=qg (u:=0) pR hb (by omega) hy
               have hyl:(g.nh id u i j).2.1 = y.len:=hn.2.1.1
               have hlt:k * ut.size + off + vv.cells.toList.length≤y.len * ut.size:=by
                have:(k + 1) * ut.size≤y.len * ut.size:=Nat.mul_le_mul_right _ (by omega)
                rw [Nat.add_mul] at this; omega
               obtain ⟨k1,k2⟩:=hs.wrN (ho.box _ _ hb) (by omega) hy had (o0:=k * ut.size + off) (vs:=vv.cells.toList) hlt (y':=y.set k z) rfl rfl (fun m hm us hl2 hr=>by
                rw [nQ]
                by_cases hmk:m = k
                · subst hmk
                  rw [if_pos rfl]
                  have hrp:ak g w (splice (pk ut (y.get m)) off v.dY) (us.take off ++ vv.cells.toList ++ us.drop (off + vv.cells.toList.length)):=by
                   unfold splice
                   rw [← hl]
                   exact ak.append (ak.append ((gK hr).take off) oW) ((gK hr).drop _)
                  refine ⟨us.take off ++ vv.cells.toList ++ us.drop (off + vv.cells.toList.length),by simp only [List.length_append,List.length_take,List.length_drop]; omega,fA hz2 hrp,fun q v' hq=>?_⟩
                  rw [iQ _ _ _ (by omega)] at hq
                  by_cases hw:off≤q ∧ q < off + vv.cells.toList.length
                  · rw [if_pos hw] at hq
                    rw [if_pos (by omega),← hq]
                    congr 1; omega
                  · rw [if_neg hw] at hq
                    rw [if_neg (by omega)]
                    exact hq
                · rw [if_neg hmk]
                  refine ⟨us,hl2,hr,fun q v' hq=>?_⟩
                  have MZ:q < ut.size:=by rw [← hl2]; exact (List.getElem?_eq_some_iff.mp hq).1
                  rw [if_neg]
                  · exact hq
                  · rintro ⟨p1,p2⟩
                    rcases Nat.lt_or_ge m k with hlt | hge
                    · have:(m + 1) * ut.size≤k * ut.size:=Nat.mul_le_mul_right _ hlt
                      rw [Nat.add_mul] at this; omega
                    · have:(k + 1) * ut.size≤m * ut.size:=Nat.mul_le_mul_right _ (by omega)
                      rw [Nat.add_mul] at this; omega) he
               refine ⟨_,g,?_,k2 hd (p:=.any) (v:=undef) (fun _ _=>by simp only [aF])⟩
               have:=mI (P:=P) (w:=w) (t:=t) (v:=vv) (b:=ad.block) (o:=ad.off + (k * ut.size + off)) (by rw [hl]; exact hz) hone (fun j hj=>(k1 j hj).1) (fun j hj=>(k1 j hj).2)
               rw [← Nat.add_assoc] at this ⊢
               exact this
             · cases h
           · cases h
         · cases h
       · cases h
   · cases h
theorem LV (hs:bO N c0 w0 σ g a w) {ty:Ty} {x y:PV} {d:Dl} {xv yv:Value} (h:Ng ty μ.box x y = some d) (ho:Ak μ σ (d.bx.map (·.1))) (hx:aF g w x xv) (hy:aF g w y yv) {t u D7 e:TypeId} {i:TypeInfo} (hu:P.underlying t = some (.slice e)) (hi:P.info? e = some i) (hsz:i.size = ty.size) {dst:Option Nat} (hd:dZ N dst = true) :
 ∃ r w',(Builtin.copy_ #[t,u] D7 #[xv,yv]).run P w = .ok r w' ∧ bO N c0 w0 (σ.app dst d) g (a.put dst r) w':=by
 have pR:=ho.ok hs
 unfold Ng at h
 split at h
 · rename_i hf
   obtain ⟨hf,h1⟩:=hf
   split at h
   · rename_i b r v i' j sz lo hi' hb
     split at h
     · rename_i t' x' hv nv hbx
       split at h
       · rename_i ut z hz
         split at h
         · rename_i hbq
           obtain rfl:=Ty.eq_of_beq hbq
           cases hq:(Nat.beq v nv&&Nat.beq sz ut.size) with
           | false=>rw [hq] at h; cases h
           | true =>
             rw [hq] at h
             simp only [cond_true,dx] at h
             simp only [Bool.and_eq_true] at hq
             obtain rfl:=Nat.eq_of_beq_eq_true hq.1
             obtain rfl:=Nat.eq_of_beq_eq_true hq.2
             split at h
             · rename_i en hen
               simp only [Option.some.injEq] at h; subst h
               have hsm:(P.info? e).map (·.size) = some 1:=by rw [hi]; simp [hsz,h1]
               simp only [aF] at hx
               obtain ⟨_,hni,l1,l2,rfl⟩:=hx
               obtain ⟨_,_,ajJ,_⟩:=pR _ _ hbx
               obtain ⟨_,hn⟩:=qg (u:=0) pR hbx (by omega) hz
               have hyl:(g.nh r v i' j).2.1 = z.len:=hn.2.1.1
               have hcap:z.len≤(g.nh r v i' j).2.2:=hn.2.1.2.1
               -- what is read
               have hyr:bC (Nw g).col w (.sl ut) b [yv]:=fA hb (g:=Nw g) (w:=w) (vs:=[yv]) (by simp only [ak]; exact ⟨yv,[],rfl,wG pR hy,rfl⟩)
               obtain ⟨a2,c2,e2,VG⟩:=hyr
               simp only [List.cons.injEq,and_true] at e2
               subst e2
               obtain ⟨Iu,news,hsrc⟩:=NG (c':=g.col) (h:=(a2,b.len,c2)) ⟨a2,c2,rfl,VG⟩ (fun _ _=>none) (.inl hf)
               have hsrc:=hsrc (fun _=>true) (.inl hf)
               have hpl:∀ (m:Nat),(∀ g w,aF g w (PV.int .i64 ((m:Nat):Int)) (goInt m)):=fun m g w=>by simp only [aF]; rfl
               by_cases h0:Nat.min b.len (hi' - lo) = 0
               · refine ⟨goInt 0,w,run_copy_none w t u D7 e _ _ _ _ _ _ hu hsm h0,?_⟩
                 rw [h0]
                 have e3:z.YN lo 0 b = z:=by
                  cases z
                  unfold L.YN
                  congr
                  funext k
                  cases hq1:(Nat.ble lo k&&Nat.blt k (lo + 0)) with
                  | false=>rfl
                  | true =>
                    simp only [Bool.and_eq_true,Nat.blt_eq] at hq1
                    have:=Nat.le_of_ble_eq_true hq1.1
                    omega
                 rw [h0,e3] at hen
                 obtain rfl:=LQ hz hen
                 have e4:x'.set i' (x'.get i') = x':=by
                  cases x'
                  unfold L.set
                  congr
                  funext k
                  cases hq1:Nat.beq k i' with
                  | false=>rfl
                  | true=>rw [Nat.eq_of_beq_eq_true hq1]; rfl
                 obtain ⟨t1,t2⟩:=dM hs (ho.box _ _ hbx)
                 rw [e4]
                 exact hs.YZ (c:=.row t' x' none hv v) (p:=.int .i64 ((0:Nat):Int)) (v:=goInt 0) (Wr.refl _ _ _) (.inr ⟨dL hs (ho.box _ _ hbx) rfl,rfl,t1,t2⟩) (fun _=>pR _ _ hbx) hd fun _=>hpl 0 _ _
               · have hpos:0 < Nat.min b.len (hi' - lo):=Nat.pos_of_ne_zero h0
                 have hmb:Nat.min b.len (hi' - lo)≤b.len:=Nat.min_le_left _ _
                 have hmh:Nat.min b.len (hi' - lo)≤hi' - lo:=Nat.min_le_right _ _
                 have hnz:(g.nh r v i' j).1 ≠ none:=fun q=>by have:=hn.2.1.2.2.1 q; omega
                 obtain ⟨ad,had⟩:=Option.ne_none_iff_exists'.mp hnz
                 have hspot:ad.spot = none:=((hn.2.2.1 rfl).2.1 ad had).1
                 have hnl:news.length = b.len:=by rw [hsrc.len,h1,Nat.mul_one]
                 have htl:(news.take (Nat.min b.len (hi' - lo))).length = Nat.min b.len (hi' - lo):=by rw [List.length_take]; omega
                 cases ha2:a2 with
                 | none=>have:=hsrc.no ha2; omega
                 | some uI =>
                 obtain ⟨s1,s2⟩:=hsrc.loc uI ha2
                 have hsp2:uI.spot = none:=s1 (by omega)
                 obtain ⟨k1,k2⟩:=hs.wrN (ho.box _ _ hbx) (by omega) hz had (o0:=lo) (vs:=news.take (Nat.min b.len (hi' - lo))) (by rw [htl,h1]; omega) (y':=z.YN lo (Nat.min b.len (hi' - lo)) b) rfl rfl (fun k hk us hl2 hr=>by
                  have hin:∀ q:Nat,q < us.length→q = 0:=fun q hq=>by omega
                  show ∃ us',_ ∧ bC g.col w ut (bif Nat.ble lo k&&Nat.blt k (lo + Nat.min b.len (hi' - lo)) then b.get (k - lo) else z.get k) us' ∧ _
                  rw [htl,h1]
                  by_cases hc:lo≤k ∧ k < lo + Nat.min b.len (hi' - lo)
                  · have e5:(Nat.ble lo k&&Nat.blt k (lo + Nat.min b.len (hi' - lo))) = true:=by
                     rw [Bool.and_eq_true,Nat.blt_eq]; exact ⟨Nat.ble_eq.mpr hc.1,hc.2⟩
                    rw [e5]
                    obtain ⟨us',u1,u2,u3⟩:=hsrc.el (k - lo) (by omega)
                    refine ⟨us',by omega,bD.NJ hf u2,fun q v' hq=>?_⟩
                    have MZ:q < us'.length:=(List.getElem?_eq_some_iff.mp hq).1
                    obtain rfl:q = 0:=by omega
                    have:=u3 0 v' hq
                    rw [h1] at this
                    rw [if_pos (by omega),List.getElem?_take,if_pos (by omega),← this]
                    congr 1; omega
                  · have e5:(Nat.ble lo k&&Nat.blt k (lo + Nat.min b.len (hi' - lo))) = false:=by
                     rw [Bool.eq_false_iff]; intro q
                     rw [Bool.and_eq_true,Nat.blt_eq] at q
                     exact hc ⟨Nat.le_of_ble_eq_true q.1,q.2⟩
                    rw [e5]
                    refine ⟨us,by omega,hr,fun q v' hq=>?_⟩
                    have MZ:q < us.length:=(List.getElem?_eq_some_iff.mp hq).1
                    obtain rfl:q = 0:=by omega
                    rw [if_neg (by omega)]
                    exact hq) hen
                 have e6:gP (oO ut.size lo hi' (g.nh r v i' j)) = .slice (some ⟨ad.block,ad.off + lo,none⟩) (hi' - lo) ((g.nh r v i' j).2.2 - lo):=by
                  unfold gP oO
                  rw [if_neg (by omega),had,h1,Nat.mul_one]
                  simp only [Option.map_some]
                  rw [kI hspot,gq]
                 have hrun:=run_copy_cells (P:=P) w t u D7 e ad.block (ad.off + lo) (hi' - lo) ((g.nh r v i' j).2.2 - lo) uI b.len c2 (news.take (Nat.min b.len (hi' - lo))) hu hsm htl (fun k v' hk=>by
                  rw [List.getElem?_take] at hk
                  split at hk
                  · rw [kI hsp2,gq]
                    exact s2 k v' hk
                  · cases hk) (fun k hk=>(k1 k hk).1) (fun k hk=>(k1 k hk).2) (fun v' hv'=>hsrc.one v' (List.mem_of_mem_take hv'))
                 rw [htl] at hrun
                 rw [e6]
                 exact ⟨_,_,hrun,k2 hd (hpl _)⟩
             · cases h
         · cases h
       · cases h
     · cases h
   · cases h
 · cases h
end
end Go.VE
