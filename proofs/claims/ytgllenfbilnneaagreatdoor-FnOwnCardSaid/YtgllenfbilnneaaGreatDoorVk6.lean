import Derived.Test.YtgllenfbilnneaaGreatDoorVk5
/- Functions: a function does what the evaluator says. -/
namespace Go.VE
section
variable {P:Program}
theorem fn_holds (hm:P.follows .mixedOrders = true) {Γ:TypeId→Option Ty} {T:tZ} {A:Nat→Option gJ} (yC:sM P Γ) (hT:pJ P T) {f:FuncId} {fn:Func} {code:Code} {c:sK} (hf:P.funcs[f]? = some fn) (hname:(fn.name == "runtime.NumGoroutine") = false) (hb:fn.body = some code)
 (hn:Nat.ble c.ins.length fn.ntmps = true) (hd:jS fn.ntmps code = true) (hl:mF P Γ T A (jh code 0)) (hF:∀ x y,c.F x = some y→fnK P Γ T A fn c x = some y):Holds P f c:=by
 refine ⟨⟨fn,hf,hname,by rw [hb]; rfl⟩,fun x y hxy=>?_⟩
 have hk:=hF x y hxy
 unfold fnK at hk
 rw [hb] at hk
 cases hfit:(c.ins.all fu&&Nat.blt c.ins.length 1000) with
 | false=>rw [hfit] at hk; cases hk
 | true =>
 rw [hfit] at hk
 simp only [cond_true] at hk
 simp only [Bool.and_eq_true,Nat.blt_eq] at hfit
 obtain ⟨J5,Zn⟩:=hfit
 refine ⟨⟨J5,Zn⟩,fun n0 col w args gG hargs=>?_⟩
 refine calls_of_wp hf hb ?_
 have hlen:args.size = c.ins.length:=by have:=F4 hargs; simpa using this
 have hle:c.ins.length≤fn.ntmps:=Nat.le_of_ble_eq_true hn
 obtain ⟨ns,ad,i1,i2,i3,i4,i5,i6,i7,i8⟩:=Dh J5 (by omega) hargs
 have hnn:(ns.map (·.id)).Nodup:=by rw [i1]; exact i4.sublist (List.Sublist.map _ List.filter_sublist)
 have han:(ad.map (·.1)).Nodup:=by rw [i2]; exact i4.sublist (List.Sublist.map _ List.filter_sublist)
 have Sb:=Ot (col:=col) hnn han
 obtain ⟨uK,V7⟩:=i8 (BN col ns ad) rfl Sb
 let N:Fr:={ n:=fn.ntmps,b0:=(BN col ns ad).bx,h0:=fun id=>(BN col ns ad).hd id 0,n0:=n0 }
 have J6:∀ n ∈ ns,∃ cc,(DW c x).box n.id = some cc ∧ cc.mG = false:=fun n hm=>by
  have:n.id ∈ ns.map (·.id):=List.mem_map.mpr ⟨n,hm,rfl⟩
  rw [i1] at this
  obtain ⟨q,hq,e⟩:=List.mem_map.mp this
  obtain ⟨q1,q2⟩:=List.mem_filter.mp hq
  exact ⟨q.2,by show iC _ _ = _; rw [← e]; exact qp i4 q1,by simpa using q2⟩
 have hs:bO N col w (DW c x) (BN col ns ad) { tmps:=args ++ Array.replicate (fn.ntmps - args.size) undef,defers:=[] } w :=
  { size:=by show (args ++ Array.replicate (fn.ntmps - args.size) undef).size = fn.ntmps; simp; omega
    env:=fun i=>by
     show aF (BN col ns ad) w ((Ab c.ins x 0).getD i .any) _
     rw [List.getD_eq_getElem?_getD]
     cases hp:(Ab c.ins x 0)[i]? with
     | none=>simp only [Option.getD_none,aF]
     | some p =>
       obtain ⟨v,hv,hr⟩:=uK.get i p hp
       have hi:i < args.size:=by
        have:=(List.getElem?_eq_some_iff.mp hv).1
        simpa using this
       have hget:(args ++ Array.replicate (fn.ntmps - args.size) undef).getD i undef = v:=by
        rw [Array.getD_eq_getD_getElem?,Array.getElem?_append_left hi]
        have:args[i]? = some v:=by simpa using hv
        rw [this]; rfl
       rw [hget]
       exact hr
    defers:=rfl
    box:=fun id cc hc=>V7 (id,cc) (wR hc)
    db:=fun id hid=>by
     have hid:id ∈ ad.map (·.1):=hid
     rw [i2] at hid
     obtain ⟨q,hq,e⟩:=List.mem_map.mp hid
     obtain ⟨q1,q2⟩:=List.mem_filter.mp hq
     exact ⟨q.2,by show iC _ _ = _; rw [← e]; exact qp i4 q1,q2⟩
    dh:=fun id u ⟨e,n,hm,e2⟩=>by
     obtain ⟨cc,q1,q2⟩:=J6 n hm
     exact ⟨cc,by rw [← e2]; exact q1,q2,by omega⟩
    dn:=fun id u ⟨e,n,hm,e2⟩=>by
     obtain ⟨cc,q1,q2⟩:=J6 n hm
     exact ⟨cc,by rw [← e2]; exact q1,q2,by omega⟩
    pts:=fun id _ _=>rfl
    fix:=fun id hid u=>⟨fun ⟨e,_⟩=>by rw [e],fun ⟨e,n,hm,e2⟩=>by
     rw [e,← e2,(Sb.n n hm).2.2.2.1]
     exact (i5 n hm).2.2.2 (by rw [e2]; exact hid)⟩
    keep:=Keep.refl col w (fun b o id h=>(gG.1 b o id h).2) gG.2
    old:=fun b _ o=>⟨Iff.rfl,fun id h=>⟨fun _=>h,fun hns=>⟨id,by
     have hp:=(gG.1 b o id h).1.1.1
     refine ⟨hp,?_,?_⟩
     · rcases Nat.lt_or_ge id dV with q | q
       · exact q
       · exact absurd (.inl q) hns
     · intro q; exact hns (.inr ⟨hp,q⟩),h⟩⟩⟩ }
 have V8:∀ (k:Nat) t,(c.ins[k]? = some (.pt t) ∨ c.ins[k]? = some (.pd t))→∃ b o,args.toList[k]? = some (.pointer (some ⟨b,o,none⟩)) ∧ N.b0 (pN (0 + k)) = (b,o):=fun k t e=>by
  obtain ⟨b,o,q1,q2⟩:=i6 k t e
  exact ⟨b,o,q1,(Sb.ad _ q2).2⟩
 have V9:∀ (k:Nat) t,c.ins[k]? = some (.ow t)→∃ (us:List Value) (x':t.T),args.toList[k]? = some (mkV t us) ∧ jJ (fun j _ _ h=>h = N.h0 (wN (0 + k) + j)) t x' us 0:=fun k t e=>by
  obtain ⟨us,x',q1,q2⟩:=i7 k t e
  exact ⟨us,x',q1,q2.mono fun j _ _ h _ _ ⟨n,hm,e1,e2⟩=>by
   show h = (BN col ns ad).hd (wN (0 + k) + j) 0
   rw [e2,← e1,(Sb.n n hm).2.1]⟩
 have OB:args.toList.length = c.ins.length:=F4 hargs
 have wst:∀ {id:Nat},¬ stay id→¬ dV≤id:=fun h q=>h (.inl q)
 have fin:∀ (σ':AS) (g':Gh) (a':Act) (w':World),Vt P fn c σ' = some y→bO N col w σ' g' a' w'→a'.defers = [] ∧ ∃ v,(results fn a'.tmps).run P w' = .ok v w' ∧ Behind c n0 col w args y (.returned v) w':=by
  intro σ' g' a' w' hfin hs'
  refine ⟨hs'.defers,?_⟩
  unfold Vt at hfin
  split at hfin
  · rename_i z lp hz
    have hok:=fun {id n}=>Et hs' hz J5 (by omega) (id:=id) (n:=n)
    have huq:=fun (hnd:lp.Nodup) {id n n'}=>OA hs' hz J5 (by omega) hnd (id:=id) (n:=n) (n':=n')
    have h4:∀ {id n:Nat},J3 σ' c.ins 0 id n→¬ stay id ∧ ¬ (n < bY ∧ stay n):=fun h=>by
     obtain ⟨_,q1,q2⟩:=hok h
     exact ⟨eG q1,ru q2⟩
    cases hpt:c.ptr with
    | true =>
      rw [hpt] at hfin
      simp only [cond_true] at hfin
      cases hcc:(mg c.ins&&(Nat.beq c.fr 0&&nodupB lp)) with
      | false=>rw [hcc] at hfin; cases hfin
      | true =>
        rw [hcc] at hfin
        simp only [cond_true] at hfin
        simp only [Bool.and_eq_true] at hcc
        obtain ⟨hmv,_,_⟩:=hcc
        split at hfin
        · rename_i yo ho
          simp only [Option.some.injEq] at hfin
          subst hfin
          let Rn:Nat→Nat→Nat→Nat→Prop:=fun id _ _ n=>V5 P σ' fn.results.toList id n
          have hu:Em Rn:=fun id b o n n' ⟨_,_,_,e⟩ ⟨_,_,_,e'⟩=>e.trans e'.symm
          obtain ⟨u,r,q1,q2,q3,q4,q5⟩:=R9 (Rn:=Rn) hs' gG hmv hu ho (fun id n h b o=>h)
          have UC:∀ id b o n,Rn id b o n→¬ stay id ∧ ¬ (n < bY ∧ stay n):=fun id b o n h=>by
           have e:=q5 id n h
           obtain ⟨_,_,_,en⟩:=h
           refine ⟨?_,fun q=>by omega⟩
           rintro (q | ⟨q,_⟩) <;> (unfold dV bF at *; omega)
          refine ⟨u,?_,u,dU w g' Rn,rfl,hs'.keep,Ep hs' gG UC,by unfold uL; rw [if_pos hpt]; exact q2,yP hs' hu (fun id hid b o n h=>wst (UC id b o n h).1 hid) hz OB V8 V9 (fun id n h=>absurd h (Er hmv))⟩
          rw [tQ,Array.mapM_eq_mapM_toList]
          simp only [Sem.run_bind,AX,q1,Result.andThen_ok,Sem.run_pure]
          rfl
        · cases hfin
    | false =>
      rw [hpt] at hfin
      simp only [cond_false] at hfin
      have hnp:¬ (c.ptr = true):=by rw [hpt]; simp
      cases hf0:Nat.beq c.fr 0 with
      | true =>
        rw [hf0] at hfin
        simp only [cond_true] at hfin
        have hz0:c.fr = 0:=Nat.eq_of_beq_eq_true hf0
        split at hfin
        · rename_i yo l ho
          cases hcc:((l.isEmpty || mg c.ins)&&nodupB lp) with
          | false=>rw [hcc] at hfin; cases hfin
          | true =>
            rw [hcc] at hfin
            simp only [cond_true,Option.some.injEq] at hfin
            subst hfin
            simp only [Bool.and_eq_true,Bool.or_eq_true,List.isEmpty_iff] at hcc
            obtain ⟨hmv,hnd⟩:=hcc
            have hnd:=gT hnd
            let Rn:Nat→Nat→Nat→Nat→Prop:=fun id _ _ n=>J3 σ' c.ins 0 id n
            have hu:Em Rn:=fun id b o n n' h h'=>huq hnd h h'
            have UC:∀ id b o n,Rn id b o n→¬ stay id ∧ ¬ (n < bY ∧ stay n):=fun id b o n h=>h4 h
            obtain ⟨us,q1,q2⟩:=F7 (Rn:=Rn) (j:=0) hs' ho (fun id hid hlt b o hc=>by
             rcases hmv with e | hmv
             · rw [e] at hid; cases hid
             · have hns:¬ stay id:=by rintro (q | ⟨q,_⟩) <;> (unfold dV bF at *; omega)
               exact F5 hc (fun n h=>Er hmv h) (fun q=>by omega) (made hs' gG hmv hc hns))
            refine ⟨yD us,?_,yD us,dU w g' Rn,rfl,hs'.keep,Ep hs' gG UC,?_,yP hs' hu (fun id hid b o n h=>wst (UC id b o n h).1 hid) hz OB V8 V9 (fun id n h b o=>h)⟩
            · rw [tQ,Array.mapM_eq_mapM_toList]
              simp only [Sem.run_bind,AX,q1,Result.andThen_ok,Sem.run_pure]
              rfl
            · unfold uL
              rw [if_neg hnp]
              refine ⟨us,?_,rfl⟩
              have key:∀ {ts:List Ty} {y:dR ts} {vs:List Value} {j:Nat},fO (fun t x cs _=>bC (dU w g' Rn) w' t x cs) ts y vs j→fO (fun t x cs j=>if c.fr = 0 then bC (dU w g' Rn) w' t x cs else jJ (fun j u y h=>mh (Nat.beq c.fr 1) (dU w g' Rn) w' (bY + j) u y h) t x cs j) ts y vs j:=by
               intro ts
               induction ts with
               | nil=>exact fun h=>h
               | cons t r ih =>
                 rintro y vs j ⟨u,us,e,⟨cs,h1,e2⟩,h2⟩
                 exact ⟨u,us,e,⟨cs,by show (if c.fr = 0 then _ else _); rw [if_pos hz0]; exact h1,e2⟩,ih h2⟩
              exact key q2
        · cases hfin
      | false =>
        rw [hf0] at hfin
        simp only [cond_false] at hfin
        have hnz:c.fr ≠ 0:=fun e=>by rw [e] at hf0; cases hf0
        split at hfin
        · rename_i yo l ho
          cases hcc:(Vp c.fr c.out&&(nodupB (l ++ lp)&&(Nat.beq c.fr 1 || mg c.ins))) with
          | false=>rw [hcc] at hfin; cases hfin
          | true =>
            rw [hcc] at hfin
            simp only [cond_true,Option.some.injEq] at hfin
            subst hfin
            rw [Bool.and_eq_true,Bool.and_eq_true,Bool.or_eq_true] at hcc
            obtain ⟨_,hnd,hmv⟩:=hcc
            have hnd:=gT hnd
            rw [List.nodup_append] at hnd
            obtain ⟨hn1,hn2,hn3⟩:=hnd
            obtain ⟨r1,r2⟩:=J4 hs' (j:=0) ho
            let Rn:Nat→Nat→Nat→Nat→Prop:=fun id b o n=>J3 σ' c.ins 0 id n ∨ (Mj P σ' c.out fn.results.toList 0 id n ∧ (Nat.beq c.fr 1 = false→g'.R id b o = some none))
            have hu:Em Rn:=fun id b o n n' h h'=>by
             rcases h with h | ⟨h,_⟩ <;> rcases h' with h' | ⟨h',_⟩
             · exact huq hn2 h h'
             · exact absurd rfl (hn3 id (r1 h').1 id (hok h).1)
             · exact absurd rfl (hn3 id (r1 h).1 id (hok h').1)
             · exact r2 hn1 h h'
            have UC:∀ id b o n,Rn id b o n→¬ stay id ∧ ¬ (n < bY ∧ stay n):=fun id b o n h=>by
             rcases h with h | ⟨h,_⟩
             · exact h4 h
             · obtain ⟨_,q1,q2⟩:=r1 h
               exact ⟨q1,fun q=>by omega⟩
            obtain ⟨us,q1,q2⟩:=J2 (Rn:=Rn) (j:=0) hs' hu ho (fun id n h b o hR=>.inr ⟨h,hR⟩) (fun hf id hid hlt b o m hR hc=>by
             have hmv:mg c.ins = true:=hmv.resolve_left (by rw [hf]; simp)
             have hns:¬ stay id:=by rintro (q | ⟨q,_⟩) <;> (unfold dV bF at *; omega)
             refine F5 hc (fun n h=>?_) (fun q=>by omega) (made hs' gG hmv hc hns)
             rcases h with h | ⟨_,h⟩
             · exact Er hmv h
             · rw [h hf] at hR; cases hR)
            refine ⟨yD us,?_,yD us,dU w g' Rn,rfl,hs'.keep,Ep hs' gG UC,?_,yP hs' hu (fun id hid b o n h=>wst (UC id b o n h).1 hid) hz OB V8 V9 (fun id n h b o=>.inl h)⟩
            · rw [tQ,Array.mapM_eq_mapM_toList]
              simp only [Sem.run_bind,AX,q1,Result.andThen_ok,Sem.run_pure]
              rfl
            · unfold uL
              rw [if_neg hnp]
              refine ⟨us,?_,rfl⟩
              have key:∀ {ts:List Ty} {y:dR ts} {vs:List Value} {j:Nat},fO (fun t x cs j=>jJ (fun j u y h=>mh (Nat.beq c.fr 1) (dU w g' Rn) w' (bY + j) u y h) t x cs j) ts y vs j→fO (fun t x cs j=>if c.fr = 0 then bC (dU w g' Rn) w' t x cs else jJ (fun j u y h=>mh (Nat.beq c.fr 1) (dU w g' Rn) w' (bY + j) u y h) t x cs j) ts y vs j:=by
               intro ts
               induction ts with
               | nil=>exact fun h=>h
               | cons t r ih =>
                 rintro y vs j ⟨u,us,e,⟨cs,h1,e2⟩,h2⟩
                 exact ⟨u,us,e,⟨cs,by show (if c.fr = 0 then _ else _); rw [if_neg hnz]; exact h1,e2⟩,ih h2⟩
              exact key q2
        · cases hfin
  · cases hfin
 refine IZ hm yC hT code 0 hd hl (DW c x) (BN col ns ad) _ w _ y _ hk hs fun e σ' g' a' w' he hs'=>?_
 cases e with
 | normal=>exact fin σ' g' a' w' he hs'
 | ret=>exact fin σ' g' a' w' he hs'
 | exit i=>simp at he
end
end Go.VE
