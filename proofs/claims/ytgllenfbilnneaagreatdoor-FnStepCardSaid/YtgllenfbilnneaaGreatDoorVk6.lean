import Derived.Test.YtgllenfbilnneaaGreatDoorVk5
/- Functions: a function does what the evaluator says. -/
namespace Go.VE
section
variable {P:Program}
theorem fn_holds (hm:P.follows .mixedOrders = true) {Γ:TypeId→Option Ty} {T:Tbl} {A:Nat→Option LoopAnn} (hΓ:GamOk P Γ) (hT:TblOk P T) {f:FuncId} {fn:Func} {code:Code} {c:Ctr} (hf:P.funcs[f]? = some fn) (hname:(fn.name == "runtime.NumGoroutine") = false) (hb:fn.body = some code)
 (hn:Nat.ble c.ins.length fn.ntmps = true) (hd:dstsOk fn.ntmps code = true) (hl:LoopsOk P Γ T A (loopsIn code 0)) (hF:∀ x y,c.F x = some y→fnK P Γ T A fn c x = some y):Holds P f c:=by
 refine ⟨⟨fn,hf,hname,by rw [hb]; rfl⟩,fun x y hxy=>?_⟩
 have hk:=hF x y hxy
 unfold fnK at hk
 rw [hb] at hk
 cases hfit:(c.ins.all inFit&&Nat.blt c.ins.length 1000) with
 | false=>rw [hfit] at hk; cases hk
 | true =>
 rw [hfit] at hk
 simp only [cond_true] at hk
 simp only [Bool.and_eq_true,Nat.blt_eq] at hfit
 obtain ⟨hfit1,hfit2⟩:=hfit
 refine ⟨⟨hfit1,hfit2⟩,fun n0 col w args hcol hargs=>?_⟩
 refine calls_of_wp hf hb ?_
 have hlen:args.size = c.ins.length:=by have:=args_len hargs; simpa using this
 have hle:c.ins.length≤fn.ntmps:=Nat.le_of_ble_eq_true hn
 obtain ⟨ns,ad,i1,i2,i3,i4,i5,i6,i7,i8⟩:=args_init hfit1 (by omega) hargs
 have hnn:(ns.map (·.id)).Nodup:=by rw [i1]; exact i4.sublist (List.Sublist.map _ List.filter_sublist)
 have han:(ad.map (·.1)).Nodup:=by rw [i2]; exact i4.sublist (List.Sublist.map _ List.filter_sublist)
 have hini:=ghIn_ini (col:=col) hnn han
 obtain ⟨hreps,hboxes⟩:=i8 (ghIn col ns ad) rfl hini
 let N:Fr:={ n:=fn.ntmps,b0:=(ghIn col ns ad).bx,h0:=fun id=>(ghIn col ns ad).hd id 0,n0:=n0 }
 have hrowbox:∀ n ∈ ns,∃ cc,(initAS c x).box n.id = some cc ∧ cc.isC = false:=fun n hm=>by
  have:n.id ∈ ns.map (·.id):=List.mem_map.mpr ⟨n,hm,rfl⟩
  rw [i1] at this
  obtain ⟨q,hq,e⟩:=List.mem_map.mp this
  obtain ⟨q1,q2⟩:=List.mem_filter.mp hq
  exact ⟨q.2,by show lookB _ _ = _; rw [← e]; exact lookB_of i4 q1,by simpa using q2⟩
 have hs:Sim N col w (initAS c x) (ghIn col ns ad) { tmps:=args ++ Array.replicate (fn.ntmps - args.size) undef,defers:=[] } w :=
  { size:=by show (args ++ Array.replicate (fn.ntmps - args.size) undef).size = fn.ntmps; simp; omega
    env:=fun i=>by
     show Rep (ghIn col ns ad) w ((pkIns c.ins x 0).getD i .any) _
     rw [List.getD_eq_getElem?_getD]
     cases hp:(pkIns c.ins x 0)[i]? with
     | none=>simp only [Option.getD_none,Rep]
     | some p =>
       obtain ⟨v,hv,hr⟩:=hreps.get i p hp
       have hi:i < args.size:=by
        have:=(List.getElem?_eq_some_iff.mp hv).1
        simpa using this
       have hget:(args ++ Array.replicate (fn.ntmps - args.size) undef).getD i undef = v:=by
        rw [Array.getD_eq_getD_getElem?,Array.getElem?_append_left hi]
        have:args[i]? = some v:=by simpa using hv
        rw [this]; rfl
       rw [hget]
       exact hr
    defers:=rfl
    box:=fun id cc hc=>hboxes (id,cc) (lookB_mem hc)
    db:=fun id hid=>by
     have hid:id ∈ ad.map (·.1):=hid
     rw [i2] at hid
     obtain ⟨q,hq,e⟩:=List.mem_map.mp hid
     obtain ⟨q1,q2⟩:=List.mem_filter.mp hq
     exact ⟨q.2,by show lookB _ _ = _; rw [← e]; exact lookB_of i4 q1,q2⟩
    dh:=fun id u ⟨e,n,hm,e2⟩=>by
     obtain ⟨cc,q1,q2⟩:=hrowbox n hm
     exact ⟨cc,by rw [← e2]; exact q1,q2,by omega⟩
    dn:=fun id u ⟨e,n,hm,e2⟩=>by
     obtain ⟨cc,q1,q2⟩:=hrowbox n hm
     exact ⟨cc,by rw [← e2]; exact q1,q2,by omega⟩
    pts:=fun id _ _=>rfl
    fix:=fun id hid u=>⟨fun ⟨e,_⟩=>by rw [e],fun ⟨e,n,hm,e2⟩=>by
     rw [e,← e2,(hini.n n hm).2.2.2.1]
     exact (i5 n hm).2.2.2 (by rw [e2]; exact hid)⟩
    keep:=Keep.refl col w (fun b o id h=>(hcol.1 b o id h).2) hcol.2
    old:=fun b _ o=>⟨Iff.rfl,fun id h=>⟨fun _=>h,fun hns=>⟨id,by
     have hp:=(hcol.1 b o id h).1.1.1
     refine ⟨hp,?_,?_⟩
     · rcases Nat.lt_or_ge id wBase with q | q
       · exact q
       · exact absurd (.inl q) hns
     · intro q; exact hns (.inr ⟨hp,q⟩),h⟩⟩⟩ }
 have hptb:∀ (k:Nat) t,(c.ins[k]? = some (.pt t) ∨ c.ins[k]? = some (.pd t))→∃ b o,args.toList[k]? = some (.pointer (some ⟨b,o,none⟩)) ∧ N.b0 (pN (0 + k)) = (b,o):=fun k t e=>by
  obtain ⟨b,o,q1,q2⟩:=i6 k t e
  exact ⟨b,o,q1,(hini.ad _ q2).2⟩
 have howb:∀ (k:Nat) t,c.ins[k]? = some (.ow t)→∃ (us:List Value) (x':t.T),args.toList[k]? = some (mkV t us) ∧ SlP (fun j _ _ h=>h = N.h0 (wN (0 + k) + j)) t x' us 0:=fun k t e=>by
  obtain ⟨us,x',q1,q2⟩:=i7 k t e
  exact ⟨us,x',q1,q2.mono fun j _ _ h _ _ ⟨n,hm,e1,e2⟩=>by
   show h = (ghIn col ns ad).hd (wN (0 + k) + j) 0
   rw [e2,← e1,(hini.n n hm).2.1]⟩
 have hargl:args.toList.length = c.ins.length:=args_len hargs
 have wst:∀ {id:Nat},¬ stay id→¬ wBase≤id:=fun h q=>h (.inl q)
 have fin:∀ (σ':AS) (g':Gh) (a':Act) (w':World),finK P fn c σ' = some y→Sim N col w σ' g' a' w'→a'.defers = [] ∧ ∃ v,(results fn a'.tmps).run P w' = .ok v w' ∧ Behind c n0 col w args y (.returned v) w':=by
  intro σ' g' a' w' hfin hs'
  refine ⟨hs'.defers,?_⟩
  unfold finK at hfin
  split at hfin
  · rename_i z lp hz
    have hok:=fun {id n}=>ptR_ok hs' hz hfit1 (by omega) (id:=id) (n:=n)
    have huq:=fun (hnd:lp.Nodup) {id n n'}=>ptR_uq hs' hz hfit1 (by omega) hnd (id:=id) (n:=n) (n':=n')
    have h4:∀ {id n:Nat},ptR σ' c.ins 0 id n→¬ stay id ∧ ¬ (n < oBase ∧ stay n):=fun h=>by
     obtain ⟨_,q1,q2⟩:=hok h
     exact ⟨mvB_not q1,given_not q2⟩
    cases hpt:c.ptr with
    | true =>
      rw [hpt] at hfin
      simp only [cond_true] at hfin
      cases hcc:(noMv c.ins&&(Nat.beq c.fr 0&&nodupB lp)) with
      | false=>rw [hcc] at hfin; cases hfin
      | true =>
        rw [hcc] at hfin
        simp only [cond_true] at hfin
        simp only [Bool.and_eq_true] at hcc
        obtain ⟨hmv,_,_⟩:=hcc
        split at hfin
        · rename_i yo ho
          simp only [Option.some.injEq] at hfin
          subst hfin
          let Rn:Nat→Nat→Nat→Nat→Prop:=fun id _ _ n=>ptrR P σ' fn.results.toList id n
          have hu:RnUq Rn:=fun id b o n n' ⟨_,_,_,e⟩ ⟨_,_,_,e'⟩=>e.trans e'.symm
          obtain ⟨u,r,q1,q2,q3,q4,q5⟩:=ptr_run (Rn:=Rn) hs' hcol hmv hu ho (fun id n h b o=>h)
          have hRo:∀ id b o n,Rn id b o n→¬ stay id ∧ ¬ (n < oBase ∧ stay n):=fun id b o n h=>by
           have e:=q5 id n h
           obtain ⟨_,_,_,en⟩:=h
           refine ⟨?_,fun q=>by omega⟩
           rintro (q | ⟨q,_⟩) <;> (unfold wBase pBase at *; omega)
          refine ⟨u,?_,u,colF w g' Rn,rfl,hs'.keep,colF_ok hs' hcol hRo,by unfold OutIs; rw [if_pos hpt]; exact q2,pts_rep hs' hu (fun id hid b o n h=>wst (hRo id b o n h).1 hid) hz hargl hptb howb (fun id n h=>absurd h (ptR_no hmv))⟩
          rw [results_eq,Array.mapM_eq_mapM_toList]
          simp only [Sem.run_bind,run_fmap,q1,Result.andThen_ok,Sem.run_pure]
          rfl
        · cases hfin
    | false =>
      rw [hpt] at hfin
      simp only [cond_false] at hfin
      have hnp:¬ (c.ptr = true):=by rw [hpt]; simp
      cases hf0:Nat.beq c.fr 0 with
      | true =>
        rw [hf0] at hfin
        simp only [cond_true] at hfin
        have hz0:c.fr = 0:=Nat.eq_of_beq_eq_true hf0
        split at hfin
        · rename_i yo l ho
          cases hcc:((l.isEmpty || noMv c.ins)&&nodupB lp) with
          | false=>rw [hcc] at hfin; cases hfin
          | true =>
            rw [hcc] at hfin
            simp only [cond_true,Option.some.injEq] at hfin
            subst hfin
            simp only [Bool.and_eq_true,Bool.or_eq_true,List.isEmpty_iff] at hcc
            obtain ⟨hmv,hnd⟩:=hcc
            have hnd:=nodup_of hnd
            let Rn:Nat→Nat→Nat→Nat→Prop:=fun id _ _ n=>ptR σ' c.ins 0 id n
            have hu:RnUq Rn:=fun id b o n n' h h'=>huq hnd h h'
            have hRo:∀ id b o n,Rn id b o n→¬ stay id ∧ ¬ (n < oBase ∧ stay n):=fun id b o n h=>h4 h
            obtain ⟨us,q1,q2⟩:=outs_run (Rn:=Rn) (j:=0) hs' ho (fun id hid hlt b o hc=>by
             rcases hmv with e | hmv
             · rw [e] at hid; cases hid
             · have hns:¬ stay id:=by rintro (q | ⟨q,_⟩) <;> (unfold wBase pBase at *; omega)
               exact colF_dat hc (fun n h=>ptR_no hmv h) (fun q=>by omega) (made hs' hcol hmv hc hns))
            refine ⟨tupV us,?_,tupV us,colF w g' Rn,rfl,hs'.keep,colF_ok hs' hcol hRo,?_,pts_rep hs' hu (fun id hid b o n h=>wst (hRo id b o n h).1 hid) hz hargl hptb howb (fun id n h b o=>h)⟩
            · rw [results_eq,Array.mapM_eq_mapM_toList]
              simp only [Sem.run_bind,run_fmap,q1,Result.andThen_ok,Sem.run_pure]
              rfl
            · unfold OutIs
              rw [if_neg hnp]
              refine ⟨us,?_,rfl⟩
              have key:∀ {ts:List Ty} {y:TysT ts} {vs:List Value} {j:Nat},FrOuts (fun t x cs _=>RepT (colF w g' Rn) w' t x cs) ts y vs j→FrOuts (fun t x cs j=>if c.fr = 0 then RepT (colF w g' Rn) w' t x cs else SlP (fun j u y h=>RowC (Nat.beq c.fr 1) (colF w g' Rn) w' (oBase + j) u y h) t x cs j) ts y vs j:=by
               intro ts
               induction ts with
               | nil=>exact fun h=>h
               | cons t r ih =>
                 rintro y vs j ⟨u,us,e,⟨cs,h1,e2⟩,h2⟩
                 exact ⟨u,us,e,⟨cs,by show (if c.fr = 0 then _ else _); rw [if_pos hz0]; exact h1,e2⟩,ih h2⟩
              exact key q2
        · cases hfin
      | false =>
        rw [hf0] at hfin
        simp only [cond_false] at hfin
        have hnz:c.fr ≠ 0:=fun e=>by rw [e] at hf0; cases hf0
        split at hfin
        · rename_i yo l ho
          cases hcc:(frOk c.fr c.out&&(nodupB (l ++ lp)&&(Nat.beq c.fr 1 || noMv c.ins))) with
          | false=>rw [hcc] at hfin; cases hfin
          | true =>
            rw [hcc] at hfin
            simp only [cond_true,Option.some.injEq] at hfin
            subst hfin
            rw [Bool.and_eq_true,Bool.and_eq_true,Bool.or_eq_true] at hcc
            obtain ⟨_,hnd,hmv⟩:=hcc
            have hnd:=nodup_of hnd
            rw [List.nodup_append] at hnd
            obtain ⟨hn1,hn2,hn3⟩:=hnd
            obtain ⟨r1,r2⟩:=resR_ok hs' (j:=0) ho
            let Rn:Nat→Nat→Nat→Nat→Prop:=fun id b o n=>ptR σ' c.ins 0 id n ∨ (resR P σ' c.out fn.results.toList 0 id n ∧ (Nat.beq c.fr 1 = false→g'.R id b o = some none))
            have hu:RnUq Rn:=fun id b o n n' h h'=>by
             rcases h with h | ⟨h,_⟩ <;> rcases h' with h' | ⟨h',_⟩
             · exact huq hn2 h h'
             · exact absurd rfl (hn3 id (r1 h').1 id (hok h).1)
             · exact absurd rfl (hn3 id (r1 h).1 id (hok h').1)
             · exact r2 hn1 h h'
            have hRo:∀ id b o n,Rn id b o n→¬ stay id ∧ ¬ (n < oBase ∧ stay n):=fun id b o n h=>by
             rcases h with h | ⟨h,_⟩
             · exact h4 h
             · obtain ⟨_,q1,q2⟩:=r1 h
               exact ⟨q1,fun q=>by omega⟩
            obtain ⟨us,q1,q2⟩:=frs_run (Rn:=Rn) (j:=0) hs' hu ho (fun id n h b o hR=>.inr ⟨h,hR⟩) (fun hf id hid hlt b o m hR hc=>by
             have hmv:noMv c.ins = true:=hmv.resolve_left (by rw [hf]; simp)
             have hns:¬ stay id:=by rintro (q | ⟨q,_⟩) <;> (unfold wBase pBase at *; omega)
             refine colF_dat hc (fun n h=>?_) (fun q=>by omega) (made hs' hcol hmv hc hns)
             rcases h with h | ⟨_,h⟩
             · exact ptR_no hmv h
             · rw [h hf] at hR; cases hR)
            refine ⟨tupV us,?_,tupV us,colF w g' Rn,rfl,hs'.keep,colF_ok hs' hcol hRo,?_,pts_rep hs' hu (fun id hid b o n h=>wst (hRo id b o n h).1 hid) hz hargl hptb howb (fun id n h b o=>.inl h)⟩
            · rw [results_eq,Array.mapM_eq_mapM_toList]
              simp only [Sem.run_bind,run_fmap,q1,Result.andThen_ok,Sem.run_pure]
              rfl
            · unfold OutIs
              rw [if_neg hnp]
              refine ⟨us,?_,rfl⟩
              have key:∀ {ts:List Ty} {y:TysT ts} {vs:List Value} {j:Nat},FrOuts (fun t x cs j=>SlP (fun j u y h=>RowC (Nat.beq c.fr 1) (colF w g' Rn) w' (oBase + j) u y h) t x cs j) ts y vs j→FrOuts (fun t x cs j=>if c.fr = 0 then RepT (colF w g' Rn) w' t x cs else SlP (fun j u y h=>RowC (Nat.beq c.fr 1) (colF w g' Rn) w' (oBase + j) u y h) t x cs j) ts y vs j:=by
               intro ts
               induction ts with
               | nil=>exact fun h=>h
               | cons t r ih =>
                 rintro y vs j ⟨u,us,e,⟨cs,h1,e2⟩,h2⟩
                 exact ⟨u,us,e,⟨cs,by show (if c.fr = 0 then _ else _); rw [if_neg hnz]; exact h1,e2⟩,ih h2⟩
              exact key q2
        · cases hfin
  · cases hfin
 refine runK_sound hm hΓ hT code 0 hd hl (initAS c x) (ghIn col ns ad) _ w _ y _ hk hs fun e σ' g' a' w' he hs'=>?_
 cases e with
 | normal=>exact fin σ' g' a' w' he hs'
 | ret=>exact fin σ' g' a' w' he hs'
 | exit i=>simp at he
end
end Go.VE
