import Derived.Test.YtgllenfbilnneaaGreatDoorVkX
import Derived.Deep.Draws
/- Regions: one operation behind the other; and whatever the order,the same comes out. -/
namespace Go.VE
section
variable {P:Program} {Γ:TypeId→Option Ty} {T:tZ} {N:Fr} {c0:Nat→Nat→Col} {w0:World}
inductive nD (P:Program) (Γ:TypeId→Option Ty) (T:tZ) (o:Oper) (σ:AS):Dl→Prop
 | op {d:Dl} (hc:∀ f args tys,o.op ≠ .call { callee:=.value f,args,argTypes:=tys }) (h:Vo P Γ o σ = some (true,d)):nD P Γ T o σ d
 | call {f:Operand} {args:Array Operand} {tys:Array TypeId} {g:FuncId} {cap:List PV} {c:sK} {x:jK c.ins} {y:dR c.out×lI c.ins} {bs:List (Nat×aU)} {d:Dl} (ho:o.op = .call { callee:=.value f,args,argTypes:=tys }) (hf:jQ σ.env f = .fn g cap)
  (hT:T.find g (zR (args.toList.map (jQ σ.env) ++ cap)) = some c) {box:Nat→Option aU} {ps:List PV} {ex:List (Nat×aU)} (hE:exA σ.box o.dst c.ins (args.toList.map (jQ σ.env) ++ cap) = some (box,ps,ex))
  (hx:lJ box c.ins ps = some x) (hn:nodupB (oH box c.ins ps) = true) (hd:zW (oH box c.ins ps) (fZ box c.ins ps) = true)
  (hfl:((fZ box c.ins ps).isEmpty || (c.ins.all Ih&&(Nat.beq c.fr 0&&c.out.all Ty.flat || Nat.beq c.fr 1))) = true) (hF:c.F x = some y)
  (hw:wb box c.ins ps y.2 = some bs) (hD:Nk box c o.dst y.1 bs = some d) (hnb:nodupB (d.bx.map (·.1)) = true) (hin:RA ex o.dst d.bx = true) {d':Dl} (hd':d' = { d with bx:=ex ++ d.bx }) :
  nD P Γ T o σ d'
def dP (all:List Oper) (o:Oper) (σ:AS) (b:Bool):Prop:=match guardOf all o with
 | none=>b = true
 | some (some g,want)=>(∃ c,σ.env g = .bool c ∧ b = (c == want)) ∨ (σ.env g = .HY [] ∧ b = false)
 | some (none,_)=>False
def jo (o:Oper) (x:Option Dl) (σ:AS):AS:=match x with
 | some d=>σ.app o.dst d
 | none=>σ.put o.dst (.HY [])
def fts (T:tZ) (all:List Oper) (o:Oper) (x:Option Dl) (σ:AS):List (Nat×Bool):=match x with
 | some _=>foot T all o σ
 | none=>uj all o
theorem FW {env:Nat→PV} {g:Nat} {b:Bool} (h:env g = .bool b):upd env g (.bool b) = env:=by
 funext j
 rw [cK]
 split
 · rename_i e; rw [e]; exact h.symm
 · rfl
theorem uQ {R:Type} {o:Oper} {σ:AS} {K:Dl→Option R} {r:R}
 (h:(match o.op with
  | .call { callee:=.value f,args,argTypes:=_ }=>match jQ σ.env f with
    | .fn g cap=>Fq T σ o.dst g (args.toList.map (jQ σ.env) ++ cap) K
    | _=>none
  | _=>match Vo P Γ o σ with
    | some (c,d)=>bif c then K d else none
    | none=>none) = some r):∃ d,nD P Γ T o σ d ∧ K d = some r:=by
 split at h
 · rename_i f args tys ho
   split at h
   · rename_i g cap hf
     unfold Fq at h
     split at h
     · cases h
     · rename_i c hT
       split at h
       · cases h
       rename_i box ps ex hE
       split at h
       · cases h
       · rename_i x hx
         split at h
         · rename_i hh
           rw [Bool.and_eq_true,Bool.and_eq_true] at hh
           obtain ⟨h1,h2,h3⟩:=hh
           cases hF:c.F x with
           | none=>rw [hF] at h; simp at h
           | some y =>
             rw [hF] at h
             simp only [Option.bind_some] at h
             cases hW:wb box c.ins ps y.2 with
             | none=>rw [hW] at h; simp at h
             | some bs =>
               rw [hW] at h
               simp only [Option.bind_some] at h
               cases hD:Nk box c o.dst y.1 bs with
               | none=>rw [hD] at h; simp at h
               | some d =>
                 rw [hD] at h
                 simp only [Option.bind_some] at h
                 cases hnb:nodupB (d.bx.map (·.1))&&RA ex o.dst d.bx with
                 | false=>rw [hnb] at h; cases h
                 | true =>
                   rw [hnb] at h
                   simp only [Bool.and_eq_true] at hnb
                   exact ⟨_,.call ho hf hT hE hx h1 h2 h3 hF hW hD hnb.1 hnb.2 rfl,h⟩
         · cases h
   · cases h
 · rename_i hne
   split at h
   · rename_i c d hd
     cases c with
     | true=>exact ⟨d,.op (fun f args tys e=>hne _ _ _ e) hd,h⟩
     | false=>simp at h
   · cases h
theorem VX {R:Type} {F:List (Nat×Bool)} {o:Oper} {μ:AS} {K:Dl→Option R} {r:R} (h:∃ d,nD P Γ T o μ d ∧ (bif yw F d then K d else none) = some r):∃ d,nD P Γ T o μ d ∧ yw F d = true ∧ K d = some r:=by
 obtain ⟨d,h1,h2⟩:=h
 cases hw:yw F d with
 | false=>rw [hw] at h2; cases h2
 | true=>rw [hw] at h2; exact ⟨d,h1,hw,h2⟩
theorem L9 {R:Type} {all:List Oper} {o:Oper} {rest:List Oper} {i:Nat} {es:List (Nat×Nat×Bool)} {σ:AS} {K:AS→List (Nat×Nat×Bool)→Option R} {r:R} (h:wB P Γ T all (o::rest) i es σ K = some r) :
 ∃ x:Option Dl,dP all o σ x.isSome ∧ (∀ d,x = some d→nD P Γ T o (pV (foot T all o σ) σ) d ∧ yw (foot T all o σ) d = true) ∧ wB P Γ T all rest (i + 1) (keyed i (fts T all o x σ) ++ es) (jo o x σ) K = some r:=by
 have stp:∀ {r:R},(match o.op with
  | .call { callee:=.value f,args,argTypes:=_ }=>match jQ (pV (foot T all o σ) σ).env f with
    | .fn g cap=>Fq T (pV (foot T all o σ) σ) o.dst g (args.toList.map (jQ (pV (foot T all o σ) σ).env) ++ cap) fun d=>bif yw (foot T all o σ) d then wB P Γ T all rest (i + 1) (keyed i (foot T all o σ) ++ es) (σ.app o.dst d) K else none
    | _=>none
  | _=>match Vo P Γ o (pV (foot T all o σ) σ) with
    | some (c,d)=>bif c then (bif yw (foot T all o σ) d then wB P Γ T all rest (i + 1) (keyed i (foot T all o σ) ++ es) (σ.app o.dst d) K else none) else none
    | none=>none) = some r→∃ d,nD P Γ T o (pV (foot T all o σ) σ) d ∧ yw (foot T all o σ) d = true ∧ wB P Γ T all rest (i + 1) (keyed i (foot T all o σ) ++ es) (σ.app o.dst d) K = some r:=fun h =>
  VX (uQ (P:=P) (Γ:=Γ) (T:=T) (o:=o) (σ:=pV (foot T all o σ) σ) h)
 rw [wB] at h
 simp only at h
 split at h
 · rename_i hg
   obtain ⟨d,h1,h2,h3⟩:=stp h
   exact ⟨some d,by simp [dP,hg],fun d' e=>by cases e; exact ⟨h1,h2⟩,h3⟩
 · rename_i g want hg
   split at h
   · rename_i b hb
     have hself:=FW hb
     cases b with
     | true =>
       simp only [cond_true] at h
       cases want with
       | true =>
         simp only [cond_true] at h
         rw [hself] at h
         obtain ⟨d,h1,h2,h3⟩:=stp h
         exact ⟨some d,by simp only [dP,hg]; exact .inl ⟨true,hb,rfl⟩,fun d' e=>by cases e; exact ⟨h1,h2⟩,h3⟩
       | false =>
         simp only [cond_false] at h
         rw [hself] at h
         exact ⟨none,by simp only [dP,hg]; exact .inl ⟨true,hb,rfl⟩,(fun d' e=>nomatch e),h⟩
     | false =>
       simp only [cond_false] at h
       cases want with
       | true =>
         simp only [cond_true] at h
         rw [hself] at h
         exact ⟨none,by simp only [dP,hg]; exact .inl ⟨false,hb,rfl⟩,(fun d' e=>nomatch e),h⟩
       | false =>
         simp only [cond_false] at h
         rw [hself] at h
         obtain ⟨d,h1,h2,h3⟩:=stp h
         exact ⟨some d,by simp only [dP,hg]; exact .inl ⟨false,hb,rfl⟩,fun d' e=>by cases e; exact ⟨h1,h2⟩,h3⟩
   · rename_i hb
     exact ⟨none,by simp only [dP,hg]; exact .inr ⟨hb,rfl⟩,(fun d' e=>nomatch e),h⟩
   · cases h
 · cases h
theorem Ma {R:Type} {all:List Oper} {o:Oper} {rest:List Oper} {σ:AS} {K:AS→Option R} {r:R} (h:DU P Γ T all (o::rest) σ K = some r) :
 ∃ x:Option Dl,dP all o σ x.isSome ∧ (∀ d,x = some d→nD P Γ T o σ d) ∧ DU P Γ T all rest (jo o x σ) K = some r:=by
 rw [DU] at h
 simp only at h
 split at h
 · rename_i hg
   obtain ⟨d,h1,h2⟩:=uQ h
   exact ⟨some d,by simp [dP,hg],fun d' e=>by cases e; exact h1,h2⟩
 · rename_i g want hg
   split at h
   · rename_i b hb
     have hself:=FW hb
     cases b with
     | true =>
       simp only [cond_true] at h
       cases want with
       | true =>
         simp only [cond_true] at h
         rw [hself] at h
         obtain ⟨d,h1,h2⟩:=uQ h
         exact ⟨some d,by simp only [dP,hg]; exact .inl ⟨true,hb,rfl⟩,fun d' e=>by cases e; exact h1,h2⟩
       | false =>
         simp only [cond_false] at h
         rw [hself] at h
         exact ⟨none,by simp only [dP,hg]; exact .inl ⟨true,hb,rfl⟩,(fun d' e=>nomatch e),h⟩
     | false =>
       simp only [cond_false] at h
       cases want with
       | true =>
         simp only [cond_true] at h
         rw [hself] at h
         exact ⟨none,by simp only [dP,hg]; exact .inl ⟨false,hb,rfl⟩,(fun d' e=>nomatch e),h⟩
       | false =>
         simp only [cond_false] at h
         rw [hself] at h
         obtain ⟨d,h1,h2⟩:=uQ h
         exact ⟨some d,by simp only [dP,hg]; exact .inl ⟨false,hb,rfl⟩,fun d' e=>by cases e; exact h1,h2⟩
   · rename_i hb
     exact ⟨none,by simp only [dP,hg]; exact .inr ⟨hb,rfl⟩,(fun d' e=>nomatch e),h⟩
   · cases h
 · cases h
variable {σ μ:AS} {g:Gh} {a:Act} {w:World}
theorem Og {W:List Nat} (ho:Ak μ σ W) (hs:bO N c0 w0 σ g a w) (args:Array Operand) {cap:List PV} {vs:List Value} (hc:ak g w cap vs):ak g w (args.toList.map (jQ μ.env) ++ cap) (args.toList.map a.eval ++ vs):=by
 refine ak.append (ak.oP (by simp) fun i p v hp hv=>?_) hc
 simp only [List.getElem?_map,Option.map_eq_some_iff] at hp hv
 obtain ⟨x,hx,rfl⟩:=hp
 obtain ⟨y,hy,rfl⟩:=hv
 rw [hx] at hy; cases hy
 exact ho.ev hs x
theorem tL {α:Type}:∀ (l:List (Nat×α)) (f f':Nat→α) (d:Nat),d ∈ l.map (·.1)→oG f l d = oG f' l d
 | (i,v)::r,f,f',d,h=>by
   simp only [oG]
   by_cases hr:d ∈ r.map (·.1)
   · exact tL r _ _ d hr
   · rw [fK r _ d hr,fK r _ d hr]
     simp only [List.map_cons,List.mem_cons] at h
     rcases h with rfl | h
     · rw [cK,cK,if_pos rfl,if_pos rfl]
     · exact absurd h hr
theorem RV {box Mc:Nat→Option aU} {dst:Option Nat} {ins:List In} {args ps:List PV} {ex:List (Nat×aU)} (h:exA box dst ins args = some (Mc,ps,ex)):(Mc = box ∧ ps = args ∧ ex = []) ∨
 ∃ id k r d u l hv v hh n,args = .mn id v k 0::r ∧ dst = some d ∧ box id = some (.row (.sl u) l none hv v) ∧ sJ box d = some (hh,n) ∧ jI id = true ∧ id ≠ d ∧ Mc = upd (upd box id (some (.hol u l k hv v))) d (some (.row u (l.get k) none hh n)) ∧ ps = .ms d hh::r ∧ ex = [(id,.hol u l k hv v)]:=by
 unfold exA at h
 split at h
 · rename_i id v k r
   split at h
   · rename_i d
     split at h
     · rename_i u l hv nv hh n hb hn
       cases hq:(Nat.beq v nv&&(jI id&&(u.flat&&!Nat.beq id d))) with
       | false=>rw [hq] at h; cases h
       | true =>
       rw [hq] at h
       simp only [Bool.and_eq_true,Bool.not_eq_true'] at hq
       obtain ⟨e1,hmv,_,e2⟩:=hq
       obtain rfl:=Nat.eq_of_beq_eq_true e1
       cases h
       exact .inr ⟨id,k,r,d,u,l,hv,v,hh,n,rfl,rfl,hb,hn,hmv,fun q=>by rw [q] at e2; simp at e2,rfl,rfl,rfl⟩
     · cases h
   · cases h
 · cases h
   exact .inl ⟨rfl,rfl,rfl⟩
theorem AF (yC:sM P Γ) (hT:pJ P T) (hs:bO N c0 w0 σ g a w) {o:Oper} {d:Dl} (h:nD P Γ T o μ d) (lK:Ak μ σ (d.bx.map (·.1))) (hd:dZ N o.dst = true) {next:Act→World→Prop} {Q:Exit→Act→World→Prop}
 (hn:∀ v w' g',bO N c0 w0 (σ.app o.dst d) g' (a.put o.dst v) w'→next (a.put o.dst v) w'):o.wp P a w next Q:=by
 cases h with
 | op hc h =>
   obtain ⟨v,w',g',h1,h2⟩:=LZ yC hs h lK hd
   exact h1.wp (hn v w' g' h2)
 | call ho hf hTf hE hx hnd hdj hfl hF hW hD hnb hin hde =>
   rename_i f args tys gf cap c x y bs d0 Mc ps ex
   subst hde
   obtain ⟨⟨fn,e1,e2,e3⟩,hh⟩:=hT.find hTf
   have hfr:=lK.ev hs f
   rw [hf] at hfr
   simp only [aF] at hfr
   obtain ⟨vs,e4,e5⟩:=hfr
   have hrun:(execOp a.eval o).run P w = .ok (.enter gf (args.toList.map a.eval ++ vs).toArray) w:=by
    have e6:(fn.name == "runtime.NumGoroutine") = false:=e2
    have e7:fn.body.isNone = false:=by cases hb:fn.body <;> simp [hb] at e3 ⊢
    simp only [execOp,ho,resolve,Deferred.ofValue,e4,invoke,callFunc,Sem.run_bind,Sem.run_pure,Result.andThen_ok,run_program,e1,e6,e7,Bool.false_eq_true,if_false]
    congr 2
    apply Array.ext'
    simp
   unfold Oper.wp
   rw [hrun]
   simp only [Oper.upon]
   have RX:=Og lK hs args e5
   obtain ⟨hfit,VY⟩:=hh x y hF
   have main:∀ (σ' μ':AS) (g:Gh) (hs:bO N c0 w0 σ' g a w) (lK:Ak μ' σ' (d0.bx.map (·.1))) (har:ak g w ps (args.toList.map a.eval ++ vs)) (_:Mc = μ'.box) (_:σ'.app o.dst d0 = σ.app o.dst { d0 with bx:=ex ++ d0.bx }),Calls P gf (args.toList.map a.eval ++ vs).toArray w fun e w'=>∃ v,e = .returned v ∧ ∃ g',bO N c0 w0 (σ.app o.dst { d0 with bx:=ex ++ d0.bx }) g' (a.put o.dst v) w':=by
    rintro σ' μ' g hs lK har rfl happ
    have pR:=lK.ok hs
    have hargs:=CO (fP:=fZ μ'.box c.ins ps) (ins:=c.ins) (yE:=ps) (pos:=0) pR (Ei (pos:=0) pR hx har (gT hnd)) (fun k=>by rw [Nat.zero_add]) (fun k=>by rw [Nat.zero_add]) hfit.1 hx har (fun _ h=>h) (fun e he=>⟨he,JL hdj _ (rz pR hx har e he)⟩)
    refine (VY _ _ w _ ⟨fun b o id hid=>?_,fun j hj=>(hs.lay.2 j).trans (hs.keep.lay.1 j hj),fun o id hid=>?_⟩ (by simpa using hargs)).mono fun e w' hb=>?_
    · obtain ⟨e,he,Eh,_,hem⟩:=kL hid
      rw [← hem]
      exact ⟨CR hfit.1 (by have:=hfit.2; omega) e he,hs.Ns Eh⟩
    · obtain ⟨e,_,Eh,_⟩:=kL hid
      exact hs.lay.1 o _ Eh
    · rw [← happ]
      exact hs.call lK hfit har hx hnd hdj hfl hW hd hD hnb hb
   have fin:Calls P gf (args.toList.map a.eval ++ vs).toArray w fun e w'=>∃ v,e = .returned v ∧ ∃ g',bO N c0 w0 (σ.app o.dst { d0 with bx:=ex ++ d0.bx }) g' (a.put o.dst v) w':=by
    rcases RV hE with ⟨q1,rfl,rfl⟩ | ⟨id,k,r,dd,u,l,hv,v,h',n,ea,Zh,hb,hnx,hmv,hne,q1,rfl,rfl⟩
    · exact main σ μ g hs lK RX q1 rfl
    · rw [Zh] at hd hin hE
      simp only [RA,List.any_eq_true] at hin
      obtain ⟨⟨dd',cd⟩,JK,hdq⟩:=hin
      obtain rfl:dd' = dd:=Nat.eq_of_beq_eq_true hdq
      have hdn:dd' ∈ d0.bx.map (·.1):=List.mem_map.mpr ⟨_,JK,rfl⟩
      have LY:=lK.box _ _ hb
      rw [ea] at RX
      simp only [ak] at RX
      obtain ⟨u1,us,ev,hr1,hrs⟩:=RX
      simp only [aF] at hr1
      have hk:k < l.len:=by
       obtain ⟨_,_,q,_⟩:=(lK.ok hs) _ _ hb
       rw [← q]; exact hr1.2.1
      obtain ⟨g1,gs,hs1,k1,k2⟩:=hs.extract LY hmv hk (jk hd) hne (by rw [IC lK (List.mem_map.mpr ⟨(dd',cd),by simp [JK],rfl⟩)]; exact hnx)
      have happ:({ σ with box:=upd (upd σ.box id (some (.hol u l k hv v))) dd' (some (.row u (l.get k) none h' n)) }:AS).app (some dd') d0 = σ.app (some dd') { d0 with bx:=[(id,.hol u l k hv v)] ++ d0.bx }:=by
       unfold AS.app
       simp only [List.map_cons,List.cons_append,List.nil_append]
       congr 1
       funext j
       have em:(d0.bx.map fun p=>(p.1,some p.2)).map (·.1) = d0.bx.map (·.1):=by rw [List.map_map]; rfl
       rw [oG]
       by_cases hj:j ∈ d0.bx.map (·.1)
       · exact tL _ _ _ _ (by rw [em]; exact hj)
       · rw [fK _ _ _ (by rw [em]; exact hj),fK _ _ _ (by rw [em]; exact hj)]
         simp only [cK]
         rw [if_neg (fun (q:j = dd')=>hj (by rw [q]; exact hdn))]
      refine main _ { μ with box:=Mc } g1 hs1 ?_ ?_ rfl (by rw [Zh]; exact happ)
      · subst q1
        refine ⟨lK.env,fun b0 c0 hb0=>?_,fun b0 hb0=>?_⟩
        · simp only [cK] at hb0 ⊢
          split
          · rename_i q; rw [if_pos q] at hb0; exact hb0
          · rename_i q
            rw [if_neg q] at hb0
            split
            · rename_i q2; rw [if_pos q2] at hb0; exact hb0
            · rename_i q2; rw [if_neg q2] at hb0; exact lK.box _ _ hb0
        · simp only [cK]
          rw [lK.new b0 (by rw [List.map_append]; exact List.mem_append_right _ hb0)]
      · rw [ev]
        simp only [ak]
        exact ⟨u1,us,rfl,by simp only [aF]; exact ⟨k1,by rw [k2]; exact hr1.2.2⟩,ak.mono gs _ _ hrs⟩
   refine fin.mono fun e w' hb=>?_
   obtain ⟨v,rfl,g',h2⟩:=hb
   exact hn v w' g' h2
theorem xJ (hs:bO N c0 w0 σ g a w) {ops:Array Oper} {o:Oper} {b:Bool} (h:dP ops.toList o σ b):Region.wanted o (yielded ops a.tmps) = b:=by
 unfold dP guardOf at h
 unfold Region.wanted
 cases hg:o.guard with
 | none=>rw [hg] at h; simp only at h ⊢; exact h.symm
 | some jw =>
   obtain ⟨j,want⟩:=jw
   rw [hg] at h
   simp only at h ⊢
   have e0:ops.toList[j]? = ops[j]?:=by simp
   rw [e0] at h
   cases hd:(ops[j]?).bind (·.dst) with
   | none=>rw [hd] at h; exact h.elim
   | some gd =>
     rw [hd] at h
     simp only at h
     rcases h with ⟨c,hc,rfl⟩ | ⟨hc,rfl⟩
     · have hr:=hs.env gd
       rw [hc] at hr
       simp only [aF] at hr
       have hget:a.tmps[gd]? = some (.bool c):=by
        cases hq:a.tmps[gd]? with
        | none=>simp [Array.getD_eq_getD_getElem?,hq,undef] at hr
        | some u=>simp [Array.getD_eq_getD_getElem?,hq] at hr; rw [hr]
       have hy:yielded ops a.tmps j = some c:=by
        unfold yielded
        rw [hd]
        simp [hget]
       rw [hy]
       cases c <;> cases want <;> rfl
     · have hr:=hs.env gd
       rw [hc] at hr
       simp only [aF] at hr
       obtain ⟨vs,hv,hvs⟩:=hr
       simp only [ak] at hvs
       subst hvs
       have hy:yielded ops a.tmps j = none:=by
        unfold yielded
        rw [hd]
        cases hq:a.tmps[gd]? with
        | none=>simp [hq]
        | some u=>simp [Array.getD_eq_getD_getElem?,hq] at hv; subst hv; simp [hq]
       rw [hy]
       cases want <;> rfl
theorem El (yC:sM P Γ) (hT:pJ P T) {R:Type} {ops:Array Oper} {Q:Exit→Act→World→Prop} (hdst:∀ o ∈ ops.toList,dZ N o.dst = true):∀ (rest:List Oper) (k:Nat) (σ:AS) (g:Gh) (a:Act) (w:World) (K:AS→Option R) (r:R),ops.toList.drop k = rest →
 DU P Γ T ops.toList rest σ K = some r→bO N c0 w0 σ g a w→(∀ σ' g' a' w',K σ' = some r→bO N c0 w0 σ' g' a' w'→Q .normal a' w')→wpOps P ops Q (List.range' k rest.length) a w
 | [],k,σ,g,a,w,K,r,_,h,hs,hK=>by
   simp only [DU] at h
   exact hK _ g a w h hs
 | o::rest,k,σ,g,a,w,K,r,hr,h,hs,hK=>by
   have hok:ops[k]? = some o:=by
    have:=congrArg (fun l=>l[0]?) hr
    simpa using this
   have hmem:o ∈ ops.toList:=List.mem_of_getElem? (by simpa using hok)
   have hr':ops.toList.drop (k + 1) = rest:=by
    have:=congrArg List.tail hr
    simpa using this
   simp only [List.length_cons,List.range'_succ,wpOps,hok]
   obtain ⟨x,h1,h2,h3⟩:=Ma h
   have hw:=xJ hs h1
   cases x with
   | none =>
     rw [if_neg (by rw [hw]; simp)]
     exact El yC hT hdst rest (k + 1) _ g _ _ K r hr' h3 (hs.put (hdst o hmem) (by simp only [aF]; exact ⟨[],rfl,by simp only [ak]⟩)) hK
   | some d =>
     rw [if_pos (by rw [hw]; rfl)]
     refine .inl (AF yC hT hs (h2 d rfl) (Ak.refl _ _) (hdst o hmem) fun v w' g' hs'=>?_)
     exact El yC hT hdst rest (k + 1) _ g' _ _ K r hr' h3 hs' hK
/-! ### Whatever the order -/
def dA (κ:Nat) (σ τ:AS):Prop:=(∀ t,κ = 2 * t→σ.env t = τ.env t) ∧ ∀ b,κ = 2 * b + 1→σ.box b = τ.box b
theorem dA.refl (κ:Nat) (σ:AS):dA κ σ σ:=⟨fun _ _=>rfl,fun _ _=>rfl⟩
theorem dA.symm {κ:Nat} {σ τ:AS} (h:dA κ σ τ):dA κ τ σ:=⟨fun t e=>(h.1 t e).symm,fun t e=>(h.2 t e).symm⟩
theorem dA.trans {κ:Nat} {σ τ ρ:AS} (h:dA κ σ τ) (k:dA κ τ ρ):dA κ σ ρ:=⟨fun t e=>(h.1 t e).trans (k.1 t e),fun t e=>(h.2 t e).trans (k.2 t e)⟩
theorem AS.AJ {σ τ:AS} (h:∀ κ,dA κ σ τ):σ = τ:=by
 obtain ⟨e,b⟩:=σ
 obtain ⟨e',b'⟩:=τ
 have h1:e = e':=funext fun t=>(h (2 * t)).1 t rfl
 have h2:b = b':=funext fun t=>(h (2 * t + 1)).2 t rfl
 rw [h1,h2]
theorem CV {F:List (Nat×Bool)} {k:Nat} (h:kU F k = true):∃ p ∈ F,p.1 = k:=by
 obtain ⟨p,hp,e⟩:=List.any_eq_true.mp h
 exact ⟨p,hp,Nat.eq_of_beq_eq_true e⟩
theorem Md {F:List (Nat×Bool)} {σ τ:AS} (h:∀ p ∈ F,dA p.1 σ τ):pV F σ = pV F τ:=by
 unfold pV
 congr 1
 · funext t
   cases hk:kU F (2 * t) with
   | false=>rfl
   | true =>
     obtain ⟨p,hp,e⟩:=CV hk
     exact (h p hp).1 t e
 · funext b
   cases hk:kU F (2 * b + 1) with
   | false=>rfl
   | true =>
     obtain ⟨p,hp,e⟩:=CV hk
     exact (h p hp).2 b e
theorem Oh {F:List (Nat×Bool)} {d:Dl} (h:yw F d = true):∀ p ∈ d.bx,(2 * p.1 + 1,true) ∈ F:=fun p hp=>by
 have:=List.all_eq_true.mp h p hp
 obtain ⟨q,hq,e⟩:=List.any_eq_true.mp this
 simp only [Bool.and_eq_true] at e
 have e1:=Nat.eq_of_beq_eq_true e.1
 obtain ⟨q1,q2⟩:=q
 simp only at e e1
 rw [← e1,← e.2]; exact hq
theorem RY {F:List (Nat×Bool)} {d:Dl} (h:yw F d = true) (σ:AS):Ak (pV F σ) σ (d.bx.map (·.1)):=by
 refine ⟨fun t=>?_,fun b c hc=>?_,fun b hb=>?_⟩
 · show (bif kU F (2 * t) then σ.env t else .any) = _ ∨ (bif kU F (2 * t) then σ.env t else .any) = _
   cases kU F (2 * t)
   · exact .inr rfl
   · exact .inl rfl
 · change (bif kU F (2 * b + 1) then σ.box b else none) = some c at hc
   cases hk:kU F (2 * b + 1) with
   | false=>rw [hk] at hc; cases hc
   | true=>rw [hk] at hc; exact hc
 · obtain ⟨p,hp,rfl⟩:=List.mem_map.mp hb
   have hk:kU F (2 * p.1 + 1) = true:=List.any_eq_true.mpr ⟨_,Oh h p hp,by simp⟩
   show (bif kU F (2 * p.1 + 1) then σ.box p.1 else none) = _
   rw [hk]; rfl
def Writes (o:Oper) (x:Option Dl) (κ:Nat):Prop:=(∃ t,o.dst = some t ∧ κ = 2 * t) ∨ ∃ d,x = some d ∧ ∃ p ∈ d.bx,κ = 2 * p.1 + 1
theorem uR {o:Oper} {x:Option Dl} {κ:Nat} (h:¬ Writes o x κ) (σ:AS):dA κ (jo o x σ) σ:=by
 have hd:∀ t,κ = 2 * t→o.dst ≠ some t:=fun t e hd=>h (.inl ⟨t,hd,e⟩)
 cases x with
 | none =>
   refine ⟨fun t e=>?_,fun b _=>?_⟩
   · cases hdst:o.dst with
     | none=>simp [jo,AS.put,hdst]
     | some d =>
       simp only [jo,AS.put,hdst]
       rw [cK,if_neg]
       rintro rfl; exact hd _ e hdst
   · cases hdst:o.dst <;> simp [jo,AS.put,hdst]
 | some d =>
   refine ⟨fun t e=>?_,fun b e=>?_⟩
   · cases hdst:o.dst with
     | none=>simp [jo,AS.app,hdst]
     | some d' =>
       simp only [jo,AS.app,hdst]
       rw [cK,if_neg]
       rintro rfl; exact hd _ e hdst
   · show oG σ.box _ b = _
     rw [fK]
     intro hm
     simp only [List.map_map,List.mem_map] at hm
     obtain ⟨p,hp,rfl⟩:=hm
     exact h (.inr ⟨d,rfl,p,hp,e⟩)
theorem CW {o:Oper} {x:Option Dl} {κ:Nat} (h:Writes o x κ) (σ τ:AS):dA κ (jo o x σ) (jo o x τ):=by
 rcases h with ⟨t,hdst,rfl⟩ | ⟨d,rfl,p,hp,rfl⟩
 · refine ⟨fun t' e=>?_,fun b e=>absurd e (by omega)⟩
   have e2:t = t':=Nat.eq_of_mul_eq_mul_left (by decide:0 < 2) e
   subst e2
   cases x with
   | none=>simp [jo,AS.put,hdst,cK]
   | some d=>simp [jo,AS.app,hdst,cK]
 · refine ⟨fun t' e=>absurd e (by omega),fun b e=>?_⟩
   have e2:p.1 = b:=by omega
   subst e2
   exact tL _ _ _ _ (by simp only [List.map_map,List.mem_map]; exact ⟨p,hp,rfl⟩)
theorem CX (o:Oper) (x:Option Dl) {κ:Nat} {σ τ:AS} (h:dA κ σ τ):dA κ (jo o x σ) (jo o x τ):=by
 by_cases hw:Writes o x κ
 · exact CW hw σ τ
 · exact (uR hw σ).trans (h.trans (uR hw τ).symm)
theorem FX {all:List Oper} {o:Oper} {σ τ:AS} (h:∀ p ∈ uj all o,dA p.1 σ τ) {b:Bool} (hg:dP all o σ b):dP all o τ b:=by
 unfold dP at hg ⊢
 cases hgo:guardOf all o with
 | none=>rw [hgo] at hg; exact hg
 | some q =>
   obtain ⟨gd,want⟩:=q
   rw [hgo] at hg
   cases gd with
   | none=>exact hg
   | some gd =>
     simp only at hg ⊢
     have hm:(2 * gd,false) ∈ uj all o:=by
      unfold uj
      refine List.mem_append_left _ (List.mem_append_right _ ?_)
      rw [hgo]; simp
     rw [← (h _ hm).1 gd rfl]
     exact hg
structure Told (P:Program) (Γ:TypeId→Option Ty) (T:tZ) (all:List Oper) (x:Nat→Option Dl) (st:Nat→AS) (es:List (Nat×Nat×Bool)) (k:Nat):Prop where
 step:∀ i o,k≤i→all[i]? = some o→dP all o (st i) (x i).isSome ∧ (∀ d,x i = some d→nD P Γ T o (pV (foot T all o (st i)) (st i)) d ∧ yw (foot T all o (st i)) d = true) ∧ st (i + 1) = jo o (x i) (st i)
 ent:∀ i o,k≤i→all[i]? = some o→∀ e ∈ keyed i (fts T all o (x i) (st i)),e ∈ es
theorem JW {R:Type} {all:List Oper}:∀ (rest:List Oper) (k:Nat) (es:List (Nat×Nat×Bool)) (σ:AS) (K:AS→List (Nat×Nat×Bool)→Option R) (r:R),all.drop k = rest→k≤all.length→wB P Γ T all rest k es σ K = some r →
 ∃ x st Zi,st k = σ ∧ Told P Γ T all x st Zi k ∧ (∀ e ∈ es,e ∈ Zi) ∧ K (st all.length) Zi = some r
 | [],k,es,σ,K,r,hr,hk,h=>by
   simp only [wB] at h
   have hkl:k = all.length:=by have:=congrArg List.length hr; simp at this; omega
   refine ⟨fun _=>none,fun _=>σ,es,rfl,⟨fun i o hi ho=>?_,fun i o hi ho=>?_⟩,fun _ h=>h,h⟩
   · have:=(List.getElem?_eq_some_iff.mp ho).1; omega
   · have:=(List.getElem?_eq_some_iff.mp ho).1; omega
 | o::rest,k,es,σ,K,r,hr,hk,h=>by
   obtain ⟨x0,h1,h2,h3⟩:=L9 h
   have hok:all[k]? = some o:=by
    have:=congrArg (fun l=>l[0]?) hr
    simpa using this
   have hkl:k < all.length:=(List.getElem?_eq_some_iff.mp hok).1
   have hr':all.drop (k + 1) = rest:=by
    have:=congrArg List.tail hr
    simpa using this
   obtain ⟨x,st,Zi,q1,q2,q3,q4⟩:=JW rest (k + 1) _ _ K r hr' (by omega) h3
   refine ⟨fun i=>if i = k then x0 else x i,fun i=>if i = k then σ else st i,Zi,by simp,⟨fun i o' hi ho=>?_,fun i o' hi ho=>?_⟩,fun e he=>q3 e (List.mem_append_right _ he),?_⟩
   · by_cases hik:i = k
     · subst hik
       rw [hok] at ho; cases ho
       simp only [if_true]
       exact ⟨h1,h2,by rw [if_neg (by omega)]; exact q1⟩
     · simp only [if_neg hik]
       rw [if_neg (by omega)]
       exact q2.step i o' (by omega) ho
   · by_cases hik:i = k
     · subst hik
       rw [hok] at ho; cases ho
       simp only [if_true]
       exact fun e he=>q3 e (List.mem_append_left _ he)
     · simp only [if_neg hik]
       exact q2.ent i o' (by omega) ho
   · simp only
     rw [if_neg (by omega)]
     exact q4
def gL (all:List Oper) (x:Nat→Option Dl) (σ:AS) (S:Nat→Bool):Nat→AS
 | 0=>σ
 | i + 1=>match all[i]? with
   | some o=>if S i then jo o (x i) (gL all x σ S i) else gL all x σ S i
   | none=>gL all x σ S i
theorem pz {all:List Oper} {x:Nat→Option Dl} {st:Nat→AS} {es:List (Nat×Nat×Bool)} (h:Told P Γ T all x st es 0) (i:Nat) (hi:i≤all.length):∀ n,i≤n→gL all x (st 0) (fun j=>decide (j < i)) n = st i:=by
 have h1:∀ n,n≤i→gL all x (st 0) (fun j=>decide (j < i)) n = st n:=by
  intro n
  induction n with
  | zero=>intro _; rfl
  | succ n ih =>
    intro hn
    have hlt:n < all.length:=by omega
    simp only [gL,List.getElem?_eq_getElem hlt]
    rw [if_pos (by simp; omega),ih (by omega)]
    exact ((h.step n _ (Nat.zero_le _) (List.getElem?_eq_getElem hlt)).2.2).symm
 intro n
 induction n with
 | zero=>intro hn; exact h1 0 (by omega) ▸ (by rw [show i = 0 by omega]; rfl)
 | succ n ih =>
   intro hn
   by_cases hin:i = n + 1
   · rw [h1 (n + 1) (by omega),hin]
   · simp only [gL]
     split
     · rw [if_neg (by simp; omega)]
       exact ih (by omega)
     · exact ih (by omega)
theorem kM {all:List Oper} {x:Nat→Option Dl} {σ:AS} {S1 S2:Nat→Bool} {κ:Nat}:∀ (n:Nat),(∀ j o,j < n→all[j]? = some o→S1 j = S2 j ∨ ¬ Writes o (x j) κ)→dA κ (gL all x σ S1 n) (gL all x σ S2 n)
 | 0,_=>dA.refl _ _
 | n + 1,h=>by
   have ih:=kM (all:=all) (x:=x) (σ:=σ) n fun j o hj ho=>h j o (by omega) ho
   simp only [gL]
   split
   · rename_i o ho
     rcases h n o (by omega) ho with he | hw
     · rw [he]
       split
       · exact CX o (x n) ih
       · exact ih
     · have hn:=uR hw
       split <;> split
       · exact CX o (x n) ih
       · exact (hn _).trans ih
       · exact ih.trans (hn _).symm
       · exact ih
   · exact ih
theorem AL {all:List Oper} {x:Nat→Option Dl} {σ:AS} {S:Nat→Bool} {κ i:Nat} {o:Oper} (ho:all[i]? = some o) (hS:S i = true) (hw:Writes o (x i) κ) (τ:AS):∀ (n:Nat),i < n→(∀ j o',i < j→j < n→all[j]? = some o'→S j = true→¬ Writes o' (x j) κ)→dA κ (gL all x σ S n) (jo o (x i) τ)
 | 0,hi,_=>by omega
 | n + 1,hi,h=>by
   by_cases hin:i = n
   · subst hin
     simp only [gL,ho]
     rw [if_pos hS]
     exact CW hw _ _
   · have ih:=AL (σ:=σ) ho hS hw τ n (by omega) fun j o' h1 h2=>h j o' h1 (by omega)
     simp only [gL]
     split
     · rename_i o' ho'
       split
       · rename_i hSn
         exact (uR (h n o' (by omega) (by omega) ho' hSn) _).trans ih
       · exact ih
     · exact ih
/-! ### What comes before what -/
theorem IW {acc:List Nat} {o:Oper} {k:Nat} (h:(wz acc o).testBit k = true):∃ e ∈ o.after.toList,Region.binds .any e = true ∧ (k = e.on ∨ (acc.getD e.on 0).testBit k = true):=by
 unfold wz at h
 have key:∀ (l:List Edge) (s:Nat),(l.foldl (fun s e=>bif Region.binds .any e then s ||| 2 ^ e.on ||| acc.getD e.on 0 else s) s).testBit k = true→s.testBit k = true ∨ ∃ e ∈ l,Region.binds .any e = true ∧ (k = e.on ∨ (acc.getD e.on 0).testBit k = true):=by
  intro l
  induction l with
  | nil=>intro s h; exact .inl h
  | cons e r ih =>
    intro s h
    simp only [List.foldl_cons] at h
    rcases ih _ h with h | ⟨e',he',h'⟩
    · cases hb:Region.binds .any e with
      | false=>rw [hb] at h; exact .inl h
      | true =>
        rw [hb] at h
        simp only [cond_true,Nat.testBit_or,Bool.or_eq_true,Nat.testBit_two_pow] at h
        rcases h with (h | h) | h
        · exact .inl h
        · simp only [decide_eq_true_eq] at h
          exact .inr ⟨e,by simp,hb,.inl h.symm⟩
        · exact .inr ⟨e,by simp,hb,.inr h⟩
    · exact .inr ⟨e',by simp [he'],h'⟩
 rcases key _ _ h with h | h
 · simp at h
 · exact h
theorem CY:∀ (l:List Oper) (acc:List Nat) (i:Nat) (o:Oper),l[i]? = some o→(masks l acc).getD (acc.length + i) 0 = wz ((masks l acc).take (acc.length + i)) o ∧ (∀ j,j < acc.length→(masks l acc)[j]? = acc[j]?)
 | [],acc,i,o,h=>by simp at h
 | a::r,acc,i,o,h=>by
   have pre:∀ (l:List Oper) (acc:List Nat) (j:Nat),j < acc.length→(masks l acc)[j]? = acc[j]?:=by
    intro l
    induction l with
    | nil=>intro acc j _; rfl
    | cons b s ih =>
      intro acc j hj
      simp only [masks]
      rw [ih _ j (by simp; omega),List.getElem?_append_left hj]
   refine ⟨?_,fun j hj=>pre (a::r) acc j hj⟩
   cases i with
   | zero =>
     simp at h; subst h
     simp only [masks,Nat.add_zero]
     have h1:=pre r (acc ++ [wz acc a]) acc.length (by simp)
     rw [List.getD_eq_getElem?_getD,h1]
     simp only [List.getElem?_concat_length,Option.getD_some]
     congr 1
     apply List.ext_getElem?
     intro j
     rw [List.getElem?_take]
     split
     · rename_i hj
       rw [pre r _ j (by simp; omega),List.getElem?_append_left hj]
     · rename_i hj
       rw [List.getElem?_eq_none (by omega)]
   | succ i =>
     simp only [List.getElem?_cons_succ] at h
     simp only [masks]
     have ih:=(CY r (acc ++ [wz acc a]) i o h).1
     simp only [List.length_append,List.length_singleton] at ih
     rw [show acc.length + (i + 1) = acc.length + 1 + i by omega]
     exact ih
theorem RZ {all:List Oper} {i:Nat} {o:Oper} (ho:all[i]? = some o) {k:Nat} (h:((masks all []).getD i 0).testBit k = true):∃ e ∈ o.after.toList,Region.binds .any e = true ∧ (k = e.on ∨ (e.on < i ∧ ((masks all []).getD e.on 0).testBit k = true)):=by
 have h1:=(CY all [] i o ho).1
 simp only [List.length_nil,Nat.zero_add] at h1
 rw [h1] at h
 obtain ⟨e,he,hb,hk⟩:=IW h
 refine ⟨e,he,hb,?_⟩
 rcases hk with hk | hk
 · exact .inl hk
 · right
   rw [List.getD_eq_getElem?_getD,List.getElem?_take] at hk
   split at hk
   · rename_i hlt
     exact ⟨hlt,by rw [List.getD_eq_getElem?_getD]; exact hk⟩
   · simp at hk
theorem FY:∀ (l:List Oper) (k:Nat),DT l k = true→∀ (i:Nat) (o:Oper),l[i]? = some o→∀ e ∈ o.after.toList,Region.binds .any e = true→e.on < k + i
 | [],k,_,i,o,h=>by simp at h
 | a::r,k,hb,i,o,h=>by
   simp only [DT,Bool.and_eq_true,List.all_eq_true,Bool.or_eq_true,Bool.not_eq_true'] at hb
   cases i with
   | zero =>
     simp at h; subst h
     intro e he hbi
     rcases hb.1 e he with h' | h'
     · rw [hbi] at h'; cases h'
     · rw [Nat.blt_eq] at h'; omega
   | succ i =>
     simp only [List.getElem?_cons_succ] at h
     intro e he hbi
     have:=FY r (k + 1) hb.2 i o h e he hbi
     omega
theorem AO {all:List Oper} {es:List (Nat×Nat×Bool)} (h:ng all es = true) {κ i j:Nat} {b:Bool} (h1:(κ,i,true) ∈ es) (h2:(κ,j,b) ∈ es) (hij:i ≠ j):((masks all []).getD (max i j) 0).testBit (min i j) = true:=by
 unfold ng at h
 simp only [Bool.and_eq_true,List.all_eq_true,Bool.or_eq_true,Bool.not_eq_true'] at h
 have:=h.2 _ h1
 simp only [Bool.true_eq_false,false_or] at this
 have:=this _ h2
 unfold clash at this
 simp only [Bool.true_and,Nat.beq_refl] at this
 cases hq:((masks all []).getD (max i j) 0).testBit (min i j) with
 | true=>rfl
 | false =>
   rw [hq] at this
   have hne:Nat.beq i j = false:=by
    cases hb:Nat.beq i j with
    | true=>exact absurd (Nat.eq_of_beq_eq_true hb) hij
    | false=>rfl
   rw [hne] at this
   simp at this
theorem tO {all:List Oper} {x:Nat→Option Dl} {st:Nat→AS} {es:List (Nat×Nat×Bool)} (h:Told P Γ T all x st es 0) {j:Nat} {o:Oper} (ho:all[j]? = some o) {κ:Nat} (hw:Writes o (x j) κ):(κ,j,true) ∈ es:=by
 have he:=h.ent j o (Nat.zero_le _) ho
 have hstep:=h.step j o (Nat.zero_le _) ho
 rcases hw with ⟨t,hd,rfl⟩ | ⟨d,hx,p,hp,rfl⟩
 · have hm:(2 * t,true) ∈ uj all o:=by
    unfold uj
    exact List.mem_append_right _ (by rw [hd]; simp)
   apply he
   cases hx:x j with
   | none=>exact List.mem_map.mpr ⟨_,hm,rfl⟩
   | some d=>exact List.mem_map.mpr ⟨(2 * t,true),List.mem_append_left _ hm,rfl⟩
 · apply he
   rw [hx]
   exact List.mem_map.mpr ⟨(2 * p.1 + 1,true),Oh (hstep.2.1 d hx).2 p hp,rfl⟩
theorem IX {listed:Array Bool} {i:Nat} (h:listed.getD i true = false):listed.getD i false = false:=by
 simp only [Array.getD_eq_getD_getElem?] at h ⊢
 cases hq:listed[i]? with
 | none=>rfl
 | some b=>rw [hq] at h; simpa using h
theorem Me {listed:Array Bool} {i:Nat} (hi:i < listed.size) (h:listed.getD i false = false):listed.getD i true = false:=by
 simp only [Array.getD_eq_getD_getElem?] at h ⊢
 rw [Array.getElem?_eq_getElem hi] at h ⊢
 simpa using h
structure Closed (all:List Oper) (S:Nat→Bool):Prop where
 cl:∀ j k,S j = true→((masks all []).getD j 0).testBit k = true→S k = true
section one
variable {all:List Oper} {x:Nat→Option Dl} {st:Nat→AS} {es:List (Nat×Nat×Bool)} {S:Nat→Bool} {i:Nat} {o:Oper}
theorem FZ (q2:Told P Γ T all x st es 0) (hd:ng all es = true) (hcl:Closed all S) (ho:all[i]? = some o) (hi:S i = false) (hm:∀ k,((masks all []).getD i 0).testBit k = true→S k = true) {κ:Nat} {b:Bool} (hk:(κ,i,b) ∈ es) :
 dA κ (st i) (gL all x (st 0) S all.length):=by
 have hil:i < all.length:=(List.getElem?_eq_some_iff.mp ho).1
 rw [← pz q2 i (by omega) all.length (by omega)]
 refine kM _ fun j o' hj ho'=>?_
 by_cases hw:Writes o' (x j) κ
 · left
   by_cases hij:j = i
   · subst hij; simp [hi]
   · have h1:=AO hd (tO q2 ho' hw) hk hij
     by_cases hlt:j < i
     · rw [Nat.max_eq_right (by omega),Nat.min_eq_left (by omega)] at h1
       simp [hlt,hm _ h1]
     · rw [Nat.max_eq_left (by omega),Nat.min_eq_right (by omega)] at h1
       cases hs:S j with
       | false=>simp [hlt]
       | true=>rw [hcl.cl j i hs h1] at hi; cases hi
 · exact .inr hw
theorem Mf (q2:Told P Γ T all x st es 0) (hd:ng all es = true) (hcl:Closed all S) (ho:all[i]? = some o) (hi:S i = false) {S':Nat→Bool} (hS':∀ j,S' j = if j = i then true else S j) :
 jo o (x i) (gL all x (st 0) S all.length) = gL all x (st 0) S' all.length:=by
 have hil:i < all.length:=(List.getElem?_eq_some_iff.mp ho).1
 refine AS.AJ fun κ=>?_
 by_cases hw:Writes o (x i) κ
 · refine (AL (σ:=st 0) (S:=S') ho (by rw [hS',if_pos rfl]) hw _ _ hil fun j o' hij hj ho' hs hw'=>?_).symm
   rw [hS',if_neg (by omega)] at hs
   have h1:=AO hd (tO q2 ho' hw') (tO q2 ho hw) (by omega)
   rw [Nat.max_eq_left (by omega),Nat.min_eq_right (by omega)] at h1
   rw [hcl.cl j i hs h1] at hi; cases hi
 · refine (uR hw _).trans (kM _ fun j o' hj ho'=>?_)
   by_cases hij:j = i
   · subst hij; rw [ho] at ho'; cases ho'; exact .inr hw
   · left; rw [hS',if_neg hij]
theorem Closed.add (hcl:Closed all S) (hm:∀ k,((masks all []).getD i 0).testBit k = true→S k = true) {S':Nat→Bool} (hS':∀ j,S' j = if j = i then true else S j):Closed all S':=by
 refine ⟨fun j k hj hk=>?_⟩
 rw [hS']
 split
 · rfl
 · rw [hS'] at hj
   split at hj
   · rename_i e; subst e; exact hm k hk
   · exact hcl.cl j k hj hk
end one
theorem Oi (yC:sM P Γ) (hT:pJ P T) {R:Type} {ops:Array Oper} {Q:Exit→Act→World→Prop} (hdst:∀ o ∈ ops.toList,dZ N o.dst = true) {σ:AS} {g:Gh} {a:Act} {w:World} {K:AS→List (Nat×Nat×Bool)→Option R} {r:R}
 (h:wB P Γ T ops.toList ops.toList 0 [] σ K = some r) (hok:∀ σ' es',K σ' es' = some r→ng ops.toList es' = true) (hs:bO N c0 w0 σ g a w) (hK:∀ σ' es' g' a' w',K σ' es' = some r→bO N c0 w0 σ' g' a' w'→Q .normal a' w') :
 wpAny P .any ops Q ops.size (Array.replicate ops.size false) a w:=by
 obtain ⟨x,st,es,q1,q2,_,q4⟩:=JW (P:=P) (Γ:=Γ) (T:=T) ops.toList 0 [] σ K r (by simp) (Nat.zero_le _) h
 have Oj:=hok _ _ q4
 have Zj:∀ (i:Nat) (o:Oper),ops.toList[i]? = some o→∀ e ∈ o.after.toList,Region.binds .any e = true→e.on < i:=by
  intro i o ho e he hb
  have hd:=Oj
  unfold ng at hd
  simp only [Bool.and_eq_true] at hd
  have:=FY _ 0 hd.1 i o ho e he hb
  omega
 have hlen:ops.toList.length = ops.size:=by simp
 have fin:∀ (listed:Array Bool) (g:Gh) (a:Act) (w:World),listed.size = ops.size→Region.ready .any ops listed = []→bO N c0 w0 (gL ops.toList x (st 0) (fun j=>listed.getD j false) ops.toList.length) g a w→Q .normal a w:=by
  intro listed g a w hsz hr hs
  have hall:∀ i,i < ops.size→listed.getD i false = true:=by
   intro i
   induction i using Nat.strongRecOn with
   | _ i ih =>
     intro hi
     cases hl:listed.getD i false with
     | true=>rfl
     | false =>
       exfalso
       have hm:i ∈ Region.ready .any ops listed:=by
        rw [mem_ready]
        refine ⟨Me (by omega) hl,ops[i],Array.getElem?_eq_getElem hi,fun e he hb=>?_⟩
        have hlt:=Zj i ops[i] (by rw [List.getElem?_eq_getElem (by simpa using hi)]; simp) e (by simpa using he) hb
        exact ih e.on hlt (by omega)
       rw [hr] at hm
       simp at hm
  have he:gL ops.toList x (st 0) (fun j=>listed.getD j false) ops.toList.length = st ops.toList.length:=by
   rw [← pz q2 ops.toList.length (Nat.le_refl _) ops.toList.length (Nat.le_refl _)]
   refine AS.AJ fun κ=>?_
   refine kM _ fun j o hj ho=>.inl ?_
   rw [hall j (by omega)]
   simp only [hj,decide_true]
  rw [he] at hs
  exact hK _ _ _ _ _ q4 hs
 have main:∀ (fuel:Nat) (l:List Nat) (listed:Array Bool) (g:Gh) (a:Act) (w:World),listed.size = ops.size→l.length = fuel→(∀ i,i < ops.size→listed.getD i true = false→i ∈ l) →
  Closed ops.toList (fun j=>listed.getD j false) →
  bO N c0 w0 (gL ops.toList x (st 0) (fun j=>listed.getD j false) ops.toList.length) g a w→wpAny P .any ops Q fuel listed a w:=by
  intro fuel
  induction fuel with
  | zero =>
    intro l listed g a w hsz hl hin hcl hs
    have hr:Region.ready .any ops listed = []:=by
     rw [List.eq_nil_iff_forall_not_mem]
     intro i hi
     have hm:=mem_ready.mp hi
     obtain ⟨o,ho,_⟩:=hm.2
     have:=hin i (Array.getElem?_eq_some_iff.mp ho).1 hm.1
     rw [List.length_eq_zero_iff.mp hl] at this
     simp at this
    exact ⟨hr,fin listed g a w hsz hr hs⟩
  | succ fuel ih =>
    intro l listed g a w hsz hl hin hcl hs
    refine ⟨fun hr=>fin listed g a w hsz hr hs,fun i hi=>?_⟩
    obtain ⟨hi0,o,ho,VZ⟩:=mem_ready.mp hi
    have hisz:i < ops.size:=(Array.getElem?_eq_some_iff.mp ho).1
    have hol:ops.toList[i]? = some o:=by simpa using ho
    have hmem:o ∈ ops.toList:=List.mem_of_getElem? hol
    have Zk:(fun j=>listed.getD j false) i = false:=IX hi0
    have hm:∀ k,((masks ops.toList []).getD i 0).testBit k = true→(fun j=>listed.getD j false) k = true:=by
     intro k hk
     obtain ⟨e,he,hb,h'⟩:=RZ hol hk
     have hon:=VZ e (by simpa using he) hb
     rcases h' with rfl | ⟨_,h'⟩
     · exact hon
     · exact hcl.cl e.on k hon h'
    have hS':∀ j,(fun j=>(listed.setIfInBounds i true).getD j false) j = if j = i then true else (fun j=>listed.getD j false) j:=by
     intro j
     simp only
     split
     · rename_i e; subst e
       simp only [Array.getD_eq_getD_getElem?]
       rw [Array.getElem?_setIfInBounds_self_of_lt (by omega)]
       rfl
     · exact getD_set_ne false (by omega)
    have hag:∀ {κ:Nat} {b:Bool},(κ,i,b) ∈ es→dA κ (st i) (gL ops.toList x (st 0) (fun j=>listed.getD j false) ops.toList.length):=fun hk=>FZ q2 Oj hcl hol Zk hm hk
    have hout:=Mf (i:=i) q2 Oj hcl hol Zk hS'
    have hcl':=hcl.add hm hS'
    obtain ⟨h1,h2,_⟩:=q2.step i o (Nat.zero_le _) hol
    have hent:=q2.ent i o (Nat.zero_le _) hol
    have hfT:∀ p ∈ uj ops.toList o,dA p.1 (st i) (gL ops.toList x (st 0) (fun j=>listed.getD j false) ops.toList.length):=by
     intro p hp
     refine hag (b:=p.2) (hent _ ?_)
     cases hx:x i with
     | none=>exact List.mem_map.mpr ⟨p,hp,rfl⟩
     | some d=>exact List.mem_map.mpr ⟨p,List.mem_append_left _ hp,rfl⟩
    have hg:=FX hfT h1
    have hw:=xJ hs hg
    have next:∀ (g':Gh) (a':Act) (w':World),bO N c0 w0 (jo o (x i) (gL ops.toList x (st 0) (fun j=>listed.getD j false) ops.toList.length)) g' a' w'→wpAny P .any ops Q fuel (listed.setIfInBounds i true) a' w':=by
     intro g' a' w' hs'
     rw [hout] at hs'
     refine ih (l.erase i) _ g' a' w' (by simp [hsz]) ?_ (fun j hj hj0=>?_) hcl' hs'
     · rw [List.length_erase_of_mem (hin i hisz hi0),hl]; rfl
     · have hji:j ≠ i:=by
        rintro rfl
        rw [Array.getD_eq_getD_getElem?,Array.getElem?_setIfInBounds_self_of_lt (by omega)] at hj0
        cases hj0
       rw [getD_set_ne true (by omega)] at hj0
       exact (List.mem_erase_of_ne hji).mpr (hin j hj hj0)
    unfold wpOp
    rw [ho]
    simp only
    cases hx:x i with
    | none =>
      rw [hx] at hw next
      rw [if_neg (by rw [hw]; simp)]
      exact next g _ _ (hs.put (hdst o hmem) (by simp only [aF]; exact ⟨[],rfl,by simp only [ak]⟩))
    | some d =>
      rw [hx] at hw next
      rw [if_pos (by rw [hw]; rfl)]
      obtain ⟨h4,h5⟩:=h2 d hx
      have hfA:∀ p ∈ foot T ops.toList o (st i),dA p.1 (st i) (gL ops.toList x (st 0) (fun j=>listed.getD j false) ops.toList.length):=by
       intro p hp
       refine hag (b:=p.2) (hent _ ?_)
       rw [hx]
       exact List.mem_map.mpr ⟨p,hp,rfl⟩
      rw [Md hfA] at h4
      exact .inl (AF yC hT hs h4 (RY h5 _) (hdst o hmem) fun v w' g' hs'=>next g' _ _ hs')
 refine main ops.size (List.range ops.size) _ g a w (by simp) (by simp) (fun i hi _=>List.mem_range.mpr hi) ⟨fun j k hj _=>?_⟩ ?_
 · simp only [Array.getD_eq_getD_getElem?,Array.getElem?_replicate] at hj
   split at hj <;> cases hj
 · have he:gL ops.toList x (st 0) (fun j=>(Array.replicate ops.size false).getD j false) ops.toList.length = st 0:=by
    refine Eq.trans ?_ (pz q2 0 (Nat.zero_le _) ops.toList.length (Nat.zero_le _))
    refine AS.AJ fun κ=>?_
    refine kM _ fun j o hj ho=>.inl ?_
    simp only [Array.getD_eq_getD_getElem?,Array.getElem?_replicate]
    split <;> simp
   rw [he,q1]
   exact hs
end
end Go.VE
