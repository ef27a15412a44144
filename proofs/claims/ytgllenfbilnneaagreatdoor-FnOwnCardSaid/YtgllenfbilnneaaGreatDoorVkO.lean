import Derived.Test.YtgllenfbilnneaaGreatDoorVkN
import Derived.Laws.BytesString
import Derived.Laws.BitsLemmas
/- Each operation of the evaluator is what the machine does. -/
namespace Go.VE
section
variable {P:Program} {N:Fr} {c0:Nat→Nat→Col} {w0:World} {σ μ:AS} {g:Gh} {a:Act} {w w':World}
theorem Good.plain (hs:bO N c0 w0 σ g a w) {o:Oper} (hd:dZ N o.dst = true) {v:Value} {p:PV} (h:(execOp a.eval o).run P w = .ok (.value v) w) (hr:aF g w p v):Good P N c0 w0 (σ.app o.dst { v:=p }) o a w :=
 ⟨v,w,g,.inl h,by rw [AS.LB]; exact hs.put hd hr⟩
theorem NY {c:Bool} {x y:PV} {u v:Value} (hx:aF g w x u) (hy:aF g w y v):aF g w (bif c then x else y) (if c then u else v):=by
 cases c
 · exact hy
 · exact hx
theorem Ar (f:Field→Sem (Nat×Nat)) (hf:∀ x n,jR P x.type = some n→(f x).run P w = .ok (x.offset,n) w):∀ (l:List Field) (pl:List (Nat×Nat)),l.mapM (fun f=>(jR P f.type).map fun n=>(f.offset,n)) = some pl→(l.mapM f).run P w = .ok pl w
 | [],pl,h=>by simp at h; subst h; rfl
 | x::r,pl,h=>by
   rw [List.mapM_cons] at h
   cases hx:jR P x.type with
   | none=>rw [hx] at h; simp at h
   | some n =>
   cases hr:(r.mapM fun f=>(jR P f.type).map fun n=>(f.offset,n)) with
   | none=>rw [hx,hr] at h; simp at h
   | some pr =>
   rw [hx,hr] at h
   simp at h; subst h
   rw [List.mapM_cons]
   simp only [Sem.run_bind,hf x n hx,Result.andThen_ok,Ar f hf r pr hr,Sem.run_pure]
theorem bO.setIter (h:bO N c0 w0 σ g a w) {id:Nat} {s:ByteArray} {pos:Nat} (hb:σ.box id = some (.iter s pos)) (pos':Nat) {dst:Option Nat} (hd:dZ N dst = true) {p:PV} {v:Value} (hp:∀ g w,aF g w p v) :
 bO N c0 w0 (σ.app dst { v:=p,bx:=[(id,.iter s pos')] }) g (a.put dst v) { w with heap:=w.heap.setIfInBounds (g.bx id).1 (.stringIter s pos') }:=by
 obtain ⟨hd0,e1,e2,e3⟩:=h.box _ _ hb
 have hlt:=ji e3
 have hsame:({ w with heap:=w.heap.setIfInBounds (g.bx id).1 (.stringIter s pos') }:World).heap[(g.bx id).1]? = some (.stringIter s pos'):=by
  show (w.heap.setIfInBounds (g.bx id).1 _)[(g.bx id).1]? = _
  rw [Array.getElem?_setIfInBounds,if_pos rfl,if_pos hlt]
 have hoth:∀ b,b ≠ (g.bx id).1→({ w with heap:=w.heap.setIfInBounds (g.bx id).1 (.stringIter s pos') }:World).heap[b]? = w.heap[b]?:=fun b hne=>by
  show (w.heap.setIfInBounds (g.bx id).1 _)[b]? = _
  rw [Array.getElem?_setIfInBounds,if_neg (Ne.symm hne)]
 have hcell:∀ b o,({ w with heap:=w.heap.setIfInBounds (g.bx id).1 (.stringIter s pos') }:World).cell? ⟨b,o,none⟩ = w.cell? ⟨b,o,none⟩:=fun b o=>by
  by_cases e:b = (g.bx id).1
  · subst e
    unfold World.cell?
    simp only
    rw [hsame,e3]
  · exact World.cell?_of_block (hoth b e)
 have Io:∀ b o,({ w with heap:=w.heap.setIfInBounds (g.bx id).1 (.stringIter s pos') }:World).frozen? ⟨b,o,none⟩ = w.frozen? ⟨b,o,none⟩:=fun b o=>by
  by_cases e:b = (g.bx id).1
  · subst e
    unfold World.frozen?
    simp only
    rw [hsame,e3]
  · exact World.frozen?_of_block (hoth b e)
 refine h.YZ (c:=.iter s pos') (p:=p) (v:=v) ⟨fun b o v hv _=>by rw [hcell]; exact hv,⟨fun b o _=>Io b o,fun b o h=>(Io b o).trans (dH h o)⟩,fun b ob lK hk=>?_,fun b o _=>by rw [hcell],rfl,rfl,rfl,by simp⟩ (.inl ⟨hd0,rfl⟩) (fun _=>⟨hd0,e1,e2,hsame⟩) hd fun _=>hp _ _
 rw [hoth]
 · exact lK
 · rintro rfl
   exact hk 0 id (by simp) (e2 0)
theorem NZ {c:Nat→Nat→Col} {t:Ty} {x:L t.T} {v:Value} (h:bC c w (.sl t) x [v]):∃ hd:bT,v = gP hd ∧ hd.2.1 = x.len:=by
 obtain ⟨ad,cap,e,_⟩:=h
 simp only [List.cons.injEq,and_true] at e
 exact ⟨(ad,x.len,cap),e,rfl⟩
theorem IC {d:Nat} {W:List Nat} (ho:Ak μ σ W) (hm:d ∈ W):sJ σ.box d = sJ μ.box d:=by
 unfold sJ
 rw [ho.new d hm]
theorem IE (hs:bO N c0 w0 σ g a w) {d:Dl} (ho:Ak μ σ (d.bx.map (·.1))) {t u D7 e:TypeId} {i:TypeInfo} {z:Value} {ty:Ty} (ht:P.underlying t = some (.slice e)) (hu:P.underlying u = some (.slice e)) (hi:P.info? e = some i) (hz:i.zero = some z) (hsz:i.size = ty.size) (hzz:z.cells.toList = ty.zeroV) (hby:i.bytes≤4096)
 {dd:Nat} (hdd:dZ N (some dd) = true) {x y:PV} {vx vy:Value} (hx:aF g w x vx) (hy:aF g w y vy) (h:appH ty dd μ.box x y = some (true,d)) :
 ∃ r w' g',(Builtin.append_ #[t,u] D7 #[vx,vy]).run P w = .ok r w' ∧ bO N c0 w0 (σ.app (some dd) d) g' (a.put (some dd) r) w':=by
 unfold appH at h
 split at h
 · rename_i id v k
   split at h
   · rename_i u0 l hv nv hh n hb hn
     split at h
     · rename_i hbq
       obtain rfl:=Ty.eq_of_beq hbq
       simp only [dx] at h
       cases hq:(Nat.beq v nv&&(jI id&&(u0.flat&&!Nat.beq id dd))) with
       | false=>rw [hq] at h; cases h
       | true =>
         rw [hq] at h
         simp only [cond_true] at h
         simp only [Bool.and_eq_true,Bool.not_eq_true'] at hq
         obtain ⟨e1,hmv,hfl,e2⟩:=hq
         obtain rfl:=Nat.eq_of_beq_eq_true e1
         have hne:id ≠ dd:=fun q=>by rw [q] at e2; simp at e2
         split at h
         · rename_i b hub
           simp only [Option.some.injEq,Prod.mk.injEq] at h
           obtain ⟨hm,rfl⟩:=h
           have LY:=ho.box _ _ hb
           have hk:k < l.len:=by
            have hx':=hx
            simp only [aF] at hx'
            obtain ⟨_,_,q,_⟩:=(ho.ok hs) _ _ hb
            rw [← q]; exact hx'.2.1
           have agd:sJ σ.box dd = some (hh,n):=by rw [IC ho (by simp)]; exact hn
           obtain ⟨g1,gs,hs1,k1,k2⟩:=hs.extract LY hmv hk (jk hdd) hne agd
           let Uu:AS:={ μ with box:=upd (upd μ.box id (some (.hol u0 l k hv v))) dd (some (.row u0 (l.get k) none hh n)) }
           have ho1:Ak Uu { σ with box:=upd (upd σ.box id (some (.hol u0 l k hv v))) dd (some (.row u0 (l.get k) none hh n)) } [dd]:=by
            refine ⟨ho.env,fun b0 c0 hb0=>?_,fun b0 hb0=>?_⟩
            · simp only [Uu,cK] at hb0 ⊢
              split
              · rename_i q; rw [if_pos q] at hb0; exact hb0
              · rename_i q
                rw [if_neg q] at hb0
                split
                · rename_i q2; rw [if_pos q2] at hb0; exact hb0
                · rename_i q2; rw [if_neg q2] at hb0; exact ho.box _ _ hb0
            · obtain rfl:=List.mem_singleton.mp hb0
              simp only [Uu,cK,if_pos]
           have hap:Nf u0 dd Uu.box (.ms dd hh) y = some (true,{ v:=.ms dd (hh + 1),bx:=[(dd,.row u0 ((l.get k).app b) none (hh + 1) (n + 1))] }):=by
            have hmd:jI dd = true:=by unfold jI; simp [jk hdd]
            have hsr:Nc Uu.box u0 y = some (b,none,[]):=by
             unfold Nc
             rw [hfl]
             simp only [cond_true]
             rw [show yt (.sl u0) [kG Uu.box y] = some b from hub]
            unfold Nf
            rw [hsr]
            simp only
            have hbd:Uu.box dd = some (.row u0 (l.get k) none hh n):=by simp only [Uu,cK,if_pos]
            rw [hbd]
            simp only [dx,Nat.beq_refl,hmd,List.all_nil,Bool.and_self,cond_true,sU,List.map_nil,hm]
            exact dif_pos hbq
           simp only [aF] at hx
           have hx1:aF g1 w (.ms dd hh) vx:=by
            simp only [aF]
            exact ⟨k1,by rw [k2]; exact hx.2.2⟩
           obtain ⟨r,w',g',r1,r2⟩:=Al (P:=P) (D7:=D7) hs1 (d:={ v:=.ms dd (hh + 1),bx:=[(dd,.row u0 ((l.get k).app b) none (hh + 1) (n + 1))] }) ho1 ht hu hi hz hsz hzz hby hdd hx1 (aF.mono gs _ _ hy) hap
           refine ⟨r,w',g',r1,?_⟩
           have e3:({ σ with box:=upd (upd σ.box id (some (.hol u0 l k hv v))) dd (some (.row u0 (l.get k) none hh n)) }:AS).app (some dd) { v:=.ms dd (hh + 1),bx:=[(dd,.row u0 ((l.get k).app b) none (hh + 1) (n + 1))] }
            = σ.app (some dd) { v:=.ms dd (hh + 1),bx:=[(id,.hol u0 l k hv v),(dd,.row u0 ((l.get k).app b) none (hh + 1) (n + 1))] }:=by
            unfold AS.app
            simp only [List.map_cons,List.map_nil,oG]
            congr 1
            funext j
            simp only [cK]
            by_cases q1:j = dd
            · subst q1
              simp
            · simp [q1]
           rw [← e3]
           exact r2
         · cases h
     · cases h
   · cases h
 · exact Al hs ho ht hu hi hz hsz hzz hby hdd hx hy h
theorem LZ {Γ:TypeId→Option Ty} (yC:sM P Γ) (hs:bO N c0 w0 σ g a w) {o:Oper} {d:Dl} (h:Vo P Γ o μ = some (true,d)) (ho':Ak μ σ (d.bx.map (·.1))) (hd:dZ N o.dst = true):Good P N c0 w0 (σ.app o.dst d) o a w:=by
 have ev:=ho'.ev hs
 have pR:=ho'.ok hs
 have rv:∀ x,aF (Nw g) w (kG μ.box (jQ μ.env x)) (a.eval x):=fun x=>wG pR (ev x)
 simp only [Vo] at h
 split at h
 · -- move
   rename_i x ho
   simp only [Option.some.injEq,Prod.mk.injEq,true_and] at h; subst h
   exact Good.plain hs hd (v:=a.eval x) (by simp [execOp,ho]) (ev x)
 · rename_i x ho
   simp only [Option.some.injEq,Prod.mk.injEq,true_and] at h; subst h
   exact Good.plain hs hd (v:=a.eval x) (by simp [execOp,ho]) (ev x)
 · -- pick
   rename_i c x y ho
   split at h
   · rename_i t hc
     simp only [Option.some.injEq,Prod.mk.injEq,true_and] at h; subst h
     have hcv:=ev c
     rw [hc] at hcv
     simp only [aF] at hcv
     exact Good.plain hs hd (v:=if t then a.eval x else a.eval y) (by simp [execOp,ho,hcv,asBool]) (NY (ev x) (ev y))
   · cases h
 · -- alloc
   rename_i t ho
   split at h
   · rename_i dd cs hdst hz
     split at h
     · rename_i hb
       simp only [Option.some.injEq,Prod.mk.injEq,true_and] at h; subst h
       have hb:σ.box dd = none:=by rw [← ho'.new dd (by simp)]; exact hb
       obtain ⟨z,z1,z2⟩:=tF hz g w
       have hcells:∀ (o':Nat) (v:Value),z.cells.toList[o']? = some v→(w.alloc (.cells z.cells t)).cell? ⟨w.heap.size,o',none⟩ = some v:=by
        intro o' v hv
        rw [World.cell?_alloc_new]; simpa using hv
       have hgs:=sZ hs hb (.cells z.cells t)
       refine ⟨.pointer (some ⟨w.heap.size,0,none⟩),w.alloc (.cells z.cells t),qd g w.heap.size dd,.inl ?_,?_⟩
       · simp [execOp,ho,Instr.alloc,z1,newVar,newRow]
       · rw [hdst] at hd ⊢
         exact hs.Iq (ob:=.cells z.cells t) (lK:=fun _=>World.frozen?_alloc_new ..) (c:=.cells cs) (p:=.bx dd 0) (v:=.pointer (some ⟨w.heap.size,0,none⟩)) hd (jk hd) hb rfl
          ⟨.inl rfl,z.cells.toList,ak.mono hgs _ _ z2,fun j v hj=>by
           simp only [kH,Nat.zero_add]
           exact ⟨wF _ _ _ _,hcells j v hj,by rw [World.frozen?_alloc_new]⟩⟩
          (by simp only [aF]; exact ⟨.inl rfl,by simp only [kH,Nat.add_zero]⟩)
     · cases h
   · cases h
 · -- box
   rename_i t x ho
   split at h
   · rename_i dd hdst
     split at h
     · rename_i hb
       split at h
       · rename_i wO
         simp only [Option.some.injEq,Prod.mk.injEq,true_and] at h; subst h
         have hb:σ.box dd = none:=by rw [← ho'.new dd (by simp)]; exact hb
         obtain ⟨z2,_⟩:=oQ (ev x) wO
         have hcells:∀ (o':Nat) (v:Value),(a.eval x).cells.toList[o']? = some v→(w.alloc (.cells (a.eval x).cells t)).cell? ⟨w.heap.size,o',none⟩ = some v:=by
          intro o' v hv
          rw [World.cell?_alloc_new]; simpa using hv
         have hgs:=sZ hs hb (.cells (a.eval x).cells t)
         refine ⟨.pointer (some ⟨w.heap.size,0,none⟩),w.alloc (.cells (a.eval x).cells t),qd g w.heap.size dd,.inl ?_,?_⟩
         · simp [execOp,ho,Instr.box,newVar,newRow]
         · rw [hdst] at hd ⊢
           exact hs.Iq (ob:=.cells (a.eval x).cells t) (lK:=fun _=>World.frozen?_alloc_new ..) (c:=.cells (jQ μ.env x).dY) (p:=.bx dd 0) (v:=.pointer (some ⟨w.heap.size,0,none⟩)) hd (jk hd) hb rfl
            ⟨.inl rfl,_,ak.mono hgs _ _ z2,fun j v hj=>by
             simp only [kH,Nat.zero_add]
             exact ⟨wF _ _ _ _,hcells j v hj,by rw [World.frozen?_alloc_new]⟩⟩
            (by simp only [aF]; exact ⟨.inl rfl,by simp only [kH,Nat.add_zero]⟩)
       · cases h
     · cases h
   · cases h
 · -- build
   rename_i t parts ho
   split at h
   · rename_i fs z hu hz
     split at h
     · rename_i pl hpl
       split at h
       · rename_i cs hf
         simp only [Option.some.injEq,Prod.mk.injEq,true_and] at h; subst h
         obtain ⟨zv,z1,z2⟩:=tF hz g w
         obtain ⟨out,k1,k2⟩:=wM (g:=g) (w:=w) (ρ:=a.eval) (env:=μ.env) ev (fun i=>pl[i]?) parts.toList z cs zv.cells hf z2
         have hpr:=Ar (P:=P) (w:=w) (fun f=>do pure (f.offset,← sizeOf f.type)) (fun x n hn=>by simp [eX hn]) fs.toList pl hpl
         refine Good.plain hs hd (v:=.agg out) ?_ (by simp only [aF]; exact ⟨out.toList,by simp,k2⟩)
         have agf:(fs.mapM fun f=>do pure (f.offset,← sizeOf f.type):Sem (Array (Nat×Nat))).run P w = .ok pl.toArray w:=by
          rw [Array.mapM_eq_mapM_toList,Sem.run_map,hpr]; rfl
         simp only [execOp,ho,Instr.build,Sem.run_bind,z1,Result.andThen_ok,VE.bf hu,agf]
         have e1:(fun (x:Nat)=>(pl.toArray)[x]?) = (fun (i:Nat)=>pl[i]?):=by funext i; simp
         rw [show (Array.map (fun x=>match x with | (i,x)=>(i,a.eval x)) parts).toList = parts.toList.map (fun p=>(p.1,a.eval p.2)) by simp]
         rw [e1,k1]
         rfl
       · cases h
     · cases h
   · rename_i n e z hu hz
     split at h
     · rename_i m hm
       split at h
       · rename_i cs hf
         simp only [Option.some.injEq,Prod.mk.injEq,true_and] at h; subst h
         obtain ⟨zv,z1,z2⟩:=tF hz g w
         obtain ⟨out,k1,k2⟩:=wM (g:=g) (w:=w) (ρ:=a.eval) (env:=μ.env) ev (fun i=>some (i * m,m)) parts.toList z cs zv.cells hf z2
         refine Good.plain hs hd (v:=.agg out) ?_ (by simp only [aF]; exact ⟨out.toList,by simp,k2⟩)
         simp only [execOp,ho,Instr.build,Sem.run_bind,z1,Result.andThen_ok,VE.bf hu,eX hm]
         rw [show (Array.map (fun x=>match x with | (i,x)=>(i,a.eval x)) parts).toList = parts.toList.map (fun p=>(p.1,a.eval p.2)) by simp]
         rw [k1]
         rfl
       · cases h
     · cases h
   · cases h
 · -- load
   rename_i t x ho
   split at h
   · rename_i p hp
     simp only [Option.some.injEq,Prod.mk.injEq,true_and] at h; subst h
     obtain ⟨v,h1,h2⟩:=NA pR hp (ev x)
     exact Good.plain hs hd (v:=v) (by simp [execOp,ho,h1]) h2
   · cases h
 · -- store
   rename_i t x y ho
   split at h
   · rename_i b hb
     simp only [Option.some.injEq,Prod.mk.injEq] at h; obtain ⟨hG,rfl⟩:=h
     obtain ⟨w',g',h1,h2⟩:=NS hs hb hG ho' (ev y) (ev x) hd
     exact ⟨undef,w',g',.inr ⟨by simp [execOp,ho,h1],rfl⟩,h2⟩
   · cases h
 · -- nilCheck
   rename_i x ho
   have hv:=ev x
   split at h <;> try cases h
   · rename_i i f hx
     rw [hx] at hv
     have hv':=hv
     simp only [aF] at hv'
     exact Good.plain hs hd (v:=a.eval x) (by simp [execOp,ho,hv'.2]) hv
   · rename_i cs hx
     rw [hx] at hv
     have hv':=hv
     simp only [aF] at hv'
     obtain ⟨b,oo,us,e,_⟩:=hv'
     exact Good.plain hs hd (v:=a.eval x) (by simp [execOp,ho,e]) hv
   · rename_i i v s j f hx
     rw [hx] at hv
     have hv':=hv
     simp only [aF] at hv'
     obtain ⟨_,_,ad,_,e⟩:=hv'
     exact Good.plain hs hd (v:=a.eval x) (by simp [execOp,ho,e]) hv
   · rename_i i v j k s l f hx
     rw [hx] at hv
     have hv':=hv
     simp only [aF] at hv'
     obtain ⟨_,_,_,ad,_,e⟩:=hv'
     exact Good.plain hs hd (v:=a.eval x) (by simp [execOp,ho,e]) hv
   · rename_i f cs hx
     rw [hx] at hv
     have hv':=hv
     simp only [aF] at hv'
     obtain ⟨vs,e,_⟩:=hv'
     exact Good.plain hs hd (v:=a.eval x) (by simp [execOp,ho,e]) hv
 · -- binOp
   rename_i op t x y ty ho
   split at h
   · rename_i c v hb
     simp only [Option.some.injEq,Prod.mk.injEq] at h
     obtain ⟨rfl,rfl⟩:=h
     obtain ⟨z,h1,h2⟩:=NC x y hb (rv x) (rv y)
     exact Good.plain hs hd (v:=z) (by simp only [execOp,ho,Sem.run_bind] at h1 ⊢; simp only [h1,Result.andThen_ok,Sem.run_pure]) (ND (LD hb) h2)
   · cases h
 · -- unOp
   rename_i op t x ho
   split at h
   · rename_i v hv
     simp only [Option.some.injEq,Prod.mk.injEq,true_and] at h; subst h
     have hx:=ev x
     generalize jQ μ.env x = px at hv hx
     unfold Um at hv
     split at hv
     · rename_i b
       cases hv
       simp only [aF] at hx
       exact Good.plain hs hd (v:=.bool (!b)) (by simp [execOp,ho,hx,Op.unary]) (by simp only [aF])
     · rename_i k n
       cases hv
       simp only [aF] at hx
       exact Good.plain hs hd (v:=.int k (k.wrap (0 - n))) (by simp only [execOp,ho,hx,Op.unary,Op.intArith]; rfl) (by simp only [aF])
     · cases hv
   · cases h
 · -- convert
   rename_i src dst x ho
   split at h
   · rename_i v hv
     simp only [Option.some.injEq,Prod.mk.injEq,true_and] at h; subst h
     have hx:=rv x
     generalize kG μ.box (jQ μ.env x) = px at hv hx
     unfold Un at hv
     split at hv
     · rename_i ds k kx n h1 h2
       cases hv
       simp only [aF] at hx
       exact Good.plain hs hd (v:=.int k (k.wrap n)) (by simp [execOp,ho,hx,convert,VE.bf h1,VE.bf h2,Conv.intToInt]) (by simp only [aF])
     · rename_i ds s h1 h2
       cases hv
       simp only [aF] at hx
       exact Good.plain hs hd (v:=.string s) (by simp [execOp,ho,hx,convert,VE.bf h1,VE.bf h2]) (by simp only [aF])
     · rename_i ks kx n h1 h2
       cases hv
       simp only [aF] at hx
       exact Good.plain hs hd (v:=.string (Utf8.encode n)) (by simp [execOp,ho,hx,convert,VE.bf h1,VE.bf h2,Conv.intToString]) (by simp only [aF])
     · rename_i e l h1 h2
       cases hu:Vk P e with
       | false=>rw [hu] at hv; cases hv
       | true =>
         rw [hu] at hv
         cases hv
         have he:P.underlying e = some (.int .u8):=by
          unfold Vk at hu
          split at hu
          · assumption
          · cases hu
         simp only [aF] at hx
         obtain ⟨ad,cap,e2,hl,hnn,hsl⟩:=hx
         simp only [List.cons.injEq,and_true] at e2
         have e1:=e2
         have key:(Conv.bytesToString (.slice ad l.len cap)).run P w = .ok (.string (zQ l)) w:=by
          cases ad with
          | none =>
            have h0:l.len = 0:=by have:=hnn.1 rfl; omega
            have:zQ l = ByteArray.empty:=by simp [zQ,h0]
            rw [this]
            rfl
          | some ad =>
            have hc:=run_loadCells_list (P:=P) (w:=w) ad (((List.range l.len).map l.get).map (Value.int .u8)) (fun j v hj=>by
             simp only [List.getElem?_map,Option.map_eq_some_iff] at hj
             obtain ⟨m,⟨n,hn,rfl⟩,rfl⟩:=hj
             obtain ⟨hjl,hjn⟩:=List.getElem?_eq_some_iff.mp hn
             simp only [List.length_range] at hjl
             simp only [List.getElem_range] at hjn
             subst hjn
             obtain ⟨q1,q2⟩:=hsl ad rfl
             obtain ⟨us,q3,q4⟩:=q2 j hjl
             have q1:=q1 (by omega)
             have q3:us = [.int .u8 (l.get j)]:=q3
             subst q3
             have:=(q4 0 _ rfl).2
             have e3:ad = ⟨ad.block,ad.off,none⟩:=by cases ad; simp_all
             rw [e3,gq]
             simpa [Ty.size] using this)
            have:=run_bytesToString (P:=P) w ad l.len cap ((List.range l.len).map l.get) (by simpa using hc)
            exact this
         exact Good.plain hs hd (v:=.string (zQ l)) (by simp only [execOp,ho,e1,run_convert_bytes_string w src dst e ad l.len cap h1 he h2,key,Sem.run_bind,Result.andThen_ok,Sem.run_pure]) (by simp only [aF])
     · cases hv
   · cases h
 · -- makeFunc
   rename_i f first cap ho
   split at h
   · rename_i hf
     simp only [Option.some.injEq,Prod.mk.injEq,true_and] at h; subst h
     have hf':first = #[]:=by simpa using hf
     subst hf'
     refine Good.plain hs hd (v:=.func (.func f) #[] (cap.map a.eval)) (by simp [execOp,ho,Instr.makeFunc]) ?_
     simp only [aF]
     refine ⟨cap.toList.map a.eval,(by congr 1; apply Array.ext'; simp),ak.oP (by simp) fun i p v hp hv=>?_⟩
     simp only [List.getElem?_map,Option.map_eq_some_iff] at hp hv
     obtain ⟨x,hx,rfl⟩:=hp
     obtain ⟨y,hy,rfl⟩:=hv
     rw [hx] at hy; cases hy
     exact ev x
   · cases h
 · -- makeSlice
   rename_i t l c ho
   split at h
   · rename_i dd hdst
     rw [hdst] at hd
     exact LX yC hs ho hdst hd h ho'
   · cases h
 · -- buildSlice
   rename_i t n parts ho
   split at h
   · rename_i dd hdst
     split at h
     · rename_i b hb
       simp only [Option.some.injEq,Prod.mk.injEq,true_and] at h; subst h
       rw [hdst] at hd
       exact NW yC hs ho hdst hd hb ho'
     · cases h
   · cases h
 · -- fieldAddr
   rename_i s x f ho
   split at h
   · rename_i off ft hf
     split at h
     · rename_i m hm
       obtain ⟨fs,fd,hu,VI,rfl,rfl⟩:∃ fs fd,P.underlying s = some (.struct fs) ∧ fs[f]? = some fd ∧ fd.offset = off ∧ fd.type = ft:=by
        unfold yJ at hf
        split at hf
        · rename_i fs hu
          split at hf
          · rename_i fd VI
            simp only [Option.some.injEq,Prod.mk.injEq] at hf
            exact ⟨fs,fd,hu,VI,hf.1,hf.2⟩
          · cases hf
        · cases hf
       have hrun:∀ b oo,(Instr.fieldAt s (.pointer (some ⟨b,oo,none⟩)) f).run P w = .ok (.pointer (some ⟨b,oo + fd.offset,none⟩)) w:=by
        intro b oo
        simp only [Instr.fieldAt,Sem.run_bind,VE.bf hu,Result.andThen_ok,VI,Instr.sureAddr,Sem.run_pure,fieldPlace,eX hm]
        rw [if_neg (by omega)]
        simp [gq]
       have hxv:=ev x
       split at h <;> try cases h
       · rename_i id o' hx
         rw [hx] at hxv
         simp only [aF] at hxv
         exact Good.plain hs hd (v:=.pointer (some ⟨(g.bx id).1,(g.bx id).2 + o' + fd.offset,none⟩)) (by simp [execOp,ho,hxv.2,hrun]) (by simp only [aF]; exact ⟨hxv.1,by rw [Nat.add_assoc]⟩)
       · rename_i cs hx
         rw [hx] at hxv
         simp only [aF] at hxv
         obtain ⟨b,oo,us,e,h2,h3⟩:=hxv
         refine Good.plain hs hd (v:=.pointer (some ⟨b,oo + fd.offset,none⟩)) (by simp [execOp,ho,e,hrun]) ?_
         simp only [aF]
         refine ⟨b,oo + fd.offset,us.drop fd.offset,rfl,h2.drop _,fun j v hj=>?_⟩
         rw [List.getElem?_drop] at hj
         have:=h3 _ v hj
         rwa [← Nat.add_assoc] at this
       · rename_i id v sz i o' hx
         rw [hx] at hxv
         simp only [aF] at hxv
         obtain ⟨q1,q2,ad,q3,e⟩:=hxv
         exact Good.plain hs hd (v:=.pointer (some ⟨ad.block,ad.off + i * sz + o' + fd.offset,none⟩)) (by simp [execOp,ho,e,hrun]) (by simp only [aF]; exact ⟨q1,q2,ad,q3,by rw [Nat.add_assoc _ o']⟩)
       · rename_i id v i j sz k o' hx
         rw [hx] at hxv
         simp only [aF] at hxv
         obtain ⟨q1,q2,q4,ad,q3,e⟩:=hxv
         exact Good.plain hs hd (v:=.pointer (some ⟨ad.block,ad.off + k * sz + o' + fd.offset,none⟩)) (by simp [execOp,ho,e,hrun]) (by simp only [aF]; exact ⟨q1,q2,q4,ad,q3,by rw [Nat.add_assoc _ o']⟩)
     · cases h
   · cases h
 · -- field
   rename_i s x f ho
   split at h
   · rename_i off ft cs hf hx
     split at h
     · rename_i v hv
       simp only [Option.some.injEq,Prod.mk.injEq,true_and] at h; subst h
       obtain ⟨fs,fd,hu,VI,rfl,rfl⟩:∃ fs fd,P.underlying s = some (.struct fs) ∧ fs[f]? = some fd ∧ fd.offset = off ∧ fd.type = ft:=by
        unfold yJ at hf
        split at hf
        · rename_i fs hu
          split at hf
          · rename_i fd VI
            simp only [Option.some.injEq,Prod.mk.injEq] at hf
            exact ⟨fs,fd,hu,VI,hf.1,hf.2⟩
          · cases hf
        · cases hf
       have hxv:=ev x
       rw [hx] at hxv
       simp only [aF] at hxv
       obtain ⟨vs,e,h2⟩:=hxv
       obtain ⟨u,h3,h4⟩:=FJ (P:=P) (t:=fd.type) hv h2
       exact Good.plain hs hd (v:=u) (by simp only [execOp,ho,e,Instr.field,Sem.run_bind,VE.bf hu,Result.andThen_ok,VI,asAgg,Sem.run_pure,h3]) h4
     · cases h
   · cases h
 · -- indexAddr
   rename_i t x ix ho
   unfold ixD at h
   split at h
   · rename_i e k n he hn
     obtain ⟨hu,hsz⟩:P.underlying t = some (.slice e) ∧ ∀ ty,Γ e = some ty→jR P e = some ty.size:=by
      refine ⟨?_,fun ty hty=>?_⟩
      · unfold VE.elemOf at he
        split at he
        · cases he; assumption
        · cases he
      · obtain ⟨i,z,hi,hsz,_⟩:=yC e ty hty
        simp [jR,hi,hsz]
     have hiv:=ev ix
     rw [hn] at hiv
     simp only [aF] at hiv
     have hxv:=ev x
     have hrun:∀ (b oo:Nat) (len cap m:Nat),0≤n→n < len→jR P e = some m→(Instr.indexAt t (.slice (some ⟨b,oo,none⟩) len cap) (.int k n)).run P w = .ok (.pointer (some ⟨b,oo + n.toNat * m,none⟩)) w:=by
      intro b oo len cap m h0 h1 hm
      simp only [Instr.indexAt,asIntOf,Sem.run_bind,Sem.run_pure,Result.andThen_ok,VE.bf hu]
      rw [if_pos ⟨h0,h1⟩]
      simp [gq,eX hm]
     split at h
     · rename_i ty ty' l hty hx
       split at h
       · rename_i hbq
         simp only [Option.some.injEq,Prod.mk.injEq,Bool.and_eq_true,decide_eq_true_eq] at h
         obtain ⟨⟨h0,h1⟩,rfl⟩:=h
         rw [hx] at hxv
         simp only [aF] at hxv
         rw [Lx] at h1
         obtain ⟨ad,cap,e2,hl,hnn,hsl⟩:=hxv
         simp only [List.cons.injEq,and_true] at e2
         have e1:=e2
         cases ad with
         | none=>have:=hnn.1 rfl; omega
         | some ad =>
           obtain ⟨q1,q2⟩:=hsl ad rfl
           obtain ⟨us,q3,q4⟩:=q2 n.toNat (by omega)
           have q1':=q1 (by omega)
           have e3:ad = ⟨ad.block,ad.off,none⟩:=by cases ad; simp_all
           have hs1:jR P e = some ty'.size:=by rw [Ty.eq_of_beq hbq]; exact hsz ty hty
           refine Good.plain hs hd (v:=.pointer (some ⟨ad.block,ad.off + n.toNat * ty'.size,none⟩)) ?_ ?_
           · rw [e3] at e1
             simp only [execOp,ho,e1,hiv,Sem.run_bind,hrun _ _ _ _ _ h0 h1 hs1,Result.andThen_ok,Sem.run_pure]
           · simp only [aF]
             rw [Nr]
             exact ⟨_,_,us,rfl,gK q3,q4⟩
       · cases h
     · rename_i ty id v hty hx
       split at h
       · rename_i ty' l own hv nv hb
         cases hc:(ty'.beq ty&&Nat.beq v hv) with
         | false=>rw [hc] at h; cases h
         | true =>
           rw [hc] at h
           simp only [cond_true,Option.some.injEq,Prod.mk.injEq,Bool.and_eq_true,decide_eq_true_eq] at h
           obtain ⟨⟨h0,h1⟩,rfl⟩:=h
           simp only [Bool.and_eq_true] at hc
           obtain rfl:=Ty.eq_of_beq hc.1
           obtain rfl:=Nat.eq_of_beq_eq_true hc.2
           rw [hx] at hxv
           simp only [aF] at hxv
           obtain ⟨JK,e1⟩:=hxv
           obtain ⟨_,_,_,⟨⟨b1,b2,b3,_⟩,b5,_⟩,_⟩:=pR _ _ hb
           cases had:(g.hd id v).1 with
           | none=>have:=b3 had; omega
           | some ad =>
             have e3:=kI (b5 ad had).1
             have h1':n < ((g.hd id v).2.1:Int):=by rw [b1]; exact h1
             have e4:a.eval x = .slice (some ⟨ad.block,ad.off,none⟩) (g.hd id v).2.1 (g.hd id v).2.2:=by rw [e1,gP,had,← e3]
             refine Good.plain hs hd (v:=.pointer (some ⟨ad.block,ad.off + n.toNat * ty'.size,none⟩)) ?_ ?_
             · simp only [execOp,ho,e4,hiv,Sem.run_bind,hrun _ _ _ _ _ h0 h1' (hsz ty' hty),Result.andThen_ok,Sem.run_pure]
             · simp only [aF]
               exact ⟨JK,by rw [b1]; omega,ad,had,by rw [Nat.add_zero]⟩
       · rename_i u' l i' hv nv hb
         cases hc:((Ty.sl u').beq ty&&Nat.beq v hv) with
         | false=>rw [hc] at h; cases h
         | true =>
           rw [hc] at h
           simp only [cond_true,Option.some.injEq,Prod.mk.injEq,Bool.and_eq_true,decide_eq_true_eq] at h
           obtain ⟨⟨h0,h1⟩,rfl⟩:=h
           simp only [Bool.and_eq_true] at hc
           obtain rfl:=Ty.eq_of_beq hc.1
           obtain rfl:=Nat.eq_of_beq_eq_true hc.2
           rw [hx] at hxv
           simp only [aF] at hxv
           obtain ⟨JK,e1⟩:=hxv
           obtain ⟨_,_,_,⟨⟨b1,b2,b3,_⟩,b5,_⟩,_⟩:=pR _ _ hb
           cases had:(g.hd id v).1 with
           | none=>have:=b3 had; omega
           | some ad =>
             have e3:=kI (b5 ad had).1
             have h1':n < ((g.hd id v).2.1:Int):=by rw [b1]; exact h1
             have e4:a.eval x = .slice (some ⟨ad.block,ad.off,none⟩) (g.hd id v).2.1 (g.hd id v).2.2:=by rw [e1,gP,had,← e3]
             refine Good.plain hs hd (v:=.pointer (some ⟨ad.block,ad.off + n.toNat * (Ty.sl u').size,none⟩)) ?_ ?_
             · simp only [execOp,ho,e4,hiv,Sem.run_bind,hrun _ _ _ _ _ h0 h1' (hsz (Ty.sl u') hty),Result.andThen_ok,Sem.run_pure]
             · simp only [aF]
               exact ⟨JK,by rw [b1]; omega,ad,had,by rw [Nat.add_zero]⟩
       · cases h
     · rename_i ty id v sz lo hi hty hx
       split at h
       · rename_i ty' l own hv nv hb
         cases hc:(ty'.beq ty&&(Nat.beq v hv&&(Nat.beq sz ty.size&&Nat.ble hi l.len))) with
         | false=>rw [hc] at h; cases h
         | true =>
           rw [hc] at h
           simp only [cond_true,Option.some.injEq,Prod.mk.injEq,Bool.and_eq_true,decide_eq_true_eq] at h
           obtain ⟨⟨h0,h1⟩,rfl⟩:=h
           simp only [Bool.and_eq_true] at hc
           obtain rfl:=Ty.eq_of_beq hc.1
           obtain rfl:=Nat.eq_of_beq_eq_true hc.2.1
           obtain rfl:=Nat.eq_of_beq_eq_true hc.2.2.1
           have hle:=Nat.le_of_ble_eq_true hc.2.2.2
           rw [hx] at hxv
           simp only [aF] at hxv
           obtain ⟨JK,l1,l2,e1⟩:=hxv
           obtain ⟨_,_,_,⟨⟨b1,b2,b3,_⟩,b5,_⟩,_⟩:=pR _ _ hb
           cases had:(g.hd id v).1 with
           | none=>have:=b3 had; omega
           | some ad =>
             have e3:=kI (b5 ad had).1
             have e4:a.eval x = .slice (some ⟨ad.block,ad.off + lo * ty'.size,none⟩) (hi - lo) ((g.hd id v).2.2 - lo):=by
              rw [e1,gP,oO,if_neg (by omega),had]
              simp only [Option.map_some]
              rw [e3,gq]
             refine Good.plain hs hd (v:=.pointer (some ⟨ad.block,ad.off + lo * ty'.size + n.toNat * ty'.size,none⟩)) ?_ ?_
             · simp only [execOp,ho,e4,hiv,Sem.run_bind,hrun _ _ _ _ _ h0 h1 (hsz ty' hty),Result.andThen_ok,Sem.run_pure]
             · simp only [aF]
               exact ⟨JK,by rw [b1]; omega,ad,had,by rw [Nat.add_zero,Nat.add_mul]; simp only [Value.pointer.injEq,Option.some.injEq,Addr.mk.injEq,and_true,true_and]; omega⟩
       · cases h
     · rename_i ty id v i j hty hx
       split at h
       · rename_i ty' l own hv nv hb
         split at h
         · rename_i u y hy
           cases hc:(u.beq ty&&Nat.beq v nv) with
           | false=>rw [hc] at h; cases h
           | true =>
             rw [hc] at h
             simp only [cond_true,Option.some.injEq,Prod.mk.injEq,Bool.and_eq_true,decide_eq_true_eq] at h
             obtain ⟨⟨h0,h1⟩,rfl⟩:=h
             simp only [Bool.and_eq_true] at hc
             obtain rfl:=Ty.eq_of_beq hc.1
             obtain rfl:=Nat.eq_of_beq_eq_true hc.2
             rw [hx] at hxv
             simp only [aF] at hxv
             obtain ⟨JK,hni,e1⟩:=hxv
             obtain ⟨_,_,b0,_,_⟩:=pR _ _ hb
             obtain ⟨ad0,cap,e2,hl,hnn,hsl⟩:=Nz pR hb (by omega) hy
             simp only [gP,List.cons.injEq,Value.slice.injEq,and_true] at e2
             obtain ⟨e21,e22,e23⟩:=e2
             cases had:(g.nh id v i j).1 with
             | none=>rw [had] at e21; have:=hnn.1 e21.symm; omega
             | some ad =>
               rw [had] at e21
               obtain ⟨q1,q2⟩:=hsl ad e21.symm
               have e3:=kI (q1 (by omega))
               have h1':n < ((g.nh id v i j).2.1:Int):=by rw [e22]; exact h1
               have e4:a.eval x = .slice (some ⟨ad.block,ad.off,none⟩) (g.nh id v i j).2.1 (g.nh id v i j).2.2:=by rw [e1,gP,had,← e3]
               refine Good.plain hs hd (v:=.pointer (some ⟨ad.block,ad.off + n.toNat * u.size,none⟩)) ?_ ?_
               · simp only [execOp,ho,e4,hiv,Sem.run_bind,hrun _ _ _ _ _ h0 h1' (hsz u hty),Result.andThen_ok,Sem.run_pure]
               · simp only [aF]
                 exact ⟨JK,hni,by rw [e22]; omega,ad,had,by rw [Nat.add_zero]⟩
         · cases h
       · cases h
     · cases h
   · cases h
 · -- index
   rename_i t x ix ho
   have hxv:=ev x
   have hiv:=ev ix
   split at h
   · rename_i s k n hu hx hn
     simp only [Option.some.injEq,Prod.mk.injEq,Bool.and_eq_true,decide_eq_true_eq] at h
     obtain ⟨⟨h0,h1⟩,rfl⟩:=h
     rw [hx] at hxv
     rw [hn] at hiv
     simp only [aF] at hxv hiv
     have hlt:n.toNat < s.size:=by omega
     refine Good.plain hs hd (v:=.int .u8 (bt s n)) ?_ (by simp only [aF])
     have hget:s[n.toNat]? = some s[n.toNat]:=by simp [hlt]
     simp only [execOp,ho,hxv,hiv,Instr.index,asIntOf,Sem.run_bind,Sem.run_pure,Result.andThen_ok,VE.bf hu,h0,if_true,hget,bt,Option.getD_some]
   · rename_i m e cs k n hu hx hn
     split at h
     · rename_i z hz
       split at h
       · rename_i v hv
         simp only [Option.some.injEq,Prod.mk.injEq,Bool.and_eq_true,decide_eq_true_eq] at h
         obtain ⟨⟨h0,h1⟩,rfl⟩:=h
         rw [hx] at hxv
         rw [hn] at hiv
         simp only [aF] at hxv hiv
         obtain ⟨vs,e1,h2⟩:=hxv
         obtain ⟨u,h3,h4⟩:=FJ (P:=P) (t:=e) hv h2
         refine Good.plain hs hd (v:=u) ?_ h4
         simp only [execOp,ho,e1,hiv,Instr.index,asIntOf,Sem.run_bind,Sem.run_pure,Result.andThen_ok,VE.bf hu]
         rw [if_pos ⟨h0,h1⟩]
         simp only [Sem.run_bind,eX hz,Result.andThen_ok,h3]
       · cases h
     · cases h
   · cases h
 · -- extract
   rename_i x i ho
   split at h
   · rename_i cs hx
     split at h
     · rename_i v hv
       simp only [Option.some.injEq,Prod.mk.injEq,true_and] at h; subst h
       have hxv:=ev x
       rw [hx] at hxv
       simp only [aF] at hxv
       obtain ⟨vs,e1,h2⟩:=hxv
       obtain ⟨u,h3,h4⟩:=h2.get i v hv
       exact Good.plain hs hd (v:=u) (by simp [execOp,ho,e1,Instr.extract,h3]) h4
     · cases h
   · cases h
 · -- slice
   rename_i t x lo hi ho
   have hxv:=ev x
   have hlo:∀ (d:Nat) (l:Int),gI (lo.map (jQ μ.env)) d = some l→(∃ k,lo.map a.eval = some (.int k l)) ∨ (lo.map a.eval = none ∧ l = d):=by
    intro d l hl
    cases lo with
    | none=>simp [gI] at hl; exact .inr ⟨rfl,hl.symm⟩
    | some q =>
      have hq:=ev q
      simp only [Option.map_some] at hl ⊢
      unfold gI at hl
      split at hl
      · rename_i k n e
        simp only [Option.some.injEq] at e
        rw [e] at hq
        simp only [aF] at hq
        cases hl
        exact .inl ⟨k,by rw [hq]⟩
      · rename_i e; cases e
      · cases hl
   have hhi:∀ (d:Nat) (l:Int),gI (hi.map (jQ μ.env)) d = some l→(∃ k,hi.map a.eval = some (.int k l)) ∨ (hi.map a.eval = none ∧ l = d):=by
    intro d l hl
    cases hi with
    | none=>simp [gI] at hl; exact .inr ⟨rfl,hl.symm⟩
    | some q =>
      have hq:=ev q
      simp only [Option.map_some] at hl ⊢
      unfold gI at hl
      split at hl
      · rename_i k n e
        simp only [Option.some.injEq] at e
        rw [e] at hq
        simp only [aF] at hq
        cases hl
        exact .inl ⟨k,by rw [hq]⟩
      · rename_i e; cases e
      · cases hl
   -- the bounds,told
   have bounds:∀ (isS:Bool) (len cap:Nat) (l hh:Int),gI (lo.map (jQ μ.env)) ((0:Nat):Int) = some l→gI (hi.map (jQ μ.env)) (len:Int) = some hh→0≤l→l≤hh→hh≤len→len≤cap →
    (Instr.sliceBounds isS len cap (lo.map a.eval) (hi.map a.eval) none).run P w = .ok (l.toNat,hh.toNat,cap) w:=by
    intro isS len cap l hh h1 h2 q0 q1 q2 q3
    have eh:(hh.toNat:Int) = hh:=Int.toNat_of_nonneg (by omega)
    rcases hlo _ _ h1 with ⟨kl,e1⟩ | ⟨e1,e2⟩ <;> rcases hhi _ _ h2 with ⟨kh,e3⟩ | ⟨e3,e4⟩
    · have r1:=run_sliceBound (P:=P) w kh hh cap (if isS then .sliceAcap else .sliceAlen) (by omega) (by omega)
      have r2:=run_sliceBound (P:=P) w kl l hh.toNat .sliceB (by omega) (by omega)
      simp [Instr.sliceBounds,e1,e3,r1,r2]
    · subst e4
      have r2:=run_sliceBound (P:=P) w kl l len .sliceB (by omega) (by omega)
      simp [Instr.sliceBounds,e1,e3,r2]
    · subst e2
      have r1:=run_sliceBound (P:=P) w kh hh cap (if isS then .sliceAcap else .sliceAlen) (by omega) (by omega)
      simp [Instr.sliceBounds,e1,e3,r1]
    · subst e2 e4
      simp [Instr.sliceBounds,e1,e3]
   split at h
   · rename_i s l hu hx hl
     split at h
     · rename_i hh N7
       simp only [Option.some.injEq,Prod.mk.injEq,Bool.and_eq_true,decide_eq_true_eq] at h
       obtain ⟨⟨h0,h1,h2⟩,rfl⟩:=h
       rw [hx] at hxv
       simp only [aF] at hxv
       refine Good.plain hs hd (v:=.string (s.extract l.toNat hh.toNat)) ?_ (by simp only [aF])
       simp only [execOp,ho,hxv,Instr.sliceAt,Sem.run_bind,VE.bf hu,Result.andThen_ok,Instr.slice]
       simp only [Option.isSome_none,Option.map_none,Bool.false_eq_true,if_false,Sem.run_bind,bounds false s.size s.size l hh hl N7 h0 h1 h2 (Nat.le_refl _),Result.andThen_ok,Sem.run_pure]
     · cases h
   · -- of nothing
     rename_i e l hu hx hl
     split at h
     · rename_i m k hh hm N7
       simp only [Option.some.injEq,Prod.mk.injEq,Bool.and_eq_true,decide_eq_true_eq] at h
       obtain ⟨⟨rfl,rfl⟩,rfl⟩:=h
       rw [hx] at hxv
       simp only [aF] at hxv
       have hb:=bounds true 0 0 0 0 hl (by rw [N7]; rfl) (by omega) (by omega) (by simp) (by omega)
       refine Good.plain hs hd (v:=.slice none 0 0) ?_ (by simp only [aF])
       simp only [execOp,ho,hxv,Instr.sliceAt,Sem.run_bind,VE.bf hu,Result.andThen_ok,Instr.slice]
       simp only [Option.map_none,hb,Result.andThen_ok,eX hm,Sem.run_pure]
       simp
     · cases h
   · -- of a row
     rename_i e l hu hl hnil
     have VJ:∀ ty,Γ e = some ty→jR P e = some ty.size:=fun ty hty=>by
      obtain ⟨i,z,hi',hsz,_⟩:=yC e ty hty
      simp [jR,hi',hsz]
     have IG:∀ {L6:bT} {sz:Nat} {hh:Int},a.eval x = gP L6→jR P e = some sz→L6.2.1≤L6.2.2→gI (hi.map (jQ μ.env)) (L6.2.1:Int) = some hh→0≤l→l≤hh→hh≤L6.2.1 →
      (execOp a.eval o).run P w = .ok (.value (gP (oO sz l.toNat hh.toNat L6))) w:=by
      intro L6 sz hh e1 hs1 hcap N7 h0 h1 h2
      simp only [execOp,ho,e1,gP,Instr.sliceAt,Sem.run_bind,VE.bf hu,Result.andThen_ok,Instr.slice]
      simp only [Option.map_none,bounds true L6.2.1 L6.2.2 l hh hl N7 h0 h1 h2 hcap,Result.andThen_ok,eX hs1,Sem.run_pure,oO]
     unfold YO at h
     split at h
     · rename_i ty' ty x' hty hx
       split at h
       · rename_i hh N7
         split at h
         · rename_i hbq
           simp only [Option.some.injEq,Prod.mk.injEq,Bool.and_eq_true,decide_eq_true_eq] at h
           obtain ⟨⟨h0,h1,h2⟩,rfl⟩:=h
           rw [hx] at hxv
           simp only [aF] at hxv
           obtain ⟨L6,e1,e2⟩:=NZ hxv
           have VK:=hxv
           rw [e1] at VK
           have hcap:L6.2.1≤L6.2.2:=by
            obtain ⟨ad,cap,e3,hl,_⟩:=VK
            simp only [gP,List.cons.injEq,Value.slice.injEq,and_true] at e3
            omega
           exact Good.plain hs hd (IG e1 (show jR P e = some ty.size by rw [Ty.eq_of_beq hbq]; exact VJ _ hty) hcap (by rw [e2]; exact N7) h0 h1 (by rw [e2]; exact h2)) (by simp only [aF]; exact VK.cut (by omega) (by omega))
         · cases h
       · cases h
     · rename_i ty' id v hty hx
       split at h
       · rename_i ty x' own hv nv hb
         split at h
         · rename_i hh N7
           split at h
           · rename_i hbq
             simp only [Option.some.injEq,Prod.mk.injEq,Bool.and_eq_true,decide_eq_true_eq] at h hbq
             obtain ⟨⟨h0,h1,h2⟩,rfl⟩:=h
             obtain rfl:=Nat.eq_of_beq_eq_true hbq.2
             rw [hx] at hxv
             simp only [aF] at hxv
             obtain ⟨JK,e1⟩:=hxv
             obtain ⟨_,_,_,⟨⟨b1,b2,_⟩,_⟩,_⟩:=pR _ _ hb
             exact Good.plain hs hd (IG e1 (show jR P e = some ty.size by rw [Ty.eq_of_beq hbq.1]; exact VJ _ hty) (by rw [b1]; exact b2) (by rw [b1]; exact N7) h0 h1 (by rw [b1]; exact h2)) (by simp only [aF]; exact ⟨JK,by omega,by rw [b1]; omega,trivial⟩)
           · cases h
         · cases h
       · cases h
     · rename_i ty' id v i j hty hx
       split at h
       · rename_i t' x' own hv nv hb
         split at h
         · rename_i u y hy
           split at h
           · rename_i hh N7
             split at h
             · rename_i hbq
               simp only [Option.some.injEq,Prod.mk.injEq,Bool.and_eq_true,decide_eq_true_eq] at h hbq
               obtain ⟨⟨h0,h1,h2⟩,rfl⟩:=h
               obtain rfl:=Nat.eq_of_beq_eq_true hbq.2
               rw [hx] at hxv
               simp only [aF] at hxv
               obtain ⟨JK,hni,e1⟩:=hxv
               obtain ⟨_,_,b0,_,_⟩:=pR _ _ hb
               obtain ⟨_,hn⟩:=qg (u:=0) pR hb (by omega) hy
               obtain ⟨b1,b2,_⟩:=hn.2.1
               exact Good.plain hs hd (IG e1 (show jR P e = some u.size by rw [Ty.eq_of_beq hbq.1]; exact VJ _ hty) (by rw [b1]; exact b2) (by rw [b1]; exact N7) h0 h1 (by rw [b1]; exact h2)) (by simp only [aF]; exact ⟨JK,hni,by omega,by rw [b1]; omega,trivial⟩)
             · cases h
           · cases h
         · cases h
       · cases h
     · cases h
   · cases h
 · -- range
   rename_i t x ho
   split at h
   · rename_i dd s hdst hu hx
     split at h
     · rename_i hb
       simp only [Option.some.injEq,Prod.mk.injEq,true_and] at h; subst h
       have hb:σ.box dd = none:=by rw [← ho'.new dd (by simp)]; exact hb
       have hxr:=ev x
       rw [hx] at hxr
       simp only [aF] at hxr
       refine ⟨.pointer (some ⟨w.heap.size,0,none⟩),w.alloc (.stringIter s 0),qd g w.heap.size dd,.inl ?_,?_⟩
       · simp [execOp,ho,Instr.range,hxr,VE.bf hu]
       · rw [hdst] at hd ⊢
         exact hs.Iq (ob:=.stringIter s 0) (lK:=fun _=>by simp only [World.frozen?]; rw [show (w.alloc (.stringIter s 0)).heap[w.heap.size]? = some (.stringIter s 0) by show (w.heap.push _)[w.heap.size]? = _; rw [Array.getElem?_push,if_pos rfl]]) (c:=.iter s 0) (p:=.bx dd 0) (v:=.pointer (some ⟨w.heap.size,0,none⟩)) hd (jk hd) hb rfl
          ⟨.inl rfl,by rw [kH],fun o=>by rw [kH]; exact wF _ _ _ _,by rw [kH]; show (w.heap.push _)[w.heap.size]? = _; rw [Array.getElem?_push,if_pos rfl]⟩
          (by simp only [aF]; exact ⟨.inl rfl,by simp only [kH,Nat.add_zero]⟩)
     · cases h
   · cases h
 · -- next
   rename_i it ho
   split at h
   · rename_i id hit
     split at h
     · rename_i s pos hb
       have hi:=ev it
       rw [hit] at hi
       simp only [aF] at hi
       obtain ⟨b1,b2,b3,b4⟩:=pR _ _ hb
       rw [b2] at hi
       simp only [Nat.add_zero] at hi
       cases hlt:Nat.blt pos s.size with
       | true =>
         rw [hlt] at h
         simp only [cond_true,Option.some.injEq,Prod.mk.injEq,true_and] at h; subst h
         have hlt':pos < s.size:=by simpa [Nat.blt_eq] using hlt
         refine ⟨.tuple #[.bool true,goInt pos,.int .i32 (Utf8.decode s pos).1],{ w with heap:=w.heap.setIfInBounds (g.bx id).1 (.stringIter s (pos + (Utf8.decode s pos).2)) },g,.inl ?_,?_⟩
         · simp [execOp,ho,Instr.next,hi.2,b4,hlt',getObj,setObj,Sem.run,Result.andThen]
         · exact hs.setIter (ho'.box _ _ hb) (pos + (Utf8.decode s pos).2) hd (fun g w=>by
            simp only [aF,ak]
            exact ⟨_,rfl,_,_,rfl,rfl,_,_,rfl,rfl,_,_,rfl,rfl,rfl⟩)
       | false =>
         rw [hlt] at h
         simp only [cond_false,Option.some.injEq,Prod.mk.injEq,true_and] at h; subst h
         have hlt':¬ pos < s.size:=by
          intro q
          have:Nat.blt pos s.size = true:=by simpa [Nat.blt_eq] using q
          rw [this] at hlt; cases hlt
         refine Good.plain hs hd (v:=.tuple #[.bool false]) ?_ (by simp only [aF,ak]; exact ⟨_,rfl,_,_,rfl,rfl,rfl⟩)
         simp [execOp,ho,Instr.next,hi.2,b4,hlt',getObj,Sem.run,Result.andThen]
     · cases h
   · cases h
 · -- len
   rename_i args argTypes ho
   split at h
   · rename_i x t hargs II
     split at h
     · rename_i n hn
       simp only [Option.some.injEq,Prod.mk.injEq,true_and] at h; subst h
       have ha:args = #[x]:=by apply Array.ext'; simpa using hargs
       have VL:argTypes = #[t]:=by apply Array.ext'; simpa using II
       subst ha VL
       have hxv:=rv x
       refine Good.plain hs hd (v:=.int .i64 n) ?_ (by simp only [aF])
       have key:(Builtin.len_ #[t] o.type #[a.eval x]).run P w = .ok (.int .i64 n) w:=by
        unfold lenOf at hn
        split at hn
        · rename_i e ty l hu hx
          cases hn
          rw [hx] at hxv; simp only [aF] at hxv
          obtain ⟨L6,e1,e2⟩:=NZ hxv
          simp [Builtin.len_,e1,gP,VE.bf hu,goInt,e2]
        · rename_i e hu hx
          cases hn
          rw [hx] at hxv; simp only [aF] at hxv
          simp [Builtin.len_,hxv,VE.bf hu,goInt]
        · rename_i s hu hx
          cases hn
          rw [hx] at hxv; simp only [aF] at hxv
          simp [Builtin.len_,hxv,VE.bf hu,goInt]
        · cases hn
       simp only [execOp,ho,resolve,invoke,builtin,Sem.run_bind,Sem.run_pure,Result.andThen_ok]
       simp [key]
     · cases h
   · cases h
 · -- cap
   rename_i args argTypes ho
   split at h
   · rename_i x t hargs II
     split at h
     · rename_i e hu hx
       simp only [Option.some.injEq,Prod.mk.injEq,true_and] at h; subst h
       have ha:args = #[x]:=by apply Array.ext'; simpa using hargs
       have VL:argTypes = #[t]:=by apply Array.ext'; simpa using II
       subst ha VL
       have hxv:=ev x
       rw [hx] at hxv; simp only [aF] at hxv
       refine Good.plain hs hd (v:=.int .i64 0) ?_ (by simp only [aF])
       have key:(Builtin.cap_ #[t] o.type #[a.eval x]).run P w = .ok (.int .i64 0) w:=by
        simp [Builtin.cap_,hxv,VE.bf hu,goInt]
       simp only [execOp,ho,resolve,invoke,builtin,Sem.run_bind,Sem.run_pure,Result.andThen_ok]
       simp [key]
     · cases h
   · cases h
 · -- append
   rename_i args argTypes ho
   split at h
   · rename_i dd x y t u hdst hargs II
     have hel:∀ {t e},elemOf P t = some e→P.underlying t = some (.slice e):=fun {t e} he=>by
      unfold VE.elemOf at he
      split at he
      · cases he; assumption
      · cases he
     have ha:args = #[x,y]:=by apply Array.ext'; simpa using hargs
     have VL:argTypes = #[t,u]:=by apply Array.ext'; simpa using II
     subst ha VL
     rw [hdst] at hd
     split at h
     · rename_i e e' he he'
       split at h
       · rename_i ty Ni hty hby
         split at h
         · rename_i hh
           obtain ⟨hee,hb4,_⟩:=hh
           obtain rfl:e = e':=Nat.eq_of_beq_eq_true hee
           obtain ⟨i,z,hi,hsz,hz,hzz⟩:=yC e ty hty
           have NT:i.bytes = Ni:=by simpa [VE.bytesOf,hi] using hby
           obtain ⟨r,w',g',k1,k2⟩:=IE (P:=P) (D7:=o.type) hs ho' (hel he) (hel he') hi hz hsz hzz (by rw [NT]; exact hb4) hd (ev x) (ev y) h
           refine ⟨r,w',g',.inl ?_,by rw [hdst]; exact k2⟩
           simp only [execOp,ho,resolve,invoke,builtin,Sem.run_bind,Sem.run_pure,Result.andThen_ok]
           simp [k1]
         · cases h
       · cases h
     · -- room
       rename_i e he he'
       split at h
       · rename_i ty Ni kn n hty hby hiu hx hy
         split at h
         · rename_i hv nv hnx
           split at h
           · rename_i hh
             obtain ⟨hb4,hpos⟩:=hh
             simp only [Option.some.injEq,Prod.mk.injEq,Bool.and_eq_true,decide_eq_true_eq] at h
             obtain ⟨⟨hn0,hnm⟩,rfl⟩:=h
             obtain ⟨i,z,hi,hsz,hz,hzz⟩:=yC e ty hty
             have NT:i.bytes = Ni:=by simpa [VE.bytesOf,hi] using hby
             obtain ⟨ku,hu2⟩:∃ ku,P.underlying u = some (.int ku):=by
              unfold VE.qW at hiu
              split at hiu
              · exact ⟨_,by assumption⟩
              · cases hiu
             have hxv:=ev x
             have hyv:=ev y
             rw [hx] at hxv; rw [hy] at hyv
             simp only [aF] at hxv hyv
             obtain ⟨m,rfl⟩:∃ m:Nat,n = m:=⟨n.toNat,by omega⟩
             have hzl:z.cells.size = ty.size:=by
              have:=(gy g.col w ty).length
              rw [← hzz] at this
              simpa using this
             have hm1:m≤2 ^ 32:=by unfold most at hnm; omega
             have hm2:m * i.bytes≤281474976710656:=by
              have:=Nat.mul_le_mul hm1 (by rw [NT]; exact hb4:i.bytes≤4096)
              omega
             have hrun:=Lib.run_append_nil_zeros (P:=P) w t u o.type e i z kn ku (hel he) hu2 hi hz m (by omega) (by omega) (by omega) hm2
             have hcapge:m≤grownCap w m 0 e:=by
              unfold grownCap; simp only [Question.cut]; omega
             generalize grownCap w m 0 e = cap at hrun hcapge
             have hsd:w.drew.heap.size = w.heap.size:=rfl
             rw [hdst]
             obtain ⟨g',k⟩:=hs.newRow hd (by rw [IC ho' (by simp)]; exact hnx) (own':=Ia ty) (CB (c:=g.col) (w:=w) hzz m (fun _ _=>none)) rfl (tk:=[]) (fun r hr=>by cases hr) (by simp) (box:=μ.box) (fun r hr=>by cases hr) (fun _ _ q=>absurd rfl q)
              (w':=w.drew.alloc (.cells (Builtin.zeroCells z.cells m ++ Builtin.zeroCells z.cells (cap - m)) e)) (cap:=cap) (rest:=(Builtin.zeroCells z.cells (cap - m)).toList) hcapge (by
               rw [List.length_append,kr,hzl]; simp only [Array.length_toList,Array.size_map,Array.size_range]; rw [← Nat.add_mul]; congr 1; omega) (fun o' v hv'=>by
               rw [← hsd,World.cell?_alloc_new]
               rw [← Array.getElem?_toList,Array.toList_append]
               exact hv') (fun o'=>by rw [← hsd,World.frozen?_alloc_new]) (fun b hb'=>RowKit.Below.heap_alloc w.drew _ b hb') ⟨rfl,rfl,rfl,by rw [← hsd]; simp⟩
             refine ⟨.slice (some ⟨w.heap.size,0,none⟩) m cap,_,g',.inl ?_,by rw [hdst]; exact k⟩
             simp only [execOp,ho,resolve,invoke,builtin,Sem.run_bind,Sem.run_pure,Result.andThen_ok]
             simp only [List.map_toArray,List.map_cons,List.map_nil,hxv,hyv]
             rw [hrun]; rfl
           · cases h
         · cases h
       · cases h
     · cases h
   · cases h
 · -- copy
   rename_i args argTypes ho
   split at h
   · rename_i x y t u hargs II
     have hel:∀ {t e},elemOf P t = some e→P.underlying t = some (.slice e):=fun {t e} he=>by
      unfold VE.elemOf at he
      split at he
      · cases he; assumption
      · cases he
     have ha:args = #[x,y]:=by apply Array.ext'; simpa using hargs
     have VL:argTypes = #[t,u]:=by apply Array.ext'; simpa using II
     subst ha VL
     split at h
     · rename_i e e' he he'
       split at h
       · rename_i ty hty
         split at h
         · split at h
           · rename_i dl hdl
             simp only [Option.some.injEq,Prod.mk.injEq,true_and] at h; subst h
             obtain ⟨i,z,hi,hsz,hz,hzz⟩:=yC e ty hty
             obtain ⟨r,w',k1,k2⟩:=LV (P:=P) (u:=u) (D7:=o.type) hs hdl ho' (ev x) (ev y) (hel he) hi hsz hd
             refine ⟨r,w',g,.inl ?_,k2⟩
             simp only [execOp,ho,resolve,invoke,builtin,Sem.run_bind,Sem.run_pure,Result.andThen_ok]
             simp [k1]
           · cases h
         · cases h
       · cases h
     · cases h
   · cases h
 · -- max
   rename_i args argTypes ho
   split at h
   · rename_i k m k' n hargs
     split at h
     · rename_i e; subst e
       simp only [Option.some.injEq,Prod.mk.injEq,true_and] at h; subst h
       obtain ⟨x,y,ha,hx,hy⟩:∃ x y,args = #[x,y] ∧ jQ μ.env x = .int k m ∧ jQ μ.env y = .int k n:=by
        cases hl:args.toList with
        | nil=>rw [hl] at hargs; simp at hargs
        | cons x r =>
          cases r with
          | nil=>rw [hl] at hargs; simp at hargs
          | cons y r =>
            rw [hl] at hargs
            simp only [List.map_cons,List.cons.injEq,List.map_eq_nil_iff] at hargs
            obtain ⟨h1,h2,h3⟩:=hargs
            subst h3
            exact ⟨x,y,by apply Array.ext'; simpa using hl,h1,h2⟩
       subst ha
       have hxv:=ev x
       have hyv:=ev y
       rw [hx] at hxv
       rw [hy] at hyv
       simp only [aF] at hxv hyv
       refine Good.plain hs hd (v:=.int k (if n > m then n else m)) ?_ (by simp only [aF])
       simp only [execOp,ho,resolve,invoke,builtin,Sem.run_bind,Sem.run_pure,Result.andThen_ok]
       simp [hxv,hyv,run_max_int2]
     · cases h
   · cases h
 · -- min
   rename_i args argTypes ho
   split at h
   · rename_i k m k' n hargs
     split at h
     · rename_i e; subst e
       simp only [Option.some.injEq,Prod.mk.injEq,true_and] at h; subst h
       obtain ⟨x,y,ha,hx,hy⟩:∃ x y,args = #[x,y] ∧ jQ μ.env x = .int k m ∧ jQ μ.env y = .int k n:=by
        cases hl:args.toList with
        | nil=>rw [hl] at hargs; simp at hargs
        | cons x r =>
          cases r with
          | nil=>rw [hl] at hargs; simp at hargs
          | cons y r =>
            rw [hl] at hargs
            simp only [List.map_cons,List.cons.injEq,List.map_eq_nil_iff] at hargs
            obtain ⟨h1,h2,h3⟩:=hargs
            subst h3
            exact ⟨x,y,by apply Array.ext'; simpa using hl,h1,h2⟩
       subst ha
       have hxv:=ev x
       have hyv:=ev y
       rw [hx] at hxv
       rw [hy] at hyv
       simp only [aF] at hxv hyv
       refine Good.plain hs hd (v:=.int k (if n < m then n else m)) ?_ (by simp only [aF])
       simp only [execOp,ho,resolve,invoke,builtin,Sem.run_bind,Sem.run_pure,Result.andThen_ok]
       simp [hxv,hyv,run_min_int2]
     · cases h
   · cases h
 · cases h
end
end Go.VE
