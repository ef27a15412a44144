import Derived.Test.YtgllenfbilnneaaGreatDoorVkN
import Derived.Laws.BytesString
import Derived.Laws.BitsLemmas
/- Each operation of the evaluator is what the machine does. -/
namespace Go.VE
section
variable {P:Program} {N:Fr} {c0:Nat→Nat→Col} {w0:World} {σ μ:AS} {g:Gh} {a:Act} {w w':World}
theorem Good.plain (hs:Sim N c0 w0 σ g a w) {o:Oper} (hd:dstOk N o.dst = true) {v:Value} {p:PV} (h:(execOp a.eval o).run P w = .ok (.value v) w) (hr:Rep g w p v):Good P N c0 w0 (σ.app o.dst { v:=p }) o a w :=
 ⟨v,w,g,.inl h,by rw [AS.app_plain]; exact hs.put hd hr⟩
theorem pick_rep {c:Bool} {x y:PV} {u v:Value} (hx:Rep g w x u) (hy:Rep g w y v):Rep g w (bif c then x else y) (if c then u else v):=by
 cases c
 · exact hy
 · exact hx
theorem places_run (f:Field→Sem (Nat×Nat)) (hf:∀ x n,szOf P x.type = some n→(f x).run P w = .ok (x.offset,n) w):∀ (l:List Field) (pl:List (Nat×Nat)),l.mapM (fun f=>(szOf P f.type).map fun n=>(f.offset,n)) = some pl→(l.mapM f).run P w = .ok pl w
 | [],pl,h=>by simp at h; subst h; rfl
 | x::r,pl,h=>by
   rw [List.mapM_cons] at h
   cases hx:szOf P x.type with
   | none=>rw [hx] at h; simp at h
   | some n =>
   cases hr:(r.mapM fun f=>(szOf P f.type).map fun n=>(f.offset,n)) with
   | none=>rw [hx,hr] at h; simp at h
   | some pr =>
   rw [hx,hr] at h
   simp at h; subst h
   rw [List.mapM_cons]
   simp only [Sem.run_bind,hf x n hx,Result.andThen_ok,places_run f hf r pr hr,Sem.run_pure]
theorem Sim.setIter (h:Sim N c0 w0 σ g a w) {id:Nat} {s:ByteArray} {pos:Nat} (hb:σ.box id = some (.iter s pos)) (pos':Nat) {dst:Option Nat} (hd:dstOk N dst = true) {p:PV} {v:Value} (hp:∀ g w,Rep g w p v) :
 Sim N c0 w0 (σ.app dst { v:=p,bx:=[(id,.iter s pos')] }) g (a.put dst v) { w with heap:=w.heap.setIfInBounds (g.bx id).1 (.stringIter s pos') }:=by
 obtain ⟨hd0,e1,e2,e3⟩:=h.box _ _ hb
 have hlt:=heap_lt e3
 have hsame:({ w with heap:=w.heap.setIfInBounds (g.bx id).1 (.stringIter s pos') }:World).heap[(g.bx id).1]? = some (.stringIter s pos'):=by
  show (w.heap.setIfInBounds (g.bx id).1 _)[(g.bx id).1]? = _
  rw [Array.getElem?_setIfInBounds,if_pos rfl,if_pos hlt]
 have hoth:∀ b,b ≠ (g.bx id).1→({ w with heap:=w.heap.setIfInBounds (g.bx id).1 (.stringIter s pos') }:World).heap[b]? = w.heap[b]?:=fun b hne=>by
  show (w.heap.setIfInBounds (g.bx id).1 _)[b]? = _
  rw [Array.getElem?_setIfInBounds,if_neg (Ne.symm hne)]
 have hcell:∀ b o,({ w with heap:=w.heap.setIfInBounds (g.bx id).1 (.stringIter s pos') }:World).cell? ⟨b,o,none⟩ = w.cell? ⟨b,o,none⟩:=fun b o=>by
  by_cases e:b = (g.bx id).1
  · subst e
    unfold World.cell?
    simp only
    rw [hsame,e3]
  · exact World.cell?_of_block (hoth b e)
 have hfrz:∀ b o,({ w with heap:=w.heap.setIfInBounds (g.bx id).1 (.stringIter s pos') }:World).frozen? ⟨b,o,none⟩ = w.frozen? ⟨b,o,none⟩:=fun b o=>by
  by_cases e:b = (g.bx id).1
  · subst e
    unfold World.frozen?
    simp only
    rw [hsame,e3]
  · exact World.frozen?_of_block (hoth b e)
 refine h.wr1 (c:=.iter s pos') (p:=p) (v:=v) ⟨fun b o v hv _=>by rw [hcell]; exact hv,⟨fun b o _=>hfrz b o,fun b o h=>(hfrz b o).trans (frozen_none h o)⟩,fun b ob hob hk=>?_,fun b o _=>by rw [hcell],rfl,rfl,rfl,by simp⟩ (.inl ⟨hd0,rfl⟩) (fun _=>⟨hd0,e1,e2,hsame⟩) hd fun _=>hp _ _
 rw [hoth]
 · exact hob
 · rintro rfl
   exact hk 0 id (by simp) (e2 0)
theorem hdr_of {c:Nat→Nat→Col} {t:Ty} {x:L t.T} {v:Value} (h:RepT c w (.sl t) x [v]):∃ hd:Hdr,v = slV hd ∧ hd.2.1 = x.len:=by
 obtain ⟨ad,cap,e,_⟩:=h
 simp only [List.cons.injEq,and_true] at e
 exact ⟨(ad,x.len,cap),e,rfl⟩
theorem nxt_of {d:Nat} {W:List Nat} (ho:Obs μ σ W) (hm:d ∈ W):nxt σ.box d = nxt μ.box d:=by
 unfold nxt
 rw [ho.new d hm]
theorem appH_sound (hs:Sim N c0 w0 σ g a w) {d:Dl} (ho:Obs μ σ (d.bx.map (·.1))) {t u ty0 e:TypeId} {i:TypeInfo} {z:Value} {ty:Ty} (ht:P.underlying t = some (.slice e)) (hu:P.underlying u = some (.slice e)) (hi:P.info? e = some i) (hz:i.zero = some z) (hsz:i.size = ty.size) (hzz:z.cells.toList = ty.zeroV) (hby:i.bytes≤4096)
 {dd:Nat} (hdd:dstOk N (some dd) = true) {x y:PV} {vx vy:Value} (hx:Rep g w x vx) (hy:Rep g w y vy) (h:appH ty dd μ.box x y = some (true,d)) :
 ∃ r w' g',(Builtin.append_ #[t,u] ty0 #[vx,vy]).run P w = .ok r w' ∧ Sim N c0 w0 (σ.app (some dd) d) g' (a.put (some dd) r) w':=by
 unfold appH at h
 split at h
 · rename_i id v k
   split at h
   · rename_i u0 l hv nv hh n hb hn
     split at h
     · rename_i hbq
       obtain rfl:=Ty.eq_of_beq hbq
       simp only [castT] at h
       cases hq:(Nat.beq v nv&&(mvB id&&(u0.flat&&!Nat.beq id dd))) with
       | false=>rw [hq] at h; cases h
       | true =>
         rw [hq] at h
         simp only [cond_true] at h
         simp only [Bool.and_eq_true,Bool.not_eq_true'] at hq
         obtain ⟨e1,hmv,hfl,e2⟩:=hq
         obtain rfl:=Nat.eq_of_beq_eq_true e1
         have hne:id ≠ dd:=fun q=>by rw [q] at e2; simp at e2
         split at h
         · rename_i b hub
           simp only [Option.some.injEq,Prod.mk.injEq] at h
           obtain ⟨hm,rfl⟩:=h
           have hbσ:=ho.box _ _ hb
           have hk:k < l.len:=by
            have hx':=hx
            simp only [Rep] at hx'
            obtain ⟨_,_,q,_⟩:=(ho.ok hs) _ _ hb
            rw [← q]; exact hx'.2.1
           have hnσ:nxt σ.box dd = some (hh,n):=by rw [nxt_of ho (by simp)]; exact hn
           obtain ⟨g1,gs,hs1,k1,k2⟩:=hs.extract hbσ hmv hk (dstOk_pb hdd) hne hnσ
           let μ1:AS:={ μ with box:=upd (upd μ.box id (some (.hol u0 l k hv v))) dd (some (.row u0 (l.get k) none hh n)) }
           have ho1:Obs μ1 { σ with box:=upd (upd σ.box id (some (.hol u0 l k hv v))) dd (some (.row u0 (l.get k) none hh n)) } [dd]:=by
            refine ⟨ho.env,fun b0 c0 hb0=>?_,fun b0 hb0=>?_⟩
            · simp only [μ1,upd_eq] at hb0 ⊢
              split
              · rename_i q; rw [if_pos q] at hb0; exact hb0
              · rename_i q
                rw [if_neg q] at hb0
                split
                · rename_i q2; rw [if_pos q2] at hb0; exact hb0
                · rename_i q2; rw [if_neg q2] at hb0; exact ho.box _ _ hb0
            · obtain rfl:=List.mem_singleton.mp hb0
              simp only [μ1,upd_eq,if_pos]
           have hap:appD u0 dd μ1.box (.ms dd hh) y = some (true,{ v:=.ms dd (hh + 1),bx:=[(dd,.row u0 ((l.get k).app b) none (hh + 1) (n + 1))] }):=by
            have hmd:mvB dd = true:=by unfold mvB; simp [dstOk_pb hdd]
            have hsr:srcA μ1.box u0 y = some (b,none,[]):=by
             unfold srcA
             rw [hfl]
             simp only [cond_true]
             rw [show unA (.sl u0) [rslv1 μ1.box y] = some b from hub]
            unfold appD
            rw [hsr]
            simp only
            have hbd:μ1.box dd = some (.row u0 (l.get k) none hh n):=by simp only [μ1,upd_eq,if_pos]
            rw [hbd]
            simp only [castT,Nat.beq_refl,hmd,List.all_nil,Bool.and_self,cond_true,ownApp,List.map_nil,hm]
            exact dif_pos hbq
           simp only [Rep] at hx
           have hx1:Rep g1 w (.ms dd hh) vx:=by
            simp only [Rep]
            exact ⟨k1,by rw [k2]; exact hx.2.2⟩
           obtain ⟨r,w',g',r1,r2⟩:=appD_sound (P:=P) (ty0:=ty0) hs1 (d:={ v:=.ms dd (hh + 1),bx:=[(dd,.row u0 ((l.get k).app b) none (hh + 1) (n + 1))] }) ho1 ht hu hi hz hsz hzz hby hdd hx1 (Rep.mono gs _ _ hy) hap
           refine ⟨r,w',g',r1,?_⟩
           have e3:({ σ with box:=upd (upd σ.box id (some (.hol u0 l k hv v))) dd (some (.row u0 (l.get k) none hh n)) }:AS).app (some dd) { v:=.ms dd (hh + 1),bx:=[(dd,.row u0 ((l.get k).app b) none (hh + 1) (n + 1))] }
            = σ.app (some dd) { v:=.ms dd (hh + 1),bx:=[(id,.hol u0 l k hv v),(dd,.row u0 ((l.get k).app b) none (hh + 1) (n + 1))] }:=by
            unfold AS.app
            simp only [List.map_cons,List.map_nil,updL]
            congr 1
            funext j
            simp only [upd_eq]
            by_cases q1:j = dd
            · subst q1
              simp
            · simp [q1]
           rw [← e3]
           exact r2
         · cases h
     · cases h
   · cases h
 · exact appD_sound hs ho ht hu hi hz hsz hzz hby hdd hx hy h
theorem opD_sound {Γ:TypeId→Option Ty} (hΓ:GamOk P Γ) (hs:Sim N c0 w0 σ g a w) {o:Oper} {d:Dl} (h:opD P Γ o μ = some (true,d)) (ho':Obs μ σ (d.bx.map (·.1))) (hd:dstOk N o.dst = true):Good P N c0 w0 (σ.app o.dst d) o a w:=by
 have ev:=ho'.ev hs
 have hbo:=ho'.ok hs
 have rv:∀ x,Rep (stG g) w (rslv1 μ.box (evO μ.env x)) (a.eval x):=fun x=>rslv1_rep hbo (ev x)
 simp only [opD] at h
 split at h
 · -- move
   rename_i x ho
   simp only [Option.some.injEq,Prod.mk.injEq,true_and] at h; subst h
   exact Good.plain hs hd (v:=a.eval x) (by simp [execOp,ho]) (ev x)
 · rename_i x ho
   simp only [Option.some.injEq,Prod.mk.injEq,true_and] at h; subst h
   exact Good.plain hs hd (v:=a.eval x) (by simp [execOp,ho]) (ev x)
 · -- pick
   rename_i c x y ho
   split at h
   · rename_i t hc
     simp only [Option.some.injEq,Prod.mk.injEq,true_and] at h; subst h
     have hcv:=ev c
     rw [hc] at hcv
     simp only [Rep] at hcv
     exact Good.plain hs hd (v:=if t then a.eval x else a.eval y) (by simp [execOp,ho,hcv,asBool]) (pick_rep (ev x) (ev y))
   · cases h
 · -- alloc
   rename_i t ho
   split at h
   · rename_i dd cs hdst hz
     split at h
     · rename_i hb
       simp only [Option.some.injEq,Prod.mk.injEq,true_and] at h; subst h
       have hb:σ.box dd = none:=by rw [← ho'.new dd (by simp)]; exact hb
       obtain ⟨z,z1,z2⟩:=zeroOf_run hz g w
       have hcells:∀ (o':Nat) (v:Value),z.cells.toList[o']? = some v→(w.alloc (.cells z.cells t)).cell? ⟨w.heap.size,o',none⟩ = some v:=by
        intro o' v hv
        rw [World.cell?_alloc_new]; simpa using hv
       have hgs:=gstays_box hs hb (.cells z.cells t)
       refine ⟨.pointer (some ⟨w.heap.size,0,none⟩),w.alloc (.cells z.cells t),ghBox g w.heap.size dd,.inl ?_,?_⟩
       · simp [execOp,ho,Instr.alloc,z1,newVar,newRow]
       · rw [hdst] at hd ⊢
         exact hs.newBox (ob:=.cells z.cells t) (hob:=fun _=>World.frozen?_alloc_new ..) (c:=.cells cs) (p:=.bx dd 0) (v:=.pointer (some ⟨w.heap.size,0,none⟩)) hd (dstOk_pb hd) hb rfl
          ⟨.inl rfl,z.cells.toList,Reps.mono hgs _ _ z2,fun j v hj=>by
           simp only [ghBox_bx,Nat.zero_add]
           exact ⟨ghBox_new _ _ _ _,hcells j v hj,by rw [World.frozen?_alloc_new]⟩⟩
          (by simp only [Rep]; exact ⟨.inl rfl,by simp only [ghBox_bx,Nat.add_zero]⟩)
     · cases h
   · cases h
 · -- box
   rename_i t x ho
   split at h
   · rename_i dd hdst
     split at h
     · rename_i hb
       split at h
       · rename_i hsol
         simp only [Option.some.injEq,Prod.mk.injEq,true_and] at h; subst h
         have hb:σ.box dd = none:=by rw [← ho'.new dd (by simp)]; exact hb
         obtain ⟨z2,_⟩:=cel_rep (ev x) hsol
         have hcells:∀ (o':Nat) (v:Value),(a.eval x).cells.toList[o']? = some v→(w.alloc (.cells (a.eval x).cells t)).cell? ⟨w.heap.size,o',none⟩ = some v:=by
          intro o' v hv
          rw [World.cell?_alloc_new]; simpa using hv
         have hgs:=gstays_box hs hb (.cells (a.eval x).cells t)
         refine ⟨.pointer (some ⟨w.heap.size,0,none⟩),w.alloc (.cells (a.eval x).cells t),ghBox g w.heap.size dd,.inl ?_,?_⟩
         · simp [execOp,ho,Instr.box,newVar,newRow]
         · rw [hdst] at hd ⊢
           exact hs.newBox (ob:=.cells (a.eval x).cells t) (hob:=fun _=>World.frozen?_alloc_new ..) (c:=.cells (evO μ.env x).cel) (p:=.bx dd 0) (v:=.pointer (some ⟨w.heap.size,0,none⟩)) hd (dstOk_pb hd) hb rfl
            ⟨.inl rfl,_,Reps.mono hgs _ _ z2,fun j v hj=>by
             simp only [ghBox_bx,Nat.zero_add]
             exact ⟨ghBox_new _ _ _ _,hcells j v hj,by rw [World.frozen?_alloc_new]⟩⟩
            (by simp only [Rep]; exact ⟨.inl rfl,by simp only [ghBox_bx,Nat.add_zero]⟩)
       · cases h
     · cases h
   · cases h
 · -- build
   rename_i t parts ho
   split at h
   · rename_i fs z hu hz
     split at h
     · rename_i pl hpl
       split at h
       · rename_i cs hf
         simp only [Option.some.injEq,Prod.mk.injEq,true_and] at h; subst h
         obtain ⟨zv,z1,z2⟩:=zeroOf_run hz g w
         obtain ⟨out,k1,k2⟩:=fillC_run (g:=g) (w:=w) (ρ:=a.eval) (env:=μ.env) ev (fun i=>pl[i]?) parts.toList z cs zv.cells hf z2
         have hpr:=places_run (P:=P) (w:=w) (fun f=>do pure (f.offset,← sizeOf f.type)) (fun x n hn=>by simp [sizeOf_run hn]) fs.toList pl hpl
         refine Good.plain hs hd (v:=.agg out) ?_ (by simp only [Rep]; exact ⟨out.toList,by simp,k2⟩)
         have hpr':(fs.mapM fun f=>do pure (f.offset,← sizeOf f.type):Sem (Array (Nat×Nat))).run P w = .ok pl.toArray w:=by
          rw [Array.mapM_eq_mapM_toList,Sem.run_map,hpr]; rfl
         simp only [execOp,ho,Instr.build,Sem.run_bind,z1,Result.andThen_ok,VE.underlying_run hu,hpr']
         have e1:(fun (x:Nat)=>(pl.toArray)[x]?) = (fun (i:Nat)=>pl[i]?):=by funext i; simp
         rw [show (Array.map (fun x=>match x with | (i,x)=>(i,a.eval x)) parts).toList = parts.toList.map (fun p=>(p.1,a.eval p.2)) by simp]
         rw [e1,k1]
         rfl
       · cases h
     · cases h
   · rename_i n e z hu hz
     split at h
     · rename_i m hm
       split at h
       · rename_i cs hf
         simp only [Option.some.injEq,Prod.mk.injEq,true_and] at h; subst h
         obtain ⟨zv,z1,z2⟩:=zeroOf_run hz g w
         obtain ⟨out,k1,k2⟩:=fillC_run (g:=g) (w:=w) (ρ:=a.eval) (env:=μ.env) ev (fun i=>some (i * m,m)) parts.toList z cs zv.cells hf z2
         refine Good.plain hs hd (v:=.agg out) ?_ (by simp only [Rep]; exact ⟨out.toList,by simp,k2⟩)
         simp only [execOp,ho,Instr.build,Sem.run_bind,z1,Result.andThen_ok,VE.underlying_run hu,sizeOf_run hm]
         rw [show (Array.map (fun x=>match x with | (i,x)=>(i,a.eval x)) parts).toList = parts.toList.map (fun p=>(p.1,a.eval p.2)) by simp]
         rw [k1]
         rfl
       · cases h
     · cases h
   · cases h
 · -- load
   rename_i t x ho
   split at h
   · rename_i p hp
     simp only [Option.some.injEq,Prod.mk.injEq,true_and] at h; subst h
     obtain ⟨v,h1,h2⟩:=rdAt_run hbo hp (ev x)
     exact Good.plain hs hd (v:=v) (by simp [execOp,ho,h1]) h2
   · cases h
 · -- store
   rename_i t x y ho
   split at h
   · rename_i b hb
     simp only [Option.some.injEq,Prod.mk.injEq] at h; obtain ⟨hG,rfl⟩:=h
     obtain ⟨w',g',h1,h2⟩:=stAt_run hs hb hG ho' (ev y) (ev x) hd
     exact ⟨undef,w',g',.inr ⟨by simp [execOp,ho,h1],rfl⟩,h2⟩
   · cases h
 · -- nilCheck
   rename_i x ho
   have hv:=ev x
   split at h <;> try cases h
   · rename_i i f hx
     rw [hx] at hv
     have hv':=hv
     simp only [Rep] at hv'
     exact Good.plain hs hd (v:=a.eval x) (by simp [execOp,ho,hv'.2]) hv
   · rename_i cs hx
     rw [hx] at hv
     have hv':=hv
     simp only [Rep] at hv'
     obtain ⟨b,oo,us,e,_⟩:=hv'
     exact Good.plain hs hd (v:=a.eval x) (by simp [execOp,ho,e]) hv
   · rename_i i v s j f hx
     rw [hx] at hv
     have hv':=hv
     simp only [Rep] at hv'
     obtain ⟨_,_,ad,_,e⟩:=hv'
     exact Good.plain hs hd (v:=a.eval x) (by simp [execOp,ho,e]) hv
   · rename_i i v j k s l f hx
     rw [hx] at hv
     have hv':=hv
     simp only [Rep] at hv'
     obtain ⟨_,_,_,ad,_,e⟩:=hv'
     exact Good.plain hs hd (v:=a.eval x) (by simp [execOp,ho,e]) hv
   · rename_i f cs hx
     rw [hx] at hv
     have hv':=hv
     simp only [Rep] at hv'
     obtain ⟨vs,e,_⟩:=hv'
     exact Good.plain hs hd (v:=a.eval x) (by simp [execOp,ho,e]) hv
 · -- binOp
   rename_i op t x y ty ho
   split at h
   · rename_i c v hb
     simp only [Option.some.injEq,Prod.mk.injEq] at h
     obtain ⟨rfl,rfl⟩:=h
     obtain ⟨z,h1,h2⟩:=binD_run x y hb (rv x) (rv y)
     exact Good.plain hs hd (v:=z) (by simp only [execOp,ho,Sem.run_bind] at h1 ⊢; simp only [h1,Result.andThen_ok,Sem.run_pure]) (scal_rep (binD_scal hb) h2)
   · cases h
 · -- unOp
   rename_i op t x ho
   split at h
   · rename_i v hv
     simp only [Option.some.injEq,Prod.mk.injEq,true_and] at h; subst h
     have hx:=ev x
     generalize evO μ.env x = px at hv hx
     unfold unOpD at hv
     split at hv
     · rename_i b
       cases hv
       simp only [Rep] at hx
       exact Good.plain hs hd (v:=.bool (!b)) (by simp [execOp,ho,hx,Op.unary]) (by simp only [Rep])
     · rename_i k n
       cases hv
       simp only [Rep] at hx
       exact Good.plain hs hd (v:=.int k (k.wrap (0 - n))) (by simp only [execOp,ho,hx,Op.unary,Op.intArith]; rfl) (by simp only [Rep])
     · cases hv
   · cases h
 · -- convert
   rename_i src dst x ho
   split at h
   · rename_i v hv
     simp only [Option.some.injEq,Prod.mk.injEq,true_and] at h; subst h
     have hx:=rv x
     generalize rslv1 μ.box (evO μ.env x) = px at hv hx
     unfold convD at hv
     split at hv
     · rename_i ds k kx n h1 h2
       cases hv
       simp only [Rep] at hx
       exact Good.plain hs hd (v:=.int k (k.wrap n)) (by simp [execOp,ho,hx,convert,VE.underlying_run h1,VE.underlying_run h2,Conv.intToInt]) (by simp only [Rep])
     · rename_i ds s h1 h2
       cases hv
       simp only [Rep] at hx
       exact Good.plain hs hd (v:=.string s) (by simp [execOp,ho,hx,convert,VE.underlying_run h1,VE.underlying_run h2]) (by simp only [Rep])
     · rename_i ks kx n h1 h2
       cases hv
       simp only [Rep] at hx
       exact Good.plain hs hd (v:=.string (Utf8.encode n)) (by simp [execOp,ho,hx,convert,VE.underlying_run h1,VE.underlying_run h2,Conv.intToString]) (by simp only [Rep])
     · rename_i e l h1 h2
       cases hu:u8Of P e with
       | false=>rw [hu] at hv; cases hv
       | true =>
         rw [hu] at hv
         cases hv
         have he:P.underlying e = some (.int .u8):=by
          unfold u8Of at hu
          split at hu
          · assumption
          · cases hu
         simp only [Rep] at hx
         obtain ⟨ad,cap,e2,hl,hnn,hsl⟩:=hx
         simp only [List.cons.injEq,and_true] at e2
         have e1:=e2
         have key:(Conv.bytesToString (.slice ad l.len cap)).run P w = .ok (.string (strOfL l)) w:=by
          cases ad with
          | none =>
            have h0:l.len = 0:=by have:=hnn.1 rfl; omega
            have:strOfL l = ByteArray.empty:=by simp [strOfL,h0]
            rw [this]
            rfl
          | some ad =>
            have hc:=run_loadCells_list (P:=P) (w:=w) ad (((List.range l.len).map l.get).map (Value.int .u8)) (fun j v hj=>by
             simp only [List.getElem?_map,Option.map_eq_some_iff] at hj
             obtain ⟨m,⟨n,hn,rfl⟩,rfl⟩:=hj
             obtain ⟨hjl,hjn⟩:=List.getElem?_eq_some_iff.mp hn
             simp only [List.length_range] at hjl
             simp only [List.getElem_range] at hjn
             subst hjn
             obtain ⟨q1,q2⟩:=hsl ad rfl
             obtain ⟨us,q3,q4⟩:=q2 j hjl
             have q1:=q1 (by omega)
             have q3:us = [.int .u8 (l.get j)]:=q3
             subst q3
             have:=(q4 0 _ rfl).2
             have e3:ad = ⟨ad.block,ad.off,none⟩:=by cases ad; simp_all
             rw [e3,add_none]
             simpa [Ty.size] using this)
            have:=run_bytesToString (P:=P) w ad l.len cap ((List.range l.len).map l.get) (by simpa using hc)
            exact this
         exact Good.plain hs hd (v:=.string (strOfL l)) (by simp only [execOp,ho,e1,run_convert_bytes_string w src dst e ad l.len cap h1 he h2,key,Sem.run_bind,Result.andThen_ok,Sem.run_pure]) (by simp only [Rep])
     · cases hv
   · cases h
 · -- makeFunc
   rename_i f first cap ho
   split at h
   · rename_i hf
     simp only [Option.some.injEq,Prod.mk.injEq,true_and] at h; subst h
     have hf':first = #[]:=by simpa using hf
     subst hf'
     refine Good.plain hs hd (v:=.func (.func f) #[] (cap.map a.eval)) (by simp [execOp,ho,Instr.makeFunc]) ?_
     simp only [Rep]
     refine ⟨cap.toList.map a.eval,(by congr 1; apply Array.ext'; simp),Reps.of_get (by simp) fun i p v hp hv=>?_⟩
     simp only [List.getElem?_map,Option.map_eq_some_iff] at hp hv
     obtain ⟨x,hx,rfl⟩:=hp
     obtain ⟨y,hy,rfl⟩:=hv
     rw [hx] at hy; cases hy
     exact ev x
   · cases h
 · -- makeSlice
   rename_i t l c ho
   split at h
   · rename_i dd hdst
     rw [hdst] at hd
     exact mkSlD_run hΓ hs ho hdst hd h ho'
   · cases h
 · -- buildSlice
   rename_i t n parts ho
   split at h
   · rename_i dd hdst
     split at h
     · rename_i b hb
       simp only [Option.some.injEq,Prod.mk.injEq,true_and] at h; subst h
       rw [hdst] at hd
       exact bldD_run hΓ hs ho hdst hd hb ho'
     · cases h
   · cases h
 · -- fieldAddr
   rename_i s x f ho
   split at h
   · rename_i off ft hf
     split at h
     · rename_i m hm
       obtain ⟨fs,fd,hu,hfd,rfl,rfl⟩:∃ fs fd,P.underlying s = some (.struct fs) ∧ fs[f]? = some fd ∧ fd.offset = off ∧ fd.type = ft:=by
        unfold fieldOf at hf
        split at hf
        · rename_i fs hu
          split at hf
          · rename_i fd hfd
            simp only [Option.some.injEq,Prod.mk.injEq] at hf
            exact ⟨fs,fd,hu,hfd,hf.1,hf.2⟩
          · cases hf
        · cases hf
       have hrun:∀ b oo,(Instr.fieldAt s (.pointer (some ⟨b,oo,none⟩)) f).run P w = .ok (.pointer (some ⟨b,oo + fd.offset,none⟩)) w:=by
        intro b oo
        simp only [Instr.fieldAt,Sem.run_bind,VE.underlying_run hu,Result.andThen_ok,hfd,Instr.sureAddr,Sem.run_pure,fieldPlace,sizeOf_run hm]
        rw [if_neg (by omega)]
        simp [add_none]
       have hxv:=ev x
       split at h <;> try cases h
       · rename_i id o' hx
         rw [hx] at hxv
         simp only [Rep] at hxv
         exact Good.plain hs hd (v:=.pointer (some ⟨(g.bx id).1,(g.bx id).2 + o' + fd.offset,none⟩)) (by simp [execOp,ho,hxv.2,hrun]) (by simp only [Rep]; exact ⟨hxv.1,by rw [Nat.add_assoc]⟩)
       · rename_i cs hx
         rw [hx] at hxv
         simp only [Rep] at hxv
         obtain ⟨b,oo,us,e,h2,h3⟩:=hxv
         refine Good.plain hs hd (v:=.pointer (some ⟨b,oo + fd.offset,none⟩)) (by simp [execOp,ho,e,hrun]) ?_
         simp only [Rep]
         refine ⟨b,oo + fd.offset,us.drop fd.offset,rfl,h2.drop _,fun j v hj=>?_⟩
         rw [List.getElem?_drop] at hj
         have:=h3 _ v hj
         rwa [← Nat.add_assoc] at this
       · rename_i id v sz i o' hx
         rw [hx] at hxv
         simp only [Rep] at hxv
         obtain ⟨q1,q2,ad,q3,e⟩:=hxv
         exact Good.plain hs hd (v:=.pointer (some ⟨ad.block,ad.off + i * sz + o' + fd.offset,none⟩)) (by simp [execOp,ho,e,hrun]) (by simp only [Rep]; exact ⟨q1,q2,ad,q3,by rw [Nat.add_assoc _ o']⟩)
       · rename_i id v i j sz k o' hx
         rw [hx] at hxv
         simp only [Rep] at hxv
         obtain ⟨q1,q2,q4,ad,q3,e⟩:=hxv
         exact Good.plain hs hd (v:=.pointer (some ⟨ad.block,ad.off + k * sz + o' + fd.offset,none⟩)) (by simp [execOp,ho,e,hrun]) (by simp only [Rep]; exact ⟨q1,q2,q4,ad,q3,by rw [Nat.add_assoc _ o']⟩)
     · cases h
   · cases h
 · -- field
   rename_i s x f ho
   split at h
   · rename_i off ft cs hf hx
     split at h
     · rename_i v hv
       simp only [Option.some.injEq,Prod.mk.injEq,true_and] at h; subst h
       obtain ⟨fs,fd,hu,hfd,rfl,rfl⟩:∃ fs fd,P.underlying s = some (.struct fs) ∧ fs[f]? = some fd ∧ fd.offset = off ∧ fd.type = ft:=by
        unfold fieldOf at hf
        split at hf
        · rename_i fs hu
          split at hf
          · rename_i fd hfd
            simp only [Option.some.injEq,Prod.mk.injEq] at hf
            exact ⟨fs,fd,hu,hfd,hf.1,hf.2⟩
          · cases hf
        · cases hf
       have hxv:=ev x
       rw [hx] at hxv
       simp only [Rep] at hxv
       obtain ⟨vs,e,h2⟩:=hxv
       obtain ⟨u,h3,h4⟩:=part_run (P:=P) (t:=fd.type) hv h2
       exact Good.plain hs hd (v:=u) (by simp only [execOp,ho,e,Instr.field,Sem.run_bind,VE.underlying_run hu,Result.andThen_ok,hfd,asAgg,Sem.run_pure,h3]) h4
     · cases h
   · cases h
 · -- indexAddr
   rename_i t x ix ho
   unfold ixD at h
   split at h
   · rename_i e k n he hn
     obtain ⟨hu,hsz⟩:P.underlying t = some (.slice e) ∧ ∀ ty,Γ e = some ty→szOf P e = some ty.size:=by
      refine ⟨?_,fun ty hty=>?_⟩
      · unfold VE.elemOf at he
        split at he
        · cases he; assumption
        · cases he
      · obtain ⟨i,z,hi,hsz,_⟩:=hΓ e ty hty
        simp [szOf,hi,hsz]
     have hiv:=ev ix
     rw [hn] at hiv
     simp only [Rep] at hiv
     have hxv:=ev x
     have hrun:∀ (b oo:Nat) (len cap m:Nat),0≤n→n < len→szOf P e = some m→(Instr.indexAt t (.slice (some ⟨b,oo,none⟩) len cap) (.int k n)).run P w = .ok (.pointer (some ⟨b,oo + n.toNat * m,none⟩)) w:=by
      intro b oo len cap m h0 h1 hm
      simp only [Instr.indexAt,asIntOf,Sem.run_bind,Sem.run_pure,Result.andThen_ok,VE.underlying_run hu]
      rw [if_pos ⟨h0,h1⟩]
      simp [add_none,sizeOf_run hm]
     split at h
     · rename_i ty ty' l hty hx
       split at h
       · rename_i hbq
         simp only [Option.some.injEq,Prod.mk.injEq,Bool.and_eq_true,decide_eq_true_eq] at h
         obtain ⟨⟨h0,h1⟩,rfl⟩:=h
         rw [hx] at hxv
         simp only [Rep] at hxv
         rw [castT_len] at h1
         obtain ⟨ad,cap,e2,hl,hnn,hsl⟩:=hxv
         simp only [List.cons.injEq,and_true] at e2
         have e1:=e2
         cases ad with
         | none=>have:=hnn.1 rfl; omega
         | some ad =>
           obtain ⟨q1,q2⟩:=hsl ad rfl
           obtain ⟨us,q3,q4⟩:=q2 n.toNat (by omega)
           have q1':=q1 (by omega)
           have e3:ad = ⟨ad.block,ad.off,none⟩:=by cases ad; simp_all
           have hs1:szOf P e = some ty'.size:=by rw [Ty.eq_of_beq hbq]; exact hsz ty hty
           refine Good.plain hs hd (v:=.pointer (some ⟨ad.block,ad.off + n.toNat * ty'.size,none⟩)) ?_ ?_
           · rw [e3] at e1
             simp only [execOp,ho,e1,hiv,Sem.run_bind,hrun _ _ _ _ _ h0 h1 hs1,Result.andThen_ok,Sem.run_pure]
           · simp only [Rep]
             rw [castT_pk]
             exact ⟨_,_,us,rfl,reps_pk q3,q4⟩
       · cases h
     · rename_i ty id v hty hx
       split at h
       · rename_i ty' l own hv nv hb
         cases hc:(ty'.beq ty&&Nat.beq v hv) with
         | false=>rw [hc] at h; cases h
         | true =>
           rw [hc] at h
           simp only [cond_true,Option.some.injEq,Prod.mk.injEq,Bool.and_eq_true,decide_eq_true_eq] at h
           obtain ⟨⟨h0,h1⟩,rfl⟩:=h
           simp only [Bool.and_eq_true] at hc
           obtain rfl:=Ty.eq_of_beq hc.1
           obtain rfl:=Nat.eq_of_beq_eq_true hc.2
           rw [hx] at hxv
           simp only [Rep] at hxv
           obtain ⟨hdm,e1⟩:=hxv
           obtain ⟨_,_,_,⟨⟨b1,b2,b3,_⟩,b5,_⟩,_⟩:=hbo _ _ hb
           cases had:(g.hd id v).1 with
           | none=>have:=b3 had; omega
           | some ad =>
             have e3:=addr_eta (b5 ad had).1
             have h1':n < ((g.hd id v).2.1:Int):=by rw [b1]; exact h1
             have e4:a.eval x = .slice (some ⟨ad.block,ad.off,none⟩) (g.hd id v).2.1 (g.hd id v).2.2:=by rw [e1,slV,had,← e3]
             refine Good.plain hs hd (v:=.pointer (some ⟨ad.block,ad.off + n.toNat * ty'.size,none⟩)) ?_ ?_
             · simp only [execOp,ho,e4,hiv,Sem.run_bind,hrun _ _ _ _ _ h0 h1' (hsz ty' hty),Result.andThen_ok,Sem.run_pure]
             · simp only [Rep]
               exact ⟨hdm,by rw [b1]; omega,ad,had,by rw [Nat.add_zero]⟩
       · rename_i u' l i' hv nv hb
         cases hc:((Ty.sl u').beq ty&&Nat.beq v hv) with
         | false=>rw [hc] at h; cases h
         | true =>
           rw [hc] at h
           simp only [cond_true,Option.some.injEq,Prod.mk.injEq,Bool.and_eq_true,decide_eq_true_eq] at h
           obtain ⟨⟨h0,h1⟩,rfl⟩:=h
           simp only [Bool.and_eq_true] at hc
           obtain rfl:=Ty.eq_of_beq hc.1
           obtain rfl:=Nat.eq_of_beq_eq_true hc.2
           rw [hx] at hxv
           simp only [Rep] at hxv
           obtain ⟨hdm,e1⟩:=hxv
           obtain ⟨_,_,_,⟨⟨b1,b2,b3,_⟩,b5,_⟩,_⟩:=hbo _ _ hb
           cases had:(g.hd id v).1 with
           | none=>have:=b3 had; omega
           | some ad =>
             have e3:=addr_eta (b5 ad had).1
             have h1':n < ((g.hd id v).2.1:Int):=by rw [b1]; exact h1
             have e4:a.eval x = .slice (some ⟨ad.block,ad.off,none⟩) (g.hd id v).2.1 (g.hd id v).2.2:=by rw [e1,slV,had,← e3]
             refine Good.plain hs hd (v:=.pointer (some ⟨ad.block,ad.off + n.toNat * (Ty.sl u').size,none⟩)) ?_ ?_
             · simp only [execOp,ho,e4,hiv,Sem.run_bind,hrun _ _ _ _ _ h0 h1' (hsz (Ty.sl u') hty),Result.andThen_ok,Sem.run_pure]
             · simp only [Rep]
               exact ⟨hdm,by rw [b1]; omega,ad,had,by rw [Nat.add_zero]⟩
       · cases h
     · rename_i ty id v sz lo hi hty hx
       split at h
       · rename_i ty' l own hv nv hb
         cases hc:(ty'.beq ty&&(Nat.beq v hv&&(Nat.beq sz ty.size&&Nat.ble hi l.len))) with
         | false=>rw [hc] at h; cases h
         | true =>
           rw [hc] at h
           simp only [cond_true,Option.some.injEq,Prod.mk.injEq,Bool.and_eq_true,decide_eq_true_eq] at h
           obtain ⟨⟨h0,h1⟩,rfl⟩:=h
           simp only [Bool.and_eq_true] at hc
           obtain rfl:=Ty.eq_of_beq hc.1
           obtain rfl:=Nat.eq_of_beq_eq_true hc.2.1
           obtain rfl:=Nat.eq_of_beq_eq_true hc.2.2.1
           have hle:=Nat.le_of_ble_eq_true hc.2.2.2
           rw [hx] at hxv
           simp only [Rep] at hxv
           obtain ⟨hdm,l1,l2,e1⟩:=hxv
           obtain ⟨_,_,_,⟨⟨b1,b2,b3,_⟩,b5,_⟩,_⟩:=hbo _ _ hb
           cases had:(g.hd id v).1 with
           | none=>have:=b3 had; omega
           | some ad =>
             have e3:=addr_eta (b5 ad had).1
             have e4:a.eval x = .slice (some ⟨ad.block,ad.off + lo * ty'.size,none⟩) (hi - lo) ((g.hd id v).2.2 - lo):=by
              rw [e1,slV,cutH,if_neg (by omega),had]
              simp only [Option.map_some]
              rw [e3,add_none]
             refine Good.plain hs hd (v:=.pointer (some ⟨ad.block,ad.off + lo * ty'.size + n.toNat * ty'.size,none⟩)) ?_ ?_
             · simp only [execOp,ho,e4,hiv,Sem.run_bind,hrun _ _ _ _ _ h0 h1 (hsz ty' hty),Result.andThen_ok,Sem.run_pure]
             · simp only [Rep]
               exact ⟨hdm,by rw [b1]; omega,ad,had,by rw [Nat.add_zero,Nat.add_mul]; simp only [Value.pointer.injEq,Option.some.injEq,Addr.mk.injEq,and_true,true_and]; omega⟩
       · cases h
     · rename_i ty id v i j hty hx
       split at h
       · rename_i ty' l own hv nv hb
         split at h
         · rename_i u y hy
           cases hc:(u.beq ty&&Nat.beq v nv) with
           | false=>rw [hc] at h; cases h
           | true =>
             rw [hc] at h
             simp only [cond_true,Option.some.injEq,Prod.mk.injEq,Bool.and_eq_true,decide_eq_true_eq] at h
             obtain ⟨⟨h0,h1⟩,rfl⟩:=h
             simp only [Bool.and_eq_true] at hc
             obtain rfl:=Ty.eq_of_beq hc.1
             obtain rfl:=Nat.eq_of_beq_eq_true hc.2
             rw [hx] at hxv
             simp only [Rep] at hxv
             obtain ⟨hdm,hni,e1⟩:=hxv
             obtain ⟨_,_,b0,_,_⟩:=hbo _ _ hb
             obtain ⟨ad0,cap,e2,hl,hnn,hsl⟩:=nestT hbo hb (by omega) hy
             simp only [slV,List.cons.injEq,Value.slice.injEq,and_true] at e2
             obtain ⟨e21,e22,e23⟩:=e2
             cases had:(g.nh id v i j).1 with
             | none=>rw [had] at e21; have:=hnn.1 e21.symm; omega
             | some ad =>
               rw [had] at e21
               obtain ⟨q1,q2⟩:=hsl ad e21.symm
               have e3:=addr_eta (q1 (by omega))
               have h1':n < ((g.nh id v i j).2.1:Int):=by rw [e22]; exact h1
               have e4:a.eval x = .slice (some ⟨ad.block,ad.off,none⟩) (g.nh id v i j).2.1 (g.nh id v i j).2.2:=by rw [e1,slV,had,← e3]
               refine Good.plain hs hd (v:=.pointer (some ⟨ad.block,ad.off + n.toNat * u.size,none⟩)) ?_ ?_
               · simp only [execOp,ho,e4,hiv,Sem.run_bind,hrun _ _ _ _ _ h0 h1' (hsz u hty),Result.andThen_ok,Sem.run_pure]
               · simp only [Rep]
                 exact ⟨hdm,hni,by rw [e22]; omega,ad,had,by rw [Nat.add_zero]⟩
         · cases h
       · cases h
     · cases h
   · cases h
 · -- index
   rename_i t x ix ho
   have hxv:=ev x
   have hiv:=ev ix
   split at h
   · rename_i s k n hu hx hn
     simp only [Option.some.injEq,Prod.mk.injEq,Bool.and_eq_true,decide_eq_true_eq] at h
     obtain ⟨⟨h0,h1⟩,rfl⟩:=h
     rw [hx] at hxv
     rw [hn] at hiv
     simp only [Rep] at hxv hiv
     have hlt:n.toNat < s.size:=by omega
     refine Good.plain hs hd (v:=.int .u8 (bt s n)) ?_ (by simp only [Rep])
     have hget:s[n.toNat]? = some s[n.toNat]:=by simp [hlt]
     simp only [execOp,ho,hxv,hiv,Instr.index,asIntOf,Sem.run_bind,Sem.run_pure,Result.andThen_ok,VE.underlying_run hu,h0,if_true,hget,bt,Option.getD_some]
   · rename_i m e cs k n hu hx hn
     split at h
     · rename_i z hz
       split at h
       · rename_i v hv
         simp only [Option.some.injEq,Prod.mk.injEq,Bool.and_eq_true,decide_eq_true_eq] at h
         obtain ⟨⟨h0,h1⟩,rfl⟩:=h
         rw [hx] at hxv
         rw [hn] at hiv
         simp only [Rep] at hxv hiv
         obtain ⟨vs,e1,h2⟩:=hxv
         obtain ⟨u,h3,h4⟩:=part_run (P:=P) (t:=e) hv h2
         refine Good.plain hs hd (v:=u) ?_ h4
         simp only [execOp,ho,e1,hiv,Instr.index,asIntOf,Sem.run_bind,Sem.run_pure,Result.andThen_ok,VE.underlying_run hu]
         rw [if_pos ⟨h0,h1⟩]
         simp only [Sem.run_bind,sizeOf_run hz,Result.andThen_ok,h3]
       · cases h
     · cases h
   · cases h
 · -- extract
   rename_i x i ho
   split at h
   · rename_i cs hx
     split at h
     · rename_i v hv
       simp only [Option.some.injEq,Prod.mk.injEq,true_and] at h; subst h
       have hxv:=ev x
       rw [hx] at hxv
       simp only [Rep] at hxv
       obtain ⟨vs,e1,h2⟩:=hxv
       obtain ⟨u,h3,h4⟩:=h2.get i v hv
       exact Good.plain hs hd (v:=u) (by simp [execOp,ho,e1,Instr.extract,h3]) h4
     · cases h
   · cases h
 · -- slice
   rename_i t x lo hi ho
   have hxv:=ev x
   have hlo:∀ (d:Nat) (l:Int),boundOf (lo.map (evO μ.env)) d = some l→(∃ k,lo.map a.eval = some (.int k l)) ∨ (lo.map a.eval = none ∧ l = d):=by
    intro d l hl
    cases lo with
    | none=>simp [boundOf] at hl; exact .inr ⟨rfl,hl.symm⟩
    | some q =>
      have hq:=ev q
      simp only [Option.map_some] at hl ⊢
      unfold boundOf at hl
      split at hl
      · rename_i k n e
        simp only [Option.some.injEq] at e
        rw [e] at hq
        simp only [Rep] at hq
        cases hl
        exact .inl ⟨k,by rw [hq]⟩
      · rename_i e; cases e
      · cases hl
   have hhi:∀ (d:Nat) (l:Int),boundOf (hi.map (evO μ.env)) d = some l→(∃ k,hi.map a.eval = some (.int k l)) ∨ (hi.map a.eval = none ∧ l = d):=by
    intro d l hl
    cases hi with
    | none=>simp [boundOf] at hl; exact .inr ⟨rfl,hl.symm⟩
    | some q =>
      have hq:=ev q
      simp only [Option.map_some] at hl ⊢
      unfold boundOf at hl
      split at hl
      · rename_i k n e
        simp only [Option.some.injEq] at e
        rw [e] at hq
        simp only [Rep] at hq
        cases hl
        exact .inl ⟨k,by rw [hq]⟩
      · rename_i e; cases e
      · cases hl
   -- the bounds,told
   have bounds:∀ (isS:Bool) (len cap:Nat) (l hh:Int),boundOf (lo.map (evO μ.env)) ((0:Nat):Int) = some l→boundOf (hi.map (evO μ.env)) (len:Int) = some hh→0≤l→l≤hh→hh≤len→len≤cap →
    (Instr.sliceBounds isS len cap (lo.map a.eval) (hi.map a.eval) none).run P w = .ok (l.toNat,hh.toNat,cap) w:=by
    intro isS len cap l hh h1 h2 q0 q1 q2 q3
    have eh:(hh.toNat:Int) = hh:=Int.toNat_of_nonneg (by omega)
    rcases hlo _ _ h1 with ⟨kl,e1⟩ | ⟨e1,e2⟩ <;> rcases hhi _ _ h2 with ⟨kh,e3⟩ | ⟨e3,e4⟩
    · have r1:=run_sliceBound (P:=P) w kh hh cap (if isS then .sliceAcap else .sliceAlen) (by omega) (by omega)
      have r2:=run_sliceBound (P:=P) w kl l hh.toNat .sliceB (by omega) (by omega)
      simp [Instr.sliceBounds,e1,e3,r1,r2]
    · subst e4
      have r2:=run_sliceBound (P:=P) w kl l len .sliceB (by omega) (by omega)
      simp [Instr.sliceBounds,e1,e3,r2]
    · subst e2
      have r1:=run_sliceBound (P:=P) w kh hh cap (if isS then .sliceAcap else .sliceAlen) (by omega) (by omega)
      simp [Instr.sliceBounds,e1,e3,r1]
    · subst e2 e4
      simp [Instr.sliceBounds,e1,e3]
   split at h
   · rename_i s l hu hx hl
     split at h
     · rename_i hh hhe
       simp only [Option.some.injEq,Prod.mk.injEq,Bool.and_eq_true,decide_eq_true_eq] at h
       obtain ⟨⟨h0,h1,h2⟩,rfl⟩:=h
       rw [hx] at hxv
       simp only [Rep] at hxv
       refine Good.plain hs hd (v:=.string (s.extract l.toNat hh.toNat)) ?_ (by simp only [Rep])
       simp only [execOp,ho,hxv,Instr.sliceAt,Sem.run_bind,VE.underlying_run hu,Result.andThen_ok,Instr.slice]
       simp only [Option.isSome_none,Option.map_none,Bool.false_eq_true,if_false,Sem.run_bind,bounds false s.size s.size l hh hl hhe h0 h1 h2 (Nat.le_refl _),Result.andThen_ok,Sem.run_pure]
     · cases h
   · -- of nothing
     rename_i e l hu hx hl
     split at h
     · rename_i m k hh hm hhe
       simp only [Option.some.injEq,Prod.mk.injEq,Bool.and_eq_true,decide_eq_true_eq] at h
       obtain ⟨⟨rfl,rfl⟩,rfl⟩:=h
       rw [hx] at hxv
       simp only [Rep] at hxv
       have hb:=bounds true 0 0 0 0 hl (by rw [hhe]; rfl) (by omega) (by omega) (by simp) (by omega)
       refine Good.plain hs hd (v:=.slice none 0 0) ?_ (by simp only [Rep])
       simp only [execOp,ho,hxv,Instr.sliceAt,Sem.run_bind,VE.underlying_run hu,Result.andThen_ok,Instr.slice]
       simp only [Option.map_none,hb,Result.andThen_ok,sizeOf_run hm,Sem.run_pure]
       simp
     · cases h
   · -- of a row
     rename_i e l hu hl hnil
     have hszt:∀ ty,Γ e = some ty→szOf P e = some ty.size:=fun ty hty=>by
      obtain ⟨i,z,hi',hsz,_⟩:=hΓ e ty hty
      simp [szOf,hi',hsz]
     have cutrun:∀ {hdx:Hdr} {sz:Nat} {hh:Int},a.eval x = slV hdx→szOf P e = some sz→hdx.2.1≤hdx.2.2→boundOf (hi.map (evO μ.env)) (hdx.2.1:Int) = some hh→0≤l→l≤hh→hh≤hdx.2.1 →
      (execOp a.eval o).run P w = .ok (.value (slV (cutH sz l.toNat hh.toNat hdx))) w:=by
      intro hdx sz hh e1 hs1 hcap hhe h0 h1 h2
      simp only [execOp,ho,e1,slV,Instr.sliceAt,Sem.run_bind,VE.underlying_run hu,Result.andThen_ok,Instr.slice]
      simp only [Option.map_none,bounds true hdx.2.1 hdx.2.2 l hh hl hhe h0 h1 h2 hcap,Result.andThen_ok,sizeOf_run hs1,Sem.run_pure,cutH]
     unfold cutD at h
     split at h
     · rename_i ty' ty x' hty hx
       split at h
       · rename_i hh hhe
         split at h
         · rename_i hbq
           simp only [Option.some.injEq,Prod.mk.injEq,Bool.and_eq_true,decide_eq_true_eq] at h
           obtain ⟨⟨h0,h1,h2⟩,rfl⟩:=h
           rw [hx] at hxv
           simp only [Rep] at hxv
           obtain ⟨hdx,e1,e2⟩:=hdr_of hxv
           have hxv':=hxv
           rw [e1] at hxv'
           have hcap:hdx.2.1≤hdx.2.2:=by
            obtain ⟨ad,cap,e3,hl,_⟩:=hxv'
            simp only [slV,List.cons.injEq,Value.slice.injEq,and_true] at e3
            omega
           exact Good.plain hs hd (cutrun e1 (show szOf P e = some ty.size by rw [Ty.eq_of_beq hbq]; exact hszt _ hty) hcap (by rw [e2]; exact hhe) h0 h1 (by rw [e2]; exact h2)) (by simp only [Rep]; exact hxv'.cut (by omega) (by omega))
         · cases h
       · cases h
     · rename_i ty' id v hty hx
       split at h
       · rename_i ty x' own hv nv hb
         split at h
         · rename_i hh hhe
           split at h
           · rename_i hbq
             simp only [Option.some.injEq,Prod.mk.injEq,Bool.and_eq_true,decide_eq_true_eq] at h hbq
             obtain ⟨⟨h0,h1,h2⟩,rfl⟩:=h
             obtain rfl:=Nat.eq_of_beq_eq_true hbq.2
             rw [hx] at hxv
             simp only [Rep] at hxv
             obtain ⟨hdm,e1⟩:=hxv
             obtain ⟨_,_,_,⟨⟨b1,b2,_⟩,_⟩,_⟩:=hbo _ _ hb
             exact Good.plain hs hd (cutrun e1 (show szOf P e = some ty.size by rw [Ty.eq_of_beq hbq.1]; exact hszt _ hty) (by rw [b1]; exact b2) (by rw [b1]; exact hhe) h0 h1 (by rw [b1]; exact h2)) (by simp only [Rep]; exact ⟨hdm,by omega,by rw [b1]; omega,trivial⟩)
           · cases h
         · cases h
       · cases h
     · rename_i ty' id v i j hty hx
       split at h
       · rename_i t' x' own hv nv hb
         split at h
         · rename_i u y hy
           split at h
           · rename_i hh hhe
             split at h
             · rename_i hbq
               simp only [Option.some.injEq,Prod.mk.injEq,Bool.and_eq_true,decide_eq_true_eq] at h hbq
               obtain ⟨⟨h0,h1,h2⟩,rfl⟩:=h
               obtain rfl:=Nat.eq_of_beq_eq_true hbq.2
               rw [hx] at hxv
               simp only [Rep] at hxv
               obtain ⟨hdm,hni,e1⟩:=hxv
               obtain ⟨_,_,b0,_,_⟩:=hbo _ _ hb
               obtain ⟨_,hn⟩:=mn_rep (u:=0) hbo hb (by omega) hy
               obtain ⟨b1,b2,_⟩:=hn.2.1
               exact Good.plain hs hd (cutrun e1 (show szOf P e = some u.size by rw [Ty.eq_of_beq hbq.1]; exact hszt _ hty) (by rw [b1]; exact b2) (by rw [b1]; exact hhe) h0 h1 (by rw [b1]; exact h2)) (by simp only [Rep]; exact ⟨hdm,hni,by omega,by rw [b1]; omega,trivial⟩)
             · cases h
           · cases h
         · cases h
       · cases h
     · cases h
   · cases h
 · -- range
   rename_i t x ho
   split at h
   · rename_i dd s hdst hu hx
     split at h
     · rename_i hb
       simp only [Option.some.injEq,Prod.mk.injEq,true_and] at h; subst h
       have hb:σ.box dd = none:=by rw [← ho'.new dd (by simp)]; exact hb
       have hxr:=ev x
       rw [hx] at hxr
       simp only [Rep] at hxr
       refine ⟨.pointer (some ⟨w.heap.size,0,none⟩),w.alloc (.stringIter s 0),ghBox g w.heap.size dd,.inl ?_,?_⟩
       · simp [execOp,ho,Instr.range,hxr,VE.underlying_run hu]
       · rw [hdst] at hd ⊢
         exact hs.newBox (ob:=.stringIter s 0) (hob:=fun _=>by simp only [World.frozen?]; rw [show (w.alloc (.stringIter s 0)).heap[w.heap.size]? = some (.stringIter s 0) by show (w.heap.push _)[w.heap.size]? = _; rw [Array.getElem?_push,if_pos rfl]]) (c:=.iter s 0) (p:=.bx dd 0) (v:=.pointer (some ⟨w.heap.size,0,none⟩)) hd (dstOk_pb hd) hb rfl
          ⟨.inl rfl,by rw [ghBox_bx],fun o=>by rw [ghBox_bx]; exact ghBox_new _ _ _ _,by rw [ghBox_bx]; show (w.heap.push _)[w.heap.size]? = _; rw [Array.getElem?_push,if_pos rfl]⟩
          (by simp only [Rep]; exact ⟨.inl rfl,by simp only [ghBox_bx,Nat.add_zero]⟩)
     · cases h
   · cases h
 · -- next
   rename_i it ho
   split at h
   · rename_i id hit
     split at h
     · rename_i s pos hb
       have hi:=ev it
       rw [hit] at hi
       simp only [Rep] at hi
       obtain ⟨b1,b2,b3,b4⟩:=hbo _ _ hb
       rw [b2] at hi
       simp only [Nat.add_zero] at hi
       cases hlt:Nat.blt pos s.size with
       | true =>
         rw [hlt] at h
         simp only [cond_true,Option.some.injEq,Prod.mk.injEq,true_and] at h; subst h
         have hlt':pos < s.size:=by simpa [Nat.blt_eq] using hlt
         refine ⟨.tuple #[.bool true,goInt pos,.int .i32 (Utf8.decode s pos).1],{ w with heap:=w.heap.setIfInBounds (g.bx id).1 (.stringIter s (pos + (Utf8.decode s pos).2)) },g,.inl ?_,?_⟩
         · simp [execOp,ho,Instr.next,hi.2,b4,hlt',getObj,setObj,Sem.run,Result.andThen]
         · exact hs.setIter (ho'.box _ _ hb) (pos + (Utf8.decode s pos).2) hd (fun g w=>by
            simp only [Rep,Reps]
            exact ⟨_,rfl,_,_,rfl,rfl,_,_,rfl,rfl,_,_,rfl,rfl,rfl⟩)
       | false =>
         rw [hlt] at h
         simp only [cond_false,Option.some.injEq,Prod.mk.injEq,true_and] at h; subst h
         have hlt':¬ pos < s.size:=by
          intro q
          have:Nat.blt pos s.size = true:=by simpa [Nat.blt_eq] using q
          rw [this] at hlt; cases hlt
         refine Good.plain hs hd (v:=.tuple #[.bool false]) ?_ (by simp only [Rep,Reps]; exact ⟨_,rfl,_,_,rfl,rfl,rfl⟩)
         simp [execOp,ho,Instr.next,hi.2,b4,hlt',getObj,Sem.run,Result.andThen]
     · cases h
   · cases h
 · -- len
   rename_i args argTypes ho
   split at h
   · rename_i x t hargs htys
     split at h
     · rename_i n hn
       simp only [Option.some.injEq,Prod.mk.injEq,true_and] at h; subst h
       have ha:args = #[x]:=by apply Array.ext'; simpa using hargs
       have hta:argTypes = #[t]:=by apply Array.ext'; simpa using htys
       subst ha hta
       have hxv:=rv x
       refine Good.plain hs hd (v:=.int .i64 n) ?_ (by simp only [Rep])
       have key:(Builtin.len_ #[t] o.type #[a.eval x]).run P w = .ok (.int .i64 n) w:=by
        unfold lenOf at hn
        split at hn
        · rename_i e ty l hu hx
          cases hn
          rw [hx] at hxv; simp only [Rep] at hxv
          obtain ⟨hdx,e1,e2⟩:=hdr_of hxv
          simp [Builtin.len_,e1,slV,VE.underlying_run hu,goInt,e2]
        · rename_i e hu hx
          cases hn
          rw [hx] at hxv; simp only [Rep] at hxv
          simp [Builtin.len_,hxv,VE.underlying_run hu,goInt]
        · rename_i s hu hx
          cases hn
          rw [hx] at hxv; simp only [Rep] at hxv
          simp [Builtin.len_,hxv,VE.underlying_run hu,goInt]
        · cases hn
       simp only [execOp,ho,resolve,invoke,builtin,Sem.run_bind,Sem.run_pure,Result.andThen_ok]
       simp [key]
     · cases h
   · cases h
 · -- cap
   rename_i args argTypes ho
   split at h
   · rename_i x t hargs htys
     split at h
     · rename_i e hu hx
       simp only [Option.some.injEq,Prod.mk.injEq,true_and] at h; subst h
       have ha:args = #[x]:=by apply Array.ext'; simpa using hargs
       have hta:argTypes = #[t]:=by apply Array.ext'; simpa using htys
       subst ha hta
       have hxv:=ev x
       rw [hx] at hxv; simp only [Rep] at hxv
       refine Good.plain hs hd (v:=.int .i64 0) ?_ (by simp only [Rep])
       have key:(Builtin.cap_ #[t] o.type #[a.eval x]).run P w = .ok (.int .i64 0) w:=by
        simp [Builtin.cap_,hxv,VE.underlying_run hu,goInt]
       simp only [execOp,ho,resolve,invoke,builtin,Sem.run_bind,Sem.run_pure,Result.andThen_ok]
       simp [key]
     · cases h
   · cases h
 · -- append
   rename_i args argTypes ho
   split at h
   · rename_i dd x y t u hdst hargs htys
     have hel:∀ {t e},elemOf P t = some e→P.underlying t = some (.slice e):=fun {t e} he=>by
      unfold VE.elemOf at he
      split at he
      · cases he; assumption
      · cases he
     have ha:args = #[x,y]:=by apply Array.ext'; simpa using hargs
     have hta:argTypes = #[t,u]:=by apply Array.ext'; simpa using htys
     subst ha hta
     rw [hdst] at hd
     split at h
     · rename_i e e' he he'
       split at h
       · rename_i ty by_ hty hby
         split at h
         · rename_i hh
           obtain ⟨hee,hb4,_⟩:=hh
           obtain rfl:e = e':=Nat.eq_of_beq_eq_true hee
           obtain ⟨i,z,hi,hsz,hz,hzz⟩:=hΓ e ty hty
           have hbyi:i.bytes = by_:=by simpa [VE.bytesOf,hi] using hby
           obtain ⟨r,w',g',k1,k2⟩:=appH_sound (P:=P) (ty0:=o.type) hs ho' (hel he) (hel he') hi hz hsz hzz (by rw [hbyi]; exact hb4) hd (ev x) (ev y) h
           refine ⟨r,w',g',.inl ?_,by rw [hdst]; exact k2⟩
           simp only [execOp,ho,resolve,invoke,builtin,Sem.run_bind,Sem.run_pure,Result.andThen_ok]
           simp [k1]
         · cases h
       · cases h
     · -- room
       rename_i e he he'
       split at h
       · rename_i ty by_ kn n hty hby hiu hx hy
         split at h
         · rename_i hv nv hnx
           split at h
           · rename_i hh
             obtain ⟨hb4,hpos⟩:=hh
             simp only [Option.some.injEq,Prod.mk.injEq,Bool.and_eq_true,decide_eq_true_eq] at h
             obtain ⟨⟨hn0,hnm⟩,rfl⟩:=h
             obtain ⟨i,z,hi,hsz,hz,hzz⟩:=hΓ e ty hty
             have hbyi:i.bytes = by_:=by simpa [VE.bytesOf,hi] using hby
             obtain ⟨ku,hu2⟩:∃ ku,P.underlying u = some (.int ku):=by
              unfold VE.intKindOf at hiu
              split at hiu
              · exact ⟨_,by assumption⟩
              · cases hiu
             have hxv:=ev x
             have hyv:=ev y
             rw [hx] at hxv; rw [hy] at hyv
             simp only [Rep] at hxv hyv
             obtain ⟨m,rfl⟩:∃ m:Nat,n = m:=⟨n.toNat,by omega⟩
             have hzl:z.cells.size = ty.size:=by
              have:=(zeroV_rep g.col w ty).length
              rw [← hzz] at this
              simpa using this
             have hm1:m≤2 ^ 32:=by unfold most at hnm; omega
             have hm2:m * i.bytes≤281474976710656:=by
              have:=Nat.mul_le_mul hm1 (by rw [hbyi]; exact hb4:i.bytes≤4096)
              omega
             have hrun:=Lib.run_append_nil_zeros (P:=P) w t u o.type e i z kn ku (hel he) hu2 hi hz m (by omega) (by omega) (by omega) hm2
             have hcapge:m≤grownCap w m 0 e:=by
              unfold grownCap; simp only [Question.cut]; omega
             generalize grownCap w m 0 e = cap at hrun hcapge
             have hsd:w.drew.heap.size = w.heap.size:=rfl
             rw [hdst]
             obtain ⟨g',k⟩:=hs.newRow hd (by rw [nxt_of ho' (by simp)]; exact hnx) (own':=own0 ty) (zeros_src (c:=g.col) (w:=w) hzz m (fun _ _=>none)) rfl (tk:=[]) (fun r hr=>by cases hr) (by simp) (box:=μ.box) (fun r hr=>by cases hr) (fun _ _ q=>absurd rfl q)
              (w':=w.drew.alloc (.cells (Builtin.zeroCells z.cells m ++ Builtin.zeroCells z.cells (cap - m)) e)) (cap:=cap) (rest:=(Builtin.zeroCells z.cells (cap - m)).toList) hcapge (by
               rw [List.length_append,zeroCells_len,hzl]; simp only [Array.length_toList,Array.size_map,Array.size_range]; rw [← Nat.add_mul]; congr 1; omega) (fun o' v hv'=>by
               rw [← hsd,World.cell?_alloc_new]
               rw [← Array.getElem?_toList,Array.toList_append]
               exact hv') (fun o'=>by rw [← hsd,World.frozen?_alloc_new]) (fun b hb'=>RowKit.Below.heap_alloc w.drew _ b hb') ⟨rfl,rfl,rfl,by rw [← hsd]; simp⟩
             refine ⟨.slice (some ⟨w.heap.size,0,none⟩) m cap,_,g',.inl ?_,by rw [hdst]; exact k⟩
             simp only [execOp,ho,resolve,invoke,builtin,Sem.run_bind,Sem.run_pure,Result.andThen_ok]
             simp only [List.map_toArray,List.map_cons,List.map_nil,hxv,hyv]
             rw [hrun]; rfl
           · cases h
         · cases h
       · cases h
     · cases h
   · cases h
 · -- copy
   rename_i args argTypes ho
   split at h
   · rename_i x y t u hargs htys
     have hel:∀ {t e},elemOf P t = some e→P.underlying t = some (.slice e):=fun {t e} he=>by
      unfold VE.elemOf at he
      split at he
      · cases he; assumption
      · cases he
     have ha:args = #[x,y]:=by apply Array.ext'; simpa using hargs
     have hta:argTypes = #[t,u]:=by apply Array.ext'; simpa using htys
     subst ha hta
     split at h
     · rename_i e e' he he'
       split at h
       · rename_i ty hty
         split at h
         · split at h
           · rename_i dl hdl
             simp only [Option.some.injEq,Prod.mk.injEq,true_and] at h; subst h
             obtain ⟨i,z,hi,hsz,hz,hzz⟩:=hΓ e ty hty
             obtain ⟨r,w',k1,k2⟩:=copyD_run (P:=P) (u:=u) (ty0:=o.type) hs hdl ho' (ev x) (ev y) (hel he) hi hsz hd
             refine ⟨r,w',g,.inl ?_,k2⟩
             simp only [execOp,ho,resolve,invoke,builtin,Sem.run_bind,Sem.run_pure,Result.andThen_ok]
             simp [k1]
           · cases h
         · cases h
       · cases h
     · cases h
   · cases h
 · -- max
   rename_i args argTypes ho
   split at h
   · rename_i k m k' n hargs
     split at h
     · rename_i e; subst e
       simp only [Option.some.injEq,Prod.mk.injEq,true_and] at h; subst h
       obtain ⟨x,y,ha,hx,hy⟩:∃ x y,args = #[x,y] ∧ evO μ.env x = .int k m ∧ evO μ.env y = .int k n:=by
        cases hl:args.toList with
        | nil=>rw [hl] at hargs; simp at hargs
        | cons x r =>
          cases r with
          | nil=>rw [hl] at hargs; simp at hargs
          | cons y r =>
            rw [hl] at hargs
            simp only [List.map_cons,List.cons.injEq,List.map_eq_nil_iff] at hargs
            obtain ⟨h1,h2,h3⟩:=hargs
            subst h3
            exact ⟨x,y,by apply Array.ext'; simpa using hl,h1,h2⟩
       subst ha
       have hxv:=ev x
       have hyv:=ev y
       rw [hx] at hxv
       rw [hy] at hyv
       simp only [Rep] at hxv hyv
       refine Good.plain hs hd (v:=.int k (if n > m then n else m)) ?_ (by simp only [Rep])
       simp only [execOp,ho,resolve,invoke,builtin,Sem.run_bind,Sem.run_pure,Result.andThen_ok]
       simp [hxv,hyv,run_max_int2]
     · cases h
   · cases h
 · -- min
   rename_i args argTypes ho
   split at h
   · rename_i k m k' n hargs
     split at h
     · rename_i e; subst e
       simp only [Option.some.injEq,Prod.mk.injEq,true_and] at h; subst h
       obtain ⟨x,y,ha,hx,hy⟩:∃ x y,args = #[x,y] ∧ evO μ.env x = .int k m ∧ evO μ.env y = .int k n:=by
        cases hl:args.toList with
        | nil=>rw [hl] at hargs; simp at hargs
        | cons x r =>
          cases r with
          | nil=>rw [hl] at hargs; simp at hargs
          | cons y r =>
            rw [hl] at hargs
            simp only [List.map_cons,List.cons.injEq,List.map_eq_nil_iff] at hargs
            obtain ⟨h1,h2,h3⟩:=hargs
            subst h3
            exact ⟨x,y,by apply Array.ext'; simpa using hl,h1,h2⟩
       subst ha
       have hxv:=ev x
       have hyv:=ev y
       rw [hx] at hxv
       rw [hy] at hyv
       simp only [Rep] at hxv hyv
       refine Good.plain hs hd (v:=.int k (if n < m then n else m)) ?_ (by simp only [Rep])
       simp only [execOp,ho,resolve,invoke,builtin,Sem.run_bind,Sem.run_pure,Result.andThen_ok]
       simp [hxv,hyv,run_min_int2]
     · cases h
   · cases h
 · cases h
end
end Go.VE
