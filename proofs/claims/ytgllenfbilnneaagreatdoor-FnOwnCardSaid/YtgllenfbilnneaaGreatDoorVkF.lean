import Derived.Test.YtgllenfbilnneaaGreatDoorVkE
/- Each operation of the evaluator is what the machine does: reading,writing. -/
namespace Go.VE
open Go.RowKit (Below)
def Runs (P:Program) (o:Oper) (a:Act) (w:World) (v:Value) (w':World):Prop :=
 (execOp a.eval o).run P w = .ok (.value v) w' ∨ ((execOp a.eval o).run P w = .ok .skip w' ∧ v = undef)
theorem Runs.wp {P:Program} {o:Oper} {a:Act} {w w':World} {v:Value} (h:Runs P o a w v w') {next:Act→World→Prop} {Q:Exit→Act→World→Prop} (hn:next (a.put o.dst v) w'):o.wp P a w next Q:=by
 unfold Oper.wp
 rcases h with h | ⟨h,rfl⟩
 · rw [h]; exact hn
 · rw [h]; exact hn
def Ty.zeroV:Ty→List Value
 | .int k=>[.int k 0]
 | .bool=>[.bool false]
 | .str=>[.string ByteArray.empty]
 | .unit=>[]
 | .pair a b=>a.zeroV ++ b.zeroV
 | .sl _=>[.slice none 0 0]
def sM (P:Program) (Γ:TypeId→Option Ty):Prop:=∀ e ty,Γ e = some ty→∃ i z,P.info? e = some i ∧ i.size = ty.size ∧ i.zero = some z ∧ z.cells.toList = ty.zeroV
theorem gy (c:Nat→Nat→Col) (w:World):∀ (t:Ty),bC c w t t.zero t.zeroV
 | .int _=>rfl
 | .bool=>rfl
 | .str=>rfl
 | .unit=>rfl
 | .pair a b=>⟨_,_,rfl,gy c w a,gy c w b⟩
 | .sl t=>uz t
theorem nO {P:Program} {t:TypeId} {b:Bool} (h:isAgg P t = some b) (w:World):(Go.isAgg t).run P w = .ok b w:=by
 unfold isAgg at h
 unfold Go.isAgg
 simp only [Sem.run_bind,underlying,run_program,Result.andThen_ok]
 cases hu:P.underlying t with
 | none=>rw [hu] at h; cases h
 | some d =>
   rw [hu] at h
   cases d <;> simp at h <;> subst h <;> rfl
theorem eX {P:Program} {t:TypeId} {n:Nat} (h:jR P t = some n) (w:World):(sizeOf t).run P w = .ok n w:=by
 unfold jR at h
 simp only [sizeOf,typeInfo,Sem.run_bind,run_program,Result.andThen_ok]
 cases hi:P.info? t with
 | none=>rw [hi] at h; cases h
 | some i=>rw [hi] at h; simp only [Option.map_some,Option.some.injEq] at h; subst h; rfl
theorem bf {P:Program} {t:TypeId} {d:TypeDesc} (h:P.underlying t = some d) (w:World):(underlying t).run P w = .ok d w:=by
 simp only [underlying,Sem.run_bind,run_program,Result.andThen_ok,h,Sem.run_pure]
theorem kJ {P:Program} {g:Gh} {w:World} {t:TypeId} {cs:List PV} {us:List Value} {p:PV} (b o:Nat) (h:Rs P t cs = some p) (hr:ak g w cs us)
 (hc:∀ j v,us[j]? = some v→w.cell? ⟨b,o + j,none⟩ = some v):∃ v,(loadVar t ⟨b,o,none⟩).run P w = .ok v w ∧ aF g w p v:=by
 unfold Rs at h
 split at h
 · rename_i n h1 h2
   split at h
   · rename_i hn
     cases h
     refine ⟨.agg (us.take n).toArray,?_,?_⟩
     · simp only [loadVar,Sem.run_bind,nO h1,Result.andThen_ok,if_true,eX h2]
       have hl:(us.take n).length = n:=by rw [List.length_take,hr.length]; omega
       have:=run_loadCells_list (P:=P) (w:=w) ⟨b,o,none⟩ (us.take n) (fun j v hj=>by
        rw [gq]
        refine hc j v ?_
        rw [List.getElem?_take] at hj
        split at hj
        · exact hj
        · cases hj)
       rw [hl] at this
       rw [this]; rfl
     · simp only [aF]
       exact ⟨us.take n,rfl,hr.take n⟩
   · cases h
 · rename_i n h1 h2
   split at h
   · rename_i c r
     cases h
     simp only [ak] at hr
     obtain ⟨u,us',rfl,h3,_⟩:=hr
     refine ⟨u,?_,h3⟩
     have h4:=hc 0 u rfl
     simp only [loadVar,Sem.run_bind,nO h1,Result.andThen_ok]
     rw [if_neg (by simp),run_load]
     rw [show o + 0 = o from rfl] at h4
     rw [h4]
   · cases h
 · cases h
section
variable {P:Program} {N:Fr} {c0:Nat→Nat→Col} {w0:World} {σ:AS} {g:Gh} {a:Act} {w:World}
theorem FD {R:iI} {own:Bool} {id u i:Nat} (hd:g.dn id u) (hi:i < g.ni id u):∀ {t:Ty} {x:t.T} {vs:List Value} {j:Nat},bD g.col w R (g.nh id u) own i t x vs j→ak g w (Ro id u i t x j) vs:=by
 intro t
 induction t with
 | int k=>rintro x vs j rfl; simp only [Ro,ak,aF]; exact ⟨_,_,rfl,rfl,rfl⟩
 | bool=>rintro x vs j rfl; simp only [Ro,ak,aF]; exact ⟨_,_,rfl,rfl,rfl⟩
 | str=>rintro x vs j rfl; simp only [Ro,ak,aF]; exact ⟨_,_,rfl,rfl,rfl⟩
 | unit=>rintro x vs j rfl; simp only [Ro,ak]
 | pair a b iha ihb =>
   rintro x vs j ⟨v1,v2,rfl,h1,h2⟩
   exact ak.append (iha h1) (ihb h2)
 | sl t ih =>
   rintro x vs j ⟨rfl,_⟩
   simp only [Ro,ak,aF]
   exact ⟨_,_,rfl,⟨hd,hi,rfl⟩,rfl⟩
theorem Nz (hb:bK g w σ.box) {id i j hv nv:Nat} {t ut:Ty} {x:L t.T} {own:Option (Nat→Bool)} {y:L ut.T} (hbx:σ.box id = some (.row t x own hv nv)) (hi:i < x.len) (hy:sI t (x.get i) j = some ⟨ut,y⟩):bC (Nw g).col w (.sl ut) y [gP (g.nh id nv i j)]:=by
 obtain ⟨v,h2⟩:=qg (u:=0) hb hbx hi hy
 have e:=h2.1
 obtain ⟨_,_,_,_,hp⟩:=hb _ _ hbx
 have:=bD.toT (Ah g w).toStays (fun b o l e=>Ny (hp b o (by rw [e]; simp)).1) h2
 rwa [e] at this
theorem NA (hb:bK g w σ.box) {t:TypeId} {q p:PV} {u:Value} (h:M9 P σ.box t q = some p) (hq:aF g w q u) :
 ∃ v,(Instr.loadAt t u).run P w = .ok v w ∧ aF g w p v:=by
 cases q <;> simp only [M9] at h <;> try cases h
 · rename_i id off
   simp only [aF] at hq
   obtain ⟨h1,rfl⟩:=hq
   split at h
   · rename_i cs hbx
     obtain ⟨_,us,h2,h3⟩:=hb _ _ hbx
     have:=kJ (P:=P) (g:=g) (w:=w) (g.bx id).1 ((g.bx id).2 + off) h (h2.drop off) (fun j v hj=>by
      rw [List.getElem?_drop] at hj
      have:=(h3 _ v hj).2.1
      rwa [← Nat.add_assoc] at this)
     obtain ⟨v,h4,h5⟩:=this
     exact ⟨v,by simp only [Instr.loadAt,Instr.sureAddr,Sem.run_bind,Sem.run_pure,Result.andThen_ok]; exact h4,h5⟩
   · cases h
 · rename_i id u' sz i off
   simp only [aF] at hq
   obtain ⟨h1,hi,ad,had,rfl⟩:=hq
   split at h
   · rename_i ty x own hv nv hbx
     cases hq:(Nat.beq u' hv&&Nat.beq sz ty.size) with
     | false=>rw [hq] at h; cases h
     | true =>
       rw [hq] at h
       simp only [cond_true] at h
       simp only [Bool.and_eq_true] at hq
       obtain rfl:=Nat.eq_of_beq_eq_true hq.1
       obtain rfl:=Nat.eq_of_beq_eq_true hq.2
       obtain ⟨_,hn,hni,⟨⟨hl,_⟩,_,he⟩,_⟩:=hb _ _ hbx
       obtain ⟨us,_,h5,h6⟩:=he i (by omega)
       have:=kJ (P:=P) (g:=g) (w:=w) ad.block (ad.off + i * ty.size + off) h ((FD hn (by omega) h5).drop off) (fun j v hj=>by
        rw [List.getElem?_drop] at hj
        have:=h6 ad had _ v hj
        rwa [← Nat.add_assoc] at this)
       obtain ⟨v,h7,h8⟩:=this
       exact ⟨v,by simp only [Instr.loadAt,Instr.sureAddr,Sem.run_bind,Sem.run_pure,Result.andThen_ok]; exact h7,h8⟩
   · cases h
 · rename_i id u' i j sz k off
   simp only [aF] at hq
   obtain ⟨h1,hi,hk,ad,had,rfl⟩:=hq
   split at h
   · rename_i ty x own hv nv hbx
     cases hq:Nat.beq u' nv with
     | false=>rw [hq] at h; cases h
     | true =>
       rw [hq] at h
       simp only [cond_true] at h
       obtain rfl:=Nat.eq_of_beq_eq_true hq
       split at h
       · rename_i ut y hy
         cases hq2:(Nat.beq sz ut.size&&ut.flat) with
         | false=>rw [hq2] at h; cases h
         | true =>
           rw [hq2] at h
           simp only [cond_true] at h
           simp only [Bool.and_eq_true] at hq2
           obtain rfl:=Nat.eq_of_beq_eq_true hq2.1
           obtain ⟨_,hn,hni,_,_⟩:=hb _ _ hbx
           obtain ⟨a',cap',e,q1,_,q4⟩:=Nz hb hbx (by omega) hy
           simp only [gP,List.cons.injEq,Value.slice.injEq,and_true] at e
           obtain ⟨rfl,e2,rfl⟩:=e
           obtain ⟨_,q5⟩:=q4 ad had
           obtain ⟨us,q6,q7⟩:=q5 k (by omega)
           have:=kJ (P:=P) (g:=g) (w:=w) ad.block (ad.off + k * ut.size + off) h ((gK (bC.flat (c':=g.col) (w':=w) hq2.2 q6)).drop off) (fun j v hj=>by
            rw [List.getElem?_drop] at hj
            have:=(q7 _ v hj).2
            rwa [← Nat.add_assoc] at this)
           obtain ⟨v,h7,h8⟩:=this
           exact ⟨v,by simp only [Instr.loadAt,Instr.sureAddr,Sem.run_bind,Sem.run_pure,Result.andThen_ok]; exact h7,h8⟩
       · cases h
   · cases h
 · rename_i cs
   simp only [aF] at hq
   obtain ⟨b,o,us,rfl,h2,h3⟩:=hq
   obtain ⟨v,h4,h5⟩:=kJ (P:=P) (g:=g) (w:=w) b o h h2 (fun j v hj=>(h3 j v hj).2)
   exact ⟨v,by simp only [Instr.loadAt,Instr.sureAddr,Sem.run_bind,Sem.run_pure,Result.andThen_ok]; exact h4,h5⟩
theorem Cx {p:PV} {v:Value} (h:aF g w p v) (hs:p.solid = true):v.oneCell' = true ∧ v.cells = #[v]:=by
 cases p <;> simp only [PV.solid] at hs <;> try cases hs
 all_goals
  simp only [aF] at h
  first
   | (subst h; exact ⟨rfl,rfl⟩)
   | (obtain ⟨vs,rfl,_⟩:=h; exact ⟨rfl,rfl⟩)
   | (obtain ⟨_,rfl⟩:=h; exact ⟨rfl,rfl⟩)
   | (obtain ⟨_,_,rfl⟩:=h; exact ⟨rfl,rfl⟩)
   | (obtain ⟨_,_,_,rfl⟩:=h; exact ⟨rfl,rfl⟩)
   | (obtain ⟨_,_,_,_,rfl⟩:=h; exact ⟨rfl,rfl⟩)
   | (obtain ⟨_,_,_,_,_,rfl⟩:=h; exact ⟨rfl,rfl⟩)
   | (obtain ⟨b,o,us,rfl,_⟩:=h; exact ⟨rfl,rfl⟩)
   | (obtain ⟨a,cap,e,_⟩:=h; cases e; exact ⟨rfl,rfl⟩)
end
theorem FE {g:Gh} {w:World}:∀ {ps:List PV} {us:List Value},ak g w ps us→ps.all PV.solid = true→∀ v ∈ us,v.oneCell' = true
 | [],us,h,_=>by simp only [ak] at h; subst h; simp
 | p::ps,us,h,hs=>by
   simp only [ak] at h
   obtain ⟨u,r,rfl,h2,h3⟩:=h
   simp only [List.all_cons,Bool.and_eq_true] at hs
   intro v hv
   rcases List.mem_cons.mp hv with rfl | hv
   · exact (Cx h2 hs.1).1
   · exact FE h3 hs.2 v hv
theorem oQ {g:Gh} {w:World} {p:PV} {v:Value} (h:aF g w p v) (hs:p.dY.all PV.solid = true):ak g w p.dY v.cells.toList ∧ ∀ u ∈ v.cells.toList,u.oneCell' = true:=by
 cases p with
 | agg cs =>
   simp only [aF] at h
   obtain ⟨vs,rfl,h2⟩:=h
   exact ⟨h2,FE (us:=vs) h2 hs⟩
 | _ =>
   simp only [PV.dY,List.all_cons,List.all_nil,Bool.and_true] at hs
   obtain ⟨h1,h2⟩:=Cx h hs
   rw [h2]
   exact ⟨by simp only [PV.dY,ak]; exact ⟨v,[],rfl,h,rfl⟩,by simpa using h1⟩
theorem mI {P:Program} {w:World} {t:TypeId} {v:Value} {b o:Nat} (hz:jR P t = some v.cells.toList.length) (h1:∀ u ∈ v.cells.toList,u.oneCell' = true)
 (hc:∀ j,j < v.cells.toList.length→(w.cell? ⟨b,o + j,none⟩).isSome = true) (hf:∀ j,j < v.cells.toList.length→w.frozen? ⟨b,o + j,none⟩ = false) :
 (Instr.storeAt t (.pointer (some ⟨b,o,none⟩)) v).run P w = .ok () (w.setCells b o v.cells.toList):=by
 simp only [Instr.storeAt,Instr.sureAddr,Sem.run_bind,Sem.run_pure,Result.andThen_ok,storeVar,eX hz]
 rw [if_neg (by simp)]
 exact run_storeCells_cells (P:=P) b o v.cells.toList 0 w hc hf h1
end Go.VE
