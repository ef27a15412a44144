import Derived.Test.YtgllenfbilnneaaGreatDoorVkM
import Derived.Laws.MakeOwn
import Derived.Lib.AppendZeros
/- Each operation of the evaluator is what the machine does: new rows. -/
namespace Go.VE
theorem LW {c:Nat→Nat→Col} {w:World} {R:iI} {nh:Nat→Nat→bT} (hn:nh = fun _ _=>(none,0,0)) {own:Bool} {i:Nat}:∀ {t:Ty} {j:Nat},(own = true→t.yj = true)→bD c w R nh own i t t.zero t.zeroV j:=by
 intro t
 induction t with
 | int k=>exact fun _=>rfl
 | bool=>exact fun _=>rfl
 | str=>exact fun _=>rfl
 | unit=>exact fun _=>rfl
 | pair a b iha ihb =>
   intro j h
   simp only [Ty.yj,Bool.and_eq_true] at h
   exact ⟨_,_,rfl,iha fun o=>(h o).1,ihb fun o=>(h o).2⟩
 | sl t ih =>
   intro j h
   subst hn
   exact ⟨rfl,⟨rfl,Nat.le_refl _,fun _=>rfl,by simp [Ty.zero]⟩,fun o=>⟨h o,fun ad e=>(by cases e),fun k hk=>absurd hk (Nat.not_lt_zero k)⟩,fun _=>uz t⟩
section
variable {P:Program} {N:Fr} {c0:Nat→Nat→Col} {w0:World} {σ μ:AS} {g:Gh} {a:Act} {w w':World}
theorem bO.newRow (hs:bO N c0 w0 σ g a w) {d:Nat} (hd:dZ N (some d) = true) {hv nv:Nat} (hn:sJ σ.box d = some (hv,nv)) {ty:Ty} {b:L ty.T} {own':Option (Nat→Bool)} {R2:iI} {Iu:Nat→Nat→bT} {news rest:List Value} (hs2:SrcE g.col w ty b (ownB own') R2 Iu news) (hbn:b.nil = false)
 {tk:List Nat} (htk:Rows σ tk) (hnd:(d::tk).Nodup) {box:Nat→Option aU} (fM:∀ r ∈ tk,box r = σ.box r) (hR2:∀ b o,R2 b o ≠ none→(∃ k ∈ tk,g.col b o = .bx k) ∧ (∃ v,w.cell? ⟨b,o,none⟩ = some v) ∧ w.frozen? ⟨b,o,none⟩ = false)
 {cap:Nat} (hcap:b.len≤cap) (hlen:(news ++ rest).length = cap * ty.size) (hcell:∀ (o:Nat) (v:Value),(news ++ rest)[o]? = some v→w'.cell? ⟨w.heap.size,o,none⟩ = some v) (hfz:∀ o,w'.frozen? ⟨w.heap.size,o,none⟩ = false) (hold:∀ b,b < w.heap.size→w'.heap[b]? = w.heap[b]?)
 (hos:w'.os = w.os ∧ w'.tape = w.tape ∧ w'.output = w.output ∧ w'.heap.size = w.heap.size + 1) :
 ∃ g',bO N c0 w0 (σ.app (some d) { v:=.ms d hv,bx:=(d,.row ty b own' hv nv)::tk.map (gQ box) }) g' (a.put (some d) (.slice (some ⟨w.heap.size,0,none⟩) b.len cap)) w':=by
 obtain ⟨q1,q2,q3⟩:=gY hs hn
 have hmv:jI d = true:=by unfold jI; simp [jk hd]
 exact bO.app1 hs (x1:=iO ty) (h1:=(none,0,0)) (R1:=fun _ _=>none) (Ut:=fun _ _=>(none,0,0)) (D8:=fun _=>true) (olds:=[]) (res:=b) (h':=(some ⟨w.heap.size,0,none⟩,b.len,cap)) (Ea ty _) ⟨by simp [iO],fun i hi=>absurd hi (Nat.not_lt_zero i)⟩ hs2
  hd hmv q1 q2 q3 htk fM hnd (fun _ _ q=>absurd rfl q) hR2 (by simp [iO]) (fun i hi=>absurd hi (Nat.not_lt_zero i)) (fun i _=>by simp [iO]) (by rw [hbn]; simp) (fun i hi=>absurd hi (Nat.not_lt_zero i)) (fun i _=>by simp [iO])
  (by simp [iO]) hcap (fun q=>by cases q) (fun ad had=>by
   simp only [Option.some.injEq] at had; subst had
   refine ⟨rfl,fun j v hj=>?_,fun k hk=>?_⟩
   · rw [Nat.zero_add]
     rw [List.nil_append] at hj
     exact hcell j v (by rw [List.getElem?_append_left (List.getElem?_eq_some_iff.mp hj).1]; exact hj)
   · rw [Nat.zero_add]
     exact ⟨⟨_,hcell k _ (List.getElem?_eq_getElem (by rw [hlen]; exact hk))⟩,hfz k⟩)
  (fun b o q=>.inl (by obtain ⟨ad,e1,e2,_⟩:=q; simp only [Option.some.injEq] at e1; subst e1; rw [e2]; exact Nat.le_refl _))
  (fun b o v hv _=>by rw [World.cell?_of_block (w:=w) (hold b (World.block_lt_of_cell? w ⟨b,o,none⟩ hv))]; exact hv) ⟨fun b o hb=>World.frozen?_of_block (w:=w) (hold b hb) ..,fun b o hb=>by
   rcases Nat.lt_or_eq_of_le hb with q | rfl
   · exact dH (by omega) o
   · exact hfz o⟩ (fun b ob lK _=>(hold b (ji lK)).trans lK)
  (fun b o hb=>by rw [World.cell?_of_block (w:=w) (hold b hb)]) ⟨hos.1,hos.2.1,hos.2.2.1,by omega⟩
theorem IB (z:Array Value) (n:Nat) (i j:Nat) (hi:i < n) (hj:j < z.size):((Array.range (n * z.size)).map (z[· % z.size]!)).toList[i * z.size + j]? = z[j]?:=by
 have hlt:i * z.size + j < n * z.size:=iy hi hj
 rw [Array.getElem?_toList,Array.getElem?_map,Array.getElem?_range]
 simp only [hlt,if_true,Option.map_some]
 rw [show (i * z.size + j) % z.size = j by rw [Nat.add_comm,Nat.add_mul_mod_self_right,Nat.mod_eq_of_lt hj]]
 simp [hj]
theorem RN {ty:Ty} {i:Nat} (h:ownB (Ia ty) i = true):ty.yj = true:=by
 unfold Ia at h
 cases hf:ty.yj with
 | true=>rfl
 | false=>rw [hf] at h; cases h
theorem CB {c:Nat→Nat→Col} {z:Value} {ty:Ty} (hzz:z.cells.toList = ty.zeroV) (n:Nat) (R:iI):SrcE c w ty (L.rep n ty.zero) (ownB (Ia ty)) R (fun _ _=>(none,0,0)) ((Array.range (n * z.cells.size)).map (z.cells[· % z.cells.size]!)).toList:=by
 have hzl:z.cells.size = ty.size:=by
  have:=(gy c w ty).length
  rw [← hzz] at this
  simpa using this
 refine ⟨by simp [hzl,L.rep],fun i hi=>⟨ty.zeroV,(gy c w ty).length,LW rfl fun o=>RN o,fun q v hq=>?_⟩⟩
 have hi:i < n:=hi
 have MZ:q < ty.size:=by rw [← (gy c w ty).length]; exact (List.getElem?_eq_some_iff.mp hq).1
 have:=IB z.cells n i q hi (by rw [hzl]; exact MZ)
 rw [← hzl,this,← Array.getElem?_toList,hzz]
 exact hq
theorem LX {Γ:TypeId→Option Ty} (yC:sM P Γ) (hs:bO N c0 w0 σ g a w) {o:Oper} {t:TypeId} {l c:Operand} {d:Dl} {dd:Nat} (hop:o.op = .makeSlice t l c) (hdst:o.dst = some dd) (hd:dZ N (some dd) = true) (h:Nh P Γ dd (elemOf P t) (jQ μ.env l) (jQ μ.env c) (sJ μ.box dd) = some (true,d)) (ho:Ak μ σ (d.bx.map (·.1))) :
 Good P N c0 w0 (σ.app o.dst d) o a w:=by
 unfold Nh at h
 split at h
 · rename_i e n m he hl hc
   split at h
   · rename_i ty hv nv Ni hty hb hby
     simp only [Option.some.injEq,Prod.mk.injEq,Bool.and_eq_true,decide_eq_true_eq] at h
     obtain ⟨⟨rfl,h0,h40,h48⟩,rfl⟩:=h
     obtain ⟨i,z,hi,hsz,hz,hzz⟩:=yC e ty hty
     have hu:P.underlying t = some (.slice e):=by
      unfold VE.elemOf at he
      split at he
      · cases he; assumption
      · cases he
     have hlv:=ho.ev hs l
     have hcv:=ho.ev hs c
     rw [hl] at hlv
     rw [hc] at hcv
     simp only [aF] at hlv hcv
     have hzl:z.cells.size = ty.size:=by
      have:=(gy g.col w ty).length
      rw [← hzz] at this
      simpa using this
     have NT:i.bytes = Ni:=by simpa [VE.bytesOf,hi] using hby
     have hmk:=run_make (P:=P) w t e i z hu hi hz .i64 .i64 n n h0 (Int.le_refl _) (by rw [NT]; omega) (by omega)
     have hrun:(execOp a.eval o).run P w = .ok (.value (.slice (some ⟨w.heap.size,0,none⟩) n.toNat n.toNat)) (w.alloc (.cells (madeCells z.cells (n.toNat * i.size)) e)):=by
      simp only [execOp,hop,Sem.run_bind,hlv,hcv,hmk,Result.andThen_ok,Sem.run_pure]
     have hnx:sJ σ.box dd = some (hv,nv):=by
      have:=ho.new dd (by simp)
      unfold sJ at hb ⊢
      rwa [← this]
     have hnews:(madeCells z.cells (n.toNat * i.size)).toList = ((Array.range (n.toNat * z.cells.size)).map (z.cells[· % z.cells.size]!)).toList:=by
      rw [hsz,← hzl]; rfl
     obtain ⟨g',k⟩:=hs.newRow hd hnx (own':=Ia ty) (CB (c:=g.col) (w:=w) hzz n.toNat (fun _ _=>none)) rfl (tk:=[]) (fun r hr=>by cases hr) (by simp) (box:=μ.box) (fun r hr=>by cases hr) (fun _ _ q=>absurd rfl q)
      (w':=w.alloc (.cells (madeCells z.cells (n.toNat * i.size)) e)) (cap:=n.toNat) (rest:=[]) (Nat.le_refl _) (by simp [hzl]) (fun o' v hv'=>by
       rw [List.append_nil,← hnews] at hv'
       rw [World.cell?_alloc_new]; simpa using hv') (fun o'=>by rw [World.frozen?_alloc_new]) (fun b hb'=>RowKit.Below.heap_alloc w _ b hb') ⟨rfl,rfl,rfl,by simp⟩
     refine ⟨_,_,g',.inl hrun,?_⟩
     rw [hdst]
     exact k
   · cases h
 · cases h
/-! ### Slices written out -/
theorem Aq {α β:Type} {f:α→Option β}:∀ {l:List α} {ys:List β},l.mapM f = some ys→ys.length = l.length ∧ ∀ (i:Nat) (x:α),l[i]? = some x→∃ y,f x = some y ∧ ys[i]? = some y
 | [],ys,h=>by simp at h; subst h; exact ⟨rfl,fun i x e=>by simp at e⟩
 | x::r,ys,h=>by
   rw [List.mapM_cons] at h
   cases hx:f x with
   | none=>rw [hx] at h; simp at h
   | some y =>
   cases hr:r.mapM f with
   | none=>rw [hx,hr] at h; simp at h
   | some yr =>
   rw [hx,hr] at h
   simp at h; subst h
   obtain ⟨k1,k2⟩:=Aq hr
   refine ⟨by simp [k1],fun i x' e=>?_⟩
   cases i with
   | zero=>simp at e; subst e; exact ⟨y,hx,rfl⟩
   | succ i=>simp at e; simpa using k2 i x' e
theorem tH {α:Type} {f:α→List Nat}:∀ {l:List α},(l.flatMap f).Nodup→∀ {i j:Nat} {x y:α} {r:Nat},l[i]? = some x→l[j]? = some y→r ∈ f x→r ∈ f y→i = j ∧ (f x).Nodup
 | [],_,i,j,x,y,r,h,_,_,_=>by simp at h
 | z::l,hn,i,j,x,y,r,hi,hj,h1,h2=>by
   rw [List.flatMap_cons,List.nodup_append] at hn
   obtain ⟨n1,n2,n3⟩:=hn
   cases i with
   | zero =>
     simp at hi; subst hi
     cases j with
     | zero=>exact ⟨rfl,n1⟩
     | succ j =>
       simp at hj
       exact absurd rfl (n3 r h1 r (List.mem_flatMap.mpr ⟨y,List.mem_of_getElem? hj,h2⟩))
   | succ i =>
     simp at hi
     cases j with
     | zero =>
       simp at hj; subst hj
       exact absurd rfl (n3 r h2 r (List.mem_flatMap.mpr ⟨x,List.mem_of_getElem? hi,h1⟩))
     | succ j =>
       simp at hj
       obtain ⟨q1,q2⟩:=tH n2 hi hj h1 h2
       exact ⟨by omega,q2⟩
theorem RO:∀ {t:Ty} {cs:List PV} {x:t.T} {r:List PV},un t cs = some (x,r)→ay cs = ay r:=by
 intro t
 induction t with
 | int k =>
   intro cs x r h
   cases cs with
   | nil=>simp [un] at h
   | cons p ps=>cases p <;> simp [un] at h; obtain ⟨_,_,rfl⟩:=h; rfl
 | bool =>
   intro cs x r h
   cases cs with
   | nil=>simp [un] at h
   | cons p ps=>cases p <;> simp [un] at h; obtain ⟨_,rfl⟩:=h; rfl
 | str =>
   intro cs x r h
   cases cs with
   | nil=>simp [un] at h
   | cons p ps=>cases p <;> simp [un] at h; obtain ⟨_,rfl⟩:=h; rfl
 | unit=>intro cs x r h; simp [un] at h; subst h; rfl
 | pair a b iha ihb =>
   intro cs x r h
   simp only [un] at h
   split at h
   · rename_i x1 r1 h1
     split at h
     · rename_i x2 r2 h2
       simp only [Option.some.injEq,Prod.mk.injEq] at h
       obtain ⟨_,rfl⟩:=h
       exact (iha h1).trans (ihb h2)
     · cases h
   · cases h
 | sl t ih =>
   intro cs x r h
   cases cs with
   | nil=>simp [un] at h
   | cons p ps =>
     cases p <;> simp only [un] at h <;> try cases h
     · rfl
     · split at h
       · simp only [Option.some.injEq,Prod.mk.injEq] at h
         obtain ⟨_,rfl⟩:=h
         rfl
       · cases h
theorem NU {t:Ty} {cs:List PV} {x:t.T} (h:yt t cs = some x):ay cs = []:=by
 simp only [yt] at h
 split at h
 · rename_i y h1; exact RO h1
 · cases h
theorem gU {p:PV} {v:Value} (h:aF g w p v):∃ vs,ak g w p.dY vs:=by
 cases p with
 | agg cs =>
   simp only [aF] at h
   obtain ⟨vs,_,h2⟩:=h
   exact ⟨vs,h2⟩
 | _=>exact ⟨[v],by simp only [PV.dY,ak]; exact ⟨v,[],rfl,h,rfl⟩⟩
theorem NV (hb:bK g w μ.box) {ty:Ty} {ps:List (List PV)} {ys:List ty.T} {own:Option (Nat→Bool)} (h:Vl μ.box ty ps = some (ys,own)) (hnd:(ps.flatMap ay).Nodup) (hps:∀ cs ∈ ps,∃ vs,ak g w cs vs) :
 (∀ cs ∈ ps,cs.all PV.solid = true ∧ cs.length = ty.size) ∧ ys.length = ps.length ∧ (∀ r ∈ ps.flatMap ay,jI r = true ∧ ∃ t x own hv nv,μ.box r = some (.row t x own hv nv)) ∧
 ∀ news:List Value,news.length = ps.length * ty.size→(∀ (i:Nat) cs,ps[i]? = some cs→∃ us,us.length = ty.size ∧ ak g w cs us ∧ ∀ (q:Nat) (v:Value),us[q]? = some v→news[i * ty.size + q]? = some v) →
   ∃ R2 Iu,SrcE g.col w ty (L.of ty.zero ys) (ownB own) R2 Iu news ∧ ∀ b o,R2 b o ≠ none→(∃ k ∈ ps.flatMap ay,g.col b o = .bx k) ∧ (∃ v,w.cell? ⟨b,o,none⟩ = some v) ∧ w.frozen? ⟨b,o,none⟩ = false:=by
 have hget:∀ {ys:List ty.T} {i:Nat} {y:ty.T},ys[i]? = some y→(L.of ty.zero ys).get i = y:=fun {ys i y} e=>by
  show ys.getD i ty.zero = y
  rw [List.getD_eq_getElem?_getD,e]; rfl
 unfold Vl at h
 split at h
 · rename_i ys' hm
   simp only [Option.some.injEq,Prod.mk.injEq] at h
   obtain ⟨rfl,rfl⟩:=h
   cases hfl:ty.yj with
   | false=>rw [hfl] at hm; cases hm
   | true =>
   rw [hfl] at hm
   simp only [cond_true] at hm
   obtain ⟨k1,k2⟩:=Aq hm
   have hun:∀ (i:Nat) cs,ps[i]? = some cs→∃ y,sS μ.box ty cs = some (y,[]) ∧ ys'[i]? = some y:=fun i cs hi=>by
    obtain ⟨y,q1,q2⟩:=k2 i cs hi
    split at q1
    · rename_i y' e
      simp only [Option.some.injEq] at q1; subst q1
      exact ⟨y',e,q2⟩
    · cases q1
   have hsl:∀ (i:Nat) cs vs,ps[i]? = some cs→ak g w cs vs→∃ y,ys'[i]? = some y ∧ cs.length = ty.size ∧ cs.all PV.solid = true ∧ (∀ r ∈ ay cs,jI r = true ∧ ∃ t x own hv nv,μ.box r = some (.row t x own hv nv)) ∧ jJ (fun j u z h=>FL g w (ay [dX ty cs j]) u z h ∧ u.flat = true) ty y vs 0:=fun i cs vs hi hv=>by
    obtain ⟨y,q1,q2⟩:=hun i cs hi
    obtain ⟨c1,v1,v2,e1,e2,p1,p2,p3,p4,p5,p6⟩:=jl hb q1 hv
    rw [List.append_nil] at e1
    subst e1
    simp only [ak] at p1
    subst p1
    rw [List.append_nil] at e2
    subst e2
    exact ⟨y,q2,p3,p4,p5,jJ.yj hfl (p6 0)⟩
   have hall:∀ cs ∈ ps,∃ (i:Nat) (y:ty.T) (vs:List Value),ps[i]? = some cs ∧ cs.length = ty.size ∧ cs.all PV.solid = true ∧ (∀ r ∈ ay cs,jI r = true ∧ ∃ t x own hv nv,μ.box r = some (.row t x own hv nv)):=fun cs hcs=>by
    obtain ⟨i,hi⟩:=List.getElem?_of_mem hcs
    obtain ⟨vs,hv⟩:=hps cs hcs
    obtain ⟨y,_,q1,q2,q3,_⟩:=hsl i cs vs hi hv
    exact ⟨i,y,vs,hi,q1,q2,q3⟩
   refine ⟨fun cs hcs=>by obtain ⟨_,_,_,_,q1,q2,_⟩:=hall cs hcs; exact ⟨q2,q1⟩,k1,fun r hr=>?_,fun news hnl hne=>?_⟩
   · obtain ⟨cs,hcs,hr⟩:=List.mem_flatMap.mp hr
     obtain ⟨_,_,_,_,_,_,q3⟩:=hall cs hcs
     exact q3 r hr
   · have key:∀ i,∃ hf:Nat→bT,∀ cs,ps[i]? = some cs→∃ us y,us.length = ty.size ∧ ys'[i]? = some y ∧ cs.length = ty.size ∧ jJ (fun j u z h=>(FL g w (ay [dX ty cs j]) u z h ∧ u.flat = true) ∧ h = hf j) ty y us 0 ∧ ∀ (q:Nat) (v:Value),us[q]? = some v→news[i * ty.size + q]? = some v:=by
      intro i
      cases hi:ps[i]? with
      | none=>exact ⟨fun _=>(none,0,0),fun cs e=>by cases e⟩
      | some cs =>
        obtain ⟨us,u1,u2,u3⟩:=hne i cs hi
        obtain ⟨y,q1,q2,_,_,q3⟩:=hsl i cs us hi u2
        obtain ⟨hf,q4⟩:=q3.hdr
        exact ⟨hf,fun cs' e=>by cases e; exact ⟨us,y,u1,q1,q2,q4,u3⟩⟩
     let Cc:Nat×Nat→Nat→Nat→Prop:=fun l b o=>(∃ cs,ps[l.1]? = some cs ∧ l.2 < ty.bJ ∧ ∃ r ∈ ay [dX ty cs l.2],g.col b o = .bx r) ∧ (∃ v,w.cell? ⟨b,o,none⟩ = some v) ∧ w.frozen? ⟨b,o,none⟩ = false
     let R2:iI:=open Classical in fun b o=>if h:∃ l,Cc l b o then some (some (Classical.choose h)) else none
     have hmem:∀ {i:Nat} {cs:List PV} {j r:Nat},ps[i]? = some cs→j < ty.bJ→r ∈ ay [dX ty cs j]→cs.length = ty.size ∧ r ∈ ay cs:=fun {i cs j r} hi hj hr=>by
      have hl:cs.length = ty.size:=by obtain ⟨_,_,_,_,q1,_⟩:=hall cs (List.mem_of_getElem? hi); exact q1
      exact ⟨hl,dD hl hj hr⟩
     have hR:∀ l b o,Cc l b o→R2 b o = some (some l):=fun l b o hc=>by
      have hex:∃ l,Cc l b o:=⟨l,hc⟩
      have e:R2 b o = some (some (Classical.choose hex)):=dif_pos hex
      have hsp:=Classical.choose_spec hex
      obtain ⟨⟨cs,c1,c2,r,r1,r2⟩,_⟩:=hc
      obtain ⟨⟨cs',c1',c2',r',r1',r2'⟩,_⟩:=hsp
      rw [r2] at r2'; cases r2'
      obtain ⟨l1,m1⟩:=hmem c1 c2 r1
      obtain ⟨l2,m2⟩:=hmem c1' c2' r1'
      obtain ⟨n1,n2⟩:=tH hnd c1 c1' m1 m2
      rw [← n1] at c1'
      rw [c1] at c1'; cases c1'
      have n3:=uJ l1 n2 c2 c2' r1 r1'
      rw [e]
      congr 2
      exact Prod.ext n1.symm n3.symm
     refine ⟨R2,fun i=>Classical.choose (key i),⟨by rw [hnl]; show _ = ys'.length * _; rw [k1],fun i hi=>?_⟩,fun b o hr=>?_⟩
     · have hi:i < ys'.length:=hi
       obtain ⟨cs,hcs⟩:∃ cs,ps[i]? = some cs:=⟨_,List.getElem?_eq_getElem (by omega)⟩
       obtain ⟨us,y,u1,u2,u3,u4,u5⟩:=Classical.choose_spec (key i) cs hcs
       refine ⟨us,u1,?_,u5⟩
       rw [hget u2]
       refine u4.toN fun j u z hd _ hj hq=>?_
       obtain ⟨⟨q1,q2⟩,q3⟩:=hq
       have hj:j < ty.bJ:=by omega
       exact Ao q2 q1 (by rw [q3]) fun b o hc v hv hfr=>⟨hR (i,j) b o ⟨⟨cs,hcs,hj,hc⟩,⟨v,hv⟩,hfr⟩,hv,hfr⟩
     · by_cases hex:∃ l,Cc l b o
       · obtain ⟨⟨cs,c1,c2,r,r1,r2⟩,q⟩:=Classical.choose_spec hex
         exact ⟨⟨r,List.mem_flatMap.mpr ⟨cs,List.mem_of_getElem? c1,(hmem c1 c2 r1).2⟩,r2⟩,q⟩
       · exact absurd (dif_neg hex) hr
 · split at h
   · rename_i ys' hm
     simp only [Option.some.injEq,Prod.mk.injEq] at h
     obtain ⟨rfl,rfl⟩:=h
     obtain ⟨k1,k2⟩:=Aq hm
     have hall:∀ cs ∈ ps,∃ y,yt ty cs = some y:=fun cs hcs=>by
      obtain ⟨i,hi⟩:=List.getElem?_of_mem hcs
      obtain ⟨y,q,_⟩:=k2 i cs hi
      exact ⟨y,q⟩
     refine ⟨fun cs hcs=>by obtain ⟨y,q⟩:=hall cs hcs; exact LM q,k1,fun r hr=>?_,fun news hnl hne=>?_⟩
     · obtain ⟨cs,hcs,hr⟩:=List.mem_flatMap.mp hr
       obtain ⟨y,q⟩:=hall cs hcs
       rw [NU q] at hr; cases hr
     · have key:∀ i,∃ nhi:Nat→bT,∀ cs,ps[i]? = some cs→∃ us y,us.length = ty.size ∧ ys'[i]? = some y ∧ (∀ nh:Nat→Nat→bT,nh i = nhi→bD g.col w (fun _ _=>none) nh false i ty y us 0) ∧ ∀ (q:Nat) (v:Value),us[q]? = some v→news[i * ty.size + q]? = some v:=by
        intro i
        cases hi:ps[i]? with
        | none=>exact ⟨fun _=>(none,0,0),fun cs e=>by cases e⟩
        | some cs =>
          obtain ⟨us,u1,u2,u3⟩:=hne i cs hi
          obtain ⟨y,q1,q2⟩:=k2 i cs hi
          obtain ⟨nhi,q3⟩:=bD.Vw (R:=fun _ _=>none) (i:=i) (j:=0) (fA q1 u2)
          exact ⟨nhi,fun cs' e=>by cases e; exact ⟨us,y,u1,q2,fun nh hn=>q3 nh fun j' _ _=>by rw [hn],u3⟩⟩
       refine ⟨fun _ _=>none,fun i=>Classical.choose (key i),⟨by rw [hnl]; show _ = ys'.length * _; rw [k1],fun i hi=>?_⟩,fun _ _ q=>absurd rfl q⟩
       have hi:i < ys'.length:=hi
       obtain ⟨cs,hcs⟩:∃ cs,ps[i]? = some cs:=⟨_,List.getElem?_eq_getElem (by omega)⟩
       obtain ⟨us,y,u1,u2,u3,u4⟩:=Classical.choose_spec (key i) cs hcs
       exact ⟨us,u1,by rw [hget u2]; exact u3 _ rfl,u4⟩
   · cases h
def VH (g:Gh) (n k:Nat):Gh:={ g with col:=DZ g.col n (fun o=>if o < k then .st else .free) }
theorem CF (g:Gh) (w:World) (k:Nat) (ob:Obj):bV g w (VH g w.heap.size k) (w.alloc ob) where
 st:=(xD g.col w _ ob).st
 db _ hid:=⟨hid,rfl⟩
 dh _ _ hu:=⟨hu,rfl⟩
 dn _ _ hu:=⟨hu,rfl,rfl⟩
theorem bO.Y3 (h:bO N c0 w0 σ g a w) (k:Nat) (ob:Obj) (lK:∀ o',(w.alloc ob).frozen? ⟨w.heap.size,o',none⟩ = false):bO N c0 w0 σ (VH g w.heap.size k) a (w.alloc ob):=by
 have hs:=CF g w k ob
 have hcell:∀ b o u,w.cell? ⟨b,o,none⟩ = some u→b ≠ w.heap.size:=fun b o u hu=>Nat.ne_of_lt (World.block_lt_of_cell? w ⟨b,o,none⟩ hu)
 have hold:∀ {b:Nat} (o:Nat),b ≠ w.heap.size→(VH g w.heap.size k).col b o = g.col b o:=fun {b} o hb=>if_neg hb
 exact {
  size:=h.size
  env:=fun i=>aF.mono hs _ _ (h.env i)
  defers:=h.defers
  box:=fun id c' hc'=>by
   refine (h.box id c' hc').stay hs rfl (fun bb o u a1 a2 a3=>?_) (fun ob' c1 c2 c3=>?_)
   · have hb:=hcell _ _ _ a2
     exact ⟨(hold _ hb).trans a1,by rw [World.cell?_alloc_old _ _ _ hb]; exact a2,by rw [World.frozen?_alloc_old _ _ _ hb]; exact a3⟩
   · have hlt:=ji c2
     exact ⟨(RowKit.Below.heap_alloc w ob _ hlt).trans c2,fun o=>(hold _ (by omega)).trans (c1 o)⟩
  db:=h.db
  dh:=h.dh
  dn:=h.dn
  pts:=h.pts
  fix:=h.fix
  keep:=h.keep.alloc ob lK
  old:=fun b hb o=>by
   have hs:=h.keep.size
   rw [hold o (by omega)]
   exact h.old b hb o }
theorem Y4 {α:Type} {ps:List (List α)} (h:∀ cs ∈ ps,cs.length = 1):ps.flatten.length = ps.length ∧ ∀ (i:Nat) (p:α),ps.flatten[i]? = some p→ps[i]? = some [p]:=by
 induction ps with
 | nil=>exact ⟨rfl,fun i p q=>by simp at q⟩
 | cons c r ih =>
   obtain ⟨i1,i2⟩:=ih fun cs hcs=>h cs (List.mem_cons_of_mem _ hcs)
   have hc:=h c (List.mem_cons_self ..)
   match c,hc with
   | [x],_ =>
     refine ⟨by simp [i1],fun i p q=>?_⟩
     cases i with
     | zero=>simpa using q
     | succ i=>simp only [List.flatten_cons,List.singleton_append,List.getElem?_cons_succ] at q ⊢; exact i2 i p q
theorem NW {Γ:TypeId→Option Ty} (yC:sM P Γ) (hs:bO N c0 w0 σ g a w) {o:Oper} {t:TypeId} {n:Nat} {parts:Array (Nat×Operand)} {d:Dl} {dd:Nat} (hop:o.op = .buildSlice t n parts) (hdst:o.dst = some dd) (hd:dZ N (some dd) = true)
 (h:Vn Γ dd (elemOf P t) n (parts.toList.map fun p=>p.1) (parts.toList.map fun p=>(jQ μ.env p.2).dY) μ.box = some d) (ho:Ak μ σ (d.bx.map (·.1))):Good P N c0 w0 (σ.app o.dst d) o a w:=by
 have ev:=ho.ev hs
 have hb:=ho.ok hs
 unfold Vn at h
 split at h
 · rename_i e hv nv he hnx
   split at h
   · rename_i ty hty
     cases hso:Vm ty (parts.toList.map fun p=>(jQ μ.env p.2).dY) with
     | true =>
       rw [hso] at h
       simp only [cond_true] at h
       split at h
       · rename_i hc
         obtain ⟨hn1,hidx⟩:=hc
         simp only [Option.some.injEq] at h; subst h
         simp only [Vm,Bool.and_eq_true,List.all_eq_true] at hso
         obtain ⟨hz1,hps,hany⟩:=hso
         have hz1:ty.size = 1:=Nat.eq_of_beq_eq_true hz1
         have Y5:∀ cs ∈ parts.toList.map (fun p=>(jQ μ.env p.2).dY),cs.all PV.solid = true ∧ cs.length = ty.size:=fun cs hcs=>by
          have:=hps cs hcs
          exact ⟨List.all_eq_true.mpr fun x hx=>this.2 x hx,by rw [hz1]; exact Nat.eq_of_beq_eq_true this.1⟩
         obtain ⟨i,z,hi,hsz,hz,hzz⟩:=yC e ty hty
         have hu:P.underlying t = some (.slice e):=by
          unfold VE.elemOf at he
          split at he
          · cases he; assumption
          · cases he
         have hnl:n = parts.toList.length:=by
          have h1:(parts.toList.map fun p=>p.1) = List.range n:=by simpa using hidx
          have:=congrArg List.length h1; simpa using this.symm
         have hidx':(parts.toList.map fun p=>p.1) = List.range' 0 parts.toList.length:=by
          have h1:(parts.toList.map fun p=>p.1) = List.range n:=by simpa using hidx
          rw [h1,hnl,List.range_eq_range']
         have hn0:n ≠ 0:=by
          rintro rfl
          have:parts.toList = []:=List.eq_nil_of_length_eq_zero hnl.symm
          rw [this] at hany
          simp at hany
         have hzl:z.cells.size = ty.size:=by
          have:=(gy g.col w ty).length
          rw [← hzz] at this
          simpa using this
         have hzv:(zeroValue e).run P w = .ok z w:=by simp [zeroValue,typeInfo,hi,hz]
         obtain ⟨news,f1,f2,f3,f4⟩:=Am (g:=g) (w:=w) (ρ:=a.eval) (env:=μ.env) ev ty.size parts.toList 0 [] ((Array.range (n * ty.size)).map (z.cells[· % z.cells.size]!)).toList hidx' (fun p hp=>Y5 _ (List.mem_map.mpr ⟨p,hp,rfl⟩)) (by simp) (by simp [hnl])
         have hnews:news.length = n:=by rw [f2,hz1,Nat.mul_one,hnl]
         obtain ⟨g1,g2⟩:=Y4 (ps:=parts.toList.map fun p=>(jQ μ.env p.2).dY) fun cs hcs=>by rw [(Y5 cs hcs).2,hz1]
         have hfl:(parts.toList.map fun p=>(jQ μ.env p.2).dY).flatten.length = n:=by rw [g1,List.length_map,hnl]
         have uK:ak g w (parts.toList.map fun p=>(jQ μ.env p.2).dY).flatten news:=by
          refine ak.oP (by rw [hfl,hnews]) fun k p v hp hv=>?_
          have hk:=g2 k p hp
          rw [List.getElem?_map,Option.map_eq_some_iff] at hk
          obtain ⟨q,hq,e1⟩:=hk
          obtain ⟨us,q1,q2,q3⟩:=f4 k q hq
          rw [e1] at q2
          simp only [ak] at q2
          obtain ⟨u,us',rfl,r1,rfl⟩:=q2
          have:=q3 0 u rfl
          rw [hz1,Nat.mul_one,Nat.add_zero,hv] at this
          cases this
          exact r1
         have Ip:=(hs.Y3 n (.cells news.toArray e) (fun _=>World.frozen?_alloc_new ..)).put hd (p:=.so ty (parts.toList.map fun p=>(jQ μ.env p.2).dY).flatten) (v:=.slice (some ⟨w.heap.size,0,none⟩) n n) (by
          simp only [aF]
          refine ⟨w.heap.size,news,by rw [hfl],hz1,ak.mono (CF g w n _) _ _ uK,fun j v hj=>⟨?_,?_⟩⟩
          · have:=(List.getElem?_eq_some_iff.mp hj).1
            rw [Nat.zero_add]
            show (if w.heap.size = w.heap.size then (if j < n then Col.st else Col.free) else _) = _
            rw [if_pos rfl,if_pos (by omega)]
          · rw [Nat.zero_add,World.cell?_alloc_new]; simpa using hj)
         refine ⟨.slice (some ⟨w.heap.size,0,none⟩) n n,_,_,.inl ?_,by rw [hdst]; exact Ip⟩
         have q:¬ (2 ^ 24 < n * ty.size):=by rw [hz1]; omega
         simp only [execOp,hop,Instr.buildSlice,Sem.run_bind,VE.bf hu,Result.andThen_ok,sizeOf,typeInfo,run_program,hi,Sem.run_pure,hsz,gt_iff_lt,q,if_false]
         simp only [List.nil_append] at f1
         have e2:(Array.map (fun x=>match x with | (i,x)=>(i,a.eval x)) parts).toList = parts.toList.map (fun p=>(p.1,a.eval p.2)):=by simp
         have e3:(Array.map (fun x=>z.cells[x % z.cells.size]!) (Array.range (n * ty.size))) = ((Array.range (n * ty.size)).map (z.cells[· % z.cells.size]!)).toList.toArray:=by apply Array.ext'; simp
         rw [if_neg (show ¬ n * ty.size = 0 by rw [hz1,Nat.mul_one]; exact hn0)]
         simp only [Sem.run_bind,hzv,Sem.run_pure,Result.andThen_ok]
         rw [e2,e3,f1]
         rfl
       · cases h
     | false =>
     rw [hso] at h
     simp only [cond_false] at h
     split at h
     · rename_i hc
       obtain ⟨hn1,hn2,hidx,hnd⟩:=hc
       have hnd:=gT hnd
       split at h
       · rename_i ys own hys
         simp only [Option.some.injEq] at h; subst h
         obtain ⟨i,z,hi,hsz,hz,hzz⟩:=yC e ty hty
         have hu:P.underlying t = some (.slice e):=by
          unfold VE.elemOf at he
          split at he
          · cases he; assumption
          · cases he
         have hnl:n = parts.toList.length:=by
          have h1:(parts.toList.map fun p=>p.1) = List.range n:=by simpa using hidx
          have:=congrArg List.length h1; simpa using this.symm
         have hidx':(parts.toList.map fun p=>p.1) = List.range' 0 parts.toList.length:=by
          have h1:(parts.toList.map fun p=>p.1) = List.range n:=by simpa using hidx
          rw [h1,hnl,List.range_eq_range']
         have hzl:z.cells.size = ty.size:=by
          have:=(gy g.col w ty).length
          rw [← hzz] at this
          simpa using this
         have hzv:(zeroValue e).run P w = .ok z w:=by simp [zeroValue,typeInfo,hi,hz]
         obtain ⟨b1,b2,b3,b4⟩:=NV (g:=g) (w:=w) hb hys (List.nodup_cons.mp hnd).2 (fun cs hcs=>by
          obtain ⟨p,_,rfl⟩:=List.mem_map.mp hcs
          exact gU (ev p.2))
         have fin:∀ (zs:Array Value),(n * ty.size = 0 ∧ zs = #[]) ∨ (n * ty.size ≠ 0 ∧ zs = z.cells)→Good P N c0 w0 (σ.app o.dst { v:=.ms dd hv,bx:=(dd,.row ty (L.of ty.zero ys) own hv nv)::((parts.toList.map fun p=>(jQ μ.env p.2).dY).flatMap ay).map (gQ μ.box) }) o a w:=by
          intro zs hzs
          obtain ⟨news,f1,f2,f3,f4⟩:=Am (g:=g) (w:=w) (ρ:=a.eval) (env:=μ.env) ev ty.size parts.toList 0 [] ((Array.range (n * ty.size)).map (zs[· % zs.size]!)).toList hidx' (fun p hp=>b1 _ (List.mem_map.mpr ⟨p,hp,rfl⟩)) (by simp) (by simp [hnl])
          obtain ⟨R2,Iu,s1,s2⟩:=b4 news (by rw [f2,List.length_map]) fun k cs hk=>by
           rw [List.getElem?_map,Option.map_eq_some_iff] at hk
           obtain ⟨p,hp,rfl⟩:=hk
           exact f4 k p hp
          have hyl:(L.of ty.zero ys).len = n:=by rw [hnl]; show ys.length = _; rw [b2,List.length_map]
          have agc:sJ σ.box dd = some (hv,nv):=by
           have:=ho.new dd (by simp)
           unfold sJ at hnx ⊢
           rwa [← this]
          rw [hdst]
          obtain ⟨g',k⟩:=hs.newRow hd agc (own':=own) s1 rfl (tk:=(parts.toList.map fun p=>(jQ μ.env p.2).dY).flatMap ay) (fun r hr=>by obtain ⟨q,t,x,own,hv,nv,e⟩:=b3 r hr; exact ⟨q,t,x,own,hv,nv,ho.box _ _ e⟩) hnd (box:=μ.box)
           (fun r hr=>ho.new r (by simp only [List.map_cons,gB]; exact List.mem_cons_of_mem _ hr)) s2 (w':=w.alloc (.cells news.toArray e)) (cap:=n) (rest:=[]) (by rw [hyl]; exact Nat.le_refl _) (by rw [List.append_nil,f2,hnl]) (fun o' v hv'=>by
            rw [List.append_nil] at hv'
            rw [World.cell?_alloc_new]; simpa using hv') (fun o'=>by rw [World.frozen?_alloc_new]) (fun b hb'=>RowKit.Below.heap_alloc w _ b hb') ⟨rfl,rfl,rfl,by simp⟩
          rw [hyl] at k
          refine ⟨.slice (some ⟨w.heap.size,0,none⟩) n n,_,g',.inl ?_,by rw [hdst]; exact k⟩
          have q:¬ (2 ^ 24 < n * ty.size):=by
           have:n * ty.size≤1024 * 1024:=Nat.mul_le_mul hn1 hn2
           omega
          simp only [execOp,hop,Instr.buildSlice,Sem.run_bind,VE.bf hu,Result.andThen_ok,sizeOf,typeInfo,run_program,hi,Sem.run_pure,hsz,gt_iff_lt,q,if_false]
          simp only [List.nil_append] at f1
          have e2:(Array.map (fun x=>match x with | (i,x)=>(i,a.eval x)) parts).toList = parts.toList.map (fun p=>(p.1,a.eval p.2)):=by simp
          have e3:(Array.map (fun x=>zs[x % zs.size]!) (Array.range (n * ty.size))) = ((Array.range (n * ty.size)).map (zs[· % zs.size]!)).toList.toArray:=by apply Array.ext'; simp
          rcases hzs with ⟨q1,rfl⟩ | ⟨q1,rfl⟩
          · rw [if_pos q1]
            simp only [Sem.run_bind,Sem.run_pure,Result.andThen_ok]
            rw [e2,e3,f1]
            rfl
          · rw [if_neg q1]
            simp only [Sem.run_bind,hzv,Sem.run_pure,Result.andThen_ok]
            rw [e2,e3,f1]
            rfl
         by_cases hn0:n * ty.size = 0
         · exact fin #[] (.inl ⟨hn0,rfl⟩)
         · exact fin z.cells (.inr ⟨hn0,rfl⟩)
       · cases h
     · cases h
   · cases h
 · cases h
end
end Go.VE
