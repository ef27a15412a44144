import Derived.Test.YtgllenfbilnneaaGreatDoorVk6
import Derived.Carry
import Derived.OpenShut
import Derived.SizedLaws
import Derived.ChangeOld
import Derived.ChangeShapes
import Derived.ChangeAt
/- Rows: what is handed in is typed data. -/
namespace Go.VE
open Go.RowKit (Below)
open Go.ChangeShapes
def M4:Nat→Nat→Col:=fun _ _=>.st
theorem Wd (c:sK) {w:World} (h:Ct M4 w):uM c M4 w:=⟨fun _ _ _ h=>(by cases h),h⟩
def nS (P:Program) (t:TypeId):Option (List (Nat×TypeId)):=match P.underlying t with
 | some (.struct fs)=>some (fs.toList.map fun f=>(f.offset,f.type))
 | some (.array n e)=>some ((List.range n).map fun i=>(i * P.cellsOf e,e))
 | _=>none
def jA (P:Program):Ty→(List (Nat×TypeId)×Nat)⊕TypeId→Bool
 | .int k,.inr t=>(match P.underlying t with | some (.int k')=>decide (k' = k) | _=>false)
 | .bool,.inr t=>(match P.underlying t with | some .bool=>true | _=>false)
 | .str,.inr t=>(match P.underlying t with | some .string=>true | _=>false)
 | .sl ty,.inr t=>(match P.underlying t with | some (.slice e)=>jA P ty (.inr e)&&(Nat.beq (P.cellsOf e) ty.size&&(Nat.blt 0 ty.size&&Nat.blt 0 (P.bytesOf e))) | _=>false)
 | .unit,.inl ([],_)=>true
 | .pair a b,.inl ((o,t)::r,off)=>Nat.beq o off&&(Nat.beq (P.cellsOf t) a.size&&(jA P a (.inr t)&&jA P b (.inl (r,off + a.size))))
 | .unit,.inr t=>(match nS P t with | some []=>true | _=>false)
 | .pair a b,.inr t=>(match nS P t with | some ((o,t')::r)=>Nat.beq o 0&&(Nat.beq (P.cellsOf t') a.size&&(jA P a (.inr t')&&jA P b (.inl (r,a.size)))) | _=>false)
 | _,_=>false
def UD:(t:Ty)→t.T→Prop
 | .int k,n=>k.min≤n ∧ n≤k.max
 | .bool,_=>True
 | .str,s=>s.size≤2 ^ 47
 | .unit,_=>True
 | .pair a b,x=>UD a x.1 ∧ UD b x.2
 | .sl t,x=>x.len≤2 ^ 47 ∧ ∀ i,i < x.len→UD t (x.get i)
section
variable {H:Type} {enc:TypeId×Value→H} {P:Program} {W:World} {sp:Nat→Bool} {held:Bool}
theorem OC {b off:Nat} {UE:Option Nat} {k n:Nat} {cs:List Value} (h:W.cells? 0 ((⟨b,off,UE⟩:Addr).add k) n = some cs):∀ j v,cs[j]? = some v→W.cell? ⟨b,off + k + j,none⟩ = some v:=by
 intro j v hj
 obtain ⟨_,h2,h3⟩:=World.cells?_some h
 have hjn:j < n:=by
  have:=(List.getElem?_eq_some_iff.mp hj).1
  omega
 have h4:=h3 j hjn
 rw [hj] at h4
 unfold Addr.add at h4
 by_cases hk:k = 0
 · subst hk
   by_cases hj0:j = 0
   · subst hj0
     simp only [if_true,Nat.add_zero] at h4 ⊢
     cases UE with
     | none=>exact h4
     | some s =>
       exfalso
       unfold World.cell? at h4
       simp only [Option.isSome_some,if_true] at h4
       split at h4 <;> cases h4
   · simpa [hj0] using h4
 · by_cases hj0:j = 0
   · subst hj0; simpa [hk] using h4
   · simpa [hk,hj0] using h4
theorem Sc {b off:Nat} {UE:Option Nat} {n:Nat} {cs:List Value} (h:W.cells? 0 ((⟨b,off,UE⟩:Addr).add 0) n = some cs) (hn:0 < n):UE = none:=by
 obtain ⟨_,h2,h3⟩:=World.cells?_some h
 have h4:=h3 0 hn
 cases UE with
 | none=>rfl
 | some s =>
   exfalso
   have hl:0 < cs.length:=by omega
   rw [List.getElem?_eq_getElem hl] at h4
   simp only [Addr.add,if_true] at h4
   unfold World.cell? at h4
   simp only [Option.isSome_some,if_true] at h4
   split at h4 <;> cases h4
theorem qw {e:TypeId}:∀ {l:List (DataW H)} {d:DataW H},d ∈ l→∀ k ∈ d.weights P e,k ∈ DataW.weightsAll P e l
 | [],d,h,_,_=>by simp at h
 | a::r,d,h,k,hk=>by
   simp only [DataW.weightsAll,List.mem_append]
   rcases List.mem_cons.mp h with rfl | h
   · exact .inl hk
   · exact .inr (qw h k hk)
theorem xK {t:TypeId} {fs:List (Nat×TypeId)} {n:Nat} {cs:List Value} {d:DataW H×List MemPlace} (hf:nS P t = some fs) (h:DataW.trod enc P W 0 sp held n t cs = some d) (hw:∀ k ∈ d.1.weights P t,k≤2 ^ 47) :
 cs.length = P.cellsOf t ∧ ∃ m,∀ f ∈ fs,∃ d',DataW.trod enc P W 0 sp held m f.2 ((cs.drop f.1).take (P.cellsOf f.2)) = some d' ∧ ∀ k ∈ d'.1.weights P f.2,k≤2 ^ 47:=by
 unfold nS at hf
 split at hf
 · rename_i fa hu
   simp only [Option.some.injEq] at hf
   subst hf
   obtain ⟨xs,m,_,h2,h3,h4,h5⟩:=DataW.trod_struct hu h
   subst h2
   refine ⟨h3,m,fun f hfm=>?_⟩
   obtain ⟨g,hg,rfl⟩:=List.mem_map.mp hfm
   obtain ⟨i,hi⟩:=List.getElem?_of_mem hg
   have hi':fa[i]? = some g:=by simpa using hi
   have hlt:i < fa.size:=(Array.getElem?_eq_some_iff.mp hi').1
   refine ⟨xs[i],by rw [h5 i g hi',List.getElem?_eq_getElem (by omega)],fun k hk=>hw k ?_⟩
   simp only [DataW.weights,hu]
   exact DataW.weights_mem_each (j:=i) (t:=g.type) (d:=xs[i].1) (by simp [hi']) (by simp [List.getElem?_eq_getElem (by omega:i < xs.length)]) k hk
 · rename_i k e hu
   simp only [Option.some.injEq] at hf
   subst hf
   obtain ⟨xs,m,_,h2,h3,h4,h5⟩:=DataW.trod_array hu h
   subst h2
   refine ⟨h3,m,fun f hfm=>?_⟩
   obtain ⟨i,hi,rfl⟩:=List.mem_map.mp hfm
   have hi:=List.mem_range.mp hi
   refine ⟨xs[i],by rw [h5 i hi,List.getElem?_eq_getElem (by omega)],fun k hk=>hw k ?_⟩
   simp only [DataW.weights,hu]
   exact qw (List.mem_map.mpr ⟨xs[i],List.getElem_mem _,rfl⟩) k hk
 · cases hf
theorem Sd:∀ (ty:Ty),
 (∀ (t:TypeId) (n:Nat) (cs:List Value) (d:DataW H×List MemPlace),jA P ty (.inr t) = true→P.cellsOf t = ty.size→DataW.trod enc P W 0 sp held n t cs = some d→(∀ k ∈ d.1.weights P t,k≤2 ^ 47)→∃ x,bC M4 W ty x cs ∧ UD ty x) ∧
 (∀ (fs:List (Nat×TypeId)) (off n:Nat) (cs:List Value),jA P ty (.inl (fs,off)) = true→(∀ f ∈ fs,∃ d,DataW.trod enc P W 0 sp held n f.2 ((cs.drop f.1).take (P.cellsOf f.2)) = some d ∧ ∀ k ∈ d.1.weights P f.2,k≤2 ^ 47)→cs.length = off + ty.size→∃ x,bC M4 W ty x (cs.drop off) ∧ UD ty x):=by
 intro ty
 induction ty with
 | int k =>
   refine ⟨fun t n cs d ht _ h hw=>?_,fun fs off n cs ht=>by simp [jA] at ht⟩
   simp only [jA] at ht
   split at ht
   · rename_i k' hu
     simp only [decide_eq_true_eq] at ht
     subst ht
     obtain ⟨z,rfl,_,hw'⟩:=DataW.trod_int hu h
     refine ⟨z,rfl,?_⟩
     show _ ∧ _
     simpa [Lit.wf] using hw'
   · cases ht
 | bool =>
   refine ⟨fun t n cs d ht _ h hw=>?_,fun fs off n cs ht=>by simp [jA] at ht⟩
   simp only [jA] at ht
   split at ht
   · rename_i hu
     obtain ⟨z,rfl,_⟩:=DataW.trod_bool hu h
     exact ⟨z,rfl,trivial⟩
   · cases ht
 | str =>
   refine ⟨fun t n cs d ht _ h hw=>?_,fun fs off n cs ht=>by simp [jA] at ht⟩
   simp only [jA] at ht
   split at ht
   · rename_i hu
     obtain ⟨z,rfl,rfl,_⟩:=DataW.trod_string hu h
     refine ⟨z,rfl,?_⟩
     have h6:=hw z.data.toList.length (by rw [DataW.weights]; exact List.mem_singleton.mpr rfl)
     show z.data.size≤2 ^ 47
     rw [← Array.length_toList]; exact h6
   · cases ht
 | unit =>
   refine ⟨fun t n cs d ht hc h hw=>?_,fun fs off n cs ht hf hl=>?_⟩
   · simp only [jA] at ht
     split at ht
     · rename_i hfs
       obtain ⟨h1,_⟩:=xK hfs h hw
       rw [hc] at h1
       exact ⟨(),List.eq_nil_of_length_eq_zero h1,trivial⟩
     · cases ht
   · refine ⟨(),?_,trivial⟩
     show cs.drop off = []
     apply List.drop_eq_nil_of_le
     simp only [Ty.size] at hl
     omega
 | pair a b iha ihb =>
   have inl:∀ (fs:List (Nat×TypeId)) (off n:Nat) (cs:List Value),jA P (.pair a b) (.inl (fs,off)) = true→(∀ f ∈ fs,∃ d,DataW.trod enc P W 0 sp held n f.2 ((cs.drop f.1).take (P.cellsOf f.2)) = some d ∧ ∀ k ∈ d.1.weights P f.2,k≤2 ^ 47)→cs.length = off + (a.size + b.size)→∃ x,bC M4 W (.pair a b) x (cs.drop off) ∧ UD (.pair a b) x:=by
    intro fs off n cs ht hf hl
    match fs,ht with
    | (o,t')::r,ht =>
      simp only [jA,Bool.and_eq_true] at ht
      obtain ⟨h1,h2,h3,h4⟩:=ht
      obtain rfl:=Nat.eq_of_beq_eq_true h1
      have h2:=Nat.eq_of_beq_eq_true h2
      obtain ⟨d,hd,hdw⟩:=hf (o,t') (by simp)
      simp only at hd
      obtain ⟨x,hx,wx⟩:=iha.1 t' n _ d h3 h2 hd hdw
      obtain ⟨y,hy,wy⟩:=ihb.2 r (o + a.size) n cs h4 (fun f hfm=>hf f (by simp [hfm])) (by omega)
      refine ⟨(x,y),⟨_,_,?_,hx,hy⟩,wx,wy⟩
      rw [h2,← List.drop_drop,List.take_append_drop]
    | [],ht=>simp [jA] at ht
   refine ⟨fun t n cs d ht hc h hw=>?_,fun fs off n cs ht hf hl=>inl fs off n cs ht hf (by simpa [Ty.size] using hl)⟩
   simp only [jA] at ht
   split at ht
   · rename_i o t' r hfs
     simp only [Bool.and_eq_true] at ht
     obtain ⟨h1,h2,h3,h4⟩:=ht
     obtain rfl:=Nat.eq_of_beq_eq_true h1
     obtain ⟨q1,m,q2⟩:=xK hfs h hw
     have:=inl ((0,t')::r) 0 m cs (by simp only [jA,Bool.and_eq_true]; exact ⟨by simp,h2,h3,by rw [Nat.zero_add]; exact h4⟩) q2 (by rw [q1,hc]; simp [Ty.size])
     simpa using this
   · cases ht
 | sl t ih =>
   refine ⟨fun tt n cs d ht _ h hw=>?_,fun fs off n cs ht=>by simp [jA] at ht⟩
   simp only [jA] at ht
   split at ht
   · rename_i e hu
     simp only [Bool.and_eq_true] at ht
     obtain ⟨h1,h2,h3,hb⟩:=ht
     have h2:=Nat.eq_of_beq_eq_true h2
     have h3:0 < t.size:=by simpa [Nat.blt_eq] using h3
     have hb:0 < P.bytesOf e:=by simpa [Nat.blt_eq] using hb
     rcases DataW.trod_slice hu h with ⟨rfl,_⟩ | ⟨ad,len,cap,elems,rest,m,_,rfl,rfl,_,hlc,hcm,hel,hei,_⟩
     · exact ⟨_,uz t,Nat.zero_le _,fun i hi=>absurd hi (Nat.not_lt_zero _)⟩
     · simp only [DataW.weights,hu] at hw
       have Wh:len≤2 ^ 47:=by
        have h6:=hw _ List.mem_cons_self
        simp only [List.length_map] at h6
        have h7:elems.length + rest.length≤(elems.length + rest.length) * P.bytesOf e:=Nat.le_mul_of_pos_right _ hb
        omega
       have each:∀ i,i < len→∃ y,(∃ us,bC M4 W t y us ∧ jY M4 W ad.block (ad.off + i * t.size) us) ∧ UD t y:=by
        intro i hi
        have h4:=hei i hi
        rw [List.getElem?_eq_getElem (by omega)] at h4
        obtain ⟨us,h5,h6⟩:=Option.bind_eq_some_iff.mp h4
        obtain ⟨y,h7,h8⟩:=ih.1 e m us _ h1 h2 h6 fun k hk=>hw k (List.mem_cons_of_mem _ (List.mem_append_left _ (qw (List.mem_map.mpr ⟨elems[i],List.getElem_mem _,rfl⟩) k hk)))
        refine ⟨y,⟨us,h7,fun j v hj=>⟨rfl,?_⟩⟩,h8⟩
        obtain ⟨b,o,UE⟩:=ad
        rw [h2] at h5
        exact OC h5 j v hj
       refine ⟨{ len,get:=fun i=>if hi:i < len then Classical.choose (each i hi) else t.zero },⟨some ad,cap,rfl,hlc,⟨(fun e=>nomatch e),by simp⟩,fun yB had=>?_⟩,Wh,fun i hi=>?_⟩
       · cases had
         refine ⟨fun hp=>?_,fun i hi=>?_⟩
         · have hp:0 < len:=hp
           have h4:=hei 0 hp
           rw [List.getElem?_eq_getElem (by omega)] at h4
           obtain ⟨us,h5,h6⟩:=Option.bind_eq_some_iff.mp h4
           obtain ⟨b,o,UE⟩:=ad
           rw [Nat.zero_mul,h2] at h5
           exact Sc h5 h3
         · have hi:i < len:=hi
           simp only [dif_pos hi]
           exact (Classical.choose_spec (each i hi)).1
       · have hi:i < len:=hi
         simp only [dif_pos hi]
         exact (Classical.choose_spec (each i hi)).2
   · cases ht
theorem OD {r:Reach} {b0:Nat} {ty:Ty} {t:TypeId} {v:Value} (ht:jA P ty (.inr t) = true) (hval:Value.okWide P W r b0 t v):v = mkV ty v.cells.toList:=by
 have scalar:∀ (td:TypeDesc),P.underlying t = some td→(∀ fs,td ≠ .struct fs)→(∀ n e,td ≠ .array n e)→(td = .bool ∨ td = .string ∨ (∃ k,td = .int k) ∨ ∃ e,td = .slice e)→v.cells.toList = [v]:=by
  intro td hu h1 h2 h3
  cases v <;> first | rfl | skip
  exfalso
  rcases h3 with rfl | rfl | ⟨k,rfl⟩ | ⟨e,rfl⟩ <;> simp [Value.okWide,Cell.okWide,Cell.ok,hu] at hval
 have agg:∀ fs,nS P t = some fs→∃ cs:Array Value,v = .agg cs:=by
  intro fs hfs
  unfold nS at hfs
  split at hfs
  · rename_i hu
    simp only [Value.okWide,hu] at hval
    obtain ⟨cs,h,_⟩:=hval
    exact ⟨cs,h⟩
  · rename_i hu
    simp only [Value.okWide,hu] at hval
    obtain ⟨cs,h,_⟩:=hval
    exact ⟨cs,h⟩
  · cases hfs
 cases ty with
 | int k =>
   simp only [jA] at ht
   split at ht
   · rename_i hu; rw [scalar _ hu (fun _ e=>by cases e) (fun _ _ e=>by cases e) (.inr (.inr (.inl ⟨_,rfl⟩)))]; rfl
   · cases ht
 | bool =>
   simp only [jA] at ht
   split at ht
   · rename_i hu; rw [scalar _ hu (fun _ e=>by cases e) (fun _ _ e=>by cases e) (.inl rfl)]; rfl
   · cases ht
 | str =>
   simp only [jA] at ht
   split at ht
   · rename_i hu; rw [scalar _ hu (fun _ e=>by cases e) (fun _ _ e=>by cases e) (.inr (.inl rfl))]; rfl
   · cases ht
 | sl t' =>
   simp only [jA] at ht
   split at ht
   · rename_i hu; rw [scalar _ hu (fun _ e=>by cases e) (fun _ _ e=>by cases e) (.inr (.inr (.inr ⟨_,rfl⟩)))]; rfl
   · cases ht
 | unit =>
   simp only [jA] at ht
   split at ht
   · rename_i hfs
     obtain ⟨cs,rfl⟩:=agg _ hfs
     simp [mkV,Value.cells]
   · cases ht
 | pair a b =>
   simp only [jA] at ht
   split at ht
   · rename_i hfs
     obtain ⟨cs,rfl⟩:=agg _ hfs
     simp [mkV,Value.cells]
   · cases ht
def mJ (P:Program):List Ty→List TypeId→Bool
 | [],[]=>true
 | ty::r,t::s=>jA P ty (.inr t)&&(Nat.beq (P.cellsOf t) ty.size&&(P.readableRec t&&(Nat.blt t P.types.size&&mJ P r s)))
 | _,_=>false
@[reducible] def I4:List Ty→List In
  | []=>[]
  | t::r=>.v t::I4 r
def J7:(tys:List Ty)→jK (I4 tys)→Prop
 | [],_=>True
 | t::r,x=>UD t x.1 ∧ J7 r x.2
theorem Di {base:Nat}:∀ {tys:List Ty} {ts:List TypeId} {vs:List Value} {ds:List (DataW H)} {ps:List MemPlace} {i0:Nat},mJ P tys ts = true→DataW.TrodAll enc P W 0 sp held ts vs ds ps →
 (∀ (j:Nat) t v,ts[j]? = some t→vs[j]? = some v→Value.okWide P W .any base t v)→(∀ k ∈ DataW.weightsEach P ts ds,k≤2 ^ 47) →
 ∃ x:jK (I4 tys),kE (fun _ _ _=>(none,0,0)) M4 W (I4 tys) x i0 vs ∧ J7 tys x
 | [],[],vs,ds,ps,i0,_,h,_,_=>by
   obtain ⟨rfl,rfl,rfl⟩:=trodAll_nil h
   exact ⟨(),by simp only [kE],trivial⟩
 | [],_::_,vs,ds,ps,i0,hb,_,_,_=>by simp [mJ] at hb
 | _::_,[],vs,ds,ps,i0,hb,_,_,_=>by simp [mJ] at hb
 | ty::r,t::s,vs,ds,ps,i0,hb,h,hval,hw=>by
   obtain ⟨v,vs',d,ds',p,q,rfl,rfl,rfl,⟨fuel,hd⟩,hrest⟩:=trodAll_cons h
   simp only [mJ,Bool.and_eq_true] at hb
   obtain ⟨h1,h2,_,_,h5⟩:=hb
   simp only [DataW.weightsEach,List.mem_append] at hw
   obtain ⟨x,hx,wx⟩:=(Sd ty).1 t fuel _ _ h1 (Nat.eq_of_beq_eq_true h2) hd (fun k hk=>hw k (.inl hk))
   obtain ⟨y,hy,wy⟩:=Di (i0:=i0 + 1) h5 hrest (fun j t v ht hv=>hval (j + 1) t v (by simpa using ht) (by simpa using hv)) (fun k hk=>hw k (.inr hk))
   refine ⟨(x,y),?_,wx,wy⟩
   simp only [kE]
   exact ⟨v,vs',rfl,⟨_,hx,OD h1 (hval 0 t v rfl rfl)⟩,hy⟩
theorem sN {tys:List Ty} (hl:laidOutB P = true) {W':World} (hb:Below W.heap.size W W'):∀ {tys:List Ty} {ts:List TypeId} {vs:List Value} {ds:List (DataW H)} {ps:List MemPlace},mJ P tys ts = true →
 DataW.TrodAll enc P W 0 (fun _=>true) true ts vs ds ps→(∀ x ∈ ps,x.block < W.heap.size)→DataW.TrodAll enc P W' 0 (fun b=>decide (b < W.heap.size)) true ts vs ds ps
 | [],[],vs,ds,ps,_,h,_=>by
   obtain ⟨rfl,rfl,rfl⟩:=trodAll_nil h
   exact trodAll_mk0
 | [],_::_,vs,ds,ps,hb,_,_=>by simp [mJ] at hb
 | _::_,[],vs,ds,ps,hb,_,_=>by simp [mJ] at hb
 | ty::r,t::s,vs,ds,ps,hab,h,hlt=>by
   obtain ⟨v,vs',d,ds',p,q,rfl,rfl,rfl,hd,hrest⟩:=trodAll_cons h
   simp only [mJ,Bool.and_eq_true] at hab
   obtain ⟨_,_,h3,h4,h5⟩:=hab
   exact ⟨p,q,Below.trod hl h3 (by simpa [Nat.blt_eq] using h4) hd hb (fun x hx=>hlt x (List.mem_append_left _ hx)),sN (tys:=r) hl hb h5 hrest (fun x hx=>hlt x (List.mem_append_right _ hx)),rfl⟩
theorem BO {W':World} (h:Keep M4 W W'):Below W.heap.size W W':=⟨h.os,h.tape,h.output,h.size,fun k hk=>h.blk k hk fun _ _ e=>(by cases e)⟩
theorem Mk (agp:Ct M4 W) {tys:List Ty} {F:jK (I4 tys)→Option (dR [.bool]×lI (I4 tys))} {f:FuncId} {fn:Func} {s:ChangeSpec} (hh:Holds P f { ins:=I4 tys,out:=[.bool],F }) (Zo:∀ x,J7 tys x→∃ z,F x = some ((true,()),z))
 (hl:laidOutB P = true) (hp:mJ P tys fn.params.toList = true) {tb:TypeId} (hr:fn.resultTypes = #[tb]) (htb:P.underlying tb = some .bool) (hv:s.vars = []) (hsf:∀ ds:List (DataW H),ds.length = tys.length→s.fn H ds = { results:=[.lit (.bool true)],args:=ds })
 {base:Nat} {args:Array Value} {ds gs:List (DataW H)} {before:List MemPlace} (hval:∀ (j:Nat) t v,fn.params[j]? = some t→args[j]? = some v→Value.okWide P W .any base t v)
 (hW:DataW.Whole enc P fn.params.toList s.vars false W args.toList ds gs before) (hsz:(DataW.weightsEach P (fn.params.toList ++ s.plain.varTypes P) (ds ++ gs)).all (·≤reachBytes) = true) :
 Calls P f args W fun e W'=>∃ v,e = .returned v ∧ s.post enc P fn false true false false W args v W':=by
 have hlt:=hW.lt
 have hW':=hW
 obtain ⟨p,q,hA,hV,rfl,hfz,hnd⟩:=hW
 rw [hv] at hV
 obtain ⟨rfl,rfl⟩:=trodVars_none hV
 have hvt:s.plain.varTypes P = []:=by simp [DataSpec.varTypes,ChangeSpec.plain,hv]
 rw [hvt,List.append_nil,List.append_nil] at hsz
 have hw:∀ k ∈ DataW.weightsEach P fn.params.toList ds,k≤2 ^ 47:=fun k hk=>by
  have:=List.all_eq_true.mp hsz k hk
  have h2:=reachBytes_lt
  simp only [decide_eq_true_eq] at this
  omega
 obtain ⟨x,hx,wx⟩:=Di (i0:=0) hp hA (fun j t v ht hv=>hval j t v (by simpa using ht) (by simpa using hv)) hw
 obtain ⟨z,hz⟩:=Zo x wx
 refine ((hh.2 x _ hz).2 (fun _ _ _=>(none,0,0)) M4 W args (Wd _ agp) hx).mono fun e W' hb=>?_
 obtain ⟨v,col',rfl,h1,h2,hout,_⟩:=hb
 unfold uL at hout
 rw [if_neg (by simp)] at hout
 obtain ⟨vs,h3,rfl⟩:=hout
 have bel:=BO h1
 obtain ⟨u,us,rfl,⟨cs,h4,rfl⟩,h5⟩:=h3
 have h5:us = []:=h5
 subst h5
 have h4:cs = [.bool true]:=h4
 subst h4
 have hdl:ds.length = tys.length:=by
  have e:∀ {tys:List Ty} {ts:List TypeId} {vs:List Value} {ds:List (DataW H)} {ps:List MemPlace},mJ P tys ts = true→DataW.TrodAll enc P W 0 (fun _=>true) true ts vs ds ps→ds.length = tys.length:=by
   intro tys
   induction tys with
   | nil =>
     intro ts vs ds ps hb h
     cases ts with
     | nil=>obtain ⟨rfl,rfl,rfl⟩:=trodAll_nil h; rfl
     | cons _ _=>simp [mJ] at hb
   | cons ty r ih =>
     intro ts vs ds ps hb h
     cases ts with
     | nil=>simp [mJ] at hb
     | cons t s =>
       obtain ⟨v,vs',d,ds',p,q,rfl,rfl,rfl,hd,hrest⟩:=trodAll_cons h
       simp only [mJ,Bool.and_eq_true] at hb
       simp [ih hb.2.2.2.2 hrest]
  exact e hp hA
 refine ⟨_,rfl,ds,[],_,[],p,[],hW',?_,?_,?_,bel.frame _,fun h=>(by cases h)⟩
 · rw [List.append_nil,hsf ds hdl,hr]
   refine trodAll_mk1 ⟨1,?_⟩
   simp [DataW.trod,htb,mkV,Value.cells,yD]
 · rw [List.append_nil,hsf ds hdl]
   exact sN (tys:=tys) hl bel hp hA fun x hx=>hlt x (List.mem_append_left _ hx)
 · rw [List.append_nil,hsf ds hdl,hv]
   rfl
end
end Go.VE
