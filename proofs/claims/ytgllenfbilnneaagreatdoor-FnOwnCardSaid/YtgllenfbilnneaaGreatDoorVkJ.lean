import Derived.Test.YtgllenfbilnneaaGreatDoorVkI
/- Each operation of the evaluator is what the machine does: things of cells. -/
namespace Go.VE
theorem FJ {P:Program} {g:Gh} {w:World} {t:TypeId} {cs:List PV} {vs:List Value} {off:Nat} {p:PV} (h:Rs P t (cs.drop off) = some p) (hr:ak g w cs vs) :
 ∃ v,(part t vs.toArray off).run P w = .ok v w ∧ aF g w p v:=by
 have hd:=hr.drop off
 unfold Rs at h
 split at h
 · rename_i n h1 h2
   split at h
   · rename_i hn
     cases h
     refine ⟨.agg ((vs.drop off).take n).toArray,?_,by simp only [aF]; exact ⟨_,rfl,hd.take n⟩⟩
     simp only [part,Sem.run_bind,nO h1,Result.andThen_ok,if_true,eX h2,Sem.run_pure]
     congr 2
     apply Array.ext'
     simp
   · cases h
 · rename_i n h1 h2
   split at h
   · rename_i c r hc
     cases h
     rw [hc] at hd
     simp only [ak] at hd
     obtain ⟨u,us,e,h3,_⟩:=hd
     have hu:vs[off]? = some u:=by
      have:=congrArg (fun l=>l[0]?) e
      simpa using this
     refine ⟨u,?_,h3⟩
     simp only [part,Sem.run_bind,nO h1,Result.andThen_ok]
     rw [if_neg (by simp)]
     simp [hu]
   · cases h
 · cases h
theorem foldl_set:∀ (l:List Value) (k off:Nat) (cells:Array Value),off + k + l.length≤cells.size →
 ((l.zipIdx k).foldl (fun (cs:Array Value) (x:Value×Nat)=>cs.setIfInBounds (off + x.2) x.1) cells).toList = cells.toList.take (off + k) ++ l ++ cells.toList.drop (off + k + l.length)
 | [],k,off,cells,_=>by simp
 | v::r,k,off,cells,h=>by
   simp only [List.length_cons] at h
   simp only [List.zipIdx_cons,List.foldl_cons]
   rw [foldl_set r (k + 1) off _ (by simp; omega)]
   apply List.ext_getElem?
   intro j
   have hl:cells.toList.length = cells.size:=by simp
   simp only [List.getElem?_append,List.getElem?_take,List.getElem?_drop,List.length_append,List.length_take,List.length_cons,Array.toList_setIfInBounds,List.length_set,List.getElem?_set,hl]
   by_cases h1:j < off + k
   · rw [if_pos (by omega),if_pos (by omega),if_pos (by omega),if_neg (by omega),if_pos (by omega),if_pos (by omega),if_pos (by omega)]
   · by_cases h2:j = off + k
     · subst h2
       rw [if_pos (by omega),if_pos (by omega),if_pos (by omega),if_pos rfl,if_pos (by omega),if_pos (by omega),if_neg (by omega)]
       rw [show off + k - min (off + k) cells.size = 0 by omega]; rfl
     · by_cases h3:j < off + k + 1 + r.length
       · rw [if_pos (by omega),if_neg (by omega),if_pos (by omega),if_neg (by omega)]
         rw [show j - min (off + k) cells.size = (j - min (off + (k + 1)) cells.size) + 1 by omega,List.getElem?_cons_succ]
       · rw [if_neg (by omega),if_neg (by omega),if_neg (by omega)]
         congr 1
         omega
theorem FK (cells:Array Value) (v:Value) (off:Nat) (h:off + v.cells.toList.length≤cells.size) :
 (v.cells.zipIdx.foldl (fun (cs:Array Value) (x:Value×Nat)=>cs.setIfInBounds (off + x.2) x.1) cells).toList = cells.toList.take off ++ v.cells.toList ++ cells.toList.drop (off + v.cells.toList.length):=by
 rw [← Array.foldl_toList,Array.toList_zipIdx]
 have:=foldl_set v.cells.toList 0 off cells (by simpa using h)
 simpa using this
theorem wM {g:Gh} {w:World} {ρ:Operand→Value} {env:Nat→PV} (hρ:∀ x,aF g w (jQ env x) (ρ x)) (place:Nat→Option (Nat×Nat)):∀ (parts:List (Nat×Operand)) (cs cs':List PV) (cells:Array Value),
 Cj place cs (parts.map fun p=>(p.1,jQ env p.2)) = some cs'→ak g w cs cells.toList→∃ out,Instr.fill place cells (parts.map fun p=>(p.1,ρ p.2)) = some out ∧ ak g w cs' out.toList
 | [],cs,cs',cells,h,hr=>by
   simp only [List.map_nil,Cj,Option.some.injEq] at h
   subst h
   exact ⟨cells,by simp [Instr.fill],hr⟩
 | (i,x)::r,cs,cs',cells,h,hr=>by
   simp only [List.map_cons,Cj] at h
   split at h
   · rename_i off size hp
     split at h
     · rename_i hh
       obtain ⟨wO,hz,hl⟩:=hh
       obtain ⟨oW,_⟩:=oQ (hρ x) wO
       have hlen:(ρ x).cells.toList.length = (jQ env x).dY.length:=oW.length
       have hcl:cells.toList.length = cs.length:=hr.length
       have hsz:(ρ x).cells.size = size:=by rw [← hz,← hlen]; simp
       have hfit:off + (ρ x).cells.toList.length≤cells.size:=by
        have:cells.toList.length = cells.size:=by simp
        omega
       have hone:=FK cells (ρ x) off hfit
       have ih:=wM hρ place r _ cs' _ h (by rw [hone]; unfold splice; rw [← hlen]; exact ak.append (ak.append (hr.take off) oW) (hr.drop _))
       obtain ⟨out,h1,h2⟩:=ih
       refine ⟨out,?_,h2⟩
       simp only [List.map_cons,Instr.fill,hp]
       rw [if_neg]
       · exact h1
       · simp only [Array.length_toList] at hfit
         simp [hsz]
         omega
     · cases h
   · cases h
theorem tF {P:Program} {t:TypeId} {cs:List PV} (h:zeroOf P t = some cs) (g:Gh) (w:World):∃ z,(zeroValue t).run P w = .ok z w ∧ ak g w cs z.cells.toList:=by
 unfold zeroOf at h
 split at h
 · rename_i i hi
   split at h
   · rename_i z hz
     cases h
     refine ⟨z,by simp [zeroValue,typeInfo,hi,hz],ak.oP (by simp) fun j p v hp hv=>?_⟩
     simp only [List.getElem?_map,hv,Option.map_some,Option.some.injEq] at hp
     subst hp; exact Nv g w v
   · cases h
 · cases h
theorem NI:∀ {t:Ty} {cs:List PV} {x:t.T} {r:List PV},un t cs = some (x,r)→∃ c1,cs = c1 ++ r ∧ c1.length = t.size ∧ c1.all PV.solid = true:=by
 intro t
 induction t with
 | int k =>
   intro cs x r h
   cases cs with
   | nil=>simp [un] at h
   | cons p ps=>cases p <;> simp [un] at h; obtain ⟨_,_,rfl⟩:=h; exact ⟨[_],rfl,rfl,rfl⟩
 | bool =>
   intro cs x r h
   cases cs with
   | nil=>simp [un] at h
   | cons p ps=>cases p <;> simp [un] at h; obtain ⟨_,rfl⟩:=h; exact ⟨[_],rfl,rfl,rfl⟩
 | str =>
   intro cs x r h
   cases cs with
   | nil=>simp [un] at h
   | cons p ps=>cases p <;> simp [un] at h; obtain ⟨_,rfl⟩:=h; exact ⟨[_],rfl,rfl,rfl⟩
 | unit=>intro cs x r h; simp [un] at h; subst h; exact ⟨[],rfl,rfl,rfl⟩
 | pair a b iha ihb =>
   intro cs x r h
   simp only [un] at h
   split at h
   · rename_i x1 r1 h1
     split at h
     · rename_i x2 r2 h2
       simp only [Option.some.injEq,Prod.mk.injEq] at h
       obtain ⟨_,rfl⟩:=h
       obtain ⟨c1,rfl,l1,s1⟩:=iha h1
       obtain ⟨c2,rfl,l2,s2⟩:=ihb h2
       exact ⟨c1 ++ c2,by simp,by simp [l1,l2,Ty.size],by simp [s1,s2]⟩
     · cases h
   · cases h
 | sl t ih =>
   intro cs x r h
   cases cs with
   | nil=>simp [un] at h
   | cons p ps =>
     cases p <;> simp only [un] at h <;> try cases h
     · exact ⟨[_],rfl,rfl,rfl⟩
     · split at h
       · simp only [Option.some.injEq,Prod.mk.injEq] at h
         obtain ⟨_,rfl⟩:=h
         exact ⟨[_],rfl,rfl,rfl⟩
       · cases h
theorem LM {t:Ty} {cs:List PV} {x:t.T} (h:yt t cs = some x):cs.all PV.solid = true ∧ cs.length = t.size:=by
 simp only [yt] at h
 split at h
 · rename_i y h1
   obtain ⟨c1,e,l,s⟩:=NI h1
   rw [List.append_nil] at e
   subst e
   exact ⟨s,l⟩
 · cases h
theorem Am {g:Gh} {w:World} {ρ:Operand→Value} {env:Nat→PV} (hρ:∀ x,aF g w (jQ env x) (ρ x)) (sz:Nat):∀ (parts:List (Nat×Operand)) (k:Nat) (pre rest:List Value),
 (parts.map fun p=>p.1) = List.range' k parts.length→(∀ p ∈ parts,(jQ env p.2).dY.all PV.solid = true ∧ (jQ env p.2).dY.length = sz)→pre.length = k * sz→rest.length = parts.length * sz →
 ∃ news,Instr.fill (fun i=>some (i * sz,sz)) (pre ++ rest).toArray (parts.map fun p=>(p.1,ρ p.2)) = some (pre ++ news).toArray ∧ news.length = parts.length * sz ∧ (∀ v ∈ news,v.oneCell' = true) ∧
   ∀ i p,parts[i]? = some p→∃ us,us.length = sz ∧ ak g w (jQ env p.2).dY us ∧ ∀ (q:Nat) (v:Value),us[q]? = some v→news[i * sz + q]? = some v
 | [],k,pre,rest,_,_,_,hr=>by
   have:rest = []:=List.eq_nil_of_length_eq_zero (by rw [hr]; simp)
   subst this
   exact ⟨[],by simp [Instr.fill],by simp,by simp,fun i p e=>by simp at e⟩
 | (i,x)::r,k,pre,rest,hi,hx,hp,hr=>by
   simp only [List.map_cons,List.length_cons,List.range'_succ,List.cons.injEq] at hi
   obtain ⟨rfl,hi⟩:=hi
   obtain ⟨wO,hsz⟩:=hx (i,x) (by simp)
   obtain ⟨oW,hone⟩:=oQ (hρ x) wO
   have hvl:(ρ x).cells.toList.length = sz:=oW.length.trans hsz
   simp only [List.length_cons,Nat.add_mul,Nat.one_mul] at hr
   have hf:=FK (pre ++ rest).toArray (ρ x) (i * sz) (by simp at hvl ⊢; omega)
   have e1:((pre ++ rest).toArray.toList.take (i * sz) ++ (ρ x).cells.toList ++ (pre ++ rest).toArray.toList.drop (i * sz + (ρ x).cells.toList.length)) = (pre ++ (ρ x).cells.toList) ++ rest.drop sz:=by
    rw [← hp,List.take_left,hvl,List.drop_append,List.drop_eq_nil_of_le (by omega),List.nil_append,Nat.add_sub_cancel_left]
   rw [e1] at hf
   obtain ⟨news,h1,h2,h3,h4⟩:=Am hρ sz r (i + 1) (pre ++ (ρ x).cells.toList) (rest.drop sz) hi (fun p hp=>hx p (by simp [hp])) (by rw [List.length_append,hp,hvl,Nat.add_mul,Nat.one_mul]) (by rw [List.length_drop]; omega)
   refine ⟨(ρ x).cells.toList ++ news,?_,?_,fun v hv=>?_,fun j p hj=>?_⟩
   · simp only [List.map_cons,Instr.fill]
     rw [if_neg]
     · rw [show (Array.foldl (fun cs x_1=>match x_1 with | (c,j)=>cs.setIfInBounds (i * sz + j) c) (pre ++ rest).toArray (ρ x).cells.zipIdx) = ((pre ++ (ρ x).cells.toList) ++ rest.drop sz).toArray from by
        apply Array.ext'; rw [List.toList_toArray]; exact hf]
       rw [h1]; simp
     · simp only [Array.length_toList] at hvl
       simp [hvl]; omega
   · simp only [List.length_append,hvl,h2,List.length_cons,Nat.add_mul,Nat.one_mul]; omega
   · rcases List.mem_append.mp hv with hv | hv
     · exact hone v hv
     · exact h3 v hv
   · cases j with
     | zero =>
       simp at hj; subst hj
       exact ⟨_,hvl,oW,fun q v hq=>by rw [Nat.zero_mul,Nat.zero_add,List.getElem?_append_left (List.getElem?_eq_some_iff.mp hq).1]; exact hq⟩
     | succ j =>
       simp only [List.getElem?_cons_succ] at hj
       obtain ⟨us,q1,q2,q3⟩:=h4 j p hj
       refine ⟨us,q1,q2,fun q v hq=>?_⟩
       rw [List.getElem?_append_right (by rw [hvl,Nat.add_mul]; omega),hvl,show (j + 1) * sz + q - sz = j * sz + q by rw [Nat.add_mul]; omega]
       exact q3 q v hq
/-! ### Things by their slices -/
def jJ (Q:Nat→(u:Ty)→L u.T→bT→Prop):(t:Ty)→t.T→List Value→Nat→Prop
 | .int k,n,vs,_=>vs = [.int k n]
 | .bool,b,vs,_=>vs = [.bool b]
 | .str,s,vs,_=>vs = [.string s]
 | .unit,_,vs,_=>vs = []
 | .pair a b,x,vs,j=>∃ v1 v2,vs = v1 ++ v2 ∧ jJ Q a x.1 v1 j ∧ jJ Q b x.2 v2 (j + a.bJ)
 | .sl u,x,vs,j=>∃ h,vs = [gP h] ∧ Q j u x h
theorem jJ.length {Q:Nat→(u:Ty)→L u.T→bT→Prop}:∀ {t:Ty} {x:t.T} {vs:List Value} {j:Nat},jJ Q t x vs j→vs.length = t.size:=by
 intro t
 induction t with
 | int k=>rintro x vs j rfl; rfl
 | bool=>rintro x vs j rfl; rfl
 | str=>rintro x vs j rfl; rfl
 | unit=>rintro x vs j rfl; rfl
 | pair a b iha ihb =>
   rintro x vs j ⟨v1,v2,rfl,h1,h2⟩
   simp [Ty.size,iha h1,ihb h2]
 | sl t ih=>rintro x vs j ⟨h,rfl,_⟩; rfl
theorem jJ.mono {Q Q':Nat→(u:Ty)→L u.T→bT→Prop}:∀ {t:Ty} {x:t.T} {vs:List Value} {j:Nat},(∀ j' u y h,j≤j'→j' < j + t.bJ→Q j' u y h→Q' j' u y h)→jJ Q t x vs j→jJ Q' t x vs j:=by
 intro t
 induction t with
 | int k=>exact fun _ h=>h
 | bool=>exact fun _ h=>h
 | str=>exact fun _ h=>h
 | unit=>exact fun _ h=>h
 | pair a b iha ihb =>
   rintro x vs j hq ⟨v1,v2,e,h1,h2⟩
   simp only [Ty.bJ] at hq
   exact ⟨v1,v2,e,iha (fun j' u y h l1 l2=>hq j' u y h l1 (by omega)) h1,ihb (fun j' u y h l1 l2=>hq j' u y h (by omega) (by omega)) h2⟩
 | sl t ih=>rintro x vs j hq ⟨h,e,h1⟩; exact ⟨h,e,hq j t x h (Nat.le_refl _) (by simp [Ty.bJ]) h1⟩
theorem jJ.hdr {Q:Nat→(u:Ty)→L u.T→bT→Prop}:∀ {t:Ty} {x:t.T} {vs:List Value} {j:Nat},jJ Q t x vs j→∃ hf:Nat→bT,jJ (fun j' u y h=>Q j' u y h ∧ h = hf j') t x vs j:=by
 intro t
 induction t with
 | int k=>exact fun h=>⟨fun _=>(none,0,0),h⟩
 | bool=>exact fun h=>⟨fun _=>(none,0,0),h⟩
 | str=>exact fun h=>⟨fun _=>(none,0,0),h⟩
 | unit=>exact fun h=>⟨fun _=>(none,0,0),h⟩
 | pair a b iha ihb =>
   rintro x vs j ⟨v1,v2,e,h1,h2⟩
   obtain ⟨f1,q1⟩:=iha h1
   obtain ⟨f2,q2⟩:=ihb h2
   exact ⟨fun j'=>if j' < j + a.bJ then f1 j' else f2 j',v1,v2,e,q1.mono fun j' u y h l1 l2 hq=>⟨hq.1,hq.2.trans (if_pos l2).symm⟩,q2.mono fun j' u y h l1 l2 hq=>⟨hq.1,hq.2.trans (if_neg (by omega)).symm⟩⟩
 | sl t ih=>rintro x vs j ⟨h,e,h1⟩; exact ⟨fun _=>h,h,e,h1,rfl⟩
theorem jJ.toN {c:Nat→Nat→Col} {w:World} {R:iI} {nh:Nat→Nat→bT} {own:Bool} {i:Nat} {Q:Nat→(u:Ty)→L u.T→bT→Prop}:∀ {t:Ty} {x:t.T} {vs:List Value} {j:Nat},(∀ j' u y h,j≤j'→j' < j + t.bJ→Q j' u y h→bD c w R nh own i (.sl u) y [gP h] j')→jJ Q t x vs j→bD c w R nh own i t x vs j:=by
 intro t
 induction t with
 | int k=>exact fun _ h=>h
 | bool=>exact fun _ h=>h
 | str=>exact fun _ h=>h
 | unit=>exact fun _ h=>h
 | pair a b iha ihb =>
   rintro x vs j hq ⟨v1,v2,e,h1,h2⟩
   simp only [Ty.bJ] at hq
   exact ⟨v1,v2,e,iha (fun j' u y h l1 l2=>hq j' u y h l1 (by omega)) h1,ihb (fun j' u y h l1 l2=>hq j' u y h (by omega) (by omega)) h2⟩
 | sl t ih=>rintro x vs j hq ⟨h,e,h1⟩; rw [e]; exact hq j t x h (Nat.le_refl _) (by simp [Ty.bJ]) h1
theorem bD.toP {c:Nat→Nat→Col} {w:World} {R:iI} {nh:Nat→Nat→bT} {own:Bool} {i:Nat}:∀ {t:Ty} {x:t.T} {vs:List Value} {j:Nat},bD c w R nh own i t x vs j→jJ (fun j' u y h=>h = nh i j' ∧ bD c w R nh own i (.sl u) y [gP h] j') t x vs j:=by
 intro t
 induction t with
 | int k=>exact fun h=>h
 | bool=>exact fun h=>h
 | str=>exact fun h=>h
 | unit=>exact fun h=>h
 | pair a b iha ihb =>
   rintro x vs j ⟨v1,v2,e,h1,h2⟩
   exact ⟨v1,v2,e,iha h1,ihb h2⟩
 | sl t ih=>intro x vs j h; exact ⟨nh i j,h.1,rfl,by have:=h.1; rw [← this]; exact h⟩
theorem jJ.toT {c:Nat→Nat→Col} {w:World} {Q:Nat→(u:Ty)→L u.T→bT→Prop}:∀ {t:Ty} {x:t.T} {vs:List Value} {j:Nat},(∀ j' u y h,j≤j'→j' < j + t.bJ→Q j' u y h→bC c w (.sl u) y [gP h])→jJ Q t x vs j→bC c w t x vs:=by
 intro t
 induction t with
 | int k=>exact fun _ h=>h
 | bool=>exact fun _ h=>h
 | str=>exact fun _ h=>h
 | unit=>exact fun _ h=>h
 | pair a b iha ihb =>
   rintro x vs j hq ⟨v1,v2,e,h1,h2⟩
   simp only [Ty.bJ] at hq
   exact ⟨v1,v2,e,iha (fun j' u y h l1 l2=>hq j' u y h l1 (by omega)) h1,ihb (fun j' u y h l1 l2=>hq j' u y h (by omega) (by omega)) h2⟩
 | sl t ih=>rintro x vs j hq ⟨h,e,h1⟩; rw [e]; exact hq j t x h (Nat.le_refl _) (by simp [Ty.bJ]) h1
def dX:Ty→List PV→Nat→PV
 | .sl _,p::_,_=>p
 | .pair a b,cs,j=>bif Nat.blt j a.bJ then dX a (cs.take a.size) j else dX b (cs.drop a.size) (j - a.bJ)
 | _,_,_=>.any
theorem dN {a b:Nat} (h:Nat.blt a b = false):b≤a:=by
 rcases Nat.lt_or_ge a b with q | q
 · have:Nat.blt a b = true:=by simpa using q
   rw [h] at this; cases this
 · exact q
theorem eY:∀ (a b:List PV),ay (a ++ b) = ay a ++ ay b
 | [],_=>rfl
 | p::r,b=>by cases p <;> simp [ay,eY r b]
section
variable {P:Program} {N:Fr} {c0:Nat→Nat→Col} {w0:World} {σ μ:AS} {g:Gh} {a:Act} {w:World}
def FL (g:Gh) (w:World) (ids:List Nat) (u:Ty) (y:L u.T) (h:bT):Prop :=
 ∃ nh R,cB g.col w R nh (fun _=>true) u y h ∧ ∀ b o,R b o ≠ none→(∃ r ∈ ids,g.col b o = .bx r) ∧ (∃ v,w.cell? ⟨b,o,none⟩ = some v) ∧ w.frozen? ⟨b,o,none⟩ = false
theorem Ea {c:Nat→Nat→Col} (u:Ty) (own:Nat→Bool):cB c w (fun _ _=>none) (fun _ _=>(none,0,0)) own u (iO u) (none,0,0) :=
 ⟨⟨rfl,Nat.le_refl _,fun _=>rfl,by simp [iO]⟩,fun ad e=>(by cases e),fun i hi=>absurd hi (Nat.not_lt_zero i)⟩
theorem yM (hb:bK g w μ.box) {u:Ty} {p:PV} {y:L u.T} {v:Value} (h:Ul μ.box u p = some y) (hr:aF g w p v):∃ hd,v = gP hd ∧ FL g w (ay [p]) u y hd ∧ ∀ r ∈ ay [p],jI r = true ∧ ∃ t x own hv nv,μ.box r = some (.row t x own hv nv):=by
 unfold Ul at h
 split at h
 · simp only [Option.some.injEq] at h; subst h
   simp only [aF] at hr
   exact ⟨(none,0,0),hr,⟨_,_,Ea u _,fun _ _ q=>absurd rfl q⟩,fun r hr=>by simp [ay] at hr⟩
 · rename_i r v'
   split at h
   · rename_i t x hv nv hbx
     split at h
     · rename_i hbq
       obtain rfl:=Ty.eq_of_beq hbq
       cases hq:(Nat.beq v' hv&&jI r) with
       | false=>rw [hq] at h; cases h
       | true =>
         rw [hq] at h
         simp only [cond_true,Option.some.injEq,dx] at h
         subst h
         simp only [Bool.and_eq_true] at hq
         obtain rfl:=Nat.eq_of_beq_eq_true hq.1
         simp only [aF] at hr
         obtain ⟨_,_,_,h4,h5⟩:=hb _ _ hbx
         exact ⟨_,hr.2,⟨_,_,h4,fun b o q=>⟨⟨r,by simp [ay],(h5 b o q).1⟩,(h5 b o q).2⟩⟩,fun r' hr'=>by simp [ay] at hr'; subst hr'; exact ⟨hq.2,_,_,_,_,_,hbx⟩⟩
     · cases h
   · cases h
 · rename_i r v' sz lo hi
   split at h
   · rename_i t x hv nv hbx
     split at h
     · rename_i hbq
       obtain rfl:=Ty.eq_of_beq hbq
       cases hq:(Nat.beq v' hv&&(Nat.beq sz t.size&&jI r)) with
       | false=>rw [hq] at h; cases h
       | true =>
         rw [hq] at h
         simp only [cond_true,Option.some.injEq,dx] at h
         subst h
         simp only [Bool.and_eq_true] at hq
         obtain rfl:=Nat.eq_of_beq_eq_true hq.1
         obtain rfl:=Nat.eq_of_beq_eq_true hq.2.1
         simp only [aF] at hr
         obtain ⟨_,l1,l2,rfl⟩:=hr
         obtain ⟨_,_,_,h4,h5⟩:=hb _ _ hbx
         exact ⟨_,rfl,⟨_,_,h4.cut l1 (by rw [← h4.1.1]; exact l2),fun b o q=>⟨⟨r,by simp [ay],(h5 b o (wH q)).1⟩,(h5 b o (wH q)).2⟩⟩,fun r' hr'=>by simp [ay] at hr'; subst hr'; exact ⟨hq.2.2,_,_,_,_,_,hbx⟩⟩
     · cases h
   · cases h
 · cases h
theorem LP {box:Nat→Option aU} {u:Ty} {p:PV} {y:L u.T} (h:Ul box u p = some y):p.solid = true:=by
 unfold Ul at h
 split at h <;> first | rfl | cases h
theorem jl (hb:bK g w μ.box):∀ {t:Ty} {cs r:List PV} {y:t.T} {vs:List Value},sS μ.box t cs = some (y,r)→ak g w cs vs →
 ∃ c1 v1 v2,cs = c1 ++ r ∧ vs = v1 ++ v2 ∧ ak g w r v2 ∧ ak g w c1 v1 ∧ c1.length = t.size ∧ c1.all PV.solid = true ∧ (∀ r ∈ ay c1,jI r = true ∧ ∃ t x own hv nv,μ.box r = some (.row t x own hv nv)) ∧
   ∀ j0,jJ (fun j u y h=>FL g w (ay [dX t c1 (j - j0)]) u y h) t y v1 j0:=by
 intro t
 induction t with
 | int k =>
   intro cs r y vs h hr
   cases cs with
   | nil=>simp [sS] at h
   | cons p ps =>
     cases p <;> simp [sS] at h
     obtain ⟨rfl,rfl,rfl⟩:=h
     simp only [ak,aF] at hr
     obtain ⟨u,us,rfl,rfl,h3⟩:=hr
     exact ⟨[_],[_],us,rfl,rfl,h3,by simp only [ak,aF]; exact ⟨_,_,rfl,rfl,rfl⟩,rfl,rfl,fun r hr=>by simp [ay] at hr,fun _=>rfl⟩
 | bool =>
   intro cs r y vs h hr
   cases cs with
   | nil=>simp [sS] at h
   | cons p ps =>
     cases p <;> simp [sS] at h
     obtain ⟨rfl,rfl⟩:=h
     simp only [ak,aF] at hr
     obtain ⟨u,us,rfl,rfl,h3⟩:=hr
     exact ⟨[_],[_],us,rfl,rfl,h3,by simp only [ak,aF]; exact ⟨_,_,rfl,rfl,rfl⟩,rfl,rfl,fun r hr=>by simp [ay] at hr,fun _=>rfl⟩
 | str =>
   intro cs r y vs h hr
   cases cs with
   | nil=>simp [sS] at h
   | cons p ps =>
     cases p <;> simp [sS] at h
     obtain ⟨rfl,rfl⟩:=h
     simp only [ak,aF] at hr
     obtain ⟨u,us,rfl,rfl,h3⟩:=hr
     exact ⟨[_],[_],us,rfl,rfl,h3,by simp only [ak,aF]; exact ⟨_,_,rfl,rfl,rfl⟩,rfl,rfl,fun r hr=>by simp [ay] at hr,fun _=>rfl⟩
 | unit =>
   intro cs r y vs h hr
   simp [sS] at h
   subst h
   exact ⟨[],[],vs,rfl,rfl,hr,by simp only [ak],rfl,rfl,fun r hr=>by simp [ay] at hr,fun _=>rfl⟩
 | pair p q Iw Iy =>
   intro cs r y vs h hr
   simp only [sS] at h
   split at h
   · rename_i x1 r1 h1
     split at h
     · rename_i x2 r2 h2
       simp only [Option.some.injEq,Prod.mk.injEq] at h
       obtain ⟨rfl,rfl⟩:=h
       obtain ⟨c1,v1,v2,rfl,rfl,k1,k2,k3,k4,k5,k6⟩:=Iw h1 hr
       obtain ⟨d1,u1,u2,rfl,rfl,l1,l2,l3,l4,l5,l6⟩:=Iy h2 k1
       have e1:(c1 ++ d1).take p.size = c1:=by rw [← k3]; exact List.take_left
       have e2:(c1 ++ d1).drop p.size = d1:=by rw [← k3]; exact List.drop_left
       refine ⟨c1 ++ d1,v1 ++ u1,u2,by simp,by simp,l1,k2.append l2,by simp [k3,l3,Ty.size],by simp [k4,l4],fun r hr=>?_,fun j0=>⟨v1,u1,rfl,(k6 j0).mono fun j u y h a1 a2 hq=>?_,(l6 (j0 + p.bJ)).mono fun j u y h a1 a2 hq=>?_⟩⟩
       · rw [eY] at hr
         rcases List.mem_append.mp hr with hr | hr
         · exact k5 r hr
         · exact l5 r hr
       · have hb':Nat.blt (j - j0) p.bJ = true:=by rw [Nat.blt_eq]; omega
         simp only [dX,hb',cond_true,e1]
         exact hq
       · have hb':Nat.blt (j - j0) p.bJ = false:=by rw [Bool.eq_false_iff]; intro q; have:=Nat.blt_eq.mp q; omega
         simp only [dX,hb',cond_false,e2]
         rw [show j - j0 - p.bJ = j - (j0 + p.bJ) by omega]
         exact hq
     · cases h
   · cases h
 | sl u ih =>
   intro cs r y vs h hr
   cases cs with
   | nil=>simp [sS] at h
   | cons p ps =>
     simp only [sS] at h
     split at h
     · rename_i y' h1
       simp only [Option.some.injEq,Prod.mk.injEq] at h
       obtain ⟨rfl,rfl⟩:=h
       simp only [ak] at hr
       obtain ⟨v,us,rfl,h2,h3⟩:=hr
       obtain ⟨hd,rfl,h4,h5⟩:=yM hb h1 h2
       exact ⟨[p],[_],us,rfl,rfl,h3,by simp only [ak]; exact ⟨_,_,rfl,h2,rfl⟩,rfl,by simp [LP h1],h5,fun j0=>⟨hd,rfl,h4⟩⟩
     · cases h
theorem dF {α β:Type} {x:Option (α×List β)} {y:α} (h:Ib x = some y):x = some (y,[]):=by
 unfold Ib at h
 split at h
 · simp only [Option.some.injEq] at h; rw [h]
 · cases h
theorem dD:∀ {t:Ty} {cs:List PV} {j r:Nat},cs.length = t.size→j < t.bJ→r ∈ ay [dX t cs j]→r ∈ ay cs:=by
 intro t
 induction t with
 | sl u ih =>
   intro cs j r hl hj hr
   match cs,hl with
   | [p],_=>exact hr
 | pair a b iha ihb =>
   intro cs j r hl hj hr
   simp only [Ty.size] at hl
   simp only [Ty.bJ] at hj
   have e:ay cs = ay (cs.take a.size) ++ ay (cs.drop a.size):=by rw [← eY,List.take_append_drop]
   rw [e]
   simp only [dX] at hr
   cases hb:Nat.blt j a.bJ with
   | true =>
     rw [hb] at hr
     exact List.mem_append_left _ (iha (by rw [List.length_take]; omega) (by simpa using hb) hr)
   | false =>
     rw [hb] at hr
     have:=dN hb
     exact List.mem_append_right _ (ihb (by rw [List.length_drop]; omega) (by omega) hr)
 | _=>intro cs j r _ hj; simp [Ty.bJ] at hj
theorem uJ:∀ {t:Ty} {cs:List PV},cs.length = t.size→(ay cs).Nodup→∀ {i j r:Nat},i < t.bJ→j < t.bJ→r ∈ ay [dX t cs i]→r ∈ ay [dX t cs j]→i = j:=by
 intro t
 induction t with
 | sl u ih=>intro cs _ _ i j r hi hj _ _; simp [Ty.bJ] at hi hj; omega
 | pair a b iha ihb =>
   intro cs hl hn i j r hi hj h1 h2
   simp only [Ty.size] at hl
   simp only [Ty.bJ] at hi hj
   have e:ay cs = ay (cs.take a.size) ++ ay (cs.drop a.size):=by rw [← eY,List.take_append_drop]
   rw [e,List.nodup_append] at hn
   obtain ⟨n1,n2,n3⟩:=hn
   have la:(cs.take a.size).length = a.size:=by rw [List.length_take]; omega
   have lb:(cs.drop a.size).length = b.size:=by rw [List.length_drop]; omega
   simp only [dX] at h1 h2
   cases hbi:Nat.blt i a.bJ <;> cases hbj:Nat.blt j a.bJ <;> rw [hbi] at h1 <;> rw [hbj] at h2 <;> simp only [cond_true,cond_false] at h1 h2
   · have q1:=dN hbi
     have q2:=dN hbj
     have:=ihb lb n2 (by omega) (by omega) h1 h2
     omega
   · have q1:=dN hbi
     have q2:j < a.bJ:=by simpa using hbj
     exact absurd rfl (n3 r (dD la q2 h2) r (dD lb (by omega) h1))
   · have q1:i < a.bJ:=by simpa using hbi
     have q2:=dN hbj
     exact absurd rfl (n3 r (dD la q1 h1) r (dD lb (by omega) h2))
   · exact iha la n1 (by simpa using hbi) (by simpa using hbj) h1 h2
 | _=>intro cs _ _ i j r hi; simp [Ty.bJ] at hi
end
end Go.VE
