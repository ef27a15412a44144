import Derived.Test.YtgllenfbilnneaaGreatDoorVkO
/- Calls: what a function is said to do. -/
namespace Go.VE
def WinRep (col:Nat→Nat→Col) (w:World) (t:Ty) (x:t.T) (v:Value):Prop:=∃ b o us,v = .pointer (some ⟨b,o,none⟩) ∧ RepT col w t x us ∧ CellsAt col w b o us
def CapsRep (col:Nat→Nat→Col) (w:World):(ts:List Ty)→TysT ts→List Value→Prop
 | [],_,vs=>vs = []
 | t::r,x,vs=>∃ u us,vs = u::us ∧ WinRep col w t x.1 u ∧ CapsRep col w r x.2 us
def PaintC (c:Nat→Nat→Col) (w:World) (id:Nat) (R:Reg):Prop:=∀ b o,R b o ≠ none→c b o = .bx id ∧ (∃ v,w.cell? ⟨b,o,none⟩ = some v) ∧ w.frozen? ⟨b,o,none⟩ = false
def RowC (own:Bool) (c:Nat→Nat→Col) (w:World) (id:Nat) (u:Ty) (y:L u.T) (h:Hdr):Prop:=∃ nh R,RowR c w R nh (fun _=>own) u y h ∧ PaintC c w id R
def RowF (n0:Nat→Nat→Nat→Hdr) (c:Nat→Nat→Col) (w:World) (id:Nat) (u:Ty) (y:L u.T) (h:Hdr):Prop:=∃ R,RowR c w R (n0 id) (fun _=>true) u y h ∧ PaintC c w id R
def ArgRep (n0:Nat→Nat→Nat→Hdr) (col:Nat→Nat→Col) (w:World):(a:In)→a.T→Nat→Value→Prop
 | .v t,x,_,v=>∃ us,RepT col w t x us ∧ v = mkV t us
 | .rf t,x,_,v=>WinRep col w t x v
 | .pt t,x,i,v=>∃ b o us,v = .pointer (some ⟨b,o,none⟩) ∧ SlP (fun j u y h=>RowC true col w (pN i + 1 + j) u y h) t x us 0 ∧ ∀ (j:Nat) (u:Value),us[j]? = some u→col b (o + j) = .bx (pN i) ∧ w.cell? ⟨b,o + j,none⟩ = some u ∧ w.frozen? ⟨b,o + j,none⟩ = false
 | .pd t,x,i,v=>∃ b o us,v = .pointer (some ⟨b,o,none⟩) ∧ RepT col w t x us ∧ ∀ (j:Nat) (u:Value),us[j]? = some u→col b (o + j) = .bx (pN i) ∧ w.cell? ⟨b,o + j,none⟩ = some u ∧ w.frozen? ⟨b,o + j,none⟩ = false
 | .ow t,x,i,v=>∃ us,v = mkV t us ∧ SlP (fun j u y h=>RowF n0 col w (wN i + j) u y h) t x us 0
 | .mv t,x,i,v=>∃ us,v = mkV t us ∧ SlP (fun j u y h=>RowC true col w (pN i + 1 + j) u y h) t x us 0
 | .nl,_,_,v=>v = .slice none 0 0
 | .clo f ts,x,_,v=>∃ vs:List Value,v = .func (.func f) #[] vs.toArray ∧ CapsRep col w ts x vs
def ArgsRep (n0:Nat→Nat→Nat→Hdr) (col:Nat→Nat→Col) (w:World):(as:List In)→InsT as→Nat→List Value→Prop
 | [],_,_,vs=>vs = []
 | a::r,x,i,vs=>∃ u us,vs = u::us ∧ ArgRep n0 col w a x.1 i u ∧ ArgsRep n0 col w r x.2 (i + 1) us
def SlW (Q:Nat→(u:Ty)→L u.T→Hdr→Prop):(t:Ty)→t.T→List Value→Nat→Prop
 | .pair a b,x,vs,j=>∃ v1 v2,vs = v1 ++ v2 ∧ SlW Q a x.1 v1 j ∧ SlW Q b x.2 v2 (j + a.nsl)
 | .sl u,x,vs,j=>∃ h,vs = [slV h] ∧ Q j u x h
 | .unit,_,vs,_=>vs.length = 0
 | .int _,_,vs,_=>vs.length = 1
 | .bool,_,vs,_=>vs.length = 1
 | .str,_,vs,_=>vs.length = 1
theorem SlW.length {Q:Nat→(u:Ty)→L u.T→Hdr→Prop}:∀ {t:Ty} {x:t.T} {vs:List Value} {j:Nat},SlW Q t x vs j→vs.length = t.size:=by
 intro t
 induction t with
 | pair a b iha ihb =>
   rintro x vs j ⟨v1,v2,rfl,h1,h2⟩
   simp [Ty.size,iha h1,ihb h2]
 | sl t ih=>rintro x vs j ⟨h,rfl,_⟩; rfl
 | _=>exact fun h=>h
def PtRep (n0:Nat→Nat→Nat→Hdr) (col:Nat→Nat→Col) (w:World):(a:In)→PtT [a]→Nat→Value→Prop
 | .pt t,y,i,v=>∃ b o us,v = .pointer (some ⟨b,o,none⟩) ∧ SlP (fun j u y h=>RowC true col w (pN i + 1 + j) u y h) t y.1 us 0 ∧ ∀ (j:Nat) (u:Value),us[j]? = some u→w.cell? ⟨b,o + j,none⟩ = some u
 | .pd t,y,i,v=>∃ b o us,v = .pointer (some ⟨b,o,none⟩) ∧ RepT col w t y.1 us ∧ ∀ (j:Nat) (u:Value),us[j]? = some u→w.cell? ⟨b,o + j,none⟩ = some u
 | .ow t,y,i,v=>∃ us,v = mkV t us ∧ SlW (fun j u y h=>RowF n0 col w (wN i + j) u y h) t y.1 us 0
 | _,_,_,_=>True
def PtsRep (n0:Nat→Nat→Nat→Hdr) (col:Nat→Nat→Col) (w:World):(as:List In)→PtT as→Nat→List Value→Prop
 | [],_,_,_=>True
 | a::r,y,i,vs=>∃ u us,vs = u::us ∧ PtRep n0 col w a (ptHd a r y) i u ∧ PtsRep n0 col w r (ptTl a r y) (i + 1) us
def FrOuts (Rp:(t:Ty)→t.T→List Value→Nat→Prop):(ts:List Ty)→TysT ts→List Value→Nat→Prop
 | [],_,vs,_=>vs = []
 | t::r,y,vs,j=>∃ u us,vs = u::us ∧ (∃ cs,Rp t y.1 cs j ∧ u = mkV t cs) ∧ FrOuts Rp r y.2 us (j + t.nsl)
def PtrRep (col:Nat→Nat→Col) (w w':World):(ts:List Ty)→TysT ts→Value→Prop
 | [t],y,v=>∃ b o us,v = .pointer (some ⟨b,o,none⟩) ∧ w.heap.size≤b ∧ RepT col w' t y.1 us ∧ ∀ (j:Nat) (u:Value),us[j]? = some u→col b (o + j) = .bx oBase ∧ w'.cell? ⟨b,o + j,none⟩ = some u ∧ w'.frozen? ⟨b,o + j,none⟩ = false
 | _,_,_=>False
def tupV (vs:List Value):Value:=if h:vs.toArray.size = 1 then vs.toArray[0] else .tuple vs.toArray
def OutIs (c:Ctr) (col':Nat→Nat→Col) (w w':World) (y:TysT c.out) (v:Value):Prop :=
 if c.ptr = true then PtrRep col' w w' c.out y v
 else ∃ vs,FrOuts (fun t x cs j=>if c.fr = 0 then RepT col' w' t x cs else SlP (fun j u y h=>RowC (Nat.beq c.fr 1) col' w' (oBase + j) u y h) t x cs j) c.out y vs 0 ∧ v = tupV vs
def Enters (P:Program) (f:FuncId):Prop:=∃ fn,P.funcs[f]? = some fn ∧ (fn.name == "runtime.NumGoroutine") = false ∧ fn.body.isSome = true
def OutOk (c0:Nat→Nat→Col) (b o id:Nat):Prop:=(id < oBase ∧ stay id→c0 b o = .bx id) ∧ (¬ (id < oBase ∧ stay id)→∃ m,given m ∧ c0 b o = .bx m)
def Behind (c:Ctr) (n0:Nat→Nat→Nat→Hdr) (col:Nat→Nat→Col) (w:World) (args:Array Value) (y:TysT c.out×PtT c.ins) (e:Ending) (w':World):Prop :=
 ∃ v col',e = .returned v ∧ Keep col w w' ∧ (∀ b,b < w.heap.size→∀ o,(col' b o = .st ↔ col b o = .st) ∧ ∀ id,col' b o = .bx id→OutOk col b o id) ∧ OutIs c col' w w' y.1 v ∧ PtsRep n0 col' w' c.ins y.2 0 args.toList
def ColOk (c:Ctr) (col:Nat→Nat→Col) (w:World):Prop:=(∀ b o id,col b o = .bx id→((pBase≤id ∧ id < oBase) ∧ (noMv c.ins = true→¬ given id)) ∧ ∀ o',w.frozen? ⟨b,o',none⟩ = false) ∧ LayOk col w
def Fit (c:Ctr):Prop:=c.ins.all inFit = true ∧ c.ins.length < 1000
def Holds (P:Program) (f:FuncId) (c:Ctr):Prop :=
 Enters P f ∧ ∀ x y,c.F x = some y→Fit c ∧ ∀ (n0:Nat→Nat→Nat→Hdr) (col:Nat→Nat→Col) (w:World) (args:Array Value),ColOk c col w→ArgsRep n0 col w c.ins x 0 args.toList→Calls P f args w (Behind c n0 col w args y)
def TblOk (P:Program) (T:Tbl):Prop:=∀ f gs c,(f,gs,c) ∈ T→Holds P f c
theorem TblOk.find {P:Program}:∀ {T:Tbl},TblOk P T→∀ {f gs c},T.find f gs = some c→Holds P f c
 | [],_,f,gs,c,h=>by simp [Tbl.find] at h
 | (f',gs',c')::r,hT,f,gs,c,h=>by
   simp only [Tbl.find] at h
   split at h
   · rename_i hb
     simp only [Bool.and_eq_true] at hb
     cases h
     have:=Nat.eq_of_beq_eq_true hb.1
     subst this
     exact hT f gs' c' (by simp)
   · exact TblOk.find (fun f gs c hm=>hT f gs c (by simp [hm])) h
theorem RepN.recol {c c':Nat→Nat→Col} {w:World} {R:Reg} {nh:Nat→Nat→Hdr} {i:Nat}:∀ {t:Ty} {x:t.T} {vs:List Value} {j:Nat},RepN c w R nh true i t x vs j→RepN c' w R nh true i t x vs j:=by
 intro t
 induction t with
 | int k=>exact fun h=>h
 | bool=>exact fun h=>h
 | str=>exact fun h=>h
 | unit=>exact fun h=>h
 | pair a b iha ihb =>
   rintro x vs j ⟨v1,v2,e,h1,h2⟩
   exact ⟨v1,v2,e,iha h1,ihb h2⟩
 | sl t ih =>
   rintro x vs j ⟨e,h1,h2,_⟩
   obtain ⟨f,h3,h4⟩:=h2 rfl
   exact ⟨e,h1,fun _=>⟨f,h3,fun k hk=>by obtain ⟨us,q1,q2,q3⟩:=h4 k hk; exact ⟨us,q1,RepT.flat f q2,q3⟩⟩,fun q=>(by cases q)⟩
theorem RowR.recol {c c':Nat→Nat→Col} {w:World} {R:Reg} {nh:Nat→Nat→Hdr} {t:Ty} {x:L t.T} {h:Hdr} (hr:RowR c w R nh (fun _=>true) t x h):RowR c' w R nh (fun _=>true) t x h :=
 ⟨hr.1,hr.2.1,fun i hi=>by obtain ⟨us,q1,q2,q3⟩:=hr.2.2 i hi; exact ⟨us,q1,q2.recol,q3⟩⟩
/-! ### The colours that a callee sees -/
abbrev Win:=Nat×(Nat→Nat→Prop)×Nat
def rowWin (p:PV) (n:Nat):List Win:=(rowIds [p]).map fun r=>(r,fun _ _=>True,n)
def leafWin (g:Gh) (p:PV) (n:Nat):List Win:=match p with
 | .ms r _=>[(r,fun _ _=>True,n)]
 | .mn r _ i j=>[(r,fun b o=>g.R r b o = some (some (i,j)),n)]
 | _=>[]
def slWinsR (t:Ty) (cs:List PV) (n:Nat):List Win:=(List.range t.nsl).flatMap fun j=>rowWin (slPv t cs j) (n + j)
def slWins (g:Gh) (t:Ty) (cs:List PV) (n:Nat):List Win:=(List.range t.nsl).flatMap fun j=>leafWin g (slPv t cs j) (n + j)
def pdWin (g:Gh) (t:Ty):PV→Nat→List Win
 | .bx id off,i=>[(id,fun _ o=>(g.bx id).2 + off≤o ∧ o < (g.bx id).2 + off + t.size,pN i)]
 | _,_=>[]
def winsOf (g:Gh) (box:Nat→Option BoxC):In→PV→Nat→List Win
 | .pt t,.bx id off,i=>(id,fun _ o=>(g.bx id).2 + off≤o ∧ o < (g.bx id).2 + off + t.size,pN i)::slWinsR t ((winCells box t.size (.bx id off)).getD []) (pN i + 1)
 | .pt t,.me id v sz k _,i=>(id,fun b o=>g.R id b o = some none ∧ ∃ ad,(g.hd id v).1 = some ad ∧ b = ad.block ∧ ad.off + k * sz≤o ∧ o < ad.off + k * sz + t.size,pN i)::(List.range t.nsl).map fun j=>(id,fun b o=>g.R id b o = some (some (k,j)),pN i + 1 + j)
 | .pd t,p,i=>pdWin g t p i
 | .ow t,p,i=>slWins g t p.cel (wN i)
 | .mv t,p,i=>slWinsR t p.cel (pN i + 1)
 | _,_,_=>[]
def winsL (g:Gh) (box:Nat→Option BoxC):List In→List PV→Nat→List Win
 | a::r,p::ps,i=>winsOf g box a p i ++ winsL g box r ps (i + 1)
 | _,_,_=>[]
open Classical in
noncomputable def colC (g:Gh) (rfs:List Nat) (W:List Win):Nat→Nat→Col:=fun b o=>match g.col b o with
 | .st=>.st
 | .bx id=>if id ∈ rfs then .st else if h:∃ e ∈ W,e.1 = id ∧ e.2.1 b o then .bx (Classical.choose h).2.2 else .free
 | _=>.free
section
variable {g:Gh} {rfs:List Nat} {W:List Win} {w:World}
theorem colC_st {b o:Nat} (h:g.col b o = .st):colC g rfs W b o = .st:=by simp [colC,h]
theorem colC_rf {b o id:Nat} (h:g.col b o = .bx id) (hr:id ∈ rfs):colC g rfs W b o = .st:=by simp [colC,h,hr]
def WinUq (W:List Win):Prop:=∀ e ∈ W,∀ e' ∈ W,e.1 = e'.1→∀ b o,e.2.1 b o→e'.2.1 b o→e.2.2 = e'.2.2
theorem colC_win (hu:WinUq W) {b o:Nat} {e:Win} (he:e ∈ W) (h:g.col b o = .bx e.1) (hr:e.1 ∉ rfs) (hq:e.2.1 b o):colC g rfs W b o = .bx e.2.2:=by
 have hex:∃ e' ∈ W,e'.1 = e.1 ∧ e'.2.1 b o:=⟨e,he,rfl,hq⟩
 have hs:=Classical.choose_spec hex
 unfold colC
 rw [h]
 simp only
 rw [if_neg hr,dif_pos hex,hu _ hs.1 e he hs.2.1 b o hs.2.2 hq]
theorem colC_inv {b o m:Nat} (h:colC g rfs W b o = .bx m):∃ e ∈ W,g.col b o = .bx e.1 ∧ e.2.1 b o ∧ e.2.2 = m:=by
 unfold colC at h
 split at h
 · cases h
 · rename_i id hid
   split at h
   · cases h
   · split at h
     · rename_i hex
       have hs:=Classical.choose_spec hex
       cases h
       exact ⟨_,hs.1,by rw [hs.2.1]; exact hid,hs.2.2,rfl⟩
     · cases h
 · cases h
theorem colC_st_inv {b o:Nat} (h:colC g rfs W b o = .st):g.col b o = .st ∨ ∃ id ∈ rfs,g.col b o = .bx id:=by
 unfold colC at h
 split at h
 · exact .inl (by assumption)
 · rename_i id hid
   split at h
   · rename_i hm; exact .inr ⟨id,hm,hid⟩
   · split at h <;> cases h
 · cases h
theorem gstays_colC (g:Gh) (w:World) (rfs:List Nat) (W:List Win):GStays g w { g with col:=colC g rfs W } w:={ st:=fun _ _ _ h h'=>⟨colC_st h,h'⟩,db:=fun _ h=>⟨h,rfl⟩,dh:=fun _ _ h=>⟨h,rfl⟩,dn:=fun _ _ h=>⟨h,rfl,rfl⟩ }
end
theorem disj_of {a b:List Nat} (h:disjB a b = true):∀ x ∈ a,x ∉ b:=by
 intro x hx hb
 simp only [disjB,List.all_eq_true] at h
 have:=h x hx x hb
 simp at this
theorem slPv_memF {f:PV→List Nat}:∀ {t:Ty} {cs:List PV} {j r:Nat},cs.length = t.size→j < t.nsl→r ∈ f (slPv t cs j)→r ∈ cs.flatMap f:=by
 intro t
 induction t with
 | sl u ih =>
   intro cs j r hl hj hr
   match cs,hl with
   | [p],_=>simpa [slPv] using hr
 | pair a b iha ihb =>
   intro cs j r hl hj hr
   simp only [Ty.size] at hl
   simp only [Ty.nsl] at hj
   rw [← List.take_append_drop a.size cs,List.flatMap_append]
   simp only [slPv] at hr
   cases hb:Nat.blt j a.nsl with
   | true =>
     rw [hb] at hr
     exact List.mem_append_left _ (iha (by rw [List.length_take]; omega) (by simpa using hb) hr)
   | false =>
     rw [hb] at hr
     have:=blt_false hb
     exact List.mem_append_right _ (ihb (by rw [List.length_drop]; omega) (by omega) hr)
 | _=>intro cs j r _ hj; simp [Ty.nsl] at hj
theorem slPv_injF {f:PV→List Nat}:∀ {t:Ty} {cs:List PV},cs.length = t.size→(cs.flatMap f).Nodup→∀ {i j r:Nat},i < t.nsl→j < t.nsl→r ∈ f (slPv t cs i)→r ∈ f (slPv t cs j)→i = j:=by
 intro t
 induction t with
 | sl u ih=>intro cs _ _ i j r hi hj _ _; simp [Ty.nsl] at hi hj; omega
 | pair a b iha ihb =>
   intro cs hl hn i j r hi hj h1 h2
   simp only [Ty.size] at hl
   simp only [Ty.nsl] at hi hj
   rw [← List.take_append_drop a.size cs,List.flatMap_append,List.nodup_append] at hn
   obtain ⟨n1,n2,n3⟩:=hn
   have la:(cs.take a.size).length = a.size:=by rw [List.length_take]; omega
   have lb:(cs.drop a.size).length = b.size:=by rw [List.length_drop]; omega
   simp only [slPv] at h1 h2
   cases hbi:Nat.blt i a.nsl <;> cases hbj:Nat.blt j a.nsl <;> rw [hbi] at h1 <;> rw [hbj] at h2 <;> simp only [cond_true,cond_false] at h1 h2
   · have q1:=blt_false hbi
     have q2:=blt_false hbj
     have:=ihb lb n2 (by omega) (by omega) h1 h2
     omega
   · have q1:=blt_false hbi
     have q2:j < a.nsl:=by simpa using hbj
     exact absurd rfl (n3 r (slPv_memF la q2 h2) r (slPv_memF lb (by omega) h1))
   · have q1:i < a.nsl:=by simpa using hbi
     have q2:=blt_false hbj
     exact absurd rfl (n3 r (slPv_memF la q1 h1) r (slPv_memF lb (by omega) h2))
   · exact iha la n1 (by simpa using hbi) (by simpa using hbj) h1 h2
 | _=>intro cs _ _ i j r hi; simp [Ty.nsl] at hi
end Go.VE
