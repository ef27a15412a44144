import Derived.Test.YtgllenfbilnneaaGreatDoorVkO
/- Calls: what a function is said to do. -/
namespace Go.VE
def IJ (col:Nat→Nat→Col) (w:World) (t:Ty) (x:t.T) (v:Value):Prop:=∃ b o us,v = .pointer (some ⟨b,o,none⟩) ∧ bC col w t x us ∧ jY col w b o us
def q9 (col:Nat→Nat→Col) (w:World):(ts:List Ty)→dR ts→List Value→Prop
 | [],_,vs=>vs = []
 | t::r,x,vs=>∃ u us,vs = u::us ∧ IJ col w t x.1 u ∧ q9 col w r x.2 us
def oZ (c:Nat→Nat→Col) (w:World) (id:Nat) (R:iI):Prop:=∀ b o,R b o ≠ none→c b o = .bx id ∧ (∃ v,w.cell? ⟨b,o,none⟩ = some v) ∧ w.frozen? ⟨b,o,none⟩ = false
def mh (own:Bool) (c:Nat→Nat→Col) (w:World) (id:Nat) (u:Ty) (y:L u.T) (h:bT):Prop:=∃ nh R,cB c w R nh (fun _=>own) u y h ∧ oZ c w id R
def RP (n0:Nat→Nat→Nat→bT) (c:Nat→Nat→Col) (w:World) (id:Nat) (u:Ty) (y:L u.T) (h:bT):Prop:=∃ R,cB c w R (n0 id) (fun _=>true) u y h ∧ oZ c w id R
def IK (n0:Nat→Nat→Nat→bT) (col:Nat→Nat→Col) (w:World):(a:In)→a.T→Nat→Value→Prop
 | .v t,x,_,v=>∃ us,bC col w t x us ∧ v = mkV t us
 | .rf t,x,_,v=>IJ col w t x v
 | .pt t,x,i,v=>∃ b o us,v = .pointer (some ⟨b,o,none⟩) ∧ jJ (fun j u y h=>mh true col w (pN i + 1 + j) u y h) t x us 0 ∧ ∀ (j:Nat) (u:Value),us[j]? = some u→col b (o + j) = .bx (pN i) ∧ w.cell? ⟨b,o + j,none⟩ = some u ∧ w.frozen? ⟨b,o + j,none⟩ = false
 | .pd t,x,i,v=>∃ b o us,v = .pointer (some ⟨b,o,none⟩) ∧ bC col w t x us ∧ ∀ (j:Nat) (u:Value),us[j]? = some u→col b (o + j) = .bx (pN i) ∧ w.cell? ⟨b,o + j,none⟩ = some u ∧ w.frozen? ⟨b,o + j,none⟩ = false
 | .ow t,x,i,v=>∃ us,v = mkV t us ∧ jJ (fun j u y h=>RP n0 col w (wN i + j) u y h) t x us 0
 | .mv t,x,i,v=>∃ us,v = mkV t us ∧ jJ (fun j u y h=>mh true col w (pN i + 1 + j) u y h) t x us 0
 | .nl,_,_,v=>v = .slice none 0 0
 | .pW f ts,x,_,v=>∃ vs:List Value,v = .func (.func f) #[] vs.toArray ∧ q9 col w ts x vs
def kE (n0:Nat→Nat→Nat→bT) (col:Nat→Nat→Col) (w:World):(as:List In)→jK as→Nat→List Value→Prop
 | [],_,_,vs=>vs = []
 | a::r,x,i,vs=>∃ u us,vs = u::us ∧ IK n0 col w a x.1 i u ∧ kE n0 col w r x.2 (i + 1) us
def Uv (Q:Nat→(u:Ty)→L u.T→bT→Prop):(t:Ty)→t.T→List Value→Nat→Prop
 | .pair a b,x,vs,j=>∃ v1 v2,vs = v1 ++ v2 ∧ Uv Q a x.1 v1 j ∧ Uv Q b x.2 v2 (j + a.bJ)
 | .sl u,x,vs,j=>∃ h,vs = [gP h] ∧ Q j u x h
 | .unit,_,vs,_=>vs.length = 0
 | .int _,_,vs,_=>vs.length = 1
 | .bool,_,vs,_=>vs.length = 1
 | .str,_,vs,_=>vs.length = 1
theorem Uv.length {Q:Nat→(u:Ty)→L u.T→bT→Prop}:∀ {t:Ty} {x:t.T} {vs:List Value} {j:Nat},Uv Q t x vs j→vs.length = t.size:=by
 intro t
 induction t with
 | pair a b iha ihb =>
   rintro x vs j ⟨v1,v2,rfl,h1,h2⟩
   simp [Ty.size,iha h1,ihb h2]
 | sl t ih=>rintro x vs j ⟨h,rfl,_⟩; rfl
 | _=>exact fun h=>h
def CG (n0:Nat→Nat→Nat→bT) (col:Nat→Nat→Col) (w:World):(a:In)→lI [a]→Nat→Value→Prop
 | .pt t,y,i,v=>∃ b o us,v = .pointer (some ⟨b,o,none⟩) ∧ jJ (fun j u y h=>mh true col w (pN i + 1 + j) u y h) t y.1 us 0 ∧ ∀ (j:Nat) (u:Value),us[j]? = some u→w.cell? ⟨b,o + j,none⟩ = some u
 | .pd t,y,i,v=>∃ b o us,v = .pointer (some ⟨b,o,none⟩) ∧ bC col w t y.1 us ∧ ∀ (j:Nat) (u:Value),us[j]? = some u→w.cell? ⟨b,o + j,none⟩ = some u
 | .ow t,y,i,v=>∃ us,v = mkV t us ∧ Uv (fun j u y h=>RP n0 col w (wN i + j) u y h) t y.1 us 0
 | _,_,_,_=>True
def nA (n0:Nat→Nat→Nat→bT) (col:Nat→Nat→Col) (w:World):(as:List In)→lI as→Nat→List Value→Prop
 | [],_,_,_=>True
 | a::r,y,i,vs=>∃ u us,vs = u::us ∧ CG n0 col w a (Ry a r y) i u ∧ nA n0 col w r (Rz a r y) (i + 1) us
def fO (Rp:(t:Ty)→t.T→List Value→Nat→Prop):(ts:List Ty)→dR ts→List Value→Nat→Prop
 | [],_,vs,_=>vs = []
 | t::r,y,vs,j=>∃ u us,vs = u::us ∧ (∃ cs,Rp t y.1 cs j ∧ u = mkV t cs) ∧ fO Rp r y.2 us (j + t.bJ)
def IL (col:Nat→Nat→Col) (w w':World):(ts:List Ty)→dR ts→Value→Prop
 | [t],y,v=>∃ b o us,v = .pointer (some ⟨b,o,none⟩) ∧ w.heap.size≤b ∧ bC col w' t y.1 us ∧ ∀ (j:Nat) (u:Value),us[j]? = some u→col b (o + j) = .bx bY ∧ w'.cell? ⟨b,o + j,none⟩ = some u ∧ w'.frozen? ⟨b,o + j,none⟩ = false
 | _,_,_=>False
def yD (vs:List Value):Value:=if h:vs.toArray.size = 1 then vs.toArray[0] else .tuple vs.toArray
def uL (c:sK) (col':Nat→Nat→Col) (w w':World) (y:dR c.out) (v:Value):Prop :=
 if c.ptr = true then IL col' w w' c.out y v
 else ∃ vs,fO (fun t x cs j=>if c.fr = 0 then bC col' w' t x cs else jJ (fun j u y h=>mh (Nat.beq c.fr 1) col' w' (bY + j) u y h) t x cs j) c.out y vs 0 ∧ v = yD vs
def Enters (P:Program) (f:FuncId):Prop:=∃ fn,P.funcs[f]? = some fn ∧ (fn.name == "runtime.NumGoroutine") = false ∧ fn.body.isSome = true
def OutOk (c0:Nat→Nat→Col) (b o id:Nat):Prop:=(id < bY ∧ stay id→c0 b o = .bx id) ∧ (¬ (id < bY ∧ stay id)→∃ m,given m ∧ c0 b o = .bx m)
def Behind (c:sK) (n0:Nat→Nat→Nat→bT) (col:Nat→Nat→Col) (w:World) (args:Array Value) (y:dR c.out×lI c.ins) (e:Ending) (w':World):Prop :=
 ∃ v col',e = .returned v ∧ Keep col w w' ∧ (∀ b,b < w.heap.size→∀ o,(col' b o = .st ↔ col b o = .st) ∧ ∀ id,col' b o = .bx id→OutOk col b o id) ∧ uL c col' w w' y.1 v ∧ nA n0 col' w' c.ins y.2 0 args.toList
def uM (c:sK) (col:Nat→Nat→Col) (w:World):Prop:=(∀ b o id,col b o = .bx id→((bF≤id ∧ id < bY) ∧ (mg c.ins = true→¬ given id)) ∧ ∀ o',w.frozen? ⟨b,o',none⟩ = false) ∧ Ct col w
def Fit (c:sK):Prop:=c.ins.all fu = true ∧ c.ins.length < 1000
def Holds (P:Program) (f:FuncId) (c:sK):Prop :=
 Enters P f ∧ ∀ x y,c.F x = some y→Fit c ∧ ∀ (n0:Nat→Nat→Nat→bT) (col:Nat→Nat→Col) (w:World) (args:Array Value),uM c col w→kE n0 col w c.ins x 0 args.toList→Calls P f args w (Behind c n0 col w args y)
def pJ (P:Program) (T:tZ):Prop:=∀ f gs c,(f,gs,c) ∈ T→Holds P f c
theorem pJ.find {P:Program}:∀ {T:tZ},pJ P T→∀ {f gs c},T.find f gs = some c→Holds P f c
 | [],_,f,gs,c,h=>by simp [tZ.find] at h
 | (f',gs',c')::r,hT,f,gs,c,h=>by
   simp only [tZ.find] at h
   split at h
   · rename_i hb
     simp only [Bool.and_eq_true] at hb
     cases h
     have:=Nat.eq_of_beq_eq_true hb.1
     subst this
     exact hT f gs' c' (by simp)
   · exact pJ.find (fun f gs c hm=>hT f gs c (by simp [hm])) h
theorem bD.lM {c c':Nat→Nat→Col} {w:World} {R:iI} {nh:Nat→Nat→bT} {i:Nat}:∀ {t:Ty} {x:t.T} {vs:List Value} {j:Nat},bD c w R nh true i t x vs j→bD c' w R nh true i t x vs j:=by
 intro t
 induction t with
 | int k=>exact fun h=>h
 | bool=>exact fun h=>h
 | str=>exact fun h=>h
 | unit=>exact fun h=>h
 | pair a b iha ihb =>
   rintro x vs j ⟨v1,v2,e,h1,h2⟩
   exact ⟨v1,v2,e,iha h1,ihb h2⟩
 | sl t ih =>
   rintro x vs j ⟨e,h1,h2,_⟩
   obtain ⟨f,h3,h4⟩:=h2 rfl
   exact ⟨e,h1,fun _=>⟨f,h3,fun k hk=>by obtain ⟨us,q1,q2,q3⟩:=h4 k hk; exact ⟨us,q1,bC.flat f q2,q3⟩⟩,fun q=>(by cases q)⟩
theorem cB.lM {c c':Nat→Nat→Col} {w:World} {R:iI} {nh:Nat→Nat→bT} {t:Ty} {x:L t.T} {h:bT} (hr:cB c w R nh (fun _=>true) t x h):cB c' w R nh (fun _=>true) t x h :=
 ⟨hr.1,hr.2.1,fun i hi=>by obtain ⟨us,q1,q2,q3⟩:=hr.2.2 i hi; exact ⟨us,q1,q2.lM,q3⟩⟩
/-! ### The colours that a callee sees -/
abbrev Au:=Nat×(Nat→Nat→Prop)×Nat
def IQ (p:PV) (n:Nat):List Au:=(ay [p]).map fun r=>(r,fun _ _=>True,n)
def jm (g:Gh) (p:PV) (n:Nat):List Au:=match p with
 | .ms r _=>[(r,fun _ _=>True,n)]
 | .mn r _ i j=>[(r,fun b o=>g.R r b o = some (some (i,j)),n)]
 | _=>[]
def kF (t:Ty) (cs:List PV) (n:Nat):List Au:=(List.range t.bJ).flatMap fun j=>IQ (dX t cs j) (n + j)
def Av (g:Gh) (t:Ty) (cs:List PV) (n:Nat):List Au:=(List.range t.bJ).flatMap fun j=>jm g (dX t cs j) (n + j)
def xG (g:Gh) (t:Ty):PV→Nat→List Au
 | .bx id off,i=>[(id,fun _ o=>(g.bx id).2 + off≤o ∧ o < (g.bx id).2 + off + t.size,pN i)]
 | _,_=>[]
def bg (g:Gh) (box:Nat→Option aU):In→PV→Nat→List Au
 | .pt t,.bx id off,i=>(id,fun _ o=>(g.bx id).2 + off≤o ∧ o < (g.bx id).2 + off + t.size,pN i)::kF t ((dS box t.size (.bx id off)).getD []) (pN i + 1)
 | .pt t,.me id v sz k _,i=>(id,fun b o=>g.R id b o = some none ∧ ∃ ad,(g.hd id v).1 = some ad ∧ b = ad.block ∧ ad.off + k * sz≤o ∧ o < ad.off + k * sz + t.size,pN i)::(List.range t.bJ).map fun j=>(id,fun b o=>g.R id b o = some (some (k,j)),pN i + 1 + j)
 | .pd t,p,i=>xG g t p i
 | .ow t,p,i=>Av g t p.dY (wN i)
 | .mv t,p,i=>kF t p.dY (pN i + 1)
 | _,_,_=>[]
def dO (g:Gh) (box:Nat→Option aU):List In→List PV→Nat→List Au
 | a::r,p::ps,i=>bg g box a p i ++ dO g box r ps (i + 1)
 | _,_,_=>[]
open Classical in
noncomputable def dI (g:Gh) (fP:List Nat) (W:List Au):Nat→Nat→Col:=fun b o=>match g.col b o with
 | .st=>.st
 | .bx id=>if id ∈ fP then .st else if h:∃ e ∈ W,e.1 = id ∧ e.2.1 b o then .bx (Classical.choose h).2.2 else .free
 | _=>.free
section
variable {g:Gh} {fP:List Nat} {W:List Au} {w:World}
theorem Ee {b o:Nat} (h:g.col b o = .st):dI g fP W b o = .st:=by simp [dI,h]
theorem Ef {b o id:Nat} (h:g.col b o = .bx id) (hr:id ∈ fP):dI g fP W b o = .st:=by simp [dI,h,hr]
def uN (W:List Au):Prop:=∀ e ∈ W,∀ e' ∈ W,e.1 = e'.1→∀ b o,e.2.1 b o→e'.2.1 b o→e.2.2 = e'.2.2
theorem lN (hu:uN W) {b o:Nat} {e:Au} (he:e ∈ W) (h:g.col b o = .bx e.1) (hr:e.1 ∉ fP) (hq:e.2.1 b o):dI g fP W b o = .bx e.2.2:=by
 have hex:∃ e' ∈ W,e'.1 = e.1 ∧ e'.2.1 b o:=⟨e,he,rfl,hq⟩
 have hs:=Classical.choose_spec hex
 unfold dI
 rw [h]
 simp only
 rw [if_neg hr,dif_pos hex,hu _ hs.1 e he hs.2.1 b o hs.2.2 hq]
theorem kL {b o m:Nat} (h:dI g fP W b o = .bx m):∃ e ∈ W,g.col b o = .bx e.1 ∧ e.2.1 b o ∧ e.2.2 = m:=by
 unfold dI at h
 split at h
 · cases h
 · rename_i id hid
   split at h
   · cases h
   · split at h
     · rename_i hex
       have hs:=Classical.choose_spec hex
       cases h
       exact ⟨_,hs.1,by rw [hs.2.1]; exact hid,hs.2.2,rfl⟩
     · cases h
 · cases h
theorem xH {b o:Nat} (h:dI g fP W b o = .st):g.col b o = .st ∨ ∃ id ∈ fP,g.col b o = .bx id:=by
 unfold dI at h
 split at h
 · exact .inl (by assumption)
 · rename_i id hid
   split at h
   · rename_i hm; exact .inr ⟨id,hm,hid⟩
   · split at h <;> cases h
 · cases h
theorem xI (g:Gh) (w:World) (fP:List Nat) (W:List Au):bV g w { g with col:=dI g fP W } w:={ st:=fun _ _ _ h h'=>⟨Ee h,h'⟩,db:=fun _ h=>⟨h,rfl⟩,dh:=fun _ _ h=>⟨h,rfl⟩,dn:=fun _ _ h=>⟨h,rfl,rfl⟩ }
end
theorem JL {a b:List Nat} (h:zW a b = true):∀ x ∈ a,x ∉ b:=by
 intro x hx hb
 simp only [zW,List.all_eq_true] at h
 have:=h x hx x hb
 simp at this
theorem lF {f:PV→List Nat}:∀ {t:Ty} {cs:List PV} {j r:Nat},cs.length = t.size→j < t.bJ→r ∈ f (dX t cs j)→r ∈ cs.flatMap f:=by
 intro t
 induction t with
 | sl u ih =>
   intro cs j r hl hj hr
   match cs,hl with
   | [p],_=>simpa [dX] using hr
 | pair a b iha ihb =>
   intro cs j r hl hj hr
   simp only [Ty.size] at hl
   simp only [Ty.bJ] at hj
   rw [← List.take_append_drop a.size cs,List.flatMap_append]
   simp only [dX] at hr
   cases hb:Nat.blt j a.bJ with
   | true =>
     rw [hb] at hr
     exact List.mem_append_left _ (iha (by rw [List.length_take]; omega) (by simpa using hb) hr)
   | false =>
     rw [hb] at hr
     have:=dN hb
     exact List.mem_append_right _ (ihb (by rw [List.length_drop]; omega) (by omega) hr)
 | _=>intro cs j r _ hj; simp [Ty.bJ] at hj
theorem CJ {f:PV→List Nat}:∀ {t:Ty} {cs:List PV},cs.length = t.size→(cs.flatMap f).Nodup→∀ {i j r:Nat},i < t.bJ→j < t.bJ→r ∈ f (dX t cs i)→r ∈ f (dX t cs j)→i = j:=by
 intro t
 induction t with
 | sl u ih=>intro cs _ _ i j r hi hj _ _; simp [Ty.bJ] at hi hj; omega
 | pair a b iha ihb =>
   intro cs hl hn i j r hi hj h1 h2
   simp only [Ty.size] at hl
   simp only [Ty.bJ] at hi hj
   rw [← List.take_append_drop a.size cs,List.flatMap_append,List.nodup_append] at hn
   obtain ⟨n1,n2,n3⟩:=hn
   have la:(cs.take a.size).length = a.size:=by rw [List.length_take]; omega
   have lb:(cs.drop a.size).length = b.size:=by rw [List.length_drop]; omega
   simp only [dX] at h1 h2
   cases hbi:Nat.blt i a.bJ <;> cases hbj:Nat.blt j a.bJ <;> rw [hbi] at h1 <;> rw [hbj] at h2 <;> simp only [cond_true,cond_false] at h1 h2
   · have q1:=dN hbi
     have q2:=dN hbj
     have:=ihb lb n2 (by omega) (by omega) h1 h2
     omega
   · have q1:=dN hbi
     have q2:j < a.bJ:=by simpa using hbj
     exact absurd rfl (n3 r (lF la q2 h2) r (lF lb (by omega) h1))
   · have q1:i < a.bJ:=by simpa using hbi
     have q2:=dN hbj
     exact absurd rfl (n3 r (lF la q1 h1) r (lF lb (by omega) h2))
   · exact iha la n1 (by simpa using hbi) (by simpa using hbj) h1 h2
 | _=>intro cs _ _ i j r hi; simp [Ty.bJ] at hi
end Go.VE
