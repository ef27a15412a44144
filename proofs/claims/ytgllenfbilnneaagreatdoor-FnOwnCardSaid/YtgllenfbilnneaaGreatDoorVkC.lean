import Derived.Test.YtgllenfbilnneaaGreatDoorVkB
/- What typed data is in memory,and what keeps it. -/
namespace Go.VE
open Go.RowKit (Below)
inductive Col where
 | free | st | bx (id:Nat)
abbrev bT:=Option Addr×Nat×Nat
def gP (h:bT):Value:=.slice h.1 h.2.1 h.2.2
abbrev iI:=Nat→Nat→Option (Option (Nat×Nat))
structure Gh where
 col:Nat→Nat→Col
 bx:Nat→Nat×Nat
 db:Nat→Prop
 /-- A row's header at a turn; its elements' slices' headers. -/
 hd:Nat→Nat→bT
 dh:Nat→Nat→Prop
 nh:Nat→Nat→Nat→Nat→bT
 ni:Nat→Nat→Nat
 dn:Nat→Nat→Prop
 R:Nat→iI
def jY (col:Nat→Nat→Col) (w:World) (b o:Nat) (us:List Value):Prop :=
 ∀ j v,us[j]? = some v→col b (o + j) = .st ∧ w.cell? ⟨b,o + j,none⟩ = some v
def bC (col:Nat→Nat→Col) (w:World):(t:Ty)→t.T→List Value→Prop
 | .int k,n,vs=>vs = [.int k n]
 | .bool,b,vs=>vs = [.bool b]
 | .str,s,vs=>vs = [.string s]
 | .unit,_,vs=>vs = []
 | .pair a b,x,vs=>∃ v1 v2,vs = v1 ++ v2 ∧ bC col w a x.1 v1 ∧ bC col w b x.2 v2
 | .sl t,x,vs=>∃ a cap,vs = [.slice a x.len cap] ∧ x.len≤cap ∧ ((a = none→cap = 0) ∧ (x.nil = true ↔ a = none)) ∧ ∀ ad,a = some ad→(0 < x.len→ad.spot = none) ∧
  ∀ i,i < x.len→∃ us,bC col w t (x.get i) us ∧ jY col w ad.block (ad.off + i * t.size) us
def uy (h:bT) (n:Nat) (nil:Bool):Prop:=h.2.1 = n ∧ n≤h.2.2 ∧ (h.1 = none→h.2.2 = 0) ∧ (nil = true ↔ h.1 = none)
def Fx (R:iI) (lab:Option (Nat×Nat)) (w:World) (h:bT) (sz:Nat):Prop :=
 ∀ ad,h.1 = some ad→ad.spot = none ∧ ∀ k,k < h.2.2 * sz→R ad.block (ad.off + k) = some lab ∧ (∃ v,w.cell? ⟨ad.block,ad.off + k,none⟩ = some v) ∧ w.frozen? ⟨ad.block,ad.off + k,none⟩ = false
def Ad (w:World) (Q:Nat→List Value→Prop) (h:bT) (n sz:Nat):Prop :=
 ∀ i,i < n→∃ us,us.length = sz ∧ Q i us ∧ ∀ ad,h.1 = some ad→∀ (q:Nat) (v:Value),us[q]? = some v→w.cell? ⟨ad.block,ad.off + i * sz + q,none⟩ = some v
def bD (col:Nat→Nat→Col) (w:World) (R:iI) (nh:Nat→Nat→bT) (own:Bool) (i:Nat):(t:Ty)→t.T→List Value→Nat→Prop
 | .int k,n,vs,_=>vs = [.int k n]
 | .bool,b,vs,_=>vs = [.bool b]
 | .str,s,vs,_=>vs = [.string s]
 | .unit,_,vs,_=>vs = []
 | .pair a b,x,vs,j=>∃ v1 v2,vs = v1 ++ v2 ∧ bD col w R nh own i a x.1 v1 j ∧ bD col w R nh own i b x.2 v2 (j + a.bJ)
 | .sl u,x,vs,j=>vs = [gP (nh i j)] ∧ uy (nh i j) x.len x.nil ∧ (own = true→u.flat = true ∧ Fx R (some (i,j)) w (nh i j) u.size ∧ Ad w (fun k us=>bC col w u (x.get k) us) (nh i j) x.len u.size) ∧
  (own = false→bC col w (.sl u) x vs)
def cB (col:Nat→Nat→Col) (w:World) (R:iI) (nh:Nat→Nat→bT) (own:Nat→Bool) (t:Ty) (x:L t.T) (h:bT):Prop :=
 uy h x.len x.nil ∧ Fx R none w h t.size ∧ Ad w (fun i us=>bD col w R nh (own i) i t (x.get i) us 0) h x.len t.size
def oO (sz lo hi:Nat) (h:bT):bT:=(if h.2.2 = lo then h.1 else h.1.map (·.add (lo * sz)),hi - lo,h.2.2 - lo)
mutual
def aF (g:Gh) (w:World):PV→Value→Prop
 | .int k n,v=>v = .int k n
 | .bool b,v=>v = .bool b
 | .str s,v=>v = .string s
 | .l9,v=>v = .slice none 0 0
 | .sl t x,v=>bC g.col w (.sl t) x [v]
 | .agg cs,v=>∃ vs:List Value,v = .agg vs.toArray ∧ ak g w cs vs
 | .bx id off,v=>g.db id ∧ v = .pointer (some ⟨(g.bx id).1,(g.bx id).2 + off,none⟩)
 | .ms id u,v=>g.dh id u ∧ v = gP (g.hd id u)
 | .vw id u sz lo hi,v=>g.dh id u ∧ lo≤hi ∧ hi≤(g.hd id u).2.1 ∧ v = gP (oO sz lo hi (g.hd id u))
 | .mn id u i j,v=>g.dn id u ∧ i < g.ni id u ∧ v = gP (g.nh id u i j)
 | .vn id u i j sz lo hi,v=>g.dn id u ∧ i < g.ni id u ∧ lo≤hi ∧ hi≤(g.nh id u i j).2.1 ∧ v = gP (oO sz lo hi (g.nh id u i j))
 | .me id u sz i off,v=>g.dh id u ∧ i < (g.hd id u).2.1 ∧ ∃ ad,(g.hd id u).1 = some ad ∧ v = .pointer (some ⟨ad.block,ad.off + i * sz + off,none⟩)
 | .mp id u i j sz k off,v=>g.dn id u ∧ i < g.ni id u ∧ k < (g.nh id u i j).2.1 ∧ ∃ ad,(g.nh id u i j).1 = some ad ∧ v = .pointer (some ⟨ad.block,ad.off + k * sz + off,none⟩)
 | .so u cs,v=>∃ b us,v = .slice (some ⟨b,0,none⟩) cs.length cs.length ∧ u.size = 1 ∧ ak g w cs us ∧ jY g.col w b 0 us
 | .rf cs,v=>∃ b o us,v = .pointer (some ⟨b,o,none⟩) ∧ ak g w cs us ∧ jY g.col w b o us
 | .fn f cap,v=>∃ vs:List Value,v = .func (.func f) #[] vs.toArray ∧ ak g w cap vs
 | .HY cs,v=>∃ vs:List Value,v = .tuple vs.toArray ∧ ak g w cs vs
 | .any,_=>True
def ak (g:Gh) (w:World):List PV→List Value→Prop
 | [],vs=>vs = []
 | p::ps,vs=>∃ u us,vs = u::us ∧ aF g w p u ∧ ak g w ps us
end
structure Stays (col:Nat→Nat→Col) (w:World) (col':Nat→Nat→Col) (w':World):Prop where
 st:∀ b o v,col b o = .st→w.cell? ⟨b,o,none⟩ = some v→col' b o = .st ∧ w'.cell? ⟨b,o,none⟩ = some v
theorem Stays.refl (col:Nat→Nat→Col) (w:World):Stays col w col w:=⟨fun _ _ _ h h'=>⟨h,h'⟩⟩
theorem Stays.trans {c1 c2 c3:Nat→Nat→Col} {w1 w2 w3:World} (h:Stays c1 w1 c2 w2) (k:Stays c2 w2 c3 w3):Stays c1 w1 c3 w3 :=
 ⟨fun b o v a b'=>let ⟨x,y⟩:=h.st b o v a b'; k.st b o v x y⟩
theorem jY.mono {c c':Nat→Nat→Col} {w w':World} (h:Stays c w c' w') {b o:Nat} {us:List Value} (hc:jY c w b o us):jY c' w' b o us :=
 fun j v hj=>let ⟨x,y⟩:=hc j v hj; h.st _ _ _ x y
theorem bC.mono {c c':Nat→Nat→Col} {w w':World} (h:Stays c w c' w'):∀ (t:Ty) (x:t.T) (vs:List Value),bC c w t x vs→bC c' w' t x vs:=by
 intro t
 induction t with
 | int k=>exact fun _ _ hr=>hr
 | bool=>exact fun _ _ hr=>hr
 | str=>exact fun _ _ hr=>hr
 | unit=>exact fun _ _ hr=>hr
 | pair a b iha ihb =>
   rintro x vs ⟨v1,v2,e,h1,h2⟩
   exact ⟨v1,v2,e,iha _ _ h1,ihb _ _ h2⟩
 | sl t ih =>
   rintro x vs ⟨a,cap,e,hl,hn,hs⟩
   refine ⟨a,cap,e,hl,hn,fun ad had=>⟨(hs ad had).1,fun i hi=>?_⟩⟩
   obtain ⟨us,hr,hc⟩:=(hs ad had).2 i hi
   exact ⟨us,ih _ _ hr,hc.mono h⟩
theorem bC.length {c:Nat→Nat→Col} {w:World}:∀ {t:Ty} {x:t.T} {vs:List Value},bC c w t x vs→vs.length = t.size:=by
 intro t
 induction t with
 | int k=>rintro x vs rfl; rfl
 | bool=>rintro x vs rfl; rfl
 | str=>rintro x vs rfl; rfl
 | unit=>rintro x vs rfl; rfl
 | pair a b iha ihb =>
   rintro x vs ⟨v1,v2,rfl,h1,h2⟩
   simp [Ty.size,iha h1,ihb h2]
 | sl t ih=>rintro x vs ⟨a,cap,rfl,_⟩; rfl
theorem bC.flat {c c':Nat→Nat→Col} {w w':World}:∀ {t:Ty} {x:t.T} {vs:List Value},t.flat = true→bC c w t x vs→bC c' w' t x vs:=by
 intro t
 induction t with
 | int k=>exact fun _ h=>h
 | bool=>exact fun _ h=>h
 | str=>exact fun _ h=>h
 | unit=>exact fun _ h=>h
 | pair a b iha ihb =>
   rintro x vs hf ⟨v1,v2,e,h1,h2⟩
   simp only [Ty.flat,Bool.and_eq_true] at hf
   exact ⟨v1,v2,e,iha hf.1 h1,ihb hf.2 h2⟩
 | sl t ih=>intro x vs hf; simp [Ty.flat] at hf
theorem bD.length {c:Nat→Nat→Col} {w:World} {R:iI} {nh:Nat→Nat→bT} {own:Bool} {i:Nat}:∀ {t:Ty} {x:t.T} {vs:List Value} {j:Nat},bD c w R nh own i t x vs j→vs.length = t.size:=by
 intro t
 induction t with
 | int k=>rintro x vs j rfl; rfl
 | bool=>rintro x vs j rfl; rfl
 | str=>rintro x vs j rfl; rfl
 | unit=>rintro x vs j rfl; rfl
 | pair a b iha ihb =>
   rintro x vs j ⟨v1,v2,rfl,h1,h2⟩
   simp [Ty.size,iha h1,ihb h2]
 | sl t ih=>rintro x vs j ⟨rfl,_⟩; rfl
theorem Fx.mono {R R':iI} {lab YT:Option (Nat×Nat)} {w w':World} {h:bT} {sz:Nat} (ho:Fx R lab w h sz)
 (hw:∀ b o v,R b o = some lab→w.cell? ⟨b,o,none⟩ = some v→w.frozen? ⟨b,o,none⟩ = false→R' b o = some YT ∧ (∃ v',w'.cell? ⟨b,o,none⟩ = some v') ∧ w'.frozen? ⟨b,o,none⟩ = false):Fx R' YT w' h sz:=fun ad had=>⟨(ho ad had).1,fun k hk=>by
 obtain ⟨a1,⟨v,a2⟩,a3⟩:=(ho ad had).2 k hk
 exact hw _ _ v a1 a2 a3⟩
theorem iy {i n q sz:Nat} (hi:i < n) (hq:q < sz):i * sz + q < n * sz:=by
 have:(i + 1) * sz≤n * sz:=Nat.mul_le_mul_right _ hi
 rw [Nat.add_mul,Nat.one_mul] at this; omega
theorem Ad.mono {R:iI} {lab:Option (Nat×Nat)} {w w':World} {Q Q':Nat→List Value→Prop} {h:bT} {n sz:Nat} (he:Ad w Q h n sz) (ho:Fx R lab w h sz) (hn:n≤h.2.2) (hQ:∀ i us,i < n→Q i us→Q' i us)
 (hw:∀ b o v,R b o = some lab→w.cell? ⟨b,o,none⟩ = some v→w.frozen? ⟨b,o,none⟩ = false→w'.cell? ⟨b,o,none⟩ = some v):Ad w' Q' h n sz:=fun i hi=>by
 obtain ⟨us,hl,h1,h2⟩:=he i hi
 refine ⟨us,hl,hQ i us hi h1,fun ad had q v hq=>?_⟩
 have MZ:q < sz:=by rw [← hl]; exact (List.getElem?_eq_some_iff.mp hq).1
 obtain ⟨a1,_,a3⟩:=(ho ad had).2 (i * sz + q) (Nat.lt_of_lt_of_le (iy hi MZ) (Nat.mul_le_mul_right _ hn))
 rw [← Nat.add_assoc] at a1 a3
 exact hw _ _ v a1 (h2 ad had q v hq) a3
def Nq (R R':iI) (w w':World):Prop:=∀ b o v,R b o ≠ none→w.cell? ⟨b,o,none⟩ = some v→w.frozen? ⟨b,o,none⟩ = false→R' b o = R b o ∧ w'.cell? ⟨b,o,none⟩ = some v ∧ w'.frozen? ⟨b,o,none⟩ = false
theorem bD.mono {c c':Nat→Nat→Col} {w w':World} {R R':iI} {nh lD:Nat→Nat→bT} {own:Bool} {i i':Nat} (hs:Stays c w c' w') (hk:∀ b o v j,R b o = some (some (i,j))→w.cell? ⟨b,o,none⟩ = some v→w.frozen? ⟨b,o,none⟩ = false→R' b o = some (some (i',j)) ∧ w'.cell? ⟨b,o,none⟩ = some v ∧ w'.frozen? ⟨b,o,none⟩ = false) (hnh:∀ j,lD i' j = nh i j) :
 ∀ (t:Ty) (x:t.T) (vs:List Value) (j:Nat),bD c w R nh own i t x vs j→bD c' w' R' lD own i' t x vs j:=by
 intro t
 induction t with
 | int k=>exact fun _ _ _ hr=>hr
 | bool=>exact fun _ _ _ hr=>hr
 | str=>exact fun _ _ _ hr=>hr
 | unit=>exact fun _ _ _ hr=>hr
 | pair a b iha ihb =>
   rintro x vs j ⟨v1,v2,e,h1,h2⟩
   exact ⟨v1,v2,e,iha _ _ _ h1,ihb _ _ _ h2⟩
 | sl t ih =>
   rintro x vs j ⟨e,h1,h2,h3⟩
   refine ⟨by rw [hnh]; exact e,by rw [hnh]; exact h1,fun ho=>?_,fun ho=>bC.mono hs _ _ _ (h3 ho)⟩
   obtain ⟨f,h4,h5⟩:=h2 ho
   rw [hnh]
   exact ⟨f,h4.mono fun b o v a1 a2 a3=>by obtain ⟨q1,q2,q3⟩:=hk b o v _ a1 a2 a3; exact ⟨q1,⟨v,q2⟩,q3⟩,h5.mono h4 h1.2.1 (fun k us _ hr=>bC.flat f hr) fun b o v a1 a2 a3=>(hk b o v _ a1 a2 a3).2.1⟩
theorem cB.mono {c c':Nat→Nat→Col} {w w':World} {R R':iI} {nh:Nat→Nat→bT} {own:Nat→Bool} {t:Ty} {x:L t.T} {h:bT} (hs:Stays c w c' w') (hk:Nq R R' w w') (hr:cB c w R nh own t x h):cB c' w' R' nh own t x h:=by
 obtain ⟨h1,h2,h3⟩:=hr
 refine ⟨h1,h2.mono fun b o v a1 a2 a3=>?_,h3.mono h2 h1.2.1 (fun i us _ hq=>bD.mono hs (fun b o v j a1 a2 a3=>?_) (fun _=>rfl) _ _ _ _ hq) fun b o v a1 a2 a3=>(hk b o v (by rw [a1]; simp) a2 a3).2.1⟩
 · obtain ⟨q1,q2,q3⟩:=hk b o v (by rw [a1]; simp) a2 a3
   exact ⟨q1.trans a1,⟨v,q2⟩,q3⟩
 · obtain ⟨q1,q2,q3⟩:=hk b o v (by rw [a1]; simp) a2 a3
   exact ⟨q1.trans a1,q2,q3⟩
structure bV (g:Gh) (w:World) (g':Gh) (w':World):Prop extends Stays g.col w g'.col w' where
 db:∀ id,g.db id→g'.db id ∧ g'.bx id = g.bx id
 dh:∀ id u,g.dh id u→g'.dh id u ∧ g'.hd id u = g.hd id u
 dn:∀ id u,g.dn id u→g'.dn id u ∧ g'.nh id u = g.nh id u ∧ g'.ni id u = g.ni id u
theorem bV.refl (g:Gh) (w:World):bV g w g w:={ Stays.refl _ _ with db:=fun _ h=>⟨h,rfl⟩,dh:=fun _ _ h=>⟨h,rfl⟩,dn:=fun _ _ h=>⟨h,rfl,rfl⟩ }
theorem bV.trans {g1 g2 g3:Gh} {w1 w2 w3:World} (h:bV g1 w1 g2 w2) (k:bV g2 w2 g3 w3):bV g1 w1 g3 w3 :=
 { h.toStays.trans k.toStays with
   db:=fun id a=>⟨(k.db id (h.db id a).1).1,(k.db id (h.db id a).1).2.trans (h.db id a).2⟩
   dh:=fun id u a=>⟨(k.dh id u (h.dh id u a).1).1,(k.dh id u (h.dh id u a).1).2.trans (h.dh id u a).2⟩
   dn:=fun id u a=>⟨(k.dn id u (h.dn id u a).1).1,(k.dn id u (h.dn id u a).1).2.1.trans (h.dn id u a).2.1,(k.dn id u (h.dn id u a).1).2.2.trans (h.dn id u a).2.2⟩ }
mutual
theorem aF.mono {g g':Gh} {w w':World} (h:bV g w g' w'):∀ (p:PV) (v:Value),aF g w p v→aF g' w' p v
 | .int _ _,_,e=>by simpa only [aF] using e
 | .bool _,_,e=>by simpa only [aF] using e
 | .str _,_,e=>by simpa only [aF] using e
 | .l9,_,e=>by simpa only [aF] using e
 | .sl t x,v,e=>by
   simp only [aF] at e ⊢
   exact bC.mono h.toStays _ _ _ e
 | .agg cs,v,e=>by
   simp only [aF] at e ⊢
   obtain ⟨vs,e1,e2⟩:=e
   exact ⟨vs,e1,ak.mono h cs vs e2⟩
 | .bx id off,v,e=>by
   simp only [aF] at e ⊢
   exact ⟨(h.db id e.1).1,by rw [(h.db id e.1).2]; exact e.2⟩
 | .ms id u,v,e=>by
   simp only [aF] at e ⊢
   exact ⟨(h.dh id u e.1).1,by rw [(h.dh id u e.1).2]; exact e.2⟩
 | .vw id u sz lo hi,v,e=>by
   simp only [aF] at e ⊢
   exact ⟨(h.dh id u e.1).1,by rw [(h.dh id u e.1).2]; exact e.2⟩
 | .mn id u i j,v,e=>by
   simp only [aF] at e ⊢
   obtain ⟨a1,a2,a3⟩:=h.dn id u e.1
   exact ⟨a1,by rw [a2,a3]; exact e.2⟩
 | .vn id u i j sz lo hi,v,e=>by
   simp only [aF] at e ⊢
   obtain ⟨a1,a2,a3⟩:=h.dn id u e.1
   exact ⟨a1,by rw [a2,a3]; exact e.2⟩
 | .me id u sz i off,v,e=>by
   simp only [aF] at e ⊢
   exact ⟨(h.dh id u e.1).1,by rw [(h.dh id u e.1).2]; exact e.2⟩
 | .mp id u i j sz k off,v,e=>by
   simp only [aF] at e ⊢
   obtain ⟨a1,a2,a3⟩:=h.dn id u e.1
   exact ⟨a1,by rw [a2,a3]; exact e.2⟩
 | .so t cs,v,e=>by
   simp only [aF] at e ⊢
   obtain ⟨b,us,e1,e2,e3,e4⟩:=e
   exact ⟨b,us,e1,e2,ak.mono h cs us e3,e4.mono h.toStays⟩
 | .rf cs,v,e=>by
   simp only [aF] at e ⊢
   obtain ⟨b,o,us,e1,e2,e3⟩:=e
   exact ⟨b,o,us,e1,ak.mono h cs us e2,e3.mono h.toStays⟩
 | .fn f cap,v,e=>by
   simp only [aF] at e ⊢
   obtain ⟨vs,e1,e2⟩:=e
   exact ⟨vs,e1,ak.mono h cap vs e2⟩
 | .HY cs,v,e=>by
   simp only [aF] at e ⊢
   obtain ⟨vs,e1,e2⟩:=e
   exact ⟨vs,e1,ak.mono h cs vs e2⟩
 | .any,_,_=>by simp only [aF]
theorem ak.mono {g g':Gh} {w w':World} (h:bV g w g' w'):∀ (ps:List PV) (vs:List Value),ak g w ps vs→ak g' w' ps vs
 | [],_,e=>by simpa only [ak] using e
 | p::ps,vs,e=>by
   simp only [ak] at e ⊢
   obtain ⟨u,us,e1,e2,e3⟩:=e
   exact ⟨u,us,e1,aF.mono h p u e2,ak.mono h ps us e3⟩
end
theorem ak.length {g:Gh} {w:World}:∀ {ps:List PV} {vs:List Value},ak g w ps vs→vs.length = ps.length
 | [],vs,h=>by simp only [ak] at h; rw [h]; rfl
 | p::ps,vs,h=>by
   simp only [ak] at h
   obtain ⟨u,us,rfl,_,h3⟩:=h
   simp [h3.length]
theorem ak.append {g:Gh} {w:World}:∀ {ps qs:List PV} {vs us:List Value},ak g w ps vs→ak g w qs us→ak g w (ps ++ qs) (vs ++ us)
 | [],qs,vs,us,h,k=>by simp only [ak] at h; rw [h]; exact k
 | p::ps,qs,vs,us,h,k=>by
   simp only [ak] at h
   obtain ⟨u,r,rfl,h2,h3⟩:=h
   simp only [List.cons_append,ak]
   exact ⟨u,r ++ us,rfl,h2,ak.append h3 k⟩
theorem ak.split {g:Gh} {w:World}:∀ {ps qs:List PV} {vs:List Value},ak g w (ps ++ qs) vs→∃ v1 v2,vs = v1 ++ v2 ∧ ak g w ps v1 ∧ ak g w qs v2
 | [],qs,vs,h=>⟨[],vs,rfl,by simp only [ak],h⟩
 | p::ps,qs,vs,h=>by
   simp only [List.cons_append,ak] at h
   obtain ⟨u,r,rfl,h2,h3⟩:=h
   obtain ⟨v1,v2,rfl,h4,h5⟩:=ak.split h3
   exact ⟨u::v1,v2,rfl,by simp only [ak]; exact ⟨u,v1,rfl,h2,h4⟩,h5⟩
theorem ak.get {g:Gh} {w:World}:∀ {ps:List PV} {vs:List Value},ak g w ps vs→∀ (i:Nat) (p:PV),ps[i]? = some p→∃ v,vs[i]? = some v ∧ aF g w p v
 | [],vs,h,i,p,hp=>by simp at hp
 | q::ps,vs,h,i,p,hp=>by
   simp only [ak] at h
   obtain ⟨u,r,rfl,h2,h3⟩:=h
   cases i with
   | zero=>simp at hp; subst hp; exact ⟨u,rfl,h2⟩
   | succ i=>simp at hp; exact ak.get h3 i p hp
theorem ak.oP {g:Gh} {w:World}:∀ {ps:List PV} {vs:List Value},vs.length = ps.length→(∀ (i:Nat) (p:PV) (v:Value),ps[i]? = some p→vs[i]? = some v→aF g w p v)→ak g w ps vs
 | [],vs,hl,_=>by cases vs with | nil=>simp only [ak] | cons a b=>simp at hl
 | p::ps,vs,hl,h=>by
   cases vs with
   | nil=>simp at hl
   | cons u us =>
     simp only [ak]
     exact ⟨u,us,rfl,h 0 p u rfl rfl,ak.oP (by simpa using hl) fun i p' v' hp hv=>h (i + 1) p' v' (by simpa using hp) (by simpa using hv)⟩
theorem ak.take {g:Gh} {w:World} {ps:List PV} {vs:List Value} (h:ak g w ps vs) (n:Nat):ak g w (ps.take n) (vs.take n):=by
 refine ak.oP (by simp [h.length]) fun i p v hp hv=>?_
 simp only [List.getElem?_take] at hp hv
 split at hp
 · rename_i hi
   rw [if_pos hi] at hv
   obtain ⟨v',hv',hr⟩:=h.get i p hp
   rw [hv] at hv'; cases hv'; exact hr
 · cases hp
theorem ak.drop {g:Gh} {w:World} {ps:List PV} {vs:List Value} (h:ak g w ps vs) (n:Nat):ak g w (ps.drop n) (vs.drop n):=by
 refine ak.oP (by simp [h.length]) fun i p v hp hv=>?_
 simp only [List.getElem?_drop] at hp hv
 obtain ⟨v',hv',hr⟩:=h.get _ p hp
 rw [hv] at hv'; cases hv'; exact hr
theorem gK {g:Gh} {w:World}:∀ {t:Ty} {x:t.T} {vs:List Value},bC g.col w t x vs→ak g w (pk t x) vs:=by
 intro t
 induction t with
 | int k=>rintro x vs rfl; simp only [pk,ak,aF]; exact ⟨_,_,rfl,rfl,rfl⟩
 | bool=>rintro x vs rfl; simp only [pk,ak,aF]; exact ⟨_,_,rfl,rfl,rfl⟩
 | str=>rintro x vs rfl; simp only [pk,ak,aF]; exact ⟨_,_,rfl,rfl,rfl⟩
 | unit=>rintro x vs rfl; simp only [pk,ak]
 | pair a b iha ihb =>
   rintro x vs ⟨v1,v2,rfl,h1,h2⟩
   exact ak.append (iha h1) (ihb h2)
 | sl t ih =>
   rintro x vs ⟨a,cap,rfl,h⟩
   simp only [pk,ak,aF]
   exact ⟨_,_,rfl,⟨a,cap,rfl,h⟩,rfl⟩
theorem Lv {c:Nat→Nat→Col} {w:World} {a b:Ty} (h:a = b) {x:L a.T} {vs:List Value} (hr:bC c w (.sl a) x vs):bC c w (.sl b) (dx h x) vs:=by
 subst h; exact hr
theorem Lx {a b:Ty} (h:a = b) (x:L a.T):(dx h x).len = x.len:=by subst h; rfl
theorem Nr {a b:Ty} (h:a = b) (x:L a.T) (i:Nat):pk b ((dx h x).get i) = pk a (x.get i):=by subst h; rfl
theorem uz {c:Nat→Nat→Col} {w:World} (t:Ty):bC c w (.sl t) { len:=0,get:=fun _=>t.zero,nil:=true } [.slice none 0 0] :=
 ⟨none,0,rfl,Nat.le_refl _,⟨fun _=>rfl,fun _=>rfl,fun _=>rfl⟩,fun ad had=>by cases had⟩
theorem Vu {g:Gh} {w:World}:∀ {t:Ty} {cs:List PV} {x:t.T} {r:List PV} {vs:List Value},un t cs = some (x,r)→ak g w cs vs →
 ∃ v1 v2,vs = v1 ++ v2 ∧ bC g.col w t x v1 ∧ ak g w r v2:=by
 intro t
 induction t with
 | int k =>
   intro cs x r vs h hr
   cases cs with
   | nil=>simp [un] at h
   | cons p ps =>
     cases p <;> simp [un] at h
     obtain ⟨h1,rfl,rfl⟩:=h
     subst h1
     simp only [ak,aF] at hr
     obtain ⟨u,us,rfl,rfl,h3⟩:=hr
     exact ⟨[_],us,rfl,rfl,h3⟩
 | bool =>
   intro cs x r vs h hr
   cases cs with
   | nil=>simp [un] at h
   | cons p ps =>
     cases p <;> simp [un] at h
     obtain ⟨rfl,rfl⟩:=h
     simp only [ak,aF] at hr
     obtain ⟨u,us,rfl,rfl,h3⟩:=hr
     exact ⟨[_],us,rfl,rfl,h3⟩
 | str =>
   intro cs x r vs h hr
   cases cs with
   | nil=>simp [un] at h
   | cons p ps =>
     cases p <;> simp [un] at h
     obtain ⟨rfl,rfl⟩:=h
     simp only [ak,aF] at hr
     obtain ⟨u,us,rfl,rfl,h3⟩:=hr
     exact ⟨[_],us,rfl,rfl,h3⟩
 | unit =>
   intro cs x r vs h hr
   simp [un] at h
   subst h
   exact ⟨[],vs,rfl,rfl,hr⟩
 | pair a b iha ihb =>
   intro cs x r vs h hr
   simp only [un] at h
   split at h
   · rename_i x1 r1 h1
     split at h
     · rename_i y1 r2 h2
       simp only [Option.some.injEq,Prod.mk.injEq] at h
       obtain ⟨rfl,rfl⟩:=h
       obtain ⟨v1,v2,rfl,k1,k2⟩:=iha h1 hr
       obtain ⟨u1,u2,rfl,k3,k4⟩:=ihb h2 k2
       exact ⟨v1 ++ u1,u2,by simp,⟨v1,u1,rfl,k1,k3⟩,k4⟩
     · cases h
   · cases h
 | sl t ih =>
   intro cs x r vs h hr
   cases cs with
   | nil=>simp [un] at h
   | cons p ps =>
     cases p <;> simp only [un] at h <;> try cases h
     · simp only [ak,aF] at hr
       obtain ⟨u,us,rfl,rfl,h3⟩:=hr
       exact ⟨[_],us,rfl,uz t,h3⟩
     · split at h
       · rename_i t' y hb
         simp only [Option.some.injEq,Prod.mk.injEq] at h
         obtain ⟨rfl,rfl⟩:=h
         simp only [ak] at hr
         obtain ⟨u,us,rfl,h2,h3⟩:=hr
         simp only [aF] at h2
         exact ⟨[_],us,rfl,Lv _ h2,h3⟩
       · cases h
theorem fA {g:Gh} {w:World} {t:Ty} {cs:List PV} {x:t.T} {vs:List Value} (h:yt t cs = some x) (hr:ak g w cs vs):bC g.col w t x vs:=by
 simp only [yt] at h
 split at h
 · rename_i y h1
   simp only [Option.some.injEq] at h; subst h
   obtain ⟨v1,v2,rfl,k1,k2⟩:=Vu h1 hr
   simp only [ak] at k2; subst k2
   simpa using k1
 · cases h
def mkV (t:Ty) (vs:List Value):Value:=match t with
 | .unit=>.agg vs.toArray
 | .pair _ _=>.agg vs.toArray
 | _=>vs.headD undef
theorem Ij {g:Gh} {w:World} {t:Ty} {x:t.T} {vs:List Value} (h:bC g.col w t x vs):aF g w (yh t (pk t x)) (mkV t vs):=by
 have hp:=gK h
 cases t with
 | unit=>simp only [yh,mkV,aF]; exact ⟨vs,rfl,hp⟩
 | pair a b=>simp only [yh,mkV,aF]; exact ⟨vs,rfl,hp⟩
 | int k=>simp only [pk,ak] at hp; obtain ⟨u,us,rfl,h2,h3⟩:=hp; exact h2
 | bool=>simp only [pk,ak] at hp; obtain ⟨u,us,rfl,h2,h3⟩:=hp; exact h2
 | str=>simp only [pk,ak] at hp; obtain ⟨u,us,rfl,h2,h3⟩:=hp; exact h2
 | sl t=>simp only [pk,ak] at hp; obtain ⟨u,us,rfl,h2,h3⟩:=hp; exact h2
end Go.VE
