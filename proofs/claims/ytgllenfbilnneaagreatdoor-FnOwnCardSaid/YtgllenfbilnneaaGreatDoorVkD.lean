import Derived.Test.YtgllenfbilnneaaGreatDoorVkC
import Derived.Laws.Cells
import Derived.Laws.IdiomCopy
import Derived.Laws.Append
import Derived.Laws.Slices
import Derived.Laws.Small
import Derived.Deep.Draws
/- What a run of the evaluator says of memory,and what an operation makes of it. -/
namespace Go.VE
open Go.RowKit (Below)
def JD (g:Gh) (w:World) (id o:Nat) (us:List Value):Prop :=
 ∀ j v,us[j]? = some v→g.col (g.bx id).1 (o + j) = .bx id ∧ w.cell? ⟨(g.bx id).1,o + j,none⟩ = some v ∧ w.frozen? ⟨(g.bx id).1,o + j,none⟩ = false
def DX (g:Gh) (w:World) (id:Nat):Prop:=∀ b o,g.R id b o ≠ none→g.col b o = .bx id ∧ (∃ v,w.cell? ⟨b,o,none⟩ = some v) ∧ w.frozen? ⟨b,o,none⟩ = false
def Cr (col:Nat→Nat→Col) (w:World) (R:iI) (nh:Nat→Nat→bT) (u:Ty) (x:L (L u.T)) (i:Nat) (h:bT):Prop :=
 uy h x.len x.nil ∧ Fx R none w h (Ty.sl u).size ∧ Ad w (fun k us=>k ≠ i→bD col w R nh true k (.sl u) (x.get k) us 0) h x.len (Ty.sl u).size
theorem Cr.mono {c c':Nat→Nat→Col} {w w':World} {R R':iI} {nh:Nat→Nat→bT} {u:Ty} {x:L (L u.T)} {i:Nat} {h:bT} (hs:Stays c w c' w') (hk:Nq R R' w w') (hr:Cr c w R nh u x i h):Cr c' w' R' nh u x i h:=by
 obtain ⟨h1,h2,h3⟩:=hr
 refine ⟨h1,h2.mono fun b o v a1 a2 a3=>?_,h3.mono h2 h1.2.1 (fun k us _ hq hki=>bD.mono hs (fun b o v j a1 a2 a3=>?_) (fun _=>rfl) _ _ _ _ (hq hki)) fun b o v a1 a2 a3=>(hk b o v (by rw [a1]; simp) a2 a3).2.1⟩
 · obtain ⟨q1,q2,q3⟩:=hk b o v (by rw [a1]; simp) a2 a3
   exact ⟨q1.trans a1,⟨v,q2⟩,q3⟩
 · obtain ⟨q1,q2,q3⟩:=hk b o v (by rw [a1]; simp) a2 a3
   exact ⟨q1.trans a1,q2,q3⟩
def gF (g:Gh) (w:World) (id:Nat):aU→Prop
 | .hol u x i hv nv=>g.dh id hv ∧ g.dn id nv ∧ g.ni id nv = x.len ∧ Cr g.col w (g.R id) (g.nh id nv) u x i (g.hd id hv) ∧ DX g w id
 | .cells cs=>g.db id ∧ ∃ us,ak g w cs us ∧ JD g w id (g.bx id).2 us
 | .row t x own hv nv=>g.dh id hv ∧ g.dn id nv ∧ g.ni id nv = x.len ∧ cB g.col w (g.R id) (g.nh id nv) (ownB own) t x (g.hd id hv) ∧ DX g w id
 | .gone _ _=>True
 | .iter s pos=>g.db id ∧ (g.bx id).2 = 0 ∧ (∀ o,g.col (g.bx id).1 o = .bx id) ∧ w.heap[(g.bx id).1]? = some (.stringIter s pos)
def aU.mG:aU→Bool
 | .cells _=>true
 | .iter _ _=>true
 | _=>false
def aU.hv:aU→Nat
 | .row _ _ _ hv _=>hv
 | .gone hv _=>hv
 | .hol _ _ _ hv _=>hv
 | _=>0
def aU.nv:aU→Nat
 | .row _ _ _ _ nv=>nv
 | .gone _ nv=>nv
 | .hol _ _ _ _ nv=>nv
 | _=>0
def Ct (c0:Nat→Nat→Col) (w:World):Prop:=(∀ j,j < 32→w.cell? ⟨0,j,none⟩ = some (.int .u8 (([0,1,28,2,29,14,24,3,30,22,20,15,25,17,4,8,31,27,13,23,21,19,16,7,26,12,18,6,11,5,10,9]:List Nat).getD j 0:Nat))) ∧ ∀ o id,c0 0 o ≠ .bx id
structure Keep (c0:Nat→Nat→Col) (w0 w:World):Prop where
 os:w.os = w0.os
 tape:w.tape = w0.tape
 output:w.output = w0.output
 size:w0.heap.size≤w.heap.size
 blk:∀ b,b < w0.heap.size→(∀ o id,c0 b o ≠ .bx id)→w.heap[b]? = w0.heap[b]?
 dY:∀ b,b < w0.heap.size→∀ o,(∀ id,c0 b o ≠ .bx id)→w.cell? ⟨b,o,none⟩ = w0.cell? ⟨b,o,none⟩
 uD:∀ b,b < w0.heap.size→∀ o,w.frozen? ⟨b,o,none⟩ = w0.frozen? ⟨b,o,none⟩
 ex:∀ b,b < w0.heap.size→∀ o,(w.cell? ⟨b,o,none⟩).isSome = (w0.cell? ⟨b,o,none⟩).isSome
 /-- Nothing new is frozen; nothing that was handed in as a box. -/
 new:∀ b,w0.heap.size≤b→∀ o,w.frozen? ⟨b,o,none⟩ = false
 YU:∀ b o id,c0 b o = .bx id→∀ o',w0.frozen? ⟨b,o',none⟩ = false
 lay:Ct c0 w0
theorem dH {w:World} {b:Nat} (h:w.heap.size≤b) (o:Nat):w.frozen? ⟨b,o,none⟩ = false:=by
 simp only [World.frozen?,Array.getElem?_eq_none h]
theorem Ae {w:World} {c:Array Value} {t:TypeId} {b:Nat} (h:w.heap.size≤b) (o:Nat):(w.alloc (.cells c t)).frozen? ⟨b,o,none⟩ = false:=by
 rcases Nat.lt_or_eq_of_le h with q | rfl
 · exact dH (by simp; omega) o
 · exact World.frozen?_alloc_new ..
theorem Keep.refl (c0:Nat→Nat→Col) (w:World) (hu:∀ b o id,c0 b o = .bx id→∀ o',w.frozen? ⟨b,o',none⟩ = false) (hl:Ct c0 w):Keep c0 w w:=⟨rfl,rfl,rfl,Nat.le_refl _,fun _ _ _=>rfl,fun _ _ _ _=>rfl,fun _ _ _=>rfl,fun _ _ _=>rfl,fun _ h=>dH h,hu,hl⟩
theorem Keep.drew {c0:Nat→Nat→Col} {w0 w:World} (h:Keep c0 w0 w):Keep c0 w0 w.drew:=⟨h.os,h.tape,h.output,h.size,h.blk,h.dY,h.uD,h.ex,h.new,h.YU,h.lay⟩
theorem Keep.alloc {c0:Nat→Nat→Col} {w0 w:World} (h:Keep c0 w0 w) (o:Obj) (ho:∀ o',(w.alloc o).frozen? ⟨w.heap.size,o',none⟩ = false):Keep c0 w0 (w.alloc o):=by
 have hb:∀ b,b < w0.heap.size→(w.alloc o).heap[b]? = w.heap[b]?:=fun b hb=>Below.heap_alloc w o b (Nat.lt_of_lt_of_le hb h.size)
 refine ⟨h.os,h.tape,h.output,?_,fun b hl hc=>(hb b hl).trans (h.blk b hl hc),fun b hl o' hc=>?_,fun b hl o'=>?_,fun b hl o'=>?_,fun b hl o'=>?_,h.YU,h.lay⟩
 · have:=h.size; simp; omega
 · rw [World.cell?_of_block (w:=w) (hb b hl)]; exact h.dY b hl o' hc
 · rw [World.frozen?_of_block (w:=w) (hb b hl)]; exact h.uD b hl o'
 · rw [World.cell?_of_block (w:=w) (hb b hl)]; exact h.ex b hl o'
 · rcases Nat.lt_trichotomy b w.heap.size with q | rfl | q
   · rw [World.frozen?_of_block (w:=w) (Below.heap_alloc w o b q)]; exact h.new b hl o'
   · exact ho o'
   · exact dH (by simp; omega) o'
structure Fr where
 n:Nat
 b0:Nat→Nat×Nat
 h0:Nat→bT
 n0:Nat→Nat→Nat→bT
def stay (id:Nat):Prop:=dV≤id ∨ (bF≤id ∧ id % 64 = 0)
def given (id:Nat):Prop:=bF≤id ∧ id < dV ∧ id % 64 ≠ 0
def YV (c0:Nat→Nat→Col) (b o id:Nat):Prop:=(stay id→c0 b o = .bx id) ∧ (¬ stay id→∃ m,given m ∧ c0 b o = .bx m)
structure bO (N:Fr) (c0:Nat→Nat→Col) (w0:World) (σ:AS) (g:Gh) (a:Act) (w:World):Prop where
 size:a.tmps.size = N.n
 env:∀ i,aF g w (σ.env i) (a.tmps.getD i undef)
 defers:a.defers = []
 box:∀ id c,σ.box id = some c→gF g w id c
 db:∀ id,g.db id→∃ c,σ.box id = some c ∧ c.mG = true
 dh:∀ id u,g.dh id u→∃ c,σ.box id = some c ∧ c.mG = false ∧ u≤c.hv
 dn:∀ id u,g.dn id u→∃ c,σ.box id = some c ∧ c.mG = false ∧ u≤c.nv
 pts:∀ id,bF≤id→g.db id→g.bx id = N.b0 id
 fix:∀ id,dV≤id→∀ u,(g.dh id u→g.hd id u = N.h0 id) ∧ (g.dn id u→g.nh id u = N.n0 id)
 keep:Keep c0 w0 w
 old:∀ b,b < w0.heap.size→∀ o,(g.col b o = .st ↔ c0 b o = .st) ∧ ∀ id,g.col b o = .bx id→YV c0 b o id
theorem bO.Ns {N:Fr} {c0:Nat→Nat→Col} {w0:World} {σ:AS} {g:Gh} {a:Act} {w:World} (h:bO N c0 w0 σ g a w) {b o id:Nat} (hc:g.col b o = .bx id) (o':Nat):w.frozen? ⟨b,o',none⟩ = false:=by
 rcases Nat.lt_or_ge b w0.heap.size with q | q
 · rw [h.keep.uD b q]
   obtain ⟨q1,q2⟩:=(h.old b q o).2 id hc
   by_cases hst:Go.VE.stay id
   · exact h.keep.YU b o _ (q1 hst) o'
   · obtain ⟨m,_,q3⟩:=q2 hst
     exact h.keep.YU b o _ q3 o'
 · exact h.keep.new b q o'
theorem bO.lay {N:Fr} {c0:Nat→Nat→Col} {w0:World} {σ:AS} {g:Gh} {a:Act} {w:World} (h:bO N c0 w0 σ g a w):(∀ o id,g.col 0 o ≠ .bx id) ∧ ∀ j,w.cell? ⟨0,j,none⟩ = w0.cell? ⟨0,j,none⟩:=by
 obtain ⟨h1,h2⟩:=h.keep.lay
 have hlt:0 < w0.heap.size:=World.block_lt_of_cell? w0 _ (h1 0 (by decide))
 refine ⟨fun o id hc=>?_,fun j=>h.keep.dY 0 hlt j (h2 j)⟩
 obtain ⟨q1,q2⟩:=(h.old 0 hlt o).2 id hc
 by_cases hst:Go.VE.stay id
 · exact h2 o _ (q1 hst)
 · obtain ⟨m,_,q3⟩:=q2 hst
   exact h2 o _ q3
theorem Af {g:Gh} {w:World}:bV g w g w.drew:={ bV.refl g w with st:=fun _ _ _ h h'=>⟨h,h'⟩ }
theorem ji {w:World} {b:Nat} {ob:Obj} (h:w.heap[b]? = some ob):b < w.heap.size:=(Array.getElem?_eq_some_iff.mp h).1
theorem gF.stay {g g':Gh} {w w':World} {id:Nat} {c:aU} (hs:bV g w g' w') (hR:g'.R id = g.R id)
 (hb:∀ b o v,g.col b o = .bx id→w.cell? ⟨b,o,none⟩ = some v→w.frozen? ⟨b,o,none⟩ = false→g'.col b o = .bx id ∧ w'.cell? ⟨b,o,none⟩ = some v ∧ w'.frozen? ⟨b,o,none⟩ = false)
 (hi:∀ ob,(∀ o,g.col (g.bx id).1 o = .bx id)→w.heap[(g.bx id).1]? = some ob→w.cell? ⟨(g.bx id).1,0,none⟩ = none→w'.heap[(g.bx id).1]? = some ob ∧ ∀ o,g'.col (g.bx id).1 o = .bx id)
 (h:gF g w id c):gF g' w' id c:=by
 cases c with
 | cells cs =>
   obtain ⟨hd,us,h1,h2⟩:=h
   obtain ⟨d1,d2⟩:=hs.db id hd
   refine ⟨d1,us,ak.mono hs _ _ h1,fun j v hj=>?_⟩
   rw [d2]
   obtain ⟨a1,a2,a3⟩:=h2 j v hj
   exact hb _ _ _ a1 a2 a3
 | row t x own hv nv =>
   obtain ⟨h1,h2,h3,h4,h5⟩:=h
   obtain ⟨d1,d2⟩:=hs.dh id hv h1
   obtain ⟨e1,e2,e3⟩:=hs.dn id nv h2
   have hp:∀ b o,g.R id b o ≠ none→∀ v,w.cell? ⟨b,o,none⟩ = some v→g'.col b o = .bx id ∧ w'.cell? ⟨b,o,none⟩ = some v ∧ w'.frozen? ⟨b,o,none⟩ = false:=fun b o hr v hv=>hb b o v (h5 b o hr).1 hv (h5 b o hr).2.2
   refine ⟨d1,e1,e3.trans h3,?_,fun b o hr=>?_⟩
   · rw [d2,e2,hR]
     exact h4.mono hs.toStays fun b o v hr hv _=>⟨rfl,(hp b o hr v hv).2⟩
   · rw [hR] at hr
     obtain ⟨_,⟨v,hv⟩,_⟩:=h5 b o hr
     obtain ⟨q1,q2,q3⟩:=hp b o hr v hv
     exact ⟨q1,⟨v,q2⟩,q3⟩
 | hol u x i hv nv =>
   obtain ⟨h1,h2,h3,h4,h5⟩:=h
   obtain ⟨d1,d2⟩:=hs.dh id hv h1
   obtain ⟨e1,e2,e3⟩:=hs.dn id nv h2
   have hp:∀ b o,g.R id b o ≠ none→∀ v,w.cell? ⟨b,o,none⟩ = some v→g'.col b o = .bx id ∧ w'.cell? ⟨b,o,none⟩ = some v ∧ w'.frozen? ⟨b,o,none⟩ = false:=fun b o hr v hv=>hb b o v (h5 b o hr).1 hv (h5 b o hr).2.2
   refine ⟨d1,e1,e3.trans h3,?_,fun b o hr=>?_⟩
   · rw [d2,e2,hR]
     exact h4.mono hs.toStays fun b o v hr hv _=>⟨rfl,(hp b o hr v hv).2⟩
   · rw [hR] at hr
     obtain ⟨_,⟨v,hv⟩,_⟩:=h5 b o hr
     obtain ⟨q1,q2,q3⟩:=hp b o hr v hv
     exact ⟨q1,⟨v,q2⟩,q3⟩
 | gone _ _=>exact trivial
 | iter s pos =>
   obtain ⟨h0,h1,h2,h3⟩:=h
   obtain ⟨d1,d2⟩:=hs.db id h0
   obtain ⟨k1,k2⟩:=hi _ h2 h3 (by simp [World.cell?,h3])
   exact ⟨d1,by rw [d2]; exact h1,by rw [d2]; exact k2,by rw [d2]; exact k1⟩
theorem bO.drew {N:Fr} {c0:Nat→Nat→Col} {w0:World} {σ:AS} {g:Gh} {a:Act} {w:World} (h:bO N c0 w0 σ g a w):bO N c0 w0 σ g a w.drew :=
 { h with
   env:=fun i=>aF.mono Af _ _ (h.env i)
   box:=fun id c hc=>(h.box id c hc).stay Af rfl (fun _ _ _ a1 a2 a3=>⟨a1,a2,a3⟩) (fun _ c1 c2 _=>⟨c2,c1⟩)
   keep:=h.keep.drew }
theorem Nt (a:Act) (d:Nat) (v:Value) (i:Nat) (hd:d < a.tmps.size):(a.put (some d) v).tmps.getD i undef = if i = d then v else a.tmps.getD i undef:=by
 simp only [Act.put,Array.getD_eq_getD_getElem?,Array.getElem?_setIfInBounds]
 by_cases h:d = i
 · subst h; simp [hd]
 · simp [h,Ne.symm h]
theorem cK {α:Type} (f:Nat→α) (d:Nat) (v:α) (i:Nat):upd f d v i = if i = d then v else f i:=by
 simp only [upd]
 by_cases h:i = d
 · subst h; simp
 · cases hb:Nat.beq i d with
   | true=>exact absurd (Nat.eq_of_beq_eq_true hb) h
   | false=>simp [h]
def dZ (N:Fr) (dst:Option Nat):Bool:=DV N.n dst
theorem Nu {N:Fr} {d:Nat} (h:dZ N (some d) = true):d < N.n:=by
 simp only [dZ,DV,Bool.and_eq_true,Nat.blt_eq] at h; exact h.1
theorem jk {N:Fr} {d:Nat} (h:dZ N (some d) = true):d < bF:=by
 simp only [dZ,DV,Bool.and_eq_true,Nat.blt_eq] at h; exact h.2
theorem bO.put {N:Fr} {c0:Nat→Nat→Col} {w0:World} {σ:AS} {g:Gh} {a:Act} {w:World} (h:bO N c0 w0 σ g a w) {dst:Option Nat} (hd:dZ N dst = true) {p:PV} {v:Value} (hr:aF g w p v) :
 bO N c0 w0 (σ.put dst p) g (a.put dst v) w:=by
 cases dst with
 | none=>exact h
 | some d =>
   have hlt:d < a.tmps.size:=by rw [h.size]; exact Nu hd
   refine { h with size:=?_,env:=fun i=>?_,defers:=h.defers,box:=h.box,db:=h.db,dh:=h.dh,dn:=h.dn }
   · simp [Act.put,h.size]
   · rw [Nt _ _ _ _ hlt]
     show aF g w (upd σ.env d p i) _
     rw [cK]
     split
     · exact hr
     · exact h.env i
theorem AS.LB (σ:AS) (dst:Option Nat) (p:PV):σ.app dst { v:=p } = σ.put dst p:=by
 cases dst <;> rfl
theorem JE {env:Nat→PV} {g:Gh} {a:Act} {w:World} (h:∀ i,aF g w (env i) (a.tmps.getD i undef)) (x:Operand):aF g w (jQ env x) (a.eval x):=by
 cases x with
 | tmp t=>exact h t
 | const v =>
   show aF g w (ofV v) v
   have h1:∀ u:Value,aF g w (H8 u) u:=by
    intro u
    unfold H8
    split <;> simp only [aF]
   cases v with
   | agg cs =>
     simp only [ofV,aF]
     refine ⟨cs.toList,by simp,ak.oP (by simp) fun i p v hp hv=>?_⟩
     simp only [List.getElem?_map] at hp
     rw [hv] at hp
     simp only [Option.map_some,Option.some.injEq] at hp
     subst hp; exact h1 v
   | _=>first | exact h1 _ | (simp only [ofV]; exact h1 _)
 | global n=>simp only [jQ,aF]
 | func f=>simp only [jQ,aF]; exact ⟨[],by simp [Act.eval],by simp only [ak]⟩
theorem Nv (g:Gh) (w:World) (u:Value):aF g w (H8 u) u:=by
 unfold H8
 split <;> simp only [aF]
theorem DY {g:Gh} {w:World} {t:Ty} {p:PV} {x:t.T} {v:Value} (h:YI t p = some x) (hr:aF g w p v):∃ us,bC g.col w t x us ∧ v = mkV t us:=by
 unfold YI at h
 split at h
 · rename_i hb
   cases p with
   | agg cs =>
     simp only [aF] at hr
     obtain ⟨vs,rfl,h2⟩:=hr
     refine ⟨vs,fA h h2,?_⟩
     cases t <;> simp [PV.DR,Ty.isAgg] at hb <;> rfl
   | _ =>
     refine ⟨[v],fA h (by simp only [PV.dY,ak]; exact ⟨v,[],rfl,hr,rfl⟩),?_⟩
     cases t <;> simp [PV.DR,Ty.isAgg] at hb <;> rfl
 · cases h
def Gives (P:Program) (o:Oper) (a:Act) (w:World) (v:Value):Prop:=(execOp a.eval o).run P w = .ok (.value v) w
theorem Gives.wp {P:Program} {o:Oper} {a:Act} {w:World} {v:Value} (h:Gives P o a w v) {next:Act→World→Prop} {Q:Exit→Act→World→Prop} (hn:next (a.put o.dst v) w):o.wp P a w next Q:=by
 unfold Oper.wp
 rw [show (execOp a.eval o).run P w = .ok (.value v) w from h]
 exact hn
def DZ (col:Nat→Nat→Col) (n:Nat) (c:Nat→Col):Nat→Nat→Col:=fun b o=>if b = n then c o else col b o
theorem Ik (col:Nat→Nat→Col) (n:Nat) (c:Nat→Col) {b:Nat} (o:Nat) (h:b ≠ n):DZ col n c b o = col b o:=if_neg h
theorem xD (col:Nat→Nat→Col) (w:World) (c:Nat→Col) (ob:Obj):Stays col w (DZ col w.heap.size c) (w.alloc ob):=by
 refine ⟨fun b o v h1 h2=>?_⟩
 have hl:b < w.heap.size:=World.block_lt_of_cell? w ⟨b,o,none⟩ h2
 exact ⟨by rw [Ik _ _ _ _ (by omega)]; exact h1,by rw [World.cell?_alloc_lt _ _ _ hl]; exact h2⟩
theorem bE {w:World} {b o:Nat} {vs:List Value} (hc:∀ j,j < vs.length→(w.cell? ⟨b,o + j,none⟩).isSome = true) (b' o':Nat) :
 (w.setCells b o vs).cell? ⟨b',o',none⟩ = if b' = b ∧ o≤o' ∧ o' < o + vs.length then vs[o' - o]? else w.cell? ⟨b',o',none⟩:=by
 split
 · rename_i h
   obtain ⟨rfl,h1,h2⟩:=h
   have:=World.cell?_setCells_in b' vs o w hc (o' - o) (by omega)
   rw [show o + (o' - o) = o' by omega] at this
   rw [this,List.getElem?_eq_getElem (by omega)]
 · rename_i h
   exact World.cell?_setCells_out b vs o w _ (fun e _=>by simp only at e ⊢; omega)
theorem size_setCells (b:Nat):∀ (vs:List Value) (o:Nat) (w:World),(w.setCells b o vs).heap.size = w.heap.size
 | [],_,_=>rfl
 | v::r,o,w=>by
   show ((w.setCell ⟨b,o,none⟩ v).setCells b (o + 1) r).heap.size = _
   rw [size_setCells b r (o + 1)]; simp
theorem jZ (b k:Nat) (h:k ≠ b):∀ (vs:List Value) (o:Nat) (w:World),(w.setCells b o vs).heap[k]? = w.heap[k]?
 | [],_,_=>rfl
 | v::r,o,w=>by
   show ((w.setCell ⟨b,o,none⟩ v).setCells b (o + 1) r).heap[k]? = _
   rw [jZ b k h r (o + 1)]
   exact Below.heap_setCell _ _ _ _ h
theorem mH (b:Nat):∀ (vs:List Value) (o:Nat) (w:World),(w.setCells b o vs).os = w.os
 | [],_,_=>rfl
 | v::r,o,w=>by
   show ((w.setCell ⟨b,o,none⟩ v).setCells b (o + 1) r).os = _
   rw [mH b r (o + 1)]; rfl
theorem kg (b:Nat):∀ (vs:List Value) (o:Nat) (w:World),(w.setCells b o vs).tape = w.tape
 | [],_,_=>rfl
 | v::r,o,w=>by
   show ((w.setCell ⟨b,o,none⟩ v).setCells b (o + 1) r).tape = _
   rw [kg b r (o + 1)]; rfl
theorem iJ (b:Nat):∀ (vs:List Value) (o:Nat) (w:World),(w.setCells b o vs).output = w.output
 | [],_,_=>rfl
 | v::r,o,w=>by
   show ((w.setCell ⟨b,o,none⟩ v).setCells b (o + 1) r).output = _
   rw [iJ b r (o + 1)]; rfl
/-! ### The one step -/
structure iZ where
 id:Nat
 hv:Nat
 nv:Nat
 hd:bT
 nh:Nat→Nat→bT
 ni:Nat
 R:iI
theorem fK {α:Type}:∀ (l:List (Nat×α)) (f:Nat→α) (d:Nat),d ∉ l.map (·.1)→oG f l d = f d
 | [],_,_,_=>rfl
 | (i,v)::r,f,d,h=>by
   simp only [List.map_cons,List.mem_cons,not_or] at h
   simp only [oG]
   rw [fK r _ d h.2,cK,if_neg h.1]
theorem JF {α:Type}:∀ (l:List (Nat×α)) (f:Nat→α) (d:Nat) (v:α),(l.map (·.1)).Nodup→(d,v) ∈ l→oG f l d = v
 | (i,u)::r,f,d,v,hn,hm=>by
   simp only [List.map_cons,List.nodup_cons] at hn
   simp only [oG]
   rcases List.mem_cons.mp hm with e | hm
   · cases e
     rw [fK r _ _ hn.1,cK,if_pos rfl]
   · exact JF r _ _ _ hn.2 hm
open Classical in
noncomputable def jT (g:Gh) (ns:List iZ) (F:List Nat):Gh :=
 { g with
   col:=fun b o=>match ns.find? (fun n=>decide (n.R b o ≠ none)) with
    | some n=>.bx n.id
    | none=>if ∃ k ∈ F,g.col b o = .bx k then .free else g.col b o
   hd:=fun id u=>match ns.find? (fun n=>decide (n.id = id ∧ n.hv = u)) with
    | some n=>n.hd
    | none=>g.hd id u
   dh:=fun id u=>(∃ n ∈ ns,n.id = id ∧ n.hv = u) ∨ g.dh id u
   nh:=fun id u=>match ns.find? (fun n=>decide (n.id = id ∧ n.nv = u)) with
    | some n=>n.nh
    | none=>g.nh id u
   ni:=fun id u=>match ns.find? (fun n=>decide (n.id = id ∧ n.nv = u)) with
    | some n=>n.ni
    | none=>g.ni id u
   dn:=fun id u=>(∃ n ∈ ns,n.id = id ∧ n.nv = u) ∨ g.dn id u
   R:=fun id=>match ns.find? (fun n=>decide (n.id = id)) with
    | some n=>n.R
    | none=>if id ∈ F then fun _ _=>none else g.R id }
theorem qY {α:Type} {p:α→Bool} {l:List α} {n:α} (h:l.find? p = some n):n ∈ l ∧ p n = true:=⟨List.mem_of_find?_eq_some h,List.find?_some h⟩
theorem iP {α:Type} {p:α→Bool}:∀ {l:List α} {n:α},n ∈ l→p n = true→(∀ m ∈ l,p m = true→m = n)→l.find? p = some n
 | a::r,n,hm,hp,hu=>by
   rw [List.find?_cons]
   cases ha:p a with
   | true=>rw [hu a (by simp) ha]
   | false =>
     rcases List.mem_cons.mp hm with rfl | hm
     · rw [hp] at ha; cases ha
     · exact iP hm hp fun m h1 h2=>hu m (by simp [h1]) h2
theorem Il {ns:List iZ} (hn:(ns.map (·.id)).Nodup):∀ {a b:iZ},a ∈ ns→b ∈ ns→a.id = b.id→a = b:=by
 induction ns with
 | nil=>intro a b h; cases h
 | cons c r ih =>
   intro a b ha hb h
   simp only [List.map_cons,List.nodup_cons,List.mem_map,not_exists,not_and] at hn
   rcases List.mem_cons.mp ha with ha' | ha' <;> rcases List.mem_cons.mp hb with hb' | hb'
   · rw [ha',hb']
   · exact absurd (by rw [← h,ha']) (hn.1 b hb')
   · exact absurd (by rw [h,hb']) (hn.1 a ha')
   · exact ih hn.2 ha' hb' h
section
variable {g:Gh} {ns:List iZ} {F:List Nat} {w:World}
theorem qb (hn:(ns.map (·.id)).Nodup) {n:iZ} (h:n ∈ ns):(jT g ns F).hd n.id n.hv = n.hd:=by
 simp only [jT]
 rw [iP h (by simp) fun m h1 h2=>Il hn h1 h (by simp at h2; exact h2.1)]
theorem sW (hn:(ns.map (·.id)).Nodup) {n:iZ} (h:n ∈ ns):(jT g ns F).nh n.id n.nv = n.nh ∧ (jT g ns F).ni n.id n.nv = n.ni:=by
 simp only [jT]
 rw [iP h (by simp) fun m h1 h2=>Il hn h1 h (by simp at h2; exact h2.1)]
 exact ⟨rfl,rfl⟩
theorem Cu (hn:(ns.map (·.id)).Nodup) {n:iZ} (h:n ∈ ns):(jT g ns F).R n.id = n.R:=by
 simp only [jT]
 rw [iP h (by simp) fun m h1 h2=>Il hn h1 h (by simpa using h2)]
theorem xE {id:Nat} (h:∀ n ∈ ns,n.id ≠ id) (hF:id ∉ F):(jT g ns F).R id = g.R id:=by
 simp only [jT]
 rw [List.find?_eq_none.mpr fun n hn=>by simpa using h n hn]
 simp [hF]
theorem qZ (Ag:∀ n ∈ ns,∀ m ∈ ns,n.id ≠ m.id→∀ b o,n.R b o ≠ none→m.R b o = none) {n:iZ} (h:n ∈ ns) {b o:Nat} (hr:n.R b o ≠ none):(jT g ns F).col b o = .bx n.id:=by
 simp only [jT]
 cases hf:ns.find? (fun n=>decide (n.R b o ≠ none)) with
 | none=>exact absurd hr (by simpa using List.find?_eq_none.mp hf n h)
 | some m =>
   obtain ⟨h1,h2⟩:=qY hf
   simp only
   by_cases e:n.id = m.id
   · rw [e]
   · have:=Ag n h m h1 e b o hr
     simp [this] at h2
theorem ko {b o:Nat} (h:∀ n ∈ ns,n.R b o = none):(jT g ns F).col b o = .free ∧ (∃ k ∈ F,g.col b o = .bx k) ∨ (jT g ns F).col b o = g.col b o:=by
 simp only [jT]
 rw [List.find?_eq_none.mpr fun n hn=>by simpa using h n hn]
 simp only
 split
 · rename_i hk; exact .inl ⟨rfl,hk⟩
 · exact .inr rfl
theorem qc (hR:∀ n ∈ ns,∀ b o,n.R b o ≠ none→(∃ k ∈ F,g.col b o = .bx k) ∨ w.heap.size≤b) {b o:Nat} (hb:b < w.heap.size) (hk:∀ k ∈ F,g.col b o ≠ .bx k):(jT g ns F).col b o = g.col b o:=by
 refine (ko fun n hn=>?_).resolve_left fun q=>?_
 · cases hr:n.R b o with
   | none=>rfl
   | some l =>
     rcases hR n hn b o (by rw [hr]; simp) with ⟨k,k1,k2⟩ | h
     · exact absurd k2 (hk k k1)
     · omega
 · obtain ⟨_,k,k1,k2⟩:=q
   exact hk k k1 k2
end
theorem bO.upd {N:Fr} {c0:Nat→Nat→Col} {w0:World} {σ:AS} {g:Gh} {a:Act} {w w':World} (h:bO N c0 w0 σ g a w) (ns:List iZ) (F:List Nat) (bx:List (Nat×aU))
 (hnd:(bx.map (·.1)).Nodup) (hF:∀ id ∈ F,id ∈ bx.map (·.1) ∧ ¬ stay id ∧ ¬ g.db id) (hns:∀ n ∈ ns,n.id ∈ F) (hnn:(ns.map (·.id)).Nodup)
 (hfresh:∀ n ∈ ns,(∀ u,g.dh n.id u→u < n.hv ∨ (u = n.hv ∧ g.hd n.id u = n.hd)) ∧ ∀ u,g.dn n.id u→u < n.nv ∨ (u = n.nv ∧ g.nh n.id u = n.nh ∧ g.ni n.id u = n.ni))
 (hR:∀ n ∈ ns,∀ b o,n.R b o ≠ none→(∃ k ∈ F,g.col b o = .bx k) ∨ w.heap.size≤b)
 (hcell:∀ b o v,w.cell? ⟨b,o,none⟩ = some v→(∀ k ∈ bx.map (·.1),g.col b o ≠ .bx k)→w'.cell? ⟨b,o,none⟩ = some v)
 (Io:(∀ b o,b < w.heap.size→w'.frozen? ⟨b,o,none⟩ = w.frozen? ⟨b,o,none⟩) ∧ ∀ b o,w.heap.size≤b→w'.frozen? ⟨b,o,none⟩ = false)
 (hblk:∀ b ob,w.heap[b]? = some ob→(∀ o,∀ k ∈ bx.map (·.1),g.col b o ≠ .bx k)→w'.heap[b]? = some ob)
 (hnone:∀ b o,b < w.heap.size→(w'.cell? ⟨b,o,none⟩).isSome = (w.cell? ⟨b,o,none⟩).isSome)
 (hos:w'.os = w.os ∧ w'.tape = w.tape ∧ w'.output = w.output ∧ w.heap.size≤w'.heap.size)
 (hdb:∀ id c,(id,c) ∈ bx→(g.db id ∧ c.mG = true) ∨ (¬ g.db id ∧ c.mG = false ∧ (∀ u,g.dh id u→u≤c.hv) ∧ (∀ u,g.dn id u→u≤c.nv) ∧ ∀ n ∈ ns,n.id = id→n.hv≤c.hv ∧ n.nv≤c.nv))
 (hrep:bV g w (jT g ns F) w'→∀ id c,(id,c) ∈ bx→gF (jT g ns F) w' id c)
 {dst:Option Nat} (hd:dZ N dst = true) {p:PV} {v:Value} (hp:bV g w (jT g ns F) w'→aF (jT g ns F) w' p v) :
 bV g w (jT g ns F) w' ∧ bO N c0 w0 (σ.app dst { v:=p,bx:=bx }) (jT g ns F) (a.put dst v) w':=by
 have hlt:∀ b o v,w.cell? ⟨b,o,none⟩ = some v→b < w.heap.size:=fun b o v hv=>World.block_lt_of_cell? w ⟨b,o,none⟩ hv
 have hs:bV g w (jT g ns F) w' :=
  { st:=fun b o v h1 h2=>by
     have hk:∀ k ∈ F,g.col b o ≠ .bx k:=fun k _ e=>by rw [h1] at e; cases e
     exact ⟨by rw [qc hR (hlt _ _ _ h2) hk]; exact h1,hcell b o v h2 fun k _ e=>by rw [h1] at e; cases e⟩
    db:=fun id hid=>⟨hid,rfl⟩
    dh:=fun id u hu=>by
     refine ⟨.inr hu,?_⟩
     simp only [jT]
     split
     · rename_i n hn
       obtain ⟨n1,n2⟩:=qY hn
       simp only [decide_eq_true_eq] at n2
       obtain ⟨rfl,rfl⟩:=n2
       rcases (hfresh n n1).1 _ hu with q | q
       · omega
       · exact q.2.symm
     · rfl
    dn:=fun id u hu=>by
     refine ⟨.inr hu,?_⟩
     simp only [jT]
     split
     · rename_i n hn
       obtain ⟨n1,n2⟩:=qY hn
       simp only [decide_eq_true_eq] at n2
       obtain ⟨rfl,rfl⟩:=n2
       rcases (hfresh n n1).2 _ hu with q | q
       · omega
       · exact ⟨q.2.1.symm,q.2.2.symm⟩
     · exact ⟨rfl,rfl⟩ }
 have fM:∀ id,id ∉ bx.map (·.1)→(σ.app dst { v:=p,bx:=bx }).box id = σ.box id:=fun id hid=>by
  show oG σ.box _ id = _
  exact fK _ _ _ (by simpa [List.map_map] using hid)
 have JG:∀ id c,(id,c) ∈ bx→(σ.app dst { v:=p,bx:=bx }).box id = some c:=fun id c hid=>by
  show oG σ.box _ id = _
  exact JF _ _ _ _ (by
   have e:(bx.map fun p=>(p.1,some p.2)).map (·.1) = bx.map (·.1):=by rw [List.map_map]; rfl
   rw [e]; exact hnd) (List.mem_map.mpr ⟨_,hid,rfl⟩)
 have hor:∀ id,id ∉ bx.map (·.1) ∨ ∃ c,(id,c) ∈ bx:=fun id=>by
  by_cases q:id ∈ bx.map (·.1)
  · obtain ⟨⟨i,c⟩,h1,rfl⟩:=List.mem_map.mp q
    exact .inr ⟨c,h1⟩
  · exact .inl q
 have Ip:bO N c0 w0 { σ with box:=(σ.app dst { v:=p,bx:=bx }).box } (jT g ns F) a w' :=
  { size:=h.size
    env:=fun i=>aF.mono hs _ _ (h.env i)
    defers:=h.defers
    box:=fun id c hc=>by
     change (σ.app dst { v:=p,bx:=bx }).box id = some c at hc
     rcases hor id with q | ⟨c',q⟩
     · rw [fM id q] at hc
       refine (h.box id c hc).stay hs (xE (fun n hn e=>q (e ▸ (hF n.id (hns n hn)).1)) fun hf=>q (hF id hf).1) (fun b o v a1 a2 a3=>?_) (fun ob c1 c2 c3=>?_)
       · have hk:∀ k ∈ F,g.col b o ≠ .bx k:=fun k k1 e=>by rw [a1] at e; cases e; exact q (hF _ k1).1
         refine ⟨by rw [qc hR (hlt _ _ _ a2) hk]; exact a1,hcell b o v a2 fun k k1 e=>by rw [a1] at e; cases e; exact q k1,by rw [Io.1 b o (hlt _ _ _ a2)]; exact a3⟩
       · have hne:∀ o,∀ k ∈ bx.map (·.1),g.col (g.bx id).1 o ≠ .bx k:=fun o k k1 e=>by rw [c1 o] at e; cases e; exact q k1
         exact ⟨hblk _ _ c2 hne,fun o=>by rw [qc hR (ji c2) fun k k1=>hne o k (hF k k1).1]; exact c1 o⟩
     · rw [JG id c' q] at hc
       rw [← Option.some.inj hc]
       exact hrep hs id c' q
    db:=fun id hid=>by
     show ∃ c,(σ.app dst { v:=p,bx:=bx }).box id = some c ∧ _
     rcases hor id with q | ⟨c',q⟩
     · rw [fM id q]; exact h.db id hid
     · rw [JG id c' q]
       rcases hdb id c' q with q1 | q1
       · exact ⟨_,rfl,q1.2⟩
       · exact absurd hid q1.1
    dh:=fun id u hu=>by
     show ∃ c,(σ.app dst { v:=p,bx:=bx }).box id = some c ∧ _
     rcases hor id with q | ⟨c',q⟩
     · rw [fM id q]
       rcases hu with ⟨n,n1,rfl,_⟩ | hu
       · exact absurd (hF _ (hns n n1)).1 q
       · exact h.dh id u hu
     · rw [JG id c' q]
       refine ⟨_,rfl,?_⟩
       rcases hdb id c' q with q1 | ⟨q1,q2,q3,q4,q5⟩
       · exfalso
         rcases hu with ⟨n,n1,rfl,_⟩ | hu
         · exact (hF _ (hns n n1)).2.2 q1.1
         · obtain ⟨c1,e1,e2⟩:=h.db id q1.1
           obtain ⟨c2,e3,e4,_⟩:=h.dh id u hu
           rw [e1] at e3; cases e3; rw [e2] at e4; cases e4
       · refine ⟨q2,?_⟩
         rcases hu with ⟨n,n1,n2,rfl⟩ | hu
         · exact (q5 n n1 n2).1
         · exact q3 u hu
    dn:=fun id u hu=>by
     show ∃ c,(σ.app dst { v:=p,bx:=bx }).box id = some c ∧ _
     rcases hor id with q | ⟨c',q⟩
     · rw [fM id q]
       rcases hu with ⟨n,n1,rfl,_⟩ | hu
       · exact absurd (hF _ (hns n n1)).1 q
       · exact h.dn id u hu
     · rw [JG id c' q]
       refine ⟨_,rfl,?_⟩
       rcases hdb id c' q with q1 | ⟨q1,q2,q3,q4,q5⟩
       · exfalso
         rcases hu with ⟨n,n1,rfl,_⟩ | hu
         · exact (hF _ (hns n n1)).2.2 q1.1
         · obtain ⟨c1,e1,e2⟩:=h.db id q1.1
           obtain ⟨c2,e3,e4,_⟩:=h.dn id u hu
           rw [e1] at e3; cases e3; rw [e2] at e4; cases e4
       · refine ⟨q2,?_⟩
         rcases hu with ⟨n,n1,n2,rfl⟩ | hu
         · exact (q5 n n1 n2).2
         · exact q4 u hu
    pts:=h.pts
    fix:=fun id hid u=>by
     have hnf:∀ n ∈ ns,n.id ≠ id:=fun n hn e=>(hF n.id (hns n hn)).2.1 (e ▸ .inl hid)
     refine ⟨fun hu=>?_,fun hu=>?_⟩
     · have hu:g.dh id u:=hu.resolve_left fun ⟨n,n1,n2,_⟩=>hnf n n1 n2
       rw [(hs.dh id u hu).2]
       exact (h.fix id hid u).1 hu
     · have hu:g.dn id u:=hu.resolve_left fun ⟨n,n1,n2,_⟩=>hnf n n1 n2
       rw [(hs.dn id u hu).2.1]
       exact (h.fix id hid u).2 hu
    keep:=by
     have hk:=h.keep
     refine ⟨hos.1.trans hk.os,hos.2.1.trans hk.tape,hos.2.2.1.trans hk.output,Nat.le_trans hk.size hos.2.2.2,fun b hb hc=>?_,fun b hb o hc=>?_,fun b hb o=>?_,fun b hb o=>(hnone b o (Nat.lt_of_lt_of_le hb hk.size)).trans (hk.ex b hb o),fun b hb o=>?_,hk.YU,hk.lay⟩
     · have hne:∀ o,∀ k,g.col b o ≠ .bx k:=fun o k e=>by
        obtain ⟨q1,q2⟩:=(h.old b hb o).2 k e
        by_cases hst:Go.VE.stay k
        · exact hc o _ (q1 hst)
        · obtain ⟨m,_,q3⟩:=q2 hst
          exact hc o _ q3
       rw [← hk.blk b hb hc]
       have hb':b < w.heap.size:=Nat.lt_of_lt_of_le hb hk.size
       rw [Array.getElem?_eq_getElem hb']
       exact hblk b _ (Array.getElem?_eq_getElem hb') fun o k _=>hne o k
     · have hne:∀ k,g.col b o ≠ .bx k:=fun k e=>by
        obtain ⟨q1,q2⟩:=(h.old b hb o).2 k e
        by_cases hst:Go.VE.stay k
        · exact hc _ (q1 hst)
        · obtain ⟨m,_,q3⟩:=q2 hst
          exact hc _ q3
       rw [← hk.dY b hb o hc]
       cases hw:w.cell? ⟨b,o,none⟩ with
       | none=>have:=hnone b o (Nat.lt_of_lt_of_le hb hk.size); rw [hw] at this; simpa using this
       | some v=>exact hcell b o v hw fun k _=>hne k
     · rw [Io.1 b o (Nat.lt_of_lt_of_le hb hk.size)]; exact hk.uD b hb o
     · rcases Nat.lt_or_ge b w.heap.size with q | q
       · rw [Io.1 b o q]; exact hk.new b hb o
       · exact Io.2 b o q
    old:=fun b hb o=>by
     have hb':b < w.heap.size:=Nat.lt_of_lt_of_le hb h.keep.size
     obtain ⟨o1,o2⟩:=h.old b hb o
     by_cases hk:∃ k ∈ F,g.col b o = .bx k
     · obtain ⟨k,k1,k2⟩:=hk
       obtain ⟨m,m1,m2⟩:=(o2 k k2).2 (hF k k1).2.1
       have YW:c0 b o ≠ .st:=by rw [m2]; simp
       have hcases:(jT g ns F).col b o = .free ∨ ∃ n ∈ ns,(jT g ns F).col b o = .bx n.id:=by
        simp only [jT]
        split
        · rename_i n hn; exact .inr ⟨n,(qY hn).1,rfl⟩
        · rw [if_pos ⟨k,k1,k2⟩]; exact .inl rfl
       rcases hcases with e | ⟨n,n1,e⟩
       · rw [e]
         exact ⟨⟨fun q=>(by cases q),fun q=>absurd q YW⟩,fun id q=>by cases q⟩
       · rw [e]
         refine ⟨⟨fun q=>(by cases q),fun q=>absurd q YW⟩,fun id q=>?_⟩
         cases q
         exact ⟨fun q=>absurd q (hF _ (hns n n1)).2.1,fun _=>⟨m,m1,m2⟩⟩
     · rw [qc hR hb' fun k k1 e=>hk ⟨k,k1,e⟩]
       exact ⟨o1,o2⟩ }
 refine ⟨hs,?_⟩
 have:=Ip.put hd (hp hs)
 cases dst with
 | none=>exact this
 | some d=>exact this
end Go.VE
