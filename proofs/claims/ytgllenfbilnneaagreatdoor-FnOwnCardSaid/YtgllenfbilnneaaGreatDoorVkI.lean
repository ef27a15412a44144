import Derived.Test.YtgllenfbilnneaaGreatDoorVkH
/- Each operation of the evaluator is what the machine does: append,as a whole. -/
namespace Go.VE
structure Ak (μ σ:AS) (W:List Nat):Prop where
 env:∀ t,μ.env t = σ.env t ∨ μ.env t = .any
 box:∀ b c,μ.box b = some c→σ.box b = some c
 new:∀ b ∈ W,μ.box b = σ.box b
theorem Ak.refl (σ:AS) (W:List Nat):Ak σ σ W:=⟨fun _=>.inl rfl,fun _ _ h=>h,fun _ _=>rfl⟩
def Good (P:Program) (N:Fr) (c0:Nat→Nat→Col) (w0:World) (σ':AS) (o:Oper) (a:Act) (w:World):Prop :=
 ∃ v w' g',Runs P o a w v w' ∧ bO N c0 w0 σ' g' (a.put o.dst v) w'
theorem eG {r:Nat} (h:jI r = true):¬ stay r:=by
 unfold jI at h
 simp only [Bool.or_eq_true,Bool.and_eq_true,Nat.blt_eq,Bool.not_eq_true'] at h
 rintro (q | ⟨q1,q2⟩)
 · unfold dV bF at *; omega
 · rcases h with h | ⟨_,h⟩
   · omega
   · rw [q2] at h; cases h
section
variable {P:Program} {N:Fr} {c0:Nat→Nat→Col} {w0:World} {σ μ:AS} {g:Gh} {a:Act} {w:World}
theorem Ak.ok {W:List Nat} (ho:Ak μ σ W) (hs:bO N c0 w0 σ g a w):bK g w μ.box:=fun id c h=>hs.box id c (ho.box id c h)
theorem Ak.ev {W:List Nat} (ho:Ak μ σ W) (hs:bO N c0 w0 σ g a w) (x:Operand):aF g w (jQ μ.env x) (a.eval x):=JE (fun i=>by
 rcases ho.env i with e | e
 · rw [e]; exact hs.env i
 · rw [e]; simp only [aF]) x
theorem dL (hs:bO N c0 w0 σ g a w) {r:Nat} {c:aU} (hr:σ.box r = some c) (hc:c.mG = false):¬ g.db r:=fun h=>by
 obtain ⟨c',e1,e2⟩:=hs.db r h
 rw [hr] at e1; cases e1; rw [hc] at e2; cases e2
theorem dM (hs:bO N c0 w0 σ g a w) {r:Nat} {c:aU} (hr:σ.box r = some c):(∀ u,g.dh r u→u≤c.hv) ∧ ∀ u,g.dn r u→u≤c.nv :=
 ⟨fun u hu=>by obtain ⟨c',e1,_,e2⟩:=hs.dh r u hu; rw [hr] at e1; cases e1; exact e2,fun u hu=>by obtain ⟨c',e1,_,e2⟩:=hs.dn r u hu; rw [hr] at e1; cases e1; exact e2⟩
theorem gY (hs:bO N c0 w0 σ g a w) {d h n:Nat} (hn:sJ σ.box d = some (h,n)):¬ g.db d ∧ (∀ u,g.dh d u→u < h) ∧ ∀ u,g.dn d u→u < n:=by
 have key:∀ {c:aU},σ.box d = some c→c.mG = false→c.hv + 1 = h→c.nv + 1 = n→¬ g.db d ∧ (∀ u,g.dh d u→u < h) ∧ ∀ u,g.dn d u→u < n:=fun hc h1 h2 h3=>by
  obtain ⟨q1,q2⟩:=dM hs hc
  exact ⟨dL hs hc h1,fun u hu=>by have:=q1 u hu; omega,fun u hu=>by have:=q2 u hu; omega⟩
 unfold sJ at hn
 split at hn
 · rename_i hb
   refine ⟨fun q=>?_,fun u hu=>?_,fun u hu=>?_⟩
   · obtain ⟨c',e1,_⟩:=hs.db d q; rw [hb] at e1; cases e1
   · obtain ⟨c',e1,_⟩:=hs.dh d u hu; rw [hb] at e1; cases e1
   · obtain ⟨c',e1,_⟩:=hs.dn d u hu; rw [hb] at e1; cases e1
 · rename_i hb
   simp only [Option.some.injEq,Prod.mk.injEq] at hn
   exact key hb rfl hn.1 hn.2
 · rename_i hb
   simp only [Option.some.injEq,Prod.mk.injEq] at hn
   exact key hb rfl hn.1 hn.2
 · cases hn
def LH (lo:Nat) (R:iI):iI:=fun b o=>match R b o with
 | some (some (i,j))=>if lo≤i then some (some (i - lo,j)) else none
 | q=>q
theorem wH {lo:Nat} {R:iI} {b o:Nat} (h:LH lo R b o ≠ none):R b o ≠ none:=by
 intro e; simp [LH,e] at h
theorem cB.cut {c:Nat→Nat→Col} {R:iI} {nh:Nat→Nat→bT} {own:Nat→Bool} {t:Ty} {x:L t.T} {h:bT} {lo hi:Nat} (hr:cB c w R nh own t x h) (hlh:lo≤hi) (hh:hi≤x.len) :
 cB c w (LH lo R) (fun i=>nh (lo + i)) (fun i=>own (lo + i)) t (x.cut lo hi) (oO t.size lo hi h):=by
 obtain ⟨h1,h2,h3⟩:=hr
 have hcap:x.len≤h.2.2:=h1.2.1
 refine ⟨h1.cut hh,fun ad had=>?_,fun i hi'=>?_⟩
 · rcases Fy had fun ad0 e=>(h2 ad0 e).1 with hc | ⟨ad0,e1,e2,rfl⟩
   · refine ⟨?_,fun k hk=>?_⟩
     · simp only [oO,if_pos hc] at had
       exact (h2 ad had).1
     · have:(oO t.size lo hi h).2.2 = 0:=by show h.2.2 - lo = 0; omega
       rw [this] at hk; simp at hk
   · refine ⟨rfl,fun k hk=>?_⟩
     have hk:k < (h.2.2 - lo) * t.size:=hk
     obtain ⟨q1,q2,q3⟩:=(h2 ad0 e1).2 (lo * t.size + k) (by rw [Nat.sub_mul] at hk; omega)
     rw [← Nat.add_assoc] at q1 q2 q3
     exact ⟨by simp only [LH,q1],q2,q3⟩
 · have hi':i < hi - lo:=hi'
   obtain ⟨us,q1,q2,q3⟩:=h3 (lo + i) (by omega)
   refine ⟨us,q1,bD.mono (i':=i) (Stays.refl _ _) (fun b o v j (a1:R b o = some (some (lo + i,j))) a2 a3=>⟨by show LH lo R b o = _; unfold LH; rw [a1]; simp,a2,a3⟩) (fun _=>rfl) _ _ _ _ q2,fun ad had q v hq=>?_⟩
   rcases Fy had fun ad0 e=>(h2 ad0 e).1 with hc | ⟨ad0,e1,e2,rfl⟩
   · omega
   · have:=q3 ad0 e1 q v hq
     simp only
     rwa [show ad0.off + lo * t.size + i * t.size + q = ad0.off + (lo + i) * t.size + q by rw [Nat.add_mul]; omega]
theorem gB (box:Nat→Option aU) (l:List Nat):(l.map (gQ box)).map (·.1) = l:=by
 rw [List.map_map]; exact (List.map_id' l)
theorem wJ {box:Nat→Option aU} {r:Nat} {t:Ty} {x:L t.T} {own:Option (Nat→Bool)} {hv nv:Nat} (h:box r = some (.row t x own hv nv)):gQ box r = (r,.gone hv nv):=by simp [gQ,h]
noncomputable def wK (h:bT) (sz n:Nat) (R1 R2:iI):iI:=open Classical in fun b o=>if fF h sz b o then some none else match R1 b o with
 | some (some (i,j))=>if i < n then some (some (i,j)) else none
 | _=>match R2 b o with
   | some (some (i,j))=>some (some (n + i,j))
   | _=>none
theorem LJ {h:bT} {sz n:Nat} {R1 R2:iI} {b o:Nat} (q:wK h sz n R1 R2 b o ≠ none):fF h sz b o ∨ R1 b o ≠ none ∨ R2 b o ≠ none:=by
 unfold wK at q
 split at q
 · exact .inl (by assumption)
 · split at q
   · rename_i e; rw [e]; exact .inr (.inl (by simp))
   · split at q
     · rename_i e; rw [e]; exact .inr (.inr (by simp))
     · exact absurd rfl q
def Rows (σ:AS) (tk:List Nat):Prop:=∀ r ∈ tk,jI r = true ∧ ∃ t x own hv nv,σ.box r = some (.row t x own hv nv)
theorem nP (hs:bO N c0 w0 σ g a w) {tk:List Nat} (ht:Rows σ tk) {box:Nat→Option aU} (fM:∀ r ∈ tk,box r = σ.box r) {ns:List iZ} (hn:∀ n ∈ ns,n.id ∉ tk) {id:Nat} {c:aU} (hm:(id,c) ∈ tk.map (gQ box)) :
 (¬ g.db id ∧ c.mG = false ∧ (∀ u,g.dh id u→u≤c.hv) ∧ (∀ u,g.dn id u→u≤c.nv) ∧ ∀ n ∈ ns,n.id = id→n.hv≤c.hv ∧ n.nv≤c.nv) ∧ ∃ h n,c = .gone h n:=by
 obtain ⟨r,hr,e⟩:=List.mem_map.mp hm
 obtain ⟨_,t,x,own,hv,nv,hb⟩:=ht r hr
 rw [wJ (by rw [fM r hr]; exact hb)] at e
 cases e
 obtain ⟨q1,q2⟩:=dM hs hb
 exact ⟨⟨dL hs hb rfl,rfl,q1,q2,fun n h1 h2=>absurd (h2 ▸ hr) (hn n h1)⟩,_,_,rfl⟩
theorem bO.app1 (hs:bO N c0 w0 σ g a w) {ty:Ty} {x1 b res:L ty.T} {h1 h':bT} {R1 R2:iI} {Ut Iu:Nat→Nat→bT} {D8 YX:Nat→Bool} {own':Option (Nat→Bool)} {news olds:List Value} {w':World}
 (hb1:cB g.col w R1 Ut D8 ty x1 h1) (hs1:SrcE g.col w ty x1 D8 R1 Ut olds) (hs2:SrcE g.col w ty b YX R2 Iu news)
 {nm hv nv dd:Nat} {tk:List Nat} {box:Nat→Option aU} (hd:dZ N (some dd) = true) (hmv:jI nm = true) (sj:¬ g.db nm) (hfh:∀ u,g.dh nm u→u < hv) (hfn:∀ u,g.dn nm u→u < nv)
 (htk:Rows σ tk) (fM:∀ r ∈ tk,box r = σ.box r) (hnd:(nm::tk).Nodup)
 (D9:∀ b o,R1 b o ≠ none→g.col b o = .bx nm ∧ (∃ v,w.cell? ⟨b,o,none⟩ = some v) ∧ w.frozen? ⟨b,o,none⟩ = false)
 (hR2:∀ b o,R2 b o ≠ none→(∃ k ∈ tk,g.col b o = .bx k) ∧ (∃ v,w.cell? ⟨b,o,none⟩ = some v) ∧ w.frozen? ⟨b,o,none⟩ = false)
 (hrl:res.len = x1.len + b.len) (hg1:∀ i,i < x1.len→res.get i = x1.get i) (hg2:∀ i,i < b.len→res.get (x1.len + i) = b.get i) (hnil:res.nil = true ↔ h'.1 = none)
 (ho1:∀ i,i < x1.len→ownB own' i = D8 i) (ho2:∀ i,i < b.len→ownB own' (x1.len + i) = YX i)
 (e1:h'.2.1 = x1.len + b.len) (e2:h'.2.1≤h'.2.2) (e3:h'.1 = none→h'.2.2 = 0)
 (e5:∀ ad,h'.1 = some ad→ad.spot = none ∧ (∀ (j:Nat) (v:Value),(olds ++ news)[j]? = some v→w'.cell? ⟨ad.block,ad.off + j,none⟩ = some v) ∧ ∀ k,k < h'.2.2 * ty.size→(∃ v,w'.cell? ⟨ad.block,ad.off + k,none⟩ = some v) ∧ w'.frozen? ⟨ad.block,ad.off + k,none⟩ = false)
 (e6:∀ b o,fF h' ty.size b o→w.heap.size≤b ∨ fF h1 ty.size b o)
 (e7:∀ b o v,w.cell? ⟨b,o,none⟩ = some v→¬ fF h1 ty.size b o→w'.cell? ⟨b,o,none⟩ = some v) (e8:(∀ b o,b < w.heap.size→w'.frozen? ⟨b,o,none⟩ = w.frozen? ⟨b,o,none⟩) ∧ ∀ b o,w.heap.size≤b→w'.frozen? ⟨b,o,none⟩ = false)
 (e9:∀ b ob,w.heap[b]? = some ob→(∀ o,¬ fF h1 ty.size b o)→w'.heap[b]? = some ob) (e10:∀ b o,b < w.heap.size→(w'.cell? ⟨b,o,none⟩).isSome = (w.cell? ⟨b,o,none⟩).isSome)
 (e11:w'.os = w.os ∧ w'.tape = w.tape ∧ w'.output = w.output ∧ w.heap.size≤w'.heap.size) :
 ∃ g',bO N c0 w0 (σ.app (some dd) { v:=.ms nm hv,bx:=(nm,.row ty res own' hv nv)::tk.map (gQ box) }) g' (a.put (some dd) (gP h')) w':=by
 have hbase:∀ b o,fF h1 ty.size b o→R1 b o = some none:=by
  rintro b o ⟨ad,q1,rfl,q2,q3⟩
  have:=((hb1.2.1 ad q1).2 (o - ad.off) (by omega)).1
  rwa [show ad.off + (o - ad.off) = o by omega] at this
 have hlt:∀ b o v,w.cell? ⟨b,o,none⟩ = some v→b < w.heap.size:=fun b o v hv=>World.block_lt_of_cell? w ⟨b,o,none⟩ hv
 let n:iZ:={ id:=nm,hv:=hv,nv:=nv,hd:=h',nh:=fun i j=>if i < x1.len then Ut i j else Iu (i - x1.len) j,ni:=res.len,R:=wK h' ty.size x1.len R1 R2 }
 -- a cell of the new row
 have Vz:∀ {b o i j},R1 b o = some (some (i,j))→i < x1.len→n.R b o = some (some (i,j)):=fun {b o i j} q hi=>by
  show wK _ _ _ _ _ b o = _
  unfold wK
  rw [if_neg,q]
  · simp only; rw [if_pos hi]
  · intro hb'
    obtain ⟨⟨v,hv⟩,_⟩:=(D9 b o (by rw [q]; simp)).2
    rcases e6 b o hb' with q2 | q2
    · have:=hlt _ _ _ hv; omega
    · rw [hbase b o q2] at q; cases q
 have VA:∀ {b o i j},R2 b o = some (some (i,j))→n.R b o = some (some (x1.len + i,j)):=fun {b o i j} q=>by
  obtain ⟨⟨k,k1,k2⟩,⟨v,hv⟩,_⟩:=hR2 b o (by rw [q]; simp)
  have hn1:R1 b o = none:=by
   cases hq:R1 b o with
   | none=>rfl
   | some l =>
     have:=(D9 b o (by rw [hq]; simp)).1
     rw [k2] at this; cases this
     exact absurd k1 (List.nodup_cons.mp hnd).1
  show wK _ _ _ _ _ b o = _
  unfold wK
  rw [if_neg,hn1,q]
  intro hb'
  rcases e6 b o hb' with q2 | q2
  · have:=hlt _ _ _ hv; omega
  · rw [hbase b o q2] at hn1; cases hn1
 have VB:∀ b o,fF h' ty.size b o→n.R b o = some none:=fun b o q=>by
  show wK _ _ _ _ _ b o = _
  unfold wK
  rw [if_pos q]
 have hnb:∀ {b o l},(R1 b o = some (some l) ∨ R2 b o = some (some l))→¬ fF h1 ty.size b o:=fun {b o l} q hb'=>by
  have:=hbase b o hb'
  rcases q with q | q
  · rw [this] at q; cases q
  · obtain ⟨⟨k,k1,k2⟩,_⟩:=hR2 b o (by rw [q]; simp)
    rw [(D9 b o (by rw [this]; simp)).1] at k2; cases k2
    exact absurd k1 (List.nodup_cons.mp hnd).1
 refine ⟨jT g [n] (nm::tk),(hs.upd [n] (nm::tk) ((nm,.row ty res own' hv nv)::tk.map (gQ box)) ?_ ?_ ?_ (by simp) ?_ ?_ ?_ e8 ?_ e10 e11 ?_ ?_ (p:=.ms nm hv) (v:=gP h') hd ?_).2⟩
 · simp only [List.map_cons,gB]; exact hnd
 · intro id hid
   simp only [List.map_cons,gB]
   refine ⟨hid,?_⟩
   rcases List.mem_cons.mp hid with rfl | hid
   · exact ⟨eG hmv,sj⟩
   · obtain ⟨q1,t,x,own,h0,n0,q2⟩:=htk id hid
     exact ⟨eG q1,dL hs q2 rfl⟩
 · intro m hm
   rw [List.mem_singleton.mp hm]
   simp [n]
 · intro m hm
   rw [List.mem_singleton.mp hm]
   exact ⟨fun u hu=>.inl (hfh u hu),fun u hu=>.inl (hfn u hu)⟩
 · intro m hm b o hr
   rw [List.mem_singleton.mp hm] at hr
   rcases LJ hr with q | q | q
   · rcases e6 b o q with q | q
     · exact .inr q
     · exact .inl ⟨nm,by simp,(D9 b o (by rw [hbase b o q]; simp)).1⟩
   · exact .inl ⟨nm,by simp,(D9 b o q).1⟩
   · obtain ⟨⟨k,k1,k2⟩,_⟩:=hR2 b o q
     exact .inl ⟨k,by simp [k1],k2⟩
 · intro b o v hv hk
   refine e7 b o v hv fun q=>?_
   exact hk nm (by simp) (D9 b o (by rw [hbase b o q]; simp)).1
 · intro b ob lK hk
   refine e9 b ob lK fun o q=>?_
   exact hk o nm (by simp) (D9 b o (by rw [hbase b o q]; simp)).1
 · intro id c hm
   right
   rcases List.mem_cons.mp hm with e | hm
   · cases e
     exact ⟨sj,rfl,fun u hu=>Nat.le_of_lt (hfh u hu),fun u hu=>Nat.le_of_lt (hfn u hu),fun m hm _=>by rw [List.mem_singleton.mp hm]; exact ⟨Nat.le_refl _,Nat.le_refl _⟩⟩
   · exact (nP hs htk fM (ns:=[n]) (fun m hm=>by rw [List.mem_singleton.mp hm]; exact (List.nodup_cons.mp hnd).1) hm).1
 · intro hst id c hm
   rcases List.mem_cons.mp hm with e | hm
   · cases e
     have eh:=qb (g:=g) (F:=nm::tk) (ns:=[n]) (by simp) (List.mem_singleton.mpr rfl)
     have en:=sW (g:=g) (F:=nm::tk) (ns:=[n]) (by simp) (List.mem_singleton.mpr rfl)
     have eR:=Cu (g:=g) (F:=nm::tk) (ns:=[n]) (by simp) (List.mem_singleton.mpr rfl)
     have JJ:∀ {b o v l},(R1 b o = some (some l) ∨ R2 b o = some (some l))→w.cell? ⟨b,o,none⟩ = some v→w.frozen? ⟨b,o,none⟩ = false→w'.cell? ⟨b,o,none⟩ = some v ∧ w'.frozen? ⟨b,o,none⟩ = false:=fun {b o v l} q hv hf =>
      ⟨e7 b o v hv (hnb q),by rw [e8.1 b o (hlt _ _ _ hv)]; exact hf⟩
     refine ⟨.inl ⟨n,by simp,rfl,rfl⟩,.inl ⟨n,by simp,rfl,rfl⟩,en.2,?_,fun b o hr=>?_⟩
     · rw [show nm = n.id from rfl,show hv = n.hv from rfl,show nv = n.nv from rfl,eh,en.1,eR]
       refine ⟨⟨by rw [hrl]; exact e1,by rw [hrl,← e1]; exact e2,e3,hnil⟩,fun ad had=>⟨(e5 ad had).1,fun k hk=>?_⟩,fun i hi=>?_⟩
       · have hk:k < h'.2.2 * ty.size:=hk
         obtain ⟨q1,q2⟩:=(e5 ad had).2.2 k hk
         exact ⟨VB _ _ ⟨ad,had,rfl,by omega,by omega⟩,q1,q2⟩
       · by_cases hix:i < x1.len
         · obtain ⟨us,u1,u2,u3⟩:=hs1.el i hix
           refine ⟨us,u1,?_,fun ad had q v hq=>?_⟩
           · show bD (jT g [n] (nm::tk)).col w' n.R n.nh (ownB own' i) i ty (res.get i) us 0
             rw [hg1 i hix,ho1 i hix]
             exact bD.mono hst.toStays (fun b o v j a1 a2 a3=>⟨Vz a1 hix,JJ (.inl a1) a2 a3⟩) (fun j=>if_pos hix) _ _ _ _ u2
           · have h5:=u3 q v hq
             have:=(e5 ad had).2.1 (i * ty.size + q) v (by rw [List.getElem?_append_left (List.getElem?_eq_some_iff.mp h5).1]; exact h5)
             rwa [← Nat.add_assoc] at this
         · obtain ⟨k,rfl⟩:∃ k,i = x1.len + k:=⟨i - x1.len,by omega⟩
           have hk:k < b.len:=by omega
           obtain ⟨us,u1,u2,u3⟩:=hs2.el k hk
           refine ⟨us,u1,?_,fun ad had q v hq=>?_⟩
           · show bD (jT g [n] (nm::tk)).col w' n.R n.nh (ownB own' (x1.len + k)) (x1.len + k) ty (res.get (x1.len + k)) us 0
             rw [hg2 k hk,ho2 k hk]
             refine bD.mono hst.toStays (fun b o v j a1 a2 a3=>⟨VA a1,JJ (.inr a1) a2 a3⟩) (fun j=>?_) _ _ _ _ u2
             show (if x1.len + k < x1.len then _ else _) = _
             rw [if_neg (by omega),Nat.add_sub_cancel_left]
           · have h5:=u3 q v hq
             have:=(e5 ad had).2.1 ((x1.len + k) * ty.size + q) v (by rw [List.getElem?_append_right (by rw [hs1.len,Nat.add_mul]; omega),hs1.len,show (x1.len + k) * ty.size + q - x1.len * ty.size = k * ty.size + q by rw [Nat.add_mul]; omega]; exact h5)
             rwa [← Nat.add_assoc] at this
     · rw [show nm = n.id from rfl,eR] at hr
       refine ⟨qZ (ns:=[n]) (fun m1 h1 m2 h2 hne=>absurd (by rw [List.mem_singleton.mp h1,List.mem_singleton.mp h2]) hne) (List.mem_singleton.mpr rfl) hr,?_⟩
       rcases hl:n.R b o with _ | (_ | l)
       · exact absurd hl hr
       · have hb':fF h' ty.size b o:=by
          have hl:wK h' ty.size x1.len R1 R2 b o = some none:=hl
          unfold wK at hl
          split at hl
          · assumption
          · split at hl
            · split at hl <;> cases hl
            · split at hl <;> cases hl
         obtain ⟨ad,q1,rfl,q2,q3⟩:=hb'
         have:=(e5 ad q1).2.2 (o - ad.off) (by omega)
         rwa [show ad.off + (o - ad.off) = o by omega] at this
       · have hq:(∃ l,R1 b o = some (some l)) ∨ ∃ l,R2 b o = some (some l):=by
          have hl:wK h' ty.size x1.len R1 R2 b o = some (some l):=hl
          unfold wK at hl
          split at hl
          · cases hl
          · split at hl
            · exact .inl ⟨_,by assumption⟩
            · split at hl
              · exact .inr ⟨_,by assumption⟩
              · cases hl
         rcases hq with ⟨l,hq⟩ | ⟨l,hq⟩
         · obtain ⟨_,⟨v,hv⟩,hf⟩:=D9 b o (by rw [hq]; simp)
           obtain ⟨q1,q2⟩:=JJ (.inl hq) hv hf
           exact ⟨⟨v,q1⟩,q2⟩
         · obtain ⟨_,⟨v,hv⟩,hf⟩:=hR2 b o (by rw [hq]; simp)
           obtain ⟨q1,q2⟩:=JJ (.inr hq) hv hf
           exact ⟨⟨v,q1⟩,q2⟩
   · obtain ⟨_,h,n,rfl⟩:=nP hs htk fM (ns:=[]) (fun m hm=>by cases hm) hm
     exact trivial
 · intro hst
   simp only [aF]
   exact ⟨.inl ⟨n,by simp,rfl,rfl⟩,by rw [show nm = n.id from rfl,show hv = n.hv from rfl,qb (by simp) (List.mem_singleton.mpr rfl)]⟩
theorem Cy {n i:Nat} {o1 o2:Option (Nat→Bool)} (h:i < n):ownB (sU n o1 o2) i = ownB o1 i:=by
 have hb:Nat.blt i n = true:=by simpa using h
 unfold sU
 split
 · rfl
 · simp [ownB,hb]
theorem Cz {n i:Nat} {o1 o2:Option (Nat→Bool)}:ownB (sU n o1 o2) (n + i) = ownB o2 i:=by
 have hb:Nat.blt (n + i) n = false:=by
  rw [Bool.eq_false_iff]; intro q; have:=Nat.blt_eq.mp q; omega
 unfold sU
 split
 · rfl
 · simp [ownB,hb]
theorem LK {lo i:Nat} {own:Option (Nat→Bool)}:ownB (Nb own lo) i = ownB own (lo + i):=by
 cases own <;> rfl
theorem oU {α:Type} {x y:L α} {i:Nat} (h:i < x.len):(x.app y).get i = x.get i:=by
 have hb:Nat.blt i x.len = true:=by simpa using h
 simp [L.app,hb]
theorem oV {α:Type} {x y:L α} {i:Nat}:(x.app y).get (x.len + i) = y.get i:=by
 have hb:Nat.blt (x.len + i) x.len = false:=by
  rw [Bool.eq_false_iff]; intro q; have:=Nat.blt_eq.mp q; omega
 simp [L.app,hb]
theorem NH (hb:bK g w μ.box) {ty:Ty} {y:PV} {v:Value} {b:L ty.T} {ob:Option (Nat→Bool)} {tk:List Nat} (h:Nc μ.box ty y = some (b,ob,tk)) (hy:aF g w y v) :
 ∃ a2 c R2 Iu news,v = .slice a2 b.len c ∧ Src g.col w ty b (ownB ob) R2 Iu a2 news ∧ (∀ b o,R2 b o ≠ none→(∃ k ∈ tk,g.col b o = .bx k) ∧ (∃ v,w.cell? ⟨b,o,none⟩ = some v) ∧ w.frozen? ⟨b,o,none⟩ = false) ∧ tk.Nodup ∧ Rows μ tk:=by
 unfold Nc at h
 cases hf:ty.flat with
 | true =>
   rw [hf] at h
   simp only [cond_true] at h
   split at h
   · rename_i b' hb'
     simp only [Option.some.injEq,Prod.mk.injEq] at h
     obtain ⟨rfl,rfl,rfl⟩:=h
     have h1:=fA hb' (g:=Nw g) (w:=w) (vs:=[v]) (by simp only [ak]; exact ⟨v,[],rfl,wG hb hy,rfl⟩)
     obtain ⟨a2,c,e,q⟩:=h1
     simp only [List.cons.injEq,and_true] at e
     subst e
     obtain ⟨Iu,news,hs⟩:=NG (c':=g.col) (h:=(a2,b'.len,c)) ⟨a2,c,rfl,q⟩ (fun _ _=>none) (.inl hf)
     exact ⟨a2,c,_,Iu,news,rfl,hs _ (.inl hf),fun _ _ q=>absurd rfl q,List.nodup_nil,fun r hr=>by cases hr⟩
   · cases h
 | false =>
   rw [hf] at h
   simp only [cond_false] at h
   split at h
   · rename_i r u
     split at h
     · rename_i t b' own hv nv hbx
       split at h
       · rename_i hbq
         obtain rfl:=Ty.eq_of_beq hbq
         cases hq:(Nat.beq u hv&&jI r) with
         | false=>rw [hq] at h; cases h
         | true =>
           rw [hq] at h
           simp only [cond_true,Option.some.injEq,Prod.mk.injEq,dx] at h
           simp only [Bool.and_eq_true] at hq
           obtain rfl:=Nat.eq_of_beq_eq_true hq.1
           obtain ⟨rfl,rfl,rfl⟩:=h
           simp only [aF] at hy
           obtain ⟨_,_,_,hr,hp⟩:=hb _ _ hbx
           obtain ⟨news,hs⟩:=hr.src
           refine ⟨(g.hd r u).1,(g.hd r u).2.2,g.R r,g.nh r nv,news,by rw [hy.2,gP,hr.1.1],hs,fun b o q=>⟨⟨r,by simp,(hp b o q).1⟩,(hp b o q).2⟩,by simp,fun r' hr'=>?_⟩
           rw [List.mem_singleton.mp hr']
           exact ⟨hq.2,_,_,_,_,_,hbx⟩
       · cases h
     · cases h
   · rename_i t b'
     split at h
     · rename_i hbq
       obtain rfl:=Ty.eq_of_beq hbq
       simp only [Option.some.injEq,Prod.mk.injEq,dx] at h
       obtain ⟨rfl,rfl,rfl⟩:=h
       simp only [aF] at hy
       obtain ⟨a2,c,e,q⟩:=hy
       simp only [List.cons.injEq,and_true] at e
       subst e
       obtain ⟨Iu,news,hs⟩:=NG (c':=g.col) (h:=(a2,b'.len,c)) ⟨a2,c,rfl,q⟩ (fun _ _=>none) (.inr rfl)
       exact ⟨a2,c,_,Iu,news,rfl,hs _ (.inr fun _=>rfl),fun _ _ q=>absurd rfl q,List.nodup_nil,fun r hr=>by cases hr⟩
     · cases h
   · cases h
theorem Al (hs:bO N c0 w0 σ g a w) {d:Dl} (ho:Ak μ σ (d.bx.map (·.1))) {t u D7 e:TypeId} {i:TypeInfo} {z:Value} {ty:Ty} (ht:P.underlying t = some (.slice e)) (hu:P.underlying u = some (.slice e)) (hi:P.info? e = some i) (hz:i.zero = some z) (hsz:i.size = ty.size) (hzz:z.cells.toList = ty.zeroV) (hby:i.bytes≤4096)
 {dd:Nat} (hdd:dZ N (some dd) = true) {x y:PV} {vx vy:Value} (hx:aF g w x vx) (hy:aF g w y vy) (h:Nf ty dd μ.box x y = some (true,d)) :
 ∃ r w' g',(Builtin.append_ #[t,u] D7 #[vx,vy]).run P w = .ok r w' ∧ bO N c0 w0 (σ.app (some dd) d) g' (a.put (some dd) r) w':=by
 have hb:=ho.ok hs
 unfold Nf at h
 split at h
 · cases h
 rename_i b ob tk hsrc
 obtain ⟨a2,c,R2,Iu,news,rfl,s2,hR2,af9,htk⟩:=NH hb hsrc hy
 have main:∀ {nm hv nv:Nat} {R1:iI} {Ut:Nat→Nat→bT} {D8:Nat→Bool} {x1 res:L ty.T} {h1:bT} {own':Option (Nat→Bool)},cB g.col w R1 Ut D8 ty x1 h1→jI nm = true→¬ g.db nm→(∀ u,g.dh nm u→u < hv)→(∀ u,g.dn nm u→u < nv)→nm ∉ tk →
  (∀ b o,R1 b o ≠ none→g.col b o = .bx nm ∧ (∃ v,w.cell? ⟨b,o,none⟩ = some v) ∧ w.frozen? ⟨b,o,none⟩ = false) →
  res.len = x1.len + b.len→(∀ i,i < x1.len→res.get i = x1.get i)→(∀ i,i < b.len→res.get (x1.len + i) = b.get i)→(res.nil = true ↔ h1.1 = none ∧ b.len = 0)→(∀ i,i < x1.len→ownB own' i = D8 i)→(∀ i,i < b.len→ownB own' (x1.len + i) = ownB ob i)→x1.len + b.len≤most →
  d = { v:=.ms nm hv,bx:=(nm,.row ty res own' hv nv)::tk.map (gQ μ.box) } →
  ∃ r w' g',(Builtin.append_ #[t,u] D7 #[gP h1,.slice a2 b.len c]).run P w = .ok r w' ∧ bO N c0 w0 (σ.app (some dd) d) g' (a.put (some dd) r) w':=by
  intro nm hv nv R1 Ut D8 x1 res h1 own' hr hmv sj hfh hfn aga D9 k1 k2 k3 k4 k5 k6 k7 hd
  subst hd
  obtain ⟨olds,s1⟩:=hr.src
  have hl:h1.2.1 = x1.len:=hr.1.1
  obtain ⟨h',w',r1,e1,e2,e3,e4,e5,e6,e7,e8,e9,e10,e11,e12,e13,e14⟩:=JI (P:=P) (w:=w) (t:=t) (u:=u) (D7:=D7) (e:=e) (i:=i) (z:=z) (ty:=ty) ht hu hi hz hsz hzz hby (h1:=h1) (olds:=olds) (by rw [s1.len,hl]) (by rw [hl]; exact hr.1.2.1) hr.1.2.2.1
   (fun ad had=>⟨(hr.2.1 ad had).1,(s1.loc ad had).2,fun k hk=>((hr.2.1 ad had).2 k hk).2⟩) (a2:=a2) (n:=b.len) (c:=c) (news:=news) s2.len s2.one s2.loc s2.no (by rw [hl]; exact k7)
  rw [hl] at e1
  have hnew:=ho.new
  simp only [List.map_cons,gB,List.mem_cons] at hnew
  obtain ⟨g',hg⟩:=bO.app1 hs hr s1.toSrcE s2.toSrcE hdd hmv sj hfh hfn (box:=μ.box) (fun r hr'=>by
   obtain ⟨q1,t',x',o',h',n',q2⟩:=htk r hr'
   exact ⟨q1,t',x',o',h',n',ho.box _ _ q2⟩) (fun r hr'=>hnew r (.inr hr')) (List.nodup_cons.mpr ⟨aga,af9⟩) D9 hR2 k1 k2 k3 (k4.trans e4.symm) k5 k6 e1 e2 e3 e5 e6 e7 e8 e9 e10 ⟨e11,e12,e13,e14⟩
  exact ⟨_,w',g',r1,hg⟩
 have ntk:∀ {m:Nat},(tk.all fun r'=>!Nat.beq r' m) = true→m ∉ tk:=fun {m} q hm=>by
  have:=List.all_eq_true.mp q m hm
  simp at this
 split at h
 · split at h
   · rename_i hv nv hn
     split at h
     · rename_i hall
       simp only [Option.some.injEq,Prod.mk.injEq,decide_eq_true_eq] at h
       obtain ⟨hm,rfl⟩:=h
       simp only [aF] at hx
       subst hx
       have hn':sJ σ.box dd = some (hv,nv):=by
        have:=ho.new dd (by simp)
        unfold sJ at hn ⊢
        rwa [← this]
       obtain ⟨q1,q2,q3⟩:=gY hs hn'
       have hmv:jI dd = true:=by unfold jI; simp [jk hdd]
       exact main (h1:=(none,0,0)) (R1:=fun _ _=>none) (Ut:=fun _ _=>(none,0,0)) (D8:=fun _=>true) (x1:=iO ty) ⟨⟨rfl,Nat.le_refl _,fun _=>rfl,by simp [iO]⟩,fun ad e=>(by cases e),fun i hi=>absurd hi (Nat.not_lt_zero i)⟩ hmv q1 q2 q3 (ntk hall) (fun _ _ q=>absurd rfl q)
        (by simp [iO,L.new]) (fun i hi=>absurd hi (Nat.not_lt_zero i)) (fun i _=>by simp [iO,L.new]) (by simp [L.new]) (fun i hi=>absurd hi (Nat.not_lt_zero i)) (fun i _=>by simp [iO]) (by simpa [iO] using hm) rfl
     · cases h
   · cases h
 · rename_i r v
   split at h
   · rename_i t' x' own hv nv hbx
     split at h
     · rename_i hbq
       obtain rfl:=Ty.eq_of_beq hbq
       cases hq:(Nat.beq v hv&&(jI r&&tk.all fun r'=>!Nat.beq r' r)) with
       | false=>rw [hq] at h; cases h
       | true =>
         rw [hq] at h
         simp only [cond_true,Option.some.injEq,Prod.mk.injEq,decide_eq_true_eq,dx] at h
         simp only [Bool.and_eq_true] at hq
         obtain ⟨hq1,hq2,hq3⟩:=hq
         obtain rfl:=Nat.eq_of_beq_eq_true hq1
         obtain ⟨hm,rfl⟩:=h
         simp only [aF] at hx
         obtain ⟨_,rfl⟩:=hx
         obtain ⟨_,_,_,hr,hp⟩:=hb _ _ hbx
         have wL:=ho.box _ _ hbx
         obtain ⟨t1,t2⟩:=dM hs wL
         exact main hr hq2 (dL hs wL rfl) (fun u hu=>Nat.lt_succ_of_le (t1 u hu)) (fun u hu=>Nat.lt_succ_of_le (t2 u hu)) (ntk hq3) hp rfl (fun i hi=>oU hi) (fun i _=>oV) (by
          show (x'.nil&&Nat.beq b.len 0) = true ↔ _
          rw [Bool.and_eq_true,hr.1.2.2.2]; simp) (fun i hi=>Cy hi) (fun i _=>Cz) hm rfl
     · cases h
   · cases h
 · rename_i r v sz lo hi'
   split at h
   · rename_i t' x' own hv nv hbx
     split at h
     · rename_i hbq
       obtain rfl:=Ty.eq_of_beq hbq
       cases hq:(Nat.beq v hv&&(Nat.beq sz t'.size&&(jI r&&tk.all fun r'=>!Nat.beq r' r))) with
       | false=>rw [hq] at h; cases h
       | true =>
         rw [hq] at h
         simp only [cond_true,Option.some.injEq,Prod.mk.injEq,decide_eq_true_eq,dx] at h
         simp only [Bool.and_eq_true] at hq
         obtain ⟨hq1,hq0,hq2,hq3⟩:=hq
         obtain rfl:=Nat.eq_of_beq_eq_true hq1
         obtain rfl:=Nat.eq_of_beq_eq_true hq0
         obtain ⟨hm,rfl⟩:=h
         simp only [aF] at hx
         obtain ⟨_,l1,l2,rfl⟩:=hx
         obtain ⟨_,_,_,hr,hp⟩:=hb _ _ hbx
         have wL:=ho.box _ _ hbx
         obtain ⟨t1,t2⟩:=dM hs wL
         have hrc:=hr.cut l1 (by rw [← hr.1.1]; exact l2)
         exact main hrc hq2 (dL hs wL rfl) (fun u hu=>Nat.lt_succ_of_le (t1 u hu)) (fun u hu=>Nat.lt_succ_of_le (t2 u hu)) (ntk hq3) (fun b o q=>hp b o (wH q)) rfl (fun i hi=>oU hi) (fun i _=>oV) (by
          show (x'.nil&&Nat.beq b.len 0) = true ↔ _
          have:=hrc.1.2.2.2
          rw [Bool.and_eq_true,← this]; simp [L.cut]) (fun i hi=>(Cy hi).trans LK) (fun i _=>Cz) hm rfl
     · cases h
   · cases h
 · cases h
end
end Go.VE
