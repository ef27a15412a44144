import Derived.Test.YtgllenfbilnneaaGreatDoorVkH
/- Each operation of the evaluator is what the machine does: append,as a whole. -/
namespace Go.VE
structure Obs (μ σ:AS) (W:List Nat):Prop where
 env:∀ t,μ.env t = σ.env t ∨ μ.env t = .any
 box:∀ b c,μ.box b = some c→σ.box b = some c
 new:∀ b ∈ W,μ.box b = σ.box b
theorem Obs.refl (σ:AS) (W:List Nat):Obs σ σ W:=⟨fun _=>.inl rfl,fun _ _ h=>h,fun _ _=>rfl⟩
def Good (P:Program) (N:Fr) (c0:Nat→Nat→Col) (w0:World) (σ':AS) (o:Oper) (a:Act) (w:World):Prop :=
 ∃ v w' g',Runs P o a w v w' ∧ Sim N c0 w0 σ' g' (a.put o.dst v) w'
theorem mvB_not {r:Nat} (h:mvB r = true):¬ stay r:=by
 unfold mvB at h
 simp only [Bool.or_eq_true,Bool.and_eq_true,Nat.blt_eq,Bool.not_eq_true'] at h
 rintro (q | ⟨q1,q2⟩)
 · unfold wBase pBase at *; omega
 · rcases h with h | ⟨_,h⟩
   · omega
   · rw [q2] at h; cases h
section
variable {P:Program} {N:Fr} {c0:Nat→Nat→Col} {w0:World} {σ μ:AS} {g:Gh} {a:Act} {w:World}
theorem Obs.ok {W:List Nat} (ho:Obs μ σ W) (hs:Sim N c0 w0 σ g a w):BoxesOk g w μ.box:=fun id c h=>hs.box id c (ho.box id c h)
theorem Obs.ev {W:List Nat} (ho:Obs μ σ W) (hs:Sim N c0 w0 σ g a w) (x:Operand):Rep g w (evO μ.env x) (a.eval x):=evO_rep (fun i=>by
 rcases ho.env i with e | e
 · rw [e]; exact hs.env i
 · rw [e]; simp only [Rep]) x
theorem row_ndb (hs:Sim N c0 w0 σ g a w) {r:Nat} {c:BoxC} (hr:σ.box r = some c) (hc:c.isC = false):¬ g.db r:=fun h=>by
 obtain ⟨c',e1,e2⟩:=hs.db r h
 rw [hr] at e1; cases e1; rw [hc] at e2; cases e2
theorem row_turns (hs:Sim N c0 w0 σ g a w) {r:Nat} {c:BoxC} (hr:σ.box r = some c):(∀ u,g.dh r u→u≤c.hv) ∧ ∀ u,g.dn r u→u≤c.nv :=
 ⟨fun u hu=>by obtain ⟨c',e1,_,e2⟩:=hs.dh r u hu; rw [hr] at e1; cases e1; exact e2,fun u hu=>by obtain ⟨c',e1,_,e2⟩:=hs.dn r u hu; rw [hr] at e1; cases e1; exact e2⟩
theorem nxt_fresh (hs:Sim N c0 w0 σ g a w) {d h n:Nat} (hn:nxt σ.box d = some (h,n)):¬ g.db d ∧ (∀ u,g.dh d u→u < h) ∧ ∀ u,g.dn d u→u < n:=by
 have key:∀ {c:BoxC},σ.box d = some c→c.isC = false→c.hv + 1 = h→c.nv + 1 = n→¬ g.db d ∧ (∀ u,g.dh d u→u < h) ∧ ∀ u,g.dn d u→u < n:=fun hc h1 h2 h3=>by
  obtain ⟨q1,q2⟩:=row_turns hs hc
  exact ⟨row_ndb hs hc h1,fun u hu=>by have:=q1 u hu; omega,fun u hu=>by have:=q2 u hu; omega⟩
 unfold nxt at hn
 split at hn
 · rename_i hb
   refine ⟨fun q=>?_,fun u hu=>?_,fun u hu=>?_⟩
   · obtain ⟨c',e1,_⟩:=hs.db d q; rw [hb] at e1; cases e1
   · obtain ⟨c',e1,_⟩:=hs.dh d u hu; rw [hb] at e1; cases e1
   · obtain ⟨c',e1,_⟩:=hs.dn d u hu; rw [hb] at e1; cases e1
 · rename_i hb
   simp only [Option.some.injEq,Prod.mk.injEq] at hn
   exact key hb rfl hn.1 hn.2
 · rename_i hb
   simp only [Option.some.injEq,Prod.mk.injEq] at hn
   exact key hb rfl hn.1 hn.2
 · cases hn
def cutR (lo:Nat) (R:Reg):Reg:=fun b o=>match R b o with
 | some (some (i,j))=>if lo≤i then some (some (i - lo,j)) else none
 | q=>q
theorem cutR_some {lo:Nat} {R:Reg} {b o:Nat} (h:cutR lo R b o ≠ none):R b o ≠ none:=by
 intro e; simp [cutR,e] at h
theorem RowR.cut {c:Nat→Nat→Col} {R:Reg} {nh:Nat→Nat→Hdr} {own:Nat→Bool} {t:Ty} {x:L t.T} {h:Hdr} {lo hi:Nat} (hr:RowR c w R nh own t x h) (hlh:lo≤hi) (hh:hi≤x.len) :
 RowR c w (cutR lo R) (fun i=>nh (lo + i)) (fun i=>own (lo + i)) t (x.cut lo hi) (cutH t.size lo hi h):=by
 obtain ⟨h1,h2,h3⟩:=hr
 have hcap:x.len≤h.2.2:=h1.2.1
 refine ⟨h1.cut hh,fun ad had=>?_,fun i hi'=>?_⟩
 · rcases cut_addr had fun ad0 e=>(h2 ad0 e).1 with hc | ⟨ad0,e1,e2,rfl⟩
   · refine ⟨?_,fun k hk=>?_⟩
     · simp only [cutH,if_pos hc] at had
       exact (h2 ad had).1
     · have:(cutH t.size lo hi h).2.2 = 0:=by show h.2.2 - lo = 0; omega
       rw [this] at hk; simp at hk
   · refine ⟨rfl,fun k hk=>?_⟩
     have hk:k < (h.2.2 - lo) * t.size:=hk
     obtain ⟨q1,q2,q3⟩:=(h2 ad0 e1).2 (lo * t.size + k) (by rw [Nat.sub_mul] at hk; omega)
     rw [← Nat.add_assoc] at q1 q2 q3
     exact ⟨by simp only [cutR,q1],q2,q3⟩
 · have hi':i < hi - lo:=hi'
   obtain ⟨us,q1,q2,q3⟩:=h3 (lo + i) (by omega)
   refine ⟨us,q1,RepN.mono (i':=i) (Stays.refl _ _) (fun b o v j (a1:R b o = some (some (lo + i,j))) a2 a3=>⟨by show cutR lo R b o = _; unfold cutR; rw [a1]; simp,a2,a3⟩) (fun _=>rfl) _ _ _ _ q2,fun ad had q v hq=>?_⟩
   rcases cut_addr had fun ad0 e=>(h2 ad0 e).1 with hc | ⟨ad0,e1,e2,rfl⟩
   · omega
   · have:=q3 ad0 e1 q v hq
     simp only
     rwa [show ad0.off + lo * t.size + i * t.size + q = ad0.off + (lo + i) * t.size + q by rw [Nat.add_mul]; omega]
theorem goneC_fst (box:Nat→Option BoxC) (l:List Nat):(l.map (goneC box)).map (·.1) = l:=by
 rw [List.map_map]; exact (List.map_id' l)
theorem goneC_row {box:Nat→Option BoxC} {r:Nat} {t:Ty} {x:L t.T} {own:Option (Nat→Bool)} {hv nv:Nat} (h:box r = some (.row t x own hv nv)):goneC box r = (r,.gone hv nv):=by simp [goneC,h]
noncomputable def appR (h:Hdr) (sz n:Nat) (R1 R2:Reg):Reg:=open Classical in fun b o=>if baseB h sz b o then some none else match R1 b o with
 | some (some (i,j))=>if i < n then some (some (i,j)) else none
 | _=>match R2 b o with
   | some (some (i,j))=>some (some (n + i,j))
   | _=>none
theorem appR_some {h:Hdr} {sz n:Nat} {R1 R2:Reg} {b o:Nat} (q:appR h sz n R1 R2 b o ≠ none):baseB h sz b o ∨ R1 b o ≠ none ∨ R2 b o ≠ none:=by
 unfold appR at q
 split at q
 · exact .inl (by assumption)
 · split at q
   · rename_i e; rw [e]; exact .inr (.inl (by simp))
   · split at q
     · rename_i e; rw [e]; exact .inr (.inr (by simp))
     · exact absurd rfl q
def Rows (σ:AS) (tk:List Nat):Prop:=∀ r ∈ tk,mvB r = true ∧ ∃ t x own hv nv,σ.box r = some (.row t x own hv nv)
theorem gone_upd (hs:Sim N c0 w0 σ g a w) {tk:List Nat} (ht:Rows σ tk) {box:Nat→Option BoxC} (hbox:∀ r ∈ tk,box r = σ.box r) {ns:List RowN} (hn:∀ n ∈ ns,n.id ∉ tk) {id:Nat} {c:BoxC} (hm:(id,c) ∈ tk.map (goneC box)) :
 (¬ g.db id ∧ c.isC = false ∧ (∀ u,g.dh id u→u≤c.hv) ∧ (∀ u,g.dn id u→u≤c.nv) ∧ ∀ n ∈ ns,n.id = id→n.hv≤c.hv ∧ n.nv≤c.nv) ∧ ∃ h n,c = .gone h n:=by
 obtain ⟨r,hr,e⟩:=List.mem_map.mp hm
 obtain ⟨_,t,x,own,hv,nv,hb⟩:=ht r hr
 rw [goneC_row (by rw [hbox r hr]; exact hb)] at e
 cases e
 obtain ⟨q1,q2⟩:=row_turns hs hb
 exact ⟨⟨row_ndb hs hb rfl,rfl,q1,q2,fun n h1 h2=>absurd (h2 ▸ hr) (hn n h1)⟩,_,_,rfl⟩
theorem Sim.app1 (hs:Sim N c0 w0 σ g a w) {ty:Ty} {x1 b res:L ty.T} {h1 h':Hdr} {R1 R2:Reg} {nh1 nh2:Nat→Nat→Hdr} {own1 own2:Nat→Bool} {own':Option (Nat→Bool)} {news olds:List Value} {w':World}
 (hb1:RowR g.col w R1 nh1 own1 ty x1 h1) (hs1:SrcE g.col w ty x1 own1 R1 nh1 olds) (hs2:SrcE g.col w ty b own2 R2 nh2 news)
 {nm hv nv dd:Nat} {tk:List Nat} {box:Nat→Option BoxC} (hd:dstOk N (some dd) = true) (hmv:mvB nm = true) (hndb:¬ g.db nm) (hfh:∀ u,g.dh nm u→u < hv) (hfn:∀ u,g.dn nm u→u < nv)
 (htk:Rows σ tk) (hbox:∀ r ∈ tk,box r = σ.box r) (hnd:(nm::tk).Nodup)
 (hR1:∀ b o,R1 b o ≠ none→g.col b o = .bx nm ∧ (∃ v,w.cell? ⟨b,o,none⟩ = some v) ∧ w.frozen? ⟨b,o,none⟩ = false)
 (hR2:∀ b o,R2 b o ≠ none→(∃ k ∈ tk,g.col b o = .bx k) ∧ (∃ v,w.cell? ⟨b,o,none⟩ = some v) ∧ w.frozen? ⟨b,o,none⟩ = false)
 (hrl:res.len = x1.len + b.len) (hg1:∀ i,i < x1.len→res.get i = x1.get i) (hg2:∀ i,i < b.len→res.get (x1.len + i) = b.get i) (hnil:res.nil = true ↔ h'.1 = none)
 (ho1:∀ i,i < x1.len→ownB own' i = own1 i) (ho2:∀ i,i < b.len→ownB own' (x1.len + i) = own2 i)
 (e1:h'.2.1 = x1.len + b.len) (e2:h'.2.1≤h'.2.2) (e3:h'.1 = none→h'.2.2 = 0)
 (e5:∀ ad,h'.1 = some ad→ad.spot = none ∧ (∀ (j:Nat) (v:Value),(olds ++ news)[j]? = some v→w'.cell? ⟨ad.block,ad.off + j,none⟩ = some v) ∧ ∀ k,k < h'.2.2 * ty.size→(∃ v,w'.cell? ⟨ad.block,ad.off + k,none⟩ = some v) ∧ w'.frozen? ⟨ad.block,ad.off + k,none⟩ = false)
 (e6:∀ b o,baseB h' ty.size b o→w.heap.size≤b ∨ baseB h1 ty.size b o)
 (e7:∀ b o v,w.cell? ⟨b,o,none⟩ = some v→¬ baseB h1 ty.size b o→w'.cell? ⟨b,o,none⟩ = some v) (e8:(∀ b o,b < w.heap.size→w'.frozen? ⟨b,o,none⟩ = w.frozen? ⟨b,o,none⟩) ∧ ∀ b o,w.heap.size≤b→w'.frozen? ⟨b,o,none⟩ = false)
 (e9:∀ b ob,w.heap[b]? = some ob→(∀ o,¬ baseB h1 ty.size b o)→w'.heap[b]? = some ob) (e10:∀ b o,b < w.heap.size→(w'.cell? ⟨b,o,none⟩).isSome = (w.cell? ⟨b,o,none⟩).isSome)
 (e11:w'.os = w.os ∧ w'.tape = w.tape ∧ w'.output = w.output ∧ w.heap.size≤w'.heap.size) :
 ∃ g',Sim N c0 w0 (σ.app (some dd) { v:=.ms nm hv,bx:=(nm,.row ty res own' hv nv)::tk.map (goneC box) }) g' (a.put (some dd) (slV h')) w':=by
 have hbase:∀ b o,baseB h1 ty.size b o→R1 b o = some none:=by
  rintro b o ⟨ad,q1,rfl,q2,q3⟩
  have:=((hb1.2.1 ad q1).2 (o - ad.off) (by omega)).1
  rwa [show ad.off + (o - ad.off) = o by omega] at this
 have hlt:∀ b o v,w.cell? ⟨b,o,none⟩ = some v→b < w.heap.size:=fun b o v hv=>World.block_lt_of_cell? w ⟨b,o,none⟩ hv
 let n:RowN:={ id:=nm,hv:=hv,nv:=nv,hd:=h',nh:=fun i j=>if i < x1.len then nh1 i j else nh2 (i - x1.len) j,ni:=res.len,R:=appR h' ty.size x1.len R1 R2 }
 -- a cell of the new row
 have hnest1:∀ {b o i j},R1 b o = some (some (i,j))→i < x1.len→n.R b o = some (some (i,j)):=fun {b o i j} q hi=>by
  show appR _ _ _ _ _ b o = _
  unfold appR
  rw [if_neg,q]
  · simp only; rw [if_pos hi]
  · intro hb'
    obtain ⟨⟨v,hv⟩,_⟩:=(hR1 b o (by rw [q]; simp)).2
    rcases e6 b o hb' with q2 | q2
    · have:=hlt _ _ _ hv; omega
    · rw [hbase b o q2] at q; cases q
 have hnest2:∀ {b o i j},R2 b o = some (some (i,j))→n.R b o = some (some (x1.len + i,j)):=fun {b o i j} q=>by
  obtain ⟨⟨k,k1,k2⟩,⟨v,hv⟩,_⟩:=hR2 b o (by rw [q]; simp)
  have hn1:R1 b o = none:=by
   cases hq:R1 b o with
   | none=>rfl
   | some l =>
     have:=(hR1 b o (by rw [hq]; simp)).1
     rw [k2] at this; cases this
     exact absurd k1 (List.nodup_cons.mp hnd).1
  show appR _ _ _ _ _ b o = _
  unfold appR
  rw [if_neg,hn1,q]
  intro hb'
  rcases e6 b o hb' with q2 | q2
  · have:=hlt _ _ _ hv; omega
  · rw [hbase b o q2] at hn1; cases hn1
 have hbaseR:∀ b o,baseB h' ty.size b o→n.R b o = some none:=fun b o q=>by
  show appR _ _ _ _ _ b o = _
  unfold appR
  rw [if_pos q]
 have hnb:∀ {b o l},(R1 b o = some (some l) ∨ R2 b o = some (some l))→¬ baseB h1 ty.size b o:=fun {b o l} q hb'=>by
  have:=hbase b o hb'
  rcases q with q | q
  · rw [this] at q; cases q
  · obtain ⟨⟨k,k1,k2⟩,_⟩:=hR2 b o (by rw [q]; simp)
    rw [(hR1 b o (by rw [this]; simp)).1] at k2; cases k2
    exact absurd k1 (List.nodup_cons.mp hnd).1
 refine ⟨ghU g [n] (nm::tk),(hs.upd [n] (nm::tk) ((nm,.row ty res own' hv nv)::tk.map (goneC box)) ?_ ?_ ?_ (by simp) ?_ ?_ ?_ e8 ?_ e10 e11 ?_ ?_ (p:=.ms nm hv) (v:=slV h') hd ?_).2⟩
 · simp only [List.map_cons,goneC_fst]; exact hnd
 · intro id hid
   simp only [List.map_cons,goneC_fst]
   refine ⟨hid,?_⟩
   rcases List.mem_cons.mp hid with rfl | hid
   · exact ⟨mvB_not hmv,hndb⟩
   · obtain ⟨q1,t,x,own,h0,n0,q2⟩:=htk id hid
     exact ⟨mvB_not q1,row_ndb hs q2 rfl⟩
 · intro m hm
   rw [List.mem_singleton.mp hm]
   simp [n]
 · intro m hm
   rw [List.mem_singleton.mp hm]
   exact ⟨fun u hu=>.inl (hfh u hu),fun u hu=>.inl (hfn u hu)⟩
 · intro m hm b o hr
   rw [List.mem_singleton.mp hm] at hr
   rcases appR_some hr with q | q | q
   · rcases e6 b o q with q | q
     · exact .inr q
     · exact .inl ⟨nm,by simp,(hR1 b o (by rw [hbase b o q]; simp)).1⟩
   · exact .inl ⟨nm,by simp,(hR1 b o q).1⟩
   · obtain ⟨⟨k,k1,k2⟩,_⟩:=hR2 b o q
     exact .inl ⟨k,by simp [k1],k2⟩
 · intro b o v hv hk
   refine e7 b o v hv fun q=>?_
   exact hk nm (by simp) (hR1 b o (by rw [hbase b o q]; simp)).1
 · intro b ob hob hk
   refine e9 b ob hob fun o q=>?_
   exact hk o nm (by simp) (hR1 b o (by rw [hbase b o q]; simp)).1
 · intro id c hm
   right
   rcases List.mem_cons.mp hm with e | hm
   · cases e
     exact ⟨hndb,rfl,fun u hu=>Nat.le_of_lt (hfh u hu),fun u hu=>Nat.le_of_lt (hfn u hu),fun m hm _=>by rw [List.mem_singleton.mp hm]; exact ⟨Nat.le_refl _,Nat.le_refl _⟩⟩
   · exact (gone_upd hs htk hbox (ns:=[n]) (fun m hm=>by rw [List.mem_singleton.mp hm]; exact (List.nodup_cons.mp hnd).1) hm).1
 · intro hst id c hm
   rcases List.mem_cons.mp hm with e | hm
   · cases e
     have eh:=ghU_hd (g:=g) (F:=nm::tk) (ns:=[n]) (by simp) (List.mem_singleton.mpr rfl)
     have en:=ghU_nh (g:=g) (F:=nm::tk) (ns:=[n]) (by simp) (List.mem_singleton.mpr rfl)
     have eR:=ghU_R (g:=g) (F:=nm::tk) (ns:=[n]) (by simp) (List.mem_singleton.mpr rfl)
     have keep1:∀ {b o v l},(R1 b o = some (some l) ∨ R2 b o = some (some l))→w.cell? ⟨b,o,none⟩ = some v→w.frozen? ⟨b,o,none⟩ = false→w'.cell? ⟨b,o,none⟩ = some v ∧ w'.frozen? ⟨b,o,none⟩ = false:=fun {b o v l} q hv hf =>
      ⟨e7 b o v hv (hnb q),by rw [e8.1 b o (hlt _ _ _ hv)]; exact hf⟩
     refine ⟨.inl ⟨n,by simp,rfl,rfl⟩,.inl ⟨n,by simp,rfl,rfl⟩,en.2,?_,fun b o hr=>?_⟩
     · rw [show nm = n.id from rfl,show hv = n.hv from rfl,show nv = n.nv from rfl,eh,en.1,eR]
       refine ⟨⟨by rw [hrl]; exact e1,by rw [hrl,← e1]; exact e2,e3,hnil⟩,fun ad had=>⟨(e5 ad had).1,fun k hk=>?_⟩,fun i hi=>?_⟩
       · have hk:k < h'.2.2 * ty.size:=hk
         obtain ⟨q1,q2⟩:=(e5 ad had).2.2 k hk
         exact ⟨hbaseR _ _ ⟨ad,had,rfl,by omega,by omega⟩,q1,q2⟩
       · by_cases hix:i < x1.len
         · obtain ⟨us,u1,u2,u3⟩:=hs1.el i hix
           refine ⟨us,u1,?_,fun ad had q v hq=>?_⟩
           · show RepN (ghU g [n] (nm::tk)).col w' n.R n.nh (ownB own' i) i ty (res.get i) us 0
             rw [hg1 i hix,ho1 i hix]
             exact RepN.mono hst.toStays (fun b o v j a1 a2 a3=>⟨hnest1 a1 hix,keep1 (.inl a1) a2 a3⟩) (fun j=>if_pos hix) _ _ _ _ u2
           · have h5:=u3 q v hq
             have:=(e5 ad had).2.1 (i * ty.size + q) v (by rw [List.getElem?_append_left (List.getElem?_eq_some_iff.mp h5).1]; exact h5)
             rwa [← Nat.add_assoc] at this
         · obtain ⟨k,rfl⟩:∃ k,i = x1.len + k:=⟨i - x1.len,by omega⟩
           have hk:k < b.len:=by omega
           obtain ⟨us,u1,u2,u3⟩:=hs2.el k hk
           refine ⟨us,u1,?_,fun ad had q v hq=>?_⟩
           · show RepN (ghU g [n] (nm::tk)).col w' n.R n.nh (ownB own' (x1.len + k)) (x1.len + k) ty (res.get (x1.len + k)) us 0
             rw [hg2 k hk,ho2 k hk]
             refine RepN.mono hst.toStays (fun b o v j a1 a2 a3=>⟨hnest2 a1,keep1 (.inr a1) a2 a3⟩) (fun j=>?_) _ _ _ _ u2
             show (if x1.len + k < x1.len then _ else _) = _
             rw [if_neg (by omega),Nat.add_sub_cancel_left]
           · have h5:=u3 q v hq
             have:=(e5 ad had).2.1 ((x1.len + k) * ty.size + q) v (by rw [List.getElem?_append_right (by rw [hs1.len,Nat.add_mul]; omega),hs1.len,show (x1.len + k) * ty.size + q - x1.len * ty.size = k * ty.size + q by rw [Nat.add_mul]; omega]; exact h5)
             rwa [← Nat.add_assoc] at this
     · rw [show nm = n.id from rfl,eR] at hr
       refine ⟨ghU_col (ns:=[n]) (fun m1 h1 m2 h2 hne=>absurd (by rw [List.mem_singleton.mp h1,List.mem_singleton.mp h2]) hne) (List.mem_singleton.mpr rfl) hr,?_⟩
       rcases hl:n.R b o with _ | (_ | l)
       · exact absurd hl hr
       · have hb':baseB h' ty.size b o:=by
          have hl:appR h' ty.size x1.len R1 R2 b o = some none:=hl
          unfold appR at hl
          split at hl
          · assumption
          · split at hl
            · split at hl <;> cases hl
            · split at hl <;> cases hl
         obtain ⟨ad,q1,rfl,q2,q3⟩:=hb'
         have:=(e5 ad q1).2.2 (o - ad.off) (by omega)
         rwa [show ad.off + (o - ad.off) = o by omega] at this
       · have hq:(∃ l,R1 b o = some (some l)) ∨ ∃ l,R2 b o = some (some l):=by
          have hl:appR h' ty.size x1.len R1 R2 b o = some (some l):=hl
          unfold appR at hl
          split at hl
          · cases hl
          · split at hl
            · exact .inl ⟨_,by assumption⟩
            · split at hl
              · exact .inr ⟨_,by assumption⟩
              · cases hl
         rcases hq with ⟨l,hq⟩ | ⟨l,hq⟩
         · obtain ⟨_,⟨v,hv⟩,hf⟩:=hR1 b o (by rw [hq]; simp)
           obtain ⟨q1,q2⟩:=keep1 (.inl hq) hv hf
           exact ⟨⟨v,q1⟩,q2⟩
         · obtain ⟨_,⟨v,hv⟩,hf⟩:=hR2 b o (by rw [hq]; simp)
           obtain ⟨q1,q2⟩:=keep1 (.inr hq) hv hf
           exact ⟨⟨v,q1⟩,q2⟩
   · obtain ⟨_,h,n,rfl⟩:=gone_upd hs htk hbox (ns:=[]) (fun m hm=>by cases hm) hm
     exact trivial
 · intro hst
   simp only [Rep]
   exact ⟨.inl ⟨n,by simp,rfl,rfl⟩,by rw [show nm = n.id from rfl,show hv = n.hv from rfl,ghU_hd (by simp) (List.mem_singleton.mpr rfl)]⟩
theorem ownApp_lt {n i:Nat} {o1 o2:Option (Nat→Bool)} (h:i < n):ownB (ownApp n o1 o2) i = ownB o1 i:=by
 have hb:Nat.blt i n = true:=by simpa using h
 unfold ownApp
 split
 · rfl
 · simp [ownB,hb]
theorem ownApp_ge {n i:Nat} {o1 o2:Option (Nat→Bool)}:ownB (ownApp n o1 o2) (n + i) = ownB o2 i:=by
 have hb:Nat.blt (n + i) n = false:=by
  rw [Bool.eq_false_iff]; intro q; have:=Nat.blt_eq.mp q; omega
 unfold ownApp
 split
 · rfl
 · simp [ownB,hb]
theorem ownCut_at {lo i:Nat} {own:Option (Nat→Bool)}:ownB (ownCut own lo) i = ownB own (lo + i):=by
 cases own <;> rfl
theorem app_get_lt {α:Type} {x y:L α} {i:Nat} (h:i < x.len):(x.app y).get i = x.get i:=by
 have hb:Nat.blt i x.len = true:=by simpa using h
 simp [L.app,hb]
theorem app_get_ge {α:Type} {x y:L α} {i:Nat}:(x.app y).get (x.len + i) = y.get i:=by
 have hb:Nat.blt (x.len + i) x.len = false:=by
  rw [Bool.eq_false_iff]; intro q; have:=Nat.blt_eq.mp q; omega
 simp [L.app,hb]
theorem srcA_src (hb:BoxesOk g w μ.box) {ty:Ty} {y:PV} {v:Value} {b:L ty.T} {ob:Option (Nat→Bool)} {tk:List Nat} (h:srcA μ.box ty y = some (b,ob,tk)) (hy:Rep g w y v) :
 ∃ a2 c R2 nh2 news,v = .slice a2 b.len c ∧ Src g.col w ty b (ownB ob) R2 nh2 a2 news ∧ (∀ b o,R2 b o ≠ none→(∃ k ∈ tk,g.col b o = .bx k) ∧ (∃ v,w.cell? ⟨b,o,none⟩ = some v) ∧ w.frozen? ⟨b,o,none⟩ = false) ∧ tk.Nodup ∧ Rows μ tk:=by
 unfold srcA at h
 cases hf:ty.flat with
 | true =>
   rw [hf] at h
   simp only [cond_true] at h
   split at h
   · rename_i b' hb'
     simp only [Option.some.injEq,Prod.mk.injEq] at h
     obtain ⟨rfl,rfl,rfl⟩:=h
     have h1:=unA_rep hb' (g:=stG g) (w:=w) (vs:=[v]) (by simp only [Reps]; exact ⟨v,[],rfl,rslv1_rep hb hy,rfl⟩)
     obtain ⟨a2,c,e,q⟩:=h1
     simp only [List.cons.injEq,and_true] at e
     subst e
     obtain ⟨nh2,news,hs⟩:=src_T (c':=g.col) (h:=(a2,b'.len,c)) ⟨a2,c,rfl,q⟩ (fun _ _=>none) (.inl hf)
     exact ⟨a2,c,_,nh2,news,rfl,hs _ (.inl hf),fun _ _ q=>absurd rfl q,List.nodup_nil,fun r hr=>by cases hr⟩
   · cases h
 | false =>
   rw [hf] at h
   simp only [cond_false] at h
   split at h
   · rename_i r u
     split at h
     · rename_i t b' own hv nv hbx
       split at h
       · rename_i hbq
         obtain rfl:=Ty.eq_of_beq hbq
         cases hq:(Nat.beq u hv&&mvB r) with
         | false=>rw [hq] at h; cases h
         | true =>
           rw [hq] at h
           simp only [cond_true,Option.some.injEq,Prod.mk.injEq,castT] at h
           simp only [Bool.and_eq_true] at hq
           obtain rfl:=Nat.eq_of_beq_eq_true hq.1
           obtain ⟨rfl,rfl,rfl⟩:=h
           simp only [Rep] at hy
           obtain ⟨_,_,_,hr,hp⟩:=hb _ _ hbx
           obtain ⟨news,hs⟩:=hr.src
           refine ⟨(g.hd r u).1,(g.hd r u).2.2,g.R r,g.nh r nv,news,by rw [hy.2,slV,hr.1.1],hs,fun b o q=>⟨⟨r,by simp,(hp b o q).1⟩,(hp b o q).2⟩,by simp,fun r' hr'=>?_⟩
           rw [List.mem_singleton.mp hr']
           exact ⟨hq.2,_,_,_,_,_,hbx⟩
       · cases h
     · cases h
   · rename_i t b'
     split at h
     · rename_i hbq
       obtain rfl:=Ty.eq_of_beq hbq
       simp only [Option.some.injEq,Prod.mk.injEq,castT] at h
       obtain ⟨rfl,rfl,rfl⟩:=h
       simp only [Rep] at hy
       obtain ⟨a2,c,e,q⟩:=hy
       simp only [List.cons.injEq,and_true] at e
       subst e
       obtain ⟨nh2,news,hs⟩:=src_T (c':=g.col) (h:=(a2,b'.len,c)) ⟨a2,c,rfl,q⟩ (fun _ _=>none) (.inr rfl)
       exact ⟨a2,c,_,nh2,news,rfl,hs _ (.inr fun _=>rfl),fun _ _ q=>absurd rfl q,List.nodup_nil,fun r hr=>by cases hr⟩
     · cases h
   · cases h
theorem appD_sound (hs:Sim N c0 w0 σ g a w) {d:Dl} (ho:Obs μ σ (d.bx.map (·.1))) {t u ty0 e:TypeId} {i:TypeInfo} {z:Value} {ty:Ty} (ht:P.underlying t = some (.slice e)) (hu:P.underlying u = some (.slice e)) (hi:P.info? e = some i) (hz:i.zero = some z) (hsz:i.size = ty.size) (hzz:z.cells.toList = ty.zeroV) (hby:i.bytes≤4096)
 {dd:Nat} (hdd:dstOk N (some dd) = true) {x y:PV} {vx vy:Value} (hx:Rep g w x vx) (hy:Rep g w y vy) (h:appD ty dd μ.box x y = some (true,d)) :
 ∃ r w' g',(Builtin.append_ #[t,u] ty0 #[vx,vy]).run P w = .ok r w' ∧ Sim N c0 w0 (σ.app (some dd) d) g' (a.put (some dd) r) w':=by
 have hb:=ho.ok hs
 unfold appD at h
 split at h
 · cases h
 rename_i b ob tk hsrc
 obtain ⟨a2,c,R2,nh2,news,rfl,s2,hR2,hnd2,htk⟩:=srcA_src hb hsrc hy
 have main:∀ {nm hv nv:Nat} {R1:Reg} {nh1:Nat→Nat→Hdr} {own1:Nat→Bool} {x1 res:L ty.T} {h1:Hdr} {own':Option (Nat→Bool)},RowR g.col w R1 nh1 own1 ty x1 h1→mvB nm = true→¬ g.db nm→(∀ u,g.dh nm u→u < hv)→(∀ u,g.dn nm u→u < nv)→nm ∉ tk →
  (∀ b o,R1 b o ≠ none→g.col b o = .bx nm ∧ (∃ v,w.cell? ⟨b,o,none⟩ = some v) ∧ w.frozen? ⟨b,o,none⟩ = false) →
  res.len = x1.len + b.len→(∀ i,i < x1.len→res.get i = x1.get i)→(∀ i,i < b.len→res.get (x1.len + i) = b.get i)→(res.nil = true ↔ h1.1 = none ∧ b.len = 0)→(∀ i,i < x1.len→ownB own' i = own1 i)→(∀ i,i < b.len→ownB own' (x1.len + i) = ownB ob i)→x1.len + b.len≤most →
  d = { v:=.ms nm hv,bx:=(nm,.row ty res own' hv nv)::tk.map (goneC μ.box) } →
  ∃ r w' g',(Builtin.append_ #[t,u] ty0 #[slV h1,.slice a2 b.len c]).run P w = .ok r w' ∧ Sim N c0 w0 (σ.app (some dd) d) g' (a.put (some dd) r) w':=by
  intro nm hv nv R1 nh1 own1 x1 res h1 own' hr hmv hndb hfh hfn hntk hR1 k1 k2 k3 k4 k5 k6 k7 hd
  subst hd
  obtain ⟨olds,s1⟩:=hr.src
  have hl:h1.2.1 = x1.len:=hr.1.1
  obtain ⟨h',w',r1,e1,e2,e3,e4,e5,e6,e7,e8,e9,e10,e11,e12,e13,e14⟩:=app_run (P:=P) (w:=w) (t:=t) (u:=u) (ty0:=ty0) (e:=e) (i:=i) (z:=z) (ty:=ty) ht hu hi hz hsz hzz hby (h1:=h1) (olds:=olds) (by rw [s1.len,hl]) (by rw [hl]; exact hr.1.2.1) hr.1.2.2.1
   (fun ad had=>⟨(hr.2.1 ad had).1,(s1.loc ad had).2,fun k hk=>((hr.2.1 ad had).2 k hk).2⟩) (a2:=a2) (n:=b.len) (c:=c) (news:=news) s2.len s2.one s2.loc s2.no (by rw [hl]; exact k7)
  rw [hl] at e1
  have hnew:=ho.new
  simp only [List.map_cons,goneC_fst,List.mem_cons] at hnew
  obtain ⟨g',hg⟩:=Sim.app1 hs hr s1.toSrcE s2.toSrcE hdd hmv hndb hfh hfn (box:=μ.box) (fun r hr'=>by
   obtain ⟨q1,t',x',o',h',n',q2⟩:=htk r hr'
   exact ⟨q1,t',x',o',h',n',ho.box _ _ q2⟩) (fun r hr'=>hnew r (.inr hr')) (List.nodup_cons.mpr ⟨hntk,hnd2⟩) hR1 hR2 k1 k2 k3 (k4.trans e4.symm) k5 k6 e1 e2 e3 e5 e6 e7 e8 e9 e10 ⟨e11,e12,e13,e14⟩
  exact ⟨_,w',g',r1,hg⟩
 have ntk:∀ {m:Nat},(tk.all fun r'=>!Nat.beq r' m) = true→m ∉ tk:=fun {m} q hm=>by
  have:=List.all_eq_true.mp q m hm
  simp at this
 split at h
 · split at h
   · rename_i hv nv hn
     split at h
     · rename_i hall
       simp only [Option.some.injEq,Prod.mk.injEq,decide_eq_true_eq] at h
       obtain ⟨hm,rfl⟩:=h
       simp only [Rep] at hx
       subst hx
       have hn':nxt σ.box dd = some (hv,nv):=by
        have:=ho.new dd (by simp)
        unfold nxt at hn ⊢
        rwa [← this]
       obtain ⟨q1,q2,q3⟩:=nxt_fresh hs hn'
       have hmv:mvB dd = true:=by unfold mvB; simp [dstOk_pb hdd]
       exact main (h1:=(none,0,0)) (R1:=fun _ _=>none) (nh1:=fun _ _=>(none,0,0)) (own1:=fun _=>true) (x1:=nilL0 ty) ⟨⟨rfl,Nat.le_refl _,fun _=>rfl,by simp [nilL0]⟩,fun ad e=>(by cases e),fun i hi=>absurd hi (Nat.not_lt_zero i)⟩ hmv q1 q2 q3 (ntk hall) (fun _ _ q=>absurd rfl q)
        (by simp [nilL0,L.new]) (fun i hi=>absurd hi (Nat.not_lt_zero i)) (fun i _=>by simp [nilL0,L.new]) (by simp [L.new]) (fun i hi=>absurd hi (Nat.not_lt_zero i)) (fun i _=>by simp [nilL0]) (by simpa [nilL0] using hm) rfl
     · cases h
   · cases h
 · rename_i r v
   split at h
   · rename_i t' x' own hv nv hbx
     split at h
     · rename_i hbq
       obtain rfl:=Ty.eq_of_beq hbq
       cases hq:(Nat.beq v hv&&(mvB r&&tk.all fun r'=>!Nat.beq r' r)) with
       | false=>rw [hq] at h; cases h
       | true =>
         rw [hq] at h
         simp only [cond_true,Option.some.injEq,Prod.mk.injEq,decide_eq_true_eq,castT] at h
         simp only [Bool.and_eq_true] at hq
         obtain ⟨hq1,hq2,hq3⟩:=hq
         obtain rfl:=Nat.eq_of_beq_eq_true hq1
         obtain ⟨hm,rfl⟩:=h
         simp only [Rep] at hx
         obtain ⟨_,rfl⟩:=hx
         obtain ⟨_,_,_,hr,hp⟩:=hb _ _ hbx
         have hbx':=ho.box _ _ hbx
         obtain ⟨t1,t2⟩:=row_turns hs hbx'
         exact main hr hq2 (row_ndb hs hbx' rfl) (fun u hu=>Nat.lt_succ_of_le (t1 u hu)) (fun u hu=>Nat.lt_succ_of_le (t2 u hu)) (ntk hq3) hp rfl (fun i hi=>app_get_lt hi) (fun i _=>app_get_ge) (by
          show (x'.nil&&Nat.beq b.len 0) = true ↔ _
          rw [Bool.and_eq_true,hr.1.2.2.2]; simp) (fun i hi=>ownApp_lt hi) (fun i _=>ownApp_ge) hm rfl
     · cases h
   · cases h
 · rename_i r v sz lo hi'
   split at h
   · rename_i t' x' own hv nv hbx
     split at h
     · rename_i hbq
       obtain rfl:=Ty.eq_of_beq hbq
       cases hq:(Nat.beq v hv&&(Nat.beq sz t'.size&&(mvB r&&tk.all fun r'=>!Nat.beq r' r))) with
       | false=>rw [hq] at h; cases h
       | true =>
         rw [hq] at h
         simp only [cond_true,Option.some.injEq,Prod.mk.injEq,decide_eq_true_eq,castT] at h
         simp only [Bool.and_eq_true] at hq
         obtain ⟨hq1,hq0,hq2,hq3⟩:=hq
         obtain rfl:=Nat.eq_of_beq_eq_true hq1
         obtain rfl:=Nat.eq_of_beq_eq_true hq0
         obtain ⟨hm,rfl⟩:=h
         simp only [Rep] at hx
         obtain ⟨_,l1,l2,rfl⟩:=hx
         obtain ⟨_,_,_,hr,hp⟩:=hb _ _ hbx
         have hbx':=ho.box _ _ hbx
         obtain ⟨t1,t2⟩:=row_turns hs hbx'
         have hrc:=hr.cut l1 (by rw [← hr.1.1]; exact l2)
         exact main hrc hq2 (row_ndb hs hbx' rfl) (fun u hu=>Nat.lt_succ_of_le (t1 u hu)) (fun u hu=>Nat.lt_succ_of_le (t2 u hu)) (ntk hq3) (fun b o q=>hp b o (cutR_some q)) rfl (fun i hi=>app_get_lt hi) (fun i _=>app_get_ge) (by
          show (x'.nil&&Nat.beq b.len 0) = true ↔ _
          have:=hrc.1.2.2.2
          rw [Bool.and_eq_true,← this]; simp [L.cut]) (fun i hi=>(ownApp_lt hi).trans ownCut_at) (fun i _=>ownApp_ge) hm rfl
     · cases h
   · cases h
 · cases h
end
end Go.VE
