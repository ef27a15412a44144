import Derived.Test.YtgllenfbilnneaaGreatDoorVFnStepLaws0
/- More plain laws of what laws.FnStep calls. -/
set_option linter.unusedVariables false
set_option linter.unusedSimpArgs false
namespace Go.VE.VFnStep
open Go.VE
def Ok {α:Type} (o:Option α) (Q:α→Prop):Prop:=∃ a,o = some a ∧ Q a
theorem Ok.bind {α β:Type} {o:Option α} {f:α→Option β} {Q:α→Prop} {R:β→Prop} (h:Ok o Q) (k:∀ a,Q a→Ok (f a) R):Ok (o.bind f) R:=by
 obtain ⟨a,rfl,q⟩:=h
 exact k a q
theorem Ok.bif {α:Type} {c:Bool} {a b:Option α} {R:α→Prop} (h1:c = true→Ok a R) (h2:c = false→Ok b R):Ok (bif c then a else b) R:=by
 cases c with
 | true=>exact h1 rfl
 | false=>exact h2 rfl
theorem Ok.grd {α:Type} {c:Bool} {a b:Option α} {R:α→Prop} (hc:c = true) (h:Ok a R):Ok (bif c then a else b) R:=by
 subst hc; exact h
theorem Ok.ret {α:Type} {a:α} {Q:α→Prop} (h:Q a):Ok (some a) Q:=⟨a,rfl,h⟩
theorem Ok.mono {α:Type} {o:Option α} {Q R:α→Prop} (h:Ok o Q) (k:∀ a,Q a→R a):Ok o R:=by
 obtain ⟨a,e,q⟩:=h
 exact ⟨a,e,k a q⟩
theorem loopK {X D:Type} {step:X→Option (X⊕D)} {R:D→Prop} (n:Nat) (I:Nat→X→Prop)
 (hs:∀ i x,i < n→I i x→Ok (step x) fun z=>(∃ y,z = .inl y ∧ I (i + 1) y) ∨ ∃ d,z = .inr d ∧ R d)
 (he:∀ x,I n x→Ok (step x) fun z=>∃ d,z = .inr d ∧ R d) (x:X) (h0:I 0 x):Ok (fixO step x) R:=by
 obtain ⟨d,e,r⟩:=loop_n (step:=step) n I R (fun i x hi hx=>by
  obtain ⟨z,e,⟨y,rfl,k⟩ | ⟨d,rfl,k⟩⟩:=hs i x hi hx
  · exact .inl ⟨y,e,k⟩
  · exact .inr ⟨d,e,k⟩) (fun x hx=>by
  obtain ⟨z,e,d,rfl,k⟩:=he x hx
  exact ⟨d,e,k⟩) x h0
 exact ⟨d,e,r⟩
theorem belowK {c:Cur} {n:Int} (h:Cw c) (h1:1≤n) (h2:n≤2147483648):Ok (g191d c n) fun a=>0≤a.1.1 ∧ a.1.1 < n ∧ Cw a.2.1:=by
 by_cases hn:n≤256
 · obtain ⟨x,c',e,k⟩:=below c h n h1 hn
   exact ⟨_,e,k⟩
 · obtain ⟨x,c',e,k⟩:=below4 c h n (by omega) h2
   exact ⟨_,e,k⟩
theorem onceK {c:Cur} {n:Int} (h:Cw c) (h1:1≤n) (h2:n≤256):Ok (g194d c n) fun a=>Cw a.2.1:=by
 obtain ⟨x,c',e,k⟩:=once c h n h1 h2
 exact ⟨_,e,k⟩
theorem pickK {c:Cur} {z:Int} {l:List Int} (h:Cw c) (h1:1≤l.length) (h2:l.length≤256):Ok (g289dw c (L.of z l)) fun a=>a.1.1 ∈ l ∧ Cw a.2.1:=by
 obtain ⟨x,c',e,k⟩:=pickIn c h z l h1 h2
 exact ⟨_,e,k⟩
theorem wrap_u32 (n:Int):IntKind.wrap .u32 n = n % 4294967296:=by
 unfold IntKind.wrap
 simp [IntKind.bits,IntKind.signed]
theorem wrap_u64 (n:Int):IntKind.wrap .u64 n = n % 18446744073709551616:=by
 unfold IntKind.wrap
 simp [IntKind.bits,IntKind.signed]
theorem formK (x:Int):Ok (g250 x) fun a=>-1≤a.1.1 ∧ (0≤a.1.1→0≤x ∧ x≤32):=by
 unfold g250
 have hl:(f333r.len:Int) = 33:=by decide +kernel
 cases h:f42 x 0 32 with
 | true =>
   have h':=(f42_iff _ _ _).mp h
   simp only [Bool.not_true,cond_false]
   refine Ok.grd (by rw [hl]; simp; omega) (Ok.ret ⟨?_,fun _=>h'⟩)
   have:=forms_pos x.toNat (by omega)
   show -1≤L.get f333r x.toNat
   omega
 | false=>exact Ok.ret ⟨by decide,fun q=>absurd q (by decide)⟩
theorem fieldK {x n a b c:Int} (h:n ≠ 0):Ok (g335 x n a b c) fun y=>y.1.1 = true→b≤0→0≤c→b≤a ∧ a≤c:=by
 unfold g335
 refine Ok.grd (by simpa using h) (Ok.bif (fun _=>Ok.ret fun q h1 h2=>?_) fun _=>Ok.ret fun q _ _=>(f42_iff _ _ _).mp q)
 have:a = 0:=by simpa using q
 omega
theorem instrOkK (x:Int×(Int×(Int×(Int×(Int×Unit))))):Ok (g254 x) fun y=>y.1.1 = true→(0≤x.1 ∧ x.1≤32) ∧ (0≤x.2.1 ∧ x.2.1≤15) ∧ (0≤x.2.2.1 ∧ x.2.2.1≤15) ∧ (0≤x.2.2.2.1 ∧ x.2.2.2.1≤15):=by
 unfold g254
 refine Ok.bind (formK _) fun a ha=>Ok.bif (fun h0=>?_) fun _=>Ok.ret (by simp)
 refine Ok.bind (fieldK (by decide)) fun b hb=>Ok.bif (fun h1=>?_) fun _=>Ok.ret (by simp)
 refine Ok.bind (fieldK (by decide)) fun c hc=>Ok.bif (fun h2=>?_) fun _=>Ok.ret (by simp)
 refine Ok.bind (fieldK (by decide)) fun d hd=>Ok.bif (fun h3=>?_) fun _=>Ok.ret (by simp)
 refine Ok.bind (fieldK (by decide)) fun e _=>Ok.ret fun _=>⟨ha.2 (by simpa using h0),hb h1 (by decide) (by decide),hc h2 (by decide) (by decide),hd h3 (by decide) (by decide)⟩
theorem modK {x n:Int} (h:n ≠ 0):Ok (g241 x n) fun _=>True:=by
 unfold g241
 exact Ok.grd (by simpa using h) (Ok.bif (fun _=>Ok.ret trivial) fun _=>Ok.ret trivial)
theorem encK (x:Int×(Int×(Int×(Int×(Int×Unit))))):Ok (g362 x) fun _=>True:=by
 unfold g362
 refine Ok.bind (instrOkK x) fun a _=>Ok.bif (fun _=>Ok.ret trivial) fun _=>?_
 exact Ok.bind (modK (by decide)) fun _ _=>Ok.ret trivial
theorem fit1 {α:Type} {r:L α} {z v:α} (h:r.len≤100000):decide (r.len + (L.of z [v]).len≤most) = true:=by
 have:most = 4294967296:=by decide
 show decide (r.len + 1≤most) = true
 simp only [decide_eq_true_eq]; omega
def W1 (n:Int):Prop:=0≤n ∧ n≤4294967295
theorem u32_in (n:Int):W1 (IntKind.wrap .u32 n):=by unfold W1; rw [wrap_u32]; omega
def WN (x:L Int):Prop:=∀ i,i < x.len→W1 (x.get i)
theorem WN.set {x:L Int} (h:WN x) (i:Nat) {v:Int} (hv:W1 v):WN (L.set x i v):=fun j hj=>by
 by_cases q:j = i
 · subst q; rw [set_eq_get]; exact hv
 · rw [set_ne_get _ _ q]; exact h j hj
theorem WN.nil {x:L Int} (h:x.len = 0):WN x:=fun i hi=>by rw [h] at hi; exact absurd hi (Nat.not_lt_zero i)
theorem WN.app {x y:L Int} (h:WN x) (k:WN y):WN (L.app x y):=fun i hi=>by
 have hi:i < x.len + y.len:=hi
 by_cases q:i < x.len
 · rw [app_get_lt q]; exact h i q
 · have e:(L.app x y).get i = y.get (i - x.len):=by
    show (bif Nat.blt i x.len then x.get i else y.get (i - x.len)) = _
    rw [show Nat.blt i x.len = false by cases hq:Nat.blt i x.len with | false=>rfl | true=>simp at hq; omega]; rfl
   rw [e]; exact k _ (by omega)
theorem WN.one {z v:Int} (h:W1 v):WN (L.of z [v]):=fun i hi=>by
 have hi:i < 1:=hi
 obtain rfl:i = 0:=by omega
 exact h
theorem WN.cut {x:L Int} (h:WN x) {a b:Nat} (hb:b≤x.len):WN (L.cut x a b):=fun i hi=>by
 have hi:i < b - a:=hi
 exact h (a + i) (by omega)
theorem wordR {c:Cur} (h:Cw c):Ok (g299d c) fun a=>W1 a.1.1 ∧ Cw a.2.1:=by
 unfold g299d
 repeat' (first | (refine Ok.bind (belowK (by assumption) (by first | decide | omega) (by first | decide | omega)) ?_; rintro _ ⟨_,_,_⟩) | (refine Ok.bind (pickK (by assumption) (by decide) (by decide)) ?_; rintro _ ⟨_,_⟩) | (refine Ok.bind (onceK (by assumption) (by decide) (by decide)) ?_; intro _ _) | (refine Ok.bind (encK _) ?_; intro _ _) | (refine Ok.bind (wordK (by assumption)) ?_; intro _ _) | refine Ok.grd (fit1 (by omega)) ?_ | refine Ok.grd (by assumption) ?_ | refine Ok.bif (fun _=>?_) (fun _=>?_))
 all_goals exact Ok.ret ⟨u32_in _,by assumption⟩
theorem wordK {c:Cur} (h:Cw c):Ok (g299d c) fun a=>Cw a.2.1:=(wordR h).mono fun _ h=>h.2
theorem instrK {c:Cur} (h:Cw c):Ok (g382d c) fun a=>Cw a.2.1:=by
 unfold g382d k382d_2 k382d_1
 refine Ok.bind (belowK h (by decide) (by decide)) ?_
 rintro y ⟨_,_,_⟩
 refine Ok.bind (formK _) fun z _=>?_
 repeat' (first | (refine Ok.bind (belowK (by assumption) (by first | decide | omega) (by first | decide | omega)) ?_; rintro _ ⟨_,_,_⟩) | (refine Ok.bind (pickK (by assumption) (by decide) (by decide)) ?_; rintro _ ⟨_,_⟩) | (refine Ok.bind (onceK (by assumption) (by decide) (by decide)) ?_; intro _ _) | (refine Ok.bind (encK _) ?_; intro _ _) | (refine Ok.bind (wordK (by assumption)) ?_; intro _ _) | refine Ok.grd (fit1 (by omega)) ?_ | refine Ok.grd (by assumption) ?_ | refine Ok.bif (fun _=>?_) (fun _=>?_))
 all_goals exact Ok.ret (by assumption)
theorem sourceK {c:Cur} (h:Cw c) (n:Nat) (hn:n≤1000) (d:Int):Ok (g361rd c n d) fun a=>a.1.1.len = n ∧ Cw a.2.1:=by
 unfold g361rd
 refine Ok.bind (loopK (R:=fun z=>∃ (c':Cur) (r:L Int),z = .inl (((),()),(r,(c',()))) ∧ r.len = n ∧ Cw c') n (fun i x=>∃ (c:Cur) (r:L Int),x = (((),((n:Int),(d,((),((i:Int),()))))),(c,(r,()))) ∧ r.len = i ∧ Cw c) ?_ ?_ _ ⟨c,_,rfl,rfl,h⟩) ?_
 · rintro i _ hi ⟨c,r,rfl,hr,hc⟩
   simp only [s361rd_L0,q361rd_L0,k361rd_L0_1]
   rw [wI_succ hi (by omega)]
   refine Ok.grd (idx_lt hi) (Ok.bind (instrK hc) fun y hy=>?_)
   repeat' (first | (refine Ok.bind (belowK (by assumption) (by first | decide | omega) (by first | decide | omega)) ?_; rintro _ ⟨_,_,_⟩) | (refine Ok.bind (pickK (by assumption) (by decide) (by decide)) ?_; rintro _ ⟨_,_⟩) | (refine Ok.bind (onceK (by assumption) (by decide) (by decide)) ?_; intro _ _) | (refine Ok.bind (encK _) ?_; intro _ _) | (refine Ok.bind (wordK (by assumption)) ?_; intro _ _) | refine Ok.grd (fit1 (by omega)) ?_ | refine Ok.grd (by assumption) ?_ | refine Ok.bif (fun _=>?_) (fun _=>?_))
   all_goals exact Ok.ret (.inl ⟨_,rfl,_,_,rfl,congrArg Nat.succ hr,by assumption⟩)
 · rintro _ ⟨c,r,rfl,hr,hc⟩
   simp only [s361rd_L0,q361rd_L0,k361rd_L0_1]
   rw [bif_f (idx_end n)]
   exact Ok.ret ⟨_,rfl,c,r,rfl,hr,hc⟩
 · rintro _ ⟨c,r,rfl,hr,hc⟩
   exact Ok.ret ⟨hr,hc⟩
theorem wordsN {c:Cur} (h:Cw c) (n:Nat) (hn:n≤1000):Ok (g195rd c n) fun a=>(a.1.1.len = n ∧ Cw a.2.1) ∧ a.1.1.nil = false ∧ WN a.1.1:=by
 unfold g195rd
 refine Ok.bind (loopK (R:=fun z=>∃ (c':Cur) (r:L Int),z = .inl (((),()),(r,(c',()))) ∧ (r.len = n ∧ Cw c') ∧ r.nil = false ∧ WN r) n (fun i x=>∃ (c:Cur) (r:L Int),x = (((),((n:Int),((),((i:Int),())))),(c,(r,()))) ∧ (r.len = i ∧ Cw c) ∧ r.nil = false ∧ WN r) ?_ ?_ _ ⟨c,_,rfl,⟨rfl,h⟩,rfl,WN.nil rfl⟩) ?_
 · rintro i _ hi ⟨c,r,rfl,⟨hr,hc⟩,hn',hw⟩
   simp only [s195rd_L0,q195rd_L0]
   rw [wI_succ hi (by omega)]
   refine Ok.grd (idx_lt hi) (Ok.bind (wordR hc) fun y ⟨hy1,hy⟩=>Ok.grd (fit1 (by omega)) ?_)
   exact Ok.ret (.inl ⟨_,rfl,_,_,rfl,⟨congrArg Nat.succ hr,hy⟩,by show (r.nil&&_) = false; rw [hn']; rfl,hw.app (WN.one hy1)⟩)
 · rintro _ ⟨c,r,rfl,⟨hr,hc⟩,hn'⟩
   simp only [s195rd_L0,q195rd_L0]
   rw [bif_f (idx_end n)]
   exact Ok.ret ⟨_,rfl,c,r,rfl,⟨hr,hc⟩,hn'⟩
 · rintro _ ⟨c,r,rfl,⟨hr,hc⟩,hn'⟩
   exact Ok.ret ⟨⟨hr,hc⟩,hn'⟩
theorem wordsK {c:Cur} (h:Cw c) (n:Nat) (hn:n≤1000):Ok (g195rd c n) fun a=>a.1.1.len = n ∧ Cw a.2.1:=(wordsN h n hn).mono fun _ h=>h.1
set_option maxHeartbeats 1000000 in
theorem guestWK {c:Cur} (h:Cw c) (t:Tb) (p:Nat) (hp:p < (tParts t).len) (hw:2≤((tParts t).get p).2.2.2.1.len) (hch:(tChans t).len≤8) (hdv:(tDevs t).len≤8) (n:Nat) (hn:n≤1000):Ok (g295rd c t p n) fun a=>a.1.1.len = n ∧ Cw a.2.1:=by
 unfold g295rd
 have hp':(decide (0≤(p:Int))&&decide ((p:Int) < (t.2.2.2.2.2.2.2.1.len:Int))) = true:=idx_in hp
 have ec:wI ((t.2.2.2.2.2.2.2.2.2.1.len:Int) + 1) = (((tChans t).len + 1:Nat):Int):=by
  have:t.2.2.2.2.2.2.2.2.2.1.len≤8:=hch
  rw [wI_id (by omega) (by omega)]; rfl
 have ed:wI ((t.2.2.2.2.2.2.2.2.1.len:Int) + 1) = (((tDevs t).len + 1:Nat):Int):=by
  have:t.2.2.2.2.2.2.2.2.1.len≤8:=hdv
  rw [wI_id (by omega) (by omega)]; rfl
 refine Ok.grd hp' (Ok.grd (by
  show decide ((1:Int) < (((tParts t).get ((p:Int)).toNat).2.2.2.1.len:Int)) = true
  rw [tN]; simp; omega) (Ok.bind (sourceK h n hn _) fun y hy=>?_))
 obtain ⟨hy1,hy2⟩:=hy
 refine Ok.bind (loopK (R:=fun z=>∃ (c':Cur) (r:L Int),z = .inl (((),((p:Int),((n:Int),((),((),()))))),(c',(t,(r,())))) ∧ r.len = n ∧ Cw c') n (fun i x=>∃ (c:Cur) (r:L Int),x = (((),((p:Int),((n:Int),((),((),((i:Int),())))))),(c,(t,(r,())))) ∧ r.len = n ∧ Cw c) ?_ ?_ _ ⟨y.2.1,y.1.1,rfl,hy1,hy2⟩) ?_
 · rintro i _ hi ⟨c,r,rfl,hr,hc⟩
   simp only [s295rd_L0,q295rd_L0,k295rd_L0_1]
   rw [wI_succ hi (by omega),ec,ed]
   refine Ok.grd (idx_lt hi) ?_
   have hir:(decide (0≤(i:Int))&&decide ((i:Int) < (r.len:Int))) = true:=by rw [hr]; exact idx_in hi
   repeat' (first | (refine Ok.bind (belowK (by assumption) (by first | decide | omega) (by first | decide | omega)) ?_; rintro _ ⟨_,_,_⟩) | (refine Ok.bind (pickK (by assumption) (by decide) (by decide)) ?_; rintro _ ⟨_,_⟩) | (refine Ok.bind (onceK (by assumption) (by decide) (by decide)) ?_; intro _ _) | (refine Ok.bind (encK _) ?_; intro _ _) | (refine Ok.bind (wordK (by assumption)) ?_; intro _ _) | refine Ok.grd (fit1 (by omega)) ?_ | refine Ok.grd (by assumption) ?_ | refine Ok.bif (fun _=>?_) (fun _=>?_))
   all_goals exact Ok.ret (.inl ⟨_,rfl,_,_,rfl,hr,by assumption⟩)
 · rintro _ ⟨c,r,rfl,hr,hc⟩
   simp only [s295rd_L0,q295rd_L0,k295rd_L0_1]
   rw [bif_f (idx_end n)]
   exact Ok.ret ⟨_,rfl,c,r,rfl,hr,hc⟩
 · rintro _ ⟨c,r,rfl,hr,hc⟩
   simp only
   refine Ok.bif (fun h4=>?_) fun _=>Ok.ret ⟨hr,hc⟩
   have h4:(4:Int) < n:=by simpa using h4
   have e1:wI ((n:Int) - 1) = ((n - 1:Nat):Int):=by rw [wI_id (by omega) (by omega)]; omega
   rw [e1]
   refine Ok.bind (belowK hc (by omega) (by omega)) fun a ha=>Ok.bind (encK _) fun b _=>Ok.grd (by rw [hr]; exact idx_in (by omega)) ?_
   refine Ok.bind (onceK ha.2.2 (by decide) (by decide)) fun d hd=>Ok.bif (fun _=>?_) fun _=>Ok.ret ⟨hr,hd⟩
   refine Ok.grd hp' (Ok.grd (by
    show decide ((0:Int) < (((tParts t).get ((p:Int)).toNat).2.2.2.1.len:Int)) = true
    rw [tN]; simp; omega) ?_)
   refine Ok.bind (belowK hd (by decide) (by decide)) fun e he=>Ok.bind (encK _) fun _ _=>Ok.bind (encK _) fun _ _=>Ok.bind (encK _) fun _ _=>Ok.bind (encK _) fun _ _=>?_
   simp only [set_len,hr]
   refine Ok.grd (by simp; omega) (Ok.grd (by simp; omega) (Ok.grd (by simp; omega) (Ok.grd (by simp; omega) (Ok.ret ⟨hr,he.2.2⟩))))
def FitG (ws:L Wi) (x:Im):Prop:=x.len = ws.len ∧ ∀ i,i < ws.len→((x.get i).len:Int) = (ws.get i).2.1 ∧ (x.get i).nil = false
theorem most_le2 {n:Nat} (h:n≤100000):decide (n≤most) = true:=by
 have:most = 4294967296:=by decide
 simp only [decide_eq_true_eq]; omega
theorem bytesL (w:Int):(f296r w).len = 4:=rfl
set_option maxHeartbeats 1000000 in
theorem imageK {c:Cur} (h:Cw c) (t:Tb) (p:Nat) (hp:p < (tParts t).len) (hw2:2≤((tParts t).get p).2.2.2.1.len) (hw4:((tParts t).get p).2.2.2.1.len≤4) (hws:∀ i,i < ((tParts t).get p).2.2.2.1.len→f326 (((tParts t).get p).2.2.2.1.get i) = true) (hch:(tChans t).len≤8) (hdv:(tDevs t).len≤8) :
 Ok (g192rd c t p) fun a=>FitG ((tParts t).get p).2.2.2.1 a.1.1 ∧ Cw a.2.1:=by
 unfold g192rd
 have hp':(decide (0≤(p:Int))&&decide ((p:Int) < (t.2.2.2.2.2.2.2.1.len:Int))) = true:=idx_in hp
 have inner:∀ (i:Nat) (c:Cur) (ws:L Int) (r13:Im),ws.len≤512→Cw c→Ok (fixO s192rd_L2 (((),((p:Int),((),((),((i:Int),((),(ws,((0:Int),())))))))),(c,(t,(r13,((L.of (Ty.zero (.int .u8)) []),())))))) fun z=>∃ r:L Int,z = .inl (((),((p:Int),((),((),((i:Int),((),())))))),(c,(t,(r13,(r,()))))) ∧ r.len = 4 * ws.len ∧ r.nil = false:=by
  intro i c ws r13 hl hc
  refine loopK ws.len (fun k x=>∃ r:L Int,x = (((),((p:Int),((),((),((i:Int),((),(ws,((k:Int),())))))))),(c,(t,(r13,(r,()))))) ∧ r.len = 4 * k ∧ r.nil = false) ?_ ?_ _ ⟨_,rfl,rfl,rfl⟩
  · rintro k _ hk ⟨r,rfl,hr,hn⟩
    simp only [s192rd_L2,q192rd_L2]
    rw [wI_succ hk (by omega)]
    refine Ok.grd (idx_lt hk) (Ok.grd (idx_in hk) (Ok.grd (by rw [bytesL]; exact most_le2 (by omega)) (Ok.ret (.inl ⟨_,rfl,_,rfl,?_,by show (r.nil&&_) = false; rw [hn]; rfl⟩))))
    show r.len + 4 = 4 * (k + 1)
    omega
  · rintro _ ⟨r,rfl,hr,hn⟩
    simp only [s192rd_L2,q192rd_L2]
    rw [bif_f (idx_end ws.len)]
    exact Ok.ret ⟨_,rfl,r,rfl,hr,hn⟩
 refine Ok.bind (loopK (R:=fun z=>∃ (c':Cur) (r:Im),z = .inl (((),()),(r,(c',()))) ∧ FitG ((tParts t).get p).2.2.2.1 r ∧ Cw c') ((tParts t).get p).2.2.2.1.len (fun i x=>∃ (c:Cur) (r:Im),x = (((),((p:Int),((),((),((i:Int),()))))),(c,(t,(r,())))) ∧ r.len = i ∧ (∀ k,k < i→((r.get k).len:Int) = (((tParts t).get p).2.2.2.1.get k).2.1 ∧ (r.get k).nil = false) ∧ Cw c) ?_ ?_ _ ⟨c,_,rfl,rfl,fun k hk=>absurd hk (Nat.not_lt_zero k),h⟩) ?_
 · rintro i _ hi ⟨c,r,rfl,hr,hk,hc⟩
   have hwi:=(f326_iff _).mp (hws i hi)
   have hsz:wI (Int.tdiv (((tParts t).get p).2.2.2.1.get i).2.1 4) = (((((tParts t).get p).2.2.2.1.get i).2.1 / 4).toNat:Int):=by
    rw [Int.tdiv_eq_ediv_of_nonneg (by omega),wI_id (by omega) (by omega)]; omega
   have hm4:(((tParts t).get p).2.2.2.1.get i).2.1 % 4 = 0:=by
    have:=hwi.2.2.2.1
    rwa [Int.tmod_eq_emod_of_nonneg (by omega)] at this
   simp only [s192rd_L0,q192rd_L0,k192rd_L0_1,tN]
   have hi2:(decide (0≤(i:Int))&&decide ((i:Int) < ((L.get t.2.2.2.2.2.2.2.1 p).2.2.2.1.len:Int))) = true:=idx_in hi
   have hi3:decide ((i:Int) < ((L.get t.2.2.2.2.2.2.2.1 p).2.2.2.1.len:Int)) = true:=idx_lt hi
   have hsz':wI (Int.tdiv (L.get (L.get t.2.2.2.2.2.2.2.1 p).2.2.2.1 i).2.1 4) = (((((tParts t).get p).2.2.2.1.get i).2.1 / 4).toNat:Int):=hsz
   rw [hsz']
   have fin:∀ (ws:L Int) (c:Cur),ws.len = ((((tParts t).get p).2.2.2.1.get i).2.1 / 4).toNat→Cw c→∀ b:L Int,b.len = 4 * ws.len ∧ b.nil = false→(∃ (c':Cur) (r':Im),(((),((p:Int),((),((),(((i + 1:Nat):Int),()))))),(c,(t,((L.app r (L.of (Ty.zero (.sl (.int .u8))) [b])),())))) = (((),((p:Int),((),((),(((i + 1:Nat):Int),()))))),(c',(t,(r',())))) ∧ r'.len = i + 1 ∧ (∀ k,k < i + 1→((r'.get k).len:Int) = (((tParts t).get p).2.2.2.1.get k).2.1 ∧ (r'.get k).nil = false) ∧ Cw c'):=by
    rintro ws c hws hc b ⟨hb,hbn⟩
    refine ⟨c,_,rfl,congrArg Nat.succ hr,fun k hk'=>?_,hc⟩
    by_cases e:k = r.len
    · subst e
      rw [app_hi,hb,hws,hr]
      exact ⟨by omega,hbn⟩
    · rw [app_lo _ _ (by omega)]
      exact hk k (by omega)
   refine Ok.grd hp' (Ok.grd hi3 (Ok.grd hp' (Ok.grd hi2 (Ok.bif (fun _=>?_) fun _=>?_))))
   · refine Ok.bind (guestWK hc t p hp hw2 hch hdv _ (by omega)) fun y hy=>Ok.bind (inner i y.2.1 y.1.1 r (by omega) hy.2) ?_
     rintro _ ⟨b,rfl,hb⟩
     simp only
     rw [wI_succ hi (by omega)]
     exact Ok.grd (fit1 (by omega)) (Ok.ret (.inl ⟨_,rfl,fin y.1.1 y.2.1 hy.1 hy.2 b hb⟩))
   · refine Ok.bind (wordsK hc _ (by omega)) fun y hy=>Ok.bind (inner i y.2.1 y.1.1 r (by omega) hy.2) ?_
     rintro _ ⟨b,rfl,hb⟩
     simp only
     rw [wI_succ hi (by omega)]
     exact Ok.grd (fit1 (by omega)) (Ok.ret (.inl ⟨_,rfl,fin y.1.1 y.2.1 hy.1 hy.2 b hb⟩))
 · rintro _ ⟨c,r,rfl,hr,hk,hc⟩
   simp only [s192rd_L0,q192rd_L0,k192rd_L0_1,tN]
   have he:decide (((((tParts t).get p).2.2.2.1.len:Nat):Int) < ((L.get t.2.2.2.2.2.2.2.1 p).2.2.2.1.len:Int)) = false:=idx_end ((tParts t).get p).2.2.2.1.len
   rw [bif_t hp',bif_f he]
   exact Ok.ret ⟨_,rfl,c,r,rfl,⟨hr,hk⟩,hc⟩
 · rintro _ ⟨c,r,rfl,hr,hc⟩
   exact Ok.ret ⟨hr,hc⟩
theorem u64_in (n:Int):0≤IntKind.wrap .u64 n:=by rw [wrap_u64]; omega
theorem z9:(0:Int)≤0 ∧ (0:Int)≤9:=by decide
theorem z4:(0:Int)≤4 ∧ (4:Int)≤9:=by decide
theorem z5:(0:Int)≤5 ∧ (5:Int)≤9:=by decide
theorem z0:(0:Int)≤0 ∧ (0:Int)≤4294967295:=by decide
theorem zm:(-1:Int)≤-1 ∧ (-1:Int)≤32:=by decide
theorem shr_in {x n:Int} (h:W1 x):W1 (shrOf .u32 x n):=by
 obtain ⟨h1,h2⟩:=h
 unfold shrOf
 have e:(2:Int) ^ (min n.toNat IntKind.u32.bits) = ((2 ^ (min n.toNat IntKind.u32.bits):Nat):Int):=by simp
 rw [e,Int.fdiv_eq_ediv_of_nonneg _ (Int.natCast_nonneg _)]
 obtain ⟨m,rfl⟩:∃ m:Nat,x = m:=⟨x.toNat,by omega⟩
 have:=Nat.div_le_self m (2 ^ (min n.toNat IntKind.u32.bits))
 have e2:((m:Int) / ((2 ^ (min n.toNat IntKind.u32.bits):Nat):Int)) = ((m / 2 ^ (min n.toNat IntKind.u32.bits):Nat):Int):=rfl
 rw [e2]
 generalize m / 2 ^ (min n.toNat IntKind.u32.bits) = q at this ⊢
 exact ⟨by omega,by omega⟩
theorem one_in (b:Bool):W1 (f331 b):=by cases b <;> exact ⟨by decide,by decide⟩
theorem shl_in (x n:Int):W1 (shlOf .u32 x n):=u32_in _
theorem zt:(-1:Int)≤-1 ∧ (-1:Int)≤65535:=by decide
theorem bitK (x i:Int):Ok (g242 x i) fun _=>True:=by
 unfold g242
 exact Ok.grd (decide_eq_true (u64_in i)) (Ok.ret trivial)
def WG (ws:L Wi):Prop:=ws.len≤4 ∧ ∀ i,i < ws.len→f326 (ws.get i) = true
def GuR (ws:L Wi) (regs:L Int) (ram:Im):Prop:=regs.len = 16 ∧ regs.get 0 = 0 ∧ FitG ws ram ∧ regs.nil = false ∧ WN regs
theorem atK {ws:L Wi} (hw:WG ws) (x:Int):Ok (g329 ws x) fun a=>a = (((-1:Int),()),()) ∨ ∃ i:Nat,a = (((i:Int),()),()) ∧ i < ws.len ∧ f369 (ws.get i) x = true:=by
 have hl:=hw.1
 unfold g329
 refine Ok.bind (loopK (R:=fun z=>z = .inr (.inl ((),())) ∨ ∃ i:Nat,z = .inl (((i:Int),()),()) ∧ i < ws.len ∧ f369 (ws.get i) x = true) ws.len (fun i y=>y = ((ws,(x,((i:Int),()))),())) ?_ ?_ _ rfl) ?_
 · rintro i _ hi rfl
   simp only [s329_L0,q329_L0]
   rw [wI_succ hi (by omega),tN]
   exact Ok.grd (idx_lt hi) (Ok.grd (idx_in hi) (Ok.bif (fun h=>Ok.ret (.inr ⟨_,rfl,.inr ⟨i,rfl,hi,h⟩⟩)) fun _=>Ok.ret (.inl ⟨_,rfl,rfl⟩)))
 · rintro _ rfl
   simp only [s329_L0,q329_L0]
   rw [bif_f (idx_end ws.len)]
   exact Ok.ret ⟨_,rfl,.inl rfl⟩
 · rintro _ (rfl | ⟨i,rfl,hi⟩)
   · exact Ok.ret (.inl rfl)
   · exact Ok.ret (.inr ⟨i,rfl,hi⟩)
def NoFault (ws:L Wi) (x n:Int) (a:(Int×Unit)×Unit):Prop:=(a.1.1 != 0) = false→Int.tmod (wI x) n = 0 ∧ ∃ i:Nat,g329 ws (wI x) = some (((i:Int),()),()) ∧ i < ws.len ∧ f369 (ws.get i) (wI x) = true
theorem faultK {ws:L Wi} {x n k:Int} (hw:WG ws) (hn:n ≠ 0) (hk:k ≠ 0):Ok (g243 ws x n k) fun a=>(0≤a.1.1 ∧ a.1.1≤9) ∧ NoFault ws x n a:=by
 unfold g243
 refine Ok.grd (by simpa using hn) (Ok.bif (fun _=>Ok.ret ⟨by decide,fun q=>by cases q⟩) fun h=>?_)
 obtain ⟨a,e,ha⟩:=atK hw (wI x)
 rw [e]
 rcases ha with rfl | ⟨i,rfl,hi,hx⟩
 · exact Ok.ret ⟨by decide,fun q=>by cases q⟩
 · simp only [oB]
   refine Ok.bif (fun q=>?_) fun _=>Ok.grd (idx_in hi) (Ok.grd (by simpa using hk) (Ok.bif (fun _=>Ok.ret ⟨by decide,fun q=>by cases q⟩) fun _=>Ok.ret ⟨by decide,fun _=>⟨by simpa using h,i,e,hi,hx⟩⟩))
   simp at q; omega
theorem placeK {ws:L Wi} {x n:Int} {i:Nat} (hw:WG ws) (hn:n = 1 ∨ n = 4) (h0:Int.tmod x n = 0) (hi:i < ws.len) (hx:f369 (ws.get i) x = true):0≤x - (ws.get i).1 ∧ x - (ws.get i).1 + n≤(ws.get i).2.1 ∧ 0≤x ∧ x≤2048 ∧ (ws.get i).2.1≤2048 ∧ 0≤(ws.get i).1:=by
 have h1:=(f326_iff _).mp (hw.2 i hi)
 have h2:=(f369_iff _ _ (hw.2 i hi)).mp hx
 rcases hn with rfl | rfl
 · omega
 · have a1:=h1.2.2.1
   have a2:=h1.2.2.2.1
   rw [Int.tmod_eq_emod_of_nonneg (by omega)] at a1 a2 h0
   omega
theorem getK {ws:L Wi} {g:Gu} {x n:Int} {y:(Int×Unit)×Unit} (hw:WG ws) (hg:GuR ws g.1 g.2.2.1) (hn:n = 1 ∨ n = 4) (hy:NoFault ws x n y) (h:(y.1.1 != 0) = false):Ok (g244 ws g (wI x) n) fun a=>(0≤a.1.1 ∧ a.1.1≤4294967295) ∧ 0≤wI x ∧ wI x≤2048:=by
 obtain ⟨h0,i,e,hi,hx⟩:=hy h
 obtain ⟨p1,p2,p3,p4,p5,p6⟩:=placeK hw hn h0 hi hx
 obtain ⟨_,_,⟨f1,f2⟩,_⟩:=hg
 have fi:=(f2 i hi).1
 have hir:i < g.2.2.1.len:=by rw [f1]; exact hi
 obtain ⟨m,rfl⟩:∃ m:Nat,n = m:=⟨n.toNat,by omega⟩
 unfold g244
 rw [e]
 simp only [oB]
 generalize wI x = x at *
 refine Ok.bind (loopK (R:=fun z=>∃ v:Int,z = .inl ((v,()),())) m (fun k y=>∃ v:Int,y = ((ws,(x,((),((i:Int),(v,(((m:Int) - 1 - k),())))))),(g,()))) ?_ ?_ _ ⟨0,?_⟩) ?_
 · rintro k _ hk ⟨v,rfl⟩
   simp only [s244_L0,q244_L0]
   rw [wI_id (n:=(m:Int) - 1 - k - 1) (by omega) (by omega),tN,wI_id (n:=x - (ws.get i).1) (by omega) (by omega),wI_id (n:=x - (ws.get i).1 + ((m:Int) - 1 - k)) (by omega) (by omega)]
   refine Ok.grd (by simp; omega) (Ok.grd (idx_in hir) (Ok.grd (idx_in hi) (Ok.grd (by simp; omega) (Ok.ret (.inl ⟨_,rfl,wI (wI (256 * v) + wI ((g.2.2.1.get i).get (x - (ws.get i).1 + ((m:Int) - 1 - k)).toNat)),?_⟩)))))
   have:(m:Int) - 1 - ((k + 1:Nat):Int) = (m:Int) - 1 - k - 1:=by omega
   rw [this]
 · rintro _ ⟨v,rfl⟩
   simp only [s244_L0,q244_L0]
   rw [bif_f (by simp; omega)]
   exact Ok.ret ⟨_,rfl,v,rfl⟩
 · rw [wI_id (n:=(m:Int) - 1) (by omega) (by omega)]
   simp
 · rintro _ ⟨v,rfl⟩
   exact Ok.ret ⟨u32_in _,p3,p4⟩
theorem setK {ws:L Wi} {g:Gu} {a v:Int} (hg:GuR ws g.1 g.2.2.1) (ha:0≤a ∧ a≤15) (hv:W1 v):Ok (g246w g a v) fun z=>GuR ws z.2.1.1 z.2.1.2.2.1:=by
 obtain ⟨h1,h2,h3,h4,h5⟩:=hg
 unfold g246w
 refine Ok.bif (fun h=>Ok.grd (by rw [h1]; simp; omega) (Ok.ret ⟨h1,?_,h3,h4,h5.set _ hv⟩)) fun _=>Ok.ret ⟨h1,h2,h3,h4,h5⟩
 have h:0 < a:=by simpa using h
 show (L.set g.1 a.toNat v).get 0 = 0
 rw [set_ne_get _ _ (by omega)]
 exact h2
theorem putK {ws:L Wi} {g:Gu} {x n v:Int} {y:(Int×Unit)×Unit} (hw:WG ws) (hg:GuR ws g.1 g.2.2.1) (hn:n = 1 ∨ n = 4) (hy:NoFault ws x n y) (h:(y.1.1 != 0) = false):Ok (g247w ws g (wI x) n v) fun z=>GuR ws z.2.1.1 z.2.1.2.2.1 ∧ 0≤wI x ∧ wI x≤2048:=by
 obtain ⟨h0,i,e,hi,hx⟩:=hy h
 obtain ⟨p1,p2,p3,p4,p5,p6⟩:=placeK hw hn h0 hi hx
 obtain ⟨q1,q2,⟨f1,f2⟩,f3⟩:=hg
 obtain ⟨m,rfl⟩:∃ m:Nat,n = m:=⟨n.toNat,by omega⟩
 unfold g247w
 rw [e]
 simp only [oB]
 generalize wI x = x at *
 refine Ok.bind (loopK (R:=fun z=>∃ r:Im,z = .inl ((),(g.1,(r,()))) ∧ FitG ws r) m (fun k y=>∃ r:Im,y = ((ws,(x,((m:Int),((),((i:Int),((),((k:Int),()))))))),(((),(g.2.1,((),()))),((f296r v),(g.1,(r,()))))) ∧ FitG ws r) ?_ ?_ _ ⟨g.2.2.1,rfl,f1,f2⟩) ?_
 · rintro k _ hk ⟨r,rfl,r1,r2⟩
   have ri:=(r2 i hi).1
   simp only [s247w_L0,q247w_L0]
   rw [wI_succ hk (by omega),tN,wI_id (n:=x - (ws.get i).1) (by omega) (by omega),wI_id (n:=x - (ws.get i).1 + (k:Int)) (by omega) (by omega)]
   refine Ok.grd (idx_lt hk) (Ok.grd (by rw [r1]; exact idx_in hi) (Ok.grd (idx_in hi) (Ok.grd (by rw [bytesL]; exact idx_in (by omega)) (Ok.grd (by simp; omega) (Ok.ret (.inl ⟨_,rfl,_,rfl,r1,fun j hj=>?_⟩))))))
   by_cases q:j = i
   · subst q
     rw [upd_eq_get]
     exact r2 j hj
   · rw [upd_ne_get _ _ q]
     exact r2 j hj
 · rintro _ ⟨r,rfl,hr⟩
   simp only [s247w_L0,q247w_L0]
   rw [bif_f (idx_end m)]
   exact Ok.ret ⟨_,rfl,r,rfl,hr⟩
 · rintro _ ⟨r,rfl,hr⟩
   exact Ok.ret ⟨⟨q1,q2,hr,f3⟩,p3,p4⟩
theorem sarK (x n:Int):Ok (g330 x n) fun a=>W1 a.1.1:=by
 unfold g330
 refine Ok.bind (loopK (R:=fun z=>∃ v:Int,z = .inl ((v,()),())) 32 (fun k y=>∃ v:Int,y = ((x,((wI (Int.tmod n 32)),(v,(((31:Int) - k),())))),())) ?_ ?_ _ ⟨0,rfl⟩) ?_
 · rintro k _ hk ⟨v,rfl⟩
   simp only [s330_L0,q330_L0]
   rw [wI_id (n:=(31:Int) - k - 1) (by omega) (by omega),show (31:Int) - k - 1 = 31 - ((k + 1:Nat):Int) by omega]
   exact Ok.grd (by simp; omega) (Ok.bif (fun _=>Ok.bind (bitK _ _) fun _ _=>Ok.ret (.inl ⟨_,rfl,_,rfl⟩)) fun _=>Ok.bind (bitK _ _) fun _ _=>Ok.ret (.inl ⟨_,rfl,_,rfl⟩))
 · rintro _ ⟨v,rfl⟩
   simp only [s330_L0,q330_L0]
   rw [bif_f (by simp)]
   exact Ok.ret ⟨_,rfl,v,rfl⟩
 · rintro _ ⟨v,rfl⟩
   exact Ok.ret (u32_in _)
theorem aluK {a:Int} (ha:W1 a) (o b:Int):Ok (g245 o a b) fun y=>W1 y.1.1 ∧ 0≤y.1.2.1 ∧ y.1.2.1≤9:=by
 unfold g245
 repeat' (first | (refine Ok.bind (sarK _ _) ?_; intro _ _) | refine Ok.grd (decide_eq_true (u64_in _)) ?_ | refine Ok.bif (fun _=>?_) (fun _=>?_))
 all_goals first | (exfalso; simp_all; done) | refine Ok.ret ⟨?_,by first | exact z9 | exact z4 | exact z5⟩
 all_goals first | exact u32_in _ | exact shr_in ha | exact one_in _ | assumption | exact z0
theorem fetchK {ws:L Wi} {g:Gu} (hw:WG ws) (hg:GuR ws g.1 g.2.2.1):Ok (g135 ws g) fun a=>(0≤a.1.1 ∧ a.1.1≤4294967295) ∧ (0≤a.1.2.1 ∧ a.1.2.1≤9) ∧ ((a.1.2.1 == 0) = true→0≤wI g.2.1 ∧ wI g.2.1≤2048):=by
 unfold g135
 refine Ok.bind (faultK hw (by decide) (by decide)) ?_
 rintro y ⟨h1,h2⟩
 refine Ok.bif (fun h=>Ok.ret ⟨z0,h1,fun q=>?_⟩) fun h=>Ok.bind (getK hw hg (by decide) h2 h) fun a ha=>Ok.ret ⟨ha.1,z9,fun _=>ha.2⟩
 simp at h q; omega
theorem decodeK (w:Int) (h:0≤w ∧ w≤4294967295):Ok (g139 w) fun a=>(0≤a.1.1.1 ∧ a.1.1.1≤32) ∧ (0≤a.1.1.2.1 ∧ a.1.1.2.1≤15) ∧ (0≤a.1.1.2.2.1 ∧ a.1.1.2.2.1≤15) ∧ (0≤a.1.1.2.2.2.1 ∧ a.1.1.2.2.2.1≤15):=by
 unfold g139 k139_1
 refine Ok.bif (fun _=>?_) fun _=>?_
 all_goals
  refine Ok.bind (instrOkK _) fun b hb=>Ok.bif (fun _=>Ok.ret (by decide)) fun q=>Ok.ret ?_
  exact hb (by simpa using q)
set_option maxHeartbeats 2000000 in
theorem stepK {ws:L Wi} {g:Gu} (hw:WG ws) (hg:GuR ws g.1 g.2.2.1) (hp:W1 g.2.1) (c:Int):Ok (g136rm ws g c) fun z=>GuR ws z.1.1.1.1 z.1.1.1.2.2.1 ∧ W1 z.1.1.1.2.1 ∧ (0≤z.1.1.2.1 ∧ z.1.1.2.1≤9) ∧ (-1≤z.1.1.2.2.1 ∧ z.1.1.2.2.1≤32) ∧ (-1≤z.1.1.2.2.2.1 ∧ z.1.1.2.2.2.1≤65535):=by
 have h16:=hg.1
 have hr:=hg.2.2.2.2
 unfold g136rm k136rm_1 k136rm_2
 refine Ok.bind (fetchK (g:=(g.1,(g.2.1,g.2.2))) hw hg) ?_
 rintro y ⟨y1,y2,y3⟩
 refine Ok.bif (fun _=>Ok.ret ⟨hg,hp,y2,zm,zt⟩) fun _=>Ok.bind (decodeK _ y1) ?_
 intro d hd
 refine Ok.bif (fun _=>Ok.ret ⟨hg,hp,z4,zm,zt⟩) fun _=>?_
 obtain ⟨d1,d2,d3,d4⟩:=hd
 repeat' (first
  | (refine Ok.bind (faultK hw (by decide) (by decide)) ?_; rintro _ ⟨_,_⟩)
  | (refine Ok.bind (getK (g:=(g.1,(g.2.1,g.2.2))) hw hg (by decide) (by assumption) (by assumption)) ?_; rintro _ ⟨_,_⟩)
  | (refine Ok.bind (putK (g:=(g.1,(g.2.1,g.2.2))) hw hg (by decide) (by assumption) (by assumption)) ?_; rintro _ ⟨_,_⟩)
  | (refine Ok.bind (setK (g:=(g.1,(g.2.1,g.2.2))) hg d2 (by first | exact u32_in _ | exact shl_in _ _ | assumption | exact (by assumption:0≤_ ∧ _≤(4294967295:Int)))) ?_; intro _ _)
  | (refine Ok.bind (aluK (hr _ (by rw [h16]; omega)) _ _) ?_; rintro _ ⟨_,_⟩)
  | refine Ok.grd (by rw [h16]; simp; omega) ?_
  | refine Ok.bif (fun _=>?_) (fun _=>?_))
 all_goals
  refine Ok.ret ⟨by assumption,by first | exact u32_in _ | exact hp,?_,?_,?_⟩ <;> dsimp only <;> omega
def WL {α:Type} (x:L α):Prop:=x.nil = true→x.len = 0
theorem wl {α:Type} {x:L α} (h:x.nil = false):WL x:=fun q=>by rw [h] at q; cases q
theorem wlApp {α:Type} {x y:L α} (h:WL x):WL (L.app x y):=fun q=>by
 have q:(x.nil&&Nat.beq y.len 0) = true:=q
 rw [Bool.and_eq_true] at q
 have e:y.len = 0:=Nat.eq_of_beq_eq_true q.2
 show x.len + y.len = 0
 rw [h q.1,e]
def WI (x:L Int):Prop:=WL x ∧ WN x
theorem wi0 {x:L Int} (h:x.len = 0):WI x:=⟨fun _=>h,WN.nil h⟩
def OutP (r:Ch) (o:Oe):Prop:=f328 r = true ∧ (r.1 = 0→o.1 = 0 ∧ o.2.1.len≤1) ∧ (r.1 ≠ 0→0≤o.1 ∧ o.1 + o.2.1.len≤r.2.2.2.1) ∧ WI o.2.1
def InP (r:Ch) (i:Ie):Prop:=f328 r = true ∧ (r.1 = 0→i.1.len≤1) ∧ (r.1 ≠ 0→(i.1.len:Int)≤r.2.2.2.1) ∧ WI i.1
def DevP (d:De):Prop:=d.1.len≤8 ∧ d.2.1.len≤8 ∧ WI d.1 ∧ WI d.2.1
def EndsO (t:Tb) (p:Nat) (x:L Oe):Prop:=x.len = (tChans t).len ∧ (∀ i,i < (tChans t).len→(((tChans t).get i).2.1 = p→OutP ((tChans t).get i) (x.get i)) ∧ (((tChans t).get i).2.1 ≠ p→(x.get i).1 = 0 ∧ (x.get i).2.1.len = 0)) ∧ WL x
def EndsI (t:Tb) (p:Nat) (x:L Ie):Prop:=x.len = (tChans t).len ∧ (∀ i,i < (tChans t).len→(((tChans t).get i).2.2.1 = p→InP ((tChans t).get i) (x.get i)) ∧ (((tChans t).get i).2.2.1 ≠ p→(x.get i).1.len = 0)) ∧ WL x
def EndsD (t:Tb) (p:Nat) (x:L De):Prop:=x.len = (tDevs t).len ∧ (∀ i,i < (tDevs t).len→((tDevs t).get i = p→DevP (x.get i)) ∧ ((tDevs t).get i ≠ p→(x.get i).1.len = 0 ∧ (x.get i).2.1.len = 0)) ∧ WL x
def HeG (h:He):Prop:=(0≤h.1 ∧ h.1≤1000000000) ∧ (0≤h.2.1 ∧ h.2.1≤1000000000) ∧ (0≤h.2.2.1 ∧ h.2.2.1≤9)
def TlG (n:Int) (x:Tl):Prop:=x.1 = n ∧ (x.2.1.len:Int)≤n ∧ (∀ i,i < x.2.1.len→0≤x.2.1.get i ∧ x.2.1.get i≤1023) ∧ (∀ i k,i < k→k < x.2.1.len→x.2.1.get i ≠ x.2.1.get k) ∧ WL x.2.1
def VP (v:Vi):Prop:=W1 v.2.1 ∧ W1 v.2.2.1 ∧ W1 v.2.2.2.1 ∧ W1 v.2.2.2.2.1 ∧ W1 v.2.2.2.2.2.2.2.1
structure PS (t:Tb) (p:Nat) (regs:L Int) (ram:Im) (he:He) (ca:Ca) (tl:Tl) (boot:Im) (outs:L Oe) (ins:L Ie) (devs:L De) (vi:Vi) (pc:Int):Prop where
 gu:GuR ((tParts t).get p).2.2.2.1 regs ram
 he:HeG he
 ca:ca.1 = t.2.1 ∧ CaG ca ∧ ∀ i,i < ca.2.1.len→WL (ca.2.1.get i)
 tl:TlG t.2.2.1 tl
 bo:FitG ((tParts t).get p).2.2.2.1 boot
 ou:EndsO t p outs
 is:EndsI t p ins
 de:EndsD t p devs
 vp:VP vi
 pw:W1 pc
def PG (t:Tb) (p:Nat) (s:St):Prop:=PS t p s.1.1 s.1.2.2.1 s.2.2.1 s.2.2.2.1 s.2.2.2.2.1 (sBoot s) (sOuts s) (sIns s) (sDevs s) s.2.1 s.1.2.1
structure TG (t:Tb) (p:Nat):Prop where
 pl:p < (tParts t).len
 w:WG ((tParts t).get p).2.2.2.1
 co:f249 t.2.2.2.1 = true
 po:f261 ((tParts t).get p).2.2.1 = true
 sh:f237 t.2.1 = true
 tl:1≤t.2.2.1 ∧ t.2.2.1≤8
 ch:(tChans t).len≤8 ∧ ∀ i,i < (tChans t).len→f328 ((tChans t).get i) = true
 dv:(tDevs t).len≤8
theorem EndsO.set {t:Tb} {p:Nat} {x:L Oe} (h:EndsO t p x) {i:Nat} {o:Oe} (hi:i < (tChans t).len) (hp:((tChans t).get i).2.1 = p) (ho:OutP ((tChans t).get i) o):EndsO t p (L.set x i o):=by
 refine ⟨h.1,fun j hj=>?_,h.2.2⟩
 by_cases q:j = i
 · subst q; rw [set_eq_get]; exact ⟨fun _=>ho,fun k=>absurd hp k⟩
 · rw [set_ne_get _ _ q]; exact h.2.1 j hj
theorem EndsI.set {t:Tb} {p:Nat} {x:L Ie} (h:EndsI t p x) {i:Nat} {o:Ie} (hi:i < (tChans t).len) (hp:((tChans t).get i).2.2.1 = p) (ho:InP ((tChans t).get i) o):EndsI t p (L.set x i o):=by
 refine ⟨h.1,fun j hj=>?_,h.2.2⟩
 by_cases q:j = i
 · subst q; rw [set_eq_get]; exact ⟨fun _=>ho,fun k=>absurd hp k⟩
 · rw [set_ne_get _ _ q]; exact h.2.1 j hj
theorem EndsD.set {t:Tb} {p:Nat} {x:L De} (h:EndsD t p x) {i:Nat} {o:De} (hi:i < (tDevs t).len) (hp:(tDevs t).get i = p) (ho:DevP o):EndsD t p (L.set x i o):=by
 refine ⟨h.1,fun j hj=>?_,h.2.2⟩
 by_cases q:j = i
 · subst q; rw [set_eq_get]; exact ⟨fun _=>ho,fun k=>absurd hp k⟩
 · rw [set_ne_get _ _ q]; exact h.2.1 j hj
theorem listK {x:L Int} (h:x.len≤1000) (w:WN x):Ok (g131r x) fun a=>a.1.1.len = x.len ∧ WI a.1.1:=by
 unfold g131r
 refine Ok.grd ?_ (Ok.ret ⟨Nat.zero_add _,wl rfl,(WN.nil rfl).app w⟩)
 show decide (0 + x.len≤most) = true
 exact most_le2 (by omega)
theorem sendK {r:Ch} {o:Oe} {v:Int} (hv:W1 v) (h:OutP r o):Ok (g255r r o v) fun a=>OutP r a.1.1:=by
 obtain ⟨h1,h2,h3,h4⟩:=h
 have hc:=chan_of h1
 unfold g255r
 refine Ok.bif (fun _=>Ok.ret ⟨h1,fun _=>⟨rfl,Nat.zero_le _⟩,fun q=>⟨by decide,?_⟩,wi0 rfl⟩) fun hok=>Ok.bif (fun q=>Ok.ret ⟨h1,fun _=>⟨rfl,Nat.le_refl 1⟩,fun k=>absurd (by simpa using q) k,wl rfl,WN.one hv⟩) fun q=>?_
 · show (0:Int) + ((0:Nat):Int)≤_
   omega
 have q:r.1 ≠ 0:=by simpa using q
 obtain ⟨a1,a2⟩:=h3 q
 refine Ok.bif (fun _=>Ok.bind (listK (by omega) h4.2) fun y hy=>Ok.ret ⟨h1,fun k=>absurd k q,fun _=>⟨a1,?_⟩,hy.2⟩) fun hr=>Ok.bind (listK (by omega) h4.2) fun y hy=>Ok.grd (fit1 (by omega)) (Ok.ret ⟨h1,fun k=>absurd k q,fun _=>⟨a1,?_⟩,wlApp hy.2.1,hy.2.2.app (WN.one hv)⟩)
 · show o.1 + (y.1.1.len:Int)≤_
   rw [hy.1]; exact a2
 · have e:f336 r o = wI (wI (r.2.2.2.1 - o.1) - (o.2.1.len:Int)):=by
    have hok:f238 r o = true:=by simpa using hok
    have q':(r.1 == 0) = false:=by simpa using q
    unfold f336
    rw [hok,q']; rfl
   rw [e,wI_id (n:=r.2.2.2.1 - o.1) (by omega) (by omega),wI_id (by omega) (by omega)] at hr
   have hr:¬ (r.2.2.2.1 - o.1 - (o.2.1.len:Int) = 0):=by simpa using hr
   show o.1 + ((y.1.1.len + 1:Nat):Int)≤_
   rw [hy.1]; omega
theorem recvK {r:Ch} {o:Ie} (h:InP r o):Ok (g256r r o) fun a=>InP r a.1.1 ∧ W1 a.1.2.1:=by
 obtain ⟨h1,h2,h3,h4⟩:=h
 have hc:=chan_of h1
 have hl:o.1.len≤8:=by
  by_cases q:r.1 = 0
  · have:=h2 q; omega
  · have:=h3 q; omega
 have z:∀ {x:L Int},x.len = 0→InP r (x,()):=fun {x} hx=>⟨h1,fun _=>by show x.len≤1; omega,fun _=>by show (x.len:Int)≤_; omega,wi0 hx⟩
 unfold g256r
 refine Ok.bif (fun _=>Ok.ret ⟨z rfl,z0⟩) fun _=>Ok.bif (fun _=>Ok.ret ⟨z rfl,z0⟩) fun hn=>?_
 have hn:¬ ((o.1.len:Int) = 0):=by simpa using hn
 refine Ok.bif (fun q=>Ok.bind (listK (by omega) h4.2) fun y hy=>Ok.grd (by simp; omega) (Ok.ret ⟨⟨h1,fun _=>?_,fun k=>absurd (by simpa using q) k,hy.2⟩,h4.2 0 (by omega)⟩)) fun q=>Ok.grd (by simp; omega) (Ok.bind (listK (by show (o.1.len:Int).toNat - 1≤1000; omega) (h4.2.cut (by omega))) fun y hy=>Ok.grd (by simp; omega) (Ok.ret ⟨⟨h1,fun k=>absurd k (by simpa using q),fun k=>?_,hy.2⟩,h4.2 0 (by omega)⟩))
 · show y.1.1.len≤1
   rw [hy.1]; exact h2 (by simpa using q)
 · show (y.1.1.len:Int)≤_
   have e:(L.cut o.1 (1:Int).toNat ((o.1.len:Int)).toNat).len = (o.1.len:Int).toNat - 1:=rfl
   rw [hy.1,e]
   have:=h3 k
   omega
theorem copyDK {d:De} (h:DevP d):Ok (g132r d) fun a=>(a.1.1.1.len = d.1.len ∧ a.1.1.2.1.len = d.2.1.len) ∧ WI a.1.1.1 ∧ WI a.1.1.2.1:=by
 unfold g132r
 exact Ok.bind (listK (Nat.le_trans h.1 (by decide)) h.2.2.1.2) fun a ha=>Ok.bind (listK (Nat.le_trans h.2.1 (by decide)) h.2.2.2.2) fun b hb=>Ok.ret ⟨⟨ha.1,hb.1⟩,ha.2,hb.2⟩
theorem readK {d:De} (h:DevP d):Ok (g257r d) fun a=>DevP a.1.1 ∧ W1 a.1.2.1:=by
 have h2:=h.2.1
 unfold g257r
 refine Ok.bif (fun _=>Ok.ret ⟨⟨Nat.zero_le _,Nat.zero_le _,wi0 rfl,wi0 rfl⟩,z0⟩) fun _=>Ok.bind (copyDK h) fun a ha=>Ok.bif (fun _=>Ok.ret ⟨⟨by rw [ha.1.1]; exact h.1,by rw [ha.1.2]; exact h.2.1,ha.2⟩,z0⟩) fun hn=>?_
 have hn:¬ ((d.2.1.len:Int) = 0):=by simpa using hn
 have e:(L.cut d.2.1 (1:Int).toNat ((d.2.1.len:Int)).toNat).len = (d.2.1.len:Int).toNat - 1:=rfl
 refine Ok.grd (by simp; omega) (Ok.bind (listK (by rw [e]; omega) (h.2.2.2.2.cut (by omega))) fun y hy=>Ok.grd (by simp; omega) (Ok.ret ⟨⟨by show a.1.1.1.len≤8; rw [ha.1.1]; exact h.1,?_,ha.2.1,hy.2⟩,h.2.2.2.2 0 (by omega)⟩))
 show y.1.1.len≤8
 rw [hy.1,e]; omega
theorem openK {d:De} (h:DevP d):Ok (g297r d) fun a=>DevP a.1.1:=by
 unfold g297r
 refine Ok.bif (fun _=>Ok.ret ⟨Nat.zero_le _,Nat.zero_le _,wi0 rfl,wi0 rfl⟩) fun _=>Ok.bind (copyDK h) fun a ha=>?_
 have key:∀ {vw vx:_},Ok (fixO s297r_L0 (((),((),(false,()))),((vw,(vx,())),((a.1.1.1,((),())),(a.1.1.2.1,()))))) fun z=>∃ (b:Bool) (x y:L Int),z = .inl (((),((),(b,()))),(((),((),())),(((),((),())),(vw,(vx,(x,(y,()))))))) ∧ x.len≤8 ∧ y.len≤8 ∧ WI x ∧ WI y:=by
  intro vw vx
  refine loopK a.1.1.1.len (fun i z=>∃ (b:Bool) (x y:L Int),z = (((),((),(b,()))),((vw,(vx,())),((x,((),())),(y,())))) ∧ x.len + i = a.1.1.1.len ∧ y.len≤8 ∧ WI x ∧ WI y) ?_ ?_ _ ⟨false,a.1.1.1,a.1.1.2.1,rfl,rfl,by rw [ha.1.2]; exact h.2.1,ha.2⟩
  · rintro i _ hi ⟨b,x,y,rfl,hx,hy,hw⟩
    have h1:=h.1
    have h2:=ha.1.1
    simp only [s297r_L0,q297r_L0]
    refine Ok.bif (fun q=>Ok.grd (by simp; omega) (Ok.grd (by simp; omega) (Ok.grd (fit1 (by omega)) (Ok.grd (by simp; omega) (Ok.bind (listK (by show (x.len:Int).toNat - 1≤1000; omega) (hw.1.2.cut (by omega))) fun u hu=>Ok.ret (.inl ⟨_,rfl,_,_,_,rfl,?_,?_,hu.2,wlApp hw.2.1,hw.2.2.app (WN.one (hw.1.2 0 (by simp at q; omega)))⟩)))))) fun _=>Ok.ret (.inr ⟨_,rfl,b,x,y,rfl,by omega,hy,hw⟩)
    · have e:(L.cut x (1:Int).toNat ((x.len:Int)).toNat).len = (x.len:Int).toNat - 1:=rfl
      rw [hu.1,e]; omega
    · have q:(y.len:Int) < 8:=by simpa using q
      show y.len + 1≤8
      omega
  · rintro _ ⟨b,x,y,rfl,hx,hy,hw⟩
    simp only [s297r_L0,q297r_L0]
    refine Ok.bif (fun _=>?_) fun _=>Ok.ret ⟨_,rfl,b,x,y,rfl,by omega,hy,hw⟩
    rw [bif_f (by simp; omega)]
    exact Ok.ret ⟨_,rfl,b,x,y,rfl,by omega,hy,hw⟩
 refine Ok.bind (@key _ _) ?_
 rintro _ ⟨b,x,y,rfl,hx,hy,hw⟩
 exact Ok.ret ⟨hx,hy,hw⟩
theorem VP.pend {v:Vi} (h:VP v) {x:Int} (hx:W1 x) {b:Bool}:VP (v.1,(v.2.1,(v.2.2.1,(v.2.2.2.1,(v.2.2.2.2.1,(v.2.2.2.2.2.1,(b,(x,())))))))):=⟨h.1,h.2.1,h.2.2.1,h.2.2.2.1,hx⟩
theorem holdK {v:Vi} (h:VP v) (i:Int):Ok (g298 v i) fun a=>VP a.1.1:=by
 unfold g298
 exact Ok.bif (fun _=>Ok.bind (bitK _ _) fun _ _=>Ok.bif (fun _=>Ok.grd (decide_eq_true (u64_in _)) (Ok.ret (h.pend (u32_in _)))) fun _=>Ok.ret h) fun _=>Ok.ret h
theorem onFaultK {po:Int×(Int×Unit)} {h:He} {n:Int} (hp:f261 po = true) (hh:HeG h) (hn:0≤n ∧ n≤9):Ok (g141 po h n) fun a=>HeG a.1.1:=by
 obtain ⟨h1,h2,h3⟩:=hh
 unfold g141 k141_1
 refine Ok.bif (fun _=>Ok.ret ⟨h1,h2,h3⟩) fun _=>Ok.bif (fun _=>Ok.ret ⟨h1,h2,h3⟩) fun _=>Ok.bif (fun _=>Ok.ret ⟨h1,h2,h3⟩) fun _=>Ok.bif (fun _=>Ok.ret ⟨h1,h2,h3⟩) fun _=>?_
 have b1:h.1 < 1000000000→0≤wI (h.1 + 1) ∧ wI (h.1 + 1)≤1000000000:=fun q=>by rw [wI_id (by omega) (by omega)]; omega
 have b2:(po.1 == 1) = true→decide (h.2.1 < po.2.1) = true→0≤wI (h.2.1 + 1) ∧ wI (h.2.1 + 1)≤1000000000:=fun q k=>by
  have k:h.2.1 < po.2.1:=by simpa using k
  have:f42 po.2.1 0 100 = true:=by
   unfold f261 at hp
   rw [q] at hp; exact hp
  have:=(f42_iff _ _ _).mp this
  rw [wI_id (by omega) (by omega)]; omega
 refine Ok.bif (fun q=>?_) fun _=>?_
 · have b1:=b1 (by simpa using q)
   exact Ok.bif (fun _=>Ok.ret ⟨b1,h2,hn⟩) fun _=>Ok.bif (fun k1=>Ok.bif (fun k2=>Ok.ret ⟨b1,b2 k1 k2,hn⟩) fun _=>Ok.ret ⟨b1,h2,hn⟩) fun _=>Ok.ret ⟨b1,h2,hn⟩
 · exact Ok.bif (fun _=>Ok.ret ⟨h1,h2,hn⟩) fun _=>Ok.bif (fun k1=>Ok.bif (fun k2=>Ok.ret ⟨h1,b2 k1 k2,hn⟩) fun _=>Ok.ret ⟨h1,h2,hn⟩) fun _=>Ok.ret ⟨h1,h2,hn⟩
theorem dueK (v:Vi) (c:Int):Ok (g133 v c) fun _=>True:=by
 have key:Ok (fixO s133_L0 (((),((0:Int),())),(v,()))) fun _=>True:=by
  refine loopK 32 (fun i x=>x = (((),((i:Int),())),(v,()))) ?_ ?_ _ rfl
  · rintro i _ hi rfl
    simp only [s133_L0,q133_L0]
    rw [wI_succ hi (by omega)]
    exact Ok.grd (by simp; omega) (Ok.bind (bitK _ _) fun _ _=>Ok.bif (fun _=>Ok.ret (.inr ⟨_,rfl,trivial⟩)) fun _=>Ok.ret (.inl ⟨_,rfl,rfl⟩))
  · rintro _ rfl
    simp only [s133_L0,q133_L0]
    rw [bif_f (by simp)]
    exact Ok.ret ⟨_,rfl,trivial⟩
 unfold g133
 refine Ok.bif (fun _=>Ok.ret trivial) fun _=>Ok.bif (fun _=>Ok.ret trivial) fun _=>Ok.bif (fun _=>Ok.bind (modK (by decide)) fun _ _=>Ok.bif (fun _=>Ok.ret trivial) fun _=>?_) fun _=>?_
 all_goals
  refine Ok.bind key ?_
  rintro (y | y | e) _
  · exact Ok.ret trivial
  · exact Ok.ret trivial
  · exact nomatch e
theorem enterK {v:Vi} (h:VP v) (c:Int) {pc:Int} (hp:W1 pc):Ok (g134 v c pc) fun a=>VP a.1.1 ∧ W1 a.1.2.1:=by
 obtain ⟨h1,h2,h3,h4,h5⟩:=h
 unfold g134
 exact Ok.bif (fun _=>Ok.ret ⟨⟨h1,h2,h3,h4,h5⟩,hp⟩) fun _=>Ok.bif (fun _=>Ok.ret ⟨⟨h1,hp,u32_in _,h4,h5⟩,h1⟩) fun _=>Ok.bind (bitK _ _) fun _ _=>Ok.bif (fun _=>Ok.grd (decide_eq_true (u64_in _)) (Ok.ret ⟨⟨h1,hp,u32_in _,h4,u32_in _⟩,h1⟩)) fun _=>Ok.ret ⟨⟨h1,hp,u32_in _,h4,h5⟩,h1⟩
theorem foldK {x:L Int} (h:x.len≤1000):Ok (g143 x) fun _=>True:=by
 have key:Ok (fixO s143_L0 ((x,((1:Int),((0:Int),()))),())) fun _=>True:=by
  refine loopK x.len (fun i z=>∃ v:Int,z = ((x,(v,((i:Int),()))),())) ?_ ?_ _ ⟨_,rfl⟩
  · rintro i _ hi ⟨v,rfl⟩
    simp only [s143_L0,q143_L0]
    rw [wI_succ hi (by omega)]
    exact Ok.grd (idx_lt hi) (Ok.grd (idx_in hi) (Ok.ret (.inl ⟨_,rfl,_,rfl⟩)))
  · rintro _ ⟨v,rfl⟩
    simp only [s143_L0,q143_L0]
    rw [bif_f (idx_end x.len)]
    exact Ok.ret ⟨_,rfl,trivial⟩
 unfold g143
 refine Ok.bind key ?_
 rintro (y | e) _
 · exact Ok.ret trivial
 · exact nomatch e
theorem csrRK {v:Vi} (h:VP v) (n c:Int):Ok (g258 v n c) fun a=>W1 a.1.1:=by
 obtain ⟨h1,h2,h3,h4,h5⟩:=h
 unfold g258
 repeat' (first | (refine Ok.bind (modK (by decide)) ?_; intro _ _) | refine Ok.bif (fun _=>?_) (fun _=>?_))
 all_goals refine Ok.ret ?_
 all_goals first | assumption | exact one_in _ | exact u32_in _ | exact z0
theorem csrWK {v:Vi} (h:VP v) (n:Int) {x:Int} (hx:W1 x):Ok (g259 v n x) fun a=>VP a.1.1:=by
 obtain ⟨h1,h2,h3,h4,h5⟩:=h
 unfold g259
 repeat' (refine Ok.bif (fun _=>?_) (fun _=>?_))
 all_goals exact Ok.ret ⟨by assumption,by assumption,h3,by assumption,h5⟩
theorem leaveK {v:Vi} (h:VP v):Ok (g260 v) fun a=>VP a.1.1 ∧ W1 a.1.2.1:=by
 obtain ⟨h1,h2,h3,h4,h5⟩:=h
 unfold g260
 exact Ok.bif (fun _=>Ok.ret ⟨⟨h1,h2,h3,h4,h5⟩,z0⟩) fun _=>Ok.ret ⟨⟨h1,h2,h3,h4,h5⟩,h2⟩
theorem hasK {x:L Int} (h:x.len≤1000) (v:Int):Ok (g334 x v) fun a=>a.1.1 = false→∀ i,i < x.len→x.get i ≠ v:=by
 have key:Ok (fixO s334_L0 ((x,(v,((0:Int),()))),())) fun z=>z = .inl ((true,()),()) ∨ (z = .inr (.inl ((),())) ∧ ∀ i,i < x.len→x.get i ≠ v):=by
  refine loopK x.len (fun i z=>z = ((x,(v,((i:Int),()))),()) ∧ ∀ j,j < i→x.get j ≠ v) ?_ ?_ _ ⟨rfl,fun j hj=>absurd hj (Nat.not_lt_zero j)⟩
  · rintro i _ hi ⟨rfl,ha⟩
    simp only [s334_L0,q334_L0]
    rw [wI_succ hi (by omega),tN]
    refine Ok.grd (idx_lt hi) (Ok.grd (idx_in hi) (Ok.bif (fun _=>Ok.ret (.inr ⟨_,rfl,.inl rfl⟩)) fun q=>Ok.ret (.inl ⟨_,rfl,rfl,fun j hj=>?_⟩)))
    rcases Nat.lt_or_eq_of_le (Nat.le_of_lt_succ hj) with e | rfl
    · exact ha j e
    · simpa using q
  · rintro _ ⟨rfl,ha⟩
    simp only [s334_L0,q334_L0]
    rw [bif_f (idx_end x.len)]
    exact Ok.ret ⟨_,rfl,.inr ⟨rfl,ha⟩⟩
 unfold g334
 refine Ok.bind key ?_
 rintro _ (rfl | ⟨rfl,h⟩)
 · exact Ok.ret fun q=>by cases q
 · exact Ok.ret fun _=>h
def Pgs (v:L Int):Prop:=(∀ i,i < v.len→0≤v.get i ∧ v.get i≤1023) ∧ ∀ i k,i < k→k < v.len→v.get i ≠ v.get k
theorem Pgs.of0 {v:L Int} (h:Pgs v) (z:Int):Pgs (L.app (L.of z []) v):=by
 have el:(L.app (L.of z []) v).len = v.len:=Nat.zero_add _
 exact ⟨fun i hi=>h.1 i (by omega),fun i k a b=>h.2 i k a (by omega)⟩
theorem Pgs.add {v:L Int} (h:Pgs v) {a:Int} (ha:0≤a ∧ a≤1023) (hn:∀ i,i < v.len→v.get i ≠ a) (z:Int):Pgs (L.app v (L.of z [a])):=by
 refine ⟨fun i hi=>?_,fun i k hik hk=>?_⟩
 · have hi:i < v.len + 1:=hi
   by_cases e:i = v.len
   · subst e; rw [app_hi]; exact ha
   · rw [app_lo _ _ (by omega)]; exact h.1 i (by omega)
 · have hk:k < v.len + 1:=hk
   rw [app_lo _ _ (show i < v.len by omega)]
   by_cases e:k = v.len
   · subst e; rw [app_hi]; exact hn i hik
   · rw [app_lo _ _ (by omega)]; exact h.2 i k hik (by omega)
theorem Pgs.cut {v:L Int} (h:Pgs v) (n:Nat) (hn:n≤v.len):Pgs (L.cut v 1 n):=by
 have el:(L.cut v 1 n).len = n - 1:=rfl
 have eg:∀ i,(L.cut v 1 n).get i = v.get (1 + i):=fun _=>rfl
 exact ⟨fun i hi=>by rw [eg]; exact h.1 _ (by omega),fun i k a b=>by rw [eg,eg]; exact h.2 _ _ (by omega) (by omega)⟩
theorem tlbK {n:Int} {x:Tl} {a:Int} (hn:1≤n ∧ n≤8) (h:TlG n x) (ha:0≤a ∧ a≤65535):Ok (g251r x a) fun z=>TlG n z.1.1:=by
 obtain ⟨h1,h2,h3,h4,h5⟩:=h
 have hp:Pgs x.2.1:=⟨h3,h4⟩
 have hl:x.2.1.len≤8:=by omega
 have ep:wI (Int.tdiv a 64) = a / 64:=by rw [Int.tdiv_eq_ediv_of_nonneg ha.1,wI_id (by omega) (by omega)]
 unfold g251r
 rw [ep]
 have e0:(L.app (L.of (Ty.zero (.int .i64)) []) x.2.1).len = x.2.1.len:=Nat.zero_add _
 have hp0:=hp.of0 (Ty.zero (.int .i64))
 refine Ok.grd (by
  show decide (0 + x.2.1.len≤most) = true
  exact most_le2 (by omega)) (Ok.bind (hasK (by omega) _) fun y hy=>Ok.bif (fun _=>Ok.ret ⟨h1,by show ((0 + x.2.1.len:Nat):Int)≤n; omega,hp0.1,hp0.2,wl rfl⟩) fun q=>Ok.grd (fit1 (by omega)) ?_)
 have hp1:=hp0.add (a:=a / 64) (by omega) (fun i hi=>hy q i (by omega)) (Ty.zero (.int .i64))
 have e1:(L.app (L.app (L.of (Ty.zero (.int .i64)) []) x.2.1) (L.of (Ty.zero (.int .i64)) [a / 64])).len = x.2.1.len + 1:=by
  show (L.app (L.of (Ty.zero (.int .i64)) []) x.2.1).len + 1 = _
  rw [e0]
 have wlV:WL (L.app (L.app (L.of (Ty.zero (.int .i64)) []) x.2.1) (L.of (Ty.zero (.int .i64)) [a / 64])):=wl rfl
 generalize L.app (L.app (L.of (Ty.zero (.int .i64)) []) x.2.1) (L.of (Ty.zero (.int .i64)) [a / 64]) = V at hp1 e1 wlV ⊢
 have hp2:=(hp1.cut V.len (Nat.le_refl _)).of0 (Ty.zero (.int .i64))
 have e2:(L.cut V (1:Int).toNat (V.len:Int).toNat).len = V.len - 1:=by show (V.len:Int).toNat - 1 = _; omega
 refine Ok.bif (fun k=>Ok.grd (by simp; omega) (Ok.grd (by
  show decide (0 + (L.cut V (1:Int).toNat (V.len:Int).toNat).len≤most) = true
  exact most_le2 (by omega)) (Ok.ret ⟨h1,by show ((0 + (L.cut V (1:Int).toNat (V.len:Int).toNat).len:Nat):Int)≤n; omega,?_,?_,wl rfl⟩))) fun k=>Ok.ret ⟨h1,?_,hp1.1,hp1.2,fun q=>?_⟩
 · exact hp2.1
 · exact hp2.2
 · have k:¬ ((V.len:Int) > x.1):=by simpa using k
   show (V.len:Int)≤n
   omega
 · exact wlV q
theorem wI_sm {n:Int} (h1:-100000000≤n) (h2:n≤100000000):wI n = n:=wI_id (by omega) (by omega)
theorem accessK {t:Tb} {p:Nat} {s:St} {a:Int} {w:Bool} (g:TG t p) (h:PG t p s) (ha:0≤a ∧ a≤65535):Ok (g138p t s a w) fun z=>(0≤z.1.1 ∧ z.1.1≤150) ∧ PG t p z.2.1:=by
 unfold g138p
 refine Ok.bind (tlbK g.tl h.tl ha) fun y hy=>?_
 obtain ⟨c,p',q,u1,u2,u3,u4⟩:=useD s.2.2.2.1 h.ca.2.1 a ha w
 have u1':g252r s.2.2.2.1 a w = some ((c,(p',(q,()))),()):=u1
 rw [u1',oB]
 refine Ok.ret ⟨?_,h.gu,h.he,⟨u2.trans h.ca.1,u3,fun i hi=>wl (u4 i hi)⟩,hy,h.bo,h.ou,h.is,h.de,h.vp,h.pw⟩
 have hc:=costs_of g.co
 show 0≤f253 t.2.2.2.1 (p',(y.1.2.1,(q,()))) ∧ f253 t.2.2.2.1 (p',(y.1.2.1,(q,())))≤150
 rw [acc_of g.co]
 cases p' <;> cases y.1.2.1 <;> cases q <;> simp <;> omega
theorem opCostK {c:Co} (hc:f249 c = true) {o:Int} (h:0≤o ∧ o≤32):Ok (g137 c o) fun a=>1≤a.1.1 ∧ a.1.1≤70:=by
 obtain ⟨i,rfl⟩:∃ i:Nat,o = i:=⟨o.toNat,by omega⟩
 refine ⟨_,opc hc (i:=i) (by omega),?_⟩
 have:=costs_of hc
 show 1≤f100 c i ∧ f100 c i≤70
 unfold f100
 cases ((i:Int) == 9) <;> cases ((i:Int) == 10) <;> cases f157 (i:Int) 15 18 <;> cases decide ((i:Int) ≥ 25) <;> simp only [cond_true,cond_false] <;> (try simp (disch:=omega) only [wI_sm]) <;> omega
def SmL {α:Type} (x y:L α):Prop:=x.len = y.len ∧ ∀ i,i < x.len→x.get i = y.get i
def SmR {α:Type} (R:α→α→Prop) (x y:L α):Prop:=x.len = y.len ∧ ∀ i,i < x.len→R (x.get i) (y.get i)
theorem SmL.symm {α:Type} {x y:L α} (h:SmL x y):SmL y x:=⟨h.1.symm,fun i hi=>(h.2 i (by rw [h.1]; exact hi)).symm⟩
theorem SmL.trans {α:Type} {x y z:L α} (h:SmL x y) (k:SmL y z):SmL x z:=⟨h.1.trans k.1,fun i hi=>(h.2 i hi).trans (k.2 i (by rw [← h.1]; exact hi))⟩
theorem SmR.symm {α:Type} {R:α→α→Prop} (hR:∀ a b,R a b→R b a) {x y:L α} (h:SmR R x y):SmR R y x:=⟨h.1.symm,fun i hi=>hR _ _ (h.2 i (by rw [h.1]; exact hi))⟩
theorem SmR.trans {α:Type} {R:α→α→Prop} (hR:∀ a b c,R a b→R b c→R a c) {x y z:L α} (h:SmR R x y) (k:SmR R y z):SmR R x z:=⟨h.1.trans k.1,fun i hi=>hR _ _ _ (h.2 i hi) (k.2 i (by rw [← h.1]; exact hi))⟩
def SmO (a b:Oe):Prop:=a.1 = b.1 ∧ SmL a.2.1 b.2.1
def SmI (a b:Ie):Prop:=SmL a.1 b.1
def SmD (a b:De):Prop:=SmL a.1 b.1 ∧ SmL a.2.1 b.2.1
theorem SmO.symm {a b:Oe} (h:SmO a b):SmO b a:=⟨h.1.symm,h.2.symm⟩
theorem SmI.symm {a b:Ie} (h:SmI a b):SmI b a:=SmL.symm h
theorem SmD.symm {a b:De} (h:SmD a b):SmD b a:=⟨h.1.symm,h.2.symm⟩
theorem SmO.trans {a b c:Oe} (h:SmO a b) (k:SmO b c):SmO a c:=⟨h.1.trans k.1,h.2.trans k.2⟩
theorem SmI.trans {a b c:Ie} (h:SmI a b) (k:SmI b c):SmI a c:=SmL.trans h k
theorem SmD.trans {a b c:De} (h:SmD a b) (k:SmD b c):SmD a c:=⟨h.1.trans k.1,h.2.trans k.2⟩
def SmG (a b:Gu):Prop:=SmL a.1 b.1 ∧ a.2.1 = b.2.1 ∧ SmR SmL a.2.2.1 b.2.2.1
def SmC (a b:Ca):Prop:=a.1 = b.1 ∧ SmR SmL a.2.1 b.2.1
def SmT (a b:Tl):Prop:=a.1 = b.1 ∧ SmL a.2.1 b.2.1
structure SmS (a b:St):Prop where
 gu:SmG a.1 b.1
 vi:a.2.1 = b.2.1
 he:a.2.2.1 = b.2.2.1
 ca:SmC a.2.2.2.1 b.2.2.2.1
 tl:SmT a.2.2.2.2.1 b.2.2.2.2.1
 nx:a.2.2.2.2.2.1 = b.2.2.2.2.2.1
 id:a.2.2.2.2.2.2.1 = b.2.2.2.2.2.2.1
 bo:SmR SmL (sBoot a) (sBoot b)
 ou:SmR SmO (sOuts a) (sOuts b)
 is:SmR SmI (sIns a) (sIns b)
 de:SmR SmD (sDevs a) (sDevs b)
theorem SmG.symm {a b:Gu} (h:SmG a b):SmG b a:=⟨h.1.symm,h.2.1.symm,h.2.2.symm (fun _ _=>SmL.symm)⟩
theorem SmG.trans {a b c:Gu} (h:SmG a b) (k:SmG b c):SmG a c:=⟨h.1.trans k.1,h.2.1.trans k.2.1,SmR.trans (R:=SmL) (fun _ _ _=>SmL.trans) h.2.2 k.2.2⟩
theorem SmS.symm {a b:St} (h:SmS a b):SmS b a:=⟨h.gu.symm,h.vi.symm,h.he.symm,⟨h.ca.1.symm,h.ca.2.symm (fun _ _=>SmL.symm)⟩,⟨h.tl.1.symm,h.tl.2.symm⟩,h.nx.symm,h.id.symm,h.bo.symm (fun _ _=>SmL.symm),h.ou.symm (fun _ _=>SmO.symm),h.is.symm (fun _ _=>SmI.symm),h.de.symm (fun _ _=>SmD.symm)⟩
theorem SmS.trans {a b c:St} (h:SmS a b) (k:SmS b c):SmS a c:=⟨h.gu.trans k.gu,h.vi.trans k.vi,h.he.trans k.he,⟨h.ca.1.trans k.ca.1,SmR.trans (R:=SmL) (fun _ _ _=>SmL.trans) h.ca.2 k.ca.2⟩,⟨h.tl.1.trans k.tl.1,h.tl.2.trans k.tl.2⟩,h.nx.trans k.nx,h.id.trans k.id,SmR.trans (R:=SmL) (fun _ _ _=>SmL.trans) h.bo k.bo,SmR.trans (R:=SmO) (fun _ _ _=>SmO.trans) h.ou k.ou,SmR.trans (R:=SmI) (fun _ _ _=>SmI.trans) h.is k.is,SmR.trans (R:=SmD) (fun _ _ _=>SmD.trans) h.de k.de⟩
theorem BndS.same {a b:St} {m:Nat} (h:SmS a b) (hb:BndS a m):BndS b m:=by
 obtain ⟨h1,⟨h2,h2'⟩,⟨h3,h3'⟩,h4,⟨h5,h5'⟩,⟨h6,h6'⟩,⟨h7,h7'⟩,h8,h8'⟩:=hb
 refine ⟨by rw [← h.gu.1.1]; exact h1,⟨by rw [← h.gu.2.2.1]; exact h2,fun i hi=>?_⟩,⟨by rw [← h.ca.2.1]; exact h3,fun i hi=>?_⟩,by rw [← h.tl.2.1]; exact h4,⟨by rw [← h.bo.1]; exact h5,fun i hi=>?_⟩,⟨by rw [← h.ou.1]; exact h6,fun i hi=>?_⟩,⟨by rw [← h.is.1]; exact h7,fun i hi=>?_⟩,by rw [← h.de.1]; exact h8,fun i hi=>?_⟩
 · have hi':i < a.1.2.2.1.len:=by rw [h.gu.2.2.1]; exact hi
   rw [← (h.gu.2.2.2 i hi').1]; exact h2' i hi'
 · have hi':i < a.2.2.2.1.2.1.len:=by rw [h.ca.2.1]; exact hi
   rw [← (h.ca.2.2 i hi').1]; exact h3' i hi'
 · have hi':i < (sBoot a).len:=by rw [h.bo.1]; exact hi
   rw [← (h.bo.2 i hi').1]; exact h5' i hi'
 · have hi':i < (sOuts a).len:=by rw [h.ou.1]; exact hi
   rw [← (h.ou.2 i hi').2.1]; exact h6' i hi'
 · have hi':i < (sIns a).len:=by rw [h.is.1]; exact hi
   rw [← (h.is.2 i hi').1]; exact h7' i hi'
 · have hi':i < (sDevs a).len:=by rw [h.de.1]; exact hi
   rw [← (h.de.2 i hi').1.1,← (h.de.2 i hi').2.1]; exact h8' i hi'
theorem bind_of {α β σ:Type} {o:Option α} {F:α→Option β} {g:σ→β} {P:σ→Prop} (h:∃ a,o = some a ∧ ∃ s,F a = some (g s) ∧ P s):∃ s,o.bind F = some (g s) ∧ P s:=by
 obtain ⟨a,rfl,s,h1,h2⟩:=h
 exact ⟨s,h1,h2⟩
theorem snoc_lt {α:Type} (r:L α) (d q:α) {j:Nat} (h:j < r.len):(L.app r (L.of d [q])).get j = r.get j:=app_get_lt h
theorem snoc_at {α:Type} (r:L α) (d q:α) {i:Nat} (h:r.len = i):(L.app r (L.of d [q])).get i = q:=by
 subst h
 exact app_get_ge (x:=r) (y:=L.of d [q]) (i:=0)
theorem snoc_fit {α:Type} (r:L α) (d q:α) (h:r.len≤1048576):decide (r.len + (L.of d [q]).len≤most) = true:=decide_eq_true (by show r.len + 1≤4294967296; omega)
theorem app0 {α:Type} (d:α) (y:L α):SmL (L.app (L.of d []) y) y:=by
 refine ⟨Nat.zero_add _,fun i hi=>?_⟩
 have:=app_get_ge (x:=L.of d []) (y:=y) (i:=i)
 rwa [show (L.of d ([]:List α)).len + i = i from Nat.zero_add i] at this
theorem app0_fit {α:Type} (d:α) (y:L α) (h:y.len≤1048576):decide ((L.of d []).len + y.len≤most) = true:=decide_eq_true (by show 0 + y.len≤4294967296; omega)
theorem snoc_n {X D β:Type} {step:X→Option (X⊕D)} (n:Nat) (hn:n≤1048576) (st:Nat→L β→X) (fin:L β→D) (d:β) (R:Nat→β→Prop)
 (hs:∀ i r,i < n→r.len = i→∃ q,step (st i r) = some (.inl (st (i + 1) (L.app r (L.of d [q])))) ∧ R i q)
 (he:∀ r,r.len = n→step (st n r) = some (.inr (fin r))) {r0:L β} (h0:r0.len = 0) :
 ∃ r,fixO step (st 0 r0) = some (fin r) ∧ r.len = n ∧ ∀ i,i < n→R i (r.get i) :=
 build_n n st fin R (fun i r hi hr=>by
  obtain ⟨q,h1,h2⟩:=hs i r hi hr
  exact ⟨_,h1,by show r.len + 1 = _; omega,fun j hj=>snoc_lt _ _ _ (by omega),by rw [snoc_at _ _ _ hr]; exact h2⟩) he h0
theorem clone241 (x:L Int) (h:x.len≤1048576) (hn:x.nil = true→x.len = 0):∃ r,g274r x = some ((r,()),()) ∧ SmL r x ∧ (r.nil = true→r.len = 0):=by
 unfold g274r
 cases hx:x.nil with
 | true=>exact ⟨_,rfl,⟨by rw [hn hx]; rfl,fun i hi=>absurd hi (Nat.not_lt_zero i)⟩,fun _=>rfl⟩
 | false=>exact ⟨_,(bif_f rfl).trans (bif_t (app0_fit _ _ h)),app0 _ _,fun h=>by cases h⟩
theorem bytes150n (x:Im) (hl:x.len≤1048576) (hw:∀ i,i < x.len→(x.get i).len≤1048576) (hn:∀ i,i < x.len→(x.get i).nil = true→(x.get i).len = 0):∃ r:Im,g161r x = some ((r,()),()) ∧ SmR SmL r x ∧ ∀ i,i < r.len→(r.get i).nil = true→(r.get i).len = 0:=by
 obtain ⟨r,h1,h2,h3⟩:=snoc_n (step:=s161r_L0) x.len hl (fun i r=>((r,(x,((x.len:Int),((i:Int),())))),())) (fun r=>.inl (((),()),(r,()))) (Ty.zero (.sl (.int .u8))) (fun i q=>SmL q (x.get i) ∧ (q.nil = true→q.len = 0))
  (fun i r hi hr=>by
   obtain ⟨q,q1,q2⟩:=clone241 (x.get i) (hw i hi) (hn i hi)
   refine ⟨q,?_,q2⟩
   simp only [s161r_L0,q161r_L0]
   rw [bif_t (idx_lt hi),bif_t (idx_in hi),tN,q1]
   simp only [oB]
   rw [bif_t (snoc_fit _ _ _ (by omega)),wI_succ hi (by omega)])
  (fun r hr=>by
   simp only [s161r_L0,q161r_L0]
   rw [bif_f (idx_end _)]) (r0:=nilL (.sl (.int .u8))) rfl
 refine ⟨r,?_,⟨h2,fun i hi=>(h3 i (by omega)).1⟩,fun i hi=>(h3 i (by omega)).2⟩
 unfold g161r
 have h1':fixO s161r_L0 (((nilL (.sl (.int .u8))),(x,((x.len:Int),((0:Int),())))),()) = _:=h1
 rw [h1']; rfl
def NoneC (s:Sh) (c:Ca):Prop:=c.1 = s ∧ c.2.1.len = s.1.toNat ∧ ∀ i,i < c.2.1.len→(c.2.1.get i).len = 0
theorem NoneC.same {s:Sh} {a b:Ca} (h:NoneC s a) (k:NoneC s b):SmC a b :=
 ⟨h.1.trans k.1.symm,h.2.1.trans k.2.1.symm,fun i hi=>⟨by rw [h.2.2 i hi,k.2.2 i (by rw [k.2.1,← h.2.1]; exact hi)],fun j hj=>by rw [h.2.2 i hi] at hj; exact absurd hj (Nat.not_lt_zero j)⟩⟩
theorem bind_eq {α β:Type} {o:Option α} {F:α→Option β} {a:α} {z:Option β} (h:o = some a) (k:F a = z):o.bind F = z:=by rw [h]; exact k
theorem sm0 {α:Type} {x y:L α} (h:x.len = 0) (k:y.len = 0):SmL x y:=⟨h.trans k.symm,fun i hi=>by rw [h] at hi; exact absurd hi (Nat.not_lt_zero i)⟩
def NN (s:St):Prop:=WL s.1.1 ∧ (∀ i,i < s.1.2.2.1.len→WL (s.1.2.2.1.get i)) ∧ (∀ i,i < s.2.2.2.1.2.1.len→WL (s.2.2.2.1.2.1.get i)) ∧ WL s.2.2.2.2.1.2.1 ∧ (∀ i,i < (sBoot s).len→WL ((sBoot s).get i)) ∧
 (WL (sOuts s) ∧ ∀ i,i < (sOuts s).len→WL ((sOuts s).get i).2.1) ∧ (WL (sIns s) ∧ ∀ i,i < (sIns s).len→WL ((sIns s).get i).1) ∧ WL (sDevs s) ∧ ∀ i,i < (sDevs s).len→WL ((sDevs s).get i).1 ∧ WL ((sDevs s).get i).2.1
theorem cl197 (x:L Int) (h:x.len≤1048576) (hn:WL x):∃ r,g167r x = some ((r,()),()) ∧ SmL r x ∧ WL r:=by
 unfold g167r
 cases hx:x.nil with
 | true=>exact ⟨_,rfl,sm0 rfl (hn hx),fun _=>rfl⟩
 | false=>exact ⟨_,(bif_f rfl).trans (bif_t (app0_fit _ _ h)),app0 _ _,wl rfl⟩
theorem cl192 (x:L Int) (h:x.len≤1048576) (hn:WL x):∃ r,g162r x = some ((r,()),()) ∧ SmL r x ∧ WL r:=by
 unfold g162r
 cases hx:x.nil with
 | true=>exact ⟨_,rfl,sm0 rfl (hn hx),fun _=>rfl⟩
 | false=>exact ⟨_,(bif_f rfl).trans (bif_t (app0_fit _ _ h)),app0 _ _,wl rfl⟩
theorem cl259 (x:L Wy) (h:x.len≤1048576) (hn:WL x):∃ r,g275r x = some ((r,()),()) ∧ SmL r x ∧ WL r:=by
 unfold g275r
 cases hx:x.nil with
 | true=>exact ⟨_,rfl,sm0 rfl (hn hx),fun _=>rfl⟩
 | false=>exact ⟨_,(bif_f rfl).trans (bif_t (app0_fit _ _ h)),app0 _ _,wl rfl⟩
theorem cl193 (x:L Oe) (h:x.len≤1048576) (hn:WL x):∃ r,g163w x = some ((r,()),()) ∧ SmL r x ∧ WL r:=by
 unfold g163w
 cases hx:x.nil with
 | true=>exact ⟨_,rfl,sm0 rfl (hn hx),fun _=>rfl⟩
 | false=>exact ⟨_,(bif_f rfl).trans (bif_t (app0_fit _ _ h)),app0 _ _,wl rfl⟩
theorem cl194 (x:L Ie) (h:x.len≤1048576) (hn:WL x):∃ r,g164w x = some ((r,()),()) ∧ SmL r x ∧ WL r:=by
 unfold g164w
 cases hx:x.nil with
 | true=>exact ⟨_,rfl,sm0 rfl (hn hx),fun _=>rfl⟩
 | false=>exact ⟨_,(bif_f rfl).trans (bif_t (app0_fit _ _ h)),app0 _ _,wl rfl⟩
theorem cl195 (x:L De) (h:x.len≤1048576) (hn:WL x):∃ r,g165w x = some ((r,()),()) ∧ SmL r x ∧ WL r:=by
 unfold g165w
 cases hx:x.nil with
 | true=>exact ⟨_,rfl,sm0 rfl (hn hx),fun _=>rfl⟩
 | false=>exact ⟨_,(bif_f rfl).trans (bif_t (app0_fit _ _ h)),app0 _ _,wl rfl⟩
theorem guest190 (g:Gu) (h1:g.1.len≤1048576) (h2:BndI g.2.2.1 1048576) (n1:WL g.1) (n2:∀ i,i < g.2.2.1.len→WL (g.2.2.1.get i)):∃ r:Gu,g159r g = some ((r,()),()) ∧ SmG r g ∧ WL r.1 ∧ ∀ i,i < r.2.2.1.len→WL (r.2.2.1.get i):=by
 obtain ⟨y,y1,y2,y3⟩:=cl197 g.1 h1 n1
 have key:∀ {vw vx v5 v6 wF:_},∃ r:Im,fixO s159r_L0 (((),((),(g.2.2.1,((g.2.2.1.len:Int),((0:Int),()))))),((vw,(vx,(v5,()))),(((),(v6,((nilL (.sl (.int .u8))),()))),(wF,())))) = some (.inl (((),((),())),(((),(vx,((),()))),(((),(v6,((),()))),(vw,(v5,(wF,(r,())))))))) ∧ r.len = g.2.2.1.len ∧ ∀ i,i < g.2.2.1.len→SmL (r.get i) (g.2.2.1.get i) ∧ WL (r.get i):=by
  intro vw vx v5 v6 wF
  exact snoc_n (step:=s159r_L0) g.2.2.1.len h2.1 (fun i r=>(((),((),(g.2.2.1,((g.2.2.1.len:Int),((i:Int),()))))),((vw,(vx,(v5,()))),(((),(v6,(r,()))),(wF,()))))) (fun r=>.inl (((),((),())),(((),(vx,((),()))),(((),(v6,((),()))),(vw,(v5,(wF,(r,())))))))) (Ty.zero (.sl (.int .u8))) (fun i q=>SmL q (g.2.2.1.get i) ∧ WL q)
   (fun i r hi hr=>by
    have hb:=h2.2 i hi
    have hm:=h2.1
    obtain ⟨q,q1,q2⟩:=clone241 (g.2.2.1.get i) hb (n2 i hi)
    refine ⟨q,?_,q2⟩
    simp only [s159r_L0,q159r_L0]
    rw [bif_t (idx_lt hi),bif_t (idx_in hi),tN,q1]
    simp only [oB]
    rw [bif_t (snoc_fit _ _ _ (by omega)),wI_succ hi (by omega)])
   (fun r hr=>by
    simp only [s159r_L0,q159r_L0]
    rw [bif_f (idx_end _)]) (r0:=nilL (.sl (.int .u8))) rfl
 unfold g159r
 rw [y1,oB]
 refine bind_of ?_
 refine key.elim fun r h=>⟨_,h.1,?_⟩
 exact ⟨_,rfl,⟨y2,rfl,h.2.1,fun i hi=>(h.2.2 i (by rw [← h.2.1]; exact hi)).1⟩,y3,fun i hi=>(h.2.2 i (by rw [← h.2.1]; exact hi)).2⟩
theorem cache191 (c:Ca) (h2:c.2.1.len≤1048576 ∧ ∀ i,i < c.2.1.len→(c.2.1.get i).len≤1048576) (n2:∀ i,i < c.2.1.len→WL (c.2.1.get i)):∃ r:Ca,g160r c = some ((r,()),()) ∧ SmC r c ∧ ∀ i,i < r.2.1.len→WL (r.2.1.get i):=by
 have key:∀ {vw vx v5 wG wH v6 wJ:_},∃ r:L (L Wy),fixO s160r_L0 (((),((),(c.2.1,((c.2.1.len:Int),((0:Int),()))))),((vw,(vx,(v5,(wG,())))),((wH,(v6,(wJ,((nilL (.sl (.pair (.int .i64) (.pair .bool .unit)))),())))),()))) = some (.inl (((),((),())),((vw,(vx,(v5,((),())))),((wH,(v6,(wJ,((),())))),(wG,(r,())))))) ∧ r.len = c.2.1.len ∧ ∀ i,i < c.2.1.len→SmL (r.get i) (c.2.1.get i) ∧ WL (r.get i):=by
  intro vw vx v5 wG wH v6 wJ
  exact snoc_n (step:=s160r_L0) c.2.1.len h2.1 (fun i r=>(((),((),(c.2.1,((c.2.1.len:Int),((i:Int),()))))),((vw,(vx,(v5,(wG,())))),((wH,(v6,(wJ,(r,())))),())))) (fun r=>.inl (((),((),())),((vw,(vx,(v5,((),())))),((wH,(v6,(wJ,((),())))),(wG,(r,())))))) (Ty.zero (.sl (.pair (.int .i64) (.pair .bool .unit)))) (fun i q=>SmL q (c.2.1.get i) ∧ WL q)
   (fun i r hi hr=>by
    have hm:=h2.1
    obtain ⟨q,q1,q2⟩:=cl259 (c.2.1.get i) (h2.2 i hi) (n2 i hi)
    refine ⟨q,?_,q2⟩
    simp only [s160r_L0,q160r_L0]
    rw [bif_t (idx_lt hi),bif_t (idx_in hi),tN,q1]
    simp only [oB]
    rw [bif_t (snoc_fit _ _ _ (by omega)),wI_succ hi (by omega)])
   (fun r hr=>by
    simp only [s160r_L0,q160r_L0]
    rw [bif_f (idx_end _)]) (r0:=nilL (.sl (.pair (.int .i64) (.pair .bool .unit)))) rfl
 unfold g160r
 refine bind_of ?_
 refine key.elim fun r h=>⟨_,h.1,?_⟩
 exact ⟨_,rfl,⟨rfl,h.2.1,fun i hi=>(h.2.2 i (by rw [← h.2.1]; exact hi)).1⟩,fun i hi=>(h.2.2 i (by rw [← h.2.1]; exact hi)).2⟩
theorem out196 (o:Oe) (h:o.2.1.len≤1048576) (hn:WL o.2.1):∃ r:Oe,g166r o = some ((r,()),()) ∧ SmO r o ∧ WL r.2.1:=by
 obtain ⟨y,y1,y2,y3⟩:=cl197 o.2.1 h hn
 unfold g166r
 rw [y1]
 exact ⟨_,rfl,⟨rfl,y2⟩,y3⟩
theorem dev198 (o:De) (h:o.1.len≤1048576 ∧ o.2.1.len≤1048576) (hn:WL o.1 ∧ WL o.2.1):∃ r:De,g168r o = some ((r,()),()) ∧ SmD r o ∧ WL r.1 ∧ WL r.2.1:=by
 obtain ⟨y,y1,y2,y3⟩:=cl197 o.1 h.1 hn.1
 obtain ⟨z,z1,z2,z3⟩:=cl197 o.2.1 h.2 hn.2
 unfold g168r
 rw [y1,z1]
 exact ⟨_,rfl,⟨y2,z2⟩,y3,z3⟩
theorem allOwn_t {m:Nat→Bool} {n:Nat} (h:∀ j,j < n→m j = true):allOwn (some m) n = true:=List.all_eq_true.mpr fun j hj=>h j (List.mem_range.mp hj)
theorem updT (m:Nat→Bool) (i j:Nat):Go.VE.upd m i true j = if j = i then true else m j:=upd_eq m i true j
theorem part110 (s:St) (hb:BndS s 1048576) (hn:NN s) (hio:(sOuts s).len = (sIns s).len):∃ r:St,g62r s = some ((r,()),()) ∧ SmS r s ∧ NN r:=by
 obtain ⟨h1,h2,h3,h4,⟨h5,h5'⟩,⟨h6,h6'⟩,⟨h7,h7'⟩,h8,h8'⟩:=hb
 obtain ⟨n1,n2,n3,n4,n5,⟨n6,n6'⟩,⟨n7,n7'⟩,n8,n8'⟩:=hn
 obtain ⟨g,g1,g2,g3,g4⟩:=guest190 s.1 h1 h2 n1 n2
 obtain ⟨c,c1,c2,c3⟩:=cache191 s.2.2.2.1 h3 n3
 obtain ⟨y,y1,y2,y3⟩:=bytes150n (sBoot s) h5 h5' n5
 obtain ⟨pg,p1,p2,p3⟩:=cl192 s.2.2.2.2.1.2.1 h4 n4
 obtain ⟨o,o1,o2,o3⟩:=cl193 (sOuts s) h6 n6
 obtain ⟨q,q1,q2,q3⟩:=cl194 (sIns s) h7 n7
 obtain ⟨d,d1,d2,d3⟩:=cl195 (sDevs s) h8 n8
 have y1':g161r s.2.2.2.2.2.2.2.1 = some ((y,()),()):=y1
 have o1':g163w s.2.2.2.2.2.2.2.2.1 = some ((o,()),()):=o1
 have q1':g164w s.2.2.2.2.2.2.2.2.2.1 = some ((q,()),()):=q1
 have d1':g165w s.2.2.2.2.2.2.2.2.2.2.1 = some ((d,()),()):=d1
 have ol:=o2.1
 have ql:=q2.1
 have dl:=d2.1
 have keyA:∀ {b1 b2 wr wt vY vZ vv v0 v4:_},∃ (o':L Oe) (q':L Ie),fixO s62r_L0 (((),((),((),((),((),((),((o.len:Int),((0:Int),())))))))),(b1,(b2,((o,(fun _=>false)),((q,(fun _=>false)),((wr,wt),(vY,(vZ,(vv,(v0,(v4,()))))))))))) = some (.inl (((),((),((),((),((),()))))),(b1,(((),(b2.2.1,((),(b2.2.2.2.1,(b2.2.2.2.2.1,(b2.2.2.2.2.2.1,(b2.2.2.2.2.2.2.1,(b2.2.2.2.2.2.2.2.1,(b2.2.2.2.2.2.2.2.2.1,(b2.2.2.2.2.2.2.2.2.2.1,(b2.2.2.2.2.2.2.2.2.2.2.1,(b2.2.2.2.2.2.2.2.2.2.2.2.1,(b2.2.2.2.2.2.2.2.2.2.2.2.2.1,(b2.2.2.2.2.2.2.2.2.2.2.2.2.2.1,(b2.2.2.2.2.2.2.2.2.2.2.2.2.2.2.1,(b2.2.2.2.2.2.2.2.2.2.2.2.2.2.2.2.1,(b2.2.2.2.2.2.2.2.2.2.2.2.2.2.2.2.2.1,(b2.2.2.2.2.2.2.2.2.2.2.2.2.2.2.2.2.2.1,((),(b2.2.2.2.2.2.2.2.2.2.2.2.2.2.2.2.2.2.2.2.1,((),(b2.2.2.2.2.2.2.2.2.2.2.2.2.2.2.2.2.2.2.2.2.2.1,(b2.2.2.2.2.2.2.2.2.2.2.2.2.2.2.2.2.2.2.2.2.2.2.1,((),((),((),((),()))))))))))))))))))))))))))),(o',(q',((wr,wt),(vY,(vZ,(vv,(v0,(v4,(b2.1,(b2.2.2.1,(b2.2.2.2.2.2.2.2.2.2.2.2.2.2.2.2.2.2.2.1,(b2.2.2.2.2.2.2.2.2.2.2.2.2.2.2.2.2.2.2.2.2.1,b2.2.2.2.2.2.2.2.2.2.2.2.2.2.2.2.2.2.2.2.2.2.2.2)))))))))))))))) ∧ (SmR SmO o' o ∧ SmR SmI q' q) ∧ (WL o' ∧ ∀ i,i < o'.len→WL (o'.get i).2.1) ∧ WL q' ∧ ∀ i,i < q'.len→WL (q'.get i).1:=by
  intro b1 b2 wr wt vY vZ vv v0 v4
  obtain ⟨z,z1,o',q',rfl,z2,z3⟩:=loop_n (step:=s62r_L0) o.len
   (fun i z=>∃ (o':L Oe) (q':L Ie) (mo mq:Nat→Bool),z = (((),((),((),((),((),((),((o.len:Int),((i:Int),())))))))),(b1,(b2,((o',mo),((q',mq),((wr,wt),(vY,(vZ,(vv,(v0,(v4,()))))))))))) ∧ (o'.len = o.len ∧ (∀ j,j < i→(SmO (o'.get j) (o.get j) ∧ WL (o'.get j).2.1) ∧ mo j = true) ∧ ∀ j,i≤j→o'.get j = o.get j) ∧ q'.len = q.len ∧ (∀ j,j < i→(SmI (q'.get j) (q.get j) ∧ WL (q'.get j).1) ∧ mq j = true) ∧ (∀ j,i≤j→q'.get j = q.get j) ∧ WL o' ∧ WL q')
   (fun z=>∃ (o':L Oe) (q':L Ie),z = .inl (((),((),((),((),((),()))))),(b1,(((),(b2.2.1,((),(b2.2.2.2.1,(b2.2.2.2.2.1,(b2.2.2.2.2.2.1,(b2.2.2.2.2.2.2.1,(b2.2.2.2.2.2.2.2.1,(b2.2.2.2.2.2.2.2.2.1,(b2.2.2.2.2.2.2.2.2.2.1,(b2.2.2.2.2.2.2.2.2.2.2.1,(b2.2.2.2.2.2.2.2.2.2.2.2.1,(b2.2.2.2.2.2.2.2.2.2.2.2.2.1,(b2.2.2.2.2.2.2.2.2.2.2.2.2.2.1,(b2.2.2.2.2.2.2.2.2.2.2.2.2.2.2.1,(b2.2.2.2.2.2.2.2.2.2.2.2.2.2.2.2.1,(b2.2.2.2.2.2.2.2.2.2.2.2.2.2.2.2.2.1,(b2.2.2.2.2.2.2.2.2.2.2.2.2.2.2.2.2.2.1,((),(b2.2.2.2.2.2.2.2.2.2.2.2.2.2.2.2.2.2.2.2.1,((),(b2.2.2.2.2.2.2.2.2.2.2.2.2.2.2.2.2.2.2.2.2.2.1,(b2.2.2.2.2.2.2.2.2.2.2.2.2.2.2.2.2.2.2.2.2.2.2.1,((),((),((),((),()))))))))))))))))))))))))))),(o',(q',((wr,wt),(vY,(vZ,(vv,(v0,(v4,(b2.1,(b2.2.2.1,(b2.2.2.2.2.2.2.2.2.2.2.2.2.2.2.2.2.2.2.1,(b2.2.2.2.2.2.2.2.2.2.2.2.2.2.2.2.2.2.2.2.2.1,b2.2.2.2.2.2.2.2.2.2.2.2.2.2.2.2.2.2.2.2.2.2.2.2))))))))))))))) ∧ (SmR SmO o' o ∧ SmR SmI q' q) ∧ (WL o' ∧ ∀ i,i < o'.len→WL (o'.get i).2.1) ∧ WL q' ∧ ∀ i,i < q'.len→WL (q'.get i).1)
   (by
    rintro i _ hi ⟨o',q',mo,mq,rfl,⟨a1,a2,a3⟩,b1,b2,b3,b4⟩
    have hio':i < o'.len:=by omega
    have hiq:i < q.len:=by omega
    have hiq':i < q'.len:=by omega
    have eo:=a3 i (Nat.le_refl _)
    have eq:=b3 i (Nat.le_refl _)
    have so:i < (sOuts s).len:=by omega
    have sq:i < (sIns s).len:=by omega
    have co:=o2.2 i hi
    have cq:=q2.2 i hiq
    obtain ⟨u,u1,u2⟩:=out196 (o.get i) (by rw [co]; exact h6' i so) (by rw [co]; exact n6' i so)
    obtain ⟨v,v1,v2⟩:=cl197 (q.get i).1 (by rw [cq]; exact h7' i sq) (by rw [cq]; exact n7' i sq)
    refine .inl ⟨_,?_,L.set o' i u,L.set q' i (v,()),Go.VE.upd mo i true,Go.VE.upd mq i true,rfl,⟨a1,fun j hj=>?_,fun j hj=>by rw [set_ne_get _ _ (by omega)]; exact a3 j (by omega)⟩,b1,fun j hj=>?_,fun j hj=>by rw [set_ne_get _ _ (by omega)]; exact b3 j (by omega),b4⟩
    · simp only [s62r_L0,q62r_L0]
      rw [bif_t (idx_lt hi),bif_t (idx_in hio'),tN,eo]
      refine bind_eq u1 ?_
      refine (bif_t (idx_in hio')).trans ((bif_t (idx_in hiq')).trans ?_)
      rw [eq]
      refine bind_eq v1 ?_
      refine (bif_t (idx_in hiq')).trans ?_
      rw [wI_succ hi (by omega)]
    · rw [updT]
      rcases Nat.lt_or_eq_of_le (Nat.le_of_lt_succ hj) with e | rfl
      · rw [set_ne_get _ _ (by omega),if_neg (by omega)]; exact a2 j e
      · rw [set_eq_get,if_pos rfl]; exact ⟨u2,rfl⟩
    · rw [updT]
      rcases Nat.lt_or_eq_of_le (Nat.le_of_lt_succ hj) with e | rfl
      · rw [set_ne_get _ _ (by omega),if_neg (by omega)]; exact b2 j e
      · rw [set_eq_get,if_pos rfl]; exact ⟨v2,rfl⟩)
   (by
    rintro _ ⟨o',q',mo,mq,rfl,⟨a1,a2,a3⟩,b1,b2,b3,b4⟩
    refine ⟨_,?_,o',q',rfl,⟨⟨a1,fun j hj=>(a2 j (by omega)).1.1⟩,b1,fun j hj=>(b2 j (by omega)).1.1⟩,⟨b4.1,fun j hj=>(a2 j (by omega)).1.2⟩,b4.2,fun j hj=>(b2 j (by omega)).1.2⟩
    simp only [s62r_L0,q62r_L0]
    rw [bif_f (idx_end _),bif_t (allOwn_t (fun j hj=>(a2 j (by omega)).2)),bif_t (allOwn_t (fun j hj=>(b2 j (by omega)).2))]
    rfl) (((),((),((),((),((),((),((o.len:Int),((0:Int),())))))))),(b1,(b2,((o,(fun _=>false)),((q,(fun _=>false)),((wr,wt),(vY,(vZ,(vv,(v0,(v4,()))))))))))) ⟨o,q,_,_,rfl,⟨rfl,fun j hj=>absurd hj (Nat.not_lt_zero j),fun _ _=>rfl⟩,rfl,fun j hj=>absurd hj (Nat.not_lt_zero j),fun _ _=>rfl,o3,q3⟩
  exact ⟨o',q',z1,z2,z3⟩
 have keyB:∀ {b1 b2 wu wv vY vZ vv v0 v4 ww wx wz wA wB wC wD wE:_},∃ (d':L De),fixO s62r_L2 (((),((),((),((),((),((),((d.len:Int),((0:Int),())))))))),(b1,(b2,(wu,(wv,((d,(fun _=>false)),(vY,(vZ,(vv,(v0,(v4,(ww,(wx,(wz,(wA,(wB,(wC,(wD,(wE,()))))))))))))))))))) = some (.inl (((),((),((),((),((),()))))),(b1,(b2,(wu,(wv,(d',(vY,(vZ,(vv,(v0,(v4,(ww,(wx,(wz,(wA,(wB,(wC,(wD,(wE,())))))))))))))))))))) ∧ SmR SmD d' d ∧ WL d' ∧ ∀ i,i < d'.len→WL (d'.get i).1 ∧ WL (d'.get i).2.1:=by
  intro b1 b2 wu wv vY vZ vv v0 v4 ww wx wz wA wB wC wD wE
  obtain ⟨z,z1,d',rfl,z2⟩:=loop_n (step:=s62r_L2) d.len
   (fun i z=>∃ (o':L De) (mo:Nat→Bool),z = (((),((),((),((),((),((),((d.len:Int),((i:Int),())))))))),(b1,(b2,(wu,(wv,((o',mo),(vY,(vZ,(vv,(v0,(v4,(ww,(wx,(wz,(wA,(wB,(wC,(wD,(wE,()))))))))))))))))))) ∧ o'.len = d.len ∧ (∀ j,j < i→(SmD (o'.get j) (d.get j) ∧ WL (o'.get j).1 ∧ WL (o'.get j).2.1) ∧ mo j = true) ∧ (∀ j,i≤j→o'.get j = d.get j) ∧ WL o')
   (fun z=>∃ (o':L De),z = .inl (((),((),((),((),((),()))))),(b1,(b2,(wu,(wv,(o',(vY,(vZ,(vv,(v0,(v4,(ww,(wx,(wz,(wA,(wB,(wC,(wD,(wE,()))))))))))))))))))) ∧ SmR SmD o' d ∧ WL o' ∧ ∀ i,i < o'.len→WL (o'.get i).1 ∧ WL (o'.get i).2.1)
   (by
    rintro i _ hi ⟨o',mo,rfl,a1,a2,a3,a4⟩
    have hio':i < o'.len:=by omega
    have eo:=a3 i (Nat.le_refl _)
    have so:i < (sDevs s).len:=by omega
    have co:=d2.2 i hi
    obtain ⟨u,u1,u2⟩:=dev198 (d.get i) (by rw [co]; exact h8' i so) (by rw [co]; exact n8' i so)
    refine .inl ⟨_,?_,L.set o' i u,Go.VE.upd mo i true,rfl,a1,fun j hj=>?_,fun j hj=>by rw [set_ne_get _ _ (by omega)]; exact a3 j (by omega),a4⟩
    · simp only [s62r_L2,q62r_L2]
      rw [bif_t (idx_lt hi),bif_t (idx_in hio'),tN,eo]
      refine bind_eq u1 ?_
      refine (bif_t (idx_in hio')).trans ?_
      rw [wI_succ hi (by omega)]
    · rw [updT]
      rcases Nat.lt_or_eq_of_le (Nat.le_of_lt_succ hj) with e | rfl
      · rw [set_ne_get _ _ (by omega),if_neg (by omega)]; exact a2 j e
      · rw [set_eq_get,if_pos rfl]; exact ⟨u2,rfl⟩)
   (by
    rintro _ ⟨o',mo,rfl,a1,a2,a3,a4⟩
    refine ⟨_,?_,o',rfl,⟨a1,fun j hj=>(a2 j (by omega)).1.1⟩,a4,fun j hj=>(a2 j (by omega)).1.2⟩
    simp only [s62r_L2,q62r_L2]
    rw [bif_f (idx_end _),bif_t (allOwn_t (fun j hj=>(a2 j (by omega)).2))]
    rfl) (((),((),((),((),((),((),((d.len:Int),((0:Int),())))))))),(b1,(b2,(wu,(wv,((d,(fun _=>false)),(vY,(vZ,(vv,(v0,(v4,(ww,(wx,(wz,(wA,(wB,(wC,(wD,(wE,()))))))))))))))))))) ⟨d,_,rfl,rfl,fun j hj=>absurd hj (Nat.not_lt_zero j),fun _ _=>rfl,d3⟩
  exact ⟨d',z1,z2⟩
 unfold g62r
 refine bind_of ⟨_,g1,bind_of ⟨_,c1,bind_of ⟨_,y1',bind_of ⟨_,p1,bind_of ⟨_,o1',bind_of ⟨_,q1',bind_of ⟨_,d1',?_⟩⟩⟩⟩⟩⟩⟩
 refine bind_of (keyA.elim fun o' h=>h.elim fun q' h=>⟨_,h.1,?_⟩)
 refine bind_of (keyB.elim fun d' k=>⟨_,k.1,?_⟩)
 obtain ⟨_,⟨hA,hB⟩,hO,hI⟩:=h
 obtain ⟨_,kA,kD⟩:=k
 refine ⟨_,rfl,⟨g2,rfl,rfl,c2,⟨rfl,p2⟩,rfl,rfl,y2,?_,?_,?_⟩,g3,g4,c3,p3,y3,hO,hI,kD⟩
 · exact ⟨hA.1.trans ol,fun j hj=>by have:=hA.2 j hj; rw [o2.2 j (by rw [← hA.1]; exact hj)] at this; exact this⟩
 · exact ⟨hB.1.trans ql,fun j hj=>by have:=hB.2 j hj; rw [q2.2 j (by rw [← hB.1]; exact hj)] at this; exact this⟩
 · exact ⟨kA.1.trans dl,fun j hj=>by have:=kA.2 j hj; rw [d2.2 j (by rw [← kA.1]; exact hj)] at this; exact this⟩
theorem Ok.no {α:Type} {c:Bool} {a b:Option α} {R:α→Prop} (hc:c = false) (h:Ok b R):Ok (bif c then a else b) R:=by
 subst hc; exact h
theorem OutP.len {r:Ch} {o:Oe} (h:OutP r o):o.2.1.len≤8:=by
 obtain ⟨h1,h2,h3,_⟩:=h
 have hc:=chan_of h1
 by_cases q:r.1 = 0
 · have:=h2 q; omega
 · have:=h3 q; omega
theorem InP.len {r:Ch} {o:Ie} (h:InP r o):o.1.len≤8:=by
 obtain ⟨h1,h2,h3,_⟩:=h
 have hc:=chan_of h1
 by_cases q:r.1 = 0
 · have:=h2 q; omega
 · have:=h3 q; omega
theorem EndsO.each {t:Tb} {p:Nat} {x:L Oe} (h:EndsO t p x) {i:Nat} (hi:i < x.len):(x.get i).2.1.len≤8 ∧ WL (x.get i).2.1:=by
 have k:=h.2.1 i (by rw [← h.1]; exact hi)
 by_cases q:((tChans t).get i).2.1 = p
 · exact ⟨(k.1 q).len,(k.1 q).2.2.2.1⟩
 · have e:=(k.2 q).2
   exact ⟨by omega,fun _=>e⟩
theorem EndsI.each {t:Tb} {p:Nat} {x:L Ie} (h:EndsI t p x) {i:Nat} (hi:i < x.len):(x.get i).1.len≤8 ∧ WL (x.get i).1:=by
 have k:=h.2.1 i (by rw [← h.1]; exact hi)
 by_cases q:((tChans t).get i).2.2.1 = p
 · exact ⟨(k.1 q).len,(k.1 q).2.2.2.1⟩
 · have e:=k.2 q
   exact ⟨by omega,fun _=>e⟩
theorem EndsD.each {t:Tb} {p:Nat} {x:L De} (h:EndsD t p x) {i:Nat} (hi:i < x.len):((x.get i).1.len≤8 ∧ (x.get i).2.1.len≤8) ∧ WL (x.get i).1 ∧ WL (x.get i).2.1:=by
 have k:=h.2.1 i (by rw [← h.1]; exact hi)
 by_cases q:(tDevs t).get i = p
 · have e:=k.1 q
   exact ⟨⟨e.1,e.2.1⟩,e.2.2.1.1,e.2.2.2.1⟩
 · have e:=k.2 q
   exact ⟨by omega,fun _=>e.1,fun _=>e.2⟩
theorem PG.nn {t:Tb} {p:Nat} {s:St} (h:PG t p s):NN s :=
 ⟨wl h.gu.2.2.2.1,fun i hi=>wl (h.gu.2.2.1.2 i (by rw [← h.gu.2.2.1.1]; exact hi)).2,h.ca.2.2,h.tl.2.2.2.2,fun i hi=>wl (h.bo.2 i (by rw [← h.bo.1]; exact hi)).2,
  ⟨h.ou.2.2,fun i hi=>(h.ou.each hi).2⟩,⟨h.is.2.2,fun i hi=>(h.is.each hi).2⟩,h.de.2.2,fun i hi=>(h.de.each hi).2⟩
theorem FitG.bnd {ws:L Wi} {x:Im} (hw:WG ws) (h:FitG ws x):BndI x 1048576:=by
 refine ⟨by have:=h.1; have:=hw.1; omega,fun i hi=>?_⟩
 have hi':i < ws.len:=by rw [← h.1]; exact hi
 have a:=(h.2 i hi').1
 have b:=(f326_iff _).mp (hw.2 i hi')
 omega
theorem CaG.le {k:Ca} (h:CaG k):k.2.1.len≤1048576 ∧ ∀ i,i < k.2.1.len→(k.2.1.get i).len≤1048576:=by
 obtain ⟨h1,h2,h3⟩:=h
 obtain ⟨s1,s2,_⟩:=shapeG h1
 exact ⟨by omega,fun i hi=>by have:=(h3 i hi).1; omega⟩
theorem PG.bnd {t:Tb} {p:Nat} {s:St} (g:TG t p) (h:PG t p s):BndS s 1048576:=by
 have c:=h.ca.2.1.le
 have h1:=h.gu.1
 have h2:=h.tl.2.1
 have h3:=g.tl
 have h4:=h.ou.1
 have h5:=h.is.1
 have h6:=h.de.1
 have h7:=g.ch.1
 have h8:=g.dv
 exact ⟨by omega,h.gu.2.2.1.bnd g.w,c,by omega,h.bo.bnd g.w,⟨by omega,fun i hi=>by have:=(h.ou.each hi).1; omega⟩,⟨by omega,fun i hi=>by have:=(h.is.each hi).1; omega⟩,by omega,fun i hi=>by have:=(h.de.each hi).1; omega⟩
theorem WL.no {α:Type} {x:L α} (h:WL x) (k:x.len ≠ 0):x.nil = false:=by
 cases e:x.nil with
 | false=>rfl
 | true=>exact absurd (h e) k
theorem FitG.same {ws:L Wi} {x y:Im} (hw:WG ws) (h:SmR SmL x y) (n:∀ i,i < x.len→WL (x.get i)) (k:FitG ws y):FitG ws x:=by
 refine ⟨h.1.trans k.1,fun i hi=>?_⟩
 have hx:i < x.len:=by rw [h.1,k.1]; exact hi
 have e:=(h.2 i hx).1
 have f:=(k.2 i hi).1
 have b:=(f326_iff _).mp (hw.2 i hi)
 exact ⟨by rw [e]; exact f,(n i hx).no (by omega)⟩
theorem WN.same {x y:L Int} (h:SmL x y) (k:WN y):WN x:=fun i hi=>by rw [h.2 i hi]; exact k i (by rw [← h.1]; exact hi)
theorem PG.same {t:Tb} {p:Nat} {a b:St} (g:TG t p) (h:SmS a b) (n:NN a) (k:PG t p b):PG t p a:=by
 obtain ⟨n1,n2,n3,n4,n5,⟨n6,n6'⟩,⟨n7,n7'⟩,n8,n8'⟩:=n
 have l16:a.1.1.len = 16:=h.gu.1.1.trans k.gu.1
 refine ⟨⟨l16,(h.gu.1.2 0 (by omega)).trans k.gu.2.1,k.gu.2.2.1.same g.w h.gu.2.2 n2,n1.no (by omega),WN.same h.gu.1 k.gu.2.2.2.2⟩,by rw [h.he]; exact k.he,⟨h.ca.1.trans k.ca.1,⟨by rw [h.ca.1]; exact k.ca.2.1.1,by rw [h.ca.1,h.ca.2.1]; exact k.ca.2.1.2.1,fun i hi=>?_⟩,n3⟩,
  ⟨h.tl.1.trans k.tl.1,by rw [h.tl.2.1]; exact k.tl.2.1,fun i hi=>by rw [h.tl.2.2 i hi]; exact k.tl.2.2.1 i (by rw [← h.tl.2.1]; exact hi),fun i j hij hj=>by
   rw [h.tl.2.2 i (by omega),h.tl.2.2 j hj]; exact k.tl.2.2.2.1 i j hij (by rw [← h.tl.2.1]; exact hj),n4⟩,
  k.bo.same g.w h.bo n5,⟨h.ou.1.trans k.ou.1,fun i hi=>?_,n6⟩,⟨h.is.1.trans k.is.1,fun i hi=>?_,n7⟩,⟨h.de.1.trans k.de.1,fun i hi=>?_,n8⟩,by rw [h.vi]; exact k.vp,by rw [h.gu.2.1]; exact k.pw⟩
 · have e:=h.ca.2.2 i hi
   have r:=k.ca.2.1.2.2 i (by rw [← h.ca.2.1]; exact hi)
   rw [h.ca.1]
   exact ⟨by rw [e.1]; exact r.1,fun j hj=>by rw [e.2 j hj]; exact r.2.1 j (by rw [← e.1]; exact hj),fun j m hjm hm=>by rw [e.2 j (by omega),e.2 m hm]; exact r.2.2 j m hjm (by rw [← e.1]; exact hm)⟩
 · have hx:i < (sOuts a).len:=by rw [h.ou.1,k.ou.1]; exact hi
   have e:=h.ou.2 i hx
   have q:=k.ou.2.1 i hi
   exact ⟨fun w=>⟨(q.1 w).1,fun z=>by rw [e.1,e.2.1]; exact (q.1 w).2.1 z,fun z=>by rw [e.1,e.2.1]; exact (q.1 w).2.2.1 z,n6' i hx,WN.same e.2 (q.1 w).2.2.2.2⟩,fun w=>by rw [e.1,e.2.1]; exact q.2 w⟩
 · have hx:i < (sIns a).len:=by rw [h.is.1,k.is.1]; exact hi
   have e:=h.is.2 i hx
   have q:=k.is.2.1 i hi
   exact ⟨fun w=>⟨(q.1 w).1,fun z=>by rw [e.1]; exact (q.1 w).2.1 z,fun z=>by rw [e.1]; exact (q.1 w).2.2.1 z,n7' i hx,WN.same e (q.1 w).2.2.2.2⟩,fun w=>by rw [e.1]; exact q.2 w⟩
 · have hx:i < (sDevs a).len:=by rw [h.de.1,k.de.1]; exact hi
   have e:=h.de.2 i hx
   have q:=k.de.2.1 i hi
   exact ⟨fun w=>⟨by rw [e.1.1]; exact (q.1 w).1,by rw [e.2.1]; exact (q.1 w).2.1,⟨(n8' i hx).1,WN.same e.1 (q.1 w).2.2.1.2⟩,(n8' i hx).2,WN.same e.2 (q.1 w).2.2.2.2⟩,fun w=>by rw [e.1.1,e.2.1]; exact q.2 w⟩
theorem snocW {X D β:Type} {step:X→Option (X⊕D)} (n:Nat) (st:Nat→L β→X) (fin:L β→D) (d:β) (R:Nat→β→Prop)
 (hs:∀ i r,i < n→r.len = i→∃ q,step (st i r) = some (.inl (st (i + 1) (L.app r (L.of d [q])))) ∧ R i q)
 (he:∀ r,r.len = n→step (st n r) = some (.inr (fin r))) {r0:L β} (h0:r0.len = 0) :
 ∃ r,fixO step (st 0 r0) = some (fin r) ∧ (r.len = n ∧ WL r) ∧ ∀ i,i < n→R i (r.get i):=by
 obtain ⟨d',e,r,rfl,h⟩:=loop_n (step:=step) n (fun i x=>∃ r:L β,x = st i r ∧ (r.len = i ∧ WL r) ∧ ∀ j,j < i→R j (r.get j)) (fun d'=>∃ r:L β,d' = fin r ∧ (r.len = n ∧ WL r) ∧ ∀ i,i < n→R i (r.get i))
  (by
   rintro i _ hi ⟨r,rfl,⟨h1,h2⟩,h3⟩
   obtain ⟨q,q1,q2⟩:=hs i r hi h1
   exact .inl ⟨_,q1,_,rfl,⟨by show r.len + 1 = _; omega,wlApp h2⟩,fun j hj=>by
    rcases Nat.lt_or_eq_of_le (Nat.le_of_lt_succ hj) with e | rfl
    · rw [snoc_lt _ _ _ (by omega)]; exact h3 j e
    · rw [snoc_at _ _ _ h1]; exact q2⟩)
  (by
   rintro _ ⟨r,rfl,⟨h1,h2⟩,h3⟩
   exact ⟨_,he r h1,r,rfl,⟨h1,h2⟩,h3⟩) _ ⟨r0,rfl,⟨h0,fun _=>h0⟩,fun j hj=>absurd hj (Nat.not_lt_zero j)⟩
 exact ⟨r,e,h⟩
theorem ramK {ws:L Wi} {x:Im} (hw:WG ws) (h:FitG ws x):Ok (g130r x) fun a=>FitG ws a.1.1:=by
 have hb:=h.bnd hw
 have h4:=hw.1
 obtain ⟨r,h1,⟨h2,_⟩,h3⟩:=snocW (step:=s130r_L0) x.len (fun i r=>((x,((),((i:Int),()))),(r,()))) (fun r=>.inl (((),()),(r,()))) (Ty.zero (.sl (.int .u8))) (fun i q=>q.len = (x.get i).len ∧ q.nil = false)
  (fun i r hi hr=>⟨L.app (L.of (Ty.zero (.int .u8)) []) (x.get i),by
   simp only [s130r_L0,q130r_L0]
   rw [bif_t (idx_lt hi),bif_t (idx_in hi),tN,bif_t (app0_fit _ _ (hb.2 i hi)),bif_t (snoc_fit _ _ _ (by have:=hb.1; omega)),wI_succ hi (by have:=hb.1; omega)],Nat.zero_add _,rfl⟩)
  (fun r hr=>by
   simp only [s130r_L0,q130r_L0]
   rw [bif_f (idx_end _)]) (r0:=L.of (Ty.zero (.sl (.int .u8))) []) rfl
 refine ⟨((r,()),()),?_,h2.trans h.1,fun i hi=>?_⟩
 · unfold g130r
   have h1':fixO s130r_L0 ((x,((),((0:Int),()))),((L.of (Ty.zero (.sl (.int .u8))) []),())) = _:=h1
   rw [h1']; rfl
 · have e:=h3 i (by rw [h.1]; exact hi)
   exact ⟨by show ((r.get i).len:Int) = _; rw [e.1]; exact (h.2 i hi).1,e.2⟩
theorem guestK {t:Tb} {p:Nat} {x:Im} (g:TG t p) (h:FitG ((tParts t).get p).2.2.2.1 x):Ok (g226r t (p:Int) x) fun a=>GuR ((tParts t).get p).2.2.2.1 a.1.1.1 a.1.1.2.2.1 ∧ W1 a.1.1.2.1:=by
 have hix:(decide (0≤(p:Int))&&decide ((p:Int) < (t.2.2.2.2.2.2.2.1.len:Int))) = true:=idx_in g.pl
 have key:∀ {vz va vA vy wK:_},Ok (fixO s226r_L0 (((),((),((0:Int),()))),((vz,(va,(vA,()))),(((nilL (.int .u32)),(vy,((),()))),(wK,()))))) fun z=>∃ r:L Int,z = .inl (((),((),())),(((),(va,((),()))),(((),(vy,((),()))),(vz,(vA,(r,(wK,()))))))) ∧ (r.len = 16 ∧ WL r) ∧ ∀ i,i < 16→r.get i = (0:Int):=by
  intro vz va vA vy wK
  obtain ⟨r,k1,k2⟩:=snocW (step:=s226r_L0) 16 (fun i r=>(((),((),((i:Int),()))),((vz,(va,(vA,()))),((r,(vy,((),()))),(wK,()))))) (fun r=>.inl (((),((),())),(((),(va,((),()))),(((),(vy,((),()))),(vz,(vA,(r,(wK,())))))))) (Ty.zero (.int .u32)) (fun i q=>q = (0:Int))
   (fun i r hi hr=>⟨(0:Int),by
    simp only [s226r_L0,q226r_L0]
    rw [bif_t (by simp; omega),bif_t (snoc_fit _ _ _ (by omega)),wI_succ hi (by omega)],rfl⟩)
   (fun r hr=>by
    simp only [s226r_L0,q226r_L0]
    rw [bif_f (by simp)]) (r0:=nilL (.int .u32)) rfl
  exact ⟨_,k1,r,rfl,k2⟩
 unfold g226r
 refine Ok.grd hix (Ok.bind (ramK g.w h) fun y hy=>Ok.bind key ?_)
 rintro _ ⟨r,rfl,k2,k3⟩
 exact Ok.ret ⟨⟨k2.1,k3 0 (by omega),hy,k2.2.no (by omega),fun i hi=>by rw [k3 i (by rw [← k2.1]; exact hi)]; exact z0⟩,u32_in _⟩
theorem zb:(0:Int)≤0 ∧ (0:Int)≤1000000000:=by decide
theorem outE {t:Tb} {p:Nat} {x:L Oe} (g:TG t p) (hl:x.len = (tChans t).len) (hw:WL x) (h:∀ i,i < (tChans t).len→(x.get i).1 = 0 ∧ (x.get i).2.1.len = 0):EndsO t p x:=by
 refine ⟨hl,fun i hi=>⟨fun _=>?_,fun _=>h i hi⟩,hw⟩
 have hc:=chan_of (g.ch.2 i hi)
 obtain ⟨h1,h2⟩:=h i hi
 exact ⟨g.ch.2 i hi,fun _=>⟨h1,by omega⟩,fun _=>by omega,wi0 h2⟩
theorem inE {t:Tb} {p:Nat} {x:L Ie} (g:TG t p) (hl:x.len = (tChans t).len) (hw:WL x) (h:∀ i,i < (tChans t).len→(x.get i).1.len = 0):EndsI t p x:=by
 refine ⟨hl,fun i hi=>⟨fun _=>?_,fun _=>h i hi⟩,hw⟩
 have hc:=chan_of (g.ch.2 i hi)
 have h1:=h i hi
 exact ⟨g.ch.2 i hi,fun _=>by omega,fun _=>by omega,wi0 h1⟩
theorem devE {t:Tb} {p:Nat} {x:L De} (hl:x.len = (tDevs t).len) (hw:WL x) (h:∀ i,i < (tDevs t).len→(x.get i).1.len = 0 ∧ (x.get i).2.1.len = 0):EndsD t p x:=by
 refine ⟨hl,fun i hi=>⟨fun _=>?_,fun _=>h i hi⟩,hw⟩
 obtain ⟨h1,h2⟩:=h i hi
 exact ⟨by omega,by omega,wi0 h1,wi0 h2⟩
theorem emptyK {t:Tb} {p:Nat} (g:TG t p):Ok (g227r t.2.1) fun a=>a.1.1.1 = t.2.1 ∧ CaG a.1.1 ∧ ∀ i,i < a.1.1.2.1.len→WL (a.1.1.2.1.get i):=by
 obtain ⟨c,e,h1,h2,h3,_⟩:=emptyD t.2.1 g.sh
 exact ⟨_,e,h1,h2,fun i hi=>wl (h3 i hi)⟩
theorem tlbE {t:Tb} {p:Nat} (g:TG t p):f228r t.2.2.1 = (t.2.2.1,(nilL (.int .i64),())):=by
 have h:=g.tl
 unfold f228r
 rw [(f42_iff _ _ _).mpr (by omega)]; rfl
theorem tlbG {n:Int} (h:1≤n):TlG n (n,(nilL (.int .i64),())):=⟨rfl,by show ((0:Nat):Int)≤n; omega,fun i hi=>absurd hi (Nat.not_lt_zero i),fun i k _ hk=>absurd hk (Nat.not_lt_zero k),fun _=>rfl⟩
theorem bootK {t:Tb} {p:Nat} {x:Im} (g:TG t p) (h:FitG ((tParts t).get p).2.2.2.1 x):Ok (g114r t (p:Int) x) fun a=>PG t p a.1.1 ∧ ∀ i,i < (tChans t).len→((sOuts a.1.1).get i).1 = 0:=by
 have hc8:=g.ch.1
 have hd8:=g.dv
 have keyA:∀ {vz va vA vb vc vd ve vf vg vh vj vk vl vm vn vo vq vr uu vs uv vt vu uw ux uy uz vy v7 v8 v9 ua ub uc ud ue uf ug uh ui uj uk ul um un uo wN up uq ur us ut:_},Ok (fixO s114r_L0 (((),((),((),((0:Int),())))),(t,((vz,(va,(vA,(vb,(vc,(vd,(ve,(vf,(vg,(vh,(vj,(vk,(vl,(vm,(vn,(vo,(vq,(vr,(uu,(vs,(uv,(vt,(vu,(uw,(ux,(uy,(uz,()))))))))))))))))))))))))))),(((),(vy,((),(v7,(v8,(v9,(ua,(ub,(uc,(ud,(ue,(uf,(ug,(uh,(ui,(uj,(uk,(ul,((),(um,((),(un,(uo,((),((nilL (.pair (.int .i64) (.pair (.sl (.int .u32)) .unit))),((nilL (.pair (.sl (.int .u32)) .unit)),(wN,()))))))))))))))))))))))))))),(up,(uq,(ur,(us,(ut,())))))))))) fun z=>∃ (o:L Oe) (q:L Ie),z = .inl (((),((),((),()))),(t,(((),(va,((),(vb,(vc,(vd,(ve,(vf,(vg,(vh,(vj,(vk,(vl,(vm,(vn,(vo,(vq,(vr,((),(vs,((),(vt,(vu,((),((),((),((),()))))))))))))))))))))))))))),(((),(vy,((),(v7,(v8,(v9,(ua,(ub,(uc,(ud,(ue,(uf,(ug,(uh,(ui,(uj,(uk,(ul,((),(um,((),(un,(uo,((),((),((),((),()))))))))))))))))))))))))))),(vz,(vA,(uu,(uv,(uw,(ux,(uy,(uz,(up,(uq,(ur,(us,(ut,(o,(q,(wN,())))))))))))))))))))) ∧ (o.len = (tChans t).len ∧ WL o ∧ ∀ i,i < (tChans t).len→(o.get i).1 = 0 ∧ (o.get i).2.1.len = 0) ∧ (q.len = (tChans t).len ∧ WL q ∧ ∀ i,i < (tChans t).len→(q.get i).1.len = 0):=by
  intro vz va vA vb vc vd ve vf vg vh vj vk vl vm vn vo vq vr uu vs uv vt vu uw ux uy uz vy v7 v8 v9 ua ub uc ud ue uf ug uh ui uj uk ul um un uo wN up uq ur us ut
  refine loopK (tChans t).len (fun i z=>∃ (o:L Oe) (q:L Ie),z = (((),((),((),((i:Int),())))),(t,((vz,(va,(vA,(vb,(vc,(vd,(ve,(vf,(vg,(vh,(vj,(vk,(vl,(vm,(vn,(vo,(vq,(vr,(uu,(vs,(uv,(vt,(vu,(uw,(ux,(uy,(uz,()))))))))))))))))))))))))))),(((),(vy,((),(v7,(v8,(v9,(ua,(ub,(uc,(ud,(ue,(uf,(ug,(uh,(ui,(uj,(uk,(ul,((),(um,((),(un,(uo,((),(o,(q,(wN,()))))))))))))))))))))))))))),(up,(uq,(ur,(us,(ut,()))))))))) ∧ (o.len = i ∧ WL o ∧ ∀ j,j < i→(o.get j).1 = 0 ∧ (o.get j).2.1.len = 0) ∧ (q.len = i ∧ WL q ∧ ∀ j,j < i→(q.get j).1.len = 0)) ?_ ?_ _ ⟨_,_,rfl,⟨rfl,fun _=>rfl,fun j hj=>absurd hj (Nat.not_lt_zero j)⟩,rfl,fun _=>rfl,fun j hj=>absurd hj (Nat.not_lt_zero j)⟩
  · rintro i _ hi ⟨o,q,rfl,⟨o1,o2,o3⟩,q1,q2,q3⟩
    simp only [s114r_L0,q114r_L0]
    rw [wI_succ hi (by omega)]
    refine Ok.grd (idx_lt hi) (Ok.grd (snoc_fit _ _ _ (by omega)) (Ok.grd (snoc_fit _ _ _ (by omega)) (Ok.ret (.inl ⟨_,rfl,_,_,rfl,⟨by show o.len + 1 = _; omega,wlApp o2,fun j hj=>?_⟩,by show q.len + 1 = _; omega,wlApp q2,fun j hj=>?_⟩))))
    · rcases Nat.lt_or_eq_of_le (Nat.le_of_lt_succ hj) with e | rfl
      · rw [snoc_lt _ _ _ (by omega)]; exact o3 j e
      · rw [snoc_at _ _ _ o1]; exact ⟨rfl,rfl⟩
    · rcases Nat.lt_or_eq_of_le (Nat.le_of_lt_succ hj) with e | rfl
      · rw [snoc_lt _ _ _ (by omega)]; exact q3 j e
      · rw [snoc_at _ _ _ q1]; rfl
  · rintro _ ⟨o,q,rfl,h⟩
    simp only [s114r_L0,q114r_L0]
    exact Ok.no (idx_end (tChans t).len) (Ok.ret ⟨_,rfl,o,q,rfl,h⟩)
 have keyB:∀ {va vb vc vd ve vf vg vh vj vk vl vm vn vo vq vr vs vt vu vy v7 v8 v9 ua ub uc ud ue uf ug uh ui uj uk ul um un uo vB vC vD vE vF vG vH vI up uq ur us ut wL wM:_},Ok (fixO s114r_L2 (((),((),((),((0:Int),())))),(t,(((),(va,((),(vb,(vc,(vd,(ve,(vf,(vg,(vh,(vj,(vk,(vl,(vm,(vn,(vo,(vq,(vr,((),(vs,((),(vt,(vu,((),((),((),((),()))))))))))))))))))))))))))),(((),(vy,((),(v7,(v8,(v9,(ua,(ub,(uc,(ud,(ue,(uf,(ug,(uh,(ui,(uj,(uk,(ul,((),(um,((),(un,(uo,((),((),((),((),()))))))))))))))))))))))))))),(vB,(vC,(vD,(vE,(vF,(vG,(vH,(vI,(up,(uq,(ur,(us,(ut,(wL,(wM,((nilL (.pair (.sl (.int .u32)) (.pair (.sl (.int .u32)) .unit))),()))))))))))))))))))))) fun z=>∃ r:L De,z = .inl (((),((),())),(((),(va,((),(vb,(vc,(vd,(ve,(vf,(vg,(vh,(vj,(vk,(vl,(vm,(vn,(vo,(vq,(vr,((),(vs,((),(vt,(vu,((),((),((),((),()))))))))))))))))))))))))))),(((),(vy,((),(v7,(v8,(v9,(ua,(ub,(uc,(ud,(ue,(uf,(ug,(uh,(ui,(uj,(uk,(ul,((),(um,((),(un,(uo,((),((),((),((),()))))))))))))))))))))))))))),(vB,(vC,(vD,(vE,(vF,(vG,(vH,(vI,(up,(uq,(ur,(us,(ut,(wL,(wM,(r,()))))))))))))))))))) ∧ (r.len = (tDevs t).len ∧ WL r) ∧ ∀ i,i < (tDevs t).len→(r.get i).1.len = 0 ∧ (r.get i).2.1.len = 0:=by
  intro va vb vc vd ve vf vg vh vj vk vl vm vn vo vq vr vs vt vu vy v7 v8 v9 ua ub uc ud ue uf ug uh ui uj uk ul um un uo vB vC vD vE vF vG vH vI up uq ur us ut wL wM
  obtain ⟨r,k1,k2⟩:=snocW (step:=s114r_L2) (tDevs t).len (fun i r=>(((),((),((),((i:Int),())))),(t,(((),(va,((),(vb,(vc,(vd,(ve,(vf,(vg,(vh,(vj,(vk,(vl,(vm,(vn,(vo,(vq,(vr,((),(vs,((),(vt,(vu,((),((),((),((),()))))))))))))))))))))))))))),(((),(vy,((),(v7,(v8,(v9,(ua,(ub,(uc,(ud,(ue,(uf,(ug,(uh,(ui,(uj,(uk,(ul,((),(um,((),(un,(uo,((),((),((),((),()))))))))))))))))))))))))))),(vB,(vC,(vD,(vE,(vF,(vG,(vH,(vI,(up,(uq,(ur,(us,(ut,(wL,(wM,(r,()))))))))))))))))))))) (fun r=>.inl (((),((),())),(((),(va,((),(vb,(vc,(vd,(ve,(vf,(vg,(vh,(vj,(vk,(vl,(vm,(vn,(vo,(vq,(vr,((),(vs,((),(vt,(vu,((),((),((),((),()))))))))))))))))))))))))))),(((),(vy,((),(v7,(v8,(v9,(ua,(ub,(uc,(ud,(ue,(uf,(ug,(uh,(ui,(uj,(uk,(ul,((),(um,((),(un,(uo,((),((),((),((),()))))))))))))))))))))))))))),(vB,(vC,(vD,(vE,(vF,(vG,(vH,(vI,(up,(uq,(ur,(us,(ut,(wL,(wM,(r,())))))))))))))))))))) (Ty.zero (.pair (.sl (.int .u32)) (.pair (.sl (.int .u32)) .unit))) (fun i q=>q.1.len = 0 ∧ q.2.1.len = 0)
   (fun i r hi hr=>⟨((nilL (.int .u32)),((nilL (.int .u32)),())),by
    simp only [s114r_L2,q114r_L2]
    refine (bif_t (idx_lt hi)).trans ?_
    rw [bif_t (snoc_fit _ _ _ (by omega)),wI_succ hi (by omega)],rfl,rfl⟩)
   (fun r hr=>by
    simp only [s114r_L2,q114r_L2]
    exact bif_f (idx_end _)) (r0:=nilL (.pair (.sl (.int .u32)) (.pair (.sl (.int .u32)) .unit))) rfl
  exact ⟨_,k1,r,rfl,k2⟩
 unfold g114r
 rw [tlbE g]
 refine Ok.bind (guestK g h) fun a ha=>Ok.bind (emptyK g) fun c hc=>Ok.bind (ramK g.w h) fun y hy=>Ok.bind keyA ?_
 rintro _ ⟨o,q,rfl,ho,hq⟩
 refine Ok.bind keyB ?_
 rintro _ ⟨r,rfl,hr⟩
 exact Ok.ret ⟨⟨ha.1,⟨zb,zb,z9⟩,hc,tlbG g.tl.1,hy,outE g ho.1 ho.2.1 ho.2.2,inE g hq.1 hq.2.1 hq.2.2,devE hr.1.1 hr.1.2 hr.2,⟨z0,z0,z0,z0,z0⟩,ha.2⟩,fun i hi=>(ho.2.2 i hi).1⟩
theorem z7:(0:Int)≤7 ∧ (7:Int)≤9:=by decide
theorem z8:(0:Int)≤8 ∧ (8:Int)≤9:=by decide
theorem z6:(0:Int)≤6 ∧ (6:Int)≤9:=by decide
theorem immK {m:Int} {n:Nat} (hn:n≤8) (h:f42 m 0 (wI ((n:Int) - 1)) = true):∃ k:Nat,m = k ∧ k < n:=by
 have:=(f42_iff _ _ _).mp h
 rw [wI_id (by omega) (by omega)] at this
 exact ⟨m.toNat,by omega,by omega⟩
set_option maxHeartbeats 2000000 in
theorem z33:W1 3:=⟨by decide,by decide⟩
theorem callK' {t:Tb} {p:Nat} {s:St} {i:Int×(Int×(Int×(Int×(Int×Unit))))} {c:Int} (g:TG t p) (h:PG t p s) (hA:0≤i.2.1 ∧ i.2.1≤15) (hB:0≤i.2.2.1 ∧ i.2.2.1≤15):Ok (g140p t p s i c) fun z=>(0≤z.1.1 ∧ z.1.1≤9) ∧ PG t p z.2.1:=by
 have h16:=h.gu.1
 have ra:(decide (0≤i.2.1)&&decide (i.2.1 < (s.1.1.len:Int))) = true:=by rw [h16]; simp; omega
 have rb:(decide (0≤i.2.2.1)&&decide (i.2.2.1 < (s.1.1.len:Int))) = true:=by rw [h16]; simp; omega
 unfold g140p k140p_1
 have one:∀ {v:Int},W1 v→Ok (g246w (s.1.1,(s.1.2.1,s.1.2.2)) i.2.1 v) fun z=>GuR ((tParts t).get p).2.2.2.1 z.2.1.1 z.2.1.2.2.1:=fun {v} hv=>setK (g:=s.1) h.gu hA hv
 refine Ok.bif (fun _=>Ok.bif (fun hf=>?_) fun _=>Ok.bind (one (by first | exact u32_in _ | exact z33 | exact z0 | assumption)) fun z hz=>Ok.ret ⟨z9,hz,h.he,h.ca,h.tl,h.bo,h.ou,h.is,h.de,h.vp,u32_in _⟩) fun _ =>
  Ok.bif (fun _=>Ok.bif (fun hf=>?_) fun _=>Ok.bind (one (by first | exact u32_in _ | exact z33 | exact z0 | assumption)) fun z hz=>Ok.bind (setK (g:=(z.2.1.1,(s.1.2.1,z.2.1.2.2))) hz hB (by first | exact u32_in _ | exact z33 | exact z0 | assumption)) fun y hy=>Ok.ret ⟨z9,hy,h.he,h.ca,h.tl,h.bo,h.ou,h.is,h.de,h.vp,u32_in _⟩) fun _ =>
  Ok.bif (fun _=>Ok.bif (fun hf=>?_) fun _=>Ok.bind (one (by first | exact u32_in _ | exact z33 | exact z0 | assumption)) fun z hz=>Ok.bind (setK (g:=(z.2.1.1,(s.1.2.1,z.2.1.2.2))) hz hB (by first | exact u32_in _ | exact z33 | exact z0 | assumption)) fun y hy=>Ok.ret ⟨z9,hy,h.he,h.ca,h.tl,h.bo,h.ou,h.is,h.de,h.vp,u32_in _⟩) fun _ =>
  Ok.bif (fun _=>Ok.bind (csrRK h.vp _ _) fun _ hw=>Ok.bif (fun _=>Ok.ret ⟨z7,h⟩) fun _=>Ok.bind (one (by first | exact u32_in _ | exact z33 | exact z0 | assumption)) fun z hz=>Ok.ret ⟨z9,hz,h.he,h.ca,h.tl,h.bo,h.ou,h.is,h.de,h.vp,u32_in _⟩) fun _ =>
  Ok.bif (fun _=>Ok.grd ra (Ok.bind (csrWK h.vp _ (h.gu.2.2.2.2 _ (by rw [h16]; omega))) fun _ hv=>Ok.bif (fun _=>Ok.ret ⟨z7,h⟩) fun _=>Ok.ret ⟨z9,h.gu,h.he,h.ca,h.tl,h.bo,h.ou,h.is,h.de,hv,u32_in _⟩)) fun _ =>
  Ok.bif (fun _=>Ok.bind (leaveK h.vp) fun _ hv=>Ok.bif (fun _=>Ok.ret ⟨z8,h⟩) fun _=>Ok.ret ⟨z9,h.gu,h.he,h.ca,h.tl,h.bo,h.ou,h.is,h.de,hv.1,hv.2⟩) fun _ =>
  Ok.bif (fun _=>Ok.ret ⟨z9,h.gu,h.he,h.ca,h.tl,h.bo,h.ou,h.is,h.de,h.vp,u32_in _⟩) fun _=>Ok.ret ⟨z6,h⟩
 · obtain ⟨k,e,hk⟩:=immK g.ch.1 hf
   have ec:(decide (0≤i.2.2.2.2.1)&&decide (i.2.2.2.2.1 < (t.2.2.2.2.2.2.2.2.2.1.len:Int))) = true:=by rw [e]; exact idx_in hk
   have eo:(decide (0≤i.2.2.2.2.1)&&decide (i.2.2.2.2.1 < (s.2.2.2.2.2.2.2.2.1.len:Int))) = true:=by rw [e]; exact idx_in (n:=(sOuts s).len) (by rw [h.ou.1]; exact hk)
   have ek:i.2.2.2.2.1.toNat = k:=by rw [e]; rfl
   rw [ek]
   refine Ok.grd ec (Ok.bif (fun hp=>?_) fun _=>Ok.bind (one (by first | exact u32_in _ | exact z33 | exact z0 | assumption)) fun z hz=>Ok.ret ⟨z9,hz,h.he,h.ca,h.tl,h.bo,h.ou,h.is,h.de,h.vp,u32_in _⟩)
   have hp:((tChans t).get k).2.1 = p:=eq_of_beq hp
   refine Ok.grd ec (Ok.grd eo (Ok.grd rb (Ok.bind (sendK (o:=(sOuts s).get k) (h.gu.2.2.2.2 _ (by rw [h16]; omega)) ((h.ou.2.1 k hk).1 hp)) fun y hy=>Ok.grd eo (Ok.bind (one (by first | exact u32_in _ | exact z33 | exact z0 | assumption)) fun z hz=>Ok.ret ⟨z9,hz,h.he,h.ca,h.tl,h.bo,h.ou.set hk hp hy,h.is,h.de,h.vp,u32_in _⟩))))
 · obtain ⟨k,e,hk⟩:=immK g.ch.1 hf
   have ec:(decide (0≤i.2.2.2.2.1)&&decide (i.2.2.2.2.1 < (t.2.2.2.2.2.2.2.2.2.1.len:Int))) = true:=by rw [e]; exact idx_in hk
   have eo:(decide (0≤i.2.2.2.2.1)&&decide (i.2.2.2.2.1 < (s.2.2.2.2.2.2.2.2.2.1.len:Int))) = true:=by rw [e]; exact idx_in (n:=(sIns s).len) (by rw [h.is.1]; exact hk)
   have ek:i.2.2.2.2.1.toNat = k:=by rw [e]; rfl
   rw [ek]
   refine Ok.grd ec (Ok.bif (fun hp=>?_) fun _=>Ok.bind (one (by first | exact u32_in _ | exact z33 | exact z0 | assumption)) fun z hz=>Ok.bind (setK (g:=(z.2.1.1,(s.1.2.1,z.2.1.2.2))) hz hB (by first | exact u32_in _ | exact z33 | exact z0 | assumption)) fun y hy=>Ok.ret ⟨z9,hy,h.he,h.ca,h.tl,h.bo,h.ou,h.is,h.de,h.vp,u32_in _⟩)
   have hp:((tChans t).get k).2.2.1 = p:=eq_of_beq hp
   refine Ok.grd ec (Ok.grd eo (Ok.bind (recvK (o:=(sIns s).get k) ((h.is.2.1 k hk).1 hp)) fun y hy=>Ok.grd eo (Ok.bind (one (by first | exact u32_in _ | exact z33 | exact z0 | assumption)) fun z hz=>Ok.bind (setK (g:=(z.2.1.1,(s.1.2.1,z.2.1.2.2))) hz hB hy.2) fun y' hy'=>Ok.ret ⟨z9,hy',h.he,h.ca,h.tl,h.bo,h.ou,h.is.set hk hp hy.1,h.de,h.vp,u32_in _⟩)))
 · obtain ⟨k,e,hk⟩:=immK g.dv hf
   have ec:(decide (0≤i.2.2.2.2.1)&&decide (i.2.2.2.2.1 < (t.2.2.2.2.2.2.2.2.1.len:Int))) = true:=by rw [e]; exact idx_in hk
   have eo:(decide (0≤i.2.2.2.2.1)&&decide (i.2.2.2.2.1 < (s.2.2.2.2.2.2.2.2.2.2.1.len:Int))) = true:=by rw [e]; exact idx_in (n:=(sDevs s).len) (by rw [h.de.1]; exact hk)
   have ek:i.2.2.2.2.1.toNat = k:=by rw [e]; rfl
   rw [ek]
   refine Ok.grd ec (Ok.bif (fun hp=>?_) fun _=>Ok.bind (one (by first | exact u32_in _ | exact z33 | exact z0 | assumption)) fun z hz=>Ok.bind (setK (g:=(z.2.1.1,(s.1.2.1,z.2.1.2.2))) hz hB (by first | exact u32_in _ | exact z33 | exact z0 | assumption)) fun y hy=>Ok.ret ⟨z9,hy,h.he,h.ca,h.tl,h.bo,h.ou,h.is,h.de,h.vp,u32_in _⟩)
   have hp:(tDevs t).get k = p:=eq_of_beq hp
   refine Ok.grd eo (Ok.bind (readK (d:=(sDevs s).get k) ((h.de.2.1 k hk).1 hp)) fun y hy=>Ok.grd eo (Ok.bind (one (by first | exact u32_in _ | exact z33 | exact z0 | assumption)) fun z hz=>Ok.bind (setK (g:=(z.2.1.1,(s.1.2.1,z.2.1.2.2))) hz hB hy.2) fun y' hy'=>Ok.ret ⟨z9,hy',h.he,h.ca,h.tl,h.bo,h.ou,h.is,h.de.set hk hp hy.1,h.vp,u32_in _⟩))
theorem EndsO.clear {t:Tb} {p:Nat} {x:L Oe} (g:TG t p) (h:EndsO t p x) {i:Nat} (hi:i < (tChans t).len) (z:Int):EndsO t p (L.upd x i fun e=>(e.1,(L.of z [],e.2.2))):=by
 have eg:∀ j,(L.upd x i fun e=>(e.1,(L.of z [],e.2.2))).get j = if j = i then ((x.get i).1,(L.of z [],(x.get i).2.2)) else x.get j:=fun j=>by
  by_cases q:j = i
  · subst q; rw [upd_eq_get,if_pos rfl]
  · rw [upd_ne_get _ _ q,if_neg q]
 refine ⟨h.1,fun j hj=>?_,h.2.2⟩
 rw [eg]
 have k:=h.2.1 j hj
 have hc:=chan_of (g.ch.2 j hj)
 by_cases q:j = i
 · subst q
   rw [if_pos rfl]
   refine ⟨fun w=>?_,fun w=>⟨(k.2 w).1,rfl⟩⟩
   obtain ⟨a1,a2,a3,_⟩:=k.1 w
   exact ⟨a1,fun z=>⟨(a2 z).1,Nat.zero_le _⟩,fun z=>⟨(a3 z).1,by have:=a3 z; show _ + ((0:Nat):Int)≤_; omega⟩,wi0 rfl⟩
 · rw [if_neg q]; exact k
theorem freshK {t:Tb} {p:Nat} {s:St} (g:TG t p) (h:PG t p s):Ok (g142p t p s) fun z=>PG t p z.2.1:=by
 have h8:=g.ch.1
 have key:∀ {uA wO wP wQ wR wS wT wU wV uB uC uD uE uF uG uH uI uJ uK uL wW wX wY uM uN wZ:_},Ok (fixO s142p_L0 (((),((0:Int),())),(((),(uA,((),(wO,(wP,(wQ,(wR,(wS,(wT,(wU,(wV,(uB,(uC,(uD,(uE,(uF,(uG,(uH,((),(uI,((),(uJ,(uK,((),((),((),((),()))))))))))))))))))))))))))),(uL,(wW,(wX,(wY,(uM,((sOuts s),(uN,(wZ,()))))))))))) fun z=>∃ x:L Oe,z = .inl ((),(((),(uA,((),(wO,(wP,(wQ,(wR,(wS,(wT,(wU,(wV,(uB,(uC,(uD,(uE,(uF,(uG,(uH,((),(uI,((),(uJ,(uK,((),((),((),((),()))))))))))))))))))))))))))),(uL,(wW,(wX,(wY,(uM,(x,(uN,(wZ,())))))))))) ∧ EndsO t p x:=by
  intro uA wO wP wQ wR wS wT wU wV uB uC uD uE uF uG uH uI uJ uK uL wW wX wY uM uN wZ
  refine loopK (tChans t).len (fun i z=>∃ x:L Oe,z = (((),((i:Int),())),(((),(uA,((),(wO,(wP,(wQ,(wR,(wS,(wT,(wU,(wV,(uB,(uC,(uD,(uE,(uF,(uG,(uH,((),(uI,((),(uJ,(uK,((),((),((),((),()))))))))))))))))))))))))))),(uL,(wW,(wX,(wY,(uM,(x,(uN,(wZ,())))))))))) ∧ EndsO t p x) ?_ ?_ _ ⟨_,rfl,h.ou⟩
  · rintro i _ hi ⟨x,rfl,hx⟩
    simp only [s142p_L0,q142p_L0]
    rw [hx.1,wI_succ hi (by omega),tN]
    exact Ok.grd (idx_lt hi) (Ok.grd (idx_in hi) (Ok.ret (.inl ⟨_,rfl,_,rfl,hx.clear g hi _⟩)))
  · rintro _ ⟨x,rfl,hx⟩
    simp only [s142p_L0,q142p_L0]
    rw [hx.1,bif_f (idx_end (tChans t).len)]
    exact Ok.ret ⟨_,rfl,x,rfl,hx⟩
 unfold g142p
 refine Ok.bind (guestK g h.bo) fun a ha=>Ok.bind key ?_
 rintro _ ⟨x,rfl,hx⟩
 exact Ok.ret ⟨ha.1,h.he,h.ca,h.tl,h.bo,hx,h.is,h.de,⟨z0,z0,z0,z0,z0⟩,ha.2⟩
theorem slotK {t:Tb} {p:Nat} {s:St} {c:Int} (g:TG t p) (h:PG t p s):Ok (g193p t p s c) fun z=>PG t p z.2.1 ∧ z.2.1.2.2.2.2.2.1 = wI (c + t.2.2.2.2.1) ∧ sOuts z.2.1 = sOuts s:=by
 have h8:=g.dv
 have key:∀ {uA uB uC uD uE uF uG uH uI uJ uK w0 w5 uL w6 uM w7 uN:_} {v:Vi},VP v→Ok (fixO s193p_L0 (((p:Int),((),((),((0:Int),())))),(((),(uA,((),(v.1,(v.2.1,(v.2.2.1,(v.2.2.2.1,(v.2.2.2.2.1,(v.2.2.2.2.2.1,(v.2.2.2.2.2.2.1,(v.2.2.2.2.2.2.2.1,(uB,(uC,(uD,(uE,(uF,(uG,(uH,((),(uI,((),(uJ,(uK,((),((),((),((),()))))))))))))))))))))))))))),(t,(w0,(w5,(uL,(w6,(uM,(w7,(uN,((sDevs s),())))))))))))) fun z=>∃ (v:Vi) (x:L De),z = .inl ((),(((),(uA,((),(v.1,(v.2.1,(v.2.2.1,(v.2.2.2.1,(v.2.2.2.2.1,(v.2.2.2.2.2.1,(v.2.2.2.2.2.2.1,(v.2.2.2.2.2.2.2.1,(uB,(uC,(uD,(uE,(uF,(uG,(uH,((),(uI,((),(uJ,(uK,((),((),((),((),()))))))))))))))))))))))))))),(w0,(w5,(uL,(w6,(uM,(w7,(uN,(x,())))))))))) ∧ EndsD t p x ∧ VP v:=by
  intro uA uB uC uD uE uF uG uH uI uJ uK w0 w5 uL w6 uM w7 uN v hv
  refine loopK (tDevs t).len (fun i z=>∃ (v:Vi) (x:L De),z = (((p:Int),((),((),((i:Int),())))),(((),(uA,((),(v.1,(v.2.1,(v.2.2.1,(v.2.2.2.1,(v.2.2.2.2.1,(v.2.2.2.2.2.1,(v.2.2.2.2.2.2.1,(v.2.2.2.2.2.2.2.1,(uB,(uC,(uD,(uE,(uF,(uG,(uH,((),(uI,((),(uJ,(uK,((),((),((),((),()))))))))))))))))))))))))))),(t,(w0,(w5,(uL,(w6,(uM,(w7,(uN,(x,()))))))))))) ∧ EndsD t p x ∧ VP v) ?_ ?_ _ ⟨v,_,rfl,h.de,hv⟩
  · rintro i _ hi ⟨v,x,rfl,hx,hv⟩
    simp only [s193p_L0,q193p_L0]
    rw [hx.1,wI_succ hi (by omega),tN]
    refine Ok.grd (idx_lt hi) (Ok.bif (fun _=>Ok.grd (idx_in hi) (Ok.bif (fun hp=>?_) fun _=>Ok.ret (.inl ⟨_,rfl,v,x,rfl,hx,hv⟩))) fun _=>Ok.ret (.inr ⟨_,rfl,v,x,rfl,hx,hv⟩))
    have hp:(tDevs t).get i = p:=eq_of_beq hp
    refine Ok.grd (idx_in hi) (Ok.bind (openK (d:=x.get i) ((hx.2.1 i hi).1 hp)) fun y hy=>Ok.grd (idx_in hi) (Ok.bif (fun _=>Ok.bind (holdK hv _) fun a ha=>Ok.ret (.inl ⟨_,rfl,a.1.1,_,rfl,hx.set hi hp hy,ha⟩)) fun _=>Ok.ret (.inl ⟨_,rfl,v,_,rfl,hx.set hi hp hy,hv⟩)))
  · rintro _ ⟨v,x,rfl,hx,hv⟩
    simp only [s193p_L0,q193p_L0]
    exact Ok.no (idx_end (tDevs t).len) (Ok.ret ⟨_,rfl,v,x,rfl,hx,hv⟩)
 unfold g193p
 rw [tlbE g]
 refine Ok.bind (emptyK g) fun a ha=>Ok.bind (key (v:=s.2.1) h.vp) ?_
 rintro _ ⟨v,x,rfl,hx,hv⟩
 exact Ok.ret ⟨⟨h.gu,h.he,ha,tlbG g.tl.1,h.bo,h.ou,h.is,hx,hv,h.pw⟩,rfl,rfl⟩
theorem PS.he' {t:Tb} {p:Nat} {regs:L Int} {ram:Im} {he:He} {ca:Ca} {tl:Tl} {boot:Im} {outs:L Oe} {ins:L Ie} {devs:L De} {vi:Vi} {pc:Int} (h:PS t p regs ram he ca tl boot outs ins devs vi pc) {k:He} (hk:HeG k):PS t p regs ram k ca tl boot outs ins devs vi pc :=
 ⟨h.gu,hk,h.ca,h.tl,h.bo,h.ou,h.is,h.de,h.vp,h.pw⟩
theorem PS.pc' {t:Tb} {p:Nat} {regs:L Int} {ram:Im} {he:He} {ca:Ca} {tl:Tl} {boot:Im} {outs:L Oe} {ins:L Ie} {devs:L De} {vi:Vi} {pc n:Int} (h:PS t p regs ram he ca tl boot outs ins devs vi pc):PS t p regs ram he ca tl boot outs ins devs vi (IntKind.wrap .u32 n) :=
 ⟨h.gu,h.he,h.ca,h.tl,h.bo,h.ou,h.is,h.de,h.vp,u32_in _⟩
theorem le16 {ws:L Wi} {r:L Int} {m:Im} (h:GuR ws r m):r.len≤1000:=by rw [h.1]; decide
set_option maxHeartbeats 4000000 in
theorem pstepK {t:Tb} {p:Nat} {s:St} {c:Int} (g:TG t p) (h:PG t p s) (hc:0≤c ∧ c≤100000):Ok (g44p t p s c) fun z=>PG t p z.2.1 ∧ c≤z.2.1.2.2.2.2.2.1 ∧ z.2.1.2.2.2.2.2.1≤c + 500:=by
 have hk:=costs_of g.co
 have h16:s.1.1.len≤1000:=by rw [h.gu.1]; decide
 unfold g44p k44p_2 k44p_1 k44p_3
 refine Ok.bind (dueK _ _) fun y _=>Ok.bif (fun _=>Ok.bind (enterK h.vp _ h.pw) fun z hv=>Ok.bind (foldK h16) fun u _=>Ok.ret ⟨⟨h.gu,h.he,h.ca,h.tl,h.bo,h.ou,h.is,h.de,hv.1,hv.2⟩,?_⟩) fun _=>Ok.grd (idx_in g.pl) (Ok.bind (fetchK (g:=(s.1.1,(s.1.2.1,s.1.2.2))) g.w h.gu) fun w hw=>Ok.bind (stepK (g:=(s.1.1,(s.1.2.1,s.1.2.2))) g.w h.gu h.pw c) fun z hz=>?_)
 · dsimp only
   simp (disch:=omega) only [wI_sm]
   omega
 obtain ⟨w1,w2,w3⟩:=hw
 obtain ⟨hz1,hz0,z2,z3,z4⟩:=hz
 have P:PG t p ((z.1.1.1.1,(z.1.1.1.2.1,z.1.1.1.2.2)),(s.2.1,(s.2.2.1,((s.2.2.2.1.1,s.2.2.2.1.2),((s.2.2.2.2.1.1,s.2.2.2.2.1.2),(s.2.2.2.2.2.1,(s.2.2.2.2.2.2.1,s.2.2.2.2.2.2.2))))))):=⟨hz1,h.he,h.ca,h.tl,h.bo,h.ou,h.is,h.de,h.vp,hz0⟩
 clear h hz1
 have w4:(w.1.2.1 == 0) = true→0≤wI s.1.2.1 ∧ wI s.1.2.1≤65535:=fun q=>⟨(w3 q).1,Int.le_trans (w3 q).2 (by decide)⟩
 have ge:∀ {n:Int},decide (n ≥ 0) = true→0≤n:=fun h=>by simpa using h
 repeat' (first
  | (refine Ok.bind (opCostK g.co ⟨ge (by assumption),z3.2⟩) ?_; rintro _ ⟨_,_⟩)
  | (refine Ok.bind (accessK g (by assumption) (w4 (by assumption))) ?_; rintro _ ⟨⟨_,_⟩,_⟩)
  | (refine Ok.bind (accessK g (by assumption) ⟨ge (by assumption),z4.2⟩) ?_; rintro _ ⟨⟨_,_⟩,_⟩)
  | (refine Ok.bind (decodeK _ w1) ?_; rintro _ ⟨_,_,_,_⟩)
  | (refine Ok.bind (callK' g (by assumption) (by assumption) (by assumption)) ?_; rintro _ ⟨_,_⟩)
  | (refine Ok.bind (onFaultK g.po (PS.he (by assumption)) (by assumption)) ?_; intro _ _)
  | (refine Ok.bind (freshK g (PS.he' (by assumption) (by assumption))) ?_; intro _ _)
  | (refine Ok.bind (freshK g (PS.pc' (PS.he' (by assumption) (by assumption)))) ?_; intro _ _)
  | (refine Ok.bind (foldK (le16 (PS.gu (by assumption)))) ?_; intro _ _)
  | refine Ok.grd (idx_in g.pl) ?_
  | refine Ok.bif (fun _=>?_) (fun _=>?_))
 all_goals
  refine Ok.ret ⟨by first | assumption | exact PS.he' (by assumption) (by assumption) | exact PS.pc' (PS.he' (by assumption) (by assumption)),?_,?_⟩ <;> (dsimp only; simp (disch:=omega) only [wI_sm]; omega)
theorem virtK {c:Cur} (h:Cw c):Ok (g197d c) fun a=>VP a.1.1 ∧ Cw a.2.1:=by
 unfold g197d k197d_1
 repeat' (first
  | (refine Ok.bind (belowK (by assumption) (by decide) (by decide)) ?_; rintro _ ⟨_,_,_⟩)
  | (refine Ok.bind (onceK (by assumption) (by decide) (by decide)) ?_; intro _ _)
  | (refine Ok.bind (wordR (by assumption)) ?_; rintro _ ⟨_,_⟩)
  | refine Ok.grd (decide_eq_true (u64_in _)) ?_
  | refine Ok.bif (fun _=>?_) (fun _=>?_))
 all_goals exact Ok.ret ⟨⟨by assumption,by assumption,u32_in _,u32_in _,by first | assumption | exact z0 | exact shl_in _ _⟩,by assumption⟩
theorem tl_of {t:Tb} (h:g104 t = some ((true,()),())):1≤t.2.2.1 ∧ t.2.2.1≤8:=by
 have e:f157 t.2.2.1 1 8 = true:=by
  unfold g104 at h
  cases hq:f157 t.2.2.1 1 8 with
  | true=>rfl
  | false =>
    rw [hq] at h
    simp only [Bool.not_false,cond_true] at h
    cases f200 t.1 <;> cases f201 t.2.1 <;> simp at h
 exact (f42_iff _ _ _).mp e
theorem TG.of {t:Tb} {p:Nat} (hs:g104 t = some ((true,()),())) (hF:Facts t) (hp:p < (tParts t).len):TG t p:=by
 have ht:=tl_of hs
 obtain ⟨h1,_,_,_,h5,_,_,⟨h8,_⟩,d1,d2,_,d4,_⟩:=hF
 obtain ⟨⟨_,p2,p3,p4,_⟩,_⟩:=h8 p hp
 exact ⟨hp,⟨p3.2,fun i hi=>(p4 i hi).1⟩,h1,p2,h5,ht,⟨d2,fun i hi=>(d4 i hi).1⟩,d1⟩
theorem EndsO.fill {t:Tb} {p:Nat} {x:L Oe} (h:EndsO t p x) {i:Nat} (hi:i < (tChans t).len) (hz:(x.get i).1 = 0) (hp:((tChans t).get i).2.1 = p) {w:L Int} (hw:w.len = 1 ∧ WI w):EndsO t p (L.upd x i fun e=>(e.1,(w,e.2.2))):=by
 refine h.set hi hp (o:=((x.get i).1,(w,(x.get i).2.2))) ?_
 obtain ⟨a1,a2,a3,_⟩:=(h.2.1 i hi).1 hp
 have hc:=chan_of a1
 exact ⟨a1,fun z=>⟨hz,by show w.len≤1; omega⟩,fun z=>⟨by show 0≤(x.get i).1; omega,by show (x.get i).1 + (w.len:Int)≤_; omega⟩,hw.2⟩
theorem EndsI.fill {t:Tb} {p:Nat} {x:L Ie} (g:TG t p) (h:EndsI t p x) {i:Nat} (hi:i < (tChans t).len) (hp:((tChans t).get i).2.2.1 = p) {w:Ie} (hw:w.1.len = 1 ∧ WI w.1):EndsI t p (L.set x i w):=by
 refine h.set hi hp ?_
 have a1:=g.ch.2 i hi
 have hc:=chan_of a1
 exact ⟨a1,fun z=>by omega,fun z=>by omega,hw.2⟩
theorem wordsI {c:Cur} (h:Cw c) {n:Int} (h0:0≤n) (hn:n≤1000):Ok (g195rd c n) fun a=>(a.1.1.len = n.toNat ∧ Cw a.2.1) ∧ WI a.1.1:=by
 obtain ⟨m,rfl⟩:∃ m:Nat,n = m:=⟨n.toNat,by omega⟩
 exact (wordsN h m (by omega)).mono fun a h=>⟨⟨by rw [h.1.1]; rfl,h.1.2⟩,wl h.2.1,h.2.2⟩
theorem zh3:(0:Int)≤3 ∧ (3:Int)≤1000000000:=by decide
theorem zh1:(0:Int)≤1 ∧ (1:Int)≤1000000000:=by decide
theorem zh2:(0:Int)≤2 ∧ (2:Int)≤9:=by decide
structure Drawn (t:Tb) (p:Nat) (s:St) (c:Int):Prop where
 tg:TG t p
 so:g104 t = some ((true,()),())
 fa:Facts t
 pg:PG t p s
 nx:0≤s.2.2.2.2.2.1 ∧ s.2.2.2.2.2.1≤100000
 cy:0≤c
set_option maxHeartbeats 8000000 in
theorem stateK {c:Cur} (h:Cw c) {code:L Int} (hl:code.len≤2 ^ 46):Ok (g97d c code) fun a=>∃ p:Nat,a.1.2.1 = p ∧ Drawn a.1.1 p a.1.2.2.1 a.1.2.2.2.1:=by
 unfold g97d k97d_1
 refine Ok.bind (belowK h (by decide) (by decide)) ?_
 rintro ⟨⟨x1,⟨⟩⟩,c1,⟨⟩⟩ ⟨a1,b1,k1⟩
 dsimp only at a1 b1 k1 ⊢
 have e2:wI (2 + x1) = ((2 + x1.toNat:Nat):Int):=by rw [wI_id (by omega) (by omega)]; omega
 rw [e2]
 obtain ⟨t,c2,q2,k2,hs,hF,_,at_,hP⟩:=tablesD c1 k1 (2 + x1.toNat) (by omega) (by omega)
 rw [q2,oB]
 have hpl:=hP.len
 refine Ok.bind (belowK (n:=((tParts t).len:Int)) k2 (by omega) (by omega)) ?_
 rintro ⟨⟨x3,⟨⟩⟩,c3,⟨⟩⟩ ⟨a3,b3,k3⟩
 dsimp only at a3 b3 k3 ⊢
 obtain ⟨p,rfl⟩:∃ p:Nat,x3 = p:=⟨x3.toNat,by omega⟩
 have g:=TG.of (p:=p) hs hF (by omega)
 have hw2:=(hP.part p (by omega)).1.len
 have hc8:=g.ch.1
 have hd8:=g.dv
 refine Ok.bind (imageK k3 t p (by omega) (by omega) (by omega) g.w.2 hc8 hd8) ?_
 rintro y4 ⟨f4,k4⟩
 refine Ok.bind (bootK g f4) ?_
 rintro y5 ⟨p5,z5⟩
 refine Ok.bind (belowK k4 (by decide) (by decide)) ?_
 rintro ⟨⟨cy,⟨⟩⟩,c6,⟨⟩⟩ ⟨a6,b6,k6⟩
 dsimp only at a6 b6 k6
 refine Ok.bind (slotK (s:=y5.1.1) (c:=cy) g p5) ?_
 rintro y7 ⟨p7,n7,o7⟩
 have key0:∀ {t1 t11 vJ vK vL vM vN vO vP vQ vR vS vT vU vV vW vX w8 w9 ka kc vz va vA vb vc vd ve vf vg vh vj vk vl vm vn vo vq vr uu vs uv vt vu uw ux uy uz uO uP uQ uR uS uT uU uV uW uX uY uZ u0 u7 u9 wd we wf wg wh wi wj wk wm kd:_} {c:Cur} {o:L Oe} {q:L Ie},Cw c→EndsO t p o→(∀ i,i < (tChans t).len→(o.get i).1 = 0)→EndsI t p q→Ok (fixO s97d_L0 (((),(t1,((),((),((),((p:Int),((),(t11,((0:Int),()))))))))),(c,((vJ,(vK,(vL,(vM,(vN,(vO,(vP,(vQ,(vR,(vS,(vT,(vU,(vV,(vW,(vX,(w8,(w9,(ka,(kc,()))))))))))))))))))),((vz,(va,(vA,(vb,(vc,(vd,(ve,(vf,(vg,(vh,(vj,(vk,(vl,(vm,(vn,(vo,(vq,(vr,(uu,(vs,(uv,(vt,(vu,(uw,(ux,(uy,(uz,()))))))))))))))))))))))))))),(t,(((),(uO,((),(uP,(uQ,(uR,(uS,(uT,(uU,(uV,(uW,(uX,(uY,(uZ,(u0,(u7,(u9,(wd,((),(we,((),(wf,(wg,((),((),((),((),()))))))))))))))))))))))))))),(wh,(wi,(wj,(wk,(wm,(o,(q,(kd,()))))))))))))))) fun z=>∃ (c:Cur) (o:L Oe) (q:L Ie),z = .inl (((),(t1,((),((),((),((p:Int),((),(t11,())))))))),(c,((vJ,(vK,(vL,(vM,(vN,(vO,(vP,(vQ,(vR,(vS,(vT,(vU,(vV,(vW,(vX,((),((),((),((),()))))))))))))))))))),(((),(va,((),(vb,(vc,(vd,(ve,(vf,(vg,(vh,(vj,(vk,(vl,(vm,(vn,(vo,(vq,(vr,((),(vs,((),(vt,(vu,((),((),((),((),()))))))))))))))))))))))))))),(t,(((),(uO,((),(uP,(uQ,(uR,(uS,(uT,(uU,(uV,(uW,(uX,(uY,(uZ,(u0,(u7,(u9,(wd,((),(we,((),(wf,(wg,((),((),((),((),()))))))))))))))))))))))))))),(w8,(w9,(ka,(kc,(vz,(vA,(uu,(uv,(uw,(ux,(uy,(uz,(wh,(wi,(wj,(wk,(wm,(o,(q,(kd,())))))))))))))))))))))))))) ∧ Cw c ∧ EndsO t p o ∧ EndsI t p q:=by
  intro t1 t11 vJ vK vL vM vN vO vP vQ vR vS vT vU vV vW vX w8 w9 ka kc vz va vA vb vc vd ve vf vg vh vj vk vl vm vn vo vq vr uu vs uv vt vu uw ux uy uz uO uP uQ uR uS uT uU uV uW uX uY uZ u0 u7 u9 wd we wf wg wh wi wj wk wm kd c o q hc ho hz hq
  refine loopK (tChans t).len (fun i z=>∃ (c:Cur) (o:L Oe) (q:L Ie),z = (((),(t1,((),((),((),((p:Int),((),(t11,((i:Int),()))))))))),(c,((vJ,(vK,(vL,(vM,(vN,(vO,(vP,(vQ,(vR,(vS,(vT,(vU,(vV,(vW,(vX,(w8,(w9,(ka,(kc,()))))))))))))))))))),((vz,(va,(vA,(vb,(vc,(vd,(ve,(vf,(vg,(vh,(vj,(vk,(vl,(vm,(vn,(vo,(vq,(vr,(uu,(vs,(uv,(vt,(vu,(uw,(ux,(uy,(uz,()))))))))))))))))))))))))))),(t,(((),(uO,((),(uP,(uQ,(uR,(uS,(uT,(uU,(uV,(uW,(uX,(uY,(uZ,(u0,(u7,(u9,(wd,((),(we,((),(wf,(wg,((),((),((),((),()))))))))))))))))))))))))))),(wh,(wi,(wj,(wk,(wm,(o,(q,(kd,())))))))))))))) ∧ Cw c ∧ EndsO t p o ∧ (∀ i,i < (tChans t).len→(o.get i).1 = 0) ∧ EndsI t p q) ?_ ?_ _ ⟨c,o,q,rfl,hc,ho,hz,hq⟩
  · rintro i _ hi ⟨c,o,q,rfl,hc,ho,hz,hq⟩
    simp only [s97d_L0,q97d_L0]
    rw [wI_succ hi (by omega),tN]
    have io:(decide (0≤(i:Int))&&decide ((i:Int) < (o.len:Int))) = true:=idx_in (by rw [ho.1]; exact hi)
    have iq:(decide (0≤(i:Int))&&decide ((i:Int) < (q.len:Int))) = true:=idx_in (by rw [hq.1]; exact hi)
    have fo:∀ {w:L Int},((tChans t).get i).2.1 = p→w.len = 1 ∧ WI w→EndsO t p (L.upd o i fun e=>(e.1,(w,e.2.2))) ∧ ∀ j,j < (tChans t).len→((L.upd o i fun e=>(e.1,(w,e.2.2))).get j).1 = 0:=fun {w} hp hw=>⟨ho.fill hi (hz i hi) hp hw,fun j hj=>by
     by_cases e:j = i
     · subst e; rw [upd_eq_get]; exact hz j hj
     · rw [upd_ne_get _ _ e]; exact hz j hj⟩
    refine Ok.grd (idx_lt hi) (Ok.grd (idx_in hi) (Ok.bif (fun hp=>Ok.bind (onceK hc (by decide) (by decide)) fun y8 k8=>Ok.bif (fun _=>Ok.bind (wordsI k8 (by decide) (by decide)) fun y9 hy9=>Ok.grd io (Ok.grd (idx_in hi) ?_)) fun _=>Ok.grd (idx_in hi) ?_) fun _=>Ok.grd (idx_in hi) ?_))
    · obtain ⟨⟨h1,h2⟩,h3⟩:=hy9
      have fo:=fo (w:=y9.1.1) (eq_of_beq hp) ⟨h1,h3⟩
      exact Ok.bif (fun hp'=>Ok.bind (onceK h2 (by decide) (by decide)) fun y k=>Ok.bif (fun _=>Ok.bind (wordsI k (by decide) (by decide)) fun u hu=>Ok.grd iq (Ok.ret (.inl ⟨_,rfl,_,_,_,rfl,hu.1.2,fo.1,fo.2,hq.fill g hi (eq_of_beq hp') (w:=u.1) ⟨hu.1.1,hu.2⟩⟩))) fun _=>Ok.ret (.inl ⟨_,rfl,_,_,_,rfl,k,fo.1,fo.2,hq⟩)) fun _=>Ok.ret (.inl ⟨_,rfl,_,_,_,rfl,h2,fo.1,fo.2,hq⟩)
    · exact Ok.bif (fun hp'=>Ok.bind (onceK k8 (by decide) (by decide)) fun y k=>Ok.bif (fun _=>Ok.bind (wordsI k (by decide) (by decide)) fun u hu=>Ok.grd iq (Ok.ret (.inl ⟨_,rfl,_,_,_,rfl,hu.1.2,ho,hz,hq.fill g hi (eq_of_beq hp') (w:=u.1) ⟨hu.1.1,hu.2⟩⟩))) fun _=>Ok.ret (.inl ⟨_,rfl,_,_,_,rfl,k,ho,hz,hq⟩)) fun _=>Ok.ret (.inl ⟨_,rfl,_,_,_,rfl,k8,ho,hz,hq⟩)
    · exact Ok.bif (fun hp'=>Ok.bind (onceK hc (by decide) (by decide)) fun y k=>Ok.bif (fun _=>Ok.bind (wordsI k (by decide) (by decide)) fun u hu=>Ok.grd iq (Ok.ret (.inl ⟨_,rfl,_,_,_,rfl,hu.1.2,ho,hz,hq.fill g hi (eq_of_beq hp') (w:=u.1) ⟨hu.1.1,hu.2⟩⟩))) fun _=>Ok.ret (.inl ⟨_,rfl,_,_,_,rfl,k,ho,hz,hq⟩)) fun _=>Ok.ret (.inl ⟨_,rfl,_,_,_,rfl,hc,ho,hz,hq⟩)
  · rintro _ ⟨c,o,q,rfl,hc,ho,hz,hq⟩
    simp only [s97d_L0,q97d_L0]
    exact Ok.no (idx_end (tChans t).len) (Ok.ret ⟨_,rfl,c,o,q,rfl,hc,ho,hq⟩)
 have key2:∀ {t1 t11 vJ vK vL vM vN vO vP vQ vR vS vT vU vV vW vX va vb vc vd ve vf vg vh vj vk vl vm vn vo vq vr vs vt vu uO uP uQ uR uS uT uU uV uW uX uY uZ u0 u7 u9 wd we wf wg wn wo wp wq vB vC vD vE vF vG vH vI wh wi wj wk wm ke kf:_} {c:Cur} {d:L De},Cw c→EndsD t p d→Ok (fixO s97d_L2 (((),(t1,((),((),((),((p:Int),((),(t11,((0:Int),()))))))))),(c,((vJ,(vK,(vL,(vM,(vN,(vO,(vP,(vQ,(vR,(vS,(vT,(vU,(vV,(vW,(vX,((),((),((),((),()))))))))))))))))))),(((),(va,((),(vb,(vc,(vd,(ve,(vf,(vg,(vh,(vj,(vk,(vl,(vm,(vn,(vo,(vq,(vr,((),(vs,((),(vt,(vu,((),((),((),((),()))))))))))))))))))))))))))),(t,(((),(uO,((),(uP,(uQ,(uR,(uS,(uT,(uU,(uV,(uW,(uX,(uY,(uZ,(u0,(u7,(u9,(wd,((),(we,((),(wf,(wg,((),((),((),((),()))))))))))))))))))))))))))),(wn,(wo,(wp,(wq,(vB,(vC,(vD,(vE,(vF,(vG,(vH,(vI,(wh,(wi,(wj,(wk,(wm,(ke,(kf,(d,()))))))))))))))))))))))))))) fun z=>∃ (c:Cur) (d:L De),z = .inl (((),(t1,((),((),((),((p:Int),((),(t11,())))))))),(c,((vJ,(vK,(vL,(vM,(vN,(vO,(vP,(vQ,(vR,(vS,(vT,(vU,(vV,(vW,(vX,((),((),((),((),()))))))))))))))))))),(((),(va,((),(vb,(vc,(vd,(ve,(vf,(vg,(vh,(vj,(vk,(vl,(vm,(vn,(vo,(vq,(vr,((),(vs,((),(vt,(vu,((),((),((),((),()))))))))))))))))))))))))))),(t,(((),(uO,((),(uP,(uQ,(uR,(uS,(uT,(uU,(uV,(uW,(uX,(uY,(uZ,(u0,(u7,(u9,(wd,((),(we,((),(wf,(wg,((),((),((),((),()))))))))))))))))))))))))))),(wn,(wo,(wp,(wq,(vB,(vC,(vD,(vE,(vF,(vG,(vH,(vI,(wh,(wi,(wj,(wk,(wm,(ke,(kf,(d,())))))))))))))))))))))))))) ∧ Cw c ∧ EndsD t p d:=by
  intro t1 t11 vJ vK vL vM vN vO vP vQ vR vS vT vU vV vW vX va vb vc vd ve vf vg vh vj vk vl vm vn vo vq vr vs vt vu uO uP uQ uR uS uT uU uV uW uX uY uZ u0 u7 u9 wd we wf wg wn wo wp wq vB vC vD vE vF vG vH vI wh wi wj wk wm ke kf c d hc hd
  refine loopK (tDevs t).len (fun i z=>∃ (c:Cur) (d:L De),z = (((),(t1,((),((),((),((p:Int),((),(t11,((i:Int),()))))))))),(c,((vJ,(vK,(vL,(vM,(vN,(vO,(vP,(vQ,(vR,(vS,(vT,(vU,(vV,(vW,(vX,((),((),((),((),()))))))))))))))))))),(((),(va,((),(vb,(vc,(vd,(ve,(vf,(vg,(vh,(vj,(vk,(vl,(vm,(vn,(vo,(vq,(vr,((),(vs,((),(vt,(vu,((),((),((),((),()))))))))))))))))))))))))))),(t,(((),(uO,((),(uP,(uQ,(uR,(uS,(uT,(uU,(uV,(uW,(uX,(uY,(uZ,(u0,(u7,(u9,(wd,((),(we,((),(wf,(wg,((),((),((),((),()))))))))))))))))))))))))))),(wn,(wo,(wp,(wq,(vB,(vC,(vD,(vE,(vF,(vG,(vH,(vI,(wh,(wi,(wj,(wk,(wm,(ke,(kf,(d,())))))))))))))))))))))))))) ∧ Cw c ∧ EndsD t p d) ?_ ?_ _ ⟨c,d,rfl,hc,hd⟩
  · rintro i _ hi ⟨c,d,rfl,hc,hd⟩
    simp only [s97d_L2,q97d_L2]
    rw [wI_succ hi (by omega),tN]
    have iq:(decide (0≤(i:Int))&&decide ((i:Int) < (d.len:Int))) = true:=idx_in (by rw [hd.1]; exact hi)
    refine Ok.grd (idx_lt hi) (Ok.grd (idx_in hi) (Ok.bif (fun hp=>Ok.bind (onceK hc (by decide) (by decide)) fun y8 k8=>Ok.bif (fun _=>?_) fun _=>Ok.ret (.inl ⟨_,rfl,_,_,rfl,k8,hd⟩)) fun _=>Ok.ret (.inl ⟨_,rfl,_,_,rfl,hc,hd⟩)))
    refine Ok.bind (belowK k8 (by decide) (by decide)) ?_
    rintro u ⟨u1,u2,u3⟩
    refine Ok.bind (wordsI u3 u1 (by omega)) ?_
    rintro v ⟨⟨v1,v2⟩,v3⟩
    refine Ok.bind (belowK v2 (by decide) (by decide)) ?_
    rintro w ⟨w1,w2,w3⟩
    refine Ok.bind (wordsI w3 w1 (by omega)) ?_
    rintro x ⟨⟨x1,x2⟩,x3⟩
    exact Ok.grd iq (Ok.ret (.inl ⟨_,rfl,_,_,rfl,x2,hd.set hi (eq_of_beq hp) (o:=(v.1.1,x.1)) ⟨by show v.1.1.len≤8; omega,by show x.1.1.len≤8; omega,v3,x3⟩⟩))
  · rintro _ ⟨c,d,rfl,hc,hd⟩
    simp only [s97d_L2,q97d_L2]
    exact Ok.no (idx_end (tDevs t).len) (Ok.ret ⟨_,rfl,c,d,rfl,hc,hd⟩)
 have key4:∀ {vJ vK vL vM vN vO vP vQ vR vS vT vU vV vW vX va vb vc vd ve vf vg vh vj vk vl vm vn vo vq vr vs vt vu wn wo wp wq vB vC vD vE vF vG vH vI:_} {c:Cur} {s:St} {cy:Int} {n:Nat},n≤40→PG t p s→(0≤cy ∧ cy≤300)→(0≤s.2.2.2.2.2.1 ∧ s.2.2.2.2.2.1≤6000)→Ok (fixO s97d_L4 (((),((),((),((),((p:Int),((),(cy,((n:Int),((0:Int),()))))))))),(c,((vJ,(vK,(vL,(vM,(vN,(vO,(vP,(vQ,(vR,(vS,(vT,(vU,(vV,(vW,(vX,((),((),((),((),()))))))))))))))))))),(((),(va,((),(vb,(vc,(vd,(ve,(vf,(vg,(vh,(vj,(vk,(vl,(vm,(vn,(vo,(vq,(vr,((),(vs,((),(vt,(vu,((),((),((),((),()))))))))))))))))))))))))))),(t,(((),(s.1.2.1,((),(s.2.1.1,(s.2.1.2.1,(s.2.1.2.2.1,(s.2.1.2.2.2.1,(s.2.1.2.2.2.2.1,(s.2.1.2.2.2.2.2.1,(s.2.1.2.2.2.2.2.2.1,(s.2.1.2.2.2.2.2.2.2.1,(s.2.2.1.1,(s.2.2.1.2.1,(s.2.2.1.2.2.1,(s.2.2.1.2.2.2.1,(s.2.2.2.1.1.1,(s.2.2.2.1.1.2.1,(s.2.2.2.1.1.2.2.1,((),(s.2.2.2.2.1.1,((),(s.2.2.2.2.2.1,(s.2.2.2.2.2.2.1,((),((),((),((),()))))))))))))))))))))))))))),(wn,(wo,(wp,(wq,(vB,(vC,(vD,(vE,(vF,(vG,(vH,(vI,(s.1.1,(s.1.2.2.1,(s.2.2.2.1.2.1,(s.2.2.2.2.1.2.1,((sBoot s),((sOuts s),((sIns s),((sDevs s),()))))))))))))))))))))))))))) fun z=>∃ (s:St) (cy:Int),z = .inl (((),((),((),((),((p:Int),((),(cy,()))))))),(c,((vJ,(vK,(vL,(vM,(vN,(vO,(vP,(vQ,(vR,(vS,(vT,(vU,(vV,(vW,(vX,((),((),((),((),()))))))))))))))))))),(((),(va,((),(vb,(vc,(vd,(ve,(vf,(vg,(vh,(vj,(vk,(vl,(vm,(vn,(vo,(vq,(vr,((),(vs,((),(vt,(vu,((),((),((),((),()))))))))))))))))))))))))))),(t,(((),(s.1.2.1,((),(s.2.1.1,(s.2.1.2.1,(s.2.1.2.2.1,(s.2.1.2.2.2.1,(s.2.1.2.2.2.2.1,(s.2.1.2.2.2.2.2.1,(s.2.1.2.2.2.2.2.2.1,(s.2.1.2.2.2.2.2.2.2.1,(s.2.2.1.1,(s.2.2.1.2.1,(s.2.2.1.2.2.1,(s.2.2.1.2.2.2.1,(s.2.2.2.1.1.1,(s.2.2.2.1.1.2.1,(s.2.2.2.1.1.2.2.1,((),(s.2.2.2.2.1.1,((),(s.2.2.2.2.2.1,(s.2.2.2.2.2.2.1,((),((),((),((),()))))))))))))))))))))))))))),(wn,(wo,(wp,(wq,(vB,(vC,(vD,(vE,(vF,(vG,(vH,(vI,(s.1.1,(s.1.2.2.1,(s.2.2.2.1.2.1,(s.2.2.2.2.1.2.1,((sBoot s),((sOuts s),((sIns s),((sDevs s),())))))))))))))))))))))))))) ∧ PG t p s ∧ 0≤cy ∧ 0≤s.2.2.2.2.2.1 ∧ s.2.2.2.2.2.1≤100000:=by
  intro vJ vK vL vM vN vO vP vQ vR vS vT vU vV vW vX va vb vc vd ve vf vg vh vj vk vl vm vn vo vq vr vs vt vu wn wo wp wq vB vC vD vE vF vG vH vI c s cy n hn hs hc hx
  refine loopK n (fun i z=>∃ (s:St) (cy:Int),z = (((),((),((),((),((p:Int),((),(cy,((n:Int),((i:Int),()))))))))),(c,((vJ,(vK,(vL,(vM,(vN,(vO,(vP,(vQ,(vR,(vS,(vT,(vU,(vV,(vW,(vX,((),((),((),((),()))))))))))))))))))),(((),(va,((),(vb,(vc,(vd,(ve,(vf,(vg,(vh,(vj,(vk,(vl,(vm,(vn,(vo,(vq,(vr,((),(vs,((),(vt,(vu,((),((),((),((),()))))))))))))))))))))))))))),(t,(((),(s.1.2.1,((),(s.2.1.1,(s.2.1.2.1,(s.2.1.2.2.1,(s.2.1.2.2.2.1,(s.2.1.2.2.2.2.1,(s.2.1.2.2.2.2.2.1,(s.2.1.2.2.2.2.2.2.1,(s.2.1.2.2.2.2.2.2.2.1,(s.2.2.1.1,(s.2.2.1.2.1,(s.2.2.1.2.2.1,(s.2.2.1.2.2.2.1,(s.2.2.2.1.1.1,(s.2.2.2.1.1.2.1,(s.2.2.2.1.1.2.2.1,((),(s.2.2.2.2.1.1,((),(s.2.2.2.2.2.1,(s.2.2.2.2.2.2.1,((),((),((),((),()))))))))))))))))))))))))))),(wn,(wo,(wp,(wq,(vB,(vC,(vD,(vE,(vF,(vG,(vH,(vI,(s.1.1,(s.1.2.2.1,(s.2.2.2.1.2.1,(s.2.2.2.2.1.2.1,((sBoot s),((sOuts s),((sIns s),((sDevs s),())))))))))))))))))))))))))) ∧ PG t p s ∧ (0≤cy ∧ cy≤6000 + 500 * (i:Int)) ∧ (0≤s.2.2.2.2.2.1 ∧ s.2.2.2.2.2.1≤6000 + 500 * (i:Int))) ?_ ?_ _ ⟨s,cy,rfl,hs,by omega,by omega⟩
  · rintro i _ hi ⟨s,cy,rfl,hs,hc,hx⟩
    simp only [s97d_L4,q97d_L4]
    rw [wI_succ hi (by omega)]
    refine Ok.grd (idx_lt hi) (Ok.bif (fun _=>Ok.bif (fun _=>Ok.bind (pstepK (s:=s) (c:=cy) g hs (by omega)) fun y hy=>Ok.ret (.inl ⟨_,rfl,y.2.1,_,rfl,hy.1,?_,?_⟩)) fun _=>Ok.ret (.inr ⟨_,rfl,s,cy,rfl,hs,hc.1,hx.1,by omega⟩)) fun _=>Ok.ret (.inr ⟨_,rfl,s,cy,rfl,hs,hc.1,hx.1,by omega⟩))
    · have:=hy.2; omega
    · have:=hy.2; omega
  · rintro _ ⟨s,cy,rfl,hs,hc,hx⟩
    simp only [s97d_L4,q97d_L4]
    exact Ok.no (idx_end n) (Ok.ret ⟨_,rfl,s,cy,rfl,hs,hc.1,hx.1,by omega⟩)
 have hF2:=hF.2.1
 rw [wI_id (by omega) (by omega)] at n7
 have z7:∀ i,i < (tChans t).len→((sOuts y7.2.1).get i).1 = 0:=fun i hi=>by rw [o7]; exact z5 i hi
 refine Ok.bind (key0 k6 p7.ou z7 p7.is) ?_
 rintro _ ⟨c8,o8,q8,rfl,k8,ho8,hq8⟩
 refine Ok.bind (key2 k8 p7.de) ?_
 rintro _ ⟨c9,d9,rfl,k9,hd9⟩
 have hz:1≤f196 code 40 ∧ f196 code 40≤40:=by
  have h46:(2:Nat) ^ 46 = 70368744177664:=by decide
  rw [h46] at hl
  unfold f196
  rw [Int.tdiv_eq_ediv_of_nonneg (by omega),wI_id (n:=(code.len:Int) / 20) (by omega) (by omega),wI_id (by omega) (by omega)]
  cases hq:decide (2 + (code.len:Int) / 20 > 40) with
  | true=>simp
  | false=>simp at hq ⊢; omega
 refine Ok.bind (belowK (n:=f196 code 40) k9 hz.1 (by omega)) ?_
 rintro ⟨⟨n,⟨⟩⟩,c10,⟨⟩⟩ ⟨a10,b10,k10⟩
 dsimp only at a10 b10 k10
 obtain ⟨n,rfl⟩:∃ m:Nat,n = m:=⟨n.toNat,by omega⟩
 generalize hu:y7.2.1 = u at *
 refine Ok.bind (key4 (s:=(u.1,(u.2.1,(u.2.2.1,(u.2.2.2.1,(u.2.2.2.2.1,(u.2.2.2.2.2.1,(u.2.2.2.2.2.2.1,(u.2.2.2.2.2.2.2.1,(o8,(q8,(d9,())))))))))))) (cy:=cy) (n:=n) (by omega) ⟨p7.gu,p7.he,p7.ca,p7.tl,p7.bo,ho8,hq8,hd9,p7.vp,p7.pw⟩ (by omega) (by dsimp only; omega)) ?_
 rintro _ ⟨s,cy',rfl,hs',hcy,hx1,hx2⟩
 have D:∀ {v:Vi} {he:He},VP v→HeG he→Drawn t p (s.1,(v,(he,s.2.2.2))) cy':=fun {v he} hv hh=>⟨g,hs,hF,⟨hs'.gu,hh,hs'.ca,hs'.tl,hs'.bo,hs'.ou,hs'.is,hs'.de,hv,hs'.pw⟩,⟨hx1,hx2⟩,hcy⟩
 have H3:∀ {b:Bool},HeG (3,(1,(2,(b,())))):=fun {b}=>⟨zh3,zh1,zh2⟩
 refine Ok.bind (onceK k10 (by decide) (by decide)) fun y26 k26=>Ok.bif (fun _=>Ok.bind (virtK k26) fun y27 ⟨v27,k27⟩=>Ok.grd (idx_in g.pl) (Ok.bind (onceK k27 (by decide) (by decide)) fun y28 k28=>Ok.bif (fun _=>Ok.bind (onceK k28 (by decide) (by decide)) fun y29 k29=>Ok.ret ⟨p,rfl,D ⟨u32_in _,v27.2⟩ H3⟩) fun _=>Ok.ret ⟨p,rfl,D ⟨u32_in _,v27.2⟩ hs'.he⟩)) fun _=>Ok.bind (onceK k26 (by decide) (by decide)) fun y28 k28=>Ok.bif (fun _=>Ok.bind (onceK k28 (by decide) (by decide)) fun y29 k29=>Ok.ret ⟨p,rfl,D hs'.vp H3⟩) fun _=>Ok.ret ⟨p,rfl,D hs'.vp hs'.he⟩
theorem drawnK {code:L Int} (hl:code.len≤2 ^ 46):Ok (g20 code) fun a=>∃ p:Nat,a.1.2.1 = p ∧ Drawn a.1.1 p a.1.2.2.1 a.1.2.2.2.1:=by
 obtain ⟨c,e,hc⟩:=newCur code hl
 unfold g20
 rw [e,oB]
 exact Ok.bind (stateK hc hl) fun a ha=>Ok.ret ha
def Yes {α:Type} (o:Option ((Bool×Unit)×α)):Prop:=Ok o fun a=>a.1.1 = true
theorem imgK {t:Tb} {p:Nat} {x:Im} (g:TG t p) (hn:(tParts t).len≤6) (h:FitG ((tParts t).get p).2.2.2.1 x):Yes (g105 t (p:Int) x):=by
 have hl:=g.pl
 have e:(t.2.2.2.2.2.2.2.1.len:Int) = (tParts t).len:=rfl
 have hf:f157 (p:Int) 0 (wI ((t.2.2.2.2.2.2.2.1.len:Int) - 1)) = true:=by
  rw [e,wI_id (by omega) (by omega)]
  exact (f42_iff _ _ _).mpr (by omega)
 have h4:=g.w.1
 unfold Yes g105
 rw [hf]
 refine Ok.no rfl (Ok.grd (idx_in g.pl) (Ok.no (by rw [tN]; simp; exact congrArg Nat.cast h.1) (Ok.grd (idx_in g.pl) ?_)))
 rw [tN]
 refine Ok.bind (loopK (R:=fun z=>z = .inr (.inl ((),()))) ((tParts t).get p).2.2.2.1.len (fun i z=>z = ((x,(((tParts t).get p).2.2.2.1,((((tParts t).get p).2.2.2.1.len:Int),((i:Int),())))),())) ?_ ?_ _ rfl) ?_
 · rintro i _ hi rfl
   simp only [s105_L0,q105_L0]
   rw [wI_succ hi (by omega),tN]
   exact Ok.grd (idx_lt hi) (Ok.grd (idx_in hi) (Ok.grd (idx_in (by rw [h.1]; exact hi)) (Ok.no (by simpa using (h.2 i hi).1) (Ok.ret (.inl ⟨_,rfl,rfl⟩)))))
 · rintro _ rfl
   simp only [s105_L0,q105_L0]
   exact Ok.no (idx_end _) (Ok.ret ⟨_,rfl,rfl⟩)
 · rintro _ rfl
   exact Ok.ret rfl
theorem overlaps2 (a:L Wi) (ha:a.len≤2 ^ 47) (w:Wi) (hw:f326 w = true) (hg:∀ v,v ∈ toL a→f326 v = true) (hap:∀ v,v ∈ toL a→apart v w):g305_339 a (w,()) = some ((false,()),()):=by
 have hf:∀ i,i < a.len→f339 (a.get i) w = false:=fun i hi=>by
  have hm:=(toL_mem a (a.get i)).mpr ⟨i,hi,rfl⟩
  have:=(f307_iff (a.get i) w (hg _ hm) hw).mpr (hap _ hm)
  unfold f339
  rw [this]; rfl
 have h:=index_loop (step:=s366_339_L0) (x:=a) (c:=(w,())) (fun i=>f339 (a.get i) w) (fun i hi=>by
  simp only [s366_339_L0,q366_339_L0]
  refine (bif_t (idx_lt hi)).trans ((bif_t (idx_in hi)).trans ?_)
  rw [wI_succ hi ha,tN]
  by_cases hf:f339 (a.get i) w = true
  · rw [if_pos hf]; exact bif_t hf
  · rw [if_neg hf]; exact bif_f (by simpa using hf)) (by
  simp only [s366_339_L0,q366_339_L0]
  exact bif_f (idx_end a.len))
 unfold g305_339 g366_339
 rcases h with ⟨i,h1,h2,h3,h4⟩ | ⟨h1,h2⟩
 · rw [hf i h1] at h2; cases h2
 · rw [h2]; rfl
theorem winsK (w:L Wi) (hl:w.len≤4) (hg:∀ j,j < w.len→f326 (w.get j) = true) (hap:∀ k i,k < i→i < w.len→apart (w.get k) (w.get i)):Yes (g265 w):=by
 unfold Yes g265
 refine Ok.no (by simp; omega) (Ok.bind (loopK (R:=fun z=>z = .inr (.inl ((),()))) w.len (fun i z=>z = ((w,(w,((w.len:Int),((i:Int),())))),())) ?_ ?_ _ rfl) ?_)
 · rintro i _ hi rfl
   simp only [s265_L0,q265_L0]
   have e194:f304 (w.get i) = true:=by rw [f304_326]; exact hg i hi
   have hcut:∀ v,v ∈ toL (L.cut w (0:Int).toNat i)→∃ k,k < i ∧ w.get k = v:=fun v hv=>by
    obtain ⟨k,k1,k2⟩:=(toL_mem _ _).mp hv
    have k1:k < i - 0:=k1
    have k2:w.get (0 + k) = v:=k2
    rw [Nat.zero_add] at k2
    exact ⟨k,by omega,k2⟩
   have ho:=overlaps2 (L.cut w (0:Int).toNat i) (show i - 0≤2 ^ 47 by omega) (w.get i) (hg i hi) (fun v hv=>by
    obtain ⟨k,k1,rfl⟩:=hcut v hv
    exact hg k (by omega)) (fun v hv=>by
    obtain ⟨k,k1,rfl⟩:=hcut v hv
    exact hap k i k1 hi)
   rw [wI_succ hi (by omega),tN,e194]
   refine Ok.grd (idx_lt hi) (Ok.grd (idx_in hi) (Ok.no rfl (Ok.grd (by simp; omega) ?_)))
   rw [ho]
   exact Ok.ret (.inl ⟨_,rfl,rfl⟩)
 · rintro _ rfl
   simp only [s265_L0,q265_L0]
   exact Ok.no (idx_end w.len) (Ok.ret ⟨_,rfl,rfl⟩)
 · rintro _ rfl
   exact Ok.ret rfl
theorem gstK {w:L Wi} {g:Gu} (hw:WG w) (hap:∀ k i,k < i→i < w.len→apart (w.get k) (w.get i)) (h:GuR w g.1 g.2.2.1):Yes (g153 w g):=by
 obtain ⟨h1,h2,⟨h3,h4⟩,_⟩:=h
 have hl:=hw.1
 unfold Yes g153
 refine Ok.bind (winsK w hw.1 hw.2 hap) fun a ha=>?_
 rw [ha]
 refine Ok.no rfl (Ok.no (by rw [h1]; rfl) (Ok.grd (by rw [h1]; rfl) (Ok.no (by simpa using h2) (Ok.no (by simp; exact congrArg Nat.cast h3) ?_))))
 refine Ok.bind (loopK (R:=fun z=>z = .inr (.inl ((),()))) w.len (fun i z=>z = (((),(w,((w.len:Int),((i:Int),())))),(g,()))) ?_ ?_ _ rfl) ?_
 · rintro i _ hi rfl
   simp only [s153_L0,q153_L0]
   rw [wI_succ hi (by omega),tN]
   exact Ok.grd (idx_lt hi) (Ok.grd (idx_in hi) (Ok.grd (idx_in (by rw [h3]; exact hi)) (Ok.no (by simpa using (h4 i hi).1) (Ok.ret (.inl ⟨_,rfl,rfl⟩)))))
 · rintro _ rfl
   simp only [s153_L0,q153_L0]
   exact Ok.no (idx_end w.len) (Ok.ret ⟨_,rfl,rfl⟩)
 · rintro _ rfl
   exact Ok.ret rfl
theorem heK {h:He} (k:HeG h):f154 h = true:=by
 obtain ⟨h1,h2,h3⟩:=k
 unfold f154
 rw [f157_42,(f42_iff _ _ _).mpr h1,(f42_iff _ _ _).mpr h2,(f42_iff _ _ _).mpr h3]
 rfl
theorem wayK {row:L Wy} (hl:row.len≤1000) (hd:∀ i k,i < k→k < row.len→(row.get i).1 ≠ (row.get k).1) {i:Nat} (hi:i < row.len):Ok (g267 row (row.get i).1) fun a=>a.1.1 = (i:Int):=by
 unfold g267 g340_341
 have key:Ok (fixO s340_341_L0 ((row,(((row.get i).1,()),((row.len:Int),((0:Int),())))),())) fun z=>z = .inl (((i:Int),()),()):=by
  refine loopK i (fun k z=>z = ((row,(((row.get i).1,()),((row.len:Int),((k:Int),())))),())) ?_ ?_ _ rfl
  · rintro k _ hk rfl
    simp only [s340_341_L0,q340_341_L0]
    rw [wI_succ hk (by omega),tN]
    refine Ok.grd (idx_lt (by omega)) (Ok.grd (idx_in (by omega)) (Ok.no ?_ (Ok.ret (.inl ⟨_,rfl,rfl⟩))))
    show ((row.get k).1 == (row.get i).1) = false
    simpa using hd k i hk hi
  · rintro _ rfl
    simp only [s340_341_L0,q340_341_L0]
    rw [tN]
    refine Ok.grd (idx_lt hi) (Ok.grd (idx_in hi) (Ok.grd ?_ (Ok.ret ⟨_,rfl,rfl⟩)))
    show ((row.get i).1 == (row.get i).1) = true
    simp
 refine Ok.bind (Q:=fun a=>a.1.1 = (i:Int)) (Ok.bind key ?_) fun a ha=>Ok.ret ha
 rintro _ rfl
 exact Ok.ret rfl
theorem cacK {c:Ca} (h:CaG c):Yes (g155 c):=by
 obtain ⟨h1,h2,h3⟩:=h
 obtain ⟨s1,s2,_⟩:=shapeG h1
 unfold Yes g155
 rw [f201_237,h1]
 refine Ok.no rfl (Ok.no (by simpa using h2) (Ok.bind (loopK (R:=fun z=>z = .inr (.inl ((),()))) c.2.1.len (fun i z=>z = (((),(c.2.1,((c.2.1.len:Int),((i:Int),())))),(c,()))) ?_ ?_ _ rfl) ?_))
 · rintro i _ hi rfl
   obtain ⟨r1,r2,r3⟩:=h3 i hi
   have key:Ok (fixO s155_L2 (((),(c.2.1.get i,(c.2.1,((c.2.1.len:Int),((i:Int),(c.2.1.get i,(((c.2.1.get i).len:Int),((0:Int),())))))))),(c,()))) fun z=>z = .inr (.inl (((),(c.2.1,((c.2.1.len:Int),((i:Int),())))),(c,()))):=by
    refine loopK (c.2.1.get i).len (fun k z=>z = (((),(c.2.1.get i,(c.2.1,((c.2.1.len:Int),((i:Int),(c.2.1.get i,(((c.2.1.get i).len:Int),((k:Int),())))))))),(c,()))) ?_ ?_ _ rfl
    · rintro k _ hk rfl
      simp only [s155_L2,q155_L2]
      rw [wI_succ hk (by omega),tN]
      have ha:f266 ((c.2.1.get i).get k).1 = true:=(f42_iff _ _ _).mpr (r2 k hk)
      rw [ha]
      refine Ok.grd (idx_lt hk) (Ok.grd (idx_in hk) (Ok.no rfl (Ok.bind (wayK (by omega) r3 hk) fun a e=>?_)))
      rw [e]
      exact Ok.no (by simp) (Ok.ret (.inl ⟨_,rfl,rfl⟩))
    · rintro _ rfl
      simp only [s155_L2,q155_L2]
      exact Ok.no (idx_end (c.2.1.get i).len) (Ok.ret ⟨_,rfl,rfl⟩)
   simp only [s155_L0,q155_L0]
   rw [tN]
   refine Ok.grd (idx_lt hi) (Ok.grd (idx_in hi) (Ok.no (by simp; omega) (Ok.bind key ?_)))
   rintro _ rfl
   simp only
   rw [wI_succ hi (by omega)]
   exact Ok.ret (.inl ⟨_,rfl,rfl⟩)
 · rintro _ rfl
   simp only [s155_L0,q155_L0]
   exact Ok.no (idx_end c.2.1.len) (Ok.ret ⟨_,rfl,rfl⟩)
 · rintro _ rfl
   exact Ok.ret rfl
theorem idxK {x:L Int} (hl:x.len≤1000) {v:Int} (h:∀ i,i < x.len→x.get i ≠ v):Ok (g268 x v) fun a=>a.1.1 = false:=by
 unfold g268 g342
 have key:Ok (fixO s342_L0 ((x,(v,((x.len:Int),((0:Int),())))),())) fun z=>z = .inr (.inl ((),())):=by
  refine loopK x.len (fun k z=>z = ((x,(v,((x.len:Int),((k:Int),())))),())) ?_ ?_ _ rfl
  · rintro k _ hk rfl
    simp only [s342_L0,q342_L0]
    rw [wI_succ hk (by omega),tN]
    exact Ok.grd (idx_lt hk) (Ok.grd (idx_in hk) (Ok.no (by simpa using Ne.symm (h k hk)) (Ok.ret (.inl ⟨_,rfl,rfl⟩))))
  · rintro _ rfl
    simp only [s342_L0,q342_L0]
    exact Ok.no (idx_end x.len) (Ok.ret ⟨_,rfl,rfl⟩)
 refine Ok.bind (Q:=fun a=>a.1.1 = -1) (Ok.bind key ?_) fun a ha=>Ok.ret (by show decide (a.1.1 ≥ 0) = false; rw [ha]; rfl)
 rintro _ rfl
 exact Ok.ret rfl
theorem tlbOkK {n:Int} {x:Tl} (hn:1≤n ∧ n≤8) (h:TlG n x):Yes (g156 x):=by
 obtain ⟨h1,h2,h3,h4,_⟩:=h
 unfold Yes g156
 rw [f157_42,(f42_iff _ _ _).mpr (by omega)]
 refine Ok.no rfl (Ok.no (by simp; omega) (Ok.bind (loopK (R:=fun z=>z = .inr (.inl ((),()))) x.2.1.len (fun i z=>z = (((),(x.2.1,((x.2.1.len:Int),((i:Int),())))),(x,()))) ?_ ?_ _ rfl) ?_))
 · rintro i _ hi rfl
   simp only [s156_L0,q156_L0]
   rw [wI_succ hi (by omega),tN,f157_42,(f42_iff _ _ _).mpr (h3 i hi)]
   refine Ok.grd (idx_lt hi) (Ok.grd (idx_in hi) (Ok.no rfl (Ok.grd (by simp; omega) (Ok.bind (idxK (show i - 0≤1000 by omega) fun k hk=>?_) fun a ha=>?_))))
   · have hk:k < i - 0:=hk
     show x.2.1.get (0 + k) ≠ _
     rw [Nat.zero_add]
     exact h4 k i (by omega) hi
   · rw [ha]
     exact Ok.ret (.inl ⟨_,rfl,rfl⟩)
 · rintro _ rfl
   simp only [s156_L0,q156_L0]
   exact Ok.no (idx_end x.2.1.len) (Ok.ret ⟨_,rfl,rfl⟩)
 · rintro _ rfl
   exact Ok.ret rfl
theorem outT {r:Ch} {o:Oe} (h:OutP r o):f270 r o = true:=by
 obtain ⟨hr,h1,h2,_⟩:=h
 unfold f270 f311
 rw [show f209 r = f328 r from rfl,hr,f157_42]
 rcases chan_of hr with ⟨k1,k2⟩ | ⟨k1,k2,k3⟩
 · obtain ⟨a1,a2⟩:=h1 k1
   rw [k2,if_neg (by omega),bif_f (show (!true) = false from rfl),bif_f (by simp; omega),(f42_iff _ _ _).mpr (by omega),bif_t rfl,bif_t (by simpa using k1)]
 · obtain ⟨a1,a2⟩:=h2 (by omega)
   have hd:(if r.2.2.2.1 > 1 then r.2.2.2.1 else 1) = r.2.2.2.1:=by split <;> omega
   rw [hd,bif_f (show (!true) = false from rfl),bif_f (by simp; omega),(f42_iff _ _ _).mpr (by omega),bif_t rfl,bif_f (by simp [k1]),wI_id (by omega) (by omega)]
   simp; omega
theorem inT {r:Ch} {o:Ie} (h:InP r o):f272 r o = true:=by
 obtain ⟨hr,h1,h2,_⟩:=h
 unfold f272 f311
 rw [show f209 r = f328 r from rfl,hr,bif_t rfl]
 rcases chan_of hr with ⟨k1,k2⟩ | ⟨k1,k2,k3⟩
 · have:=h1 k1
   rw [k2,if_neg (by omega)]
   simp; omega
 · have:=h2 (by omega)
   have hd:(if r.2.2.2.1 > 1 then r.2.2.2.1 else 1) = r.2.2.2.1:=by split <;> omega
   rw [hd]
   simp; omega
theorem endsK {t:Tb} {p:Nat} {s:St} (g:TG t p) (h:PG t p s):Yes (g158 t (p:Int) s):=by
 have hc8:=g.ch.1
 have hd8:=g.dv
 have eo:=h.ou.1
 have ei:=h.is.1
 have ed:=h.de.1
 have h254:∀ i:Nat,i < (tChans t).len→g269 t (p:Int) (i:Int) = some ((((tChans t).get i).2.1 == (p:Int),()),()):=fun i h=>by
  unfold g269
  have e:((t.2.2.2.2.2.2.2.2.2.1.len:Int)) = (tChans t).len:=rfl
  rw [show f157 = f42 from rfl,e,wI_id (by omega) (by omega),bif_t ((f42_iff _ _ _).mpr (by omega)),bif_t (idx_in h),tN]
  rfl
 have h256r:∀ i:Nat,i < (tChans t).len→g271 t (p:Int) (i:Int) = some ((((tChans t).get i).2.2.1 == (p:Int),()),()):=fun i h=>by
  unfold g271
  have e:((t.2.2.2.2.2.2.2.2.2.1.len:Int)) = (tChans t).len:=rfl
  rw [show f157 = f42 from rfl,e,wI_id (by omega) (by omega),bif_t ((f42_iff _ _ _).mpr (by omega)),bif_t (idx_in h),tN]
  rfl
 have h109:∀ i:Nat,i < (tDevs t).len→g219 t (p:Int) (i:Int) = some (((tDevs t).get i == (p:Int),()),()):=fun i h=>by
  unfold g219
  have e:((t.2.2.2.2.2.2.2.2.1.len:Int)) = (tDevs t).len:=rfl
  rw [show f157 = f42 from rfl,e,wI_id (by omega) (by omega),bif_t ((f42_iff _ _ _).mpr (by omega)),bif_t (idx_in h),tN]
  rfl
 unfold Yes g158
 refine Ok.no (by simp; exact congrArg Nat.cast eo) (Ok.no (by simp; exact congrArg Nat.cast ei) (Ok.no (by simp; exact congrArg Nat.cast ed) ?_))
 refine Ok.bind (loopK (R:=fun z=>z = .inr (.inl (((p:Int),((),((),()))),(t,(s,()))))) (tChans t).len (fun i z=>z = (((p:Int),((),((),(tChans t,(((tChans t).len:Int),((i:Int),())))))),(t,(s,())))) ?_ ?_ _ rfl) ?_
 · rintro i _ hi rfl
   have ho:=h.ou.2.1 i hi
   have hin:=h.is.2.1 i hi
   simp only [s158_L0,q158_L0,k158_L0_2,k158_L0_1]
   rw [wI_succ hi (by omega),tN,h254 i hi,h256r i hi]
   refine Ok.grd (idx_lt hi) (Ok.grd (idx_in hi) (Ok.grd (idx_in (n:=(sOuts s).len) (by omega)) (Ok.grd (idx_in (n:=(sIns s).len) (by omega)) ?_)))
   have fo:((tChans t).get i).2.1 = p→f270 ((tChans t).get i) (s.2.2.2.2.2.2.2.2.1.get i) = true:=fun q=>outT (ho.1 q)
   have fi:((tChans t).get i).2.2.1 = p→f272 ((tChans t).get i) (s.2.2.2.2.2.2.2.2.2.1.get i) = true:=fun q=>inT (hin.1 q)
   have no:((tChans t).get i).2.1 ≠ p→((s.2.2.2.2.2.2.2.2.1.get i).1 != 0) = false ∧ decide (((s.2.2.2.2.2.2.2.2.1.get i).2.1.len:Int) > 0) = false:=fun q=>by
    obtain ⟨a,b⟩:=ho.2 q
    have a:(s.2.2.2.2.2.2.2.2.1.get i).1 = 0:=a
    have b:(s.2.2.2.2.2.2.2.2.1.get i).2.1.len = 0:=b
    rw [a,b]; exact ⟨rfl,rfl⟩
   have ni:((tChans t).get i).2.2.1 ≠ p→decide (((s.2.2.2.2.2.2.2.2.2.1.get i).1.len:Int) > 0) = false:=fun q=>by
    have b:(s.2.2.2.2.2.2.2.2.2.1.get i).1.len = 0:=hin.2 q
    rw [b]; rfl
   cases q1:(((tChans t).get i).2.1 == (p:Int)) with
   | true =>
     have a1:=fo (eq_of_beq q1)
     cases q2:(((tChans t).get i).2.2.1 == (p:Int)) with
     | true =>
       have a2:=fi (eq_of_beq q2)
       simp only [a1,a2,oB,Bool.not_true,cond_true,cond_false]
       exact Ok.ret (.inl ⟨_,rfl,rfl⟩)
     | false =>
       have a2:=ni (fun e=>by rw [e] at q2; simp at q2)
       simp only [a1,a2,oB,Bool.not_true,Bool.not_false,cond_true,cond_false]
       exact Ok.ret (.inl ⟨_,rfl,rfl⟩)
   | false =>
     obtain ⟨a1,a3⟩:=no (fun e=>by rw [e] at q1; simp at q1)
     cases q2:(((tChans t).get i).2.2.1 == (p:Int)) with
     | true =>
       have a2:=fi (eq_of_beq q2)
       simp only [a1,a2,a3,oB,Bool.not_true,Bool.not_false,cond_true,cond_false]
       exact Ok.ret (.inl ⟨_,rfl,rfl⟩)
     | false =>
       have a2:=ni (fun e=>by rw [e] at q2; simp at q2)
       simp only [a1,a2,a3,oB,Bool.not_true,Bool.not_false,cond_true,cond_false]
       exact Ok.ret (.inl ⟨_,rfl,rfl⟩)
 · rintro _ rfl
   simp only [s158_L0,q158_L0,k158_L0_2,k158_L0_1]
   exact Ok.no (idx_end (tChans t).len) (Ok.ret ⟨_,rfl,rfl⟩)
 rintro _ rfl
 simp only
 refine Ok.bind (loopK (R:=fun z=>z = .inr (.inl ((),()))) (sDevs s).len (fun i z=>z = (((p:Int),((),(sDevs s,(((sDevs s).len:Int),((i:Int),()))))),(t,()))) ?_ ?_ _ rfl) ?_
 · rintro i _ hi rfl
   have hi':i < (tDevs t).len:=by omega
   have hd:=h.de.2.1 i hi'
   simp only [s158_L2,q158_L2,k158_L2_1]
   rw [wI_succ hi (by omega),tN,h109 i hi']
   refine Ok.grd (idx_lt hi) (Ok.grd (idx_in hi) ?_)
   cases q1:((tDevs t).get i == (p:Int)) with
   | true =>
     have k:=hd.1 (eq_of_beq q1)
     have a1:f273 ((sDevs s).get i) = true:=by
      unfold f273
      rw [bif_t (by have:=k.1; simp; omega)]
      have:=k.2.1
      simp; omega
     simp only [a1,oB,Bool.not_true,cond_true,cond_false]
     exact Ok.ret (.inl ⟨_,rfl,rfl⟩)
   | false =>
     obtain ⟨b1,b2⟩:=hd.2 (fun e=>by rw [e] at q1; simp at q1)
     have a1:decide (wI ((((sDevs s).get i).1.len:Int) + (((sDevs s).get i).2.1.len:Int)) > 0) = false:=by
      rw [b1,b2,wI_id (by omega) (by omega)]; rfl
     simp only [a1,oB,Bool.not_true,Bool.not_false,cond_true,cond_false]
     exact Ok.ret (.inl ⟨_,rfl,rfl⟩)
 · rintro _ rfl
   simp only [s158_L2,q158_L2,k158_L2_1]
   exact Ok.no (idx_end (sDevs s).len) (Ok.ret ⟨_,rfl,rfl⟩)
 · rintro _ rfl
   exact Ok.ret rfl
theorem partK {t:Tb} {p:Nat} {s:St} (g:TG t p) (hs:g104 t = some ((true,()),())) (hF:Facts t) (h:PG t p s) (hn:0≤s.2.2.2.2.2.1 ∧ s.2.2.2.2.2.1≤100000):Yes (g60 t (p:Int) s):=by
 have hP:Parts (tParts t) t.1:=hF.2.2.2.2.2.2.2.1
 have hap:∀ k i,k < i→i < ((tParts t).get p).2.2.2.1.len→apart (((tParts t).get p).2.2.2.1.get k) (((tParts t).get p).2.2.2.1.get i):=fun k i h1 h2=>by
  have hpw:(toL ((tParts t).get p).2.2.2.1).Pairwise apart:=by
   have hl:=g.pl
   obtain ⟨r,hr⟩:=winsOf_prefix (tParts t) (i:=p + 1) (n:=(tParts t).len) (by omega) (Nat.le_refl _)
   have:=hP.2
   rw [hr,List.pairwise_append] at this
   have h2:=this.1
   rw [winsOf_succ (tParts t) (by omega),List.pairwise_append] at h2
   exact h2.2.1
  have:=List.pairwise_iff_getElem.mp hpw k i (by rw [toL_len]; omega) (by rw [toL_len]; exact h2) h1
  rw [toL_getElem,toL_getElem] at this
  exact this
 unfold Yes g60
 rw [hs,oB]
 refine Ok.no rfl (Ok.bind (imgK g hF.2.2.2.2.2.2.1.2 h.bo) fun a ha=>?_)
 rw [ha]
 refine Ok.no rfl (Ok.grd (idx_in g.pl) ?_)
 rw [tN]
 refine Ok.bind (gstK (g:=s.1) g.w hap h.gu) fun b hb=>?_
 rw [hb,heK h.he]
 refine Ok.no rfl (Ok.no rfl (Ok.bind (cacK h.ca.2.1) fun c hc=>?_))
 rw [hc]
 refine Ok.no rfl (Ok.no ?_ (Ok.bind (tlbOkK g.tl h.tl) fun d hd=>?_))
 · rw [h.ca.1]; simp
 rw [hd]
 refine Ok.no rfl (Ok.no (by simpa using h.tl.1) (Ok.no ?_ (Ok.bind (endsK g h) fun e he=>Ok.ret he)))
 rw [f157_42,(f42_iff _ _ _).mpr hn]
 rfl
theorem f371_iff (w:Wi) (x:Int) (hw:f326 w = true):f371 w x = true ↔ w.1≤x ∧ x < w.1 + w.2.1:=by
 have h:=(f326_iff w).mp hw
 unfold f371
 rw [wI_id (by omega) (by omega),bif_and]
 simp
theorem winI {ws:L Wi} (hw:WG ws) (x:Int):Ok (g366_371 ws (x,())) fun a=>a = (((-1:Int),()),()) ∨ ∃ i:Nat,a = (((i:Int),()),()) ∧ i < ws.len ∧ f371 (ws.get i) x = true:=by
 have hl:=hw.1
 unfold g366_371
 refine Ok.bind (loopK (R:=fun z=>z = .inr (.inl ((),())) ∨ ∃ i:Nat,z = .inl (((i:Int),()),()) ∧ i < ws.len ∧ f371 (ws.get i) x = true) ws.len (fun i y=>y = ((ws,((x,()),((ws.len:Int),((i:Int),())))),())) ?_ ?_ _ rfl) ?_
 · rintro i _ hi rfl
   simp only [s366_371_L0,q366_371_L0]
   rw [wI_succ hi (by omega),tN]
   exact Ok.grd (idx_lt hi) (Ok.grd (idx_in hi) (Ok.bif (fun h=>Ok.ret (.inr ⟨_,rfl,.inr ⟨i,rfl,hi,h⟩⟩)) fun _=>Ok.ret (.inl ⟨_,rfl,rfl⟩)))
 · rintro _ rfl
   simp only [s366_371_L0,q366_371_L0]
   exact Ok.no (idx_end ws.len) (Ok.ret ⟨_,rfl,.inl rfl⟩)
 · rintro _ (rfl | ⟨i,rfl,hi⟩)
   · exact Ok.ret (.inl rfl)
   · exact Ok.ret (.inr ⟨i,rfl,hi⟩)
theorem atI {ws:L Wi} (hw:WG ws) (x:Int):Ok (g344 ws x) fun a=>a = (((-1:Int),()),()) ∨ ∃ i:Nat,a = (((i:Int),()),()) ∧ i < ws.len ∧ f371 (ws.get i) x = true:=by
 unfold g344
 exact Ok.bind (winI hw x) fun a h=>Ok.ret (by rcases h with rfl | ⟨i,rfl,h⟩; exact .inl rfl; exact .inr ⟨i,rfl,h⟩)
def NoFaultI (ws:L Wi) (x n:Int) (a:(Int×Unit)×Unit):Prop:=(a.1.1 != 0) = false→∃ i:Nat,g344 ws (wI x) = some (((i:Int),()),()) ∧ i < ws.len ∧ 0≤wI x - (ws.get i).1 ∧ wI x - (ws.get i).1 + n≤(ws.get i).2.1 ∧ (ws.get i).2.1≤2048 ∧ 0≤wI x ∧ wI x≤2048
theorem faultI {ws:L Wi} {x n k:Int} (hw:WG ws) (hn:n = 1 ∨ n = 4):Ok (g343 ws x n k) fun a=>(0≤a.1.1 ∧ a.1.1≤9) ∧ NoFaultI ws x n a:=by
 have key:Ok (bif (!decide (n = 0)) then bif ((Int.tmod (wI x) n) != (0:Int)) then some (((1:Int),()),()) else (g344 ws (wI x)).bind fun y=>bif (decide (y.1.1 < (0:Int))) then some (((2:Int),()),()) else bif (decide (0≤y.1.1)&&decide (y.1.1 < (ws.len:Int))) then bif ((andOf .i64 (L.get ws y.1.1.toNat).2.2.1 k) == (0:Int)) then some (((3:Int),()),()) else some (((0:Int),()),()) else none else none) fun a=>(0≤a.1.1 ∧ a.1.1≤9) ∧ NoFaultI ws x n a:=by
  refine Ok.grd (by rcases hn with rfl | rfl <;> decide) (Ok.bif (fun _=>Ok.ret ⟨by decide,fun q=>by cases q⟩) fun h=>?_)
  obtain ⟨a,e,ha⟩:=atI hw (wI x)
  rw [e]
  rcases ha with rfl | ⟨i,rfl,hi,hx⟩
  · exact Ok.ret ⟨by decide,fun q=>by cases q⟩
  · simp only [oB]
    refine Ok.no (by simp) (Ok.grd (idx_in hi) (Ok.bif (fun _=>Ok.ret ⟨by decide,fun q=>by cases q⟩) fun _=>Ok.ret ⟨by decide,fun _=>⟨i,e,hi,?_⟩⟩))
    have h0:Int.tmod (wI x) n = 0:=by simpa using h
    have hx':f369 (ws.get i) (wI x) = true:=(f369_iff _ _ (hw.2 i hi)).mpr ((f371_iff _ _ (hw.2 i hi)).mp hx)
    obtain ⟨p1,p2,p3,p4,p5,_⟩:=placeK hw hn h0 hi hx'
    exact ⟨p1,p2,p5,p3,p4⟩
 unfold g343 k343_1
 exact Ok.bif (fun _=>Ok.bif (fun _=>Ok.ret ⟨by decide,fun q=>by cases q⟩) fun _=>Ok.bif (fun _=>Ok.bif (fun _=>Ok.bif (fun _=>Ok.ret ⟨by decide,fun q=>by cases q⟩) fun _=>key) fun _=>key) fun _=>key) fun _=>Ok.bif (fun _=>Ok.bif (fun _=>Ok.bif (fun _=>Ok.ret ⟨by decide,fun q=>by cases q⟩) fun _=>key) fun _=>key) fun _=>key
theorem or_in (x y:Int):0≤orOf .u32 x y ∧ orOf .u32 x y≤4294967295:=u32_in _
theorem loadI {ws:L Wi} {g:Gu} {x n k:Int} (hw:WG ws) (hg:GuR ws g.1 g.2.2.1) (hn:n = 1 ∨ n = 4):Ok (g277 g ws x n k) fun a=>(0≤a.1.1 ∧ a.1.1≤4294967295) ∧ (0≤a.1.2.1 ∧ a.1.2.1≤9) ∧ ((a.1.2.1 == 0) = true→0≤wI x ∧ wI x≤2048):=by
 obtain ⟨_,_,⟨f1,f2⟩,_⟩:=hg
 unfold g277
 refine Ok.bind (faultI hw hn) ?_
 rintro y ⟨h1,h2⟩
 refine Ok.bif (fun h=>Ok.ret ⟨z0,h1,fun q=>?_⟩) fun h=>?_
 · simp at h q; omega
 obtain ⟨i,e,hi,p1,p2,p3,p4,p5⟩:=h2 h
 have fi:=(f2 i hi).1
 have hir:i < g.2.2.1.len:=by rw [f1]; exact hi
 rw [e]
 simp only [oB]
 generalize wI x = x at *
 rw [tN,wI_id (n:=x - (ws.get i).1) (by omega) (by omega)]
 have fi:((g.2.2.1.get i).len:Int) = (ws.get i).2.1:=fi
 have ec:(L.cut (g.2.2.1.get i) (x - (ws.get i).1).toNat ((g.2.2.1.get i).len:Int).toNat).len = (g.2.2.1.get i).len - (x - (ws.get i).1).toNat:=rfl
 refine Ok.grd (idx_in hir) (Ok.grd (idx_in hi) (Ok.grd (by simp; omega) (Ok.bif (fun q=>Ok.grd ?_ (Ok.ret ⟨u32_in _,z9,fun _=>⟨p4,p5⟩⟩)) fun q=>Ok.grd ?_ ?_)))
 · rw [ec]; simp at q; simp; omega
 · rw [ec]; simp at q; simp; omega
 · have el:(L.cut (L.cut (g.2.2.1.get i) (x - (ws.get i).1).toNat ((g.2.2.1.get i).len:Int).toNat) (0:Int).toNat (4:Int).toNat).len = 4:=rfl
   generalize L.cut (L.cut (g.2.2.1.get i) (x - (ws.get i).1).toNat ((g.2.2.1.get i).len:Int).toNat) (0:Int).toNat (4:Int).toNat = b at el
   refine Ok.bind (Q:=fun a=>0≤a.1.1 ∧ a.1.1≤4294967295) ?_ fun a ha=>Ok.ret ⟨ha,z9,fun _=>⟨p4,p5⟩⟩
   unfold g345
   rw [el]
   exact Ok.no (by decide) (Ok.grd (by decide) (Ok.grd (by decide) (Ok.grd (by decide) (Ok.grd (by decide) (Ok.ret (or_in _ _))))))
theorem setI {ws:L Wi} {g:Gu} {a v:Int} (hg:GuR ws g.1 g.2.2.1) (ha:0≤a ∧ a≤15) (hv:W1 v):Ok (g351p g a v) fun z=>GuR ws z.2.1.1 z.2.1.2.2.1 ∧ z.2.1.2.1 = g.2.1:=by
 obtain ⟨h1,h2,h3,h4,h5⟩:=hg
 unfold g351p
 refine Ok.bif (fun h=>Ok.grd (by rw [h1]; simp; omega) (Ok.ret ⟨⟨h1,?_,h3,h4,h5.set _ hv⟩,rfl⟩)) fun _=>Ok.ret ⟨⟨h1,h2,h3,h4,h5⟩,rfl⟩
 have h:a ≠ 0:=by simpa using h
 show (L.set g.1 a.toNat v).get 0 = 0
 rw [set_ne_get _ _ (by omega)]
 exact h2
theorem storeI {ws:L Wi} {g:Gu} {x n v:Int} (hw:WG ws) (hg:GuR ws g.1 g.2.2.1) (hn:n = 1 ∨ n = 4):Ok (g386p g ws x n v) fun z=>(0≤z.1.1 ∧ z.1.1≤9) ∧ ((z.1.1 == 0) = true→GuR ws z.2.1.1 z.2.1.2.2.1 ∧ 0≤wI x ∧ wI x≤2048) ∧ z.2.1.2.1 = g.2.1:=by
 unfold g386p
 refine Ok.bind (faultI hw hn) ?_
 rintro y ⟨h1,h2⟩
 refine Ok.bif (fun h=>Ok.ret ⟨h1,fun q=>?_,rfl⟩) fun h=>?_
 · simp at h q; omega
 obtain ⟨i,e,hi,p1,p2,p3,p4,p5⟩:=h2 h
 obtain ⟨q1,q2,⟨f1,f2⟩,f3⟩:=hg
 have fi:((g.2.2.1.get i).len:Int) = (ws.get i).2.1:=(f2 i hi).1
 have hir:i < g.2.2.1.len:=by rw [f1]; exact hi
 rw [e]
 simp only [oB]
 generalize wI x = x at *
 rw [tN,wI_id (n:=x - (ws.get i).1) (by omega) (by omega)]
 have eb:((f390r v).len:Int) = 4:=rfl
 refine Ok.grd (idx_in hir) (Ok.grd (idx_in hi) (Ok.grd (by simp; omega) (Ok.grd (by rw [eb]; simp; omega) (Ok.ret ⟨z9,fun _=>⟨⟨q1,q2,⟨f1,fun j hj=>?_⟩,f3⟩,p4,p5⟩,rfl⟩))))
 by_cases q:j = i
 · subst q
   rw [upd_eq_get]
   exact f2 j hj
 · rw [upd_ne_get _ _ q]
   exact f2 j hj
theorem cloneI {ws:L Wi} {g:Gu} (hw:WG ws) (h:GuR ws g.1 g.2.2.1):Ok (g159r g) fun a=>GuR ws a.1.1.1 a.1.1.2.2.1 ∧ a.1.1.2.1 = g.2.1:=by
 obtain ⟨h1,h2,h3,h4,h5⟩:=h
 obtain ⟨r,e,hs,n1,n2⟩:=guest190 g (by omega) (h3.bnd hw) (wl h4) (fun i hi=>wl (h3.2 i (by rw [← h3.1]; exact hi)).2)
 have l16:r.1.len = 16:=hs.1.1.trans h1
 exact ⟨_,e,⟨l16,(hs.1.2 0 (by omega)).trans h2,h3.same hw hs.2.2 n2,n1.no (by omega),WN.same hs.1 h5⟩,hs.2.1⟩
theorem bit_in (b:Bool):W1 (f381 b):=by cases b <;> exact ⟨by decide,by decide⟩
theorem aluI {a b:Int} (ha:W1 a) (hb:W1 b) (o:Int):Ok (g372 o a b) fun y=>W1 y.1.1 ∧ 0≤y.1.2.1 ∧ y.1.2.1≤9:=by
 have hm:decide (0≤Int.tmod b 32) = true:=by
  rw [Int.tmod_eq_emod_of_nonneg hb.1]
  simp; omega
 have hs:Ok (g384 a b) fun y=>W1 y.1.1:=by
  unfold g384
  exact Ok.grd hm (Ok.ret (u32_in _))
 unfold g372
 repeat' (first | (refine Ok.bind hs ?_; intro _ _) | refine Ok.grd hm ?_ | refine Ok.bif (fun _=>?_) (fun _=>?_))
 all_goals first | (exfalso; simp_all; done) | refine Ok.ret ⟨?_,by first | exact z9 | exact z4 | exact z5⟩
 all_goals first | exact u32_in _ | exact shr_in ha | exact bit_in _ | assumption | exact z0
theorem f157_iff (a b c:Int):f157 a b c = true ↔ b≤a ∧ a≤c:=by
 unfold f157
 rw [bif_and]
 simp
theorem formI (x:Int) (h:decide (f378 x < 0) = false):0≤x ∧ x≤32:=by
 apply (f157_iff _ _ _).mp
 cases q:f157 x 0 32 with
 | true=>rfl
 | false =>
   unfold f378 at h
   rw [q] at h
   simp at h
theorem and01 (k:IntKind) (x:Int):(andOf k x 1 == 0) = !(andOf k x 1 == 1):=by
 have e:andOf k x 1 = 0 ∨ andOf k x 1 = 1:=by
  unfold andOf
  have hb:(BitVec.ofInt k.bits x &&&BitVec.ofInt k.bits 1).toNat≤1:=by
   rw [BitVec.toNat_and]
   refine Nat.le_trans Nat.and_le_right ?_
   cases k <;> decide
  generalize (BitVec.ofInt k.bits x &&&BitVec.ofInt k.bits 1).toNat = m at hb
  have:m = 0 ∨ m = 1:=by omega
  rcases this with rfl | rfl <;> cases k <;> decide
 rcases e with e | e <;> rw [e] <;> rfl
theorem instrI (x:Int×(Int×(Int×(Int×(Int×Unit))))):Ok (g349 x) fun y=>y.1.1 = true→(0≤x.1 ∧ x.1≤32) ∧ (0≤x.2.1 ∧ x.2.1≤15) ∧ (0≤x.2.2.1 ∧ x.2.2.1≤15) ∧ (0≤x.2.2.2.1 ∧ x.2.2.2.1≤15):=by
 unfold g349 k349_3 k349_1 k349_2
 refine Ok.bif (fun _=>Ok.ret fun q=>by cases q) fun h=>?_
 have h0:=formI _ h
 have no:∀ {v:Int},(!(f157 v 0 15)) = false→0≤v ∧ v≤15:=fun {v} q=>(f157_iff _ _ _).mp (by simpa using q)
 have ze:∀ {v:Int},(v != 0) = false→0≤v ∧ v≤15:=fun {v} q=>by simp at q; omega
 simp only [and01]
 generalize (andOf .i64 (shrOf .i64 (f378 x.1) 0) 1 == 1) = b0
 generalize (andOf .i64 (shrOf .i64 (f378 x.1) 1) 1 == 1) = b1
 generalize (andOf .i64 (shrOf .i64 (f378 x.1) 2) 1 == 1) = b2
 cases b0 <;> cases b1 <;> cases b2 <;> simp only [Bool.not_true,Bool.not_false,cond_true,cond_false]
 all_goals repeat' (refine Ok.bif (fun _=>?_) (fun _=>?_))
 all_goals refine Ok.ret fun q=>?_
 all_goals first | (cases q; done) | exact ⟨h0,by first | exact no (by assumption) | exact ze (by assumption),by first | exact no (by assumption) | exact ze (by assumption),by first | exact no (by assumption) | exact ze (by assumption)⟩
theorem decodeI (w:Int):Ok (g280 w) fun a=>(0≤a.1.1.1 ∧ a.1.1.1≤32) ∧ (0≤a.1.1.2.1 ∧ a.1.1.2.1≤15) ∧ (0≤a.1.1.2.2.1 ∧ a.1.1.2.2.1≤15) ∧ (0≤a.1.1.2.2.2.1 ∧ a.1.1.2.2.2.1≤15):=by
 unfold g280 k280_1
 refine Ok.bif (fun _=>?_) fun _=>?_
 all_goals
  refine Ok.bind (instrI _) fun b hb=>Ok.bif (fun _=>Ok.ret (by decide)) fun q=>Ok.ret ?_
  exact hb (by simpa using q)
abbrev Sp:Type:=Gu×(Int×(Int×(Int×(Bool×(Bool×Unit)))))
abbrev In5:Type:=Int×(Int×(Int×(Int×(Int×Unit))))
def DoneI (ws:L Wi) (s:Sp) (z:Sp):Prop:=GuR ws z.1.1 z.1.2.2.1 ∧ W1 z.1.2.1 ∧ (z.2.1 = s.2.1 ∧ z.2.2.1 = s.2.2.1) ∧ (-1≤z.2.2.2.1 ∧ z.2.2.2.1≤65535) ∧ z.2.2.2.2.2.1 = s.2.2.2.2.2.1
theorem memI {ws:L Wi} {s:Sp} {i:In5} {x:Int} (hw:WG ws) (hg:GuR ws s.1.1 s.1.2.2.1) (hp:W1 s.1.2.1) (hA:0≤i.2.1 ∧ i.2.1≤15):Ok (g373p s ws i x) fun z=>(0≤z.1.1 ∧ z.1.1≤9) ∧ ((z.1.1 == 0) = true→DoneI ws s z.2.1):=by
 have h16:=hg.1
 have ra:(decide (0≤i.2.1)&&decide (i.2.1 < (s.1.1.len:Int))) = true:=by rw [h16]; simp; omega
 have st:∀ {n v:Int} {b:Bool},(n = 1 ∨ n = 4)→Ok ((g386p s.1 ws x n v).bind fun y=>some ((y.1.1,()),((y.2.1,(s.2.1,(s.2.2.1,(wI x,(b,s.2.2.2.2.2))))),()))) fun z=>(0≤z.1.1 ∧ z.1.1≤9) ∧ ((z.1.1 == 0) = true→DoneI ws s z.2.1):=fun {n v b} hn =>
  Ok.bind (storeI hw hg hn) fun y hy=>Ok.ret ⟨hy.1,fun q=>⟨(hy.2.1 q).1,by show W1 y.2.1.2.1; rw [hy.2.2]; exact hp,⟨rfl,rfl⟩,by have:=(hy.2.1 q).2; show -1≤wI x ∧ wI x≤65535; omega,rfl⟩⟩
 have ld:∀ {n k:Int} {b:Bool},(n = 1 ∨ n = 4)→Ok ((g277 s.1 ws x n k).bind fun y=>(g351p s.1 i.2.1 y.1.1).bind fun u=>some ((y.1.2.1,()),((u.2.1,(s.2.1,(s.2.2.1,(wI x,(b,s.2.2.2.2.2))))),()))) fun z=>(0≤z.1.1 ∧ z.1.1≤9) ∧ ((z.1.1 == 0) = true→DoneI ws s z.2.1):=fun {n k b} hn =>
  Ok.bind (loadI hw hg hn) fun y hy=>Ok.bind (setI hg hA hy.1) fun u hu=>Ok.ret ⟨hy.2.1,fun q=>⟨hu.1,by show W1 u.2.1.2.1; rw [hu.2]; exact hp,⟨rfl,rfl⟩,by have:=hy.2.2 q; show -1≤wI x ∧ wI x≤65535; omega,rfl⟩⟩
 unfold g373p k373p_1
 refine Ok.bif (fun _=>?_) fun _=>Ok.bif (fun _=>?_) fun _=>?_
 all_goals first
  | exact Ok.bif (fun _=>Ok.grd ra (st (.inl rfl))) fun _=>Ok.bif (fun _=>Ok.grd ra (st (.inl rfl))) fun _=>ld (.inl rfl)
  | exact Ok.bif (fun _=>Ok.grd ra (st (.inr rfl))) fun _=>Ok.bif (fun _=>Ok.grd ra (st (.inr rfl))) fun _=>ld (.inr rfl)
theorem ztm {n:Int} (h:n = -1):-1≤n ∧ n≤65535:=by omega
set_option maxHeartbeats 1000000 in
theorem doI {ws:L Wi} {s:Sp} {i:In5} {c:Int} (hw:WG ws) (hg:GuR ws s.1.1 s.1.2.2.1) (hA:0≤i.2.1 ∧ i.2.1≤15) (hB:0≤i.2.2.1 ∧ i.2.2.1≤15) (hC:0≤i.2.2.2.1 ∧ i.2.2.2.1≤15) (ht:s.2.2.2.1 = -1):Ok (g346p s ws i c) fun z=>(0≤z.1.1 ∧ z.1.1≤9) ∧ ((z.1.1 == 0) = true→DoneI ws s z.2.1):=by
 have h16:=hg.1
 have hr:=hg.2.2.2.2
 have ra:(decide (0≤i.2.1)&&decide (i.2.1 < (s.1.1.len:Int))) = true:=by rw [h16]; simp; omega
 have rb:(decide (0≤i.2.2.1)&&decide (i.2.2.1 < (s.1.1.len:Int))) = true:=by rw [h16]; simp; omega
 have rc:(decide (0≤i.2.2.2.1)&&decide (i.2.2.2.1 < (s.1.1.len:Int))) = true:=by rw [h16]; simp; omega
 have wb:=hr i.2.2.1.toNat (by rw [h16]; omega)
 have wc:=hr i.2.2.2.1.toNat (by rw [h16]; omega)
 unfold g346p k346p_1
 refine Ok.grd rb ?_
 repeat' (first
  | (refine Ok.bind (aluI wb wc _) ?_; rintro _ ⟨wa,fa⟩)
  | (refine Ok.bind (setI (g:=(s.1.1,(IntKind.wrap .u32 (s.1.2.1 + 4),s.1.2.2))) hg hA (by first | exact u32_in _ | exact shl_in _ _ | assumption)) ?_; rintro _ ⟨gu,pu⟩)
  | (refine Ok.bind (memI (s:=((s.1.1,(IntKind.wrap .u32 (s.1.2.1 + 4),s.1.2.2)),s.2)) hw hg (u32_in _) hA) ?_; rintro _ ⟨fm,dm⟩)
  | refine Ok.grd ra ?_
  | refine Ok.grd rc ?_
  | refine Ok.bif (fun _=>?_) (fun _=>?_))
 all_goals first
  | exact Ok.ret ⟨fm,dm⟩
  | exact Ok.ret ⟨fa,fun _=>⟨gu,by show W1 _; rw [pu]; exact u32_in _,⟨rfl,rfl⟩,ztm ht,rfl⟩⟩
  | exact Ok.ret ⟨z9,fun _=>⟨gu,by first | exact u32_in _ | (show W1 _; rw [pu]; exact u32_in _),⟨rfl,rfl⟩,ztm ht,rfl⟩⟩
  | exact Ok.ret ⟨z9,fun _=>⟨hg,u32_in _,⟨rfl,rfl⟩,ztm ht,rfl⟩⟩
theorem coreI {ws:L Wi} {g:Gu} (hw:WG ws) (hg:GuR ws g.1 g.2.2.1) (hp:W1 g.2.1) (c:Int):Ok (g278r ws g c) fun z=>GuR ws z.1.1.1.1 z.1.1.1.2.2.1 ∧ W1 z.1.1.1.2.1 ∧ (0≤z.1.1.2.1 ∧ z.1.1.2.1≤9) ∧ (-1≤z.1.1.2.2.1 ∧ z.1.1.2.2.1≤32) ∧ (-1≤z.1.1.2.2.2.1 ∧ z.1.1.2.2.2.1≤65535):=by
 unfold g278r
 refine Ok.bind (cloneI hw hg) fun a ha=>Ok.bind (loadI hw ha.1 (.inr rfl)) fun y hy=>?_
 have pa:W1 a.1.1.2.1:=by rw [ha.2]; exact hp
 refine Ok.bif (fun _=>Ok.ret ⟨ha.1,pa,hy.2.1,zm,zt⟩) fun _=>Ok.bind (decodeI _) fun d hd=>?_
 obtain ⟨d1,d2,d3,d4⟩:=hd
 have hop:-1≤d.1.1.1 ∧ d.1.1.1≤32:=by omega
 refine Ok.bif (fun _=>Ok.ret ⟨ha.1,pa,z4,zm,zt⟩) fun _=>Ok.bif (fun _=>Ok.ret ⟨ha.1,pa,z9,hop,zt⟩) fun _=>?_
 refine Ok.bind (doI (s:=(a.1.1,((0:Int),(d.1.1.1,((-1:Int),(false,(false,()))))))) hw ha.1 d2 d3 d4 rfl) fun z hz=>Ok.bif (fun _=>Ok.bind (cloneI hw hg) fun b hb=>Ok.ret ⟨hb.1,by show W1 b.1.1.2.1; rw [hb.2]; exact hp,hz.1,hop,zt⟩) fun q=>?_
 obtain ⟨k1,k2,⟨k3,k4⟩,k5,k6⟩:=hz.2 (by simpa using q)
 exact Ok.ret ⟨k1,k2,by rw [k3]; exact z9,by rw [k4]; exact hop,k5⟩
theorem ctnI {x:L Int} (h:x.len≤1000) (v:Int):Ok (g268 x v) fun a=>a.1.1 = false→∀ i,i < x.len→x.get i ≠ v:=by
 have key:Ok (fixO s342_L0 ((x,(v,((x.len:Int),((0:Int),())))),())) fun z=>(∃ i:Nat,z = .inl (((i:Int),()),())) ∨ (z = .inr (.inl ((),())) ∧ ∀ i,i < x.len→x.get i ≠ v):=by
  refine loopK x.len (fun i z=>z = ((x,(v,((x.len:Int),((i:Int),())))),()) ∧ ∀ j,j < i→x.get j ≠ v) ?_ ?_ _ ⟨rfl,fun j hj=>absurd hj (Nat.not_lt_zero j)⟩
  · rintro i _ hi ⟨rfl,ha⟩
    simp only [s342_L0,q342_L0]
    rw [wI_succ hi (by omega),tN]
    refine Ok.grd (idx_lt hi) (Ok.grd (idx_in hi) (Ok.bif (fun _=>Ok.ret (.inr ⟨_,rfl,.inl ⟨i,rfl⟩⟩)) fun q=>Ok.ret (.inl ⟨_,rfl,rfl,fun j hj=>?_⟩)))
    rcases Nat.lt_or_eq_of_le (Nat.le_of_lt_succ hj) with e | rfl
    · exact ha j e
    · exact fun e=>by rw [e] at q; simp at q
  · rintro _ ⟨rfl,ha⟩
    simp only [s342_L0,q342_L0]
    exact Ok.no (idx_end x.len) (Ok.ret ⟨_,rfl,.inr ⟨rfl,ha⟩⟩)
 unfold g268 g342
 refine Ok.bind (Q:=fun a=>(decide (a.1.1 ≥ (0:Int))) = false→∀ i,i < x.len→x.get i ≠ v) (Ok.bind key ?_) fun a ha=>Ok.ret ha
 rintro _ (⟨i,rfl⟩ | ⟨rfl,h⟩)
 · exact Ok.ret fun q=>by simp at q
 · exact Ok.ret fun _=>h
theorem tlbI {n:Int} {x:Tl} {a:Int} (hn:1≤n ∧ n≤8) (h:TlG n x) (ha:0≤a ∧ a≤65535):Ok (g347p x a) fun z=>TlG n z.2.1:=by
 obtain ⟨h1,h2,h3,h4,h5⟩:=h
 have hp:Pgs x.2.1:=⟨h3,h4⟩
 have hl:x.2.1.len≤8:=by omega
 have ep:wI (Int.tdiv a 64) = a / 64:=by rw [Int.tdiv_eq_ediv_of_nonneg ha.1,wI_id (by omega) (by omega)]
 unfold g347p
 rw [ep]
 refine Ok.bind (ctnI (by omega) _) fun y hy=>Ok.bif (fun _=>Ok.ret ⟨h1,h2,h3,h4,h5⟩) fun q=>Ok.grd (fit1 (by omega)) ?_
 have hp1:=hp.add (a:=a / 64) (by omega) (hy q) (Ty.zero (.int .i64))
 have e1:(L.app x.2.1 (L.of (Ty.zero (.int .i64)) [a / 64])).len = x.2.1.len + 1:=rfl
 have w1:WL (L.app x.2.1 (L.of (Ty.zero (.int .i64)) [a / 64])):=wl (by show (x.2.1.nil&&false) = false; cases x.2.1.nil <;> rfl)
 generalize L.app x.2.1 (L.of (Ty.zero (.int .i64)) [a / 64]) = V at hp1 e1 w1 ⊢
 have hp2:=hp1.cut V.len (Nat.le_refl _)
 refine Ok.bif (fun k=>Ok.grd (by simp; omega) (Ok.ret ⟨h1,?_,hp2.1,hp2.2,fun q=>?_⟩)) fun k=>Ok.ret ⟨h1,?_,hp1.1,hp1.2,w1⟩
 · show ((((V.len:Int).toNat - 1:Nat)):Int)≤n
   omega
 · show (V.len:Int).toNat - 1 = 0
   have:=w1 q
   omega
 · have k:¬ ((V.len:Int) > x.1):=by simpa using k
   show (V.len:Int)≤n
   omega
theorem wayI {row:L Wy} (hl:row.len≤1000) (T:Int):Ok (g267 row T) fun a=>(a.1.1 = -1 ∧ ∀ i,i < row.len→(row.get i).1 ≠ T) ∨ ∃ k:Nat,a.1.1 = (k:Int) ∧ k < row.len ∧ (row.get k).1 = T:=by
 unfold g267 g340_341
 have key:Ok (fixO s340_341_L0 ((row,((T,()),((row.len:Int),((0:Int),())))),())) fun z=>(∃ k:Nat,z = .inl (((k:Int),()),()) ∧ k < row.len ∧ (row.get k).1 = T) ∨ (z = .inr (.inl ((),())) ∧ ∀ i,i < row.len→(row.get i).1 ≠ T):=by
  refine loopK row.len (fun k z=>z = ((row,((T,()),((row.len:Int),((k:Int),())))),()) ∧ ∀ j,j < k→(row.get j).1 ≠ T) ?_ ?_ _ ⟨rfl,fun j hj=>absurd hj (Nat.not_lt_zero j)⟩
  · rintro k _ hk ⟨rfl,ha⟩
    simp only [s340_341_L0,q340_341_L0]
    rw [wI_succ hk (by omega),tN]
    refine Ok.grd (idx_lt hk) (Ok.grd (idx_in hk) (Ok.bif (fun q=>Ok.ret (.inr ⟨_,rfl,.inl ⟨k,rfl,hk,eq_of_beq q⟩⟩)) fun q=>Ok.ret (.inl ⟨_,rfl,rfl,fun j hj=>?_⟩)))
    rcases Nat.lt_or_eq_of_le (Nat.le_of_lt_succ hj) with e | rfl
    · exact ha j e
    · have q:((row.get j).1 == T) = false:=q
      simpa using q
  · rintro _ ⟨rfl,ha⟩
    simp only [s340_341_L0,q340_341_L0]
    exact Ok.no (idx_end row.len) (Ok.ret ⟨_,rfl,.inr ⟨rfl,ha⟩⟩)
 refine Ok.bind (Q:=fun a=>(a.1.1 = -1 ∧ ∀ i,i < row.len→(row.get i).1 ≠ T) ∨ ∃ k:Nat,a.1.1 = (k:Int) ∧ k < row.len ∧ (row.get k).1 = T) (Ok.bind key ?_) fun a ha=>Ok.ret ha
 rintro _ (⟨k,rfl,h⟩ | ⟨rfl,h⟩)
 · exact Ok.ret (.inr ⟨k,rfl,h⟩)
 · exact Ok.ret (.inl ⟨rfl,h⟩)
theorem RowG.del {wy:Int} {row:L Wy} (h:RowG wy row) {k:Nat} (hk:k < row.len):RowG wy (delL row k) ∧ (delL row k).len < row.len ∧ ∀ j,j < (delL row k).len→((delL row k).get j).1 ≠ (row.get k).1:=by
 obtain ⟨h1,h2,h3⟩:=h
 have el:=delL_len hk
 have eg:∀ j,j < (delL row k).len→∃ m,m < row.len ∧ (delL row k).get j = row.get m ∧ ((j < k ∧ m = j) ∨ (k≤j ∧ m = j + 1)):=fun j hj=>by
  by_cases q:j < k
  · exact ⟨j,by omega,delL_lt q,.inl ⟨q,rfl⟩⟩
  · exact ⟨j + 1,by omega,delL_ge (by omega),.inr ⟨by omega,rfl⟩⟩
 refine ⟨⟨by omega,fun j hj=>?_,fun i j hij hj=>?_⟩,by omega,fun j hj=>?_⟩
 · obtain ⟨m,m1,m2,_⟩:=eg j hj
   rw [m2]; exact h2 m m1
 · obtain ⟨m,m1,m2,m3⟩:=eg j hj
   obtain ⟨l,l1,l2,l3⟩:=eg i (by omega)
   rw [m2,l2]
   exact h3 l m (by omega) m1
 · obtain ⟨m,m1,m2,m3⟩:=eg j hj
   rw [m2]
   rcases m3 with ⟨a,b⟩ | ⟨a,b⟩
   · exact h3 m k (by omega) hk
   · exact fun e=>h3 k m (by omega) m1 e.symm
theorem RowG.ins {wy:Int} {row:L Wy} (h:RowG wy row) {v:L Wy} (hv:v.len = 1) (ht:0≤(v.get 0).1 ∧ (v.get 0).1≤65535) (hn:∀ j,j < row.len→(row.get j).1 ≠ (v.get 0).1):RowG (wy + 1) (insL row v):=by
 obtain ⟨h1,h2,h3⟩:=h
 have el:=insL_len row v hv
 refine ⟨by omega,fun j hj=>?_,fun i j hij hj=>?_⟩
 · cases j with
   | zero=>rw [insL_0 hv]; exact ht
   | succ j=>rw [insL_s hv]; exact h2 j (by omega)
 · cases j with
   | zero=>omega
   | succ j =>
     rw [insL_s hv]
     cases i with
     | zero=>rw [insL_0 hv]; exact fun e=>hn j (by omega) e.symm
     | succ i=>rw [insL_s hv]; exact h3 i j (by omega) (by omega)
theorem insI {wy:Int} {row v:L Wy} (h:RowG wy row) (hw:wy≤1000) (hv:v.len = 1) (ht:0≤(v.get 0).1 ∧ (v.get 0).1≤65535) (hn:∀ j,j < row.len→(row.get j).1 ≠ (v.get 0).1):Ok (gIn row 0 v) fun a=>a = ((insL row v,()),()):=by
 have h1:=h.1
 unfold gIn
 rw [if_pos ⟨rfl,hv,by have e:most = 4294967296:=(by decide); omega⟩]
 exact Ok.ret rfl
theorem wlIns {row v:L Wy} (hv:v.nil = false):WL (insL row v):=wl (by show (v.nil&&_) = false; rw [hv]; rfl)
theorem CaG.set {c:Ca} (h:CaG c) (hw:∀ i,i < c.2.1.len→WL (c.2.1.get i)) {r:Nat} {row:L Wy} (hr:RowG c.1.2.1 row) (hl:WL row):CaG (c.1,((L.set c.2.1 r row),())) ∧ ∀ i,i < (L.set c.2.1 r row).len→WL ((L.set c.2.1 r row).get i):=by
 refine ⟨⟨h.1,h.2.1,fun i hi=>?_⟩,fun i hi=>?_⟩
 · show RowG c.1.2.1 ((L.set c.2.1 r row).get i)
   by_cases q:i = r
   · subst q; rw [set_eq_get]; exact hr
   · rw [set_ne_get _ _ q]; exact h.2.2 i hi
 · by_cases q:i = r
   · subst q; rw [set_eq_get]; exact hl
   · rw [set_ne_get _ _ q]; exact hw i hi
set_option maxHeartbeats 1000000 in
theorem cacheI {c:Ca} {a:Int} {w:Bool} (h:CaG c) (hw:∀ i,i < c.2.1.len→WL (c.2.1.get i)) (ha:0≤a ∧ a≤65535):Ok (g348p c a w) fun z=>z.2.1.1 = c.1 ∧ CaG z.2.1 ∧ ∀ i,i < z.2.1.2.1.len→WL (z.2.1.2.1.get i):=by
 have h':=h
 obtain ⟨hs,hl,hr⟩:=h'
 obtain ⟨s1,s2,s3⟩:=shapeG hs
 obtain ⟨u1,u2,u3,u4,u5,u6⟩:=tagG ha s3.1 s1.1
 obtain ⟨R,hR,hRl⟩:∃ R:Nat,Int.tmod (a / c.1.2.2.1) c.1.1 = R ∧ R < c.2.1.len:=by
  rw [Int.tmod_eq_emod_of_nonneg u2]
  have m1:=Int.emod_nonneg (a / c.1.2.2.1) (b:=c.1.1) (by omega)
  have m2:=Int.emod_lt_of_pos (a / c.1.2.2.1) (b:=c.1.1) (by omega)
  exact ⟨_,(Int.toNat_of_nonneg m1).symm,by omega⟩
 have row:=hr R hRl
 have iR:=idx_in hRl
 have hsz:(!decide (c.1.1 = 0)) = true:=by simp; omega
 have hln:(!decide (c.1.2.2.1 = 0)) = true:=by simp; omega
 have fnd:Ok (g375 c a) fun y=>y.1.1 = (R:Int) ∧ ((y.1.2.1 = -1 ∧ ∀ i,i < (c.2.1.get R).len→((c.2.1.get R).get i).1 ≠ a / c.1.2.2.1 / c.1.1) ∨ ∃ k:Nat,y.1.2.1 = (k:Int) ∧ k < (c.2.1.get R).len ∧ ((c.2.1.get R).get k).1 = a / c.1.2.2.1 / c.1.1):=by
  unfold g375
  rw [u1,u4,hR,tN]
  exact Ok.grd hln (Ok.grd hsz (Ok.grd iR (Ok.grd hsz (Ok.bind (wayI (by have:=row.1; omega) _) fun y hy=>Ok.ret ⟨rfl,hy⟩))))
 unfold g348p k348p_1
 refine Ok.bind fnd ?_
 rintro ⟨⟨y1,y2,⟨⟩⟩,⟨⟩⟩ ⟨e1,e2⟩
 dsimp only at e1 e2 ⊢
 subst e1
 simp only [tN]
 refine Ok.grd iR ?_
 have rl:=row.1
 rcases e2 with ⟨rfl,hn⟩ | ⟨k,rfl,hk,ht⟩
 · refine Ok.no (by simp) (Ok.grd hln (Ok.grd hsz ?_))
   rw [u1,u4]
   have hv:∀ z:Wy,(L.of z [(a / c.1.2.2.1 / c.1.1,(w,()))]).len = 1 ∧ (L.of z [(a / c.1.2.2.1 / c.1.1,(w,()))]).get 0 = (a / c.1.2.2.1 / c.1.1,(w,())):=fun _=>⟨rfl,rfl⟩
   refine Ok.bind (insI row (by omega) (hv _).1 ⟨u5,u6⟩ hn) ?_
   rintro _ rfl
   have g:=row.ins (hv (Ty.zero (.pair (.int .i64) (.pair .bool .unit)))).1 ⟨u5,u6⟩ hn
   have el:=insL_len (c.2.1.get R) (L.of (Ty.zero (.pair (.int .i64) (.pair .bool .unit))) [(a / c.1.2.2.1 / c.1.1,(w,()))]) rfl
   have wl':=wlIns (row:=c.2.1.get R) (v:=L.of (Ty.zero (.pair (.int .i64) (.pair .bool .unit))) [(a / c.1.2.2.1 / c.1.1,(w,()))]) rfl
   dsimp only
   generalize insL (c.2.1.get R) (L.of (Ty.zero (.pair (.int .i64) (.pair .bool .unit))) [(a / c.1.2.2.1 / c.1.1,(w,()))]) = N at g el wl' ⊢
   have ew:wI ((N.len:Int) - 1) = ((N.len - 1:Nat):Int):=by rw [wI_id (by omega) (by omega)]; omega
   rw [ew,tN]
   refine Ok.bif (fun q=>Ok.grd (by simp; omega) (Ok.grd (by simp) (Ok.grd iR (Ok.grd (Nat.beq_refl R) (Ok.ret ⟨rfl,h.set hw ?_ (fun q=>?_)⟩))))) fun q=>Ok.grd iR (Ok.grd (Nat.beq_refl R) (Ok.ret ⟨rfl,h.set hw ⟨?_,g.2.1,g.2.2⟩ wl'⟩))
   · have q:((N.len - 1:Nat):Int) = c.1.2.1:=eq_of_beq q
     have eg:∀ j,(L.cut N (0:Int).toNat (N.len - 1)).get j = N.get j:=fun j=>congrArg N.get (Nat.zero_add j)
     have ec:(L.cut N (0:Int).toNat (N.len - 1)).len = N.len - 1:=rfl
     exact ⟨by rw [ec]; omega,fun j hj=>by rw [eg]; exact g.2.1 j (by omega),fun i j hij hj=>by rw [eg,eg]; exact g.2.2 i j hij (by omega)⟩
   · have:=wl' q
     omega
   · have q:¬ (((N.len - 1:Nat):Int) = c.1.2.1):=by simpa using q
     omega
 · have hw1:wI ((k:Int) + 1) = (k:Int) + 1:=wI_id (by omega) (by omega)
   have key:∀ b:Bool,Ok ((gDe (c.2.1.get R) (k:Int) (wI ((k:Int) + 1))).bind fun y901=>(gIn y901.1.1 (0:Int) (L.of (Ty.zero (.pair (.int .i64) (.pair .bool .unit))) [(((c.2.1.get R).get k).1,(b,()))])).bind fun y902=>bif (decide (0≤(R:Int))&&decide ((R:Int) < (c.2.1.len:Int))) then bif Nat.beq R R then some ((true,false,()),((c.1,((L.set c.2.1 R y902.1.1),())),())) else none else none) fun z=>z.2.1.1 = c.1 ∧ CaG z.2.1 ∧ ∀ i,i < z.2.1.2.1.len→WL (z.2.1.2.1.get i):=fun b=>by
    obtain ⟨g1,g2,g3⟩:=row.del hk
    unfold gDe
    rw [if_pos ⟨by omega,by omega,hw1⟩,tN,oB]
    have tr:=row.2.1 k hk
    refine Ok.bind (insI g1 (by omega) rfl tr g3) ?_
    rintro _ rfl
    have g:=g1.ins (v:=L.of (Ty.zero (.pair (.int .i64) (.pair .bool .unit))) [(((c.2.1.get R).get k).1,(b,()))]) rfl tr g3
    have el:=insL_len (delL (c.2.1.get R) k) (L.of (Ty.zero (.pair (.int .i64) (.pair .bool .unit))) [(((c.2.1.get R).get k).1,(b,()))]) rfl
    exact Ok.grd iR (Ok.grd (Nat.beq_refl R) (Ok.ret ⟨rfl,h.set hw ⟨by rw [el]; omega,g.2.1,g.2.2⟩ (wlIns rfl)⟩))
   simp only [tN]
   refine Ok.grd (by simp) (Ok.grd (idx_in hk) (Ok.bif (fun _=>key true) fun _=>key w))
def accT (t:Tb):Int:=t.2.2.2.1.2.2.2.1 + t.2.2.2.1.2.2.2.2.1 + t.2.2.2.1.2.2.2.2.2.2.1
theorem accB {t:Tb} (hc:f249 t.2.2.2.1 = true) (x:Bool×(Bool×(Bool×Unit))):0≤f101 t.2.2.2.1 x ∧ f101 t.2.2.2.1 x≤accT t:=by
 obtain ⟨a,b,d,⟨⟩⟩:=x
 have h:=costs_of hc
 have e:=acc_of hc a b d
 rw [f253_101 hc] at e
 rw [e]
 unfold accT
 cases a <;> cases b <;> cases d <;> simp <;> omega
theorem accessI {t:Tb} {p:Nat} {s:St} {a:Int} {w:Bool} (g:TG t p) (h:PG t p s) (ha:0≤a ∧ a≤65535):Ok (g279p s t a w) fun z=>(0≤z.1.1 ∧ z.1.1≤accT t) ∧ PG t p z.2.1:=by
 unfold g279p
 refine Ok.bind (tlbI g.tl h.tl ha) fun y hy=>Ok.bind (cacheI h.ca.2.1 h.ca.2.2 ha) fun u hu=>Ok.ret ⟨accB g.co _,h.gu,h.he,⟨hu.1.trans h.ca.1,hu.2⟩,hy,h.bo,h.ou,h.is,h.de,h.vp,h.pw⟩
theorem opB {c:Co} (hc:f249 c = true) {o:Int} (h:0≤o ∧ o≤32):1≤f100 c o ∧ f100 c o≤70:=by
 have:=costs_of hc
 unfold f100
 cases (o == 9) <;> cases (o == 10) <;> cases f157 o 15 18 <;> cases decide (o ≥ 25) <;> simp only [cond_true,cond_false] <;> (try simp (disch:=omega) only [wI_sm]) <;> omega
theorem immI {m:Int} {n:Nat} (hn:n≤8) (h:f157 m 0 (wI ((n:Int) - 1)) = true):∃ k:Nat,m = k ∧ k < n:=by
 have:=(f157_iff _ _ _).mp h
 rw [wI_id (by omega) (by omega)] at this
 exact ⟨m.toNat,by omega,by omega⟩
theorem hasOutI {t:Tb} {p:Nat} (g:TG t p) (m:Int):Ok (g269 t (p:Int) m) fun a=>a.1.1 = true→∃ k:Nat,m = k ∧ k < (tChans t).len ∧ ((tChans t).get k).2.1 = p:=by
 unfold g269
 refine Ok.bif (fun q=>?_) fun _=>Ok.ret fun q=>by cases q
 obtain ⟨k,rfl,hk⟩:=immI (n:=(tChans t).len) g.ch.1 q
 rw [tN]
 exact Ok.grd (idx_in hk) (Ok.ret fun q=>⟨k,rfl,hk,eq_of_beq q⟩)
theorem hasInI {t:Tb} {p:Nat} (g:TG t p) (m:Int):Ok (g271 t (p:Int) m) fun a=>a.1.1 = true→∃ k:Nat,m = k ∧ k < (tChans t).len ∧ ((tChans t).get k).2.2.1 = p:=by
 unfold g271
 refine Ok.bif (fun q=>?_) fun _=>Ok.ret fun q=>by cases q
 obtain ⟨k,rfl,hk⟩:=immI (n:=(tChans t).len) g.ch.1 q
 rw [tN]
 exact Ok.grd (idx_in hk) (Ok.ret fun q=>⟨k,rfl,hk,eq_of_beq q⟩)
theorem hasDevI {t:Tb} {p:Nat} (g:TG t p) (m:Int):Ok (g219 t (p:Int) m) fun a=>a.1.1 = true→∃ k:Nat,m = k ∧ k < (tDevs t).len ∧ (tDevs t).get k = p:=by
 unfold g219
 refine Ok.bif (fun q=>?_) fun _=>Ok.ret fun q=>by cases q
 obtain ⟨k,rfl,hk⟩:=immI (n:=(tDevs t).len) g.dv q
 rw [tN]
 exact Ok.grd (idx_in hk) (Ok.ret fun q=>⟨k,rfl,hk,eq_of_beq q⟩)
theorem sendI {r:Ch} {o:Oe} {v:Int} (hv:W1 v) (h:OutP r o):Ok (g350p o r v) fun a=>OutP r a.2.1:=by
 obtain ⟨h1,h2,h3,h4⟩:=h
 have hc:=chan_of h1
 unfold g350p
 refine Ok.bif (fun q=>Ok.ret ⟨h1,fun z=>⟨(h2 z).1,Nat.le_refl 1⟩,fun k=>absurd (by simpa using q) k,wl rfl,WN.one hv⟩) fun q=>Ok.bif (fun _=>Ok.ret ⟨h1,h2,h3,h4⟩) fun hr=>?_
 have q:r.1 ≠ 0:=by simpa using q
 obtain ⟨a1,a2⟩:=h3 q
 refine Ok.grd (fit1 (by omega)) (Ok.ret ⟨h1,fun k=>absurd k q,fun _=>⟨a1,?_⟩,wlApp h4.1,h4.2.app (WN.one hv)⟩)
 have e:f380 r o = wI (wI (r.2.2.2.1 - o.1) - (o.2.1.len:Int)):=by
  have q':(r.1 == 0) = false:=by simpa using q
  unfold f380
  rw [q']; rfl
 rw [e,wI_id (n:=r.2.2.2.1 - o.1) (by omega) (by omega),wI_id (by omega) (by omega)] at hr
 have hr:¬ (r.2.2.2.1 - o.1 - (o.2.1.len:Int) = 0):=by simpa using hr
 show o.1 + ((o.2.1.len + 1:Nat):Int)≤_
 omega
theorem wiCut {x:L Int} (h:WI x) {n:Nat} (hn:n≤x.len):WI (L.cut x 1 n):=⟨fun q=>by have:=h.1 q; show n - 1 = 0; omega,h.2.cut hn⟩
theorem recvI {r:Ch} {o:Ie} (h:InP r o):Ok (g352p o r) fun a=>InP r a.2.1 ∧ W1 a.1.1:=by
 obtain ⟨h1,h2,h3,h4⟩:=h
 have hc:=chan_of h1
 unfold g352p
 refine Ok.bif (fun _=>Ok.ret ⟨⟨h1,h2,h3,h4⟩,z0⟩) fun hn=>?_
 have hn:¬ ((o.1.len:Int) = 0):=by simpa using hn
 refine Ok.grd (by simp; omega) (Ok.bif (fun q=>Ok.grd (by simp; omega) (Ok.ret ⟨⟨h1,fun k=>absurd k (by have e:r.1 = 1:=(by simpa using q); omega),fun k=>?_,wiCut h4 (by omega)⟩,h4.2 0 (by omega)⟩)) fun _=>Ok.ret ⟨⟨h1,h2,h3,h4⟩,h4.2 0 (by omega)⟩)
 have:=h3 k
 show ((((o.1.len:Int).toNat - 1:Nat)):Int)≤_
 omega
theorem readI {d:De} (h:DevP d):Ok (g353p d) fun a=>DevP a.2.1 ∧ W1 a.1.1:=by
 have h':=h
 obtain ⟨h1,h2,h3,h4⟩:=h'
 unfold g353p
 refine Ok.bif (fun _=>Ok.ret ⟨h,z0⟩) fun hn=>?_
 have hn:¬ ((d.2.1.len:Int) = 0):=by simpa using hn
 refine Ok.grd (by simp; omega) (Ok.grd (by simp; omega) (Ok.ret ⟨⟨h1,?_,h3,wiCut h4 (by omega)⟩,h4.2 0 (by omega)⟩))
 show (d.2.1.len:Int).toNat - 1≤8
 omega
theorem csrRI {v:Vi} (h:VP v) (n c:Int):Ok (g354 v n c) fun a=>W1 a.1.1:=by
 obtain ⟨h1,h2,h3,h4,h5⟩:=h
 unfold g354
 repeat' (refine Ok.bif (fun _=>?_) (fun _=>?_))
 all_goals refine Ok.ret ?_
 all_goals first | assumption | exact bit_in _ | exact u32_in _ | exact z0
theorem csrWI {v:Vi} (h:VP v) (n:Int) {x:Int} (hx:W1 x):Ok (g355 v n x) fun a=>VP a.1.1:=by
 obtain ⟨h1,h2,h3,h4,h5⟩:=h
 unfold g355
 repeat' (refine Ok.bif (fun _=>?_) (fun _=>?_))
 all_goals exact Ok.ret ⟨by assumption,by assumption,h3,by assumption,h5⟩
theorem leaveI {v:Vi} (h:VP v):Ok (g356 v) fun a=>VP a.1.1 ∧ W1 a.1.2.1:=by
 obtain ⟨h1,h2,h3,h4,h5⟩:=h
 unfold g356
 exact Ok.bif (fun _=>Ok.ret ⟨⟨h1,h2,h3,h4,h5⟩,z0⟩) fun _=>Ok.ret ⟨⟨h1,h2,h3,h4,h5⟩,h2⟩
set_option maxHeartbeats 2000000 in
theorem callI {t:Tb} {p:Nat} {s:St} {i:In5} {c:Int} (g:TG t p) (h:PG t p s) (hA:0≤i.2.1 ∧ i.2.1≤15) (hB:0≤i.2.2.1 ∧ i.2.2.1≤15):Ok (g281p s t (p:Int) c i) fun z=>(0≤z.1.1 ∧ z.1.1≤9) ∧ PG t p z.2.1:=by
 have h16:=h.gu.1
 have hr:=h.gu.2.2.2.2
 have ra:(decide (0≤i.2.1)&&decide (i.2.1 < (s.1.1.len:Int))) = true:=by rw [h16]; simp; omega
 have rb:(decide (0≤i.2.2.1)&&decide (i.2.2.1 < (s.1.1.len:Int))) = true:=by rw [h16]; simp; omega
 have wa:=hr i.2.1.toNat (by rw [h16]; omega)
 have wb:=hr i.2.2.1.toNat (by rw [h16]; omega)
 have one:∀ {v:Int},W1 v→Ok (g351p s.1 i.2.1 v) fun z=>GuR ((tParts t).get p).2.2.2.1 z.2.1.1 z.2.1.2.2.1 ∧ z.2.1.2.1 = s.1.2.1:=fun {v} hv=>setI (g:=s.1) h.gu hA hv
 unfold g281p k281p_1
 refine Ok.bif (fun _=>Ok.bind (hasOutI g _) fun y hy=>Ok.bif (fun q=>?_) fun _=>Ok.bind (one z33) fun z hz=>Ok.ret ⟨z9,hz.1,h.he,h.ca,h.tl,h.bo,h.ou,h.is,h.de,h.vp,u32_in _⟩) fun _ =>
  Ok.bif (fun _=>Ok.bind (hasInI g _) fun y hy=>Ok.bif (fun q=>?_) fun _=>Ok.bind (one z33) fun z hz=>Ok.bind (setI hz.1 hB z0) fun u hu=>Ok.ret ⟨z9,hu.1,h.he,h.ca,h.tl,h.bo,h.ou,h.is,h.de,h.vp,u32_in _⟩) fun _ =>
  Ok.bif (fun _=>Ok.bind (hasDevI g _) fun y hy=>Ok.bif (fun q=>?_) fun _=>Ok.bind (one z33) fun z hz=>Ok.bind (setI hz.1 hB z0) fun u hu=>Ok.ret ⟨z9,hu.1,h.he,h.ca,h.tl,h.bo,h.ou,h.is,h.de,h.vp,u32_in _⟩) fun _ =>
  Ok.bif (fun _=>Ok.bind (csrRI h.vp _ _) fun y hy=>Ok.bif (fun _=>Ok.ret ⟨z7,h⟩) fun _=>Ok.bind (one hy) fun z hz=>Ok.ret ⟨z9,hz.1,h.he,h.ca,h.tl,h.bo,h.ou,h.is,h.de,h.vp,u32_in _⟩) fun _ =>
  Ok.bif (fun _=>Ok.grd ra (Ok.bind (csrWI h.vp _ wa) fun y hy=>Ok.bif (fun _=>Ok.ret ⟨z7,h⟩) fun _=>Ok.ret ⟨z9,h.gu,h.he,h.ca,h.tl,h.bo,h.ou,h.is,h.de,hy,u32_in _⟩)) fun _ =>
  Ok.bif (fun _=>Ok.bind (leaveI h.vp) fun y hy=>Ok.bif (fun _=>Ok.ret ⟨z8,h⟩) fun _=>Ok.ret ⟨z9,h.gu,h.he,h.ca,h.tl,h.bo,h.ou,h.is,h.de,hy.1,hy.2⟩) fun _ =>
  Ok.bif (fun _=>Ok.ret ⟨z9,h.gu,h.he,h.ca,h.tl,h.bo,h.ou,h.is,h.de,h.vp,u32_in _⟩) fun _=>Ok.ret ⟨z6,h⟩
 · obtain ⟨k,e,hk,hp⟩:=hy q
   rw [e,tN]
   exact Ok.grd (idx_in (by rw [← h.ou.1] at hk; exact hk)) (Ok.grd (idx_in hk) (Ok.grd rb (Ok.bind (sendI (o:=(sOuts s).get k) wb ((h.ou.2.1 k hk).1 hp)) fun u hu=>Ok.bind (one (u32_in _)) fun z hz=>Ok.ret ⟨z9,hz.1,h.he,h.ca,h.tl,h.bo,h.ou.set hk hp hu,h.is,h.de,h.vp,u32_in _⟩)))
 · obtain ⟨k,e,hk,hp⟩:=hy q
   rw [e,tN]
   exact Ok.grd (idx_in (by rw [← h.is.1] at hk; exact hk)) (Ok.grd (idx_in hk) (Ok.bind (recvI (o:=(sIns s).get k) ((h.is.2.1 k hk).1 hp)) fun u hu=>Ok.bind (one (u32_in _)) fun z hz=>Ok.bind (setI hz.1 hB hu.2) fun v hv=>Ok.ret ⟨z9,hv.1,h.he,h.ca,h.tl,h.bo,h.ou,h.is.set hk hp hu.1,h.de,h.vp,u32_in _⟩))
 · obtain ⟨k,e,hk,hp⟩:=hy q
   rw [e,tN]
   exact Ok.grd (idx_in (by rw [← h.de.1] at hk; exact hk)) (Ok.bind (readI (d:=(sDevs s).get k) ((h.de.2.1 k hk).1 hp)) fun u hu=>Ok.bind (one (u32_in _)) fun z hz=>Ok.bind (setI hz.1 hB hu.2) fun v hv=>Ok.ret ⟨z9,hv.1,h.he,h.ca,h.tl,h.bo,h.ou,h.is,h.de.set hk hp hu.1,h.vp,u32_in _⟩)
theorem EndsO.clear0 {t:Tb} {p:Nat} {x:L Oe} (g:TG t p) (h:EndsO t p x) {i:Nat} (hi:i < (tChans t).len):EndsO t p (L.upd x i fun e=>(e.1,((nilL (.int .u32)),e.2.2))):=by
 have eg:∀ j,(L.upd x i fun e=>(e.1,((nilL (.int .u32)),e.2.2))).get j = if j = i then ((x.get i).1,((nilL (.int .u32)),(x.get i).2.2)) else x.get j:=fun j=>by
  by_cases q:j = i
  · subst q; rw [upd_eq_get,if_pos rfl]
  · rw [upd_ne_get _ _ q,if_neg q]
 refine ⟨h.1,fun j hj=>?_,h.2.2⟩
 rw [eg]
 have k:=h.2.1 j hj
 by_cases q:j = i
 · subst q
   rw [if_pos rfl]
   refine ⟨fun w=>?_,fun w=>⟨(k.2 w).1,rfl⟩⟩
   obtain ⟨a1,a2,a3,_⟩:=k.1 w
   exact ⟨a1,fun z=>⟨(a2 z).1,Nat.zero_le _⟩,fun z=>⟨(a3 z).1,by have:=a3 z; show _ + ((0:Nat):Int)≤_; omega⟩,wi0 rfl⟩
 · rw [if_neg q]; exact k
theorem onFaultI {po:Int×(Int×Unit)} {h:He} {n:Int} (hp:f261 po = true) (hh:HeG h) (hn:0≤n ∧ n≤9):Ok (g282 po h n) fun a=>HeG a.1.1:=by
 have hh':=hh
 obtain ⟨h1,h2,h3⟩:=hh'
 unfold g282
 refine Ok.bif (fun _=>Ok.ret hh) fun _=>Ok.bif (fun _=>Ok.ret hh) fun _=>Ok.bif (fun _=>Ok.ret hh) fun _=>Ok.bif (fun _=>Ok.ret hh) fun _=>?_
 have b1:0≤(if (1000000000:Int) < wI (h.1 + 1) then (1000000000:Int) else wI (h.1 + 1)) ∧ (if (1000000000:Int) < wI (h.1 + 1) then (1000000000:Int) else wI (h.1 + 1))≤1000000000:=by
  rw [wI_id (by omega) (by omega)]
  split <;> omega
 have b2:(po.1 == 1) = true→decide (h.2.1 < po.2.1) = true→0≤wI (h.2.1 + 1) ∧ wI (h.2.1 + 1)≤1000000000:=fun q k=>by
  have k:h.2.1 < po.2.1:=by simpa using k
  have:f42 po.2.1 0 100 = true:=by
   unfold f261 at hp
   rw [q] at hp; exact hp
  have:=(f42_iff _ _ _).mp this
  rw [wI_id (by omega) (by omega)]; omega
 refine Ok.bind (Q:=fun a=>HeG a.1.1) ?_ fun a ha=>Ok.ret ha
 unfold g357
 exact Ok.bif (fun _=>Ok.ret ⟨b1,h2,hn⟩) fun _=>Ok.bif (fun q=>Ok.bif (fun k=>Ok.ret ⟨b1,b2 q k,hn⟩) fun _=>Ok.ret ⟨b1,h2,hn⟩) fun _=>Ok.ret ⟨b1,h2,hn⟩
theorem guestI {t:Tb} {p:Nat} {x:Im} (g:TG t p) (h:FitG ((tParts t).get p).2.2.2.1 x):Ok (g213r t (p:Int) x) fun a=>GuR ((tParts t).get p).2.2.2.1 a.1.1.1 a.1.1.2.2.1 ∧ W1 a.1.1.2.1:=by
 have hb:=h.bnd g.w
 have nn:∀ i,i < x.len→WL (x.get i):=fun i hi=>wl (h.2 i (by rw [← h.1]; exact hi)).2
 obtain ⟨y,y1,y2,y3⟩:=bytes150n x hb.1 hb.2 nn
 have key:∀ (e:Int),g313r (nilL (.pair (.int .i64) (.pair (.int .i64) (.pair (.int .i64) .unit)))) e = some (((L.rep 16 (Ty.zero (.int .u32)),(IntKind.wrap .u32 e,(nilL (.sl (.int .u8)),()))),()),()):=by
  intro e
  unfold g313r
  rw [fixO_unfold]
  simp only [s313r_L0,q313r_L0]
  rw [bif_f (by simp [nilL])]
  rfl
 unfold g213r
 refine Ok.grd (idx_in g.pl) ?_
 rw [key]
 simp only [oB]
 rw [y1]
 exact Ok.ret ⟨⟨rfl,rfl,h.same g.w y2 y3,rfl,fun _ _=>z0⟩,u32_in _⟩
theorem freshI {t:Tb} {p:Nat} {s:St} (g:TG t p) (h:PG t p s):Ok (g283p s t (p:Int)) fun z=>PG t p z.2.1:=by
 have h8:=g.ch.1
 have key:∀ {kg vv kh ki kj kk kl km:_},Ok (fixO s283p_L0 (((),(((sOuts s).len:Int),((0:Int),()))),(kg,(vv,(kh,(ki,(kj,(kk,((sOuts s),(kl,(km,()))))))))))) fun z=>∃ x:L Oe,z = .inl ((),(kg,(vv,(kh,(ki,(kj,(kk,(x,(kl,(km,())))))))))) ∧ EndsO t p x:=by
  intro kg vv kh ki kj kk kl km
  refine loopK (tChans t).len (fun i z=>∃ x:L Oe,z = (((),(((sOuts s).len:Int),((i:Int),()))),(kg,(vv,(kh,(ki,(kj,(kk,(x,(kl,(km,())))))))))) ∧ EndsO t p x) ?_ ?_ _ ⟨_,rfl,h.ou⟩
  · rintro i _ hi ⟨x,rfl,hx⟩
    simp only [s283p_L0,q283p_L0]
    rw [h.ou.1,hx.1,wI_succ hi (by omega),tN]
    exact Ok.grd (idx_lt hi) (Ok.grd (idx_in hi) (Ok.ret (.inl ⟨_,rfl,_,rfl,hx.clear0 g hi⟩)))
  · rintro _ ⟨x,rfl,hx⟩
    simp only [s283p_L0,q283p_L0]
    rw [h.ou.1]
    exact Ok.no (idx_end (tChans t).len) (Ok.ret ⟨_,rfl,x,rfl,hx⟩)
 unfold g283p
 refine Ok.bind (guestI g h.bo) fun a ha=>Ok.bind key ?_
 rintro _ ⟨x,rfl,hx⟩
 exact Ok.ret ⟨ha.1,h.he,h.ca,h.tl,h.bo,hx,h.is,h.de,⟨z0,z0,z0,z0,z0⟩,ha.2⟩
theorem dueI {v:Vi} (h:VP v) (c:Int):Ok (g169 v c) fun _=>True:=by
 obtain ⟨_,_,_,_,h5⟩:=h
 have e:∀ {α:Type} {f:_→Option α},(∀ a,Ok (f a) fun _=>True)→Ok ((gTz v.2.2.2.2.2.2.2.1).bind f) fun _=>True:=fun {α f} hf=>by
  unfold gTz
  rw [if_pos ⟨h5.1,by have:=h5.2; omega⟩,oB]
  exact hf _
 unfold g169
 repeat' (first | exact Ok.ret trivial | refine e fun _=>?_ | refine Ok.bif (fun _=>?_) (fun _=>?_))
theorem enterI {v:Vi} (h:VP v) (c:Int) {pc:Int} (hp:W1 pc):Ok (g170 v c pc) fun a=>VP a.1.1 ∧ W1 a.1.2.1:=by
 obtain ⟨h1,h2,h3,h4,h5⟩:=h
 unfold g170
 refine Ok.bif (fun _=>Ok.ret ⟨⟨h1,h2,h3,h4,h5⟩,hp⟩) fun q=>Ok.bif (fun _=>Ok.ret ⟨⟨h1,hp,u32_in _,h4,h5⟩,h1⟩) fun k=>Ok.grd ?_ (Ok.ret ⟨⟨h1,hp,u32_in _,h4,u32_in _⟩,h1⟩)
 have q:=(f157_iff c 1 33).mp (by simpa using q)
 have k:c ≠ 1:=by simpa using k
 rw [wI_id (by omega) (by omega)]
 simp; omega
theorem foldI {x:L Int} (h:x.len≤1000):Ok (g23 x) fun _=>True:=by
 have rot:∀ v,Ok (g102 v 5) fun _=>True:=fun v=>by
  unfold g102
  exact Ok.grd (by decide) (Ok.grd (by decide) (Ok.ret trivial))
 have key:Ok (fixO s23_L0 (((1:Int),(x,((x.len:Int),((0:Int),())))),())) fun _=>True:=by
  refine loopK x.len (fun i z=>∃ v:Int,z = ((v,(x,((x.len:Int),((i:Int),())))),())) ?_ ?_ _ ⟨_,rfl⟩
  · rintro i _ hi ⟨v,rfl⟩
    simp only [s23_L0,q23_L0]
    rw [wI_succ hi (by omega)]
    exact Ok.grd (idx_lt hi) (Ok.grd (idx_in hi) (Ok.bind (rot _) fun _ _=>Ok.ret (.inl ⟨_,rfl,_,rfl⟩)))
  · rintro _ ⟨v,rfl⟩
    simp only [s23_L0,q23_L0]
    rw [bif_f (idx_end x.len)]
    exact Ok.ret ⟨_,rfl,trivial⟩
 unfold g23
 refine Ok.bind key ?_
 rintro (y | e) _
 · exact Ok.ret trivial
 · exact nomatch e
theorem worstI {t:Tb} (hc:f249 t.2.2.2.1 = true):Ok (g22 t.2.2.2.1) fun a=>∀ o,0≤o→o≤32→f100 t.2.2.2.1 o + 2 * accT t + t.2.2.2.1.2.2.2.2.2.1≤a.1.1:=by
 have h:=costs_of hc
 have ha:=acc_of hc false false true
 rw [f253_101 hc] at ha
 have hA:f101 t.2.2.2.1 (false,(false,(true,()))) = accT t:=by rw [ha]; rfl
 have hb:=accB hc (false,(false,(true,())))
 have hA2:0≤accT t ∧ accT t≤150:=by unfold accT; omega
 generalize hcc:t.2.2.2.1 = c at *
 unfold g22
 rw [f99_249]
 refine Ok.no (by rw [hc]; rfl) (Ok.bind (loopK (R:=fun z=>∃ m:Int,z = .inl (((),(m,())),(c,())) ∧ m≤70 ∧ ∀ o,0≤o→o≤32→f100 c o≤m) 33 (fun i z=>∃ m:Int,z = (((),(m,((i:Int),()))),(c,())) ∧ (0≤m ∧ m≤70) ∧ ∀ o,0≤o→o < (i:Int)→f100 c o≤m) ?_ ?_ _ ⟨_,rfl,by decide,fun o h1 h2=>absurd h2 (by simpa using h1)⟩) ?_)
 · rintro i _ hi ⟨m,rfl,hm,hall⟩
   simp only [s22_L0,q22_L0]
   rw [wI_succ hi (by omega)]
   have hop:=opB hc (o:=(i:Int)) (by omega)
   refine Ok.grd (by simp; omega) (Ok.ret (.inl ⟨_,rfl,_,rfl,?_,fun o h1 h2=>?_⟩))
   · split <;> omega
   · by_cases q:o = (i:Int)
     · subst q; split <;> omega
     · have:=hall o h1 (by omega)
       split <;> omega
 · rintro _ ⟨m,rfl,hm,hall⟩
   simp only [s22_L0,q22_L0]
   exact Ok.no (by simp) (Ok.ret ⟨_,rfl,m,rfl,hm.2,fun o h1 h2=>hall o h1 (by omega)⟩)
 · rintro _ ⟨m,rfl,hm,hall⟩
   refine Ok.ret fun o h1 h2=>?_
   have:=hall o h1 h2
   have:=opB hc (o:=o) ⟨h1,h2⟩
   show f100 c o + 2 * accT t + c.2.2.2.2.2.1≤wI (wI (m + wI (2 * f101 c (false,(false,(true,()))))) + c.2.2.2.2.2.1)
   rw [hA,wI_sm (n:=2 * accT t) (by omega) (by omega),wI_sm (n:=m + 2 * accT t) (by omega) (by omega),wI_sm (by omega) (by omega)]
   omega
abbrev Ev:Type:=Int×(Int×(Int×(Int×(Int×(Int×(Int×Unit))))))
theorem PS.nx {t:Tb} {p:Nat} {s s':St} (h:PG t p s) (e:s.1 = s'.1 ∧ s.2.1 = s'.2.1 ∧ s.2.2.1 = s'.2.2.1 ∧ s.2.2.2.1 = s'.2.2.2.1 ∧ s.2.2.2.2.1 = s'.2.2.2.2.1 ∧ s.2.2.2.2.2.2.2 = s'.2.2.2.2.2.2.2):PG t p s':=by
 obtain ⟨e1,e2,e3,e4,e5,e6⟩:=e
 have b1:sBoot s' = sBoot s:=by show s'.2.2.2.2.2.2.2.1 = s.2.2.2.2.2.2.2.1; rw [e6]
 have b2:sOuts s' = sOuts s:=by show s'.2.2.2.2.2.2.2.2.1 = s.2.2.2.2.2.2.2.2.1; rw [e6]
 have b3:sIns s' = sIns s:=by show s'.2.2.2.2.2.2.2.2.2.1 = s.2.2.2.2.2.2.2.2.2.1; rw [e6]
 have b4:sDevs s' = sDevs s:=by show s'.2.2.2.2.2.2.2.2.2.2.1 = s.2.2.2.2.2.2.2.2.2.2.1; rw [e6]
 have h':PS t p s.1.1 s.1.2.2.1 s.2.2.1 s.2.2.2.1 s.2.2.2.2.1 (sBoot s) (sOuts s) (sIns s) (sDevs s) s.2.1 s.1.2.1:=h
 rw [e1,e2,e3,e4,e5] at h'
 unfold PG
 rw [b1,b2,b3,b4]
 exact h'
def InsQ (t:Tb) (p:Nat) (e:Ev) (z:Unit×(St×(Ev×Unit))):Prop :=
 PG t p z.2.1 ∧ z.2.2.1.1 = e.1 ∧ (1≤z.2.2.1.2.1 ∧ ∃ o,0≤o ∧ o≤32 ∧ z.2.2.1.2.1≤f100 t.2.2.2.1 o + 2 * accT t + t.2.2.2.1.2.2.2.2.2.1) ∧ z.2.2.1.2.2.1 = e.2.2.1 ∧ z.2.2.1.2.2.2.2.2.1 = e.2.2.2.2.2.1
theorem tailI {t:Tb} {p:Nat} {e:Ev} {y:Sp×Unit} {f k:Int} {s1 s2:St} {g2:Gu} (g:TG t p) (hf:0≤f ∧ f≤9) (h1:PG t p s1) (h2:PG t p (g2,s2.2)) (hk:∃ o,(0≤o ∧ o≤32) ∧ 1≤k ∧ k≤f100 t.2.2.2.1 o + 2 * accT t):Ok (k171pp_1 e (y,()) (p:Int) t f s1 k s2 g2) (InsQ t p e):=by
 obtain ⟨o,ho,k1,k2⟩:=hk
 have hc:=costs_of g.co
 have hA2:0≤accT t ∧ accT t≤150:=by unfold accT; omega
 have hb:=opB g.co ho
 have kb:1≤wI (k + t.2.2.2.1.2.2.2.2.2.1) ∧ ∃ o,0≤o ∧ o≤32 ∧ wI (k + t.2.2.2.1.2.2.2.2.2.1)≤f100 t.2.2.2.1 o + 2 * accT t + t.2.2.2.1.2.2.2.2.2.1:=by
  rw [wI_sm (by omega) (by omega)]
  exact ⟨by omega,o,ho.1,ho.2,by omega⟩
 unfold k171pp_1
 refine Ok.bif (fun _=>Ok.ret ⟨h1,rfl,⟨k1,o,ho.1,ho.2,by show k≤_; omega⟩,rfl,rfl⟩) fun _=>Ok.grd (idx_in g.pl) (Ok.bind (onFaultI g.po h2.he hf) fun y hy=>?_)
 have h3:PG t p (g2,(s2.2.1,(y.1.1,s2.2.2.2))):=⟨h2.gu,hy,h2.ca,h2.tl,h2.bo,h2.ou,h2.is,h2.de,h2.vp,h2.pw⟩
 exact Ok.bif (fun _=>Ok.ret ⟨⟨h2.gu,hy,h2.ca,h2.tl,h2.bo,h2.ou,h2.is,h2.de,h2.vp,u32_in _⟩,rfl,kb,rfl,rfl⟩) fun _=>Ok.bif (fun _=>Ok.bind (freshI g h3) fun u hu=>Ok.ret ⟨hu,rfl,kb,rfl,rfl⟩) fun _=>Ok.ret ⟨h3,rfl,kb,rfl,rfl⟩
theorem midI {t:Tb} {p:Nat} {e:Ev} {z:Sp} {w:(Int×(Int×Unit))×Unit} {c k:Int} {s1 s2:St} {g2:Gu} (g:TG t p) (hz:0≤z.2.1 ∧ z.2.1≤9) (ht:z.2.2.2.1≤65535) (h1:PG t p s1) (h2:PG t p (g2,s2.2)) (hk:∃ o,(0≤o ∧ o≤32) ∧ 1≤k ∧ k≤f100 t.2.2.2.1 o + accT t):Ok (k171pp_2 ((z,()),()) t w (p:Int) c e s1 k s2 g2) (InsQ t p e):=by
 obtain ⟨o,ho,k1,k2⟩:=hk
 have hc:=costs_of g.co
 have hA2:0≤accT t ∧ accT t≤150:=by unfold accT; omega
 have hb:=opB g.co ho
 have call:∀ {s3:St} {k':Int},PG t p s3→(1≤k' ∧ k'≤f100 t.2.2.2.1 o + 2 * accT t)→Ok ((g280 w.1.1).bind fun y904=>(g281p s3 t (p:Int) c y904.1.1).bind fun y905=>k171pp_1 e ((z,()),()) (p:Int) t y905.1.1 y905.2.1 k' y905.2.1 y905.2.1.1) (InsQ t p e):=fun h3 hk' =>
  Ok.bind (decodeI w.1.1) fun y hy=>Ok.bind (callI g h3 hy.2.1 hy.2.2.1) fun u hu=>tailI g hu.1 hu.2 hu.2 ⟨o,ho,hk'⟩
 unfold k171pp_2
 refine Ok.bif (fun q=>Ok.bind (accessI g h1 ⟨by simpa using q,ht⟩) fun y hy=>?_) fun _=>?_
 · have kb:1≤wI (k + y.1.1) ∧ wI (k + y.1.1)≤f100 t.2.2.2.1 o + 2 * accT t:=by
    have:=hy.1
    rw [wI_sm (by omega) (by omega)]; omega
   exact Ok.bif (fun _=>call hy.2 kb) fun _=>tailI g hz hy.2 hy.2 ⟨o,ho,kb⟩
 · exact Ok.bif (fun _=>call h1 ⟨k1,by omega⟩) fun _=>tailI g hz h1 h2 ⟨o,ho,k1,by omega⟩
theorem instructionI {t:Tb} {p:Nat} {s:St} {c:Int} {e:Ev} (g:TG t p) (h:PG t p s) (he:e.2.2.1 = s.1.2.1):Ok (g171pp s t (p:Int) c e) (InsQ t p e):=by
 have hc:=costs_of g.co
 have hA2:0≤accT t ∧ accT t≤150:=by unfold accT; omega
 rw [g171pp]
 refine Ok.grd (idx_in g.pl) ?_
 rw [tN]
 refine Ok.bind (loadI (g:=s.1) g.w h.gu (.inr rfl)) ?_
 rintro w ⟨w1,w2,w3⟩
 refine Ok.bind (coreI (g:=s.1) g.w h.gu h.pw c) ?_
 rintro ⟨⟨z,⟨⟩⟩,⟨⟩⟩ ⟨z1,z2,z3,z4,z5⟩
 dsimp only at z1 z2 z3 z4 z5 ⊢
 have P:PG t p (z.1,s.2):=⟨z1,h.he,h.ca,h.tl,h.bo,h.ou,h.is,h.de,h.vp,z2⟩
 have w4:(w.1.2.1 == 0) = true→0≤wI e.2.2.1 ∧ wI e.2.2.1≤65535:=fun q=>by rw [he]; exact ⟨(w3 q).1,Int.le_trans (w3 q).2 (by decide)⟩
 have h0:=opB g.co (o:=0) (by decide)
 have f0:f100 t.2.2.2.1 0 = t.2.2.2.1.1:=rfl
 have acc:∀ {k o:Int},(0≤o ∧ o≤32)→(1≤k ∧ k≤f100 t.2.2.2.1 o)→∀ q:(w.1.2.1 == 0) = true,Ok ((g279p (z.1,s.2) t (wI e.2.2.1) false).bind fun y3=>k171pp_2 ((z,()),()) t w (p:Int) c e y3.2.1 (wI (k + y3.1.1)) y3.2.1 y3.2.1.1) (InsQ t p e):=fun {k o} ho hk q =>
  Ok.bind (accessI g P (w4 q)) fun y hy=>midI g z3 z5.2 hy.2 hy.2 ⟨o,ho,by
   have:=hy.1
   have:=opB g.co ho
   rw [wI_sm (by omega) (by omega)]; omega⟩
 refine Ok.bif (fun q=>?_) fun q=>?_
 · have ho:0≤z.2.2.1 ∧ z.2.2.1≤32:=⟨by simpa using q,z4.2⟩
   have hb:=opB g.co ho
   exact Ok.bif (fun k=>acc ho ⟨hb.1,Int.le_refl _⟩ k) fun _=>midI g z3 z5.2 P P ⟨_,ho,hb.1,by omega⟩
 · exact Ok.bif (fun k=>acc (k:=t.2.2.2.1.1) (o:=0) (by decide) (by omega) k) fun _=>midI g z3 z5.2 P P ⟨0,by decide,by omega,by omega⟩
theorem stepI {t:Tb} {p:Nat} {s:St} {c:Int} (g:TG t p) (h:PG t p s) (hc:0≤c ∧ c≤100000):Ok (g63p s t (p:Int) c) fun z=>PG t p z.2.1 ∧ z.1.1.1 = c ∧ (1≤z.1.1.2.1 ∧ ∃ o,0≤o ∧ o≤32 ∧ z.1.1.2.1≤f100 t.2.2.2.1 o + 2 * accT t + t.2.2.2.1.2.2.2.2.2.1) ∧ z.1.1.2.2.1 = s.1.2.1 ∧ z.2.1.2.2.2.2.2.1 = wI (c + z.1.1.2.1) ∧ (∃ a,g23 z.2.1.1.1 = some a ∧ z.1.1.2.2.2.2.2.2.1 = a.1.1) ∧ (z.1.1.2.2.2.2.2.1 = 0 ∨ (z.1.1.2.2.2.1 = -1 ∧ z.1.1.2.2.2.2.1 = 0)):=by
 have hk:=costs_of g.co
 have hA2:0≤accT t ∧ accT t≤150:=by unfold accT; omega
 have le:∀ {s:St},PG t p s→s.1.1.len≤1000:=fun h=>by rw [h.gu.1]; decide
 unfold g63p
 refine Ok.bind (dueI h.vp c) fun y _=>Ok.bif (fun _=>Ok.bind (enterI h.vp _ h.pw) fun u hu=>?_) fun q=>Ok.bind (instructionI g h rfl) fun u hu=>?_
 · obtain ⟨a,e,_⟩:=foldI (le h)
   rw [e,oB]
   have h0:=opB g.co (o:=0) (by decide)
   have f0:f100 t.2.2.2.1 0 = t.2.2.2.1.1:=rfl
   refine Ok.ret ⟨⟨h.gu,h.he,h.ca,h.tl,h.bo,h.ou,h.is,h.de,hu.1,hu.2⟩,rfl,?_,rfl,rfl,⟨a,e,rfl⟩,.inr ⟨rfl,rfl⟩⟩
   show 1≤wI (t.2.2.2.1.1 + t.2.2.2.1.2.2.2.2.2.1) ∧ ∃ o,0≤o ∧ o≤32 ∧ wI (t.2.2.2.1.1 + t.2.2.2.1.2.2.2.2.2.1)≤_
   rw [wI_sm (by omega) (by omega)]
   exact ⟨by omega,0,by decide,by decide,by omega⟩
 · obtain ⟨u1,u2,u3,u4,u5⟩:=hu
   obtain ⟨a,e,_⟩:=foldI (le u1)
   rw [e,oB]
   exact Ok.ret ⟨⟨u1.gu,u1.he,u1.ca,u1.tl,u1.bo,u1.ou,u1.is,u1.de,u1.vp,u1.pw⟩,u2,u3,u4,rfl,⟨a,e,rfl⟩,.inl (u5.trans (by simpa using q))⟩
theorem Drawn.is {t:Tb} {p:Nat} {s:St} {c:Int} (D:Drawn t p s c):Yes (g60 t (p:Int) s):=partK D.tg D.so D.fa D.pg D.nx
theorem Drawn.same {t:Tb} {p:Nat} {s b:St} {c:Int} (D:Drawn t p s c) (h:SmS b s) (n:NN b):Drawn t p b c :=
 ⟨D.tg,D.so,D.fa,D.pg.same D.tg h n,by rw [h.nx]; exact D.nx,D.cy⟩
theorem cloneK {t:Tb} {p:Nat} {s:St} {c:Int} (D:Drawn t p s c):Ok (g62r s) fun a=>SmS a.1.1 s ∧ Drawn t p a.1.1 c:=by
 obtain ⟨b,b1,b2,b3⟩:=part110 s (D.pg.bnd D.tg) D.pg.nn (D.pg.ou.1.trans D.pg.is.1.symm)
 exact ⟨_,b1,b2,D.same b2 b3⟩
theorem partStepI {t:Tb} {p:Nat} {s:St} {c:Int} (D:Drawn t p s c):Ok (g12r t (p:Int) s c) fun z =>
 (z.1.2.2.1 = false ∧ z.1.2.1 = (0,(0,(0,(0,(0,(0,(0,()))))))) ∧ z.1.1.1.1.len = 0 ∧ (s.2.2.2.2.2.2.1 = true ∨ s.2.2.1.2.2.2.1 = true ∨ 50000 < c)) ∨
 (z.1.2.2.1 = true ∧ (s.2.2.2.2.2.2.1 = false ∧ s.2.2.1.2.2.2.1 = false ∧ c≤50000) ∧ PG t p z.1.1 ∧ z.1.2.1.1 = c ∧ (1≤z.1.2.1.2.1 ∧ ∃ o,0≤o ∧ o≤32 ∧ z.1.2.1.2.1≤f100 t.2.2.2.1 o + 2 * accT t + t.2.2.2.1.2.2.2.2.2.1) ∧ z.1.2.1.2.2.1 = s.1.2.1 ∧ z.1.1.2.2.2.2.2.1 = wI (c + z.1.2.1.2.1) ∧ (∃ a,g23 z.1.1.1.1 = some a ∧ z.1.2.1.2.2.2.2.2.2.1 = a.1.1) ∧ (z.1.2.1.2.2.2.2.2.1 = 0 ∨ (z.1.2.1.2.2.2.1 = -1 ∧ z.1.2.1.2.2.2.2.1 = 0))):=by
 unfold g12r
 refine Ok.bind D.is fun a ha=>?_
 rw [ha]
 refine Ok.no rfl (Ok.bif (fun q=>Ok.ret (.inl ⟨rfl,rfl,rfl,.inr (.inr ?_)⟩)) fun q=>Ok.bif (fun k=>Ok.ret (.inl ⟨rfl,rfl,rfl,.inl k⟩)) fun k=>Ok.bif (fun j=>Ok.ret (.inl ⟨rfl,rfl,rfl,.inr (.inl j)⟩)) fun j=>?_)
 · have q:f157 c 0 50000 = false:=Bool.not_eq_true' _ ▸ q
   rcases Int.lt_or_le 50000 c with h | h
   · exact h
   · rw [(f157_iff c 0 50000).mpr ⟨D.cy,h⟩] at q; cases q
 have q:f157 c 0 50000 = true:=Bool.not_eq_false' _ ▸ q
 have hc:=(f157_iff _ _ _).mp q
 refine Ok.bind (cloneK D) fun b hb=>Ok.bind (stepI D.tg hb.2.pg (by omega)) fun z hz=>Ok.ret (.inr ⟨rfl,⟨k,j,hc.2⟩,hz.1,hz.2.1,hz.2.2.1,hz.2.2.2.1.trans hb.1.gu.2.1,hz.2.2.2.2⟩)
theorem law (code:L Int):g4 code = some ((true,()),()):=by
 have key:Yes (g4 code):=by
  unfold Yes
  rw [g4]
  refine Ok.bif (fun _=>Ok.ret rfl) fun hb=>?_
  have hb:code.len≤1048576:=by
   unfold f19 at hb
   simp at hb; omega
  have h46:(2:Nat) ^ 46 = 70368744177664:=by decide
  refine Ok.bind (drawnK (by omega)) ?_
  rintro ⟨⟨t,p',s,cy,⟨⟩⟩,⟨⟩⟩ ⟨p,hp,D⟩
  dsimp only at hp D ⊢
  subst hp
  refine Ok.bind (partStepI D) ?_
  have hcy:=D.cy
  rintro ⟨⟨nx,e,ok,⟨⟩⟩,⟨⟩⟩ (⟨h1,h2,h3,h4⟩ | ⟨h1,⟨h2,h3,h4⟩,h5,h6,⟨h7,o,o1,o2,h8⟩,h9,h10,⟨a,h11,h12r⟩,h13⟩)
  · dsimp only at h1 h2 h3 h4 ⊢
    subst h1 h2
    have no:Ok (k4_1 ((nx,((0,(0,(0,(0,(0,(0,(0,()))))))),(false,()))),())) fun a=>a.1.1 = true:=by
     unfold k4_1
     refine Ok.grd rfl (Ok.grd rfl (Ok.ret ?_))
     show ((nx.1.1.len:Int) == 0) = true
     rw [h3]; rfl
    refine Ok.bif (fun _=>no) fun q1=>Ok.bif (fun _=>no) fun q2=>Ok.bif (fun _=>no) fun _=>Ok.bif (fun _=>no) fun q3=>?_
    rcases h4 with h | h | h
    · rw [h] at q1; cases q1
    · rw [h] at q2; cases q2
    · simp at q3; omega
  · dsimp only at h1 h2 h3 h4 h5 h6 h7 h8 h9 h10 h11 h12r h13 ⊢
    subst h1
    have hk:=costs_of D.tg.co
    have hA:0≤accT t ∧ accT t≤150:=by unfold accT; omega
    have ho:=opB D.tg.co ⟨o1,o2⟩
    refine Ok.no h2 (Ok.no h3 (Ok.no (by simpa using D.cy) (Ok.no (by simpa using h4) (Ok.grd rfl ?_))))
    refine Ok.bind (Q:=fun a=>a.1.1 = true) ?_ fun y hy=>Ok.grd hy (Ok.grd (by simpa using h7) (Ok.bind (worstI D.tg.co) fun w hw=>Ok.grd ?_ (Ok.grd (by simpa using h6) (Ok.grd (by simpa using h10) (Ok.grd (by simpa using h9) ?_)))))
    · unfold g21
      exact Ok.bind (partK D.tg D.so D.fa h5 (by rw [h10,wI_id (by omega) (by omega)]; omega)) fun z hz=>Ok.ret hz
    · have:=hw o o1 o2
      simp; omega
    · rw [h11,oB]
      refine Ok.grd (by simpa using h12r) (Ok.bif (fun _=>Ok.ret rfl) fun q=>?_)
      rcases h13 with h | ⟨h,k⟩
      · rw [h] at q; cases q
      · exact Ok.grd (by simpa using h) (Ok.ret (by simpa using k))
 obtain ⟨⟨⟨a,⟨⟩⟩,⟨⟩⟩,e,rfl⟩:=key
 exact e
theorem plain:∀ x,wfIns tysOf x→∃ z,c4.F x = some ((true,()),z):=by
 rintro ⟨code,⟨⟩⟩ _
 exact ⟨(),law code⟩
end Go.VE.VFnStep
