import Derived.Test.YtgllenfbilnneaaGreatDoorVFnOwnLaws0
/- More plain laws of what laws.FnOwn calls. -/
set_option linter.unusedVariables false
set_option linter.unusedSimpArgs false
namespace Go.VE.VFnOwn
open Go.VE
def Ok {α:Type} (o:Option α) (Q:α→Prop):Prop:=∃ a,o = some a ∧ Q a
theorem Ok.bind {α β:Type} {o:Option α} {f:α→Option β} {Q:α→Prop} {R:β→Prop} (h:Ok o Q) (k:∀ a,Q a→Ok (f a) R):Ok (o.bind f) R:=by
 obtain ⟨a,rfl,q⟩:=h
 exact k a q
theorem Ok.bif {α:Type} {c:Bool} {a b:Option α} {R:α→Prop} (h1:c = true→Ok a R) (h2:c = false→Ok b R):Ok (bif c then a else b) R:=by
 cases c with
 | true=>exact h1 rfl
 | false=>exact h2 rfl
theorem Ok.grd {α:Type} {c:Bool} {a b:Option α} {R:α→Prop} (hc:c = true) (h:Ok a R):Ok (bif c then a else b) R:=by
 subst hc; exact h
theorem Ok.ret {α:Type} {a:α} {Q:α→Prop} (h:Q a):Ok (some a) Q:=⟨a,rfl,h⟩
theorem Ok.mono {α:Type} {o:Option α} {Q R:α→Prop} (h:Ok o Q) (k:∀ a,Q a→R a):Ok o R:=by
 obtain ⟨a,e,q⟩:=h
 exact ⟨a,e,k a q⟩
theorem dB {X D:Type} {step:X→Option (X⊕D)} {R:D→Prop} (n:Nat) (I:Nat→X→Prop)
 (hs:∀ i x,i < n→I i x→Ok (step x) fun z=>(∃ y,z = .inl y ∧ I (i + 1) y) ∨ ∃ d,z = .inr d ∧ R d)
 (he:∀ x,I n x→Ok (step x) fun z=>∃ d,z = .inr d ∧ R d) (x:X) (h0:I 0 x):Ok (aL step x) R:=by
 obtain ⟨d,e,r⟩:=qx (step:=step) n I R (fun i x hi hx=>by
  obtain ⟨z,e,⟨y,rfl,k⟩ | ⟨d,rfl,k⟩⟩:=hs i x hi hx
  · exact .inl ⟨y,e,k⟩
  · exact .inr ⟨d,e,k⟩) (fun x hx=>by
  obtain ⟨z,e,d,rfl,k⟩:=he x hx
  exact ⟨d,e,k⟩) x h0
 exact ⟨d,e,r⟩
theorem jG {c:ig} {n:Int} (h:Cw c) (h1:1≤n) (h2:n≤2147483648):Ok (bB c n) fun a=>0≤a.1.1 ∧ a.1.1 < n ∧ Cw a.2.1:=by
 by_cases hn:n≤256
 · obtain ⟨x,c',e,k⟩:=below c h n h1 hn
   exact ⟨_,e,k⟩
 · obtain ⟨x,c',e,k⟩:=Xe c h n (by omega) h2
   exact ⟨_,e,k⟩
theorem kZ {c:ig} {n:Int} (h:Cw c) (h1:1≤n) (h2:n≤256):Ok (iG c n) fun a=>Cw a.2.1:=by
 obtain ⟨x,c',e,k⟩:=once c h n h1 h2
 exact ⟨_,e,k⟩
theorem Le {c:ig} {z:Int} {l:List Int} (h:Cw c) (h1:1≤l.length) (h2:l.length≤256):Ok (fq c (L.of z l)) fun a=>a.1.1 ∈ l ∧ Cw a.2.1:=by
 obtain ⟨x,c',e,k⟩:=nJ c h z l h1 h2
 exact ⟨_,e,k⟩
theorem wrap_u32 (n:Int):IntKind.wrap .u32 n = n % 4294967296:=by
 unfold IntKind.wrap
 simp [IntKind.bits,IntKind.signed]
theorem wrap_u64 (n:Int):IntKind.wrap .u64 n = n % 18446744073709551616:=by
 unfold IntKind.wrap
 simp [IntKind.bits,IntKind.signed]
theorem U8 (x:Int):Ok (GK x) fun a=>-1≤a.1.1 ∧ (0≤a.1.1→0≤x ∧ x≤32):=by
 unfold GK
 have hl:(sP.len:Int) = 33:=by decide +kernel
 cases h:f42 x 0 32 with
 | true =>
   have h':=(aZ _ _ _).mp h
   simp only [Bool.not_true,cond_false]
   refine Ok.grd (by rw [hl]; simp; omega) (Ok.ret ⟨?_,fun _=>h'⟩)
   have:=Dv x.toNat (by omega)
   show -1≤L.get sP x.toNat
   omega
 | false=>exact Ok.ret ⟨by decide,fun q=>absurd q (by decide)⟩
theorem EX {x n a b c:Int} (h:n ≠ 0):Ok (Jm x n a b c) fun y=>y.1.1 = true→b≤0→0≤c→b≤a ∧ a≤c:=by
 unfold Jm
 refine Ok.grd (by simpa using h) (Ok.bif (fun _=>Ok.ret fun q h1 h2=>?_) fun _=>Ok.ret fun q _ _=>(aZ _ _ _).mp q)
 have:a = 0:=by simpa using q
 omega
theorem instrOkK (x:Int×(Int×(Int×(Int×(Int×Unit))))):Ok (Qu x) fun y=>y.1.1 = true→(0≤x.1 ∧ x.1≤32) ∧ (0≤x.2.1 ∧ x.2.1≤15) ∧ (0≤x.2.2.1 ∧ x.2.2.1≤15) ∧ (0≤x.2.2.2.1 ∧ x.2.2.2.1≤15):=by
 unfold Qu
 refine Ok.bind (U8 _) fun a ha=>Ok.bif (fun h0=>?_) fun _=>Ok.ret (by simp)
 refine Ok.bind (EX (by decide)) fun b hb=>Ok.bif (fun h1=>?_) fun _=>Ok.ret (by simp)
 refine Ok.bind (EX (by decide)) fun c hc=>Ok.bif (fun h2=>?_) fun _=>Ok.ret (by simp)
 refine Ok.bind (EX (by decide)) fun d hd=>Ok.bif (fun h3=>?_) fun _=>Ok.ret (by simp)
 refine Ok.bind (EX (by decide)) fun e _=>Ok.ret fun _=>⟨ha.2 (by simpa using h0),hb h1 (by decide) (by decide),hc h2 (by decide) (by decide),hd h3 (by decide) (by decide)⟩
theorem Ye {x n:Int} (h:n ≠ 0):Ok (MO x n) fun _=>True:=by
 unfold MO
 exact Ok.grd (by simpa using h) (Ok.bif (fun _=>Ok.ret trivial) fun _=>Ok.ret trivial)
theorem EY (x:Int×(Int×(Int×(Int×(Int×Unit))))):Ok (Cg x) fun _=>True:=by
 unfold Cg
 refine Ok.bind (instrOkK x) fun a _=>Ok.bif (fun _=>Ok.ret trivial) fun _=>?_
 exact Ok.bind (Ye (by decide)) fun _ _=>Ok.ret trivial
theorem yI {α:Type} {r:L α} {z v:α} (h:r.len≤100000):decide (r.len + (L.of z [v]).len≤most) = true:=by
 have:most = 4294967296:=by decide
 show decide (r.len + 1≤most) = true
 simp only [decide_eq_true_eq]; omega
def W1 (n:Int):Prop:=0≤n ∧ n≤4294967295
theorem u32_in (n:Int):W1 (IntKind.wrap .u32 n):=by unfold W1; rw [wrap_u32]; omega
def WN (x:L Int):Prop:=∀ i,i < x.len→W1 (x.get i)
theorem WN.set {x:L Int} (h:WN x) (i:Nat) {v:Int} (hv:W1 v):WN (L.set x i v):=fun j hj=>by
 by_cases q:j = i
 · subst q; rw [dQ]; exact hv
 · rw [bR _ _ q]; exact h j hj
theorem WN.nil {x:L Int} (h:x.len = 0):WN x:=fun i hi=>by rw [h] at hi; exact absurd hi (Nat.not_lt_zero i)
theorem WN.app {x y:L Int} (h:WN x) (k:WN y):WN (L.app x y):=fun i hi=>by
 have hi:i < x.len + y.len:=hi
 by_cases q:i < x.len
 · rw [oU q]; exact h i q
 · have e:(L.app x y).get i = y.get (i - x.len):=by
    show (bif Nat.blt i x.len then x.get i else y.get (i - x.len)) = _
    rw [show Nat.blt i x.len = false by cases hq:Nat.blt i x.len with | false=>rfl | true=>simp at hq; omega]; rfl
   rw [e]; exact k _ (by omega)
theorem WN.one {z v:Int} (h:W1 v):WN (L.of z [v]):=fun i hi=>by
 have hi:i < 1:=hi
 obtain rfl:i = 0:=by omega
 exact h
theorem WN.cut {x:L Int} (h:WN x) {a b:Nat} (hb:b≤x.len):WN (L.cut x a b):=fun i hi=>by
 have hi:i < b - a:=hi
 exact h (a + i) (by omega)
theorem QJ {c:ig} (h:Cw c):Ok (vR c) fun a=>W1 a.1.1 ∧ Cw a.2.1:=by
 unfold vR
 repeat' (first | (refine Ok.bind (jG (by assumption) (by first | decide | omega) (by first | decide | omega)) ?_; rintro _ ⟨_,_,_⟩) | (refine Ok.bind (Le (by assumption) (by decide) (by decide)) ?_; rintro _ ⟨_,_⟩) | (refine Ok.bind (kZ (by assumption) (by decide) (by decide)) ?_; intro _ _) | (refine Ok.bind (EY _) ?_; intro _ _) | (refine Ok.bind (Lf (by assumption)) ?_; intro _ _) | refine Ok.grd (yI (by omega)) ?_ | refine Ok.grd (by assumption) ?_ | refine Ok.bif (fun _=>?_) (fun _=>?_))
 all_goals exact Ok.ret ⟨u32_in _,by assumption⟩
theorem Lf {c:ig} (h:Cw c):Ok (vR c) fun a=>Cw a.2.1:=(QJ h).mono fun _ h=>h.2
theorem instrK {c:ig} (h:Cw c):Ok (K4 c) fun a=>Cw a.2.1:=by
 unfold K4 EP vQ
 refine Ok.bind (jG h (by decide) (by decide)) ?_
 rintro y ⟨_,_,_⟩
 refine Ok.bind (U8 _) fun z _=>?_
 repeat' (first | (refine Ok.bind (jG (by assumption) (by first | decide | omega) (by first | decide | omega)) ?_; rintro _ ⟨_,_,_⟩) | (refine Ok.bind (Le (by assumption) (by decide) (by decide)) ?_; rintro _ ⟨_,_⟩) | (refine Ok.bind (kZ (by assumption) (by decide) (by decide)) ?_; intro _ _) | (refine Ok.bind (EY _) ?_; intro _ _) | (refine Ok.bind (Lf (by assumption)) ?_; intro _ _) | refine Ok.grd (yI (by omega)) ?_ | refine Ok.grd (by assumption) ?_ | refine Ok.bif (fun _=>?_) (fun _=>?_))
 all_goals exact Ok.ret (by assumption)
theorem Uf {c:ig} (h:Cw c) (n:Nat) (hn:n≤1000) (d:Int):Ok (ER c n d) fun a=>a.1.1.len = n ∧ Cw a.2.1:=by
 unfold ER
 refine Ok.bind (dB (R:=fun z=>∃ (c':ig) (r:L Int),z = .inl (((),()),(r,(c',()))) ∧ r.len = n ∧ Cw c') n (fun i x=>∃ (c:ig) (r:L Int),x = (((),((n:Int),(d,((),((i:Int),()))))),(c,(r,()))) ∧ r.len = i ∧ Cw c) ?_ ?_ _ ⟨c,_,rfl,rfl,h⟩) ?_
 · rintro i _ hi ⟨c,r,rfl,hr,hc⟩
   simp only [rV,fJ]
   rw [av hi (by omega)]
   refine Ok.grd (aM hi) (Ok.bind (instrK hc) fun y hy=>?_)
   repeat' (first | (refine Ok.bind (jG (by assumption) (by first | decide | omega) (by first | decide | omega)) ?_; rintro _ ⟨_,_,_⟩) | (refine Ok.bind (Le (by assumption) (by decide) (by decide)) ?_; rintro _ ⟨_,_⟩) | (refine Ok.bind (kZ (by assumption) (by decide) (by decide)) ?_; intro _ _) | (refine Ok.bind (EY _) ?_; intro _ _) | (refine Ok.bind (Lf (by assumption)) ?_; intro _ _) | refine Ok.grd (yI (by omega)) ?_ | refine Ok.grd (by assumption) ?_ | refine Ok.bif (fun _=>?_) (fun _=>?_))
   all_goals exact Ok.ret (.inl ⟨_,rfl,_,_,rfl,congrArg Nat.succ hr,by assumption⟩)
 · rintro _ ⟨c,r,rfl,hr,hc⟩
   simp only [rV,fJ]
   rw [au (aK n)]
   exact Ok.ret ⟨_,rfl,c,r,rfl,hr,hc⟩
 · rintro _ ⟨c,r,rfl,hr,hc⟩
   exact Ok.ret ⟨hr,hc⟩
theorem QK {c:ig} (h:Cw c) (n:Nat) (hn:n≤1000):Ok (kV c n) fun a=>(a.1.1.len = n ∧ Cw a.2.1) ∧ a.1.1.nil = false ∧ WN a.1.1:=by
 unfold kV
 refine Ok.bind (dB (R:=fun z=>∃ (c':ig) (r:L Int),z = .inl (((),()),(r,(c',()))) ∧ (r.len = n ∧ Cw c') ∧ r.nil = false ∧ WN r) n (fun i x=>∃ (c:ig) (r:L Int),x = (((),((n:Int),((),((i:Int),())))),(c,(r,()))) ∧ (r.len = i ∧ Cw c) ∧ r.nil = false ∧ WN r) ?_ ?_ _ ⟨c,_,rfl,⟨rfl,h⟩,rfl,WN.nil rfl⟩) ?_
 · rintro i _ hi ⟨c,r,rfl,⟨hr,hc⟩,hn',hw⟩
   simp only [rX]
   rw [av hi (by omega)]
   refine Ok.grd (aM hi) (Ok.bind (QJ hc) fun y ⟨hy1,hy⟩=>Ok.grd (yI (by omega)) ?_)
   exact Ok.ret (.inl ⟨_,rfl,_,_,rfl,⟨congrArg Nat.succ hr,hy⟩,by show (r.nil&&_) = false; rw [hn']; rfl,hw.app (WN.one hy1)⟩)
 · rintro _ ⟨c,r,rfl,⟨hr,hc⟩,hn'⟩
   simp only [rX]
   rw [au (aK n)]
   exact Ok.ret ⟨_,rfl,c,r,rfl,⟨hr,hc⟩,hn'⟩
 · rintro _ ⟨c,r,rfl,⟨hr,hc⟩,hn'⟩
   exact Ok.ret ⟨⟨hr,hc⟩,hn'⟩
theorem Yf {c:ig} (h:Cw c) (n:Nat) (hn:n≤1000):Ok (kV c n) fun a=>a.1.1.len = n ∧ Cw a.2.1:=(QK h n hn).mono fun _ h=>h.1
set_option maxHeartbeats 1000000 in
theorem Ug {c:ig} (h:Cw c) (t:Tb) (p:Nat) (hp:p < (tParts t).len) (hw:2≤((tParts t).get p).2.2.2.1.len) (hch:(tChans t).len≤8) (hdv:(tDevs t).len≤8) (n:Nat) (hn:n≤1000):Ok (ES c t p n) fun a=>a.1.1.len = n ∧ Cw a.2.1:=by
 unfold ES
 have hp':(decide (0≤(p:Int))&&decide ((p:Int) < (t.2.2.2.2.2.2.2.1.len:Int))) = true:=aj hp
 have ec:wI ((t.2.2.2.2.2.2.2.2.2.1.len:Int) + 1) = (((tChans t).len + 1:Nat):Int):=by
  have:t.2.2.2.2.2.2.2.2.2.1.len≤8:=hch
  rw [aJ (by omega) (by omega)]; rfl
 have ed:wI ((t.2.2.2.2.2.2.2.2.1.len:Int) + 1) = (((tDevs t).len + 1:Nat):Int):=by
  have:t.2.2.2.2.2.2.2.2.1.len≤8:=hdv
  rw [aJ (by omega) (by omega)]; rfl
 refine Ok.grd hp' (Ok.grd (by
  show decide ((1:Int) < (((tParts t).get ((p:Int)).toNat).2.2.2.1.len:Int)) = true
  rw [tN]; simp; omega) (Ok.bind (Uf h n hn _) fun y hy=>?_))
 obtain ⟨hy1,hy2⟩:=hy
 refine Ok.bind (dB (R:=fun z=>∃ (c':ig) (r:L Int),z = .inl (((),((p:Int),((n:Int),((),((),()))))),(c',(t,(r,())))) ∧ r.len = n ∧ Cw c') n (fun i x=>∃ (c:ig) (r:L Int),x = (((),((p:Int),((n:Int),((),((),((i:Int),())))))),(c,(t,(r,())))) ∧ r.len = n ∧ Cw c) ?_ ?_ _ ⟨y.2.1,y.1.1,rfl,hy1,hy2⟩) ?_
 · rintro i _ hi ⟨c,r,rfl,hr,hc⟩
   simp only [rW,iY]
   rw [av hi (by omega),ec,ed]
   refine Ok.grd (aM hi) ?_
   have hir:(decide (0≤(i:Int))&&decide ((i:Int) < (r.len:Int))) = true:=by rw [hr]; exact aj hi
   repeat' (first | (refine Ok.bind (jG (by assumption) (by first | decide | omega) (by first | decide | omega)) ?_; rintro _ ⟨_,_,_⟩) | (refine Ok.bind (Le (by assumption) (by decide) (by decide)) ?_; rintro _ ⟨_,_⟩) | (refine Ok.bind (kZ (by assumption) (by decide) (by decide)) ?_; intro _ _) | (refine Ok.bind (EY _) ?_; intro _ _) | (refine Ok.bind (Lf (by assumption)) ?_; intro _ _) | refine Ok.grd (yI (by omega)) ?_ | refine Ok.grd (by assumption) ?_ | refine Ok.bif (fun _=>?_) (fun _=>?_))
   all_goals exact Ok.ret (.inl ⟨_,rfl,_,_,rfl,hr,by assumption⟩)
 · rintro _ ⟨c,r,rfl,hr,hc⟩
   simp only [rW,iY]
   rw [au (aK n)]
   exact Ok.ret ⟨_,rfl,c,r,rfl,hr,hc⟩
 · rintro _ ⟨c,r,rfl,hr,hc⟩
   simp only
   refine Ok.bif (fun h4=>?_) fun _=>Ok.ret ⟨hr,hc⟩
   have h4:(4:Int) < n:=by simpa using h4
   have e1:wI ((n:Int) - 1) = ((n - 1:Nat):Int):=by rw [aJ (by omega) (by omega)]; omega
   rw [e1]
   refine Ok.bind (jG hc (by omega) (by omega)) fun a ha=>Ok.bind (EY _) fun b _=>Ok.grd (by rw [hr]; exact aj (by omega)) ?_
   refine Ok.bind (kZ ha.2.2 (by decide) (by decide)) fun d hd=>Ok.bif (fun _=>?_) fun _=>Ok.ret ⟨hr,hd⟩
   refine Ok.grd hp' (Ok.grd (by
    show decide ((0:Int) < (((tParts t).get ((p:Int)).toNat).2.2.2.1.len:Int)) = true
    rw [tN]; simp; omega) ?_)
   refine Ok.bind (jG hd (by decide) (by decide)) fun e he=>Ok.bind (EY _) fun _ _=>Ok.bind (EY _) fun _ _=>Ok.bind (EY _) fun _ _=>Ok.bind (EY _) fun _ _=>?_
   simp only [Si,hr]
   refine Ok.grd (by simp; omega) (Ok.grd (by simp; omega) (Ok.grd (by simp; omega) (Ok.grd (by simp; omega) (Ok.ret ⟨hr,he.2.2⟩))))
def pU (ws:L Wi) (x:Im):Prop:=x.len = ws.len ∧ ∀ i,i < ws.len→((x.get i).len:Int) = (ws.get i).2.1 ∧ (x.get i).nil = false
theorem wh {n:Nat} (h:n≤100000):decide (n≤most) = true:=by
 have:most = 4294967296:=by decide
 simp only [decide_eq_true_eq]; omega
theorem QL (w:Int):(x8 w).len = 4:=rfl
set_option maxHeartbeats 1000000 in
theorem Yg {c:ig} (h:Cw c) (t:Tb) (p:Nat) (hp:p < (tParts t).len) (hw2:2≤((tParts t).get p).2.2.2.1.len) (hw4:((tParts t).get p).2.2.2.1.len≤4) (hws:∀ i,i < ((tParts t).get p).2.2.2.1.len→f326 (((tParts t).get p).2.2.2.1.get i) = true) (hch:(tChans t).len≤8) (hdv:(tDevs t).len≤8) :
 Ok (ET c t p) fun a=>pU ((tParts t).get p).2.2.2.1 a.1.1 ∧ Cw a.2.1:=by
 unfold ET
 have hp':(decide (0≤(p:Int))&&decide ((p:Int) < (t.2.2.2.2.2.2.2.1.len:Int))) = true:=aj hp
 have inner:∀ (i:Nat) (c:ig) (ws:L Int) (MP:Im),ws.len≤512→Cw c→Ok (aL oh (((),((p:Int),((),((),((i:Int),((),(ws,((0:Int),())))))))),(c,(t,(MP,((L.of (Ty.zero (.int .u8)) []),())))))) fun z=>∃ r:L Int,z = .inl (((),((p:Int),((),((),((i:Int),((),())))))),(c,(t,(MP,(r,()))))) ∧ r.len = 4 * ws.len ∧ r.nil = false:=by
  intro i c ws MP hl hc
  refine dB ws.len (fun k x=>∃ r:L Int,x = (((),((p:Int),((),((),((i:Int),((),(ws,((k:Int),())))))))),(c,(t,(MP,(r,()))))) ∧ r.len = 4 * k ∧ r.nil = false) ?_ ?_ _ ⟨_,rfl,rfl,rfl⟩
  · rintro k _ hk ⟨r,rfl,hr,hn⟩
    simp only [oh]
    rw [av hk (by omega)]
    refine Ok.grd (aM hk) (Ok.grd (aj hk) (Ok.grd (by rw [QL]; exact wh (by omega)) (Ok.ret (.inl ⟨_,rfl,_,rfl,?_,by show (r.nil&&_) = false; rw [hn]; rfl⟩))))
    show r.len + 4 = 4 * (k + 1)
    omega
  · rintro _ ⟨r,rfl,hr,hn⟩
    simp only [oh]
    rw [au (aK ws.len)]
    exact Ok.ret ⟨_,rfl,r,rfl,hr,hn⟩
 refine Ok.bind (dB (R:=fun z=>∃ (c':ig) (r:Im),z = .inl (((),()),(r,(c',()))) ∧ pU ((tParts t).get p).2.2.2.1 r ∧ Cw c') ((tParts t).get p).2.2.2.1.len (fun i x=>∃ (c:ig) (r:Im),x = (((),((p:Int),((),((),((i:Int),()))))),(c,(t,(r,())))) ∧ r.len = i ∧ (∀ k,k < i→((r.get k).len:Int) = (((tParts t).get p).2.2.2.1.get k).2.1 ∧ (r.get k).nil = false) ∧ Cw c) ?_ ?_ _ ⟨c,_,rfl,rfl,fun k hk=>absurd hk (Nat.not_lt_zero k),h⟩) ?_
 · rintro i _ hi ⟨c,r,rfl,hr,hk,hc⟩
   have hwi:=(dK _).mp (hws i hi)
   have hsz:wI (Int.tdiv (((tParts t).get p).2.2.2.1.get i).2.1 4) = (((((tParts t).get p).2.2.2.1.get i).2.1 / 4).toNat:Int):=by
    rw [Int.tdiv_eq_ediv_of_nonneg (by omega),aJ (by omega) (by omega)]; omega
   have hm4:(((tParts t).get p).2.2.2.1.get i).2.1 % 4 = 0:=by
    have:=hwi.2.2.2.1
    rwa [Int.tmod_eq_emod_of_nonneg (by omega)] at this
   simp only [rY,mX,tN]
   have hi2:(decide (0≤(i:Int))&&decide ((i:Int) < ((L.get t.2.2.2.2.2.2.2.1 p).2.2.2.1.len:Int))) = true:=aj hi
   have hi3:decide ((i:Int) < ((L.get t.2.2.2.2.2.2.2.1 p).2.2.2.1.len:Int)) = true:=aM hi
   have hsz':wI (Int.tdiv (L.get (L.get t.2.2.2.2.2.2.2.1 p).2.2.2.1 i).2.1 4) = (((((tParts t).get p).2.2.2.1.get i).2.1 / 4).toNat:Int):=hsz
   rw [hsz']
   have fin:∀ (ws:L Int) (c:ig),ws.len = ((((tParts t).get p).2.2.2.1.get i).2.1 / 4).toNat→Cw c→∀ b:L Int,b.len = 4 * ws.len ∧ b.nil = false→(∃ (c':ig) (r':Im),(((),((p:Int),((),((),(((i + 1:Nat):Int),()))))),(c,(t,((L.app r (L.of (Ty.zero (.sl (.int .u8))) [b])),())))) = (((),((p:Int),((),((),(((i + 1:Nat):Int),()))))),(c',(t,(r',())))) ∧ r'.len = i + 1 ∧ (∀ k,k < i + 1→((r'.get k).len:Int) = (((tParts t).get p).2.2.2.1.get k).2.1 ∧ (r'.get k).nil = false) ∧ Cw c'):=by
    rintro ws c hws hc b ⟨hb,hbn⟩
    refine ⟨c,_,rfl,congrArg Nat.succ hr,fun k hk'=>?_,hc⟩
    by_cases e:k = r.len
    · subst e
      rw [qH,hb,hws,hr]
      exact ⟨by omega,hbn⟩
    · rw [nK _ _ (by omega)]
      exact hk k (by omega)
   refine Ok.grd hp' (Ok.grd hi3 (Ok.grd hp' (Ok.grd hi2 (Ok.bif (fun _=>?_) fun _=>?_))))
   · refine Ok.bind (Ug hc t p hp hw2 hch hdv _ (by omega)) fun y hy=>Ok.bind (inner i y.2.1 y.1.1 r (by omega) hy.2) ?_
     rintro _ ⟨b,rfl,hb⟩
     simp only
     rw [av hi (by omega)]
     exact Ok.grd (yI (by omega)) (Ok.ret (.inl ⟨_,rfl,fin y.1.1 y.2.1 hy.1 hy.2 b hb⟩))
   · refine Ok.bind (Yf hc _ (by omega)) fun y hy=>Ok.bind (inner i y.2.1 y.1.1 r (by omega) hy.2) ?_
     rintro _ ⟨b,rfl,hb⟩
     simp only
     rw [av hi (by omega)]
     exact Ok.grd (yI (by omega)) (Ok.ret (.inl ⟨_,rfl,fin y.1.1 y.2.1 hy.1 hy.2 b hb⟩))
 · rintro _ ⟨c,r,rfl,hr,hk,hc⟩
   simp only [rY,mX,tN]
   have he:decide (((((tParts t).get p).2.2.2.1.len:Nat):Int) < ((L.get t.2.2.2.2.2.2.2.1 p).2.2.2.1.len:Int)) = false:=aK ((tParts t).get p).2.2.2.1.len
   rw [ah hp',au he]
   exact Ok.ret ⟨_,rfl,c,r,rfl,⟨hr,hk⟩,hc⟩
 · rintro _ ⟨c,r,rfl,hr,hc⟩
   exact Ok.ret ⟨hr,hc⟩
theorem u64_in (n:Int):0≤IntKind.wrap .u64 n:=by rw [wrap_u64]; omega
theorem z9:(0:Int)≤0 ∧ (0:Int)≤9:=by decide
theorem z4:(0:Int)≤4 ∧ (4:Int)≤9:=by decide
theorem z5:(0:Int)≤5 ∧ (5:Int)≤9:=by decide
theorem z0:(0:Int)≤0 ∧ (0:Int)≤4294967295:=by decide
theorem zm:(-1:Int)≤-1 ∧ (-1:Int)≤32:=by decide
theorem QM {x n:Int} (h:W1 x):W1 (dz .u32 x n):=by
 obtain ⟨h1,h2⟩:=h
 unfold dz
 have e:(2:Int) ^ (min n.toNat IntKind.u32.bits) = ((2 ^ (min n.toNat IntKind.u32.bits):Nat):Int):=by simp
 rw [e,Int.fdiv_eq_ediv_of_nonneg _ (Int.natCast_nonneg _)]
 obtain ⟨m,rfl⟩:∃ m:Nat,x = m:=⟨x.toNat,by omega⟩
 have:=Nat.div_le_self m (2 ^ (min n.toNat IntKind.u32.bits))
 have e2:((m:Int) / ((2 ^ (min n.toNat IntKind.u32.bits):Nat):Int)) = ((m / 2 ^ (min n.toNat IntKind.u32.bits):Nat):Int):=rfl
 rw [e2]
 generalize m / 2 ^ (min n.toNat IntKind.u32.bits) = q at this ⊢
 exact ⟨by omega,by omega⟩
theorem QN (b:Bool):W1 (f331 b):=by cases b <;> exact ⟨by decide,by decide⟩
theorem Ju (x n:Int):W1 (kW .u32 x n):=u32_in _
theorem zt:(-1:Int)≤-1 ∧ (-1:Int)≤65535:=by decide
theorem QO (x i:Int):Ok (Hg x i) fun _=>True:=by
 unfold Hg
 exact Ok.grd (decide_eq_true (u64_in i)) (Ok.ret trivial)
def WG (ws:L Wi):Prop:=ws.len≤4 ∧ ∀ i,i < ws.len→f326 (ws.get i) = true
def wm (ws:L Wi) (regs:L Int) (ram:Im):Prop:=regs.len = 16 ∧ regs.get 0 = 0 ∧ pU ws ram ∧ regs.nil = false ∧ WN regs
theorem atK {ws:L Wi} (hw:WG ws) (x:Int):Ok (Jo ws x) fun a=>a = (((-1:Int),()),()) ∨ ∃ i:Nat,a = (((i:Int),()),()) ∧ i < ws.len ∧ lV (ws.get i) x = true:=by
 have hl:=hw.1
 unfold Jo
 refine Ok.bind (dB (R:=fun z=>z = .inr (.inl ((),())) ∨ ∃ i:Nat,z = .inl (((i:Int),()),()) ∧ i < ws.len ∧ lV (ws.get i) x = true) ws.len (fun i y=>y = ((ws,(x,((i:Int),()))),())) ?_ ?_ _ rfl) ?_
 · rintro i _ hi rfl
   simp only [zK]
   rw [av hi (by omega),tN]
   exact Ok.grd (aM hi) (Ok.grd (aj hi) (Ok.bif (fun h=>Ok.ret (.inr ⟨_,rfl,.inr ⟨i,rfl,hi,h⟩⟩)) fun _=>Ok.ret (.inl ⟨_,rfl,rfl⟩)))
 · rintro _ rfl
   simp only [zK]
   rw [au (aK ws.len)]
   exact Ok.ret ⟨_,rfl,.inl rfl⟩
 · rintro _ (rfl | ⟨i,rfl,hi⟩)
   · exact Ok.ret (.inl rfl)
   · exact Ok.ret (.inr ⟨i,rfl,hi⟩)
def EZ (ws:L Wi) (x n:Int) (a:(Int×Unit)×Unit):Prop:=(a.1.1 != 0) = false→Int.tmod (wI x) n = 0 ∧ ∃ i:Nat,Jo ws (wI x) = some (((i:Int),()),()) ∧ i < ws.len ∧ lV (ws.get i) (wI x) = true
theorem QS {ws:L Wi} {x n k:Int} (hw:WG ws) (hn:n ≠ 0) (hk:k ≠ 0):Ok (MQ ws x n k) fun a=>(0≤a.1.1 ∧ a.1.1≤9) ∧ EZ ws x n a:=by
 unfold MQ
 refine Ok.grd (by simpa using hn) (Ok.bif (fun _=>Ok.ret ⟨by decide,fun q=>by cases q⟩) fun h=>?_)
 obtain ⟨a,e,ha⟩:=atK hw (wI x)
 rw [e]
 rcases ha with rfl | ⟨i,rfl,hi,hx⟩
 · exact Ok.ret ⟨by decide,fun q=>by cases q⟩
 · simp only [oB]
   refine Ok.bif (fun q=>?_) fun _=>Ok.grd (aj hi) (Ok.grd (by simpa using hk) (Ok.bif (fun _=>Ok.ret ⟨by decide,fun q=>by cases q⟩) fun _=>Ok.ret ⟨by decide,fun _=>⟨by simpa using h,i,e,hi,hx⟩⟩))
   simp at q; omega
theorem Jv {ws:L Wi} {x n:Int} {i:Nat} (hw:WG ws) (hn:n = 1 ∨ n = 4) (h0:Int.tmod x n = 0) (hi:i < ws.len) (hx:lV (ws.get i) x = true):0≤x - (ws.get i).1 ∧ x - (ws.get i).1 + n≤(ws.get i).2.1 ∧ 0≤x ∧ x≤2048 ∧ (ws.get i).2.1≤2048 ∧ 0≤(ws.get i).1:=by
 have h1:=(dK _).mp (hw.2 i hi)
 have h2:=(lY _ _ (hw.2 i hi)).mp hx
 rcases hn with rfl | rfl
 · omega
 · have a1:=h1.2.2.1
   have a2:=h1.2.2.2.1
   rw [Int.tmod_eq_emod_of_nonneg (by omega)] at a1 a2 h0
   omega
theorem afn {ws:L Wi} {g:Gu} {x n:Int} {y:(Int×Unit)×Unit} (hw:WG ws) (hg:wm ws g.1 g.2.2.1) (hn:n = 1 ∨ n = 4) (hy:EZ ws x n y) (h:(y.1.1 != 0) = false):Ok (QA ws g (wI x) n) fun a=>(0≤a.1.1 ∧ a.1.1≤4294967295) ∧ 0≤wI x ∧ wI x≤2048:=by
 obtain ⟨h0,i,e,hi,hx⟩:=hy h
 obtain ⟨p1,p2,p3,p4,p5,p6⟩:=Jv hw hn h0 hi hx
 obtain ⟨_,_,⟨f1,f2⟩,_⟩:=hg
 have fi:=(f2 i hi).1
 have hir:i < g.2.2.1.len:=by rw [f1]; exact hi
 obtain ⟨m,rfl⟩:∃ m:Nat,n = m:=⟨n.toNat,by omega⟩
 unfold QA
 rw [e]
 simp only [oB]
 generalize wI x = x at *
 refine Ok.bind (dB (R:=fun z=>∃ v:Int,z = .inl ((v,()),())) m (fun k y=>∃ v:Int,y = ((ws,(x,((),((i:Int),(v,(((m:Int) - 1 - k),())))))),(g,()))) ?_ ?_ _ ⟨0,?_⟩) ?_
 · rintro k _ hk ⟨v,rfl⟩
   simp only [zL]
   rw [aJ (n:=(m:Int) - 1 - k - 1) (by omega) (by omega),tN,aJ (n:=x - (ws.get i).1) (by omega) (by omega),aJ (n:=x - (ws.get i).1 + ((m:Int) - 1 - k)) (by omega) (by omega)]
   refine Ok.grd (by simp; omega) (Ok.grd (aj hir) (Ok.grd (aj hi) (Ok.grd (by simp; omega) (Ok.ret (.inl ⟨_,rfl,wI (wI (256 * v) + wI ((g.2.2.1.get i).get (x - (ws.get i).1 + ((m:Int) - 1 - k)).toNat)),?_⟩)))))
   have:(m:Int) - 1 - ((k + 1:Nat):Int) = (m:Int) - 1 - k - 1:=by omega
   rw [this]
 · rintro _ ⟨v,rfl⟩
   simp only [zL]
   rw [au (by simp; omega)]
   exact Ok.ret ⟨_,rfl,v,rfl⟩
 · rw [aJ (n:=(m:Int) - 1) (by omega) (by omega)]
   simp
 · rintro _ ⟨v,rfl⟩
   exact Ok.ret ⟨u32_in _,p3,p4⟩
theorem Hr {ws:L Wi} {g:Gu} {a v:Int} (hg:wm ws g.1 g.2.2.1) (ha:0≤a ∧ a≤15) (hv:W1 v):Ok (gM g a v) fun z=>wm ws z.2.1.1 z.2.1.2.2.1:=by
 obtain ⟨h1,h2,h3,h4,h5⟩:=hg
 unfold gM
 refine Ok.bif (fun h=>Ok.grd (by rw [h1]; simp; omega) (Ok.ret ⟨h1,?_,h3,h4,h5.set _ hv⟩)) fun _=>Ok.ret ⟨h1,h2,h3,h4,h5⟩
 have h:0 < a:=by simpa using h
 show (L.set g.1 a.toNat v).get 0 = 0
 rw [bR _ _ (by omega)]
 exact h2
theorem ai9 {ws:L Wi} {g:Gu} {x n v:Int} {y:(Int×Unit)×Unit} (hw:WG ws) (hg:wm ws g.1 g.2.2.1) (hn:n = 1 ∨ n = 4) (hy:EZ ws x n y) (h:(y.1.1 != 0) = false):Ok (K8 ws g (wI x) n v) fun z=>wm ws z.2.1.1 z.2.1.2.2.1 ∧ 0≤wI x ∧ wI x≤2048:=by
 obtain ⟨h0,i,e,hi,hx⟩:=hy h
 obtain ⟨p1,p2,p3,p4,p5,p6⟩:=Jv hw hn h0 hi hx
 obtain ⟨q1,q2,⟨f1,f2⟩,f3⟩:=hg
 obtain ⟨m,rfl⟩:∃ m:Nat,n = m:=⟨n.toNat,by omega⟩
 unfold K8
 rw [e]
 simp only [oB]
 generalize wI x = x at *
 refine Ok.bind (dB (R:=fun z=>∃ r:Im,z = .inl ((),(g.1,(r,()))) ∧ pU ws r) m (fun k y=>∃ r:Im,y = ((ws,(x,((m:Int),((),((i:Int),((),((k:Int),()))))))),(((),(g.2.1,((),()))),((x8 v),(g.1,(r,()))))) ∧ pU ws r) ?_ ?_ _ ⟨g.2.2.1,rfl,f1,f2⟩) ?_
 · rintro k _ hk ⟨r,rfl,r1,r2⟩
   have ri:=(r2 i hi).1
   simp only [vU]
   rw [av hk (by omega),tN,aJ (n:=x - (ws.get i).1) (by omega) (by omega),aJ (n:=x - (ws.get i).1 + (k:Int)) (by omega) (by omega)]
   refine Ok.grd (aM hk) (Ok.grd (by rw [r1]; exact aj hi) (Ok.grd (aj hi) (Ok.grd (by rw [QL]; exact aj (by omega)) (Ok.grd (by simp; omega) (Ok.ret (.inl ⟨_,rfl,_,rfl,r1,fun j hj=>?_⟩))))))
   by_cases q:j = i
   · subst q
     rw [jU]
     exact r2 j hj
   · rw [jV _ _ q]
     exact r2 j hj
 · rintro _ ⟨r,rfl,hr⟩
   simp only [vU]
   rw [au (aK m)]
   exact Ok.ret ⟨_,rfl,r,rfl,hr⟩
 · rintro _ ⟨r,rfl,hr⟩
   exact Ok.ret ⟨⟨q1,q2,hr,f3⟩,p3,p4⟩
theorem aja (x n:Int):Ok (TU x n) fun a=>W1 a.1.1:=by
 unfold TU
 refine Ok.bind (dB (R:=fun z=>∃ v:Int,z = .inl ((v,()),())) 32 (fun k y=>∃ v:Int,y = ((x,((wI (Int.tmod n 32)),(v,(((31:Int) - k),())))),())) ?_ ?_ _ ⟨0,rfl⟩) ?_
 · rintro k _ hk ⟨v,rfl⟩
   simp only [zM]
   rw [aJ (n:=(31:Int) - k - 1) (by omega) (by omega),show (31:Int) - k - 1 = 31 - ((k + 1:Nat):Int) by omega]
   exact Ok.grd (by simp; omega) (Ok.bif (fun _=>Ok.bind (QO _ _) fun _ _=>Ok.ret (.inl ⟨_,rfl,_,rfl⟩)) fun _=>Ok.bind (QO _ _) fun _ _=>Ok.ret (.inl ⟨_,rfl,_,rfl⟩))
 · rintro _ ⟨v,rfl⟩
   simp only [zM]
   rw [au (by simp)]
   exact Ok.ret ⟨_,rfl,v,rfl⟩
 · rintro _ ⟨v,rfl⟩
   exact Ok.ret (u32_in _)
theorem ajb {a:Int} (ha:W1 a) (o b:Int):Ok (TV o a b) fun y=>W1 y.1.1 ∧ 0≤y.1.2.1 ∧ y.1.2.1≤9:=by
 unfold TV
 repeat' (first | (refine Ok.bind (aja _ _) ?_; intro _ _) | refine Ok.grd (decide_eq_true (u64_in _)) ?_ | refine Ok.bif (fun _=>?_) (fun _=>?_))
 all_goals first | (exfalso; simp_all; done) | refine Ok.ret ⟨?_,by first | exact z9 | exact z4 | exact z5⟩
 all_goals first | exact u32_in _ | exact QM ha | exact QN _ | assumption | exact z0
theorem QT {ws:L Wi} {g:Gu} (hw:WG ws) (hg:wm ws g.1 g.2.2.1):Ok (QB ws g) fun a=>(0≤a.1.1 ∧ a.1.1≤4294967295) ∧ (0≤a.1.2.1 ∧ a.1.2.1≤9) ∧ ((a.1.2.1 == 0) = true→0≤wI g.2.1 ∧ wI g.2.1≤2048):=by
 unfold QB
 refine Ok.bind (QS hw (by decide) (by decide)) ?_
 rintro y ⟨h1,h2⟩
 refine Ok.bif (fun h=>Ok.ret ⟨z0,h1,fun q=>?_⟩) fun h=>Ok.bind (afn hw hg (by decide) h2 h) fun a ha=>Ok.ret ⟨ha.1,z9,fun _=>ha.2⟩
 simp at h q; omega
theorem Lg (w:Int) (h:0≤w ∧ w≤4294967295):Ok (MR w) fun a=>(0≤a.1.1.1 ∧ a.1.1.1≤32) ∧ (0≤a.1.1.2.1 ∧ a.1.1.2.1≤15) ∧ (0≤a.1.1.2.2.1 ∧ a.1.1.2.2.1≤15) ∧ (0≤a.1.1.2.2.2.1 ∧ a.1.1.2.2.2.1≤15):=by
 unfold MR Jp
 refine Ok.bif (fun _=>?_) fun _=>?_
 all_goals
  refine Ok.bind (instrOkK _) fun b hb=>Ok.bif (fun _=>Ok.ret (by decide)) fun q=>Ok.ret ?_
  exact hb (by simpa using q)
set_option maxHeartbeats 2000000 in
theorem afo {ws:L Wi} {g:Gu} (hw:WG ws) (hg:wm ws g.1 g.2.2.1) (hp:W1 g.2.1) (c:Int):Ok (EU ws g c) fun z=>wm ws z.1.1.1.1 z.1.1.1.2.2.1 ∧ W1 z.1.1.1.2.1 ∧ (0≤z.1.1.2.1 ∧ z.1.1.2.1≤9) ∧ (-1≤z.1.1.2.2.1 ∧ z.1.1.2.2.1≤32) ∧ (-1≤z.1.1.2.2.2.1 ∧ z.1.1.2.2.2.1≤65535):=by
 have h16:=hg.1
 have hr:=hg.2.2.2.2
 unfold EU vV BA
 refine Ok.bind (QT (g:=(g.1,(g.2.1,g.2.2))) hw hg) ?_
 rintro y ⟨y1,y2,y3⟩
 refine Ok.bif (fun _=>Ok.ret ⟨hg,hp,y2,zm,zt⟩) fun _=>Ok.bind (Lg _ y1) ?_
 intro d hd
 refine Ok.bif (fun _=>Ok.ret ⟨hg,hp,z4,zm,zt⟩) fun _=>?_
 obtain ⟨d1,d2,d3,d4⟩:=hd
 repeat' (first
  | (refine Ok.bind (QS hw (by decide) (by decide)) ?_; rintro _ ⟨_,_⟩)
  | (refine Ok.bind (afn (g:=(g.1,(g.2.1,g.2.2))) hw hg (by decide) (by assumption) (by assumption)) ?_; rintro _ ⟨_,_⟩)
  | (refine Ok.bind (ai9 (g:=(g.1,(g.2.1,g.2.2))) hw hg (by decide) (by assumption) (by assumption)) ?_; rintro _ ⟨_,_⟩)
  | (refine Ok.bind (Hr (g:=(g.1,(g.2.1,g.2.2))) hg d2 (by first | exact u32_in _ | exact Ju _ _ | assumption | exact (by assumption:0≤_ ∧ _≤(4294967295:Int)))) ?_; intro _ _)
  | (refine Ok.bind (ajb (hr _ (by rw [h16]; omega)) _ _) ?_; rintro _ ⟨_,_⟩)
  | refine Ok.grd (by rw [h16]; simp; omega) ?_
  | refine Ok.bif (fun _=>?_) (fun _=>?_))
 all_goals
  refine Ok.ret ⟨by assumption,by first | exact u32_in _ | exact hp,?_,?_,?_⟩ <;> dsimp only <;> omega
def WL {α:Type} (x:L α):Prop:=x.nil = true→x.len = 0
theorem wl {α:Type} {x:L α} (h:x.nil = false):WL x:=fun q=>by rw [h] at q; cases q
theorem DJ {α:Type} {x y:L α} (h:WL x):WL (L.app x y):=fun q=>by
 have q:(x.nil&&Nat.beq y.len 0) = true:=q
 rw [Bool.and_eq_true] at q
 have e:y.len = 0:=Nat.eq_of_beq_eq_true q.2
 show x.len + y.len = 0
 rw [h q.1,e]
def WI (x:L Int):Prop:=WL x ∧ WN x
theorem M7 {x:L Int} (h:x.len = 0):WI x:=⟨fun _=>h,WN.nil h⟩
def Ci (r:Ch) (o:Oe):Prop:=f328 r = true ∧ (r.1 = 0→o.1 = 0 ∧ o.2.1.len≤1) ∧ (r.1 ≠ 0→0≤o.1 ∧ o.1 + o.2.1.len≤r.2.2.2.1) ∧ WI o.2.1
def QU (r:Ch) (i:Ie):Prop:=f328 r = true ∧ (r.1 = 0→i.1.len≤1) ∧ (r.1 ≠ 0→(i.1.len:Int)≤r.2.2.2.1) ∧ WI i.1
def E5 (d:De):Prop:=d.1.len≤8 ∧ d.2.1.len≤8 ∧ WI d.1 ∧ WI d.2.1
def gN (t:Tb) (p:Nat) (x:L Oe):Prop:=x.len = (tChans t).len ∧ (∀ i,i < (tChans t).len→(((tChans t).get i).2.1 = p→Ci ((tChans t).get i) (x.get i)) ∧ (((tChans t).get i).2.1 ≠ p→(x.get i).1 = 0 ∧ (x.get i).2.1.len = 0)) ∧ WL x
def oC (t:Tb) (p:Nat) (x:L Ie):Prop:=x.len = (tChans t).len ∧ (∀ i,i < (tChans t).len→(((tChans t).get i).2.2.1 = p→QU ((tChans t).get i) (x.get i)) ∧ (((tChans t).get i).2.2.1 ≠ p→(x.get i).1.len = 0)) ∧ WL x
def pK (t:Tb) (p:Nat) (x:L De):Prop:=x.len = (tDevs t).len ∧ (∀ i,i < (tDevs t).len→((tDevs t).get i = p→E5 (x.get i)) ∧ ((tDevs t).get i ≠ p→(x.get i).1.len = 0 ∧ (x.get i).2.1.len = 0)) ∧ WL x
def Rv (h:He):Prop:=(0≤h.1 ∧ h.1≤1000000000) ∧ (0≤h.2.1 ∧ h.2.1≤1000000000) ∧ (0≤h.2.2.1 ∧ h.2.2.1≤9)
def U9 (n:Int) (x:Tl):Prop:=x.1 = n ∧ (x.2.1.len:Int)≤n ∧ (∀ i,i < x.2.1.len→0≤x.2.1.get i ∧ x.2.1.get i≤1023) ∧ (∀ i k,i < k→k < x.2.1.len→x.2.1.get i ≠ x.2.1.get k) ∧ WL x.2.1
def VP (v:Vi):Prop:=W1 v.2.1 ∧ W1 v.2.2.1 ∧ W1 v.2.2.2.1 ∧ W1 v.2.2.2.2.1 ∧ W1 v.2.2.2.2.2.2.2.1
structure PS (t:Tb) (p:Nat) (regs:L Int) (ram:Im) (he:He) (ca:Ca) (tl:Tl) (boot:Im) (outs:L Oe) (ins:L Ie) (devs:L De) (vi:Vi) (pc:Int):Prop where
 gu:wm ((tParts t).get p).2.2.2.1 regs ram
 he:Rv he
 ca:ca.1 = t.2.1 ∧ Ji ca ∧ ∀ i,i < ca.2.1.len→WL (ca.2.1.get i)
 tl:U9 t.2.2.1 tl
 bo:pU ((tParts t).get p).2.2.2.1 boot
 ou:gN t p outs
 is:oC t p ins
 de:pK t p devs
 vp:VP vi
 pw:W1 pc
def PG (t:Tb) (p:Nat) (s:St):Prop:=PS t p s.1.1 s.1.2.2.1 s.2.2.1 s.2.2.2.1 s.2.2.2.2.1 (qM s) (bn s) (bW s) (bq s) s.2.1 s.1.2.1
structure TG (t:Tb) (p:Nat):Prop where
 pl:p < (tParts t).len
 w:WG ((tParts t).get p).2.2.2.1
 co:f249 t.2.2.2.1 = true
 po:f261 ((tParts t).get p).2.2.1 = true
 sh:f237 t.2.1 = true
 tl:1≤t.2.2.1 ∧ t.2.2.1≤8
 ch:(tChans t).len≤8 ∧ ∀ i,i < (tChans t).len→f328 ((tChans t).get i) = true
 dv:(tDevs t).len≤8
theorem gN.set {t:Tb} {p:Nat} {x:L Oe} (h:gN t p x) {i:Nat} {o:Oe} (hi:i < (tChans t).len) (hp:((tChans t).get i).2.1 = p) (ho:Ci ((tChans t).get i) o):gN t p (L.set x i o):=by
 refine ⟨h.1,fun j hj=>?_,h.2.2⟩
 by_cases q:j = i
 · subst q; rw [dQ]; exact ⟨fun _=>ho,fun k=>absurd hp k⟩
 · rw [bR _ _ q]; exact h.2.1 j hj
theorem oC.set {t:Tb} {p:Nat} {x:L Ie} (h:oC t p x) {i:Nat} {o:Ie} (hi:i < (tChans t).len) (hp:((tChans t).get i).2.2.1 = p) (ho:QU ((tChans t).get i) o):oC t p (L.set x i o):=by
 refine ⟨h.1,fun j hj=>?_,h.2.2⟩
 by_cases q:j = i
 · subst q; rw [dQ]; exact ⟨fun _=>ho,fun k=>absurd hp k⟩
 · rw [bR _ _ q]; exact h.2.1 j hj
theorem pK.set {t:Tb} {p:Nat} {x:L De} (h:pK t p x) {i:Nat} {o:De} (hi:i < (tDevs t).len) (hp:(tDevs t).get i = p) (ho:E5 o):pK t p (L.set x i o):=by
 refine ⟨h.1,fun j hj=>?_,h.2.2⟩
 by_cases q:j = i
 · subst q; rw [dQ]; exact ⟨fun _=>ho,fun k=>absurd hp k⟩
 · rw [bR _ _ q]; exact h.2.1 j hj
theorem x9 {x:L Int} (h:x.len≤1000) (w:WN x):Ok (lX x) fun a=>a.1.1.len = x.len ∧ WI a.1.1:=by
 unfold lX
 refine Ok.grd ?_ (Ok.ret ⟨Nat.zero_add _,wl rfl,(WN.nil rfl).app w⟩)
 show decide (0 + x.len≤most) = true
 exact wh (by omega)
theorem afp {r:Ch} {o:Oe} {v:Int} (hv:W1 v) (h:Ci r o):Ok (La r o v) fun a=>Ci r a.1.1:=by
 obtain ⟨h1,h2,h3,h4⟩:=h
 have hc:=eU h1
 unfold La
 refine Ok.bif (fun _=>Ok.ret ⟨h1,fun _=>⟨rfl,Nat.zero_le _⟩,fun q=>⟨by decide,?_⟩,M7 rfl⟩) fun hok=>Ok.bif (fun q=>Ok.ret ⟨h1,fun _=>⟨rfl,Nat.le_refl 1⟩,fun k=>absurd (by simpa using q) k,wl rfl,WN.one hv⟩) fun q=>?_
 · show (0:Int) + ((0:Nat):Int)≤_
   omega
 have q:r.1 ≠ 0:=by simpa using q
 obtain ⟨a1,a2⟩:=h3 q
 refine Ok.bif (fun _=>Ok.bind (x9 (by omega) h4.2) fun y hy=>Ok.ret ⟨h1,fun k=>absurd k q,fun _=>⟨a1,?_⟩,hy.2⟩) fun hr=>Ok.bind (x9 (by omega) h4.2) fun y hy=>Ok.grd (yI (by omega)) (Ok.ret ⟨h1,fun k=>absurd k q,fun _=>⟨a1,?_⟩,DJ hy.2.1,hy.2.2.app (WN.one hv)⟩)
 · show o.1 + (y.1.1.len:Int)≤_
   rw [hy.1]; exact a2
 · have e:f336 r o = wI (wI (r.2.2.2.1 - o.1) - (o.2.1.len:Int)):=by
    have hok:f238 r o = true:=by simpa using hok
    have q':(r.1 == 0) = false:=by simpa using q
    unfold f336
    rw [hok,q']; rfl
   rw [e,aJ (n:=r.2.2.2.1 - o.1) (by omega) (by omega),aJ (by omega) (by omega)] at hr
   have hr:¬ (r.2.2.2.1 - o.1 - (o.2.1.len:Int) = 0):=by simpa using hr
   show o.1 + ((y.1.1.len + 1:Nat):Int)≤_
   rw [hy.1]; omega
theorem afq {r:Ch} {o:Ie} (h:QU r o):Ok (Lb r o) fun a=>QU r a.1.1 ∧ W1 a.1.2.1:=by
 obtain ⟨h1,h2,h3,h4⟩:=h
 have hc:=eU h1
 have hl:o.1.len≤8:=by
  by_cases q:r.1 = 0
  · have:=h2 q; omega
  · have:=h3 q; omega
 have z:∀ {x:L Int},x.len = 0→QU r (x,()):=fun {x} hx=>⟨h1,fun _=>by show x.len≤1; omega,fun _=>by show (x.len:Int)≤_; omega,M7 hx⟩
 unfold Lb
 refine Ok.bif (fun _=>Ok.ret ⟨z rfl,z0⟩) fun _=>Ok.bif (fun _=>Ok.ret ⟨z rfl,z0⟩) fun hn=>?_
 have hn:¬ ((o.1.len:Int) = 0):=by simpa using hn
 refine Ok.bif (fun q=>Ok.bind (x9 (by omega) h4.2) fun y hy=>Ok.grd (by simp; omega) (Ok.ret ⟨⟨h1,fun _=>?_,fun k=>absurd (by simpa using q) k,hy.2⟩,h4.2 0 (by omega)⟩)) fun q=>Ok.grd (by simp; omega) (Ok.bind (x9 (by show (o.1.len:Int).toNat - 1≤1000; omega) (h4.2.cut (by omega))) fun y hy=>Ok.grd (by simp; omega) (Ok.ret ⟨⟨h1,fun k=>absurd k (by simpa using q),fun k=>?_,hy.2⟩,h4.2 0 (by omega)⟩))
 · show y.1.1.len≤1
   rw [hy.1]; exact h2 (by simpa using q)
 · show (y.1.1.len:Int)≤_
   have e:(L.cut o.1 (1:Int).toNat ((o.1.len:Int)).toNat).len = (o.1.len:Int).toNat - 1:=rfl
   rw [hy.1,e]
   have:=h3 k
   omega
theorem QV {d:De} (h:E5 d):Ok (xU d) fun a=>(a.1.1.1.len = d.1.len ∧ a.1.1.2.1.len = d.2.1.len) ∧ WI a.1.1.1 ∧ WI a.1.1.2.1:=by
 unfold xU
 exact Ok.bind (x9 (Nat.le_trans h.1 (by decide)) h.2.2.1.2) fun a ha=>Ok.bind (x9 (Nat.le_trans h.2.1 (by decide)) h.2.2.2.2) fun b hb=>Ok.ret ⟨⟨ha.1,hb.1⟩,ha.2,hb.2⟩
theorem afr {d:De} (h:E5 d):Ok (Lc d) fun a=>E5 a.1.1 ∧ W1 a.1.2.1:=by
 have h2:=h.2.1
 unfold Lc
 refine Ok.bif (fun _=>Ok.ret ⟨⟨Nat.zero_le _,Nat.zero_le _,M7 rfl,M7 rfl⟩,z0⟩) fun _=>Ok.bind (QV h) fun a ha=>Ok.bif (fun _=>Ok.ret ⟨⟨by rw [ha.1.1]; exact h.1,by rw [ha.1.2]; exact h.2.1,ha.2⟩,z0⟩) fun hn=>?_
 have hn:¬ ((d.2.1.len:Int) = 0):=by simpa using hn
 have e:(L.cut d.2.1 (1:Int).toNat ((d.2.1.len:Int)).toNat).len = (d.2.1.len:Int).toNat - 1:=rfl
 refine Ok.grd (by simp; omega) (Ok.bind (x9 (by rw [e]; omega) (h.2.2.2.2.cut (by omega))) fun y hy=>Ok.grd (by simp; omega) (Ok.ret ⟨⟨by show a.1.1.1.len≤8; rw [ha.1.1]; exact h.1,?_,ha.2.1,hy.2⟩,h.2.2.2.2 0 (by omega)⟩))
 show y.1.1.len≤8
 rw [hy.1,e]; omega
theorem afs {d:De} (h:E5 d):Ok (K6 d) fun a=>E5 a.1.1:=by
 unfold K6
 refine Ok.bif (fun _=>Ok.ret ⟨Nat.zero_le _,Nat.zero_le _,M7 rfl,M7 rfl⟩) fun _=>Ok.bind (QV h) fun a ha=>?_
 have key:Ok (aL qR (((),((),(false,()))),(((),((),())),((a.1.1.1,((),())),(a.1.1.2.1,()))))) fun z=>∃ (b:Bool) (x y:L Int),z = .inl (((),((),(b,()))),(((),((),())),(((),((),())),(x,(y,()))))) ∧ x.len≤8 ∧ y.len≤8 ∧ WI x ∧ WI y:=by
  skip
  refine dB a.1.1.1.len (fun i z=>∃ (b:Bool) (x y:L Int),z = (((),((),(b,()))),(((),((),())),((x,((),())),(y,())))) ∧ x.len + i = a.1.1.1.len ∧ y.len≤8 ∧ WI x ∧ WI y) ?_ ?_ _ ⟨false,a.1.1.1,a.1.1.2.1,rfl,rfl,by rw [ha.1.2]; exact h.2.1,ha.2⟩
  · rintro i _ hi ⟨b,x,y,rfl,hx,hy,hw⟩
    have h1:=h.1
    have h2:=ha.1.1
    simp only [qR]
    refine Ok.bif (fun q=>Ok.grd (by simp; omega) (Ok.grd (by simp; omega) (Ok.grd (yI (by omega)) (Ok.grd (by simp; omega) (Ok.bind (x9 (by show (x.len:Int).toNat - 1≤1000; omega) (hw.1.2.cut (by omega))) fun u hu=>Ok.ret (.inl ⟨_,rfl,_,_,_,rfl,?_,?_,hu.2,DJ hw.2.1,hw.2.2.app (WN.one (hw.1.2 0 (by simp at q; omega)))⟩)))))) fun _=>Ok.ret (.inr ⟨_,rfl,b,x,y,rfl,by omega,hy,hw⟩)
    · have e:(L.cut x (1:Int).toNat ((x.len:Int)).toNat).len = (x.len:Int).toNat - 1:=rfl
      rw [hu.1,e]; omega
    · have q:(y.len:Int) < 8:=by simpa using q
      show y.len + 1≤8
      omega
  · rintro _ ⟨b,x,y,rfl,hx,hy,hw⟩
    simp only [qR]
    refine Ok.bif (fun _=>?_) fun _=>Ok.ret ⟨_,rfl,b,x,y,rfl,by omega,hy,hw⟩
    rw [au (by simp; omega)]
    exact Ok.ret ⟨_,rfl,b,x,y,rfl,by omega,hy,hw⟩
 refine Ok.bind key ?_
 rintro _ ⟨b,x,y,rfl,hx,hy,hw⟩
 exact Ok.ret ⟨hx,hy,hw⟩
theorem VP.pend {v:Vi} (h:VP v) {x:Int} (hx:W1 x) {b:Bool}:VP (v.1,(v.2.1,(v.2.2.1,(v.2.2.2.1,(v.2.2.2.2.1,(v.2.2.2.2.2.1,(b,(x,())))))))):=⟨h.1,h.2.1,h.2.2.1,h.2.2.2.1,hx⟩
theorem aft {v:Vi} (h:VP v) (i:Int):Ok (TR v i) fun a=>VP a.1.1:=by
 unfold TR
 exact Ok.bif (fun _=>Ok.bind (QO _ _) fun _ _=>Ok.bif (fun _=>Ok.grd (decide_eq_true (u64_in _)) (Ok.ret (h.pend (u32_in _)))) fun _=>Ok.ret h) fun _=>Ok.ret h
theorem QW {po:Int×(Int×Unit)} {h:He} {n:Int} (hp:f261 po = true) (hh:Rv h) (hn:0≤n ∧ n≤9):Ok (Uc po h n) fun a=>Rv a.1.1:=by
 obtain ⟨h1,h2,h3⟩:=hh
 unfold Uc Jr
 refine Ok.bif (fun _=>Ok.ret ⟨h1,h2,h3⟩) fun _=>Ok.bif (fun _=>Ok.ret ⟨h1,h2,h3⟩) fun _=>Ok.bif (fun _=>Ok.ret ⟨h1,h2,h3⟩) fun _=>Ok.bif (fun _=>Ok.ret ⟨h1,h2,h3⟩) fun _=>?_
 have b1:h.1 < 1000000000→0≤wI (h.1 + 1) ∧ wI (h.1 + 1)≤1000000000:=fun q=>by rw [aJ (by omega) (by omega)]; omega
 have b2:(po.1 == 1) = true→decide (h.2.1 < po.2.1) = true→0≤wI (h.2.1 + 1) ∧ wI (h.2.1 + 1)≤1000000000:=fun q k=>by
  have k:h.2.1 < po.2.1:=by simpa using k
  have:f42 po.2.1 0 100 = true:=by
   unfold f261 at hp
   rw [q] at hp; exact hp
  have:=(aZ _ _ _).mp this
  rw [aJ (by omega) (by omega)]; omega
 refine Ok.bif (fun q=>?_) fun _=>?_
 · have b1:=b1 (by simpa using q)
   exact Ok.bif (fun _=>Ok.ret ⟨b1,h2,hn⟩) fun _=>Ok.bif (fun k1=>Ok.bif (fun k2=>Ok.ret ⟨b1,b2 k1 k2,hn⟩) fun _=>Ok.ret ⟨b1,h2,hn⟩) fun _=>Ok.ret ⟨b1,h2,hn⟩
 · exact Ok.bif (fun _=>Ok.ret ⟨h1,h2,hn⟩) fun _=>Ok.bif (fun k1=>Ok.bif (fun k2=>Ok.ret ⟨h1,b2 k1 k2,hn⟩) fun _=>Ok.ret ⟨h1,h2,hn⟩) fun _=>Ok.ret ⟨h1,h2,hn⟩
theorem ajc (v:Vi) (c:Int):Ok (TS v c) fun _=>True:=by
 have key:Ok (aL rZ (((),((0:Int),())),(v,()))) fun _=>True:=by
  refine dB 32 (fun i x=>x = (((),((i:Int),())),(v,()))) ?_ ?_ _ rfl
  · rintro i _ hi rfl
    simp only [rZ]
    rw [av hi (by omega)]
    exact Ok.grd (by simp; omega) (Ok.bind (QO _ _) fun _ _=>Ok.bif (fun _=>Ok.ret (.inr ⟨_,rfl,trivial⟩)) fun _=>Ok.ret (.inl ⟨_,rfl,rfl⟩))
  · rintro _ rfl
    simp only [rZ]
    rw [au (by simp)]
    exact Ok.ret ⟨_,rfl,trivial⟩
 unfold TS
 refine Ok.bif (fun _=>Ok.ret trivial) fun _=>Ok.bif (fun _=>Ok.ret trivial) fun _=>Ok.bif (fun _=>Ok.bind (Ye (by decide)) fun _ _=>Ok.bif (fun _=>Ok.ret trivial) fun _=>?_) fun _=>?_
 all_goals
  refine Ok.bind key ?_
  rintro (y | y | e) _
  · exact Ok.ret trivial
  · exact Ok.ret trivial
  · exact nomatch e
theorem Yh {v:Vi} (h:VP v) (c:Int) {pc:Int} (hp:W1 pc):Ok (TT v c pc) fun a=>VP a.1.1 ∧ W1 a.1.2.1:=by
 obtain ⟨h1,h2,h3,h4,h5⟩:=h
 unfold TT
 exact Ok.bif (fun _=>Ok.ret ⟨⟨h1,h2,h3,h4,h5⟩,hp⟩) fun _=>Ok.bif (fun _=>Ok.ret ⟨⟨h1,hp,u32_in _,h4,h5⟩,h1⟩) fun _=>Ok.bind (QO _ _) fun _ _=>Ok.bif (fun _=>Ok.grd (decide_eq_true (u64_in _)) (Ok.ret ⟨⟨h1,hp,u32_in _,h4,u32_in _⟩,h1⟩)) fun _=>Ok.ret ⟨⟨h1,hp,u32_in _,h4,h5⟩,h1⟩
theorem Va {x:L Int} (h:x.len≤1000):Ok (Qz x) fun _=>True:=by
 have key:Ok (aL vT ((x,((1:Int),((0:Int),()))),())) fun _=>True:=by
  refine dB x.len (fun i z=>∃ v:Int,z = ((x,(v,((i:Int),()))),())) ?_ ?_ _ ⟨_,rfl⟩
  · rintro i _ hi ⟨v,rfl⟩
    simp only [vT]
    rw [av hi (by omega)]
    exact Ok.grd (aM hi) (Ok.grd (aj hi) (Ok.ret (.inl ⟨_,rfl,_,rfl⟩)))
  · rintro _ ⟨v,rfl⟩
    simp only [vT]
    rw [au (aK x.len)]
    exact Ok.ret ⟨_,rfl,trivial⟩
 unfold Qz
 refine Ok.bind key ?_
 rintro (y | e) _
 · exact Ok.ret trivial
 · exact nomatch e
theorem afu {v:Vi} (h:VP v) (n c:Int):Ok (T9 v n c) fun a=>W1 a.1.1:=by
 obtain ⟨h1,h2,h3,h4,h5⟩:=h
 unfold T9
 repeat' (first | (refine Ok.bind (Ye (by decide)) ?_; intro _ _) | refine Ok.bif (fun _=>?_) (fun _=>?_))
 all_goals refine Ok.ret ?_
 all_goals first | assumption | exact QN _ | exact u32_in _ | exact z0
theorem afv {v:Vi} (h:VP v) (n:Int) {x:Int} (hx:W1 x):Ok (Ua v n x) fun a=>VP a.1.1:=by
 obtain ⟨h1,h2,h3,h4,h5⟩:=h
 unfold Ua
 repeat' (refine Ok.bif (fun _=>?_) (fun _=>?_))
 all_goals exact Ok.ret ⟨by assumption,by assumption,h3,by assumption,h5⟩
theorem Yi {v:Vi} (h:VP v):Ok (Ub v) fun a=>VP a.1.1 ∧ W1 a.1.2.1:=by
 obtain ⟨h1,h2,h3,h4,h5⟩:=h
 unfold Ub
 exact Ok.bif (fun _=>Ok.ret ⟨⟨h1,h2,h3,h4,h5⟩,z0⟩) fun _=>Ok.ret ⟨⟨h1,h2,h3,h4,h5⟩,h2⟩
theorem ajd {x:L Int} (h:x.len≤1000) (v:Int):Ok (TY x v) fun a=>a.1.1 = false→∀ i,i < x.len→x.get i ≠ v:=by
 have key:Ok (aL vW ((x,(v,((0:Int),()))),())) fun z=>z = .inl ((true,()),()) ∨ (z = .inr (.inl ((),())) ∧ ∀ i,i < x.len→x.get i ≠ v):=by
  refine dB x.len (fun i z=>z = ((x,(v,((i:Int),()))),()) ∧ ∀ j,j < i→x.get j ≠ v) ?_ ?_ _ ⟨rfl,fun j hj=>absurd hj (Nat.not_lt_zero j)⟩
  · rintro i _ hi ⟨rfl,ha⟩
    simp only [vW]
    rw [av hi (by omega),tN]
    refine Ok.grd (aM hi) (Ok.grd (aj hi) (Ok.bif (fun _=>Ok.ret (.inr ⟨_,rfl,.inl rfl⟩)) fun q=>Ok.ret (.inl ⟨_,rfl,rfl,fun j hj=>?_⟩)))
    rcases Nat.lt_or_eq_of_le (Nat.le_of_lt_succ hj) with e | rfl
    · exact ha j e
    · simpa using q
  · rintro _ ⟨rfl,ha⟩
    simp only [vW]
    rw [au (aK x.len)]
    exact Ok.ret ⟨_,rfl,.inr ⟨rfl,ha⟩⟩
 unfold TY
 refine Ok.bind key ?_
 rintro _ (rfl | ⟨rfl,h⟩)
 · exact Ok.ret fun q=>by cases q
 · exact Ok.ret fun _=>h
def QX (v:L Int):Prop:=(∀ i,i < v.len→0≤v.get i ∧ v.get i≤1023) ∧ ∀ i k,i < k→k < v.len→v.get i ≠ v.get k
theorem QX.of0 {v:L Int} (h:QX v) (z:Int):QX (L.app (L.of z []) v):=by
 have el:(L.app (L.of z []) v).len = v.len:=Nat.zero_add _
 exact ⟨fun i hi=>h.1 i (by omega),fun i k a b=>h.2 i k a (by omega)⟩
theorem QX.add {v:L Int} (h:QX v) {a:Int} (ha:0≤a ∧ a≤1023) (hn:∀ i,i < v.len→v.get i ≠ a) (z:Int):QX (L.app v (L.of z [a])):=by
 refine ⟨fun i hi=>?_,fun i k hik hk=>?_⟩
 · have hi:i < v.len + 1:=hi
   by_cases e:i = v.len
   · subst e; rw [qH]; exact ha
   · rw [nK _ _ (by omega)]; exact h.1 i (by omega)
 · have hk:k < v.len + 1:=hk
   rw [nK _ _ (show i < v.len by omega)]
   by_cases e:k = v.len
   · subst e; rw [qH]; exact hn i hik
   · rw [nK _ _ (by omega)]; exact h.2 i k hik (by omega)
theorem QX.cut {v:L Int} (h:QX v) (n:Nat) (hn:n≤v.len):QX (L.cut v 1 n):=by
 have el:(L.cut v 1 n).len = n - 1:=rfl
 have eg:∀ i,(L.cut v 1 n).get i = v.get (1 + i):=fun _=>rfl
 exact ⟨fun i hi=>by rw [eg]; exact h.1 _ (by omega),fun i k a b=>by rw [eg,eg]; exact h.2 _ _ (by omega) (by omega)⟩
theorem aje {n:Int} {x:Tl} {a:Int} (hn:1≤n ∧ n≤8) (h:U9 n x) (ha:0≤a ∧ a≤65535):Ok (K9 x a) fun z=>U9 n z.1.1:=by
 obtain ⟨h1,h2,h3,h4,h5⟩:=h
 have hp:QX x.2.1:=⟨h3,h4⟩
 have hl:x.2.1.len≤8:=by omega
 have ep:wI (Int.tdiv a 64) = a / 64:=by rw [Int.tdiv_eq_ediv_of_nonneg ha.1,aJ (by omega) (by omega)]
 unfold K9
 rw [ep]
 have e0:(L.app (L.of (Ty.zero (.int .i64)) []) x.2.1).len = x.2.1.len:=Nat.zero_add _
 have hp0:=hp.of0 (Ty.zero (.int .i64))
 refine Ok.grd (by
  show decide (0 + x.2.1.len≤most) = true
  exact wh (by omega)) (Ok.bind (ajd (by omega) _) fun y hy=>Ok.bif (fun _=>Ok.ret ⟨h1,by show ((0 + x.2.1.len:Nat):Int)≤n; omega,hp0.1,hp0.2,wl rfl⟩) fun q=>Ok.grd (yI (by omega)) ?_)
 have hp1:=hp0.add (a:=a / 64) (by omega) (fun i hi=>hy q i (by omega)) (Ty.zero (.int .i64))
 have e1:(L.app (L.app (L.of (Ty.zero (.int .i64)) []) x.2.1) (L.of (Ty.zero (.int .i64)) [a / 64])).len = x.2.1.len + 1:=by
  show (L.app (L.of (Ty.zero (.int .i64)) []) x.2.1).len + 1 = _
  rw [e0]
 have wlV:WL (L.app (L.app (L.of (Ty.zero (.int .i64)) []) x.2.1) (L.of (Ty.zero (.int .i64)) [a / 64])):=wl rfl
 generalize L.app (L.app (L.of (Ty.zero (.int .i64)) []) x.2.1) (L.of (Ty.zero (.int .i64)) [a / 64]) = V at hp1 e1 wlV ⊢
 have hp2:=(hp1.cut V.len (Nat.le_refl _)).of0 (Ty.zero (.int .i64))
 have e2:(L.cut V (1:Int).toNat (V.len:Int).toNat).len = V.len - 1:=by show (V.len:Int).toNat - 1 = _; omega
 refine Ok.bif (fun k=>Ok.grd (by simp; omega) (Ok.grd (by
  show decide (0 + (L.cut V (1:Int).toNat (V.len:Int).toNat).len≤most) = true
  exact wh (by omega)) (Ok.ret ⟨h1,by show ((0 + (L.cut V (1:Int).toNat (V.len:Int).toNat).len:Nat):Int)≤n; omega,?_,?_,wl rfl⟩))) fun k=>Ok.ret ⟨h1,?_,hp1.1,hp1.2,fun q=>?_⟩
 · exact hp2.1
 · exact hp2.2
 · have k:¬ ((V.len:Int) > x.1):=by simpa using k
   show (V.len:Int)≤n
   omega
 · exact wlV q
theorem QY {n:Int} (h1:-100000000≤n) (h2:n≤100000000):wI n = n:=aJ (by omega) (by omega)
theorem Lh {t:Tb} {p:Nat} {s:St} {a:Int} {w:Bool} (g:TG t p) (h:PG t p s) (ha:0≤a ∧ a≤65535):Ok (DI t s a w) fun z=>(0≤z.1.1 ∧ z.1.1≤150) ∧ PG t p z.2.1:=by
 unfold DI
 refine Ok.bind (aje g.tl h.tl ha) fun y hy=>?_
 obtain ⟨c,p',q,u1,u2,u3,u4⟩:=ahF s.2.2.2.1 h.ca.2.1 a ha w
 have u1':GX s.2.2.2.1 a w = some ((c,(p',(q,()))),()):=u1
 rw [u1',oB]
 refine Ok.ret ⟨?_,h.gu,h.he,⟨u2.trans h.ca.1,u3,fun i hi=>wl (u4 i hi)⟩,hy,h.bo,h.ou,h.is,h.de,h.vp,h.pw⟩
 have hc:=nX g.co
 show 0≤f253 t.2.2.2.1 (p',(y.1.2.1,(q,()))) ∧ f253 t.2.2.2.1 (p',(y.1.2.1,(q,())))≤150
 rw [Jf g.co]
 cases p' <;> cases y.1.2.1 <;> cases q <;> simp <;> omega
theorem Uh {c:Co} (hc:f249 c = true) {o:Int} (h:0≤o ∧ o≤32):Ok (GJ c o) fun a=>1≤a.1.1 ∧ a.1.1≤70:=by
 obtain ⟨i,rfl⟩:∃ i:Nat,o = i:=⟨o.toNat,by omega⟩
 refine ⟨_,opc hc (i:=i) (by omega),?_⟩
 have:=nX hc
 show 1≤f100 c i ∧ f100 c i≤70
 unfold f100
 cases ((i:Int) == 9) <;> cases ((i:Int) == 10) <;> cases f157 (i:Int) 15 18 <;> cases decide ((i:Int) ≥ 25) <;> simp only [cond_true,cond_false] <;> (try simp (disch:=omega) only [QY]) <;> omega
def fE {α:Type} (x y:L α):Prop:=x.len = y.len ∧ ∀ i,i < x.len→x.get i = y.get i
def wo {α:Type} (R:α→α→Prop) (x y:L α):Prop:=x.len = y.len ∧ ∀ i,i < x.len→R (x.get i) (y.get i)
theorem fE.symm {α:Type} {x y:L α} (h:fE x y):fE y x:=⟨h.1.symm,fun i hi=>(h.2 i (by rw [h.1]; exact hi)).symm⟩
theorem fE.trans {α:Type} {x y z:L α} (h:fE x y) (k:fE y z):fE x z:=⟨h.1.trans k.1,fun i hi=>(h.2 i hi).trans (k.2 i (by rw [← h.1]; exact hi))⟩
theorem wo.symm {α:Type} {R:α→α→Prop} (hR:∀ a b,R a b→R b a) {x y:L α} (h:wo R x y):wo R y x:=⟨h.1.symm,fun i hi=>hR _ _ (h.2 i (by rw [h.1]; exact hi))⟩
theorem wo.trans {α:Type} {R:α→α→Prop} (hR:∀ a b c,R a b→R b c→R a c) {x y z:L α} (h:wo R x y) (k:wo R y z):wo R x z:=⟨h.1.trans k.1,fun i hi=>hR _ _ _ (h.2 i hi) (k.2 i (by rw [← h.1]; exact hi))⟩
def Fb (a b:Oe):Prop:=a.1 = b.1 ∧ fE a.2.1 b.2.1
def Ht (a b:Ie):Prop:=fE a.1 b.1
def E8 (a b:De):Prop:=fE a.1 b.1 ∧ fE a.2.1 b.2.1
theorem Fb.symm {a b:Oe} (h:Fb a b):Fb b a:=⟨h.1.symm,h.2.symm⟩
theorem Ht.symm {a b:Ie} (h:Ht a b):Ht b a:=fE.symm h
theorem E8.symm {a b:De} (h:E8 a b):E8 b a:=⟨h.1.symm,h.2.symm⟩
theorem Fb.trans {a b c:Oe} (h:Fb a b) (k:Fb b c):Fb a c:=⟨h.1.trans k.1,h.2.trans k.2⟩
theorem Ht.trans {a b c:Ie} (h:Ht a b) (k:Ht b c):Ht a c:=fE.trans h k
theorem E8.trans {a b c:De} (h:E8 a b) (k:E8 b c):E8 a c:=⟨h.1.trans k.1,h.2.trans k.2⟩
def Rw (a b:Gu):Prop:=fE a.1 b.1 ∧ a.2.1 = b.2.1 ∧ wo fE a.2.2.1 b.2.2.1
def SmC (a b:Ca):Prop:=a.1 = b.1 ∧ wo fE a.2.1 b.2.1
def SmT (a b:Tl):Prop:=a.1 = b.1 ∧ fE a.2.1 b.2.1
structure Li (a b:St):Prop where
 gu:Rw a.1 b.1
 vi:a.2.1 = b.2.1
 he:a.2.2.1 = b.2.2.1
 ca:SmC a.2.2.2.1 b.2.2.2.1
 tl:SmT a.2.2.2.2.1 b.2.2.2.2.1
 nx:a.2.2.2.2.2.1 = b.2.2.2.2.2.1
 id:a.2.2.2.2.2.2.1 = b.2.2.2.2.2.2.1
 bo:wo fE (qM a) (qM b)
 ou:wo Fb (bn a) (bn b)
 is:wo Ht (bW a) (bW b)
 de:wo E8 (bq a) (bq b)
theorem Rw.symm {a b:Gu} (h:Rw a b):Rw b a:=⟨h.1.symm,h.2.1.symm,h.2.2.symm (fun _ _=>fE.symm)⟩
theorem Rw.trans {a b c:Gu} (h:Rw a b) (k:Rw b c):Rw a c:=⟨h.1.trans k.1,h.2.1.trans k.2.1,wo.trans (R:=fE) (fun _ _ _=>fE.trans) h.2.2 k.2.2⟩
theorem Li.symm {a b:St} (h:Li a b):Li b a:=⟨h.gu.symm,h.vi.symm,h.he.symm,⟨h.ca.1.symm,h.ca.2.symm (fun _ _=>fE.symm)⟩,⟨h.tl.1.symm,h.tl.2.symm⟩,h.nx.symm,h.id.symm,h.bo.symm (fun _ _=>fE.symm),h.ou.symm (fun _ _=>Fb.symm),h.is.symm (fun _ _=>Ht.symm),h.de.symm (fun _ _=>E8.symm)⟩
theorem Li.trans {a b c:St} (h:Li a b) (k:Li b c):Li a c:=⟨h.gu.trans k.gu,h.vi.trans k.vi,h.he.trans k.he,⟨h.ca.1.trans k.ca.1,wo.trans (R:=fE) (fun _ _ _=>fE.trans) h.ca.2 k.ca.2⟩,⟨h.tl.1.trans k.tl.1,h.tl.2.trans k.tl.2⟩,h.nx.trans k.nx,h.id.trans k.id,wo.trans (R:=fE) (fun _ _ _=>fE.trans) h.bo k.bo,wo.trans (R:=Fb) (fun _ _ _=>Fb.trans) h.ou k.ou,wo.trans (R:=Ht) (fun _ _ _=>Ht.trans) h.is k.is,wo.trans (R:=E8) (fun _ _ _=>E8.trans) h.de k.de⟩
theorem MJ.same {a b:St} {m:Nat} (h:Li a b) (hb:MJ a m):MJ b m:=by
 obtain ⟨h1,⟨h2,h2'⟩,⟨h3,h3'⟩,h4,⟨h5,h5'⟩,⟨h6,h6'⟩,⟨h7,h7'⟩,h8,h8'⟩:=hb
 refine ⟨by rw [← h.gu.1.1]; exact h1,⟨by rw [← h.gu.2.2.1]; exact h2,fun i hi=>?_⟩,⟨by rw [← h.ca.2.1]; exact h3,fun i hi=>?_⟩,by rw [← h.tl.2.1]; exact h4,⟨by rw [← h.bo.1]; exact h5,fun i hi=>?_⟩,⟨by rw [← h.ou.1]; exact h6,fun i hi=>?_⟩,⟨by rw [← h.is.1]; exact h7,fun i hi=>?_⟩,by rw [← h.de.1]; exact h8,fun i hi=>?_⟩
 · have hi':i < a.1.2.2.1.len:=by rw [h.gu.2.2.1]; exact hi
   rw [← (h.gu.2.2.2 i hi').1]; exact h2' i hi'
 · have hi':i < a.2.2.2.1.2.1.len:=by rw [h.ca.2.1]; exact hi
   rw [← (h.ca.2.2 i hi').1]; exact h3' i hi'
 · have hi':i < (qM a).len:=by rw [h.bo.1]; exact hi
   rw [← (h.bo.2 i hi').1]; exact h5' i hi'
 · have hi':i < (bn a).len:=by rw [h.ou.1]; exact hi
   rw [← (h.ou.2 i hi').2.1]; exact h6' i hi'
 · have hi':i < (bW a).len:=by rw [h.is.1]; exact hi
   rw [← (h.is.2 i hi').1]; exact h7' i hi'
 · have hi':i < (bq a).len:=by rw [h.de.1]; exact hi
   rw [← (h.de.2 i hi').1.1,← (h.de.2 i hi').2.1]; exact h8' i hi'
theorem jH {α β σ:Type} {o:Option α} {F:α→Option β} {g:σ→β} {P:σ→Prop} (h:∃ a,o = some a ∧ ∃ s,F a = some (g s) ∧ P s):∃ s,o.bind F = some (g s) ∧ P s:=by
 obtain ⟨a,rfl,s,h1,h2⟩:=h
 exact ⟨s,h1,h2⟩
theorem zO {α:Type} (r:L α) (d q:α) {j:Nat} (h:j < r.len):(L.app r (L.of d [q])).get j = r.get j:=oU h
theorem zP {α:Type} (r:L α) (d q:α) {i:Nat} (h:r.len = i):(L.app r (L.of d [q])).get i = q:=by
 subst h
 exact oV (x:=r) (y:=L.of d [q]) (i:=0)
theorem fC {α:Type} (r:L α) (d q:α) (h:r.len≤1048576):decide (r.len + (L.of d [q]).len≤most) = true:=decide_eq_true (by show r.len + 1≤4294967296; omega)
theorem app0 {α:Type} (d:α) (y:L α):fE (L.app (L.of d []) y) y:=by
 refine ⟨Nat.zero_add _,fun i hi=>?_⟩
 have:=oV (x:=L.of d []) (y:=y) (i:=i)
 rwa [show (L.of d ([]:List α)).len + i = i from Nat.zero_add i] at this
theorem fD {α:Type} (d:α) (y:L α) (h:y.len≤1048576):decide ((L.of d []).len + y.len≤most) = true:=decide_eq_true (by show 0 + y.len≤4294967296; omega)
theorem Jw {X D β:Type} {step:X→Option (X⊕D)} (n:Nat) (hn:n≤1048576) (st:Nat→L β→X) (fin:L β→D) (d:β) (R:Nat→β→Prop)
 (hs:∀ i r,i < n→r.len = i→∃ q,step (st i r) = some (.inl (st (i + 1) (L.app r (L.of d [q])))) ∧ R i q)
 (he:∀ r,r.len = n→step (st n r) = some (.inr (fin r))) {r0:L β} (h0:r0.len = 0) :
 ∃ r,aL step (st 0 r0) = some (fin r) ∧ r.len = n ∧ ∀ i,i < n→R i (r.get i) :=
 Sg n st fin R (fun i r hi hr=>by
  obtain ⟨q,h1,h2⟩:=hs i r hi hr
  exact ⟨_,h1,by show r.len + 1 = _; omega,fun j hj=>zO _ _ _ (by omega),by rw [zP _ _ _ hr]; exact h2⟩) he h0
theorem Hu (x:L Int) (h:x.len≤1048576) (hn:x.nil = true→x.len = 0):∃ r,Gi x = some ((r,()),()) ∧ fE r x ∧ (r.nil = true→r.len = 0):=by
 unfold Gi
 cases hx:x.nil with
 | true=>exact ⟨_,rfl,⟨by rw [hn hx]; rfl,fun i hi=>absurd hi (Nat.not_lt_zero i)⟩,fun _=>rfl⟩
 | false=>exact ⟨_,(au rfl).trans (ah (fD _ _ h)),app0 _ _,fun h=>by cases h⟩
theorem DK (x:Im) (hl:x.len≤1048576) (hw:∀ i,i < x.len→(x.get i).len≤1048576) (hn:∀ i,i < x.len→(x.get i).nil = true→(x.get i).len = 0):∃ r:Im,Dm x = some ((r,()),()) ∧ wo fE r x ∧ ∀ i,i < r.len→(r.get i).nil = true→(r.get i).len = 0:=by
 obtain ⟨r,h1,h2,h3⟩:=Jw (step:=nW) x.len hl (fun i r=>((r,(x,((x.len:Int),((i:Int),())))),())) (fun r=>.inl (((),()),(r,()))) (Ty.zero (.sl (.int .u8))) (fun i q=>fE q (x.get i) ∧ (q.nil = true→q.len = 0))
  (fun i r hi hr=>by
   obtain ⟨q,q1,q2⟩:=Hu (x.get i) (hw i hi) (hn i hi)
   refine ⟨q,?_,q2⟩
   simp only [nW]
   rw [ah (aM hi),ah (aj hi),tN,q1]
   simp only [oB]
   rw [ah (fC _ _ _ (by omega)),av hi (by omega)])
  (fun r hr=>by
   simp only [nW]
   rw [au (aK _)]) (r0:=bG (.sl (.int .u8))) rfl
 refine ⟨r,?_,⟨h2,fun i hi=>(h3 i (by omega)).1⟩,fun i hi=>(h3 i (by omega)).2⟩
 unfold Dm
 have h1':aL nW (((bG (.sl (.int .u8))),(x,((x.len:Int),((0:Int),())))),()) = _:=h1
 rw [h1']; rfl
def QZ (s:Sh) (c:Ca):Prop:=c.1 = s ∧ c.2.1.len = s.1.toNat ∧ ∀ i,i < c.2.1.len→(c.2.1.get i).len = 0
theorem QZ.same {s:Sh} {a b:Ca} (h:QZ s a) (k:QZ s b):SmC a b :=
 ⟨h.1.trans k.1.symm,h.2.1.trans k.2.1.symm,fun i hi=>⟨by rw [h.2.2 i hi,k.2.2 i (by rw [k.2.1,← h.2.1]; exact hi)],fun j hj=>by rw [h.2.2 i hi] at hj; exact absurd hj (Nat.not_lt_zero j)⟩⟩
theorem bind_eq {α β:Type} {o:Option α} {F:α→Option β} {a:α} {z:Option β} (h:o = some a) (k:F a = z):o.bind F = z:=by rw [h]; exact k
theorem YM {α:Type} {x y:L α} (h:x.len = 0) (k:y.len = 0):fE x y:=⟨h.trans k.symm,fun i hi=>by rw [h] at hi; exact absurd hi (Nat.not_lt_zero i)⟩
def NN (s:St):Prop:=WL s.1.1 ∧ (∀ i,i < s.1.2.2.1.len→WL (s.1.2.2.1.get i)) ∧ (∀ i,i < s.2.2.2.1.2.1.len→WL (s.2.2.2.1.2.1.get i)) ∧ WL s.2.2.2.2.1.2.1 ∧ (∀ i,i < (qM s).len→WL ((qM s).get i)) ∧
 (WL (bn s) ∧ ∀ i,i < (bn s).len→WL ((bn s).get i).2.1) ∧ (WL (bW s) ∧ ∀ i,i < (bW s).len→WL ((bW s).get i).1) ∧ WL (bq s) ∧ ∀ i,i < (bq s).len→WL ((bq s).get i).1 ∧ WL ((bq s).get i).2.1
theorem Hw (x:L Int) (h:x.len≤1048576) (hn:WL x):∃ r,xL x = some ((r,()),()) ∧ fE r x ∧ WL r:=by
 unfold xL
 cases hx:x.nil with
 | true=>exact ⟨_,rfl,YM rfl (hn hx),fun _=>rfl⟩
 | false=>exact ⟨_,(au rfl).trans (ah (fD _ _ h)),app0 _ _,wl rfl⟩
theorem afw (x:L Int) (h:x.len≤1048576) (hn:WL x):∃ r,Kl x = some ((r,()),()) ∧ fE r x ∧ WL r:=by
 unfold Kl
 cases hx:x.nil with
 | true=>exact ⟨_,rfl,YM rfl (hn hx),fun _=>rfl⟩
 | false=>exact ⟨_,(au rfl).trans (ah (fD _ _ h)),app0 _ _,wl rfl⟩
theorem afx (x:L Wy) (h:x.len≤1048576) (hn:WL x):∃ r,Kj x = some ((r,()),()) ∧ fE r x ∧ WL r:=by
 unfold Kj
 cases hx:x.nil with
 | true=>exact ⟨_,rfl,YM rfl (hn hx),fun _=>rfl⟩
 | false=>exact ⟨_,(au rfl).trans (ah (fD _ _ h)),app0 _ _,wl rfl⟩
theorem afy (x:L Oe) (h:x.len≤1048576) (hn:WL x):∃ r,Gl x = some ((r,()),()) ∧ fE r x ∧ WL r:=by
 unfold Gl
 cases hx:x.nil with
 | true=>exact ⟨_,rfl,YM rfl (hn hx),fun _=>rfl⟩
 | false=>exact ⟨_,(au rfl).trans (ah (fD _ _ h)),app0 _ _,wl rfl⟩
theorem afz (x:L Ie) (h:x.len≤1048576) (hn:WL x):∃ r,Gm x = some ((r,()),()) ∧ fE r x ∧ WL r:=by
 unfold Gm
 cases hx:x.nil with
 | true=>exact ⟨_,rfl,YM rfl (hn hx),fun _=>rfl⟩
 | false=>exact ⟨_,(au rfl).trans (ah (fD _ _ h)),app0 _ _,wl rfl⟩
theorem afA (x:L De) (h:x.len≤1048576) (hn:WL x):∃ r,Gn x = some ((r,()),()) ∧ fE r x ∧ WL r:=by
 unfold Gn
 cases hx:x.nil with
 | true=>exact ⟨_,rfl,YM rfl (hn hx),fun _=>rfl⟩
 | false=>exact ⟨_,(au rfl).trans (ah (fD _ _ h)),app0 _ _,wl rfl⟩
theorem Hy (g:Gu) (h1:g.1.len≤1048576) (h2:PW g.2.2.1 1048576) (n1:WL g.1) (n2:∀ i,i < g.2.2.1.len→WL (g.2.2.1.get i)):∃ r:Gu,Ba g = some ((r,()),()) ∧ Rw r g ∧ WL r.1 ∧ ∀ i,i < r.2.2.1.len→WL (r.2.2.1.get i):=by
 obtain ⟨y,y1,y2,y3⟩:=Hw g.1 h1 n1
 have key:∀ {va wj:_},∃ r:Im,aL nU (((),((),(g.2.2.1,((g.2.2.1.len:Int),((0:Int),()))))),(((),((),((),()))),(((),(va,((bG (.sl (.int .u8))),()))),(wj,())))) = some (.inl (((),((),())),(((),((),((),()))),(((),(va,((),()))),(wj,(r,())))))) ∧ r.len = g.2.2.1.len ∧ ∀ i,i < g.2.2.1.len→fE (r.get i) (g.2.2.1.get i) ∧ WL (r.get i):=by
  intro va wj
  exact Jw (step:=nU) g.2.2.1.len h2.1 (fun i r=>(((),((),(g.2.2.1,((g.2.2.1.len:Int),((i:Int),()))))),(((),((),((),()))),(((),(va,(r,()))),(wj,()))))) (fun r=>.inl (((),((),())),(((),((),((),()))),(((),(va,((),()))),(wj,(r,())))))) (Ty.zero (.sl (.int .u8))) (fun i q=>fE q (g.2.2.1.get i) ∧ WL q)
   (fun i r hi hr=>by
    have hb:=h2.2 i hi
    have hm:=h2.1
    obtain ⟨q,q1,q2⟩:=Hu (g.2.2.1.get i) hb (n2 i hi)
    refine ⟨q,?_,q2⟩
    simp only [nU]
    rw [ah (aM hi),ah (aj hi),tN,q1]
    simp only [oB]
    rw [ah (fC _ _ _ (by omega)),av hi (by omega)])
   (fun r hr=>by
    simp only [nU]
    rw [au (aK _)]) (r0:=bG (.sl (.int .u8))) rfl
 unfold Ba
 rw [y1,oB]
 refine jH ?_
 refine key.elim fun r h=>⟨_,h.1,?_⟩
 exact ⟨_,rfl,⟨y2,rfl,h.2.1,fun i hi=>(h.2.2 i (by rw [← h.2.1]; exact hi)).1⟩,y3,fun i hi=>(h.2.2 i (by rw [← h.2.1]; exact hi)).2⟩
theorem Q0 (c:Ca) (h2:c.2.1.len≤1048576 ∧ ∀ i,i < c.2.1.len→(c.2.1.get i).len≤1048576) (n2:∀ i,i < c.2.1.len→WL (c.2.1.get i)):∃ r:Ca,Kk c = some ((r,()),()) ∧ SmC r c ∧ ∀ i,i < r.2.1.len→WL (r.2.1.get i):=by
 have key:∀ {wk va wn:_},∃ r:L (L Wy),aL nV (((),((),(c.2.1,((c.2.1.len:Int),((0:Int),()))))),(((),((),((),((),())))),((wk,(va,(wn,((bG (.sl (.pair (.int .i64) (.pair .bool .unit)))),())))),()))) = some (.inl (((),((),())),(((),((),((),((),())))),((wk,(va,(wn,((),())))),(r,()))))) ∧ r.len = c.2.1.len ∧ ∀ i,i < c.2.1.len→fE (r.get i) (c.2.1.get i) ∧ WL (r.get i):=by
  intro wk va wn
  exact Jw (step:=nV) c.2.1.len h2.1 (fun i r=>(((),((),(c.2.1,((c.2.1.len:Int),((i:Int),()))))),(((),((),((),((),())))),((wk,(va,(wn,(r,())))),())))) (fun r=>.inl (((),((),())),(((),((),((),((),())))),((wk,(va,(wn,((),())))),(r,()))))) (Ty.zero (.sl (.pair (.int .i64) (.pair .bool .unit)))) (fun i q=>fE q (c.2.1.get i) ∧ WL q)
   (fun i r hi hr=>by
    have hm:=h2.1
    obtain ⟨q,q1,q2⟩:=afx (c.2.1.get i) (h2.2 i hi) (n2 i hi)
    refine ⟨q,?_,q2⟩
    simp only [nV]
    rw [ah (aM hi),ah (aj hi),tN,q1]
    simp only [oB]
    rw [ah (fC _ _ _ (by omega)),av hi (by omega)])
   (fun r hr=>by
    simp only [nV]
    rw [au (aK _)]) (r0:=bG (.sl (.pair (.int .i64) (.pair .bool .unit)))) rfl
 unfold Kk
 refine jH ?_
 refine key.elim fun r h=>⟨_,h.1,?_⟩
 exact ⟨_,rfl,⟨rfl,h.2.1,fun i hi=>(h.2.2 i (by rw [← h.2.1]; exact hi)).1⟩,fun i hi=>(h.2.2 i (by rw [← h.2.1]; exact hi)).2⟩
theorem Yj (o:Oe) (h:o.2.1.len≤1048576) (hn:WL o.2.1):∃ r:Oe,Km o = some ((r,()),()) ∧ Fb r o ∧ WL r.2.1:=by
 obtain ⟨y,y1,y2,y3⟩:=Hw o.2.1 h hn
 unfold Km
 rw [y1]
 exact ⟨_,rfl,⟨rfl,y2⟩,y3⟩
theorem Yk (o:De) (h:o.1.len≤1048576 ∧ o.2.1.len≤1048576) (hn:WL o.1 ∧ WL o.2.1):∃ r:De,Kn o = some ((r,()),()) ∧ E8 r o ∧ WL r.1 ∧ WL r.2.1:=by
 obtain ⟨y,y1,y2,y3⟩:=Hw o.1 h.1 hn.1
 obtain ⟨z,z1,z2,z3⟩:=Hw o.2.1 h.2 hn.2
 unfold Kn
 rw [y1,z1]
 exact ⟨_,rfl,⟨y2,z2⟩,y3,z3⟩
theorem BG {m:Nat→Bool} {n:Nat} (h:∀ j,j < n→m j = true):pX (some m) n = true:=List.all_eq_true.mpr fun j hj=>h j (List.mem_range.mp hj)
theorem Yl (m:Nat→Bool) (i j:Nat):Go.VE.upd m i true j = if j = i then true else m j:=cK m i true j
theorem Ui (s:St) (hb:MJ s 1048576) (hn:NN s) (hio:(bn s).len = (bW s).len):∃ r:St,OW s = some ((r,()),()) ∧ Li r s ∧ NN r:=by
 obtain ⟨h1,h2,h3,h4,⟨h5,h5'⟩,⟨h6,h6'⟩,⟨h7,h7'⟩,h8,h8'⟩:=hb
 obtain ⟨n1,n2,n3,n4,n5,⟨n6,n6'⟩,⟨n7,n7'⟩,n8,n8'⟩:=hn
 obtain ⟨g,g1,g2,g3,g4⟩:=Hy s.1 h1 h2 n1 n2
 obtain ⟨c,c1,c2,c3⟩:=Q0 s.2.2.2.1 h3 n3
 obtain ⟨y,y1,y2,y3⟩:=DK (qM s) h5 h5' n5
 obtain ⟨pg,p1,p2,p3⟩:=afw s.2.2.2.2.1.2.1 h4 n4
 obtain ⟨o,o1,o2,o3⟩:=afy (bn s) h6 n6
 obtain ⟨q,q1,q2,q3⟩:=afz (bW s) h7 n7
 obtain ⟨d,d1,d2,d3⟩:=afA (bq s) h8 n8
 have y1':Dm s.2.2.2.2.2.2.2.1 = some ((y,()),()):=y1
 have o1':Gl s.2.2.2.2.2.2.2.2.1 = some ((o,()),()):=o1
 have q1':Gm s.2.2.2.2.2.2.2.2.2.1 = some ((q,()),()):=q1
 have d1':Gn s.2.2.2.2.2.2.2.2.2.2.1 = some ((d,()),()):=d1
 have ol:=o2.1
 have ql:=q2.1
 have dl:=d2.1
 have Q5:∀ {b1 vD wf vG vH vy vI vJ:_},∃ (o':L Oe) (q':L Ie),aL rG (((),((),((),((),((),((),((o.len:Int),((0:Int),())))))))),(b1,(((),((),((),((),((),((),((),((),((),((),((),((),((),((),((),((),((),((),((),((),((),((),((),((),((),((),((),()))))))))))))))))))))))))))),((o,(fun _=>false)),((q,(fun _=>false)),((vD,wf),(vG,(vH,(vy,(vI,(vJ,()))))))))))) = some (.inl (((),((),((),((),((),()))))),(b1,(((),((),((),((),((),((),((),((),((),((),((),((),((),((),((),((),((),((),((),((),((),((),((),((),((),((),((),()))))))))))))))))))))))))))),(o',(q',((vD,wf),(vG,(vH,(vy,(vI,(vJ,())))))))))))) ∧ (wo Fb o' o ∧ wo Ht q' q) ∧ (WL o' ∧ ∀ i,i < o'.len→WL (o'.get i).2.1) ∧ WL q' ∧ ∀ i,i < q'.len→WL (q'.get i).1:=by
  intro b1 vD wf vG vH vy vI vJ
  obtain ⟨z,z1,o',q',rfl,z2,z3⟩:=qx (step:=rG) o.len
   (fun i z=>∃ (o':L Oe) (q':L Ie) (mo mq:Nat→Bool),z = (((),((),((),((),((),((),((o.len:Int),((i:Int),())))))))),(b1,(((),((),((),((),((),((),((),((),((),((),((),((),((),((),((),((),((),((),((),((),((),((),((),((),((),((),((),()))))))))))))))))))))))))))),((o',mo),((q',mq),((vD,wf),(vG,(vH,(vy,(vI,(vJ,()))))))))))) ∧ (o'.len = o.len ∧ (∀ j,j < i→(Fb (o'.get j) (o.get j) ∧ WL (o'.get j).2.1) ∧ mo j = true) ∧ ∀ j,i≤j→o'.get j = o.get j) ∧ q'.len = q.len ∧ (∀ j,j < i→(Ht (q'.get j) (q.get j) ∧ WL (q'.get j).1) ∧ mq j = true) ∧ (∀ j,i≤j→q'.get j = q.get j) ∧ WL o' ∧ WL q')
   (fun z=>∃ (o':L Oe) (q':L Ie),z = .inl (((),((),((),((),((),()))))),(b1,(((),((),((),((),((),((),((),((),((),((),((),((),((),((),((),((),((),((),((),((),((),((),((),((),((),((),((),()))))))))))))))))))))))))))),(o',(q',((vD,wf),(vG,(vH,(vy,(vI,(vJ,()))))))))))) ∧ (wo Fb o' o ∧ wo Ht q' q) ∧ (WL o' ∧ ∀ i,i < o'.len→WL (o'.get i).2.1) ∧ WL q' ∧ ∀ i,i < q'.len→WL (q'.get i).1)
   (by
    rintro i _ hi ⟨o',q',mo,mq,rfl,⟨a1,a2,a3⟩,b1,b2,b3,b4⟩
    have Q6:i < o'.len:=by omega
    have hiq:i < q.len:=by omega
    have afB:i < q'.len:=by omega
    have eo:=a3 i (Nat.le_refl _)
    have eq:=b3 i (Nat.le_refl _)
    have so:i < (bn s).len:=by omega
    have sq:i < (bW s).len:=by omega
    have co:=o2.2 i hi
    have cq:=q2.2 i hiq
    obtain ⟨u,u1,u2⟩:=Yj (o.get i) (by rw [co]; exact h6' i so) (by rw [co]; exact n6' i so)
    obtain ⟨v,v1,v2⟩:=Hw (q.get i).1 (by rw [cq]; exact h7' i sq) (by rw [cq]; exact n7' i sq)
    refine .inl ⟨_,?_,L.set o' i u,L.set q' i (v,()),Go.VE.upd mo i true,Go.VE.upd mq i true,rfl,⟨a1,fun j hj=>?_,fun j hj=>by rw [bR _ _ (by omega)]; exact a3 j (by omega)⟩,b1,fun j hj=>?_,fun j hj=>by rw [bR _ _ (by omega)]; exact b3 j (by omega),b4⟩
    · simp only [rG]
      rw [ah (aM hi),ah (aj Q6),tN,eo]
      refine bind_eq u1 ?_
      refine (ah (aj Q6)).trans ((ah (aj afB)).trans ?_)
      rw [eq]
      refine bind_eq v1 ?_
      refine (ah (aj afB)).trans ?_
      rw [av hi (by omega)]
    · rw [Yl]
      rcases Nat.lt_or_eq_of_le (Nat.le_of_lt_succ hj) with e | rfl
      · rw [bR _ _ (by omega),if_neg (by omega)]; exact a2 j e
      · rw [dQ,if_pos rfl]; exact ⟨u2,rfl⟩
    · rw [Yl]
      rcases Nat.lt_or_eq_of_le (Nat.le_of_lt_succ hj) with e | rfl
      · rw [bR _ _ (by omega),if_neg (by omega)]; exact b2 j e
      · rw [dQ,if_pos rfl]; exact ⟨v2,rfl⟩)
   (by
    rintro _ ⟨o',q',mo,mq,rfl,⟨a1,a2,a3⟩,b1,b2,b3,b4⟩
    refine ⟨_,?_,o',q',rfl,⟨⟨a1,fun j hj=>(a2 j (by omega)).1.1⟩,b1,fun j hj=>(b2 j (by omega)).1.1⟩,⟨b4.1,fun j hj=>(a2 j (by omega)).1.2⟩,b4.2,fun j hj=>(b2 j (by omega)).1.2⟩
    simp only [rG]
    rw [au (aK _),ah (BG (fun j hj=>(a2 j (by omega)).2)),ah (BG (fun j hj=>(b2 j (by omega)).2))]
    rfl) (((),((),((),((),((),((),((o.len:Int),((0:Int),())))))))),(b1,(((),((),((),((),((),((),((),((),((),((),((),((),((),((),((),((),((),((),((),((),((),((),((),((),((),((),((),()))))))))))))))))))))))))))),((o,(fun _=>false)),((q,(fun _=>false)),((vD,wf),(vG,(vH,(vy,(vI,(vJ,()))))))))))) ⟨o,q,_,_,rfl,⟨rfl,fun j hj=>absurd hj (Nat.not_lt_zero j),fun _ _=>rfl⟩,rfl,fun j hj=>absurd hj (Nat.not_lt_zero j),fun _ _=>rfl,o3,q3⟩
  exact ⟨o',q',z1,z2,z3⟩
 have Q7:∀ {b1 wg wi vG vH vy vI vJ:_},∃ (d':L De),aL rH (((),((),((),((),((),((),((d.len:Int),((0:Int),())))))))),(b1,(((),((),((),((),((),((),((),((),((),((),((),((),((),((),((),((),((),((),((),((),((),((),((),((),((),((),((),()))))))))))))))))))))))))))),(wg,(wi,((d,(fun _=>false)),(vG,(vH,(vy,(vI,(vJ,()))))))))))) = some (.inl (((),((),((),((),((),()))))),(b1,(((),((),((),((),((),((),((),((),((),((),((),((),((),((),((),((),((),((),((),((),((),((),((),((),((),((),((),()))))))))))))))))))))))))))),(wg,(wi,(d',(vG,(vH,(vy,(vI,(vJ,())))))))))))) ∧ wo E8 d' d ∧ WL d' ∧ ∀ i,i < d'.len→WL (d'.get i).1 ∧ WL (d'.get i).2.1:=by
  intro b1 wg wi vG vH vy vI vJ
  obtain ⟨z,z1,d',rfl,z2⟩:=qx (step:=rH) d.len
   (fun i z=>∃ (o':L De) (mo:Nat→Bool),z = (((),((),((),((),((),((),((d.len:Int),((i:Int),())))))))),(b1,(((),((),((),((),((),((),((),((),((),((),((),((),((),((),((),((),((),((),((),((),((),((),((),((),((),((),((),()))))))))))))))))))))))))))),(wg,(wi,((o',mo),(vG,(vH,(vy,(vI,(vJ,()))))))))))) ∧ o'.len = d.len ∧ (∀ j,j < i→(E8 (o'.get j) (d.get j) ∧ WL (o'.get j).1 ∧ WL (o'.get j).2.1) ∧ mo j = true) ∧ (∀ j,i≤j→o'.get j = d.get j) ∧ WL o')
   (fun z=>∃ (o':L De),z = .inl (((),((),((),((),((),()))))),(b1,(((),((),((),((),((),((),((),((),((),((),((),((),((),((),((),((),((),((),((),((),((),((),((),((),((),((),((),()))))))))))))))))))))))))))),(wg,(wi,(o',(vG,(vH,(vy,(vI,(vJ,()))))))))))) ∧ wo E8 o' d ∧ WL o' ∧ ∀ i,i < o'.len→WL (o'.get i).1 ∧ WL (o'.get i).2.1)
   (by
    rintro i _ hi ⟨o',mo,rfl,a1,a2,a3,a4⟩
    have Q6:i < o'.len:=by omega
    have eo:=a3 i (Nat.le_refl _)
    have so:i < (bq s).len:=by omega
    have co:=d2.2 i hi
    obtain ⟨u,u1,u2⟩:=Yk (d.get i) (by rw [co]; exact h8' i so) (by rw [co]; exact n8' i so)
    refine .inl ⟨_,?_,L.set o' i u,Go.VE.upd mo i true,rfl,a1,fun j hj=>?_,fun j hj=>by rw [bR _ _ (by omega)]; exact a3 j (by omega),a4⟩
    · simp only [rH]
      rw [ah (aM hi),ah (aj Q6),tN,eo]
      refine bind_eq u1 ?_
      refine (ah (aj Q6)).trans ?_
      rw [av hi (by omega)]
    · rw [Yl]
      rcases Nat.lt_or_eq_of_le (Nat.le_of_lt_succ hj) with e | rfl
      · rw [bR _ _ (by omega),if_neg (by omega)]; exact a2 j e
      · rw [dQ,if_pos rfl]; exact ⟨u2,rfl⟩)
   (by
    rintro _ ⟨o',mo,rfl,a1,a2,a3,a4⟩
    refine ⟨_,?_,o',rfl,⟨a1,fun j hj=>(a2 j (by omega)).1.1⟩,a4,fun j hj=>(a2 j (by omega)).1.2⟩
    simp only [rH]
    rw [au (aK _),ah (BG (fun j hj=>(a2 j (by omega)).2))]
    rfl) (((),((),((),((),((),((),((d.len:Int),((0:Int),())))))))),(b1,(((),((),((),((),((),((),((),((),((),((),((),((),((),((),((),((),((),((),((),((),((),((),((),((),((),((),((),()))))))))))))))))))))))))))),(wg,(wi,((d,(fun _=>false)),(vG,(vH,(vy,(vI,(vJ,()))))))))))) ⟨d,_,rfl,rfl,fun j hj=>absurd hj (Nat.not_lt_zero j),fun _ _=>rfl,d3⟩
  exact ⟨d',z1,z2⟩
 unfold OW
 refine jH ⟨_,g1,jH ⟨_,c1,jH ⟨_,y1',jH ⟨_,p1,jH ⟨_,o1',jH ⟨_,q1',jH ⟨_,d1',?_⟩⟩⟩⟩⟩⟩⟩
 refine jH (Q5.elim fun o' h=>h.elim fun q' h=>⟨_,h.1,?_⟩)
 refine jH (Q7.elim fun d' k=>⟨_,k.1,?_⟩)
 obtain ⟨_,⟨hA,hB⟩,hO,hI⟩:=h
 obtain ⟨_,kA,kD⟩:=k
 refine ⟨_,rfl,⟨g2,rfl,rfl,c2,⟨rfl,p2⟩,rfl,rfl,y2,?_,?_,?_⟩,g3,g4,c3,p3,y3,hO,hI,kD⟩
 · exact ⟨hA.1.trans ol,fun j hj=>by have:=hA.2 j hj; rw [o2.2 j (by rw [← hA.1]; exact hj)] at this; exact this⟩
 · exact ⟨hB.1.trans ql,fun j hj=>by have:=hB.2 j hj; rw [q2.2 j (by rw [← hB.1]; exact hj)] at this; exact this⟩
 · exact ⟨kA.1.trans dl,fun j hj=>by have:=kA.2 j hj; rw [d2.2 j (by rw [← kA.1]; exact hj)] at this; exact this⟩
theorem Ok.no {α:Type} {c:Bool} {a b:Option α} {R:α→Prop} (hc:c = false) (h:Ok b R):Ok (bif c then a else b) R:=by
 subst hc; exact h
theorem Ci.len {r:Ch} {o:Oe} (h:Ci r o):o.2.1.len≤8:=by
 obtain ⟨h1,h2,h3,_⟩:=h
 have hc:=eU h1
 by_cases q:r.1 = 0
 · have:=h2 q; omega
 · have:=h3 q; omega
theorem QU.len {r:Ch} {o:Ie} (h:QU r o):o.1.len≤8:=by
 obtain ⟨h1,h2,h3,_⟩:=h
 have hc:=eU h1
 by_cases q:r.1 = 0
 · have:=h2 q; omega
 · have:=h3 q; omega
theorem gN.each {t:Tb} {p:Nat} {x:L Oe} (h:gN t p x) {i:Nat} (hi:i < x.len):(x.get i).2.1.len≤8 ∧ WL (x.get i).2.1:=by
 have k:=h.2.1 i (by rw [← h.1]; exact hi)
 by_cases q:((tChans t).get i).2.1 = p
 · exact ⟨(k.1 q).len,(k.1 q).2.2.2.1⟩
 · have e:=(k.2 q).2
   exact ⟨by omega,fun _=>e⟩
theorem oC.each {t:Tb} {p:Nat} {x:L Ie} (h:oC t p x) {i:Nat} (hi:i < x.len):(x.get i).1.len≤8 ∧ WL (x.get i).1:=by
 have k:=h.2.1 i (by rw [← h.1]; exact hi)
 by_cases q:((tChans t).get i).2.2.1 = p
 · exact ⟨(k.1 q).len,(k.1 q).2.2.2.1⟩
 · have e:=k.2 q
   exact ⟨by omega,fun _=>e⟩
theorem pK.each {t:Tb} {p:Nat} {x:L De} (h:pK t p x) {i:Nat} (hi:i < x.len):((x.get i).1.len≤8 ∧ (x.get i).2.1.len≤8) ∧ WL (x.get i).1 ∧ WL (x.get i).2.1:=by
 have k:=h.2.1 i (by rw [← h.1]; exact hi)
 by_cases q:(tDevs t).get i = p
 · have e:=k.1 q
   exact ⟨⟨e.1,e.2.1⟩,e.2.2.1.1,e.2.2.2.1⟩
 · have e:=k.2 q
   exact ⟨by omega,fun _=>e.1,fun _=>e.2⟩
theorem PG.nn {t:Tb} {p:Nat} {s:St} (h:PG t p s):NN s :=
 ⟨wl h.gu.2.2.2.1,fun i hi=>wl (h.gu.2.2.1.2 i (by rw [← h.gu.2.2.1.1]; exact hi)).2,h.ca.2.2,h.tl.2.2.2.2,fun i hi=>wl (h.bo.2 i (by rw [← h.bo.1]; exact hi)).2,
  ⟨h.ou.2.2,fun i hi=>(h.ou.each hi).2⟩,⟨h.is.2.2,fun i hi=>(h.is.each hi).2⟩,h.de.2.2,fun i hi=>(h.de.each hi).2⟩
theorem pU.bnd {ws:L Wi} {x:Im} (hw:WG ws) (h:pU ws x):PW x 1048576:=by
 refine ⟨by have:=h.1; have:=hw.1; omega,fun i hi=>?_⟩
 have hi':i < ws.len:=by rw [← h.1]; exact hi
 have a:=(h.2 i hi').1
 have b:=(dK _).mp (hw.2 i hi')
 omega
theorem Ji.le {k:Ca} (h:Ji k):k.2.1.len≤1048576 ∧ ∀ i,i < k.2.1.len→(k.2.1.get i).len≤1048576:=by
 obtain ⟨h1,h2,h3⟩:=h
 obtain ⟨s1,s2,_⟩:=xq h1
 exact ⟨by omega,fun i hi=>by have:=(h3 i hi).1; omega⟩
theorem PG.bnd {t:Tb} {p:Nat} {s:St} (g:TG t p) (h:PG t p s):MJ s 1048576:=by
 have c:=h.ca.2.1.le
 have h1:=h.gu.1
 have h2:=h.tl.2.1
 have h3:=g.tl
 have h4:=h.ou.1
 have h5:=h.is.1
 have h6:=h.de.1
 have h7:=g.ch.1
 have h8:=g.dv
 exact ⟨by omega,h.gu.2.2.1.bnd g.w,c,by omega,h.bo.bnd g.w,⟨by omega,fun i hi=>by have:=(h.ou.each hi).1; omega⟩,⟨by omega,fun i hi=>by have:=(h.is.each hi).1; omega⟩,by omega,fun i hi=>by have:=(h.de.each hi).1; omega⟩
theorem WL.no {α:Type} {x:L α} (h:WL x) (k:x.len ≠ 0):x.nil = false:=by
 cases e:x.nil with
 | false=>rfl
 | true=>exact absurd (h e) k
theorem pU.same {ws:L Wi} {x y:Im} (hw:WG ws) (h:wo fE x y) (n:∀ i,i < x.len→WL (x.get i)) (k:pU ws y):pU ws x:=by
 refine ⟨h.1.trans k.1,fun i hi=>?_⟩
 have hx:i < x.len:=by rw [h.1,k.1]; exact hi
 have e:=(h.2 i hx).1
 have f:=(k.2 i hi).1
 have b:=(dK _).mp (hw.2 i hi)
 exact ⟨by rw [e]; exact f,(n i hx).no (by omega)⟩
theorem WN.same {x y:L Int} (h:fE x y) (k:WN y):WN x:=fun i hi=>by rw [h.2 i hi]; exact k i (by rw [← h.1]; exact hi)
theorem PG.same {t:Tb} {p:Nat} {a b:St} (g:TG t p) (h:Li a b) (n:NN a) (k:PG t p b):PG t p a:=by
 obtain ⟨n1,n2,n3,n4,n5,⟨n6,n6'⟩,⟨n7,n7'⟩,n8,n8'⟩:=n
 have l16:a.1.1.len = 16:=h.gu.1.1.trans k.gu.1
 refine ⟨⟨l16,(h.gu.1.2 0 (by omega)).trans k.gu.2.1,k.gu.2.2.1.same g.w h.gu.2.2 n2,n1.no (by omega),WN.same h.gu.1 k.gu.2.2.2.2⟩,by rw [h.he]; exact k.he,⟨h.ca.1.trans k.ca.1,⟨by rw [h.ca.1]; exact k.ca.2.1.1,by rw [h.ca.1,h.ca.2.1]; exact k.ca.2.1.2.1,fun i hi=>?_⟩,n3⟩,
  ⟨h.tl.1.trans k.tl.1,by rw [h.tl.2.1]; exact k.tl.2.1,fun i hi=>by rw [h.tl.2.2 i hi]; exact k.tl.2.2.1 i (by rw [← h.tl.2.1]; exact hi),fun i j hij hj=>by
   rw [h.tl.2.2 i (by omega),h.tl.2.2 j hj]; exact k.tl.2.2.2.1 i j hij (by rw [← h.tl.2.1]; exact hj),n4⟩,
  k.bo.same g.w h.bo n5,⟨h.ou.1.trans k.ou.1,fun i hi=>?_,n6⟩,⟨h.is.1.trans k.is.1,fun i hi=>?_,n7⟩,⟨h.de.1.trans k.de.1,fun i hi=>?_,n8⟩,by rw [h.vi]; exact k.vp,by rw [h.gu.2.1]; exact k.pw⟩
 · have e:=h.ca.2.2 i hi
   have r:=k.ca.2.1.2.2 i (by rw [← h.ca.2.1]; exact hi)
   rw [h.ca.1]
   exact ⟨by rw [e.1]; exact r.1,fun j hj=>by rw [e.2 j hj]; exact r.2.1 j (by rw [← e.1]; exact hj),fun j m hjm hm=>by rw [e.2 j (by omega),e.2 m hm]; exact r.2.2 j m hjm (by rw [← e.1]; exact hm)⟩
 · have hx:i < (bn a).len:=by rw [h.ou.1,k.ou.1]; exact hi
   have e:=h.ou.2 i hx
   have q:=k.ou.2.1 i hi
   exact ⟨fun w=>⟨(q.1 w).1,fun z=>by rw [e.1,e.2.1]; exact (q.1 w).2.1 z,fun z=>by rw [e.1,e.2.1]; exact (q.1 w).2.2.1 z,n6' i hx,WN.same e.2 (q.1 w).2.2.2.2⟩,fun w=>by rw [e.1,e.2.1]; exact q.2 w⟩
 · have hx:i < (bW a).len:=by rw [h.is.1,k.is.1]; exact hi
   have e:=h.is.2 i hx
   have q:=k.is.2.1 i hi
   exact ⟨fun w=>⟨(q.1 w).1,fun z=>by rw [e.1]; exact (q.1 w).2.1 z,fun z=>by rw [e.1]; exact (q.1 w).2.2.1 z,n7' i hx,WN.same e (q.1 w).2.2.2.2⟩,fun w=>by rw [e.1]; exact q.2 w⟩
 · have hx:i < (bq a).len:=by rw [h.de.1,k.de.1]; exact hi
   have e:=h.de.2 i hx
   have q:=k.de.2.1 i hi
   exact ⟨fun w=>⟨by rw [e.1.1]; exact (q.1 w).1,by rw [e.2.1]; exact (q.1 w).2.1,⟨(n8' i hx).1,WN.same e.1 (q.1 w).2.2.1.2⟩,(n8' i hx).2,WN.same e.2 (q.1 w).2.2.2.2⟩,fun w=>by rw [e.1.1,e.2.1]; exact q.2 w⟩
theorem yc {X D β:Type} {step:X→Option (X⊕D)} (n:Nat) (st:Nat→L β→X) (fin:L β→D) (d:β) (R:Nat→β→Prop)
 (hs:∀ i r,i < n→r.len = i→∃ q,step (st i r) = some (.inl (st (i + 1) (L.app r (L.of d [q])))) ∧ R i q)
 (he:∀ r,r.len = n→step (st n r) = some (.inr (fin r))) {r0:L β} (h0:r0.len = 0) :
 ∃ r,aL step (st 0 r0) = some (fin r) ∧ (r.len = n ∧ WL r) ∧ ∀ i,i < n→R i (r.get i):=by
 obtain ⟨d',e,r,rfl,h⟩:=qx (step:=step) n (fun i x=>∃ r:L β,x = st i r ∧ (r.len = i ∧ WL r) ∧ ∀ j,j < i→R j (r.get j)) (fun d'=>∃ r:L β,d' = fin r ∧ (r.len = n ∧ WL r) ∧ ∀ i,i < n→R i (r.get i))
  (by
   rintro i _ hi ⟨r,rfl,⟨h1,h2⟩,h3⟩
   obtain ⟨q,q1,q2⟩:=hs i r hi h1
   exact .inl ⟨_,q1,_,rfl,⟨by show r.len + 1 = _; omega,DJ h2⟩,fun j hj=>by
    rcases Nat.lt_or_eq_of_le (Nat.le_of_lt_succ hj) with e | rfl
    · rw [zO _ _ _ (by omega)]; exact h3 j e
    · rw [zP _ _ _ h1]; exact q2⟩)
  (by
   rintro _ ⟨r,rfl,⟨h1,h2⟩,h3⟩
   exact ⟨_,he r h1,r,rfl,⟨h1,h2⟩,h3⟩) _ ⟨r0,rfl,⟨h0,fun _=>h0⟩,fun j hj=>absurd hj (Nat.not_lt_zero j)⟩
 exact ⟨r,e,h⟩
theorem afC {ws:L Wi} {x:Im} (hw:WG ws) (h:pU ws x):Ok (vC x) fun a=>pU ws a.1.1:=by
 have hb:=h.bnd hw
 have h4:=hw.1
 obtain ⟨r,h1,⟨h2,_⟩,h3⟩:=yc (step:=iH) x.len (fun i r=>((x,((),((i:Int),()))),(r,()))) (fun r=>.inl (((),()),(r,()))) (Ty.zero (.sl (.int .u8))) (fun i q=>q.len = (x.get i).len ∧ q.nil = false)
  (fun i r hi hr=>⟨L.app (L.of (Ty.zero (.int .u8)) []) (x.get i),by
   simp only [iH]
   rw [ah (aM hi),ah (aj hi),tN,ah (fD _ _ (hb.2 i hi)),ah (fC _ _ _ (by have:=hb.1; omega)),av hi (by have:=hb.1; omega)],Nat.zero_add _,rfl⟩)
  (fun r hr=>by
   simp only [iH]
   rw [au (aK _)]) (r0:=L.of (Ty.zero (.sl (.int .u8))) []) rfl
 refine ⟨((r,()),()),?_,h2.trans h.1,fun i hi=>?_⟩
 · unfold vC
   have h1':aL iH ((x,((),((0:Int),()))),((L.of (Ty.zero (.sl (.int .u8))) []),())) = _:=h1
   rw [h1']; rfl
 · have e:=h3 i (by rw [h.1]; exact hi)
   exact ⟨by show ((r.get i).len:Int) = _; rw [e.1]; exact (h.2 i hi).1,e.2⟩
theorem Q8 {t:Tb} {p:Nat} {x:Im} (g:TG t p) (h:pU ((tParts t).get p).2.2.2.1 x):Ok (Hf t (p:Int) x) fun a=>wm ((tParts t).get p).2.2.2.1 a.1.1.1 a.1.1.2.2.1 ∧ W1 a.1.1.2.1:=by
 have hix:(decide (0≤(p:Int))&&decide ((p:Int) < (t.2.2.2.2.2.2.2.1.len:Int))) = true:=aj g.pl
 have key:∀ {vF wp:_},Ok (aL oq (((),((),((0:Int),()))),(((),((),((),()))),(((bG (.int .u32)),(vF,((),()))),(wp,()))))) fun z=>∃ r:L Int,z = .inl (((),((),())),(((),((),((),()))),(((),(vF,((),()))),(r,(wp,()))))) ∧ (r.len = 16 ∧ WL r) ∧ ∀ i,i < 16→r.get i = (0:Int):=by
  intro vF wp
  obtain ⟨r,k1,k2⟩:=yc (step:=oq) 16 (fun i r=>(((),((),((i:Int),()))),(((),((),((),()))),((r,(vF,((),()))),(wp,()))))) (fun r=>.inl (((),((),())),(((),((),((),()))),(((),(vF,((),()))),(r,(wp,())))))) (Ty.zero (.int .u32)) (fun i q=>q = (0:Int))
   (fun i r hi hr=>⟨(0:Int),by
    simp only [oq]
    rw [ah (by simp; omega),ah (fC _ _ _ (by omega)),av hi (by omega)],rfl⟩)
   (fun r hr=>by
    simp only [oq]
    rw [au (by simp)]) (r0:=bG (.int .u32)) rfl
  exact ⟨_,k1,r,rfl,k2⟩
 unfold Hf
 refine Ok.grd hix (Ok.bind (afC g.w h) fun y hy=>Ok.bind key ?_)
 rintro _ ⟨r,rfl,k2,k3⟩
 exact Ok.ret ⟨⟨k2.1,k3 0 (by omega),hy,k2.2.no (by omega),fun i hi=>by rw [k3 i (by rw [← k2.1]; exact hi)]; exact z0⟩,u32_in _⟩
theorem zb:(0:Int)≤0 ∧ (0:Int)≤1000000000:=by decide
theorem ajf {t:Tb} {p:Nat} {x:L Oe} (g:TG t p) (hl:x.len = (tChans t).len) (hw:WL x) (h:∀ i,i < (tChans t).len→(x.get i).1 = 0 ∧ (x.get i).2.1.len = 0):gN t p x:=by
 refine ⟨hl,fun i hi=>⟨fun _=>?_,fun _=>h i hi⟩,hw⟩
 have hc:=eU (g.ch.2 i hi)
 obtain ⟨h1,h2⟩:=h i hi
 exact ⟨g.ch.2 i hi,fun _=>⟨h1,by omega⟩,fun _=>by omega,M7 h2⟩
theorem inE {t:Tb} {p:Nat} {x:L Ie} (g:TG t p) (hl:x.len = (tChans t).len) (hw:WL x) (h:∀ i,i < (tChans t).len→(x.get i).1.len = 0):oC t p x:=by
 refine ⟨hl,fun i hi=>⟨fun _=>?_,fun _=>h i hi⟩,hw⟩
 have hc:=eU (g.ch.2 i hi)
 have h1:=h i hi
 exact ⟨g.ch.2 i hi,fun _=>by omega,fun _=>by omega,M7 h1⟩
theorem ajg {t:Tb} {p:Nat} {x:L De} (hl:x.len = (tDevs t).len) (hw:WL x) (h:∀ i,i < (tDevs t).len→(x.get i).1.len = 0 ∧ (x.get i).2.1.len = 0):pK t p x:=by
 refine ⟨hl,fun i hi=>⟨fun _=>?_,fun _=>h i hi⟩,hw⟩
 obtain ⟨h1,h2⟩:=h i hi
 exact ⟨by omega,by omega,M7 h1,M7 h2⟩
theorem Q9 {t:Tb} {p:Nat} (g:TG t p):Ok (Dx t.2.1) fun a=>a.1.1.1 = t.2.1 ∧ Ji a.1.1 ∧ ∀ i,i < a.1.1.2.1.len→WL (a.1.1.2.1.get i):=by
 obtain ⟨c,e,h1,h2,h3,_⟩:=Xg t.2.1 g.sh
 exact ⟨_,e,h1,h2,fun i hi=>wl (h3 i hi)⟩
theorem afD {t:Tb} {p:Nat} (g:TG t p):vS t.2.2.1 = (t.2.2.1,(bG (.int .i64),())):=by
 have h:=g.tl
 unfold vS
 rw [(aZ _ _ _).mpr (by omega)]; rfl
theorem afE {n:Int} (h:1≤n):U9 n (n,(bG (.int .i64),())):=⟨rfl,by show ((0:Nat):Int)≤n; omega,fun i hi=>absurd hi (Nat.not_lt_zero i),fun i k _ hk=>absurd hk (Nat.not_lt_zero k),fun _=>rfl⟩
theorem afF {t:Tb} {p:Nat} {x:Im} (g:TG t p) (h:pU ((tParts t).get p).2.2.2.1 x):Ok (K5 t (p:Int) x) fun a=>PG t p a.1.1 ∧ ∀ i,i < (tChans t).len→((bn a.1.1).get i).1 = 0:=by
 have hc8:=g.ch.1
 have UO:=g.dv
 have Q5:∀ {vF vL vM vP v0 v4 v5 v6 v7 v8 v9 ua ub uc ud ue uf ug uh ww ui uj uk ul um:_},Ok (aL qQ (((),((),((),((0:Int),())))),(t,(((),((),((),((),((),((),((),((),((),((),((),((),((),((),((),((),((),((),((),((),((),((),((),((),((),((),((),()))))))))))))))))))))))))))),(((),(vF,((),(vL,(vM,(vP,(v0,(v4,(v5,(v6,(v7,(v8,(v9,(ua,(ub,(uc,(ud,(ue,((),(uf,((),(ug,(uh,((),((bG (.pair (.int .i64) (.pair (.sl (.int .u32)) .unit))),((bG (.pair (.sl (.int .u32)) .unit)),(ww,()))))))))))))))))))))))))))),(ui,(uj,(uk,(ul,(um,())))))))))) fun z=>∃ (o:L Oe) (q:L Ie),z = .inl (((),((),((),()))),(t,(((),((),((),((),((),((),((),((),((),((),((),((),((),((),((),((),((),((),((),((),((),((),((),((),((),((),((),()))))))))))))))))))))))))))),(((),(vF,((),(vL,(vM,(vP,(v0,(v4,(v5,(v6,(v7,(v8,(v9,(ua,(ub,(uc,(ud,(ue,((),(uf,((),(ug,(uh,((),((),((),((),()))))))))))))))))))))))))))),(ui,(uj,(uk,(ul,(um,(o,(q,(ww,())))))))))))) ∧ (o.len = (tChans t).len ∧ WL o ∧ ∀ i,i < (tChans t).len→(o.get i).1 = 0 ∧ (o.get i).2.1.len = 0) ∧ (q.len = (tChans t).len ∧ WL q ∧ ∀ i,i < (tChans t).len→(q.get i).1.len = 0):=by
  intro vF vL vM vP v0 v4 v5 v6 v7 v8 v9 ua ub uc ud ue uf ug uh ww ui uj uk ul um
  refine dB (tChans t).len (fun i z=>∃ (o:L Oe) (q:L Ie),z = (((),((),((),((i:Int),())))),(t,(((),((),((),((),((),((),((),((),((),((),((),((),((),((),((),((),((),((),((),((),((),((),((),((),((),((),((),()))))))))))))))))))))))))))),(((),(vF,((),(vL,(vM,(vP,(v0,(v4,(v5,(v6,(v7,(v8,(v9,(ua,(ub,(uc,(ud,(ue,((),(uf,((),(ug,(uh,((),(o,(q,(ww,()))))))))))))))))))))))))))),(ui,(uj,(uk,(ul,(um,()))))))))) ∧ (o.len = i ∧ WL o ∧ ∀ j,j < i→(o.get j).1 = 0 ∧ (o.get j).2.1.len = 0) ∧ (q.len = i ∧ WL q ∧ ∀ j,j < i→(q.get j).1.len = 0)) ?_ ?_ _ ⟨_,_,rfl,⟨rfl,fun _=>rfl,fun j hj=>absurd hj (Nat.not_lt_zero j)⟩,rfl,fun _=>rfl,fun j hj=>absurd hj (Nat.not_lt_zero j)⟩
  · rintro i _ hi ⟨o,q,rfl,⟨o1,o2,o3⟩,q1,q2,q3⟩
    simp only [qQ]
    rw [av hi (by omega)]
    refine Ok.grd (aM hi) (Ok.grd (fC _ _ _ (by omega)) (Ok.grd (fC _ _ _ (by omega)) (Ok.ret (.inl ⟨_,rfl,_,_,rfl,⟨by show o.len + 1 = _; omega,DJ o2,fun j hj=>?_⟩,by show q.len + 1 = _; omega,DJ q2,fun j hj=>?_⟩))))
    · rcases Nat.lt_or_eq_of_le (Nat.le_of_lt_succ hj) with e | rfl
      · rw [zO _ _ _ (by omega)]; exact o3 j e
      · rw [zP _ _ _ o1]; exact ⟨rfl,rfl⟩
    · rcases Nat.lt_or_eq_of_le (Nat.le_of_lt_succ hj) with e | rfl
      · rw [zO _ _ _ (by omega)]; exact q3 j e
      · rw [zP _ _ _ q1]; rfl
  · rintro _ ⟨o,q,rfl,h⟩
    simp only [qQ]
    exact Ok.no (aK (tChans t).len) (Ok.ret ⟨_,rfl,o,q,rfl,h⟩)
 have Q7:∀ {vF vL vM vP v0 v4 v5 v6 v7 v8 v9 ua ub uc ud ue uf ug uh ui uj uk ul um wq wr:_},Ok (aL oz (((),((),((),((0:Int),())))),(t,(((),((),((),((),((),((),((),((),((),((),((),((),((),((),((),((),((),((),((),((),((),((),((),((),((),((),((),()))))))))))))))))))))))))))),(((),(vF,((),(vL,(vM,(vP,(v0,(v4,(v5,(v6,(v7,(v8,(v9,(ua,(ub,(uc,(ud,(ue,((),(uf,((),(ug,(uh,((),((),((),((),()))))))))))))))))))))))))))),(ui,(uj,(uk,(ul,(um,(wq,(wr,((bG (.pair (.sl (.int .u32)) (.pair (.sl (.int .u32)) .unit))),()))))))))))))) fun z=>∃ r:L De,z = .inl (((),((),())),(((),((),((),((),((),((),((),((),((),((),((),((),((),((),((),((),((),((),((),((),((),((),((),((),((),((),((),()))))))))))))))))))))))))))),(((),(vF,((),(vL,(vM,(vP,(v0,(v4,(v5,(v6,(v7,(v8,(v9,(ua,(ub,(uc,(ud,(ue,((),(uf,((),(ug,(uh,((),((),((),((),()))))))))))))))))))))))))))),(ui,(uj,(uk,(ul,(um,(wq,(wr,(r,()))))))))))) ∧ (r.len = (tDevs t).len ∧ WL r) ∧ ∀ i,i < (tDevs t).len→(r.get i).1.len = 0 ∧ (r.get i).2.1.len = 0:=by
  intro vF vL vM vP v0 v4 v5 v6 v7 v8 v9 ua ub uc ud ue uf ug uh ui uj uk ul um wq wr
  obtain ⟨r,k1,k2⟩:=yc (step:=oz) (tDevs t).len (fun i r=>(((),((),((),((i:Int),())))),(t,(((),((),((),((),((),((),((),((),((),((),((),((),((),((),((),((),((),((),((),((),((),((),((),((),((),((),((),()))))))))))))))))))))))))))),(((),(vF,((),(vL,(vM,(vP,(v0,(v4,(v5,(v6,(v7,(v8,(v9,(ua,(ub,(uc,(ud,(ue,((),(uf,((),(ug,(uh,((),((),((),((),()))))))))))))))))))))))))))),(ui,(uj,(uk,(ul,(um,(wq,(wr,(r,()))))))))))))) (fun r=>.inl (((),((),())),(((),((),((),((),((),((),((),((),((),((),((),((),((),((),((),((),((),((),((),((),((),((),((),((),((),((),((),()))))))))))))))))))))))))))),(((),(vF,((),(vL,(vM,(vP,(v0,(v4,(v5,(v6,(v7,(v8,(v9,(ua,(ub,(uc,(ud,(ue,((),(uf,((),(ug,(uh,((),((),((),((),()))))))))))))))))))))))))))),(ui,(uj,(uk,(ul,(um,(wq,(wr,(r,())))))))))))) (Ty.zero (.pair (.sl (.int .u32)) (.pair (.sl (.int .u32)) .unit))) (fun i q=>q.1.len = 0 ∧ q.2.1.len = 0)
   (fun i r hi hr=>⟨((bG (.int .u32)),((bG (.int .u32)),())),by
    simp only [oz]
    refine (ah (aM hi)).trans ?_
    rw [ah (fC _ _ _ (by omega)),av hi (by omega)],rfl,rfl⟩)
   (fun r hr=>by
    simp only [oz]
    exact au (aK _)) (r0:=bG (.pair (.sl (.int .u32)) (.pair (.sl (.int .u32)) .unit))) rfl
  exact ⟨_,k1,r,rfl,k2⟩
 unfold K5
 rw [afD g]
 refine Ok.bind (Q8 g h) fun a ha=>Ok.bind (Q9 g) fun c hc=>Ok.bind (afC g.w h) fun y hy=>Ok.bind Q5 ?_
 rintro _ ⟨o,q,rfl,ho,hq⟩
 refine Ok.bind Q7 ?_
 rintro _ ⟨r,rfl,hr⟩
 exact Ok.ret ⟨⟨ha.1,⟨zb,zb,z9⟩,hc,afE g.tl.1,hy,ajf g ho.1 ho.2.1 ho.2.2,inE g hq.1 hq.2.1 hq.2.2,ajg hr.1.1 hr.1.2 hr.2,⟨z0,z0,z0,z0,z0⟩,ha.2⟩,fun i hi=>(ho.2.2 i hi).1⟩
theorem z7:(0:Int)≤7 ∧ (7:Int)≤9:=by decide
theorem z8:(0:Int)≤8 ∧ (8:Int)≤9:=by decide
theorem z6:(0:Int)≤6 ∧ (6:Int)≤9:=by decide
theorem Ym {m:Int} {n:Nat} (hn:n≤8) (h:f42 m 0 (wI ((n:Int) - 1)) = true):∃ k:Nat,m = k ∧ k < n:=by
 have:=(aZ _ _ _).mp h
 rw [aJ (by omega) (by omega)] at this
 exact ⟨m.toNat,by omega,by omega⟩
set_option maxHeartbeats 2000000 in
theorem z33:W1 3:=⟨by decide,by decide⟩
theorem Yn {t:Tb} {p:Nat} {s:St} {i:Int×(Int×(Int×(Int×(Int×Unit))))} {c:Int} (g:TG t p) (h:PG t p s) (hA:0≤i.2.1 ∧ i.2.1≤15) (hB:0≤i.2.2.1 ∧ i.2.2.1≤15):Ok (Ho t p s i c) fun z=>(0≤z.1.1 ∧ z.1.1≤9) ∧ PG t p z.2.1:=by
 have h16:=h.gu.1
 have ra:(decide (0≤i.2.1)&&decide (i.2.1 < (s.1.1.len:Int))) = true:=by rw [h16]; simp; omega
 have rb:(decide (0≤i.2.2.1)&&decide (i.2.2.1 < (s.1.1.len:Int))) = true:=by rw [h16]; simp; omega
 unfold Ho zN
 have one:∀ {v:Int},W1 v→Ok (gM (s.1.1,(s.1.2.1,s.1.2.2)) i.2.1 v) fun z=>wm ((tParts t).get p).2.2.2.1 z.2.1.1 z.2.1.2.2.1:=fun {v} hv=>Hr (g:=s.1) h.gu hA hv
 refine Ok.bif (fun _=>Ok.bif (fun hf=>?_) fun _=>Ok.bind (one (by first | exact u32_in _ | exact z33 | exact z0 | assumption)) fun z hz=>Ok.ret ⟨z9,hz,h.he,h.ca,h.tl,h.bo,h.ou,h.is,h.de,h.vp,u32_in _⟩) fun _ =>
  Ok.bif (fun _=>Ok.bif (fun hf=>?_) fun _=>Ok.bind (one (by first | exact u32_in _ | exact z33 | exact z0 | assumption)) fun z hz=>Ok.bind (Hr (g:=(z.2.1.1,(s.1.2.1,z.2.1.2.2))) hz hB (by first | exact u32_in _ | exact z33 | exact z0 | assumption)) fun y hy=>Ok.ret ⟨z9,hy,h.he,h.ca,h.tl,h.bo,h.ou,h.is,h.de,h.vp,u32_in _⟩) fun _ =>
  Ok.bif (fun _=>Ok.bif (fun hf=>?_) fun _=>Ok.bind (one (by first | exact u32_in _ | exact z33 | exact z0 | assumption)) fun z hz=>Ok.bind (Hr (g:=(z.2.1.1,(s.1.2.1,z.2.1.2.2))) hz hB (by first | exact u32_in _ | exact z33 | exact z0 | assumption)) fun y hy=>Ok.ret ⟨z9,hy,h.he,h.ca,h.tl,h.bo,h.ou,h.is,h.de,h.vp,u32_in _⟩) fun _ =>
  Ok.bif (fun _=>Ok.bind (afu h.vp _ _) fun _ hw=>Ok.bif (fun _=>Ok.ret ⟨z7,h⟩) fun _=>Ok.bind (one (by first | exact u32_in _ | exact z33 | exact z0 | assumption)) fun z hz=>Ok.ret ⟨z9,hz,h.he,h.ca,h.tl,h.bo,h.ou,h.is,h.de,h.vp,u32_in _⟩) fun _ =>
  Ok.bif (fun _=>Ok.grd ra (Ok.bind (afv h.vp _ (h.gu.2.2.2.2 _ (by rw [h16]; omega))) fun _ hv=>Ok.bif (fun _=>Ok.ret ⟨z7,h⟩) fun _=>Ok.ret ⟨z9,h.gu,h.he,h.ca,h.tl,h.bo,h.ou,h.is,h.de,hv,u32_in _⟩)) fun _ =>
  Ok.bif (fun _=>Ok.bind (Yi h.vp) fun _ hv=>Ok.bif (fun _=>Ok.ret ⟨z8,h⟩) fun _=>Ok.ret ⟨z9,h.gu,h.he,h.ca,h.tl,h.bo,h.ou,h.is,h.de,hv.1,hv.2⟩) fun _ =>
  Ok.bif (fun _=>Ok.ret ⟨z9,h.gu,h.he,h.ca,h.tl,h.bo,h.ou,h.is,h.de,h.vp,u32_in _⟩) fun _=>Ok.ret ⟨z6,h⟩
 · obtain ⟨k,e,hk⟩:=Ym g.ch.1 hf
   have ec:(decide (0≤i.2.2.2.2.1)&&decide (i.2.2.2.2.1 < (t.2.2.2.2.2.2.2.2.2.1.len:Int))) = true:=by rw [e]; exact aj hk
   have eo:(decide (0≤i.2.2.2.2.1)&&decide (i.2.2.2.2.1 < (s.2.2.2.2.2.2.2.2.1.len:Int))) = true:=by rw [e]; exact aj (n:=(bn s).len) (by rw [h.ou.1]; exact hk)
   have ek:i.2.2.2.2.1.toNat = k:=by rw [e]; rfl
   rw [ek]
   refine Ok.grd ec (Ok.bif (fun hp=>?_) fun _=>Ok.bind (one (by first | exact u32_in _ | exact z33 | exact z0 | assumption)) fun z hz=>Ok.ret ⟨z9,hz,h.he,h.ca,h.tl,h.bo,h.ou,h.is,h.de,h.vp,u32_in _⟩)
   have hp:((tChans t).get k).2.1 = p:=eq_of_beq hp
   refine Ok.grd ec (Ok.grd eo (Ok.grd rb (Ok.bind (afp (o:=(bn s).get k) (h.gu.2.2.2.2 _ (by rw [h16]; omega)) ((h.ou.2.1 k hk).1 hp)) fun y hy=>Ok.grd eo (Ok.bind (one (by first | exact u32_in _ | exact z33 | exact z0 | assumption)) fun z hz=>Ok.ret ⟨z9,hz,h.he,h.ca,h.tl,h.bo,h.ou.set hk hp hy,h.is,h.de,h.vp,u32_in _⟩))))
 · obtain ⟨k,e,hk⟩:=Ym g.ch.1 hf
   have ec:(decide (0≤i.2.2.2.2.1)&&decide (i.2.2.2.2.1 < (t.2.2.2.2.2.2.2.2.2.1.len:Int))) = true:=by rw [e]; exact aj hk
   have eo:(decide (0≤i.2.2.2.2.1)&&decide (i.2.2.2.2.1 < (s.2.2.2.2.2.2.2.2.2.1.len:Int))) = true:=by rw [e]; exact aj (n:=(bW s).len) (by rw [h.is.1]; exact hk)
   have ek:i.2.2.2.2.1.toNat = k:=by rw [e]; rfl
   rw [ek]
   refine Ok.grd ec (Ok.bif (fun hp=>?_) fun _=>Ok.bind (one (by first | exact u32_in _ | exact z33 | exact z0 | assumption)) fun z hz=>Ok.bind (Hr (g:=(z.2.1.1,(s.1.2.1,z.2.1.2.2))) hz hB (by first | exact u32_in _ | exact z33 | exact z0 | assumption)) fun y hy=>Ok.ret ⟨z9,hy,h.he,h.ca,h.tl,h.bo,h.ou,h.is,h.de,h.vp,u32_in _⟩)
   have hp:((tChans t).get k).2.2.1 = p:=eq_of_beq hp
   refine Ok.grd ec (Ok.grd eo (Ok.bind (afq (o:=(bW s).get k) ((h.is.2.1 k hk).1 hp)) fun y hy=>Ok.grd eo (Ok.bind (one (by first | exact u32_in _ | exact z33 | exact z0 | assumption)) fun z hz=>Ok.bind (Hr (g:=(z.2.1.1,(s.1.2.1,z.2.1.2.2))) hz hB hy.2) fun y' hy'=>Ok.ret ⟨z9,hy',h.he,h.ca,h.tl,h.bo,h.ou,h.is.set hk hp hy.1,h.de,h.vp,u32_in _⟩)))
 · obtain ⟨k,e,hk⟩:=Ym g.dv hf
   have ec:(decide (0≤i.2.2.2.2.1)&&decide (i.2.2.2.2.1 < (t.2.2.2.2.2.2.2.2.1.len:Int))) = true:=by rw [e]; exact aj hk
   have eo:(decide (0≤i.2.2.2.2.1)&&decide (i.2.2.2.2.1 < (s.2.2.2.2.2.2.2.2.2.2.1.len:Int))) = true:=by rw [e]; exact aj (n:=(bq s).len) (by rw [h.de.1]; exact hk)
   have ek:i.2.2.2.2.1.toNat = k:=by rw [e]; rfl
   rw [ek]
   refine Ok.grd ec (Ok.bif (fun hp=>?_) fun _=>Ok.bind (one (by first | exact u32_in _ | exact z33 | exact z0 | assumption)) fun z hz=>Ok.bind (Hr (g:=(z.2.1.1,(s.1.2.1,z.2.1.2.2))) hz hB (by first | exact u32_in _ | exact z33 | exact z0 | assumption)) fun y hy=>Ok.ret ⟨z9,hy,h.he,h.ca,h.tl,h.bo,h.ou,h.is,h.de,h.vp,u32_in _⟩)
   have hp:(tDevs t).get k = p:=eq_of_beq hp
   refine Ok.grd eo (Ok.bind (afr (d:=(bq s).get k) ((h.de.2.1 k hk).1 hp)) fun y hy=>Ok.grd eo (Ok.bind (one (by first | exact u32_in _ | exact z33 | exact z0 | assumption)) fun z hz=>Ok.bind (Hr (g:=(z.2.1.1,(s.1.2.1,z.2.1.2.2))) hz hB hy.2) fun y' hy'=>Ok.ret ⟨z9,hy',h.he,h.ca,h.tl,h.bo,h.ou,h.is,h.de.set hk hp hy.1,h.vp,u32_in _⟩))
theorem gN.clear {t:Tb} {p:Nat} {x:L Oe} (g:TG t p) (h:gN t p x) {i:Nat} (hi:i < (tChans t).len) (z:Int):gN t p (L.upd x i fun e=>(e.1,(L.of z [],e.2.2))):=by
 have eg:∀ j,(L.upd x i fun e=>(e.1,(L.of z [],e.2.2))).get j = if j = i then ((x.get i).1,(L.of z [],(x.get i).2.2)) else x.get j:=fun j=>by
  by_cases q:j = i
  · subst q; rw [jU,if_pos rfl]
  · rw [jV _ _ q,if_neg q]
 refine ⟨h.1,fun j hj=>?_,h.2.2⟩
 rw [eg]
 have k:=h.2.1 j hj
 have hc:=eU (g.ch.2 j hj)
 by_cases q:j = i
 · subst q
   rw [if_pos rfl]
   refine ⟨fun w=>?_,fun w=>⟨(k.2 w).1,rfl⟩⟩
   obtain ⟨a1,a2,a3,_⟩:=k.1 w
   exact ⟨a1,fun z=>⟨(a2 z).1,Nat.zero_le _⟩,fun z=>⟨(a3 z).1,by have:=a3 z; show _ + ((0:Nat):Int)≤_; omega⟩,M7 rfl⟩
 · rw [if_neg q]; exact k
theorem Ra {t:Tb} {p:Nat} {s:St} (g:TG t p) (h:PG t p s):Ok (Hq t p s) fun z=>PG t p z.2.1:=by
 have h8:=g.ch.1
 have key:∀ {un wx wz wA wB wC wD wE wF uo up uq ur us ut uu uv uw ux uy wG wH wJ uz uA wK:_},Ok (aL qV (((),((0:Int),())),(((),(un,((),(wx,(wz,(wA,(wB,(wC,(wD,(wE,(wF,(uo,(up,(uq,(ur,(us,(ut,(uu,((),(uv,((),(uw,(ux,((),((),((),((),()))))))))))))))))))))))))))),(uy,(wG,(wH,(wJ,(uz,((bn s),(uA,(wK,()))))))))))) fun z=>∃ x:L Oe,z = .inl ((),(((),(un,((),(wx,(wz,(wA,(wB,(wC,(wD,(wE,(wF,(uo,(up,(uq,(ur,(us,(ut,(uu,((),(uv,((),(uw,(ux,((),((),((),((),()))))))))))))))))))))))))))),(uy,(wG,(wH,(wJ,(uz,(x,(uA,(wK,())))))))))) ∧ gN t p x:=by
  intro un wx wz wA wB wC wD wE wF uo up uq ur us ut uu uv uw ux uy wG wH wJ uz uA wK
  refine dB (tChans t).len (fun i z=>∃ x:L Oe,z = (((),((i:Int),())),(((),(un,((),(wx,(wz,(wA,(wB,(wC,(wD,(wE,(wF,(uo,(up,(uq,(ur,(us,(ut,(uu,((),(uv,((),(uw,(ux,((),((),((),((),()))))))))))))))))))))))))))),(uy,(wG,(wH,(wJ,(uz,(x,(uA,(wK,())))))))))) ∧ gN t p x) ?_ ?_ _ ⟨_,rfl,h.ou⟩
  · rintro i _ hi ⟨x,rfl,hx⟩
    simp only [qV]
    rw [hx.1,av hi (by omega),tN]
    exact Ok.grd (aM hi) (Ok.grd (aj hi) (Ok.ret (.inl ⟨_,rfl,_,rfl,hx.clear g hi _⟩)))
  · rintro _ ⟨x,rfl,hx⟩
    simp only [qV]
    rw [hx.1,au (aK (tChans t).len)]
    exact Ok.ret ⟨_,rfl,x,rfl,hx⟩
 unfold Hq
 refine Ok.bind (Q8 g h.bo) fun a ha=>Ok.bind key ?_
 rintro _ ⟨x,rfl,hx⟩
 exact Ok.ret ⟨ha.1,h.he,h.ca,h.tl,h.bo,hx,h.is,h.de,⟨z0,z0,z0,z0,z0⟩,ha.2⟩
theorem afG {t:Tb} {p:Nat} {s:St} {c:Int} (g:TG t p) (h:PG t p s):Ok (K7 t p s c) fun z=>PG t p z.2.1 ∧ z.2.1.2.2.2.2.2.1 = wI (c + t.2.2.2.2.1) ∧ bn z.2.1 = bn s:=by
 have h8:=g.dv
 have key:∀ {un uo up uq ur us ut uu uv uw ux wL wM uy wN uz wO uA:_} {v:Vi},VP v→Ok (aL qU (((p:Int),((),((),((0:Int),())))),(((),(un,((),(v.1,(v.2.1,(v.2.2.1,(v.2.2.2.1,(v.2.2.2.2.1,(v.2.2.2.2.2.1,(v.2.2.2.2.2.2.1,(v.2.2.2.2.2.2.2.1,(uo,(up,(uq,(ur,(us,(ut,(uu,((),(uv,((),(uw,(ux,((),((),((),((),()))))))))))))))))))))))))))),(t,(wL,(wM,(uy,(wN,(uz,(wO,(uA,((bq s),())))))))))))) fun z=>∃ (v:Vi) (x:L De),z = .inl ((),(((),(un,((),(v.1,(v.2.1,(v.2.2.1,(v.2.2.2.1,(v.2.2.2.2.1,(v.2.2.2.2.2.1,(v.2.2.2.2.2.2.1,(v.2.2.2.2.2.2.2.1,(uo,(up,(uq,(ur,(us,(ut,(uu,((),(uv,((),(uw,(ux,((),((),((),((),()))))))))))))))))))))))))))),(wL,(wM,(uy,(wN,(uz,(wO,(uA,(x,())))))))))) ∧ pK t p x ∧ VP v:=by
  intro un uo up uq ur us ut uu uv uw ux wL wM uy wN uz wO uA v hv
  refine dB (tDevs t).len (fun i z=>∃ (v:Vi) (x:L De),z = (((p:Int),((),((),((i:Int),())))),(((),(un,((),(v.1,(v.2.1,(v.2.2.1,(v.2.2.2.1,(v.2.2.2.2.1,(v.2.2.2.2.2.1,(v.2.2.2.2.2.2.1,(v.2.2.2.2.2.2.2.1,(uo,(up,(uq,(ur,(us,(ut,(uu,((),(uv,((),(uw,(ux,((),((),((),((),()))))))))))))))))))))))))))),(t,(wL,(wM,(uy,(wN,(uz,(wO,(uA,(x,()))))))))))) ∧ pK t p x ∧ VP v) ?_ ?_ _ ⟨v,_,rfl,h.de,hv⟩
  · rintro i _ hi ⟨v,x,rfl,hx,hv⟩
    simp only [qU]
    rw [hx.1,av hi (by omega),tN]
    refine Ok.grd (aM hi) (Ok.bif (fun _=>Ok.grd (aj hi) (Ok.bif (fun hp=>?_) fun _=>Ok.ret (.inl ⟨_,rfl,v,x,rfl,hx,hv⟩))) fun _=>Ok.ret (.inr ⟨_,rfl,v,x,rfl,hx,hv⟩))
    have hp:(tDevs t).get i = p:=eq_of_beq hp
    refine Ok.grd (aj hi) (Ok.bind (afs (d:=x.get i) ((hx.2.1 i hi).1 hp)) fun y hy=>Ok.grd (aj hi) (Ok.bif (fun _=>Ok.bind (aft hv _) fun a ha=>Ok.ret (.inl ⟨_,rfl,a.1.1,_,rfl,hx.set hi hp hy,ha⟩)) fun _=>Ok.ret (.inl ⟨_,rfl,v,_,rfl,hx.set hi hp hy,hv⟩)))
  · rintro _ ⟨v,x,rfl,hx,hv⟩
    simp only [qU]
    exact Ok.no (aK (tDevs t).len) (Ok.ret ⟨_,rfl,v,x,rfl,hx,hv⟩)
 unfold K7
 rw [afD g]
 refine Ok.bind (Q9 g) fun a ha=>Ok.bind (key (v:=s.2.1) h.vp) ?_
 rintro _ ⟨v,x,rfl,hx,hv⟩
 exact Ok.ret ⟨⟨h.gu,h.he,ha,afE g.tl.1,h.bo,h.ou,h.is,hx,hv,h.pw⟩,rfl,rfl⟩
theorem PS.he' {t:Tb} {p:Nat} {regs:L Int} {ram:Im} {he:He} {ca:Ca} {tl:Tl} {boot:Im} {outs:L Oe} {ins:L Ie} {devs:L De} {vi:Vi} {pc:Int} (h:PS t p regs ram he ca tl boot outs ins devs vi pc) {k:He} (hk:Rv k):PS t p regs ram k ca tl boot outs ins devs vi pc :=
 ⟨h.gu,hk,h.ca,h.tl,h.bo,h.ou,h.is,h.de,h.vp,h.pw⟩
theorem PS.pc' {t:Tb} {p:Nat} {regs:L Int} {ram:Im} {he:He} {ca:Ca} {tl:Tl} {boot:Im} {outs:L Oe} {ins:L Ie} {devs:L De} {vi:Vi} {pc n:Int} (h:PS t p regs ram he ca tl boot outs ins devs vi pc):PS t p regs ram he ca tl boot outs ins devs vi (IntKind.wrap .u32 n) :=
 ⟨h.gu,h.he,h.ca,h.tl,h.bo,h.ou,h.is,h.de,h.vp,u32_in _⟩
theorem ajh {ws:L Wi} {r:L Int} {m:Im} (h:wm ws r m):r.len≤1000:=by rw [h.1]; decide
set_option maxHeartbeats 4000000 in
theorem Rb {t:Tb} {p:Nat} {s:St} {c:Int} (g:TG t p) (h:PG t p s) (hc:0≤c ∧ c≤100000):Ok (Pw t p s c) fun z=>PG t p z.2.1 ∧ c≤z.2.1.2.2.2.2.2.1 ∧ z.2.1.2.2.2.2.2.1≤c + 500:=by
 have hk:=nX g.co
 have h16:s.1.1.len≤1000:=by rw [h.gu.1]; decide
 unfold Pw BF BD xw
 refine Ok.bind (ajc _ _) fun y _=>Ok.bif (fun _=>Ok.bind (Yh h.vp _ h.pw) fun z hv=>Ok.bind (Va h16) fun u _=>Ok.ret ⟨⟨h.gu,h.he,h.ca,h.tl,h.bo,h.ou,h.is,h.de,hv.1,hv.2⟩,?_⟩) fun _=>Ok.grd (aj g.pl) (Ok.bind (QT (g:=(s.1.1,(s.1.2.1,s.1.2.2))) g.w h.gu) fun w hw=>Ok.bind (afo (g:=(s.1.1,(s.1.2.1,s.1.2.2))) g.w h.gu h.pw c) fun z hz=>?_)
 · dsimp only
   simp (disch:=omega) only [QY]
   omega
 obtain ⟨w1,w2,w3⟩:=hw
 obtain ⟨hz1,hz0,z2,z3,z4⟩:=hz
 have P:PG t p ((z.1.1.1.1,(z.1.1.1.2.1,z.1.1.1.2.2)),(s.2.1,(s.2.2.1,((s.2.2.2.1.1,s.2.2.2.1.2),((s.2.2.2.2.1.1,s.2.2.2.2.1.2),(s.2.2.2.2.2.1,(s.2.2.2.2.2.2.1,s.2.2.2.2.2.2.2))))))):=⟨hz1,h.he,h.ca,h.tl,h.bo,h.ou,h.is,h.de,h.vp,hz0⟩
 clear h hz1
 have w4:(w.1.2.1 == 0) = true→0≤wI s.1.2.1 ∧ wI s.1.2.1≤65535:=fun q=>⟨(w3 q).1,Int.le_trans (w3 q).2 (by decide)⟩
 have ge:∀ {n:Int},decide (n ≥ 0) = true→0≤n:=fun h=>by simpa using h
 repeat' (first
  | (refine Ok.bind (Uh g.co ⟨ge (by assumption),z3.2⟩) ?_; rintro _ ⟨_,_⟩)
  | (refine Ok.bind (Lh g (by assumption) (w4 (by assumption))) ?_; rintro _ ⟨⟨_,_⟩,_⟩)
  | (refine Ok.bind (Lh g (by assumption) ⟨ge (by assumption),z4.2⟩) ?_; rintro _ ⟨⟨_,_⟩,_⟩)
  | (refine Ok.bind (Lg _ w1) ?_; rintro _ ⟨_,_,_,_⟩)
  | (refine Ok.bind (Yn g (by assumption) (by assumption) (by assumption)) ?_; rintro _ ⟨_,_⟩)
  | (refine Ok.bind (QW g.po (PS.he (by assumption)) (by assumption)) ?_; intro _ _)
  | (refine Ok.bind (Ra g (PS.he' (by assumption) (by assumption))) ?_; intro _ _)
  | (refine Ok.bind (Ra g (PS.pc' (PS.he' (by assumption) (by assumption)))) ?_; intro _ _)
  | (refine Ok.bind (Va (ajh (PS.gu (by assumption)))) ?_; intro _ _)
  | refine Ok.grd (aj g.pl) ?_
  | refine Ok.bif (fun _=>?_) (fun _=>?_))
 all_goals
  refine Ok.ret ⟨by first | assumption | exact PS.he' (by assumption) (by assumption) | exact PS.pc' (PS.he' (by assumption) (by assumption)),?_,?_⟩ <;> (dsimp only; simp (disch:=omega) only [QY]; omega)
theorem afH {c:ig} (h:Cw c):Ok (Ld c) fun a=>VP a.1.1 ∧ Cw a.2.1:=by
 unfold Ld EW
 repeat' (first
  | (refine Ok.bind (jG (by assumption) (by decide) (by decide)) ?_; rintro _ ⟨_,_,_⟩)
  | (refine Ok.bind (kZ (by assumption) (by decide) (by decide)) ?_; intro _ _)
  | (refine Ok.bind (QJ (by assumption)) ?_; rintro _ ⟨_,_⟩)
  | refine Ok.grd (decide_eq_true (u64_in _)) ?_
  | refine Ok.bif (fun _=>?_) (fun _=>?_))
 all_goals exact Ok.ret ⟨⟨by assumption,by assumption,u32_in _,u32_in _,by first | assumption | exact z0 | exact Ju _ _⟩,by assumption⟩
theorem afI {t:Tb} (h:tV t = some ((true,()),())):1≤t.2.2.1 ∧ t.2.2.1≤8:=by
 have e:f157 t.2.2.1 1 8 = true:=by
  unfold tV at h
  cases hq:f157 t.2.2.1 1 8 with
  | true=>rfl
  | false =>
    rw [hq] at h
    simp only [Bool.not_false,cond_true] at h
    cases f200 t.1 <;> cases f201 t.2.1 <;> simp at h
 exact (aZ _ _ _).mp e
theorem TG.of {t:Tb} {p:Nat} (hs:tV t = some ((true,()),())) (hF:Facts t) (hp:p < (tParts t).len):TG t p:=by
 have ht:=afI hs
 obtain ⟨h1,_,_,_,h5,_,_,⟨h8,_⟩,d1,d2,_,d4,_⟩:=hF
 obtain ⟨⟨_,p2,p3,p4,_⟩,_⟩:=h8 p hp
 exact ⟨hp,⟨p3.2,fun i hi=>(p4 i hi).1⟩,h1,p2,h5,ht,⟨d2,fun i hi=>(d4 i hi).1⟩,d1⟩
theorem gN.fill {t:Tb} {p:Nat} {x:L Oe} (h:gN t p x) {i:Nat} (hi:i < (tChans t).len) (hz:(x.get i).1 = 0) (hp:((tChans t).get i).2.1 = p) {w:L Int} (hw:w.len = 1 ∧ WI w):gN t p (L.upd x i fun e=>(e.1,(w,e.2.2))):=by
 refine h.set hi hp (o:=((x.get i).1,(w,(x.get i).2.2))) ?_
 obtain ⟨a1,a2,a3,_⟩:=(h.2.1 i hi).1 hp
 have hc:=eU a1
 exact ⟨a1,fun z=>⟨hz,by show w.len≤1; omega⟩,fun z=>⟨by show 0≤(x.get i).1; omega,by show (x.get i).1 + (w.len:Int)≤_; omega⟩,hw.2⟩
theorem oC.fill {t:Tb} {p:Nat} {x:L Ie} (g:TG t p) (h:oC t p x) {i:Nat} (hi:i < (tChans t).len) (hp:((tChans t).get i).2.2.1 = p) {w:Ie} (hw:w.1.len = 1 ∧ WI w.1):oC t p (L.set x i w):=by
 refine h.set hi hp ?_
 have a1:=g.ch.2 i hi
 have hc:=eU a1
 exact ⟨a1,fun z=>by omega,fun z=>by omega,hw.2⟩
theorem xA {c:ig} (h:Cw c) {n:Int} (h0:0≤n) (hn:n≤1000):Ok (kV c n) fun a=>(a.1.1.len = n.toNat ∧ Cw a.2.1) ∧ WI a.1.1:=by
 obtain ⟨m,rfl⟩:∃ m:Nat,n = m:=⟨n.toNat,by omega⟩
 exact (QK h m (by omega)).mono fun a h=>⟨⟨by rw [h.1.1]; rfl,h.1.2⟩,wl h.2.1,h.2.2⟩
theorem zh3:(0:Int)≤3 ∧ (3:Int)≤1000000000:=by decide
theorem zh1:(0:Int)≤1 ∧ (1:Int)≤1000000000:=by decide
theorem zh2:(0:Int)≤2 ∧ (2:Int)≤9:=by decide
structure mY (t:Tb) (p:Nat) (s:St) (c:Int):Prop where
 tg:TG t p
 so:tV t = some ((true,()),())
 fa:Facts t
 pg:PG t p s
 nx:0≤s.2.2.2.2.2.1 ∧ s.2.2.2.2.2.1≤100000
 cy:0≤c
set_option maxHeartbeats 8000000 in
theorem Yo {c:ig} (h:Cw c) {code:L Int} (hl:code.len≤2 ^ 46):Ok (Ud c code) fun a=>∃ p:Nat,a.1.2.1 = p ∧ mY a.1.1 p a.1.2.2.1 a.1.2.2.2.1:=by
 unfold Ud Jt Js
 refine Ok.bind (jG h (by decide) (by decide)) ?_
 rintro ⟨⟨x1,⟨⟩⟩,c1,⟨⟩⟩ ⟨a1,b1,k1⟩
 dsimp only at a1 b1 k1 ⊢
 have e2:wI (2 + x1) = ((2 + x1.toNat:Nat):Int):=by rw [aJ (by omega) (by omega)]; omega
 rw [e2]
 obtain ⟨t,c2,q2,k2,hs,hF,_,at_,hP⟩:=TH c1 k1 (2 + x1.toNat) (by omega) (by omega)
 rw [q2,oB]
 have hpl:=hP.len
 refine Ok.bind (jG (n:=((tParts t).len:Int)) k2 (by omega) (by omega)) ?_
 rintro ⟨⟨x3,⟨⟩⟩,c3,⟨⟩⟩ ⟨a3,b3,k3⟩
 dsimp only at a3 b3 k3 ⊢
 obtain ⟨p,rfl⟩:∃ p:Nat,x3 = p:=⟨x3.toNat,by omega⟩
 have g:=TG.of (p:=p) hs hF (by omega)
 have hw2:=(hP.part p (by omega)).1.len
 have hc8:=g.ch.1
 have UO:=g.dv
 refine Ok.bind (Yg k3 t p (by omega) (by omega) (by omega) g.w.2 hc8 UO) ?_
 rintro y4 ⟨f4,k4⟩
 refine Ok.bind (afF g f4) ?_
 rintro y5 ⟨p5,z5⟩
 refine Ok.bind (jG k4 (by decide) (by decide)) ?_
 rintro ⟨⟨cy,⟨⟩⟩,c6,⟨⟩⟩ ⟨a6,b6,k6⟩
 dsimp only at a6 b6 k6
 refine Ok.bind (afG (s:=y5.1.1) (c:=cy) g p5) ?_
 rintro y7 ⟨p7,n7,o7⟩
 have aji:∀ {t1 t11 uB uC uD uE uF uG uH uI uJ uK uL uM uN uO uP uQ uR uS uT uU uV uW uX uZ wP:_} {c:ig} {o:L Oe} {q:L Ie},Cw c→gN t p o→(∀ i,i < (tChans t).len→(o.get i).1 = 0)→oC t p q→Ok (aL vX (((),(t1,((),((),((),((p:Int),((),(t11,((0:Int),()))))))))),(c,(((),((),((),((),((),((),((),((),((),((),((),((),((),((),((),((),((),((),((),()))))))))))))))))))),(((),((),((),((),((),((),((),((),((),((),((),((),((),((),((),((),((),((),((),((),((),((),((),((),((),((),((),()))))))))))))))))))))))))))),(t,(((),(uB,((),(uC,(uD,(uE,(uF,(uG,(uH,(uI,(uJ,(uK,(uL,(uM,(uN,(uO,(uP,(uQ,((),(uR,((),(uS,(uT,((),((),((),((),()))))))))))))))))))))))))))),(uU,(uV,(uW,(uX,(uZ,(o,(q,(wP,()))))))))))))))) fun z=>∃ (c:ig) (o:L Oe) (q:L Ie),z = .inl (((),(t1,((),((),((),((p:Int),((),(t11,())))))))),(c,(((),((),((),((),((),((),((),((),((),((),((),((),((),((),((),((),((),((),((),()))))))))))))))))))),(((),((),((),((),((),((),((),((),((),((),((),((),((),((),((),((),((),((),((),((),((),((),((),((),((),((),((),()))))))))))))))))))))))))))),(t,(((),(uB,((),(uC,(uD,(uE,(uF,(uG,(uH,(uI,(uJ,(uK,(uL,(uM,(uN,(uO,(uP,(uQ,((),(uR,((),(uS,(uT,((),((),((),((),()))))))))))))))))))))))))))),(uU,(uV,(uW,(uX,(uZ,(o,(q,(wP,())))))))))))))) ∧ Cw c ∧ gN t p o ∧ oC t p q:=by
  intro t1 t11 uB uC uD uE uF uG uH uI uJ uK uL uM uN uO uP uQ uR uS uT uU uV uW uX uZ wP c o q hc ho hz hq
  refine dB (tChans t).len (fun i z=>∃ (c:ig) (o:L Oe) (q:L Ie),z = (((),(t1,((),((),((),((p:Int),((),(t11,((i:Int),()))))))))),(c,(((),((),((),((),((),((),((),((),((),((),((),((),((),((),((),((),((),((),((),()))))))))))))))))))),(((),((),((),((),((),((),((),((),((),((),((),((),((),((),((),((),((),((),((),((),((),((),((),((),((),((),((),()))))))))))))))))))))))))))),(t,(((),(uB,((),(uC,(uD,(uE,(uF,(uG,(uH,(uI,(uJ,(uK,(uL,(uM,(uN,(uO,(uP,(uQ,((),(uR,((),(uS,(uT,((),((),((),((),()))))))))))))))))))))))))))),(uU,(uV,(uW,(uX,(uZ,(o,(q,(wP,())))))))))))))) ∧ Cw c ∧ gN t p o ∧ (∀ i,i < (tChans t).len→(o.get i).1 = 0) ∧ oC t p q) ?_ ?_ _ ⟨c,o,q,rfl,hc,ho,hz,hq⟩
  · rintro i _ hi ⟨c,o,q,rfl,hc,ho,hz,hq⟩
    simp only [vX]
    rw [av hi (by omega),tN]
    have io:(decide (0≤(i:Int))&&decide ((i:Int) < (o.len:Int))) = true:=aj (by rw [ho.1]; exact hi)
    have iq:(decide (0≤(i:Int))&&decide ((i:Int) < (q.len:Int))) = true:=aj (by rw [hq.1]; exact hi)
    have fo:∀ {w:L Int},((tChans t).get i).2.1 = p→w.len = 1 ∧ WI w→gN t p (L.upd o i fun e=>(e.1,(w,e.2.2))) ∧ ∀ j,j < (tChans t).len→((L.upd o i fun e=>(e.1,(w,e.2.2))).get j).1 = 0:=fun {w} hp hw=>⟨ho.fill hi (hz i hi) hp hw,fun j hj=>by
     by_cases e:j = i
     · subst e; rw [jU]; exact hz j hj
     · rw [jV _ _ e]; exact hz j hj⟩
    refine Ok.grd (aM hi) (Ok.grd (aj hi) (Ok.bif (fun hp=>Ok.bind (kZ hc (by decide) (by decide)) fun y8 k8=>Ok.bif (fun _=>Ok.bind (xA k8 (by decide) (by decide)) fun y9 hy9=>Ok.grd io (Ok.grd (aj hi) ?_)) fun _=>Ok.grd (aj hi) ?_) fun _=>Ok.grd (aj hi) ?_))
    · obtain ⟨⟨h1,h2⟩,h3⟩:=hy9
      have fo:=fo (w:=y9.1.1) (eq_of_beq hp) ⟨h1,h3⟩
      exact Ok.bif (fun hp'=>Ok.bind (kZ h2 (by decide) (by decide)) fun y k=>Ok.bif (fun _=>Ok.bind (xA k (by decide) (by decide)) fun u hu=>Ok.grd iq (Ok.ret (.inl ⟨_,rfl,_,_,_,rfl,hu.1.2,fo.1,fo.2,hq.fill g hi (eq_of_beq hp') (w:=u.1) ⟨hu.1.1,hu.2⟩⟩))) fun _=>Ok.ret (.inl ⟨_,rfl,_,_,_,rfl,k,fo.1,fo.2,hq⟩)) fun _=>Ok.ret (.inl ⟨_,rfl,_,_,_,rfl,h2,fo.1,fo.2,hq⟩)
    · exact Ok.bif (fun hp'=>Ok.bind (kZ k8 (by decide) (by decide)) fun y k=>Ok.bif (fun _=>Ok.bind (xA k (by decide) (by decide)) fun u hu=>Ok.grd iq (Ok.ret (.inl ⟨_,rfl,_,_,_,rfl,hu.1.2,ho,hz,hq.fill g hi (eq_of_beq hp') (w:=u.1) ⟨hu.1.1,hu.2⟩⟩))) fun _=>Ok.ret (.inl ⟨_,rfl,_,_,_,rfl,k,ho,hz,hq⟩)) fun _=>Ok.ret (.inl ⟨_,rfl,_,_,_,rfl,k8,ho,hz,hq⟩)
    · exact Ok.bif (fun hp'=>Ok.bind (kZ hc (by decide) (by decide)) fun y k=>Ok.bif (fun _=>Ok.bind (xA k (by decide) (by decide)) fun u hu=>Ok.grd iq (Ok.ret (.inl ⟨_,rfl,_,_,_,rfl,hu.1.2,ho,hz,hq.fill g hi (eq_of_beq hp') (w:=u.1) ⟨hu.1.1,hu.2⟩⟩))) fun _=>Ok.ret (.inl ⟨_,rfl,_,_,_,rfl,k,ho,hz,hq⟩)) fun _=>Ok.ret (.inl ⟨_,rfl,_,_,_,rfl,hc,ho,hz,hq⟩)
  · rintro _ ⟨c,o,q,rfl,hc,ho,hz,hq⟩
    simp only [vX]
    exact Ok.no (aK (tChans t).len) (Ok.ret ⟨_,rfl,c,o,q,rfl,hc,ho,hq⟩)
 have key2:∀ {t1 t11 uB uC uD uE uF uG uH uI uJ uK uL uM uN uO uP uQ uR uS uT uU uV uW uX uZ wQ wR:_} {c:ig} {d:L De},Cw c→pK t p d→Ok (aL vY (((),(t1,((),((),((),((p:Int),((),(t11,((0:Int),()))))))))),(c,(((),((),((),((),((),((),((),((),((),((),((),((),((),((),((),((),((),((),((),()))))))))))))))))))),(((),((),((),((),((),((),((),((),((),((),((),((),((),((),((),((),((),((),((),((),((),((),((),((),((),((),((),()))))))))))))))))))))))))))),(t,(((),(uB,((),(uC,(uD,(uE,(uF,(uG,(uH,(uI,(uJ,(uK,(uL,(uM,(uN,(uO,(uP,(uQ,((),(uR,((),(uS,(uT,((),((),((),((),()))))))))))))))))))))))))))),(uU,(uV,(uW,(uX,(uZ,(wQ,(wR,(d,()))))))))))))))) fun z=>∃ (c:ig) (d:L De),z = .inl (((),(t1,((),((),((),((p:Int),((),(t11,())))))))),(c,(((),((),((),((),((),((),((),((),((),((),((),((),((),((),((),((),((),((),((),()))))))))))))))))))),(((),((),((),((),((),((),((),((),((),((),((),((),((),((),((),((),((),((),((),((),((),((),((),((),((),((),((),()))))))))))))))))))))))))))),(t,(((),(uB,((),(uC,(uD,(uE,(uF,(uG,(uH,(uI,(uJ,(uK,(uL,(uM,(uN,(uO,(uP,(uQ,((),(uR,((),(uS,(uT,((),((),((),((),()))))))))))))))))))))))))))),(uU,(uV,(uW,(uX,(uZ,(wQ,(wR,(d,())))))))))))))) ∧ Cw c ∧ pK t p d:=by
  intro t1 t11 uB uC uD uE uF uG uH uI uJ uK uL uM uN uO uP uQ uR uS uT uU uV uW uX uZ wQ wR c d hc hd
  refine dB (tDevs t).len (fun i z=>∃ (c:ig) (d:L De),z = (((),(t1,((),((),((),((p:Int),((),(t11,((i:Int),()))))))))),(c,(((),((),((),((),((),((),((),((),((),((),((),((),((),((),((),((),((),((),((),()))))))))))))))))))),(((),((),((),((),((),((),((),((),((),((),((),((),((),((),((),((),((),((),((),((),((),((),((),((),((),((),((),()))))))))))))))))))))))))))),(t,(((),(uB,((),(uC,(uD,(uE,(uF,(uG,(uH,(uI,(uJ,(uK,(uL,(uM,(uN,(uO,(uP,(uQ,((),(uR,((),(uS,(uT,((),((),((),((),()))))))))))))))))))))))))))),(uU,(uV,(uW,(uX,(uZ,(wQ,(wR,(d,())))))))))))))) ∧ Cw c ∧ pK t p d) ?_ ?_ _ ⟨c,d,rfl,hc,hd⟩
  · rintro i _ hi ⟨c,d,rfl,hc,hd⟩
    simp only [vY]
    rw [av hi (by omega),tN]
    have iq:(decide (0≤(i:Int))&&decide ((i:Int) < (d.len:Int))) = true:=aj (by rw [hd.1]; exact hi)
    refine Ok.grd (aM hi) (Ok.grd (aj hi) (Ok.bif (fun hp=>Ok.bind (kZ hc (by decide) (by decide)) fun y8 k8=>Ok.bif (fun _=>?_) fun _=>Ok.ret (.inl ⟨_,rfl,_,_,rfl,k8,hd⟩)) fun _=>Ok.ret (.inl ⟨_,rfl,_,_,rfl,hc,hd⟩)))
    refine Ok.bind (jG k8 (by decide) (by decide)) ?_
    rintro u ⟨u1,u2,u3⟩
    refine Ok.bind (xA u3 u1 (by omega)) ?_
    rintro v ⟨⟨v1,v2⟩,v3⟩
    refine Ok.bind (jG v2 (by decide) (by decide)) ?_
    rintro w ⟨w1,w2,w3⟩
    refine Ok.bind (xA w3 w1 (by omega)) ?_
    rintro x ⟨⟨x1,x2⟩,x3⟩
    exact Ok.grd iq (Ok.ret (.inl ⟨_,rfl,_,_,rfl,x2,hd.set hi (eq_of_beq hp) (o:=(v.1.1,x.1)) ⟨by show v.1.1.len≤8; omega,by show x.1.1.len≤8; omega,v3,x3⟩⟩))
  · rintro _ ⟨c,d,rfl,hc,hd⟩
    simp only [vY]
    exact Ok.no (aK (tDevs t).len) (Ok.ret ⟨_,rfl,c,d,rfl,hc,hd⟩)
 have ajj:∀ {c:ig} {s:St} {cy:Int} {n:Nat},n≤40→PG t p s→(0≤cy ∧ cy≤300)→(0≤s.2.2.2.2.2.1 ∧ s.2.2.2.2.2.1≤6000)→Ok (aL vZ (((),((),((),((),((p:Int),((),(cy,((n:Int),((0:Int),()))))))))),(c,(((),((),((),((),((),((),((),((),((),((),((),((),((),((),((),((),((),((),((),()))))))))))))))))))),(((),((),((),((),((),((),((),((),((),((),((),((),((),((),((),((),((),((),((),((),((),((),((),((),((),((),((),()))))))))))))))))))))))))))),(t,(((),(s.1.2.1,((),(s.2.1.1,(s.2.1.2.1,(s.2.1.2.2.1,(s.2.1.2.2.2.1,(s.2.1.2.2.2.2.1,(s.2.1.2.2.2.2.2.1,(s.2.1.2.2.2.2.2.2.1,(s.2.1.2.2.2.2.2.2.2.1,(s.2.2.1.1,(s.2.2.1.2.1,(s.2.2.1.2.2.1,(s.2.2.1.2.2.2.1,(s.2.2.2.1.1.1,(s.2.2.2.1.1.2.1,(s.2.2.2.1.1.2.2.1,((),(s.2.2.2.2.1.1,((),(s.2.2.2.2.2.1,(s.2.2.2.2.2.2.1,((),((),((),((),()))))))))))))))))))))))))))),(s.1.1,(s.1.2.2.1,(s.2.2.2.1.2.1,(s.2.2.2.2.1.2.1,((qM s),((bn s),((bW s),((bq s),()))))))))))))))) fun z=>∃ (s:St) (cy:Int),z = .inl (((),((),((),((),((p:Int),((),(cy,()))))))),(c,(((),((),((),((),((),((),((),((),((),((),((),((),((),((),((),((),((),((),((),()))))))))))))))))))),(((),((),((),((),((),((),((),((),((),((),((),((),((),((),((),((),((),((),((),((),((),((),((),((),((),((),((),()))))))))))))))))))))))))))),(t,(((),(s.1.2.1,((),(s.2.1.1,(s.2.1.2.1,(s.2.1.2.2.1,(s.2.1.2.2.2.1,(s.2.1.2.2.2.2.1,(s.2.1.2.2.2.2.2.1,(s.2.1.2.2.2.2.2.2.1,(s.2.1.2.2.2.2.2.2.2.1,(s.2.2.1.1,(s.2.2.1.2.1,(s.2.2.1.2.2.1,(s.2.2.1.2.2.2.1,(s.2.2.2.1.1.1,(s.2.2.2.1.1.2.1,(s.2.2.2.1.1.2.2.1,((),(s.2.2.2.2.1.1,((),(s.2.2.2.2.2.1,(s.2.2.2.2.2.2.1,((),((),((),((),()))))))))))))))))))))))))))),(s.1.1,(s.1.2.2.1,(s.2.2.2.1.2.1,(s.2.2.2.2.1.2.1,((qM s),((bn s),((bW s),((bq s),())))))))))))))) ∧ PG t p s ∧ 0≤cy ∧ 0≤s.2.2.2.2.2.1 ∧ s.2.2.2.2.2.1≤100000:=by
  intro  c s cy n hn hs hc hx
  refine dB n (fun i z=>∃ (s:St) (cy:Int),z = (((),((),((),((),((p:Int),((),(cy,((n:Int),((i:Int),()))))))))),(c,(((),((),((),((),((),((),((),((),((),((),((),((),((),((),((),((),((),((),((),()))))))))))))))))))),(((),((),((),((),((),((),((),((),((),((),((),((),((),((),((),((),((),((),((),((),((),((),((),((),((),((),((),()))))))))))))))))))))))))))),(t,(((),(s.1.2.1,((),(s.2.1.1,(s.2.1.2.1,(s.2.1.2.2.1,(s.2.1.2.2.2.1,(s.2.1.2.2.2.2.1,(s.2.1.2.2.2.2.2.1,(s.2.1.2.2.2.2.2.2.1,(s.2.1.2.2.2.2.2.2.2.1,(s.2.2.1.1,(s.2.2.1.2.1,(s.2.2.1.2.2.1,(s.2.2.1.2.2.2.1,(s.2.2.2.1.1.1,(s.2.2.2.1.1.2.1,(s.2.2.2.1.1.2.2.1,((),(s.2.2.2.2.1.1,((),(s.2.2.2.2.2.1,(s.2.2.2.2.2.2.1,((),((),((),((),()))))))))))))))))))))))))))),(s.1.1,(s.1.2.2.1,(s.2.2.2.1.2.1,(s.2.2.2.2.1.2.1,((qM s),((bn s),((bW s),((bq s),())))))))))))))) ∧ PG t p s ∧ (0≤cy ∧ cy≤6000 + 500 * (i:Int)) ∧ (0≤s.2.2.2.2.2.1 ∧ s.2.2.2.2.2.1≤6000 + 500 * (i:Int))) ?_ ?_ _ ⟨s,cy,rfl,hs,by omega,by omega⟩
  · rintro i _ hi ⟨s,cy,rfl,hs,hc,hx⟩
    simp only [vZ]
    rw [av hi (by omega)]
    refine Ok.grd (aM hi) (Ok.bif (fun _=>Ok.bif (fun _=>Ok.bind (Rb (s:=s) (c:=cy) g hs (by omega)) fun y hy=>Ok.ret (.inl ⟨_,rfl,y.2.1,_,rfl,hy.1,?_,?_⟩)) fun _=>Ok.ret (.inr ⟨_,rfl,s,cy,rfl,hs,hc.1,hx.1,by omega⟩)) fun _=>Ok.ret (.inr ⟨_,rfl,s,cy,rfl,hs,hc.1,hx.1,by omega⟩))
    · have:=hy.2; omega
    · have:=hy.2; omega
  · rintro _ ⟨s,cy,rfl,hs,hc,hx⟩
    simp only [vZ]
    exact Ok.no (aK n) (Ok.ret ⟨_,rfl,s,cy,rfl,hs,hc.1,hx.1,by omega⟩)
 have hF2:=hF.2.1
 rw [aJ (by omega) (by omega)] at n7
 have z7:∀ i,i < (tChans t).len→((bn y7.2.1).get i).1 = 0:=fun i hi=>by rw [o7]; exact z5 i hi
 refine Ok.bind (aji k6 p7.ou z7 p7.is) ?_
 rintro _ ⟨c8,o8,q8,rfl,k8,ho8,hq8⟩
 refine Ok.bind (key2 k8 p7.de) ?_
 rintro _ ⟨c9r,d9,rfl,k9,hd9⟩
 have hz:1≤f196 code 40 ∧ f196 code 40≤40:=by
  have h46:(2:Nat) ^ 46 = 70368744177664:=by decide
  rw [h46] at hl
  unfold f196
  rw [Int.tdiv_eq_ediv_of_nonneg (by omega),aJ (n:=(code.len:Int) / 20) (by omega) (by omega),aJ (by omega) (by omega)]
  cases hq:decide (2 + (code.len:Int) / 20 > 40) with
  | true=>simp
  | false=>simp at hq ⊢; omega
 refine Ok.bind (jG (n:=f196 code 40) k9 hz.1 (by omega)) ?_
 rintro ⟨⟨n,⟨⟩⟩,c10,⟨⟩⟩ ⟨a10,b10,k10⟩
 dsimp only at a10 b10 k10
 obtain ⟨n,rfl⟩:∃ m:Nat,n = m:=⟨n.toNat,by omega⟩
 generalize hu:y7.2.1 = u at *
 refine Ok.bind (ajj (s:=(u.1,(u.2.1,(u.2.2.1,(u.2.2.2.1,(u.2.2.2.2.1,(u.2.2.2.2.2.1,(u.2.2.2.2.2.2.1,(u.2.2.2.2.2.2.2.1,(o8,(q8,(d9,())))))))))))) (cy:=cy) (n:=n) (by omega) ⟨p7.gu,p7.he,p7.ca,p7.tl,p7.bo,ho8,hq8,hd9,p7.vp,p7.pw⟩ (by omega) (by dsimp only; omega)) ?_
 rintro _ ⟨s,cy',rfl,hs',hcy,hx1,hx2⟩
 have D:∀ {v:Vi} {he:He},VP v→Rv he→mY t p (s.1,(v,(he,s.2.2.2))) cy':=fun {v he} hv hh=>⟨g,hs,hF,⟨hs'.gu,hh,hs'.ca,hs'.tl,hs'.bo,hs'.ou,hs'.is,hs'.de,hv,hs'.pw⟩,⟨hx1,hx2⟩,hcy⟩
 have H3:∀ {b:Bool},Rv (3,(1,(2,(b,())))):=fun {b}=>⟨zh3,zh1,zh2⟩
 refine Ok.bind (kZ k10 (by decide) (by decide)) fun MN k26=>Ok.bif (fun _=>Ok.bind (afH k26) fun y27 ⟨v27,k27⟩=>Ok.grd (aj g.pl) (Ok.bind (kZ k27 (by decide) (by decide)) fun y28 k28=>Ok.bif (fun _=>Ok.bind (kZ k28 (by decide) (by decide)) fun y29 k29=>Ok.ret ⟨p,rfl,D ⟨u32_in _,v27.2⟩ H3⟩) fun _=>Ok.ret ⟨p,rfl,D ⟨u32_in _,v27.2⟩ hs'.he⟩)) fun _=>Ok.bind (kZ k26 (by decide) (by decide)) fun y28 k28=>Ok.bif (fun _=>Ok.bind (kZ k28 (by decide) (by decide)) fun y29 k29=>Ok.ret ⟨p,rfl,D hs'.vp H3⟩) fun _=>Ok.ret ⟨p,rfl,D hs'.vp hs'.he⟩
theorem Yp {code:L Int} (hl:code.len≤2 ^ 46):Ok (g20 code) fun a=>∃ p:Nat,a.1.2.1 = p ∧ mY a.1.1 p a.1.2.2.1 a.1.2.2.2.1:=by
 obtain ⟨c,e,hc⟩:=Xc code hl
 unfold g20
 rw [e,oB]
 exact Ok.bind (Yo hc hl) fun a ha=>Ok.ret ha
def Yes {α:Type} (o:Option ((Bool×Unit)×α)):Prop:=Ok o fun a=>a.1.1 = true
theorem ajk {t:Tb} {p:Nat} {x:Im} (g:TG t p) (hn:(tParts t).len≤6) (h:pU ((tParts t).get p).2.2.2.1 x):Yes (Sj t (p:Int) x):=by
 have hl:=g.pl
 have e:(t.2.2.2.2.2.2.2.1.len:Int) = (tParts t).len:=rfl
 have hf:f157 (p:Int) 0 (wI ((t.2.2.2.2.2.2.2.1.len:Int) - 1)) = true:=by
  rw [e,aJ (by omega) (by omega)]
  exact (aZ _ _ _).mpr (by omega)
 have h4:=g.w.1
 unfold Yes Sj
 rw [hf]
 refine Ok.no rfl (Ok.grd (aj g.pl) (Ok.no (by rw [tN]; simp; exact congrArg Nat.cast h.1) (Ok.grd (aj g.pl) ?_)))
 rw [tN]
 refine Ok.bind (dB (R:=fun z=>z = .inr (.inl ((),()))) ((tParts t).get p).2.2.2.1.len (fun i z=>z = ((x,(((tParts t).get p).2.2.2.1,((((tParts t).get p).2.2.2.1.len:Int),((i:Int),())))),())) ?_ ?_ _ rfl) ?_
 · rintro i _ hi rfl
   simp only [yR]
   rw [av hi (by omega),tN]
   exact Ok.grd (aM hi) (Ok.grd (aj hi) (Ok.grd (aj (by rw [h.1]; exact hi)) (Ok.no (by simpa using (h.2 i hi).1) (Ok.ret (.inl ⟨_,rfl,rfl⟩)))))
 · rintro _ rfl
   simp only [yR]
   exact Ok.no (aK _) (Ok.ret ⟨_,rfl,rfl⟩)
 · rintro _ rfl
   exact Ok.ret rfl
theorem MS (a:L Wi) (ha:a.len≤2 ^ 47) (w:Wi) (hw:f326 w = true) (hg:∀ v,v ∈ toL a→f326 v = true) (hap:∀ v,v ∈ toL a→apart v w):uY a (w,()) = some ((false,()),()):=by
 have hf:∀ i,i < a.len→f339 (a.get i) w = false:=fun i hi=>by
  have hm:=(lC a (a.get i)).mpr ⟨i,hi,rfl⟩
  have:=(GR (a.get i) w (hg _ hm) hw).mpr (hap _ hm)
  unfold f339
  rw [this]; rfl
 have h:=lQ (step:=kP) (x:=a) (c:=(w,())) (fun i=>f339 (a.get i) w) (fun i hi=>by
  simp only [kP]
  refine (ah (aM hi)).trans ((ah (aj hi)).trans ?_)
  rw [av hi ha,tN]
  by_cases hf:f339 (a.get i) w = true
  · rw [if_pos hf]; exact ah hf
  · rw [if_neg hf]; exact au (by simpa using hf)) (by
  simp only [kP]
  exact au (aK a.len))
 unfold uY AZ
 rcases h with ⟨i,h1,h2,h3,h4⟩ | ⟨h1,h2⟩
 · rw [hf i h1] at h2; cases h2
 · rw [h2]; rfl
theorem afJ (w:L Wi) (hl:w.len≤4) (hg:∀ j,j < w.len→f326 (w.get j) = true) (hap:∀ k i,k < i→i < w.len→apart (w.get k) (w.get i)):Yes (Sk w):=by
 unfold Yes Sk
 refine Ok.no (by simp; omega) (Ok.bind (dB (R:=fun z=>z = .inr (.inl ((),()))) w.len (fun i z=>z = ((w,(w,((w.len:Int),((i:Int),())))),())) ?_ ?_ _ rfl) ?_)
 · rintro i _ hi rfl
   simp only [yS]
   have ajl:f304 (w.get i) = true:=by rw [GQ]; exact hg i hi
   have hcut:∀ v,v ∈ toL (L.cut w (0:Int).toNat i)→∃ k,k < i ∧ w.get k = v:=fun v hv=>by
    obtain ⟨k,k1,k2⟩:=(lC _ _).mp hv
    have k1:k < i - 0:=k1
    have k2:w.get (0 + k) = v:=k2
    rw [Nat.zero_add] at k2
    exact ⟨k,by omega,k2⟩
   have ho:=MS (L.cut w (0:Int).toNat i) (show i - 0≤2 ^ 47 by omega) (w.get i) (hg i hi) (fun v hv=>by
    obtain ⟨k,k1,rfl⟩:=hcut v hv
    exact hg k (by omega)) (fun v hv=>by
    obtain ⟨k,k1,rfl⟩:=hcut v hv
    exact hap k i k1 hi)
   rw [av hi (by omega),tN,ajl]
   refine Ok.grd (aM hi) (Ok.grd (aj hi) (Ok.no rfl (Ok.grd (by simp; omega) ?_)))
   rw [ho]
   exact Ok.ret (.inl ⟨_,rfl,rfl⟩)
 · rintro _ rfl
   simp only [yS]
   exact Ok.no (aK w.len) (Ok.ret ⟨_,rfl,rfl⟩)
 · rintro _ rfl
   exact Ok.ret rfl
theorem ajm {w:L Wi} {g:Gu} (hw:WG w) (hap:∀ k i,k < i→i < w.len→apart (w.get k) (w.get i)) (h:wm w g.1 g.2.2.1):Yes (Sm w g):=by
 obtain ⟨h1,h2,⟨h3,h4⟩,_⟩:=h
 have hl:=hw.1
 unfold Yes Sm
 refine Ok.bind (afJ w hw.1 hw.2 hap) fun a ha=>?_
 rw [ha]
 refine Ok.no rfl (Ok.no (by rw [h1]; rfl) (Ok.grd (by rw [h1]; rfl) (Ok.no (by simpa using h2) (Ok.no (by simp; exact congrArg Nat.cast h3) ?_))))
 refine Ok.bind (dB (R:=fun z=>z = .inr (.inl ((),()))) w.len (fun i z=>z = (((),(w,((w.len:Int),((i:Int),())))),(g,()))) ?_ ?_ _ rfl) ?_
 · rintro i _ hi rfl
   simp only [yT]
   rw [av hi (by omega),tN]
   exact Ok.grd (aM hi) (Ok.grd (aj hi) (Ok.grd (aj (by rw [h3]; exact hi)) (Ok.no (by simpa using (h4 i hi).1) (Ok.ret (.inl ⟨_,rfl,rfl⟩)))))
 · rintro _ rfl
   simp only [yT]
   exact Ok.no (aK w.len) (Ok.ret ⟨_,rfl,rfl⟩)
 · rintro _ rfl
   exact Ok.ret rfl
theorem heK {h:He} (k:Rv h):f154 h = true:=by
 obtain ⟨h1,h2,h3⟩:=k
 unfold f154
 rw [eT,(aZ _ _ _).mpr h1,(aZ _ _ _).mpr h2,(aZ _ _ _).mpr h3]
 rfl
theorem ajn {row:L Wy} (hl:row.len≤1000) (hd:∀ i k,i < k→k < row.len→(row.get i).1 ≠ (row.get k).1) {i:Nat} (hi:i < row.len):Ok (I8 row (row.get i).1) fun a=>a.1.1 = (i:Int):=by
 unfold I8 u7
 have key:Ok (aL fG ((row,(((row.get i).1,()),((row.len:Int),((0:Int),())))),())) fun z=>z = .inl (((i:Int),()),()):=by
  refine dB i (fun k z=>z = ((row,(((row.get i).1,()),((row.len:Int),((k:Int),())))),())) ?_ ?_ _ rfl
  · rintro k _ hk rfl
    simp only [fG]
    rw [av hk (by omega),tN]
    refine Ok.grd (aM (by omega)) (Ok.grd (aj (by omega)) (Ok.no ?_ (Ok.ret (.inl ⟨_,rfl,rfl⟩))))
    show ((row.get k).1 == (row.get i).1) = false
    simpa using hd k i hk hi
  · rintro _ rfl
    simp only [fG]
    rw [tN]
    refine Ok.grd (aM hi) (Ok.grd (aj hi) (Ok.grd ?_ (Ok.ret ⟨_,rfl,rfl⟩)))
    show ((row.get i).1 == (row.get i).1) = true
    simp
 refine Ok.bind (Q:=fun a=>a.1.1 = (i:Int)) (Ok.bind key ?_) fun a ha=>Ok.ret ha
 rintro _ rfl
 exact Ok.ret rfl
theorem ajo {c:Ca} (h:Ji c):Yes (Sn c):=by
 obtain ⟨h1,h2,h3⟩:=h
 obtain ⟨s1,s2,_⟩:=xq h1
 unfold Yes Sn
 rw [Bp,h1]
 refine Ok.no rfl (Ok.no (by simpa using h2) (Ok.bind (dB (R:=fun z=>z = .inr (.inl ((),()))) c.2.1.len (fun i z=>z = (((),(c.2.1,((c.2.1.len:Int),((i:Int),())))),(c,()))) ?_ ?_ _ rfl) ?_))
 · rintro i _ hi rfl
   obtain ⟨r1,r2,r3⟩:=h3 i hi
   have key:Ok (aL vg (((),(c.2.1.get i,(c.2.1,((c.2.1.len:Int),((i:Int),(c.2.1.get i,(((c.2.1.get i).len:Int),((0:Int),())))))))),(c,()))) fun z=>z = .inr (.inl (((),(c.2.1,((c.2.1.len:Int),((i:Int),())))),(c,()))):=by
    refine dB (c.2.1.get i).len (fun k z=>z = (((),(c.2.1.get i,(c.2.1,((c.2.1.len:Int),((i:Int),(c.2.1.get i,(((c.2.1.get i).len:Int),((k:Int),())))))))),(c,()))) ?_ ?_ _ rfl
    · rintro k _ hk rfl
      simp only [vg]
      rw [av hk (by omega),tN]
      have ha:f266 ((c.2.1.get i).get k).1 = true:=(aZ _ _ _).mpr (r2 k hk)
      rw [ha]
      refine Ok.grd (aM hk) (Ok.grd (aj hk) (Ok.no rfl (Ok.bind (ajn (by omega) r3 hk) fun a e=>?_)))
      rw [e]
      exact Ok.no (by simp) (Ok.ret (.inl ⟨_,rfl,rfl⟩))
    · rintro _ rfl
      simp only [vg]
      exact Ok.no (aK (c.2.1.get i).len) (Ok.ret ⟨_,rfl,rfl⟩)
   simp only [yU]
   rw [tN]
   refine Ok.grd (aM hi) (Ok.grd (aj hi) (Ok.no (by simp; omega) (Ok.bind key ?_)))
   rintro _ rfl
   simp only
   rw [av hi (by omega)]
   exact Ok.ret (.inl ⟨_,rfl,rfl⟩)
 · rintro _ rfl
   simp only [yU]
   exact Ok.no (aK c.2.1.len) (Ok.ret ⟨_,rfl,rfl⟩)
 · rintro _ rfl
   exact Ok.ret rfl
theorem ajp {x:L Int} (hl:x.len≤1000) {v:Int} (h:∀ i,i < x.len→x.get i ≠ v):Ok (I9 x v) fun a=>a.1.1 = false:=by
 unfold I9 Sq
 have key:Ok (aL mK ((x,(v,((x.len:Int),((0:Int),())))),())) fun z=>z = .inr (.inl ((),())):=by
  refine dB x.len (fun k z=>z = ((x,(v,((x.len:Int),((k:Int),())))),())) ?_ ?_ _ rfl
  · rintro k _ hk rfl
    simp only [mK]
    rw [av hk (by omega),tN]
    exact Ok.grd (aM hk) (Ok.grd (aj hk) (Ok.no (by simpa using Ne.symm (h k hk)) (Ok.ret (.inl ⟨_,rfl,rfl⟩))))
  · rintro _ rfl
    simp only [mK]
    exact Ok.no (aK x.len) (Ok.ret ⟨_,rfl,rfl⟩)
 refine Ok.bind (Q:=fun a=>a.1.1 = -1) (Ok.bind key ?_) fun a ha=>Ok.ret (by show decide (a.1.1 ≥ 0) = false; rw [ha]; rfl)
 rintro _ rfl
 exact Ok.ret rfl
theorem Yq {n:Int} {x:Tl} (hn:1≤n ∧ n≤8) (h:U9 n x):Yes (Sr x):=by
 obtain ⟨h1,h2,h3,h4,_⟩:=h
 unfold Yes Sr
 rw [eT,(aZ _ _ _).mpr (by omega)]
 refine Ok.no rfl (Ok.no (by simp; omega) (Ok.bind (dB (R:=fun z=>z = .inr (.inl ((),()))) x.2.1.len (fun i z=>z = (((),(x.2.1,((x.2.1.len:Int),((i:Int),())))),(x,()))) ?_ ?_ _ rfl) ?_))
 · rintro i _ hi rfl
   simp only [yV]
   rw [av hi (by omega),tN,eT,(aZ _ _ _).mpr (h3 i hi)]
   refine Ok.grd (aM hi) (Ok.grd (aj hi) (Ok.no rfl (Ok.grd (by simp; omega) (Ok.bind (ajp (show i - 0≤1000 by omega) fun k hk=>?_) fun a ha=>?_))))
   · have hk:k < i - 0:=hk
     show x.2.1.get (0 + k) ≠ _
     rw [Nat.zero_add]
     exact h4 k i (by omega) hi
   · rw [ha]
     exact Ok.ret (.inl ⟨_,rfl,rfl⟩)
 · rintro _ rfl
   simp only [yV]
   exact Ok.no (aK x.2.1.len) (Ok.ret ⟨_,rfl,rfl⟩)
 · rintro _ rfl
   exact Ok.ret rfl
theorem outT {r:Ch} {o:Oe} (h:Ci r o):f270 r o = true:=by
 obtain ⟨hr,h1,h2,_⟩:=h
 unfold f270 f311
 rw [show f209 r = f328 r from rfl,hr,eT]
 rcases eU hr with ⟨k1,k2⟩ | ⟨k1,k2,k3⟩
 · obtain ⟨a1,a2⟩:=h1 k1
   rw [k2,if_neg (by omega),au (show (!true) = false from rfl),au (by simp; omega),(aZ _ _ _).mpr (by omega),ah rfl,ah (by simpa using k1)]
 · obtain ⟨a1,a2⟩:=h2 (by omega)
   have hd:(if r.2.2.2.1 > 1 then r.2.2.2.1 else 1) = r.2.2.2.1:=by split <;> omega
   rw [hd,au (show (!true) = false from rfl),au (by simp; omega),(aZ _ _ _).mpr (by omega),ah rfl,au (by simp [k1]),aJ (by omega) (by omega)]
   simp; omega
theorem inT {r:Ch} {o:Ie} (h:QU r o):f272 r o = true:=by
 obtain ⟨hr,h1,h2,_⟩:=h
 unfold f272 f311
 rw [show f209 r = f328 r from rfl,hr,ah rfl]
 rcases eU hr with ⟨k1,k2⟩ | ⟨k1,k2,k3⟩
 · have:=h1 k1
   rw [k2,if_neg (by omega)]
   simp; omega
 · have:=h2 (by omega)
   have hd:(if r.2.2.2.1 > 1 then r.2.2.2.1 else 1) = r.2.2.2.1:=by split <;> omega
   rw [hd]
   simp; omega
theorem afK {t:Tb} {p:Nat} {s:St} (g:TG t p) (h:PG t p s):Yes (Sv t (p:Int) s):=by
 have hc8:=g.ch.1
 have UO:=g.dv
 have eo:=h.ou.1
 have ei:=h.is.1
 have ed:=h.de.1
 have ajq:∀ i:Nat,i < (tChans t).len→Ez t (p:Int) (i:Int) = some ((((tChans t).get i).2.1 == (p:Int),()),()):=fun i h=>by
  unfold Ez
  have e:((t.2.2.2.2.2.2.2.2.2.1.len:Int)) = (tChans t).len:=rfl
  rw [show f157 = f42 from rfl,e,aJ (by omega) (by omega),ah ((aZ _ _ _).mpr (by omega)),ah (aj h),tN]
  rfl
 have afL:∀ i:Nat,i < (tChans t).len→Gd t (p:Int) (i:Int) = some ((((tChans t).get i).2.2.1 == (p:Int),()),()):=fun i h=>by
  unfold Gd
  have e:((t.2.2.2.2.2.2.2.2.2.1.len:Int)) = (tChans t).len:=rfl
  rw [show f157 = f42 from rfl,e,aJ (by omega) (by omega),ah ((aZ _ _ _).mpr (by omega)),ah (aj h),tN]
  rfl
 have ajr:∀ i:Nat,i < (tDevs t).len→Gf t (p:Int) (i:Int) = some (((tDevs t).get i == (p:Int),()),()):=fun i h=>by
  unfold Gf
  have e:((t.2.2.2.2.2.2.2.2.1.len:Int)) = (tDevs t).len:=rfl
  rw [show f157 = f42 from rfl,e,aJ (by omega) (by omega),ah ((aZ _ _ _).mpr (by omega)),ah (aj h),tN]
  rfl
 unfold Yes Sv
 refine Ok.no (by simp; exact congrArg Nat.cast eo) (Ok.no (by simp; exact congrArg Nat.cast ei) (Ok.no (by simp; exact congrArg Nat.cast ed) ?_))
 refine Ok.bind (dB (R:=fun z=>z = .inr (.inl (((p:Int),((),((),()))),(t,(s,()))))) (tChans t).len (fun i z=>z = (((p:Int),((),((),(tChans t,(((tChans t).len:Int),((i:Int),())))))),(t,(s,())))) ?_ ?_ _ rfl) ?_
 · rintro i _ hi rfl
   have ho:=h.ou.2.1 i hi
   have hin:=h.is.2.1 i hi
   simp only [yX,rE,lG]
   rw [av hi (by omega),tN,ajq i hi,afL i hi]
   refine Ok.grd (aM hi) (Ok.grd (aj hi) (Ok.grd (aj (n:=(bn s).len) (by omega)) (Ok.grd (aj (n:=(bW s).len) (by omega)) ?_)))
   have fo:((tChans t).get i).2.1 = p→f270 ((tChans t).get i) (s.2.2.2.2.2.2.2.2.1.get i) = true:=fun q=>outT (ho.1 q)
   have fi:((tChans t).get i).2.2.1 = p→f272 ((tChans t).get i) (s.2.2.2.2.2.2.2.2.2.1.get i) = true:=fun q=>inT (hin.1 q)
   have no:((tChans t).get i).2.1 ≠ p→((s.2.2.2.2.2.2.2.2.1.get i).1 != 0) = false ∧ decide (((s.2.2.2.2.2.2.2.2.1.get i).2.1.len:Int) > 0) = false:=fun q=>by
    obtain ⟨a,b⟩:=ho.2 q
    have a:(s.2.2.2.2.2.2.2.2.1.get i).1 = 0:=a
    have b:(s.2.2.2.2.2.2.2.2.1.get i).2.1.len = 0:=b
    rw [a,b]; exact ⟨rfl,rfl⟩
   have ni:((tChans t).get i).2.2.1 ≠ p→decide (((s.2.2.2.2.2.2.2.2.2.1.get i).1.len:Int) > 0) = false:=fun q=>by
    have b:(s.2.2.2.2.2.2.2.2.2.1.get i).1.len = 0:=hin.2 q
    rw [b]; rfl
   cases q1:(((tChans t).get i).2.1 == (p:Int)) with
   | true =>
     have a1:=fo (eq_of_beq q1)
     cases q2:(((tChans t).get i).2.2.1 == (p:Int)) with
     | true =>
       have a2:=fi (eq_of_beq q2)
       simp only [a1,a2,oB,Bool.not_true,cond_true,cond_false]
       exact Ok.ret (.inl ⟨_,rfl,rfl⟩)
     | false =>
       have a2:=ni (fun e=>by rw [e] at q2; simp at q2)
       simp only [a1,a2,oB,Bool.not_true,Bool.not_false,cond_true,cond_false]
       exact Ok.ret (.inl ⟨_,rfl,rfl⟩)
   | false =>
     obtain ⟨a1,a3⟩:=no (fun e=>by rw [e] at q1; simp at q1)
     cases q2:(((tChans t).get i).2.2.1 == (p:Int)) with
     | true =>
       have a2:=fi (eq_of_beq q2)
       simp only [a1,a2,a3,oB,Bool.not_true,Bool.not_false,cond_true,cond_false]
       exact Ok.ret (.inl ⟨_,rfl,rfl⟩)
     | false =>
       have a2:=ni (fun e=>by rw [e] at q2; simp at q2)
       simp only [a1,a2,a3,oB,Bool.not_true,Bool.not_false,cond_true,cond_false]
       exact Ok.ret (.inl ⟨_,rfl,rfl⟩)
 · rintro _ rfl
   simp only [yX,rE,lG]
   exact Ok.no (aK (tChans t).len) (Ok.ret ⟨_,rfl,rfl⟩)
 rintro _ rfl
 simp only
 refine Ok.bind (dB (R:=fun z=>z = .inr (.inl ((),()))) (bq s).len (fun i z=>z = (((p:Int),((),(bq s,(((bq s).len:Int),((i:Int),()))))),(t,()))) ?_ ?_ _ rfl) ?_
 · rintro i _ hi rfl
   have hi':i < (tDevs t).len:=by omega
   have hd:=h.de.2.1 i hi'
   simp only [yY,rF]
   rw [av hi (by omega),tN,ajr i hi']
   refine Ok.grd (aM hi) (Ok.grd (aj hi) ?_)
   cases q1:((tDevs t).get i == (p:Int)) with
   | true =>
     have k:=hd.1 (eq_of_beq q1)
     have a1:f273 ((bq s).get i) = true:=by
      unfold f273
      rw [ah (by have:=k.1; simp; omega)]
      have:=k.2.1
      simp; omega
     simp only [a1,oB,Bool.not_true,cond_true,cond_false]
     exact Ok.ret (.inl ⟨_,rfl,rfl⟩)
   | false =>
     obtain ⟨b1,b2⟩:=hd.2 (fun e=>by rw [e] at q1; simp at q1)
     have a1:decide (wI ((((bq s).get i).1.len:Int) + (((bq s).get i).2.1.len:Int)) > 0) = false:=by
      rw [b1,b2,aJ (by omega) (by omega)]; rfl
     simp only [a1,oB,Bool.not_true,Bool.not_false,cond_true,cond_false]
     exact Ok.ret (.inl ⟨_,rfl,rfl⟩)
 · rintro _ rfl
   simp only [yY,rF]
   exact Ok.no (aK (bq s).len) (Ok.ret ⟨_,rfl,rfl⟩)
 · rintro _ rfl
   exact Ok.ret rfl
theorem Hz {t:Tb} {p:Nat} (hF:Facts t) (g:TG t p) (k i:Nat) (h1:k < i) (h2:i < ((tParts t).get p).2.2.2.1.len):apart (((tParts t).get p).2.2.2.1.get k) (((tParts t).get p).2.2.2.1.get i):=by
 have hP:Parts (tParts t) t.1:=hF.2.2.2.2.2.2.2.1
 have hpw:(toL ((tParts t).get p).2.2.2.1).Pairwise apart:=by
  have hl:=g.pl
  obtain ⟨r,hr⟩:=sQ (tParts t) (i:=p + 1) (n:=(tParts t).len) (by omega) (Nat.le_refl _)
  have:=hP.2
  rw [hr,List.pairwise_append] at this
  have h2:=this.1
  rw [kS (tParts t) (by omega),List.pairwise_append] at h2
  exact h2.2.1
 have:=List.pairwise_iff_getElem.mp hpw k i (by rw [fV]; omega) (by rw [fV]; exact h2) h1
 rw [bX,bX] at this
 exact this
theorem afM {t:Tb} {p:Nat} {s:St} (g:TG t p) (hs:tV t = some ((true,()),())) (hF:Facts t) (h:PG t p s) (hn:0≤s.2.2.2.2.2.1 ∧ s.2.2.2.2.2.1≤100000):Yes (ZA t (p:Int) s):=by
 have hap:=Hz hF g
 unfold Yes ZA
 rw [hs,oB]
 refine Ok.no rfl (Ok.bind (ajk g hF.2.2.2.2.2.2.1.2 h.bo) fun a ha=>?_)
 rw [ha]
 refine Ok.no rfl (Ok.grd (aj g.pl) ?_)
 rw [tN]
 refine Ok.bind (ajm (g:=s.1) g.w hap h.gu) fun b hb=>?_
 rw [hb,heK h.he]
 refine Ok.no rfl (Ok.no rfl (Ok.bind (ajo h.ca.2.1) fun c hc=>?_))
 rw [hc]
 refine Ok.no rfl (Ok.no ?_ (Ok.bind (Yq g.tl h.tl) fun d hd=>?_))
 · rw [h.ca.1]; simp
 rw [hd]
 refine Ok.no rfl (Ok.no (by simpa using h.tl.1) (Ok.no ?_ (Ok.bind (afK g h) fun e he=>Ok.ret he)))
 rw [eT,(aZ _ _ _).mpr hn]
 rfl
theorem Rf (w:Wi) (x:Int) (hw:f326 w = true):Cb w x = true ↔ w.1≤x ∧ x < w.1 + w.2.1:=by
 have h:=(dK w).mp hw
 unfold Cb
 rw [aJ (by omega) (by omega),zI]
 simp
theorem ajs {ws:L Wi} (hw:WG ws) (x:Int):Ok (qE ws (x,())) fun a=>a = (((-1:Int),()),()) ∨ ∃ i:Nat,a = (((i:Int),()),()) ∧ i < ws.len ∧ Cb (ws.get i) x = true:=by
 have hl:=hw.1
 unfold qE
 refine Ok.bind (dB (R:=fun z=>z = .inr (.inl ((),())) ∨ ∃ i:Nat,z = .inl (((i:Int),()),()) ∧ i < ws.len ∧ Cb (ws.get i) x = true) ws.len (fun i y=>y = ((ws,((x,()),((ws.len:Int),((i:Int),())))),())) ?_ ?_ _ rfl) ?_
 · rintro i _ hi rfl
   simp only [gX]
   rw [av hi (by omega),tN]
   exact Ok.grd (aM hi) (Ok.grd (aj hi) (Ok.bif (fun h=>Ok.ret (.inr ⟨_,rfl,.inr ⟨i,rfl,hi,h⟩⟩)) fun _=>Ok.ret (.inl ⟨_,rfl,rfl⟩)))
 · rintro _ rfl
   simp only [gX]
   exact Ok.no (aK ws.len) (Ok.ret ⟨_,rfl,.inl rfl⟩)
 · rintro _ (rfl | ⟨i,rfl,hi⟩)
   · exact Ok.ret (.inl rfl)
   · exact Ok.ret (.inr ⟨i,rfl,hi⟩)
theorem atI {ws:L Wi} (hw:WG ws) (x:Int):Ok (yH ws x) fun a=>a = (((-1:Int),()),()) ∨ ∃ i:Nat,a = (((i:Int),()),()) ∧ i < ws.len ∧ Cb (ws.get i) x = true:=by
 unfold yH
 exact Ok.bind (ajs hw x) fun a h=>Ok.ret (by rcases h with rfl | ⟨i,rfl,h⟩; exact .inl rfl; exact .inr ⟨i,rfl,h⟩)
def HV (ws:L Wi) (x n:Int) (a:(Int×Unit)×Unit):Prop:=(a.1.1 != 0) = false→∃ i:Nat,yH ws (wI x) = some (((i:Int),()),()) ∧ i < ws.len ∧ 0≤wI x - (ws.get i).1 ∧ wI x - (ws.get i).1 + n≤(ws.get i).2.1 ∧ (ws.get i).2.1≤2048 ∧ 0≤wI x ∧ wI x≤2048
theorem Rh {ws:L Wi} {x n k:Int} (hw:WG ws) (hn:n = 1 ∨ n = 4):Ok (OY ws x n k) fun a=>(0≤a.1.1 ∧ a.1.1≤9) ∧ HV ws x n a:=by
 have key:Ok (bif (!decide (n = 0)) then bif ((Int.tmod (wI x) n) != (0:Int)) then some (((1:Int),()),()) else (yH ws (wI x)).bind fun y=>bif (decide (y.1.1 < (0:Int))) then some (((2:Int),()),()) else bif (decide (0≤y.1.1)&&decide (y.1.1 < (ws.len:Int))) then bif ((bP .i64 (L.get ws y.1.1.toNat).2.2.1 k) == (0:Int)) then some (((3:Int),()),()) else some (((0:Int),()),()) else none else none) fun a=>(0≤a.1.1 ∧ a.1.1≤9) ∧ HV ws x n a:=by
  refine Ok.grd (by rcases hn with rfl | rfl <;> decide) (Ok.bif (fun _=>Ok.ret ⟨by decide,fun q=>by cases q⟩) fun h=>?_)
  obtain ⟨a,e,ha⟩:=atI hw (wI x)
  rw [e]
  rcases ha with rfl | ⟨i,rfl,hi,hx⟩
  · exact Ok.ret ⟨by decide,fun q=>by cases q⟩
  · simp only [oB]
    refine Ok.no (by simp) (Ok.grd (aj hi) (Ok.bif (fun _=>Ok.ret ⟨by decide,fun q=>by cases q⟩) fun _=>Ok.ret ⟨by decide,fun _=>⟨i,e,hi,?_⟩⟩))
    have h0:Int.tmod (wI x) n = 0:=by simpa using h
    have hx':lV (ws.get i) (wI x) = true:=(lY _ _ (hw.2 i hi)).mpr ((Rf _ _ (hw.2 i hi)).mp hx)
    obtain ⟨p1,p2,p3,p4,p5,_⟩:=Jv hw hn h0 hi hx'
    exact ⟨p1,p2,p5,p3,p4⟩
 unfold OY tX
 exact Ok.bif (fun _=>Ok.bif (fun _=>Ok.ret ⟨by decide,fun q=>by cases q⟩) fun _=>Ok.bif (fun _=>Ok.bif (fun _=>Ok.bif (fun _=>Ok.ret ⟨by decide,fun q=>by cases q⟩) fun _=>key) fun _=>key) fun _=>key) fun _=>Ok.bif (fun _=>Ok.bif (fun _=>Ok.bif (fun _=>Ok.ret ⟨by decide,fun q=>by cases q⟩) fun _=>key) fun _=>key) fun _=>key
theorem afN (x y:Int):0≤Eu .u32 x y ∧ Eu .u32 x y≤4294967295:=u32_in _
theorem Ri {ws:L Wi} {g:Gu} {x n k:Int} (hw:WG ws) (hg:wm ws g.1 g.2.2.1) (hn:n = 1 ∨ n = 4):Ok (Ja g ws x n k) fun a=>(0≤a.1.1 ∧ a.1.1≤4294967295) ∧ (0≤a.1.2.1 ∧ a.1.2.1≤9) ∧ ((a.1.2.1 == 0) = true→0≤wI x ∧ wI x≤2048):=by
 obtain ⟨_,_,⟨f1,f2⟩,_⟩:=hg
 unfold Ja
 refine Ok.bind (Rh hw hn) ?_
 rintro y ⟨h1,h2⟩
 refine Ok.bif (fun h=>Ok.ret ⟨z0,h1,fun q=>?_⟩) fun h=>?_
 · simp at h q; omega
 obtain ⟨i,e,hi,p1,p2,p3,p4,p5⟩:=h2 h
 have fi:=(f2 i hi).1
 have hir:i < g.2.2.1.len:=by rw [f1]; exact hi
 rw [e]
 simp only [oB]
 generalize wI x = x at *
 rw [tN,aJ (n:=x - (ws.get i).1) (by omega) (by omega)]
 have fi:((g.2.2.1.get i).len:Int) = (ws.get i).2.1:=fi
 have ec:(L.cut (g.2.2.1.get i) (x - (ws.get i).1).toNat ((g.2.2.1.get i).len:Int).toNat).len = (g.2.2.1.get i).len - (x - (ws.get i).1).toNat:=rfl
 refine Ok.grd (aj hir) (Ok.grd (aj hi) (Ok.grd (by simp; omega) (Ok.bif (fun q=>Ok.grd ?_ (Ok.ret ⟨u32_in _,z9,fun _=>⟨p4,p5⟩⟩)) fun q=>Ok.grd ?_ ?_)))
 · rw [ec]; simp at q; simp; omega
 · rw [ec]; simp at q; simp; omega
 · have el:(L.cut (L.cut (g.2.2.1.get i) (x - (ws.get i).1).toNat ((g.2.2.1.get i).len:Int).toNat) (0:Int).toNat (4:Int).toNat).len = 4:=rfl
   generalize L.cut (L.cut (g.2.2.1.get i) (x - (ws.get i).1).toNat ((g.2.2.1.get i).len:Int).toNat) (0:Int).toNat (4:Int).toNat = b at el
   refine Ok.bind (Q:=fun a=>0≤a.1.1 ∧ a.1.1≤4294967295) ?_ fun a ha=>Ok.ret ⟨ha,z9,fun _=>⟨p4,p5⟩⟩
   unfold WB
   rw [el]
   exact Ok.no (by decide) (Ok.grd (by decide) (Ok.grd (by decide) (Ok.grd (by decide) (Ok.grd (by decide) (Ok.ret (afN _ _))))))
theorem Jy {ws:L Wi} {g:Gu} {a v:Int} (hg:wm ws g.1 g.2.2.1) (ha:0≤a ∧ a≤15) (hv:W1 v):Ok (iV g a v) fun z=>wm ws z.2.1.1 z.2.1.2.2.1 ∧ z.2.1.2.1 = g.2.1:=by
 obtain ⟨h1,h2,h3,h4,h5⟩:=hg
 unfold iV
 refine Ok.bif (fun h=>Ok.grd (by rw [h1]; simp; omega) (Ok.ret ⟨⟨h1,?_,h3,h4,h5.set _ hv⟩,rfl⟩)) fun _=>Ok.ret ⟨⟨h1,h2,h3,h4,h5⟩,rfl⟩
 have h:a ≠ 0:=by simpa using h
 show (L.set g.1 a.toNat v).get 0 = 0
 rw [bR _ _ (by omega)]
 exact h2
theorem Yr {ws:L Wi} {g:Gu} {x n v:Int} (hw:WG ws) (hg:wm ws g.1 g.2.2.1) (hn:n = 1 ∨ n = 4):Ok (Dp g ws x n v) fun z=>(0≤z.1.1 ∧ z.1.1≤9) ∧ ((z.1.1 == 0) = true→wm ws z.2.1.1 z.2.1.2.2.1 ∧ 0≤wI x ∧ wI x≤2048) ∧ z.2.1.2.1 = g.2.1:=by
 unfold Dp
 refine Ok.bind (Rh hw hn) ?_
 rintro y ⟨h1,h2⟩
 refine Ok.bif (fun h=>Ok.ret ⟨h1,fun q=>?_,rfl⟩) fun h=>?_
 · simp at h q; omega
 obtain ⟨i,e,hi,p1,p2,p3,p4,p5⟩:=h2 h
 obtain ⟨q1,q2,⟨f1,f2⟩,f3⟩:=hg
 have fi:((g.2.2.1.get i).len:Int) = (ws.get i).2.1:=(f2 i hi).1
 have hir:i < g.2.2.1.len:=by rw [f1]; exact hi
 rw [e]
 simp only [oB]
 generalize wI x = x at *
 rw [tN,aJ (n:=x - (ws.get i).1) (by omega) (by omega)]
 have eb:((Bh v).len:Int) = 4:=rfl
 refine Ok.grd (aj hir) (Ok.grd (aj hi) (Ok.grd (by simp; omega) (Ok.grd (by rw [eb]; simp; omega) (Ok.ret ⟨z9,fun _=>⟨⟨q1,q2,⟨f1,fun j hj=>?_⟩,f3⟩,p4,p5⟩,rfl⟩))))
 by_cases q:j = i
 · subst q
   rw [jU]
   exact f2 j hj
 · rw [jV _ _ q]
   exact f2 j hj
theorem Rj {ws:L Wi} {g:Gu} (hw:WG ws) (h:wm ws g.1 g.2.2.1):Ok (Ba g) fun a=>wm ws a.1.1.1 a.1.1.2.2.1 ∧ a.1.1.2.1 = g.2.1:=by
 obtain ⟨h1,h2,h3,h4,h5⟩:=h
 obtain ⟨r,e,hs,n1,n2⟩:=Hy g (by omega) (h3.bnd hw) (wl h4) (fun i hi=>wl (h3.2 i (by rw [← h3.1]; exact hi)).2)
 have l16:r.1.len = 16:=hs.1.1.trans h1
 exact ⟨_,e,⟨l16,(hs.1.2 0 (by omega)).trans h2,h3.same hw hs.2.2 n2,n1.no (by omega),WN.same hs.1 h5⟩,hs.2.1⟩
theorem Rk (b:Bool):W1 (Gp b):=by cases b <;> exact ⟨by decide,by decide⟩
theorem ajt {a b:Int} (ha:W1 a) (hb:W1 b) (o:Int):Ok (SG o a b) fun y=>W1 y.1.1 ∧ 0≤y.1.2.1 ∧ y.1.2.1≤9:=by
 have hm:decide (0≤Int.tmod b 32) = true:=by
  rw [Int.tmod_eq_emod_of_nonneg hb.1]
  simp; omega
 have hs:Ok (SF a b) fun y=>W1 y.1.1:=by
  unfold SF
  exact Ok.grd hm (Ok.ret (u32_in _))
 unfold SG
 repeat' (first | (refine Ok.bind hs ?_; intro _ _) | refine Ok.grd hm ?_ | refine Ok.bif (fun _=>?_) (fun _=>?_))
 all_goals first | (exfalso; simp_all; done) | refine Ok.ret ⟨?_,by first | exact z9 | exact z4 | exact z5⟩
 all_goals first | exact u32_in _ | exact QM ha | exact Rk _ | assumption | exact z0
theorem oD (a b c:Int):f157 a b c = true ↔ b≤a ∧ a≤c:=by
 unfold f157
 rw [zI]
 simp
theorem afO (x:Int):Ok (SC x) fun a=>decide (a.1.1 < 0) = false→0≤x ∧ x≤32:=by
 unfold SC jW
 cases q:f157 x 0 32 with
 | false=>exact Ok.ret fun h=>by simp at h
 | true =>
   have h:=(oD _ _ _).mp q
   refine Ok.no rfl ?_
   repeat' (refine Ok.bif (fun _=>?_) (fun _=>?_))
   all_goals exact Ok.ret fun _=>h
theorem afP (k:IntKind) (x:Int):(bP k x 1 == 0) = !(bP k x 1 == 1):=by
 have e:bP k x 1 = 0 ∨ bP k x 1 = 1:=by
  unfold bP
  have hb:(BitVec.ofInt k.bits x &&&BitVec.ofInt k.bits 1).toNat≤1:=by
   rw [BitVec.toNat_and]
   refine Nat.le_trans Nat.and_le_right ?_
   cases k <;> decide
  generalize (BitVec.ofInt k.bits x &&&BitVec.ofInt k.bits 1).toNat = m at hb
  have:m = 0 ∨ m = 1:=by omega
  rcases this with rfl | rfl <;> cases k <;> decide
 rcases e with e | e <;> rw [e] <;> rfl
theorem instrI (x:Int×(Int×(Int×(Int×(Int×Unit))))):Ok (SE x) fun y=>y.1.1 = true→(0≤x.1 ∧ x.1≤32) ∧ (0≤x.2.1 ∧ x.2.1≤15) ∧ (0≤x.2.2.1 ∧ x.2.2.1≤15) ∧ (0≤x.2.2.2.1 ∧ x.2.2.2.1≤15):=by
 unfold SE Jb Bg Bf
 refine Ok.bind (afO x.1) fun y hy=>Ok.bif (fun _=>Ok.ret fun q=>by cases q) fun h=>?_
 have h0:=hy h
 have no:∀ {v:Int},(!(f157 v 0 15)) = false→0≤v ∧ v≤15:=fun {v} q=>(oD _ _ _).mp (by simpa using q)
 have ze:∀ {v:Int},(v != 0) = false→0≤v ∧ v≤15:=fun {v} q=>by simp at q; omega
 simp only [afP]
 generalize (bP .i64 (dz .i64 y.1.1 0) 1 == 1) = b0
 generalize (bP .i64 (dz .i64 y.1.1 1) 1 == 1) = b1
 generalize (bP .i64 (dz .i64 y.1.1 2) 1 == 1) = b2
 cases b0 <;> cases b1 <;> cases b2 <;> simp only [Bool.not_true,Bool.not_false,cond_true,cond_false]
 all_goals repeat' (refine Ok.bif (fun _=>?_) (fun _=>?_))
 all_goals refine Ok.ret fun q=>?_
 all_goals first | (cases q; done) | exact ⟨h0,by first | exact no (by assumption) | exact ze (by assumption),by first | exact no (by assumption) | exact ze (by assumption),by first | exact no (by assumption) | exact ze (by assumption)⟩
theorem Lj (w:Int):Ok (Jd w) fun a=>(0≤a.1.1.1 ∧ a.1.1.1≤32) ∧ (0≤a.1.1.2.1 ∧ a.1.1.2.1≤15) ∧ (0≤a.1.1.2.2.1 ∧ a.1.1.2.2.1≤15) ∧ (0≤a.1.1.2.2.2.1 ∧ a.1.1.2.2.2.1≤15):=by
 unfold Jd Jc
 refine Ok.bif (fun _=>?_) fun _=>?_
 all_goals
  refine Ok.bind (instrI _) fun b hb=>Ok.bif (fun _=>Ok.ret (by decide)) fun q=>Ok.ret ?_
  exact hb (by simpa using q)
abbrev Sp:Type:=Gu×(Int×(Int×(Int×(Bool×(Bool×Unit)))))
abbrev In5:Type:=Int×(Int×(Int×(Int×(Int×Unit))))
def Ll (ws:L Wi) (s:Sp) (z:Sp):Prop:=wm ws z.1.1 z.1.2.2.1 ∧ W1 z.1.2.1 ∧ (z.2.1 = s.2.1 ∧ z.2.2.1 = s.2.2.1) ∧ (-1≤z.2.2.2.1 ∧ z.2.2.2.1≤65535) ∧ z.2.2.2.2.2.1 = s.2.2.2.2.2.1
theorem aju {ws:L Wi} {s:Sp} {i:In5} {x:Int} (hw:WG ws) (hg:wm ws s.1.1 s.1.2.2.1) (hp:W1 s.1.2.1) (hA:0≤i.2.1 ∧ i.2.1≤15):Ok (Kr s ws i x) fun z=>(0≤z.1.1 ∧ z.1.1≤9) ∧ ((z.1.1 == 0) = true→Ll ws s z.2.1):=by
 have h16:=hg.1
 have ra:(decide (0≤i.2.1)&&decide (i.2.1 < (s.1.1.len:Int))) = true:=by rw [h16]; simp; omega
 have st:∀ {n v:Int} {b:Bool},(n = 1 ∨ n = 4)→Ok ((Dp s.1 ws x n v).bind fun y=>some ((y.1.1,()),((y.2.1,(s.2.1,(s.2.2.1,(wI x,(b,s.2.2.2.2.2))))),()))) fun z=>(0≤z.1.1 ∧ z.1.1≤9) ∧ ((z.1.1 == 0) = true→Ll ws s z.2.1):=fun {n v b} hn =>
  Ok.bind (Yr hw hg hn) fun y hy=>Ok.ret ⟨hy.1,fun q=>⟨(hy.2.1 q).1,by show W1 y.2.1.2.1; rw [hy.2.2]; exact hp,⟨rfl,rfl⟩,by have:=(hy.2.1 q).2; show -1≤wI x ∧ wI x≤65535; omega,rfl⟩⟩
 have ld:∀ {n k:Int} {b:Bool},(n = 1 ∨ n = 4)→Ok ((Ja s.1 ws x n k).bind fun y=>(iV s.1 i.2.1 y.1.1).bind fun u=>some ((y.1.2.1,()),((u.2.1,(s.2.1,(s.2.2.1,(wI x,(b,s.2.2.2.2.2))))),()))) fun z=>(0≤z.1.1 ∧ z.1.1≤9) ∧ ((z.1.1 == 0) = true→Ll ws s z.2.1):=fun {n k b} hn =>
  Ok.bind (Ri hw hg hn) fun y hy=>Ok.bind (Jy hg hA hy.1) fun u hu=>Ok.ret ⟨hy.2.1,fun q=>⟨hu.1,by show W1 u.2.1.2.1; rw [hu.2]; exact hp,⟨rfl,rfl⟩,by have:=hy.2.2 q; show -1≤wI x ∧ wI x≤65535; omega,rfl⟩⟩
 unfold Kr yZ
 refine Ok.bif (fun _=>?_) fun _=>Ok.bif (fun _=>?_) fun _=>?_
 all_goals first
  | exact Ok.bif (fun _=>Ok.grd ra (st (.inl rfl))) fun _=>Ok.bif (fun _=>Ok.grd ra (st (.inl rfl))) fun _=>ld (.inl rfl)
  | exact Ok.bif (fun _=>Ok.grd ra (st (.inr rfl))) fun _=>Ok.bif (fun _=>Ok.grd ra (st (.inr rfl))) fun _=>ld (.inr rfl)
theorem ztm {n:Int} (h:n = -1):-1≤n ∧ n≤65535:=by omega
set_option maxHeartbeats 1000000 in
theorem doI {ws:L Wi} {s:Sp} {i:In5} {c:Int} (hw:WG ws) (hg:wm ws s.1.1 s.1.2.2.1) (hA:0≤i.2.1 ∧ i.2.1≤15) (hB:0≤i.2.2.1 ∧ i.2.2.1≤15) (hC:0≤i.2.2.2.1 ∧ i.2.2.2.1≤15) (ht:s.2.2.2.1 = -1):Ok (Ku s ws i c) fun z=>(0≤z.1.1 ∧ z.1.1≤9) ∧ ((z.1.1 == 0) = true→Ll ws s z.2.1):=by
 have h16:=hg.1
 have hr:=hg.2.2.2.2
 have ra:(decide (0≤i.2.1)&&decide (i.2.1 < (s.1.1.len:Int))) = true:=by rw [h16]; simp; omega
 have rb:(decide (0≤i.2.2.1)&&decide (i.2.2.1 < (s.1.1.len:Int))) = true:=by rw [h16]; simp; omega
 have rc:(decide (0≤i.2.2.2.1)&&decide (i.2.2.2.1 < (s.1.1.len:Int))) = true:=by rw [h16]; simp; omega
 have wb:=hr i.2.2.1.toNat (by rw [h16]; omega)
 have wc:=hr i.2.2.2.1.toNat (by rw [h16]; omega)
 unfold Ku za
 refine Ok.grd rb ?_
 repeat' (first
  | (refine Ok.bind (ajt wb wc _) ?_; rintro _ ⟨wa,fa⟩)
  | (refine Ok.bind (Jy (g:=(s.1.1,(IntKind.wrap .u32 (s.1.2.1 + 4),s.1.2.2))) hg hA (by first | exact u32_in _ | exact Ju _ _ | assumption)) ?_; rintro _ ⟨gu,pu⟩)
  | (refine Ok.bind (aju (s:=((s.1.1,(IntKind.wrap .u32 (s.1.2.1 + 4),s.1.2.2)),s.2)) hw hg (u32_in _) hA) ?_; rintro _ ⟨fm,dm⟩)
  | refine Ok.grd ra ?_
  | refine Ok.grd rc ?_
  | refine Ok.bif (fun _=>?_) (fun _=>?_))
 all_goals first
  | exact Ok.ret ⟨fm,dm⟩
  | exact Ok.ret ⟨fa,fun _=>⟨gu,by show W1 _; rw [pu]; exact u32_in _,⟨rfl,rfl⟩,ztm ht,rfl⟩⟩
  | exact Ok.ret ⟨z9,fun _=>⟨gu,by first | exact u32_in _ | (show W1 _; rw [pu]; exact u32_in _),⟨rfl,rfl⟩,ztm ht,rfl⟩⟩
  | exact Ok.ret ⟨z9,fun _=>⟨hg,u32_in _,⟨rfl,rfl⟩,ztm ht,rfl⟩⟩
theorem afQ {ws:L Wi} {g:Gu} (hw:WG ws) (hg:wm ws g.1 g.2.2.1) (hp:W1 g.2.1) (c:Int):Ok (Kv ws g c) fun z=>wm ws z.1.1.1.1 z.1.1.1.2.2.1 ∧ W1 z.1.1.1.2.1 ∧ (0≤z.1.1.2.1 ∧ z.1.1.2.1≤9) ∧ (-1≤z.1.1.2.2.1 ∧ z.1.1.2.2.1≤32) ∧ (-1≤z.1.1.2.2.2.1 ∧ z.1.1.2.2.2.1≤65535):=by
 unfold Kv
 refine Ok.bind (Rj hw hg) fun a ha=>Ok.bind (Ri hw ha.1 (.inr rfl)) fun y hy=>?_
 have pa:W1 a.1.1.2.1:=by rw [ha.2]; exact hp
 refine Ok.bif (fun _=>Ok.ret ⟨ha.1,pa,hy.2.1,zm,zt⟩) fun _=>Ok.bind (Lj _) fun d hd=>?_
 obtain ⟨d1,d2,d3,d4⟩:=hd
 have hop:-1≤d.1.1.1 ∧ d.1.1.1≤32:=by omega
 refine Ok.bif (fun _=>Ok.ret ⟨ha.1,pa,z4,zm,zt⟩) fun _=>Ok.bif (fun _=>Ok.ret ⟨ha.1,pa,z9,hop,zt⟩) fun _=>?_
 refine Ok.bind (doI (s:=(a.1.1,((0:Int),(d.1.1.1,((-1:Int),(false,(false,()))))))) hw ha.1 d2 d3 d4 rfl) fun z hz=>Ok.bif (fun _=>Ok.bind (Rj hw hg) fun b hb=>Ok.ret ⟨hb.1,by show W1 b.1.1.2.1; rw [hb.2]; exact hp,hz.1,hop,zt⟩) fun q=>?_
 obtain ⟨k1,k2,⟨k3,k4⟩,k5,k6⟩:=hz.2 (by simpa using q)
 exact Ok.ret ⟨k1,k2,by rw [k3]; exact z9,by rw [k4]; exact hop,k5⟩
theorem ajv {x:L Int} (h:x.len≤1000) (v:Int):Ok (I9 x v) fun a=>a.1.1 = false→∀ i,i < x.len→x.get i ≠ v:=by
 have key:Ok (aL mK ((x,(v,((x.len:Int),((0:Int),())))),())) fun z=>(∃ i:Nat,z = .inl (((i:Int),()),())) ∨ (z = .inr (.inl ((),())) ∧ ∀ i,i < x.len→x.get i ≠ v):=by
  refine dB x.len (fun i z=>z = ((x,(v,((x.len:Int),((i:Int),())))),()) ∧ ∀ j,j < i→x.get j ≠ v) ?_ ?_ _ ⟨rfl,fun j hj=>absurd hj (Nat.not_lt_zero j)⟩
  · rintro i _ hi ⟨rfl,ha⟩
    simp only [mK]
    rw [av hi (by omega),tN]
    refine Ok.grd (aM hi) (Ok.grd (aj hi) (Ok.bif (fun _=>Ok.ret (.inr ⟨_,rfl,.inl ⟨i,rfl⟩⟩)) fun q=>Ok.ret (.inl ⟨_,rfl,rfl,fun j hj=>?_⟩)))
    rcases Nat.lt_or_eq_of_le (Nat.le_of_lt_succ hj) with e | rfl
    · exact ha j e
    · exact fun e=>by rw [e] at q; simp at q
  · rintro _ ⟨rfl,ha⟩
    simp only [mK]
    exact Ok.no (aK x.len) (Ok.ret ⟨_,rfl,.inr ⟨rfl,ha⟩⟩)
 unfold I9 Sq
 refine Ok.bind (Q:=fun a=>(decide (a.1.1 ≥ (0:Int))) = false→∀ i,i < x.len→x.get i ≠ v) (Ok.bind key ?_) fun a ha=>Ok.ret ha
 rintro _ (⟨i,rfl⟩ | ⟨rfl,h⟩)
 · exact Ok.ret fun q=>by simp at q
 · exact Ok.ret fun _=>h
theorem ajw {n:Int} {x:Tl} {a:Int} (hn:1≤n ∧ n≤8) (h:U9 n x) (ha:0≤a ∧ a≤65535):Ok (Kw x a) fun z=>U9 n z.2.1:=by
 obtain ⟨h1,h2,h3,h4,h5⟩:=h
 have hp:QX x.2.1:=⟨h3,h4⟩
 have hl:x.2.1.len≤8:=by omega
 have ep:wI (Int.tdiv a 64) = a / 64:=by rw [Int.tdiv_eq_ediv_of_nonneg ha.1,aJ (by omega) (by omega)]
 unfold Kw
 rw [ep]
 refine Ok.bind (ajv (by omega) _) fun y hy=>Ok.bif (fun _=>Ok.ret ⟨h1,h2,h3,h4,h5⟩) fun q=>Ok.grd (yI (by omega)) ?_
 have hp1:=hp.add (a:=a / 64) (by omega) (hy q) (Ty.zero (.int .i64))
 have e1:(L.app x.2.1 (L.of (Ty.zero (.int .i64)) [a / 64])).len = x.2.1.len + 1:=rfl
 have w1:WL (L.app x.2.1 (L.of (Ty.zero (.int .i64)) [a / 64])):=wl (by show (x.2.1.nil&&false) = false; cases x.2.1.nil <;> rfl)
 generalize L.app x.2.1 (L.of (Ty.zero (.int .i64)) [a / 64]) = V at hp1 e1 w1 ⊢
 have hp2:=hp1.cut V.len (Nat.le_refl _)
 refine Ok.bif (fun k=>Ok.grd (by simp; omega) (Ok.ret ⟨h1,?_,hp2.1,hp2.2,fun q=>?_⟩)) fun k=>Ok.ret ⟨h1,?_,hp1.1,hp1.2,w1⟩
 · show ((((V.len:Int).toNat - 1:Nat)):Int)≤n
   omega
 · show (V.len:Int).toNat - 1 = 0
   have:=w1 q
   omega
 · have k:¬ ((V.len:Int) > x.1):=by simpa using k
   show (V.len:Int)≤n
   omega
theorem ajx {row:L Wy} (hl:row.len≤1000) (T:Int):Ok (I8 row T) fun a=>(a.1.1 = -1 ∧ ∀ i,i < row.len→(row.get i).1 ≠ T) ∨ ∃ k:Nat,a.1.1 = (k:Int) ∧ k < row.len ∧ (row.get k).1 = T:=by
 unfold I8 u7
 have key:Ok (aL fG ((row,((T,()),((row.len:Int),((0:Int),())))),())) fun z=>(∃ k:Nat,z = .inl (((k:Int),()),()) ∧ k < row.len ∧ (row.get k).1 = T) ∨ (z = .inr (.inl ((),())) ∧ ∀ i,i < row.len→(row.get i).1 ≠ T):=by
  refine dB row.len (fun k z=>z = ((row,((T,()),((row.len:Int),((k:Int),())))),()) ∧ ∀ j,j < k→(row.get j).1 ≠ T) ?_ ?_ _ ⟨rfl,fun j hj=>absurd hj (Nat.not_lt_zero j)⟩
  · rintro k _ hk ⟨rfl,ha⟩
    simp only [fG]
    rw [av hk (by omega),tN]
    refine Ok.grd (aM hk) (Ok.grd (aj hk) (Ok.bif (fun q=>Ok.ret (.inr ⟨_,rfl,.inl ⟨k,rfl,hk,eq_of_beq q⟩⟩)) fun q=>Ok.ret (.inl ⟨_,rfl,rfl,fun j hj=>?_⟩)))
    rcases Nat.lt_or_eq_of_le (Nat.le_of_lt_succ hj) with e | rfl
    · exact ha j e
    · have q:((row.get j).1 == T) = false:=q
      simpa using q
  · rintro _ ⟨rfl,ha⟩
    simp only [fG]
    exact Ok.no (aK row.len) (Ok.ret ⟨_,rfl,.inr ⟨rfl,ha⟩⟩)
 refine Ok.bind (Q:=fun a=>(a.1.1 = -1 ∧ ∀ i,i < row.len→(row.get i).1 ≠ T) ∨ ∃ k:Nat,a.1.1 = (k:Int) ∧ k < row.len ∧ (row.get k).1 = T) (Ok.bind key ?_) fun a ha=>Ok.ret ha
 rintro _ (⟨k,rfl,h⟩ | ⟨rfl,h⟩)
 · exact Ok.ret (.inr ⟨k,rfl,h⟩)
 · exact Ok.ret (.inl ⟨rfl,h⟩)
theorem jX.del {wy:Int} {row:L Wy} (h:jX wy row) {k:Nat} (hk:k < row.len):jX wy (sH row k) ∧ (sH row k).len < row.len ∧ ∀ j,j < (sH row k).len→((sH row k).get j).1 ≠ (row.get k).1:=by
 obtain ⟨h1,h2,h3⟩:=h
 have el:=Bw hk
 have eg:∀ j,j < (sH row k).len→∃ m,m < row.len ∧ (sH row k).get j = row.get m ∧ ((j < k ∧ m = j) ∨ (k≤j ∧ m = j + 1)):=fun j hj=>by
  by_cases q:j < k
  · exact ⟨j,by omega,KZ q,.inl ⟨q,rfl⟩⟩
  · exact ⟨j + 1,by omega,K3 (by omega),.inr ⟨by omega,rfl⟩⟩
 refine ⟨⟨by omega,fun j hj=>?_,fun i j hij hj=>?_⟩,by omega,fun j hj=>?_⟩
 · obtain ⟨m,m1,m2,_⟩:=eg j hj
   rw [m2]; exact h2 m m1
 · obtain ⟨m,m1,m2,m3⟩:=eg j hj
   obtain ⟨l,l1,l2,l3⟩:=eg i (by omega)
   rw [m2,l2]
   exact h3 l m (by omega) m1
 · obtain ⟨m,m1,m2,m3⟩:=eg j hj
   rw [m2]
   rcases m3 with ⟨a,b⟩ | ⟨a,b⟩
   · exact h3 m k (by omega) hk
   · exact fun e=>h3 k m (by omega) m1 e.symm
theorem jX.ins {wy:Int} {row:L Wy} (h:jX wy row) {v:L Wy} (hv:v.len = 1) (ht:0≤(v.get 0).1 ∧ (v.get 0).1≤65535) (hn:∀ j,j < row.len→(row.get j).1 ≠ (v.get 0).1):jX (wy + 1) (vN row v):=by
 obtain ⟨h1,h2,h3⟩:=h
 have el:=vO row v hv
 refine ⟨by omega,fun j hj=>?_,fun i j hij hj=>?_⟩
 · cases j with
   | zero=>rw [Jl hv]; exact ht
   | succ j=>rw [EO hv]; exact h2 j (by omega)
 · cases j with
   | zero=>omega
   | succ j =>
     rw [EO hv]
     cases i with
     | zero=>rw [Jl hv]; exact fun e=>hn j (by omega) e.symm
     | succ i=>rw [EO hv]; exact h3 i j (by omega) (by omega)
theorem afR {wy:Int} {row v:L Wy} (h:jX wy row) (hw:wy≤1000) (hv:v.len = 1) (ht:0≤(v.get 0).1 ∧ (v.get 0).1≤65535) (hn:∀ j,j < row.len→(row.get j).1 ≠ (v.get 0).1):Ok (WM row 0 v) fun a=>a = ((vN row v,()),()):=by
 have h1:=h.1
 unfold WM
 rw [if_pos ⟨rfl,hv,by have e:most = 4294967296:=(by decide); omega⟩]
 exact Ok.ret rfl
theorem Vb {row v:L Wy} (hv:v.nil = false):WL (vN row v):=wl (by show (v.nil&&_) = false; rw [hv]; rfl)
theorem Ji.set {c:Ca} (h:Ji c) (hw:∀ i,i < c.2.1.len→WL (c.2.1.get i)) {r:Nat} {row:L Wy} (hr:jX c.1.2.1 row) (hl:WL row):Ji (c.1,((L.set c.2.1 r row),())) ∧ ∀ i,i < (L.set c.2.1 r row).len→WL ((L.set c.2.1 r row).get i):=by
 refine ⟨⟨h.1,h.2.1,fun i hi=>?_⟩,fun i hi=>?_⟩
 · show jX c.1.2.1 ((L.set c.2.1 r row).get i)
   by_cases q:i = r
   · subst q; rw [dQ]; exact hr
   · rw [bR _ _ q]; exact h.2.2 i hi
 · by_cases q:i = r
   · subst q; rw [dQ]; exact hl
   · rw [bR _ _ q]; exact hw i hi
set_option maxHeartbeats 1000000 in
theorem Yt {c:Ca} {a:Int} {w:Bool} (h:Ji c) (hw:∀ i,i < c.2.1.len→WL (c.2.1.get i)) (ha:0≤a ∧ a≤65535):Ok (Ky c a w) fun z=>z.2.1.1 = c.1 ∧ Ji z.2.1 ∧ ∀ i,i < z.2.1.2.1.len→WL (z.2.1.2.1.get i):=by
 have h':=h
 obtain ⟨hs,hl,hr⟩:=h'
 obtain ⟨s1,s2,s3⟩:=xq hs
 obtain ⟨u1,u2,u3,u4,u5,u6⟩:=aaw ha s3.1 s1.1
 obtain ⟨R,hR,hRl⟩:∃ R:Nat,Int.tmod (a / c.1.2.2.1) c.1.1 = R ∧ R < c.2.1.len:=by
  rw [Int.tmod_eq_emod_of_nonneg u2]
  have m1:=Int.emod_nonneg (a / c.1.2.2.1) (b:=c.1.1) (by omega)
  have m2:=Int.emod_lt_of_pos (a / c.1.2.2.1) (b:=c.1.1) (by omega)
  exact ⟨_,(Int.toNat_of_nonneg m1).symm,by omega⟩
 have row:=hr R hRl
 have iR:=aj hRl
 have hsz:(!decide (c.1.1 = 0)) = true:=by simp; omega
 have hln:(!decide (c.1.2.2.1 = 0)) = true:=by simp; omega
 have fnd:Ok (SI c a) fun y=>y.1.1 = (R:Int) ∧ ((y.1.2.1 = -1 ∧ ∀ i,i < (c.2.1.get R).len→((c.2.1.get R).get i).1 ≠ a / c.1.2.2.1 / c.1.1) ∨ ∃ k:Nat,y.1.2.1 = (k:Int) ∧ k < (c.2.1.get R).len ∧ ((c.2.1.get R).get k).1 = a / c.1.2.2.1 / c.1.1):=by
  unfold SI
  rw [u1,u4,hR,tN]
  exact Ok.grd hln (Ok.grd hsz (Ok.grd iR (Ok.grd hsz (Ok.bind (ajx (by have:=row.1; omega) _) fun y hy=>Ok.ret ⟨rfl,hy⟩))))
 unfold Ky EC
 refine Ok.bind fnd ?_
 rintro ⟨⟨y1,y2,⟨⟩⟩,⟨⟩⟩ ⟨e1,e2⟩
 dsimp only at e1 e2 ⊢
 subst e1
 simp only [tN]
 refine Ok.grd iR ?_
 have rl:=row.1
 rcases e2 with ⟨rfl,hn⟩ | ⟨k,rfl,hk,ht⟩
 · refine Ok.no (by simp) (Ok.grd hln (Ok.grd hsz ?_))
   rw [u1,u4]
   have hv:∀ z:Wy,(L.of z [(a / c.1.2.2.1 / c.1.1,(w,()))]).len = 1 ∧ (L.of z [(a / c.1.2.2.1 / c.1.1,(w,()))]).get 0 = (a / c.1.2.2.1 / c.1.1,(w,())):=fun _=>⟨rfl,rfl⟩
   refine Ok.bind (afR row (by omega) (hv _).1 ⟨u5,u6⟩ hn) ?_
   rintro _ rfl
   have g:=row.ins (hv (Ty.zero (.pair (.int .i64) (.pair .bool .unit)))).1 ⟨u5,u6⟩ hn
   have el:=vO (c.2.1.get R) (L.of (Ty.zero (.pair (.int .i64) (.pair .bool .unit))) [(a / c.1.2.2.1 / c.1.1,(w,()))]) rfl
   have wl':=Vb (row:=c.2.1.get R) (v:=L.of (Ty.zero (.pair (.int .i64) (.pair .bool .unit))) [(a / c.1.2.2.1 / c.1.1,(w,()))]) rfl
   dsimp only
   generalize vN (c.2.1.get R) (L.of (Ty.zero (.pair (.int .i64) (.pair .bool .unit))) [(a / c.1.2.2.1 / c.1.1,(w,()))]) = N at g el wl' ⊢
   have ew:wI ((N.len:Int) - 1) = ((N.len - 1:Nat):Int):=by rw [aJ (by omega) (by omega)]; omega
   rw [ew,tN]
   refine Ok.bif (fun q=>Ok.grd (by simp; omega) (Ok.grd (by simp) (Ok.grd iR (Ok.grd (Nat.beq_refl R) (Ok.ret ⟨rfl,h.set hw ?_ (fun q=>?_)⟩))))) fun q=>Ok.grd iR (Ok.grd (Nat.beq_refl R) (Ok.ret ⟨rfl,h.set hw ⟨?_,g.2.1,g.2.2⟩ wl'⟩))
   · have q:((N.len - 1:Nat):Int) = c.1.2.1:=eq_of_beq q
     have eg:∀ j,(L.cut N (0:Int).toNat (N.len - 1)).get j = N.get j:=fun j=>congrArg N.get (Nat.zero_add j)
     have ec:(L.cut N (0:Int).toNat (N.len - 1)).len = N.len - 1:=rfl
     exact ⟨by rw [ec]; omega,fun j hj=>by rw [eg]; exact g.2.1 j (by omega),fun i j hij hj=>by rw [eg,eg]; exact g.2.2 i j hij (by omega)⟩
   · have:=wl' q
     omega
   · have q:¬ (((N.len - 1:Nat):Int) = c.1.2.1):=by simpa using q
     omega
 · have hw1:wI ((k:Int) + 1) = (k:Int) + 1:=aJ (by omega) (by omega)
   have key:∀ b:Bool,Ok ((Z0 (c.2.1.get R) (k:Int) (wI ((k:Int) + 1))).bind fun cO=>(WM cO.1.1 (0:Int) (L.of (Ty.zero (.pair (.int .i64) (.pair .bool .unit))) [(((c.2.1.get R).get k).1,(b,()))])).bind fun eZ=>bif (decide (0≤(R:Int))&&decide ((R:Int) < (c.2.1.len:Int))) then bif Nat.beq R R then some ((true,false,()),((c.1,((L.set c.2.1 R eZ.1.1),())),())) else none else none) fun z=>z.2.1.1 = c.1 ∧ Ji z.2.1 ∧ ∀ i,i < z.2.1.2.1.len→WL (z.2.1.2.1.get i):=fun b=>by
    obtain ⟨g1,g2,g3⟩:=row.del hk
    unfold Z0
    rw [if_pos ⟨by omega,by omega,hw1⟩,tN,oB]
    have tr:=row.2.1 k hk
    refine Ok.bind (afR g1 (by omega) rfl tr g3) ?_
    rintro _ rfl
    have g:=g1.ins (v:=L.of (Ty.zero (.pair (.int .i64) (.pair .bool .unit))) [(((c.2.1.get R).get k).1,(b,()))]) rfl tr g3
    have el:=vO (sH (c.2.1.get R) k) (L.of (Ty.zero (.pair (.int .i64) (.pair .bool .unit))) [(((c.2.1.get R).get k).1,(b,()))]) rfl
    exact Ok.grd iR (Ok.grd (Nat.beq_refl R) (Ok.ret ⟨rfl,h.set hw ⟨by rw [el]; omega,g.2.1,g.2.2⟩ (Vb rfl)⟩))
   simp only [tN]
   refine Ok.grd (by simp) (Ok.grd (aj hk) (Ok.bif (fun _=>key true) fun _=>key w))
theorem Yu {m:Int} {n:Nat} (hn:n≤8) (h:f157 m 0 (wI ((n:Int) - 1)) = true):∃ k:Nat,m = k ∧ k < n:=by
 have:=(oD _ _ _).mp h
 rw [aJ (by omega) (by omega)] at this
 exact ⟨m.toNat,by omega,by omega⟩
theorem Uj {t:Tb} {p:Nat} (g:TG t p) (m:Int):Ok (Ez t (p:Int) m) fun a=>a.1.1 = true→∃ k:Nat,m = k ∧ k < (tChans t).len ∧ ((tChans t).get k).2.1 = p:=by
 unfold Ez
 refine Ok.bif (fun q=>?_) fun _=>Ok.ret fun q=>by cases q
 obtain ⟨k,rfl,hk⟩:=Yu (n:=(tChans t).len) g.ch.1 q
 rw [tN]
 exact Ok.grd (aj hk) (Ok.ret fun q=>⟨k,rfl,hk,eq_of_beq q⟩)
theorem Yv {t:Tb} {p:Nat} (g:TG t p) (m:Int):Ok (Gd t (p:Int) m) fun a=>a.1.1 = true→∃ k:Nat,m = k ∧ k < (tChans t).len ∧ ((tChans t).get k).2.2.1 = p:=by
 unfold Gd
 refine Ok.bif (fun q=>?_) fun _=>Ok.ret fun q=>by cases q
 obtain ⟨k,rfl,hk⟩:=Yu (n:=(tChans t).len) g.ch.1 q
 rw [tN]
 exact Ok.grd (aj hk) (Ok.ret fun q=>⟨k,rfl,hk,eq_of_beq q⟩)
theorem Uk {t:Tb} {p:Nat} (g:TG t p) (m:Int):Ok (Gf t (p:Int) m) fun a=>a.1.1 = true→∃ k:Nat,m = k ∧ k < (tDevs t).len ∧ (tDevs t).get k = p:=by
 unfold Gf
 refine Ok.bif (fun q=>?_) fun _=>Ok.ret fun q=>by cases q
 obtain ⟨k,rfl,hk⟩:=Yu (n:=(tDevs t).len) g.dv q
 rw [tN]
 exact Ok.grd (aj hk) (Ok.ret fun q=>⟨k,rfl,hk,eq_of_beq q⟩)
theorem Vd {x:L Int} (h:WI x) {n:Nat} (hn:n≤x.len):WI (L.cut x 1 n):=⟨fun q=>by have:=h.1 q; show n - 1 = 0; omega,h.2.cut hn⟩
theorem afS {v:Vi} (h:VP v) (n c:Int):Ok (SK v n c) fun a=>W1 a.1.1:=by
 obtain ⟨h1,h2,h3,h4,h5⟩:=h
 unfold SK
 repeat' (refine Ok.bif (fun _=>?_) (fun _=>?_))
 all_goals refine Ok.ret ?_
 all_goals first | assumption | exact Rk _ | exact u32_in _ | exact z0
theorem afT {v:Vi} (h:VP v) (n:Int) {x:Int} (hx:W1 x):Ok (SL v n x) fun a=>VP a.1.1:=by
 obtain ⟨h1,h2,h3,h4,h5⟩:=h
 unfold SL
 repeat' (refine Ok.bif (fun _=>?_) (fun _=>?_))
 all_goals exact Ok.ret ⟨by assumption,by assumption,h3,by assumption,h5⟩
theorem Yw {v:Vi} (h:VP v):Ok (SN v) fun a=>VP a.1.1 ∧ W1 a.1.2.1:=by
 obtain ⟨h1,h2,h3,h4,h5⟩:=h
 unfold SN
 exact Ok.bif (fun _=>Ok.ret ⟨⟨h1,h2,h3,h4,h5⟩,z0⟩) fun _=>Ok.ret ⟨⟨h1,h2,h3,h4,h5⟩,h2⟩
set_option maxHeartbeats 2000000 in
theorem gN.Yx {t:Tb} {p:Nat} {x:L Oe} (g:TG t p) (h:gN t p x) {i:Nat} (hi:i < (tChans t).len):gN t p (L.upd x i fun e=>(e.1,((bG (.int .u32)),e.2.2))):=by
 have eg:∀ j,(L.upd x i fun e=>(e.1,((bG (.int .u32)),e.2.2))).get j = if j = i then ((x.get i).1,((bG (.int .u32)),(x.get i).2.2)) else x.get j:=fun j=>by
  by_cases q:j = i
  · subst q; rw [jU,if_pos rfl]
  · rw [jV _ _ q,if_neg q]
 refine ⟨h.1,fun j hj=>?_,h.2.2⟩
 rw [eg]
 have k:=h.2.1 j hj
 by_cases q:j = i
 · subst q
   rw [if_pos rfl]
   refine ⟨fun w=>?_,fun w=>⟨(k.2 w).1,rfl⟩⟩
   obtain ⟨a1,a2,a3,_⟩:=k.1 w
   exact ⟨a1,fun z=>⟨(a2 z).1,Nat.zero_le _⟩,fun z=>⟨(a3 z).1,by have:=a3 z; show _ + ((0:Nat):Int)≤_; omega⟩,M7 rfl⟩
 · rw [if_neg q]; exact k
theorem Rl {po:Int×(Int×Unit)} {h:He} {n:Int} (hp:f261 po = true) (hh:Rv h) (hn:0≤n ∧ n≤9):Ok (SQ po h n) fun a=>Rv a.1.1:=by
 have hh':=hh
 obtain ⟨h1,h2,h3⟩:=hh'
 unfold SQ
 refine Ok.bif (fun _=>Ok.ret hh) fun _=>Ok.bif (fun _=>Ok.ret hh) fun _=>Ok.bif (fun _=>Ok.ret hh) fun _=>Ok.bif (fun _=>Ok.ret hh) fun _=>?_
 have b1:0≤(if (1000000000:Int) < wI (h.1 + 1) then (1000000000:Int) else wI (h.1 + 1)) ∧ (if (1000000000:Int) < wI (h.1 + 1) then (1000000000:Int) else wI (h.1 + 1))≤1000000000:=by
  rw [aJ (by omega) (by omega)]
  split <;> omega
 have b2:(po.1 == 1) = true→decide (h.2.1 < po.2.1) = true→0≤wI (h.2.1 + 1) ∧ wI (h.2.1 + 1)≤1000000000:=fun q k=>by
  have k:h.2.1 < po.2.1:=by simpa using k
  have:f42 po.2.1 0 100 = true:=by
   unfold f261 at hp
   rw [q] at hp; exact hp
  have:=(aZ _ _ _).mp this
  rw [aJ (by omega) (by omega)]; omega
 refine Ok.bind (Q:=fun a=>Rv a.1.1) ?_ fun a ha=>Ok.ret ha
 unfold WQ
 exact Ok.bif (fun _=>Ok.ret ⟨b1,h2,hn⟩) fun _=>Ok.bif (fun q=>Ok.bif (fun k=>Ok.ret ⟨b1,b2 q k,hn⟩) fun _=>Ok.ret ⟨b1,h2,hn⟩) fun _=>Ok.ret ⟨b1,h2,hn⟩
theorem Yy {t:Tb} {p:Nat} {x:Im} (g:TG t p) (h:pU ((tParts t).get p).2.2.2.1 x):Ok (KG t (p:Int) x) fun a=>wm ((tParts t).get p).2.2.2.1 a.1.1.1 a.1.1.2.2.1 ∧ W1 a.1.1.2.1:=by
 have hb:=h.bnd g.w
 have nn:∀ i,i < x.len→WL (x.get i):=fun i hi=>wl (h.2 i (by rw [← h.1]; exact hi)).2
 obtain ⟨y,y1,y2,y3⟩:=DK x hb.1 hb.2 nn
 have key:∀ (e:Int),KF (bG (.pair (.int .i64) (.pair (.int .i64) (.pair (.int .i64) .unit)))) e = some (((L.rep 16 (Ty.zero (.int .u32)),(IntKind.wrap .u32 e,(bG (.sl (.int .u8)),()))),()),()):=by
  intro e
  unfold KF
  rw [cu]
  simp only [Bl]
  rw [au (by simp [bG])]
  rfl
 unfold KG
 refine Ok.grd (aj g.pl) ?_
 rw [key]
 simp only [oB]
 rw [y1]
 exact Ok.ret ⟨⟨rfl,rfl,h.same g.w y2 y3,rfl,fun _ _=>z0⟩,u32_in _⟩
theorem ajy {v:Vi} (h:VP v) (c:Int):Ok (Sy v c) fun _=>True:=by
 obtain ⟨_,_,_,_,h5⟩:=h
 have e:∀ {α:Type} {f:_→Option α},(∀ a,Ok (f a) fun _=>True)→Ok ((YJ v.2.2.2.2.2.2.2.1).bind f) fun _=>True:=fun {α f} hf=>by
  unfold YJ
  rw [if_pos ⟨h5.1,by have:=h5.2; omega⟩,oB]
  exact hf _
 unfold Sy
 repeat' (first | exact Ok.ret trivial | refine e fun _=>?_ | refine Ok.bif (fun _=>?_) (fun _=>?_))
theorem Yz {v:Vi} (h:VP v) (c:Int) {pc:Int} (hp:W1 pc):Ok (Sz v c pc) fun a=>VP a.1.1 ∧ W1 a.1.2.1:=by
 obtain ⟨h1,h2,h3,h4,h5⟩:=h
 unfold Sz
 refine Ok.bif (fun _=>Ok.ret ⟨⟨h1,h2,h3,h4,h5⟩,hp⟩) fun q=>Ok.bif (fun _=>Ok.ret ⟨⟨h1,hp,u32_in _,h4,h5⟩,h1⟩) fun k=>Ok.grd ?_ (Ok.ret ⟨⟨h1,hp,u32_in _,h4,u32_in _⟩,h1⟩)
 have q:=(oD c 1 33).mp (by simpa using q)
 have k:c ≠ 1:=by simpa using k
 rw [aJ (by omega) (by omega)]
 simp; omega
theorem foldI {x:L Int} (h:x.len≤1000):Ok (g23 x) fun _=>True:=by
 have rot:∀ v,Ok (SA v 5) fun _=>True:=fun v=>by
  unfold SA
  exact Ok.grd (by decide) (Ok.grd (by decide) (Ok.ret trivial))
 have key:Ok (aL Bc (((1:Int),(x,((x.len:Int),((0:Int),())))),())) fun _=>True:=by
  refine dB x.len (fun i z=>∃ v:Int,z = ((v,(x,((x.len:Int),((i:Int),())))),())) ?_ ?_ _ ⟨_,rfl⟩
  · rintro i _ hi ⟨v,rfl⟩
    simp only [Bc]
    rw [av hi (by omega)]
    exact Ok.grd (aM hi) (Ok.grd (aj hi) (Ok.bind (rot _) fun _ _=>Ok.ret (.inl ⟨_,rfl,_,rfl⟩)))
  · rintro _ ⟨v,rfl⟩
    simp only [Bc]
    rw [au (aK x.len)]
    exact Ok.ret ⟨_,rfl,trivial⟩
 unfold g23
 refine Ok.bind key ?_
 rintro (y | e) _
 · exact Ok.ret trivial
 · exact nomatch e
theorem yg {α:Type} (x:L α):fE x x:=⟨rfl,fun _ _=>rfl⟩
def Fe (s z:St):Prop:=bn z = bn s ∧ bW z = bW s ∧ bq z = bq s
def Own (t:Tb) (p:Nat) (s z:St):Prop:=∃ w k:Nat,
 (∀ i,i < (tChans t).len→((bn z).get i).1 = ((bn s).get i).1 ∧ (fE ((bn z).get i).2.1 ((bn s).get i).2.1 ∨ ((bn z).get i).2.1.len = 0 ∨ (w = 1 ∧ i = k ∧ ((tChans t).get i).2.1 = p ∧ ((bn z).get i).2.1.len≤((bn s).get i).2.1.len + 1))) ∧
 (∀ i,i < (tChans t).len→fE ((bW z).get i).1 ((bW s).get i).1 ∨ (w = 2 ∧ i = k ∧ ((tChans t).get i).2.2.1 = p ∧ ((tChans t).get i).1 = 1 ∧ 0 < ((bW s).get i).1.len ∧ fE ((bW z).get i).1 (L.cut ((bW s).get i).1 1 ((bW s).get i).1.len))) ∧
 ∀ i,i < (tDevs t).len→fE ((bq z).get i).1 ((bq s).get i).1 ∧ (fE ((bq z).get i).2.1 ((bq s).get i).2.1 ∨ (w = 3 ∧ i = k ∧ (tDevs t).get i = p ∧ 0 < ((bq s).get i).2.1.len ∧ fE ((bq z).get i).2.1 (L.cut ((bq s).get i).2.1 1 ((bq s).get i).2.1.len)))
theorem fE.afU {x y:L Int} (h:fE x y):fE (L.cut x 1 x.len) (L.cut y 1 y.len):=⟨by show x.len - 1 = y.len - 1; rw [h.1],fun i hi=>h.2 (1 + i) (by have hi:i < x.len - 1:=hi; omega)⟩
theorem Own.sm {t:Tb} {p:Nat} {b s z:St} (h:Li b s) (hb:PG t p b) (k:Own t p b z):Own t p s z:=by
 obtain ⟨w,k,k1,k2,k3⟩:=k
 refine ⟨w,k,fun i hi=>?_,fun i hi=>?_,fun i hi=>?_⟩
 · have e:=h.ou.2 i (by rw [hb.ou.1]; exact hi)
   obtain ⟨a,d⟩:=k1 i hi
   exact ⟨a.trans e.1,d.imp (fun q=>q.trans e.2) (Or.imp id fun ⟨q1,q2,q3,q4⟩=>⟨q1,q2,q3,by rw [← e.2.1]; exact q4⟩)⟩
 · have e:fE _ _:=h.is.2 i (by rw [hb.is.1]; exact hi)
   exact (k2 i hi).imp (fun q=>q.trans e) fun ⟨q1,q2,q3,q4,q5,q6⟩=>⟨q1,q2,q3,q4,by rw [← e.1]; exact q5,q6.trans e.afU⟩
 · have e:=h.de.2 i (by rw [hb.de.1]; exact hi)
   obtain ⟨a,d⟩:=k3 i hi
   exact ⟨a.trans e.1,d.imp (fun q=>q.trans e.2) fun ⟨q1,q2,q3,q4,q5⟩=>⟨q1,q2,q3,by rw [← e.2.1]; exact q4,q5.trans e.2.afU⟩⟩
theorem Own.of {t:Tb} {p:Nat} {s z u:St} (h:Fe s z) (k:Own t p z u):Own t p s u:=by
 obtain ⟨e1,e2,e3⟩:=h
 unfold Own at k ⊢
 rw [e1,e2,e3] at k
 exact k
theorem Fe.own {t:Tb} {p:Nat} {s z:St} (h:Fe s z):Own t p s z:=by
 obtain ⟨e1,e2,e3⟩:=h
 unfold Own
 rw [e1,e2,e3]
 exact ⟨0,0,fun i _=>⟨rfl,.inl (yg _)⟩,fun i _=>.inl (yg _),fun i _=>⟨yg _,.inl (yg _)⟩⟩
theorem Fe.trans {s z u:St} (h:Fe s z) (k:Fe z u):Fe s u:=⟨k.1.trans h.1,k.2.1.trans h.2.1,k.2.2.trans h.2.2⟩
theorem Lm {t:Tb} {p:Nat} {s:St} {a:Int} {w:Bool} (g:TG t p) (h:PG t p s) (ha:0≤a ∧ a≤65535):Ok (Bj s t a w) fun z=>PG t p z.2.1 ∧ Fe s z.2.1:=by
 unfold Bj
 refine Ok.bind (ajw g.tl h.tl ha) fun y hy=>Ok.bind (Yt h.ca.2.1 h.ca.2.2 ha) fun u hu=>Ok.ret ⟨⟨h.gu,h.he,⟨hu.1.trans h.ca.1,hu.2⟩,hy,h.bo,h.ou,h.is,h.de,h.vp,h.pw⟩,rfl,rfl,rfl⟩
theorem afV {r:Ch} {o:Oe} {v:Int} (hv:W1 v) (h:Ci r o):Ok (Kz o r v) fun a=>Ci r a.2.1 ∧ a.2.1.1 = o.1 ∧ a.2.1.2.1.len≤o.2.1.len + 1:=by
 obtain ⟨h1,h2,h3,h4⟩:=h
 have hc:=eU h1
 unfold Kz
 refine Ok.bif (fun q=>Ok.ret ⟨⟨h1,fun z=>⟨(h2 z).1,Nat.le_refl 1⟩,fun k=>absurd (by simpa using q) k,wl rfl,WN.one hv⟩,rfl,Nat.le_add_left 1 _⟩) fun q=>Ok.bif (fun _=>Ok.ret ⟨⟨h1,h2,h3,h4⟩,rfl,Nat.le_succ _⟩) fun hr=>?_
 have q:r.1 ≠ 0:=by simpa using q
 obtain ⟨a1,a2⟩:=h3 q
 refine Ok.grd (yI (by omega)) (Ok.ret ⟨⟨h1,fun k=>absurd k q,fun _=>⟨a1,?_⟩,DJ h4.1,h4.2.app (WN.one hv)⟩,rfl,Nat.le_refl _⟩)
 have e:Mv r o = wI (wI (r.2.2.2.1 - o.1) - (o.2.1.len:Int)):=by
  have q':(r.1 == 0) = false:=by simpa using q
  unfold Mv
  rw [q']; rfl
 rw [e,aJ (n:=r.2.2.2.1 - o.1) (by omega) (by omega),aJ (by omega) (by omega)] at hr
 have hr:¬ (r.2.2.2.1 - o.1 - (o.2.1.len:Int) = 0):=by simpa using hr
 show o.1 + ((o.2.1.len + 1:Nat):Int)≤_
 omega
theorem afW {r:Ch} {o:Ie} (h:QU r o):Ok (KA o r) fun a=>(QU r a.2.1 ∧ W1 a.1.1) ∧ (a.2.1 = o ∨ (r.1 = 1 ∧ 0 < o.1.len ∧ a.2.1.1 = L.cut o.1 1 o.1.len)):=by
 obtain ⟨h1,h2,h3,h4⟩:=h
 have hc:=eU h1
 unfold KA
 refine Ok.bif (fun _=>Ok.ret ⟨⟨⟨h1,h2,h3,h4⟩,z0⟩,.inl rfl⟩) fun hn=>?_
 have hn:¬ ((o.1.len:Int) = 0):=by simpa using hn
 refine Ok.grd (by simp; omega) (Ok.bif (fun q=>Ok.grd (by simp; omega) (Ok.ret ⟨⟨⟨h1,fun k=>absurd k (by have e:r.1 = 1:=(by simpa using q); omega),fun k=>?_,Vd h4 (by omega)⟩,h4.2 0 (by omega)⟩,.inr ⟨by simpa using q,by omega,rfl⟩⟩)) fun _=>Ok.ret ⟨⟨⟨h1,h2,h3,h4⟩,h4.2 0 (by omega)⟩,.inl rfl⟩)
 have:=h3 k
 show ((((o.1.len:Int).toNat - 1:Nat)):Int)≤_
 omega
theorem afX {d:De} (h:E5 d):Ok (KC d) fun a=>(E5 a.2.1 ∧ W1 a.1.1) ∧ (a.2.1 = d ∨ (a.2.1.1 = d.1 ∧ 0 < d.2.1.len ∧ a.2.1.2.1 = L.cut d.2.1 1 d.2.1.len)):=by
 have h':=h
 obtain ⟨h1,h2,h3,h4⟩:=h'
 unfold KC
 refine Ok.bif (fun _=>Ok.ret ⟨⟨h,z0⟩,.inl rfl⟩) fun hn=>?_
 have hn:¬ ((d.2.1.len:Int) = 0):=by simpa using hn
 refine Ok.grd (by simp; omega) (Ok.grd (by simp; omega) (Ok.ret ⟨⟨⟨h1,?_,h3,Vd h4 (by omega)⟩,h4.2 0 (by omega)⟩,.inr ⟨rfl,by omega,rfl⟩⟩))
 show (d.2.1.len:Int).toNat - 1≤8
 omega
def afY (t:Tb) (p:Nat) (s:St) (f:Int) (z:St):Prop:=(0≤f ∧ f≤9) ∧ PG t p z ∧ (Fe s z ∨ (f = 0 ∧ Own t p s z))
theorem smE {s z:St} (h:s.2.2.2.2.2.2.2 = z.2.2.2.2.2.2.2):Fe s z:=by
 unfold Fe bn bW bq
 rw [h]; exact ⟨rfl,rfl,rfl⟩
set_option maxHeartbeats 2000000 in
theorem afZ {t:Tb} {p:Nat} {s:St} {i:In5} {c:Int} (g:TG t p) (h:PG t p s) (hA:0≤i.2.1 ∧ i.2.1≤15) (hB:0≤i.2.2.1 ∧ i.2.2.1≤15):Ok (Dr s t (p:Int) c i) fun z=>afY t p s z.1.1 z.2.1:=by
 have h16:=h.gu.1
 have hr:=h.gu.2.2.2.2
 have ra:(decide (0≤i.2.1)&&decide (i.2.1 < (s.1.1.len:Int))) = true:=by rw [h16]; simp; omega
 have rb:(decide (0≤i.2.2.1)&&decide (i.2.2.1 < (s.1.1.len:Int))) = true:=by rw [h16]; simp; omega
 have wa:=hr i.2.1.toNat (by rw [h16]; omega)
 have wb:=hr i.2.2.1.toNat (by rw [h16]; omega)
 have one:∀ {v:Int},W1 v→Ok (iV s.1 i.2.1 v) fun z=>wm ((tParts t).get p).2.2.2.1 z.2.1.1 z.2.1.2.2.1 ∧ z.2.1.2.1 = s.1.2.1:=fun {v} hv=>Jy (g:=s.1) h.gu hA hv
 have no:∀ {b:Bool} {r':L Int} {m':Im×Unit} {v':Vi} {c' f:Int},(0≤f ∧ f≤9)→wm ((tParts t).get p).2.2.2.1 r' m'.1→VP v'→W1 c'→afY t p s f ((r',(c',m')),(v',(s.2.2.1,(s.2.2.2.1,(s.2.2.2.2.1,(s.2.2.2.2.2.1,(b,s.2.2.2.2.2.2.2))))))):=fun hf k1 k2 k3=>⟨hf,⟨k1,h.he,h.ca,h.tl,h.bo,h.ou,h.is,h.de,k2,k3⟩,.inl (smE rfl)⟩
 unfold Dr zf
 refine Ok.bif (fun _=>Ok.bind (Uj g _) fun y hy=>Ok.bif (fun q=>?_) fun _=>Ok.bind (one z33) fun z hz=>Ok.ret (no z9 hz.1 h.vp (u32_in _))) fun _ =>
  Ok.bif (fun _=>Ok.bind (Yv g _) fun y hy=>Ok.bif (fun q=>?_) fun _=>Ok.bind (one z33) fun z hz=>Ok.bind (Jy hz.1 hB z0) fun u hu=>Ok.ret (no z9 hu.1 h.vp (u32_in _))) fun _ =>
  Ok.bif (fun _=>Ok.bind (Uk g _) fun y hy=>Ok.bif (fun q=>?_) fun _=>Ok.bind (one z33) fun z hz=>Ok.bind (Jy hz.1 hB z0) fun u hu=>Ok.ret (no z9 hu.1 h.vp (u32_in _))) fun _ =>
  Ok.bif (fun _=>Ok.bind (afS h.vp _ _) fun y hy=>Ok.bif (fun _=>Ok.ret (no z7 h.gu h.vp h.pw)) fun _=>Ok.bind (one hy) fun z hz=>Ok.ret (no z9 hz.1 h.vp (u32_in _))) fun _ =>
  Ok.bif (fun _=>Ok.grd ra (Ok.bind (afT h.vp _ wa) fun y hy=>Ok.bif (fun _=>Ok.ret (no z7 h.gu h.vp h.pw)) fun _=>Ok.ret (no z9 h.gu hy (u32_in _)))) fun _ =>
  Ok.bif (fun _=>Ok.bind (Yw h.vp) fun y hy=>Ok.bif (fun _=>Ok.ret (no z8 h.gu h.vp h.pw)) fun _=>Ok.ret (no z9 h.gu hy.1 hy.2)) fun _ =>
  Ok.bif (fun _=>Ok.ret (no z9 h.gu h.vp (u32_in _))) fun _=>Ok.ret (no z6 h.gu h.vp h.pw)
 · obtain ⟨k,e,hk,hp⟩:=hy q
   rw [e,tN]
   refine Ok.grd (aj (by rw [← h.ou.1] at hk; exact hk)) (Ok.grd (aj hk) (Ok.grd rb (Ok.bind (afV (o:=(bn s).get k) wb ((h.ou.2.1 k hk).1 hp)) fun u hu=>Ok.bind (one (u32_in _)) fun z hz=>Ok.ret ⟨z9,⟨hz.1,h.he,h.ca,h.tl,h.bo,h.ou.set hk hp hu.1,h.is,h.de,h.vp,u32_in _⟩,.inr ⟨rfl,1,k,fun i hi=>?_,fun i _=>.inl (yg _),fun i _=>⟨yg _,.inl (yg _)⟩⟩⟩)))
   show ((L.set (bn s) k u.2.1).get i).1 = _ ∧ (fE ((L.set (bn s) k u.2.1).get i).2.1 _ ∨ ((L.set (bn s) k u.2.1).get i).2.1.len = 0 ∨ (1 = 1 ∧ i = k ∧ _ ∧ ((L.set (bn s) k u.2.1).get i).2.1.len≤_))
   by_cases q:i = k
   · subst q; rw [dQ]; exact ⟨hu.2.1,.inr (.inr ⟨rfl,rfl,hp,hu.2.2⟩)⟩
   · rw [bR _ _ q]; exact ⟨rfl,.inl (yg _)⟩
 · obtain ⟨k,e,hk,hp⟩:=hy q
   rw [e,tN]
   refine Ok.grd (aj (by rw [← h.is.1] at hk; exact hk)) (Ok.grd (aj hk) (Ok.bind (afW (o:=(bW s).get k) ((h.is.2.1 k hk).1 hp)) fun u hu=>Ok.bind (one (u32_in _)) fun z hz=>Ok.bind (Jy hz.1 hB hu.1.2) fun v hv=>Ok.ret ⟨z9,⟨hv.1,h.he,h.ca,h.tl,h.bo,h.ou,h.is.set hk hp hu.1.1,h.de,h.vp,u32_in _⟩,.inr ⟨rfl,2,k,fun i _=>⟨rfl,.inl (yg _)⟩,fun i hi=>?_,fun i _=>⟨yg _,.inl (yg _)⟩⟩⟩))
   show fE ((L.set (bW s) k u.2.1).get i).1 _ ∨ (2 = 2 ∧ i = k ∧ _ ∧ _ ∧ _ ∧ fE ((L.set (bW s) k u.2.1).get i).1 _)
   by_cases q:i = k
   · subst q; rw [dQ]
     exact hu.2.imp (fun e=>by rw [e]; exact yg _) fun ⟨a,b,d⟩=>⟨rfl,rfl,hp,a,b,by rw [d]; exact yg _⟩
   · rw [bR _ _ q]; exact .inl (yg _)
 · obtain ⟨k,e,hk,hp⟩:=hy q
   rw [e,tN]
   refine Ok.grd (aj (by rw [← h.de.1] at hk; exact hk)) (Ok.bind (afX (d:=(bq s).get k) ((h.de.2.1 k hk).1 hp)) fun u hu=>Ok.bind (one (u32_in _)) fun z hz=>Ok.bind (Jy hz.1 hB hu.1.2) fun v hv=>Ok.ret ⟨z9,⟨hv.1,h.he,h.ca,h.tl,h.bo,h.ou,h.is,h.de.set hk hp hu.1.1,h.vp,u32_in _⟩,.inr ⟨rfl,3,k,fun i _=>⟨rfl,.inl (yg _)⟩,fun i _=>.inl (yg _),fun i hi=>?_⟩⟩)
   show fE ((L.set (bq s) k u.2.1).get i).1 _ ∧ (fE ((L.set (bq s) k u.2.1).get i).2.1 _ ∨ (3 = 3 ∧ i = k ∧ _ ∧ _ ∧ fE ((L.set (bq s) k u.2.1).get i).2.1 _))
   by_cases q:i = k
   · subst q; rw [dQ]
     rcases hu.2 with e | ⟨a,b,d⟩
     · rw [e]; exact ⟨yg _,.inl (yg _)⟩
     · rw [a,d]; exact ⟨yg _,.inr ⟨rfl,rfl,hp,b,yg _⟩⟩
   · rw [bR _ _ q]; exact ⟨yg _,.inl (yg _)⟩
theorem YA {t:Tb} {p:Nat} {s:St} (g:TG t p) (h:PG t p s):Ok (KH s t (p:Int)) fun z=>PG t p z.2.1 ∧ Own t p s z.2.1:=by
 have h8:=g.ch.1
 have key:∀ {wS vy wT wU wV wW wX wY:_},Ok (aL qC (((),(((bn s).len:Int),((0:Int),()))),(wS,(vy,(wT,(wU,(wV,(wW,((bn s),(wX,(wY,()))))))))))) fun z=>∃ x:L Oe,z = .inl ((),(wS,(vy,(wT,(wU,(wV,(wW,(x,(wX,(wY,())))))))))) ∧ gN t p x ∧ ∀ j,j < (tChans t).len→(x.get j).1 = ((bn s).get j).1 ∧ (fE (x.get j).2.1 ((bn s).get j).2.1 ∨ (x.get j).2.1.len = 0):=by
  intro wS vy wT wU wV wW wX wY
  refine dB (tChans t).len (fun i z=>∃ x:L Oe,z = (((),(((bn s).len:Int),((i:Int),()))),(wS,(vy,(wT,(wU,(wV,(wW,(x,(wX,(wY,())))))))))) ∧ gN t p x ∧ ∀ j,j < (tChans t).len→(x.get j).1 = ((bn s).get j).1 ∧ (fE (x.get j).2.1 ((bn s).get j).2.1 ∨ (x.get j).2.1.len = 0)) ?_ ?_ _ ⟨_,rfl,h.ou,fun j _=>⟨rfl,.inl (yg _)⟩⟩
  · rintro i _ hi ⟨x,rfl,hx,ho⟩
    simp only [qC]
    rw [h.ou.1,hx.1,av hi (by omega),tN]
    refine Ok.grd (aM hi) (Ok.grd (aj hi) (Ok.ret (.inl ⟨_,rfl,_,rfl,hx.Yx g hi,fun j hj=>?_⟩)))
    by_cases q:j = i
    · subst q; rw [jU]; exact ⟨(ho j hj).1,.inr rfl⟩
    · rw [jV _ _ q]; exact ho j hj
  · rintro _ ⟨x,rfl,hx⟩
    simp only [qC]
    rw [h.ou.1]
    exact Ok.no (aK (tChans t).len) (Ok.ret ⟨_,rfl,x,rfl,hx⟩)
 unfold KH
 refine Ok.bind (Yy g h.bo) fun a ha=>Ok.bind key ?_
 rintro _ ⟨x,rfl,hx,ho⟩
 exact Ok.ret ⟨⟨ha.1,h.he,h.ca,h.tl,h.bo,hx,h.is,h.de,⟨z0,z0,z0,z0,z0⟩,ha.2⟩,0,0,fun i hi=>⟨(ho i hi).1,(ho i hi).2.imp id .inl⟩,fun i _=>.inl (yg _),fun i _=>⟨yg _,.inl (yg _)⟩⟩
abbrev Ev:Type:=Int×(Int×(Int×(Int×(Int×(Int×(Int×Unit))))))
def MU (t:Tb) (p:Nat) (s:St) (z:Unit×(St×(Ev×Unit))):Prop:=PG t p z.2.1 ∧ Own t p s z.2.1
theorem Rm {t:Tb} {p:Nat} {e:Ev} {y:Sp×Unit} {f k:Int} {s s1 s2:St} {g2:Gu} (g:TG t p) (hf:0≤f ∧ f≤9) (h1:PG t p s1) (h2:PG t p (g2,s2.2)) (r1:Fe s s1 ∨ (f = 0 ∧ Own t p s s1)) (r2:f ≠ 0→Fe s s2):Ok (lT e (y,()) (p:Int) t f s1 k s2 g2) (MU t p s):=by
 unfold lT
 refine Ok.bif (fun _=>Ok.ret ⟨h1,r1.elim Fe.own And.right⟩) fun q=>Ok.grd (aj g.pl) (Ok.bind (Rl g.po h2.he hf) fun y hy=>?_)
 have e2:=r2 (by simpa using q)
 have h3:PG t p (g2,(s2.2.1,(y.1.1,s2.2.2.2))):=⟨h2.gu,hy,h2.ca,h2.tl,h2.bo,h2.ou,h2.is,h2.de,h2.vp,h2.pw⟩
 have e3:∀ {g':Gu},Fe s (g',(s2.2.1,(y.1.1,s2.2.2.2))):=e2.trans (smE rfl)
 exact Ok.bif (fun _=>Ok.ret ⟨⟨h2.gu,hy,h2.ca,h2.tl,h2.bo,h2.ou,h2.is,h2.de,h2.vp,u32_in _⟩,e3.own⟩) fun _=>Ok.bif (fun _=>Ok.bind (YA g h3) fun u hu=>Ok.ret ⟨hu.1,Own.of e3 hu.2⟩) fun _=>Ok.ret ⟨h3,e3.own⟩
theorem af0 {t:Tb} {p:Nat} {e:Ev} {z:Sp} {w:(Int×(Int×Unit))×Unit} {c k:Int} {s s1 s2:St} {g2:Gu} (g:TG t p) (hz:0≤z.2.1 ∧ z.2.1≤9) (ht:z.2.2.2.1≤65535) (h1:PG t p s1) (h2:PG t p (g2,s2.2)) (e1:Fe s s1) (e2:Fe s s2):Ok (kR ((z,()),()) t w (p:Int) c e s1 k s2 g2) (MU t p s):=by
 have call:∀ {s3:St} {k':Int},PG t p s3→Fe s s3→Ok ((Jd w.1.1).bind fun BQ=>(Dr s3 t (p:Int) c BQ.1.1).bind fun lU=>lT e ((z,()),()) (p:Int) t lU.1.1 lU.2.1 k' lU.2.1 lU.2.1.1) (MU t p s):=fun h3 e3 =>
  Ok.bind (Lj w.1.1) fun y hy=>Ok.bind (afZ g h3 hy.2.1 hy.2.2.1) fun u ⟨u1,u2,u3⟩=>Rm g u1 u2 u2 (u3.imp e3.trans fun q=>⟨q.1,Own.of e3 q.2⟩) fun q=>u3.elim e3.trans fun k=>absurd k.1 q
 unfold kR
 exact Ok.bif (fun q=>Ok.bind (Lm g h1 ⟨by simpa using q,ht⟩) fun y hy=>Ok.bif (fun _=>call hy.1 (e1.trans hy.2)) fun _=>Rm g hz hy.1 hy.1 (.inl (e1.trans hy.2)) fun _=>e1.trans hy.2) fun _=>Ok.bif (fun _=>call h1 e1) fun _=>Rm g hz h1 h2 (.inl e1) fun _=>e2
theorem instructionO {t:Tb} {p:Nat} {s:St} {c:Int} {e:Ev} (g:TG t p) (h:PG t p s) (he:e.2.2.1 = s.1.2.1):Ok (EF s t (p:Int) c e) (MU t p s):=by
 rw [EF]
 refine Ok.grd (aj g.pl) ?_
 rw [tN]
 refine Ok.bind (Ri (g:=s.1) g.w h.gu (.inr rfl)) ?_
 rintro w ⟨w1,w2,w3⟩
 refine Ok.bind (afQ (g:=s.1) g.w h.gu h.pw c) ?_
 rintro ⟨⟨z,⟨⟩⟩,⟨⟩⟩ ⟨z1,z2,z3,z4,z5⟩
 dsimp only at z1 z2 z3 z4 z5 ⊢
 have P:PG t p (z.1,s.2):=⟨z1,h.he,h.ca,h.tl,h.bo,h.ou,h.is,h.de,h.vp,z2⟩
 have w4:(w.1.2.1 == 0) = true→0≤wI e.2.2.1 ∧ wI e.2.2.1≤65535:=fun q=>by rw [he]; exact ⟨(w3 q).1,Int.le_trans (w3 q).2 (by decide)⟩
 have acc:∀ {k:Int},∀ q:(w.1.2.1 == 0) = true,Ok ((Bj (z.1,s.2) t (wI e.2.2.1) false).bind fun y3=>kR ((z,()),()) t w (p:Int) c e y3.2.1 (wI (k + y3.1.1)) y3.2.1 y3.2.1.1) (MU t p s):=fun q =>
  Ok.bind (Lm g P (w4 q)) fun y hy=>af0 g z3 z5.2 hy.1 hy.1 hy.2 hy.2
 have no:∀ {k:Int},Ok (kR ((z,()),()) t w (p:Int) c e (z.1,s.2) k (z.1,s.2) z.1) (MU t p s):=af0 g z3 z5.2 P P (smE rfl) (smE rfl)
 exact Ok.bif (fun _=>Ok.bif acc fun _=>no) fun _=>Ok.bif acc fun _=>no
theorem af2 {t:Tb} {p:Nat} {s:St} {c:Int} (g:TG t p) (h:PG t p s):Ok (SS s t (p:Int) c) fun z=>PG t p z.2.1 ∧ Own t p s z.2.1:=by
 have le:∀ {s:St},PG t p s→s.1.1.len≤1000:=fun h=>by rw [h.gu.1]; decide
 unfold SS
 refine Ok.bind (ajy h.vp c) fun y _=>Ok.bif (fun _=>Ok.bind (Yz h.vp _ h.pw) fun u hu=>?_) fun q=>Ok.bind (instructionO g h rfl) fun u hu=>?_
 · obtain ⟨a,e,_⟩:=foldI (le h)
   rw [e,oB]
   exact Ok.ret ⟨⟨h.gu,h.he,h.ca,h.tl,h.bo,h.ou,h.is,h.de,hu.1,hu.2⟩,(smE rfl).own⟩
 · obtain ⟨u1,u2⟩:=hu
   obtain ⟨a,e,_⟩:=foldI (le u1)
   rw [e,oB]
   exact Ok.ret ⟨⟨u1.gu,u1.he,u1.ca,u1.tl,u1.bo,u1.ou,u1.is,u1.de,u1.vp,u1.pw⟩,u2⟩
theorem mY.is {t:Tb} {p:Nat} {s:St} {c:Int} (D:mY t p s c):Yes (ZA t (p:Int) s):=afM D.tg D.so D.fa D.pg D.nx
theorem mY.same {t:Tb} {p:Nat} {s b:St} {c:Int} (D:mY t p s c) (h:Li b s) (n:NN b):mY t p b c :=
 ⟨D.tg,D.so,D.fa,D.pg.same D.tg h n,by rw [h.nx]; exact D.nx,D.cy⟩
theorem YB {t:Tb} {p:Nat} {s:St} {c:Int} (D:mY t p s c):Ok (OW s) fun a=>Li a.1.1 s ∧ mY t p a.1.1 c:=by
 obtain ⟨b,b1,b2,b3⟩:=Ui s (D.pg.bnd D.tg) D.pg.nn (D.pg.ou.1.trans D.pg.is.1.symm)
 exact ⟨_,b1,b2,D.same b2 b3⟩
theorem pO {X D:Type} {step:X→Option (X⊕D)} (n:Nat) (st:Nat→X) (e:D) (hs:∀ i,i < n→Ok (step (st i)) fun z=>z = .inl (st (i + 1))) (he:Ok (step (st n)) fun z=>z = .inr e):Ok (aL step (st 0)) fun z=>z = e :=
 dB n (fun i z=>z = st i) (by rintro i _ hi rfl; exact (hs i hi).mono fun _ h=>.inl ⟨_,h,rfl⟩) (by rintro _ rfl; exact he.mono fun _ h=>⟨_,h,rfl⟩) _ rfl
theorem YC {s:ByteArray} (h:nm s = true):s.size≤8:=by
 have h:BS s = some ((true,()),()):=by unfold nm at h; simpa using h
 unfold BS at h
 cases q:decide ((s.size:Int)≤8) with
 | true=>simp at q; omega
 | false=>rw [q] at h; cases h
theorem ajz {t:Tb} {p:Nat} {x:Im} (g:TG t p) (hn:(tParts t).len≤6) (h:pU ((tParts t).get p).2.2.2.1 x):Yes (Td t (p:Int) x):=by
 have hl:=g.pl
 have e:(t.2.2.2.2.2.2.2.1.len:Int) = (tParts t).len:=rfl
 have h4:=g.w.1
 have h0:=h.1
 unfold Yes Td
 rw [e,aJ (by omega) (by omega),(aZ _ _ _).mpr (by omega)]
 refine Ok.no rfl (Ok.grd (aj g.pl) (Ok.no (by rw [tN]; simp; exact congrArg Nat.cast h0) (Ok.bind (pO x.len (fun i=>(((p:Int),(x,((),((i:Int),())))),(t,()))) (.inr (.inl ((),()))) (fun i hi=>?_) ?_) ?_)))
 · simp only [zk]
   have hi':i < ((tParts t).get p).2.2.2.1.len:=by omega
   rw [av hi (by omega),tN,tN]
   exact Ok.grd (aM hi) (Ok.grd (aj hi) (Ok.grd (aj g.pl) (Ok.grd (aj hi') (Ok.no (by simp; exact (h.2 i hi').1) (Ok.ret rfl)))))
 · simp only [zk]
   exact Ok.no (aK _) (Ok.ret rfl)
 · rintro _ rfl
   exact Ok.ret rfl
theorem YD {a b:Wi} (ha:f326 a = true) (hb:f326 b = true) (h:apart a b):Yes (Te a b):=by
 unfold Yes Te
 rw [ha,hb]
 refine Ok.no rfl (Ok.no rfl (Ok.bind (pO 512 (fun i=>(((),((),(((4 * i:Nat):Int),()))),(a,(b,())))) (.inr (.inl ((),()))) (fun i hi=>?_) ?_) ?_))
 · simp only [zl]
   rw [show wI (((4 * i:Nat):Int) + 4) = ((4 * (i + 1):Nat):Int) by rw [aJ (by omega) (by omega)]; omega]
   refine Ok.grd (by simp; omega) (Ok.bif (fun h1=>Ok.bif (fun h2=>?_) fun _=>Ok.ret rfl) fun _=>Ok.ret rfl)
   have h1:=(lY _ _ ha).mp h1
   have h2:=(lY _ _ hb).mp h2
   unfold apart at h
   omega
 · simp only [zl]
   exact Ok.no rfl (Ok.ret rfl)
 · rintro _ rfl
   exact Ok.ret rfl
theorem af3 {w:L Wi} (hw:WG w) (hap:∀ k i,k < i→i < w.len→apart (w.get k) (w.get i)):Yes (Tf w):=by
 obtain ⟨hl,hg⟩:=hw
 unfold Yes Tf
 refine Ok.no (by simp; omega) (Ok.bind (pO w.len (fun i=>((w,((i:Int),())),())) (.inr (.inl ((),()))) (fun i hi=>?_) ?_) ?_)
 · simp only [zq]
   rw [tN,hg i hi]
   refine Ok.grd (aM hi) (Ok.grd (aj hi) (Ok.no rfl (Ok.bind (pO i (fun k=>((w,((i:Int),((k:Int),()))),())) (.inr (.inl ((w,((i:Int),())),()))) (fun k hk=>?_) ?_) ?_)))
   · simp only [zn]
     rw [av hk (by omega),tN,tN]
     refine Ok.grd (aM hk) (Ok.grd (aj (by omega)) (Ok.grd (aj hi) (Ok.bind (YD (hg k (by omega)) (hg i hi) (hap k i hk hi)) fun a e=>?_)))
     rw [e]
     exact Ok.ret rfl
   · simp only [zn]
     exact Ok.no (aK i) (Ok.ret rfl)
   · rintro _ rfl
     simp only
     rw [av hi (by omega)]
     exact Ok.ret rfl
 · simp only [zq]
   exact Ok.no (aK _) (Ok.ret rfl)
 · rintro _ rfl
   exact Ok.ret rfl
theorem ajA {w:L Wi} {g:Gu} (hw:WG w) (hap:∀ k i,k < i→i < w.len→apart (w.get k) (w.get i)) (h:wm w g.1 g.2.2.1):Yes (Tg w g):=by
 obtain ⟨h1,h2,⟨h3,h4⟩,_⟩:=h
 have hl:=hw.1
 unfold Yes Tg
 refine Ok.bind (af3 hw hap) fun a ha=>?_
 rw [ha]
 refine Ok.no rfl (Ok.no (by rw [h1]; rfl) (Ok.grd (by rw [h1]; rfl) (Ok.no (by simpa using h2) (Ok.no (by simp; exact congrArg Nat.cast h3) (Ok.bind (pO w.len (fun i=>((w,((),((i:Int),()))),(g,()))) (.inr (.inl ((),()))) (fun i hi=>?_) ?_) ?_)))))
 · simp only [zu]
   rw [av hi (by omega),tN]
   exact Ok.grd (aM hi) (Ok.grd (aj (by rw [h3]; exact hi)) (Ok.grd (aj hi) (Ok.no (by simpa using (h4 i hi).1) (Ok.ret rfl))))
 · simp only [zu]
   exact Ok.no (aK _) (Ok.ret rfl)
 · rintro _ rfl
   exact Ok.ret rfl
theorem ajB {c:Ca} (h:Ji c):Yes (Ti c):=by
 obtain ⟨h1,h2,h3⟩:=h
 obtain ⟨s1,s2,_⟩:=xq h1
 unfold Yes Ti
 rw [h1]
 refine Ok.no rfl (Ok.no (by simpa using h2) (Ok.bind (pO c.2.1.len (fun i=>(((),((i:Int),())),(c,()))) (.inr (.inl ((),()))) (fun r hr=>?_) ?_) ?_))
 · obtain ⟨r1,r2,r3⟩:=h3 r hr
   simp only [zy]
   rw [tN]
   refine Ok.grd (aM hr) (Ok.grd (aj hr) (Ok.no (by simp; omega) (Ok.bind (pO (c.2.1.get r).len (fun i=>(((),((r:Int),(c.2.1.get r,((i:Int),())))),(c,()))) (.inr (.inl (((),((r:Int),())),(c,())))) (fun i hi=>?_) ?_) ?_)))
   · simp only [zx]
     rw [tN,(aZ _ _ _).mpr (r2 i hi)]
     refine Ok.grd (aM hi) (Ok.grd (aj hi) (Ok.no rfl (Ok.bind (pO i (fun k=>(((),((r:Int),(c.2.1.get r,((i:Int),((k:Int),()))))),(c,()))) (.inr (.inl (((),((r:Int),(c.2.1.get r,((i:Int),())))),(c,())))) (fun k hk=>?_) ?_) ?_)))
     · simp only [zw]
       rw [av hk (by omega),tN,tN]
       exact Ok.grd (aM hk) (Ok.grd (aj (by omega)) (Ok.grd (aj hi) (Ok.no (by simpa using r3 k i hk hi) (Ok.ret rfl))))
     · simp only [zw]
       exact Ok.no (aK i) (Ok.ret rfl)
     · rintro _ rfl
       simp only
       rw [av hi (by omega)]
       exact Ok.ret rfl
   · simp only [zx]
     exact Ok.no (aK _) (Ok.ret rfl)
   · rintro _ rfl
     simp only
     rw [av hr (by omega)]
     exact Ok.ret rfl
 · simp only [zy]
   exact Ok.no (aK _) (Ok.ret rfl)
 · rintro _ rfl
   exact Ok.ret rfl
theorem ajC {n:Int} {x:Tl} (hn:1≤n ∧ n≤8) (h:U9 n x):Yes (Tj x):=by
 obtain ⟨h1,h2,h3,h4,_⟩:=h
 unfold Yes Tj
 rw [(aZ _ _ _).mpr (by omega)]
 refine Ok.no rfl (Ok.no (by simp; omega) (Ok.bind (pO x.2.1.len (fun i=>(((),((i:Int),())),(x,()))) (.inr (.inl ((),()))) (fun i hi=>?_) ?_) ?_))
 · simp only [zB]
   rw [tN,(aZ _ _ _).mpr (h3 i hi)]
   refine Ok.grd (aM hi) (Ok.grd (aj hi) (Ok.no rfl (Ok.bind (pO i (fun k=>(((),((i:Int),((k:Int),()))),(x,()))) (.inr (.inl (((),((i:Int),())),(x,())))) (fun k hk=>?_) ?_) ?_)))
   · simp only [zA]
     rw [av hk (by omega),tN,tN]
     exact Ok.grd (aM hk) (Ok.grd (aj (by omega)) (Ok.grd (aj hi) (Ok.no (by simpa using h4 k i hk hi) (Ok.ret rfl))))
   · simp only [zA]
     exact Ok.no (aK i) (Ok.ret rfl)
   · rintro _ rfl
     simp only
     rw [av hi (by omega)]
     exact Ok.ret rfl
 · simp only [zB]
   exact Ok.no (aK _) (Ok.ret rfl)
 · rintro _ rfl
   exact Ok.ret rfl
theorem ajD {r:Ch} {o:Oe} (h:Ci r o):f238 r o = true:=by
 obtain ⟨hr,h1,h2,_⟩:=h
 unfold f238
 rw [hr,au (show (!true) = false from rfl)]
 rcases eU hr with ⟨k1,k2⟩ | ⟨k1,k2,k3⟩
 · obtain ⟨a1,a2⟩:=h1 k1
   rw [ah (by simpa using k1),ah (by simpa using a1)]
   simp; omega
 · obtain ⟨a1,a2⟩:=h2 (by omega)
   rw [au (by simp [k1]),ah ((aZ _ _ _).mpr (by omega)),aJ (by omega) (by omega)]
   simp; omega
theorem inS {r:Ch} {o:Ie} (h:QU r o):f239 r o = true:=by
 obtain ⟨hr,h1,h2,_⟩:=h
 unfold f239
 rw [hr,au (show (!true) = false from rfl)]
 rcases eU hr with ⟨k1,k2⟩ | ⟨k1,k2,k3⟩
 · have:=h1 k1
   rw [ah (by simpa using k1)]
   simp; omega
 · have:=h2 (by omega)
   rw [au (by simp [k1])]
   simp; omega
theorem af4 {t:Tb} {p:Nat} {s:St} (g:TG t p) (h:PG t p s):Yes (Tk t (p:Int) s):=by
 have hc8:=g.ch.1
 have UO:=g.dv
 have eo:=h.ou.1
 have ei:=h.is.1
 have ed:=h.de.1
 have nb:∀ {a b:Int},(a == b) = false→¬ a = b:=fun q=>by simpa using q
 unfold Yes Tk
 refine Ok.no (by simp; exact congrArg Nat.cast eo) (Ok.no (by simp; exact congrArg Nat.cast ei) (Ok.no (by simp; exact congrArg Nat.cast ed) (Ok.bind (pO (tChans t).len (fun i=>(((p:Int),((),((),((i:Int),())))),(t,(s,())))) (.inr (.inl (((p:Int),((),((),()))),(t,(s,()))))) (fun i hi=>?_) ?_) ?_)))
 · have ho:=h.ou.2.1 i hi
   have hin:=h.is.2.1 i hi
   have io:(decide ((0:Int)≤(i:Int))&&decide ((i:Int) < (s.2.2.2.2.2.2.2.2.1.len:Int))) = true:=aj (n:=(bn s).len) (by omega)
   have ii:(decide ((0:Int)≤(i:Int))&&decide ((i:Int) < (s.2.2.2.2.2.2.2.2.2.1.len:Int))) = true:=aj (n:=(bW s).len) (by omega)
   have nx:∀ {b:Bool},b = false→Ok (rJ (i:Int) s t (p:Int) b) fun z=>z = .inl (((p:Int),((),((),(((i + 1:Nat):Int),())))),(t,(s,()))):=by
    rintro _ rfl
    unfold rJ
    rw [av hi (by omega),tN]
    refine Ok.grd io (Ok.no rfl (Ok.bif (fun q=>Ok.grd ii (Ok.no ?_ (Ok.ret rfl))) fun q=>Ok.grd ii (Ok.no ?_ (Ok.ret rfl))))
    · have:=inS (hin.1 (eq_of_beq q))
      show (!f239 ((tChans t).get i) ((bW s).get i)) = false
      rw [this]; rfl
    · have:=hin.2 (nb q)
      show ((((bW s).get i).1.len:Int) != 0) = false
      rw [this]; rfl
   simp only [zC]
   rw [tN]
   refine Ok.grd (aM hi) (Ok.grd (aj hi) (Ok.bif (fun q=>nx ?_) fun q=>Ok.grd io (Ok.no ?_ (nx ?_))))
   · have:=ajD (ho.1 (eq_of_beq q))
     show (!f238 ((tChans t).get i) ((bn s).get i)) = false
     rw [this]; rfl
   · have:=(ho.2 (nb q)).1
     show (((bn s).get i).1 != 0) = false
     rw [this]; rfl
   · have:=(ho.2 (nb q)).2
     show ((((bn s).get i).2.1.len:Int) != 0) = false
     rw [this]; rfl
 · simp only [zC]
   exact Ok.no (aK (tChans t).len) (Ok.ret rfl)
 rintro _ rfl
 refine Ok.bind (pO (tDevs t).len (fun i=>(((p:Int),((),((),((i:Int),())))),(t,(s,())))) (.inr (.inl ((),()))) (fun i hi=>?_) ?_) ?_
 · have hd:=h.de.2.1 i hi
   have ii:(decide ((0:Int)≤(i:Int))&&decide ((i:Int) < (s.2.2.2.2.2.2.2.2.2.2.1.len:Int))) = true:=aj (n:=(bq s).len) (by omega)
   simp only [zD]
   rw [av hi (by omega),tN]
   refine Ok.grd (aM hi) (Ok.grd (aj hi) (Ok.bif (fun q=>Ok.grd ii (Ok.no ?_ (Ok.ret rfl))) fun q=>Ok.grd ii (Ok.no ?_ (Ok.grd ii (Ok.no ?_ (Ok.ret rfl))))))
   · obtain ⟨k1,k2,_⟩:=hd.1 (eq_of_beq q)
     have:f240 ((bq s).get i) = true:=by
      unfold f240
      rw [ah (by simp; omega)]
      simp; omega
     show (!f240 ((bq s).get i)) = false
     rw [this]; rfl
   · have:=(hd.2 (nb q)).1
     show ((((bq s).get i).1.len:Int) != 0) = false
     rw [this]; rfl
   · have:=(hd.2 (nb q)).2
     show ((((bq s).get i).2.1.len:Int) != 0) = false
     rw [this]; rfl
 · simp only [zD]
   exact Ok.no (aK (tDevs t).len) (Ok.ret rfl)
 · rintro _ rfl
   exact Ok.ret rfl
theorem mY.sp {t:Tb} {p:Nat} {s:St} {c:Int} (D:mY t p s c):Yes (g41 t (p:Int) s):=by
 have hF:=D.fa
 have g:=D.tg
 have h:=D.pg
 have h6:=hF.2.2.2.2.2.2.1.2
 have hP:Parts (tParts t) t.1:=hF.2.2.2.2.2.2.2.1
 have hT:Tail t:=hF.2.2.2.2.2.2.2.2
 have h47:(2:Nat) ^ 47 = 140737488355328:=by decide
 obtain ⟨b,b1,b2,_⟩:=PN t ⟨by omega,by have:=g.dv; omega,by have:=g.ch.1; omega,by have:=hT.2.2.2.2.2.1.2; omega,fun i hi=>by
  have k:=(hP.1 i hi).1
  have:=YC k.1
  have:=k.2.2.1
  omega⟩
 rw [D.so] at b2
 cases b2
 unfold Yes g41 WW
 rw [b1,oB]
 refine Ok.bind (Q:=fun a=>a.1.1 = true) (Ok.grd rfl (Ok.bind (ajz g h6 h.bo) fun a ha=>Ok.ret ha)) fun a ha=>?_
 rw [ha]
 refine Ok.no rfl (Ok.grd (aj g.pl) ?_)
 rw [tN]
 refine Ok.bind (ajA (g:=s.1) g.w (Hz hF g) h.gu) fun b hb=>?_
 have ajE:f125 s.2.2.1 = true:=by
  obtain ⟨h1,h2,h3⟩:=h.he
  unfold f125
  rw [(aZ _ _ _).mpr h1,(aZ _ _ _).mpr h2,(aZ _ _ _).mpr h3]
  rfl
 rw [hb,ajE]
 refine Ok.no rfl (Ok.no rfl (Ok.bind (ajB h.ca.2.1) fun c hc=>?_))
 rw [hc]
 refine Ok.no rfl (Ok.no (by rw [h.ca.1]; simp) (Ok.bind (ajC g.tl h.tl) fun d hd=>?_))
 rw [hd]
 exact Ok.no rfl (Ok.no (by simpa using h.tl.1) (Ok.grd ((aZ _ _ _).mpr D.nx) (Ok.bind (af4 g h) fun e he=>Ok.ret he)))
theorem af5 {x:Im} (hb:PW x 1048576):Ok (vC x) fun a=>wo fE a.1.1 x ∧ ∀ i,i < a.1.1.len→WL (a.1.1.get i):=by
 obtain ⟨r,h1,⟨h2,_⟩,h3⟩:=yc (step:=iH) x.len (fun i r=>((x,((),((i:Int),()))),(r,()))) (fun r=>.inl (((),()),(r,()))) (Ty.zero (.sl (.int .u8))) (fun i q=>fE q (x.get i) ∧ WL q)
  (fun i r hi hr=>⟨L.app (L.of (Ty.zero (.int .u8)) []) (x.get i),by
   simp only [iH]
   rw [ah (aM hi),ah (aj hi),tN,ah (fD _ _ (hb.2 i hi)),ah (fC _ _ _ (by have:=hb.1; omega)),av hi (by have:=hb.1; omega)],app0 _ _,wl rfl⟩)
  (fun r hr=>by
   simp only [iH]
   rw [au (aK _)]) (r0:=L.of (Ty.zero (.sl (.int .u8))) []) rfl
 refine ⟨((r,()),()),?_,⟨h2,fun i hi=>(h3 i (by rw [← h2]; exact hi)).1⟩,fun i hi=>(h3 i (by rw [← h2]; exact hi)).2⟩
 unfold vC
 have h1':aL iH ((x,((),((0:Int),()))),((L.of (Ty.zero (.sl (.int .u8))) []),())) = _:=h1
 rw [h1']; rfl
theorem Lp {x:L Int} (h:x.len≤1048576):Ok (lX x) fun a=>fE a.1.1 x ∧ WL a.1.1:=by
 unfold lX
 exact Ok.grd (fD _ _ h) (Ok.ret ⟨app0 _ _,wl rfl⟩)
theorem ajF {d:De} (h:d.1.len≤1048576 ∧ d.2.1.len≤1048576):Ok (xU d) fun a=>E8 a.1.1 d ∧ WL a.1.1.1 ∧ WL a.1.1.2.1:=by
 unfold xU
 exact Ok.bind (Lp h.1) fun a ha=>Ok.bind (Lp h.2) fun b hb=>Ok.ret ⟨⟨ha.1,hb.1⟩,ha.2,hb.2⟩
set_option maxHeartbeats 2000000 in
theorem af6 {s:St} (hb:MJ s 1048576):Ok (Tm s) fun a=>Li a.1.1 s ∧ NN a.1.1:=by
 obtain ⟨h1,h2,⟨h3,h3'⟩,h4,h5,⟨h6,h6'⟩,⟨h7,h7'⟩,h8,h8'⟩:=hb
 have Q5:∀ {va vb vc vd ve vf vh vj vk vl vm vn vo vq vr vs vt wt vu vv wu wv vK vz vw vx:_},Ok (aL rM (((),((),((),((0:Int),())))),(s,(((),((),((),((),((),((),((),((),((),((),((),((),((),((),((),((),((),((),((),((),((),((),((),((),((),((),((),()))))))))))))))))))))))))))),(((),(va,((),(vb,(vc,(vd,(ve,(vf,(vh,(vj,(vk,(vl,(vm,(vn,(vo,(vq,(vr,(vs,((bG (.sl (.pair (.int .i64) (.pair .bool .unit)))),(vt,(wt,(vu,(vv,(wu,(wv,(vK,(vz,()))))))))))))))))))))))))))),(vw,(vx,()))))))) fun z=>∃ r:L (L Wy),z = .inl (((),((),((),()))),(s,(((),((),((),((),((),((),((),((),((),((),((),((),((),((),((),((),((),((),((),((),((),((),((),((),((),((),((),()))))))))))))))))))))))))))),(((),(va,((),(vb,(vc,(vd,(ve,(vf,(vh,(vj,(vk,(vl,(vm,(vn,(vo,(vq,(vr,(vs,((),(vt,(wt,(vu,(vv,(wu,(wv,(vK,(vz,()))))))))))))))))))))))))))),(vw,(vx,(r,()))))))) ∧ (r.len = s.2.2.2.1.2.1.len ∧ WL r) ∧ ∀ i,i < s.2.2.2.1.2.1.len→fE (r.get i) (s.2.2.2.1.2.1.get i) ∧ WL (r.get i):=by
  intro va vb vc vd ve vf vh vj vk vl vm vn vo vq vr vs vt wt vu vv wu wv vK vz vw vx
  obtain ⟨r,k1,k2⟩:=yc (step:=rM) s.2.2.2.1.2.1.len (fun i r=>(((),((),((),((i:Int),())))),(s,(((),((),((),((),((),((),((),((),((),((),((),((),((),((),((),((),((),((),((),((),((),((),((),((),((),((),((),()))))))))))))))))))))))))))),(((),(va,((),(vb,(vc,(vd,(ve,(vf,(vh,(vj,(vk,(vl,(vm,(vn,(vo,(vq,(vr,(vs,(r,(vt,(wt,(vu,(vv,(wu,(wv,(vK,(vz,()))))))))))))))))))))))))))),(vw,(vx,()))))))) (fun r=>.inl (((),((),((),()))),(s,(((),((),((),((),((),((),((),((),((),((),((),((),((),((),((),((),((),((),((),((),((),((),((),((),((),((),((),()))))))))))))))))))))))))))),(((),(va,((),(vb,(vc,(vd,(ve,(vf,(vh,(vj,(vk,(vl,(vm,(vn,(vo,(vq,(vr,(vs,((),(vt,(wt,(vu,(vv,(wu,(wv,(vK,(vz,()))))))))))))))))))))))))))),(vw,(vx,(r,())))))))) (Ty.zero (.sl (.pair (.int .i64) (.pair .bool .unit)))) (fun i q=>fE q (s.2.2.2.1.2.1.get i) ∧ WL q)
   (fun i r hi hr=>⟨L.app (L.of (Ty.zero (.pair (.int .i64) (.pair .bool .unit))) []) (s.2.2.2.1.2.1.get i),by
    simp only [rM]
    rw [ah (aM hi),ah (aj hi),tN,ah (fD _ _ (h3' i hi)),ah (fC _ _ _ (by omega)),av hi (by omega)],app0 _ _,wl rfl⟩)
   (fun r hr=>by
    simp only [rM]
    rw [au (aK _)]) (r0:=bG (.sl (.pair (.int .i64) (.pair .bool .unit)))) rfl
  exact ⟨_,k1,r,rfl,k2⟩
 have Q7:∀ {va vb vc vd ve vf vh vj vk vl vm vn vo vq vr vs vt vu vv vK vz vw vx vA xS vB:_},Ok (aL rO (((),((),((),((0:Int),())))),(s,(((),((),((),((),((),((),((),((),((),((),((),((),((),((),((),((),((),((),((),((),((),((),((),((),((),((),((),()))))))))))))))))))))))))))),(((),(va,((),(vb,(vc,(vd,(ve,(vf,(vh,(vj,(vk,(vl,(vm,(vn,(vo,(vq,(vr,(vs,((),(vt,((),(vu,(vv,((),((),(vK,(vz,()))))))))))))))))))))))))))),(vw,(vx,(vA,(xS,(vB,((L.of (Ty.zero (.pair (.int .i64) (.pair (.sl (.int .u32)) .unit))) []),()))))))))))) fun z=>∃ r:L Oe,z = .inl (((),((),((),()))),(s,(((),((),((),((),((),((),((),((),((),((),((),((),((),((),((),((),((),((),((),((),((),((),((),((),((),((),((),()))))))))))))))))))))))))))),(((),(va,((),(vb,(vc,(vd,(ve,(vf,(vh,(vj,(vk,(vl,(vm,(vn,(vo,(vq,(vr,(vs,((),(vt,((),(vu,(vv,((),((),(vK,(vz,()))))))))))))))))))))))))))),(vw,(vx,(vA,(xS,(vB,(r,())))))))))) ∧ (r.len = (bn s).len ∧ WL r) ∧ ∀ i,i < (bn s).len→Fb (r.get i) ((bn s).get i) ∧ WL (r.get i).2.1:=by
  intro va vb vc vd ve vf vh vj vk vl vm vn vo vq vr vs vt vu vv vK vz vw vx vA xS vB
  obtain ⟨r,k1,k2⟩:=yc (step:=rO) (bn s).len (fun i r=>(((),((),((),((i:Int),())))),(s,(((),((),((),((),((),((),((),((),((),((),((),((),((),((),((),((),((),((),((),((),((),((),((),((),((),((),((),()))))))))))))))))))))))))))),(((),(va,((),(vb,(vc,(vd,(ve,(vf,(vh,(vj,(vk,(vl,(vm,(vn,(vo,(vq,(vr,(vs,((),(vt,((),(vu,(vv,((),((),(vK,(vz,()))))))))))))))))))))))))))),(vw,(vx,(vA,(xS,(vB,(r,()))))))))))) (fun r=>.inl (((),((),((),()))),(s,(((),((),((),((),((),((),((),((),((),((),((),((),((),((),((),((),((),((),((),((),((),((),((),((),((),((),((),()))))))))))))))))))))))))))),(((),(va,((),(vb,(vc,(vd,(ve,(vf,(vh,(vj,(vk,(vl,(vm,(vn,(vo,(vq,(vr,(vs,((),(vt,((),(vu,(vv,((),((),(vK,(vz,()))))))))))))))))))))))))))),(vw,(vx,(vA,(xS,(vB,(r,()))))))))))) (Ty.zero (.pair (.int .i64) (.pair (.sl (.int .u32)) .unit))) (fun i q=>Fb q ((bn s).get i) ∧ WL q.2.1)
   (fun i r hi hr=>by
    obtain ⟨v,v1,v2⟩:=Lp (h6' i hi)
    refine ⟨(((bn s).get i).1,v.1),?_,⟨rfl,v2.1⟩,v2.2⟩
    simp only [rO]
    refine (ah (aM hi)).trans ((ah (aj hi)).trans ((ah (aj hi)).trans ?_))
    rw [tN]
    refine bind_eq v1 ?_
    refine (ah (fC _ _ _ (by omega))).trans ?_
    rw [av hi (by omega)]
    rfl)
   (fun r hr=>by
    simp only [rO]
    exact au (aK _)) (r0:=L.of (Ty.zero (.pair (.int .i64) (.pair (.sl (.int .u32)) .unit))) []) rfl
  exact ⟨_,k1,r,rfl,k2⟩
 have ajG:∀ {va vb vc vd ve vf vh vj vk vl vm vn vo vq vr vs vt vu vv vz vw vx vA xS vB BX:_},Ok (aL rP (((),((),((),((0:Int),())))),(s,(((),((),((),((),((),((),((),((),((),((),((),((),((),((),((),((),((),((),((),((),((),((),((),((),((),((),((),()))))))))))))))))))))))))))),(((),(va,((),(vb,(vc,(vd,(ve,(vf,(vh,(vj,(vk,(vl,(vm,(vn,(vo,(vq,(vr,(vs,((),(vt,((),(vu,(vv,((),((),((),(vz,()))))))))))))))))))))))))))),(vw,(vx,(vA,(xS,(vB,(BX,((L.of (Ty.zero (.pair (.sl (.int .u32)) .unit)) []),())))))))))))) fun z=>∃ r:L Ie,z = .inl (((),((),((),()))),(s,(((),((),((),((),((),((),((),((),((),((),((),((),((),((),((),((),((),((),((),((),((),((),((),((),((),((),((),()))))))))))))))))))))))))))),(((),(va,((),(vb,(vc,(vd,(ve,(vf,(vh,(vj,(vk,(vl,(vm,(vn,(vo,(vq,(vr,(vs,((),(vt,((),(vu,(vv,((),((),((),(vz,()))))))))))))))))))))))))))),(vw,(vx,(vA,(xS,(vB,(BX,(r,()))))))))))) ∧ (r.len = (bW s).len ∧ WL r) ∧ ∀ i,i < (bW s).len→Ht (r.get i) ((bW s).get i) ∧ WL (r.get i).1:=by
  intro va vb vc vd ve vf vh vj vk vl vm vn vo vq vr vs vt vu vv vz vw vx vA xS vB BX
  obtain ⟨r,k1,k2⟩:=yc (step:=rP) (bW s).len (fun i r=>(((),((),((),((i:Int),())))),(s,(((),((),((),((),((),((),((),((),((),((),((),((),((),((),((),((),((),((),((),((),((),((),((),((),((),((),((),()))))))))))))))))))))))))))),(((),(va,((),(vb,(vc,(vd,(ve,(vf,(vh,(vj,(vk,(vl,(vm,(vn,(vo,(vq,(vr,(vs,((),(vt,((),(vu,(vv,((),((),((),(vz,()))))))))))))))))))))))))))),(vw,(vx,(vA,(xS,(vB,(BX,(r,())))))))))))) (fun r=>.inl (((),((),((),()))),(s,(((),((),((),((),((),((),((),((),((),((),((),((),((),((),((),((),((),((),((),((),((),((),((),((),((),((),((),()))))))))))))))))))))))))))),(((),(va,((),(vb,(vc,(vd,(ve,(vf,(vh,(vj,(vk,(vl,(vm,(vn,(vo,(vq,(vr,(vs,((),(vt,((),(vu,(vv,((),((),((),(vz,()))))))))))))))))))))))))))),(vw,(vx,(vA,(xS,(vB,(BX,(r,())))))))))))) (Ty.zero (.pair (.sl (.int .u32)) .unit)) (fun i q=>Ht q ((bW s).get i) ∧ WL q.1)
   (fun i r hi hr=>by
    obtain ⟨v,v1,v2⟩:=Lp (h7' i hi)
    refine ⟨v.1,?_,v2⟩
    simp only [rP]
    refine (ah (aM hi)).trans ((ah (aj hi)).trans ?_)
    rw [tN]
    refine bind_eq v1 ?_
    refine (ah (fC _ _ _ (by omega))).trans ?_
    rw [av hi (by omega)])
   (fun r hr=>by
    simp only [rP]
    exact au (aK _)) (r0:=L.of (Ty.zero (.pair (.sl (.int .u32)) .unit)) []) rfl
  exact ⟨_,k1,r,rfl,k2⟩
 have ajH:∀ {va vb vc vd ve vf vh vj vk vl vm vn vo vq vr vs vt vu vv vw vx vA xS vB BX M5:_},Ok (aL rQ (((),((),((),((0:Int),())))),(s,(((),((),((),((),((),((),((),((),((),((),((),((),((),((),((),((),((),((),((),((),((),((),((),((),((),((),((),()))))))))))))))))))))))))))),(((),(va,((),(vb,(vc,(vd,(ve,(vf,(vh,(vj,(vk,(vl,(vm,(vn,(vo,(vq,(vr,(vs,((),(vt,((),(vu,(vv,((),((),((),((),()))))))))))))))))))))))))))),(vw,(vx,(vA,(xS,(vB,(BX,(M5,((L.of (Ty.zero (.pair (.sl (.int .u32)) (.pair (.sl (.int .u32)) .unit))) []),()))))))))))))) fun z=>∃ r:L De,z = .inl (((),((),())),(((),((),((),((),((),((),((),((),((),((),((),((),((),((),((),((),((),((),((),((),((),((),((),((),((),((),((),()))))))))))))))))))))))))))),(((),(va,((),(vb,(vc,(vd,(ve,(vf,(vh,(vj,(vk,(vl,(vm,(vn,(vo,(vq,(vr,(vs,((),(vt,((),(vu,(vv,((),((),((),((),()))))))))))))))))))))))))))),(vw,(vx,(vA,(xS,(vB,(BX,(M5,(r,()))))))))))) ∧ (r.len = (bq s).len ∧ WL r) ∧ ∀ i,i < (bq s).len→E8 (r.get i) ((bq s).get i) ∧ WL (r.get i).1 ∧ WL (r.get i).2.1:=by
  intro va vb vc vd ve vf vh vj vk vl vm vn vo vq vr vs vt vu vv vw vx vA xS vB BX M5
  obtain ⟨r,k1,k2⟩:=yc (step:=rQ) (bq s).len (fun i r=>(((),((),((),((i:Int),())))),(s,(((),((),((),((),((),((),((),((),((),((),((),((),((),((),((),((),((),((),((),((),((),((),((),((),((),((),((),()))))))))))))))))))))))))))),(((),(va,((),(vb,(vc,(vd,(ve,(vf,(vh,(vj,(vk,(vl,(vm,(vn,(vo,(vq,(vr,(vs,((),(vt,((),(vu,(vv,((),((),((),((),()))))))))))))))))))))))))))),(vw,(vx,(vA,(xS,(vB,(BX,(M5,(r,()))))))))))))) (fun r=>.inl (((),((),())),(((),((),((),((),((),((),((),((),((),((),((),((),((),((),((),((),((),((),((),((),((),((),((),((),((),((),((),()))))))))))))))))))))))))))),(((),(va,((),(vb,(vc,(vd,(ve,(vf,(vh,(vj,(vk,(vl,(vm,(vn,(vo,(vq,(vr,(vs,((),(vt,((),(vu,(vv,((),((),((),((),()))))))))))))))))))))))))))),(vw,(vx,(vA,(xS,(vB,(BX,(M5,(r,())))))))))))) (Ty.zero (.pair (.sl (.int .u32)) (.pair (.sl (.int .u32)) .unit))) (fun i q=>E8 q ((bq s).get i) ∧ WL q.1 ∧ WL q.2.1)
   (fun i r hi hr=>by
    obtain ⟨v,v1,v2⟩:=ajF (h8' i hi)
    refine ⟨v.1.1,?_,v2⟩
    simp only [rQ]
    refine (ah (aM hi)).trans ((ah (aj hi)).trans ?_)
    rw [tN]
    refine bind_eq v1 ?_
    refine (ah (fC _ _ _ (by omega))).trans ?_
    rw [av hi (by omega)])
   (fun r hr=>by
    simp only [rQ]
    exact au (aK _)) (r0:=L.of (Ty.zero (.pair (.sl (.int .u32)) (.pair (.sl (.int .u32)) .unit))) []) rfl
  exact ⟨_,k1,r,rfl,k2⟩
 have gst:Ok (KN s.1) fun a=>Rw a.1.1 s.1 ∧ WL a.1.1.1 ∧ ∀ i,i < a.1.1.2.2.1.len→WL (a.1.1.2.2.1.get i):=by
  unfold KN
  exact Ok.grd (fD _ _ h1) (Ok.bind (af5 h2) fun a ha=>Ok.ret ⟨⟨app0 _ _,rfl,ha.1⟩,wl rfl,ha.2⟩)
 have at':∀ {α:Type} {P:Nat→α→Prop} {x:L α} {n:Nat},x.len = n→(∀ i,i < n→P i (x.get i))→∀ i,i < x.len→P i (x.get i):=fun e h i hi=>h i (by rw [← e]; exact hi)
 unfold Tm
 refine Ok.bind gst fun a ha=>Ok.bind Q5 ?_
 rintro _ ⟨rows,rfl,hA,kA⟩
 refine Ok.grd (fD _ _ h4) (Ok.bind (af5 h5) fun y hy=>Ok.bind Q7 ?_)
 rintro _ ⟨o,rfl,hB,kB⟩
 refine Ok.bind ajG ?_
 rintro _ ⟨q,rfl,hC,kC⟩
 refine Ok.bind ajH ?_
 rintro _ ⟨d,rfl,hD,kD⟩
 have kA:=at' (P:=fun i x=>fE x (s.2.2.2.1.2.1.get i) ∧ WL x) hA.1 kA
 have kB:=at' (P:=fun i x=>Fb x ((bn s).get i) ∧ WL x.2.1) hB.1 kB
 have kC:=at' (P:=fun i x=>Ht x ((bW s).get i) ∧ WL x.1) hC.1 kC
 have kD:=at' (P:=fun i x=>E8 x ((bq s).get i) ∧ WL x.1 ∧ WL x.2.1) hD.1 kD
 exact Ok.ret ⟨⟨ha.1,rfl,rfl,⟨rfl,hA.1,fun i hi=>(kA i hi).1⟩,⟨rfl,app0 _ _⟩,rfl,rfl,hy.1,⟨hB.1,fun i hi=>(kB i hi).1⟩,⟨hC.1,fun i hi=>(kC i hi).1⟩,⟨hD.1,fun i hi=>(kD i hi).1⟩⟩,
  ha.2.1,ha.2.2,fun i hi=>(kA i hi).2,wl rfl,hy.2,⟨hB.2,fun i hi=>(kB i hi).2⟩,⟨hC.2,fun i hi=>(kC i hi).2⟩,hD.2,fun i hi=>(kD i hi).2⟩
theorem MV {t:Tb} {p:Nat} {s:St} {c:Int} (D:mY t p s c):Ok (g9r t (p:Int) s c) fun z=>(z.1.2.2.1 = false ∧ (s.2.2.2.2.2.2.1 = true ∨ s.2.2.1.2.2.2.1 = true ∨ 50000 < c)) ∨ (z.1.2.2.1 = true ∧ s.2.2.2.2.2.2.1 = false ∧ s.2.2.1.2.2.2.1 = false ∧ c≤50000):=by
 have no:∀ {z},z = Du→(s.2.2.2.2.2.2.1 = true ∨ s.2.2.1.2.2.2.1 = true ∨ 50000 < c)→Ok z fun z=>(z.1.2.2.1 = false ∧ (s.2.2.2.2.2.2.1 = true ∨ s.2.2.1.2.2.2.1 = true ∨ 50000 < c)) ∨ (z.1.2.2.1 = true ∧ s.2.2.2.2.2.2.1 = false ∧ s.2.2.1.2.2.2.1 = false ∧ c≤50000):=by
  rintro _ rfl h
  exact Ok.ret (.inl ⟨rfl,h⟩)
 rw [g9r]
 refine Ok.bind D.sp fun a ha=>?_
 rw [ha]
 refine Ok.no rfl (Ok.bif (fun q=>no rfl (.inr (.inr ?_))) fun q=>Ok.bif (fun k=>no rfl (.inl k)) fun k=>Ok.bif (fun j=>no rfl (.inr (.inl j))) fun j=>?_)
 · have q:f42 c 0 50000 = false:=Bool.not_eq_true' _ ▸ q
   rcases Int.lt_or_le 50000 c with h | h
   · exact h
   · rw [(aZ c 0 50000).mpr ⟨D.cy,h⟩] at q; cases q
 have q:f42 c 0 50000 = true:=Bool.not_eq_false' _ ▸ q
 have hc:=(aZ _ _ _).mp q
 exact Ok.bind (af6 (D.pg.bnd D.tg)) fun b hb=>Ok.bind (Rb D.tg (D.same hb.1 hb.2).pg (by omega)) fun z hz=>Ok.ret (.inr ⟨rfl,k,j,hc.2⟩)
theorem MW {t:Tb} {p:Nat} {s:St} {c:Int} (D:mY t p s c):Ok (SV t (p:Int) s c) fun z =>
 (z.1.2.2.1 = false ∧ (s.2.2.2.2.2.2.1 = true ∨ s.2.2.1.2.2.2.1 = true ∨ 50000 < c)) ∨ (z.1.2.2.1 = true ∧ (s.2.2.2.2.2.2.1 = false ∧ s.2.2.1.2.2.2.1 = false ∧ c≤50000) ∧ PG t p z.1.1 ∧ Own t p s z.1.1):=by
 unfold SV wZ
 refine Ok.bind D.is fun a ha=>?_
 rw [ha]
 refine Ok.no rfl (Ok.bif (fun q=>Ok.ret (.inl ⟨rfl,.inr (.inr ?_)⟩)) fun q=>Ok.bif (fun k=>Ok.ret (.inl ⟨rfl,.inl k⟩)) fun k=>Ok.bif (fun j=>Ok.ret (.inl ⟨rfl,.inr (.inl j)⟩)) fun j=>?_)
 · have q:f157 c 0 50000 = false:=Bool.not_eq_true' _ ▸ q
   rcases Int.lt_or_le 50000 c with h | h
   · exact h
   · rw [(oD c 0 50000).mpr ⟨D.cy,h⟩] at q; cases q
 have q:f157 c 0 50000 = true:=Bool.not_eq_false' _ ▸ q
 have hc:=(oD _ _ _).mp q
 refine Ok.bind (YB D) fun b hb=>Ok.bind (af2 D.tg hb.2.pg) fun z hz=>Ok.ret (.inr ⟨rfl,⟨k,j,hc.2⟩,hz.1,hz.2.sm hb.1 hb.2.pg⟩)
theorem DL {x y:L Int} (hl:x.len≤1048576):Ok (g24 x y) fun a=>a.1.1 = true ∨ ¬ fE y x:=by
 unfold g24
 refine Ok.bif (fun q=>Ok.ret (.inr fun h=>?_)) fun q=>Ok.bind (dB (R:=fun z=>z = .inr (.inl ((),())) ∨ (z = .inl ((false,()),()) ∧ ¬ fE y x)) x.len (fun i z=>z = ((x,(y,((i:Int),()))),())) ?_ ?_ _ rfl) ?_
 · rw [h.1] at q; simp at q
 · rintro i _ hi rfl
   have e:(x.len:Int) = y.len:=by simpa using q
   have hi':i < y.len:=by omega
   simp only [EI]
   rw [av hi (by omega),tN]
   exact Ok.grd (aM hi) (Ok.grd (aj hi) (Ok.grd (aj hi') (Ok.bif (fun k=>Ok.ret (.inr ⟨_,rfl,.inr ⟨rfl,fun h=>by rw [h.2 i hi'] at k; simp at k⟩⟩)) fun _=>Ok.ret (.inl ⟨_,rfl,rfl⟩))))
 · rintro _ rfl
   simp only [EI]
   exact Ok.no (aK x.len) (Ok.ret ⟨_,rfl,.inl rfl⟩)
 · rintro _ (rfl | ⟨rfl,h⟩)
   · exact Ok.ret (.inl rfl)
   · exact Ok.ret (.inr h)
theorem up1 {a:Int} (h:a = 0):wI (a + 1) = 1:=by subst h; decide
theorem Ve {n:Nat} (h:0 < n):(decide ((0:Int)≤1)&&(decide ((1:Int)≤(n:Int))&&decide ((n:Int)≤(n:Int)))) = true:=by simp; omega
theorem YE {t:Tb} {p w k:Nat} {s z:St} (g:TG t p) (h:PG t p s) (hz:PG t p z)
 (k1:∀ i,i < (tChans t).len→((bn z).get i).1 = ((bn s).get i).1 ∧ (fE ((bn z).get i).2.1 ((bn s).get i).2.1 ∨ ((bn z).get i).2.1.len = 0 ∨ (w = 1 ∧ i = k ∧ ((tChans t).get i).2.1 = p ∧ ((bn z).get i).2.1.len≤((bn s).get i).2.1.len + 1)))
 (k2:∀ i,i < (tChans t).len→fE ((bW z).get i).1 ((bW s).get i).1 ∨ (w = 2 ∧ i = k ∧ ((tChans t).get i).2.2.1 = p ∧ ((tChans t).get i).1 = 1 ∧ 0 < ((bW s).get i).1.len ∧ fE ((bW z).get i).1 (L.cut ((bW s).get i).1 1 ((bW s).get i).1.len)))
 {b7 vD u0 u9 wd we:_}:Ok (aL GH (((),((p:Int),((),((),((0:Int),((0:Int),())))))),(t,(s,(b7,(vD,(u0,(u9,(wd,(we,((bn z),((bW z),((bq z),()))))))))))))) fun d=>∃ n:Int,d = .inr (.inl (((),((p:Int),((),((),(n,()))))),(t,(s,(b7,(vD,(u0,(u9,(wd,(we,(bn z,(bW z,(bq z,()))))))))))))) ∧ (n = 0 ∨ (n = 1 ∧ (w = 1 ∨ w = 2))):=by
 have h8:=g.ch.1
 have so:=h.ou.1
 have si:=h.is.1
 have zo:=hz.ou.1
 have zi:=hz.is.1
 refine dB (tChans t).len (fun i y=>∃ n:Int,y = (((),((p:Int),((),((),(n,((i:Int),())))))),(t,(s,(b7,(vD,(u0,(u9,(wd,(we,((bn z),((bW z),((bq z),())))))))))))) ∧ (n = 0 ∨ (n = 1 ∧ (w = 1 ∨ w = 2) ∧ k < i))) ?_ ?_ _ ⟨0,rfl,.inl rfl⟩
 · rintro i _ hi ⟨n,rfl,hn⟩
   obtain ⟨a1,a2⟩:=k1 i hi
   have a3:=k2 i hi
   have iso:(decide ((0:Int)≤(i:Int))&&decide ((i:Int) < (s.2.2.2.2.2.2.2.2.1.len:Int))) = true:=aj (n:=(bn s).len) (by omega)
   have isi:(decide ((0:Int)≤(i:Int))&&decide ((i:Int) < (s.2.2.2.2.2.2.2.2.2.1.len:Int))) = true:=aj (n:=(bW s).len) (by omega)
   have le1:((bn s).get i).2.1.len≤8:=(h.ou.each (by omega)).1
   have le2:((bW s).get i).1.len≤8:=(h.is.each (by omega)).1
   have le3:((bW z).get i).1.len≤8:=(hz.is.each (by omega)).1
   have sJ:∀ {m:Int},(m = 0 ∨ (m = 1 ∧ (w = 1 ∨ w = 2) ∧ k≤i ∧ (w = 2→k < i)))→Ok (vE (i:Int) s (bW z) t (p:Int) b7 vD u0 u9 wd we (bn z) (bq z) m) fun d=>(∃ y,d = .inl y ∧ ∃ n:Int,y = (((),((p:Int),((),((),(n,(((i + 1:Nat):Int),())))))),(t,(s,(b7,(vD,(u0,(u9,(wd,(we,((bn z),((bW z),((bq z),())))))))))))) ∧ (n = 0 ∨ (n = 1 ∧ (w = 1 ∨ w = 2) ∧ k < i + 1))) ∨ ∃ e,d = .inr e ∧ ∃ n:Int,e = .inr (.inl (((),((p:Int),((),((),(n,()))))),(t,(s,(b7,(vD,(u0,(u9,(wd,(we,(bn z,(bW z,(bq z,()))))))))))))) ∧ (n = 0 ∨ (n = 1 ∧ (w = 1 ∨ w = 2))):=by
    intro m hm
    unfold vE
    rw [av hi (by omega),tN]
    refine Ok.grd isi (Ok.grd (aj (n:=(bW z).len) (by omega)) (Ok.bind (DL (x:=((bW s).get i).1) (y:=((bW z).get i).1) (by omega)) fun a ha=>Ok.bif (fun q=>?_) fun q=>Ok.ret (.inl ⟨_,rfl,m,rfl,hm.imp id fun ⟨b1,b2,b3,b4⟩=>⟨b1,b2,by omega⟩⟩)))
    have q:a.1.1 = false:=by simpa using q
    have ns:¬ fE ((bW z).get i).1 ((bW s).get i).1:=ha.elim (fun e=>by rw [q] at e; cases e) id
    obtain ⟨c1,c2,c3,c4,c5,c6⟩:=a3.resolve_left ns
    have lz:=c6.1
    have lz:((bW z).get i).1.len = ((bW s).get i).1.len - 1:=lz
    have m0:m = 0:=by
     rcases hm with e | ⟨_,_,_,e⟩
     · exact e
     · have:=e c1; omega
    refine Ok.grd (aj hi) (Ok.no (by simp; exact c3) (Ok.grd (aj hi) (Ok.no (by simp; exact c4) (Ok.no ?_ (Ok.grd (Ve c5) (Ok.bind (DL (x:=((bW z).get i).1) (y:=L.cut ((bW s).get i).1 1 ((bW s).get i).1.len) (by omega)) fun b hb=>Ok.no ?_ (Ok.ret (.inl ⟨_,rfl,1,?_,.inr ⟨rfl,.inr c1,by omega⟩⟩))))))))
    · show ((((bW z).get i).1.len:Int) != wI ((((bW s).get i).1.len:Int) - 1)) = false
      rw [aJ (by omega) (by omega)]
      simp; omega
    · rw [hb.elim id fun e=>absurd (fE.symm c6) e]; rfl
    · rw [up1 m0]
   simp only [GH]
   rw [tN]
   refine Ok.grd (aM hi) (Ok.grd iso (Ok.grd (aj (n:=(bn z).len) (by omega)) (Ok.no (by simp; exact a1.symm) (Ok.bind (DL (x:=((bn s).get i).2.1) (y:=((bn z).get i).2.1) (by omega)) fun a ha=>Ok.bif (fun q=>?_) fun q=>sJ (hn.imp id fun ⟨b1,b2,b3⟩=>⟨b1,b2,by omega,fun _=>b3⟩)))))
   have q:a.1.1 = false:=by simpa using q
   have ns:¬ fE ((bn z).get i).2.1 ((bn s).get i).2.1:=ha.elim (fun e=>by rw [q] at e; cases e) id
   have a2:=a2.resolve_left ns
   have own:((tChans t).get i).2.1 = p:=by
    rcases a2 with e | ⟨_,_,e,_⟩
    · refine Classical.byContradiction fun ne=>ns ?_
      have e':=((h.ou.2.1 i hi).2 ne).2
      exact ⟨e.trans e'.symm,fun j hj=>by rw [e] at hj; exact absurd hj (Nat.not_lt_zero j)⟩
    · exact e
   have lz:((bn z).get i).2.1.len≤((bn s).get i).2.1.len + 1:=by
    rcases a2 with e | ⟨_,_,_,e⟩ <;> omega
   refine Ok.grd (aj hi) (Ok.no (by simp; exact own) (Ok.no ?_ (Ok.bif (fun b=>?_) fun b=>sJ (hn.imp id fun ⟨b1,b2,b3⟩=>⟨b1,b2,by omega,fun _=>b3⟩))))
   · show decide ((((bn z).get i).2.1.len:Int) > wI ((((bn s).get i).2.1.len:Int) + 1)) = false
     rw [aJ (by omega) (by omega)]
     simp; omega
   · have b:0 < ((bn z).get i).2.1.len:=by
      have b:((((bn z).get i).2.1.len:Int) > 0):=by simpa using b
      omega
     rcases a2 with e | ⟨e1,e2,_⟩
     · omega
     · rw [up1 (hn.elim id fun ⟨_,_,e⟩=>by omega)]
       exact sJ (.inr ⟨rfl,.inl e1,by omega,fun e=>by omega⟩)
 · rintro _ ⟨n,rfl,hn⟩
   simp only [GH]
   exact Ok.no (aK (tChans t).len) (Ok.ret ⟨_,rfl,n,rfl,hn.imp id fun ⟨b1,b2,_⟩=>⟨b1,b2⟩⟩)
theorem af7 {t:Tb} {p w k:Nat} {s z:St} {n:Int} (g:TG t p) (h:PG t p s) (hz:PG t p z) (hn:n = 0 ∨ (n = 1 ∧ (w = 1 ∨ w = 2)))
 (k3:∀ i,i < (tDevs t).len→fE ((bq z).get i).1 ((bq s).get i).1 ∧ (fE ((bq z).get i).2.1 ((bq s).get i).2.1 ∨ (w = 3 ∧ i = k ∧ (tDevs t).get i = p ∧ 0 < ((bq s).get i).2.1.len ∧ fE ((bq z).get i).2.1 (L.cut ((bq s).get i).2.1 1 ((bq s).get i).2.1.len))))
 {b7 vD u0 u9 wd we w0 w5:_}:Ok (aL GI (((),((p:Int),((),((),(n,((0:Int),())))))),(t,(s,(b7,(vD,(u0,(u9,(wd,(we,(w0,(w5,((bq z),()))))))))))))) fun d=>∃ n:Int,d = .inr (.inl ((n,()),())) ∧ n≤1:=by
 have h8:=g.dv
 have sd:=h.de.1
 have zd:=hz.de.1
 refine dB (tDevs t).len (fun i y=>∃ n:Int,y = (((),((p:Int),((),((),(n,((i:Int),())))))),(t,(s,(b7,(vD,(u0,(u9,(wd,(we,(w0,(w5,((bq z),())))))))))))) ∧ (n = 0 ∨ (n = 1 ∧ (w = 3→k < i)))) ?_ ?_ _ ⟨n,rfl,hn.imp id fun ⟨e,q⟩=>⟨e,fun _=>by omega⟩⟩
 · rintro i _ hi ⟨n,rfl,hn⟩
   obtain ⟨a1,a2⟩:=k3 i hi
   have isd:(decide ((0:Int)≤(i:Int))&&decide ((i:Int) < (s.2.2.2.2.2.2.2.2.2.2.1.len:Int))) = true:=aj (n:=(bq s).len) (by omega)
   have le1:=(h.de.each (i:=i) (by omega)).1
   have le2:=(hz.de.each (i:=i) (by omega)).1
   simp only [GI]
   rw [av hi (by omega),tN]
   refine Ok.grd (aM hi) (Ok.grd isd (Ok.grd (aj (n:=(bq z).len) (by omega)) (Ok.bind (DL (x:=((bq s).get i).1) (y:=((bq z).get i).1) (by omega)) fun a ha=>Ok.no ?_ (Ok.bind (DL (x:=((bq s).get i).2.1) (y:=((bq z).get i).2.1) (by omega)) fun b hb=>Ok.bif (fun q=>?_) fun q=>Ok.ret (.inl ⟨_,rfl,n,rfl,hn.imp id fun ⟨b1,b2⟩=>⟨b1,fun e=>by have:=b2 e; omega⟩⟩)))))
   · rw [ha.elim id fun e=>absurd a1 e]; rfl
   have q:b.1.1 = false:=by simpa using q
   obtain ⟨c1,c2,c3,c5,c6⟩:=a2.resolve_left (hb.elim (fun e=>by rw [q] at e; cases e) id)
   have lz:((bq z).get i).2.1.len = ((bq s).get i).2.1.len - 1:=c6.1
   refine Ok.grd (aj hi) (Ok.no (by simp; exact c3) (Ok.no ?_ (Ok.grd (Ve c5) (Ok.bind (DL (x:=((bq z).get i).2.1) (y:=L.cut ((bq s).get i).2.1 1 ((bq s).get i).2.1.len) (by omega)) fun b hb=>Ok.no ?_ (Ok.ret (.inl ⟨_,rfl,1,?_,.inr ⟨rfl,fun _=>by omega⟩⟩))))))
   · show ((((bq z).get i).2.1.len:Int) != wI ((((bq s).get i).2.1.len:Int) - 1)) = false
     rw [aJ (by omega) (by omega)]
     simp; omega
   · rw [hb.elim id fun e=>absurd (fE.symm c6) e]; rfl
   · rw [up1 (hn.elim id fun ⟨_,e⟩=>by have:=e c1; omega)]
 · rintro _ ⟨n,rfl,hn⟩
   simp only [GI]
   exact Ok.no (aK (tDevs t).len) (Ok.ret ⟨_,rfl,n,rfl,by omega⟩)
theorem law (code:L Int):g5 code = some ((true,()),()):=by
 have key:Yes (g5 code):=by
  unfold Yes
  rw [g5]
  refine Ok.bif (fun _=>Ok.ret rfl) fun hb=>?_
  have hb:code.len≤1048576:=by
   unfold f19 at hb
   simp at hb; omega
  have h46:(2:Nat) ^ 46 = 70368744177664:=by decide
  refine Ok.bind (Yp (by omega)) ?_
  rintro ⟨⟨t,p',s,cy,⟨⟩⟩,⟨⟩⟩ ⟨p,hp,D⟩
  dsimp only at hp D ⊢
  subst hp
  refine Ok.bind (MW D) ?_
  rintro ⟨⟨z,e,ok,⟨⟩⟩,⟨⟩⟩ hz
  refine Ok.bind (MV D) ?_
  rintro ⟨⟨z',e',ok',⟨⟩⟩,⟨⟩⟩ hs
  dsimp only at hz hs ⊢
  rcases hs with ⟨rfl,no⟩ | ⟨rfl,y1,y2,y3⟩
  · refine Ok.grd rfl (Ok.ret ?_)
    rcases hz with ⟨rfl,_⟩ | ⟨_,⟨h1,h2,h3⟩,_⟩
    · rfl
    · rcases no with q | q | q
      · rw [h1] at q; cases q
      · rw [h2] at q; cases q
      · omega
  · rcases hz with ⟨_,q | q | q⟩ | ⟨rfl,_,hz,w,k,k1,k2,k3⟩
    · rw [y1] at q; cases q
    · rw [y2] at q; cases q
    · omega
    have e1:(bn z).len = (tChans t).len:=hz.ou.1
    have e2:(bW z).len = (tChans t).len:=hz.is.1
    have e3:(bq z).len = (tDevs t).len:=hz.de.1
    refine Ok.no rfl (Ok.no rfl (Ok.no (by simp; exact congrArg Nat.cast e1) (Ok.no (by simp; exact congrArg Nat.cast e2) (Ok.no (by simp; exact congrArg Nat.cast e3) (Ok.bind (YE D.tg D.pg hz k1 k2) ?_)))))
    rintro _ ⟨n,rfl,hn⟩
    refine Ok.bind (af7 D.tg D.pg hz hn k3) ?_
    rintro _ ⟨n,rfl,hn⟩
    exact Ok.ret (by simpa using hn)
 obtain ⟨⟨⟨a,⟨⟩⟩,⟨⟩⟩,e,rfl⟩:=key
 exact e
theorem plain:∀ x,J7 UN x→∃ z,c5.F x = some ((true,()),z):=by
 rintro ⟨code,⟨⟩⟩ _
 exact ⟨(),law code⟩
end Go.VE.VFnOwn
