import Derived.Test.YtgllenfbilnneaaGreatVFnForgetsLaws0
/- More plain laws of what laws.FnForgets calls. -/
set_option linter.unusedVariables false
set_option linter.unusedSimpArgs false
namespace Go.VE.VFnForgets
open Go.VE
def FitG (ws:L Wi) (x:Im):Prop:=x.len = ws.len ∧ ∀ i,i < ws.len→((x.get i).len:Int) = (ws.get i).2.1 ∧ (x.get i).nil = false
theorem most_le2 {n:Nat} (h:n≤100000):decide (n≤most) = true:=by
 have:most = 4294967296:=by decide
 simp only [decide_eq_true_eq]; omega
theorem bytesL (w:Int):(f269r w).len = 4:=rfl
set_option maxHeartbeats 1000000 in
theorem imageK {c:Cur} (h:Cw c) (t:Tb) (p:Nat) (hp:p < (tParts t).len) (hw2:2≤((tParts t).get p).2.2.2.1.len) (hw4:((tParts t).get p).2.2.2.1.len≤4) (hws:∀ i,i < ((tParts t).get p).2.2.2.1.len→f308 (((tParts t).get p).2.2.2.1.get i) = true) (hch:(tChans t).len≤8) (hdv:(tDevs t).len≤8) :
 Ok (g209rd c t p) fun a=>FitG ((tParts t).get p).2.2.2.1 a.1.1 ∧ Cw a.2.1:=by
 unfold g209rd
 have hp':(decide (0≤(p:Int))&&decide ((p:Int) < (t.2.2.2.2.2.2.2.1.len:Int))) = true:=idx_in hp
 have inner:∀ (i:Nat) (c:Cur) (ws:L Int) (r13:Im),ws.len≤512→Cw c→Ok (fixO s209rd_L2 (((),((p:Int),((),((),((i:Int),((),(ws,((0:Int),())))))))),(c,(t,(r13,((L.of (Ty.zero (.int .u8)) []),())))))) fun z=>∃ r:L Int,z = .inl (((),((p:Int),((),((),((i:Int),((),())))))),(c,(t,(r13,(r,()))))) ∧ r.len = 4 * ws.len ∧ r.nil = false:=by
  intro i c ws r13 hl hc
  refine loopK ws.len (fun k x=>∃ r:L Int,x = (((),((p:Int),((),((),((i:Int),((),(ws,((k:Int),())))))))),(c,(t,(r13,(r,()))))) ∧ r.len = 4 * k ∧ r.nil = false) ?_ ?_ _ ⟨_,rfl,rfl,rfl⟩
  · rintro k _ hk ⟨r,rfl,hr,hn⟩
    simp only [s209rd_L2,q209rd_L2]
    rw [wI_succ hk (by omega)]
    refine Ok.grd (idx_lt hk) (Ok.grd (idx_in hk) (Ok.grd (by rw [bytesL]; exact most_le2 (by omega)) (Ok.ret (.inl ⟨_,rfl,_,rfl,?_,by show (r.nil&&_) = false; rw [hn]; rfl⟩))))
    show r.len + 4 = 4 * (k + 1)
    omega
  · rintro _ ⟨r,rfl,hr,hn⟩
    simp only [s209rd_L2,q209rd_L2]
    rw [bif_f (idx_end ws.len)]
    exact Ok.ret ⟨_,rfl,r,rfl,hr,hn⟩
 refine Ok.bind (loopK (R:=fun z=>∃ (c':Cur) (r:Im),z = .inl (((),()),(r,(c',()))) ∧ FitG ((tParts t).get p).2.2.2.1 r ∧ Cw c') ((tParts t).get p).2.2.2.1.len (fun i x=>∃ (c:Cur) (r:Im),x = (((),((p:Int),((),((),((i:Int),()))))),(c,(t,(r,())))) ∧ r.len = i ∧ (∀ k,k < i→((r.get k).len:Int) = (((tParts t).get p).2.2.2.1.get k).2.1 ∧ (r.get k).nil = false) ∧ Cw c) ?_ ?_ _ ⟨c,_,rfl,rfl,fun k hk=>absurd hk (Nat.not_lt_zero k),h⟩) ?_
 · rintro i _ hi ⟨c,r,rfl,hr,hk,hc⟩
   have hwi:=(f308_iff _).mp (hws i hi)
   have hsz:wI (Int.tdiv (((tParts t).get p).2.2.2.1.get i).2.1 4) = (((((tParts t).get p).2.2.2.1.get i).2.1 / 4).toNat:Int):=by
    rw [Int.tdiv_eq_ediv_of_nonneg (by omega),wI_id (by omega) (by omega)]; omega
   have hm4:(((tParts t).get p).2.2.2.1.get i).2.1 % 4 = 0:=by
    have:=hwi.2.2.2.1
    rwa [Int.tmod_eq_emod_of_nonneg (by omega)] at this
   simp only [s209rd_L0,q209rd_L0,tN]
   have hi2:(decide (0≤(i:Int))&&decide ((i:Int) < ((L.get t.2.2.2.2.2.2.2.1 p).2.2.2.1.len:Int))) = true:=idx_in hi
   have hi3:decide ((i:Int) < ((L.get t.2.2.2.2.2.2.2.1 p).2.2.2.1.len:Int)) = true:=idx_lt hi
   have hsz':wI (Int.tdiv (L.get (L.get t.2.2.2.2.2.2.2.1 p).2.2.2.1 i).2.1 4) = (((((tParts t).get p).2.2.2.1.get i).2.1 / 4).toNat:Int):=hsz
   rw [hsz']
   have fin:∀ (ws:L Int) (c:Cur),ws.len = ((((tParts t).get p).2.2.2.1.get i).2.1 / 4).toNat→Cw c→∀ b:L Int,b.len = 4 * ws.len ∧ b.nil = false→(∃ (c':Cur) (r':Im),(((),((p:Int),((),((),(((i + 1:Nat):Int),()))))),(c,(t,((L.app r (L.of (Ty.zero (.sl (.int .u8))) [b])),())))) = (((),((p:Int),((),((),(((i + 1:Nat):Int),()))))),(c',(t,(r',())))) ∧ r'.len = i + 1 ∧ (∀ k,k < i + 1→((r'.get k).len:Int) = (((tParts t).get p).2.2.2.1.get k).2.1 ∧ (r'.get k).nil = false) ∧ Cw c'):=by
    rintro ws c hws hc b ⟨hb,hbn⟩
    refine ⟨c,_,rfl,congrArg Nat.succ hr,fun k hk'=>?_,hc⟩
    by_cases e:k = r.len
    · subst e
      rw [app_hi,hb,hws,hr]
      exact ⟨by omega,hbn⟩
    · rw [app_lo _ _ (by omega)]
      exact hk k (by omega)
   refine Ok.grd hp' (Ok.grd hi3 (Ok.grd hp' (Ok.grd hi2 (Ok.bif (fun _=>?_) fun _=>?_))))
   · refine Ok.bind (guestWK hc t p hp hw2 hch hdv _ (by omega)) fun y hy=>Ok.bind (inner i y.2.1 y.1.1 r (by omega) hy.2) ?_
     rintro _ ⟨b,rfl,hb⟩
     simp only
     rw [wI_succ hi (by omega)]
     exact Ok.grd (fit1 (by omega)) (Ok.ret (.inl ⟨_,rfl,fin y.1.1 y.2.1 hy.1 hy.2 b hb⟩))
   · refine Ok.bind (wordsK hc _ (by omega)) fun y hy=>Ok.bind (inner i y.2.1 y.1.1 r (by omega) hy.2) ?_
     rintro _ ⟨b,rfl,hb⟩
     simp only
     rw [wI_succ hi (by omega)]
     exact Ok.grd (fit1 (by omega)) (Ok.ret (.inl ⟨_,rfl,fin y.1.1 y.2.1 hy.1 hy.2 b hb⟩))
 · rintro _ ⟨c,r,rfl,hr,hk,hc⟩
   simp only [s209rd_L0,q209rd_L0,tN]
   have he:decide (((((tParts t).get p).2.2.2.1.len:Nat):Int) < ((L.get t.2.2.2.2.2.2.2.1 p).2.2.2.1.len:Int)) = false:=idx_end ((tParts t).get p).2.2.2.1.len
   rw [bif_t hp',bif_f he]
   exact Ok.ret ⟨_,rfl,c,r,rfl,⟨hr,hk⟩,hc⟩
 · rintro _ ⟨c,r,rfl,hr,hc⟩
   exact Ok.ret ⟨hr,hc⟩
theorem wrap_u32 (n:Int):IntKind.wrap .u32 n = n % 4294967296:=by
 unfold IntKind.wrap
 simp [IntKind.bits,IntKind.signed]
theorem wrap_u64 (n:Int):IntKind.wrap .u64 n = n % 18446744073709551616:=by
 unfold IntKind.wrap
 simp [IntKind.bits,IntKind.signed]
theorem u32_in (n:Int):0≤IntKind.wrap .u32 n ∧ IntKind.wrap .u32 n≤4294967295:=by rw [wrap_u32]; omega
theorem u64_in (n:Int):0≤IntKind.wrap .u64 n:=by rw [wrap_u64]; omega
theorem z9:(0:Int)≤0 ∧ (0:Int)≤9:=by decide
theorem z4:(0:Int)≤4 ∧ (4:Int)≤9:=by decide
theorem z5:(0:Int)≤5 ∧ (5:Int)≤9:=by decide
theorem z0:(0:Int)≤0 ∧ (0:Int)≤4294967295:=by decide
theorem zm:(-1:Int)≤-1 ∧ (-1:Int)≤32:=by decide
theorem zt:(-1:Int)≤-1 ∧ (-1:Int)≤65535:=by decide
theorem bitK (x i:Int):Ok (g260 x i) fun _=>True:=by
 unfold g260
 exact Ok.grd (decide_eq_true (u64_in i)) (Ok.ret trivial)
def WG (ws:L Wi):Prop:=ws.len≤4 ∧ ∀ i,i < ws.len→f308 (ws.get i) = true
def GuR (ws:L Wi) (regs:L Int) (ram:Im):Prop:=regs.len = 16 ∧ regs.get 0 = 0 ∧ FitG ws ram ∧ regs.nil = false
theorem atK {ws:L Wi} (hw:WG ws) (x:Int):Ok (g346 ws x) fun a=>a = (((-1:Int),()),()) ∨ ∃ i:Nat,a = (((i:Int),()),()) ∧ i < ws.len ∧ f343 (ws.get i) x = true:=by
 have hl:=hw.1
 unfold g346
 refine Ok.bind (loopK (R:=fun z=>z = .inr (.inl ((),())) ∨ ∃ i:Nat,z = .inl (((i:Int),()),()) ∧ i < ws.len ∧ f343 (ws.get i) x = true) ws.len (fun i y=>y = ((ws,(x,((i:Int),()))),())) ?_ ?_ _ rfl) ?_
 · rintro i _ hi rfl
   simp only [s346_L0,q346_L0]
   rw [wI_succ hi (by omega),tN]
   exact Ok.grd (idx_lt hi) (Ok.grd (idx_in hi) (Ok.bif (fun h=>Ok.ret (.inr ⟨_,rfl,.inr ⟨i,rfl,hi,h⟩⟩)) fun _=>Ok.ret (.inl ⟨_,rfl,rfl⟩)))
 · rintro _ rfl
   simp only [s346_L0,q346_L0]
   rw [bif_f (idx_end ws.len)]
   exact Ok.ret ⟨_,rfl,.inl rfl⟩
 · rintro _ (rfl | ⟨i,rfl,hi⟩)
   · exact Ok.ret (.inl rfl)
   · exact Ok.ret (.inr ⟨i,rfl,hi⟩)
def NoFault (ws:L Wi) (x n:Int) (a:(Int×Unit)×Unit):Prop:=(a.1.1 != 0) = false→Int.tmod (wI x) n = 0 ∧ ∃ i:Nat,g346 ws (wI x) = some (((i:Int),()),()) ∧ i < ws.len ∧ f343 (ws.get i) (wI x) = true
theorem faultK {ws:L Wi} {x n k:Int} (hw:WG ws) (hn:n ≠ 0) (hk:k ≠ 0):Ok (g318 ws x n k) fun a=>(0≤a.1.1 ∧ a.1.1≤9) ∧ NoFault ws x n a:=by
 unfold g318
 refine Ok.grd (by simpa using hn) (Ok.bif (fun _=>Ok.ret ⟨by decide,fun q=>by cases q⟩) fun h=>?_)
 obtain ⟨a,e,ha⟩:=atK hw (wI x)
 rw [e]
 rcases ha with rfl | ⟨i,rfl,hi,hx⟩
 · exact Ok.ret ⟨by decide,fun q=>by cases q⟩
 · simp only [oB]
   refine Ok.bif (fun q=>?_) fun _=>Ok.grd (idx_in hi) (Ok.grd (by simpa using hk) (Ok.bif (fun _=>Ok.ret ⟨by decide,fun q=>by cases q⟩) fun _=>Ok.ret ⟨by decide,fun _=>⟨by simpa using h,i,e,hi,hx⟩⟩))
   simp at q; omega
theorem placeK {ws:L Wi} {x n:Int} {i:Nat} (hw:WG ws) (hn:n = 1 ∨ n = 4) (h0:Int.tmod x n = 0) (hi:i < ws.len) (hx:f343 (ws.get i) x = true):0≤x - (ws.get i).1 ∧ x - (ws.get i).1 + n≤(ws.get i).2.1 ∧ 0≤x ∧ x≤2048 ∧ (ws.get i).2.1≤2048 ∧ 0≤(ws.get i).1:=by
 have h1:=(f308_iff _).mp (hw.2 i hi)
 have h2:=(f343_iff _ _ (hw.2 i hi)).mp hx
 rcases hn with rfl | rfl
 · omega
 · have a1:=h1.2.2.1
   have a2:=h1.2.2.2.1
   rw [Int.tmod_eq_emod_of_nonneg (by omega)] at a1 a2 h0
   omega
theorem getK {ws:L Wi} {g:Gu} {x n:Int} {y:(Int×Unit)×Unit} (hw:WG ws) (hg:GuR ws g.1 g.2.2.1) (hn:n = 1 ∨ n = 4) (hy:NoFault ws x n y) (h:(y.1.1 != 0) = false):Ok (g319 ws g (wI x) n) fun a=>(0≤a.1.1 ∧ a.1.1≤4294967295) ∧ 0≤wI x ∧ wI x≤2048:=by
 obtain ⟨h0,i,e,hi,hx⟩:=hy h
 obtain ⟨p1,p2,p3,p4,p5,p6⟩:=placeK hw hn h0 hi hx
 obtain ⟨_,_,⟨f1,f2⟩,_⟩:=hg
 have fi:=(f2 i hi).1
 have hir:i < g.2.2.1.len:=by rw [f1]; exact hi
 obtain ⟨m,rfl⟩:∃ m:Nat,n = m:=⟨n.toNat,by omega⟩
 unfold g319
 rw [e]
 simp only [oB]
 generalize wI x = x at *
 refine Ok.bind (loopK (R:=fun z=>∃ v:Int,z = .inl ((v,()),())) m (fun k y=>∃ v:Int,y = ((ws,(x,((),((i:Int),(v,(((m:Int) - 1 - k),())))))),(g,()))) ?_ ?_ _ ⟨0,?_⟩) ?_
 · rintro k _ hk ⟨v,rfl⟩
   simp only [s319_L0,q319_L0]
   rw [wI_id (n:=(m:Int) - 1 - k - 1) (by omega) (by omega),tN,wI_id (n:=x - (ws.get i).1) (by omega) (by omega),wI_id (n:=x - (ws.get i).1 + ((m:Int) - 1 - k)) (by omega) (by omega)]
   refine Ok.grd (by simp; omega) (Ok.grd (idx_in hir) (Ok.grd (idx_in hi) (Ok.grd (by simp; omega) (Ok.ret (.inl ⟨_,rfl,wI (wI (256 * v) + wI ((g.2.2.1.get i).get (x - (ws.get i).1 + ((m:Int) - 1 - k)).toNat)),?_⟩)))))
   have:(m:Int) - 1 - ((k + 1:Nat):Int) = (m:Int) - 1 - k - 1:=by omega
   rw [this]
 · rintro _ ⟨v,rfl⟩
   simp only [s319_L0,q319_L0]
   rw [bif_f (by simp; omega)]
   exact Ok.ret ⟨_,rfl,v,rfl⟩
 · rw [wI_id (n:=(m:Int) - 1) (by omega) (by omega)]
   simp
 · rintro _ ⟨v,rfl⟩
   exact Ok.ret ⟨u32_in _,p3,p4⟩
theorem setK {ws:L Wi} {g:Gu} {a v:Int} (hg:GuR ws g.1 g.2.2.1) (ha:0≤a ∧ a≤15):Ok (g321w g a v) fun z=>GuR ws z.2.1.1 z.2.1.2.2.1:=by
 obtain ⟨h1,h2,h3⟩:=hg
 unfold g321w
 refine Ok.bif (fun h=>Ok.grd (by rw [h1]; simp; omega) (Ok.ret ⟨h1,?_,h3⟩)) fun _=>Ok.ret ⟨h1,h2,h3⟩
 have h:0 < a:=by simpa using h
 show (L.set g.1 a.toNat v).get 0 = 0
 rw [set_ne_get _ _ (by omega)]
 exact h2
theorem putK {ws:L Wi} {g:Gu} {x n v:Int} {y:(Int×Unit)×Unit} (hw:WG ws) (hg:GuR ws g.1 g.2.2.1) (hn:n = 1 ∨ n = 4) (hy:NoFault ws x n y) (h:(y.1.1 != 0) = false):Ok (g322w ws g (wI x) n v) fun z=>GuR ws z.2.1.1 z.2.1.2.2.1 ∧ 0≤wI x ∧ wI x≤2048:=by
 obtain ⟨h0,i,e,hi,hx⟩:=hy h
 obtain ⟨p1,p2,p3,p4,p5,p6⟩:=placeK hw hn h0 hi hx
 obtain ⟨q1,q2,⟨f1,f2⟩,f3⟩:=hg
 obtain ⟨m,rfl⟩:∃ m:Nat,n = m:=⟨n.toNat,by omega⟩
 unfold g322w
 rw [e]
 simp only [oB]
 generalize wI x = x at *
 refine Ok.bind (loopK (R:=fun z=>∃ r:Im,z = .inl ((),(g.1,(r,()))) ∧ FitG ws r) m (fun k y=>∃ r:Im,y = ((ws,(x,((m:Int),((),((i:Int),((),((k:Int),()))))))),(((),(g.2.1,((),()))),((f269r v),(g.1,(r,()))))) ∧ FitG ws r) ?_ ?_ _ ⟨g.2.2.1,rfl,f1,f2⟩) ?_
 · rintro k _ hk ⟨r,rfl,r1,r2⟩
   have ri:=(r2 i hi).1
   simp only [s322w_L0,q322w_L0]
   rw [wI_succ hk (by omega),tN,wI_id (n:=x - (ws.get i).1) (by omega) (by omega),wI_id (n:=x - (ws.get i).1 + (k:Int)) (by omega) (by omega)]
   refine Ok.grd (idx_lt hk) (Ok.grd (by rw [r1]; exact idx_in hi) (Ok.grd (idx_in hi) (Ok.grd (by rw [bytesL]; exact idx_in (by omega)) (Ok.grd (by simp; omega) (Ok.ret (.inl ⟨_,rfl,_,rfl,r1,fun j hj=>?_⟩))))))
   by_cases q:j = i
   · subst q
     rw [upd_eq_get]
     exact r2 j hj
   · rw [upd_ne_get _ _ q]
     exact r2 j hj
 · rintro _ ⟨r,rfl,hr⟩
   simp only [s322w_L0,q322w_L0]
   rw [bif_f (idx_end m)]
   exact Ok.ret ⟨_,rfl,r,rfl,hr⟩
 · rintro _ ⟨r,rfl,hr⟩
   exact Ok.ret ⟨⟨q1,q2,hr,f3⟩,p3,p4⟩
theorem sarK (x n:Int):Ok (g347 x n) fun _=>True:=by
 unfold g347
 refine Ok.bind (loopK (R:=fun z=>∃ v:Int,z = .inl ((v,()),())) 32 (fun k y=>∃ v:Int,y = ((x,((wI (Int.tmod n 32)),(v,(((31:Int) - k),())))),())) ?_ ?_ _ ⟨0,rfl⟩) ?_
 · rintro k _ hk ⟨v,rfl⟩
   simp only [s347_L0,q347_L0]
   rw [wI_id (n:=(31:Int) - k - 1) (by omega) (by omega),show (31:Int) - k - 1 = 31 - ((k + 1:Nat):Int) by omega]
   exact Ok.grd (by simp; omega) (Ok.bif (fun _=>Ok.bind (bitK _ _) fun _ _=>Ok.ret (.inl ⟨_,rfl,_,rfl⟩)) fun _=>Ok.bind (bitK _ _) fun _ _=>Ok.ret (.inl ⟨_,rfl,_,rfl⟩))
 · rintro _ ⟨v,rfl⟩
   simp only [s347_L0,q347_L0]
   rw [bif_f (by simp)]
   exact Ok.ret ⟨_,rfl,v,rfl⟩
 · rintro _ ⟨v,rfl⟩
   exact Ok.ret trivial
theorem aluK (o a b:Int):Ok (g320 o a b) fun y=>0≤y.1.2.1 ∧ y.1.2.1≤9:=by
 unfold g320
 repeat' (first | (refine Ok.bind (sarK _ _) ?_; intro _ _) | refine Ok.grd (decide_eq_true (u64_in _)) ?_ | refine Ok.bif (fun _=>?_) (fun _=>?_))
 all_goals first | exact Ok.ret z9 | exact Ok.ret z4 | exact Ok.ret z5 | (exfalso; simp_all)
theorem fetchK {ws:L Wi} {g:Gu} (hw:WG ws) (hg:GuR ws g.1 g.2.2.1):Ok (g273 ws g) fun a=>(0≤a.1.1 ∧ a.1.1≤4294967295) ∧ (0≤a.1.2.1 ∧ a.1.2.1≤9) ∧ ((a.1.2.1 == 0) = true→0≤wI g.2.1 ∧ wI g.2.1≤2048):=by
 unfold g273
 refine Ok.bind (faultK hw (by decide) (by decide)) ?_
 rintro y ⟨h1,h2⟩
 refine Ok.bif (fun h=>Ok.ret ⟨z0,h1,fun q=>?_⟩) fun h=>Ok.bind (getK hw hg (by decide) h2 h) fun a ha=>Ok.ret ⟨ha.1,z9,fun _=>ha.2⟩
 simp at h q; omega
theorem decodeK (w:Int) (h:0≤w ∧ w≤4294967295):Ok (g277 w) fun a=>(0≤a.1.1.1 ∧ a.1.1.1≤32) ∧ (0≤a.1.1.2.1 ∧ a.1.1.2.1≤15) ∧ (0≤a.1.1.2.2.1 ∧ a.1.1.2.2.1≤15) ∧ (0≤a.1.1.2.2.2.1 ∧ a.1.1.2.2.2.1≤15):=by
 unfold g277
 refine Ok.bif (fun _=>?_) fun _=>?_
 all_goals
  refine Ok.bind (instrOkK _) fun b hb=>Ok.bif (fun _=>Ok.ret (by decide)) fun q=>Ok.ret ?_
  exact hb (by simpa using q)
set_option maxHeartbeats 2000000 in
theorem stepK {ws:L Wi} {g:Gu} (hw:WG ws) (hg:GuR ws g.1 g.2.2.1) (c:Int):Ok (g274rm ws g c) fun z=>GuR ws z.1.1.1.1 z.1.1.1.2.2.1 ∧ (0≤z.1.1.2.1 ∧ z.1.1.2.1≤9) ∧ (-1≤z.1.1.2.2.1 ∧ z.1.1.2.2.1≤32) ∧ (-1≤z.1.1.2.2.2.1 ∧ z.1.1.2.2.2.1≤65535):=by
 have h16:=hg.1
 unfold g274rm
 refine Ok.bind (fetchK (g:=(g.1,(g.2.1,g.2.2))) hw hg) ?_
 rintro y ⟨y1,y2,y3⟩
 refine Ok.bif (fun _=>Ok.ret ⟨hg,y2,zm,zt⟩) fun _=>Ok.bind (decodeK _ y1) ?_
 intro d hd
 refine Ok.bif (fun _=>Ok.ret ⟨hg,z4,zm,zt⟩) fun _=>?_
 obtain ⟨d1,d2,d3,d4⟩:=hd
 repeat' (first
  | (refine Ok.bind (faultK hw (by decide) (by decide)) ?_; rintro _ ⟨_,_⟩)
  | (refine Ok.bind (getK (g:=(g.1,(g.2.1,g.2.2))) hw hg (by decide) (by assumption) (by assumption)) ?_; rintro _ ⟨_,_⟩)
  | (refine Ok.bind (putK (g:=(g.1,(g.2.1,g.2.2))) hw hg (by decide) (by assumption) (by assumption)) ?_; rintro _ ⟨_,_⟩)
  | (refine Ok.bind (setK (g:=(g.1,(g.2.1,g.2.2))) hg d2) ?_; intro _ _)
  | (refine Ok.bind (aluK _ _ _) ?_; intro _ _)
  | refine Ok.grd (by rw [h16]; simp; omega) ?_
  | refine Ok.bif (fun _=>?_) (fun _=>?_))
 all_goals
  refine Ok.ret ⟨by assumption,?_,?_,?_⟩ <;> dsimp only <;> omega
def WL {α:Type} (x:L α):Prop:=x.nil = true→x.len = 0
theorem wl {α:Type} {x:L α} (h:x.nil = false):WL x:=fun q=>by rw [h] at q; cases q
theorem wlApp {α:Type} {x y:L α} (h:WL x):WL (L.app x y):=fun q=>by
 have q:(x.nil&&Nat.beq y.len 0) = true:=q
 rw [Bool.and_eq_true] at q
 have e:y.len = 0:=Nat.eq_of_beq_eq_true q.2
 show x.len + y.len = 0
 rw [h q.1,e]
def OutP (r:Ch) (o:Oe):Prop:=f297 r = true ∧ (r.1 = 0→o.1 = 0 ∧ o.2.1.len≤1) ∧ (r.1 ≠ 0→0≤o.1 ∧ o.1 + o.2.1.len≤r.2.2.2.1) ∧ WL o.2.1
def InP (r:Ch) (i:Ie):Prop:=f297 r = true ∧ (r.1 = 0→i.1.len≤1) ∧ (r.1 ≠ 0→(i.1.len:Int)≤r.2.2.2.1) ∧ WL i.1
def DevP (d:De):Prop:=d.1.len≤8 ∧ d.2.1.len≤8 ∧ WL d.1 ∧ WL d.2.1
def EndsO (t:Tb) (p:Nat) (x:L Oe):Prop:=x.len = (tChans t).len ∧ (∀ i,i < (tChans t).len→(((tChans t).get i).2.1 = p→OutP ((tChans t).get i) (x.get i)) ∧ (((tChans t).get i).2.1 ≠ p→(x.get i).1 = 0 ∧ (x.get i).2.1.len = 0)) ∧ WL x
def EndsI (t:Tb) (p:Nat) (x:L Ie):Prop:=x.len = (tChans t).len ∧ (∀ i,i < (tChans t).len→(((tChans t).get i).2.2.1 = p→InP ((tChans t).get i) (x.get i)) ∧ (((tChans t).get i).2.2.1 ≠ p→(x.get i).1.len = 0)) ∧ WL x
def EndsD (t:Tb) (p:Nat) (x:L De):Prop:=x.len = (tDevs t).len ∧ (∀ i,i < (tDevs t).len→((tDevs t).get i = p→DevP (x.get i)) ∧ ((tDevs t).get i ≠ p→(x.get i).1.len = 0 ∧ (x.get i).2.1.len = 0)) ∧ WL x
def HeG (h:He):Prop:=(0≤h.1 ∧ h.1≤1000000000) ∧ (0≤h.2.1 ∧ h.2.1≤1000000000) ∧ (0≤h.2.2.1 ∧ h.2.2.1≤9)
def TlG (n:Int) (x:Tl):Prop:=x.1 = n ∧ (x.2.1.len:Int)≤n ∧ (∀ i,i < x.2.1.len→0≤x.2.1.get i ∧ x.2.1.get i≤1023) ∧ (∀ i k,i < k→k < x.2.1.len→x.2.1.get i ≠ x.2.1.get k) ∧ WL x.2.1
structure PS (t:Tb) (p:Nat) (regs:L Int) (ram:Im) (he:He) (ca:Ca) (tl:Tl) (boot:Im) (outs:L Oe) (ins:L Ie) (devs:L De):Prop where
 gu:GuR ((tParts t).get p).2.2.2.1 regs ram
 he:HeG he
 ca:ca.1 = t.2.1 ∧ CaG ca ∧ ∀ i,i < ca.2.1.len→WL (ca.2.1.get i)
 tl:TlG t.2.2.1 tl
 bo:FitG ((tParts t).get p).2.2.2.1 boot
 ou:EndsO t p outs
 is:EndsI t p ins
 de:EndsD t p devs
def PG (t:Tb) (p:Nat) (s:St):Prop:=PS t p s.1.1 s.1.2.2.1 s.2.2.1 s.2.2.2.1 s.2.2.2.2.1 (sBoot s) (sOuts s) (sIns s) (sDevs s)
structure TG (t:Tb) (p:Nat):Prop where
 pl:p < (tParts t).len
 w:WG ((tParts t).get p).2.2.2.1
 co:f294 t.2.2.2.1 = true
 po:f335 ((tParts t).get p).2.2.1 = true
 sh:f119 t.2.1 = true
 tl:1≤t.2.2.1 ∧ t.2.2.1≤8
 ch:(tChans t).len≤8 ∧ ∀ i,i < (tChans t).len→f297 ((tChans t).get i) = true
 dv:(tDevs t).len≤8
theorem EndsO.set {t:Tb} {p:Nat} {x:L Oe} (h:EndsO t p x) {i:Nat} {o:Oe} (hi:i < (tChans t).len) (hp:((tChans t).get i).2.1 = p) (ho:OutP ((tChans t).get i) o):EndsO t p (L.set x i o):=by
 refine ⟨h.1,fun j hj=>?_,h.2.2⟩
 by_cases q:j = i
 · subst q; rw [set_eq_get]; exact ⟨fun _=>ho,fun k=>absurd hp k⟩
 · rw [set_ne_get _ _ q]; exact h.2.1 j hj
theorem EndsI.set {t:Tb} {p:Nat} {x:L Ie} (h:EndsI t p x) {i:Nat} {o:Ie} (hi:i < (tChans t).len) (hp:((tChans t).get i).2.2.1 = p) (ho:InP ((tChans t).get i) o):EndsI t p (L.set x i o):=by
 refine ⟨h.1,fun j hj=>?_,h.2.2⟩
 by_cases q:j = i
 · subst q; rw [set_eq_get]; exact ⟨fun _=>ho,fun k=>absurd hp k⟩
 · rw [set_ne_get _ _ q]; exact h.2.1 j hj
theorem EndsD.set {t:Tb} {p:Nat} {x:L De} (h:EndsD t p x) {i:Nat} {o:De} (hi:i < (tDevs t).len) (hp:(tDevs t).get i = p) (ho:DevP o):EndsD t p (L.set x i o):=by
 refine ⟨h.1,fun j hj=>?_,h.2.2⟩
 by_cases q:j = i
 · subst q; rw [set_eq_get]; exact ⟨fun _=>ho,fun k=>absurd hp k⟩
 · rw [set_ne_get _ _ q]; exact h.2.1 j hj
theorem listK {x:L Int} (h:x.len≤1000):Ok (g178r x) fun a=>a.1.1.len = x.len ∧ WL a.1.1:=by
 unfold g178r
 refine Ok.grd ?_ (Ok.ret ⟨Nat.zero_add _,wl rfl⟩)
 show decide (0 + x.len≤most) = true
 exact most_le2 (by omega)
theorem sendK {r:Ch} {o:Oe} {v:Int} (h:OutP r o):Ok (g329r r o v) fun a=>OutP r a.1.1:=by
 obtain ⟨h1,h2,h3,h4⟩:=h
 have hc:=chan_of h1
 unfold g329r
 refine Ok.bif (fun _=>Ok.ret ⟨h1,fun _=>⟨rfl,Nat.zero_le _⟩,fun q=>⟨by decide,?_⟩,fun _=>rfl⟩) fun hok=>Ok.bif (fun q=>Ok.ret ⟨h1,fun _=>⟨rfl,Nat.le_refl 1⟩,fun k=>absurd (by simpa using q) k,wl rfl⟩) fun q=>?_
 · show (0:Int) + ((0:Nat):Int)≤_
   omega
 have q:r.1 ≠ 0:=by simpa using q
 obtain ⟨a1,a2⟩:=h3 q
 refine Ok.bif (fun _=>Ok.bind (listK (by omega)) fun y hy=>Ok.ret ⟨h1,fun k=>absurd k q,fun _=>⟨a1,?_⟩,hy.2⟩) fun hr=>Ok.bind (listK (by omega)) fun y hy=>Ok.grd (fit1 (by omega)) (Ok.ret ⟨h1,fun k=>absurd k q,fun _=>⟨a1,?_⟩,wlApp hy.2⟩)
 · show o.1 + (y.1.1.len:Int)≤_
   rw [hy.1]; exact a2
 · have e:f353 r o = wI (wI (r.2.2.2.1 - o.1) - (o.2.1.len:Int)):=by
    have hok:f249 r o = true:=by simpa using hok
    have q':(r.1 == 0) = false:=by simpa using q
    unfold f353
    rw [hok,q']; rfl
   rw [e,wI_id (n:=r.2.2.2.1 - o.1) (by omega) (by omega),wI_id (by omega) (by omega)] at hr
   have hr:¬ (r.2.2.2.1 - o.1 - (o.2.1.len:Int) = 0):=by simpa using hr
   show o.1 + ((y.1.1.len + 1:Nat):Int)≤_
   rw [hy.1]; omega
theorem recvK {r:Ch} {o:Ie} (h:InP r o):Ok (g330r r o) fun a=>InP r a.1.1:=by
 obtain ⟨h1,h2,h3,h4⟩:=h
 have hc:=chan_of h1
 have hl:o.1.len≤8:=by
  by_cases q:r.1 = 0
  · have:=h2 q; omega
  · have:=h3 q; omega
 have z:∀ {x:L Int},x.len = 0→InP r (x,()):=fun {x} hx=>⟨h1,fun _=>by show x.len≤1; omega,fun _=>by show (x.len:Int)≤_; omega,fun _=>hx⟩
 unfold g330r
 refine Ok.bif (fun _=>Ok.ret (z rfl)) fun _=>Ok.bif (fun _=>Ok.ret (z rfl)) fun hn=>?_
 have hn:¬ ((o.1.len:Int) = 0):=by simpa using hn
 refine Ok.bif (fun q=>Ok.bind (listK (by omega)) fun y hy=>Ok.grd (by simp; omega) (Ok.ret ⟨h1,fun _=>?_,fun k=>absurd (by simpa using q) k,hy.2⟩)) fun q=>Ok.grd (by simp; omega) (Ok.bind (listK (by show (o.1.len:Int).toNat - 1≤1000; omega)) fun y hy=>Ok.grd (by simp; omega) (Ok.ret ⟨h1,fun k=>absurd k (by simpa using q),fun k=>?_,hy.2⟩))
 · show y.1.1.len≤1
   rw [hy.1]; exact h2 (by simpa using q)
 · show (y.1.1.len:Int)≤_
   have e:(L.cut o.1 (1:Int).toNat ((o.1.len:Int)).toNat).len = (o.1.len:Int).toNat - 1:=rfl
   rw [hy.1,e]
   have:=h3 k
   omega
theorem copyDK {d:De} (h:DevP d):Ok (g179r d) fun a=>(a.1.1.1.len = d.1.len ∧ a.1.1.2.1.len = d.2.1.len) ∧ WL a.1.1.1 ∧ WL a.1.1.2.1:=by
 unfold g179r
 exact Ok.bind (listK (Nat.le_trans h.1 (by decide))) fun a ha=>Ok.bind (listK (Nat.le_trans h.2.1 (by decide))) fun b hb=>Ok.ret ⟨⟨ha.1,hb.1⟩,ha.2,hb.2⟩
theorem readK {d:De} (h:DevP d):Ok (g331r d) fun a=>DevP a.1.1:=by
 have h2:=h.2.1
 unfold g331r
 refine Ok.bif (fun _=>Ok.ret ⟨Nat.zero_le _,Nat.zero_le _,fun _=>rfl,fun _=>rfl⟩) fun _=>Ok.bind (copyDK h) fun a ha=>Ok.bif (fun _=>Ok.ret ⟨by rw [ha.1.1]; exact h.1,by rw [ha.1.2]; exact h.2.1,ha.2⟩) fun hn=>?_
 have hn:¬ ((d.2.1.len:Int) = 0):=by simpa using hn
 have e:(L.cut d.2.1 (1:Int).toNat ((d.2.1.len:Int)).toNat).len = (d.2.1.len:Int).toNat - 1:=rfl
 refine Ok.grd (by simp; omega) (Ok.bind (listK (by rw [e]; omega)) fun y hy=>Ok.grd (by simp; omega) (Ok.ret ⟨by show a.1.1.1.len≤8; rw [ha.1.1]; exact h.1,?_,ha.2.1,hy.2⟩))
 show y.1.1.len≤8
 rw [hy.1,e]; omega
theorem openK {d:De} (h:DevP d):Ok (g203r d) fun a=>DevP a.1.1:=by
 unfold g203r
 refine Ok.bif (fun _=>Ok.ret ⟨Nat.zero_le _,Nat.zero_le _,fun _=>rfl,fun _=>rfl⟩) fun _=>Ok.bind (copyDK h) fun a ha=>?_
 have key:∀ {vv vb:_},Ok (fixO s203r_L0 (((),((),(false,()))),((vv,(vb,())),((a.1.1.1,((),())),(a.1.1.2.1,()))))) fun z=>∃ (b:Bool) (x y:L Int),z = .inl (((),((),(b,()))),(((),((),())),(((),((),())),(vv,(vb,(x,(y,()))))))) ∧ x.len≤8 ∧ y.len≤8 ∧ WL x ∧ WL y:=by
  intro vv vb
  refine loopK a.1.1.1.len (fun i z=>∃ (b:Bool) (x y:L Int),z = (((),((),(b,()))),((vv,(vb,())),((x,((),())),(y,())))) ∧ x.len + i = a.1.1.1.len ∧ y.len≤8 ∧ WL x ∧ WL y) ?_ ?_ _ ⟨false,a.1.1.1,a.1.1.2.1,rfl,rfl,by rw [ha.1.2]; exact h.2.1,ha.2⟩
  · rintro i _ hi ⟨b,x,y,rfl,hx,hy,hw⟩
    have h1:=h.1
    have h2:=ha.1.1
    simp only [s203r_L0,q203r_L0]
    refine Ok.bif (fun q=>Ok.grd (by simp; omega) (Ok.grd (by simp; omega) (Ok.grd (fit1 (by omega)) (Ok.grd (by simp; omega) (Ok.bind (listK (by show (x.len:Int).toNat - 1≤1000; omega)) fun u hu=>Ok.ret (.inl ⟨_,rfl,_,_,_,rfl,?_,?_,hu.2,wlApp hw.2⟩)))))) fun _=>Ok.ret (.inr ⟨_,rfl,b,x,y,rfl,by omega,hy,hw⟩)
    · have e:(L.cut x (1:Int).toNat ((x.len:Int)).toNat).len = (x.len:Int).toNat - 1:=rfl
      rw [hu.1,e]; omega
    · have q:(y.len:Int) < 8:=by simpa using q
      show y.len + 1≤8
      omega
  · rintro _ ⟨b,x,y,rfl,hx,hy,hw⟩
    simp only [s203r_L0,q203r_L0]
    refine Ok.bif (fun _=>?_) fun _=>Ok.ret ⟨_,rfl,b,x,y,rfl,by omega,hy,hw⟩
    rw [bif_f (by simp; omega)]
    exact Ok.ret ⟨_,rfl,b,x,y,rfl,by omega,hy,hw⟩
 refine Ok.bind (@key _ _) ?_
 rintro _ ⟨b,x,y,rfl,hx,hy,hw⟩
 exact Ok.ret ⟨hx,hy,hw⟩
theorem holdK (v:Vi) (i:Int):Ok (g204 v i) fun _=>True:=by
 unfold g204
 exact Ok.bif (fun _=>Ok.bind (bitK _ _) fun _ _=>Ok.bif (fun _=>Ok.grd (decide_eq_true (u64_in _)) (Ok.ret trivial)) fun _=>Ok.ret trivial) fun _=>Ok.ret trivial
theorem onFaultK {po:Int×(Int×Unit)} {h:He} {n:Int} (hp:f335 po = true) (hh:HeG h) (hn:0≤n ∧ n≤9):Ok (g279 po h n) fun a=>HeG a.1.1:=by
 obtain ⟨h1,h2,h3⟩:=hh
 unfold g279
 refine Ok.bif (fun _=>Ok.ret ⟨h1,h2,h3⟩) fun _=>Ok.bif (fun _=>Ok.ret ⟨h1,h2,h3⟩) fun _=>Ok.bif (fun _=>Ok.ret ⟨h1,h2,h3⟩) fun _=>Ok.bif (fun _=>Ok.ret ⟨h1,h2,h3⟩) fun _=>?_
 have b1:h.1 < 1000000000→0≤wI (h.1 + 1) ∧ wI (h.1 + 1)≤1000000000:=fun q=>by rw [wI_id (by omega) (by omega)]; omega
 have b2:(po.1 == 1) = true→decide (h.2.1 < po.2.1) = true→0≤wI (h.2.1 + 1) ∧ wI (h.2.1 + 1)≤1000000000:=fun q k=>by
  have k:h.2.1 < po.2.1:=by simpa using k
  have:f97 po.2.1 0 100 = true:=by
   unfold f335 at hp
   rw [q] at hp; exact hp
  have:=(f97_iff _ _ _).mp this
  rw [wI_id (by omega) (by omega)]; omega
 refine Ok.bif (fun q=>?_) fun _=>?_
 · have b1:=b1 (by simpa using q)
   exact Ok.bif (fun _=>Ok.ret ⟨b1,h2,hn⟩) fun _=>Ok.bif (fun k1=>Ok.bif (fun k2=>Ok.ret ⟨b1,b2 k1 k2,hn⟩) fun _=>Ok.ret ⟨b1,h2,hn⟩) fun _=>Ok.ret ⟨b1,h2,hn⟩
 · exact Ok.bif (fun _=>Ok.ret ⟨h1,h2,hn⟩) fun _=>Ok.bif (fun k1=>Ok.bif (fun k2=>Ok.ret ⟨h1,b2 k1 k2,hn⟩) fun _=>Ok.ret ⟨h1,h2,hn⟩) fun _=>Ok.ret ⟨h1,h2,hn⟩
theorem dueK (v:Vi) (c:Int):Ok (g271 v c) fun _=>True:=by
 have key:Ok (fixO s271_L0 (((),((0:Int),())),(v,()))) fun _=>True:=by
  refine loopK 32 (fun i x=>x = (((),((i:Int),())),(v,()))) ?_ ?_ _ rfl
  · rintro i _ hi rfl
    simp only [s271_L0,q271_L0]
    rw [wI_succ hi (by omega)]
    exact Ok.grd (by simp; omega) (Ok.bind (bitK _ _) fun _ _=>Ok.bif (fun _=>Ok.ret (.inr ⟨_,rfl,trivial⟩)) fun _=>Ok.ret (.inl ⟨_,rfl,rfl⟩))
  · rintro _ rfl
    simp only [s271_L0,q271_L0]
    rw [bif_f (by simp)]
    exact Ok.ret ⟨_,rfl,trivial⟩
 unfold g271
 refine Ok.bif (fun _=>Ok.ret trivial) fun _=>Ok.bif (fun _=>Ok.ret trivial) fun _=>Ok.bif (fun _=>Ok.bind (modK (by decide)) fun _ _=>Ok.bif (fun _=>Ok.ret trivial) fun _=>?_) fun _=>?_
 all_goals
  refine Ok.bind key ?_
  rintro (y | y | e) _
  · exact Ok.ret trivial
  · exact Ok.ret trivial
  · exact nomatch e
theorem enterK (v:Vi) (c pc:Int):Ok (g272 v c pc) fun _=>True:=by
 unfold g272
 exact Ok.bif (fun _=>Ok.ret trivial) fun _=>Ok.bif (fun _=>Ok.ret trivial) fun _=>Ok.bind (bitK _ _) fun _ _=>Ok.bif (fun _=>Ok.grd (decide_eq_true (u64_in _)) (Ok.ret trivial)) fun _=>Ok.ret trivial
theorem foldK {x:L Int} (h:x.len≤1000):Ok (g280 x) fun _=>True:=by
 have key:Ok (fixO s280_L0 ((x,((1:Int),((0:Int),()))),())) fun _=>True:=by
  refine loopK x.len (fun i z=>∃ v:Int,z = ((x,(v,((i:Int),()))),())) ?_ ?_ _ ⟨_,rfl⟩
  · rintro i _ hi ⟨v,rfl⟩
    simp only [s280_L0,q280_L0]
    rw [wI_succ hi (by omega)]
    exact Ok.grd (idx_lt hi) (Ok.grd (idx_in hi) (Ok.ret (.inl ⟨_,rfl,_,rfl⟩)))
  · rintro _ ⟨v,rfl⟩
    simp only [s280_L0,q280_L0]
    rw [bif_f (idx_end x.len)]
    exact Ok.ret ⟨_,rfl,trivial⟩
 unfold g280
 refine Ok.bind key ?_
 rintro (y | e) _
 · exact Ok.ret trivial
 · exact nomatch e
theorem csrRK (v:Vi) (n c:Int):Ok (g332 v n c) fun _=>True:=by
 unfold g332
 repeat' (first | exact Ok.ret trivial | (refine Ok.bind (modK (by decide)) ?_; intro _ _) | refine Ok.bif (fun _=>?_) (fun _=>?_))
theorem csrWK (v:Vi) (n x:Int):Ok (g333 v n x) fun _=>True:=by
 unfold g333
 repeat' (first | exact Ok.ret trivial | refine Ok.bif (fun _=>?_) (fun _=>?_))
theorem leaveK (v:Vi):Ok (g334 v) fun _=>True:=by
 unfold g334
 exact Ok.bif (fun _=>Ok.ret trivial) fun _=>Ok.ret trivial
theorem hasK {x:L Int} (h:x.len≤1000) (v:Int):Ok (g351 x v) fun a=>a.1.1 = false→∀ i,i < x.len→x.get i ≠ v:=by
 have key:Ok (fixO s351_L0 ((x,(v,((0:Int),()))),())) fun z=>z = .inl ((true,()),()) ∨ (z = .inr (.inl ((),())) ∧ ∀ i,i < x.len→x.get i ≠ v):=by
  refine loopK x.len (fun i z=>z = ((x,(v,((i:Int),()))),()) ∧ ∀ j,j < i→x.get j ≠ v) ?_ ?_ _ ⟨rfl,fun j hj=>absurd hj (Nat.not_lt_zero j)⟩
  · rintro i _ hi ⟨rfl,ha⟩
    simp only [s351_L0,q351_L0]
    rw [wI_succ hi (by omega),tN]
    refine Ok.grd (idx_lt hi) (Ok.grd (idx_in hi) (Ok.bif (fun _=>Ok.ret (.inr ⟨_,rfl,.inl rfl⟩)) fun q=>Ok.ret (.inl ⟨_,rfl,rfl,fun j hj=>?_⟩)))
    rcases Nat.lt_or_eq_of_le (Nat.le_of_lt_succ hj) with e | rfl
    · exact ha j e
    · simpa using q
  · rintro _ ⟨rfl,ha⟩
    simp only [s351_L0,q351_L0]
    rw [bif_f (idx_end x.len)]
    exact Ok.ret ⟨_,rfl,.inr ⟨rfl,ha⟩⟩
 unfold g351
 refine Ok.bind key ?_
 rintro _ (rfl | ⟨rfl,h⟩)
 · exact Ok.ret fun q=>by cases q
 · exact Ok.ret fun _=>h
def Pgs (v:L Int):Prop:=(∀ i,i < v.len→0≤v.get i ∧ v.get i≤1023) ∧ ∀ i k,i < k→k < v.len→v.get i ≠ v.get k
theorem Pgs.of0 {v:L Int} (h:Pgs v) (z:Int):Pgs (L.app (L.of z []) v):=by
 have el:(L.app (L.of z []) v).len = v.len:=Nat.zero_add _
 exact ⟨fun i hi=>h.1 i (by omega),fun i k a b=>h.2 i k a (by omega)⟩
theorem Pgs.add {v:L Int} (h:Pgs v) {a:Int} (ha:0≤a ∧ a≤1023) (hn:∀ i,i < v.len→v.get i ≠ a) (z:Int):Pgs (L.app v (L.of z [a])):=by
 refine ⟨fun i hi=>?_,fun i k hik hk=>?_⟩
 · have hi:i < v.len + 1:=hi
   by_cases e:i = v.len
   · subst e; rw [app_hi]; exact ha
   · rw [app_lo _ _ (by omega)]; exact h.1 i (by omega)
 · have hk:k < v.len + 1:=hk
   rw [app_lo _ _ (show i < v.len by omega)]
   by_cases e:k = v.len
   · subst e; rw [app_hi]; exact hn i hik
   · rw [app_lo _ _ (by omega)]; exact h.2 i k hik (by omega)
theorem Pgs.cut {v:L Int} (h:Pgs v) (n:Nat) (hn:n≤v.len):Pgs (L.cut v 1 n):=by
 have el:(L.cut v 1 n).len = n - 1:=rfl
 have eg:∀ i,(L.cut v 1 n).get i = v.get (1 + i):=fun _=>rfl
 exact ⟨fun i hi=>by rw [eg]; exact h.1 _ (by omega),fun i k a b=>by rw [eg,eg]; exact h.2 _ _ (by omega) (by omega)⟩
theorem tlbK {n:Int} {x:Tl} {a:Int} (hn:1≤n ∧ n≤8) (h:TlG n x) (ha:0≤a ∧ a≤65535):Ok (g325r x a) fun z=>TlG n z.1.1:=by
 obtain ⟨h1,h2,h3,h4,h5⟩:=h
 have hp:Pgs x.2.1:=⟨h3,h4⟩
 have hl:x.2.1.len≤8:=by omega
 have ep:wI (Int.tdiv a 64) = a / 64:=by rw [Int.tdiv_eq_ediv_of_nonneg ha.1,wI_id (by omega) (by omega)]
 unfold g325r
 rw [ep]
 have e0:(L.app (L.of (Ty.zero (.int .i64)) []) x.2.1).len = x.2.1.len:=Nat.zero_add _
 have hp0:=hp.of0 (Ty.zero (.int .i64))
 refine Ok.grd (by
  show decide (0 + x.2.1.len≤most) = true
  exact most_le2 (by omega)) (Ok.bind (hasK (by omega) _) fun y hy=>Ok.bif (fun _=>Ok.ret ⟨h1,by show ((0 + x.2.1.len:Nat):Int)≤n; omega,hp0.1,hp0.2,wl rfl⟩) fun q=>Ok.grd (fit1 (by omega)) ?_)
 have hp1:=hp0.add (a:=a / 64) (by omega) (fun i hi=>hy q i (by omega)) (Ty.zero (.int .i64))
 have e1:(L.app (L.app (L.of (Ty.zero (.int .i64)) []) x.2.1) (L.of (Ty.zero (.int .i64)) [a / 64])).len = x.2.1.len + 1:=by
  show (L.app (L.of (Ty.zero (.int .i64)) []) x.2.1).len + 1 = _
  rw [e0]
 have wlV:WL (L.app (L.app (L.of (Ty.zero (.int .i64)) []) x.2.1) (L.of (Ty.zero (.int .i64)) [a / 64])):=wl rfl
 generalize L.app (L.app (L.of (Ty.zero (.int .i64)) []) x.2.1) (L.of (Ty.zero (.int .i64)) [a / 64]) = V at hp1 e1 wlV ⊢
 have hp2:=(hp1.cut V.len (Nat.le_refl _)).of0 (Ty.zero (.int .i64))
 have e2:(L.cut V (1:Int).toNat (V.len:Int).toNat).len = V.len - 1:=by show (V.len:Int).toNat - 1 = _; omega
 refine Ok.bif (fun k=>Ok.grd (by simp; omega) (Ok.grd (by
  show decide (0 + (L.cut V (1:Int).toNat (V.len:Int).toNat).len≤most) = true
  exact most_le2 (by omega)) (Ok.ret ⟨h1,by show ((0 + (L.cut V (1:Int).toNat (V.len:Int).toNat).len:Nat):Int)≤n; omega,?_,?_,wl rfl⟩))) fun k=>Ok.ret ⟨h1,?_,hp1.1,hp1.2,fun q=>?_⟩
 · exact hp2.1
 · exact hp2.2
 · have k:¬ ((V.len:Int) > x.1):=by simpa using k
   show (V.len:Int)≤n
   omega
 · exact wlV q
theorem wI_sm {n:Int} (h1:-100000000≤n) (h2:n≤100000000):wI n = n:=wI_id (by omega) (by omega)
theorem accessK {t:Tb} {p:Nat} {s:St} {a:Int} {w:Bool} (g:TG t p) (h:PG t p s) (ha:0≤a ∧ a≤65535):Ok (g276p t s a w) fun z=>(0≤z.1.1 ∧ z.1.1≤150) ∧ PG t p z.2.1:=by
 unfold g276p
 refine Ok.bind (tlbK g.tl h.tl ha) fun y hy=>?_
 obtain ⟨c,p',q,u1,u2,u3,u4⟩:=useD s.2.2.2.1 h.ca.2.1 a ha w
 have u1':g326r s.2.2.2.1 a w = some ((c,(p',(q,()))),()):=u1
 rw [u1',oB]
 refine Ok.ret ⟨?_,h.gu,h.he,⟨u2.trans h.ca.1,u3,fun i hi=>wl (u4 i hi)⟩,hy,h.bo,h.ou,h.is,h.de⟩
 have hc:=costs_of g.co
 show 0≤f327 t.2.2.2.1 (p',(y.1.2.1,(q,()))) ∧ f327 t.2.2.2.1 (p',(y.1.2.1,(q,())))≤150
 rw [acc_of g.co]
 cases p' <;> cases y.1.2.1 <;> cases q <;> simp <;> omega
theorem opCostK {c:Co} (hc:f294 c = true) {o:Int} (h:0≤o ∧ o≤32):Ok (g275 c o) fun a=>1≤a.1.1 ∧ a.1.1≤70:=by
 obtain ⟨i,rfl⟩:∃ i:Nat,o = i:=⟨o.toNat,by omega⟩
 refine ⟨_,opc hc (i:=i) (by omega),?_⟩
 have:=costs_of hc
 show 1≤f299 c i ∧ f299 c i≤70
 unfold f299
 cases ((i:Int) == 9) <;> cases ((i:Int) == 10) <;> cases f136 (i:Int) 15 18 <;> cases decide ((i:Int) ≥ 25) <;> simp only [cond_true,cond_false] <;> (try simp (disch:=omega) only [wI_sm]) <;> omega
def SmL {α:Type} (x y:L α):Prop:=x.len = y.len ∧ ∀ i,i < x.len→x.get i = y.get i
def SmR {α:Type} (R:α→α→Prop) (x y:L α):Prop:=x.len = y.len ∧ ∀ i,i < x.len→R (x.get i) (y.get i)
theorem SmL.symm {α:Type} {x y:L α} (h:SmL x y):SmL y x:=⟨h.1.symm,fun i hi=>(h.2 i (by rw [h.1]; exact hi)).symm⟩
theorem SmL.trans {α:Type} {x y z:L α} (h:SmL x y) (k:SmL y z):SmL x z:=⟨h.1.trans k.1,fun i hi=>(h.2 i hi).trans (k.2 i (by rw [← h.1]; exact hi))⟩
theorem SmR.symm {α:Type} {R:α→α→Prop} (hR:∀ a b,R a b→R b a) {x y:L α} (h:SmR R x y):SmR R y x:=⟨h.1.symm,fun i hi=>hR _ _ (h.2 i (by rw [h.1]; exact hi))⟩
theorem SmR.trans {α:Type} {R:α→α→Prop} (hR:∀ a b c,R a b→R b c→R a c) {x y z:L α} (h:SmR R x y) (k:SmR R y z):SmR R x z:=⟨h.1.trans k.1,fun i hi=>hR _ _ _ (h.2 i hi) (k.2 i (by rw [← h.1]; exact hi))⟩
def SmO (a b:Oe):Prop:=a.1 = b.1 ∧ SmL a.2.1 b.2.1
def SmI (a b:Ie):Prop:=SmL a.1 b.1
def SmD (a b:De):Prop:=SmL a.1 b.1 ∧ SmL a.2.1 b.2.1
theorem SmO.symm {a b:Oe} (h:SmO a b):SmO b a:=⟨h.1.symm,h.2.symm⟩
theorem SmI.symm {a b:Ie} (h:SmI a b):SmI b a:=SmL.symm h
theorem SmD.symm {a b:De} (h:SmD a b):SmD b a:=⟨h.1.symm,h.2.symm⟩
theorem SmO.trans {a b c:Oe} (h:SmO a b) (k:SmO b c):SmO a c:=⟨h.1.trans k.1,h.2.trans k.2⟩
theorem SmI.trans {a b c:Ie} (h:SmI a b) (k:SmI b c):SmI a c:=SmL.trans h k
theorem SmD.trans {a b c:De} (h:SmD a b) (k:SmD b c):SmD a c:=⟨h.1.trans k.1,h.2.trans k.2⟩
def SmG (a b:Gu):Prop:=SmL a.1 b.1 ∧ a.2.1 = b.2.1 ∧ SmR SmL a.2.2.1 b.2.2.1
def SmC (a b:Ca):Prop:=a.1 = b.1 ∧ SmR SmL a.2.1 b.2.1
def SmT (a b:Tl):Prop:=a.1 = b.1 ∧ SmL a.2.1 b.2.1
structure SmS (a b:St):Prop where
 gu:SmG a.1 b.1
 vi:a.2.1 = b.2.1
 he:a.2.2.1 = b.2.2.1
 ca:SmC a.2.2.2.1 b.2.2.2.1
 tl:SmT a.2.2.2.2.1 b.2.2.2.2.1
 nx:a.2.2.2.2.2.1 = b.2.2.2.2.2.1
 id:a.2.2.2.2.2.2.1 = b.2.2.2.2.2.2.1
 bo:SmR SmL (sBoot a) (sBoot b)
 ou:SmR SmO (sOuts a) (sOuts b)
 is:SmR SmI (sIns a) (sIns b)
 de:SmR SmD (sDevs a) (sDevs b)
theorem SmG.symm {a b:Gu} (h:SmG a b):SmG b a:=⟨h.1.symm,h.2.1.symm,h.2.2.symm (fun _ _=>SmL.symm)⟩
theorem SmG.trans {a b c:Gu} (h:SmG a b) (k:SmG b c):SmG a c:=⟨h.1.trans k.1,h.2.1.trans k.2.1,SmR.trans (R:=SmL) (fun _ _ _=>SmL.trans) h.2.2 k.2.2⟩
theorem SmS.symm {a b:St} (h:SmS a b):SmS b a:=⟨h.gu.symm,h.vi.symm,h.he.symm,⟨h.ca.1.symm,h.ca.2.symm (fun _ _=>SmL.symm)⟩,⟨h.tl.1.symm,h.tl.2.symm⟩,h.nx.symm,h.id.symm,h.bo.symm (fun _ _=>SmL.symm),h.ou.symm (fun _ _=>SmO.symm),h.is.symm (fun _ _=>SmI.symm),h.de.symm (fun _ _=>SmD.symm)⟩
theorem SmS.trans {a b c:St} (h:SmS a b) (k:SmS b c):SmS a c:=⟨h.gu.trans k.gu,h.vi.trans k.vi,h.he.trans k.he,⟨h.ca.1.trans k.ca.1,SmR.trans (R:=SmL) (fun _ _ _=>SmL.trans) h.ca.2 k.ca.2⟩,⟨h.tl.1.trans k.tl.1,h.tl.2.trans k.tl.2⟩,h.nx.trans k.nx,h.id.trans k.id,SmR.trans (R:=SmL) (fun _ _ _=>SmL.trans) h.bo k.bo,SmR.trans (R:=SmO) (fun _ _ _=>SmO.trans) h.ou k.ou,SmR.trans (R:=SmI) (fun _ _ _=>SmI.trans) h.is k.is,SmR.trans (R:=SmD) (fun _ _ _=>SmD.trans) h.de k.de⟩
theorem BndS.same {a b:St} {m:Nat} (h:SmS a b) (hb:BndS a m):BndS b m:=by
 obtain ⟨h1,⟨h2,h2'⟩,⟨h3,h3'⟩,h4,⟨h5,h5'⟩,⟨h6,h6'⟩,⟨h7,h7'⟩,h8,h8'⟩:=hb
 refine ⟨by rw [← h.gu.1.1]; exact h1,⟨by rw [← h.gu.2.2.1]; exact h2,fun i hi=>?_⟩,⟨by rw [← h.ca.2.1]; exact h3,fun i hi=>?_⟩,by rw [← h.tl.2.1]; exact h4,⟨by rw [← h.bo.1]; exact h5,fun i hi=>?_⟩,⟨by rw [← h.ou.1]; exact h6,fun i hi=>?_⟩,⟨by rw [← h.is.1]; exact h7,fun i hi=>?_⟩,by rw [← h.de.1]; exact h8,fun i hi=>?_⟩
 · have hi':i < a.1.2.2.1.len:=by rw [h.gu.2.2.1]; exact hi
   rw [← (h.gu.2.2.2 i hi').1]; exact h2' i hi'
 · have hi':i < a.2.2.2.1.2.1.len:=by rw [h.ca.2.1]; exact hi
   rw [← (h.ca.2.2 i hi').1]; exact h3' i hi'
 · have hi':i < (sBoot a).len:=by rw [h.bo.1]; exact hi
   rw [← (h.bo.2 i hi').1]; exact h5' i hi'
 · have hi':i < (sOuts a).len:=by rw [h.ou.1]; exact hi
   rw [← (h.ou.2 i hi').2.1]; exact h6' i hi'
 · have hi':i < (sIns a).len:=by rw [h.is.1]; exact hi
   rw [← (h.is.2 i hi').1]; exact h7' i hi'
 · have hi':i < (sDevs a).len:=by rw [h.de.1]; exact hi
   rw [← (h.de.2 i hi').1.1,← (h.de.2 i hi').2.1]; exact h8' i hi'
theorem bind_of {α β σ:Type} {o:Option α} {F:α→Option β} {g:σ→β} {P:σ→Prop} (h:∃ a,o = some a ∧ ∃ s,F a = some (g s) ∧ P s):∃ s,o.bind F = some (g s) ∧ P s:=by
 obtain ⟨a,rfl,s,h1,h2⟩:=h
 exact ⟨s,h1,h2⟩
theorem snoc_lt {α:Type} (r:L α) (d q:α) {j:Nat} (h:j < r.len):(L.app r (L.of d [q])).get j = r.get j:=app_get_lt h
theorem snoc_at {α:Type} (r:L α) (d q:α) {i:Nat} (h:r.len = i):(L.app r (L.of d [q])).get i = q:=by
 subst h
 exact app_get_ge (x:=r) (y:=L.of d [q]) (i:=0)
theorem snoc_fit {α:Type} (r:L α) (d q:α) (h:r.len≤1048576):decide (r.len + (L.of d [q]).len≤most) = true:=decide_eq_true (by show r.len + 1≤4294967296; omega)
theorem app0 {α:Type} (d:α) (y:L α):SmL (L.app (L.of d []) y) y:=by
 refine ⟨Nat.zero_add _,fun i hi=>?_⟩
 have:=app_get_ge (x:=L.of d []) (y:=y) (i:=i)
 rwa [show (L.of d ([]:List α)).len + i = i from Nat.zero_add i] at this
theorem app0_fit {α:Type} (d:α) (y:L α) (h:y.len≤1048576):decide ((L.of d []).len + y.len≤most) = true:=decide_eq_true (by show 0 + y.len≤4294967296; omega)
theorem snoc_n {X D β:Type} {step:X→Option (X⊕D)} (n:Nat) (hn:n≤1048576) (st:Nat→L β→X) (fin:L β→D) (d:β) (R:Nat→β→Prop)
 (hs:∀ i r,i < n→r.len = i→∃ q,step (st i r) = some (.inl (st (i + 1) (L.app r (L.of d [q])))) ∧ R i q)
 (he:∀ r,r.len = n→step (st n r) = some (.inr (fin r))) {r0:L β} (h0:r0.len = 0) :
 ∃ r,fixO step (st 0 r0) = some (fin r) ∧ r.len = n ∧ ∀ i,i < n→R i (r.get i) :=
 build_n n st fin R (fun i r hi hr=>by
  obtain ⟨q,h1,h2⟩:=hs i r hi hr
  exact ⟨_,h1,by show r.len + 1 = _; omega,fun j hj=>snoc_lt _ _ _ (by omega),by rw [snoc_at _ _ _ hr]; exact h2⟩) he h0
theorem clone241 (x:L Int) (h:x.len≤1048576) (hn:x.nil = true→x.len = 0):∃ r,g241r x = some ((r,()),()) ∧ SmL r x ∧ (r.nil = true→r.len = 0):=by
 unfold g241r
 cases hx:x.nil with
 | true=>exact ⟨_,rfl,⟨by rw [hn hx]; rfl,fun i hi=>absurd hi (Nat.not_lt_zero i)⟩,fun _=>rfl⟩
 | false=>exact ⟨_,(bif_f rfl).trans (bif_t (app0_fit _ _ h)),app0 _ _,fun h=>by cases h⟩
theorem bytes150n (x:Im) (hl:x.len≤1048576) (hw:∀ i,i < x.len→(x.get i).len≤1048576) (hn:∀ i,i < x.len→(x.get i).nil = true→(x.get i).len = 0):∃ r:Im,g150r x = some ((r,()),()) ∧ SmR SmL r x ∧ ∀ i,i < r.len→(r.get i).nil = true→(r.get i).len = 0:=by
 obtain ⟨r,h1,h2,h3⟩:=snoc_n (step:=s150r_L0) x.len hl (fun i r=>((r,(x,((x.len:Int),((i:Int),())))),())) (fun r=>.inl (((),()),(r,()))) (Ty.zero (.sl (.int .u8))) (fun i q=>SmL q (x.get i) ∧ (q.nil = true→q.len = 0))
  (fun i r hi hr=>by
   obtain ⟨q,q1,q2⟩:=clone241 (x.get i) (hw i hi) (hn i hi)
   refine ⟨q,?_,q2⟩
   simp only [s150r_L0,q150r_L0]
   rw [bif_t (idx_lt hi),bif_t (idx_in hi),tN,q1]
   simp only [oB]
   rw [bif_t (snoc_fit _ _ _ (by omega)),wI_succ hi (by omega)])
  (fun r hr=>by
   simp only [s150r_L0,q150r_L0]
   rw [bif_f (idx_end _)]) (r0:=nilL (.sl (.int .u8))) rfl
 refine ⟨r,?_,⟨h2,fun i hi=>(h3 i (by omega)).1⟩,fun i hi=>(h3 i (by omega)).2⟩
 unfold g150r
 have h1':fixO s150r_L0 (((nilL (.sl (.int .u8))),(x,((x.len:Int),((0:Int),())))),()) = _:=h1
 rw [h1']; rfl
def NoneC (s:Sh) (c:Ca):Prop:=c.1 = s ∧ c.2.1.len = s.1.toNat ∧ ∀ i,i < c.2.1.len→(c.2.1.get i).len = 0
theorem NoneC.same {s:Sh} {a b:Ca} (h:NoneC s a) (k:NoneC s b):SmC a b :=
 ⟨h.1.trans k.1.symm,h.2.1.trans k.2.1.symm,fun i hi=>⟨by rw [h.2.2 i hi,k.2.2 i (by rw [k.2.1,← h.2.1]; exact hi)],fun j hj=>by rw [h.2.2 i hi] at hj; exact absurd hj (Nat.not_lt_zero j)⟩⟩
theorem shape_le {s:Sh} (h:f119 s = true):1≤s.1 ∧ s.1≤16:=by
 rw [f119_eq] at h
 simp only [Bool.and_eq_true,Bool.or_eq_true,beq_iff_eq] at h
 omega
theorem cache149 (s:Sh) (h:f119 s = true):∃ c:Ca,g149r s = some ((c,()),()) ∧ NoneC s c:=by
 have:=shape_le h
 unfold g149r
 refine ⟨_,bif_t (by simp; omega),rfl,rfl,fun i _=>rfl⟩
theorem bind_eq {α β:Type} {o:Option α} {F:α→Option β} {a:α} {z:Option β} (h:o = some a) (k:F a = z):o.bind F = z:=by rw [h]; exact k
theorem sm0 {α:Type} {x y:L α} (h:x.len = 0) (k:y.len = 0):SmL x y:=⟨h.trans k.symm,fun i hi=>by rw [h] at hi; exact absurd hi (Nat.not_lt_zero i)⟩
def NN (s:St):Prop:=WL s.1.1 ∧ (∀ i,i < s.1.2.2.1.len→WL (s.1.2.2.1.get i)) ∧ (∀ i,i < s.2.2.2.1.2.1.len→WL (s.2.2.2.1.2.1.get i)) ∧ WL s.2.2.2.2.1.2.1 ∧ (∀ i,i < (sBoot s).len→WL ((sBoot s).get i)) ∧
 (WL (sOuts s) ∧ ∀ i,i < (sOuts s).len→WL ((sOuts s).get i).2.1) ∧ (WL (sIns s) ∧ ∀ i,i < (sIns s).len→WL ((sIns s).get i).1) ∧ WL (sDevs s) ∧ ∀ i,i < (sDevs s).len→WL ((sDevs s).get i).1 ∧ WL ((sDevs s).get i).2.1
theorem cl197 (x:L Int) (h:x.len≤1048576) (hn:WL x):∃ r,g197r x = some ((r,()),()) ∧ SmL r x ∧ WL r:=by
 unfold g197r
 cases hx:x.nil with
 | true=>exact ⟨_,rfl,sm0 rfl (hn hx),fun _=>rfl⟩
 | false=>exact ⟨_,(bif_f rfl).trans (bif_t (app0_fit _ _ h)),app0 _ _,wl rfl⟩
theorem cl192 (x:L Int) (h:x.len≤1048576) (hn:WL x):∃ r,g192r x = some ((r,()),()) ∧ SmL r x ∧ WL r:=by
 unfold g192r
 cases hx:x.nil with
 | true=>exact ⟨_,rfl,sm0 rfl (hn hx),fun _=>rfl⟩
 | false=>exact ⟨_,(bif_f rfl).trans (bif_t (app0_fit _ _ h)),app0 _ _,wl rfl⟩
theorem cl259 (x:L Wy) (h:x.len≤1048576) (hn:WL x):∃ r,g259r x = some ((r,()),()) ∧ SmL r x ∧ WL r:=by
 unfold g259r
 cases hx:x.nil with
 | true=>exact ⟨_,rfl,sm0 rfl (hn hx),fun _=>rfl⟩
 | false=>exact ⟨_,(bif_f rfl).trans (bif_t (app0_fit _ _ h)),app0 _ _,wl rfl⟩
theorem cl193 (x:L Oe) (h:x.len≤1048576) (hn:WL x):∃ r,g193w x = some ((r,()),()) ∧ SmL r x ∧ WL r:=by
 unfold g193w
 cases hx:x.nil with
 | true=>exact ⟨_,rfl,sm0 rfl (hn hx),fun _=>rfl⟩
 | false=>exact ⟨_,(bif_f rfl).trans (bif_t (app0_fit _ _ h)),app0 _ _,wl rfl⟩
theorem cl194 (x:L Ie) (h:x.len≤1048576) (hn:WL x):∃ r,g194w x = some ((r,()),()) ∧ SmL r x ∧ WL r:=by
 unfold g194w
 cases hx:x.nil with
 | true=>exact ⟨_,rfl,sm0 rfl (hn hx),fun _=>rfl⟩
 | false=>exact ⟨_,(bif_f rfl).trans (bif_t (app0_fit _ _ h)),app0 _ _,wl rfl⟩
theorem cl195 (x:L De) (h:x.len≤1048576) (hn:WL x):∃ r,g195w x = some ((r,()),()) ∧ SmL r x ∧ WL r:=by
 unfold g195w
 cases hx:x.nil with
 | true=>exact ⟨_,rfl,sm0 rfl (hn hx),fun _=>rfl⟩
 | false=>exact ⟨_,(bif_f rfl).trans (bif_t (app0_fit _ _ h)),app0 _ _,wl rfl⟩
theorem guest190 (g:Gu) (h1:g.1.len≤1048576) (h2:BndI g.2.2.1 1048576) (n1:WL g.1) (n2:∀ i,i < g.2.2.1.len→WL (g.2.2.1.get i)):∃ r:Gu,g190r g = some ((r,()),()) ∧ SmG r g ∧ WL r.1 ∧ ∀ i,i < r.2.2.1.len→WL (r.2.2.1.get i):=by
 obtain ⟨y,y1,y2,y3⟩:=cl197 g.1 h1 n1
 have key:∀ {vv vb vy uJ kG:_},∃ r:Im,fixO s190r_L0 (((),((),(g.2.2.1,((g.2.2.1.len:Int),((0:Int),()))))),((vv,(vb,(vy,()))),(((),(uJ,((nilL (.sl (.int .u8))),()))),(kG,())))) = some (.inl (((),((),())),(((),(vb,((),()))),(((),(uJ,((),()))),(vv,(vy,(kG,(r,())))))))) ∧ r.len = g.2.2.1.len ∧ ∀ i,i < g.2.2.1.len→SmL (r.get i) (g.2.2.1.get i) ∧ WL (r.get i):=by
  intro vv vb vy uJ kG
  exact snoc_n (step:=s190r_L0) g.2.2.1.len h2.1 (fun i r=>(((),((),(g.2.2.1,((g.2.2.1.len:Int),((i:Int),()))))),((vv,(vb,(vy,()))),(((),(uJ,(r,()))),(kG,()))))) (fun r=>.inl (((),((),())),(((),(vb,((),()))),(((),(uJ,((),()))),(vv,(vy,(kG,(r,())))))))) (Ty.zero (.sl (.int .u8))) (fun i q=>SmL q (g.2.2.1.get i) ∧ WL q)
   (fun i r hi hr=>by
    have hb:=h2.2 i hi
    have hm:=h2.1
    obtain ⟨q,q1,q2⟩:=clone241 (g.2.2.1.get i) hb (n2 i hi)
    refine ⟨q,?_,q2⟩
    simp only [s190r_L0,q190r_L0]
    rw [bif_t (idx_lt hi),bif_t (idx_in hi),tN,q1]
    simp only [oB]
    rw [bif_t (snoc_fit _ _ _ (by omega)),wI_succ hi (by omega)])
   (fun r hr=>by
    simp only [s190r_L0,q190r_L0]
    rw [bif_f (idx_end _)]) (r0:=nilL (.sl (.int .u8))) rfl
 unfold g190r
 rw [y1,oB]
 refine bind_of ?_
 refine key.elim fun r h=>⟨_,h.1,?_⟩
 exact ⟨_,rfl,⟨y2,rfl,h.2.1,fun i hi=>(h.2.2 i (by rw [← h.2.1]; exact hi)).1⟩,y3,fun i hi=>(h.2.2 i (by rw [← h.2.1]; exact hi)).2⟩
theorem cache191 (c:Ca) (h2:c.2.1.len≤1048576 ∧ ∀ i,i < c.2.1.len→(c.2.1.get i).len≤1048576) (n2:∀ i,i < c.2.1.len→WL (c.2.1.get i)):∃ r:Ca,g191r c = some ((r,()),()) ∧ SmC r c ∧ ∀ i,i < r.2.1.len→WL (r.2.1.get i):=by
 have key:∀ {vv vb vy vx kH uJ kI:_},∃ r:L (L Wy),fixO s191r_L0 (((),((),(c.2.1,((c.2.1.len:Int),((0:Int),()))))),((vv,(vb,(vy,(vx,())))),((kH,(uJ,(kI,((nilL (.sl (.pair (.int .i64) (.pair .bool .unit)))),())))),()))) = some (.inl (((),((),())),((vv,(vb,(vy,((),())))),((kH,(uJ,(kI,((),())))),(vx,(r,())))))) ∧ r.len = c.2.1.len ∧ ∀ i,i < c.2.1.len→SmL (r.get i) (c.2.1.get i) ∧ WL (r.get i):=by
  intro vv vb vy vx kH uJ kI
  exact snoc_n (step:=s191r_L0) c.2.1.len h2.1 (fun i r=>(((),((),(c.2.1,((c.2.1.len:Int),((i:Int),()))))),((vv,(vb,(vy,(vx,())))),((kH,(uJ,(kI,(r,())))),())))) (fun r=>.inl (((),((),())),((vv,(vb,(vy,((),())))),((kH,(uJ,(kI,((),())))),(vx,(r,())))))) (Ty.zero (.sl (.pair (.int .i64) (.pair .bool .unit)))) (fun i q=>SmL q (c.2.1.get i) ∧ WL q)
   (fun i r hi hr=>by
    have hm:=h2.1
    obtain ⟨q,q1,q2⟩:=cl259 (c.2.1.get i) (h2.2 i hi) (n2 i hi)
    refine ⟨q,?_,q2⟩
    simp only [s191r_L0,q191r_L0]
    rw [bif_t (idx_lt hi),bif_t (idx_in hi),tN,q1]
    simp only [oB]
    rw [bif_t (snoc_fit _ _ _ (by omega)),wI_succ hi (by omega)])
   (fun r hr=>by
    simp only [s191r_L0,q191r_L0]
    rw [bif_f (idx_end _)]) (r0:=nilL (.sl (.pair (.int .i64) (.pair .bool .unit)))) rfl
 unfold g191r
 refine bind_of ?_
 refine key.elim fun r h=>⟨_,h.1,?_⟩
 exact ⟨_,rfl,⟨rfl,h.2.1,fun i hi=>(h.2.2 i (by rw [← h.2.1]; exact hi)).1⟩,fun i hi=>(h.2.2 i (by rw [← h.2.1]; exact hi)).2⟩
theorem out196 (o:Oe) (h:o.2.1.len≤1048576) (hn:WL o.2.1):∃ r:Oe,g196r o = some ((r,()),()) ∧ SmO r o ∧ WL r.2.1:=by
 obtain ⟨y,y1,y2,y3⟩:=cl197 o.2.1 h hn
 unfold g196r
 rw [y1]
 exact ⟨_,rfl,⟨rfl,y2⟩,y3⟩
theorem dev198 (o:De) (h:o.1.len≤1048576 ∧ o.2.1.len≤1048576) (hn:WL o.1 ∧ WL o.2.1):∃ r:De,g198r o = some ((r,()),()) ∧ SmD r o ∧ WL r.1 ∧ WL r.2.1:=by
 obtain ⟨y,y1,y2,y3⟩:=cl197 o.1 h.1 hn.1
 obtain ⟨z,z1,z2,z3⟩:=cl197 o.2.1 h.2 hn.2
 unfold g198r
 rw [y1,z1]
 exact ⟨_,rfl,⟨y2,z2⟩,y3,z3⟩
theorem allOwn_t {m:Nat→Bool} {n:Nat} (h:∀ j,j < n→m j = true):allOwn (some m) n = true:=List.all_eq_true.mpr fun j hj=>h j (List.mem_range.mp hj)
theorem updT (m:Nat→Bool) (i j:Nat):Go.VE.upd m i true j = if j = i then true else m j:=upd_eq m i true j
theorem part110 (s:St) (hb:BndS s 1048576) (hn:NN s) (hio:(sOuts s).len = (sIns s).len):∃ r:St,g110r s = some ((r,()),()) ∧ SmS r s ∧ NN r:=by
 obtain ⟨h1,h2,h3,h4,⟨h5,h5'⟩,⟨h6,h6'⟩,⟨h7,h7'⟩,h8,h8'⟩:=hb
 obtain ⟨n1,n2,n3,n4,n5,⟨n6,n6'⟩,⟨n7,n7'⟩,n8,n8'⟩:=hn
 obtain ⟨g,g1,g2,g3,g4⟩:=guest190 s.1 h1 h2 n1 n2
 obtain ⟨c,c1,c2,c3⟩:=cache191 s.2.2.2.1 h3 n3
 obtain ⟨y,y1,y2,y3⟩:=bytes150n (sBoot s) h5 h5' n5
 obtain ⟨pg,p1,p2,p3⟩:=cl192 s.2.2.2.2.1.2.1 h4 n4
 obtain ⟨o,o1,o2,o3⟩:=cl193 (sOuts s) h6 n6
 obtain ⟨q,q1,q2,q3⟩:=cl194 (sIns s) h7 n7
 obtain ⟨d,d1,d2,d3⟩:=cl195 (sDevs s) h8 n8
 have y1':g150r s.2.2.2.2.2.2.2.1 = some ((y,()),()):=y1
 have o1':g193w s.2.2.2.2.2.2.2.2.1 = some ((o,()),()):=o1
 have q1':g194w s.2.2.2.2.2.2.2.2.2.1 = some ((q,()),()):=q1
 have d1':g195w s.2.2.2.2.2.2.2.2.2.2.1 = some ((d,()),()):=d1
 have ol:=o2.1
 have ql:=q2.1
 have dl:=d2.1
 have keyA:∀ {vZ v0 v4 v5 v6 v7 v8 v9 ua ub uc ud ue uf ug uh ui uj uk ul um un vv vb vy vx uo up uq ur us ut uu uv uw ux uy uz uA uB w5 uC w6 uD uE w7 w8 w9 ka kb kc uF uG vw uH uI:_},∃ (o':L Oe) (q':L Ie),fixO s110r_L0 (((),((),((),((),((),((),((o.len:Int),((0:Int),())))))))),(((),(vZ,((),(v0,(v4,(v5,(v6,(v7,(v8,(v9,(ua,(ub,(uc,(ud,(ue,(uf,(ug,(uh,((),(ui,((),(uj,(uk,((),(ul,(um,(un,()))))))))))))))))))))))))))),((vv,(vb,(vy,(vx,(uo,(up,(uq,(ur,(us,(ut,(uu,(uv,(uw,(ux,(uy,(uz,(uA,(uB,(w5,(uC,(w6,(uD,(uE,(w7,(w8,(w9,(ka,()))))))))))))))))))))))))))),((o,(fun _=>false)),((q,(fun _=>false)),((kb,kc),(uF,(uG,(vw,(uH,(uI,()))))))))))) = some (.inl (((),((),((),((),((),()))))),(((),(vZ,((),(v0,(v4,(v5,(v6,(v7,(v8,(v9,(ua,(ub,(uc,(ud,(ue,(uf,(ug,(uh,((),(ui,((),(uj,(uk,((),(ul,(um,(un,()))))))))))))))))))))))))))),(((),(vb,((),(vx,(uo,(up,(uq,(ur,(us,(ut,(uu,(uv,(uw,(ux,(uy,(uz,(uA,(uB,((),(uC,((),(uD,(uE,((),((),((),((),()))))))))))))))))))))))))))),(o',(q',((kb,kc),(uF,(uG,(vw,(uH,(uI,(vv,(vy,(w5,(w6,(w7,(w8,(w9,(ka,())))))))))))))))))))) ∧ (SmR SmO o' o ∧ SmR SmI q' q) ∧ (WL o' ∧ ∀ i,i < o'.len→WL (o'.get i).2.1) ∧ WL q' ∧ ∀ i,i < q'.len→WL (q'.get i).1:=by
  intro vZ v0 v4 v5 v6 v7 v8 v9 ua ub uc ud ue uf ug uh ui uj uk ul um un vv vb vy vx uo up uq ur us ut uu uv uw ux uy uz uA uB w5 uC w6 uD uE w7 w8 w9 ka kb kc uF uG vw uH uI
  obtain ⟨z,z1,o',q',rfl,z2,z3⟩:=loop_n (step:=s110r_L0) o.len
   (fun i z=>∃ (o':L Oe) (q':L Ie) (mo mq:Nat→Bool),z = (((),((),((),((),((),((),((o.len:Int),((i:Int),())))))))),(((),(vZ,((),(v0,(v4,(v5,(v6,(v7,(v8,(v9,(ua,(ub,(uc,(ud,(ue,(uf,(ug,(uh,((),(ui,((),(uj,(uk,((),(ul,(um,(un,()))))))))))))))))))))))))))),((vv,(vb,(vy,(vx,(uo,(up,(uq,(ur,(us,(ut,(uu,(uv,(uw,(ux,(uy,(uz,(uA,(uB,(w5,(uC,(w6,(uD,(uE,(w7,(w8,(w9,(ka,()))))))))))))))))))))))))))),((o',mo),((q',mq),((kb,kc),(uF,(uG,(vw,(uH,(uI,()))))))))))) ∧ (o'.len = o.len ∧ (∀ j,j < i→(SmO (o'.get j) (o.get j) ∧ WL (o'.get j).2.1) ∧ mo j = true) ∧ ∀ j,i≤j→o'.get j = o.get j) ∧ q'.len = q.len ∧ (∀ j,j < i→(SmI (q'.get j) (q.get j) ∧ WL (q'.get j).1) ∧ mq j = true) ∧ (∀ j,i≤j→q'.get j = q.get j) ∧ WL o' ∧ WL q')
   (fun z=>∃ (o':L Oe) (q':L Ie),z = .inl (((),((),((),((),((),()))))),(((),(vZ,((),(v0,(v4,(v5,(v6,(v7,(v8,(v9,(ua,(ub,(uc,(ud,(ue,(uf,(ug,(uh,((),(ui,((),(uj,(uk,((),(ul,(um,(un,()))))))))))))))))))))))))))),(((),(vb,((),(vx,(uo,(up,(uq,(ur,(us,(ut,(uu,(uv,(uw,(ux,(uy,(uz,(uA,(uB,((),(uC,((),(uD,(uE,((),((),((),((),()))))))))))))))))))))))))))),(o',(q',((kb,kc),(uF,(uG,(vw,(uH,(uI,(vv,(vy,(w5,(w6,(w7,(w8,(w9,(ka,()))))))))))))))))))) ∧ (SmR SmO o' o ∧ SmR SmI q' q) ∧ (WL o' ∧ ∀ i,i < o'.len→WL (o'.get i).2.1) ∧ WL q' ∧ ∀ i,i < q'.len→WL (q'.get i).1)
   (by
    rintro i _ hi ⟨o',q',mo,mq,rfl,⟨a1,a2,a3⟩,b1,b2,b3,b4⟩
    have hio':i < o'.len:=by omega
    have hiq:i < q.len:=by omega
    have hiq':i < q'.len:=by omega
    have eo:=a3 i (Nat.le_refl _)
    have eq:=b3 i (Nat.le_refl _)
    have so:i < (sOuts s).len:=by omega
    have sq:i < (sIns s).len:=by omega
    have co:=o2.2 i hi
    have cq:=q2.2 i hiq
    obtain ⟨u,u1,u2⟩:=out196 (o.get i) (by rw [co]; exact h6' i so) (by rw [co]; exact n6' i so)
    obtain ⟨v,v1,v2⟩:=cl197 (q.get i).1 (by rw [cq]; exact h7' i sq) (by rw [cq]; exact n7' i sq)
    refine .inl ⟨_,?_,L.set o' i u,L.set q' i (v,()),Go.VE.upd mo i true,Go.VE.upd mq i true,rfl,⟨a1,fun j hj=>?_,fun j hj=>by rw [set_ne_get _ _ (by omega)]; exact a3 j (by omega)⟩,b1,fun j hj=>?_,fun j hj=>by rw [set_ne_get _ _ (by omega)]; exact b3 j (by omega),b4⟩
    · simp only [s110r_L0,q110r_L0]
      rw [bif_t (idx_lt hi),bif_t (idx_in hio'),tN,eo]
      refine bind_eq u1 ?_
      refine (bif_t (idx_in hio')).trans ((bif_t (idx_in hiq')).trans ?_)
      rw [eq]
      refine bind_eq v1 ?_
      refine (bif_t (idx_in hiq')).trans ?_
      rw [wI_succ hi (by omega)]
    · rw [updT]
      rcases Nat.lt_or_eq_of_le (Nat.le_of_lt_succ hj) with e | rfl
      · rw [set_ne_get _ _ (by omega),if_neg (by omega)]; exact a2 j e
      · rw [set_eq_get,if_pos rfl]; exact ⟨u2,rfl⟩
    · rw [updT]
      rcases Nat.lt_or_eq_of_le (Nat.le_of_lt_succ hj) with e | rfl
      · rw [set_ne_get _ _ (by omega),if_neg (by omega)]; exact b2 j e
      · rw [set_eq_get,if_pos rfl]; exact ⟨v2,rfl⟩)
   (by
    rintro _ ⟨o',q',mo,mq,rfl,⟨a1,a2,a3⟩,b1,b2,b3,b4⟩
    refine ⟨_,?_,o',q',rfl,⟨⟨a1,fun j hj=>(a2 j (by omega)).1.1⟩,b1,fun j hj=>(b2 j (by omega)).1.1⟩,⟨b4.1,fun j hj=>(a2 j (by omega)).1.2⟩,b4.2,fun j hj=>(b2 j (by omega)).1.2⟩
    simp only [s110r_L0,q110r_L0]
    rw [bif_f (idx_end _),bif_t (allOwn_t (fun j hj=>(a2 j (by omega)).2)),bif_t (allOwn_t (fun j hj=>(b2 j (by omega)).2))]
    rfl) (((),((),((),((),((),((),((o.len:Int),((0:Int),())))))))),(((),(vZ,((),(v0,(v4,(v5,(v6,(v7,(v8,(v9,(ua,(ub,(uc,(ud,(ue,(uf,(ug,(uh,((),(ui,((),(uj,(uk,((),(ul,(um,(un,()))))))))))))))))))))))))))),((vv,(vb,(vy,(vx,(uo,(up,(uq,(ur,(us,(ut,(uu,(uv,(uw,(ux,(uy,(uz,(uA,(uB,(w5,(uC,(w6,(uD,(uE,(w7,(w8,(w9,(ka,()))))))))))))))))))))))))))),((o,(fun _=>false)),((q,(fun _=>false)),((kb,kc),(uF,(uG,(vw,(uH,(uI,()))))))))))) ⟨o,q,_,_,rfl,⟨rfl,fun j hj=>absurd hj (Nat.not_lt_zero j),fun _ _=>rfl⟩,rfl,fun j hj=>absurd hj (Nat.not_lt_zero j),fun _ _=>rfl,o3,q3⟩
  exact ⟨o',q',z1,z2,z3⟩
 have keyB:∀ {vZ v0 v4 v5 v6 v7 v8 v9 ua ub uc ud ue uf ug uh ui uj uk ul um un vb vx uo up uq ur us ut uu uv uw ux uy uz uA uB uC uD uE kd ke uF uG vw uH uI kf kg kh ki kj kk kl km:_},∃ (d':L De),fixO s110r_L2 (((),((),((),((),((),((),((d.len:Int),((0:Int),())))))))),(((),(vZ,((),(v0,(v4,(v5,(v6,(v7,(v8,(v9,(ua,(ub,(uc,(ud,(ue,(uf,(ug,(uh,((),(ui,((),(uj,(uk,((),(ul,(um,(un,()))))))))))))))))))))))))))),(((),(vb,((),(vx,(uo,(up,(uq,(ur,(us,(ut,(uu,(uv,(uw,(ux,(uy,(uz,(uA,(uB,((),(uC,((),(uD,(uE,((),((),((),((),()))))))))))))))))))))))))))),(kd,(ke,((d,(fun _=>false)),(uF,(uG,(vw,(uH,(uI,(kf,(kg,(kh,(ki,(kj,(kk,(kl,(km,()))))))))))))))))))) = some (.inl (((),((),((),((),((),()))))),(((),(vZ,((),(v0,(v4,(v5,(v6,(v7,(v8,(v9,(ua,(ub,(uc,(ud,(ue,(uf,(ug,(uh,((),(ui,((),(uj,(uk,((),(ul,(um,(un,()))))))))))))))))))))))))))),(((),(vb,((),(vx,(uo,(up,(uq,(ur,(us,(ut,(uu,(uv,(uw,(ux,(uy,(uz,(uA,(uB,((),(uC,((),(uD,(uE,((),((),((),((),()))))))))))))))))))))))))))),(kd,(ke,(d',(uF,(uG,(vw,(uH,(uI,(kf,(kg,(kh,(ki,(kj,(kk,(kl,(km,())))))))))))))))))))) ∧ SmR SmD d' d ∧ WL d' ∧ ∀ i,i < d'.len→WL (d'.get i).1 ∧ WL (d'.get i).2.1:=by
  intro vZ v0 v4 v5 v6 v7 v8 v9 ua ub uc ud ue uf ug uh ui uj uk ul um un vb vx uo up uq ur us ut uu uv uw ux uy uz uA uB uC uD uE kd ke uF uG vw uH uI kf kg kh ki kj kk kl km
  obtain ⟨z,z1,d',rfl,z2⟩:=loop_n (step:=s110r_L2) d.len
   (fun i z=>∃ (o':L De) (mo:Nat→Bool),z = (((),((),((),((),((),((),((d.len:Int),((i:Int),())))))))),(((),(vZ,((),(v0,(v4,(v5,(v6,(v7,(v8,(v9,(ua,(ub,(uc,(ud,(ue,(uf,(ug,(uh,((),(ui,((),(uj,(uk,((),(ul,(um,(un,()))))))))))))))))))))))))))),(((),(vb,((),(vx,(uo,(up,(uq,(ur,(us,(ut,(uu,(uv,(uw,(ux,(uy,(uz,(uA,(uB,((),(uC,((),(uD,(uE,((),((),((),((),()))))))))))))))))))))))))))),(kd,(ke,((o',mo),(uF,(uG,(vw,(uH,(uI,(kf,(kg,(kh,(ki,(kj,(kk,(kl,(km,()))))))))))))))))))) ∧ o'.len = d.len ∧ (∀ j,j < i→(SmD (o'.get j) (d.get j) ∧ WL (o'.get j).1 ∧ WL (o'.get j).2.1) ∧ mo j = true) ∧ (∀ j,i≤j→o'.get j = d.get j) ∧ WL o')
   (fun z=>∃ (o':L De),z = .inl (((),((),((),((),((),()))))),(((),(vZ,((),(v0,(v4,(v5,(v6,(v7,(v8,(v9,(ua,(ub,(uc,(ud,(ue,(uf,(ug,(uh,((),(ui,((),(uj,(uk,((),(ul,(um,(un,()))))))))))))))))))))))))))),(((),(vb,((),(vx,(uo,(up,(uq,(ur,(us,(ut,(uu,(uv,(uw,(ux,(uy,(uz,(uA,(uB,((),(uC,((),(uD,(uE,((),((),((),((),()))))))))))))))))))))))))))),(kd,(ke,(o',(uF,(uG,(vw,(uH,(uI,(kf,(kg,(kh,(ki,(kj,(kk,(kl,(km,()))))))))))))))))))) ∧ SmR SmD o' d ∧ WL o' ∧ ∀ i,i < o'.len→WL (o'.get i).1 ∧ WL (o'.get i).2.1)
   (by
    rintro i _ hi ⟨o',mo,rfl,a1,a2,a3,a4⟩
    have hio':i < o'.len:=by omega
    have eo:=a3 i (Nat.le_refl _)
    have so:i < (sDevs s).len:=by omega
    have co:=d2.2 i hi
    obtain ⟨u,u1,u2⟩:=dev198 (d.get i) (by rw [co]; exact h8' i so) (by rw [co]; exact n8' i so)
    refine .inl ⟨_,?_,L.set o' i u,Go.VE.upd mo i true,rfl,a1,fun j hj=>?_,fun j hj=>by rw [set_ne_get _ _ (by omega)]; exact a3 j (by omega),a4⟩
    · simp only [s110r_L2,q110r_L2]
      rw [bif_t (idx_lt hi),bif_t (idx_in hio'),tN,eo]
      refine bind_eq u1 ?_
      refine (bif_t (idx_in hio')).trans ?_
      rw [wI_succ hi (by omega)]
    · rw [updT]
      rcases Nat.lt_or_eq_of_le (Nat.le_of_lt_succ hj) with e | rfl
      · rw [set_ne_get _ _ (by omega),if_neg (by omega)]; exact a2 j e
      · rw [set_eq_get,if_pos rfl]; exact ⟨u2,rfl⟩)
   (by
    rintro _ ⟨o',mo,rfl,a1,a2,a3,a4⟩
    refine ⟨_,?_,o',rfl,⟨a1,fun j hj=>(a2 j (by omega)).1.1⟩,a4,fun j hj=>(a2 j (by omega)).1.2⟩
    simp only [s110r_L2,q110r_L2]
    rw [bif_f (idx_end _),bif_t (allOwn_t (fun j hj=>(a2 j (by omega)).2))]
    rfl) (((),((),((),((),((),((),((d.len:Int),((0:Int),())))))))),(((),(vZ,((),(v0,(v4,(v5,(v6,(v7,(v8,(v9,(ua,(ub,(uc,(ud,(ue,(uf,(ug,(uh,((),(ui,((),(uj,(uk,((),(ul,(um,(un,()))))))))))))))))))))))))))),(((),(vb,((),(vx,(uo,(up,(uq,(ur,(us,(ut,(uu,(uv,(uw,(ux,(uy,(uz,(uA,(uB,((),(uC,((),(uD,(uE,((),((),((),((),()))))))))))))))))))))))))))),(kd,(ke,((d,(fun _=>false)),(uF,(uG,(vw,(uH,(uI,(kf,(kg,(kh,(ki,(kj,(kk,(kl,(km,()))))))))))))))))))) ⟨d,_,rfl,rfl,fun j hj=>absurd hj (Nat.not_lt_zero j),fun _ _=>rfl,d3⟩
  exact ⟨d',z1,z2⟩
 unfold g110r
 refine bind_of ⟨_,g1,bind_of ⟨_,c1,bind_of ⟨_,y1',bind_of ⟨_,p1,bind_of ⟨_,o1',bind_of ⟨_,q1',bind_of ⟨_,d1',?_⟩⟩⟩⟩⟩⟩⟩
 refine bind_of (keyA.elim fun o' h=>h.elim fun q' h=>⟨_,h.1,?_⟩)
 refine bind_of (keyB.elim fun d' k=>⟨_,k.1,?_⟩)
 obtain ⟨_,⟨hA,hB⟩,hO,hI⟩:=h
 obtain ⟨_,kA,kD⟩:=k
 refine ⟨_,rfl,⟨g2,rfl,rfl,c2,⟨rfl,p2⟩,rfl,rfl,y2,?_,?_,?_⟩,g3,g4,c3,p3,y3,hO,hI,kD⟩
 · exact ⟨hA.1.trans ol,fun j hj=>by have:=hA.2 j hj; rw [o2.2 j (by rw [← hA.1]; exact hj)] at this; exact this⟩
 · exact ⟨hB.1.trans ql,fun j hj=>by have:=hB.2 j hj; rw [q2.2 j (by rw [← hB.1]; exact hj)] at this; exact this⟩
 · exact ⟨kA.1.trans dl,fun j hj=>by have:=kA.2 j hj; rw [d2.2 j (by rw [← kA.1]; exact hj)] at this; exact this⟩
theorem Ok.no {α:Type} {c:Bool} {a b:Option α} {R:α→Prop} (hc:c = false) (h:Ok b R):Ok (bif c then a else b) R:=by
 subst hc; exact h
theorem OutP.len {r:Ch} {o:Oe} (h:OutP r o):o.2.1.len≤8:=by
 obtain ⟨h1,h2,h3,_⟩:=h
 have hc:=chan_of h1
 by_cases q:r.1 = 0
 · have:=h2 q; omega
 · have:=h3 q; omega
theorem InP.len {r:Ch} {o:Ie} (h:InP r o):o.1.len≤8:=by
 obtain ⟨h1,h2,h3,_⟩:=h
 have hc:=chan_of h1
 by_cases q:r.1 = 0
 · have:=h2 q; omega
 · have:=h3 q; omega
theorem EndsO.each {t:Tb} {p:Nat} {x:L Oe} (h:EndsO t p x) {i:Nat} (hi:i < x.len):(x.get i).2.1.len≤8 ∧ WL (x.get i).2.1:=by
 have k:=h.2.1 i (by rw [← h.1]; exact hi)
 by_cases q:((tChans t).get i).2.1 = p
 · exact ⟨(k.1 q).len,(k.1 q).2.2.2⟩
 · have e:=(k.2 q).2
   exact ⟨by omega,fun _=>e⟩
theorem EndsI.each {t:Tb} {p:Nat} {x:L Ie} (h:EndsI t p x) {i:Nat} (hi:i < x.len):(x.get i).1.len≤8 ∧ WL (x.get i).1:=by
 have k:=h.2.1 i (by rw [← h.1]; exact hi)
 by_cases q:((tChans t).get i).2.2.1 = p
 · exact ⟨(k.1 q).len,(k.1 q).2.2.2⟩
 · have e:=k.2 q
   exact ⟨by omega,fun _=>e⟩
theorem EndsD.each {t:Tb} {p:Nat} {x:L De} (h:EndsD t p x) {i:Nat} (hi:i < x.len):((x.get i).1.len≤8 ∧ (x.get i).2.1.len≤8) ∧ WL (x.get i).1 ∧ WL (x.get i).2.1:=by
 have k:=h.2.1 i (by rw [← h.1]; exact hi)
 by_cases q:(tDevs t).get i = p
 · have e:=k.1 q
   exact ⟨⟨e.1,e.2.1⟩,e.2.2⟩
 · have e:=k.2 q
   exact ⟨by omega,fun _=>e.1,fun _=>e.2⟩
theorem PG.nn {t:Tb} {p:Nat} {s:St} (h:PG t p s):NN s :=
 ⟨wl h.gu.2.2.2,fun i hi=>wl (h.gu.2.2.1.2 i (by rw [← h.gu.2.2.1.1]; exact hi)).2,h.ca.2.2,h.tl.2.2.2.2,fun i hi=>wl (h.bo.2 i (by rw [← h.bo.1]; exact hi)).2,
  ⟨h.ou.2.2,fun i hi=>(h.ou.each hi).2⟩,⟨h.is.2.2,fun i hi=>(h.is.each hi).2⟩,h.de.2.2,fun i hi=>(h.de.each hi).2⟩
theorem FitG.bnd {ws:L Wi} {x:Im} (hw:WG ws) (h:FitG ws x):BndI x 1048576:=by
 refine ⟨by have:=h.1; have:=hw.1; omega,fun i hi=>?_⟩
 have hi':i < ws.len:=by rw [← h.1]; exact hi
 have a:=(h.2 i hi').1
 have b:=(f308_iff _).mp (hw.2 i hi')
 omega
theorem CaG.le {k:Ca} (h:CaG k):k.2.1.len≤1048576 ∧ ∀ i,i < k.2.1.len→(k.2.1.get i).len≤1048576:=by
 obtain ⟨h1,h2,h3⟩:=h
 obtain ⟨s1,s2,_⟩:=shapeG h1
 exact ⟨by omega,fun i hi=>by have:=(h3 i hi).1; omega⟩
theorem PG.bnd {t:Tb} {p:Nat} {s:St} (g:TG t p) (h:PG t p s):BndS s 1048576:=by
 have c:=h.ca.2.1.le
 have h1:=h.gu.1
 have h2:=h.tl.2.1
 have h3:=g.tl
 have h4:=h.ou.1
 have h5:=h.is.1
 have h6:=h.de.1
 have h7:=g.ch.1
 have h8:=g.dv
 exact ⟨by omega,h.gu.2.2.1.bnd g.w,c,by omega,h.bo.bnd g.w,⟨by omega,fun i hi=>by have:=(h.ou.each hi).1; omega⟩,⟨by omega,fun i hi=>by have:=(h.is.each hi).1; omega⟩,by omega,fun i hi=>by have:=(h.de.each hi).1; omega⟩
theorem WL.no {α:Type} {x:L α} (h:WL x) (k:x.len ≠ 0):x.nil = false:=by
 cases e:x.nil with
 | false=>rfl
 | true=>exact absurd (h e) k
theorem FitG.same {ws:L Wi} {x y:Im} (hw:WG ws) (h:SmR SmL x y) (n:∀ i,i < x.len→WL (x.get i)) (k:FitG ws y):FitG ws x:=by
 refine ⟨h.1.trans k.1,fun i hi=>?_⟩
 have hx:i < x.len:=by rw [h.1,k.1]; exact hi
 have e:=(h.2 i hx).1
 have f:=(k.2 i hi).1
 have b:=(f308_iff _).mp (hw.2 i hi)
 exact ⟨by rw [e]; exact f,(n i hx).no (by omega)⟩
theorem PG.same {t:Tb} {p:Nat} {a b:St} (g:TG t p) (h:SmS a b) (n:NN a) (k:PG t p b):PG t p a:=by
 obtain ⟨n1,n2,n3,n4,n5,⟨n6,n6'⟩,⟨n7,n7'⟩,n8,n8'⟩:=n
 have l16:a.1.1.len = 16:=h.gu.1.1.trans k.gu.1
 refine ⟨⟨l16,(h.gu.1.2 0 (by omega)).trans k.gu.2.1,k.gu.2.2.1.same g.w h.gu.2.2 n2,n1.no (by omega)⟩,by rw [h.he]; exact k.he,⟨h.ca.1.trans k.ca.1,⟨by rw [h.ca.1]; exact k.ca.2.1.1,by rw [h.ca.1,h.ca.2.1]; exact k.ca.2.1.2.1,fun i hi=>?_⟩,n3⟩,
  ⟨h.tl.1.trans k.tl.1,by rw [h.tl.2.1]; exact k.tl.2.1,fun i hi=>by rw [h.tl.2.2 i hi]; exact k.tl.2.2.1 i (by rw [← h.tl.2.1]; exact hi),fun i j hij hj=>by
   rw [h.tl.2.2 i (by omega),h.tl.2.2 j hj]; exact k.tl.2.2.2.1 i j hij (by rw [← h.tl.2.1]; exact hj),n4⟩,
  k.bo.same g.w h.bo n5,⟨h.ou.1.trans k.ou.1,fun i hi=>?_,n6⟩,⟨h.is.1.trans k.is.1,fun i hi=>?_,n7⟩,⟨h.de.1.trans k.de.1,fun i hi=>?_,n8⟩⟩
 · have e:=h.ca.2.2 i hi
   have r:=k.ca.2.1.2.2 i (by rw [← h.ca.2.1]; exact hi)
   rw [h.ca.1]
   exact ⟨by rw [e.1]; exact r.1,fun j hj=>by rw [e.2 j hj]; exact r.2.1 j (by rw [← e.1]; exact hj),fun j m hjm hm=>by rw [e.2 j (by omega),e.2 m hm]; exact r.2.2 j m hjm (by rw [← e.1]; exact hm)⟩
 · have hx:i < (sOuts a).len:=by rw [h.ou.1,k.ou.1]; exact hi
   have e:=h.ou.2 i hx
   have q:=k.ou.2.1 i hi
   exact ⟨fun w=>⟨(q.1 w).1,fun z=>by rw [e.1,e.2.1]; exact (q.1 w).2.1 z,fun z=>by rw [e.1,e.2.1]; exact (q.1 w).2.2.1 z,n6' i hx⟩,fun w=>by rw [e.1,e.2.1]; exact q.2 w⟩
 · have hx:i < (sIns a).len:=by rw [h.is.1,k.is.1]; exact hi
   have e:=h.is.2 i hx
   have q:=k.is.2.1 i hi
   exact ⟨fun w=>⟨(q.1 w).1,fun z=>by rw [e.1]; exact (q.1 w).2.1 z,fun z=>by rw [e.1]; exact (q.1 w).2.2.1 z,n7' i hx⟩,fun w=>by rw [e.1]; exact q.2 w⟩
 · have hx:i < (sDevs a).len:=by rw [h.de.1,k.de.1]; exact hi
   have e:=h.de.2 i hx
   have q:=k.de.2.1 i hi
   exact ⟨fun w=>⟨by rw [e.1.1]; exact (q.1 w).1,by rw [e.2.1]; exact (q.1 w).2.1,n8' i hx⟩,fun w=>by rw [e.1.1,e.2.1]; exact q.2 w⟩
theorem snocW {X D β:Type} {step:X→Option (X⊕D)} (n:Nat) (st:Nat→L β→X) (fin:L β→D) (d:β) (R:Nat→β→Prop)
 (hs:∀ i r,i < n→r.len = i→∃ q,step (st i r) = some (.inl (st (i + 1) (L.app r (L.of d [q])))) ∧ R i q)
 (he:∀ r,r.len = n→step (st n r) = some (.inr (fin r))) {r0:L β} (h0:r0.len = 0) :
 ∃ r,fixO step (st 0 r0) = some (fin r) ∧ (r.len = n ∧ WL r) ∧ ∀ i,i < n→R i (r.get i):=by
 obtain ⟨d',e,r,rfl,h⟩:=loop_n (step:=step) n (fun i x=>∃ r:L β,x = st i r ∧ (r.len = i ∧ WL r) ∧ ∀ j,j < i→R j (r.get j)) (fun d'=>∃ r:L β,d' = fin r ∧ (r.len = n ∧ WL r) ∧ ∀ i,i < n→R i (r.get i))
  (by
   rintro i _ hi ⟨r,rfl,⟨h1,h2⟩,h3⟩
   obtain ⟨q,q1,q2⟩:=hs i r hi h1
   exact .inl ⟨_,q1,_,rfl,⟨by show r.len + 1 = _; omega,wlApp h2⟩,fun j hj=>by
    rcases Nat.lt_or_eq_of_le (Nat.le_of_lt_succ hj) with e | rfl
    · rw [snoc_lt _ _ _ (by omega)]; exact h3 j e
    · rw [snoc_at _ _ _ h1]; exact q2⟩)
  (by
   rintro _ ⟨r,rfl,⟨h1,h2⟩,h3⟩
   exact ⟨_,he r h1,r,rfl,⟨h1,h2⟩,h3⟩) _ ⟨r0,rfl,⟨h0,fun _=>h0⟩,fun j hj=>absurd hj (Nat.not_lt_zero j)⟩
 exact ⟨r,e,h⟩
theorem ramK {ws:L Wi} {x:Im} (hw:WG ws) (h:FitG ws x):Ok (g130r x) fun a=>FitG ws a.1.1:=by
 have hb:=h.bnd hw
 have h4:=hw.1
 obtain ⟨r,h1,⟨h2,_⟩,h3⟩:=snocW (step:=s130r_L0) x.len (fun i r=>((x,((),((i:Int),()))),(r,()))) (fun r=>.inl (((),()),(r,()))) (Ty.zero (.sl (.int .u8))) (fun i q=>q.len = (x.get i).len ∧ q.nil = false)
  (fun i r hi hr=>⟨L.app (L.of (Ty.zero (.int .u8)) []) (x.get i),by
   simp only [s130r_L0,q130r_L0]
   rw [bif_t (idx_lt hi),bif_t (idx_in hi),tN,bif_t (app0_fit _ _ (hb.2 i hi)),bif_t (snoc_fit _ _ _ (by have:=hb.1; omega)),wI_succ hi (by have:=hb.1; omega)],Nat.zero_add _,rfl⟩)
  (fun r hr=>by
   simp only [s130r_L0,q130r_L0]
   rw [bif_f (idx_end _)]) (r0:=L.of (Ty.zero (.sl (.int .u8))) []) rfl
 refine ⟨((r,()),()),?_,h2.trans h.1,fun i hi=>?_⟩
 · unfold g130r
   have h1':fixO s130r_L0 ((x,((),((0:Int),()))),((L.of (Ty.zero (.sl (.int .u8))) []),())) = _:=h1
   rw [h1']; rfl
 · have e:=h3 i (by rw [h.1]; exact hi)
   exact ⟨by show ((r.get i).len:Int) = _; rw [e.1]; exact (h.2 i hi).1,e.2⟩
theorem guestK {t:Tb} {p:Nat} {x:Im} (g:TG t p) (h:FitG ((tParts t).get p).2.2.2.1 x):Ok (g129r t (p:Int) x) fun a=>GuR ((tParts t).get p).2.2.2.1 a.1.1.1 a.1.1.2.2.1:=by
 have hix:(decide (0≤(p:Int))&&decide ((p:Int) < (t.2.2.2.2.2.2.2.1.len:Int))) = true:=idx_in g.pl
 have key:∀ {vA va vB vz kJ:_},Ok (fixO s129r_L0 (((),((),((0:Int),()))),((vA,(va,(vB,()))),(((nilL (.int .u32)),(vz,((),()))),(kJ,()))))) fun z=>∃ r:L Int,z = .inl (((),((),())),(((),(va,((),()))),(((),(vz,((),()))),(vA,(vB,(r,(kJ,()))))))) ∧ (r.len = 16 ∧ WL r) ∧ ∀ i,i < 16→r.get i = (0:Int):=by
  intro vA va vB vz kJ
  obtain ⟨r,k1,k2⟩:=snocW (step:=s129r_L0) 16 (fun i r=>(((),((),((i:Int),()))),((vA,(va,(vB,()))),((r,(vz,((),()))),(kJ,()))))) (fun r=>.inl (((),((),())),(((),(va,((),()))),(((),(vz,((),()))),(vA,(vB,(r,(kJ,())))))))) (Ty.zero (.int .u32)) (fun i q=>q = (0:Int))
   (fun i r hi hr=>⟨(0:Int),by
    simp only [s129r_L0,q129r_L0]
    rw [bif_t (by simp; omega),bif_t (snoc_fit _ _ _ (by omega)),wI_succ hi (by omega)],rfl⟩)
   (fun r hr=>by
    simp only [s129r_L0,q129r_L0]
    rw [bif_f (by simp)]) (r0:=nilL (.int .u32)) rfl
  exact ⟨_,k1,r,rfl,k2⟩
 unfold g129r
 refine Ok.grd hix (Ok.bind (ramK g.w h) fun y hy=>Ok.bind key ?_)
 rintro _ ⟨r,rfl,k2,k3⟩
 exact Ok.ret ⟨k2.1,k3 0 (by omega),hy,k2.2.no (by omega)⟩
theorem zb:(0:Int)≤0 ∧ (0:Int)≤1000000000:=by decide
theorem outE {t:Tb} {p:Nat} {x:L Oe} (g:TG t p) (hl:x.len = (tChans t).len) (hw:WL x) (h:∀ i,i < (tChans t).len→(x.get i).1 = 0 ∧ (x.get i).2.1.len = 0):EndsO t p x:=by
 refine ⟨hl,fun i hi=>⟨fun _=>?_,fun _=>h i hi⟩,hw⟩
 have hc:=chan_of (g.ch.2 i hi)
 obtain ⟨h1,h2⟩:=h i hi
 exact ⟨g.ch.2 i hi,fun _=>⟨h1,by omega⟩,fun _=>by omega,fun _=>h2⟩
theorem inE {t:Tb} {p:Nat} {x:L Ie} (g:TG t p) (hl:x.len = (tChans t).len) (hw:WL x) (h:∀ i,i < (tChans t).len→(x.get i).1.len = 0):EndsI t p x:=by
 refine ⟨hl,fun i hi=>⟨fun _=>?_,fun _=>h i hi⟩,hw⟩
 have hc:=chan_of (g.ch.2 i hi)
 have h1:=h i hi
 exact ⟨g.ch.2 i hi,fun _=>by omega,fun _=>by omega,fun _=>h1⟩
theorem devE {t:Tb} {p:Nat} {x:L De} (hl:x.len = (tDevs t).len) (hw:WL x) (h:∀ i,i < (tDevs t).len→(x.get i).1.len = 0 ∧ (x.get i).2.1.len = 0):EndsD t p x:=by
 refine ⟨hl,fun i hi=>⟨fun _=>?_,fun _=>h i hi⟩,hw⟩
 obtain ⟨h1,h2⟩:=h i hi
 exact ⟨by omega,by omega,fun _=>h1,fun _=>h2⟩
theorem emptyK {t:Tb} {p:Nat} (g:TG t p):Ok (g34r t.2.1) fun a=>a.1.1.1 = t.2.1 ∧ CaG a.1.1 ∧ ∀ i,i < a.1.1.2.1.len→WL (a.1.1.2.1.get i):=by
 obtain ⟨c,e,h1,h2,h3,_⟩:=emptyD t.2.1 g.sh
 exact ⟨_,e,h1,h2,fun i hi=>wl (h3 i hi)⟩
theorem tlbE {t:Tb} {p:Nat} (g:TG t p):f35r t.2.2.1 = (t.2.2.1,(nilL (.int .i64),())):=by
 have h:=g.tl
 unfold f35r
 rw [(f97_iff _ _ _).mpr (by omega)]; rfl
theorem tlbG {n:Int} (h:1≤n):TlG n (n,(nilL (.int .i64),())):=⟨rfl,by show ((0:Nat):Int)≤n; omega,fun i hi=>absurd hi (Nat.not_lt_zero i),fun i k _ hk=>absurd hk (Nat.not_lt_zero k),fun _=>rfl⟩
theorem bootK {t:Tb} {p:Nat} {x:Im} (g:TG t p) (h:FitG ((tParts t).get p).2.2.2.1 x):Ok (g46r t (p:Int) x) fun a=>PG t p a.1.1 ∧ ∀ i,i < (tChans t).len→((sOuts a.1.1).get i).1 = 0:=by
 have hc8:=g.ch.1
 have hd8:=g.dv
 have keyA:∀ {vA va vB vc vd ve vf vg vh vj vk vl vm vn vo vp vq vr wc vs wd vt vu we wf wg wh vz uK uL uM uN uO uP uQ uR uS uT uU uV uW uX uY uZ u0 u5 kM u6 u7 u9 wa wb:_},Ok (fixO s46r_L0 (((),((),((),((0:Int),())))),(t,((vA,(va,(vB,(vc,(vd,(ve,(vf,(vg,(vh,(vj,(vk,(vl,(vm,(vn,(vo,(vp,(vq,(vr,(wc,(vs,(wd,(vt,(vu,(we,(wf,(wg,(wh,()))))))))))))))))))))))))))),(((),(vz,((),(uK,(uL,(uM,(uN,(uO,(uP,(uQ,(uR,(uS,(uT,(uU,(uV,(uW,(uX,(uY,((),(uZ,((),(u0,(u5,((),((nilL (.pair (.int .i64) (.pair (.sl (.int .u32)) .unit))),((nilL (.pair (.sl (.int .u32)) .unit)),(kM,()))))))))))))))))))))))))))),(u6,(u7,(u9,(wa,(wb,())))))))))) fun z=>∃ (o:L Oe) (q:L Ie),z = .inl (((),((),((),()))),(t,(((),(va,((),(vc,(vd,(ve,(vf,(vg,(vh,(vj,(vk,(vl,(vm,(vn,(vo,(vp,(vq,(vr,((),(vs,((),(vt,(vu,((),((),((),((),()))))))))))))))))))))))))))),(((),(vz,((),(uK,(uL,(uM,(uN,(uO,(uP,(uQ,(uR,(uS,(uT,(uU,(uV,(uW,(uX,(uY,((),(uZ,((),(u0,(u5,((),((),((),((),()))))))))))))))))))))))))))),(vA,(vB,(wc,(wd,(we,(wf,(wg,(wh,(u6,(u7,(u9,(wa,(wb,(o,(q,(kM,())))))))))))))))))))) ∧ (o.len = (tChans t).len ∧ WL o ∧ ∀ i,i < (tChans t).len→(o.get i).1 = 0 ∧ (o.get i).2.1.len = 0) ∧ (q.len = (tChans t).len ∧ WL q ∧ ∀ i,i < (tChans t).len→(q.get i).1.len = 0):=by
  intro vA va vB vc vd ve vf vg vh vj vk vl vm vn vo vp vq vr wc vs wd vt vu we wf wg wh vz uK uL uM uN uO uP uQ uR uS uT uU uV uW uX uY uZ u0 u5 kM u6 u7 u9 wa wb
  refine loopK (tChans t).len (fun i z=>∃ (o:L Oe) (q:L Ie),z = (((),((),((),((i:Int),())))),(t,((vA,(va,(vB,(vc,(vd,(ve,(vf,(vg,(vh,(vj,(vk,(vl,(vm,(vn,(vo,(vp,(vq,(vr,(wc,(vs,(wd,(vt,(vu,(we,(wf,(wg,(wh,()))))))))))))))))))))))))))),(((),(vz,((),(uK,(uL,(uM,(uN,(uO,(uP,(uQ,(uR,(uS,(uT,(uU,(uV,(uW,(uX,(uY,((),(uZ,((),(u0,(u5,((),(o,(q,(kM,()))))))))))))))))))))))))))),(u6,(u7,(u9,(wa,(wb,()))))))))) ∧ (o.len = i ∧ WL o ∧ ∀ j,j < i→(o.get j).1 = 0 ∧ (o.get j).2.1.len = 0) ∧ (q.len = i ∧ WL q ∧ ∀ j,j < i→(q.get j).1.len = 0)) ?_ ?_ _ ⟨_,_,rfl,⟨rfl,fun _=>rfl,fun j hj=>absurd hj (Nat.not_lt_zero j)⟩,rfl,fun _=>rfl,fun j hj=>absurd hj (Nat.not_lt_zero j)⟩
  · rintro i _ hi ⟨o,q,rfl,⟨o1,o2,o3⟩,q1,q2,q3⟩
    simp only [s46r_L0,q46r_L0]
    rw [wI_succ hi (by omega)]
    refine Ok.grd (idx_lt hi) (Ok.grd (snoc_fit _ _ _ (by omega)) (Ok.grd (snoc_fit _ _ _ (by omega)) (Ok.ret (.inl ⟨_,rfl,_,_,rfl,⟨by show o.len + 1 = _; omega,wlApp o2,fun j hj=>?_⟩,by show q.len + 1 = _; omega,wlApp q2,fun j hj=>?_⟩))))
    · rcases Nat.lt_or_eq_of_le (Nat.le_of_lt_succ hj) with e | rfl
      · rw [snoc_lt _ _ _ (by omega)]; exact o3 j e
      · rw [snoc_at _ _ _ o1]; exact ⟨rfl,rfl⟩
    · rcases Nat.lt_or_eq_of_le (Nat.le_of_lt_succ hj) with e | rfl
      · rw [snoc_lt _ _ _ (by omega)]; exact q3 j e
      · rw [snoc_at _ _ _ q1]; rfl
  · rintro _ ⟨o,q,rfl,h⟩
    simp only [s46r_L0,q46r_L0]
    exact Ok.no (idx_end (tChans t).len) (Ok.ret ⟨_,rfl,o,q,rfl,h⟩)
 have keyB:∀ {va vc vd ve vf vg vh vj vk vl vm vn vo vp vq vr vs vt vu vz uK uL uM uN uO uP uQ uR uS uT uU uV uW uX uY uZ u0 u5 vC vD vE vF vG vH vI vJ u6 u7 u9 wa wb kK kL:_},Ok (fixO s46r_L2 (((),((),((),((0:Int),())))),(t,(((),(va,((),(vc,(vd,(ve,(vf,(vg,(vh,(vj,(vk,(vl,(vm,(vn,(vo,(vp,(vq,(vr,((),(vs,((),(vt,(vu,((),((),((),((),()))))))))))))))))))))))))))),(((),(vz,((),(uK,(uL,(uM,(uN,(uO,(uP,(uQ,(uR,(uS,(uT,(uU,(uV,(uW,(uX,(uY,((),(uZ,((),(u0,(u5,((),((),((),((),()))))))))))))))))))))))))))),(vC,(vD,(vE,(vF,(vG,(vH,(vI,(vJ,(u6,(u7,(u9,(wa,(wb,(kK,(kL,((nilL (.pair (.sl (.int .u32)) (.pair (.sl (.int .u32)) .unit))),()))))))))))))))))))))) fun z=>∃ r:L De,z = .inl (((),((),())),(((),(va,((),(vc,(vd,(ve,(vf,(vg,(vh,(vj,(vk,(vl,(vm,(vn,(vo,(vp,(vq,(vr,((),(vs,((),(vt,(vu,((),((),((),((),()))))))))))))))))))))))))))),(((),(vz,((),(uK,(uL,(uM,(uN,(uO,(uP,(uQ,(uR,(uS,(uT,(uU,(uV,(uW,(uX,(uY,((),(uZ,((),(u0,(u5,((),((),((),((),()))))))))))))))))))))))))))),(vC,(vD,(vE,(vF,(vG,(vH,(vI,(vJ,(u6,(u7,(u9,(wa,(wb,(kK,(kL,(r,()))))))))))))))))))) ∧ (r.len = (tDevs t).len ∧ WL r) ∧ ∀ i,i < (tDevs t).len→(r.get i).1.len = 0 ∧ (r.get i).2.1.len = 0:=by
  intro va vc vd ve vf vg vh vj vk vl vm vn vo vp vq vr vs vt vu vz uK uL uM uN uO uP uQ uR uS uT uU uV uW uX uY uZ u0 u5 vC vD vE vF vG vH vI vJ u6 u7 u9 wa wb kK kL
  obtain ⟨r,k1,k2⟩:=snocW (step:=s46r_L2) (tDevs t).len (fun i r=>(((),((),((),((i:Int),())))),(t,(((),(va,((),(vc,(vd,(ve,(vf,(vg,(vh,(vj,(vk,(vl,(vm,(vn,(vo,(vp,(vq,(vr,((),(vs,((),(vt,(vu,((),((),((),((),()))))))))))))))))))))))))))),(((),(vz,((),(uK,(uL,(uM,(uN,(uO,(uP,(uQ,(uR,(uS,(uT,(uU,(uV,(uW,(uX,(uY,((),(uZ,((),(u0,(u5,((),((),((),((),()))))))))))))))))))))))))))),(vC,(vD,(vE,(vF,(vG,(vH,(vI,(vJ,(u6,(u7,(u9,(wa,(wb,(kK,(kL,(r,()))))))))))))))))))))) (fun r=>.inl (((),((),())),(((),(va,((),(vc,(vd,(ve,(vf,(vg,(vh,(vj,(vk,(vl,(vm,(vn,(vo,(vp,(vq,(vr,((),(vs,((),(vt,(vu,((),((),((),((),()))))))))))))))))))))))))))),(((),(vz,((),(uK,(uL,(uM,(uN,(uO,(uP,(uQ,(uR,(uS,(uT,(uU,(uV,(uW,(uX,(uY,((),(uZ,((),(u0,(u5,((),((),((),((),()))))))))))))))))))))))))))),(vC,(vD,(vE,(vF,(vG,(vH,(vI,(vJ,(u6,(u7,(u9,(wa,(wb,(kK,(kL,(r,())))))))))))))))))))) (Ty.zero (.pair (.sl (.int .u32)) (.pair (.sl (.int .u32)) .unit))) (fun i q=>q.1.len = 0 ∧ q.2.1.len = 0)
   (fun i r hi hr=>⟨((nilL (.int .u32)),((nilL (.int .u32)),())),by
    simp only [s46r_L2,q46r_L2]
    refine (bif_t (idx_lt hi)).trans ?_
    rw [bif_t (snoc_fit _ _ _ (by omega)),wI_succ hi (by omega)],rfl,rfl⟩)
   (fun r hr=>by
    simp only [s46r_L2,q46r_L2]
    exact bif_f (idx_end _)) (r0:=nilL (.pair (.sl (.int .u32)) (.pair (.sl (.int .u32)) .unit))) rfl
  exact ⟨_,k1,r,rfl,k2⟩
 unfold g46r
 rw [tlbE g]
 refine Ok.bind (guestK g h) fun a ha=>Ok.bind (emptyK g) fun c hc=>Ok.bind (ramK g.w h) fun y hy=>Ok.bind keyA ?_
 rintro _ ⟨o,q,rfl,ho,hq⟩
 refine Ok.bind keyB ?_
 rintro _ ⟨r,rfl,hr⟩
 exact Ok.ret ⟨⟨ha,⟨zb,zb,z9⟩,hc,tlbG g.tl.1,hy,outE g ho.1 ho.2.1 ho.2.2,inE g hq.1 hq.2.1 hq.2.2,devE hr.1.1 hr.1.2 hr.2⟩,fun i hi=>(ho.2.2 i hi).1⟩
theorem z7:(0:Int)≤7 ∧ (7:Int)≤9:=by decide
theorem z8:(0:Int)≤8 ∧ (8:Int)≤9:=by decide
theorem z6:(0:Int)≤6 ∧ (6:Int)≤9:=by decide
theorem immK {m:Int} {n:Nat} (hn:n≤8) (h:f97 m 0 (wI ((n:Int) - 1)) = true):∃ k:Nat,m = k ∧ k < n:=by
 have:=(f97_iff _ _ _).mp h
 rw [wI_id (by omega) (by omega)] at this
 exact ⟨m.toNat,by omega,by omega⟩
set_option maxHeartbeats 2000000 in
theorem callK' {t:Tb} {p:Nat} {s:St} {i:Int×(Int×(Int×(Int×(Int×Unit))))} {c:Int} (g:TG t p) (h:PG t p s) (hA:0≤i.2.1 ∧ i.2.1≤15) (hB:0≤i.2.2.1 ∧ i.2.2.1≤15):Ok (g278p t p s i c) fun z=>(0≤z.1.1 ∧ z.1.1≤9) ∧ PG t p z.2.1:=by
 have h16:=h.gu.1
 have ra:(decide (0≤i.2.1)&&decide (i.2.1 < (s.1.1.len:Int))) = true:=by rw [h16]; simp; omega
 have rb:(decide (0≤i.2.2.1)&&decide (i.2.2.1 < (s.1.1.len:Int))) = true:=by rw [h16]; simp; omega
 unfold g278p
 have one:∀ {v:Int},Ok (g321w (s.1.1,(s.1.2.1,s.1.2.2)) i.2.1 v) fun z=>GuR ((tParts t).get p).2.2.2.1 z.2.1.1 z.2.1.2.2.1:=fun {v}=>setK (g:=s.1) h.gu hA
 refine Ok.bif (fun _=>Ok.bif (fun hf=>?_) fun _=>Ok.bind one fun z hz=>Ok.ret ⟨z9,hz,h.he,h.ca,h.tl,h.bo,h.ou,h.is,h.de⟩) fun _ =>
  Ok.bif (fun _=>Ok.bif (fun hf=>?_) fun _=>Ok.bind one fun z hz=>Ok.bind (setK (g:=(z.2.1.1,(s.1.2.1,z.2.1.2.2))) hz hB) fun y hy=>Ok.ret ⟨z9,hy,h.he,h.ca,h.tl,h.bo,h.ou,h.is,h.de⟩) fun _ =>
  Ok.bif (fun _=>Ok.bif (fun hf=>?_) fun _=>Ok.bind one fun z hz=>Ok.bind (setK (g:=(z.2.1.1,(s.1.2.1,z.2.1.2.2))) hz hB) fun y hy=>Ok.ret ⟨z9,hy,h.he,h.ca,h.tl,h.bo,h.ou,h.is,h.de⟩) fun _ =>
  Ok.bif (fun _=>Ok.bind (csrRK _ _ _) fun _ _=>Ok.bif (fun _=>Ok.ret ⟨z7,h⟩) fun _=>Ok.bind one fun z hz=>Ok.ret ⟨z9,hz,h.he,h.ca,h.tl,h.bo,h.ou,h.is,h.de⟩) fun _ =>
  Ok.bif (fun _=>Ok.grd ra (Ok.bind (csrWK _ _ _) fun _ _=>Ok.bif (fun _=>Ok.ret ⟨z7,h⟩) fun _=>Ok.ret ⟨z9,h⟩)) fun _ =>
  Ok.bif (fun _=>Ok.bind (leaveK _) fun _ _=>Ok.bif (fun _=>Ok.ret ⟨z8,h⟩) fun _=>Ok.ret ⟨z9,h⟩) fun _ =>
  Ok.bif (fun _=>Ok.ret ⟨z9,h⟩) fun _=>Ok.ret ⟨z6,h⟩
 · obtain ⟨k,e,hk⟩:=immK g.ch.1 hf
   have ec:(decide (0≤i.2.2.2.2.1)&&decide (i.2.2.2.2.1 < (t.2.2.2.2.2.2.2.2.2.1.len:Int))) = true:=by rw [e]; exact idx_in hk
   have eo:(decide (0≤i.2.2.2.2.1)&&decide (i.2.2.2.2.1 < (s.2.2.2.2.2.2.2.2.1.len:Int))) = true:=by rw [e]; exact idx_in (n:=(sOuts s).len) (by rw [h.ou.1]; exact hk)
   have ek:i.2.2.2.2.1.toNat = k:=by rw [e]; rfl
   rw [ek]
   refine Ok.grd ec (Ok.bif (fun hp=>?_) fun _=>Ok.bind one fun z hz=>Ok.ret ⟨z9,hz,h.he,h.ca,h.tl,h.bo,h.ou,h.is,h.de⟩)
   have hp:((tChans t).get k).2.1 = p:=eq_of_beq hp
   refine Ok.grd ec (Ok.grd eo (Ok.grd rb (Ok.bind (sendK (o:=(sOuts s).get k) ((h.ou.2.1 k hk).1 hp)) fun y hy=>Ok.grd eo (Ok.bind one fun z hz=>Ok.ret ⟨z9,hz,h.he,h.ca,h.tl,h.bo,h.ou.set hk hp hy,h.is,h.de⟩))))
 · obtain ⟨k,e,hk⟩:=immK g.ch.1 hf
   have ec:(decide (0≤i.2.2.2.2.1)&&decide (i.2.2.2.2.1 < (t.2.2.2.2.2.2.2.2.2.1.len:Int))) = true:=by rw [e]; exact idx_in hk
   have eo:(decide (0≤i.2.2.2.2.1)&&decide (i.2.2.2.2.1 < (s.2.2.2.2.2.2.2.2.2.1.len:Int))) = true:=by rw [e]; exact idx_in (n:=(sIns s).len) (by rw [h.is.1]; exact hk)
   have ek:i.2.2.2.2.1.toNat = k:=by rw [e]; rfl
   rw [ek]
   refine Ok.grd ec (Ok.bif (fun hp=>?_) fun _=>Ok.bind one fun z hz=>Ok.bind (setK (g:=(z.2.1.1,(s.1.2.1,z.2.1.2.2))) hz hB) fun y hy=>Ok.ret ⟨z9,hy,h.he,h.ca,h.tl,h.bo,h.ou,h.is,h.de⟩)
   have hp:((tChans t).get k).2.2.1 = p:=eq_of_beq hp
   refine Ok.grd ec (Ok.grd eo (Ok.bind (recvK (o:=(sIns s).get k) ((h.is.2.1 k hk).1 hp)) fun y hy=>Ok.grd eo (Ok.bind one fun z hz=>Ok.bind (setK (g:=(z.2.1.1,(s.1.2.1,z.2.1.2.2))) hz hB) fun y' hy'=>Ok.ret ⟨z9,hy',h.he,h.ca,h.tl,h.bo,h.ou,h.is.set hk hp hy,h.de⟩)))
 · obtain ⟨k,e,hk⟩:=immK g.dv hf
   have ec:(decide (0≤i.2.2.2.2.1)&&decide (i.2.2.2.2.1 < (t.2.2.2.2.2.2.2.2.1.len:Int))) = true:=by rw [e]; exact idx_in hk
   have eo:(decide (0≤i.2.2.2.2.1)&&decide (i.2.2.2.2.1 < (s.2.2.2.2.2.2.2.2.2.2.1.len:Int))) = true:=by rw [e]; exact idx_in (n:=(sDevs s).len) (by rw [h.de.1]; exact hk)
   have ek:i.2.2.2.2.1.toNat = k:=by rw [e]; rfl
   rw [ek]
   refine Ok.grd ec (Ok.bif (fun hp=>?_) fun _=>Ok.bind one fun z hz=>Ok.bind (setK (g:=(z.2.1.1,(s.1.2.1,z.2.1.2.2))) hz hB) fun y hy=>Ok.ret ⟨z9,hy,h.he,h.ca,h.tl,h.bo,h.ou,h.is,h.de⟩)
   have hp:(tDevs t).get k = p:=eq_of_beq hp
   refine Ok.grd eo (Ok.bind (readK (d:=(sDevs s).get k) ((h.de.2.1 k hk).1 hp)) fun y hy=>Ok.grd eo (Ok.bind one fun z hz=>Ok.bind (setK (g:=(z.2.1.1,(s.1.2.1,z.2.1.2.2))) hz hB) fun y' hy'=>Ok.ret ⟨z9,hy',h.he,h.ca,h.tl,h.bo,h.ou,h.is,h.de.set hk hp hy⟩))
theorem EndsO.clear {t:Tb} {p:Nat} {x:L Oe} (g:TG t p) (h:EndsO t p x) {i:Nat} (hi:i < (tChans t).len) (z:Int):EndsO t p (L.upd x i fun e=>(e.1,(L.of z [],e.2.2))):=by
 have eg:∀ j,(L.upd x i fun e=>(e.1,(L.of z [],e.2.2))).get j = if j = i then ((x.get i).1,(L.of z [],(x.get i).2.2)) else x.get j:=fun j=>by
  by_cases q:j = i
  · subst q; rw [upd_eq_get,if_pos rfl]
  · rw [upd_ne_get _ _ q,if_neg q]
 refine ⟨h.1,fun j hj=>?_,h.2.2⟩
 rw [eg]
 have k:=h.2.1 j hj
 have hc:=chan_of (g.ch.2 j hj)
 by_cases q:j = i
 · subst q
   rw [if_pos rfl]
   refine ⟨fun w=>?_,fun w=>⟨(k.2 w).1,rfl⟩⟩
   obtain ⟨a1,a2,a3,_⟩:=k.1 w
   exact ⟨a1,fun z=>⟨(a2 z).1,Nat.zero_le _⟩,fun z=>⟨(a3 z).1,by have:=a3 z; show _ + ((0:Nat):Int)≤_; omega⟩,wl rfl⟩
 · rw [if_neg q]; exact k
theorem freshK {t:Tb} {p:Nat} {s:St} (g:TG t p) (h:PG t p s):Ok (g200p t p s) fun z=>PG t p z.2.1:=by
 have h8:=g.ch.1
 have key:∀ {wi kN kO kP kQ kR kS kT kU wj wk wm wn wo wp wq wr wt wu wv kV kW kX ww wx kY:_},Ok (fixO s200p_L0 (((),((0:Int),())),(((),(wi,((),(kN,(kO,(kP,(kQ,(kR,(kS,(kT,(kU,(wj,(wk,(wm,(wn,(wo,(wp,(wq,((),(wr,((),(wt,(wu,((),((),((),((),()))))))))))))))))))))))))))),(wv,(kV,(kW,(kX,(ww,((sOuts s),(wx,(kY,()))))))))))) fun z=>∃ x:L Oe,z = .inl ((),(((),(wi,((),(kN,(kO,(kP,(kQ,(kR,(kS,(kT,(kU,(wj,(wk,(wm,(wn,(wo,(wp,(wq,((),(wr,((),(wt,(wu,((),((),((),((),()))))))))))))))))))))))))))),(wv,(kV,(kW,(kX,(ww,(x,(wx,(kY,())))))))))) ∧ EndsO t p x:=by
  intro wi kN kO kP kQ kR kS kT kU wj wk wm wn wo wp wq wr wt wu wv kV kW kX ww wx kY
  refine loopK (tChans t).len (fun i z=>∃ x:L Oe,z = (((),((i:Int),())),(((),(wi,((),(kN,(kO,(kP,(kQ,(kR,(kS,(kT,(kU,(wj,(wk,(wm,(wn,(wo,(wp,(wq,((),(wr,((),(wt,(wu,((),((),((),((),()))))))))))))))))))))))))))),(wv,(kV,(kW,(kX,(ww,(x,(wx,(kY,())))))))))) ∧ EndsO t p x) ?_ ?_ _ ⟨_,rfl,h.ou⟩
  · rintro i _ hi ⟨x,rfl,hx⟩
    simp only [s200p_L0,q200p_L0]
    rw [hx.1,wI_succ hi (by omega),tN]
    exact Ok.grd (idx_lt hi) (Ok.grd (idx_in hi) (Ok.ret (.inl ⟨_,rfl,_,rfl,hx.clear g hi _⟩)))
  · rintro _ ⟨x,rfl,hx⟩
    simp only [s200p_L0,q200p_L0]
    rw [hx.1,bif_f (idx_end (tChans t).len)]
    exact Ok.ret ⟨_,rfl,x,rfl,hx⟩
 unfold g200p
 refine Ok.bind (guestK g h.bo) fun a ha=>Ok.bind key ?_
 rintro _ ⟨x,rfl,hx⟩
 exact Ok.ret ⟨ha,h.he,h.ca,h.tl,h.bo,hx,h.is,h.de⟩
theorem slotK {t:Tb} {p:Nat} {s:St} {c:Int} (g:TG t p) (h:PG t p s):Ok (g114p t p s c) fun z=>PG t p z.2.1 ∧ z.2.1.2.2.2.2.2.1 = wI (c + t.2.2.2.2.1) ∧ sOuts z.2.1 = sOuts s:=by
 have h8:=g.dv
 have key:∀ {wi wj wk wm wn wo wp wq wr wt wu kZ k0 wv k5 ww k7 wx:_} {v:Vi},Ok (fixO s114p_L0 (((p:Int),((),((),((0:Int),())))),(((),(wi,((),(v.1,(v.2.1,(v.2.2.1,(v.2.2.2.1,(v.2.2.2.2.1,(v.2.2.2.2.2.1,(v.2.2.2.2.2.2.1,(v.2.2.2.2.2.2.2.1,(wj,(wk,(wm,(wn,(wo,(wp,(wq,((),(wr,((),(wt,(wu,((),((),((),((),()))))))))))))))))))))))))))),(t,(kZ,(k0,(wv,(k5,(ww,(k7,(wx,((sDevs s),())))))))))))) fun z=>∃ (v:Vi) (x:L De),z = .inl ((),(((),(wi,((),(v.1,(v.2.1,(v.2.2.1,(v.2.2.2.1,(v.2.2.2.2.1,(v.2.2.2.2.2.1,(v.2.2.2.2.2.2.1,(v.2.2.2.2.2.2.2.1,(wj,(wk,(wm,(wn,(wo,(wp,(wq,((),(wr,((),(wt,(wu,((),((),((),((),()))))))))))))))))))))))))))),(kZ,(k0,(wv,(k5,(ww,(k7,(wx,(x,())))))))))) ∧ EndsD t p x:=by
  intro wi wj wk wm wn wo wp wq wr wt wu kZ k0 wv k5 ww k7 wx v
  refine loopK (tDevs t).len (fun i z=>∃ (v:Vi) (x:L De),z = (((p:Int),((),((),((i:Int),())))),(((),(wi,((),(v.1,(v.2.1,(v.2.2.1,(v.2.2.2.1,(v.2.2.2.2.1,(v.2.2.2.2.2.1,(v.2.2.2.2.2.2.1,(v.2.2.2.2.2.2.2.1,(wj,(wk,(wm,(wn,(wo,(wp,(wq,((),(wr,((),(wt,(wu,((),((),((),((),()))))))))))))))))))))))))))),(t,(kZ,(k0,(wv,(k5,(ww,(k7,(wx,(x,()))))))))))) ∧ EndsD t p x) ?_ ?_ _ ⟨v,_,rfl,h.de⟩
  · rintro i _ hi ⟨v,x,rfl,hx⟩
    simp only [s114p_L0,q114p_L0]
    rw [hx.1,wI_succ hi (by omega),tN]
    refine Ok.grd (idx_lt hi) (Ok.bif (fun _=>Ok.grd (idx_in hi) (Ok.bif (fun hp=>?_) fun _=>Ok.ret (.inl ⟨_,rfl,v,x,rfl,hx⟩))) fun _=>Ok.ret (.inr ⟨_,rfl,v,x,rfl,hx⟩))
    have hp:(tDevs t).get i = p:=eq_of_beq hp
    refine Ok.grd (idx_in hi) (Ok.bind (openK (d:=x.get i) ((hx.2.1 i hi).1 hp)) fun y hy=>Ok.grd (idx_in hi) (Ok.bif (fun _=>Ok.bind (holdK v _) fun a _=>Ok.ret (.inl ⟨_,rfl,a.1.1,_,rfl,hx.set hi hp hy⟩)) fun _=>Ok.ret (.inl ⟨_,rfl,v,_,rfl,hx.set hi hp hy⟩)))
  · rintro _ ⟨v,x,rfl,hx⟩
    simp only [s114p_L0,q114p_L0]
    exact Ok.no (idx_end (tDevs t).len) (Ok.ret ⟨_,rfl,v,x,rfl,hx⟩)
 unfold g114p
 rw [tlbE g]
 refine Ok.bind (emptyK g) fun a ha=>Ok.bind (key (v:=s.2.1)) ?_
 rintro _ ⟨v,x,rfl,hx⟩
 exact Ok.ret ⟨⟨h.gu,h.he,ha,tlbG g.tl.1,h.bo,h.ou,h.is,hx⟩,rfl,rfl⟩
theorem PS.he' {t:Tb} {p:Nat} {regs:L Int} {ram:Im} {he:He} {ca:Ca} {tl:Tl} {boot:Im} {outs:L Oe} {ins:L Ie} {devs:L De} (h:PS t p regs ram he ca tl boot outs ins devs) {k:He} (hk:HeG k):PS t p regs ram k ca tl boot outs ins devs :=
 ⟨h.gu,hk,h.ca,h.tl,h.bo,h.ou,h.is,h.de⟩
theorem le16 {ws:L Wi} {r:L Int} {m:Im} (h:GuR ws r m):r.len≤1000:=by rw [h.1]; decide
set_option maxHeartbeats 4000000 in
theorem pstepK {t:Tb} {p:Nat} {s:St} {c:Int} (g:TG t p) (h:PG t p s) (hc:0≤c ∧ c≤100000):Ok (g213p t p s c) fun z=>PG t p z.2.1 ∧ c≤z.2.1.2.2.2.2.2.1 ∧ z.2.1.2.2.2.2.2.1≤c + 500:=by
 have hk:=costs_of g.co
 have h16:s.1.1.len≤1000:=by rw [h.gu.1]; decide
 unfold g213p
 refine Ok.bind (dueK _ _) fun y _=>Ok.bif (fun _=>Ok.bind (enterK _ _ _) fun z _=>Ok.bind (foldK h16) fun u _=>Ok.ret ⟨h,?_⟩) fun _=>Ok.grd (idx_in g.pl) (Ok.bind (fetchK (g:=(s.1.1,(s.1.2.1,s.1.2.2))) g.w h.gu) fun w hw=>Ok.bind (stepK (g:=(s.1.1,(s.1.2.1,s.1.2.2))) g.w h.gu c) fun z hz=>?_)
 · dsimp only
   simp (disch:=omega) only [wI_sm]
   omega
 obtain ⟨w1,w2,w3⟩:=hw
 obtain ⟨hz1,z2,z3,z4⟩:=hz
 have P:PG t p ((z.1.1.1.1,(z.1.1.1.2.1,z.1.1.1.2.2)),(s.2.1,(s.2.2.1,((s.2.2.2.1.1,s.2.2.2.1.2),((s.2.2.2.2.1.1,s.2.2.2.2.1.2),(s.2.2.2.2.2.1,(s.2.2.2.2.2.2.1,s.2.2.2.2.2.2.2))))))):=⟨hz1,h.he,h.ca,h.tl,h.bo,h.ou,h.is,h.de⟩
 clear h hz1
 have w4:(w.1.2.1 == 0) = true→0≤wI s.1.2.1 ∧ wI s.1.2.1≤65535:=fun q=>⟨(w3 q).1,Int.le_trans (w3 q).2 (by decide)⟩
 have ge:∀ {n:Int},decide (n ≥ 0) = true→0≤n:=fun h=>by simpa using h
 repeat' (first
  | (refine Ok.bind (opCostK g.co ⟨ge (by assumption),z3.2⟩) ?_; rintro _ ⟨_,_⟩)
  | (refine Ok.bind (accessK g (by assumption) (w4 (by assumption))) ?_; rintro _ ⟨⟨_,_⟩,_⟩)
  | (refine Ok.bind (accessK g (by assumption) ⟨ge (by assumption),z4.2⟩) ?_; rintro _ ⟨⟨_,_⟩,_⟩)
  | (refine Ok.bind (decodeK _ w1) ?_; rintro _ ⟨_,_,_,_⟩)
  | (refine Ok.bind (callK' g (by assumption) (by assumption) (by assumption)) ?_; rintro _ ⟨_,_⟩)
  | (refine Ok.bind (onFaultK g.po (PS.he (by assumption)) (by assumption)) ?_; intro _ _)
  | (refine Ok.bind (freshK g (PS.he' (by assumption) (by assumption))) ?_; intro _ _)
  | (refine Ok.bind (foldK (le16 (PS.gu (by assumption)))) ?_; intro _ _)
  | refine Ok.grd (idx_in g.pl) ?_
  | refine Ok.bif (fun _=>?_) (fun _=>?_))
 all_goals
  refine Ok.ret ⟨by first | assumption | exact PS.he' (by assumption) (by assumption),?_,?_⟩ <;> (dsimp only; simp (disch:=omega) only [wI_sm]; omega)
theorem virtK {c:Cur} (h:Cw c):Ok (g214d c) fun a=>Cw a.2.1:=by
 unfold g214d
 repeat' (first
  | (refine Ok.bind (belowK (by assumption) (by decide) (by decide)) ?_; rintro _ ⟨_,_,_⟩)
  | (refine Ok.bind (onceK (by assumption) (by decide) (by decide)) ?_; intro _ _)
  | (refine Ok.bind (wordK (by assumption)) ?_; intro _ _)
  | refine Ok.grd (decide_eq_true (u64_in _)) ?_
  | refine Ok.bif (fun _=>?_) (fun _=>?_))
 all_goals exact Ok.ret (by assumption)
theorem tl_of {t:Tb} (h:g54 t = some ((true,()),())):1≤t.2.2.1 ∧ t.2.2.1≤8:=by
 have e:f136 t.2.2.1 1 8 = true:=by
  unfold g54 at h
  cases hq:f136 t.2.2.1 1 8 with
  | true=>rfl
  | false =>
    rw [hq] at h
    simp only [Bool.not_false,cond_true] at h
    cases f134 t.1 <;> cases f135 t.2.1 <;> simp at h
 exact (f97_iff _ _ _).mp e
theorem TG.of {t:Tb} {p:Nat} (hs:g54 t = some ((true,()),())) (hF:Facts t) (hp:p < (tParts t).len):TG t p:=by
 have ht:=tl_of hs
 obtain ⟨h1,_,_,_,h5,_,_,⟨h8,_⟩,d1,d2,_,d4,_⟩:=hF
 obtain ⟨⟨_,p2,p3,p4,_⟩,_⟩:=h8 p hp
 exact ⟨hp,⟨p3.2,fun i hi=>(p4 i hi).1⟩,h1,p2,h5,ht,⟨d2,fun i hi=>(d4 i hi).1⟩,d1⟩
theorem EndsO.fill {t:Tb} {p:Nat} {x:L Oe} (h:EndsO t p x) {i:Nat} (hi:i < (tChans t).len) (hz:(x.get i).1 = 0) (hp:((tChans t).get i).2.1 = p) {w:L Int} (hw:w.len = 1 ∧ WL w):EndsO t p (L.upd x i fun e=>(e.1,(w,e.2.2))):=by
 refine h.set hi hp (o:=((x.get i).1,(w,(x.get i).2.2))) ?_
 obtain ⟨a1,a2,a3,_⟩:=(h.2.1 i hi).1 hp
 have hc:=chan_of a1
 exact ⟨a1,fun z=>⟨hz,by show w.len≤1; omega⟩,fun z=>⟨by show 0≤(x.get i).1; omega,by show (x.get i).1 + (w.len:Int)≤_; omega⟩,hw.2⟩
theorem EndsI.fill {t:Tb} {p:Nat} {x:L Ie} (g:TG t p) (h:EndsI t p x) {i:Nat} (hi:i < (tChans t).len) (hp:((tChans t).get i).2.2.1 = p) {w:Ie} (hw:w.1.len = 1 ∧ WL w.1):EndsI t p (L.set x i w):=by
 refine h.set hi hp ?_
 have a1:=g.ch.2 i hi
 have hc:=chan_of a1
 exact ⟨a1,fun z=>by omega,fun z=>by omega,hw.2⟩
theorem wordsI {c:Cur} (h:Cw c) {n:Int} (h0:0≤n) (hn:n≤1000):Ok (g211rd c n) fun a=>(a.1.1.len = n.toNat ∧ Cw a.2.1) ∧ WL a.1.1:=by
 obtain ⟨m,rfl⟩:∃ m:Nat,n = m:=⟨n.toNat,by omega⟩
 exact (wordsN h m (by omega)).mono fun a h=>⟨⟨by rw [h.1.1]; rfl,h.1.2⟩,wl h.2⟩
theorem zh3:(0:Int)≤3 ∧ (3:Int)≤1000000000:=by decide
theorem zh1:(0:Int)≤1 ∧ (1:Int)≤1000000000:=by decide
theorem zh2:(0:Int)≤2 ∧ (2:Int)≤9:=by decide
structure Drawn (t:Tb) (p:Nat) (s:St) (c:Int):Prop where
 tg:TG t p
 so:g54 t = some ((true,()),())
 fa:Facts t
 pg:PG t p s
 nx:0≤s.2.2.2.2.2.1 ∧ s.2.2.2.2.2.1≤100000
 cy:0≤c
set_option maxHeartbeats 8000000 in
theorem stateK {c:Cur} (h:Cw c) {code:L Int} (hl:code.len≤2 ^ 46):Ok (g117d c code) fun a=>∃ p:Nat,a.1.2.1 = p ∧ Drawn a.1.1 p a.1.2.2.1 a.1.2.2.2.1:=by
 unfold g117d
 refine Ok.bind (belowK h (by decide) (by decide)) ?_
 rintro ⟨⟨x1,⟨⟩⟩,c1,⟨⟩⟩ ⟨a1,b1,k1⟩
 dsimp only at a1 b1 k1 ⊢
 have e2:wI (2 + x1) = ((2 + x1.toNat:Nat):Int):=by rw [wI_id (by omega) (by omega)]; omega
 rw [e2]
 obtain ⟨t,c2,q2,k2,hs,hF,_,at_,hP⟩:=tablesD c1 k1 (2 + x1.toNat) (by omega) (by omega)
 rw [q2,oB]
 have hpl:=hP.len
 refine Ok.bind (belowK (n:=((tParts t).len:Int)) k2 (by omega) (by omega)) ?_
 rintro ⟨⟨x3,⟨⟩⟩,c3,⟨⟩⟩ ⟨a3,b3,k3⟩
 dsimp only at a3 b3 k3 ⊢
 obtain ⟨p,rfl⟩:∃ p:Nat,x3 = p:=⟨x3.toNat,by omega⟩
 have g:=TG.of (p:=p) hs hF (by omega)
 have hw2:=(hP.part p (by omega)).1.len
 have hc8:=g.ch.1
 have hd8:=g.dv
 refine Ok.bind (imageK k3 t p (by omega) (by omega) (by omega) g.w.2 hc8 hd8) ?_
 rintro y4 ⟨f4,k4⟩
 refine Ok.bind (bootK g f4) ?_
 rintro y5 ⟨p5,z5⟩
 refine Ok.bind (belowK k4 (by decide) (by decide)) ?_
 rintro ⟨⟨cy,⟨⟩⟩,c6,⟨⟩⟩ ⟨a6,b6,k6⟩
 dsimp only at a6 b6 k6
 refine Ok.bind (slotK (s:=y5.1.1) (c:=cy) g p5) ?_
 rintro y7 ⟨p7,n7,o7⟩
 have key0:∀ {t1 t11 vK vL vM vN vO vP vQ vR vS vT vU vV vW vX vY ja jb jc jd vA va vB vc vd ve vf vg vh vj vk vl vm vn vo vp vq vr wc vs wd vt vu we wf wg wh wy wz wA wB wC wD wE wF wG wH wJ wK wL wM wN wO wP wQ wR wS wT wU wV wW je:_} {c:Cur} {o:L Oe} {q:L Ie},Cw c→EndsO t p o→(∀ i,i < (tChans t).len→(o.get i).1 = 0)→EndsI t p q→Ok (fixO s117d_L0 (((),(t1,((),((),((),((p:Int),((),(t11,((0:Int),()))))))))),(c,((vK,(vL,(vM,(vN,(vO,(vP,(vQ,(vR,(vS,(vT,(vU,(vV,(vW,(vX,(vY,(ja,(jb,(jc,(jd,()))))))))))))))))))),((vA,(va,(vB,(vc,(vd,(ve,(vf,(vg,(vh,(vj,(vk,(vl,(vm,(vn,(vo,(vp,(vq,(vr,(wc,(vs,(wd,(vt,(vu,(we,(wf,(wg,(wh,()))))))))))))))))))))))))))),(t,(((),(wy,((),(wz,(wA,(wB,(wC,(wD,(wE,(wF,(wG,(wH,(wJ,(wK,(wL,(wM,(wN,(wO,((),(wP,((),(wQ,(wR,((),((),((),((),()))))))))))))))))))))))))))),(wS,(wT,(wU,(wV,(wW,(o,(q,(je,()))))))))))))))) fun z=>∃ (c:Cur) (o:L Oe) (q:L Ie),z = .inl (((),(t1,((),((),((),((p:Int),((),(t11,())))))))),(c,((vK,(vL,(vM,(vN,(vO,(vP,(vQ,(vR,(vS,(vT,(vU,(vV,(vW,(vX,(vY,((),((),((),((),()))))))))))))))))))),(((),(va,((),(vc,(vd,(ve,(vf,(vg,(vh,(vj,(vk,(vl,(vm,(vn,(vo,(vp,(vq,(vr,((),(vs,((),(vt,(vu,((),((),((),((),()))))))))))))))))))))))))))),(t,(((),(wy,((),(wz,(wA,(wB,(wC,(wD,(wE,(wF,(wG,(wH,(wJ,(wK,(wL,(wM,(wN,(wO,((),(wP,((),(wQ,(wR,((),((),((),((),()))))))))))))))))))))))))))),(ja,(jb,(jc,(jd,(vA,(vB,(wc,(wd,(we,(wf,(wg,(wh,(wS,(wT,(wU,(wV,(wW,(o,(q,(je,())))))))))))))))))))))))))) ∧ Cw c ∧ EndsO t p o ∧ EndsI t p q:=by
  intro t1 t11 vK vL vM vN vO vP vQ vR vS vT vU vV vW vX vY ja jb jc jd vA va vB vc vd ve vf vg vh vj vk vl vm vn vo vp vq vr wc vs wd vt vu we wf wg wh wy wz wA wB wC wD wE wF wG wH wJ wK wL wM wN wO wP wQ wR wS wT wU wV wW je c o q hc ho hz hq
  refine loopK (tChans t).len (fun i z=>∃ (c:Cur) (o:L Oe) (q:L Ie),z = (((),(t1,((),((),((),((p:Int),((),(t11,((i:Int),()))))))))),(c,((vK,(vL,(vM,(vN,(vO,(vP,(vQ,(vR,(vS,(vT,(vU,(vV,(vW,(vX,(vY,(ja,(jb,(jc,(jd,()))))))))))))))))))),((vA,(va,(vB,(vc,(vd,(ve,(vf,(vg,(vh,(vj,(vk,(vl,(vm,(vn,(vo,(vp,(vq,(vr,(wc,(vs,(wd,(vt,(vu,(we,(wf,(wg,(wh,()))))))))))))))))))))))))))),(t,(((),(wy,((),(wz,(wA,(wB,(wC,(wD,(wE,(wF,(wG,(wH,(wJ,(wK,(wL,(wM,(wN,(wO,((),(wP,((),(wQ,(wR,((),((),((),((),()))))))))))))))))))))))))))),(wS,(wT,(wU,(wV,(wW,(o,(q,(je,())))))))))))))) ∧ Cw c ∧ EndsO t p o ∧ (∀ i,i < (tChans t).len→(o.get i).1 = 0) ∧ EndsI t p q) ?_ ?_ _ ⟨c,o,q,rfl,hc,ho,hz,hq⟩
  · rintro i _ hi ⟨c,o,q,rfl,hc,ho,hz,hq⟩
    simp only [s117d_L0,q117d_L0]
    rw [wI_succ hi (by omega),tN]
    have io:(decide (0≤(i:Int))&&decide ((i:Int) < (o.len:Int))) = true:=idx_in (by rw [ho.1]; exact hi)
    have iq:(decide (0≤(i:Int))&&decide ((i:Int) < (q.len:Int))) = true:=idx_in (by rw [hq.1]; exact hi)
    have fo:∀ {w:L Int},((tChans t).get i).2.1 = p→w.len = 1 ∧ WL w→EndsO t p (L.upd o i fun e=>(e.1,(w,e.2.2))) ∧ ∀ j,j < (tChans t).len→((L.upd o i fun e=>(e.1,(w,e.2.2))).get j).1 = 0:=fun {w} hp hw=>⟨ho.fill hi (hz i hi) hp hw,fun j hj=>by
     by_cases e:j = i
     · subst e; rw [upd_eq_get]; exact hz j hj
     · rw [upd_ne_get _ _ e]; exact hz j hj⟩
    refine Ok.grd (idx_lt hi) (Ok.grd (idx_in hi) (Ok.bif (fun hp=>Ok.bind (onceK hc (by decide) (by decide)) fun y8 k8=>Ok.bif (fun _=>Ok.bind (wordsI k8 (by decide) (by decide)) fun y9 hy9=>Ok.grd io (Ok.grd (idx_in hi) ?_)) fun _=>Ok.grd (idx_in hi) ?_) fun _=>Ok.grd (idx_in hi) ?_))
    · obtain ⟨⟨h1,h2⟩,h3⟩:=hy9
      have fo:=fo (w:=y9.1.1) (eq_of_beq hp) ⟨h1,h3⟩
      exact Ok.bif (fun hp'=>Ok.bind (onceK h2 (by decide) (by decide)) fun y k=>Ok.bif (fun _=>Ok.bind (wordsI k (by decide) (by decide)) fun u hu=>Ok.grd iq (Ok.ret (.inl ⟨_,rfl,_,_,_,rfl,hu.1.2,fo.1,fo.2,hq.fill g hi (eq_of_beq hp') (w:=u.1) ⟨hu.1.1,hu.2⟩⟩))) fun _=>Ok.ret (.inl ⟨_,rfl,_,_,_,rfl,k,fo.1,fo.2,hq⟩)) fun _=>Ok.ret (.inl ⟨_,rfl,_,_,_,rfl,h2,fo.1,fo.2,hq⟩)
    · exact Ok.bif (fun hp'=>Ok.bind (onceK k8 (by decide) (by decide)) fun y k=>Ok.bif (fun _=>Ok.bind (wordsI k (by decide) (by decide)) fun u hu=>Ok.grd iq (Ok.ret (.inl ⟨_,rfl,_,_,_,rfl,hu.1.2,ho,hz,hq.fill g hi (eq_of_beq hp') (w:=u.1) ⟨hu.1.1,hu.2⟩⟩))) fun _=>Ok.ret (.inl ⟨_,rfl,_,_,_,rfl,k,ho,hz,hq⟩)) fun _=>Ok.ret (.inl ⟨_,rfl,_,_,_,rfl,k8,ho,hz,hq⟩)
    · exact Ok.bif (fun hp'=>Ok.bind (onceK hc (by decide) (by decide)) fun y k=>Ok.bif (fun _=>Ok.bind (wordsI k (by decide) (by decide)) fun u hu=>Ok.grd iq (Ok.ret (.inl ⟨_,rfl,_,_,_,rfl,hu.1.2,ho,hz,hq.fill g hi (eq_of_beq hp') (w:=u.1) ⟨hu.1.1,hu.2⟩⟩))) fun _=>Ok.ret (.inl ⟨_,rfl,_,_,_,rfl,k,ho,hz,hq⟩)) fun _=>Ok.ret (.inl ⟨_,rfl,_,_,_,rfl,hc,ho,hz,hq⟩)
  · rintro _ ⟨c,o,q,rfl,hc,ho,hz,hq⟩
    simp only [s117d_L0,q117d_L0]
    exact Ok.no (idx_end (tChans t).len) (Ok.ret ⟨_,rfl,c,o,q,rfl,hc,ho,hq⟩)
 have key2:∀ {t1 t11 vK vL vM vN vO vP vQ vR vS vT vU vV vW vX vY va vc vd ve vf vg vh vj vk vl vm vn vo vp vq vr vs vt vu wy wz wA wB wC wD wE wF wG wH wJ wK wL wM wN wO wP wQ wR wX wY wZ w0 vC vD vE vF vG vH vI vJ wS wT wU wV wW jf jg:_} {c:Cur} {d:L De},Cw c→EndsD t p d→Ok (fixO s117d_L2 (((),(t1,((),((),((),((p:Int),((),(t11,((0:Int),()))))))))),(c,((vK,(vL,(vM,(vN,(vO,(vP,(vQ,(vR,(vS,(vT,(vU,(vV,(vW,(vX,(vY,((),((),((),((),()))))))))))))))))))),(((),(va,((),(vc,(vd,(ve,(vf,(vg,(vh,(vj,(vk,(vl,(vm,(vn,(vo,(vp,(vq,(vr,((),(vs,((),(vt,(vu,((),((),((),((),()))))))))))))))))))))))))))),(t,(((),(wy,((),(wz,(wA,(wB,(wC,(wD,(wE,(wF,(wG,(wH,(wJ,(wK,(wL,(wM,(wN,(wO,((),(wP,((),(wQ,(wR,((),((),((),((),()))))))))))))))))))))))))))),(wX,(wY,(wZ,(w0,(vC,(vD,(vE,(vF,(vG,(vH,(vI,(vJ,(wS,(wT,(wU,(wV,(wW,(jf,(jg,(d,()))))))))))))))))))))))))))) fun z=>∃ (c:Cur) (d:L De),z = .inl (((),(t1,((),((),((),((p:Int),((),(t11,())))))))),(c,((vK,(vL,(vM,(vN,(vO,(vP,(vQ,(vR,(vS,(vT,(vU,(vV,(vW,(vX,(vY,((),((),((),((),()))))))))))))))))))),(((),(va,((),(vc,(vd,(ve,(vf,(vg,(vh,(vj,(vk,(vl,(vm,(vn,(vo,(vp,(vq,(vr,((),(vs,((),(vt,(vu,((),((),((),((),()))))))))))))))))))))))))))),(t,(((),(wy,((),(wz,(wA,(wB,(wC,(wD,(wE,(wF,(wG,(wH,(wJ,(wK,(wL,(wM,(wN,(wO,((),(wP,((),(wQ,(wR,((),((),((),((),()))))))))))))))))))))))))))),(wX,(wY,(wZ,(w0,(vC,(vD,(vE,(vF,(vG,(vH,(vI,(vJ,(wS,(wT,(wU,(wV,(wW,(jf,(jg,(d,())))))))))))))))))))))))))) ∧ Cw c ∧ EndsD t p d:=by
  intro t1 t11 vK vL vM vN vO vP vQ vR vS vT vU vV vW vX vY va vc vd ve vf vg vh vj vk vl vm vn vo vp vq vr vs vt vu wy wz wA wB wC wD wE wF wG wH wJ wK wL wM wN wO wP wQ wR wX wY wZ w0 vC vD vE vF vG vH vI vJ wS wT wU wV wW jf jg c d hc hd
  refine loopK (tDevs t).len (fun i z=>∃ (c:Cur) (d:L De),z = (((),(t1,((),((),((),((p:Int),((),(t11,((i:Int),()))))))))),(c,((vK,(vL,(vM,(vN,(vO,(vP,(vQ,(vR,(vS,(vT,(vU,(vV,(vW,(vX,(vY,((),((),((),((),()))))))))))))))))))),(((),(va,((),(vc,(vd,(ve,(vf,(vg,(vh,(vj,(vk,(vl,(vm,(vn,(vo,(vp,(vq,(vr,((),(vs,((),(vt,(vu,((),((),((),((),()))))))))))))))))))))))))))),(t,(((),(wy,((),(wz,(wA,(wB,(wC,(wD,(wE,(wF,(wG,(wH,(wJ,(wK,(wL,(wM,(wN,(wO,((),(wP,((),(wQ,(wR,((),((),((),((),()))))))))))))))))))))))))))),(wX,(wY,(wZ,(w0,(vC,(vD,(vE,(vF,(vG,(vH,(vI,(vJ,(wS,(wT,(wU,(wV,(wW,(jf,(jg,(d,())))))))))))))))))))))))))) ∧ Cw c ∧ EndsD t p d) ?_ ?_ _ ⟨c,d,rfl,hc,hd⟩
  · rintro i _ hi ⟨c,d,rfl,hc,hd⟩
    simp only [s117d_L2,q117d_L2]
    rw [wI_succ hi (by omega),tN]
    have iq:(decide (0≤(i:Int))&&decide ((i:Int) < (d.len:Int))) = true:=idx_in (by rw [hd.1]; exact hi)
    refine Ok.grd (idx_lt hi) (Ok.grd (idx_in hi) (Ok.bif (fun hp=>Ok.bind (onceK hc (by decide) (by decide)) fun y8 k8=>Ok.bif (fun _=>?_) fun _=>Ok.ret (.inl ⟨_,rfl,_,_,rfl,k8,hd⟩)) fun _=>Ok.ret (.inl ⟨_,rfl,_,_,rfl,hc,hd⟩)))
    refine Ok.bind (belowK k8 (by decide) (by decide)) ?_
    rintro u ⟨u1,u2,u3⟩
    refine Ok.bind (wordsI u3 u1 (by omega)) ?_
    rintro v ⟨⟨v1,v2⟩,v3⟩
    refine Ok.bind (belowK v2 (by decide) (by decide)) ?_
    rintro w ⟨w1,w2,w3⟩
    refine Ok.bind (wordsI w3 w1 (by omega)) ?_
    rintro x ⟨⟨x1,x2⟩,x3⟩
    exact Ok.grd iq (Ok.ret (.inl ⟨_,rfl,_,_,rfl,x2,hd.set hi (eq_of_beq hp) (o:=(v.1.1,x.1)) ⟨by show v.1.1.len≤8; omega,by show x.1.1.len≤8; omega,v3,x3⟩⟩))
  · rintro _ ⟨c,d,rfl,hc,hd⟩
    simp only [s117d_L2,q117d_L2]
    exact Ok.no (idx_end (tDevs t).len) (Ok.ret ⟨_,rfl,c,d,rfl,hc,hd⟩)
 have key4:∀ {vK vL vM vN vO vP vQ vR vS vT vU vV vW vX vY va vc vd ve vf vg vh vj vk vl vm vn vo vp vq vr vs vt vu wX wY wZ w0 vC vD vE vF vG vH vI vJ:_} {c:Cur} {s:St} {cy:Int} {n:Nat},n≤40→PG t p s→(0≤cy ∧ cy≤300)→(0≤s.2.2.2.2.2.1 ∧ s.2.2.2.2.2.1≤6000)→Ok (fixO s117d_L4 (((),((),((),((),((p:Int),((),(cy,((n:Int),((0:Int),()))))))))),(c,((vK,(vL,(vM,(vN,(vO,(vP,(vQ,(vR,(vS,(vT,(vU,(vV,(vW,(vX,(vY,((),((),((),((),()))))))))))))))))))),(((),(va,((),(vc,(vd,(ve,(vf,(vg,(vh,(vj,(vk,(vl,(vm,(vn,(vo,(vp,(vq,(vr,((),(vs,((),(vt,(vu,((),((),((),((),()))))))))))))))))))))))))))),(t,(((),(s.1.2.1,((),(s.2.1.1,(s.2.1.2.1,(s.2.1.2.2.1,(s.2.1.2.2.2.1,(s.2.1.2.2.2.2.1,(s.2.1.2.2.2.2.2.1,(s.2.1.2.2.2.2.2.2.1,(s.2.1.2.2.2.2.2.2.2.1,(s.2.2.1.1,(s.2.2.1.2.1,(s.2.2.1.2.2.1,(s.2.2.1.2.2.2.1,(s.2.2.2.1.1.1,(s.2.2.2.1.1.2.1,(s.2.2.2.1.1.2.2.1,((),(s.2.2.2.2.1.1,((),(s.2.2.2.2.2.1,(s.2.2.2.2.2.2.1,((),((),((),((),()))))))))))))))))))))))))))),(wX,(wY,(wZ,(w0,(vC,(vD,(vE,(vF,(vG,(vH,(vI,(vJ,(s.1.1,(s.1.2.2.1,(s.2.2.2.1.2.1,(s.2.2.2.2.1.2.1,((sBoot s),((sOuts s),((sIns s),((sDevs s),()))))))))))))))))))))))))))) fun z=>∃ (s:St) (cy:Int),z = .inl (((),((),((),((),((p:Int),((),(cy,()))))))),(c,((vK,(vL,(vM,(vN,(vO,(vP,(vQ,(vR,(vS,(vT,(vU,(vV,(vW,(vX,(vY,((),((),((),((),()))))))))))))))))))),(((),(va,((),(vc,(vd,(ve,(vf,(vg,(vh,(vj,(vk,(vl,(vm,(vn,(vo,(vp,(vq,(vr,((),(vs,((),(vt,(vu,((),((),((),((),()))))))))))))))))))))))))))),(t,(((),(s.1.2.1,((),(s.2.1.1,(s.2.1.2.1,(s.2.1.2.2.1,(s.2.1.2.2.2.1,(s.2.1.2.2.2.2.1,(s.2.1.2.2.2.2.2.1,(s.2.1.2.2.2.2.2.2.1,(s.2.1.2.2.2.2.2.2.2.1,(s.2.2.1.1,(s.2.2.1.2.1,(s.2.2.1.2.2.1,(s.2.2.1.2.2.2.1,(s.2.2.2.1.1.1,(s.2.2.2.1.1.2.1,(s.2.2.2.1.1.2.2.1,((),(s.2.2.2.2.1.1,((),(s.2.2.2.2.2.1,(s.2.2.2.2.2.2.1,((),((),((),((),()))))))))))))))))))))))))))),(wX,(wY,(wZ,(w0,(vC,(vD,(vE,(vF,(vG,(vH,(vI,(vJ,(s.1.1,(s.1.2.2.1,(s.2.2.2.1.2.1,(s.2.2.2.2.1.2.1,((sBoot s),((sOuts s),((sIns s),((sDevs s),())))))))))))))))))))))))))) ∧ PG t p s ∧ 0≤cy ∧ 0≤s.2.2.2.2.2.1 ∧ s.2.2.2.2.2.1≤100000:=by
  intro vK vL vM vN vO vP vQ vR vS vT vU vV vW vX vY va vc vd ve vf vg vh vj vk vl vm vn vo vp vq vr vs vt vu wX wY wZ w0 vC vD vE vF vG vH vI vJ c s cy n hn hs hc hx
  refine loopK n (fun i z=>∃ (s:St) (cy:Int),z = (((),((),((),((),((p:Int),((),(cy,((n:Int),((i:Int),()))))))))),(c,((vK,(vL,(vM,(vN,(vO,(vP,(vQ,(vR,(vS,(vT,(vU,(vV,(vW,(vX,(vY,((),((),((),((),()))))))))))))))))))),(((),(va,((),(vc,(vd,(ve,(vf,(vg,(vh,(vj,(vk,(vl,(vm,(vn,(vo,(vp,(vq,(vr,((),(vs,((),(vt,(vu,((),((),((),((),()))))))))))))))))))))))))))),(t,(((),(s.1.2.1,((),(s.2.1.1,(s.2.1.2.1,(s.2.1.2.2.1,(s.2.1.2.2.2.1,(s.2.1.2.2.2.2.1,(s.2.1.2.2.2.2.2.1,(s.2.1.2.2.2.2.2.2.1,(s.2.1.2.2.2.2.2.2.2.1,(s.2.2.1.1,(s.2.2.1.2.1,(s.2.2.1.2.2.1,(s.2.2.1.2.2.2.1,(s.2.2.2.1.1.1,(s.2.2.2.1.1.2.1,(s.2.2.2.1.1.2.2.1,((),(s.2.2.2.2.1.1,((),(s.2.2.2.2.2.1,(s.2.2.2.2.2.2.1,((),((),((),((),()))))))))))))))))))))))))))),(wX,(wY,(wZ,(w0,(vC,(vD,(vE,(vF,(vG,(vH,(vI,(vJ,(s.1.1,(s.1.2.2.1,(s.2.2.2.1.2.1,(s.2.2.2.2.1.2.1,((sBoot s),((sOuts s),((sIns s),((sDevs s),())))))))))))))))))))))))))) ∧ PG t p s ∧ (0≤cy ∧ cy≤6000 + 500 * (i:Int)) ∧ (0≤s.2.2.2.2.2.1 ∧ s.2.2.2.2.2.1≤6000 + 500 * (i:Int))) ?_ ?_ _ ⟨s,cy,rfl,hs,by omega,by omega⟩
  · rintro i _ hi ⟨s,cy,rfl,hs,hc,hx⟩
    simp only [s117d_L4,q117d_L4]
    rw [wI_succ hi (by omega)]
    refine Ok.grd (idx_lt hi) (Ok.bif (fun _=>Ok.bif (fun _=>Ok.bind (pstepK (s:=s) (c:=cy) g hs (by omega)) fun y hy=>Ok.ret (.inl ⟨_,rfl,y.2.1,_,rfl,hy.1,?_,?_⟩)) fun _=>Ok.ret (.inr ⟨_,rfl,s,cy,rfl,hs,hc.1,hx.1,by omega⟩)) fun _=>Ok.ret (.inr ⟨_,rfl,s,cy,rfl,hs,hc.1,hx.1,by omega⟩))
    · have:=hy.2; omega
    · have:=hy.2; omega
  · rintro _ ⟨s,cy,rfl,hs,hc,hx⟩
    simp only [s117d_L4,q117d_L4]
    exact Ok.no (idx_end n) (Ok.ret ⟨_,rfl,s,cy,rfl,hs,hc.1,hx.1,by omega⟩)
 have hF2:=hF.2.1
 rw [wI_id (by omega) (by omega)] at n7
 have z7:∀ i,i < (tChans t).len→((sOuts y7.2.1).get i).1 = 0:=fun i hi=>by rw [o7]; exact z5 i hi
 refine Ok.bind (key0 k6 p7.ou z7 p7.is) ?_
 rintro _ ⟨c8,o8,q8,rfl,k8,ho8,hq8⟩
 refine Ok.bind (key2 k8 p7.de) ?_
 rintro _ ⟨c9,d9,rfl,k9,hd9⟩
 have hz:1≤f212 code 40 ∧ f212 code 40≤40:=by
  have h46r:(2:Nat) ^ 46 = 70368744177664:=by decide
  rw [h46r] at hl
  unfold f212
  rw [Int.tdiv_eq_ediv_of_nonneg (by omega),wI_id (n:=(code.len:Int) / 20) (by omega) (by omega),wI_id (by omega) (by omega)]
  cases hq:decide (2 + (code.len:Int) / 20 > 40) with
  | true=>simp
  | false=>simp at hq ⊢; omega
 refine Ok.bind (belowK (n:=f212 code 40) k9 hz.1 (by omega)) ?_
 rintro ⟨⟨n,⟨⟩⟩,c10,⟨⟩⟩ ⟨a10,b10,k10⟩
 dsimp only at a10 b10 k10
 obtain ⟨n,rfl⟩:∃ m:Nat,n = m:=⟨n.toNat,by omega⟩
 generalize hu:y7.2.1 = u at *
 refine Ok.bind (key4 (s:=(u.1,(u.2.1,(u.2.2.1,(u.2.2.2.1,(u.2.2.2.2.1,(u.2.2.2.2.2.1,(u.2.2.2.2.2.2.1,(u.2.2.2.2.2.2.2.1,(o8,(q8,(d9,())))))))))))) (cy:=cy) (n:=n) (by omega) ⟨p7.gu,p7.he,p7.ca,p7.tl,p7.bo,ho8,hq8,hd9⟩ (by omega) (by dsimp only; omega)) ?_
 rintro _ ⟨s,cy',rfl,hs',hcy,hx1,hx2⟩
 have D:∀ {v:Vi} {he:He},HeG he→Drawn t p (s.1,(v,(he,s.2.2.2))) cy':=fun {v he} hh=>⟨g,hs,hF,⟨hs'.gu,hh,hs'.ca,hs'.tl,hs'.bo,hs'.ou,hs'.is,hs'.de⟩,⟨hx1,hx2⟩,hcy⟩
 have H3:∀ {b:Bool},HeG (3,(1,(2,(b,())))):=fun {b}=>⟨zh3,zh1,zh2⟩
 refine Ok.bind (onceK k10 (by decide) (by decide)) fun y26 k26=>Ok.bif (fun _=>Ok.bind (virtK k26) fun y27 k27=>Ok.grd (idx_in g.pl) (Ok.bind (onceK k27 (by decide) (by decide)) fun y28 k28=>Ok.bif (fun _=>Ok.bind (onceK k28 (by decide) (by decide)) fun y29 k29=>Ok.ret ⟨p,rfl,D H3⟩) fun _=>Ok.ret ⟨p,rfl,D hs'.he⟩)) fun _=>Ok.bind (onceK k26 (by decide) (by decide)) fun y28 k28=>Ok.bif (fun _=>Ok.bind (onceK k28 (by decide) (by decide)) fun y29 k29=>Ok.ret ⟨p,rfl,D H3⟩) fun _=>Ok.ret ⟨p,rfl,D hs'.he⟩
theorem drawnK {code:L Int} (hl:code.len≤2 ^ 46):Ok (g31 code) fun a=>∃ p:Nat,a.1.2.1 = p ∧ Drawn a.1.1 p a.1.2.2.1 a.1.2.2.2.1:=by
 obtain ⟨c,e,hc⟩:=newCur code hl
 unfold g31
 rw [e,oB]
 exact Ok.bind (stateK hc hl) fun a ha=>Ok.ret ha
def Yes {α:Type} (o:Option ((Bool×Unit)×α)):Prop:=Ok o fun a=>a.1.1 = true
theorem imgK {t:Tb} {p:Nat} {x:Im} (g:TG t p) (hn:(tParts t).len≤6) (h:FitG ((tParts t).get p).2.2.2.1 x):Yes (g55 t (p:Int) x):=by
 have hl:=g.pl
 have e:(t.2.2.2.2.2.2.2.1.len:Int) = (tParts t).len:=rfl
 have hf:f136 (p:Int) 0 (wI ((t.2.2.2.2.2.2.2.1.len:Int) - 1)) = true:=by
  rw [e,wI_id (by omega) (by omega)]
  exact (f97_iff _ _ _).mpr (by omega)
 have h4:=g.w.1
 unfold Yes g55
 rw [hf]
 refine Ok.no rfl (Ok.grd (idx_in g.pl) (Ok.no (by rw [tN]; simp; exact congrArg Nat.cast h.1) (Ok.grd (idx_in g.pl) ?_)))
 rw [tN]
 refine Ok.bind (loopK (R:=fun z=>z = .inr (.inl ((),()))) ((tParts t).get p).2.2.2.1.len (fun i z=>z = ((x,(((tParts t).get p).2.2.2.1,((((tParts t).get p).2.2.2.1.len:Int),((i:Int),())))),())) ?_ ?_ _ rfl) ?_
 · rintro i _ hi rfl
   simp only [s55_L0,q55_L0]
   rw [wI_succ hi (by omega),tN]
   exact Ok.grd (idx_lt hi) (Ok.grd (idx_in hi) (Ok.grd (idx_in (by rw [h.1]; exact hi)) (Ok.no (by simpa using (h.2 i hi).1) (Ok.ret (.inl ⟨_,rfl,rfl⟩)))))
 · rintro _ rfl
   simp only [s55_L0,q55_L0]
   exact Ok.no (idx_end _) (Ok.ret ⟨_,rfl,rfl⟩)
 · rintro _ rfl
   exact Ok.ret rfl
theorem overlaps2 (a:L Wi) (ha:a.len≤2 ^ 47) (w:Wi) (hw:f308 w = true) (hg:∀ v,v ∈ toL a→f308 v = true) (hap:∀ v,v ∈ toL a→apart v w):g232_311 a (w,()) = some ((false,()),()):=by
 have hf:∀ i,i < a.len→f311 (a.get i) w = false:=fun i hi=>by
  have hm:=(toL_mem a (a.get i)).mpr ⟨i,hi,rfl⟩
  have:=(f234_iff (a.get i) w (hg _ hm) hw).mpr (hap _ hm)
  unfold f311
  rw [this]; rfl
 have h:=index_loop (step:=s304_311_L0) (x:=a) (c:=(w,())) (fun i=>f311 (a.get i) w) (fun i hi=>by
  simp only [s304_311_L0,q304_311_L0]
  refine (bif_t (idx_lt hi)).trans ((bif_t (idx_in hi)).trans ?_)
  rw [wI_succ hi ha,tN]
  by_cases hf:f311 (a.get i) w = true
  · rw [if_pos hf]; exact bif_t hf
  · rw [if_neg hf]; exact bif_f (by simpa using hf)) (by
  simp only [s304_311_L0,q304_311_L0]
  exact bif_f (idx_end a.len))
 unfold g232_311 g304_311
 rcases h with ⟨i,h1,h2,h3,h4⟩ | ⟨h1,h2⟩
 · rw [hf i h1] at h2; cases h2
 · rw [h2]; rfl
theorem winsK (w:L Wi) (hl:w.len≤4) (hg:∀ j,j < w.len→f308 (w.get j) = true) (hap:∀ k i,k < i→i < w.len→apart (w.get k) (w.get i)):Yes (g252 w):=by
 unfold Yes g252
 refine Ok.no (by simp; omega) (Ok.bind (loopK (R:=fun z=>z = .inr (.inl ((),()))) w.len (fun i z=>z = ((w,(w,((w.len:Int),((i:Int),())))),())) ?_ ?_ _ rfl) ?_)
 · rintro i _ hi rfl
   simp only [s252_L0,q252_L0]
   have e194:f231 (w.get i) = true:=by rw [f231_308]; exact hg i hi
   have hcut:∀ v,v ∈ toL (L.cut w (0:Int).toNat i)→∃ k,k < i ∧ w.get k = v:=fun v hv=>by
    obtain ⟨k,k1,k2⟩:=(toL_mem _ _).mp hv
    have k1:k < i - 0:=k1
    have k2:w.get (0 + k) = v:=k2
    rw [Nat.zero_add] at k2
    exact ⟨k,by omega,k2⟩
   have ho:=overlaps2 (L.cut w (0:Int).toNat i) (show i - 0≤2 ^ 47 by omega) (w.get i) (hg i hi) (fun v hv=>by
    obtain ⟨k,k1,rfl⟩:=hcut v hv
    exact hg k (by omega)) (fun v hv=>by
    obtain ⟨k,k1,rfl⟩:=hcut v hv
    exact hap k i k1 hi)
   rw [wI_succ hi (by omega),tN,e194]
   refine Ok.grd (idx_lt hi) (Ok.grd (idx_in hi) (Ok.no rfl (Ok.grd (by simp; omega) ?_)))
   rw [ho]
   exact Ok.ret (.inl ⟨_,rfl,rfl⟩)
 · rintro _ rfl
   simp only [s252_L0,q252_L0]
   exact Ok.no (idx_end w.len) (Ok.ret ⟨_,rfl,rfl⟩)
 · rintro _ rfl
   exact Ok.ret rfl
theorem gstK {w:L Wi} {g:Gu} (hw:WG w) (hap:∀ k i,k < i→i < w.len→apart (w.get k) (w.get i)) (h:GuR w g.1 g.2.2.1):Yes (g186 w g):=by
 obtain ⟨h1,h2,⟨h3,h4⟩,_⟩:=h
 have hl:=hw.1
 unfold Yes g186
 refine Ok.bind (winsK w hw.1 hw.2 hap) fun a ha=>?_
 rw [ha]
 refine Ok.no rfl (Ok.no (by rw [h1]; rfl) (Ok.grd (by rw [h1]; rfl) (Ok.no (by simpa using h2) (Ok.no (by simp; exact congrArg Nat.cast h3) ?_))))
 refine Ok.bind (loopK (R:=fun z=>z = .inr (.inl ((),()))) w.len (fun i z=>z = (((),(w,((w.len:Int),((i:Int),())))),(g,()))) ?_ ?_ _ rfl) ?_
 · rintro i _ hi rfl
   simp only [s186_L0,q186_L0]
   rw [wI_succ hi (by omega),tN]
   exact Ok.grd (idx_lt hi) (Ok.grd (idx_in hi) (Ok.grd (idx_in (by rw [h3]; exact hi)) (Ok.no (by simpa using (h4 i hi).1) (Ok.ret (.inl ⟨_,rfl,rfl⟩)))))
 · rintro _ rfl
   simp only [s186_L0,q186_L0]
   exact Ok.no (idx_end w.len) (Ok.ret ⟨_,rfl,rfl⟩)
 · rintro _ rfl
   exact Ok.ret rfl
theorem heK {h:He} (k:HeG h):f187 h = true:=by
 obtain ⟨h1,h2,h3⟩:=k
 unfold f187
 rw [f136_97,(f97_iff _ _ _).mpr h1,(f97_iff _ _ _).mpr h2,(f97_iff _ _ _).mpr h3]
 rfl
theorem wayK {row:L Wy} (hl:row.len≤1000) (hd:∀ i k,i < k→k < row.len→(row.get i).1 ≠ (row.get k).1) {i:Nat} (hi:i < row.len):Ok (g216 row (row.get i).1) fun a=>a.1.1 = (i:Int):=by
 unfold g216 g281_282
 have key:Ok (fixO s281_282_L0 ((row,(((row.get i).1,()),((row.len:Int),((0:Int),())))),())) fun z=>z = .inl (((i:Int),()),()):=by
  refine loopK i (fun k z=>z = ((row,(((row.get i).1,()),((row.len:Int),((k:Int),())))),())) ?_ ?_ _ rfl
  · rintro k _ hk rfl
    simp only [s281_282_L0,q281_282_L0]
    rw [wI_succ hk (by omega),tN]
    refine Ok.grd (idx_lt (by omega)) (Ok.grd (idx_in (by omega)) (Ok.no ?_ (Ok.ret (.inl ⟨_,rfl,rfl⟩))))
    show ((row.get k).1 == (row.get i).1) = false
    simpa using hd k i hk hi
  · rintro _ rfl
    simp only [s281_282_L0,q281_282_L0]
    rw [tN]
    refine Ok.grd (idx_lt hi) (Ok.grd (idx_in hi) (Ok.grd ?_ (Ok.ret ⟨_,rfl,rfl⟩)))
    show ((row.get i).1 == (row.get i).1) = true
    simp
 refine Ok.bind (Q:=fun a=>a.1.1 = (i:Int)) (Ok.bind key ?_) fun a ha=>Ok.ret ha
 rintro _ rfl
 exact Ok.ret rfl
theorem cacK {c:Ca} (h:CaG c):Yes (g124 c):=by
 obtain ⟨h1,h2,h3⟩:=h
 obtain ⟨s1,s2,_⟩:=shapeG h1
 unfold Yes g124
 rw [f135_119,h1]
 refine Ok.no rfl (Ok.no (by simpa using h2) (Ok.bind (loopK (R:=fun z=>z = .inr (.inl ((),()))) c.2.1.len (fun i z=>z = (((),(c.2.1,((c.2.1.len:Int),((i:Int),())))),(c,()))) ?_ ?_ _ rfl) ?_))
 · rintro i _ hi rfl
   obtain ⟨r1,r2,r3⟩:=h3 i hi
   have key:Ok (fixO s124_L2 (((),(c.2.1.get i,(c.2.1,((c.2.1.len:Int),((i:Int),(c.2.1.get i,(((c.2.1.get i).len:Int),((0:Int),())))))))),(c,()))) fun z=>z = .inr (.inl (((),(c.2.1,((c.2.1.len:Int),((i:Int),())))),(c,()))):=by
    refine loopK (c.2.1.get i).len (fun k z=>z = (((),(c.2.1.get i,(c.2.1,((c.2.1.len:Int),((i:Int),(c.2.1.get i,(((c.2.1.get i).len:Int),((k:Int),())))))))),(c,()))) ?_ ?_ _ rfl
    · rintro k _ hk rfl
      simp only [s124_L2,q124_L2]
      rw [wI_succ hk (by omega),tN]
      have ha:f215 ((c.2.1.get i).get k).1 = true:=(f97_iff _ _ _).mpr (r2 k hk)
      rw [ha]
      refine Ok.grd (idx_lt hk) (Ok.grd (idx_in hk) (Ok.no rfl (Ok.bind (wayK (by omega) r3 hk) fun a e=>?_)))
      rw [e]
      exact Ok.no (by simp) (Ok.ret (.inl ⟨_,rfl,rfl⟩))
    · rintro _ rfl
      simp only [s124_L2,q124_L2]
      exact Ok.no (idx_end (c.2.1.get i).len) (Ok.ret ⟨_,rfl,rfl⟩)
   simp only [s124_L0,q124_L0]
   rw [tN]
   refine Ok.grd (idx_lt hi) (Ok.grd (idx_in hi) (Ok.no (by simp; omega) (Ok.bind key ?_)))
   rintro _ rfl
   simp only
   rw [wI_succ hi (by omega)]
   exact Ok.ret (.inl ⟨_,rfl,rfl⟩)
 · rintro _ rfl
   simp only [s124_L0,q124_L0]
   exact Ok.no (idx_end c.2.1.len) (Ok.ret ⟨_,rfl,rfl⟩)
 · rintro _ rfl
   exact Ok.ret rfl
theorem idxK {x:L Int} (hl:x.len≤1000) {v:Int} (h:∀ i,i < x.len→x.get i ≠ v):Ok (g253 x v) fun a=>a.1.1 = false:=by
 unfold g253 g312
 have key:Ok (fixO s312_L0 ((x,(v,((x.len:Int),((0:Int),())))),())) fun z=>z = .inr (.inl ((),())):=by
  refine loopK x.len (fun k z=>z = ((x,(v,((x.len:Int),((k:Int),())))),())) ?_ ?_ _ rfl
  · rintro k _ hk rfl
    simp only [s312_L0,q312_L0]
    rw [wI_succ hk (by omega),tN]
    exact Ok.grd (idx_lt hk) (Ok.grd (idx_in hk) (Ok.no (by simpa using Ne.symm (h k hk)) (Ok.ret (.inl ⟨_,rfl,rfl⟩))))
  · rintro _ rfl
    simp only [s312_L0,q312_L0]
    exact Ok.no (idx_end x.len) (Ok.ret ⟨_,rfl,rfl⟩)
 refine Ok.bind (Q:=fun a=>a.1.1 = -1) (Ok.bind key ?_) fun a ha=>Ok.ret (by show decide (a.1.1 ≥ 0) = false; rw [ha]; rfl)
 rintro _ rfl
 exact Ok.ret rfl
theorem tlbOkK {n:Int} {x:Tl} (hn:1≤n ∧ n≤8) (h:TlG n x):Yes (g188 x):=by
 obtain ⟨h1,h2,h3,h4,_⟩:=h
 unfold Yes g188
 rw [f136_97,(f97_iff _ _ _).mpr (by omega)]
 refine Ok.no rfl (Ok.no (by simp; omega) (Ok.bind (loopK (R:=fun z=>z = .inr (.inl ((),()))) x.2.1.len (fun i z=>z = (((),(x.2.1,((x.2.1.len:Int),((i:Int),())))),(x,()))) ?_ ?_ _ rfl) ?_))
 · rintro i _ hi rfl
   simp only [s188_L0,q188_L0]
   rw [wI_succ hi (by omega),tN,f136_97,(f97_iff _ _ _).mpr (h3 i hi)]
   refine Ok.grd (idx_lt hi) (Ok.grd (idx_in hi) (Ok.no rfl (Ok.grd (by simp; omega) (Ok.bind (idxK (show i - 0≤1000 by omega) fun k hk=>?_) fun a ha=>?_))))
   · have hk:k < i - 0:=hk
     show x.2.1.get (0 + k) ≠ _
     rw [Nat.zero_add]
     exact h4 k i (by omega) hi
   · rw [ha]
     exact Ok.ret (.inl ⟨_,rfl,rfl⟩)
 · rintro _ rfl
   simp only [s188_L0,q188_L0]
   exact Ok.no (idx_end x.2.1.len) (Ok.ret ⟨_,rfl,rfl⟩)
 · rintro _ rfl
   exact Ok.ret rfl
theorem outT {r:Ch} {o:Oe} (h:OutP r o):f255 r o = true:=by
 obtain ⟨hr,h1,h2,_⟩:=h
 unfold f255 f238
 rw [show f145 r = f297 r from rfl,hr,f136_97]
 rcases chan_of hr with ⟨k1,k2⟩ | ⟨k1,k2,k3⟩
 · obtain ⟨a1,a2⟩:=h1 k1
   rw [k2,if_neg (by omega),bif_f (show (!true) = false from rfl),bif_f (by simp; omega),(f97_iff _ _ _).mpr (by omega),bif_t rfl,bif_t (by simpa using k1)]
 · obtain ⟨a1,a2⟩:=h2 (by omega)
   have hd:(if r.2.2.2.1 > 1 then r.2.2.2.1 else 1) = r.2.2.2.1:=by split <;> omega
   rw [hd,bif_f (show (!true) = false from rfl),bif_f (by simp; omega),(f97_iff _ _ _).mpr (by omega),bif_t rfl,bif_f (by simp [k1]),wI_id (by omega) (by omega)]
   simp; omega
theorem inT {r:Ch} {o:Ie} (h:InP r o):f257 r o = true:=by
 obtain ⟨hr,h1,h2,_⟩:=h
 unfold f257 f238
 rw [show f145 r = f297 r from rfl,hr,bif_t rfl]
 rcases chan_of hr with ⟨k1,k2⟩ | ⟨k1,k2,k3⟩
 · have:=h1 k1
   rw [k2,if_neg (by omega)]
   simp; omega
 · have:=h2 (by omega)
   have hd:(if r.2.2.2.1 > 1 then r.2.2.2.1 else 1) = r.2.2.2.1:=by split <;> omega
   rw [hd]
   simp; omega
theorem endsK {t:Tb} {p:Nat} {s:St} (g:TG t p) (h:PG t p s):Yes (g189 t (p:Int) s):=by
 have hc8:=g.ch.1
 have hd8:=g.dv
 have eo:=h.ou.1
 have ei:=h.is.1
 have ed:=h.de.1
 have h254:∀ i:Nat,i < (tChans t).len→g254 t (p:Int) (i:Int) = some ((((tChans t).get i).2.1 == (p:Int),()),()):=fun i h=>by
  unfold g254
  have e:((t.2.2.2.2.2.2.2.2.2.1.len:Int)) = (tChans t).len:=rfl
  rw [show f136 = f97 from rfl,e,wI_id (by omega) (by omega),bif_t ((f97_iff _ _ _).mpr (by omega)),bif_t (idx_in h),tN]
  rfl
 have h256:∀ i:Nat,i < (tChans t).len→g256 t (p:Int) (i:Int) = some ((((tChans t).get i).2.2.1 == (p:Int),()),()):=fun i h=>by
  unfold g256
  have e:((t.2.2.2.2.2.2.2.2.2.1.len:Int)) = (tChans t).len:=rfl
  rw [show f136 = f97 from rfl,e,wI_id (by omega) (by omega),bif_t ((f97_iff _ _ _).mpr (by omega)),bif_t (idx_in h),tN]
  rfl
 have h109:∀ i:Nat,i < (tDevs t).len→g109 t (p:Int) (i:Int) = some (((tDevs t).get i == (p:Int),()),()):=fun i h=>by
  unfold g109
  have e:((t.2.2.2.2.2.2.2.2.1.len:Int)) = (tDevs t).len:=rfl
  rw [show f136 = f97 from rfl,e,wI_id (by omega) (by omega),bif_t ((f97_iff _ _ _).mpr (by omega)),bif_t (idx_in h),tN]
  rfl
 unfold Yes g189
 refine Ok.no (by simp; exact congrArg Nat.cast eo) (Ok.no (by simp; exact congrArg Nat.cast ei) (Ok.no (by simp; exact congrArg Nat.cast ed) ?_))
 refine Ok.bind (loopK (R:=fun z=>z = .inr (.inl (((p:Int),((),((),()))),(t,(s,()))))) (tChans t).len (fun i z=>z = (((p:Int),((),((),(tChans t,(((tChans t).len:Int),((i:Int),())))))),(t,(s,())))) ?_ ?_ _ rfl) ?_
 · rintro i _ hi rfl
   have ho:=h.ou.2.1 i hi
   have hin:=h.is.2.1 i hi
   simp only [s189_L0,q189_L0]
   rw [wI_succ hi (by omega),tN,h254 i hi,h256 i hi]
   refine Ok.grd (idx_lt hi) (Ok.grd (idx_in hi) (Ok.grd (idx_in (n:=(sOuts s).len) (by omega)) (Ok.grd (idx_in (n:=(sIns s).len) (by omega)) ?_)))
   have fo:((tChans t).get i).2.1 = p→f255 ((tChans t).get i) (s.2.2.2.2.2.2.2.2.1.get i) = true:=fun q=>outT (ho.1 q)
   have fi:((tChans t).get i).2.2.1 = p→f257 ((tChans t).get i) (s.2.2.2.2.2.2.2.2.2.1.get i) = true:=fun q=>inT (hin.1 q)
   have no:((tChans t).get i).2.1 ≠ p→((s.2.2.2.2.2.2.2.2.1.get i).1 != 0) = false ∧ decide (((s.2.2.2.2.2.2.2.2.1.get i).2.1.len:Int) > 0) = false:=fun q=>by
    obtain ⟨a,b⟩:=ho.2 q
    have a:(s.2.2.2.2.2.2.2.2.1.get i).1 = 0:=a
    have b:(s.2.2.2.2.2.2.2.2.1.get i).2.1.len = 0:=b
    rw [a,b]; exact ⟨rfl,rfl⟩
   have ni:((tChans t).get i).2.2.1 ≠ p→decide (((s.2.2.2.2.2.2.2.2.2.1.get i).1.len:Int) > 0) = false:=fun q=>by
    have b:(s.2.2.2.2.2.2.2.2.2.1.get i).1.len = 0:=hin.2 q
    rw [b]; rfl
   cases q1:(((tChans t).get i).2.1 == (p:Int)) with
   | true =>
     have a1:=fo (eq_of_beq q1)
     cases q2:(((tChans t).get i).2.2.1 == (p:Int)) with
     | true =>
       have a2:=fi (eq_of_beq q2)
       simp only [a1,a2,oB,Bool.not_true,cond_true,cond_false]
       exact Ok.ret (.inl ⟨_,rfl,rfl⟩)
     | false =>
       have a2:=ni (fun e=>by rw [e] at q2; simp at q2)
       simp only [a1,a2,oB,Bool.not_true,Bool.not_false,cond_true,cond_false]
       exact Ok.ret (.inl ⟨_,rfl,rfl⟩)
   | false =>
     obtain ⟨a1,a3⟩:=no (fun e=>by rw [e] at q1; simp at q1)
     cases q2:(((tChans t).get i).2.2.1 == (p:Int)) with
     | true =>
       have a2:=fi (eq_of_beq q2)
       simp only [a1,a2,a3,oB,Bool.not_true,Bool.not_false,cond_true,cond_false]
       exact Ok.ret (.inl ⟨_,rfl,rfl⟩)
     | false =>
       have a2:=ni (fun e=>by rw [e] at q2; simp at q2)
       simp only [a1,a2,a3,oB,Bool.not_true,Bool.not_false,cond_true,cond_false]
       exact Ok.ret (.inl ⟨_,rfl,rfl⟩)
 · rintro _ rfl
   simp only [s189_L0,q189_L0]
   exact Ok.no (idx_end (tChans t).len) (Ok.ret ⟨_,rfl,rfl⟩)
 rintro _ rfl
 simp only
 refine Ok.bind (loopK (R:=fun z=>z = .inr (.inl ((),()))) (sDevs s).len (fun i z=>z = (((p:Int),((),(sDevs s,(((sDevs s).len:Int),((i:Int),()))))),(t,()))) ?_ ?_ _ rfl) ?_
 · rintro i _ hi rfl
   have hi':i < (tDevs t).len:=by omega
   have hd:=h.de.2.1 i hi'
   simp only [s189_L2,q189_L2]
   rw [wI_succ hi (by omega),tN,h109 i hi']
   refine Ok.grd (idx_lt hi) (Ok.grd (idx_in hi) ?_)
   cases q1:((tDevs t).get i == (p:Int)) with
   | true =>
     have k:=hd.1 (eq_of_beq q1)
     have a1:f258 ((sDevs s).get i) = true:=by
      unfold f258
      rw [bif_t (by have:=k.1; simp; omega)]
      have:=k.2.1
      simp; omega
     simp only [a1,oB,Bool.not_true,cond_true,cond_false]
     exact Ok.ret (.inl ⟨_,rfl,rfl⟩)
   | false =>
     obtain ⟨b1,b2⟩:=hd.2 (fun e=>by rw [e] at q1; simp at q1)
     have a1:decide (wI ((((sDevs s).get i).1.len:Int) + (((sDevs s).get i).2.1.len:Int)) > 0) = false:=by
      rw [b1,b2,wI_id (by omega) (by omega)]; rfl
     simp only [a1,oB,Bool.not_true,Bool.not_false,cond_true,cond_false]
     exact Ok.ret (.inl ⟨_,rfl,rfl⟩)
 · rintro _ rfl
   simp only [s189_L2,q189_L2]
   exact Ok.no (idx_end (sDevs s).len) (Ok.ret ⟨_,rfl,rfl⟩)
 · rintro _ rfl
   exact Ok.ret rfl
theorem partK {t:Tb} {p:Nat} {s:St} (g:TG t p) (hs:g54 t = some ((true,()),())) (hF:Facts t) (h:PG t p s) (hn:0≤s.2.2.2.2.2.1 ∧ s.2.2.2.2.2.1≤100000):Yes (g108 t (p:Int) s):=by
 have hP:Parts (tParts t) t.1:=hF.2.2.2.2.2.2.2.1
 have hap:∀ k i,k < i→i < ((tParts t).get p).2.2.2.1.len→apart (((tParts t).get p).2.2.2.1.get k) (((tParts t).get p).2.2.2.1.get i):=fun k i h1 h2=>by
  have hpw:(toL ((tParts t).get p).2.2.2.1).Pairwise apart:=by
   have hl:=g.pl
   obtain ⟨r,hr⟩:=winsOf_prefix (tParts t) (i:=p + 1) (n:=(tParts t).len) (by omega) (Nat.le_refl _)
   have:=hP.2
   rw [hr,List.pairwise_append] at this
   have h2:=this.1
   rw [winsOf_succ (tParts t) (by omega),List.pairwise_append] at h2
   exact h2.2.1
  have:=List.pairwise_iff_getElem.mp hpw k i (by rw [toL_len]; omega) (by rw [toL_len]; exact h2) h1
  rw [toL_getElem,toL_getElem] at this
  exact this
 unfold Yes g108
 rw [hs,oB]
 refine Ok.no rfl (Ok.bind (imgK g hF.2.2.2.2.2.2.1.2 h.bo) fun a ha=>?_)
 rw [ha]
 refine Ok.no rfl (Ok.grd (idx_in g.pl) ?_)
 rw [tN]
 refine Ok.bind (gstK (g:=s.1) g.w hap h.gu) fun b hb=>?_
 rw [hb,heK h.he]
 refine Ok.no rfl (Ok.no rfl (Ok.bind (cacK h.ca.2.1) fun c hc=>?_))
 rw [hc]
 refine Ok.no rfl (Ok.no ?_ (Ok.bind (tlbOkK g.tl h.tl) fun d hd=>?_))
 · rw [h.ca.1]; simp
 rw [hd]
 refine Ok.no rfl (Ok.no (by simpa using h.tl.1) (Ok.no ?_ (Ok.bind (endsK g h) fun e he=>Ok.ret he)))
 rw [f136_97,(f97_iff _ _ _).mpr hn]
 rfl
theorem f180_le {d:De} (h:f180 d = true):d.1.len≤8 ∧ d.2.1.len≤8:=by
 unfold f180 at h
 simp at h
 omega
def OpenIs (d r:De) (f:Bool):Prop:=∃ n,n = min d.1.len (8 - d.2.1.len) ∧ f = decide (0 < n) ∧ (r.1.len = d.1.len - n ∧ ∀ j,j < d.1.len - n→r.1.get j = d.1.get (n + j)) ∧ r.2.1.len = d.2.1.len + n ∧ (∀ j,j < d.2.1.len→r.2.1.get j = d.2.1.get j) ∧ ∀ j,j < n→r.2.1.get (d.2.1.len + j) = d.1.get j
theorem OpenIs.same {d1 d2 r1 r2:De} {f1 f2:Bool} (h:SmD d1 d2) (a:OpenIs d1 r1 f1) (b:OpenIs d2 r2 f2):f1 = f2 ∧ SmD r1 r2:=by
 obtain ⟨n,hn,rfl,⟨a1,a2⟩,a3,a4,a5⟩:=a
 obtain ⟨m,hm,rfl,⟨b1,b2⟩,b3,b4,b5⟩:=b
 have e1:=h.1.1
 have e2:=h.2.1
 have:n = m:=by omega
 subst this
 refine ⟨rfl,⟨by omega,fun i hi=>?_⟩,by omega,fun i hi=>?_⟩
 · rw [a2 i (by omega),b2 i (by omega)]
   exact h.1.2 _ (by omega)
 · by_cases hs:i < d1.2.1.len
   · rw [a4 i hs,b4 i (by omega)]
     exact h.2.2 i hs
   · have ea:=a5 (i - d1.2.1.len) (by omega)
     have eb:=b5 (i - d1.2.1.len) (by omega)
     rw [show d1.2.1.len + (i - d1.2.1.len) = i by omega] at ea
     rw [← e2,show d1.2.1.len + (i - d1.2.1.len) = i by omega] at eb
     rw [ea,eb]
     exact h.1.2 _ (by omega)
theorem OpenIs.bnd {d r:De} {f:Bool} (a:OpenIs d r f) (h:d.1.len≤8 ∧ d.2.1.len≤8):r.1.len≤8 ∧ r.2.1.len≤8:=by
 obtain ⟨n,hn,rfl,⟨a1,a2⟩,a3,a4,a5⟩:=a
 omega
theorem fixO_step {X D:Type} {step:X→Option (X⊕D)} {x y:X} (h:step x = some (.inl y)):fixO step x = fixO step y:=by rw [fixO_unfold,h]
theorem fixO_end {X D:Type} {step:X→Option (X⊕D)} {x:X} {d:D} (h:step x = some (.inr d)):fixO step x = some d:=by rw [fixO_unfold,h]
theorem concat261 (x y:L Int) (hx:x.len≤1000) (hy:y.len≤1000):∃ r,g261r (L.of (Ty.zero (.sl (.int .u32))) [x,y]) = some ((r,()),()) ∧ r.len = x.len + y.len ∧ (∀ j,j < x.len→r.get j = x.get j) ∧ ∀ j,j < y.len→r.get (x.len + j) = y.get j:=by
 generalize hX:L.of (Ty.zero (.sl (.int .u32))) [x,y] = X
 have X0:L.get X (0:Int).toNat = x:=by rw [← hX]; rfl
 have X1:L.get X (1:Int).toNat = y:=by rw [← hX]; rfl
 have Xl:(X.len:Int) = 2:=by rw [← hX]; rfl
 have t0:decide ((0:Int) < (2:Int)) = true:=rfl
 have t1:decide ((1:Int) < (2:Int)) = true:=rfl
 have i0:(decide ((0:Int)≤(0:Int))&&decide ((0:Int) < (2:Int))) = true:=rfl
 have i1:(decide ((0:Int)≤(1:Int))&&decide ((1:Int) < (2:Int))) = true:=rfl
 have f2:decide ((2:Int) < (2:Int)) = false:=rfl
 have hm:most = 4294967296:=rfl
 have a1:fixO s261r_L0 ((X,((0:Int),(X,((X.len:Int),((0:Int),()))))),()) = some (.inl ((X,(((x.len + y.len:Nat):Int),())),())):=by
  rw [Xl]
  have e0:s261r_L0 ((X,((0:Int),(X,((2:Int),((0:Int),()))))),()) = some (.inl ((X,((x.len:Int),(X,((2:Int),((1:Int),()))))),())):=by
   simp only [s261r_L0,q261r_L0]
   rw [Xl,bif_t t0,bif_t i0,X0,wI_id (n:=0 + (x.len:Int)) (by omega) (by omega),bif_f (by simp),wI_id (n:=0 + 1) (by omega) (by omega),Int.zero_add,Int.zero_add]
  have e1:s261r_L0 ((X,((x.len:Int),(X,((2:Int),((1:Int),()))))),()) = some (.inl ((X,(((x.len + y.len:Nat):Int),(X,((2:Int),((2:Int),()))))),())):=by
   simp only [s261r_L0,q261r_L0]
   rw [Xl,bif_t t1,bif_t i1,X1,wI_id (n:=(x.len:Int) + (y.len:Int)) (by omega) (by omega),bif_f (by simp; omega),wI_id (n:=1 + 1) (by omega) (by omega)]
   rfl
  have e2:s261r_L0 ((X,(((x.len + y.len:Nat):Int),(X,((2:Int),((2:Int),()))))),()) = some (.inr (.inl ((X,(((x.len + y.len:Nat):Int),())),()))):=by
   simp only [s261r_L0,q261r_L0]
   rw [bif_f f2]
  exact (fixO_step e0).trans ((fixO_step e1).trans (fixO_end e2))
 have a2:∃ g:L Int,g313rn ((x.len + y.len:Nat):Int) = some ((g,()),()) ∧ g.len = 0:=by
  unfold g313rn
  rw [bif_f (by simp; omega),wI_id (by omega) (by omega)]
  by_cases h0:x.len + y.len = 0
  · rw [bif_f (by rw [h0]; rfl)]
    exact ⟨_,rfl,rfl⟩
  · rw [bif_t (by simp; omega),bif_t (by rw [hm]; simp; omega),bif_t (by simp [L.rep]; omega)]
    exact ⟨_,rfl,rfl⟩
 obtain ⟨g,a2,g0⟩:=a2
 have a3:fixO s261r_L2 (((),(X,((X.len:Int),((0:Int),())))),(g,())) = some (.inl (((),()),(L.app (L.app g x) y,()))):=by
  rw [Xl]
  have e0:s261r_L2 (((),(X,((2:Int),((0:Int),())))),(g,())) = some (.inl (((),(X,((2:Int),((1:Int),())))),(L.app g x,()))):=by
   simp only [s261r_L2,q261r_L2]
   rw [Xl,bif_t t0,bif_t i0,X0,bif_t (by rw [hm]; simp; omega),wI_id (n:=0 + 1) (by omega) (by omega),Int.zero_add]
  have e1:s261r_L2 (((),(X,((2:Int),((1:Int),())))),(L.app g x,())) = some (.inl (((),(X,((2:Int),((2:Int),())))),(L.app (L.app g x) y,()))):=by
   have hl:(L.app g x).len = g.len + x.len:=rfl
   simp only [s261r_L2,q261r_L2]
   rw [Xl,bif_t t1,bif_t i1,X1,bif_t (by rw [hm,hl]; simp; omega),wI_id (n:=1 + 1) (by omega) (by omega)]
   rfl
  have e2:s261r_L2 (((),(X,((2:Int),((2:Int),())))),(L.app (L.app g x) y,())) = some (.inr (.inl (((),()),(L.app (L.app g x) y,())))):=by
   simp only [s261r_L2,q261r_L2]
   rw [bif_f f2]
  exact (fixO_step e0).trans ((fixO_step e1).trans (fixO_end e2))
 have gl:(L.app g x).len = x.len:=by show g.len + x.len = _; omega
 have gx:∀ j,(L.app g x).get j = x.get j:=fun j=>by
  have:=app_get_ge (x:=g) (y:=x) (i:=j)
  rwa [g0,Nat.zero_add] at this
 refine ⟨L.app (L.app g x) y,?_,by show (L.app g x).len + y.len = _; rw [gl],fun j hj=>?_,fun j hj=>?_⟩
 · unfold g261r
   exact bind_eq a1 (bind_eq a2 (bind_eq a3 rfl))
 · rw [app_get_lt (by rw [gl]; exact hj),gx]
 · have:=app_get_ge (x:=L.app g x) (y:=y) (i:=j)
   rwa [gl] at this
theorem open205 (d:De) (h:d.1.len≤8 ∧ d.2.1.len≤8):∃ (r:De) (f:Bool),g205p d = some ((f,()),(r,())) ∧ OpenIs d r f:=by
 have eN:(if (wI ((8:Int) - (d.2.1.len:Int))) < (d.1.len:Int) then (wI ((8:Int) - (d.2.1.len:Int))) else (d.1.len:Int)) = ((min d.1.len (8 - d.2.1.len):Nat):Int):=by
  rw [wI_id (by omega) (by omega)]
  split <;> omega
 unfold g205p
 rw [eN]
 generalize hn:min d.1.len (8 - d.2.1.len) = n
 have hn1:n≤d.1.len:=by omega
 obtain ⟨r,r1,r2,r3,r4⟩:=concat261 d.2.1 (L.cut d.1 (0:Int).toNat (n:Int).toNat) (by omega) (by show (n:Int).toNat - 0≤_; omega)
 have cl:(L.cut d.1 (0:Int).toNat (n:Int).toNat).len = n:=by show (n:Int).toNat - 0 = _; omega
 refine ⟨(L.cut d.1 (n:Int).toNat (d.1.len:Int).toNat,(r,())),decide ((n:Int) > 0),?_,n,hn.symm,by simp,⟨by show (d.1.len:Int).toNat - (n:Int).toNat = _; omega,fun j hj=>by show d.1.get ((n:Int).toNat + j) = _; rw [tN]⟩,by rw [cl] at r2; exact r2,r3,fun j hj=>?_⟩
 · exact (bif_t (by simp; omega)).trans (bind_eq r1 ((bif_t (by simp; omega)).trans rfl))
 · rw [cl] at r4
   have:=r4 j hj
   rw [this]
   show d.1.get (0 + j) = _
   rw [Nat.zero_add]
def holdV (v:Vi) (i:Nat):Vi:=(v.1,(v.2.1,(v.2.2.1,(v.2.2.2.1,(v.2.2.2.2.1,(v.2.2.2.2.2.1,(v.2.2.2.2.2.2.1,((orOf .u32 v.2.2.2.2.2.2.2.1 (shlOf .u32 (1:Int) (i:Int))),()))))))))
theorem hold206 (v:Vi) {i:Nat} (hi:i≤31):g206 v (i:Int) = some ((holdV v i,()),()):=by
 unfold g206
 rw [show f136 = f97 from rfl,bif_t ((f97_iff _ _ _).mpr (by omega)),bif_t (by simp)]
 rfl
def vAt (t:Tb) (p:Int) (d:L De) (v:Vi):Nat→Vi
 | 0=>v
 | i + 1=>if (tDevs t).get i = p ∧ 0 < min (d.get i).1.len (8 - (d.get i).2.1.len) then holdV (vAt t p d v i) i else vAt t p d v i
theorem vAt_same {t:Tb} {p:Int} {d e:L De} {v:Vi} (h:SmR SmD d e):∀ i,i≤d.len→vAt t p d v i = vAt t p e v i
 | 0,_=>rfl
 | i + 1,hi=>by
   simp only [vAt]
   rw [vAt_same h i (by omega),(h.2 i hi).1.1,(h.2 i hi).2.1]
def DevsAre (t:Tb) (p:Int) (h:Bool) (d r:L De):Prop:=r.len = d.len ∧ ∀ i,i < d.len→((h = true ∨ (tDevs t).get i ≠ p) ∧ r.get i = d.get i) ∨ (h = false ∧ (tDevs t).get i = p ∧ ∃ f,OpenIs (d.get i) (r.get i) f)
theorem DevsAre.same {t:Tb} {p:Int} {h:Bool} {d e r q:L De} (hde:SmR SmD d e) (a:DevsAre t p h d r) (b:DevsAre t p h e q):SmR SmD r q:=by
 refine ⟨a.1.trans (hde.1.trans b.1.symm),fun i hi=>?_⟩
 have hd:i < d.len:=by rw [← a.1]; exact hi
 have he:i < e.len:=by rw [← hde.1]; exact hd
 rcases a.2 i hd with ⟨a1,a2⟩ | ⟨a1,a2,f,a3⟩ <;> rcases b.2 i he with ⟨b1,b2⟩ | ⟨b1,b2,g,b3⟩
 · rw [a2,b2]; exact hde.2 i hd
 · rcases a1 with a1 | a1
   · rw [a1] at b1; cases b1
   · exact absurd b2 a1
 · rcases b1 with b1 | b1
   · rw [b1] at a1; cases a1
   · exact absurd a2 b1
 · exact (OpenIs.same (hde.2 i hd) a3 b3).2
structure SlotIs (t:Tb) (p:Int) (s:St) (cy:Int) (r:St):Prop where
 gu:r.1 = s.1
 vi:r.2.1 = if s.2.2.1.2.2.2.1 = true then s.2.1 else vAt t p (sDevs s) s.2.1 (sDevs s).len
 he:r.2.2.1 = s.2.2.1
 ca:NoneC t.2.1 r.2.2.2.1
 tl:r.2.2.2.2.1.1 = t.2.2.1 ∧ r.2.2.2.2.1.2.1.len = 0
 nx:r.2.2.2.2.2.1 = wI (cy + t.2.2.2.2.1)
 id:r.2.2.2.2.2.2.1 = false
 bo:sBoot r = sBoot s
 ou:sOuts r = sOuts s
 is:sIns r = sIns s
 de:DevsAre t p s.2.2.1.2.2.2.1 (sDevs s) (sDevs r)
theorem SlotIs.bnd {t:Tb} {p cy:Int} {s r:St} (h:SlotIs t p s cy r) (hF:Facts t) (hb:BndS s 1048576) (hd:∀ i,i < (sDevs s).len→(tDevs t).get i = p→((sDevs s).get i).1.len≤8 ∧ ((sDevs s).get i).2.1.len≤8):BndS r 1048576:=by
 obtain ⟨h1,h2,h3,h4,h5,h6,h7,h8,h8'⟩:=hb
 have hs:=shape_le hF.2.2.2.2.1
 refine ⟨by rw [h.gu]; exact h1,by rw [h.gu]; exact h2,⟨by rw [h.ca.2.1]; omega,fun i hi=>by rw [h.ca.2.2 i hi]; omega⟩,by rw [h.tl.2]; omega,by rw [h.bo]; exact h5,by rw [h.ou]; exact h6,by rw [h.is]; exact h7,by rw [h.de.1]; exact h8,fun i hi=>?_⟩
 have hi':i < (sDevs s).len:=by rw [← h.de.1]; exact hi
 rcases h.de.2 i hi' with ⟨_,e⟩ | ⟨_,e,f,q⟩
 · rw [e]; exact h8' i hi'
 · have:=q.bnd (hd i hi' e); omega
theorem hasDev109 (t:Tb) (p:Int) (hd:(tDevs t).len≤1048576) {i:Nat} (hi:i < (tDevs t).len):g109 t p (i:Int) = some ((((tDevs t).get i == p),()),()):=by
 have ed:(t.2.2.2.2.2.2.2.2.1.len:Int) = (tDevs t).len:=rfl
 unfold g109
 rw [show f136 = f97 from rfl,ed,wI_id (by omega) (by omega),bif_t ((f97_iff _ _ _).mpr (by omega)),bif_t (idx_in hi),tN]
 rfl
theorem slot116 (t:Tb) (p:Int) (s:St) (cy:Int) (hF:Facts t) (hl:(sDevs s).len = (tDevs t).len) (hd8:(tDevs t).len≤8) (hok:∀ j,j < (tDevs t).len→(tDevs t).get j = p→f180 ((sDevs s).get j) = true):∃ r:St,g116p s t p cy = some ((),(r,())) ∧ SlotIs t p s cy r:=by
 obtain ⟨c,c1,c2⟩:=cache149 t.2.1 hF.2.2.2.2.1
 unfold g116p
 refine bind_of ⟨_,c1,?_⟩
 cases hh:s.2.2.1.2.2.2.1 with
 | true=>exact ⟨_,rfl,rfl,by rw [if_pos hh],rfl,c2,⟨rfl,rfl⟩,rfl,rfl,rfl,rfl,rfl,rfl,fun i hi=>.inl ⟨.inl hh,rfl⟩⟩
 | false =>
   simp only [cond_false]
   have key:∀ {kn ko kp kq kr ks kt ku kv kw kx ky kz kB vw kC kE kF:_},∃ (v:Vi) (d:L De),fixO s116p_L0 (((),(p,((),(((sDevs s).len:Int),((0:Int),()))))),(((),(kn,((),(s.2.1.1,(s.2.1.2.1,(s.2.1.2.2.1,(s.2.1.2.2.2.1,(s.2.1.2.2.2.2.1,(s.2.1.2.2.2.2.2.1,(s.2.1.2.2.2.2.2.2.1,(s.2.1.2.2.2.2.2.2.2.1,(ko,(kp,(kq,(kr,(ks,(kt,(ku,((),(kv,(kw,(kx,(ky,((),((),((),((),()))))))))))))))))))))))))))),(t,(kz,(kB,(vw,(kC,(kE,(kF,((sDevs s),())))))))))) = some (.inl ((),(((),(kn,((),(v.1,(v.2.1,(v.2.2.1,(v.2.2.2.1,(v.2.2.2.2.1,(v.2.2.2.2.2.1,(v.2.2.2.2.2.2.1,(v.2.2.2.2.2.2.2.1,(ko,(kp,(kq,(kr,(ks,(kt,(ku,((),(kv,((),(kx,(ky,((),((),((),((),()))))))))))))))))))))))))))),(kz,(kB,(vw,(kw,(kC,(kE,(kF,(d,()))))))))))) ∧ v = vAt t p (sDevs s) s.2.1 (sDevs s).len ∧ DevsAre t p false (sDevs s) d:=by
    intro kn ko kp kq kr ks kt ku kv kw kx ky kz kB vw kC kE kF
    obtain ⟨z,z1,v,d,rfl,z2,z3⟩:=loop_n (step:=s116p_L0) (sDevs s).len
     (fun i z=>∃ (v:Vi) (d:L De),z = (((),(p,((),(((sDevs s).len:Int),((i:Int),()))))),(((),(kn,((),(v.1,(v.2.1,(v.2.2.1,(v.2.2.2.1,(v.2.2.2.2.1,(v.2.2.2.2.2.1,(v.2.2.2.2.2.2.1,(v.2.2.2.2.2.2.2.1,(ko,(kp,(kq,(kr,(ks,(kt,(ku,((),(kv,(kw,(kx,(ky,((),((),((),((),()))))))))))))))))))))))))))),(t,(kz,(kB,(vw,(kC,(kE,(kF,(d,())))))))))) ∧ v = vAt t p (sDevs s) s.2.1 i ∧ d.len = (sDevs s).len ∧ (∀ j,j < i→((tDevs t).get j ≠ p ∧ d.get j = (sDevs s).get j) ∨ ((tDevs t).get j = p ∧ ∃ f,OpenIs ((sDevs s).get j) (d.get j) f)) ∧ ∀ j,i≤j→d.get j = (sDevs s).get j)
     (fun z=>∃ (v:Vi) (d:L De),z = .inl ((),(((),(kn,((),(v.1,(v.2.1,(v.2.2.1,(v.2.2.2.1,(v.2.2.2.2.1,(v.2.2.2.2.2.1,(v.2.2.2.2.2.2.1,(v.2.2.2.2.2.2.2.1,(ko,(kp,(kq,(kr,(ks,(kt,(ku,((),(kv,((),(kx,(ky,((),((),((),((),()))))))))))))))))))))))))))),(kz,(kB,(vw,(kw,(kC,(kE,(kF,(d,())))))))))) ∧ v = vAt t p (sDevs s) s.2.1 (sDevs s).len ∧ DevsAre t p false (sDevs s) d)
     (by
      rintro i _ hi ⟨v,d,rfl,hv,d1,d2,d3⟩
      have hid:i < d.len:=by omega
      have hit:i < (tDevs t).len:=by omega
      have ei:=d3 i (Nat.le_refl _)
      have hD:=hasDev109 t p (by omega) hit
      by_cases hq:(tDevs t).get i = p
      · have hq':((tDevs t).get i == p) = true:=by simpa using hq
        obtain ⟨r,f,r1,r2⟩:=open205 ((sDevs s).get i) (f180_le (hok i hit hq))
        have hdj:∀ j,j < i + 1→((tDevs t).get j ≠ p ∧ (L.set d i r).get j = (sDevs s).get j) ∨ ((tDevs t).get j = p ∧ ∃ f,OpenIs ((sDevs s).get j) ((L.set d i r).get j) f):=fun j hj=>by
         by_cases e:j = i
         · subst e; rw [set_eq_get]; exact .inr ⟨hq,f,r2⟩
         · rw [set_ne_get _ _ e]; exact d2 j (by omega)
        have hdj2:∀ j,i + 1≤j→(L.set d i r).get j = (sDevs s).get j:=fun j hj=>by rw [set_ne_get _ _ (by omega)]; exact d3 j (by omega)
        cases f with
        | true =>
          have hn:0 < min ((sDevs s).get i).1.len (8 - ((sDevs s).get i).2.1.len):=by
           obtain ⟨n,n1,n2,_⟩:=r2
           have:0 < n:=by simpa using n2.symm
           omega
          have hva:vAt t p (sDevs s) s.2.1 (i + 1) = holdV v i:=by
           simp only [vAt]
           rw [if_pos ⟨hq,hn⟩,hv]
          refine .inl ⟨_,?_,holdV v i,L.set d i r,rfl,hva.symm,d1,hdj,hdj2⟩
          simp only [s116p_L0,q116p_L0]
          refine (bif_t (idx_lt hi)).trans (bind_eq hD ((bif_t hq').trans ((bif_t (idx_in hid)).trans ?_)))
          rw [tN,ei]
          refine bind_eq r1 ((bif_t rfl).trans (bind_eq (hold206 v (by omega)) ?_))
          rw [wI_succ hi (by omega)]
        | false =>
          have hn:¬ 0 < min ((sDevs s).get i).1.len (8 - ((sDevs s).get i).2.1.len):=by
           obtain ⟨n,n1,n2,_⟩:=r2
           have:¬ 0 < n:=by simpa using n2.symm
           omega
          have hva:vAt t p (sDevs s) s.2.1 (i + 1) = v:=by
           simp only [vAt]
           rw [if_neg (fun h=>hn h.2),hv]
          refine .inl ⟨_,?_,v,L.set d i r,rfl,hva.symm,d1,hdj,hdj2⟩
          simp only [s116p_L0,q116p_L0]
          refine (bif_t (idx_lt hi)).trans (bind_eq hD ((bif_t hq').trans ((bif_t (idx_in hid)).trans ?_)))
          rw [tN,ei]
          refine bind_eq r1 ((bif_f rfl).trans ?_)
          rw [wI_succ hi (by omega)]
      · have hq':((tDevs t).get i == p) = false:=by simpa using hq
        have hva:vAt t p (sDevs s) s.2.1 (i + 1) = v:=by
         simp only [vAt]
         rw [if_neg (fun h=>hq h.1),hv]
        refine .inl ⟨_,?_,v,d,rfl,hva.symm,d1,fun j hj=>?_,fun j hj=>d3 j (by omega)⟩
        · simp only [s116p_L0,q116p_L0]
          refine (bif_t (idx_lt hi)).trans (bind_eq hD ((bif_f hq').trans ?_))
          rw [wI_succ hi (by omega)]
        · by_cases e:j = i
          · subst e; exact .inl ⟨hq,ei⟩
          · exact d2 j (by omega))
     (by
      rintro _ ⟨v,d,rfl,hv,d1,d2,d3⟩
      refine ⟨_,?_,v,d,rfl,hv,d1,fun j hj=>?_⟩
      · simp only [s116p_L0,q116p_L0]
        exact bif_f (idx_end _)
      · rcases d2 j (by omega) with ⟨e1,e2⟩ | ⟨e1,e2⟩
        · exact .inl ⟨.inr e1,e2⟩
        · exact .inr ⟨rfl,e1,e2⟩)
     (((),(p,((),(((sDevs s).len:Int),((0:Int),()))))),(((),(kn,((),(s.2.1.1,(s.2.1.2.1,(s.2.1.2.2.1,(s.2.1.2.2.2.1,(s.2.1.2.2.2.2.1,(s.2.1.2.2.2.2.2.1,(s.2.1.2.2.2.2.2.2.1,(s.2.1.2.2.2.2.2.2.2.1,(ko,(kp,(kq,(kr,(ks,(kt,(ku,((),(kv,(kw,(kx,(ky,((),((),((),((),()))))))))))))))))))))))))))),(t,(kz,(kB,(vw,(kC,(kE,(kF,((sDevs s),())))))))))) ⟨s.2.1,sDevs s,rfl,rfl,rfl,fun j hj=>absurd hj (Nat.not_lt_zero j),fun _ _=>rfl⟩
    exact ⟨v,d,z1,z2,z3⟩
   refine bind_of (key.elim fun v h=>h.elim fun d h=>⟨_,h.1,?_⟩)
   refine ⟨_,rfl,rfl,?_,by rw [← hh],c2,⟨rfl,rfl⟩,rfl,rfl,rfl,rfl,rfl,?_⟩
   · rw [if_neg (by rw [hh]; simp)]; exact h.2.1
   · rw [hh]; exact h.2.2
theorem Drawn.is {t:Tb} {p:Nat} {s:St} {c:Int} (D:Drawn t p s c):Yes (g108 t (p:Int) s):=partK D.tg D.so D.fa D.pg D.nx
theorem Drawn.same {t:Tb} {p:Nat} {s b:St} {c:Int} (D:Drawn t p s c) (h:SmS b s) (n:NN b):Drawn t p b c :=
 ⟨D.tg,D.so,D.fa,D.pg.same D.tg h n,by rw [h.nx]; exact D.nx,D.cy⟩
theorem cloneK {t:Tb} {p:Nat} {s:St} {c:Int} (D:Drawn t p s c):Ok (g110r s) fun a=>SmS a.1.1 s ∧ Drawn t p a.1.1 c:=by
 obtain ⟨b,b1,b2,b3⟩:=part110 s (D.pg.bnd D.tg) D.pg.nn (D.pg.ou.1.trans D.pg.is.1.symm)
 exact ⟨_,b1,b2,D.same b2 b3⟩
theorem pslotK {t:Tb} {p:Nat} {s:St} {c:Int} (D:Drawn t p s c) (hc:c≤50000):Ok (g29r t (p:Int) s c) fun z=>z.1.2.1 = true ∧ ∃ b,SmS b s ∧ SlotIs t p b c z.1.1:=by
 unfold g29r
 refine Ok.bind D.is fun a ha=>?_
 rw [ha,show f115 c = true from (f97_iff _ _ _).mpr ⟨D.cy,hc⟩]
 refine Ok.no rfl (Ok.no rfl (Ok.bind (cloneK D) ?_))
 rintro ⟨⟨b,⟨⟩⟩,⟨⟩⟩ ⟨b1,b2⟩
 dsimp only at b1 b2 ⊢
 obtain ⟨r,r1,r2⟩:=slot116 t p b c D.fa b2.pg.de.1 D.tg.dv (fun j hj hp=>by
  have k:=(b2.pg.de.2.1 j hj).1 hp
  have k1:=k.1
  have k2:=k.2.1
  unfold f180
  rw [bif_t (by simp; omega)]
  simp; omega)
 rw [show g116p b t (p:Int) c = some ((),(r,())) from r1,oB]
 exact Ok.ret ⟨rfl,b,b1,r2⟩
theorem same120 {x y:L Int} (h:SmL x y) (hl:x.len≤1048576):Yes (g120 x y):=by
 unfold Yes g120
 refine Ok.no (by simp; exact congrArg Nat.cast h.1) (Ok.bind (loopK (R:=fun z=>z = .inr (.inl ((),()))) x.len (fun i z=>z = ((x,(y,((i:Int),()))),())) ?_ ?_ _ rfl) ?_)
 · rintro i _ hi rfl
   simp only [s120_L0,q120_L0]
   rw [wI_succ hi (by omega),tN]
   exact Ok.grd (idx_lt hi) (Ok.grd (idx_in hi) (Ok.grd (idx_in (by rw [← h.1]; exact hi)) (Ok.no (by simpa using h.2 i hi) (Ok.ret (.inl ⟨_,rfl,rfl⟩)))))
 · rintro _ rfl
   simp only [s120_L0,q120_L0]
   exact Ok.no (idx_end x.len) (Ok.ret ⟨_,rfl,rfl⟩)
 · rintro _ rfl
   exact Ok.ret rfl
theorem same123 {x y:L Int} (h:x.len = 0) (k:y.len = 0):Yes (g123 x y):=by
 unfold Yes g123
 refine Ok.no (by rw [h,k]; rfl) (Ok.bind (Q:=fun z=>z = .inr (.inl ((),()))) ?_ ?_)
 · refine loopK 0 (fun i z=>z = ((x,(y,((i:Int),()))),())) (fun i _ hi=>absurd hi (Nat.not_lt_zero i)) ?_ _ rfl
   rintro _ rfl
   simp only [s123_L0,q123_L0]
   exact Ok.no (by rw [h]; rfl) (Ok.ret ⟨_,rfl,rfl⟩)
 · rintro _ rfl
   exact Ok.ret rfl
theorem strOfL_same {x y:L Int} (h:SmL x y):strOfL x = strOfL y:=by
 unfold strOfL
 have e:(List.range x.len).map x.get = (List.range y.len).map y.get:=by
  rw [← h.1]
  exact List.map_congr_left fun i hi=>h.2 i (List.mem_range.mp hi)
 rw [e]
theorem same121 {x y:Im} (h:SmR SmL x y) (hl:x.len≤1048576):Yes (g121 x y):=by
 unfold Yes g121
 refine Ok.no (by simp; exact congrArg Nat.cast h.1) (Ok.bind (loopK (R:=fun z=>z = .inr (.inl ((),()))) x.len (fun i z=>z = ((x,(y,((i:Int),()))),())) ?_ ?_ _ rfl) ?_)
 · rintro i _ hi rfl
   simp only [s121_L0,q121_L0]
   rw [wI_succ hi (by omega),tN]
   exact Ok.grd (idx_lt hi) (Ok.grd (idx_in hi) (Ok.grd (idx_in (by rw [← h.1]; exact hi)) (Ok.no (by rw [strOfL_same (h.2 i hi),strEq_self]; rfl) (Ok.ret (.inl ⟨_,rfl,rfl⟩)))))
 · rintro _ rfl
   simp only [s121_L0,q121_L0]
   exact Ok.no (idx_end x.len) (Ok.ret ⟨_,rfl,rfl⟩)
 · rintro _ rfl
   exact Ok.ret rfl
theorem same122 {s:Sh} {x y:Ca} (h:NoneC s x) (k:NoneC s y) (hl:x.2.1.len≤1048576):Yes (g122 x y):=by
 have e:=h.1.trans k.1.symm
 have l:=h.2.1.trans k.2.1.symm
 unfold Yes g122
 refine Ok.no (by rw [e]; simp) (Ok.no (by simp; exact congrArg Nat.cast l) (Ok.bind (loopK (R:=fun z=>z = .inr (.inl ((),()))) x.2.1.len (fun i z=>z = (((),((),((i:Int),()))),(x,(y,())))) ?_ ?_ _ rfl) ?_))
 · rintro i _ hi rfl
   have hx:=h.2.2 i hi
   have hy:=k.2.2 i (by rw [← l]; exact hi)
   have key:Ok (fixO s122_L2 (((),((),((i:Int),((0:Int),())))),(x,(y,())))) fun z=>z = .inr (.inl (((),((),((i:Int),()))),(x,(y,())))):=by
    refine loopK 0 (fun j z=>z = (((),((),((i:Int),((j:Int),())))),(x,(y,())))) (fun i _ hi=>absurd hi (Nat.not_lt_zero i)) ?_ _ rfl
    rintro _ rfl
    simp only [s122_L2,q122_L2]
    rw [tN]
    exact Ok.grd (idx_in hi) (Ok.no (by rw [hx]; rfl) (Ok.ret ⟨_,rfl,rfl⟩))
   simp only [s122_L0,q122_L0]
   rw [tN]
   refine Ok.grd (idx_lt hi) (Ok.grd (idx_in hi) (Ok.grd (idx_in (by rw [← l]; exact hi)) (Ok.no (by rw [hx,hy]; rfl) (Ok.bind key ?_))))
   rintro _ rfl
   simp only
   rw [wI_succ hi (by omega)]
   exact Ok.ret (.inl ⟨_,rfl,rfl⟩)
 · rintro _ rfl
   simp only [s122_L0,q122_L0]
   exact Ok.no (idx_end x.2.1.len) (Ok.ret ⟨_,rfl,rfl⟩)
 · rintro _ rfl
   exact Ok.ret rfl
theorem NoneC.ca {s:Sh} {c:Ca} (hs:f119 s = true) (h:NoneC s c):CaG c:=by
 obtain ⟨h1,h2,h3⟩:=h
 obtain ⟨s1,s2,_⟩:=shapeG hs
 refine ⟨by rw [h1]; exact hs,by rw [h1,h2]; omega,fun i hi=>?_⟩
 have e:=h3 i hi
 rw [h1]
 exact ⟨by omega,fun j hj=>by omega,fun j k _ hk=>by omega⟩
theorem sortK {x:L Int} (h:x.len = 0):Ok (g125 x) fun _=>True:=by
 unfold g125
 have e:IntKind.wrap .u64 ((x.len:Int)) = 0:=by rw [h]; rfl
 have e8:Ok (g218 0) fun _=>True:=by
  unfold g218 g293
  exact Ok.bind (Q:=fun _=>True) (Ok.no (by decide) (Ok.no (by decide) (Ok.no (by decide) (Ok.grd (by decide +kernel) (Ok.ret trivial))))) fun _ _=>Ok.ret trivial
 rw [e,h]
 have k1:Ok (g283 x (0:Int) ((0:Nat):Int)) fun _=>True:=by
  unfold g283
  refine Ok.bind (Q:=fun z=>z = .inl ((),())) ?_ ?_
  · refine loopK 0 (fun i z=>z = ((x,((0:Int),(((0:Nat):Int),(wI (0 + 1),())))),())) (fun i _ hi=>absurd hi (Nat.not_lt_zero i)) ?_ _ rfl
    rintro _ rfl
    simp only [s283_L0,q283_L0]
    exact Ok.no (by rw [wI_id (by omega) (by omega)]; rfl) (Ok.ret ⟨_,rfl,rfl⟩)
  · rintro _ rfl
    exact Ok.ret trivial
 have k2:∀ n:Int,Ok (g217 x (0:Int) ((0:Nat):Int) n) fun _=>True:=fun n=>by
  unfold g217
  refine Ok.bind (Q:=fun z=>z = .inl ((),())) ?_ ?_
  · refine loopK 0 (fun i z=>z = ((x,((0:Int),(((0:Nat):Int),(n,(true,(true,())))))),())) (fun i _ hi=>absurd hi (Nat.not_lt_zero i)) ?_ _ rfl
    rintro _ rfl
    simp only [s217_L0,q217_L0]
    exact Ok.grd (by rw [wI_id (by omega) (by omega)]; rfl) (Ok.bind k1 fun _ _=>Ok.ret ⟨_,rfl,rfl⟩)
  · rintro _ rfl
    exact Ok.ret trivial
 exact Ok.bind e8 fun _ _=>Ok.bind (k2 _) fun _ _=>Ok.ret trivial
theorem linesK {s:Sh} {c:Ca} (hs:f119 s = true) (h:NoneC s c):Ok (g38r c) fun a=>a.1.1.len = 0:=by
 have g:=h.ca hs
 obtain ⟨s1,s2,_⟩:=shapeG g.1
 have gl:=g.2.1
 unfold g38r
 refine Ok.bind (cacK g) fun a ha=>?_
 rw [ha]
 refine Ok.no rfl (Ok.bind (loopK (R:=fun z=>∃ r:L Int,z = .inl (((),()),(r,())) ∧ r.len = 0) c.2.1.len (fun i z=>∃ r:L Int,z = (((),(r,(c.2.1,((c.2.1.len:Int),((i:Int),()))))),(c,())) ∧ r.len = 0) ?_ ?_ _ ⟨_,rfl,rfl⟩) ?_)
 · rintro i _ hi ⟨r,rfl,hr⟩
   have hx:=h.2.2 i hi
   have key:Ok (fixO s38r_L2 (((),((),((i:Int),(c.2.1,((c.2.1.len:Int),((i:Int),(c.2.1.get i,(((c.2.1.get i).len:Int),((0:Int),()))))))))),(c,(r,())))) fun z=>z = .inl (((),((),(c.2.1,((c.2.1.len:Int),((i:Int),()))))),(c,(r,()))):=by
    refine loopK 0 (fun j z=>z = (((),((),((i:Int),(c.2.1,((c.2.1.len:Int),((i:Int),(c.2.1.get i,(((c.2.1.get i).len:Int),((j:Int),()))))))))),(c,(r,())))) (fun i _ hi=>absurd hi (Nat.not_lt_zero i)) ?_ _ rfl
    rintro _ rfl
    simp only [s38r_L2,q38r_L2]
    exact Ok.no (by rw [hx]; rfl) (Ok.ret ⟨_,rfl,rfl⟩)
   simp only [s38r_L0,q38r_L0]
   rw [tN]
   refine Ok.grd (idx_lt hi) (Ok.grd (idx_in hi) (Ok.bind key ?_))
   rintro _ rfl
   simp only
   rw [wI_succ hi (by omega)]
   exact Ok.ret (.inl ⟨_,rfl,_,rfl,hr⟩)
 · rintro _ ⟨r,rfl,hr⟩
   simp only [s38r_L0,q38r_L0]
   exact Ok.no (idx_end c.2.1.len) (Ok.ret ⟨_,rfl,r,rfl,hr⟩)
 · rintro _ ⟨r,rfl,hr⟩
   exact Ok.bind (sortK hr) fun _ _=>Ok.ret hr
theorem samePartK {a b:St} {s:Sh} (gu:SmG a.1 b.1) (vi:a.2.1 = b.2.1) (he:a.2.2.1 = b.2.2.1) (ca:NoneC s a.2.2.2.1) (cb:NoneC s b.2.2.2.1) (t1:a.2.2.2.2.1.1 = b.2.2.2.2.1.1) (t2:a.2.2.2.2.1.2.1.len = 0) (t3:b.2.2.2.2.1.2.1.len = 0)
 (nx:a.2.2.2.2.2.1 = b.2.2.2.2.2.1) (id:a.2.2.2.2.2.2.1 = b.2.2.2.2.2.2.1) (bo:SmR SmL (sBoot a) (sBoot b)) (ou:SmR SmO (sOuts a) (sOuts b)) (is:SmR SmI (sIns a) (sIns b)) (de:SmR SmD (sDevs a) (sDevs b)) (h:BndS a 1048576):Yes (g37 a b):=by
 obtain ⟨b1,b2,b3,_,b5,b6,b7,b8⟩:=h
 unfold Yes g37
 refine Ok.bind (same120 gu.1 b1) fun y hy=>?_
 rw [hy]
 refine Ok.no rfl (Ok.no (by simpa using gu.2.1) (Ok.bind (same121 gu.2.2 b2.1) fun y hy=>?_))
 rw [hy,vi,he]
 refine Ok.no rfl (Ok.no (by simp) (Ok.no (by simp) (Ok.bind (same122 ca cb b3.1) fun y hy=>?_)))
 rw [hy]
 refine Ok.no rfl (Ok.no (by simpa using t1) (Ok.bind (same123 t2 t3) fun y hy=>?_))
 rw [hy]
 refine Ok.no rfl (Ok.no (by simpa using nx) (Ok.no (by rw [id]; simp) (Ok.bind (same121 bo b5.1) fun y hy=>?_)))
 rw [hy]
 refine Ok.no rfl (Ok.no (by simp; exact congrArg Nat.cast ou.1) (Ok.no (by simp; exact congrArg Nat.cast is.1) (Ok.no (by simp; exact congrArg Nat.cast de.1) ?_)))
 refine Ok.bind (loopK (R:=fun z=>z = .inr (.inl (((),((),())),(a,(b,()))))) (sOuts a).len (fun i z=>z = (((),((),((i:Int),()))),(a,(b,())))) ?_ ?_ _ rfl) ?_
 · rintro i _ hi rfl
   have e:=ou.2 i hi
   have hb:i < (sOuts b).len:=by rw [← ou.1]; exact hi
   simp only [s37_L0,q37_L0]
   rw [wI_succ hi (Nat.le_trans b6.1 (by omega)),tN]
   refine Ok.grd (idx_lt hi) (Ok.grd (idx_in hi) (Ok.grd (idx_in hb) (Ok.no (by simp only [bne_eq_false_iff_eq]; exact e.1) (Ok.grd (idx_in hi) (Ok.grd (idx_in hb) (Ok.bind (same120 e.2 (b6.2 i hi)) fun y hy=>?_))))))
   rw [hy]
   exact Ok.no rfl (Ok.ret (.inl ⟨_,rfl,rfl⟩))
 · rintro _ rfl
   simp only [s37_L0,q37_L0]
   exact Ok.no (idx_end (sOuts a).len) (Ok.ret ⟨_,rfl,rfl⟩)
 rintro _ rfl
 simp only
 refine Ok.bind (loopK (R:=fun z=>z = .inr (.inl (((),((),())),(a,(b,()))))) (sIns a).len (fun i z=>z = (((),((),((i:Int),()))),(a,(b,())))) ?_ ?_ _ rfl) ?_
 · rintro i _ hi rfl
   have e:=is.2 i hi
   have hb:i < (sIns b).len:=by rw [← is.1]; exact hi
   simp only [s37_L2,q37_L2]
   rw [wI_succ hi (Nat.le_trans b7.1 (by omega)),tN]
   refine Ok.grd (idx_lt hi) (Ok.grd (idx_in hi) (Ok.grd (idx_in hb) (Ok.bind (same120 e (b7.2 i hi)) fun y hy=>?_)))
   rw [hy]
   exact Ok.no rfl (Ok.ret (.inl ⟨_,rfl,rfl⟩))
 · rintro _ rfl
   simp only [s37_L2,q37_L2]
   exact Ok.no (idx_end (sIns a).len) (Ok.ret ⟨_,rfl,rfl⟩)
 rintro _ rfl
 simp only
 refine Ok.bind (loopK (R:=fun z=>z = .inr (.inl ((),()))) (sDevs a).len (fun i z=>z = (((),((),((i:Int),()))),(a,(b,())))) ?_ ?_ _ rfl) ?_
 · rintro i _ hi rfl
   have e:=de.2 i hi
   have hb:i < (sDevs b).len:=by rw [← de.1]; exact hi
   simp only [s37_L4,q37_L4]
   rw [wI_succ hi (Nat.le_trans b8.1 (by omega)),tN]
   refine Ok.grd (idx_lt hi) (Ok.grd (idx_in hi) (Ok.grd (idx_in hb) (Ok.bind (same120 e.1 (b8.2 i hi).1) fun y hy=>?_)))
   rw [hy]
   refine Ok.no rfl (Ok.grd (idx_in hi) (Ok.grd (idx_in hb) (Ok.bind (same120 e.2 (b8.2 i hi).2) fun y hy=>?_)))
   rw [hy]
   exact Ok.no rfl (Ok.ret (.inl ⟨_,rfl,rfl⟩))
 · rintro _ rfl
   simp only [s37_L4,q37_L4]
   exact Ok.no (idx_end (sDevs a).len) (Ok.ret ⟨_,rfl,rfl⟩)
 · rintro _ rfl
   exact Ok.ret rfl
theorem atB {x:L Int} (hb:∀ i,i < x.len→0≤x.get i ∧ x.get i≤255):Ok (g36 x 3) fun a=>0≤a.1.1 ∧ a.1.1≤255:=by
 unfold g36
 refine Ok.bif (fun q=>Ok.grd (by rw [q]; rfl) (Ok.ret ?_)) fun q=>Ok.ret ?_
 · have q:(3:Int) < x.len:=of_decide_eq_true q
   have:=hb 3 (by omega)
   show 0≤wI (x.get 3) ∧ wI (x.get 3)≤255
   rw [wI_id (by omega) (by omega)]
   exact this
 · have q:¬ ((3:Int) < x.len):=of_decide_eq_false q
   show 0≤Int.tmod (wI (wI (3 * 7) + (x.len:Int))) 256 ∧ Int.tmod (wI (wI (3 * 7) + (x.len:Int))) 256≤255
   rw [wI_id (n:=3 * 7) (by omega) (by omega),wI_id (by omega) (by omega),Int.tmod_eq_emod_of_nonneg (by omega)]
   omega
theorem law (code:L Int) (hB:∀ i,i < code.len→0≤code.get i ∧ code.get i≤255):g8 code = some ((true,()),()):=by
 have key:Yes (g8 code):=by
  unfold Yes g8
  refine Ok.bif (fun _=>Ok.ret rfl) fun hb=>?_
  have hb:code.len≤1048576:=by
   unfold f30 at hb
   simp at hb; omega
  have h46r:(2:Nat) ^ 46 = 70368744177664:=by decide
  refine Ok.bind (drawnK (by omega)) ?_
  rintro ⟨⟨t,p',s,cy,⟨⟩⟩,⟨⟩⟩ ⟨p,hp,D⟩
  dsimp only at hp D ⊢
  subst hp
  refine Ok.bif (fun _=>Ok.ret rfl) fun hc=>?_
  have hc:cy≤50000:=by simpa using hc
  rw [tlbE D.tg]
  refine Ok.bind (emptyK D.tg) ?_
  rintro ⟨⟨ca,⟨⟩⟩,⟨⟩⟩ hca
  refine Ok.bind (atB hB) ?_
  rintro ⟨⟨nx,⟨⟩⟩,⟨⟩⟩ hnx
  dsimp only at hca hnx ⊢
  refine Ok.bind (pslotK D hc) ?_
  rintro ⟨⟨r1,f1,⟨⟩⟩,⟨⟩⟩ ⟨q1,b1,m1,S1⟩
  have D':Drawn t p (s.1,(s.2.1,(s.2.2.1,(ca,((t.2.2.1,(nilL (.int .i64),())),(nx,(!s.2.2.2.2.2.2.1,s.2.2.2.2.2.2.2))))))) cy :=
   ⟨D.tg,D.so,D.fa,⟨D.pg.gu,D.pg.he,hca,tlbG D.tg.tl.1,D.pg.bo,D.pg.ou,D.pg.is,D.pg.de⟩,⟨hnx.1,Int.le_trans hnx.2 (by decide)⟩,D.cy⟩
  refine Ok.bind (pslotK D' hc) ?_
  rintro ⟨⟨r2,f2,⟨⟩⟩,⟨⟩⟩ ⟨q2,b2,m2,S2⟩
  dsimp only at q1 q2 S1 S2 ⊢
  subst q1 q2
  have hd:SmR SmD (sDevs b1) (sDevs b2):=SmR.trans (R:=SmD) (fun _ _ _=>SmD.trans) m1.de (SmR.symm (R:=SmD) (fun _ _=>SmD.symm) m2.de)
  have hh:b1.2.2.1 = b2.2.2.1:=m1.he.trans m2.he.symm
  have hv:b1.2.1 = b2.2.1:=m1.vi.trans m2.vi.symm
  have B1:BndS b1 1048576:=BndS.same m1.symm (D.pg.bnd D.tg)
  refine Ok.grd rfl (Ok.grd rfl (Ok.bind (samePartK (a:=r1) (b:=r2) (s:=t.2.1) ?_ ?_ ?_ S1.ca S2.ca (S1.tl.1.trans S2.tl.1.symm) S1.tl.2 S2.tl.2 (S1.nx.trans S2.nx.symm) (S1.id.trans S2.id.symm) ?_ ?_ ?_ ?_ ?_) fun y hy=>?_))
  · rw [S1.gu,S2.gu]; exact m1.gu.trans m2.gu.symm
  · rw [S1.vi,S2.vi,hh,hv,← hd.1,vAt_same hd _ (Nat.le_refl _)]
  · rw [S1.he,S2.he,hh]
  · rw [S1.bo,S2.bo]; exact SmR.trans (R:=SmL) (fun _ _ _=>SmL.trans) m1.bo (SmR.symm (R:=SmL) (fun _ _=>SmL.symm) m2.bo)
  · rw [S1.ou,S2.ou]; exact SmR.trans (R:=SmO) (fun _ _ _=>SmO.trans) m1.ou (SmR.symm (R:=SmO) (fun _ _=>SmO.symm) m2.ou)
  · rw [S1.is,S2.is]; exact SmR.trans (R:=SmI) (fun _ _ _=>SmI.trans) m1.is (SmR.symm (R:=SmI) (fun _ _=>SmI.symm) m2.is)
  · have k:=S2.de
    rw [← hh] at k
    exact DevsAre.same hd S1.de k
  · refine S1.bnd D.fa B1 fun i hi hq=>?_
    have e:=m1.de.2 i hi
    have k:=(D.pg.de.2.1 i (by rw [← D.pg.de.1,← m1.de.1]; exact hi)).1 hq
    rw [e.1.1,e.2.1]
    exact ⟨k.1,k.2.1⟩
  rw [hy]
  refine Ok.grd rfl (Ok.grd (by rw [S1.nx]; simp) (Ok.grd (by rw [S1.id]; rfl) (Ok.bind (linesK D.tg.sh S1.ca) fun z hz=>Ok.grd (by rw [hz]; rfl) ?_)))
  refine Ok.bind (Q:=fun a=>a.1.1 = true) ?_ fun z hz=>Ok.grd hz (Ok.ret (by rw [S1.tl.2]; rfl))
  unfold g39
  exact Ok.bind (cacK (S1.ca.ca D.tg.sh)) fun z hz=>Ok.ret hz
 obtain ⟨⟨⟨a,⟨⟩⟩,⟨⟩⟩,e,rfl⟩:=key
 exact e
theorem plain:∀ x,wfIns tysOf x→∃ z,c8.F x = some ((true,()),z):=by
 rintro ⟨code,⟨⟩⟩ hw
 refine ⟨(),law code fun i hi=>?_⟩
 have k:=hw.1.2 i hi
 have e1:IntKind.u8.min = 0:=rfl
 have e2:IntKind.u8.max = 255:=rfl
 rw [← e1,← e2]
 exact k
end Go.VE.VFnForgets
