import Derived.Test.YtnjlpdagdedbaaaVFnPaddedLaws0
/- More plain laws of what laws.FnPadded calls. -/
set_option linter.unusedVariables false
set_option linter.unusedSimpArgs false
namespace Go.VE.VFnPadded
open Go.VE
abbrev Cur:Type:=L Int×(Int×(Int×Unit))
def Cw (c:Cur):Prop:=(c.1.len:Int)≤2 ^ 47 ∧ 0≤c.2.1 ∧ c.2.1≤c.1.len

theorem and255 (a:Int):0≤andOf .i64 a 255 ∧ andOf .i64 a 255≤255:=by
  unfold andOf
  generalize hx:BitVec.ofInt (IntKind.i64).bits a = x
  have h:(x &&&BitVec.ofInt (IntKind.i64).bits 255).toNat≤255:=by
    rw [BitVec.toNat_and]
    exact Nat.and_le_right
  generalize (x &&&BitVec.ofInt (IntKind.i64).bits 255).toNat = n at h
  have:IntKind.i64.wrap (n:Int) = n:=wI_id (by omega) (by omega)
  rw [this]; omega

theorem byte (c:Cur) (h:Cw c):∃ (x:Int) (c':Cur),g112d c = some ((x,()),(c',())) ∧ 0≤x ∧ x≤255 ∧ Cw c':=by
  obtain ⟨h1,h2,h3⟩:=h
  unfold g112d
  by_cases hi:c.2.1 < (c.1.len:Int)
  · rw [bif_t (by simpa using hi),bif_t (by simp; omega)]
    refine ⟨_,_,rfl,(and255 _).1,(and255 _).2,h1,?_,?_⟩
    · show 0≤wI (c.2.1 + 1)
      rw [wI_id (by omega) (by omega)]; omega
    · show wI (c.2.1 + 1)≤c.1.len
      rw [wI_id (by omega) (by omega)]; omega
  · rw [bif_f (by simpa using hi)]
    exact ⟨_,_,rfl,(and255 _).1,(and255 _).2,h1,h2,h3⟩

theorem below (c:Cur) (h:Cw c) (n:Int) (h1:1≤n) (h2:n≤256):∃ (x:Int) (c':Cur),g84d c n = some ((x,()),(c',())) ∧ 0≤x ∧ x < n ∧ Cw c':=by
  obtain ⟨x,c',e,x0,x1,hc⟩:=byte c h
  unfold g84d
  rw [bif_f (by simp; omega),bif_t (by simpa using h2),e]
  simp only [Option.bind_some]
  rw [bif_t (by simp; omega)]
  exact ⟨_,_,rfl,Int.tmod_nonneg _ x0,Int.tmod_lt_of_pos _ (by omega),hc⟩

theorem pick (c:Cur) (h:Cw c) (l:L Int) (h1:1≤l.len) (h2:l.len≤256):∃ (i:Nat) (c':Cur),g87dw c l = some ((l.get i,()),(c',(l,()))) ∧ i < l.len ∧ Cw c':=by
  obtain ⟨x,c',e,x0,x1,hc⟩:=below c h l.len (by omega) (by omega)
  unfold g87dw
  rw [e]
  simp only [Option.bind_some]
  rw [bif_t (by simp; omega)]
  exact ⟨x.toNat,_,rfl,by omega,hc⟩

theorem pickIn (c:Cur) (h:Cw c) (z:Int) (l:List Int) (h1:1≤l.length) (h2:l.length≤256):∃ (x:Int) (c':Cur),g87dw c (L.of z l) = some ((x,()),(c',(L.of z l,()))) ∧ x ∈ l ∧ Cw c':=by
  obtain ⟨i,c',e,hi,hc⟩:=pick c h (L.of z l) h1 h2
  refine ⟨_,c',e,?_,hc⟩
  show l.getD i z ∈ l
  have hi:i < l.length:=hi
  rw [List.getD_eq_getElem?_getD,List.getElem?_eq_getElem hi]
  simp

theorem once (c:Cur) (h:Cw c) (n:Int) (h1:1≤n) (h2:n≤256):∃ (b:Bool) (c':Cur),g86d c n = some ((b,()),(c',())) ∧ Cw c':=by
  obtain ⟨x,c',e,_,_,hc⟩:=below c h n h1 h2
  unfold g86d
  rw [e]
  exact ⟨_,_,rfl,hc⟩

theorem newCur (code:L Int) (h:code.len≤2 ^ 46):∃ c:Cur,g82 code = some ((c,()),()) ∧ Cw c:=by
  obtain ⟨d,e1,hh,e2⟩:=fixO_rel (step:=s82_L0) (fun a=>code.len - a.1.2.2.1.toNat)
    (fun a=>∃ (i:Nat) (k:Int),a = ((code,(k,((i:Int),()))),()) ∧ i≤code.len) (fun _ d=>∃ k:Int,d = .inl ((code,(k,())),()))
    (by
      rintro _ ⟨i,k,rfl,hi⟩
      show (∃ y,q82_L0 code k i = _ ∧ _) ∨ ∃ d,q82_L0 code k i = _ ∧ _
      unfold q82_L0
      by_cases h1:i < code.len
      · rw [bif_t (idx_lt h1)]
        by_cases h2:(i:Int) < 4000
        · rw [bif_t (by simpa using h2),bif_t (idx_in h1),wI_succ h1 (by omega)]
          exact .inl ⟨_,rfl,⟨i + 1,_,rfl,h1⟩,by simp; omega,fun d hd=>hd⟩
        · rw [bif_f (by simpa using h2)]
          exact .inr ⟨_,rfl,k,rfl⟩
      · rw [bif_f (by simp; omega)]
        exact .inr ⟨_,rfl,k,rfl⟩) ((code,((wI ((76076:Int) + (code.len:Int))),((0:Int),()))),()) ⟨0,_,rfl,Nat.zero_le _⟩
  subst e2
  unfold g82
  rw [e1]
  exact ⟨_,rfl,by show (code.len:Int)≤_; omega,Int.le_refl 0,by show (0:Int)≤_; omega⟩


theorem policyD (c:Cur) (h:Cw c):∃ (p:Int×(Int×Unit)) (c':Cur),g113d c = some ((p,()),(c',())) ∧ f162 p = true ∧ Cw c':=by
  obtain ⟨x,c1,e,x0,x1,hc⟩:=below c h 3 (by omega) (by omega)
  unfold g113d
  rw [e]
  simp only [Option.bind_some]
  by_cases hx:x = 1
  · subst hx
    rw [bif_t (by decide)]
    obtain ⟨y,c2,e2,hy,hc2⟩:=pickIn c1 hc (Ty.zero (.int .i64)) [0,1,2,3,100] (by decide) (by decide)
    rw [e2]
    refine ⟨(1,(y,())),c2,rfl,?_,hc2⟩
    simp only [List.mem_cons,List.not_mem_nil,or_false] at hy
    rcases hy with rfl | rfl | rfl | rfl | rfl <;> decide
  · rw [bif_f (by simpa using hx)]
    refine ⟨(x,(0,())),c1,rfl,?_,hc⟩
    have:x = 0 ∨ x = 2:=by omega
    rcases this with rfl | rfl <;> decide

theorem chanD (c:Cur) (h:Cw c) (n:Int) (h1:2≤n) (h2:n≤4):∃ (r:Ch) (c':Cur),g114d c n = some ((r,()),(c',())) ∧ (f141 r = true ∧ r.2.1 < n ∧ r.2.2.1 < n) ∧ Cw c':=by
  obtain ⟨k,c1,e1,k0,k1,hc1⟩:=below c h 2 (by omega) (by omega)
  obtain ⟨a,c2,e2,a0,a1,hc2⟩:=below c1 hc1 n (by omega) (by omega)
  have e3':wI (n - 1) = n - 1:=wI_id (by omega) (by omega)
  obtain ⟨b,c3,e3,b0,b1,hc3⟩:=below c2 hc2 (n - 1) (by omega) (by omega)
  have hw:wI (wI (a + 1) + b) = a + 1 + b:=by rw [wI_id (n:=a + 1) (by omega) (by omega),wI_id (by omega) (by omega)]
  have ht:0≤Int.tmod (a + 1 + b) n ∧ Int.tmod (a + 1 + b) n < n ∧ Int.tmod (a + 1 + b) n ≠ a:=by
    rw [Int.tmod_eq_emod_of_nonneg (by omega)]
    refine ⟨Int.emod_nonneg _ (by omega),Int.emod_lt_of_pos _ (by omega),?_⟩
    intro he
    have:a + 1 + b = n * ((a + 1 + b) / n) + a:=by have:=Int.mul_ediv_add_emod (a + 1 + b) n; omega
    have h3:(b + 1) = n * ((a + 1 + b) / n):=by omega
    have h4:(b + 1) % n = 0:=by rw [h3]; exact Int.mul_emod_right _ _
    rw [Int.emod_eq_of_lt (by omega) (by omega)] at h4
    omega
  have f60i:∀ x y z:Int,y≤x→x≤z→f60 x y z = true:=fun x y z p q=>by
    unfold f60; rw [bif_t (by simpa using p)]; simpa using q
  have hbad:∀ d:Int,((k = 0 ∧ d = 0) ∨ (k = 1 ∧ 1≤d ∧ d≤8))→f141 (k,(a,(Int.tmod (a + 1 + b) n,(d,())))) = true:=by
    intro d hd
    unfold f141
    rw [bif_f (by rw [f60i _ _ _ (by simpa using a0) (by show a≤5; omega)]; rfl),bif_f (by rw [f60i _ _ _ (by simpa using ht.1) (by show _≤(5:Int); simp only; omega)]; rfl),bif_f (by simp only [beq_eq_false_iff_ne,ne_eq]; exact fun q=>ht.2.2 q.symm)]
    rcases hd with ⟨rfl,rfl⟩ | ⟨rfl,d1,d2⟩
    · rfl
    · exact (bif_f (show ((1:Int) == 0) = false from rfl)).trans ((bif_t (show ((1:Int) == 1) = true from rfl)).trans (f60i _ _ _ d1 d2))
  unfold g114d
  rw [e1]; simp only [Option.bind_some]
  rw [e2]; simp only [Option.bind_some]
  rw [e3',e3]; simp only [Option.bind_some]
  rw [bif_t (by simp; omega),hw]
  by_cases hk:k = 1
  · subst hk
    rw [bif_t (by decide)]
    obtain ⟨d,c4,e4,d0,d1,hc4⟩:=below c3 hc3 4 (by omega) (by omega)
    obtain ⟨o,c5,e5,hc5⟩:=once c4 hc4 6 (by omega) (by omega)
    rw [e4]; simp only [Option.bind_some]
    rw [e5]; simp only [Option.bind_some]
    cases o with
    | true=>exact ⟨_,_,rfl,⟨hbad 8 (.inr ⟨rfl,by omega,by omega⟩),a1,ht.2.1⟩,hc5⟩
    | false =>
      refine ⟨_,_,rfl,⟨hbad _ (.inr ⟨rfl,?_,?_⟩),a1,ht.2.1⟩,hc5⟩
      · rw [wI_id (by omega) (by omega)]; omega
      · rw [wI_id (by omega) (by omega)]; omega
  · rw [bif_f (by simpa using hk)]
    exact ⟨_,_,rfl,⟨hbad 0 (.inl ⟨by omega,rfl⟩),a1,ht.2.1⟩,hc3⟩

def NM:L ByteArray:=L.of (Ty.zero .str) [(⟨#[97,108,112,104,97]⟩:ByteArray),(⟨#[98,101,116,97]⟩:ByteArray),(⟨#[103,97,109,109,97]⟩:ByteArray),(⟨#[100,101,108,116,97]⟩:ByteArray),(⟨#[101,112,115]⟩:ByteArray),(⟨#[122,101,116,97]⟩:ByteArray)]

theorem nmOk (s:ByteArray) (h1:1≤s.size) (h2:s.size≤8) (h:∀ k:Nat,k < s.size→97≤bt s k ∧ bt s k≤122):nm s = true:=by
  obtain ⟨b,e1,e2⟩:=end191 s h2
  have:b = true:=e2.mpr ⟨fun j j0 j1=>by have:=h j.toNat (by omega); rwa [Int.toNat_of_nonneg j0] at this,h1⟩
  subst this
  unfold nm
  have:g161 s = some ((true,()),()):=by
    unfold g161
    rw [bif_t (by simp; omega),e1]; rfl
  simp [this]

theorem nmNM (k:Nat) (h:k < 4):nm (NM.get k) = true:=by
  have:k = 0 ∨ k = 1 ∨ k = 2 ∨ k = 3:=by omega
  rcases this with rfl | rfl | rfl | rfl
  · exact nmOk _ (by decide) (by decide) (by decide +kernel)
  · exact nmOk _ (by decide) (by decide) (by decide +kernel)
  · exact nmOk _ (by decide) (by decide) (by decide +kernel)
  · exact nmOk _ (by decide) (by decide) (by decide +kernel)

theorem nmApart (k m:Nat) (h:k < m) (hm:m < 4):strEq (NM.get k) (NM.get m) = false:=by
  have:(k = 0 ∧ m = 1) ∨ (k = 0 ∧ m = 2) ∨ (k = 0 ∧ m = 3) ∨ (k = 1 ∧ m = 2) ∨ (k = 1 ∧ m = 3) ∨ (k = 2 ∧ m = 3):=by omega
  rcases this with ⟨rfl,rfl⟩ | ⟨rfl,rfl⟩ | ⟨rfl,rfl⟩ | ⟨rfl,rfl⟩ | ⟨rfl,rfl⟩ | ⟨rfl,rfl⟩ <;> decide +kernel

structure PartD (p:PR) (k:Nat):Prop where
  name:p.1 = NM.get k
  pol:f162 p.2.2.1 = true
  len:p.2.2.2.1.len = 2
  w0:(p.2.2.2.1.get 0).2.1 = 128 ∧ (p.2.2.2.1.get 0).2.2.1 = 5 ∧ 0≤(p.2.2.2.1.get 0).1 ∧ (p.2.2.2.1.get 0).1 % 4 = 0
  w1:(p.2.2.2.1.get 0).1 + 128≤(p.2.2.2.1.get 1).1 ∧ (p.2.2.2.1.get 1).1 % 4 = 0 ∧ 32≤(p.2.2.2.1.get 1).2.1 ∧ (p.2.2.2.1.get 1).2.1≤44 ∧ (p.2.2.2.1.get 1).2.1 % 4 = 0 ∧ (p.2.2.2.1.get 1).2.2.1 = 3
  ent:(p.2.2.2.1.get 0).1≤p.2.1 ∧ p.2.1≤(p.2.2.2.1.get 0).1 + 4 ∧ p.2.1 % 4 = 0

structure PartsD (x:L PR) (n:Nat) (at_:Int):Prop where
  len:x.len = n
  part:∀ k,k < n→PartD (x.get k) k ∧ ((x.get k).2.2.2.1.get 1).1 + ((x.get k).2.2.2.1.get 1).2.1≤at_
  ord:∀ k m,k < m→m < n→((x.get k).2.2.2.1.get 1).1 + ((x.get k).2.2.2.1.get 1).2.1≤((x.get m).2.2.2.1.get 0).1
  pos:0≤at_ ∧ at_ % 4 = 0 ∧ at_≤12 + 184 * n

theorem app_lo {α:Type} (x y:L α) {i:Nat} (h:i < x.len):(L.app x y).get i = x.get i:=by
  show (bif Nat.blt i x.len then _ else _) = _
  rw [show Nat.blt i x.len = true by simpa using h]; rfl
theorem app_hi {α:Type} (x:L α) (z v:α):(L.app x (L.of z [v])).get x.len = v:=by
  show (bif Nat.blt x.len x.len then _ else _) = _
  rw [show Nat.blt x.len x.len = false by rw [Bool.eq_false_iff]; simp]
  show [v].getD (x.len - x.len) z = v
  rw [Nat.sub_self]; rfl

theorem PartsD.add {x:L PR} {n:Nat} {a a':Int} (h:PartsD x n a) {z p:PR} (hp:PartD p n) (h0:a = (p.2.2.2.1.get 0).1) (h1:(p.2.2.2.1.get 1).1 + (p.2.2.2.1.get 1).2.1≤a') (h2:a' % 4 = 0) (h3:a'≤a + 184):PartsD (L.app x (L.of z [p])) (n + 1) a':=by
  have hlen:=h.len
  have hi:(L.app x (L.of z [p])).get n = p:=by rw [← hlen]; exact app_hi x z p
  have lo:∀ k,k < n→(L.app x (L.of z [p])).get k = x.get k:=fun k hk=>app_lo _ _ (by omega)
  have hw0:=hp.w0
  have hw1:=hp.w1
  refine ⟨by show x.len + 1 = n + 1; omega,fun k hk=>?_,fun k m hkm hm=>?_,?_⟩
  · by_cases e:k = n
    · subst e; rw [hi]; exact ⟨hp,h1⟩
    · rw [lo k (by omega)]
      have:=h.part k (by omega)
      exact ⟨this.1,by omega⟩
  · by_cases e:m = n
    · subst e
      rw [hi,lo k hkm]
      have:=(h.part k hkm).2
      omega
    · rw [lo k (by omega),lo m (by omega)]
      exact h.ord k m hkm (by omega)
  · have:=h.pos
    refine ⟨by omega,h2,?_⟩
    have:((n + 1:Nat):Int) = n + 1:=by simp
    rw [this]; omega


section
variable (z0 z1 z2 z3 z4 z5 z6 z7 z8 z9 z10 z11 z12 z13 z14:Int) (z15:L PR) (z16:L Int) (z17:L Ch) (z18:L Sl) (m s1 s2 s3 tl c1 c2 c3 c4 c5 c6 c7 pd gd mj:Int) (dv:L Int) (ch:L Ch) (sl:L Sl)

theorem partsLoop (n:Nat) (h1:2≤n) (h2:n≤4) (c:Cur) (hc:Cw c) (a0:Int) (ha:0≤a0 ∧ a0≤12 ∧ a0 % 4 = 0) (x0:L PR) (hx0:x0.len = 0):∃ (a:Int) (x:L PR) (c':Cur),
    fixO s88rd_L0 (((),((n:Int),((),((),(a0,((0:Int),())))))),(c,((z0,(z1,(z2,(z3,(z4,(z5,(z6,(z7,(z8,(z9,(z10,(z11,(z12,(z13,(z14,(z15,(z16,(z17,(z18,()))))))))))))))))))),((m,(s1,(s2,(s3,(tl,(c1,(c2,(c3,(c4,(c5,(c6,(c7,(pd,(gd,(mj,(x0,(dv,(ch,(sl,()))))))))))))))))))),())))) = some (.inl (((),((n:Int),((),((),(a,()))))),(c',((z0,(z1,(z2,(z3,(z4,(z5,(z6,(z7,(z8,(z9,(z10,(z11,(z12,(z13,(z14,((),((),((),((),()))))))))))))))))))),((m,(s1,(s2,(s3,(tl,(c1,(c2,(c3,(c4,(c5,(c6,(c7,(pd,(gd,(mj,((),((),((),((),()))))))))))))))))))),(z15,(z16,(z17,(z18,(x,(dv,(ch,(sl,()))))))))))))) ∧ Cw c' ∧ PartsD x n a:=by
  obtain ⟨d,e1,a,x,c',rfl,e2,e3⟩:=fixO_rel (step:=s88rd_L0) (fun q=>n - q.1.2.2.2.2.2.1.toNat)
    (fun q=>∃ (i:Nat) (a:Int) (x:L PR) (c:Cur),q = (((),((n:Int),((),((),(a,((i:Int),())))))),(c,((z0,(z1,(z2,(z3,(z4,(z5,(z6,(z7,(z8,(z9,(z10,(z11,(z12,(z13,(z14,(z15,(z16,(z17,(z18,()))))))))))))))))))),((m,(s1,(s2,(s3,(tl,(c1,(c2,(c3,(c4,(c5,(c6,(c7,(pd,(gd,(mj,(x,(dv,(ch,(sl,()))))))))))))))))))),())))) ∧ i≤n ∧ Cw c ∧ PartsD x i a)
    (fun _ d=>∃ (a:Int) (x:L PR) (c':Cur),d = .inl (((),((n:Int),((),((),(a,()))))),(c',((z0,(z1,(z2,(z3,(z4,(z5,(z6,(z7,(z8,(z9,(z10,(z11,(z12,(z13,(z14,((),((),((),((),()))))))))))))))))))),((m,(s1,(s2,(s3,(tl,(c1,(c2,(c3,(c4,(c5,(c6,(c7,(pd,(gd,(mj,((),((),((),((),()))))))))))))))))))),(z15,(z16,(z17,(z18,(x,(dv,(ch,(sl,())))))))))))) ∧ Cw c' ∧ PartsD x n a)
    (by
      rintro _ ⟨i,a,x,c,rfl,hi,hc,hp⟩
      simp only [s88rd_L0]
      unfold q88rd_L0
      by_cases hlt:i < n
      · rw [bif_t (by simpa using hlt),bif_t (by simp; omega)]
        obtain ⟨po,k1,q1,po1,hk1⟩:=policyD c hc
        obtain ⟨b1,k2,q2,b10,b11,hk2⟩:=below k1 hk1 2 (by omega) (by omega)
        obtain ⟨b2,k3,q3,b20,b21,hk3⟩:=below k2 hk2 4 (by omega) (by omega)
        obtain ⟨b3,k4,q4,b30,b31,hk4⟩:=below k3 hk3 2 (by omega) (by omega)
        obtain ⟨b4,k5,q5,b40,b41,hk5⟩:=below k4 hk4 3 (by omega) (by omega)
        have hpos:=hp.pos
        have hl:=hp.len
        have hil:(12:Int) + 184 * i≤748:=by omega
        simp only [q1,q2,q3,q4,q5,Option.bind_some]
        have w4:∀ b:Int,0≤b→b≤4→wI (4 * b) = 4 * b:=fun b p q=>wI_id (by omega) (by omega)
        rw [w4 b1 b10 (by omega),w4 b2 b20 (by omega),w4 b3 b30 (by omega),w4 b4 b40 (by omega)]
        rw [wI_id (n:=a + 4 * b3) (by omega) (by omega),wI_id (n:=a + 128) (by omega) (by omega),wI_id (n:=a + 128 + 4 * b1) (by omega) (by omega),wI_id (n:=32 + 4 * b2) (by omega) (by omega),
          wI_id (n:=a + 128 + 4 * b1 + (32 + 4 * b2)) (by omega) (by omega),wI_id (n:=a + 128 + 4 * b1 + (32 + 4 * b2) + 4 * b4) (by omega) (by omega),wI_succ hlt (by omega)]
        rw [bif_t (by
          have:most = 4294967296:=by decide
          simp only [decide_eq_true_eq]
          show x.len + 1≤most
          omega)]
        refine .inl ⟨_,rfl,⟨i + 1,_,_,k5,rfl,hlt,hk5,?_⟩,?_,fun d hd=>hd⟩
        · refine hp.add ⟨?_,po1,rfl,⟨rfl,rfl,hpos.1,hpos.2.1⟩,⟨?_,?_,?_,?_,?_,rfl⟩,⟨?_,?_,?_⟩⟩ rfl ?_ ?_ ?_
          · show L.get NM (((i:Nat):Int)).toNat = NM.get i
            rw [Int.toNat_natCast]
          · show a + 128≤a + 128 + 4 * b1; omega
          · show (a + 128 + 4 * b1) % 4 = 0; omega
          · show 32≤32 + 4 * b2; omega
          · show 32 + 4 * b2≤44; omega
          · show (32 + 4 * b2) % 4 = 0; omega
          · show a≤a + 4 * b3; omega
          · show a + 4 * b3≤a + 4; omega
          · show (a + 4 * b3) % 4 = 0; omega
          · show a + 128 + 4 * b1 + (32 + 4 * b2)≤a + 128 + 4 * b1 + (32 + 4 * b2) + 4 * b4; omega
          · omega
          · omega
        · simp only [Int.toNat_natCast]; omega
      · have:i = n:=by omega
        subst this
        rw [bif_f (by simp)]
        exact .inr ⟨_,rfl,a,x,c,rfl,hc,hp⟩) (((),((n:Int),((),((),(a0,((0:Int),())))))),(c,((z0,(z1,(z2,(z3,(z4,(z5,(z6,(z7,(z8,(z9,(z10,(z11,(z12,(z13,(z14,(z15,(z16,(z17,(z18,()))))))))))))))))))),((m,(s1,(s2,(s3,(tl,(c1,(c2,(c3,(c4,(c5,(c6,(c7,(pd,(gd,(mj,(x0,(dv,(ch,(sl,()))))))))))))))))))),()))))
    ⟨0,a0,x0,c,rfl,Nat.zero_le _,hc,⟨hx0,fun k hk=>absurd hk (Nat.not_lt_zero _),fun k m _ hm=>absurd hm (Nat.not_lt_zero _),ha.1,ha.2.2,by simpa using ha.2.1⟩⟩
  exact ⟨a,x,c',e1,e2,e3⟩
end


theorem app_all {α:Type} {x:L α} {n:Nat} {P:α→Prop} (hl:x.len = n) (h:∀ k,k < n→P (x.get k)) (z v:α) (hv:P v):(L.app x (L.of z [v])).len = n + 1 ∧ ∀ k,k < n + 1→P ((L.app x (L.of z [v])).get k):=by
  refine ⟨by show x.len + 1 = n + 1; omega,fun k hk=>?_⟩
  by_cases e:k = x.len
  · subst e; rw [app_hi]; exact hv
  · rw [app_lo _ _ (by omega)]; exact h k (by omega)
theorem most_le {n:Nat} (h:n≤100):decide (n≤most) = true:=by
  have:most = 4294967296:=by decide
  simp only [decide_eq_true_eq]; omega
section
variable (z0 z1 z2 z3 z4 z5 z6 z7 z8 z9 z10 z11 z12 z13 z14:Int) (z15:L PR) (z16:L Int) (z17:L Ch) (z18:L Sl) (m s1 s2 s3 tl c1 c2 c3 c4 c5 c6 c7 pd gd mj:Int) (x:L PR)

theorem devsLoop (ch:L Ch) (sl:L Sl) (n:Nat) (h1:2≤n) (h2:n≤4) (c:Cur) (hc:Cw c) (d0:L Int) (hd0:d0.len = 0):∃ (dv:L Int) (c':Cur),
    fixO s88rd_L2 (((),((n:Int),((),((),((0:Int),()))))),(c,((z0,(z1,(z2,(z3,(z4,(z5,(z6,(z7,(z8,(z9,(z10,(z11,(z12,(z13,(z14,((),((),((),((),()))))))))))))))))))),((m,(s1,(s2,(s3,(tl,(c1,(c2,(c3,(c4,(c5,(c6,(c7,(pd,(gd,(mj,((),((),((),((),()))))))))))))))))))),(z15,(z16,(z17,(z18,(x,(d0,(ch,(sl,())))))))))))) = some (.inl (((),((n:Int),((),((),())))),(c',((z0,(z1,(z2,(z3,(z4,(z5,(z6,(z7,(z8,(z9,(z10,(z11,(z12,(z13,(z14,((),((),((),((),()))))))))))))))))))),((m,(s1,(s2,(s3,(tl,(c1,(c2,(c3,(c4,(c5,(c6,(c7,(pd,(gd,(mj,((),((),((),((),()))))))))))))))))))),(z15,(z16,(z17,(z18,(x,(dv,(ch,(sl,()))))))))))))) ∧ Cw c' ∧ dv.len≤3 ∧ ∀ k,k < dv.len→0≤dv.get k ∧ dv.get k < n:=by
  obtain ⟨d,e1,dv,c',rfl,e2,e3⟩:=fixO_rel (step:=s88rd_L2) (fun q=>5 - q.1.2.2.2.2.1.toNat)
    (fun q=>∃ (i:Nat) (dv:L Int) (c:Cur),q = (((),((n:Int),((),((),((i:Int),()))))),(c,((z0,(z1,(z2,(z3,(z4,(z5,(z6,(z7,(z8,(z9,(z10,(z11,(z12,(z13,(z14,((),((),((),((),()))))))))))))))))))),((m,(s1,(s2,(s3,(tl,(c1,(c2,(c3,(c4,(c5,(c6,(c7,(pd,(gd,(mj,((),((),((),((),()))))))))))))))))))),(z15,(z16,(z17,(z18,(x,(dv,(ch,(sl,())))))))))))) ∧ i≤3 ∧ Cw c ∧ dv.len = i ∧ ∀ k,k < i→0≤dv.get k ∧ dv.get k < n)
    (fun _ d=>∃ (dv:L Int) (c':Cur),d = .inl (((),((n:Int),((),((),())))),(c',((z0,(z1,(z2,(z3,(z4,(z5,(z6,(z7,(z8,(z9,(z10,(z11,(z12,(z13,(z14,((),((),((),((),()))))))))))))))))))),((m,(s1,(s2,(s3,(tl,(c1,(c2,(c3,(c4,(c5,(c6,(c7,(pd,(gd,(mj,((),((),((),((),()))))))))))))))))))),(z15,(z16,(z17,(z18,(x,(dv,(ch,(sl,())))))))))))) ∧ Cw c' ∧ dv.len≤3 ∧ ∀ k,k < dv.len→0≤dv.get k ∧ dv.get k < n)
    (by
      rintro _ ⟨i,dv,c,rfl,hi,hc,hl,hp⟩
      simp only [s88rd_L2]
      unfold q88rd_L2
      obtain ⟨b,k1,q1,b0,b1,hk1⟩:=below c hc 4 (by omega) (by omega)
      simp only [q1,Option.bind_some]
      by_cases hlt:(i:Int) < b
      · rw [bif_t (by simpa using hlt)]
        obtain ⟨y,k2,q2,y0,y1,hk2⟩:=below k1 hk1 n (by omega) (by omega)
        simp only [q2,Option.bind_some]
        rw [bif_t (by show decide (dv.len + 1≤most) = true; exact most_le (by omega)),wI_succ (n:=10) (by omega) (by omega)]
        have A:=app_all (P:=fun v:Int=>0≤v ∧ v < n) hl hp (Ty.zero (.int .i64)) y ⟨y0,y1⟩
        exact .inl ⟨_,rfl,⟨i + 1,_,k2,rfl,by omega,hk2,A.1,A.2⟩,by simp only [Int.toNat_natCast]; omega,fun d hd=>hd⟩
      · rw [bif_f (by simpa using hlt)]
        exact .inr ⟨_,rfl,dv,k1,rfl,hk1,by omega,by rw [hl]; exact hp⟩) (((),((n:Int),((),((),((0:Int),()))))),(c,((z0,(z1,(z2,(z3,(z4,(z5,(z6,(z7,(z8,(z9,(z10,(z11,(z12,(z13,(z14,((),((),((),((),()))))))))))))))))))),((m,(s1,(s2,(s3,(tl,(c1,(c2,(c3,(c4,(c5,(c6,(c7,(pd,(gd,(mj,((),((),((),((),()))))))))))))))))))),(z15,(z16,(z17,(z18,(x,(d0,(ch,(sl,()))))))))))))
    ⟨0,d0,c,rfl,by omega,hc,hd0,fun k hk=>absurd hk (Nat.not_lt_zero _)⟩
  exact ⟨dv,c',e1,e2,e3⟩

theorem chansLoop (dv:L Int) (sl:L Sl) (n:Nat) (h1:2≤n) (h2:n≤4) (c:Cur) (hc:Cw c) (d0:L Ch) (hd0:d0.len = 0):∃ (ch:L Ch) (c':Cur),
    fixO s88rd_L4 (((),((n:Int),((),((),((0:Int),()))))),(c,((z0,(z1,(z2,(z3,(z4,(z5,(z6,(z7,(z8,(z9,(z10,(z11,(z12,(z13,(z14,((),((),((),((),()))))))))))))))))))),((m,(s1,(s2,(s3,(tl,(c1,(c2,(c3,(c4,(c5,(c6,(c7,(pd,(gd,(mj,((),((),((),((),()))))))))))))))))))),(z15,(z16,(z17,(z18,(x,(dv,(d0,(sl,())))))))))))) = some (.inl (((),((n:Int),((),((),())))),(c',((z0,(z1,(z2,(z3,(z4,(z5,(z6,(z7,(z8,(z9,(z10,(z11,(z12,(z13,(z14,((),((),((),((),()))))))))))))))))))),((m,(s1,(s2,(s3,(tl,(c1,(c2,(c3,(c4,(c5,(c6,(c7,(pd,(gd,(mj,((),((),((),((),()))))))))))))))))))),(z15,(z16,(z17,(z18,(x,(dv,(ch,(sl,()))))))))))))) ∧ Cw c' ∧ ch.len≤4 ∧ ∀ k,k < ch.len→f141 (ch.get k) = true ∧ (ch.get k).2.1 < n ∧ (ch.get k).2.2.1 < n:=by
  obtain ⟨d,e1,ch,c',rfl,e2,e3⟩:=fixO_rel (step:=s88rd_L4) (fun q=>6 - q.1.2.2.2.2.1.toNat)
    (fun q=>∃ (i:Nat) (ch:L Ch) (c:Cur),q = (((),((n:Int),((),((),((i:Int),()))))),(c,((z0,(z1,(z2,(z3,(z4,(z5,(z6,(z7,(z8,(z9,(z10,(z11,(z12,(z13,(z14,((),((),((),((),()))))))))))))))))))),((m,(s1,(s2,(s3,(tl,(c1,(c2,(c3,(c4,(c5,(c6,(c7,(pd,(gd,(mj,((),((),((),((),()))))))))))))))))))),(z15,(z16,(z17,(z18,(x,(dv,(ch,(sl,())))))))))))) ∧ i≤4 ∧ Cw c ∧ ch.len = i ∧ ∀ k,k < i→f141 (ch.get k) = true ∧ (ch.get k).2.1 < n ∧ (ch.get k).2.2.1 < n)
    (fun _ d=>∃ (ch:L Ch) (c':Cur),d = .inl (((),((n:Int),((),((),())))),(c',((z0,(z1,(z2,(z3,(z4,(z5,(z6,(z7,(z8,(z9,(z10,(z11,(z12,(z13,(z14,((),((),((),((),()))))))))))))))))))),((m,(s1,(s2,(s3,(tl,(c1,(c2,(c3,(c4,(c5,(c6,(c7,(pd,(gd,(mj,((),((),((),((),()))))))))))))))))))),(z15,(z16,(z17,(z18,(x,(dv,(ch,(sl,())))))))))))) ∧ Cw c' ∧ ch.len≤4 ∧ ∀ k,k < ch.len→f141 (ch.get k) = true ∧ (ch.get k).2.1 < n ∧ (ch.get k).2.2.1 < n)
    (by
      rintro _ ⟨i,ch,c,rfl,hi,hc,hl,hp⟩
      simp only [s88rd_L4]
      unfold q88rd_L4
      obtain ⟨b,k1,q1,b0,b1,hk1⟩:=below c hc 5 (by omega) (by omega)
      simp only [q1,Option.bind_some]
      by_cases hlt:(i:Int) < b
      · rw [bif_t (by simpa using hlt)]
        obtain ⟨y,k2,q2,y1,hk2⟩:=chanD k1 hk1 n (by omega) (by omega)
        simp only [q2,Option.bind_some]
        rw [bif_t (by show decide (ch.len + 1≤most) = true; exact most_le (by omega)),wI_succ (n:=10) (by omega) (by omega)]
        have A:=app_all (P:=fun v:Ch=>f141 v = true ∧ v.2.1 < n ∧ v.2.2.1 < n) hl hp (Ty.zero (.pair (.int .i64) (.pair (.int .i64) (.pair (.int .i64) (.pair (.int .i64) .unit))))) y y1
        exact .inl ⟨_,rfl,⟨i + 1,_,k2,rfl,by omega,hk2,A.1,A.2⟩,by simp only [Int.toNat_natCast]; omega,fun d hd=>hd⟩
      · rw [bif_f (by simpa using hlt)]
        exact .inr ⟨_,rfl,ch,k1,rfl,hk1,by omega,by rw [hl]; exact hp⟩) (((),((n:Int),((),((),((0:Int),()))))),(c,((z0,(z1,(z2,(z3,(z4,(z5,(z6,(z7,(z8,(z9,(z10,(z11,(z12,(z13,(z14,((),((),((),((),()))))))))))))))))))),((m,(s1,(s2,(s3,(tl,(c1,(c2,(c3,(c4,(c5,(c6,(c7,(pd,(gd,(mj,((),((),((),((),()))))))))))))))))))),(z15,(z16,(z17,(z18,(x,(dv,(d0,(sl,()))))))))))))
    ⟨0,d0,c,rfl,by omega,hc,hd0,fun k hk=>absurd hk (Nat.not_lt_zero _)⟩
  exact ⟨ch,c',e1,e2,e3⟩
end

structure SlotsD (sl:L Sl) (i:Nat) (n pg st:Int):Prop where
  len:sl.len = i
  row:∀ k,k < i→0≤(sl.get k).1 ∧ (sl.get k).1 < n ∧ pg < (sl.get k).2.2.1 ∧ (sl.get k).2.2.1≤pg + 90 ∧ 0≤(sl.get k).2.1 ∧ (sl.get k).2.1 + (sl.get k).2.2.1≤st
  ord:∀ k m,k < m→m < i→(sl.get k).2.1 + (sl.get k).2.2.1≤(sl.get m).2.1
  low:0≤st
  top:st≤5 + i * 393

theorem SlotsD.add {sl:L Sl} {i:Nat} {n pg st st':Int} (h:SlotsD sl i n pg st) (hpg:0≤pg ∧ pg≤300) {z v:Sl} (h1:0≤v.1 ∧ v.1 < n) (h2:pg < v.2.2.1 ∧ v.2.2.1≤pg + 90) (h3:v.2.1 = st) (h4:v.2.1 + v.2.2.1≤st' ∧ st'≤v.2.1 + v.2.2.1 + 3):SlotsD (L.app sl (L.of z [v])) (i + 1) n pg st':=by
  have hlen:=h.len
  have hlow:=h.low
  have htop:=h.top
  have hi:(L.app sl (L.of z [v])).get i = v:=by rw [← hlen]; exact app_hi sl z v
  have lo:∀ k,k < i→(L.app sl (L.of z [v])).get k = sl.get k:=fun k hk=>app_lo _ _ (by omega)
  refine ⟨by show sl.len + 1 = i + 1; omega,fun k hk=>?_,fun k m hkm hm=>?_,by omega,?_⟩
  · by_cases e:k = i
    · subst e; rw [hi]; omega
    · rw [lo k (by omega)]
      have:=h.row k (by omega)
      omega
  · by_cases e:m = i
    · subst e
      rw [hi,lo k hkm]
      have:=h.row k hkm
      omega
    · rw [lo k (by omega),lo m (by omega)]
      exact h.ord k m hkm (by omega)
  · have:((i + 1:Nat):Int) = i + 1:=by simp
    rw [this]; omega

section
variable (z0 z1 z2 z3 z4 z5 z6 z7 z8 z9 z10 z11 z12 z13 z14:Int) (z15:L PR) (z16:L Int) (z17:L Ch) (z18:L Sl) (m s1 s2 s3 tl c1 c2 c3 c4 c5 c6 c7 pd gd mj:Int) (x:L PR)
theorem slotsLoopD (dv:L Int) (ch:L Ch) (hpd:0≤pd ∧ pd≤200) (hgd:0≤gd ∧ gd≤99) (n:Nat) (h1:2≤n) (h2:n≤4) (c:Cur) (hc:Cw c) (a0:Int) (ha:0≤a0 ∧ a0≤5) (d0:L Sl) (hd0:d0.len = 0):∃ (sl:L Sl) (i:Nat) (st:Int) (c':Cur),
    fixO s88rd_L6 (((),((n:Int),((),((),(a0,((0:Int),())))))),(c,((z0,(z1,(z2,(z3,(z4,(z5,(z6,(z7,(z8,(z9,(z10,(z11,(z12,(z13,(z14,((),((),((),((),()))))))))))))))))))),((m,(s1,(s2,(s3,(tl,(c1,(c2,(c3,(c4,(c5,(c6,(c7,(pd,(gd,(mj,((),((),((),((),()))))))))))))))))))),(z15,(z16,(z17,(z18,(x,(dv,(ch,(d0,())))))))))))) = some (.inl (((),((),((),()))),(c',((z0,(z1,(z2,(z3,(z4,(z5,(z6,(z7,(z8,(z9,(z10,(z11,(z12,(z13,(z14,((),((),((),((),()))))))))))))))))))),((m,(s1,(s2,(s3,(tl,(c1,(c2,(c3,(c4,(c5,(c6,(c7,(pd,(gd,(mj,((),((),((),((),()))))))))))))))))))),(z15,(z16,(z17,(z18,(x,(dv,(ch,(sl,()))))))))))))) ∧ Cw c' ∧ n≤i ∧ i≤6 ∧ SlotsD sl i n (pd + gd) st:=by
  obtain ⟨d,e1,sl,i,st,c',rfl,e2,e3⟩:=fixO_rel (step:=s88rd_L6) (fun q=>8 - q.1.2.2.2.2.2.1.toNat)
    (fun q=>∃ (i:Nat) (st:Int) (sl:L Sl) (c:Cur),q = (((),((n:Int),((),((),(st,((i:Int),())))))),(c,((z0,(z1,(z2,(z3,(z4,(z5,(z6,(z7,(z8,(z9,(z10,(z11,(z12,(z13,(z14,((),((),((),((),()))))))))))))))))))),((m,(s1,(s2,(s3,(tl,(c1,(c2,(c3,(c4,(c5,(c6,(c7,(pd,(gd,(mj,((),((),((),((),()))))))))))))))))))),(z15,(z16,(z17,(z18,(x,(dv,(ch,(sl,())))))))))))) ∧ i≤n + 2 ∧ Cw c ∧ SlotsD sl i n (pd + gd) st)
    (fun _ d=>∃ (sl:L Sl) (i:Nat) (st:Int) (c':Cur),d = .inl (((),((),((),()))),(c',((z0,(z1,(z2,(z3,(z4,(z5,(z6,(z7,(z8,(z9,(z10,(z11,(z12,(z13,(z14,((),((),((),((),()))))))))))))))))))),((m,(s1,(s2,(s3,(tl,(c1,(c2,(c3,(c4,(c5,(c6,(c7,(pd,(gd,(mj,((),((),((),((),()))))))))))))))))))),(z15,(z16,(z17,(z18,(x,(dv,(ch,(sl,())))))))))))) ∧ Cw c' ∧ n≤i ∧ i≤6 ∧ SlotsD sl i n (pd + gd) st)
    (by
      rintro _ ⟨i,st,sl,c,rfl,hi,hc,hp⟩
      simp only [s88rd_L6]
      unfold q88rd_L6
      obtain ⟨b,k1,q1,b0,b1,hk1⟩:=below c hc 3 (by omega) (by omega)
      simp only [q1,Option.bind_some]
      rw [wI_id (n:=(n:Int) + b) (by omega) (by omega)]
      by_cases hlt:(i:Int) < n + b
      · rw [bif_t (by simpa using hlt),bif_t (by simp; omega)]
        obtain ⟨y,k2,q2,y0,y1,hk2⟩:=below k1 hk1 90 (by omega) (by omega)
        obtain ⟨o,k3,q3,hk3⟩:=once k2 hk2 5 (by omega) (by omega)
        simp only [q2,q3,Option.bind_some]
        have hlow:=hp.low
        have htop:=hp.top
        have hl:=hp.len
        have hmul:(i:Int) * 393≤2358:=by omega
        rw [wI_id (n:=pd + gd) (by omega) (by omega),wI_id (n:=pd + gd + 1) (by omega) (by omega),wI_id (n:=pd + gd + 1 + y) (by omega) (by omega),wI_id (n:=st + (pd + gd + 1 + y)) (by omega) (by omega),wI_succ (n:=10) (by omega) (by omega)]
        have hb:decide (sl.len + 1≤most) = true:=most_le (by omega)
        cases o with
        | true =>
          obtain ⟨w,k4,q4,w0,w1,hk4⟩:=below k3 hk3 n (by omega) (by omega)
          obtain ⟨v,k5,q5,v0,hk5⟩:=pickIn k4 hk4 (Ty.zero (.int .i64)) [0,0,3] (by decide) (by decide)
          have v1:0≤v ∧ v≤3:=by
            simp only [List.mem_cons,List.not_mem_nil,or_false] at v0
            omega
          rw [bif_t rfl]
          simp only [q4,Option.bind_some]
          refine .inl ⟨_,(bif_t (show decide (sl.len + 1≤most) = true from hb)).trans (by simp only [q5,Option.bind_some]; rfl),⟨i + 1,wI (st + (pd + gd + 1 + y) + v),_,k5,rfl,by omega,hk5,?_⟩,?_,fun d hd=>hd⟩
          · rw [wI_id (by omega) (by omega)]
            exact hp.add (by omega) ⟨w0,w1⟩ ⟨by show _ < pd + gd + 1 + y; omega,by show pd + gd + 1 + y≤_; omega⟩ rfl ⟨by show st + (pd + gd + 1 + y)≤_; omega,by show _≤st + (pd + gd + 1 + y) + 3; omega⟩
          · simp only [Int.toNat_natCast]; omega
        | false =>
          obtain ⟨v,k5,q5,v0,hk5⟩:=pickIn k3 hk3 (Ty.zero (.int .i64)) [0,0,3] (by decide) (by decide)
          have v1:0≤v ∧ v≤3:=by
            simp only [List.mem_cons,List.not_mem_nil,or_false] at v0
            omega
          rw [bif_f rfl]
          refine .inl ⟨_,(bif_t (show decide (sl.len + 1≤most) = true from hb)).trans (by simp only [q5,Option.bind_some]; rfl),⟨i + 1,wI (st + (pd + gd + 1 + y) + v),_,k5,rfl,by omega,hk5,?_⟩,?_,fun d hd=>hd⟩
          · rw [wI_id (by omega) (by omega)]
            refine hp.add (by omega) ⟨?_,?_⟩ ⟨by show _ < pd + gd + 1 + y; omega,by show pd + gd + 1 + y≤_; omega⟩ rfl ⟨by show st + (pd + gd + 1 + y)≤_; omega,by show _≤st + (pd + gd + 1 + y) + 3; omega⟩
            · show 0≤Int.tmod (i:Int) n; exact Int.tmod_nonneg _ (by omega)
            · show Int.tmod (i:Int) n < n; exact Int.tmod_lt_of_pos _ (by omega)
          · simp only [Int.toNat_natCast]; omega
      · rw [bif_f (by simpa using hlt)]
        exact .inr ⟨_,rfl,sl,i,st,k1,rfl,hk1,by omega,by omega,hp⟩) (((),((n:Int),((),((),(a0,((0:Int),())))))),(c,((z0,(z1,(z2,(z3,(z4,(z5,(z6,(z7,(z8,(z9,(z10,(z11,(z12,(z13,(z14,((),((),((),((),()))))))))))))))))))),((m,(s1,(s2,(s3,(tl,(c1,(c2,(c3,(c4,(c5,(c6,(c7,(pd,(gd,(mj,((),((),((),((),()))))))))))))))))))),(z15,(z16,(z17,(z18,(x,(dv,(ch,(d0,()))))))))))))
    ⟨0,a0,d0,c,rfl,by omega,hc,⟨hd0,fun k hk=>absurd hk (Nat.not_lt_zero _),fun k m _ hm=>absurd hm (Nat.not_lt_zero _),ha.1,by simpa using ha.2⟩⟩
  exact ⟨sl,i,st,c',e1,e2,e3⟩
end


structure CostD (c:Co):Prop where
  b:1≤c.1 ∧ c.1≤2
  mul:0≤c.2.1 ∧ c.2.1≤3
  mem:0≤c.2.2.1 ∧ c.2.2.1≤2
  miss:0≤c.2.2.2.1 ∧ c.2.2.2.1≤5
  walk:0≤c.2.2.2.2.1 ∧ c.2.2.2.2.1≤3
  trap:0≤c.2.2.2.2.2.1 ∧ c.2.2.2.2.2.1≤2
  line:0≤c.2.2.2.2.2.2.1 ∧ c.2.2.2.2.2.2.1≤2

theorem f60_of {x y z:Int} (p:y≤x) (q:x≤z):f60 x y z = true:=by
  unfold f60; rw [bif_t (by simpa using p)]; simpa using q
theorem f61_of {x y z:Int} (p:y≤x) (q:x≤z):f61 x y z = true:=f60_of p q

theorem CostD.ok {c:Co} (h:CostD c):f138 c = true:=by
  obtain ⟨h1,h2,h3,h4,h5,h6,h7⟩:=h
  unfold f138
  rw [f60_of h1.1 (by omega),f60_of h2.1 (by omega),f60_of h3.1 (by omega),f60_of h4.1 (by omega),f60_of h5.1 (by omega),f60_of h6.1 (by omega),f60_of h7.1 (by omega)]
  rfl
theorem CostD.ok' {c:Co} (h:CostD c):f119 c = true:=by
  obtain ⟨h1,h2,h3,h4,h5,h6,h7⟩:=h
  unfold f119
  rw [f61_of h1.1 (by omega),f61_of h2.1 (by omega),f61_of h3.1 (by omega),f61_of h4.1 (by omega),f61_of h5.1 (by omega),f61_of h6.1 (by omega),f61_of h7.1 (by omega)]
  rfl

theorem CostD.op {c:Co} (h:CostD c) (k:Int):1≤f167 c k ∧ f167 c k≤5:=by
  obtain ⟨h1,h2,h3,h4,h5,h6,h7⟩:=h
  unfold f167
  have w1:wI (c.1 + c.2.1) = c.1 + c.2.1:=wI_id (by omega) (by omega)
  have w2:wI (c.1 + c.2.2.1) = c.1 + c.2.2.1:=wI_id (by omega) (by omega)
  have w3:wI (c.1 + c.2.2.2.2.2.1) = c.1 + c.2.2.2.2.2.1:=wI_id (by omega) (by omega)
  rw [w1,w2,w3]
  cases k == 9 <;> cases k == 10 <;> cases f61 k 15 18 <;> cases decide (k ≥ 25) <;> simp only [cond_true,cond_false] <;> omega

theorem worstCost {c:Co} (h:CostD c):∃ n:Int,g115 c = some ((n,()),()) ∧ g146 c = some ((n,()),()) ∧ 1≤n ∧ n≤60:=by
  obtain ⟨n,e1,e2⟩:=worst h.ok
  refine ⟨n,e1,e2,?_⟩
  obtain ⟨d,q1,m,rfl,q2⟩:=fixO_rel (step:=s146_L0) (fun a=>33 - a.1.2.2.1.toNat)
    (fun a=>∃ (i:Nat) (m:Int),a = (((),(m,((i:Int),()))),(c,())) ∧ i≤33 ∧ 0≤m ∧ m≤5 ∧ (i = 0 ∨ 1≤m)) (fun _ d=>∃ m:Int,d = .inl (((),(m,())),(c,())) ∧ 1≤m ∧ m≤5)
    (by
      rintro _ ⟨i,m,rfl,hi,m0,m1,m2⟩
      show (∃ y,q146_L0 m i c = _ ∧ _) ∨ ∃ d,q146_L0 m i c = _ ∧ _
      unfold q146_L0
      have ho:=h.op i
      by_cases h1:i < 33
      · rw [bif_t (by simp; omega),wI_succ h1 (by omega)]
        refine .inl ⟨_,rfl,⟨i + 1,_,rfl,h1,?_⟩,by simp only [Int.toNat_natCast]; omega,fun d hd=>hd⟩
        split <;> omega
      · rw [bif_f (by simp; omega)]
        exact .inr ⟨_,rfl,m,rfl,by omega,m1⟩) (((),((0:Int),((0:Int),()))),(c,())) ⟨0,0,rfl,by omega,by omega,by omega,.inl rfl⟩
  unfold g146 at e2
  rw [h.ok',q1] at e2
  simp only [Bool.not_true,cond_false,Option.bind_some,Option.some.injEq,Prod.mk.injEq,and_true] at e2
  obtain ⟨h1,h2,h3,h4,h5,h6,h7⟩:=h
  have w:f168 c (false,(false,(true,()))) = c.2.2.2.1 + c.2.2.2.2.1 + c.2.2.2.2.2.2.1:=by
    show wI (wI (wI (0 + c.2.2.2.1) + c.2.2.2.2.1) + c.2.2.2.2.2.2.1) = _
    rw [wI_id (n:=0 + c.2.2.2.1) (by omega) (by omega),wI_id (n:=0 + c.2.2.2.1 + c.2.2.2.2.1) (by omega) (by omega),wI_id (by omega) (by omega)]; omega
  rw [w,wI_id (n:=2 * _) (by omega) (by omega),wI_id (n:=m + _) (by omega) (by omega),wI_id (by omega) (by omega)] at e2
  omega

theorem padD {c:Co} (h:CostD c) (s:Int×(Int×(Int×Unit))) (hs:f105 s = true) (h1:s.1 = 1 ∨ s.1 = 2 ∨ s.1 = 4) (h2:s.2.1 = 1 ∨ s.2.1 = 2) (x:L Ch) (hx:x.len≤4) (hok:∀ j,j < x.len→f141 (x.get j) = true) :
    ∃ n:Int,g116 c s x = some ((n,()),()) ∧ g107 c s x = some ((n,()),()) ∧ 1≤n ∧ n≤190:=by
  have hc:=h.ok
  have c1:1≤c.1 ∧ c.1≤20:=by have:=h.b; omega
  obtain ⟨m,e1,e2⟩:=good x (by omega) c c1 (wI ((wI (16 * c.1)) + (wI ((wI (s.1 * s.2.1)) * c.2.2.2.2.2.2.1)))) hok
  refine ⟨m,?_,?_,?_⟩
  · unfold g116
    rw [hc,hs]
    simp only [Bool.not_true,cond_false]
    rw [bif_f (by simp; omega),e1]; rfl
  · unfold g107
    rw [e2]; rfl
  · have hb:=h.b
    have hl:=h.line
    have hn:16≤(wI ((wI (16 * c.1)) + (wI ((wI (s.1 * s.2.1)) * c.2.2.2.2.2.2.1)))) ∧ (wI ((wI (16 * c.1)) + (wI ((wI (s.1 * s.2.1)) * c.2.2.2.2.2.2.1))))≤48:=by
      rw [wI_id (n:=16 * c.1) (by omega) (by omega)]
      have key:∀ k:Int,0≤k→k≤8→16≤wI (16 * c.1 + wI (wI k * c.2.2.2.2.2.2.1)) ∧ wI (16 * c.1 + wI (wI k * c.2.2.2.2.2.2.1))≤48:=by
        intro k k0 k1
        rw [wI_id (n:=k) (by omega) (by omega)]
        have l3:c.2.2.2.2.2.2.1 = 0 ∨ c.2.2.2.2.2.2.1 = 1 ∨ c.2.2.2.2.2.2.1 = 2:=by omega
        rcases l3 with l | l | l <;> rw [l]
        · rw [wI_id (n:=k * 0) (by omega) (by omega),wI_id (by omega) (by omega)]; omega
        · rw [wI_id (n:=k * 1) (by omega) (by omega),wI_id (by omega) (by omega)]; omega
        · rw [wI_id (n:=k * 2) (by omega) (by omega),wI_id (by omega) (by omega)]; omega
      rcases h1 with a | a | a <;> rcases h2 with b | b <;> rw [a,b] <;> exact key _ (by decide) (by decide)
    generalize (wI ((wI (16 * c.1)) + (wI ((wI (s.1 * s.2.1)) * c.2.2.2.2.2.2.1)))) = n0 at hn e2
    obtain ⟨d,q1,m',rfl,q2⟩:=fixO_rel (step:=s107_L0) (fun a=>x.len - a.1.2.2.2.2.1.toNat)
      (fun a=>∃ (i:Nat) (n:Int),a = (((),(n,(x,((x.len:Int),((i:Int),()))))),(c,())) ∧ i≤x.len ∧ 16≤n ∧ n≤48 + 16 * i) (fun _ d=>∃ m:Int,d = .inl ((m,()),()) ∧ 16≤m ∧ m≤48 + 16 * x.len)
      (by
        rintro _ ⟨i,n,rfl,hi,n0,n1⟩
        show (∃ y,q107_L0 n x x.len i c = _ ∧ _) ∨ ∃ d,q107_L0 n x x.len i c = _ ∧ _
        unfold q107_L0
        by_cases h1:i < x.len
        · rw [bif_t (idx_lt h1),bif_t (idx_in h1),wI_succ h1 (by omega),Int.toNat_natCast]
          have hd:1≤f136 (x.get i) ∧ f136 (x.get i)≤8:=by
            have:=chan_of (hok i h1)
            unfold f136
            split <;> omega
          have hm:0≤c.1 * f136 (x.get i) ∧ c.1 * f136 (x.get i)≤16:=by
            have:c.1 = 1 ∨ c.1 = 2:=by omega
            rcases this with e | e <;> rw [e] <;> omega
          rw [wI_id (n:=c.1 * _) (by omega) (by omega),wI_id (n:=n + _) (by omega) (by omega)]
          exact .inl ⟨_,rfl,⟨i + 1,_,rfl,h1,by omega,by omega⟩,by simp only [Int.toNat_natCast]; omega,fun d hd=>hd⟩
        · have:i = x.len:=by omega
          subst this
          rw [bif_f (by simp)]
          exact .inr ⟨_,rfl,n,rfl,n0,n1⟩) (((),(n0,(x,((x.len:Int),((0:Int),()))))),(c,())) ⟨0,n0,rfl,Nat.zero_le _,hn.1,by omega⟩
    rw [e2] at q1
    simp only [Option.some.injEq,Sum.inl.injEq,Prod.mk.injEq,and_true] at q1
    omega


theorem soundOf (t:Tb) (hf:Facts t) (h4:Int.tmod t.1 4 = 0) (htl:1≤t.2.2.1 ∧ t.2.2.1≤8) (hs:∀ i,i < (tParts t).len→((tParts t).get i).1.size≤2 ^ 47) (hg:∃ n:Int,g146 t.2.2.2.1 = some ((n,()),()) ∧ n≤t.2.2.2.2.2.1) :
    g89 t = some ((true,()),()):=by
  obtain ⟨hc,p1,p2,p3,hsh,hm,hpl,hP,d1,d2,d3,d4,⟨d5,d6⟩,d7,n7,_,q7,l7⟩:=hf
  obtain ⟨n,e146,hn⟩:=hg
  have e122:g122 t = some ((true,()),()):=by
    obtain ⟨b,e1,e2⟩:=impParts t (by omega) hs (fun i hi=>by have:=(hP.1 i hi).1.2.2.1; omega)
    rw [e1,e2.mpr hP]
  have eD:g123_124 (tDevs t) (((tParts t).len:Int),()) = some ((false,()),()):=by
    rcases devs t d1 with ⟨⟨i,hi,k⟩,_⟩ | ⟨_,_,k⟩
    · rw [d3 i hi] at k; cases k
    · exact k
  have eC:g125_126 (tChans t) (((tParts t).len:Int),()) = some ((false,()),()):=by
    have h2:=index_loop (step:=s156_126_L0) (x:=tChans t) (c:=(((tParts t).len:Int),())) (fun i=>f126 ((tChans t).get i) (tParts t).len) (fun i hi=>by
      simp only [s156_126_L0,q156_126_L0]
      refine (bif_t (idx_lt hi)).trans ((bif_t (idx_in hi)).trans ?_)
      rw [wI_succ hi (by omega),Int.toNat_natCast]
      by_cases hq:f126 ((tChans t).get i) (tParts t).len = true
      · rw [if_pos hq]; exact bif_t hq
      · rw [if_neg hq]; exact bif_f (by simpa using hq)) (by
      simp only [s156_126_L0,q156_126_L0]
      exact bif_f (idx_end (tChans t).len))
    rcases h2 with ⟨i,hi,k,_⟩ | ⟨_,k⟩
    · rw [(f126_iff _ _).mpr (d4 i hi)] at k; cases k
    · unfold g125_126 g156_126
      rw [k]; rfl
  have eS:g128 t = some ((true,()),()):=by
    let E:Nat→Int:=fun i=>match i with
      | 0=>0
      | i + 1=>((tSlots t).get i).2.1 + ((tSlots t).get i).2.2.1
    have hE:∀ i,i < (tSlots t).len→E i≤((tSlots t).get i).2.1:=by
      intro i hi
      cases i with
      | zero=>exact (d5 0 hi).2.2.1
      | succ i=>exact d6 i (i + 1) (by omega) hi
    have h2:=scan (step:=s128_L0) (fun i=>(((),(E i,(tSlots t,(((tSlots t).len:Int),((i:Int),()))))),(t,()))) (tSlots t).len (fun _=>true) (fun _=>.inl ((false,()),())) (.inr (.inl (((),()),(t,()))))
      (fun i hi _=>by
        obtain ⟨r1,r2,r3,r4⟩:=d5 i hi
        simp only [s128_L0,q128_L0]
        have r1':(!f61 ((tSlots t).get ((i:Int)).toNat).1 0 (wI (((t.2.2.2.2.2.2.2.1).len:Int) - 1))) = false:=by rw [Int.toNat_natCast]; exact (congrArg _ r1).trans rfl
        have r2':(!f157 t ((tSlots t).get ((i:Int)).toNat) (E i)) = false:=by
          rw [Int.toNat_natCast,(f157_iff t _ _ p1 p2 p3).mpr ⟨by omega,by omega,hE i hi,by omega⟩]; rfl
        refine (bif_t (idx_lt hi)).trans ((bif_t (idx_in hi)).trans ((bif_f r1').trans ((bif_f r2').trans ?_)))
        rw [wI_succ hi (by omega),Int.toNat_natCast,wI_id (by omega) (by omega)])
      (fun i hi ho=>by cases ho)
      (by
        simp only [s128_L0,q128_L0]
        exact bif_f (idx_end (tSlots t).len))
    rcases h2 with ⟨i,_,k,_⟩ | ⟨_,k⟩
    · cases k
    · unfold g128
      have k':fixO s128_L0 (((),((0:Int),(t.2.2.2.2.2.2.2.2.2.2.1,((t.2.2.2.2.2.2.2.2.2.2.1.len:Int),((0:Int),()))))),(t,())) = some (.inr (.inl (((),()),(t,())))):=k
      rw [k']
      have:f61 ((t.2.2.2.2.2.2.2.2.2.2.1.len:Int)) 1 16 = true:=f61_of (by show (1:Int)≤(tSlots t).len; omega) (by show ((tSlots t).len:Int)≤16; omega)
      simp only [Option.bind_some]
      rw [this]
  unfold g89
  have e117:f117 t.1 = true:=by
    unfold f117
    rw [bif_t (f61_of hm.1 hm.2),h4]; rfl
  have e121:g121 t.2.2.2.1 = some ((n,()),()):=by unfold g121; rw [e146]; rfl
  have e120:∀ x:Int,1≤x ∧ x≤5000→f120 x = true:=fun x hx=>f61_of hx.1 hx.2
  rw [e117,f118_105,hsh,f61_of htl.1 htl.2,f119_138,hc,e120 _ p1,e120 _ p2,e120 _ p3,e121]
  simp only [Bool.not_true,cond_false,Option.bind_some]
  have l8:f61 ((t.2.2.2.2.2.2.2.1.len:Int)) 1 6 = true:=f61_of (by show (1:Int)≤(tParts t).len; omega) (by show ((tParts t).len:Int)≤6; omega)
  have eD':g123_124 t.2.2.2.2.2.2.2.2.1 ((t.2.2.2.2.2.2.2.1.len:Int),()) = some ((false,()),()):=eD
  have eC':g125_126 t.2.2.2.2.2.2.2.2.2.1 ((t.2.2.2.2.2.2.2.1.len:Int),()) = some ((false,()),()):=eC
  have q7':g107 t.2.2.2.1 t.2.1 t.2.2.2.2.2.2.2.2.2.1 = some ((n7,()),()):=q7
  have c1:decide ((t.2.2.2.2.2.2.2.2.1.len:Int) > 8) = false:=by
    have:¬ ((t.2.2.2.2.2.2.2.2.1.len:Int) > 8):=by show ¬ (((tDevs t).len:Int) > 8); omega
    simpa using this
  have c2:decide ((t.2.2.2.2.2.2.2.2.2.1.len:Int) > 8) = false:=by
    have:¬ ((t.2.2.2.2.2.2.2.2.2.1.len:Int) > 8):=by show ¬ (((tChans t).len:Int) > 8); omega
    simpa using this
  rw [bif_f (by simp; omega),l8,e122]
  simp only [Bool.not_true,cond_false,Option.bind_some]
  rw [c1,eD']
  simp only [cond_false,Option.bind_some]
  rw [c2,eC']
  simp only [cond_false,Option.bind_some]
  rw [q7']
  simp only [Option.bind_some]
  rw [bif_f (by simp; omega),eS]
  rfl

theorem tmod4 {a:Int} (h:0≤a) (h4:a % 4 = 0):Int.tmod a 4 = 0:=by rw [Int.tmod_eq_emod_of_nonneg h]; exact h4

theorem partsOk {x:L PR} {n:Nat} {a:Int} (h:PartsD x n a) (hn:n≤4):Parts x (a + 64):=by
  have hpos:=h.pos
  have hl:=h.len
  have g:∀ i,i < n→f163 ((x.get i).2.2.2.1.get 0) = true ∧ f163 ((x.get i).2.2.2.1.get 1) = true:=by
    intro i hi
    obtain ⟨hp,he⟩:=h.part i hi
    have w0:=hp.w0
    have w1:=hp.w1
    refine ⟨(f163_iff _).mpr ⟨by omega,by omega,tmod4 (by omega) (by omega),tmod4 (by omega) (by omega),by omega,by omega⟩,(f163_iff _).mpr ⟨by omega,by omega,tmod4 (by omega) (by omega),tmod4 (by omega) (by omega),by omega,by omega⟩⟩
  refine ⟨fun i hi=>?_,?_⟩
  · obtain ⟨hp,he⟩:=h.part i (by omega)
    have w0:=hp.w0
    have w1:=hp.w1
    have we:=hp.ent
    have hw:=g i (by omega)
    refine ⟨⟨by rw [hp.name]; exact nmNM i (by omega),hp.pol,by rw [hp.len]; omega,fun j hj=>?_,⟨0,by rw [hp.len]; omega,(f164_iff _ _ hw.1).mpr (by omega),?_⟩,tmod4 (by omega) (by omega)⟩,fun q hq=>?_⟩
    · rw [hp.len] at hj
      have:j = 0 ∨ j = 1:=by omega
      rcases this with rfl | rfl
      · exact ⟨hw.1,by omega⟩
      · exact ⟨hw.2,by omega⟩
    · rw [w0.2.1]; decide
    · rw [(h.part q (by omega)).1.name,hp.name]
      exact nmApart q i hq (by omega)
  · have key:∀ k,k≤n→(winsOf x k).Pairwise apart ∧ ∀ v,v ∈ winsOf x k→∃ i,i < k ∧ v.1 + v.2.1≤((x.get i).2.2.2.1.get 1).1 + ((x.get i).2.2.2.1.get 1).2.1:=by
      intro k
      induction k with
      | zero=>intro _; exact ⟨by simp [winsOf],fun v hv=>by simp [winsOf] at hv⟩
      | succ k ih =>
        intro hk
        obtain ⟨i1,i2⟩:=ih (by omega)
        obtain ⟨hp,he⟩:=h.part k (by omega)
        have w0:=hp.w0
        have w1:=hp.w1
        have ht:toL (x.get k).2.2.2.1 = [(x.get k).2.2.2.1.get 0,(x.get k).2.2.2.1.get 1]:=by
          unfold toL
          rw [hp.len]; rfl
        rw [winsOf_succ x (by omega),ht]
        refine ⟨List.pairwise_append.mpr ⟨i1,?_,fun v hv w hw=>?_⟩,fun v hv=>?_⟩
        · refine List.pairwise_cons.mpr ⟨fun w hw=>?_,List.pairwise_singleton _ _⟩
          simp only [List.mem_cons,List.not_mem_nil,or_false] at hw
          subst hw
          exact .inl (by omega)
        · obtain ⟨i,hi,hle⟩:=i2 v hv
          have ho:=h.ord i k hi (by omega)
          simp only [List.mem_cons,List.not_mem_nil,or_false] at hw
          rcases hw with rfl | rfl
          · exact .inl (by omega)
          · exact .inl (by omega)
        · rcases List.mem_append.mp hv with hv | hv
          · obtain ⟨i,hi,hle⟩:=i2 v hv
            exact ⟨i,by omega,hle⟩
          · refine ⟨k,by omega,?_⟩
            simp only [List.mem_cons,List.not_mem_nil,or_false] at hv
            rcases hv with rfl | rfl <;> omega
    rw [hl]
    exact (key n (Nat.le_refl _)).1


theorem in3 {x a b c:Int} (h:x ∈ [a,b,c]):x = a ∨ x = b ∨ x = c:=by simpa using h
theorem in4 {x a b c d:Int} (h:x ∈ [a,b,c,d]):x = a ∨ x = b ∨ x = c ∨ x = d:=by simpa using h


set_option maxHeartbeats 1600000 in
theorem tablesD (c:Cur) (hc:Cw c) (n:Nat) (h1:2≤n) (h2:n≤4):∃ (t:Tb) (c':Cur),g88rd c n = some ((t,()),(c',())) ∧ Cw c' ∧ g89 t = some ((true,()),()) ∧ Facts t ∧ t.2.2.2.2.2.2.1≤3000 ∧ ∃ a,PartsD (tParts t) n a:=by
  obtain ⟨s1,k1,q1,m1,hk1⟩:=pickIn c hc (Ty.zero (.int .i64)) [1,2,4] (by decide) (by decide)
  obtain ⟨s2,k2,q2,a2,b2,hk2⟩:=below k1 hk1 2 (by omega) (by omega)
  obtain ⟨s3,k3,q3,m3,hk3⟩:=pickIn k2 hk2 (Ty.zero (.int .i64)) [4,8,16] (by decide) (by decide)
  obtain ⟨tl,k4,q4,a4,b4,hk4⟩:=below k3 hk3 4 (by omega) (by omega)
  obtain ⟨o1,k5,q5,a5,b5,hk5⟩:=below k4 hk4 2 (by omega) (by omega)
  obtain ⟨o2,k6,q6,a6,b6,hk6⟩:=below k5 hk5 4 (by omega) (by omega)
  obtain ⟨o3,k7,q7,a7,b7,hk7⟩:=below k6 hk6 3 (by omega) (by omega)
  obtain ⟨o4,k8,q8,a8,b8,hk8⟩:=below k7 hk7 6 (by omega) (by omega)
  obtain ⟨o5,k9,q9,a9,b9,hk9⟩:=below k8 hk8 4 (by omega) (by omega)
  obtain ⟨o6,k10,q10,a10,b10,hk10⟩:=below k9 hk9 3 (by omega) (by omega)
  obtain ⟨o7,k11,q11,a11,b11,hk11⟩:=below k10 hk10 3 (by omega) (by omega)
  obtain ⟨w,k12,q12,a12,b12,hk12⟩:=below k11 hk11 4 (by omega) (by omega)
  unfold g88rd
  simp only [q1,q2,q3,q4,q5,q6,q7,q8,q9,q10,q11,q12,Option.bind_some]
  have e2:wI (1 + s2) = 1 + s2:=wI_id (by omega) (by omega)
  have e4:wI (1 + tl) = 1 + tl:=wI_id (by omega) (by omega)
  have e5:wI (1 + o1) = 1 + o1:=wI_id (by omega) (by omega)
  have e12:wI (4 * w) = 4 * w:=wI_id (by omega) (by omega)
  rw [e2,e4,e5,e12]
  have m1:=in3 m1
  have m3:=in3 m3
  obtain ⟨a,x,c1,p1,hc1,hx⟩:=partsLoop _ _ _ _ _ _ _ _ _ _ _ _ _ _ _ _ _ _ _ 0 s1 (1 + s2) s3 (1 + tl) (1 + o1) o2 o3 o4 o5 o6 o7 0 0 0 (nilL (.int .i64)) (nilL (.pair (.int .i64) (.pair (.int .i64) (.pair (.int .i64) (.pair (.int .i64) .unit))))) (nilL (.pair (.int .i64) (.pair (.int .i64) (.pair (.int .i64) .unit)))) n h1 h2 k12 hk12 (4 * w) ⟨by omega,by omega,by omega⟩ (nilL (.pair .str (.pair (.int .i64) (.pair (.pair (.int .i64) (.pair (.int .i64) .unit)) (.pair (.sl (.pair (.int .i64) (.pair (.int .i64) (.pair (.int .i64) .unit)))) .unit))))) rfl
  rw [p1]
  simp only [Option.bind_some]
  have hpos:=hx.pos
  have ea:wI (a + 64) = a + 64:=wI_id (by omega) (by omega)
  rw [ea]
  obtain ⟨dv,c2,p2,hc2,hdl,hdv⟩:=devsLoop _ _ _ _ _ _ _ _ _ _ _ _ _ _ _ _ _ _ _ (a + 64) s1 (1 + s2) s3 (1 + tl) (1 + o1) o2 o3 o4 o5 o6 o7 0 0 0 x _ _ n h1 h2 c1 hc1 (nilL (.int .i64)) rfl
  rw [p2]
  simp only [Option.bind_some]
  obtain ⟨ch,c3,p3,hc3,hcl,hch⟩:=chansLoop _ _ _ _ _ _ _ _ _ _ _ _ _ _ _ _ _ _ _ (a + 64) s1 (1 + s2) s3 (1 + tl) (1 + o1) o2 o3 o4 o5 o6 o7 0 0 0 x dv _ n h1 h2 c2 hc2 (nilL (.pair (.int .i64) (.pair (.int .i64) (.pair (.int .i64) (.pair (.int .i64) .unit))))) rfl
  rw [p3]
  simp only [Option.bind_some]
  have hcost:CostD (1 + o1,(o2,(o3,(o4,(o5,(o6,(o7,()))))))):=⟨by show 1≤1 + o1 ∧ 1 + o1≤2; omega,by show 0≤o2 ∧ o2≤3; omega,by show 0≤o3 ∧ o3≤2; omega,by show 0≤o4 ∧ o4≤5; omega,by show 0≤o5 ∧ o5≤3; omega,by show 0≤o6 ∧ o6≤2; omega,by show 0≤o7 ∧ o7≤2; omega⟩
  have hs2:1 + s2 = 1 ∨ 1 + s2 = 2:=by omega
  have hsh:f105 (s1,(1 + s2,(s3,()))) = true:=by
    have l2:=f60_of (x:=1 + s2) (y:=1) (z:=4) (by omega) (by omega)
    rcases m1 with rfl | rfl | rfl <;> rcases m3 with rfl | rfl | rfl <;> rcases hs2 with e | e <;> rw [e] <;> decide +kernel
  obtain ⟨gn,g1,g2,g3,g4⟩:=worstCost hcost
  obtain ⟨pn,r1,r2,r3,r4⟩:=padD hcost (s1,(1 + s2,(s3,()))) hsh m1 hs2 ch hcl (fun j hj=>(hch j hj).1)
  rw [g1]
  simp only [Option.bind_some]
  obtain ⟨v1,c4,p4,mv1,hc4⟩:=pickIn c3 hc3 (Ty.zero (.int .i64)) [0,0,1,5] (by decide) (by decide)
  rw [p4]
  simp only [Option.bind_some]
  rw [r1]
  simp only [Option.bind_some]
  obtain ⟨v2,c5,p5,mv2,hc5⟩:=pickIn c4 hc4 (Ty.zero (.int .i64)) [0,0,1,7] (by decide) (by decide)
  rw [p5]
  simp only [Option.bind_some]
  obtain ⟨v3,c6,p6,mv3,hc6⟩:=pickIn c5 hc5 (Ty.zero (.int .i64)) [0,0,5] (by decide) (by decide)
  rw [p6]
  simp only [Option.bind_some]
  have mv1:=in4 mv1
  have mv2:=in4 mv2
  have mv3:=in3 mv3
  have eg:wI (gn + v1) = gn + v1:=wI_id (by omega) (by omega)
  have ep:wI (pn + v2) = pn + v2:=wI_id (by omega) (by omega)
  rw [eg,ep]
  obtain ⟨sl,i,st,c7,p7,hc7,hni,hi6,hsl⟩:=slotsLoopD _ _ _ _ _ _ _ _ _ _ _ _ _ _ _ _ _ _ _ (a + 64) s1 (1 + s2) s3 (1 + tl) (1 + o1) o2 o3 o4 o5 o6 o7 (pn + v2) (gn + v1) 0 x dv ch ⟨by omega,by omega⟩ ⟨by omega,by omega⟩ n h1 h2 c6 hc6 v3 ⟨by omega,by omega⟩ (nilL (.pair (.int .i64) (.pair (.int .i64) (.pair (.int .i64) .unit)))) rfl
  rw [p7]
  simp only [Option.bind_some]
  have hll:=hsl.len
  have htop:=hsl.top
  have elast:wI ((sl.len:Int) - 1) = ((sl.len - 1:Nat):Int):=by rw [wI_id (by omega) (by omega)]; omega
  rw [elast,bif_t (by simp; omega),Int.toNat_natCast]
  obtain ⟨v4,c8,p8,mv4,hc8⟩:=pickIn c7 hc7 (Ty.zero (.int .i64)) [0,0,1,20] (by decide) (by decide)
  rw [p8]
  simp only [Option.bind_some]
  have mv4:=in4 mv4
  have hlr:=hsl.row (sl.len - 1) (by omega)
  have el1:wI ((sl.get (sl.len - 1)).2.1 + (sl.get (sl.len - 1)).2.2.1) = (sl.get (sl.len - 1)).2.1 + (sl.get (sl.len - 1)).2.2.1:=wI_id (by omega) (by omega)
  rw [el1]
  have el2:wI ((sl.get (sl.len - 1)).2.1 + (sl.get (sl.len - 1)).2.2.1 + v4) = (sl.get (sl.len - 1)).2.1 + (sl.get (sl.len - 1)).2.2.1 + v4:=wI_id (by omega) (by omega)
  rw [el2]
  generalize hmaj:(sl.get (sl.len - 1)).2.1 + (sl.get (sl.len - 1)).2.2.1 + v4 = mj
  refine ⟨_,c8,rfl,hc8,?_⟩
  have hxl:=hx.len
  have hF:Facts (a + 64,((s1,(1 + s2,(s3,()))),(1 + tl,((1 + o1,(o2,(o3,(o4,(o5,(o6,(o7,()))))))),(pn + v2,(gn + v1,(mj,(x,(dv,(ch,(sl,()))))))))))):=by
    refine ⟨hcost.ok,⟨by show 1≤pn + v2; omega,by show pn + v2≤5000; omega⟩,⟨by show 1≤gn + v1; omega,by show gn + v1≤5000; omega⟩,⟨by show 1≤mj; omega,by show mj≤5000; omega⟩,hsh,⟨by show 64≤a + 64; omega,by show a + 64≤2048; omega⟩,⟨by show 1≤x.len; omega,by show x.len≤6; omega⟩,partsOk hx h2,?_⟩
    have ew:wI ((x.len:Int) - 1) = (x.len:Int) - 1:=wI_id (by omega) (by omega)
    refine ⟨by show dv.len≤8; omega,by show ch.len≤8; omega,fun j hj=>?_,fun j hj=>?_,⟨fun k hk=>?_,fun k m hkm hm=>hsl.ord k m hkm (by rw [← hll]; exact hm)⟩,⟨by show 1≤sl.len; omega,by show sl.len≤16; omega⟩,pn,r1,r2,by show pn + v2 ≥ pn; omega⟩
    · show f60 (dv.get j) 0 (wI ((x.len:Int) - 1)) = true
      have:=hdv j hj
      rw [ew]
      exact f60_of (by omega) (by omega)
    · have:=hch j hj
      exact ⟨this.1,by show _ < (x.len:Int); rw [hxl]; exact this.2.1,by show _ < (x.len:Int); rw [hxl]; exact this.2.2⟩
    · have hk:k < sl.len:=hk
      have hr:=hsl.row k (by omega)
      refine ⟨?_,hr.2.2.1,hr.2.2.2.2.1,?_⟩
      · show f60 (sl.get k).1 0 (wI ((x.len:Int) - 1)) = true
        rw [ew]
        exact f60_of hr.1 (by omega)
      · show (sl.get k).2.1 + (sl.get k).2.2.1≤mj
        by_cases e:k = sl.len - 1
        · subst e; omega
        · have:=hsl.ord k (sl.len - 1) (by omega) (by omega)
          omega
  refine ⟨soundOf _ hF (tmod4 (by show 0≤a + 64; omega) (by show (a + 64) % 4 = 0; omega)) ⟨by show 1≤1 + tl; omega,by show 1 + tl≤8; omega⟩ (fun k hk=>?_) ⟨gn,g2,by show gn≤gn + v1; omega⟩,hF,by show mj≤3000; omega,a,hx⟩
  have hk:k < x.len:=hk
  show (x.get k).1.size≤2 ^ 47
  rw [(hx.part k (by omega)).1.name]
  have:k = 0 ∨ k = 1 ∨ k = 2 ∨ k = 3:=by omega
  rcases this with rfl | rfl | rfl | rfl <;> decide


theorem below4 (c:Cur) (h:Cw c) (n:Int) (h1:257≤n) (h2:n≤2147483648):∃ (x:Int) (c':Cur),g84d c n = some ((x,()),(c',())) ∧ 0≤x ∧ x < n ∧ Cw c':=by
  obtain ⟨x1,d1,e1,a1,b1,k1⟩:=byte c h
  obtain ⟨x2,d2,e2,a2,b2,k2⟩:=byte d1 k1
  obtain ⟨x3,d3,e3,a3,b3,k3⟩:=byte d2 k2
  obtain ⟨x4,d4,e4,a4,b4,k4⟩:=byte d3 k3
  unfold g84d
  rw [bif_f (by simp; omega),bif_f (by simp; omega)]
  simp only [e1,e2,e3,e4,Option.bind_some]
  rw [bif_t (by simp; omega),wI_id (n:=x1 * 16777216) (by omega) (by omega),wI_id (n:=x2 * 65536) (by omega) (by omega),wI_id (n:=x1 * 16777216 + x2 * 65536) (by omega) (by omega)]
  refine ⟨_,_,rfl,?_,Int.tmod_lt_of_pos _ (by omega),k4⟩
  apply Int.tmod_nonneg
  rw [wI_id (n:=x3 * 256) (by omega) (by omega),wI_id (n:=x1 * 16777216 + x2 * 65536 + x3 * 256) (by omega) (by omega),wI_id (by omega) (by omega)]
  omega

def RowG (wy:Int) (row:L Wy):Prop:=(row.len:Int)≤wy ∧ (∀ i,i < row.len→0≤(row.get i).1 ∧ (row.get i).1≤65535) ∧ ∀ i k,i < k→k < row.len→(row.get i).1 ≠ (row.get k).1
def CaG (c:Ca):Prop:=f105 c.1 = true ∧ (c.2.1.len:Int) = c.1.1 ∧ ∀ r,r < c.2.1.len→RowG c.1.2.1 (c.2.1.get r)

theorem shapeG {s:Sh} (h:f105 s = true):(1≤s.1 ∧ s.1≤16) ∧ (1≤s.2.1 ∧ s.2.1≤4) ∧ 4≤s.2.2.1 ∧ s.2.2.1≤32:=by
  rw [f105_eq] at h
  simp only [Bool.and_eq_true,Bool.or_eq_true,beq_iff_eq] at h
  have:=(f60_iff _ _ _).mp h.2.1
  omega

theorem useRow (row:L Wy) (wy t:Int) (hr:RowG wy row) (hwy:wy≤4):∀ {t2 t10 t13 t14 t15 b3 b6_0 b6_1 b6_2 b12_0 b12_1 b12_2 r60387 r60771:_} (d0:Bool),∃ (k:L Wy) (b d:Bool),
    fixO s132r_L2 ((t2,((),((),(t10,(t,((),(t13,(t14,(t15,(row,((),((),((0:Int),()))))))))))))),(b3,((b6_0,(b6_1,(b6_2,((),())))),((b12_0,(b12_1,(b12_2,((),())))),((t,(d0,())),((L.of (Ty.zero (.pair (.int .i64) (.pair .bool .unit))) []),(r60387,(r60771,())))))))) = some (.inl ((t2,((),((),(t10,(t,((),(b,(t14,(t15,((),((),()))))))))))),(b3,((b6_0,(b6_1,(b6_2,((),())))),((b12_0,(b12_1,(b12_2,((),())))),((t,(d,())),(k,(r60387,(r60771,()))))))))) ∧ RowG wy k ∧ ∀ i,i < k.len→(k.get i).1 ≠ t:=by
  intro t2 t10 t13 t14 t15 b3 b6_0 b6_1 b6_2 b12_0 b12_1 b12_2 r60387 r60771 d0
  obtain ⟨h1,h2,h3⟩:=hr
  obtain ⟨d,e1,k,b,d',rfl,e2⟩:=loop_n (step:=s132r_L2) row.len (fun i x=>∃ (k:L Wy) (b d:Bool),x = ((t2,((),((),(t10,(t,((),(b,(t14,(t15,(row,((),((),((i:Int),()))))))))))))),(b3,((b6_0,(b6_1,(b6_2,((),())))),((b12_0,(b12_1,(b12_2,((),())))),((t,(d,())),(k,(r60387,(r60771,())))))))) ∧ k.len≤i ∧ (∀ m,m < k.len→∃ j,j < i ∧ k.get m = row.get j ∧ (row.get j).1 ≠ t) ∧ ∀ a b,a < b→b < k.len→(k.get a).1 ≠ (k.get b).1)
    (fun d=>∃ (k:L Wy) (b d':Bool),d = .inl ((t2,((),((),(t10,(t,((),(b,(t14,(t15,((),((),()))))))))))),(b3,((b6_0,(b6_1,(b6_2,((),())))),((b12_0,(b12_1,(b12_2,((),())))),((t,(d',())),(k,(r60387,(r60771,())))))))) ∧ RowG wy k ∧ ∀ i,i < k.len→(k.get i).1 ≠ t)
    (by
      rintro i _ hi ⟨k,b,d,rfl,g1,g2,g3⟩
      left
      simp only [s132r_L2,q132r_L2]
      rw [bif_t (idx_lt hi),bif_t (idx_in hi),bif_t (idx_in hi),Int.toNat_natCast,wI_succ hi (by omega)]
      by_cases ht:(row.get i).1 = t
      · rw [bif_t (by simpa using ht)]
        have g2':∀ m,m < k.len→∃ j,j < i + 1 ∧ k.get m = row.get j ∧ (row.get j).1 ≠ t:=fun m hm=>by obtain ⟨j,p,q⟩:=g2 m hm; exact ⟨j,by omega,q⟩
        cases t2 with
        | true=>exact ⟨_,rfl,k,true,true,rfl,by omega,g2',g3⟩
        | false=>exact ⟨_,rfl,k,true,(row.get i).2.1,rfl,by omega,g2',g3⟩
      · rw [bif_f (by simpa using ht),bif_t (idx_in hi),bif_t (by
          show decide (k.len + 1≤most) = true
          exact most_le (by omega))]
        refine ⟨_,rfl,L.app k (L.of (Ty.zero (.pair (.int .i64) (.pair .bool .unit))) [row.get i]),b,d,rfl,by show k.len + 1≤i + 1; omega,fun m hm=>?_,fun a c hac hc=>?_⟩
        · by_cases e:m = k.len
          · subst e; rw [app_hi]; exact ⟨i,by omega,rfl,ht⟩
          · have hm:m < k.len + 1:=hm
            rw [app_lo _ _ (by omega)]
            obtain ⟨j,p,q⟩:=g2 m (by omega)
            exact ⟨j,by omega,q⟩
        · have hc:c < k.len + 1:=hc
          rw [app_lo _ _ (show a < k.len by omega)]
          by_cases e:c = k.len
          · subst e
            rw [app_hi]
            obtain ⟨j,p,q,_⟩:=g2 a hac
            rw [q]
            exact h3 j i p hi
          · rw [app_lo _ _ (by omega)]
            exact g3 a c hac (by omega))
    (by
      rintro _ ⟨k,b,d,rfl,g1,g2,g3⟩
      simp only [s132r_L2,q132r_L2]
      rw [bif_f (idx_end row.len)]
      refine ⟨_,rfl,k,b,d,rfl,⟨by omega,fun i hi=>?_,g3⟩,fun i hi=>?_⟩
      · obtain ⟨j,p,q,_⟩:=g2 i hi
        rw [q]; exact h2 j p
      · obtain ⟨j,p,q,r⟩:=g2 i hi
        rw [q]; exact r) _ ⟨L.of (Ty.zero (.pair (.int .i64) (.pair .bool .unit))) [],_,_,rfl,Nat.le_refl 0,fun m hm=>absurd hm (Nat.not_lt_zero m),fun a b _ hb=>absurd hb (Nat.not_lt_zero b)⟩
  exact ⟨k,b,d',e1,e2⟩

theorem cons_get {α:Type} (z v:α) (k:L α) (i:Nat):(L.app (L.of z [v]) k).get (i + 1) = k.get i:=by
  have e:Nat.blt (i + 1) 1 = false:=by rw [Bool.eq_false_iff]; simp
  show (bif Nat.blt (i + 1) 1 then (L.of z [v]).get (i + 1) else k.get (i + 1 - 1)) = _
  rw [e]
  rfl
theorem RowG.cons {wy t:Int} {k:L Wy} (hk:RowG wy k) (hl:(k.len:Int) < wy) (ht:0≤t ∧ t≤65535) (hn:∀ i,i < k.len→(k.get i).1 ≠ t) (z:Wy) (d:Bool):RowG wy (L.app (L.of z [(t,(d,()))]) k):=by
  obtain ⟨h1,h2,h3⟩:=hk
  have e0:(L.app (L.of z [(t,(d,()))]) k).get 0 = (t,(d,())):=rfl
  have el:(L.app (L.of z [(t,(d,()))]) k).len = 1 + k.len:=rfl
  refine ⟨by rw [el]; omega,fun i hi=>?_,fun i j hij hj=>?_⟩
  · cases i with
    | zero=>rw [e0]; exact ht
    | succ i=>rw [cons_get]; exact h2 i (by omega)
  · cases j with
    | zero=>omega
    | succ j =>
      rw [cons_get]
      cases i with
      | zero=>rw [e0]; exact fun q=>hn j (by omega) q.symm
      | succ i=>rw [cons_get]; exact h3 i j (by omega) (by omega)
theorem RowG.cut {wy:Int} {k:L Wy} (hk:RowG wy k) (n:Nat) (hn:n≤k.len):RowG wy (L.cut k 0 n):=by
  obtain ⟨h1,h2,h3⟩:=hk
  have el:(L.cut k 0 n).len = n:=Nat.sub_zero n
  have eg:∀ i,(L.cut k 0 n).get i = k.get i:=fun i=>congrArg k.get (Nat.zero_add i)
  exact ⟨by rw [el]; omega,fun i hi=>by rw [eg]; exact h2 i (by omega),fun i j a b=>by rw [eg,eg]; exact h3 i j a (by omega)⟩
theorem RowG.ofApp {wy:Int} {k:L Wy} (hk:RowG wy k) (z:Wy):RowG wy (L.app (L.of z []) k):=by
  obtain ⟨h1,h2,h3⟩:=hk
  have el:(L.app (L.of z []) k).len = k.len:=Nat.zero_add _
  have eg:∀ i,(L.app (L.of z []) k).get i = k.get i:=fun i=>rfl
  exact ⟨by rw [el]; omega,fun i hi=>by rw [eg]; exact h2 i (by omega),fun i j a b=>by rw [eg,eg]; exact h3 i j a (by omega)⟩

theorem tagG {x l s:Int} (hx:0≤x ∧ x≤65535) (hl:4≤l) (hs:1≤s):wI (Int.tdiv x l) = x / l ∧ 0≤x / l ∧ x / l≤65535 ∧ wI (Int.tdiv (x / l) s) = x / l / s ∧ 0≤x / l / s ∧ x / l / s≤65535:=by
  have a1:0≤x / l:=Int.ediv_nonneg hx.1 (by omega)
  have a2:x / l≤x:=Int.ediv_le_self _ hx.1
  have b1:0≤x / l / s:=Int.ediv_nonneg a1 (by omega)
  have b2:x / l / s≤x / l:=Int.ediv_le_self _ a1
  rw [Int.tdiv_eq_ediv_of_nonneg hx.1,Int.tdiv_eq_ediv_of_nonneg a1,wI_id (by omega) (by omega),wI_id (by omega) (by omega)]
  exact ⟨rfl,a1,by omega,rfl,b1,by omega⟩

set_option maxHeartbeats 1000000 in
theorem useD (c:Ca) (h:CaG c) (x:Int) (hx:0≤x ∧ x≤65535) (w:Bool):∃ (c':Ca) (p q:Bool),g132r c x w = some ((c',(p,(q,()))),()) ∧ c'.1 = c.1 ∧ CaG c':=by
  obtain ⟨hs,hl,hr⟩:=h
  obtain ⟨s1,s2,s3⟩:=shapeG hs
  obtain ⟨u1,u2,u3,u4,u5,u6⟩:=tagG hx s3.1 s1.1
  unfold g132r
  rw [bif_t (by simp; omega),bif_t (by simp; omega),bif_t (by simp; omega),u1,u4]
  generalize hT:x / c.1.2.2.1 / c.1.1 = T at *
  generalize hS:Int.tmod (x / c.1.2.2.1) c.1.1 = S
  obtain ⟨⟨sets,ways,line,⟨⟩⟩,rows,⟨⟩⟩:=c
  simp only at hs hl hr s1 s2 s3 ⊢
  have key:∀ {b6_0 b6_1 b6_2 b6_3:_},∃ (p q:Bool) (r:L (L Wy)),fixO s132r_L0 ((w,((),((),(S,(T,((),(false,(false,((0:Int),()))))))))),(((sets,(ways,(line,()))),(rows,())),((b6_0,(b6_1,(b6_2,(b6_3,())))),((sets,(ways,(line,((nilL (.sl (.pair (.int .i64) (.pair .bool .unit)))),())))),())))) = some (.inl (((),((),(p,(q,())))),((b6_0,(b6_1,(b6_2,((),())))),((sets,(ways,(line,((),())))),(b6_3,(r,())))))) ∧ r.len = rows.len ∧ ∀ i,i < rows.len→RowG ways (r.get i):=by
    intro b6_0 b6_1 b6_2 b6_3
    obtain ⟨d,e1,p,q,r,rfl,e2⟩:=loop_n (step:=s132r_L0) rows.len (fun i y=>∃ (p q:Bool) (r:L (L Wy)),y = ((w,((),((),(S,(T,((),(p,(q,((i:Int),()))))))))),(((sets,(ways,(line,()))),(rows,())),((b6_0,(b6_1,(b6_2,(b6_3,())))),((sets,(ways,(line,(r,())))),())))) ∧ r.len = i ∧ ∀ j,j < i→RowG ways (r.get j))
      (fun d=>∃ (p q:Bool) (r:L (L Wy)),d = .inl (((),((),(p,(q,())))),((b6_0,(b6_1,(b6_2,((),())))),((sets,(ways,(line,((),())))),(b6_3,(r,()))))) ∧ r.len = rows.len ∧ ∀ i,i < rows.len→RowG ways (r.get i))
      (by
        rintro i _ hi ⟨p,q,r,rfl,g1,g2⟩
        left
        have hrow:=hr i hi
        have add:∀ {v:L Wy} {z:L Wy},RowG ways v→(L.app r (L.of z [v])).len = i + 1 ∧ ∀ j,j < i + 1→RowG ways ((L.app r (L.of z [v])).get j):=fun hv=>app_all g1 g2 _ _ hv
        simp only [s132r_L0,q132r_L0]
        rw [bif_t (idx_lt hi),bif_t (idx_in hi),Int.toNat_natCast,wI_succ hi (by omega)]
        by_cases hiS:(i:Int) = S
        · rw [bif_f (by simpa using hiS)]
          obtain ⟨k,b,d,k1,k2,k3⟩:=useRow (rows.get i) ways T hrow s2.2 w
          rw [k1]
          simp only [Option.bind_some]
          rw [wI_succ hi (by omega)]
          by_cases hk:(k.len:Int) = ways
          · have ew:wI ((k.len:Int) - 1) = ((k.len - 1:Nat):Int):=by rw [wI_id (by omega) (by omega)]; omega
            rw [bif_t (by simpa using hk),ew,bif_t (by simp; omega),bif_t (by simp),Int.toNat_natCast,bif_t (by
              show decide (1 + (k.len - 1 - 0)≤most) = true
              exact most_le (by omega)),bif_t (by
              show decide (r.len + 1≤most) = true
              exact most_le (by omega))]
            have A:=add (z:=Ty.zero (.sl (.pair (.int .i64) (.pair .bool .unit)))) (RowG.cons (k2.cut (k.len - 1) (by omega)) (by show ((k.len - 1 - 0:Nat):Int) < ways; omega) ⟨u5,u6⟩ (fun j hj=>by
              have hj:j < k.len - 1 - 0:=hj
              have eg:(L.cut k 0 (k.len - 1)).get j = k.get j:=congrArg k.get (Nat.zero_add j)
              rw [eg]; exact k3 j (by omega)) (Ty.zero (.pair (.int .i64) (.pair .bool .unit))) d)
            exact ⟨_,rfl,_,_,_,rfl,A.1,A.2⟩
          · have hk1:=k2.1
            rw [bif_f (by simpa using hk),bif_t (by
              show decide (1 + k.len≤most) = true
              exact most_le (by omega)),bif_t (by
              show decide (r.len + 1≤most) = true
              exact most_le (by omega))]
            have A:=add (z:=Ty.zero (.sl (.pair (.int .i64) (.pair .bool .unit)))) (RowG.cons k2 (by omega) ⟨u5,u6⟩ k3 (Ty.zero (.pair (.int .i64) (.pair .bool .unit))) d)
            exact ⟨_,rfl,_,_,_,rfl,A.1,A.2⟩
        · have hr1:=hrow.1
          rw [bif_t (by simpa using hiS),bif_t (by
            show decide (0 + (rows.get i).len≤most) = true
            exact most_le (by omega)),bif_t (by
            show decide (r.len + 1≤most) = true
            exact most_le (by omega))]
          have A:=add (z:=Ty.zero (.sl (.pair (.int .i64) (.pair .bool .unit)))) (RowG.ofApp hrow (Ty.zero (.pair (.int .i64) (.pair .bool .unit))))
          exact ⟨_,rfl,_,_,_,rfl,A.1,A.2⟩)
      (by
        rintro _ ⟨p,q,r,rfl,g1,g2⟩
        simp only [s132r_L0,q132r_L0]
        exact ⟨_,bif_f (idx_end rows.len),p,q,r,rfl,g1,g2⟩) _ ⟨false,false,nilL (.sl (.pair (.int .i64) (.pair .bool .unit))),rfl,rfl,fun j hj=>absurd hj (Nat.not_lt_zero j)⟩
    exact ⟨p,q,r,e1,e2⟩
  obtain ⟨p,q,r,k1,k2,k3⟩:=@key 0 0 0 (nilL (.sl (.pair (.int .i64) (.pair .bool .unit))))
  rw [k1]
  exact ⟨_,p,q,rfl,rfl,hs,by show (r.len:Int) = sets; omega,fun j hj=>k3 j (by have hj:j < r.len:=hj; omega)⟩


def BndC (c:Ca):Prop:=c.2.1.len≤1048576 ∧ ∀ i,i < c.2.1.len→(c.2.1.get i).len≤1048576

theorem tags (c:Ca) (r:Int) (row:L Wy) (hr:row.len≤1048576) (i:Nat) (hi:i < row.len) :
    ∃ n:Int,g135 row (row.get i).1 = some ((n,()),()) ∧
    ((n < i ∧ fixO s54_L4 (((),(r,(row,((i:Int),((0:Int),()))))),(c,())) = some (.inl ((false,()),()))) ∨
     (¬ n < i ∧ fixO s54_L4 (((),(r,(row,((i:Int),((0:Int),()))))),(c,())) = some (.inr (.inl (((),(r,(row,((i:Int),())))),(c,())))))):=by
  have h1:=scan (step:=s54_L4) (fun k=>(((),(r,(row,((i:Int),((k:Int),()))))),(c,()))) i (fun k=>!((row.get k).1 == (row.get i).1)) (fun _=>.inl ((false,()),())) (.inr (.inl (((),(r,(row,((i:Int),())))),(c,()))))
    (fun k hk ho=>by
      have ho':((row.get ((k:Int)).toNat).1 == (row.get ((i:Int)).toNat).1) = false:=by rw [Int.toNat_natCast,Int.toNat_natCast]; simpa using ho
      simp only [s54_L4,q54_L4]
      refine (bif_t (idx_lt hk)).trans ((bif_t (idx_in (n:=row.len) (by omega))).trans ((bif_t (idx_in hi)).trans ((bif_f ho').trans ?_)))
      rw [wI_succ hk (by omega)])
    (fun k hk ho=>by
      have ho':((row.get ((k:Int)).toNat).1 == (row.get ((i:Int)).toNat).1) = true:=by rw [Int.toNat_natCast,Int.toNat_natCast]; simpa using ho
      simp only [s54_L4,q54_L4]
      exact (bif_t (idx_lt hk)).trans ((bif_t (idx_in (n:=row.len) (by omega))).trans ((bif_t (idx_in hi)).trans (bif_t ho'))))
    (by
      simp only [s54_L4,q54_L4]
      exact bif_f (idx_end i))
  have h2:=index_loop (step:=s159_160_L0) (x:=row) (c:=((row.get i).1,())) (fun k=>(row.get k).1 == (row.get i).1) (fun k hk=>by
    simp only [s159_160_L0,q159_160_L0]
    refine (bif_t (idx_lt hk)).trans ((bif_t (idx_in hk)).trans ?_)
    rw [wI_succ hk (by omega),Int.toNat_natCast]
    by_cases hf:((row.get k).1 == (row.get i).1) = true
    · rw [if_pos hf]; exact bif_t hf
    · rw [if_neg hf]
      have hf':((row.get k).1 == (row.get i).1) = false:=by simpa using hf
      exact bif_f hf') (by
    simp only [s159_160_L0,q159_160_L0]
    exact bif_f (idx_end row.len))
  unfold g135 g159_160
  rcases h2 with ⟨k,k1,k2,k3,k4⟩ | ⟨k1,_⟩
  · rw [k4]
    refine ⟨k,rfl,?_⟩
    rcases h1 with ⟨j,hj,ho,_,e⟩ | ⟨ha,e⟩
    · left
      refine ⟨?_,e⟩
      have ho:((row.get j).1 == (row.get i).1) = true:=by simpa using ho
      by_cases q:k≤j
      · omega
      · have:=k3 j (by omega)
        rw [ho] at this; cases this
    · right
      refine ⟨fun q=>?_,e⟩
      have:=ha k (by omega)
      rw [k2] at this; cases this
  · have:=k1 i hi
    simp at this

theorem caches (c:Ca) (h:BndC c):∃ b:Bool,g54 c = some ((b,()),()) ∧ g98 c = some ((b,()),()) ∧ (b = true→f105 c.1 = true):=by
  obtain ⟨hl,hw⟩:=h
  unfold g54 g98
  rw [f118_105]
  cases hs:f105 c.1 with
  | false=>exact ⟨false,rfl,rfl,by simp⟩
  | true =>
    simp only [Bool.not_true,cond_false]
    cases hn:((c.2.1.len:Int) != c.1.1) with
    | true=>exact ⟨false,rfl,rfl,by simp⟩
    | false =>
      simp only [cond_false]
      generalize hx:c.2.1 = x at *
      obtain ⟨d,e,e1,e2,e3⟩:=fixO_sim (s1:=s54_L0) (s2:=s98_L0)
        (fun a b=>∃ r:Nat,a = (((),((r:Int),())),(c,())) ∧ b = (((),(x,((x.len:Int),((r:Int),())))),(c,())) ∧ r≤x.len)
        (fun d e=>(d = .inl ((false,()),()) ∧ e = .inl ((false,()),())) ∨ (d = .inr (.inl ((),())) ∧ e = .inr (.inl ((),())))) (fun a=>x.len - a.1.2.1.toNat) (by
          rintro _ _ ⟨r,rfl,rfl,hr⟩
          simp only [s54_L0,q54_L0,s98_L0,q98_L0]
          rw [hx]
          by_cases hlt:r < x.len
          · rw [bif_t (idx_lt hlt),bif_t (idx_in hlt),bif_t (idx_lt hlt),bif_t (idx_in hlt),Int.toNat_natCast]
            have hrow:=hw r hlt
            generalize hrw:x.get r = row at hrow
            cases hwy:decide ((row.len:Int) > c.1.2.1) with
            | true=>exact .inr ⟨_,_,rfl,rfl,.inl ⟨rfl,rfl⟩⟩
            | false =>
              simp only [cond_false]
              obtain ⟨d,e,i1,i2,i3⟩:=fixO_sim (s1:=s54_L2) (s2:=s98_L2)
                (fun a b=>∃ i:Nat,a = (((),((r:Int),(row,((i:Int),())))),(c,())) ∧ b = (((),(row,(x,((x.len:Int),((r:Int),(row,((row.len:Int),((i:Int),())))))))),(c,())) ∧ i≤row.len)
                (fun d e=>(d = .inl ((false,()),()) ∧ e = .inl ((false,()),())) ∨ (d = .inr (.inl (((),((r:Int),())),(c,()))) ∧ e = .inr (.inl (((),(x,((x.len:Int),((r:Int),())))),(c,()))))) (fun a=>row.len - a.1.2.2.2.1.toNat) (by
                  rintro _ _ ⟨i,rfl,rfl,hi⟩
                  simp only [s54_L2,q54_L2,s98_L2,q98_L2]
                  by_cases hit:i < row.len
                  · obtain ⟨n,n1,n2⟩:=tags c (r:Int) row hrow i hit
                    rw [bif_t (idx_lt hit),bif_t (idx_in hit),bif_t (idx_lt hit),bif_t (idx_in hit),Int.toNat_natCast,show f134 (row.get i).1 = f60 (row.get i).1 0 65535 from rfl,n1]
                    cases f60 (row.get i).1 0 65535 with
                    | false=>exact .inr ⟨_,_,rfl,rfl,.inl ⟨rfl,rfl⟩⟩
                    | true =>
                      simp only [Bool.not_true,cond_false,Option.bind_some]
                      rcases n2 with ⟨q1,q2⟩ | ⟨q1,q2⟩
                      · rw [q2,decide_eq_true q1]
                        exact .inr ⟨_,_,rfl,rfl,.inl ⟨rfl,rfl⟩⟩
                      · rw [q2,decide_eq_false q1]
                        simp only [Option.bind_some,cond_false]
                        rw [wI_succ hit (by omega)]
                        exact .inl ⟨_,_,rfl,rfl,⟨i + 1,rfl,rfl,hit⟩,by simp only [Int.toNat_natCast]; omega⟩
                  · right
                    have:i = row.len:=by omega
                    subst this
                    exact ⟨_,_,bif_f (idx_end row.len),bif_f (idx_end row.len),.inr ⟨rfl,rfl⟩⟩)
                (((),((r:Int),(row,((0:Int),())))),(c,())) (((),(row,(x,((x.len:Int),((r:Int),(row,((row.len:Int),((0:Int),())))))))),(c,())) ⟨0,rfl,rfl,Nat.zero_le _⟩
              rw [i1,i2]
              rcases i3 with ⟨rfl,rfl⟩ | ⟨rfl,rfl⟩
              · exact .inr ⟨_,_,rfl,rfl,.inl ⟨rfl,rfl⟩⟩
              · simp only [Option.bind_some]
                rw [wI_succ hlt (by omega)]
                exact .inl ⟨_,_,rfl,rfl,⟨r + 1,rfl,rfl,hlt⟩,by simp only [Int.toNat_natCast]; omega⟩
          · right
            have:r = x.len:=by omega
            subst this
            exact ⟨_,_,bif_f (idx_end x.len),bif_f (idx_end x.len),.inr ⟨rfl,rfl⟩⟩)
        (((),((0:Int),())),(c,())) (((),(x,((x.len:Int),((0:Int),())))),(c,())) ⟨0,rfl,rfl,Nat.zero_le _⟩
      rw [e1,e2]
      rcases e3 with ⟨rfl,rfl⟩ | ⟨rfl,rfl⟩
      · exact ⟨false,rfl,rfl,by simp⟩
      · exact ⟨true,rfl,rfl,fun _=>trivial⟩


theorem emptyD (s:Sh) (h:f105 s = true):∃ c:Ca,g106r s = some ((c,()),()) ∧ c.1 = s ∧ CaG c ∧ ∀ i,i < c.2.1.len→(c.2.1.get i).len = 0:=by
  obtain ⟨s1,s2,s3⟩:=shapeG h
  have key:∀ {b2_0 b2_1 b2_2 b2_3 b3_0 b3_1 b3_2:_},∃ r:L (L Wy),fixO s106r_L0 (((),((),((),((0:Int),())))),(s,((b2_0,(b2_1,(b2_2,(b2_3,())))),((b3_0,(b3_1,(b3_2,((nilL (.sl (.pair (.int .i64) (.pair .bool .unit)))),())))),())))) = some (.inl (((),((),())),((b2_0,(b2_1,(b2_2,((),())))),((b3_0,(b3_1,(b3_2,((),())))),(b2_3,(r,())))))) ∧ r.len = s.1.toNat ∧ ∀ i,i < s.1.toNat→(r.get i).len = 0:=by
    intro b2_0 b2_1 b2_2 b2_3 b3_0 b3_1 b3_2
    obtain ⟨d,e1,r,rfl,e2⟩:=loop_n (step:=s106r_L0) s.1.toNat (fun i y=>∃ r:L (L Wy),y = (((),((),((),((i:Int),())))),(s,((b2_0,(b2_1,(b2_2,(b2_3,())))),((b3_0,(b3_1,(b3_2,(r,())))),())))) ∧ r.len = i ∧ ∀ j,j < i→(r.get j).len = 0)
      (fun d=>∃ r:L (L Wy),d = .inl (((),((),())),((b2_0,(b2_1,(b2_2,((),())))),((b3_0,(b3_1,(b3_2,((),())))),(b2_3,(r,()))))) ∧ r.len = s.1.toNat ∧ ∀ i,i < s.1.toNat→(r.get i).len = 0)
      (by
        rintro i _ hi ⟨r,rfl,g1,g2⟩
        left
        simp only [s106r_L0,q106r_L0]
        rw [bif_t (by simp; omega),wI_succ hi (by omega),bif_t (by
          show decide (r.len + 1≤most) = true
          exact most_le (by omega))]
        have A:=app_all (P:=fun v:L Wy=>v.len = 0) g1 g2 (Ty.zero (.sl (.pair (.int .i64) (.pair .bool .unit)))) (L.of (Ty.zero (.pair (.int .i64) (.pair .bool .unit))) []) rfl
        exact ⟨_,rfl,_,rfl,A.1,A.2⟩)
      (by
        rintro _ ⟨r,rfl,g1,g2⟩
        simp only [s106r_L0,q106r_L0]
        rw [bif_f (by simp; omega)]
        exact ⟨_,rfl,r,rfl,g1,g2⟩) _ ⟨nilL (.sl (.pair (.int .i64) (.pair .bool .unit))),rfl,rfl,fun j hj=>absurd hj (Nat.not_lt_zero j)⟩
    exact ⟨r,e1,e2⟩
  unfold g106r
  rw [h]
  simp only [Bool.not_true,cond_false]
  obtain ⟨r,k1,k2,k3⟩:=@key 0 0 0 (nilL (.sl (.pair (.int .i64) (.pair .bool .unit)))) s.1 s.2.1 s.2.2.1
  rw [k1]
  refine ⟨_,rfl,rfl,⟨h,by show (r.len:Int) = s.1; omega,fun j hj=>?_⟩,fun i hi=>k3 i (by rw [← k2]; exact hi)⟩
  have e:=k3 j (by rw [← k2]; exact hj)
  show RowG s.2.1 (r.get j)
  exact ⟨by omega,fun i hi=>by omega,fun i k _ hk=>by omega⟩

theorem shapeD (c:Cur) (hc:Cw c):∃ (s:Sh) (c':Cur),g158d c = some ((s,()),(c',())) ∧ f105 s = true ∧ Cw c':=by
  obtain ⟨a,k1,q1,m1,hk1⟩:=pickIn c hc (Ty.zero (.int .i64)) [1,2,2,4,8,16] (by decide) (by decide)
  obtain ⟨b,k2,q2,b0,b1,hk2⟩:=below k1 hk1 4 (by omega) (by omega)
  obtain ⟨d,k3,q3,m3,hk3⟩:=pickIn k2 hk2 (Ty.zero (.int .i64)) [4,8,8,16,32] (by decide) (by decide)
  unfold g158d
  simp only [q1,q2,q3,Option.bind_some]
  refine ⟨_,_,rfl,?_,hk3⟩
  rw [wI_id (by omega) (by omega),f105_eq]
  simp only [List.mem_cons,List.not_mem_nil,or_false] at m1 m3
  have hb:f60 (1 + b) 1 4 = true:=(f60_iff _ _ _).mpr (by omega)
  simp only [hb]
  rcases m1 with rfl | rfl | rfl | rfl | rfl | rfl <;> rcases m3 with rfl | rfl | rfl | rfl | rfl <;> rfl

theorem cacheD (c:Cur) (hc:Cw c) (n:Int) (hn:n≤1000):∃ (k:Ca) (c':Cur),g133rd c n = some ((k,()),(c',())) ∧ CaG k ∧ Cw c':=by
  obtain ⟨s,c1,q1,hs,hc1⟩:=shapeD c hc
  obtain ⟨k0,q2,e0,hk0,_⟩:=emptyD s hs
  unfold g133rd
  rw [q1]
  simp only [Option.bind_some]
  rw [q2]
  simp only [Option.bind_some]
  have key:∀ {b4_0 b4_1 b4_2 b4_3:_},∃ (k:Ca) (c':Cur),fixO s133rd_L0 (((),(n,((),((),((0:Int),()))))),(c1,((b4_0,(b4_1,(b4_2,(b4_3,())))),((k0.1.1,(k0.1.2.1,(k0.1.2.2.1,(k0.2.1,())))),())))) = some (.inl (((),((),())),((b4_0,(b4_1,(b4_2,((),())))),((k.1.1,(k.1.2.1,(k.1.2.2.1,((),())))),(c',(b4_3,(k.2.1,()))))))) ∧ CaG k ∧ Cw c':=by
    intro b4_0 b4_1 b4_2 b4_3
    obtain ⟨d,e1,k,c',rfl,e2⟩:=loop_n (step:=s133rd_L0) n.toNat (fun i y=>∃ (k:Ca) (c:Cur),y = (((),(n,((),((),((i:Int),()))))),(c,((b4_0,(b4_1,(b4_2,(b4_3,())))),((k.1.1,(k.1.2.1,(k.1.2.2.1,(k.2.1,())))),())))) ∧ CaG k ∧ Cw c)
      (fun d=>∃ (k:Ca) (c':Cur),d = .inl (((),((),())),((b4_0,(b4_1,(b4_2,((),())))),((k.1.1,(k.1.2.1,(k.1.2.2.1,((),())))),(c',(b4_3,(k.2.1,())))))) ∧ CaG k ∧ Cw c')
      (by
        rintro i _ hi ⟨k,c,rfl,g1,g2⟩
        left
        simp only [s133rd_L0,q133rd_L0]
        obtain ⟨x,k1,p1,x0,x1,hk1⟩:=below4 c g2 600 (by omega) (by omega)
        obtain ⟨b,k2,p2,hk2⟩:=once k1 hk1 3 (by omega) (by omega)
        obtain ⟨k',p,q,u1,_,u3⟩:=useD k g1 x ⟨x0,by omega⟩ b
        have u1':g132r ((k.1.1,(k.1.2.1,(k.1.2.2.1,()))),(k.2.1,())) x b = some ((k',(p,(q,()))),()):=u1
        rw [bif_t (by simp; omega),p1]
        simp only [Option.bind_some]
        rw [p2]
        simp only [Option.bind_some]
        rw [u1',wI_succ hi (by omega)]
        exact ⟨_,rfl,k',k2,rfl,u3,hk2⟩)
      (by
        rintro _ ⟨k,c,rfl,g1,g2⟩
        simp only [s133rd_L0,q133rd_L0]
        rw [bif_f (by simp; omega)]
        exact ⟨_,rfl,k,c,rfl,g1,g2⟩) _ ⟨k0,c1,rfl,hk0,hc1⟩
    exact ⟨k,c',e1,e2⟩
  obtain ⟨k,c',e1,e2,e3⟩:=@key 0 0 0 (nilL (.sl (.pair (.int .i64) (.pair .bool .unit))))
  rw [e1]
  exact ⟨k,c',rfl,e2,e3⟩

theorem cacheS (c:Cur) (hc:Cw c) (s:Sh) (n:Int) (hn:n≤1000):∃ (k:Ca) (c':Cur),g96d c s n = some ((k,()),(c',())) ∧ (CaG k ∨ k.2.1.len = 0) ∧ Cw c':=by
  have hk:∃ k0:Ca,g106r s = some ((k0,()),()) ∧ (CaG k0 ∨ k0.2.1.len = 0):=by
    cases h:f105 s with
    | true=>obtain ⟨k0,q,_,g,_⟩:=emptyD s h; exact ⟨k0,q,.inl g⟩
    | false=>exact ⟨_,by unfold g106r; rw [h]; rfl,.inr rfl⟩
  obtain ⟨k0,q2,hk0⟩:=hk
  unfold g96d
  rw [q2]
  simp only [Option.bind_some]
  have key:∀ {b6_0 b6_1 b6_2 b6_3:_},∃ (k:Ca) (c':Cur),fixO s96d_L0 (((),(n,((),((),((0:Int),()))))),(c,((b6_0,(b6_1,(b6_2,(b6_3,())))),((k0.1.1,(k0.1.2.1,(k0.1.2.2.1,(k0.2.1,())))),())))) = some (.inl (((),((),())),((b6_0,(b6_1,(b6_2,((),())))),((k.1.1,(k.1.2.1,(k.1.2.2.1,((),())))),(c',(b6_3,(k.2.1,()))))))) ∧ (CaG k ∨ k.2.1.len = 0) ∧ Cw c':=by
    intro b6_0 b6_1 b6_2 b6_3
    obtain ⟨d,e1,k,c',rfl,e2⟩:=loop_n (step:=s96d_L0) n.toNat (fun i y=>∃ (k:Ca) (c:Cur),y = (((),(n,((),((),((i:Int),()))))),(c,((b6_0,(b6_1,(b6_2,(b6_3,())))),((k.1.1,(k.1.2.1,(k.1.2.2.1,(k.2.1,())))),())))) ∧ (CaG k ∨ k.2.1.len = 0) ∧ Cw c)
      (fun d=>∃ (k:Ca) (c':Cur),d = .inl (((),((),())),((b6_0,(b6_1,(b6_2,((),())))),((k.1.1,(k.1.2.1,(k.1.2.2.1,((),())))),(c',(b6_3,(k.2.1,())))))) ∧ (CaG k ∨ k.2.1.len = 0) ∧ Cw c')
      (by
        rintro i _ hi ⟨k,c,rfl,g1,g2⟩
        simp only [s96d_L0,q96d_L0]
        rw [bif_t (by simp; omega)]
        rcases g1 with g1 | g1
        · left
          obtain ⟨x,k1,p1,x0,x1,hk1⟩:=below4 c g2 600 (by omega) (by omega)
          obtain ⟨b,k2,p2,hk2⟩:=once k1 hk1 2 (by omega) (by omega)
          obtain ⟨k',p,q,u1,_,u3⟩:=useD k g1 x ⟨x0,by omega⟩ b
          have u1':g132r ((k.1.1,(k.1.2.1,(k.1.2.2.1,()))),(k.2.1,())) x b = some ((k',(p,(q,()))),()):=u1
          have hp:=(shapeG g1.1).1
          have hq:=g1.2.1
          rw [bif_t (by simp; omega),p1]
          simp only [Option.bind_some]
          rw [p2]
          simp only [Option.bind_some]
          rw [u1',wI_succ hi (by omega)]
          exact ⟨_,rfl,k',k2,rfl,.inl u3,hk2⟩
        · right
          rw [bif_f (by simp; omega)]
          exact ⟨_,rfl,k,c,rfl,.inr g1,g2⟩)
      (by
        rintro _ ⟨k,c,rfl,g1,g2⟩
        simp only [s96d_L0,q96d_L0]
        rw [bif_f (by simp; omega)]
        exact ⟨_,rfl,k,c,rfl,g1,g2⟩) _ ⟨k0,c,rfl,hk0,hc⟩
    exact ⟨k,c',e1,e2⟩
  obtain ⟨k,c',e1,e2,e3⟩:=@key 0 0 0 (nilL (.sl (.pair (.int .i64) (.pair .bool .unit))))
  rw [e1]
  exact ⟨k,c',rfl,e2,e3⟩

theorem CaG.bnd {k:Ca} (h:CaG k):BndC k:=by
  obtain ⟨h1,h2,h3⟩:=h
  obtain ⟨s1,s2,_⟩:=shapeG h1
  exact ⟨by omega,fun i hi=>by have:=(h3 i hi).1; omega⟩
theorem bndC_set {k:Ca} (h:BndC k) (s:Sh) (j:Nat) (v:L Wy) (hv:v.len≤1048576):BndC (s,(L.set k.2.1 j v,())):=by
  refine ⟨h.1,fun i hi=>?_⟩
  show ((L.set k.2.1 j v).get i).len≤_
  rw [set_get]
  split
  · exact hv
  · exact h.2 i hi

theorem anyD (c:Cur) (hc:Cw c) (code:L Int) (hl:code.len≤2 ^ 46):∃ (k:Ca) (c':Cur),g97d c code = some ((k,()),(c',())) ∧ BndC k ∧ Cw c':=by
  have h46:(2:Nat) ^ 46 = 70368744177664:=by decide
  rw [h46] at hl
  have hz:1≤f85 code 40 ∧ f85 code 40≤40:=by
    unfold f85
    rw [Int.tdiv_eq_ediv_of_nonneg (by omega),wI_id (n:=(code.len:Int) / 20) (by omega) (by omega),wI_id (by omega) (by omega)]
    cases hq:decide (2 + (code.len:Int) / 20 > 40) with
    | true=>simp
    | false=>simp at hq ⊢; omega
  obtain ⟨n,k1,q1,n0,n1,hk1⟩:=below c hc (f85 code 40) hz.1 (by omega)
  obtain ⟨k,k2,q2,hk,hk2⟩:=cacheD k1 hk1 n (by omega)
  obtain ⟨y,k3,q3,y0,y1,hk3⟩:=below k2 hk2 20 (by omega) (by omega)
  have hb:=hk.bnd
  have hp:=(shapeG hk.1).1
  have hq:=hk.2.1
  have hr:=(hk.2.2 0 (by omega)).1
  have hw:=(shapeG hk.1).2.1
  unfold g97d
  simp only [q1,q2,q3,Option.bind_some]
  by_cases e0:y = 0
  · rw [bif_t (by simpa using e0),bif_t (by simp; omega)]
    obtain ⟨v,k4,q4,_,hk4⟩:=pickIn k3 hk3 (Ty.zero (.int .i64)) [-1,65535,65536] (by decide) (by decide)
    rw [q4]
    simp only [Option.bind_some]
    rw [bif_t (by
      show decide ((k.2.1.get 0).len + 1≤most) = true
      exact most_le (by omega)),bif_t (by simp; omega)]
    exact ⟨_,_,rfl,bndC_set hb _ _ _ (by show (k.2.1.get 0).len + 1≤_; omega),hk4⟩
  rw [bif_f (by simpa using e0)]
  by_cases e1:y = 1
  · rw [bif_t (by simpa using e1),bif_t (by
      show decide (k.2.1.len + 1≤most) = true
      exact most_le (by omega))]
    refine ⟨_,_,rfl,⟨by show k.2.1.len + 1≤_; omega,fun i hi=>?_⟩,hk3⟩
    by_cases e:i = k.2.1.len
    · subst e
      show ((L.app k.2.1 _).get k.2.1.len).len≤_
      rw [app_hi]
      exact Nat.zero_le _
    · have hi:i < k.2.1.len + 1:=hi
      show ((L.app k.2.1 _).get i).len≤_
      rw [app_lo _ _ (by omega)]
      exact hb.2 i (by omega)
  rw [bif_f (by simpa using e1)]
  by_cases e2:y = 2
  · rw [bif_t (by simpa using e2)]
    exact ⟨_,_,rfl,hb,hk3⟩
  rw [bif_f (by simpa using e2)]
  by_cases e3:y = 3
  · rw [bif_t (by simpa using e3),bif_t (by simp; omega),bif_t (by
      show decide ((k.2.1.get 0).len + 2≤most) = true
      exact most_le (by omega)),bif_t (by simp; omega)]
    exact ⟨_,_,rfl,bndC_set hb _ _ _ (by show (k.2.1.get 0).len + 2≤_; omega),hk3⟩
  rw [bif_f (by simpa using e3)]
  by_cases e4:y = 4
  · rw [bif_t (by simpa using e4)]
    obtain ⟨v,k4,q4,_,hk4⟩:=pickIn k3 hk3 (Ty.zero (.int .i64)) [0,64,5] (by decide) (by decide)
    rw [q4]
    exact ⟨_,_,rfl,hb,hk4⟩
  rw [bif_f (by simpa using e4)]
  exact ⟨_,_,rfl,hb,hk3⟩


theorem carry (t:Tb) (h1:g53 t = some ((true,()),())) (hF:Facts t):∃ n:Int,g55 t = some ((n,()),()) ∧ g99 t = some ((n,()),()):=by
  unfold g55 g99
  rw [h1]
  simp only [Option.bind_some,Bool.not_true,cond_false]
  obtain ⟨_,_,_,_,_,_,_,_,_,hl,_,hc,_⟩:=hF
  obtain ⟨d,e,q1,q2,m,rfl,rfl⟩:=fixO_sim (s1:=s55_L0) (s2:=s99_L0)
    (fun a b=>∃ (i:Nat) (m:Int),a = (((),(m,((i:Int),()))),(t,())) ∧ b = ((m,(tChans t,(((tChans t).len:Int),((i:Int),())))),()) ∧ i≤(tChans t).len)
    (fun d e=>∃ m,d = .inl ((m,()),()) ∧ e = .inl ((m,()),())) (fun a=>(tChans t).len - a.1.2.2.1.toNat) (by
      rintro _ _ ⟨i,m,rfl,rfl,hi⟩
      simp only [s55_L0,q55_L0,s99_L0,q99_L0]
      by_cases hlt:i < (tChans t).len
      · left
        rw [wI_succ hlt (by omega),Int.toNat_natCast]
        have f:=(hc i hlt).1
        generalize hsl:(tChans t).get i = s at f
        have hsl':(t.2.2.2.2.2.2.2.2.2.1).get i = s:=hsl
        have c1:∀ {α:Type} {a b:α},(bif decide ((i:Int) < ((t.2.2.2.2.2.2.2.2.2.1).len:Int)) then a else b) = a:=bif_t (idx_lt hlt)
        have c2:∀ {α:Type} {a b:α},(bif decide ((0:Int)≤(i:Int))&&decide ((i:Int) < ((t.2.2.2.2.2.2.2.2.2.1).len:Int)) then a else b) = a:=bif_t (idx_in hlt)
        have c3:∀ {α:Type} {a b:α},(bif decide ((i:Int) < ((tChans t).len:Int)) then a else b) = a:=bif_t (idx_lt hlt)
        have c4:∀ {α:Type} {a b:α},(bif decide ((0:Int)≤(i:Int))&&decide ((i:Int) < ((tChans t).len:Int)) then a else b) = a:=bif_t (idx_in hlt)
        rw [c1,c2,c2,c3,c4,hsl']
        have hm:(tChans t).len - (((i + 1:Nat):Int)).toNat < (tChans t).len - ((i:Int)).toNat:=by simp only [Int.toNat_natCast]; omega
        rcases chan_of f with ⟨k0,d0⟩ | ⟨k1,d1,d2⟩
        · have e1:f136 s = 1:=by unfold f136; rw [if_neg (by omega)]
          rw [bif_t (by simpa using k0),e1]
          exact ⟨_,_,rfl,rfl,⟨i + 1,_,rfl,rfl,hlt⟩,hm⟩
        · have e1:f136 s = s.2.2.2.1:=by unfold f136; split <;> omega
          rw [bif_f (by simp [k1]),e1]
          exact ⟨_,_,rfl,rfl,⟨i + 1,_,rfl,rfl,hlt⟩,hm⟩
      · right
        have:i = (tChans t).len:=by omega
        subst this
        exact ⟨_,_,bif_f (idx_end (tChans t).len),bif_f (idx_end (tChans t).len),m,rfl,rfl⟩)
    (((),((0:Int),((0:Int),()))),(t,())) (((0:Int),(tChans t,(((tChans t).len:Int),((0:Int),())))),()) ⟨0,0,rfl,rfl,Nat.zero_le _⟩
  have q2':fixO s99_L0 (((0:Int),(t.2.2.2.2.2.2.2.2.2.1,((t.2.2.2.2.2.2.2.2.2.1.len:Int),((0:Int),())))),()) = some (.inl ((m,()),())):=q2
  rw [q1,q2']
  exact ⟨m,rfl,rfl⟩

theorem unsound (t:Tb) (h1:g53 t = some ((false,()),())):g55 t = some ((-1,()),()):=by
  unfold g55
  rw [h1]; rfl



theorem pickS (c:Cur) (h:Cw c) (z:ByteArray) (l:List ByteArray) (h1:1≤l.length) (h2:l.length≤256):∃ (x:ByteArray) (c':Cur),g131dw c (L.of z l) = some ((x,()),(c',(L.of z l,()))) ∧ x ∈ l ∧ Cw c':=by
  obtain ⟨i,c',e,i0,i1,hc⟩:=below c h (l.length:Int) (by omega) (by omega)
  have e':g84d c ((L.of z l).len:Int) = some ((i,()),(c',())):=e
  have hl:((L.of z l).len:Int) = (l.length:Int):=rfl
  unfold g131dw
  rw [e']
  simp only [Option.bind_some]
  rw [bif_t (by simp only [hl]; simp; omega)]
  refine ⟨_,_,rfl,?_,hc⟩
  show l.getD i.toNat z ∈ l
  rw [List.getD_eq_getElem?_getD,List.getElem?_eq_getElem (by omega)]
  simp

theorem updB {ps:L PR} {f:PR→PR} {j:Nat} (h:∀ i,i < ps.len→(ps.get i).1.size≤1048576 ∧ (ps.get i).2.2.2.1.len≤1048576) (hf:∀ p:PR,p.1.size≤1048576→p.2.2.2.1.len≤1048576→(f p).1.size≤1048576 ∧ (f p).2.2.2.1.len≤1048576) :
    ∀ i,i < (L.upd ps j f).len→((L.upd ps j f).get i).1.size≤1048576 ∧ ((L.upd ps j f).get i).2.2.2.1.len≤1048576:=fun i hi=>by
  have q:=h i hi
  by_cases e:i = j
  · subst e
    rw [upd_eq_get]
    exact hf _ q.1 q.2
  · rw [upd_ne_get _ _ e]
    exact q

theorem bndOf {m:Int} {sh:Sh} {tl:Int} {co:Co} {pd gd mj:Int} {ps:L PR} {dv:L Int} {ch:L Ch} {sl:L Sl} {u:Unit} (h1:ps.len≤1048576) (h2:dv.len≤1048576) (h3:ch.len≤1048576) (h4:sl.len≤1048576) (h5:∀ i,i < ps.len→(ps.get i).1.size≤1048576 ∧ (ps.get i).2.2.2.1.len≤1048576) :
    Bnd (m,(sh,(tl,(co,(pd,(gd,(mj,(ps,(dv,(ch,(sl,u))))))))))):=⟨h1,h2,h3,h4,h5⟩

set_option maxHeartbeats 1600000 in
theorem anyT (c:Cur) (hc:Cw c):∃ (t:Tb) (c':Cur),g95d c = some ((t,()),(c',())) ∧ Bnd t ∧ Cw c':=by
  obtain ⟨x,k1,q1,x0,x1,hk1⟩:=below c hc 3 (by omega) (by omega)
  obtain ⟨n,rfl⟩:∃ n:Nat,x = n:=⟨x.toNat,by omega⟩
  obtain ⟨t,k2,q2,hk2,_,hF,_,aa,hP⟩:=tablesD k1 hk1 (n + 2) (by omega) (by omega)
  obtain ⟨y,k3,q3,y0,y1,hk3⟩:=below k2 hk2 36 (by omega) (by omega)
  have e2:wI (2 + (n:Int)) = ((n + 2:Nat):Int):=by rw [wI_id (by omega) (by omega)]; omega
  unfold g95d
  rw [q1]
  simp only [Option.bind_some]
  rw [e2,q2]
  simp only [Option.bind_some]
  rw [q3]
  simp only [Option.bind_some]
  obtain ⟨hco,_,_,_,_,_,_,_,hd8,hc8,_,_,_,hsl,pn,hpn,_⟩:=hF
  have hpl:=hP.len
  have hB:Bnd t:=⟨by omega,by omega,by omega,by omega,fun i hi=>by
    have:=(hP.part i (by omega)).1
    refine ⟨?_,by rw [this.len]; omega⟩
    rw [this.name]
    have:i = 0 ∨ i = 1 ∨ i = 2 ∨ i = 3:=by omega
    rcases this with rfl | rfl | rfl | rfl <;> decide⟩
  obtain ⟨wn,hwn,_⟩:=worst hco
  have hw0:=(hP.part 0 (by omega)).1.len
  have hw1:=(hP.part 1 (by omega)).1.len
  have hP5:∀ i,i < t.2.2.2.2.2.2.2.1.len→(t.2.2.2.2.2.2.2.1.get i).1.size≤1048576 ∧ (t.2.2.2.2.2.2.2.1.get i).2.2.2.1.len≤1048576:=hB.2.2.2.2
  have hpn':g116 t.2.2.2.1 t.2.1 t.2.2.2.2.2.2.2.2.2.1 = some ((pn,()),()):=hpn
  have hlast:(decide (0≤wI ((t.2.2.2.2.2.2.2.2.2.2.1.len:Int) - 1))&&decide (wI ((t.2.2.2.2.2.2.2.2.2.2.1.len:Int) - 1) < (t.2.2.2.2.2.2.2.2.2.2.1.len:Int))) = true:=by
    have h:1≤t.2.2.2.2.2.2.2.2.2.2.1.len ∧ t.2.2.2.2.2.2.2.2.2.2.1.len≤16:=hsl
    rw [wI_id (by omega) (by omega)]; simp; omega
  have hpl':t.2.2.2.2.2.2.2.1.len = n + 2:=hpl
  have hp0:decide ((0:Int) < (t.2.2.2.2.2.2.2.1.len:Int)) = true:=by simp; omega
  have hp1:decide ((1:Int) < (t.2.2.2.2.2.2.2.1.len:Int)) = true:=by simp; omega
  have hv0:decide ((0:Int) < ((L.get t.2.2.2.2.2.2.2.1 (0:Int).toNat).2.2.2.1.len:Int)) = true:=by
    show decide ((0:Int) < (((tParts t).get 0).2.2.2.1.len:Int)) = true
    rw [hw0]; rfl
  have hv1:decide ((0:Int) < ((L.get t.2.2.2.2.2.2.2.1 (1:Int).toNat).2.2.2.1.len:Int)) = true:=by
    show decide ((0:Int) < (((tParts t).get 1).2.2.2.1.len:Int)) = true
    rw [hw1]; rfl
  have hs0:decide ((0:Int) < (t.2.2.2.2.2.2.2.2.2.2.1.len:Int)) = true:=by
    have h:1≤t.2.2.2.2.2.2.2.2.2.2.1.len ∧ t.2.2.2.2.2.2.2.2.2.2.1.len≤16:=hsl
    simp; omega
  have P:=fun (l:List Int) (h1:1≤l.length) (h2:l.length≤256)=>pickIn k3 hk3 (Ty.zero (.int .i64)) l h1 h2
  by_cases e:y = 0
  · rw [bif_t (by simpa using e)]
    obtain ⟨v,k4,p,_,hk4⟩:=P [0,60,64,wI (t.1 + 2),wI (t.1 - 64),2052] (by simp) (by simp)
    rw [p]
    exact ⟨_,_,rfl,hB,hk4⟩
  rw [bif_f (by simpa using e)]
  by_cases e:y = 1
  · rw [bif_t (by simpa using e)]
    exact ⟨_,_,rfl,hB,hk3⟩
  rw [bif_f (by simpa using e)]
  by_cases e:y = 2
  · rw [bif_t (by simpa using e)]
    obtain ⟨v,k4,p,_,hk4⟩:=P [0,9] (by simp) (by simp)
    rw [p]
    exact ⟨_,_,rfl,hB,hk4⟩
  rw [bif_f (by simpa using e)]
  by_cases e:y = 3
  · rw [bif_t (by simpa using e)]
    exact ⟨_,_,rfl,hB,hk3⟩
  rw [bif_f (by simpa using e)]
  by_cases e:y = 4
  · rw [bif_t (by simpa using e),hpn']
    simp only [Option.bind_some]
    obtain ⟨v,k4,p,_,hk4⟩:=P [0,wI (pn - 1),5001] (by simp) (by simp)
    rw [p]
    exact ⟨_,_,rfl,hB,hk4⟩
  rw [bif_f (by simpa using e)]
  by_cases e:y = 5
  · rw [bif_t (by simpa using e),hwn]
    exact ⟨_,_,rfl,hB,hk3⟩
  rw [bif_f (by simpa using e)]
  by_cases e:y = 6
  · rw [bif_t (by simpa using e),bif_t hlast,bif_t hlast]
    exact ⟨_,_,rfl,hB,hk3⟩
  rw [bif_f (by simpa using e)]
  by_cases e:y = 7
  · rw [bif_t (by simpa using e)]
    obtain ⟨v,k4,p,hm,hk4⟩:=pickS k3 hk3 (Ty.zero .str) [(⟨#[98,101,116,97]⟩:ByteArray),(⟨#[]⟩:ByteArray),(⟨#[97,98,99,100,101,102,103,104,105]⟩:ByteArray),(⟨#[65,108,112,104,97]⟩:ByteArray)] (by simp) (by simp)
    rw [p]
    simp only [Option.bind_some]
    rw [bif_t hp0]
    have hv:v.size≤1048576:=by
      simp only [List.mem_cons,List.not_mem_nil,or_false] at hm
      rcases hm with rfl | rfl | rfl | rfl <;> decide
    exact ⟨_,_,rfl,bndOf hB.1 hB.2.1 hB.2.2.1 hB.2.2.2.1 (updB hP5 (by intro q h1 h2; exact ⟨hv,h2⟩)),hk4⟩
  rw [bif_f (by simpa using e)]
  by_cases e:y = 8
  · rw [bif_t (by simpa using e),bif_t hp0]
    obtain ⟨v,k4,p,_,hk4⟩:=P [1,128,-4,132] (by simp) (by simp)
    rw [p]
    simp only [Option.bind_some]
    rw [bif_t hp0]
    exact ⟨_,_,rfl,bndOf hB.1 hB.2.1 hB.2.2.1 hB.2.2.2.1 (updB hP5 (by intro q h1 h2; exact ⟨h1,h2⟩)),hk4⟩
  rw [bif_f (by simpa using e)]
  by_cases e:y = 9
  · rw [bif_t (by simpa using e),bif_t hp1,bif_t hp0,bif_t hv0,bif_t hv1]
    exact ⟨_,_,rfl,bndOf hB.1 hB.2.1 hB.2.2.1 hB.2.2.2.1 (updB hP5 (by intro q h1 h2; exact ⟨h1,h2⟩)),hk3⟩
  rw [bif_f (by simpa using e)]
  by_cases e:y = 10
  · rw [bif_t (by simpa using e),bif_t hp0]
    exact ⟨_,_,rfl,bndOf hB.1 hB.2.1 hB.2.2.1 hB.2.2.2.1 (updB hP5 (by intro q h1 h2; exact ⟨h1,h2⟩)),hk3⟩
  rw [bif_f (by simpa using e)]
  by_cases e:y = 11
  · rw [bif_t (by simpa using e),bif_t hp0]
    exact ⟨_,_,rfl,bndOf hB.1 hB.2.1 hB.2.2.1 hB.2.2.2.1 (updB hP5 (by intro q h1 h2; exact ⟨h1,Nat.zero_le _⟩)),hk3⟩
  rw [bif_f (by simpa using e)]
  by_cases e:y = 12
  · rw [bif_t (by simpa using e)]
    obtain ⟨v,k4,p,_,hk4⟩:=P [-1,(t.2.2.2.2.2.2.2.1.len:Int)] (by simp) (by simp)
    rw [p]
    simp only [Option.bind_some]
    rw [bif_t (by
      show decide ((tDevs t).len + 1≤most) = true
      exact most_le (by omega))]
    exact ⟨_,_,rfl,⟨hB.1,by show (tDevs t).len + 1≤_; omega,hB.2.2.1,hB.2.2.2.1,hB.2.2.2.2⟩,hk4⟩
  rw [bif_f (by simpa using e)]
  by_cases e:y = 13
  · rw [bif_t (by simpa using e)]
    obtain ⟨v,k4,p,_,hk4⟩:=P [0,(t.2.2.2.2.2.2.2.1.len:Int),1] (by simp) (by simp)
    rw [p]
    simp only [Option.bind_some]
    rw [bif_t (by
      show decide ((tChans t).len + 1≤most) = true
      exact most_le (by omega))]
    exact ⟨_,_,rfl,⟨hB.1,hB.2.1,by show (tChans t).len + 1≤_; omega,hB.2.2.2.1,hB.2.2.2.2⟩,hk4⟩
  rw [bif_f (by simpa using e)]
  by_cases e:y = 14
  · rw [bif_t (by simpa using e)]
    obtain ⟨v,k4,p,_,hk4⟩:=P [-1,(t.2.2.2.2.2.2.2.1.len:Int)] (by simp) (by simp)
    rw [p]
    simp only [Option.bind_some]
    rw [bif_t hlast]
    exact ⟨_,_,rfl,⟨hB.1,hB.2.1,hB.2.2.1,hB.2.2.2.1,hB.2.2.2.2⟩,hk4⟩
  rw [bif_f (by simpa using e)]
  by_cases e:y = 15
  · rw [bif_t (by simpa using e),bif_t hlast,bif_t hlast]
    exact ⟨_,_,rfl,⟨hB.1,hB.2.1,hB.2.2.1,hB.2.2.2.1,hB.2.2.2.2⟩,hk3⟩
  rw [bif_f (by simpa using e)]
  by_cases e:y = 16
  · rw [bif_t (by simpa using e),bif_t hs0]
    exact ⟨_,_,rfl,⟨hB.1,hB.2.1,hB.2.2.1,hB.2.2.2.1,hB.2.2.2.2⟩,hk3⟩
  rw [bif_f (by simpa using e)]
  by_cases e:y = 17
  · rw [bif_t (by simpa using e)]
    exact ⟨_,_,rfl,⟨hB.1,hB.2.1,hB.2.2.1,Nat.zero_le _,hB.2.2.2.2⟩,hk3⟩
  rw [bif_f (by simpa using e)]
  by_cases e:y = 18
  · rw [bif_t (by simpa using e),bif_t hp0,bif_t hv0]
    exact ⟨_,_,rfl,bndOf hB.1 hB.2.1 hB.2.2.1 hB.2.2.2.1 (updB hP5 (by intro q h1 h2; exact ⟨h1,h2⟩)),hk3⟩
  rw [bif_f (by simpa using e)]
  exact ⟨_,_,rfl,hB,hk3⟩

theorem drawS (code:L Int) (h:code.len≤2 ^ 46):∃ (t:Tb) (k:Ca) (m:Int),g51 code = some ((t,(k,(m,()))),()) ∧ Bnd t ∧ BndC k:=by
  have h46:(2:Nat) ^ 46 = 70368744177664:=by decide
  obtain ⟨c0,q0,hc0⟩:=newCur code h
  obtain ⟨t,c1,q1,hB,hc1⟩:=anyT c0 hc0
  have h':=h
  rw [h46] at h'
  have hz:1≤f85 code 30 ∧ f85 code 30≤30:=by
    unfold f85
    rw [Int.tdiv_eq_ediv_of_nonneg (by omega),wI_id (n:=(code.len:Int) / 20) (by omega) (by omega),wI_id (by omega) (by omega)]
    cases hq:decide (2 + (code.len:Int) / 20 > 30) with
    | true=>simp
    | false=>simp at hq ⊢; omega
  obtain ⟨n,c2,q2,n0,n1,hc2⟩:=below c1 hc1 (f85 code 30) hz.1 (by omega)
  obtain ⟨k,c3,q3,hk,hc3⟩:=cacheS c2 hc2 t.2.1 n (by omega)
  obtain ⟨m,c4,q4,_,_,hc4⟩:=below c3 hc3 4 (by omega) (by omega)
  obtain ⟨b,c5,q5,hc5⟩:=once c4 hc4 3 (by omega) (by omega)
  have hkb:BndC k:=by
    rcases hk with hk | hk
    · exact hk.bnd
    · exact ⟨by omega,fun i hi=>by omega⟩
  unfold g51
  simp only [q0,q1,q2,q3,q4,q5,Option.bind_some]
  cases b with
  | true =>
    rw [bif_t rfl]
    obtain ⟨n,hn⟩:∃ n:Int,g55 t = some ((n,()),()):=by
      obtain ⟨b,h1,h2,h3⟩:=sound_wf t (wf_of_bnd hB)
      cases b with
      | true=>obtain ⟨n,e,_⟩:=carry t h1 (h3 rfl); exact ⟨n,e⟩
      | false=>exact ⟨-1,unsound t h1⟩
    obtain ⟨v,c6,q6,_,hc6⟩:=pickIn c5 hc5 (Ty.zero (.int .i64)) [0,0,1] (by simp) (by simp)
    obtain ⟨b2,c7,q7,hc7⟩:=once c6 hc6 15 (by omega) (by omega)
    simp only [hn,q6,q7,Option.bind_some]
    cases b2 with
    | true =>
      rw [bif_t rfl]
      obtain ⟨k',c8,q8,hk',_⟩:=anyD c7 hc7 code h
      rw [q8]
      exact ⟨_,_,_,rfl,hB,hk'⟩
    | false=>exact ⟨_,_,_,rfl,hB,hkb⟩
  | false =>
    rw [bif_f rfl]
    obtain ⟨b2,c7,q7,hc7⟩:=once c5 hc5 15 (by omega) (by omega)
    simp only [q7,Option.bind_some]
    cases b2 with
    | true =>
      rw [bif_t rfl]
      obtain ⟨k',c8,q8,hk',_⟩:=anyD c7 hc7 code h
      rw [q8]
      exact ⟨_,_,_,rfl,hB,hk'⟩
    | false=>exact ⟨_,_,_,rfl,hB,hkb⟩


theorem ok4 (row:L Wy) (hl:row.len≤1048576) (j:Nat) (hj:j < row.len) (r:Int) (c:Ca):∃ d,fixO s54_L4 (((),(r,(row,((j:Int),((0:Int),()))))),(c,())) = some d ∧
    ((d = .inl ((false,()),()) ∧ ∃ i,i < j ∧ (row.get i).1 = (row.get j).1) ∨ (d = .inr (.inl (((),(r,(row,((j:Int),())))),(c,()))) ∧ ∀ i,i < j→(row.get i).1 ≠ (row.get j).1)) :=
  loop_n (step:=s54_L4) j (fun i y=>y = (((),(r,(row,((j:Int),((i:Int),()))))),(c,())) ∧ ∀ k,k < i→(row.get k).1 ≠ (row.get j).1) _
    (by
      rintro i _ hi ⟨rfl,h⟩
      simp only [s54_L4,q54_L4]
      rw [bif_t (idx_lt hi),bif_t (idx_in (Nat.lt_trans hi hj)),bif_t (idx_in hj),Int.toNat_natCast,Int.toNat_natCast]
      by_cases e:(row.get i).1 = (row.get j).1
      · rw [bif_t (by simpa using e)]
        exact .inr ⟨_,rfl,.inl ⟨rfl,i,hi,e⟩⟩
      · rw [bif_f (by simpa using e),wI_succ hi (by omega)]
        refine .inl ⟨_,rfl,rfl,fun k hk=>?_⟩
        by_cases q:k = i
        · subst q; exact e
        · exact h k (by omega))
    (by
      rintro _ ⟨rfl,h⟩
      simp only [s54_L4,q54_L4]
      rw [bif_f (idx_end j)]
      exact ⟨_,rfl,.inr ⟨rfl,h⟩⟩) _ ⟨rfl,fun k hk=>absurd hk (Nat.not_lt_zero k)⟩

def TagsG (row:L Wy):Prop:=(∀ i,i < row.len→0≤(row.get i).1 ∧ (row.get i).1≤65535) ∧ ∀ i k,i < k→k < row.len→(row.get i).1 ≠ (row.get k).1

theorem ok2 (row:L Wy) (hl:row.len≤1048576) (r:Int) (c:Ca):∃ d,fixO s54_L2 (((),(r,(row,((0:Int),())))),(c,())) = some d ∧
    ((d = .inl ((false,()),()) ∧ ¬ TagsG row) ∨ (d = .inr (.inl (((),(r,())),(c,()))) ∧ TagsG row)) :=
  loop_n (step:=s54_L2) row.len (fun i y=>y = (((),(r,(row,((i:Int),())))),(c,())) ∧ (∀ k,k < i→0≤(row.get k).1 ∧ (row.get k).1≤65535) ∧ ∀ a b,a < b→b < i→(row.get a).1 ≠ (row.get b).1) _
    (by
      rintro i _ hi ⟨rfl,h1,h2⟩
      simp only [s54_L2,q54_L2]
      rw [bif_t (idx_lt hi),bif_t (idx_in hi),Int.toNat_natCast]
      cases hf:f60 (row.get i).1 0 65535 with
      | false =>
        refine .inr ⟨_,rfl,.inl ⟨rfl,fun q=>?_⟩⟩
        have:=(f60_iff _ _ _).mpr (q.1 i hi)
        rw [hf] at this; cases this
      | true =>
        have hf:=(f60_iff _ _ _).mp hf
        obtain ⟨d,e1,e2⟩:=ok4 row hl i hi r c
        simp only [Bool.not_true,cond_false]
        rw [e1]
        rcases e2 with ⟨rfl,k,k1,k2⟩ | ⟨rfl,k⟩
        · exact .inr ⟨_,rfl,.inl ⟨rfl,fun q=>q.2 k i k1 hi k2⟩⟩
        · simp only [Option.bind_some]
          rw [wI_succ hi (by omega)]
          refine .inl ⟨_,rfl,rfl,fun m hm=>?_,fun a b hab hb=>?_⟩
          · by_cases q:m = i
            · subst q; exact hf
            · exact h1 m (by omega)
          · by_cases q:b = i
            · subst q; exact k a hab
            · exact h2 a b hab (by omega))
    (by
      rintro _ ⟨rfl,h1,h2⟩
      simp only [s54_L2,q54_L2]
      rw [bif_f (idx_end row.len)]
      exact ⟨_,rfl,.inr ⟨rfl,h1,h2⟩⟩) _ ⟨rfl,fun k hk=>absurd hk (Nat.not_lt_zero k),fun a b _ hb=>absurd hb (Nat.not_lt_zero b)⟩

theorem cacheOk (c:Ca) (h:BndC c):∃ b:Bool,g54 c = some ((b,()),()) ∧ (b = true ↔ CaG c):=by
  obtain ⟨hl,hw⟩:=h
  unfold g54
  cases hs:f105 c.1 with
  | false=>exact ⟨false,rfl,by simp [CaG,hs]⟩
  | true =>
    simp only [Bool.not_true,cond_false]
    cases hn:((c.2.1.len:Int) != c.1.1) with
    | true=>exact ⟨false,rfl,by simp at hn; simp [CaG,hn]⟩
    | false =>
      simp only [cond_false]
      have hn:(c.2.1.len:Int) = c.1.1:=by simpa using hn
      obtain ⟨d,e1,e2⟩:=loop_n (step:=s54_L0) c.2.1.len (fun i y=>y = (((),((i:Int),())),(c,())) ∧ ∀ k,k < i→RowG c.1.2.1 (c.2.1.get k)) (fun d=>(d = .inl ((false,()),()) ∧ ¬ CaG c) ∨ (d = .inr (.inl ((),())) ∧ CaG c))
        (by
          rintro i _ hi ⟨rfl,h⟩
          simp only [s54_L0,q54_L0]
          rw [bif_t (idx_lt hi),bif_t (idx_in hi),Int.toNat_natCast]
          by_cases hy:((c.2.1.get i).len:Int) > c.1.2.1
          · rw [bif_t (by simpa using hy)]
            exact .inr ⟨_,rfl,.inl ⟨rfl,fun q=>by have:=(q.2.2 i hi).1; omega⟩⟩
          · rw [bif_f (by simpa using hy)]
            obtain ⟨d,e1,e2⟩:=ok2 (c.2.1.get i) (hw i hi) (i:Int) c
            rw [e1]
            rcases e2 with ⟨rfl,k⟩ | ⟨rfl,k⟩
            · exact .inr ⟨_,rfl,.inl ⟨rfl,fun q=>k (q.2.2 i hi).2⟩⟩
            · simp only [Option.bind_some]
              rw [wI_succ hi (by omega)]
              refine .inl ⟨_,rfl,rfl,fun m hm=>?_⟩
              by_cases q:m = i
              · subst q; exact ⟨by omega,k⟩
              · exact h m (by omega))
        (by
          rintro _ ⟨rfl,h⟩
          simp only [s54_L0,q54_L0]
          rw [bif_f (idx_end c.2.1.len)]
          exact ⟨_,rfl,.inr ⟨rfl,hs,hn,h⟩⟩) _ ⟨rfl,fun k hk=>absurd hk (Nat.not_lt_zero k)⟩
      have e1':fixO s54_L0 (((),((0:Int),())),(c,())) = some d:=e1
      rw [e1']
      rcases e2 with ⟨rfl,k⟩ | ⟨rfl,k⟩
      · exact ⟨false,rfl,by simp [k]⟩
      · exact ⟨true,rfl,by simp [k]⟩


theorem dirts (c:Ca) (h:BndC c):∀ {b2_0 b2_1 b2_2 b2_3:_},∃ n:Int,fixO s57r_L0 (((),((),((0:Int),((0:Int),())))),(c,((b2_0,(b2_1,(b2_2,(b2_3,())))),()))) = some (.inl (((),((),(n,()))),(c,((b2_0,(b2_1,(b2_2,((),())))),(b2_3,()))))) ∧ g137 c = some ((n,()),()):=by
  intro b2_0 b2_1 b2_2 b2_3
  obtain ⟨hl,hw⟩:=h
  unfold g137
  generalize hx:c.2.1 = x at *
  obtain ⟨d,e,e1,e2,n,rfl,rfl⟩:=fixO_sim (s1:=s57r_L0) (s2:=s137_L0)
    (fun a b=>∃ (r:Nat) (n:Int),a = (((),((),(n,((r:Int),())))),(c,((b2_0,(b2_1,(b2_2,(b2_3,())))),()))) ∧ b = ((n,(x,((x.len:Int),((r:Int),())))),()) ∧ r≤x.len)
    (fun d e=>∃ n,d = .inl (((),((),(n,()))),(c,((b2_0,(b2_1,(b2_2,((),())))),(b2_3,())))) ∧ e = .inl ((n,()),())) (fun a=>x.len - a.1.2.2.2.1.toNat) (by
      rintro _ _ ⟨r,n,rfl,rfl,hr⟩
      simp only [s57r_L0,q57r_L0,s137_L0,q137_L0]
      rw [hx]
      by_cases hlt:r < x.len
      · left
        rw [bif_t (idx_lt hlt),bif_t (idx_lt hlt),bif_t (idx_in hlt),Int.toNat_natCast]
        have hrow:=hw r hlt
        have key:∀ {b2_0 b2_1 b2_2 r60131:_},∃ m:Int,fixO s57r_L2 (((),((),(n,((r:Int),((0:Int),()))))),(c,((b2_0,(b2_1,(b2_2,((),())))),(r60131,())))) = some (.inl (((),((),(m,((r:Int),())))),(c,((b2_0,(b2_1,(b2_2,((),())))),(r60131,()))))) ∧ fixO s137_L2 ((n,(x,((x.len:Int),((r:Int),(x.get r,(((x.get r).len:Int),((0:Int),()))))))),()) = some (.inl ((m,(x,((x.len:Int),((r:Int),())))),())):=by
          intro b2_0 b2_1 b2_2 r60131
          obtain ⟨d,e,i1,i2,m,rfl,rfl⟩:=fixO_sim (s1:=s57r_L2) (s2:=s137_L2)
            (fun a b=>∃ (i:Nat) (n:Int),a = (((),((),(n,((r:Int),((i:Int),()))))),(c,((b2_0,(b2_1,(b2_2,((),())))),(r60131,())))) ∧ b = ((n,(x,((x.len:Int),((r:Int),(x.get r,(((x.get r).len:Int),((i:Int),()))))))),()) ∧ i≤(x.get r).len)
            (fun d e=>∃ n,d = .inl (((),((),(n,((r:Int),())))),(c,((b2_0,(b2_1,(b2_2,((),())))),(r60131,())))) ∧ e = .inl ((n,(x,((x.len:Int),((r:Int),())))),())) (fun a=>(x.get r).len - a.1.2.2.2.2.1.toNat) (by
              rintro _ _ ⟨i,n,rfl,rfl,hi⟩
              simp only [s57r_L2,q57r_L2,s137_L2,q137_L2]
              rw [hx,bif_t (idx_in hlt),Int.toNat_natCast]
              by_cases hit:i < (x.get r).len
              · left
                rw [bif_t (idx_lt hit),bif_t (idx_in hlt),bif_t (idx_in hit),bif_t (idx_lt hit),bif_t (idx_in hit),Int.toNat_natCast,wI_succ hit (by omega)]
                cases ((x.get r).get i).2.1 with
                | true=>exact ⟨_,_,rfl,rfl,⟨i + 1,_,rfl,rfl,hit⟩,by simp only [Int.toNat_natCast]; omega⟩
                | false=>exact ⟨_,_,rfl,rfl,⟨i + 1,_,rfl,rfl,hit⟩,by simp only [Int.toNat_natCast]; omega⟩
              · right
                have:i = (x.get r).len:=by omega
                subst this
                exact ⟨_,_,bif_f (idx_end (x.get r).len),bif_f (idx_end (x.get r).len),n,rfl,rfl⟩) _ _ ⟨0,n,rfl,rfl,Nat.zero_le _⟩
          exact ⟨m,i1,i2⟩
        obtain ⟨m,i1,i2⟩:=@key b2_0 b2_1 b2_2 b2_3
        rw [i1,i2]
        simp only [Option.bind_some]
        rw [wI_succ hlt (by omega)]
        exact ⟨_,_,rfl,rfl,⟨r + 1,m,rfl,rfl,hlt⟩,by simp only [Int.toNat_natCast]; omega⟩
      · right
        have:r = x.len:=by omega
        subst this
        exact ⟨_,_,bif_f (idx_end x.len),bif_f (idx_end x.len),n,rfl,rfl⟩) _ _ ⟨0,0,rfl,rfl,Nat.zero_le _⟩
  have e2':fixO s137_L0 (((0:Int),(x,((x.len:Int),((0:Int),())))),()) = _:=e2
  rw [e2']
  exact ⟨n,e1,rfl⟩

theorem flush (c:Ca) (h:BndC c) (h95d:g54 c = some ((true,()),())) (hs:f105 c.1 = true):∃ (r:Ca) (n:Int),g57r c = some ((r,(n,())),()) ∧ g137 c = some ((n,()),()):=by
  obtain ⟨n,n1,n2⟩:=dirts c h (b2_0:=(0:Int)) (b2_1:=(0:Int)) (b2_2:=(0:Int)) (b2_3:=nilL (.sl (.pair (.int .i64) (.pair .bool .unit))))
  obtain ⟨r,r1,_⟩:=emptyD c.1 hs
  unfold g57r
  rw [h95d]
  simp only [Option.bind_some,Bool.not_true,cond_false]
  rw [n1]
  simp only [Option.bind_some]
  rw [r1]
  exact ⟨r,n,rfl,n2⟩


theorem dirtB (c:Ca) (w:Int) (hw:0≤w ∧ w≤4) (hl:c.2.1.len≤16) (hr:∀ r,r < c.2.1.len→((c.2.1.get r).len:Int)≤w):∃ n:Int,g137 c = some ((n,()),()) ∧ 0≤n ∧ n≤c.2.1.len * w:=by
  unfold g137
  generalize hx:c.2.1 = x at *
  obtain ⟨d,e1,n,rfl,e2⟩:=loop_n (step:=s137_L0) x.len (fun i y=>∃ n:Int,y = ((n,(x,((x.len:Int),((i:Int),())))),()) ∧ 0≤n ∧ n≤i * w) (fun d=>∃ n:Int,d = .inl ((n,()),()) ∧ 0≤n ∧ n≤x.len * w)
    (by
      rintro i _ hi ⟨n,rfl,n0,n1⟩
      left
      simp only [s137_L0,q137_L0]
      rw [bif_t (idx_lt hi),bif_t (idx_in hi),Int.toNat_natCast]
      have hri:=hr i hi
      have hiw:(i:Int) * w≤16 * 4:=Int.mul_le_mul (by omega) (by omega) (by omega) (by omega)
      obtain ⟨d,e1,m,rfl,e2⟩:=loop_n (step:=s137_L2) (x.get i).len (fun k y=>∃ m:Int,y = ((m,(x,((x.len:Int),((i:Int),(x.get i,(((x.get i).len:Int),((k:Int),()))))))),()) ∧ n≤m ∧ m≤n + k) (fun d=>∃ m:Int,d = .inl ((m,(x,((x.len:Int),((i:Int),())))),()) ∧ n≤m ∧ m≤n + (x.get i).len)
        (by
          rintro k _ hk ⟨m,rfl,m0,m1⟩
          left
          simp only [s137_L2,q137_L2]
          rw [bif_t (idx_lt hk),bif_t (idx_in hk),wI_succ hk (by omega)]
          cases (L.get (x.get i) ((k:Int)).toNat).2.1 with
          | true=>exact ⟨_,rfl,wI (m + 1),rfl,by rw [wI_id (by omega) (by omega)]; omega,by rw [wI_id (by omega) (by omega)]; omega⟩
          | false=>exact ⟨_,rfl,m,rfl,by omega,by omega⟩)
        (by
          rintro _ ⟨m,rfl,m0,m1⟩
          simp only [s137_L2,q137_L2]
          exact ⟨_,bif_f (idx_end _),m,rfl,m0,m1⟩) _ ⟨n,rfl,Int.le_refl n,by simp⟩
      have e1':fixO s137_L2 ((n,(x,((x.len:Int),((i:Int),(x.get i,(((x.get i).len:Int),((0:Int),()))))))),()) = _:=e1
      rw [e1']
      simp only [Option.bind_some]
      rw [wI_succ hi (by omega)]
      refine ⟨_,rfl,m,rfl,by omega,?_⟩
      have:((i + 1:Nat):Int) * w = i * w + w:=by rw [Int.natCast_add,Int.add_mul]; simp
      rw [this]; omega)
    (by
      rintro _ ⟨n,rfl,n0,n1⟩
      simp only [s137_L0,q137_L0]
      exact ⟨_,bif_f (idx_end _),n,rfl,n0,n1⟩) _ ⟨0,rfl,Int.le_refl 0,by simp⟩
  have e1':fixO s137_L0 (((0:Int),(x,((x.len:Int),((0:Int),())))),()) = _:=e1
  rw [e1']
  exact ⟨n,rfl,e2⟩

theorem worstF (t:Tb) (hF:Facts t):∃ S:Int,g99 t = some ((S,()),()) ∧ 0≤S ∧ S≤64 ∧ g107 t.2.2.2.1 t.2.1 (tChans t) = some ((16 * t.2.2.2.1.1 + t.2.1.1 * t.2.1.2.1 * t.2.2.2.1.2.2.2.2.2.2.1 + t.2.2.2.1.1 * S,()),()):=by
  obtain ⟨hco,_,_,_,hsh,_,_,_,_,hl,_,hc,_⟩:=hF
  obtain ⟨c1,_,_,_,_,_,c7⟩:=costs_of hco
  obtain ⟨s1,s2,_⟩:=shapeG hsh
  generalize hK:t.2.1.1 * t.2.1.2.1 = SW
  have hSW:0≤SW ∧ SW≤64:=by
    rw [← hK]
    have a:=Int.mul_le_mul s1.2 s2.2 (by omega) (by omega)
    have b:=Int.mul_nonneg (show 0≤t.2.1.1 by omega) (show 0≤t.2.1.2.1 by omega)
    omega
  have hLC:0≤SW * t.2.2.2.1.2.2.2.2.2.2.1 ∧ SW * t.2.2.2.1.2.2.2.2.2.2.1≤64 * 50:=⟨Int.mul_nonneg (by omega) (by omega),Int.mul_le_mul (by omega) (by omega) (by omega) (by omega)⟩
  unfold g99 g107
  have w1:wI (t.2.1.1 * t.2.1.2.1) = SW:=by rw [hK]; exact wI_id (by omega) (by omega)
  rw [w1,wI_id (n:=16 * t.2.2.2.1.1) (by omega) (by omega),wI_id (n:=SW * _) (by omega) (by omega),wI_id (n:=16 * t.2.2.2.1.1 + _) (by omega) (by omega)]
  generalize hKK:16 * t.2.2.2.1.1 + SW * t.2.2.2.1.2.2.2.2.2.2.1 = K
  have hKb:0≤K ∧ K≤4000:=by omega
  obtain ⟨d,e,q1,q2,m,rfl,rfl,m0,m1⟩:=fixO_sim (s1:=s99_L0) (s2:=s107_L0)
    (fun a b=>∃ (i:Nat) (m:Int),a = ((m,(tChans t,(((tChans t).len:Int),((i:Int),())))),()) ∧ b = (((),(K + t.2.2.2.1.1 * m,(tChans t,(((tChans t).len:Int),((i:Int),()))))),(t.2.2.2.1,())) ∧ 0≤m ∧ m≤8 * i ∧ i≤(tChans t).len)
    (fun d e=>∃ m:Int,d = .inl ((m,()),()) ∧ e = .inl ((K + t.2.2.2.1.1 * m,()),()) ∧ 0≤m ∧ m≤64) (fun a=>(tChans t).len - a.1.2.2.2.1.toNat) (by
      rintro _ _ ⟨i,m,rfl,rfl,m0,m1,hi⟩
      simp only [s99_L0,q99_L0,s107_L0,q107_L0]
      by_cases hlt:i < (tChans t).len
      · left
        rw [bif_t (idx_lt hlt),bif_t (idx_lt hlt),bif_t (idx_in hlt),bif_t (idx_in hlt),wI_succ hlt (by omega),Int.toNat_natCast]
        have f:=(hc i hlt).1
        generalize (tChans t).get i = s at f
        have hd:1≤f136 s ∧ f136 s≤8:=by
          unfold f136
          rcases chan_of f with ⟨k0,d0⟩ | ⟨k1,d1,d2⟩
          · rw [if_neg (by omega)]; omega
          · split <;> omega
        have hbm:0≤t.2.2.2.1.1 * m ∧ t.2.2.2.1.1 * m≤20 * 64:=⟨Int.mul_nonneg (by omega) (by omega),Int.mul_le_mul (by omega) (by omega) (by omega) (by omega)⟩
        have hbf:0≤t.2.2.2.1.1 * f136 s ∧ t.2.2.2.1.1 * f136 s≤20 * 8:=⟨Int.mul_nonneg (by omega) (by omega),Int.mul_le_mul (by omega) (by omega) (by omega) (by omega)⟩
        refine ⟨_,_,rfl,rfl,⟨i + 1,m + f136 s,?_,?_,by omega,by omega,hlt⟩,by simp only [Int.toNat_natCast]; omega⟩
        · rw [wI_id (n:=m + f136 s) (by omega) (by omega)]
        · rw [wI_id (n:=t.2.2.2.1.1 * f136 s) (by omega) (by omega),wI_id (by omega) (by omega),Int.mul_add,Int.add_assoc]
      · right
        have:i = (tChans t).len:=by omega
        subst this
        exact ⟨_,_,bif_f (idx_end _),bif_f (idx_end _),m,rfl,rfl,m0,by omega⟩)
    (((0:Int),(tChans t,(((tChans t).len:Int),((0:Int),())))),()) (((),(K,(tChans t,(((tChans t).len:Int),((0:Int),()))))),(t.2.2.2.1,())) ⟨0,0,rfl,by simp,by omega,by omega,Nat.zero_le _⟩
  have q1':fixO s99_L0 (((0:Int),(t.2.2.2.2.2.2.2.2.2.1,((t.2.2.2.2.2.2.2.2.2.1.len:Int),((0:Int),())))),()) = _:=q1
  rw [q1',q2]
  exact ⟨m,rfl,m0,m1,rfl⟩

theorem zeros:(bif (((0:Int) == 0)&&(((0:Int) == 0)&&(((0:Int) == 0)&&(((0:Int) == 0)&&true)))) then some ((((f56 ((0:Int),((0:Int),((0:Int),((0:Int),()))))) == (0:Int)),()),()) else some ((false,()),())) = some ((true,()),()):=by decide +kernel

theorem f61_iff (a b c:Int):f61 a b c = true ↔ b≤a ∧ a≤c:=f60_iff a b c

theorem law (code:L Int) (hl:code.len≤1048576 ∨ (code.len:Int) > 1048576):g12 code = some ((true,()),()):=by
  unfold g12
  by_cases hbig:(code.len:Int) > 1048576
  · rw [bif_t (show f37 code = true from decide_eq_true hbig)]
  rw [bif_f (show f37 code = false from decide_eq_false hbig)]
  obtain ⟨t,k,m,e1,hB,hK⟩:=drawS code (by omega)
  rw [e1]
  simp only [Option.bind_some]
  obtain ⟨b,b1,b2,b3⟩:=sound_wf t (wf_of_bnd hB)
  obtain ⟨d,d1,d2,d3⟩:=caches k hK
  obtain ⟨d',d1',d4⟩:=cacheOk k hK
  obtain rfl:d = d':=by rw [d1] at d1'; simpa using d1'
  unfold g52
  rw [b1,b2,d1,d2]
  simp only [Option.bind_some]
  cases b with
  | false =>
    simp only [Bool.not_false,cond_true,Option.bind_some]
    exact zeros
  | true =>
    simp only [Bool.not_true,cond_false]
    cases d with
    | false =>
      simp only [Bool.not_false,cond_true,Option.bind_some]
      exact zeros
    | true =>
      simp only [Bool.not_true,cond_false]
      cases hsh:((k.1.1 == t.2.1.1)&&((k.1.2.1 == t.2.1.2.1)&&((k.1.2.2.1 == t.2.1.2.2.1)&&true))) with
      | false =>
        simp only [Bool.not_false,cond_true,Option.bind_some]
        exact zeros
      | true =>
        simp only [Bool.not_true,cond_false]
        have hF:=b3 rfl
        obtain ⟨S,w1,w2,w3,w4⟩:=worstF t hF
        obtain ⟨q,p1,p2⟩:=carry t b1 hF
        obtain rfl:S = q:=by rw [w1] at p2; simpa using p2
        rw [p1,w1]
        simp only [Option.bind_some]
        have hG:=d4.mp rfl
        by_cases hm:¬ (0≤m ∧ m≤S)
        · have hf:f61 m 0 S = false:=by
            cases hq:f61 m 0 S with
            | false=>rfl
            | true=>exact absurd ((f61_iff _ _ _).mp hq) hm
          rw [hf]
          simp only [Bool.not_false,cond_true,Option.bind_some]
          by_cases h0:m < 0
          · rw [bif_t (show decide (m < 0) = true from decide_eq_true h0)]
            exact zeros
          · rw [bif_f (show decide (m < 0) = false from decide_eq_false h0),bif_t (show decide (m > S) = true from decide_eq_true (by omega))]
            exact zeros
        have hm:0≤m ∧ m≤S:=Decidable.of_not_not hm
        have hf:f61 m 0 S = true:=(f61_iff _ _ _).mpr hm
        obtain ⟨hco,hpd,_,_,hsp,_,_,_,_,_,_,_,_,_,pn,pn1,pn2,pn3⟩:=hF
        obtain ⟨c1,_,_,_,_,_,c7⟩:=costs_of hco
        obtain ⟨s1,s2,_⟩:=shapeG hsp
        simp only [Bool.and_eq_true,beq_iff_eq,and_true] at hsh
        obtain ⟨r,n,r1,r2⟩:=flush k hK d1 (d3 rfl)
        obtain ⟨n',n1,n2,n3⟩:=dirtB k k.1.2.1 (by omega) (by have:=hG.2.1; omega) (fun r hr=>(hG.2.2 r hr).1)
        obtain rfl:n = n':=by rw [r2] at n1; simpa using n1
        rw [hG.2.1,hsh.1,hsh.2.1] at n3
        rw [w4] at pn2
        have hpn:pn = 16 * t.2.2.2.1.1 + t.2.1.1 * t.2.1.2.1 * t.2.2.2.1.2.2.2.2.2.2.1 + t.2.2.2.1.1 * S:=by simpa using pn2.symm
        rw [hf]
        simp only [Bool.not_true,cond_false]
        unfold g100
        rw [r2]
        simp only [Option.bind_some]
        rw [bif_f (show decide (m < 0) = false from decide_eq_false (by omega)),bif_f (show decide (m > S) = false from decide_eq_false (by omega)),r1]
        simp only [Option.bind_some]
        have ea:t.2.2.2.1.2.2.2.2.2.2.1 * n≤t.2.2.2.1.2.2.2.2.2.2.1 * (t.2.1.1 * t.2.1.2.1):=Int.mul_le_mul_of_nonneg_left n3 (by omega)
        have ea0:0≤t.2.2.2.1.2.2.2.2.2.2.1 * n:=Int.mul_nonneg (by omega) n2
        have eb:t.2.2.2.1.1 * m≤t.2.2.2.1.1 * S:=Int.mul_le_mul_of_nonneg_left (by omega) (by omega)
        have eb0:0≤t.2.2.2.1.1 * m:=Int.mul_nonneg (by omega) (by omega)
        rw [Int.mul_comm n,Int.mul_comm m]
        rw [Int.mul_comm t.2.2.2.1.2.2.2.2.2.2.1 (t.2.1.1 * t.2.1.2.1)] at ea
        generalize t.2.2.2.1.2.2.2.2.2.2.1 * n = F at *
        generalize t.2.1.1 * t.2.1.2.1 * t.2.2.2.1.2.2.2.2.2.2.1 = FM at *
        generalize t.2.2.2.1.1 * m = C at *
        generalize t.2.2.2.1.1 * S = CM at *
        unfold g58 g59
        rw [b2]
        simp only [Option.bind_some,Bool.not_true,cond_false]
        have w4':g107 t.2.2.2.1 t.2.1 t.2.2.2.2.2.2.2.2.2.1 = some ((16 * t.2.2.2.1.1 + FM + CM,()),()):=w4
        rw [w4',w1]
        simp only [Option.bind_some]
        unfold f56
        simp only
        rw [wI_id (n:=F) (by omega) (by omega),wI_id (n:=C) (by omega) (by omega),wI_id (n:=16 * t.2.2.2.1.1) (by omega) (by omega),wI_id (n:=t.2.2.2.2.1 - F) (by omega) (by omega),wI_id (n:=t.2.2.2.2.1 - F - 16 * t.2.2.2.1.1) (by omega) (by omega),wI_id (n:=t.2.2.2.2.1 - F - 16 * t.2.2.2.1.1 - C) (by omega) (by omega),wI_id (n:=F + 16 * t.2.2.2.1.1) (by omega) (by omega),wI_id (n:=F + 16 * t.2.2.2.1.1 + C) (by omega) (by omega),wI_id (n:=t.2.2.2.2.1 - (16 * t.2.2.2.1.1 + FM + CM)) (by omega) (by omega),
          wI_id (n:=F + 16 * t.2.2.2.1.1 + C + (t.2.2.2.2.1 - F - 16 * t.2.2.2.1.1 - C)) (by omega) (by omega)]
        rw [bif_t (by simp only [beq_iff_eq]; omega),bif_t (by simp only [decide_eq_true_eq]; omega),bif_t (by simp only [decide_eq_true_eq]; omega),bif_t (by simp),bif_t (by simp)]
        rw [show decide (S ≥ m) = true from decide_eq_true (by omega)]

theorem plain:∀ x,wfIns tysOf x→∃ z,c12.F x = some ((true,()),z):=by
  rintro ⟨code,⟨⟩⟩ hw
  exact ⟨(),law code (by omega)⟩



end Go.VE.VFnPadded
