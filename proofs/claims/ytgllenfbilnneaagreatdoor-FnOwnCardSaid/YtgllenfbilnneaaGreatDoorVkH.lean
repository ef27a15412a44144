import Derived.Test.YtgllenfbilnneaaGreatDoorVkG
import Derived.Laws.AppendOwn
/- Each operation of the evaluator is what the machine does: append. -/
namespace Go.VE
theorem bC.one {c:Nat→Nat→Col} {w:World}:∀ {t:Ty} {x:t.T} {vs:List Value},bC c w t x vs→∀ v ∈ vs,v.oneCell' = true:=by
 intro t
 induction t with
 | int k=>rintro x vs rfl; simp [Value.oneCell']
 | bool=>rintro x vs rfl; simp [Value.oneCell']
 | str=>rintro x vs rfl; simp [Value.oneCell']
 | unit=>rintro x vs rfl; simp
 | pair a b iha ihb =>
   rintro x vs ⟨v1,v2,rfl,h1,h2⟩ v hv
   rcases List.mem_append.mp hv with hv | hv
   · exact iha h1 v hv
   · exact ihb h2 v hv
 | sl t ih=>rintro x vs ⟨a,cap,rfl,_⟩; simp [Value.oneCell']
theorem bD.one {c:Nat→Nat→Col} {w:World} {R:iI} {nh:Nat→Nat→bT} {own:Bool} {i:Nat}:∀ {t:Ty} {x:t.T} {vs:List Value} {j:Nat},bD c w R nh own i t x vs j→∀ v ∈ vs,v.oneCell' = true:=by
 intro t
 induction t with
 | int k=>rintro x vs j rfl; simp [Value.oneCell']
 | bool=>rintro x vs j rfl; simp [Value.oneCell']
 | str=>rintro x vs j rfl; simp [Value.oneCell']
 | unit=>rintro x vs j rfl; simp
 | pair a b iha ihb =>
   rintro x vs j ⟨v1,v2,rfl,h1,h2⟩ v hv
   rcases List.mem_append.mp hv with hv | hv
   · exact iha h1 v hv
   · exact ihb h2 v hv
 | sl t ih=>rintro x vs j ⟨rfl,_⟩; simp [gP,Value.oneCell']
theorem bD.of_flat {c c':Nat→Nat→Col} {w w':World} {R:iI} {nh:Nat→Nat→bT} {own:Bool} {i:Nat}:∀ {t:Ty} {x:t.T} {vs:List Value} {j:Nat},t.flat = true→bC c w t x vs→bD c' w' R nh own i t x vs j:=by
 intro t
 induction t with
 | int k=>exact fun _ h=>h
 | bool=>exact fun _ h=>h
 | str=>exact fun _ h=>h
 | unit=>exact fun _ h=>h
 | pair a b iha ihb =>
   rintro x vs j hf ⟨v1,v2,e,h1,h2⟩
   simp only [Ty.flat,Bool.and_eq_true] at hf
   exact ⟨v1,v2,e,iha hf.1 h1,ihb hf.2 h2⟩
 | sl t ih=>intro x vs j hf; simp [Ty.flat] at hf
theorem bD.Vw {c:Nat→Nat→Col} {w:World} {R:iI} {i:Nat}:∀ {t:Ty} {x:t.T} {vs:List Value} {j:Nat},bC c w t x vs→∃ nhi:Nat→bT,∀ nh:Nat→Nat→bT,(∀ j',j≤j'→j' < j + t.bJ→nh i j' = nhi j')→bD c w R nh false i t x vs j:=by
 intro t
 induction t with
 | int k=>exact fun h=>⟨fun _=>(none,0,0),fun _ _=>h⟩
 | bool=>exact fun h=>⟨fun _=>(none,0,0),fun _ _=>h⟩
 | str=>exact fun h=>⟨fun _=>(none,0,0),fun _ _=>h⟩
 | unit=>exact fun h=>⟨fun _=>(none,0,0),fun _ _=>h⟩
 | pair a b iha ihb =>
   rintro x vs j ⟨v1,v2,e,h1,h2⟩
   obtain ⟨n1,q1⟩:=iha (j:=j) h1
   obtain ⟨n2,q2⟩:=ihb (j:=j + a.bJ) h2
   refine ⟨fun j'=>if j' < j + a.bJ then n1 j' else n2 j',fun nh hn=>⟨v1,v2,e,q1 nh fun j' l1 l2=>?_,q2 nh fun j' l1 l2=>?_⟩⟩
   · rw [hn j' l1 (by simp only [Ty.bJ]; omega)]; exact if_pos l2
   · rw [hn j' (by omega) (by simp only [Ty.bJ]; omega)]; exact if_neg (by omega)
 | sl t ih =>
   intro x vs j h
   have h0:=h
   obtain ⟨a,cap,e,l1,l2,_⟩:=h
   refine ⟨fun _=>(a,x.len,cap),fun nh hn=>?_⟩
   have:=hn j (Nat.le_refl _) (by simp [Ty.bJ])
   exact ⟨by rw [this]; exact e,by rw [this]; exact ⟨rfl,l1,l2⟩,fun q=>(by cases q),fun _=>h0⟩
structure SrcE (c:Nat→Nat→Col) (w:World) (t:Ty) (b:L t.T) (own:Nat→Bool) (R:iI) (nh:Nat→Nat→bT) (news:List Value):Prop where
 len:news.length = b.len * t.size
 el:∀ i,i < b.len→∃ us,us.length = t.size ∧ bD c w R nh (own i) i t (b.get i) us 0 ∧ ∀ (q:Nat) (v:Value),us[q]? = some v→news[i * t.size + q]? = some v
structure Src (c:Nat→Nat→Col) (w:World) (t:Ty) (b:L t.T) (own:Nat→Bool) (R:iI) (nh:Nat→Nat→bT) (a2:Option Addr) (news:List Value):Prop extends SrcE c w t b own R nh news where
 one:∀ v ∈ news,v.oneCell' = true
 loc:∀ ad,a2 = some ad→(0 < b.len→ad.spot = none) ∧ ∀ (j:Nat) (v:Value),news[j]? = some v→w.cell? ⟨ad.block,ad.off + j,none⟩ = some v
 no:a2 = none→b.len = 0
theorem D5 {w:World} {Q:Nat→List Value→Prop} {P':Nat→Value→Prop} {sz:Nat} (hone:∀ i us,Q i us→∀ v ∈ us,v.oneCell' = true):∀ (n:Nat),(∀ i,i < n→∃ us:List Value,us.length = sz ∧ Q i us ∧ ∀ (q:Nat) (v:Value),us[q]? = some v→P' (i * sz + q) v) →
 ∃ news:List Value,news.length = n * sz ∧ (∀ v ∈ news,v.oneCell' = true) ∧ (∀ (j:Nat) (v:Value),news[j]? = some v→P' j v) ∧ ∀ i,i < n→∃ us:List Value,us.length = sz ∧ Q i us ∧ ∀ (q:Nat) (v:Value),us[q]? = some v→news[i * sz + q]? = some v
 | 0,_=>⟨[],by simp,by simp,by simp,fun i hi=>absurd hi (by omega)⟩
 | n + 1,h=>by
   obtain ⟨news,k1,k2,k3,k4⟩:=D5 (w:=w) hone n fun i hi=>h i (by omega)
   obtain ⟨us,h1,h2,h3⟩:=h n (by omega)
   refine ⟨news ++ us,by rw [List.length_append,k1,h1,Nat.add_mul,Nat.one_mul],fun v hv=>?_,fun j v hj=>?_,fun i hi=>?_⟩
   · rcases List.mem_append.mp hv with hv | hv
     · exact k2 v hv
     · exact hone n us h2 v hv
   · by_cases hj':j < news.length
     · rw [List.getElem?_append_left hj'] at hj; exact k3 j v hj
     · rw [List.getElem?_append_right (by omega)] at hj
       have:=h3 _ v hj
       rwa [show n * sz + (j - news.length) = j by omega] at this
   · by_cases hin:i < n
     · obtain ⟨vs,q1,q2,q3⟩:=k4 i hin
       exact ⟨vs,q1,q2,fun q v hq=>by rw [List.getElem?_append_left (List.getElem?_eq_some_iff.mp (q3 q v hq)).1]; exact q3 q v hq⟩
     · obtain rfl:i = n:=by omega
       exact ⟨us,h1,h2,fun q v hq=>by rw [List.getElem?_append_right (by omega),k1,Nat.add_sub_cancel_left]; exact hq⟩
theorem cB.src {c:Nat→Nat→Col} {w:World} {R:iI} {nh:Nat→Nat→bT} {own:Nat→Bool} {t:Ty} {x:L t.T} {h:bT} (hr:cB c w R nh own t x h):∃ news,Src c w t x own R nh h.1 news:=by
 obtain ⟨⟨h0,h1,h2,h3⟩,h4,h5⟩:=hr
 cases hh:h.1 with
 | none =>
   have h0:x.len = 0:=by have:=h2 hh; omega
   exact ⟨[],⟨by simp [h0],fun i hi=>by omega⟩,by simp,fun ad e=>(by cases e),fun _=>h0⟩
 | some ad =>
   obtain ⟨news,k1,k2,k3,k4⟩:=D5 (w:=w) (P':=fun j v=>w.cell? ⟨ad.block,ad.off + j,none⟩ = some v) (Q:=fun i us=>bD c w R nh (own i) i t (x.get i) us 0) (fun i us hq=>hq.one) x.len fun i hi=>by
    obtain ⟨us,q1,q2,q3⟩:=h5 i hi
    exact ⟨us,q1,q2,fun q v hq=>by rw [← Nat.add_assoc]; exact q3 ad hh q v hq⟩
   exact ⟨news,⟨k1,k4⟩,k2,fun yB e=>(by cases e; exact ⟨fun _=>(h4 ad hh).1,k3⟩),fun e=>(by cases e)⟩
theorem NG {c c':Nat→Nat→Col} {w:World} {t:Ty} {x:L t.T} {h:bT} (hr:bC c w (.sl t) x [gP h]) (R:iI) (hc:t.flat = true ∨ c = c'):∃ nh news,∀ own:Nat→Bool,(t.flat = true ∨ ∀ i,own i = false)→Src c' w t x own R nh h.1 news:=by
 obtain ⟨a,cap,e,h1,⟨h2,h3⟩,h4⟩:=hr
 simp only [gP,List.cons.injEq,Value.slice.injEq,and_true] at e
 obtain ⟨rfl,e2,rfl⟩:=e
 have hex:∀ i,∃ nhi:Nat→bT,i < x.len→∀ ad,h.1 = some ad→∃ us,us.length = t.size ∧ (∀ (own:Nat→Bool) (nh:Nat→Nat→bT),(t.flat = true ∨ ∀ i,own i = false)→nh i = nhi→bD c' w R nh (own i) i t (x.get i) us 0) ∧ jY c w ad.block (ad.off + i * t.size) us:=by
  intro i
  by_cases hi:i < x.len
  · cases hh:h.1 with
    | none=>exact ⟨fun _=>(none,0,0),fun _ ad e=>by cases e⟩
    | some ad =>
      obtain ⟨us,q1,q2⟩:=(h4 ad hh).2 i hi
      by_cases hf:t.flat = true
      · exact ⟨fun _=>(none,0,0),fun _ yB e=>by cases e; exact ⟨us,q1.length,fun own nh _ _=>bD.of_flat hf q1,q2⟩⟩
      · rcases hc with hc | hc
        · exact absurd hc hf
        subst hc
        obtain ⟨nhi,q3⟩:=bD.Vw (R:=R) (i:=i) (j:=0) q1
        exact ⟨nhi,fun _ yB e=>by cases e; exact ⟨us,q1.length,fun own nh ho hn=>by rw [ho.resolve_left hf i]; exact q3 nh fun j' _ _=>by rw [hn],q2⟩⟩
  · exact ⟨fun _=>(none,0,0),fun h=>absurd h hi⟩
 cases hh:h.1 with
 | none =>
   have h0:x.len = 0:=by have:=h2 hh; omega
   exact ⟨fun _ _=>(none,0,0),[],fun own _=>⟨⟨by simp [h0],fun i hi=>by omega⟩,by simp,fun ad e=>(by cases e),fun _=>h0⟩⟩
 | some ad =>
   refine ⟨fun i=>Classical.choose (hex i),?_⟩
   obtain ⟨news,k1,k2,k3,k4⟩:=D5 (w:=w) (P':=fun j v=>w.cell? ⟨ad.block,ad.off + j,none⟩ = some v)
    (Q:=fun i us=>(∀ v ∈ us,v.oneCell' = true) ∧ ∀ (own:Nat→Bool),(t.flat = true ∨ ∀ i,own i = false)→bD c' w R (fun i=>Classical.choose (hex i)) (own i) i t (x.get i) us 0) (fun i us hq=>hq.1) x.len fun i hi=>by
    obtain ⟨us,q1,q2,q3⟩:=Classical.choose_spec (hex i) hi ad hh
    exact ⟨us,q1,⟨(q2 (fun _=>false) (fun i=>Classical.choose (hex i)) (.inr fun _=>rfl) rfl).one,fun own ho=>q2 own (fun i=>Classical.choose (hex i)) ho rfl⟩,fun q v hq=>by rw [← Nat.add_assoc]; exact (q3 q v hq).2⟩
   exact ⟨news,fun own ho=>⟨⟨k1,fun i hi=>by
    obtain ⟨us,q1,q2,q3⟩:=k4 i hi
    exact ⟨us,q1,q2.2 own ho,q3⟩⟩,k2,fun yB e=>(by cases e; exact ⟨(h4 ad hh).1,k3⟩),fun e=>(by cases e)⟩⟩
theorem FH {P:Program} {w:World} {t u ty e:TypeId} {i:TypeInfo} (ht:P.underlying t = some (.slice e)) (hu:P.underlying u = some (.slice e)) (hi:P.info? e = some i)
 {sLen sCap n c:Nat} {ad:Addr} (hsp:ad.spot = none) {a2:Option Addr} {news:List Value} (hl:news.length = n * i.size) (h1:∀ x ∈ news,x.oneCell' = true)
 (hnews:∀ uI,a2 = some uI→(0 < n→uI.spot = none) ∧ ∀ (j:Nat) (x:Value),news[j]? = some x→w.cell? ⟨uI.block,uI.off + j,none⟩ = some x) (hno:a2 = none→n = 0)
 (hfit:sLen + n≤sCap) (hc:∀ j,j < news.length→(w.cell? ⟨ad.block,ad.off + sLen * i.size + j,none⟩).isSome = true ∧ w.frozen? ⟨ad.block,ad.off + sLen * i.size + j,none⟩ = false) :
 (Builtin.append_ #[t,u] ty #[.slice (some ad) sLen sCap,.slice a2 n c]).run P w = .ok (.slice (some ad) (sLen + n) sCap) (w.setCells ad.block (ad.off + sLen * i.size) news):=by
 have hf:(Builtin.firstCells i.size n (.slice a2 n c)).run P w = .ok news.toArray w:=by
  cases a2 with
  | none =>
    have h0:n = 0:=hno rfl
    subst h0
    have:news = []:=List.eq_nil_of_length_eq_zero (by rw [hl]; simp)
    subst this
    simp [Builtin.firstCells]
  | some uI =>
    obtain ⟨hs2,hn2⟩:=hnews uI rfl
    refine run_firstCells_some (P:=P) w i.size n uI n c news hl (fun j v hj=>?_)
    have hn0:0 < n:=by
     have:=(List.getElem?_eq_some_iff.mp hj).1
     rw [hl] at this
     exact Nat.pos_of_mul_pos_right (Nat.lt_of_le_of_lt (Nat.zero_le _) this)
    have e2:uI = ⟨uI.block,uI.off,none⟩:=by have:=hs2 hn0; cases uI; simp_all
    rw [e2,gq]; exact hn2 j v hj
 have e1:ad = ⟨ad.block,ad.off,none⟩:=by cases ad; simp_all
 have hst:=run_storeCells_cells (P:=P) ad.block (ad.off + sLen * i.size) news 0 w (fun j hj=>(hc j hj).1) (fun j hj=>(hc j hj).2) h1
 simp only [Nat.add_zero] at hst
 have hadd:ad.add (sLen * i.size) = ⟨ad.block,ad.off + sLen * i.size,none⟩:=by rw [e1]; exact gq _ _ _
 simp [Builtin.append_,run_underlying ht,run_underlying hu,sizeOf,typeInfo,hi,Builtin.lenOf,hfit,hf,hadd,hst]
theorem D6 {P:Program} {w:World} {t u ty e:TypeId} {i:TypeInfo} {z:Value} (ht:P.underlying t = some (.slice e)) (hu:P.underlying u = some (.slice e)) (hi:P.info? e = some i) (hz:i.zero = some z)
 {sLen sCap n c:Nat} {a1 a2:Option Addr} {olds news:List Value} (hlo:olds.length = sLen * i.size) (hl:news.length = n * i.size)
 (holds:∀ Vx,a1 = some Vx→(0 < sLen→Vx.spot = none) ∧ ∀ (j:Nat) (x:Value),olds[j]? = some x→w.cell? ⟨Vx.block,Vx.off + j,none⟩ = some x) (LG:a1 = none→sLen = 0)
 (hnews:∀ uI,a2 = some uI→(0 < n→uI.spot = none) ∧ ∀ (j:Nat) (x:Value),news[j]? = some x→w.cell? ⟨uI.block,uI.off + j,none⟩ = some x) (hno:a2 = none→n = 0)
 (hg:sCap < sLen + n) (hsmall:sLen + n≤most) (hby:i.bytes≤4096) :
 (Builtin.append_ #[t,u] ty #[.slice a1 sLen sCap,.slice a2 n c]).run P w =
  .ok (.slice (some ⟨w.heap.size,0,none⟩) (sLen + n) (grownCap w (sLen + n) sCap e))
   (w.drew.alloc (.cells (olds ++ news ++ (Builtin.zeroCells z.cells (grownCap w (sLen + n) sCap e - (sLen + n))).toList).toArray e)):=by
 have first:∀ (a:Option Addr) (m c':Nat) (cs:List Value),cs.length = m * i.size→(∀ ad,a = some ad→(0 < m→ad.spot = none) ∧ ∀ (j:Nat) (x:Value),cs[j]? = some x→w.cell? ⟨ad.block,ad.off + j,none⟩ = some x)→(a = none→m = 0) →
  (Builtin.firstCells i.size m (.slice a m c')).run P w.drew = .ok cs.toArray w.drew:=by
  intro a m c' cs hl' h1 h2
  cases a with
  | none =>
    have h0:m = 0:=h2 rfl
    subst h0
    have:cs = []:=List.eq_nil_of_length_eq_zero (by rw [hl']; simp)
    subst this
    simp [Builtin.firstCells]
  | some uI =>
    obtain ⟨hs2,hn2⟩:=h1 uI rfl
    refine run_firstCells_some (P:=P) w.drew i.size m uI m c' cs hl' (fun j v hj=>?_)
    have hn0:0 < m:=by
     have:=(List.getElem?_eq_some_iff.mp hj).1
     rw [hl'] at this
     exact Nat.pos_of_mul_pos_right (Nat.lt_of_le_of_lt (Nat.zero_le _) this)
    have e2:uI = ⟨uI.block,uI.off,none⟩:=by have:=hs2 hn0; cases uI; simp_all
    rw [e2,gq]; exact hn2 j v hj
 have hfo:=first a1 sLen sCap olds hlo holds LG
 have hfn:=first a2 n c news hl hnews hno
 have hn:¬ (sLen + n≤sCap):=by omega
 have h63':¬ (9223372036854775807 < ((sLen:Int) + (n:Int))):=by unfold most at hsmall; omega
 have h48:Builtin.nextslicecap (sLen + n) sCap * i.bytes≤281474976710656:=by
  have:=nextslicecap_le (need:=sLen + n) (old:=sCap) hg
  have h2:Builtin.nextslicecap (sLen + n) sCap≤2 * 2 ^ 32:=by unfold most at hsmall; omega
  calc _≤(2 * 2 ^ 32) * 4096:=Nat.mul_le_mul h2 hby
   _≤_:=by decide
 have h48':¬ (281474976710656 < Builtin.nextslicecap (sLen + n) sCap * i.bytes):=by omega
 simp [Builtin.append_,run_underlying ht,run_underlying hu,sizeOf,typeInfo,zeroValue,hi,hz,Builtin.lenOf,hn,h63',h48',Question.forced,hfn,hfo,newRow,grownCap]
 congr 2
 apply Array.ext'
 simp
theorem kr (z:Array Value) (n:Nat):(Builtin.zeroCells z n).toList.length = n * z.size:=by
 simp [Builtin.zeroCells]
def fF (h:bT) (sz:Nat) (b o:Nat):Prop:=∃ ad,h.1 = some ad ∧ b = ad.block ∧ ad.off≤o ∧ o < ad.off + h.2.2 * sz
theorem JI {P:Program} {w:World} {t u D7 e:TypeId} {i:TypeInfo} {z:Value} {ty:Ty} (ht:P.underlying t = some (.slice e)) (hu:P.underlying u = some (.slice e)) (hi:P.info? e = some i) (hz:i.zero = some z) (hsz:i.size = ty.size) (hzz:z.cells.toList = ty.zeroV) (hby:i.bytes≤4096)
 {h1:bT} {olds:List Value} (hlo:olds.length = h1.2.1 * ty.size) (hld:h1.2.1≤h1.2.2) (LG:h1.1 = none→h1.2.2 = 0)
 (hold:∀ ad,h1.1 = some ad→ad.spot = none ∧ (∀ (j:Nat) (v:Value),olds[j]? = some v→w.cell? ⟨ad.block,ad.off + j,none⟩ = some v) ∧ ∀ k,k < h1.2.2 * ty.size→(∃ v,w.cell? ⟨ad.block,ad.off + k,none⟩ = some v) ∧ w.frozen? ⟨ad.block,ad.off + k,none⟩ = false)
 {a2:Option Addr} {n c:Nat} {news:List Value} (hln:news.length = n * ty.size) (hone:∀ x ∈ news,x.oneCell' = true) (hnew:∀ ad,a2 = some ad→(0 < n→ad.spot = none) ∧ ∀ (j:Nat) (x:Value),news[j]? = some x→w.cell? ⟨ad.block,ad.off + j,none⟩ = some x) (hno:a2 = none→n = 0) (pI:h1.2.1 + n≤most) :
 ∃ (h':bT) (w':World),(Builtin.append_ #[t,u] D7 #[gP h1,.slice a2 n c]).run P w = .ok (gP h') w' ∧ h'.2.1 = h1.2.1 + n ∧ h'.2.1≤h'.2.2 ∧ (h'.1 = none→h'.2.2 = 0) ∧ (h'.1 = none ↔ h1.1 = none ∧ n = 0) ∧
   (∀ ad,h'.1 = some ad→ad.spot = none ∧ (∀ (j:Nat) (v:Value),(olds ++ news)[j]? = some v→w'.cell? ⟨ad.block,ad.off + j,none⟩ = some v) ∧ ∀ k,k < h'.2.2 * ty.size→(∃ v,w'.cell? ⟨ad.block,ad.off + k,none⟩ = some v) ∧ w'.frozen? ⟨ad.block,ad.off + k,none⟩ = false) ∧
   (∀ b o,fF h' ty.size b o→w.heap.size≤b ∨ fF h1 ty.size b o) ∧
   (∀ b o v,w.cell? ⟨b,o,none⟩ = some v→¬ fF h1 ty.size b o→w'.cell? ⟨b,o,none⟩ = some v) ∧ ((∀ b o,b < w.heap.size→w'.frozen? ⟨b,o,none⟩ = w.frozen? ⟨b,o,none⟩) ∧ ∀ b o,w.heap.size≤b→w'.frozen? ⟨b,o,none⟩ = false) ∧
   (∀ b ob,w.heap[b]? = some ob→(∀ o,¬ fF h1 ty.size b o)→w'.heap[b]? = some ob) ∧ (∀ b o,b < w.heap.size→(w'.cell? ⟨b,o,none⟩).isSome = (w.cell? ⟨b,o,none⟩).isSome) ∧
   w'.os = w.os ∧ w'.tape = w.tape ∧ w'.output = w.output ∧ w.heap.size≤w'.heap.size:=by
 obtain ⟨base,sLen,sCap⟩:=h1
 simp only at hlo hld LG hold pI
 have hzl:z.cells.size = ty.size:=by
  have:=(gy (fun _ _=>.st) w ty).length
  rw [← hzz] at this
  simpa using this
 by_cases hfit:sLen + n≤sCap
 · cases hbs:base with
   | none =>
     have q2:=LG hbs
     have hn0:n = 0:=by omega
     have q1:sLen = 0:=by omega
     subst hn0 q1 q2
     have e1:olds = []:=List.eq_nil_of_length_eq_zero (by rw [hlo]; simp)
     have e2:news = []:=List.eq_nil_of_length_eq_zero (by rw [hln]; simp)
     subst e1 e2
     refine ⟨(none,0,0),w,?_,rfl,Nat.le_refl _,fun _=>rfl,by simp,fun ad e=>(by cases e),fun b o q=>?_,fun _ _ _ h _=>h,⟨fun _ _ _=>rfl,fun _ o h=>dH h o⟩,fun _ _ h _=>h,fun _ _ _=>rfl,rfl,rfl,rfl,Nat.le_refl _⟩
     · have hf:(Builtin.firstCells i.size 0 (.slice a2 0 c)).run P w = .ok #[] w:=by
        cases a2 with
        | none=>simp [Builtin.firstCells]
        | some uI=>exact run_firstCells_some (P:=P) w i.size 0 uI 0 c [] (by simp) (fun j v hj=>by simp at hj)
       simp [gP,Builtin.append_,run_underlying ht,run_underlying hu,sizeOf,typeInfo,hi,Builtin.lenOf,hf]
     · obtain ⟨ad,e,_⟩:=q; cases e
   | some ad =>
     obtain ⟨o1,o2,o3⟩:=hold ad hbs
     have hle:sLen * ty.size + n * ty.size≤sCap * ty.size:=by rw [← Nat.add_mul]; exact Nat.mul_le_mul_right _ hfit
     have Vy:∀ j,j < news.length→(w.cell? ⟨ad.block,ad.off + sLen * ty.size + j,none⟩).isSome = true ∧ w.frozen? ⟨ad.block,ad.off + sLen * ty.size + j,none⟩ = false:=by
      intro j hj
      obtain ⟨⟨v,q1⟩,q2⟩:=o3 (sLen * ty.size + j) (by omega)
      rw [← Nat.add_assoc] at q1 q2
      exact ⟨by rw [q1]; rfl,q2⟩
     have hrun:=FH (P:=P) (w:=w) (t:=t) (u:=u) (ty:=D7) (e:=e) ht hu hi (sLen:=sLen) (sCap:=sCap) (n:=n) (c:=c) (ad:=ad) o1 (a2:=a2) (news:=news) (by rw [hsz]; exact hln) hone hnew hno hfit (by rw [hsz]; exact Vy)
     rw [hsz] at hrun
     have hcs:=bE (w:=w) (b:=ad.block) (o:=ad.off + sLen * ty.size) (vs:=news) fun j hj=>(Vy j hj).1
     refine ⟨(some ad,sLen + n,sCap),_,hrun,rfl,hfit,fun q=>(by cases q),by simp,fun yB q=>?_,fun b o q=>.inr q,fun b o v hv hnb=>?_,⟨fun b o _=>World.frozen?_setCells _ _ _ _ _,fun b o h=>(World.frozen?_setCells _ _ _ _ _).trans (dH h o)⟩,fun b ob lK hnb=>?_,fun b o _=>?_,mH _ _ _ _,kg _ _ _ _,iJ _ _ _ _,by rw [size_setCells]; exact Nat.le_refl _⟩
     · simp only [Option.some.injEq] at q; subst q
       refine ⟨o1,fun j v hj=>?_,fun k hk=>?_⟩
       · rw [hcs]
         by_cases hjo:j < olds.length
         · rw [if_neg (by omega)]
           rw [List.getElem?_append_left hjo] at hj
           exact o2 j v hj
         · rw [List.getElem?_append_right (by omega)] at hj
           have hjn:=(List.getElem?_eq_some_iff.mp hj).1
           rw [if_pos ⟨rfl,by omega,by omega⟩,← hj]
           congr 1; omega
       · obtain ⟨⟨v,q1⟩,q2⟩:=o3 k hk
         refine ⟨?_,by rw [World.frozen?_setCells]; exact q2⟩
         rw [hcs]
         split
         · rename_i hq
           exact ⟨_,List.getElem?_eq_getElem (by omega)⟩
         · exact ⟨v,q1⟩
     · rw [hcs,if_neg,hv]
       rintro ⟨rfl,q1,q2⟩
       exact hnb ⟨ad,rfl,rfl,by omega,by simp only; omega⟩
     · cases hnews:news with
       | nil=>exact lK
       | cons v r =>
         rw [jZ]
         · exact lK
         · rintro rfl
           have hp:0 < news.length:=by rw [hnews]; simp
           exact hnb (ad.off + sLen * ty.size) ⟨ad,rfl,rfl,by omega,by simp only; omega⟩
     · rw [hcs]
       split
       · rename_i hq
         obtain ⟨rfl,q1,q2⟩:=hq
         have:=(Vy (o - (ad.off + sLen * ty.size)) (by omega)).1
         rw [show ad.off + sLen * ty.size + (o - (ad.off + sLen * ty.size)) = o by omega] at this
         rw [this,List.getElem?_eq_getElem (by omega)]; rfl
       · rfl
 · have hg:sCap < sLen + n:=by omega
   have hrun:=D6 (P:=P) (w:=w) (t:=t) (u:=u) (ty:=D7) ht hu hi hz (sLen:=sLen) (sCap:=sCap) (n:=n) (c:=c) (a1:=base) (a2:=a2) (olds:=olds) (news:=news) (by rw [hsz]; exact hlo) (by rw [hsz]; exact hln)
    (fun Vx had=>⟨fun _=>(hold Vx had).1,(hold Vx had).2.1⟩) (fun q=>by have:=LG q; omega) hnew hno hg pI hby
   have hcapge:sLen + n≤grownCap w (sLen + n) sCap e:=by
    unfold grownCap; simp only [Question.cut]; omega
   generalize grownCap w (sLen + n) sCap e = cap at hrun hcapge
   have hzc:=kr z.cells (cap - (sLen + n))
   rw [hzl] at hzc
   generalize (Builtin.zeroCells z.cells (cap - (sLen + n))).toList = zs at hrun hzc
   have hsd:w.drew.heap.size = w.heap.size:=rfl
   have hlen:(olds ++ news ++ zs).length = cap * ty.size:=by
    rw [List.length_append,List.length_append,hlo,hln,hzc,← Nat.add_mul,← Nat.add_mul]; congr 1; omega
   have FI:∀ o,(w.drew.alloc (.cells (olds ++ news ++ zs).toArray e)).cell? ⟨w.heap.size,o,none⟩ = (olds ++ news ++ zs)[o]?:=by
    intro o
    rw [← hsd,World.cell?_alloc_new]; simp
   have hold':∀ b' o v,w.cell? ⟨b',o,none⟩ = some v→(w.drew.alloc (.cells (olds ++ news ++ zs).toArray e)).cell? ⟨b',o,none⟩ = some v:=by
    intro b' o v hv
    rw [World.cell?_alloc_lt w.drew _ ⟨b',o,none⟩ (World.block_lt_of_cell? w ⟨b',o,none⟩ hv)]; exact hv
   refine ⟨(some ⟨w.heap.size,0,none⟩,sLen + n,cap),_,hrun,rfl,hcapge,fun q=>(by cases q),⟨fun q=>(by cases q),fun q=>?_⟩,fun ad q=>?_,fun b o q=>.inl ?_,fun b o v hv _=>hold' b o v hv,⟨fun b o hb=>?_,fun b o hb=>Ae (by rw [hsd]; exact hb) o⟩,fun b ob lK _=>?_,fun b o hb=>?_,rfl,rfl,rfl,by rw [← hsd]; simp⟩
   · have:=LG q.1; omega
   · simp only [Option.some.injEq] at q; subst q
     refine ⟨rfl,fun j v hj=>?_,fun k hk=>?_⟩
     · rw [Nat.zero_add,FI,List.getElem?_append_left (List.getElem?_eq_some_iff.mp hj).1]; exact hj
     · rw [Nat.zero_add,FI]
       refine ⟨⟨_,List.getElem?_eq_getElem (by rw [hlen]; exact hk)⟩,?_⟩
       rw [← hsd,World.frozen?_alloc_new]
   · obtain ⟨ad,e1,e2,_⟩:=q
     simp only [Option.some.injEq] at e1; subst e1
     rw [e2]; exact Nat.le_refl _
   · rw [World.frozen?_alloc_old _ _ _ (by show b ≠ w.drew.heap.size; rw [hsd]; omega)]; rfl
   · exact (RowKit.Below.heap_alloc w.drew _ _ (ji lK)).trans lK
   · rw [World.cell?_alloc_lt w.drew _ ⟨b,o,none⟩ hb]; rfl
end Go.VE
