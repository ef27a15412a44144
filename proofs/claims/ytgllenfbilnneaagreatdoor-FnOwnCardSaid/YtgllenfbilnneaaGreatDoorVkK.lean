import Derived.Test.YtgllenfbilnneaaGreatDoorVkJ
/- Each operation of the evaluator is what the machine does: writing. -/
namespace Go.VE
theorem Eb (g:Gh):jT g [] [] = g:=by
 cases g
 simp [jT]
structure Wr (g:Gh) (K:List Nat) (w w':World):Prop where
 cell:∀ b o v,w.cell? ⟨b,o,none⟩ = some v→(∀ k ∈ K,g.col b o ≠ .bx k)→w'.cell? ⟨b,o,none⟩ = some v
 uD:(∀ b o,b < w.heap.size→w'.frozen? ⟨b,o,none⟩ = w.frozen? ⟨b,o,none⟩) ∧ ∀ b o,w.heap.size≤b→w'.frozen? ⟨b,o,none⟩ = false
 blk:∀ b ob,w.heap[b]? = some ob→(∀ o,∀ k ∈ K,g.col b o ≠ .bx k)→w'.heap[b]? = some ob
 none:∀ b o,b < w.heap.size→(w'.cell? ⟨b,o,none⟩).isSome = (w.cell? ⟨b,o,none⟩).isSome
 os:w'.os = w.os ∧ w'.tape = w.tape ∧ w'.output = w.output ∧ w.heap.size≤w'.heap.size
theorem Wr.refl (g:Gh) (K:List Nat) (w:World):Wr g K w w:=⟨fun _ _ _ h _=>h,⟨fun _ _ _=>rfl,fun _ o h=>dH h o⟩,fun _ _ h _=>h,fun _ _ _=>rfl,rfl,rfl,rfl,Nat.le_refl _⟩
theorem Wr.mono {g:Gh} {K K':List Nat} {w w':World} (h:Wr g K w w') (hk:∀ k ∈ K,k ∈ K'):Wr g K' w w' :=
 ⟨fun b o v a1 a2=>h.cell b o v a1 fun k k1=>a2 k (hk k k1),h.uD,fun b ob a1 a2=>h.blk b ob a1 fun o k k1=>a2 o k (hk k k1),h.none,h.os⟩
theorem qm {g:Gh} {w:World} {b o k:Nat} {vs:List Value} (hc:∀ j,j < vs.length→g.col b (o + j) = .bx k ∧ (w.cell? ⟨b,o + j,none⟩).isSome = true):Wr g [k] w (w.setCells b o vs):=by
 have hcs:=bE (w:=w) (b:=b) (o:=o) (vs:=vs) fun j hj=>(hc j hj).2
 refine ⟨fun b' o' v hv hk=>?_,⟨fun b' o' _=>World.frozen?_setCells _ _ _ _ _,fun b' o' h=>(World.frozen?_setCells _ _ _ _ _).trans (dH h o')⟩,fun b' ob lK hk=>?_,fun b' o' _=>?_,mH _ _ _ _,kg _ _ _ _,iJ _ _ _ _,by rw [size_setCells]; exact Nat.le_refl _⟩
 · rw [hcs,if_neg,hv]
   rintro ⟨rfl,q1,q2⟩
   have:=(hc (o' - o) (by omega)).1
   rw [show o + (o' - o) = o' by omega] at this
   exact hk k (by simp) this
 · cases hvs:vs with
   | nil=>exact lK
   | cons v r =>
     rw [jZ]
     · exact lK
     · rintro rfl
       exact hk _ k (by simp) (hc 0 (by rw [hvs]; simp)).1
 · rw [hcs]
   split
   · rename_i hq
     obtain ⟨rfl,q1,q2⟩:=hq
     have:=(hc (o' - o) (by omega)).2
     rw [show o + (o' - o) = o' by omega] at this
     rw [this,List.getElem?_eq_getElem (by omega)]; rfl
   · rfl
theorem bD.NJ {c c':Nat→Nat→Col} {w w':World} {R:iI} {nh:Nat→Nat→bT} {own:Bool} {i:Nat}:∀ {t:Ty} {x:t.T} {vs:List Value} {j:Nat},t.flat = true→bD c w R nh own i t x vs j→bC c' w' t x vs:=by
 intro t
 induction t with
 | int k=>exact fun _ h=>h
 | bool=>exact fun _ h=>h
 | str=>exact fun _ h=>h
 | unit=>exact fun _ h=>h
 | pair a b iha ihb =>
   rintro x vs j hf ⟨v1,v2,e,h1,h2⟩
   simp only [Ty.flat,Bool.and_eq_true] at hf
   exact ⟨v1,v2,e,iha hf.1 h1,ihb hf.2 h2⟩
 | sl t ih=>intro x vs j hf; simp [Ty.flat] at hf
theorem jJ.yj {Q:Nat→(u:Ty)→L u.T→bT→Prop}:∀ {t:Ty} {x:t.T} {vs:List Value} {j:Nat},t.yj = true→jJ Q t x vs j→jJ (fun j u y h=>Q j u y h ∧ u.flat = true) t x vs j:=by
 intro t
 induction t with
 | int k=>exact fun _ h=>h
 | bool=>exact fun _ h=>h
 | str=>exact fun _ h=>h
 | unit=>exact fun _ h=>h
 | pair a b iha ihb =>
   rintro x vs j hf ⟨v1,v2,e,h1,h2⟩
   simp only [Ty.yj,Bool.and_eq_true] at hf
   exact ⟨v1,v2,e,iha hf.1 h1,ihb hf.2 h2⟩
 | sl t ih=>rintro x vs j hf ⟨h,e,h1⟩; exact ⟨h,e,h1,hf⟩
theorem Ao {g:Gh} {w w':World} {ids:List Nat} {u:Ty} {y:L u.T} {h:bT} {c':Nat→Nat→Col} {R':iI} {lD:Nat→Nat→bT} {i j:Nat} (hf:u.flat = true) (hp:FL g w ids u y h) (hn:lD i j = h)
 (hk:∀ b o,(∃ r ∈ ids,g.col b o = .bx r)→∀ v,w.cell? ⟨b,o,none⟩ = some v→w.frozen? ⟨b,o,none⟩ = false→R' b o = some (some (i,j)) ∧ w'.cell? ⟨b,o,none⟩ = some v ∧ w'.frozen? ⟨b,o,none⟩ = false) :
 bD c' w' R' lD true i (.sl u) y [gP h] j:=by
 obtain ⟨nh,R,⟨h1,h2,h3⟩,h4⟩:=hp
 have hk':∀ b o v,R b o = some none→w.cell? ⟨b,o,none⟩ = some v→w.frozen? ⟨b,o,none⟩ = false→R' b o = some (some (i,j)) ∧ w'.cell? ⟨b,o,none⟩ = some v ∧ w'.frozen? ⟨b,o,none⟩ = false:=fun b o v a1 a2 a3=>hk b o (h4 b o (by rw [a1]; simp)).1 v a2 a3
 refine ⟨by rw [hn],by rw [hn]; exact h1,fun _=>⟨hf,?_,?_⟩,fun q=>(by cases q)⟩
 · rw [hn]
   exact h2.mono fun b o v a1 a2 a3=>by obtain ⟨q1,q2,q3⟩:=hk' b o v a1 a2 a3; exact ⟨q1,⟨v,q2⟩,q3⟩
 · rw [hn]
   exact h3.mono h2 h1.2.1 (fun k us _ hr=>bD.NJ hf hr) fun b o v a1 a2 a3=>(hk' b o v a1 a2 a3).2.1
theorem Ec:∀ {t:Ty} {off j:Nat},BI t off = some j→j < t.bJ ∧ off < t.size:=by
 intro t
 induction t with
 | sl u ih=>intro off j h; cases off <;> simp [BI] at h; subst h; simp [Ty.bJ,Ty.size]
 | pair a b iha ihb =>
   intro off j h
   simp only [BI] at h
   simp only [Ty.bJ,Ty.size]
   cases hb:Nat.blt off a.size with
   | true=>rw [hb] at h; have:=iha h; omega
   | false =>
     rw [hb] at h
     have:=dN hb
     simp only [cond_false] at h
     split at h
     · rename_i k hk
       cases h
       have:=ihb hk
       omega
     · cases h
 | _=>intro off j h; simp [BI] at h
theorem bD.set {c c':Nat→Nat→Col} {w w':World} {R R':iI} {nh lD:Nat→Nat→bT} {own:Bool} {i:Nat} {u:Ty} {z:L u.T}:∀ {t:Ty} {x y:t.T} {us:List Value} {j j0:Nat},jP u z t x j = some y→bD c w R nh own i t x us j0 →
 bD c' w' R' lD own i (.sl u) z [gP (lD i (j0 + j))] (j0 + j)→(∀ j' (v:Ty) (q:L v.T) vs,j' ≠ j0 + j→bD c w R nh own i (.sl v) q vs j'→bD c' w' R' lD own i (.sl v) q vs j') →
 ∃ us',bD c' w' R' lD own i t y us' j0 ∧ (∀ off,BI t off = some j→us' = us.take off ++ [gP (lD i (j0 + j))] ++ us.drop (off + 1)) ∧ (lD i (j0 + j) = nh i (j0 + j)→us' = us):=by
 have keep:∀ {t:Ty} {x:t.T} {us:List Value} {j0 k:Nat},(∀ j' (v:Ty) (q:L v.T) vs,j' ≠ k→bD c w R nh own i (.sl v) q vs j'→bD c' w' R' lD own i (.sl v) q vs j')→(k < j0 ∨ j0 + t.bJ≤k)→bD c w R nh own i t x us j0→bD c' w' R' lD own i t x us j0:=by
  intro t
  induction t with
  | int k=>exact fun _ _ h=>h
  | bool=>exact fun _ _ h=>h
  | str=>exact fun _ _ h=>h
  | unit=>exact fun _ _ h=>h
  | pair a b iha ihb =>
    rintro x us j0 k hk hl ⟨v1,v2,e,h1,h2⟩
    simp only [Ty.bJ] at hl
    exact ⟨v1,v2,e,iha hk (by omega) h1,ihb hk (by omega) h2⟩
  | sl t ih =>
    intro x us j0 k hk hl h
    simp only [Ty.bJ] at hl
    exact hk j0 t x us (by omega) h
 intro t
 induction t with
 | sl u' ih =>
   intro x y us j j0 h hr h1 h2
   cases j with
   | succ j=>simp [jP] at h
   | zero =>
     simp only [jP] at h
     split at h
     · rename_i hb
       obtain rfl:=Ty.eq_of_beq hb
       simp only [Option.some.injEq,dx] at h
       subst h
       obtain ⟨rfl,_⟩:=hr
       refine ⟨_,h1,fun off ho=>?_,fun e=>by rw [Nat.add_zero] at e ⊢; rw [e]⟩
       have:=(Ec ho).2
       simp only [Ty.size] at this
       obtain rfl:off = 0:=by omega
       simp
     · cases h
 | pair a b iha ihb =>
   rintro x y us j j0 h ⟨v1,v2,rfl,r1,r2⟩ h1 h2
   have l1:=r1.length
   simp only [jP] at h
   cases hb:Nat.blt j a.bJ with
   | true =>
     rw [hb] at h
     simp only [cond_true] at h
     have hlt:j < a.bJ:=by simpa using hb
     split at h
     · rename_i q hq
       cases h
       obtain ⟨us',k1,k2,k3⟩:=iha hq r1 h1 h2
       refine ⟨us' ++ v2,⟨us',v2,rfl,k1,keep (k:=j0 + j) h2 (by omega) r2⟩,fun off ho=>?_,fun e=>by rw [k3 e]⟩
       simp only [BI] at ho
       cases hb2:Nat.blt off a.size with
       | true =>
         rw [hb2] at ho
         have:=Ec ho
         rw [k2 off ho,List.take_append_of_le_length (by omega),List.drop_append_of_le_length (by omega)]
         simp
       | false =>
         rw [hb2] at ho
         simp only [cond_false] at ho
         split at ho
         · cases ho; omega
         · cases ho
     · cases h
   | false =>
     rw [hb] at h
     simp only [cond_false] at h
     have hge:=dN hb
     split at h
     · rename_i q hq
       cases h
       have ej:j0 + a.bJ + (j - a.bJ) = j0 + j:=by omega
       obtain ⟨us',k1,k2,k3⟩:=ihb hq r2 (by rw [ej]; exact h1) (by rw [ej]; exact h2)
       rw [ej] at k2 k3
       refine ⟨v1 ++ us',⟨v1,us',rfl,keep (k:=j0 + j) h2 (by omega) r1,k1⟩,fun off ho=>?_,fun e=>by rw [k3 e]⟩
       simp only [BI] at ho
       cases hb2:Nat.blt off a.size with
       | true =>
         rw [hb2] at ho
         have:=Ec ho
         omega
       | false =>
         rw [hb2] at ho
         have ajI:=dN hb2
         simp only [cond_false] at ho
         split at ho
         · rename_i k hk
           cases ho
           rw [show a.bJ + k - a.bJ = k by omega] at k2
           rw [k2 _ hk,List.take_append,List.drop_append,l1,List.take_of_length_le (show v1.length≤off by omega),List.drop_eq_nil_of_le (show v1.length≤off + 1 by omega)]
           simp only [List.nil_append,List.append_assoc]
           rw [show off + 1 - a.size = off - a.size + 1 by omega]
         · cases ho
     · cases h
 | _=>intro x y us j j0 h; simp [jP] at h
theorem RJ {g:Gh} {w:World} {R:iI} {nh:Nat→Nat→bT} {own:Bool} {i:Nat}:∀ {t:Ty} {x y:t.T} {off j:Nat} {cs:List PV} {us vl:List Value},Vg t x off cs = some y→bD g.col w R nh own i t x us j→ak g w cs vl→off + vl.length≤us.length →
 bD g.col w R nh own i t y (us.take off ++ vl ++ us.drop (off + vl.length)) j:=by
 intro t
 have sc:∀ {t:Ty} {x y:t.T} {off j:Nat} {cs:List PV} {us vl:List Value},t.flat = true→(bif Nat.beq off 0 then yt t cs else none) = some y→bD g.col w R nh own i t x us j→ak g w cs vl→off + vl.length≤us.length →
  bD g.col w R nh own i t y (us.take off ++ vl ++ us.drop (off + vl.length)) j:=by
  intro t x y off j cs us vl hf h hr hv hl
  cases hb:Nat.beq off 0 with
  | false=>rw [hb] at h; cases h
  | true =>
    rw [hb] at h
    simp only [cond_true] at h
    have h0:=Nat.eq_of_beq_eq_true hb
    subst h0
    have h1:=fA h hv
    have e:us.drop (0 + vl.length) = []:=by
     rw [List.drop_eq_nil_iff,hr.length,h1.length]; omega
    rw [e,List.take_zero,List.nil_append,List.append_nil]
    exact bD.of_flat hf h1
 induction t with
 | int k=>intro x y off j cs us vl h; exact sc rfl h
 | bool=>intro x y off j cs us vl h; exact sc rfl h
 | str=>intro x y off j cs us vl h; exact sc rfl h
 | unit=>intro x y off j cs us vl h; exact sc rfl h
 | sl t ih=>intro x y off j cs us vl h; simp [Vg] at h
 | pair a b iha ihb =>
   intro x y off j cs us vl h hr hv hl
   have hvl:vl.length = cs.length:=hv.length
   simp only [Vg] at h
   cases hw:(Nat.beq off 0&&(Nat.beq cs.length (Ty.pair a b).size&&(Ty.pair a b).flat)) with
   | true =>
     rw [hw] at h
     simp only [cond_true] at h
     simp only [Bool.and_eq_true] at hw
     exact sc hw.2.2 (by rw [hw.1]; exact h) hr hv hl
   | false =>
     rw [hw] at h
     simp only [cond_false] at h
     obtain ⟨v1,v2,rfl,h1,h2⟩:=hr
     have l1:=h1.length
     have l2:=h2.length
     cases hc:Nat.ble (off + cs.length) a.size with
     | true =>
       rw [hc] at h
       simp only [cond_true] at h
       have hc:=Nat.le_of_ble_eq_true hc
       split at h
       · rename_i z hz
         cases h
         refine ⟨v1.take off ++ vl ++ v1.drop (off + vl.length),v2,?_,iha hz h1 hv (by omega),h2⟩
         rw [List.take_append_of_le_length (by omega),List.drop_append_of_le_length (by omega)]
         simp
       · cases h
     | false =>
       rw [hc] at h
       simp only [cond_false] at h
       cases hd:Nat.ble a.size off with
       | false=>rw [hd] at h; cases h
       | true =>
         rw [hd] at h
         simp only [cond_true] at h
         have hd:=Nat.le_of_ble_eq_true hd
         split at h
         · rename_i z hz
           cases h
           simp only [List.length_append] at hl
           refine ⟨v1,v2.take (off - a.size) ++ vl ++ v2.drop (off - a.size + vl.length),?_,h1,ihb hz h2 hv (by omega)⟩
           rw [List.take_append,List.drop_append,l1,List.take_of_length_le (by omega),List.drop_eq_nil_of_le (by omega)]
           simp only [List.nil_append,List.append_assoc]
           rw [show off + vl.length - a.size = off - a.size + vl.length by omega]
         · cases h
theorem nQ {α:Type} (x:L α) (i:Nat) (v:α) (k:Nat):(x.set i v).get k = if k = i then v else x.get k:=by
 simp only [L.set]
 by_cases h:k = i
 · subst h; simp
 · rw [if_neg h]
   cases hb:Nat.beq k i with
   | true=>exact absurd (Nat.eq_of_beq_eq_true hb) h
   | false=>rfl
theorem iQ (us vl:List Value) (off:Nat) (h:off + vl.length≤us.length) (j:Nat):(us.take off ++ vl ++ us.drop (off + vl.length))[j]? = if off≤j ∧ j < off + vl.length then vl[j - off]? else us[j]?:=by
 by_cases h1:j < off
 · rw [if_neg (by omega),List.append_assoc,List.getElem?_append_left (by simp; omega),List.getElem?_take,if_pos h1]
 · by_cases h2:j < off + vl.length
   · rw [if_pos (by omega),List.getElem?_append_left (by simp; omega),List.getElem?_append_right (by simp; omega)]
     congr 1
     simp; omega
   · rw [if_neg (by omega),List.getElem?_append_right (by simp; omega),List.getElem?_drop]
     congr 1
     simp; omega
theorem cB.wrE {c c':Nat→Nat→Col} {w:World} {R R':iI} {nh lD:Nat→Nat→bT} {own own':Nat→Bool} {t:Ty} {x:L t.T} {y:t.T} {h:bT} (hr:cB c w R nh own t x h) {ad:Addr} (had:h.1 = some ad) {i off:Nat} {vs:List Value} (hi:i < x.len) (hfit:off + vs.length≤t.size)
 (hs:Stays c w c' (w.setCells ad.block (ad.off + i * t.size + off) vs)) (hR:∀ b o,R b o = some none→R' b o = some none) (ho:∀ k,k ≠ i→own' k = own k) (hn:∀ k,k ≠ i→lD k = nh k)
 (hRn:∀ b o k j,k ≠ i→R b o = some (some (k,j))→R' b o = some (some (k,j)))
 (hel:∀ us,us.length = t.size→bD c w R nh (own i) i t (x.get i) us 0→bD c' (w.setCells ad.block (ad.off + i * t.size + off) vs) R' lD (own' i) i t y (us.take off ++ vs ++ us.drop (off + vs.length)) 0) :
 cB c' (w.setCells ad.block (ad.off + i * t.size + off) vs) R' lD own' t (x.set i y) h:=by
 obtain ⟨h1,h2,h3⟩:=hr
 have hcap:x.len≤h.2.2:=h1.2.1
 have hin:∀ j,j < vs.length→i * t.size + off + j < h.2.2 * t.size:=fun j hj=>by
  have:=Nat.lt_of_lt_of_le (iy (q:=off + j) (sz:=t.size) hi (by omega)) (Nat.mul_le_mul_right _ hcap)
  omega
 have hcs:=bE (w:=w) (b:=ad.block) (o:=ad.off + i * t.size + off) (vs:=vs) fun j hj=>by
  obtain ⟨_,⟨v,q⟩,_⟩:=(h2 ad had).2 (i * t.size + off + j) (hin j hj)
  rw [show ad.off + (i * t.size + off + j) = ad.off + i * t.size + off + j by omega] at q
  rw [q]; rfl
 have hother:∀ {b o l},R b o = some (some l)→∀ v,w.cell? ⟨b,o,none⟩ = some v→(w.setCells ad.block (ad.off + i * t.size + off) vs).cell? ⟨b,o,none⟩ = some v:=by
  intro b o l hl v hv
  rw [hcs,if_neg,hv]
  rintro ⟨rfl,q1,q2⟩
  have:=((h2 ad had).2 (o - ad.off) (by have:=hin (o - (ad.off + i * t.size + off)) (by omega); omega)).1
  rw [show ad.off + (o - ad.off) = o by omega,hl] at this
  cases this
 refine ⟨h1,fun yB kK=>?_,fun k hk=>?_⟩
 · obtain rfl:ad = yB:=by rw [had] at kK; exact Option.some.inj kK
   refine ⟨(h2 ad had).1,fun k hk=>?_⟩
   obtain ⟨q1,⟨v,q2⟩,q3⟩:=(h2 ad had).2 k hk
   refine ⟨hR _ _ q1,?_,by rw [World.frozen?_setCells]; exact q3⟩
   rw [hcs]
   split
   · exact ⟨_,List.getElem?_eq_getElem (by omega)⟩
   · exact ⟨v,q2⟩
 · have hk':k < x.len:=hk
   obtain ⟨us,q1,q2,q3⟩:=h3 k hk'
   simp only [nQ]
   by_cases hki:k = i
   · subst hki
     rw [if_pos rfl]
     refine ⟨_,by simp; omega,hel us q1 q2,fun yB kK q v hq=>?_⟩
     obtain rfl:ad = yB:=by rw [had] at kK; exact Option.some.inj kK
     rw [hcs]
     rw [iQ _ _ _ (by omega)] at hq
     by_cases hw:off≤q ∧ q < off + vs.length
     · rw [if_pos hw] at hq
       rw [if_pos ⟨rfl,by omega,by omega⟩,← hq]
       congr 1; omega
     · rw [if_neg hw] at hq
       rw [if_neg (by omega)]
       exact q3 ad had q v hq
   · rw [if_neg hki]
     refine ⟨us,q1,?_,fun yB kK q v hq=>?_⟩
     · rw [ho k hki]
       exact bD.mono hs (fun b o v j a1 a2 a3=>⟨hRn b o k j hki a1,hother a1 v a2,by rw [World.frozen?_setCells]; exact a3⟩) (fun j=>by rw [hn k hki]) _ _ _ _ q2
     · obtain rfl:ad = yB:=by rw [had] at kK; exact Option.some.inj kK
       have MZ:q < t.size:=by rw [← q1]; exact (List.getElem?_eq_some_iff.mp hq).1
       rw [hcs,if_neg]
       · exact q3 ad had q v hq
       · rintro ⟨_,p1,p2⟩
         rcases Nat.lt_or_ge k i with hlt | hge
         · have:(k + 1) * t.size≤i * t.size:=Nat.mul_le_mul_right _ hlt
           rw [Nat.add_mul] at this; omega
         · have:(i + 1) * t.size≤k * t.size:=Nat.mul_le_mul_right _ (by omega)
           rw [Nat.add_mul] at this; omega
section
variable {P:Program} {N:Fr} {c0:Nat→Nat→Col} {w0:World} {σ μ:AS} {g:Gh} {a:Act} {w w':World}
theorem bO.YZ (h:bO N c0 w0 σ g a w) {id:Nat} {c:aU} (hw:Wr g [id] w w')
 (hdb:(g.db id ∧ c.mG = true) ∨ (¬ g.db id ∧ c.mG = false ∧ (∀ u,g.dh id u→u≤c.hv) ∧ ∀ u,g.dn id u→u≤c.nv)) (hrep:bV g w g w'→gF g w' id c)
 {dst:Option Nat} (hd:dZ N dst = true) {p:PV} {v:Value} (hp:bV g w g w'→aF g w' p v) :
 bO N c0 w0 (σ.app dst { v:=p,bx:=[(id,c)] }) g (a.put dst v) w':=by
 have:=h.upd [] [] [(id,c)] (w':=w') (dst:=dst) (p:=p) (v:=v) (by simp) (by simp) (by simp) (by simp) (by simp) (by simp) hw.cell hw.uD hw.blk hw.none hw.os
  (fun id' c' hm=>by
   simp only [List.mem_singleton,Prod.mk.injEq] at hm
   obtain ⟨rfl,rfl⟩:=hm
   rcases hdb with q | ⟨q1,q2,q3,q4⟩
   · exact .inl q
   · exact .inr ⟨q1,q2,q3,q4,fun n hn=>by cases hn⟩)
  (fun hst id' c' hm=>by
   simp only [List.mem_singleton,Prod.mk.injEq] at hm
   obtain ⟨rfl,rfl⟩:=hm
   rw [Eb] at hst ⊢
   exact hrep hst) hd (fun hst=>by rw [Eb] at hst ⊢; exact hp hst)
 rw [Eb] at this
 exact this.2
theorem bO.wrB (h:bO N c0 w0 σ g a w) {id off:Nat} {cs new:List PV} {vs:List Value} (hb:σ.box id = some (.cells cs)) (hv:ak g w new vs) (hfit:off + new.length≤cs.length) {dst:Option Nat} (hd:dZ N dst = true) :
 (∀ j,j < vs.length→(w.cell? ⟨(g.bx id).1,(g.bx id).2 + off + j,none⟩).isSome = true) ∧ (∀ j,j < vs.length→w.frozen? ⟨(g.bx id).1,(g.bx id).2 + off + j,none⟩ = false) ∧
 bO N c0 w0 (σ.app dst { v:=.any,bx:=[(id,.cells (splice cs off new))] }) g (a.put dst undef) (w.setCells (g.bx id).1 ((g.bx id).2 + off) vs):=by
 obtain ⟨hdb,us,h2,h3⟩:=h.box _ _ hb
 have hvl:=hv.length
 have Y0:=h2.length
 have hat:∀ j,j < vs.length→g.col (g.bx id).1 ((g.bx id).2 + off + j) = .bx id ∧ (w.cell? ⟨(g.bx id).1,(g.bx id).2 + off + j,none⟩).isSome = true ∧ w.frozen? ⟨(g.bx id).1,(g.bx id).2 + off + j,none⟩ = false:=fun j hj=>by
  obtain ⟨q1,q2,q3⟩:=h3 (off + j) us[off + j] (List.getElem?_eq_getElem (by omega))
  rw [← Nat.add_assoc] at q1 q2 q3
  exact ⟨q1,by rw [q2]; rfl,q3⟩
 refine ⟨fun j hj=>(hat j hj).2.1,fun j hj=>(hat j hj).2.2,h.YZ (c:=.cells (splice cs off new)) (p:=.any) (v:=undef) (qm fun j hj=>⟨(hat j hj).1,(hat j hj).2.1⟩) (.inl ⟨hdb,rfl⟩) (fun hst=>⟨hdb,us.take off ++ vs ++ us.drop (off + vs.length),?_,fun j v hj=>?_⟩) hd fun _=>by simp only [aF]⟩
 · unfold splice
   rw [hvl]
   exact ak.append (ak.append ((ak.mono hst _ _ h2).take off) (ak.mono hst _ _ hv)) ((ak.mono hst _ _ h2).drop _)
 · have hcs:=bE (w:=w) (b:=(g.bx id).1) (o:=(g.bx id).2 + off) (vs:=vs) fun j hj=>(hat j hj).2.1
   have hjl:j < us.length:=by
    have:=(List.getElem?_eq_some_iff.mp hj).1
    simp at this; omega
   obtain ⟨q1,q2,q3⟩:=h3 j us[j] (List.getElem?_eq_getElem hjl)
   refine ⟨q1,?_,by rw [World.frozen?_setCells]; exact q3⟩
   rw [iQ _ _ _ (by omega)] at hj
   rw [hcs]
   by_cases hw:off≤j ∧ j < off + vs.length
   · rw [if_pos hw] at hj
     rw [if_pos ⟨rfl,by omega,by omega⟩,← hj]
     congr 1; omega
   · rw [if_neg hw,List.getElem?_eq_getElem hjl] at hj
     rw [if_neg (by omega),q2]
     exact hj
theorem Iz (h:bO N c0 w0 σ g a w) {id:Nat} {t:Ty} {x:L t.T} {own:Option (Nat→Bool)} {hv nv:Nat} (hb:σ.box id = some (.row t x own hv nv)) {ad:Addr} (had:(g.hd id hv).1 = some ad) {i off n:Nat} (hi:i < x.len) (hfit:off + n≤t.size) :
 ∀ j,j < n→g.col ad.block (ad.off + i * t.size + off + j) = .bx id ∧ (w.cell? ⟨ad.block,ad.off + i * t.size + off + j,none⟩).isSome = true ∧ w.frozen? ⟨ad.block,ad.off + i * t.size + off + j,none⟩ = false:=fun j hj=>by
 obtain ⟨_,_,_,⟨h1,h2,h3⟩,h4⟩:=h.box _ _ hb
 have:=Nat.lt_of_lt_of_le (iy (q:=off + j) (sz:=t.size) hi (by omega)) (Nat.mul_le_mul_right _ h1.2.1)
 obtain ⟨q1,⟨v,q2⟩,q3⟩:=(h2 ad had).2 (i * t.size + off + j) (by omega)
 rw [show ad.off + (i * t.size + off + j) = ad.off + i * t.size + off + j by omega] at q1 q2 q3
 exact ⟨(h4 _ _ (by rw [q1]; simp)).1,by rw [q2]; rfl,q3⟩
theorem bO.wrR (h:bO N c0 w0 σ g a w) {id:Nat} {t:Ty} {x:L t.T} {own:Option (Nat→Bool)} {hv nv:Nat} (hb:σ.box id = some (.row t x own hv nv)) {ad:Addr} (had:(g.hd id hv).1 = some ad) {i off:Nat} {vs:List Value} (hi:i < x.len) (hfit:off + vs.length≤t.size)
 {cs:List PV} {y:t.T} (hv':ak g w cs vs) (hy:Vg t (x.get i) off cs = some y) {dst:Option Nat} (hd:dZ N dst = true) :
 bO N c0 w0 (σ.app dst { v:=.any,bx:=[(id,.row t (x.set i y) own hv nv)] }) g (a.put dst undef) (w.setCells ad.block (ad.off + i * t.size + off) vs):=by
 have hat:=Iz h hb had hi hfit
 obtain ⟨d1,d2,d3,d4,d5⟩:=h.box _ _ hb
 obtain ⟨t1,t2⟩:=dM h hb
 refine h.YZ (c:=.row t (x.set i y) own hv nv) (p:=.any) (v:=undef) (qm fun j hj=>⟨(hat j hj).1,(hat j hj).2.1⟩) (.inr ⟨dL h hb rfl,rfl,t1,t2⟩) (fun hst=>⟨d1,d2,d3,?_,fun b o hr=>?_⟩) hd fun _=>by simp only [aF]
 · refine d4.wrE had hi hfit hst.toStays (fun _ _ q=>q) (fun _ _=>rfl) (fun _ _=>rfl) (fun _ _ _ _ _ q=>q) fun us hl uf=>?_
   have:=RJ hy uf hv' (by omega)
   have hcs:=bE (w:=w) (b:=ad.block) (o:=ad.off + i * t.size + off) (vs:=vs) fun j hj=>(hat j hj).2.1
   refine bD.mono hst.toStays (fun b o v j a1 a2 a3=>⟨a1,?_,by rw [World.frozen?_setCells]; exact a3⟩) (fun _=>rfl) _ _ _ _ this
   rw [hcs,if_neg,a2]
   rintro ⟨rfl,q1,q2⟩
   have hlt:=Nat.lt_of_lt_of_le (iy (q:=o - ad.off - i * t.size) (sz:=t.size) hi (by omega)) (Nat.mul_le_mul_right _ d4.1.2.1)
   have:=((d4.2.1 ad had).2 (o - ad.off) (by omega)).1
   rw [show ad.off + (o - ad.off) = o by omega,a1] at this
   cases this
 · obtain ⟨q1,⟨v,q2⟩,q3⟩:=d5 b o hr
   refine ⟨q1,?_,by rw [World.frozen?_setCells]; exact q3⟩
   rw [bE fun j hj=>(hat j hj).2.1]
   split
   · exact ⟨_,List.getElem?_eq_getElem (by omega)⟩
   · exact ⟨v,q2⟩
end
end Go.VE
