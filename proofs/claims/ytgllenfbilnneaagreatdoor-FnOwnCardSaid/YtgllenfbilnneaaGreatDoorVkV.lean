import Derived.Test.YtgllenfbilnneaaGreatDoorVk9
/- Tools for plain laws. -/
namespace Go.VE
theorem qx {X D:Type} {step:X→Option (X⊕D)} (n:Nat) (I:Nat→X→Prop) (R:D→Prop)
 (hs:∀ i x,i < n→I i x→(∃ y,step x = some (.inl y) ∧ I (i + 1) y) ∨ ∃ d,step x = some (.inr d) ∧ R d)
 (he:∀ x,I n x→∃ d,step x = some (.inr d) ∧ R d):∀ x,I 0 x→∃ d,aL step x = some d ∧ R d:=by
 have key:∀ m i,i + m = n→∀ x,I i x→∃ d,aL step x = some d ∧ R d:=by
  intro m
  induction m with
  | zero =>
    intro i hi x hx
    have:i = n:=by omega
    subst this
    obtain ⟨d,h1,h2⟩:=he x hx
    exact ⟨d,by rw [cu,h1],h2⟩
  | succ m ih =>
    intro i hi x hx
    rcases hs i x (by omega) hx with ⟨y,h1,h2⟩ | ⟨d,h1,h2⟩
    · obtain ⟨d,h3,h4⟩:=ih (i + 1) (by omega) y h2
      exact ⟨d,by rw [cu,h1]; exact h3,h4⟩
    · exact ⟨d,by rw [cu,h1],h2⟩
 exact fun x hx=>key n 0 (by omega) x hx
theorem Sg {X D β:Type} {step:X→Option (X⊕D)} (n:Nat) (st:Nat→L β→X) (fin:L β→D) (R:Nat→β→Prop)
 (hs:∀ i r,i < n→r.len = i→∃ r':L β,step (st i r) = some (.inl (st (i + 1) r')) ∧ r'.len = i + 1 ∧ (∀ j,j < i→r'.get j = r.get j) ∧ R i (r'.get i))
 (he:∀ r,r.len = n→step (st n r) = some (.inr (fin r))) {r0:L β} (h0:r0.len = 0) :
 ∃ r,aL step (st 0 r0) = some (fin r) ∧ r.len = n ∧ ∀ i,i < n→R i (r.get i):=by
 obtain ⟨d,h1,r,rfl,h2,h3⟩:=qx (step:=step) n (fun i x=>∃ r:L β,x = st i r ∧ r.len = i ∧ ∀ j,j < i→R j (r.get j)) (fun d=>∃ r:L β,d = fin r ∧ r.len = n ∧ ∀ i,i < n→R i (r.get i))
  (by
   rintro i _ hi ⟨r,rfl,hr,hR⟩
   obtain ⟨r',q1,q2,q3,q4⟩:=hs i r hi hr
   refine .inl ⟨_,q1,r',rfl,q2,fun j hj=>?_⟩
   rcases Nat.lt_or_eq_of_le (Nat.le_of_lt_succ hj) with q | rfl
   · rw [q3 j q]; exact hR j q
   · exact q4)
  (by
   rintro _ ⟨r,rfl,hr,hR⟩
   exact ⟨_,he r hr,r,rfl,hr,hR⟩) (st 0 r0) ⟨r0,rfl,h0,fun j hj=>absurd hj (Nat.not_lt_zero j)⟩
 exact ⟨r,h1,h2,h3⟩
def Chain {α:Type} (E:α→Int→Int→Prop) (c:Int) (x:L α) (n:Nat) (k k':Int):Prop :=
 ∃ ks:Nat→Int,ks 0 = k ∧ ks n = k' ∧ (∀ i,i < n→E (x.get i) (ks i) (ks (i + 1)) ∧ ks i≤ks (i + 1) ∧ ks (i + 1)≤ks i + c)
theorem Chain.le {α:Type} {E:α→Int→Int→Prop} {c:Int} {x:L α} {n:Nat} {k k':Int} (h:Chain E c x n k k'):k≤k' ∧ k'≤k + c * n:=by
 obtain ⟨ks,rfl,rfl,h⟩:=h
 have:∀ i,i≤n→ks 0≤ks i ∧ ks i≤ks 0 + c * i:=by
  intro i
  induction i with
  | zero=>intro _; simp
  | succ i ih =>
    intro hi
    obtain ⟨a,b⟩:=ih (by omega)
    obtain ⟨_,d,e⟩:=h i (by omega)
    refine ⟨by omega,?_⟩
    have:c * ((i + 1:Nat):Int) = c * i + c:=by rw [Int.natCast_add,Int.mul_add]; simp
    omega
 exact this n (Nat.le_refl _)
def Same:(t:Ty)→t.T→t.T→Prop
 | .int _,x,y=>x = y
 | .bool,x,y=>x = y
 | .str,x,y=>x = y
 | .unit,_,_=>True
 | .pair a b,x,y=>Same a x.1 y.1 ∧ Same b x.2 y.2
 | .sl t,x,y=>x.len = y.len ∧ ∀ i,i < x.len→Same t (x.get i) (y.get i)
theorem Same.refl:∀ (t:Ty) (x:t.T),Same t x x:=by
 intro t
 induction t with
 | pair a b iha ihb=>exact fun x=>⟨iha _,ihb _⟩
 | sl t ih=>exact fun x=>⟨rfl,fun i _=>ih _⟩
 | unit=>exact fun _=>trivial
 | _=>exact fun _=>rfl
theorem Same.symm:∀ {t:Ty} {x y:t.T},Same t x y→Same t y x:=by
 intro t
 induction t with
 | pair a b iha ihb=>exact fun h=>⟨iha h.1,ihb h.2⟩
 | sl t ih=>exact fun h=>⟨h.1.symm,fun i hi=>ih (h.2 i (by rw [h.1]; exact hi))⟩
 | unit=>exact fun _=>trivial
 | _=>exact fun h=>Eq.symm h
theorem Same.trans:∀ {t:Ty} {x y z:t.T},Same t x y→Same t y z→Same t x z:=by
 intro t
 induction t with
 | pair a b iha ihb=>exact fun h k=>⟨iha h.1 k.1,ihb h.2 k.2⟩
 | sl t ih=>exact fun h k=>⟨h.1.trans k.1,fun i hi=>ih (h.2 i hi) (k.2 i (by rw [← h.1]; exact hi))⟩
 | unit=>exact fun _ _=>trivial
 | _=>exact fun h k=>Eq.trans h k
def Bd (m:Nat):(t:Ty)→t.T→Prop
 | .pair a b,x=>Bd m a x.1 ∧ Bd m b x.2
 | .sl t,x=>x.len≤m ∧ ∀ i,i < x.len→Bd m t (x.get i)
 | _,_=>True
theorem Bd.same {m:Nat}:∀ {t:Ty} {x y:t.T},Same t x y→Bd m t x→Bd m t y:=by
 intro t
 induction t with
 | pair a b iha ihb=>exact fun h k=>⟨iha h.1 k.1,ihb h.2 k.2⟩
 | sl t ih=>exact fun h k=>⟨by rw [← h.1]; exact k.1,fun i hi=>ih (h.2 i (by rw [h.1]; exact hi)) (k.2 i (by rw [h.1]; exact hi))⟩
 | _=>exact fun _ _=>trivial
theorem Bd.mono {m m':Nat} (hm:m≤m'):∀ {t:Ty} {x:t.T},Bd m t x→Bd m' t x:=by
 intro t
 induction t with
 | pair a b iha ihb=>exact fun k=>⟨iha k.1,ihb k.2⟩
 | sl t ih=>exact fun k=>⟨by have:=k.1; omega,fun i hi=>ih (k.2 i hi)⟩
 | _=>exact fun _=>trivial
theorem jU {α:Type} (x:L α) (i:Nat) (f:α→α):(L.upd x i f).get i = f (x.get i):=by unfold L.upd; rw [yQ,if_pos rfl]
theorem jV {α:Type} (x:L α) {i j:Nat} (f:α→α) (h:j ≠ i):(L.upd x i f).get j = x.get j:=by unfold L.upd; rw [yQ,if_neg h]
theorem Si {α:Type} (x:L α) (i:Nat) (v:α):(L.set x i v).len = x.len:=rfl
theorem dQ {α:Type} (x:L α) (i:Nat) (v:α):(L.set x i v).get i = v:=by rw [yQ,if_pos rfl]
theorem bR {α:Type} (x:L α) {i j:Nat} (v:α) (h:j ≠ i):(L.set x i v).get j = x.get j:=by rw [yQ,if_neg h]
end Go.VE
