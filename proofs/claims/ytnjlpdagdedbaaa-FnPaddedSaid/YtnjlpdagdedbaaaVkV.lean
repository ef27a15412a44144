import Derived.Test.YtnjlpdagdedbaaaVk9
/- Tools for plain laws. -/
namespace Go.VE

theorem loop_n {X D:Type} {step:X→Option (X⊕D)} (n:Nat) (I:Nat→X→Prop) (R:D→Prop)
    (hs:∀ i x,i < n→I i x→(∃ y,step x = some (.inl y) ∧ I (i + 1) y) ∨ ∃ d,step x = some (.inr d) ∧ R d)
    (he:∀ x,I n x→∃ d,step x = some (.inr d) ∧ R d):∀ x,I 0 x→∃ d,fixO step x = some d ∧ R d:=by
  have key:∀ m i,i + m = n→∀ x,I i x→∃ d,fixO step x = some d ∧ R d:=by
    intro m
    induction m with
    | zero =>
      intro i hi x hx
      have:i = n:=by omega
      subst this
      obtain ⟨d,h1,h2⟩:=he x hx
      exact ⟨d,by rw [fixO_unfold,h1],h2⟩
    | succ m ih =>
      intro i hi x hx
      rcases hs i x (by omega) hx with ⟨y,h1,h2⟩ | ⟨d,h1,h2⟩
      · obtain ⟨d,h3,h4⟩:=ih (i + 1) (by omega) y h2
        exact ⟨d,by rw [fixO_unfold,h1]; exact h3,h4⟩
      · exact ⟨d,by rw [fixO_unfold,h1],h2⟩
  exact fun x hx=>key n 0 (by omega) x hx

theorem build_n {X D β:Type} {step:X→Option (X⊕D)} (n:Nat) (st:Nat→L β→X) (fin:L β→D) (R:Nat→β→Prop)
    (hs:∀ i r,i < n→r.len = i→∃ r':L β,step (st i r) = some (.inl (st (i + 1) r')) ∧ r'.len = i + 1 ∧ (∀ j,j < i→r'.get j = r.get j) ∧ R i (r'.get i))
    (he:∀ r,r.len = n→step (st n r) = some (.inr (fin r))) {r0:L β} (h0:r0.len = 0) :
    ∃ r,fixO step (st 0 r0) = some (fin r) ∧ r.len = n ∧ ∀ i,i < n→R i (r.get i):=by
  obtain ⟨d,h1,r,rfl,h2,h3⟩:=loop_n (step:=step) n (fun i x=>∃ r:L β,x = st i r ∧ r.len = i ∧ ∀ j,j < i→R j (r.get j)) (fun d=>∃ r:L β,d = fin r ∧ r.len = n ∧ ∀ i,i < n→R i (r.get i))
    (by
      rintro i _ hi ⟨r,rfl,hr,hR⟩
      obtain ⟨r',q1,q2,q3,q4⟩:=hs i r hi hr
      refine .inl ⟨_,q1,r',rfl,q2,fun j hj=>?_⟩
      rcases Nat.lt_or_eq_of_le (Nat.le_of_lt_succ hj) with q | rfl
      · rw [q3 j q]; exact hR j q
      · exact q4)
    (by
      rintro _ ⟨r,rfl,hr,hR⟩
      exact ⟨_,he r hr,r,rfl,hr,hR⟩) (st 0 r0) ⟨r0,rfl,h0,fun j hj=>absurd hj (Nat.not_lt_zero j)⟩
  exact ⟨r,h1,h2,h3⟩

theorem turn_n {X D β:Type} {step:X→Option (X⊕D)} (n:Nat) (st:Nat→L β→X) (fin:L β→D) (x:L β) (hx:x.len = n) (R:Nat→β→Prop)
    (hs:∀ i r,i < n→r.len = n→r.get i = x.get i→∃ r':L β,step (st i r) = some (.inl (st (i + 1) r')) ∧ r'.len = n ∧ (∀ j,j ≠ i→r'.get j = r.get j) ∧ R i (r'.get i))
    (he:∀ r,r.len = n→step (st n r) = some (.inr (fin r))) :
    ∃ r,fixO step (st 0 x) = some (fin r) ∧ r.len = n ∧ ∀ i,i < n→R i (r.get i):=by
  obtain ⟨d,h1,r,rfl,h2,h3⟩:=loop_n (step:=step) n (fun i y=>∃ r:L β,y = st i r ∧ r.len = n ∧ (∀ j,j < i→R j (r.get j)) ∧ ∀ j,i≤j→r.get j = x.get j) (fun d=>∃ r:L β,d = fin r ∧ r.len = n ∧ ∀ i,i < n→R i (r.get i))
    (by
      rintro i _ hi ⟨r,rfl,hr,hR,hg⟩
      obtain ⟨r',q1,q2,q3,q4⟩:=hs i r hi hr (hg i (Nat.le_refl _))
      refine .inl ⟨_,q1,r',rfl,q2,fun j hj=>?_,fun j hj=>by rw [q3 j (by omega)]; exact hg j (by omega)⟩
      rcases Nat.lt_or_eq_of_le (Nat.le_of_lt_succ hj) with q | rfl
      · rw [q3 j (by omega)]; exact hR j q
      · exact q4)
    (by
      rintro _ ⟨r,rfl,hr,hR,_⟩
      exact ⟨_,he r hr,r,rfl,hr,hR⟩) (st 0 x) ⟨x,rfl,hx,fun j hj=>absurd hj (Nat.not_lt_zero j),fun _ _=>rfl⟩
  exact ⟨r,h1,h2,h3⟩

def Chain {α:Type} (E:α→Int→Int→Prop) (c:Int) (x:L α) (n:Nat) (k k':Int):Prop :=
  ∃ ks:Nat→Int,ks 0 = k ∧ ks n = k' ∧ (∀ i,i < n→E (x.get i) (ks i) (ks (i + 1)) ∧ ks i≤ks (i + 1) ∧ ks (i + 1)≤ks i + c)
theorem Chain.le {α:Type} {E:α→Int→Int→Prop} {c:Int} {x:L α} {n:Nat} {k k':Int} (h:Chain E c x n k k'):k≤k' ∧ k'≤k + c * n:=by
  obtain ⟨ks,rfl,rfl,h⟩:=h
  have:∀ i,i≤n→ks 0≤ks i ∧ ks i≤ks 0 + c * i:=by
    intro i
    induction i with
    | zero=>intro _; simp
    | succ i ih =>
      intro hi
      obtain ⟨a,b⟩:=ih (by omega)
      obtain ⟨_,d,e⟩:=h i (by omega)
      refine ⟨by omega,?_⟩
      have:c * ((i + 1:Nat):Int) = c * i + c:=by rw [Int.natCast_add,Int.mul_add]; simp
      omega
  exact this n (Nat.le_refl _)

theorem mark_n {X D α:Type} {step:X→Option (X⊕D)} (n:Nat) (c:Int) (hc:0≤c) (E:α→Int→Int→Prop) (st:Nat→Int→L α→X) (fin:Int→L α→D) (x:L α) (hx:x.len = n) (k0:Int) (h0:0≤k0)
    (hs:∀ i k r,i < n→r.len = n→r.get i = x.get i→k0≤k→k≤k0 + c * i→∃ k' r',step (st i k r) = some (.inl (st (i + 1) k' r')) ∧ r'.len = n ∧ (∀ j,j ≠ i→r'.get j = r.get j) ∧ E (r'.get i) k k' ∧ k≤k' ∧ k'≤k + c)
    (he:∀ k r,r.len = n→step (st n k r) = some (.inr (fin k r))) :
    ∃ k' x',fixO step (st 0 k0 x) = some (fin k' x') ∧ x'.len = n ∧ Chain E c x' n k0 k':=by
  obtain ⟨d,h1,k',r,rfl,h2,h3⟩:=loop_n (step:=step) n
    (fun i y=>∃ (k:Int) (r:L α),y = st i k r ∧ r.len = n ∧ Chain E c r i k0 k ∧ ∀ j,i≤j→r.get j = x.get j) (fun d=>∃ (k:Int) (r:L α),d = fin k r ∧ r.len = n ∧ Chain E c r n k0 k)
    (by
      rintro i _ hi ⟨k,r,rfl,hr,hch,hg⟩
      obtain ⟨l1,l2⟩:=hch.le
      obtain ⟨k',r',q1,q2,q3,q4,q5,q6⟩:=hs i k r hi hr (hg i (Nat.le_refl _)) l1 l2
      obtain ⟨ks,e1,e2,e3⟩:=hch
      refine .inl ⟨_,q1,k',r',rfl,q2,⟨fun j=>if j≤i then ks j else k',by simp [e1],if_neg (by omega),fun j hj=>?_⟩,fun j hj=>by rw [q3 j (by omega)]; exact hg j (by omega)⟩
      simp only
      by_cases e:j = i
      · subst e
        rw [if_pos (Nat.le_refl _),if_neg (by omega),e2]
        exact ⟨q4,q5,q6⟩
      · rw [if_pos (by omega),if_pos (by omega),q3 j e]
        exact e3 j (by omega))
    (by
      rintro _ ⟨k,r,rfl,hr,hch,_⟩
      exact ⟨_,he k r hr,k,r,rfl,hr,hch⟩) (st 0 k0 x) ⟨k0,x,rfl,hx,⟨fun _=>k0,rfl,rfl,fun i hi=>absurd hi (Nat.not_lt_zero i)⟩,fun _ _=>rfl⟩
  exact ⟨k',r,h1,h2,h3⟩

theorem held_n {X D α:Type} {step:X→Option (X⊕D)} (n:Nat) (c:Int) (E:α→Int→Int→Prop) (st:Nat→Int→X) (fin:Int→D) (x:L α) {k0 k':Int} (hch:Chain E c x n k0 k')
    (hs:∀ i k k1,i < n→E (x.get i) k k1→k0≤k→k≤k1→k≤k0 + c * i→k1≤k + c→step (st i k) = some (.inl (st (i + 1) k1)))
    (he:∀ k,step (st n k) = some (.inr (fin k))):fixO step (st 0 k0) = some (fin k'):=by
  have hle:∀ i,i≤n→k0≤hch.choose i ∧ hch.choose i≤k0 + c * i:=by
    intro i hi
    exact Chain.le (x:=x) (n:=i) (E:=E) ⟨hch.choose,hch.choose_spec.1,rfl,fun j hj=>hch.choose_spec.2.2 j (by omega)⟩
  obtain ⟨e1,e2,e3⟩:=hch.choose_spec
  obtain ⟨d,h1,h2⟩:=loop_n (step:=step) n (fun i y=>y = st i (hch.choose i)) (fun d=>d = fin k')
    (by
      rintro i _ hi rfl
      obtain ⟨a,b⟩:=hle i (by omega)
      obtain ⟨q1,q2,q3⟩:=e3 i hi
      exact .inl ⟨_,hs i _ _ hi q1 a q2 b q3,rfl⟩)
    (by
      rintro _ rfl
      exact ⟨_,he _,by rw [e2]⟩) (st 0 k0) (by rw [e1])
  rw [h1,h2]

def Same:(t:Ty)→t.T→t.T→Prop
  | .int _,x,y=>x = y
  | .bool,x,y=>x = y
  | .str,x,y=>x = y
  | .unit,_,_=>True
  | .pair a b,x,y=>Same a x.1 y.1 ∧ Same b x.2 y.2
  | .sl t,x,y=>x.len = y.len ∧ ∀ i,i < x.len→Same t (x.get i) (y.get i)
theorem Same.refl:∀ (t:Ty) (x:t.T),Same t x x:=by
  intro t
  induction t with
  | pair a b iha ihb=>exact fun x=>⟨iha _,ihb _⟩
  | sl t ih=>exact fun x=>⟨rfl,fun i _=>ih _⟩
  | unit=>exact fun _=>trivial
  | _=>exact fun _=>rfl
theorem Same.symm:∀ {t:Ty} {x y:t.T},Same t x y→Same t y x:=by
  intro t
  induction t with
  | pair a b iha ihb=>exact fun h=>⟨iha h.1,ihb h.2⟩
  | sl t ih=>exact fun h=>⟨h.1.symm,fun i hi=>ih (h.2 i (by rw [h.1]; exact hi))⟩
  | unit=>exact fun _=>trivial
  | _=>exact fun h=>Eq.symm h
theorem Same.trans:∀ {t:Ty} {x y z:t.T},Same t x y→Same t y z→Same t x z:=by
  intro t
  induction t with
  | pair a b iha ihb=>exact fun h k=>⟨iha h.1 k.1,ihb h.2 k.2⟩
  | sl t ih=>exact fun h k=>⟨h.1.trans k.1,fun i hi=>ih (h.2 i hi) (k.2 i (by rw [← h.1]; exact hi))⟩
  | unit=>exact fun _ _=>trivial
  | _=>exact fun h k=>Eq.trans h k
def Bd (m:Nat):(t:Ty)→t.T→Prop
  | .pair a b,x=>Bd m a x.1 ∧ Bd m b x.2
  | .sl t,x=>x.len≤m ∧ ∀ i,i < x.len→Bd m t (x.get i)
  | _,_=>True
theorem Bd.same {m:Nat}:∀ {t:Ty} {x y:t.T},Same t x y→Bd m t x→Bd m t y:=by
  intro t
  induction t with
  | pair a b iha ihb=>exact fun h k=>⟨iha h.1 k.1,ihb h.2 k.2⟩
  | sl t ih=>exact fun h k=>⟨by rw [← h.1]; exact k.1,fun i hi=>ih (h.2 i (by rw [h.1]; exact hi)) (k.2 i (by rw [h.1]; exact hi))⟩
  | _=>exact fun _ _=>trivial
theorem Bd.mono {m m':Nat} (hm:m≤m'):∀ {t:Ty} {x:t.T},Bd m t x→Bd m' t x:=by
  intro t
  induction t with
  | pair a b iha ihb=>exact fun k=>⟨iha k.1,ihb k.2⟩
  | sl t ih=>exact fun k=>⟨by have:=k.1; omega,fun i hi=>ih (k.2 i hi)⟩
  | _=>exact fun _=>trivial

theorem upd_eq_get {α:Type} (x:L α) (i:Nat) (f:α→α):(L.upd x i f).get i = f (x.get i):=by unfold L.upd; rw [set_get,if_pos rfl]
theorem upd_ne_get {α:Type} (x:L α) {i j:Nat} (f:α→α) (h:j ≠ i):(L.upd x i f).get j = x.get j:=by unfold L.upd; rw [set_get,if_neg h]
theorem upd_len {α:Type} (x:L α) (i:Nat) (f:α→α):(L.upd x i f).len = x.len:=rfl
theorem set_len {α:Type} (x:L α) (i:Nat) (v:α):(L.set x i v).len = x.len:=rfl
theorem set_eq_get {α:Type} (x:L α) (i:Nat) (v:α):(L.set x i v).get i = v:=by rw [set_get,if_pos rfl]
theorem set_ne_get {α:Type} (x:L α) {i j:Nat} (v:α) (h:j ≠ i):(L.set x i v).get j = x.get j:=by rw [set_get,if_neg h]
theorem upd_twice {α:Type} (x:L α) (i:Nat) (f g:α→α):L.upd (L.upd x i f) i g = L.upd x i (fun e=>g (f e)):=by
  simp only [L.upd,L.set]
  congr 1
  funext j
  cases hb:Nat.beq j i with
  | true=>simp
  | false=>rfl

end Go.VE
