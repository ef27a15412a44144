import Derived.Test.YtgllenfbilnneaaGreatDoorVk8
/- Tools for plain laws: loops,numbers. -/
namespace Go.VE
theorem aJ {n:Int} (h1:-9223372036854775808≤n) (h2:n≤9223372036854775807):wI n = n:=by
 unfold wI IntKind.wrap
 simp only [IntKind.bits,IntKind.signed]
 have e:(2:Int) ^ 64 = 18446744073709551616:=by decide
 have e2:(2:Int) ^ 63 = 9223372036854775808:=by decide
 simp
 omega
theorem eH {X D:Type} {step:X→Option (X⊕D)} (μ:X→Nat) (I:X→Prop) (R:X→D→Prop)
 (h:∀ x,I x→(∃ y,step x = some (.inl y) ∧ I y ∧ μ y < μ x ∧ ∀ d,R y d→R x d) ∨ ∃ d,step x = some (.inr d) ∧ R x d):∀ x,I x→∃ d,aL step x = some d ∧ R x d:=by
 intro x
 generalize hn:μ x = n
 induction n using Nat.strongRecOn generalizing x with
 | _ n ih =>
   intro hI
   rcases h x hI with ⟨y,h1,h2,h3,h4⟩ | ⟨d,h1,h2⟩
   · obtain ⟨d,h5,h6⟩:=ih (μ y) (by omega) y rfl h2
     exact ⟨d,by rw [cu,h1]; exact h5,h4 d h6⟩
   · exact ⟨d,by rw [cu,h1],h2⟩
theorem ah {α:Type} {c:Bool} {a b:α} (h:c = true):(bif c then a else b) = a:=by rw [h]; rfl
theorem au {α:Type} {c:Bool} {a b:α} (h:c = false):(bif c then a else b) = b:=by rw [h]; rfl
theorem AY {X Y D E:Type} {s1:X→Option (X⊕D)} {s2:Y→Option (Y⊕E)} (S:X→Y→Prop) (R:D→E→Prop) (μ:X→Nat)
 (h:∀ x y,S x y→(∃ x' y',s1 x = some (.inl x') ∧ s2 y = some (.inl y') ∧ S x' y' ∧ μ x' < μ x) ∨ ∃ d e,s1 x = some (.inr d) ∧ s2 y = some (.inr e) ∧ R d e):∀ x y,S x y→∃ d e,aL s1 x = some d ∧ aL s2 y = some e ∧ R d e:=by
 intro x
 generalize hn:μ x = n
 induction n using Nat.strongRecOn generalizing x with
 | _ n ih =>
   intro y hS
   rcases h x y hS with ⟨x',y',h1,h2,h3,h4⟩ | ⟨d,e,h1,h2,h3⟩
   · obtain ⟨d,e,h5,h6,h7⟩:=ih (μ x') (by omega) x' rfl y' h3
     exact ⟨d,e,by rw [cu,h1]; exact h5,by rw [cu,h2]; exact h6,h7⟩
   · exact ⟨d,e,by rw [cu,h1],by rw [cu,h2],h3⟩
theorem yQ {α:Type} (r:L α) (i j:Nat) (v:α):(L.set r i v).get j = if j = i then v else r.get j:=by
 show (bif Nat.beq j i then v else r.get j) = _
 by_cases h:j = i
 · subst h; simp
 · cases hb:Nat.beq j i with
   | true=>exact absurd (Nat.eq_of_beq_eq_true hb) h
   | false=>simp [h]
theorem av {i n:Nat} (h:i < n) (hn:n≤2 ^ 47):wI ((i:Int) + 1) = ((i + 1:Nat):Int):=by
 have h47:(2:Nat) ^ 47 = 140737488355328:=by decide
 rw [h47] at hn
 rw [aJ (by omega) (by omega)]
 omega
theorem scan {X D:Type} {step:X→Option (X⊕D)} (st:Nat→X) (n:Nat) (ok:Nat→Bool) (Wl:Nat→D) (Wm:D) (hok:∀ i,i < n→ok i = true→step (st i) = some (.inl (st (i + 1))))
 (hbad:∀ i,i < n→ok i = false→step (st i) = some (.inr (Wl i))) (hend:step (st n) = some (.inr Wm)) :
 (∃ i,i < n ∧ ok i = false ∧ (∀ j,j < i→ok j = true) ∧ aL step (st 0) = some (Wl i)) ∨ ((∀ i,i < n→ok i = true) ∧ aL step (st 0) = some Wm):=by
 have key:∀ m k,k + m = n→(∀ j,j < k→ok j = true)→(∃ i,i < n ∧ ok i = false ∧ (∀ j,j < i→ok j = true) ∧ aL step (st k) = some (Wl i)) ∨ ((∀ i,i < n→ok i = true) ∧ aL step (st k) = some Wm):=by
  intro m
  induction m with
  | zero =>
    intro k hk hj
    have:k = n:=by omega
    subst this
    right
    exact ⟨hj,by rw [cu,hend]⟩
  | succ m ih =>
    intro k hk hj
    cases ho:ok k with
    | false=>exact .inl ⟨k,by omega,ho,hj,by rw [cu,hbad k (by omega) ho]⟩
    | true =>
      have:=ih (k + 1) (by omega) (fun j h=>by
       by_cases e:j = k
       · rw [e]; exact ho
       · exact hj j (by omega))
      rw [cu,hok k (by omega) ho]
      exact this
 exact key n 0 (by omega) (fun j h=>absurd h (Nat.not_lt_zero _))
theorem aj {i n:Nat} (h:i < n):(decide ((0:Int)≤(i:Int))&&decide ((i:Int) < (n:Int))) = true:=by simp; omega
theorem aM {i n:Nat} (h:i < n):decide ((i:Int) < (n:Int)) = true:=by simp; omega
theorem aK (n:Nat):decide ((n:Int) < (n:Int)) = false:=by simp
theorem lQ {α κ:Type} {step:((L α×(κ×(Int×(Int×Unit))))×Unit)→Option (((L α×(κ×(Int×(Int×Unit))))×Unit)⊕(((Int×Unit)×Unit)⊕((Unit×Unit)⊕Empty)))} {x:L α} {c:κ} (f:Nat→Bool)
 (hs:∀ i,i < x.len→step ((x,(c,((x.len:Int),((i:Int),())))),()) = if f i = true then some (.inr (.inl (((i:Int),()),()))) else some (.inl ((x,(c,((x.len:Int),(((i + 1:Nat):Int),())))),())))
 (hend:step ((x,(c,((x.len:Int),((x.len:Int),())))),()) = some (.inr (.inr (.inl ((),()))))) :
 (∃ i,i < x.len ∧ f i = true ∧ (∀ j,j < i→f j = false) ∧ aL step ((x,(c,((x.len:Int),((0:Int),())))),()) = some (.inl (((i:Int),()),()))) ∨
 ((∀ i,i < x.len→f i = false) ∧ aL step ((x,(c,((x.len:Int),((0:Int),())))),()) = some (.inr (.inl ((),())))):=by
 have h:=scan (step:=step) (fun i=>((x,(c,((x.len:Int),((i:Int),())))),())) x.len (fun i=>!f i) (fun i=>.inl (((i:Int),()),())) (.inr (.inl ((),())))
  (fun i hi ho=>by rw [hs i hi,if_neg (by simpa using ho)]) (fun i hi ho=>by rw [hs i hi,if_pos (by simpa using ho)]) hend
 rcases h with ⟨i,h1,h2,h3,h4⟩ | ⟨h1,h2⟩
 · exact .inl ⟨i,h1,by simpa using h2,fun j hj=>by simpa using h3 j hj,h4⟩
 · exact .inr ⟨fun i hi=>by simpa using h1 i hi,h2⟩
end Go.VE
