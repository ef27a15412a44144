import Derived.Test.YtgllenfbilnneaaGreatDoorVk1
/- Code: what the evaluator says of it holds. -/
namespace Go.VE
def XT.ex:XT→Exit
 | .normal=>.normal
 | .exit i=>.exit i
 | .ret=>.ret
theorem lq {P:Program} {Γ:TypeId→Option Ty} {T:tZ} {A:Nat→Option gJ}:∀ {l l':List (Nat×Code)},mF P Γ T A (l ++ l')→mF P Γ T A l ∧ mF P Γ T A l'
 | [],l',h=>⟨trivial,h⟩
 | p::r,l',h=>⟨⟨h.1,(lq h.2).1⟩,(lq h.2).2⟩
section
variable {P:Program} {Γ:TypeId→Option Ty} {T:tZ} {N:Fr} {c0:Nat→Nat→Col} {w0:World} {A:Nat→Option gJ}
theorem R3 {e' e:XT} (h:e'.same e = true):e' = e:=by
 cases e' <;> cases e <;> simp [XT.same] at h
 · rfl
 · rw [h]
 · rfl
theorem wS {R:Type}:∀ (es:List (XT×Shape)) (e:XT) (σ:AS) (d:Ru es) (K:XT→AS→Option R) (r:R),cls es e σ = some d→exK es d K = some r→∃ (s:Shape) (y:s.T),Lr s σ = some y ∧ K e (zY s y) = some r
 | [],e,σ,d,K,r,h,_=>by simp [cls] at h
 | (e',s)::rest,e,σ,d,K,r,h,hk=>by
   simp only [cls] at h
   split at h
   · rename_i hs
     obtain rfl:=R3 hs
     split at h
     · rename_i y hy
       simp only [Option.some.injEq] at h
       subst h
       exact ⟨s,y,hy,hk⟩
     · cases h
   · split at h
     · rename_i d' hd'
       simp only [Option.some.injEq] at h
       subst h
       exact wS rest e σ d' K r hd' hk
     · cases h
def Sound (P:Program) (Γ:TypeId→Option Ty) (T:tZ) (A:Nat→Option gJ) (N:Fr) (c0:Nat→Nat→Col) (w0:World) (code:Code) (c:Nat):Prop :=
 ∀ {R:Type} (σ:AS) (g:Gh) (a:Act) (w:World) (K:XT→AS→Option R) (r:R) (Q:Exit→Act→World→Prop),
   runK P Γ T A code c σ K = some r→bO N c0 w0 σ g a w→(∀ e σ' g' a' w',K e σ' = some r→bO N c0 w0 σ' g' a' w'→Q e.ex a' w')→code.wp P Q a w
theorem uW {b:Code} {c:Nat} (ih:Sound P Γ T A N c0 w0 b c) (keep boxes:List Nat) {R:Type} {K:XT→AS→Option R} {r:R} {Q:Exit→Act→World→Prop} (hQ:∀ e σ' g' a' w',K e σ' = some r→bO N c0 w0 σ' g' a' w'→Q e.ex a' w'):∀ (n:Nat) (σ:AS) (g:Gh) (a:Act) (w:World),
 Fw (fun σ K=>runK P Γ T A b c σ K) keep boxes n σ K = some r→bO N c0 w0 σ g a w→Code.rounds P b Q n a w
 | 0,σ,g,a,w,h,_=>by simp [Fw] at h
 | n + 1,σ,g,a,w,h,hs=>by
   rw [rounds_succ]
   simp only [Fw] at h
   refine ih σ g a w _ r _ h hs fun e σ' g' a' w' he hs'=>?_
   cases e with
   | normal =>
     obtain ⟨g2,hs2⟩:=AQ hs' keep boxes
     exact uW ih keep boxes hQ n _ g2 a' w' he hs2
   | exit i=>exact hQ _ _ _ _ _ he hs'
   | ret=>exact hQ _ _ _ _ _ he hs'
theorem AR {b:Code} {c:Nat} (ih:Sound P Γ T A N c0 w0 b c) {sh:Shape} {es:List (XT×Shape)} {step:sh.T→Option (sh.T⊕Ru es)} (hl:∀ x d,step x = some d→runK P Γ T A b c (zY sh x) (oN (sh:=sh) (es:=es)) = some d)
 {R:Type} {K:XT→AS→Option R} {r:R} {Q:Exit→Act→World→Prop} (hQ:∀ e σ' g' a' w',K e σ' = some r→bO N c0 w0 σ' g' a' w'→Q e.ex a' w') {d:Ru es} (hd:exK es d K = some r):∀ (n:Nat) (x:sh.T) (g:Gh) (a:Act) (w:World),
 jg step n x = some d→bO N c0 w0 (zY sh x) g a w→Code.rounds P b Q n a w
 | 0,x,g,a,w,h,_=>by simp [jg] at h
 | n + 1,x,g,a,w,h,hs=>by
   rw [rounds_succ]
   simp only [jg] at h
   cases hst:step x with
   | none=>rw [hst] at h; simp at h
   | some q =>
     rw [hst] at h
     refine ih (zY sh x) g a w _ q _ (hl x q hst) hs fun e σ' g' a' w' he hs'=>?_
     cases e with
     | normal =>
       simp only [oN] at he
       split at he
       · rename_i y hy
         simp only [Option.some.injEq] at he
         subst he
         obtain ⟨g2,hs2⟩:=uV hs' hy
         exact AR ih hl hQ hd n y g2 a' w' h hs2
       · cases he
     | exit i =>
       simp only [oN] at he
       split at he
       · rename_i d' hd'
         simp only [Option.some.injEq] at he
         subst he
         simp only [Option.some.injEq] at h
         subst h
         obtain ⟨s,y,h1,h2⟩:=wS es _ σ' _ K r hd' hd
         obtain ⟨g2,hs2⟩:=uV hs' h1
         exact hQ (.exit i) _ _ _ _ h2 hs2
       · cases he
     | ret =>
       simp only [oN] at he
       split at he
       · rename_i d' hd'
         simp only [Option.some.injEq] at he
         subst he
         simp only [Option.some.injEq] at h
         subst h
         obtain ⟨s,y,h1,h2⟩:=wS es _ σ' _ K r hd' hd
         obtain ⟨g2,hs2⟩:=uV hs' h1
         exact hQ .ret _ _ _ _ h2 hs2
       · cases he
theorem IZ (hm:P.follows .mixedOrders = true) (yC:sM P Γ) (hT:pJ P T):∀ (code:Code) (c:Nat),jS N.n code = true→mF P Γ T A (jh code c)→Sound P Γ T A N c0 w0 code c:=by
 intro code
 induction code with
 | skip =>
   intro c _ _ R σ g a w K r Q h hs hQ
   exact wp_skip (hQ .normal _ _ _ _ h hs)
 | region id ops d =>
   intro c hd _ R σ g a w K r Q h hs hQ
   simp only [runK] at h
   simp only [jS,List.all_eq_true] at hd
   cases d with
   | true =>
     simp only [cond_true] at h
     have conv:∀ (σ':AS) (es':List (Nat×Nat×Bool)),(bif ng ops.toList es' then K .normal σ' else none) = some r→ng ops.toList es' = true ∧ K .normal σ' = some r:=by
      intro σ' es' he
      cases hok:ng ops.toList es' with
      | true=>rw [hok] at he; exact ⟨rfl,he⟩
      | false=>rw [hok] at he; simp at he
     refine wp_region_any hm (Oi yC hT hd h (fun σ' es' he=>(conv σ' es' he).1) hs.drew fun σ' es' g' a' w' he hs'=>?_)
     exact hQ .normal _ _ _ _ (conv σ' es' he).2 hs'
   | false =>
     refine wp_region ?_
     simp only [cond_false] at h
     have:=El yC hT hd ops.toList 0 σ g a w _ r (by simp) h hs fun σ' g' a' w' he hs'=>hQ .normal _ _ _ _ he hs'
     rw [List.range_eq_range']
     simpa using this
 | seq x y ihx ihy =>
   intro c hd hl R σ g a w K r Q h hs hQ
   simp only [jS,Bool.and_eq_true] at hd
   obtain ⟨hl1,hl2⟩:=lq hl
   simp only [runK] at h
   refine wp_seq (ihx c hd.1 hl1 σ g a w _ r _ h hs fun e σ' g' a' w' he hs'=>?_)
   cases e with
   | normal=>exact ihy c hd.2 hl2 σ' g' a' w' K r Q he hs' hQ
   | exit i=>exact hQ _ _ _ _ _ he hs'
   | ret=>exact hQ _ _ _ _ _ he hs'
 | cond o x y ihx ihy =>
   intro c hd hl R σ g a w K r Q h hs hQ
   simp only [jS,Bool.and_eq_true] at hd
   obtain ⟨hl1,hl2⟩:=lq hl
   simp only [runK] at h
   split at h
   · rename_i t ht
     have hr:=JE hs.env o
     rw [ht] at hr
     simp only [aF] at hr
     cases t with
     | true=>exact wp_cond_true hr (ihx c hd.1 hl1 σ g a w K r Q h hs hQ)
     | false=>exact wp_cond_false hr (ihy c hd.2 hl2 σ g a w K r Q h hs hQ)
   · cases h
 | block id b ih =>
   intro c hd hl R σ g a w K r Q h hs hQ
   simp only [runK] at h
   refine wp_block (ih id hd hl σ g a w _ r _ h hs fun e σ' g' a' w' he hs'=>?_)
   cases e with
   | normal=>exact hQ .normal _ _ _ _ he hs'
   | ret=>exact hQ .ret _ _ _ _ he hs'
   | exit j =>
     simp only at he
     show (if j = id then Q .normal a' w' else Q (.exit j) a' w')
     cases hb:Nat.beq j id with
     | true =>
       rw [hb] at he
       rw [if_pos (Nat.eq_of_beq_eq_true hb)]
       exact hQ .normal _ _ _ _ he hs'
     | false =>
       rw [hb] at he
       rw [if_neg (fun e=>by subst e; simp at hb)]
       exact hQ (.exit j) _ _ _ _ he hs'
 | loop b ih =>
   intro c hd hl R σ g a w K r Q h hs hQ
   have ihb:Sound P Γ T A N c0 w0 b c:=ih c hd hl.2
   have hl1:=hl.1
   simp only [runK] at h
   unfold Np at hl1
   simp only at hl1
   split at h
   · rename_i sh es step hA
     rw [hA] at hl1
     simp only at hl1
     split at h
     · rename_i x hx
       cases hf:aL step x with
       | none=>rw [hf] at h; simp at h
       | some d =>
         rw [hf] at h
         simp only [Option.bind_some] at h
         obtain ⟨n,hn⟩:=wC.mp hf
         obtain ⟨g2,hs2⟩:=uV hs hx
         exact wp_loop_rounds n (AR ihb hl1 hQ h n x g2 a w hn hs2)
     · cases h
   · rename_i n keep boxes hA
     obtain ⟨g2,hs2⟩:=AQ hs keep boxes
     exact wp_loop_rounds n (uW ihb keep boxes hQ n _ g2 a w h hs2)
   · cases h
 | exit id =>
   intro c _ _ R σ g a w K r Q h hs hQ
   exact wp_exit (hQ (.exit id) _ _ _ _ h hs)
 | ret =>
   intro c _ _ R σ g a w K r Q h hs hQ
   exact wp_ret (hQ .ret _ _ _ _ h hs)
 | _ =>
   intro c _ _ R σ g a w K r Q h hs hQ
   simp [runK] at h
end
end Go.VE
