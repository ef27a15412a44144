import Derived.Test.YtgllenfbilnneaaGreatDoorVkF
import Derived.Laws.StructEq
import Derived.Laws.Strings
/- Each operation of the evaluator is what the machine does: numbers,strings,structs. -/
namespace Go.VE
theorem qh {P:Program} {w:World} (op:BinOp) (t:TypeId) (x y:Operand) (k:IntKind) (a:Int) (v:Value):(eqGuard op t x y (.int k a) v).run P w = .ok () w:=by
 cases op <;> simp [eqGuard]
theorem uF {P:Program} {w:World} (op:BinOp) (t:TypeId) (x y:Operand) (a:Bool) (v:Value):(eqGuard op t x y (.bool a) v).run P w = .ok () w:=by
 cases op <;> simp [eqGuard]
theorem qj {P:Program} {w:World} (op:BinOp) (t:TypeId) (x y:Operand) (a:ByteArray) (v:Value):(eqGuard op t x y (.string a) v).run P w = .ok () w:=by
 cases op <;> simp [eqGuard]
theorem LC {P:Program} {w:World} {g:Gh} {op:BinOp} {t:TypeId} {k:IntKind} {a b:Int} {p:PV} (h:Fh op k a b = some (true,p)) (hs:op ≠ .shl) (hs':op ≠ .shr) :
 ∃ v,(binOp op t (.int k a) (.int k b)).run P w = .ok v w ∧ aF g w p v:=by
 cases op <;> simp only [Fh] at h <;> first | (cases h; done) | (exact absurd rfl hs) | (exact absurd rfl hs') | skip
 all_goals
  simp only [Option.some.injEq,Prod.mk.injEq,true_and,Bool.not_eq_true',decide_eq_false_iff_not] at h
 all_goals first
  | (obtain ⟨hb,rfl⟩:=h; refine ⟨_,?_,by simp only [aF]; rfl⟩; simp [binOp,Op.intDiv,hb]; done)
  | (subst h; refine ⟨_,?_,by simp only [aF]; rfl⟩; simp [binOp,Op.intArith,Op.intBits,Op.intCmp]; done)
theorem uG {P:Program} {w:World} {g:Gh} (d:Nat) (xs ys:Array Value):∀ (fs:List Field) (i:Nat) (as bs:List PV) (q:Bool),DN P fs i as bs = some q →
 ak g w as (xs.toList.drop i)→ak g w bs (ys.toList.drop i)→(Op.eqFields (d + 1) xs ys fs).run P w = .ok q w
 | [],i,as,bs,q,h,ha,hb=>by
   cases as <;> cases bs <;> simp [DN] at h
   subst h; simp [Op.eqFields]
 | f::fs,i,as,bs,q,h,ha,hb=>by
   have step:∀ (u v:Value) (r:Bool) (q':Bool),(f.name == "_") = false→f.offset = i→xs[i]? = some u→ys[i]? = some v→(∃ d1,P.underlying f.type = some d1 ∧ (match d1 with | .struct _=>False | .array _ _=>False | _=>True)) →
    (Op.equalIn (d + 1) f.type u v).run P w = .ok r w→(Op.eqFields (d + 1) xs ys fs).run P w = .ok q' w→(Op.eqFields (d + 1) xs ys (f::fs)).run P w = .ok (r&&q') w:=by
    intro u v r q' hn ho hu hv hd he hr
    have hn':f.name ≠ "_":=by simpa using hn
    obtain ⟨d1,hd1,hd2⟩:=hd
    have hag:VE.isAgg P f.type = some false:=by
     unfold VE.isAgg; rw [hd1]
     cases d1 <;> first | rfl | exact hd2.elim
    have pu:∀ (zs:Array Value) (z:Value),zs[i]? = some z→(part f.type zs f.offset).run P w = .ok z w:=by
     intro zs z hz
     simp only [part,Sem.run_bind,nO hag,Result.andThen_ok]
     rw [if_neg (by simp),ho,hz]; rfl
    rw [Op.eqFields]
    simp only [if_pos hn',Sem.run_bind,pu xs u hu,pu ys v hv,he,Result.andThen_ok]
    cases r
    · simp
    · simpa using hr
   have hd0:∀ (zs:Array Value) (u:Value) (us:List Value),zs.toList.drop i = u::us→zs[i]? = some u ∧ zs.toList.drop (i + 1) = us:=by
    intro zs u us hz
    constructor
    · have:=congrArg (fun l=>l[0]?) hz
      simpa using this
    · have:=congrArg List.tail hz
      simpa using this
   cases as with
   | nil=>simp [DN] at h
   | cons p ps =>
   cases bs with
   | nil=>cases p <;> simp [DN] at h
   | cons p' ps' =>
     simp only [ak] at ha hb
     obtain ⟨u,us,e1,h1,h2⟩:=ha
     obtain ⟨v,vs,e2,h3,h4⟩:=hb
     obtain ⟨x1,x2⟩:=hd0 _ _ _ e1
     obtain ⟨y1,y2⟩:=hd0 _ _ _ e2
     cases p <;> cases p' <;> simp only [DN] at h <;> try cases h
     · split at h
       · rename_i k a k' b hh
         obtain ⟨rfl,hn,ho,hk⟩:=hh
         simp only [Option.map_eq_some_iff] at h
         obtain ⟨q',hq,rfl⟩:=h
         simp only [aF] at h1 h3
         subst h1 h3
         have ih:=uG d xs ys fs (i + 1) ps ps' q' hq (by rw [x2]; exact h2) (by rw [y2]; exact h4)
         have hu:∃ k',P.underlying f.type = some (.int k'):=by
          unfold qW at hk
          split at hk
          · exact ⟨_,‹_›⟩
          · cases hk
         obtain ⟨k',hu⟩:=hu
         exact step _ _ _ _ hn ho x1 y1 ⟨_,hu,trivial⟩ (run_equalIn_int w d _ _ _ _ _ hu) ih
       · cases h
     · split at h
       · rename_i a b hh
         obtain ⟨hn,ho,hk⟩:=hh
         simp only [Option.map_eq_some_iff] at h
         obtain ⟨q',hq,rfl⟩:=h
         simp only [aF] at h1 h3
         subst h1 h3
         have ih:=uG d xs ys fs (i + 1) ps ps' q' hq (by rw [x2]; exact h2) (by rw [y2]; exact h4)
         have hu:P.underlying f.type = some .bool:=by
          unfold Fj at hk
          split at hk
          · assumption
          · cases hk
         exact step _ _ _ _ hn ho x1 y1 ⟨_,hu,trivial⟩ (run_equalIn_bool w d _ _ _ hu) ih
       · cases h
     · split at h
       · rename_i a b hh
         obtain ⟨hn,ho,hk⟩:=hh
         simp only [Option.map_eq_some_iff] at h
         obtain ⟨q',hq,rfl⟩:=h
         simp only [aF] at h1 h3
         subst h1 h3
         have ih:=uG d xs ys fs (i + 1) ps ps' q' hq (by rw [x2]; exact h2) (by rw [y2]; exact h4)
         have hu:P.underlying f.type = some .string:=by
          unfold Jz at hk
          split at hk
          · assumption
          · cases hk
         exact step _ _ _ _ hn ho x1 y1 ⟨_,hu,trivial⟩ (run_equalIn_string w d _ _ _ hu) ih
       · cases h
theorem uH {P:Program} {w:World} {g:Gh} {t:TypeId} {as bs:List PV} {q:Bool} {us vs:List Value} (h:uh P t as bs = some q) (ha:ak g w as us) (hb:ak g w bs vs) (op:BinOp) (x y:Operand) :
 (eqGuard op t x y (.agg us.toArray) (.agg vs.toArray)).run P w = .ok () w ∧ (Op.equalIn 10000 t (.agg us.toArray) (.agg vs.toArray)).run P w = .ok q w:=by
 unfold uh at h
 split at h
 · rename_i fs hu
   split at h
   · rename_i hh
     have hf:P.fieldsOf t = fs:=by simp [Program.fieldsOf,hu]
     refine ⟨run_eqGuard_agg w op t x y _ _ hh.2,?_⟩
     rw [run_equalIn_struct (P:=P) w 9999 t _ _ (by rw [hf]; exact hu) hh.1,hf]
     exact uG (g:=g) 9998 _ _ _ 0 _ _ _ h (by simpa using ha) (by simpa using hb)
   · cases h
 · cases h
theorem yA {P:Program} (w:World) (d:Nat) (t e:TypeId) (a:Option Addr) (l c:Nat) (h:P.underlying t = some (.slice e)):(Op.equalIn (d + 1) t (.slice a l c) (.slice none 0 0)).run P w = .ok a.isNone w:=by
 cases a <;> simp [Op.equalIn,run_underlying h]
theorem nu {P:Program} (w:World) (t e:TypeId) (a:Option Addr) (l c:Nat) (h:P.underlying t = some (.slice e)):(Op.equal t (.slice a l c) (.slice none 0 0)).run P w = .ok a.isNone w:=by
 exact yA w 9999 t e a l c h
theorem ny {P:Program} {w:World} (op:BinOp) (t:TypeId) (x y:Operand) (a:Option Addr) (l c:Nat) (v:Value):(eqGuard op t x y (.slice a l c) v).run P w = .ok () w:=by
 cases op <;> simp [eqGuard]
theorem Aj {g:Gh} {w:World} {t:Ty} {x:L t.T} {u:Value} (h:aF g w (.sl t x) u):∃ a c,u = .slice a x.len c ∧ x.nil = a.isNone:=by
 simp only [aF] at h
 obtain ⟨a,cap,e,_,⟨_,hn⟩,_⟩:=h
 simp only [List.cons.injEq,and_true] at e
 refine ⟨a,cap,e,?_⟩
 cases a with
 | none=>exact hn.mpr rfl
 | some ad =>
   cases hx:x.nil with
   | false=>rfl
   | true=>have:=hn.mp hx; cases this
theorem NC {P:Program} {w:World} {g:Gh} {op:BinOp} {t:TypeId} {x y:PV} {p:PV} {u v:Value} (ox oy:Operand) (h:M8 P op t x y = some (true,p)) (hx:aF g w x u) (hy:aF g w y v) :
 ∃ z,((do eqGuard op t ox oy u v; binOp op t u v:Sem Value)).run P w = .ok z w ∧ aF g w p z:=by
 unfold M8 at h
 split at h
 · -- shl
   rename_i k a k' b
   simp only [Option.some.injEq,Prod.mk.injEq,decide_eq_true_eq] at h
   obtain ⟨hb,rfl⟩:=h
   simp only [aF] at hx hy; subst hx hy
   refine ⟨_,?_,by simp only [aF]; rfl⟩
   simp only [Sem.run_bind,qh,Result.andThen_ok]
   simp [binOp,Op.shift,kW,show ¬ b < 0 by omega]
 · rename_i k a k' b
   simp only [Option.some.injEq,Prod.mk.injEq,decide_eq_true_eq] at h
   obtain ⟨hb,rfl⟩:=h
   simp only [aF] at hx hy; subst hx hy
   refine ⟨_,?_,by simp only [aF]; rfl⟩
   simp only [Sem.run_bind,qh,Result.andThen_ok]
   simp [binOp,Op.shift,dz,show ¬ b < 0 by omega]
 · rename_i k a k' b n1 n2
   split at h
   · rename_i e; subst e
     simp only [aF] at hx hy; subst hx hy
     obtain ⟨z,h1,h2⟩:=LC (P:=P) (w:=w) (g:=g) (t:=t) h (by rintro rfl; first | exact n1 | simp at n1 | simp at n2) (by rintro rfl; first | exact n2 | simp at n2 | simp at n1)
     exact ⟨z,by simp only [Sem.run_bind,qh,Result.andThen_ok]; exact h1,h2⟩
   · cases h
 · rename_i a b
   split at h
   · rename_i hu
     simp only [Option.some.injEq,Prod.mk.injEq,true_and] at h; subst h
     simp only [aF] at hx hy; subst hx hy
     exact ⟨_,by simp only [Sem.run_bind,uF,Result.andThen_ok]; exact run_eql_bool w t a b hu,by simp only [aF]⟩
   · cases h
 · rename_i a b
   split at h
   · rename_i hu
     simp only [Option.some.injEq,Prod.mk.injEq,true_and] at h; subst h
     simp only [aF] at hx hy; subst hx hy
     exact ⟨_,by simp only [Sem.run_bind,uF,Result.andThen_ok]; exact run_neq_bool w t a b hu,by simp only [aF]⟩
   · cases h
 · rename_i a b
   simp only [Option.some.injEq,Prod.mk.injEq] at h
   obtain ⟨hl,rfl⟩:=h
   have hl:a.size + b.size≤9223372036854775807:=Nat.le_of_ble_eq_true hl
   have hmx:IntKind.i64.max = 9223372036854775807:=rfl
   simp only [aF] at hx hy; subst hx hy
   refine ⟨_,?_,by simp only [aF]; rfl⟩
   simp only [Sem.run_bind,qj,Result.andThen_ok]
   simp only [binOp,Op.stringOp]
   rw [if_neg (by rw [hmx]; omega)]; rfl
 · rename_i a b
   simp only [Option.some.injEq,Prod.mk.injEq,true_and] at h; subst h
   simp only [aF] at hx hy; subst hx hy
   refine ⟨_,?_,by simp only [aF]; rfl⟩
   simp only [Sem.run_bind,qj,Result.andThen_ok]
   rfl
 · rename_i a b
   simp only [Option.some.injEq,Prod.mk.injEq,true_and] at h; subst h
   simp only [aF] at hx hy; subst hx hy
   refine ⟨_,?_,by simp only [aF]; rfl⟩
   simp only [Sem.run_bind,qj,Result.andThen_ok]
   rfl
 · rename_i a b
   simp only [Option.map_eq_some_iff,Prod.mk.injEq,true_and] at h
   obtain ⟨q,h1,rfl⟩:=h
   simp only [aF] at hx hy
   obtain ⟨us,rfl,hu⟩:=hx
   obtain ⟨vs,rfl,hv⟩:=hy
   obtain ⟨h2,h3⟩:=uH h1 hu hv .eql ox oy
   refine ⟨_,?_,by simp only [aF]; rfl⟩
   simp only [Sem.run_bind,h2,Result.andThen_ok,run_eql_struct,h3]
 · rename_i a b
   simp only [Option.map_eq_some_iff,Prod.mk.injEq,true_and] at h
   obtain ⟨q,h1,rfl⟩:=h
   simp only [aF] at hx hy
   obtain ⟨us,rfl,hu⟩:=hx
   obtain ⟨vs,rfl,hv⟩:=hy
   obtain ⟨h2,h3⟩:=uH h1 hu hv .neq ox oy
   refine ⟨_,?_,by simp only [aF]; rfl⟩
   simp only [Sem.run_bind,h2,Result.andThen_ok,run_neq_struct,h3]
 · split at h
   · rename_i e hu
     simp only [Option.some.injEq,Prod.mk.injEq,true_and] at h; subst h
     obtain ⟨a,c,rfl,ha⟩:=Aj hx
     simp only [aF] at hy; subst hy
     refine ⟨_,?_,by simp only [aF]; rfl⟩
     simp only [Sem.run_bind,ny,Result.andThen_ok]
     simp only [binOp]
     simp [nu w t e a _ c hu,ha]
   · cases h
 · split at h
   · rename_i e hu
     simp only [Option.some.injEq,Prod.mk.injEq,true_and] at h; subst h
     obtain ⟨a,c,rfl,ha⟩:=Aj hx
     simp only [aF] at hy; subst hy
     refine ⟨_,?_,by simp only [aF]; rfl⟩
     simp only [Sem.run_bind,ny,Result.andThen_ok]
     simp only [binOp]
     simp [nu w t e a _ c hu,ha]
   · cases h
 · split at h
   · rename_i e hu
     simp only [Option.some.injEq,Prod.mk.injEq,true_and] at h; subst h
     simp only [aF] at hx hy; subst hx hy
     refine ⟨_,?_,by simp only [aF]; rfl⟩
     simp only [Sem.run_bind,ny,Result.andThen_ok]
     simp only [binOp]
     simp [nu w t e none 0 0 hu]
   · cases h
 · cases h
def PV.RI:PV→Bool
 | .int _ _=>true
 | .bool _=>true
 | .str _=>true
 | _=>false
theorem ND {g g':Gh} {w w':World} {p:PV} {v:Value} (hs:p.RI = true) (h:aF g w p v):aF g' w' p v:=by
 cases p <;> simp only [PV.RI] at hs <;> first | (cases hs; done) | simpa only [aF] using h
theorem Ir {op:BinOp} {k:IntKind} {a b:Int} {c:Bool} {p:PV} (h:Fh op k a b = some (c,p)):p.RI = true:=by
 unfold Fh at h
 split at h <;> first | (cases h; done) | (simp only [Option.some.injEq,Prod.mk.injEq] at h; rw [← h.2]; rfl)
theorem LD {P:Program} {op:BinOp} {t:TypeId} {x y p:PV} {c:Bool} (h:M8 P op t x y = some (c,p)):p.RI = true:=by
 unfold M8 at h
 split at h
 all_goals first
  | (cases h; done)
  | (simp only [Option.some.injEq,Prod.mk.injEq] at h; rw [← h.2]; rfl)
  | (split at h <;> first | (cases h; done) | exact Ir h | (simp only [Option.some.injEq,Prod.mk.injEq] at h; rw [← h.2]; rfl))
  | (simp only [Option.map_eq_some_iff] at h; obtain ⟨q,_,h⟩:=h; simp only [Prod.mk.injEq] at h; rw [← h.2]; rfl)
end Go.VE
