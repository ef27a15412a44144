import Derived.Test.YtnjlpdagdedbaaaGreatViT
/- Regions: one operation behind the other. -/
namespace Go.VE

section
variable {P : Program} {Γ : TypeId → Option Ty} {T : Tbl} {N : Fr} {c0 : Nat → Nat → Col} {w0 : World}

/-- One operation, told. -/
inductive OpStep (P : Program) (Γ : TypeId → Option Ty) (T : Tbl) (o : Oper) (σ : AS) : Dl → Prop
  | op {d : Dl} (hc : ∀ f args tys, o.op ≠ .call { callee := .value f, args, argTypes := tys }) (h : opD P Γ o σ = some (true, d)) : OpStep P Γ T o σ d
  | call {f : Operand} {args : Array Operand} {tys : Array TypeId} {g : FuncId} {cap : List PV} {c : Ctr} {x : InsT c.ins} {y : TysT c.out × PtT c.ins} {d : Dl} (ho : o.op = .call { callee := .value f, args, argTypes := tys }) (hf : evO σ.env f = .fn g cap)
      (hT : T.find g (cloIds (args.toList.map (evO σ.env) ++ cap)) = some c) (hx : unIns σ.box c.ins (args.toList.map (evO σ.env) ++ cap) = some x) (hn : nodupB (ptIds c.ins (args.toList.map (evO σ.env) ++ cap)) = true)
      (hd : disjB (ptIds c.ins (args.toList.map (evO σ.env) ++ cap)) (rfIds c.ins (args.toList.map (evO σ.env) ++ cap)) = true)
      (hfl : (rfIds c.ins (args.toList.map (evO σ.env) ++ cap)).isEmpty = true ∨ ((c.out.all Ty.flat = true ∨ frOk c.fr c.out = true) ∧ ptFlat c.ins = true)) (hF : c.F x = some y)
      (hD : resD c σ o.dst y.1 (wb σ.box c.ins (args.toList.map (evO σ.env) ++ cap) y.2) = some d) :
      OpStep P Γ T o σ d

/-- What a guard says: 'some b': there is one, and it lets by (or not). -/
def GuardIs (all : List Oper) (o : Oper) (σ : AS) (b : Bool) : Prop := match guardOf all o with
  | none => b = true
  | some (some g, want) => (∃ c, σ.env g = .bool c ∧ b = (c == want)) ∨ (σ.env g = .tup [] ∧ b = false)
  | some (none, _) => False

def outOf (o : Oper) (x : Option Dl) (σ : AS) : AS := match x with
  | some d => σ.app o.dst d
  | none => σ.put o.dst (.tup [])

def ent (T : Tbl) (all : List Oper) (o : Oper) (x : Option Dl) (i : Nat) (z : Nat) (env : Nat → PV) : List (Nat × Nat × Bool) := match x with
  | some _ => keyed i (foot T all o z env)
  | none => keyed i (footT all o)

theorem upd_self {env : Nat → PV} {g : Nat} {b : Bool} (h : env g = .bool b) : upd env g (.bool b) = env := by
  funext j
  rw [upd_eq]
  split
  · rename_i e; rw [e]; exact h.symm
  · rfl

theorem step_inv {R : Type} {o : Oper} {σ : AS} {K : Dl → Option R} {r : R}
    (h : (match o.op with
      | .call { callee := .value f, args, argTypes := _ } => match evO σ.env f with
        | .fn g cap => callK T σ o.dst g (args.toList.map (evO σ.env) ++ cap) K
        | _ => none
      | _ => match opD P Γ o σ with
        | some (c, d) => bif c then K d else none
        | none => none) = some r) : ∃ d, OpStep P Γ T o σ d ∧ K d = some r := by
  split at h
  · rename_i f args tys ho
    split at h
    · rename_i g cap hf
      unfold callK at h
      split at h
      · cases h
      · rename_i c hT
        split at h
        · cases h
        · rename_i x hx
          split at h
          · rename_i hh
            simp only [Bool.and_eq_true, Bool.or_eq_true, Bool.not_eq_true'] at hh
            obtain ⟨h1, h2, h3⟩ := hh
            cases hF : c.F x with
            | none => rw [hF] at h; simp at h
            | some y =>
              rw [hF] at h
              simp only [Option.bind_some] at h
              cases hD : resD c σ o.dst y.1 (wb σ.box c.ins (args.toList.map (evO σ.env) ++ cap) y.2) with
              | none => rw [hD] at h; simp at h
              | some d =>
                rw [hD] at h
                exact ⟨d, .call ho hf hT hx h1 h2 h3 hF hD, h⟩
          · cases h
    · cases h
  · rename_i hne
    split at h
    · rename_i c d hd
      cases c with
      | true => exact ⟨d, .op (fun f args tys e => hne _ _ _ e) hd, h⟩
      | false => simp at h
    · cases h

/-- One operation of a region that came through. -/
theorem regK_cons {R : Type} {all : List Oper} {o : Oper} {rest : List Oper} {i : Nat} {es : List (Nat × Nat × Bool)} {σ : AS} {K : AS → List (Nat × Nat × Bool) → Option R} {r : R} (h : regK P Γ T all (o :: rest) i es σ K = some r) :
    ∃ x : Option Dl, GuardIs all o σ x.isSome ∧ (∀ d, x = some d → OpStep P Γ T o σ d) ∧ regK P Γ T all rest (i + 1) (ent T all o x i σ.off σ.env ++ es) (outOf o x σ) K = some r := by
  rw [regK] at h
  simp only at h
  split at h
  · rename_i hg
    obtain ⟨d, h1, h2⟩ := step_inv h
    exact ⟨some d, by simp [GuardIs, hg], fun d' e => by cases e; exact h1, h2⟩
  · rename_i g want hg
    split at h
    · rename_i b hb
      have hself := upd_self hb
      cases b with
      | true =>
        simp only [cond_true] at h
        cases want with
        | true =>
          simp only [cond_true] at h
          rw [hself] at h
          obtain ⟨d, h1, h2⟩ := step_inv h
          exact ⟨some d, by simp only [GuardIs, hg]; exact .inl ⟨true, hb, rfl⟩, fun d' e => by cases e; exact h1, h2⟩
        | false =>
          simp only [cond_false] at h
          rw [hself] at h
          exact ⟨none, by simp only [GuardIs, hg]; exact .inl ⟨true, hb, rfl⟩, (fun d' e => nomatch e), h⟩
      | false =>
        simp only [cond_false] at h
        cases want with
        | true =>
          simp only [cond_true] at h
          rw [hself] at h
          exact ⟨none, by simp only [GuardIs, hg]; exact .inl ⟨false, hb, rfl⟩, (fun d' e => nomatch e), h⟩
        | false =>
          simp only [cond_false] at h
          rw [hself] at h
          obtain ⟨d, h1, h2⟩ := step_inv h
          exact ⟨some d, by simp only [GuardIs, hg]; exact .inl ⟨false, hb, rfl⟩, fun d' e => by cases e; exact h1, h2⟩
    · rename_i hb
      exact ⟨none, by simp only [GuardIs, hg]; exact .inr ⟨hb, rfl⟩, (fun d' e => nomatch e), h⟩
    · cases h
  · cases h

/-- What else an operation of a region whose order is told may be. -/
def ElseI {R : Type} (P : Program) (Γ : TypeId → Option Ty) (T : Tbl) (I : Inl) (all : List Oper) (o : Oper) (rest : List Oper) (σ : AS) (K : AS → Option R) (r : R) : Prop :=
  (∃ f args tys g cap, o.op = .call { callee := .value f, args, argTypes := tys } ∧ evO σ.env f = .fn g cap ∧
      I.run g (args.toList.map (evO σ.env) ++ cap) (o.dst.getD 0) σ (fun v σ' => regI P Γ T I all rest (σ'.put o.dst v) K) = some r) ∨
  (∃ σ', absO P o σ = some σ' ∧ regI P Γ T I all rest σ' K = some r)

/-- One operation of a region whose order is told. -/
theorem regI_cons {I : Inl} {R : Type} {all : List Oper} {o : Oper} {rest : List Oper} {σ : AS} {K : AS → Option R} {r : R} (h : regI P Γ T I all (o :: rest) σ K = some r) :
    (∃ x : Option Dl, GuardIs all o σ x.isSome ∧ (∀ d, x = some d → OpStep P Γ T o σ d) ∧ regI P Γ T I all rest (outOf o x σ) K = some r) ∨
    (GuardIs all o σ true ∧ ElseI P Γ T I all o rest σ K r) := by
  have step : ∀ {r : R}, (match o.op with
      | .call { callee := .value f, args, argTypes := _ } => match evO σ.env f with
        | .fn g cap => match T.find g (cloIds (args.toList.map (evO σ.env) ++ cap)) with
          | some _ => callK T σ o.dst g (args.toList.map (evO σ.env) ++ cap) fun d => regI P Γ T I all rest (σ.app o.dst d) K
          | none => I.run g (args.toList.map (evO σ.env) ++ cap) (o.dst.getD 0) σ fun v σ' => regI P Γ T I all rest (σ'.put o.dst v) K
        | _ => none
      | _ => match opD P Γ o σ with
        | some (c, d) => bif c then regI P Γ T I all rest (σ.app o.dst d) K else none
        | none => match absO P o σ with
          | some σ' => regI P Γ T I all rest σ' K
          | none => none) = some r → (∃ d, OpStep P Γ T o σ d ∧ regI P Γ T I all rest (σ.app o.dst d) K = some r) ∨ ElseI P Γ T I all o rest σ K r := by
    intro r h
    split at h
    · rename_i f args tys ho
      split at h
      · rename_i g cap hf
        split at h
        · left
          refine step_inv (P := P) (Γ := Γ) (T := T) (o := o) (σ := σ) (K := fun d => regI P Γ T I all rest (σ.app o.dst d) K) ?_
          rw [ho]
          simp only [hf]
          exact h
        · exact .inr (.inl ⟨f, args, tys, g, cap, ho, hf, h⟩)
      · cases h
    · rename_i hne
      split at h
      · rename_i c d hd
        left
        cases c with
        | true => exact ⟨d, .op (fun f args tys e => hne _ _ _ e) hd, h⟩
        | false => simp at h
      · split at h
        · rename_i σ' he
          exact .inr (.inr ⟨σ', he, h⟩)
        · cases h
  have done : ∀ {r : R}, GuardIs all o σ true → ((∃ d, OpStep P Γ T o σ d ∧ regI P Γ T I all rest (σ.app o.dst d) K = some r) ∨ ElseI P Γ T I all o rest σ K r) →
      (∃ x : Option Dl, GuardIs all o σ x.isSome ∧ (∀ d, x = some d → OpStep P Γ T o σ d) ∧ regI P Γ T I all rest (outOf o x σ) K = some r) ∨
      (GuardIs all o σ true ∧ ElseI P Γ T I all o rest σ K r) := by
    rintro r hg (⟨d, h1, h2⟩ | h)
    · exact .inl ⟨some d, hg, fun d' e => by cases e; exact h1, h2⟩
    · exact .inr ⟨hg, h⟩
  rw [regI] at h
  simp only at h
  split at h
  · rename_i hg
    exact done (by simp [GuardIs, hg]) (step h)
  · rename_i g want hg
    split at h
    · rename_i b hb
      have hself := upd_self hb
      cases b with
      | true =>
        simp only [cond_true] at h
        cases want with
        | true =>
          simp only [cond_true] at h
          rw [hself] at h
          exact done (by simp only [GuardIs, hg]; exact .inl ⟨true, hb, rfl⟩) (step h)
        | false =>
          simp only [cond_false] at h
          rw [hself] at h
          exact .inl ⟨none, by simp only [GuardIs, hg]; exact .inl ⟨true, hb, rfl⟩, (fun d' e => nomatch e), h⟩
      | false =>
        simp only [cond_false] at h
        cases want with
        | true =>
          simp only [cond_true] at h
          rw [hself] at h
          exact .inl ⟨none, by simp only [GuardIs, hg]; exact .inl ⟨false, hb, rfl⟩, (fun d' e => nomatch e), h⟩
        | false =>
          simp only [cond_false] at h
          rw [hself] at h
          exact done (by simp only [GuardIs, hg]; exact .inl ⟨false, hb, rfl⟩) (step h)
    · rename_i hb
      exact .inl ⟨none, by simp only [GuardIs, hg]; exact .inr ⟨hb, rfl⟩, (fun d' e => nomatch e), h⟩
    · cases h
  · cases h

variable {σ : AS} {g : Gh} {a : Act} {w : World}

theorem args_rep (hs : Sim N c0 w0 σ g a w) (args : Array Operand) {cap : List PV} {vs : List Value} (hc : Reps g w cap vs) : Reps g w (args.toList.map (evO σ.env) ++ cap) (args.toList.map a.eval ++ vs) := by
  refine Reps.append (Reps.of_get (by simp) fun i p v hp hv => ?_) hc
  simp only [List.getElem?_map, Option.map_eq_some_iff] at hp hv
  obtain ⟨x, hx, rfl⟩ := hp
  obtain ⟨y, hy, rfl⟩ := hv
  rw [hx] at hy; cases hy
  exact evO_rep hs x

/-- One operation is what the machine does. -/
theorem step_sound (hΓ : GamOk P Γ) (hT : TblOk P T) (hs : Sim N c0 w0 σ g a w) {o : Oper} {d : Dl} (h : OpStep P Γ T o σ d) (hd : dstOk N o.dst = true) {next : Act → World → Prop} {Q : Exit → Act → World → Prop}
    (hn : ∀ v w' g', Sim N c0 w0 (σ.app o.dst d) g' (a.put o.dst v) w' → next (a.put o.dst v) w') : o.wp P a w next Q := by
  cases h with
  | op hc h =>
    obtain ⟨v, w', g', h1, h2⟩ := opD_sound hΓ hs h hd
    exact h1.wp (hn v w' g' h2)
  | call ho hf hTf hx hnd hdj hfl hF hD =>
    rename_i f args tys gf cap c x y
    obtain ⟨⟨fn, e1, e2, e3⟩, hh⟩ := hT.find hTf
    have hfr := evO_rep hs f
    rw [hf] at hfr
    simp only [Rep] at hfr
    obtain ⟨vs, e4, e5⟩ := hfr
    have hrun : (execOp a.eval o).run P w = .ok (.enter gf (args.toList.map a.eval ++ vs).toArray) w := by
      have e6 : (fn.name == "runtime.NumGoroutine") = false := e2
      have e7 : fn.body.isNone = false := by cases hb : fn.body <;> simp [hb] at e3 ⊢
      simp only [execOp, ho, resolve, Deferred.ofValue, e4, invoke, callFunc, Sem.run_bind, Sem.run_pure, Result.andThen_ok, run_program, e1, e6, e7, Bool.false_eq_true, if_false]
      congr 2
      apply Array.ext'
      simp
    unfold Oper.wp
    rw [hrun]
    simp only [Oper.upon]
    have har := args_rep hs args e5
    have hargs := unIns_rep hs (rfIds c.ins (args.toList.map (evO σ.env) ++ cap)) (ptWins g c.ins (args.toList.map (evO σ.env) ++ cap) 0) (by rw [ptWins_fst]; exact nodup_of hnd)
      (fun e he => disj_of hdj _ (by rw [← ptWins_fst g _ _ 0]; exact List.mem_map.mpr ⟨e, he, rfl⟩)) hx har (fun _ h => h) (fun _ h => h)
    refine (hh x y hF _ w _ ⟨fun _ _ _ => colC_tk, fun _ _ _ => colC_bx⟩ (by simpa using hargs)).mono fun e w' hb => ?_
    obtain ⟨v, g', rfl, h2⟩ := hs.call har hx hnd hdj hfl hb hd hD
    exact hn v w' g' h2

/-- A guard is what the machine sees. -/
theorem guard_sound (hs : Sim N c0 w0 σ g a w) {ops : Array Oper} {o : Oper} {b : Bool} (h : GuardIs ops.toList o σ b) : Region.wanted o (yielded ops a.tmps) = b := by
  unfold GuardIs guardOf at h
  unfold Region.wanted
  cases hg : o.guard with
  | none => rw [hg] at h; simp only at h ⊢; exact h.symm
  | some jw =>
    obtain ⟨j, want⟩ := jw
    rw [hg] at h
    simp only at h ⊢
    have e0 : ops.toList[j]? = ops[j]? := by simp
    rw [e0] at h
    cases hd : (ops[j]?).bind (·.dst) with
    | none => rw [hd] at h; exact h.elim
    | some gd =>
      rw [hd] at h
      simp only at h
      rcases h with ⟨c, hc, rfl⟩ | ⟨hc, rfl⟩
      · have hr := hs.env gd
        rw [hc] at hr
        simp only [Rep] at hr
        have hget : a.tmps[gd]? = some (.bool c) := by
          cases hq : a.tmps[gd]? with
          | none => simp [Array.getD_eq_getD_getElem?, hq, undef] at hr
          | some u => simp [Array.getD_eq_getD_getElem?, hq] at hr; rw [hr]
        have hy : yielded ops a.tmps j = some c := by
          unfold yielded
          rw [hd]
          simp [hget]
        rw [hy]
        cases c <;> cases want <;> rfl
      · have hr := hs.env gd
        rw [hc] at hr
        simp only [Rep] at hr
        obtain ⟨vs, hv, hvs⟩ := hr
        simp only [Reps] at hvs
        subst hvs
        have hy : yielded ops a.tmps j = none := by
          unfold yielded
          rw [hd]
          cases hq : a.tmps[gd]? with
          | none => simp [hq]
          | some u => simp [Array.getD_eq_getD_getElem?, hq] at hv; subst hv; simp [hq]
        rw [hy]
        cases want <;> rfl

/-- What is asked of functions that are run in place. -/
def InlOk (P : Program) (I : Inl) : Prop := ∀ {R : Type} (f : FuncId) (ps : List PV) (d : Nat) (σ : AS) (K : PV → AS → Option R) (r : R) (N : Fr) (c0 : Nat → Nat → Col) (w0 : World) (g : Gh) (a : Act) (w : World) (vs : List Value),
  I.run f ps d σ K = some r → Sim N c0 w0 σ g a w → Reps g w ps vs →
    Enters P f ∧ Calls P f vs.toArray w fun e w' => ∃ v p σ' g', e = .returned v ∧ Sim N c0 w0 σ' g' a w' ∧ Rep g' w' p v ∧ K p σ' = some r

theorem inl_no (P : Program) : InlOk P Inl.no := by
  intro R f ps d σ K r N c0 w0 g a w vs h
  cases h

theorem inl_sound {I : Inl} (hI : InlOk P I) (hs : Sim N c0 w0 σ g a w) {o : Oper} {f : Operand} {args : Array Operand} {tys : Array TypeId} {gf : FuncId} {cap : List PV} (ho : o.op = .call { callee := .value f, args, argTypes := tys }) (hf : evO σ.env f = .fn gf cap)
    {R : Type} {K : PV → AS → Option R} {r : R} {d : Nat} (h : I.run gf (args.toList.map (evO σ.env) ++ cap) d σ K = some r) {next : Act → World → Prop} {Q : Exit → Act → World → Prop}
    (hn : ∀ v p σ' g' w', Sim N c0 w0 σ' g' a w' → Rep g' w' p v → K p σ' = some r → next (a.put o.dst v) w') : o.wp P a w next Q := by
  have hfr := evO_rep hs f
  rw [hf] at hfr
  simp only [Rep] at hfr
  obtain ⟨vs, e4, e5⟩ := hfr
  obtain ⟨⟨fn, e1, e2, e3⟩, hh⟩ := hI gf _ d σ K r N c0 w0 g a w _ h hs (args_rep hs args e5)
  have hrun : (execOp a.eval o).run P w = .ok (.enter gf (args.toList.map a.eval ++ vs).toArray) w := by
    have e6 : (fn.name == "runtime.NumGoroutine") = false := e2
    have e7 : fn.body.isNone = false := by cases hb : fn.body <;> simp [hb] at e3 ⊢
    simp only [execOp, ho, resolve, Deferred.ofValue, e4, invoke, callFunc, Sem.run_bind, Sem.run_pure, Result.andThen_ok, run_program, e1, e6, e7, Bool.false_eq_true, if_false]
    congr 2
    apply Array.ext'
    simp
  unfold Oper.wp
  rw [hrun]
  simp only [Oper.upon]
  refine hh.mono fun e w' hb => ?_
  obtain ⟨v, p, σ', g', rfl, h1, h2, h3⟩ := hb
  exact hn v p σ' g' w' h1 h2 h3

theorem reg_seq (hΓ : GamOk P Γ) (hT : TblOk P T) {I : Inl} (hI : InlOk P I) {R : Type} {ops : Array Oper} {Q : Exit → Act → World → Prop} (hdst : ∀ o ∈ ops.toList, dstOk N o.dst = true) : ∀ (rest : List Oper) (k : Nat) (σ : AS) (g : Gh) (a : Act) (w : World) (K : AS → Option R) (r : R), ops.toList.drop k = rest →
    regI P Γ T I ops.toList rest σ K = some r → Sim N c0 w0 σ g a w → (∀ σ' g' a' w', K σ' = some r → Sim N c0 w0 σ' g' a' w' → Q .normal a' w') → wpOps P ops Q (List.range' k rest.length) a w
  | [], k, σ, g, a, w, K, r, _, h, hs, hK => by
    simp only [regI] at h
    exact hK _ g a w h hs
  | o :: rest, k, σ, g, a, w, K, r, hr, h, hs, hK => by
    have hok : ops[k]? = some o := by
      have := congrArg (fun l => l[0]?) hr
      simpa using this
    have hmem : o ∈ ops.toList := List.mem_of_getElem? (by simpa using hok)
    have hr' : ops.toList.drop (k + 1) = rest := by
      have := congrArg List.tail hr
      simpa using this
    simp only [List.length_cons, List.range'_succ, wpOps, hok]
    rcases regI_cons h with ⟨x, h1, h2, h3⟩ | ⟨h1, ⟨f, args, tys, gf, cap, ho, hf, h3⟩ | ⟨σ', he, h3⟩⟩
    · have hw := guard_sound hs h1
      cases x with
      | none =>
        rw [if_neg (by rw [hw]; simp)]
        exact reg_seq hΓ hT hI hdst rest (k + 1) _ g _ _ K r hr' h3 (hs.put (hdst o hmem) (by simp only [Rep]; exact ⟨[], rfl, by simp only [Reps]⟩)) hK
      | some d =>
        rw [if_pos (by rw [hw]; rfl)]
        refine .inl (step_sound hΓ hT hs (h2 d rfl) (hdst o hmem) fun v w' g' hs' => ?_)
        exact reg_seq hΓ hT hI hdst rest (k + 1) _ g' _ _ K r hr' h3 hs' hK
    · have hw := guard_sound hs h1
      rw [if_pos hw]
      refine .inl (inl_sound hI hs ho hf h3 fun v p σ' g' w' hs' hp hk => ?_)
      exact reg_seq hΓ hT hI hdst rest (k + 1) _ g' _ _ K r hr' hk (hs'.put (hdst o hmem) hp) hK
    · have hw := guard_sound hs h1
      rw [if_pos hw]
      unfold absO at he
      split at he
      · rename_i t q p hop hdn
        obtain ⟨w', g', q1, q2⟩ := abs_sound hs he (evO_rep hs q) (evO_rep hs p)
        refine .inl ?_
        have hrun : Runs P o a w undef w' := .inr ⟨by simp [execOp, hop, q1], rfl⟩
        refine hrun.wp ?_
        have e : a.put o.dst undef = a := by rw [hdn]; rfl
        rw [e]
        exact reg_seq hΓ hT hI hdst rest (k + 1) _ g' _ _ K r hr' h3 q2 hK
      · cases he

end

end Go.VE
