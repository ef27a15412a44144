import Derived.Test.YtnjlpdagdedbaaaVfU
/- Functions: a function does what the evaluator says. -/
namespace Go.VE

/-- Where an argument's pointee lies. -/
def bxOf (all : List Value) (id : Nat) : Nat × Nat := match all[id - pBase]? with
  | some (.pointer (some ad)) => (ad.block, ad.off)
  | _ => (0, 0)

section
variable {P : Program} {g : Gh} {w : World}

theorem pkCaps_rep : ∀ {ts : List Ty} {x : TysT ts} {vs : List Value}, CapsRep g.col w ts x vs → Reps g w (pkIns.pkCaps ts x) vs
  | [], x, vs, h => by simp only [CapsRep] at h; simp only [pkIns.pkCaps, Reps]; exact h
  | t :: r, x, vs, h => by
    simp only [CapsRep] at h
    obtain ⟨u, us, rfl, ⟨b, o, cs, rfl, h1, h2⟩, h3⟩ := h
    simp only [pkIns.pkCaps, Reps, Rep]
    exact ⟨_, us, rfl, ⟨b, o, cs, rfl, reps_pk h1, h2⟩, pkCaps_rep h3⟩

theorem ins_rep {all : List Value} (hbx : g.bx = bxOf all) : ∀ {is : List In} {x : InsT is} {i0 : Nat} {vs : List Value}, ArgsRep g.col w is x i0 vs → (∀ (j : Nat) (u : Value), vs[j]? = some u → all[i0 + j]? = some u) →
    (∀ (j : Nat) (t : Ty), is[j]? = some (.pt t) → g.dom (pBase + (i0 + j))) → Reps g w (pkIns is x i0) vs
  | [], x, i0, vs, h, _, _ => by simp only [ArgsRep] at h; simp only [pkIns, Reps]; exact h
  | i :: r, x, i0, vs, h, hall, hdom => by
    simp only [ArgsRep] at h
    obtain ⟨u, us, rfl, h1, h2⟩ := h
    have ih : Reps g w (pkIns r x.2 (i0 + 1)) us := ins_rep hbx h2 (fun j u hj => by
      have := hall (j + 1) u (by simpa using hj)
      rwa [show i0 + (j + 1) = i0 + 1 + j by omega] at this) (fun j t hj => by
      have := hdom (j + 1) t (by simpa using hj)
      rwa [show i0 + (j + 1) = i0 + 1 + j by omega] at this)
    have h0 := hall 0 u rfl
    cases i with
    | v t =>
      simp only [ArgRep] at h1
      obtain ⟨cs, h3, rfl⟩ := h1
      simp only [pkIns, Reps]
      exact ⟨_, us, rfl, rep_mk h3, ih⟩
    | rf t =>
      simp only [ArgRep, WinRep] at h1
      obtain ⟨b, o, cs, rfl, h3, h4⟩ := h1
      simp only [pkIns, Reps, Rep]
      exact ⟨_, us, rfl, ⟨b, o, cs, rfl, reps_pk h3, h4⟩, ih⟩
    | pt t =>
      simp only [ArgRep] at h1
      obtain ⟨b, o, cs, rfl, h3, h4⟩ := h1
      simp only [pkIns, Reps, Rep]
      refine ⟨_, us, rfl, ⟨hdom 0 t rfl, ?_⟩, ih⟩
      rw [hbx]
      simp only [bxOf]
      rw [show pBase + i0 - pBase = i0 + 0 by omega, h0]
      rfl
    | clo f ts =>
      simp only [ArgRep] at h1
      obtain ⟨vs', rfl, h3⟩ := h1
      simp only [pkIns, Reps, Rep]
      exact ⟨_, us, rfl, ⟨vs', rfl, pkCaps_rep h3⟩, ih⟩

theorem inBox_skip {i : In} {r : List In} {x : InsT (i :: r)} {i0 id : Nat} (h : ∀ t, i ≠ .pt t) : inBox (i :: r) x i0 id = inBox r x.2 (i0 + 1) id := by
  cases i with
  | pt t => exact absurd rfl (h t)
  | _ => rfl

theorem inBox_rep {all : List Value} (hbx : g.bx = bxOf all) : ∀ {is : List In} {x : InsT is} {i0 : Nat} {vs : List Value}, ArgsRep g.col w is x i0 vs → (∀ (j : Nat) (u : Value), vs[j]? = some u → all[i0 + j]? = some u) →
    ∀ id c, inBox is x i0 id = some c → (∃ (j : Nat) (t : Ty), is[j]? = some (.pt t) ∧ id = pBase + (i0 + j)) ∧ BoxRep g w id c
  | [], x, i0, vs, _, _, id, c, h => by simp [inBox] at h
  | i :: r, x, i0, vs, h, hall, id, c, hc => by
    simp only [ArgsRep] at h
    obtain ⟨u, us, rfl, h1, h2⟩ := h
    have h0 := hall 0 u rfl
    have rest : inBox r x.2 (i0 + 1) id = some c → (∃ (j : Nat) (t : Ty), (i :: r)[j]? = some (.pt t) ∧ id = pBase + (i0 + j)) ∧ BoxRep g w id c := by
      intro hc
      obtain ⟨⟨j, t, q1, q2⟩, q3⟩ := inBox_rep hbx h2 (fun j u hj => by
        have := hall (j + 1) u (by simpa using hj)
        rwa [show i0 + (j + 1) = i0 + 1 + j by omega] at this) id c hc
      exact ⟨⟨j + 1, t, by simpa using q1, by omega⟩, q3⟩
    cases i with
    | pt t =>
      simp only [inBox] at hc
      cases hq : Nat.beq id (pBase + i0) with
      | false => rw [hq] at hc; exact rest hc
      | true =>
        rw [hq] at hc
        obtain rfl := Nat.eq_of_beq_eq_true hq
        simp only [cond_true, Option.some.injEq] at hc
        subst hc
        refine ⟨⟨0, t, rfl, rfl⟩, ?_⟩
        simp only [ArgRep] at h1
        obtain ⟨b, o, cs, rfl, h3, h4⟩ := h1
        have hb : g.bx (pBase + i0) = (b, o) := by
          rw [hbx]
          simp only [bxOf]
          rw [show pBase + i0 - pBase = i0 + 0 by omega, h0]
        refine ⟨cs, reps_pk h3, fun j v hj => ?_⟩
        rw [hb]
        exact h4 j v hj
    | v t => exact rest hc
    | rf t => exact rest hc
    | clo f ts => exact rest hc

theorem inBox_dom : ∀ {is : List In} {x : InsT is} {i0 : Nat} {id : Nat}, (∃ (j : Nat) (t : Ty), is[j]? = some (.pt t) ∧ id = pBase + (i0 + j)) → ∃ c, inBox is x i0 id = some c
  | [], x, i0, id, ⟨j, t, h, _⟩ => by simp at h
  | i :: r, x, i0, id, ⟨j, t, h, e⟩ => by
    have rest : (∃ (j : Nat) (t : Ty), r[j]? = some (.pt t) ∧ id = pBase + (i0 + 1 + j)) → ∃ c, inBox r x.2 (i0 + 1) id = some c := inBox_dom
    cases j with
    | zero =>
      simp at h
      subst h
      simp only [inBox]
      have : Nat.beq id (pBase + i0) = true := by rw [e]; simp
      rw [this]
      exact ⟨_, rfl⟩
    | succ j =>
      have hr := rest ⟨j, t, by simpa using h, by omega⟩
      cases i with
      | pt t' =>
        simp only [inBox]
        cases Nat.beq id (pBase + i0) with
        | true => exact ⟨_, rfl⟩
        | false => exact hr
      | v t' => exact hr
      | rf t' => exact hr
      | clo f ts => exact hr

theorem args_len {col : Nat → Nat → Col} : ∀ {is : List In} {x : InsT is} {i0 : Nat} {vs : List Value}, ArgsRep col w is x i0 vs → vs.length = is.length
  | [], x, i0, vs, h => by simp only [ArgsRep] at h; rw [h]; rfl
  | i :: r, x, i0, vs, h => by
    simp only [ArgsRep] at h
    obtain ⟨u, us, rfl, _, h2⟩ := h
    simp [args_len h2]

end

section
variable {P : Program} {N : Fr} {c0 : Nat → Nat → Col} {w0 : World} {σ : AS} {g : Gh} {a : Act} {w : World}

/-- The colours behind a call. -/
def colE (w0 : World) (g : Gh) : Nat → Nat → Col := fun b o => if w0.heap.size ≤ b then (match g.col b o with | .bx _ => .st | c => c) else g.col b o

theorem colE_st {b o : Nat} (h : g.col b o = .st) : colE w0 g b o = .st := by
  unfold colE
  rw [h]
  split <;> rfl

theorem stays_colE (w0 : World) (g : Gh) (w : World) : Stays g.col w (colE w0 g) w := ⟨fun _ _ _ h h' => ⟨colE_st h, h'⟩⟩

theorem out_rep (hs : Sim N c0 w0 σ g a w) (hc : ColOk c0) {t : Ty} {p : PV} {x : t.T} {v : Value} (h : unV t (rslvN σ.box p) = some x) (hr : Rep g w p v) : ∃ us, RepT (colE w0 g) w t x us ∧ v = mkV t us := by
  by_cases hms : ∃ id, p = .ms id
  · obtain ⟨id, rfl⟩ := hms
    simp only [rslvN] at h
    cases hlt : Nat.blt id pBase with
    | false =>
      rw [hlt] at h
      simp only [cond_false] at h
      cases t <;> simp [unV, PV.isAg, Ty.isAgg, PV.cel, unA, un] at h
    | true =>
      rw [hlt] at h
      have hlt : id < pBase := by simpa [Nat.blt_eq] using hlt
      simp only [cond_true] at h
      simp only [Rep] at hr
      obtain ⟨hd, rfl⟩ := hr
      simp only [rslv] at h
      split at h
      · rename_i t' y hb
        obtain ⟨b1, b2, b3⟩ := (hs.box _ _ hb).2
        have hc : RepT (colE w0 g) w (.sl t') y [.slice (some ⟨(g.bx id).1, (g.bx id).2, none⟩) (g.ln id) (g.ln id)] := by
          refine ⟨some ⟨(g.bx id).1, (g.bx id).2, none⟩, y.len, by rw [b1], Nat.le_refl _, (fun e => nomatch e), fun ad had => ?_⟩
          cases had
          refine ⟨fun _ => rfl, fun k hk => ?_⟩
          obtain ⟨us, k1, k2⟩ := b3 k hk
          refine ⟨us, RepT.mono (stays_colE w0 g w) _ _ _ k1, fun j u hj => ?_⟩
          obtain ⟨a1, a2, _⟩ := k2 j u hj
          refine ⟨?_, a2⟩
          unfold colE
          rw [a1]
          split
          · rfl
          · rename_i hbk
            have hbk' : ¬ w0.heap.size ≤ (g.bx id).1 := hbk
            have := hc.bx _ _ _ ((hs.old _ (by omega) _).2.1 _ a1)
            omega
        let g' : Gh := { g with col := colE w0 g }
        have hr' : Rep g' w (.sl t' y .no) (.slice (some ⟨(g.bx id).1, (g.bx id).2, none⟩) (g.ln id) (g.ln id)) := by
          simp only [Rep]
          exact ⟨some ⟨(g.bx id).1, (g.bx id).2, none⟩, y.len, by rw [b1], hc, trivial⟩
        exact unV_rep (g := g') (w := w) (t := t) (p := .sl t' y .no) h hr'
      · cases t <;> simp [unV, PV.isAg, Ty.isAgg, PV.cel, unA, un] at h
  · have hp : rslvN σ.box p = p := by
      cases p <;> first | rfl | (exact absurd ⟨_, rfl⟩ hms)
    rw [hp] at h
    obtain ⟨us, k1, k2⟩ := unV_rep h hr
    exact ⟨us, RepT.mono (stays_colE w0 g w) _ _ _ k1, k2⟩

/-- One result. -/
def resStep (tmps : Array Value) : ResultVar → Sem Value
  | .tmp t => pure (tmps.getD t undef)
  | .cell a t => do loadVar t (← asAddr (tmps.getD a undef))

theorem results_eq (fn : Func) (tmps : Array Value) : results fn tmps = (fn.results.mapM (resStep tmps) >>= fun vs => pure (if h : vs.size = 1 then vs[0] else .tuple vs)) := by
  unfold results
  congr 1
theorem run_fmap {α β : Type} (f : α → β) (s : Sem α) (w : World) : (f <$> s).run P w = (s.run P w).andThen fun x w' => .ok (f x) w' := by
  rw [← bind_pure_comp, Sem.run_bind]
  rfl

theorem res_run (hs : Sim N c0 w0 σ g a w) {v : ResultVar} {p : PV} (hp : resPV P σ v = some p) : ∃ u, (resStep a.tmps v).run P w = .ok u w ∧ Rep g w p u := by
  cases v with
  | tmp i =>
    simp only [resPV, Option.some.injEq] at hp
    subst hp
    exact ⟨_, rfl, hs.env i⟩
  | cell i ty =>
    simp only [resPV] at hp
    split at hp
    · rename_i id off he
      have hq := hs.env i
      rw [he] at hq
      simp only [Rep] at hq
      obtain ⟨_, hq⟩ := hq
      simp only [rdAt] at hp
      split at hp
      · rename_i cs hb
        obtain ⟨us', h3, h4⟩ := (hs.box _ _ hb).2
        obtain ⟨u, h5, h6⟩ := loadVar_run (P := P) (g := g) (w := w) (g.bx id).1 ((g.bx id).2 + off) hp (h3.drop off) (fun j v hj => by
          rw [List.getElem?_drop] at hj
          have := (h4 _ v hj).2.1
          rwa [← Nat.add_assoc] at this)
        refine ⟨u, ?_, h6⟩
        simp only [resStep]
        rw [hq]
        simp only [asAddr, Sem.run_bind, Sem.run_pure, Result.andThen_ok]
        exact h5
      · cases hp
    · cases hp

theorem outs_run (hs : Sim N c0 w0 σ g a w) (hc : ColOk c0) : ∀ {ts : List Ty} {vs : List ResultVar} {y : TysT ts}, unOuts P σ ts vs = some y → ∃ us : List Value, (vs.mapM (resStep a.tmps)).run P w = .ok us w ∧ OutRep (colE w0 g) w ts y us
  | [], [], y, _ => ⟨[], rfl, by simp only [OutRep]⟩
  | [], v :: vs, y, h => by simp [unOuts] at h
  | t :: r, [], y, h => by simp [unOuts] at h
  | t :: r, v :: vs, y, h => by
    simp only [unOuts] at h
    split at h
    · rename_i p hp
      split at h
      · rename_i x hx
        split at h
        · rename_i y2 hy
          simp only [Option.some.injEq] at h
          subst h
          obtain ⟨us, h1, h2⟩ := outs_run hs hc hy
          have hv := res_run hs hp
          obtain ⟨u, h3, h4⟩ := hv
          obtain ⟨cs, h5, h6⟩ := out_rep hs hc hx h4
          refine ⟨u :: us, ?_, ?_⟩
          · rw [List.mapM_cons]
            simp only [Sem.run_bind, h3, Result.andThen_ok, h1, Sem.run_pure]
          · simp only [OutRep]
            exact ⟨u, us, rfl, ⟨cs, h5, h6⟩, h2⟩
        · cases h
      · cases h
    · cases h

theorem pts_rep' {cE : Nat → Nat → Col} {all : List Value} (hE : Stays g.col w cE w) (hs : Sim N c0 w0 σ g a w) : ∀ {is : List In} {x : InsT is} {y : PtT is} {i0 : Nat} {vs : List Value}, unPts σ is i0 = some y → ArgsRep c0 w0 is x i0 vs → (∀ (j : Nat) (u : Value), vs[j]? = some u → all[i0 + j]? = some u) → N.b0 = bxOf all →
    PtsRep cE w is y vs
  | [], x, y, i0, vs, _, _, _, _ => by simp only [PtsRep]
  | i :: r, x, y, i0, vs, h, ha, hall, hbx => by
    simp only [ArgsRep] at ha
    obtain ⟨u, us, rfl, h1, h2⟩ := ha
    have hall' : ∀ (j : Nat) (u : Value), us[j]? = some u → all[i0 + 1 + j]? = some u := fun j u hj => by
      have := hall (j + 1) u (by simpa using hj)
      rwa [show i0 + (j + 1) = i0 + 1 + j by omega] at this
    cases i with
    | v t => simp only [unPts] at h; simp only [PtsRep, List.tail_cons]; exact pts_rep' hE hs h h2 hall' hbx
    | rf t => simp only [unPts] at h; simp only [PtsRep, List.tail_cons]; exact pts_rep' hE hs h h2 hall' hbx
    | clo f ts => simp only [unPts] at h; simp only [PtsRep, List.tail_cons]; exact pts_rep' hE hs h h2 hall' hbx
    | pt t =>
      simp only [unPts] at h
      split at h
      · rename_i z hz
        split at h
        · rename_i y2 hy
          simp only [Option.some.injEq] at h
          subst h
          simp only [ArgRep] at h1
          obtain ⟨b, o, cs, rfl, h3, h4⟩ := h1
          simp only [winC] at hz
          split at hz
          · rename_i cs' hbq
            obtain ⟨hdm, us', h5, h6⟩ := hs.box _ _ hbq
            have hb : g.bx (pBase + i0) = (b, o) := by
              rw [hs.pts _ (Nat.le_add_right _ _) hdm, hbx]
              simp only [bxOf]
              rw [show pBase + i0 - pBase = i0 + 0 by omega, hall 0 _ rfl]
            simp only [List.drop_zero] at hz
            simp only [PtsRep]
            refine ⟨b, o, us'.take t.size, us, rfl, RepT.mono hE _ _ _ (unA_rep hz (h5.take _)), fun j u hj => ?_, pts_rep' hE hs hy h2 hall' hbx⟩
            rw [List.getElem?_take] at hj
            split at hj
            · have := (h6 j u hj).2.1
              rw [hb] at this
              exact this
            · cases hj
          · cases hz
        · cases h
      · cases h


/-- The colours behind a call that hands a new box out. -/
def colP (w0 : World) (g : Gh) (r : Nat) : Nat → Nat → Col := fun b o => if w0.heap.size ≤ b then (match g.col b o with | .bx id => if id = r then .bx oBase else .st | c => c) else g.col b o

theorem stays_colP (w0 : World) (g : Gh) (r : Nat) (w : World) : Stays g.col w (colP w0 g r) w := ⟨fun _ _ _ h h' => ⟨by
  unfold colP
  rw [h]
  split <;> rfl, h'⟩⟩

theorem ptr_run (hs : Sim N c0 w0 σ g a w) (hc : ColOk c0) : ∀ {ts : List Ty} {vs : List ResultVar} {y : TysT ts}, unPtr P σ ts vs = some y → ∃ (u : Value) (r : Nat), (vs.mapM (resStep a.tmps)).run P w = .ok [u] w ∧ PtrRep (colP w0 g r) w0 w ts y u
  | [], vs, y, h => by simp [unPtr] at h
  | [t], [], y, h => by simp [unPtr] at h
  | [t], v :: v2 :: vs, y, h => by simp [unPtr] at h
  | _ :: _ :: _, vs, y, h => by simp [unPtr] at h
  | [t], [v], y, h => by
    simp only [unPtr] at h
    split at h
    · rename_i id hp
      obtain ⟨u, h1, h2⟩ := res_run hs hp
      cases hlt : Nat.blt id pBase with
      | false => rw [hlt] at h; simp at h
      | true =>
        rw [hlt] at h
        simp only [cond_true] at h
        have hlt : id < pBase := by simpa [Nat.blt_eq] using hlt
        split at h
        · rename_i cs hb
          split at h
          · rename_i x hx
            cases hsz : Nat.blt 0 t.size with
            | false => rw [hsz] at h; simp at h
            | true =>
              rw [hsz] at h
              simp only [cond_true, Option.some.injEq] at h
              subst h
              have hsz : 0 < t.size := by simpa [Nat.blt_eq] using hsz
              obtain ⟨hd, us, h3, h4⟩ := hs.box _ _ hb
              have hrt := unA_rep hx h3
              have hl := hrt.length
              simp only [Rep] at h2
              obtain ⟨_, rfl⟩ := h2
              have hfresh : w0.heap.size ≤ (g.bx id).1 := by
                rcases Nat.lt_or_ge (g.bx id).1 w0.heap.size with hlt' | hge
                · obtain ⟨a1, _, _⟩ := h4 0 us[0] (List.getElem?_eq_getElem (by omega))
                  have := hc.bx _ _ _ ((hs.old _ hlt' _).2.1 _ a1)
                  omega
                · exact hge
              refine ⟨_, id, ?_, (g.bx id).1, (g.bx id).2 + 0, us, rfl, hfresh, RepT.mono (stays_colP w0 g id w) _ _ _ hrt, fun j u hj => ?_⟩
              · rw [List.mapM_cons]
                simp only [Sem.run_bind, h1, Result.andThen_ok, List.mapM_nil, Sem.run_pure]
              · obtain ⟨a1, a2, a3⟩ := h4 j u hj
                rw [Nat.add_zero]
                refine ⟨?_, a2, a3⟩
                unfold colP
                rw [if_pos hfresh, a1]
                simp
          · cases h
        · cases h
    · cases h

/-- A function does what the evaluator says. -/
theorem fn_holds (hm : P.follows .mixedOrders = true) {Γ : TypeId → Option Ty} {T : Tbl} {A : Nat → Option LoopAnn} (hΓ : GamOk P Γ) (hT : TblOk P T) {f : FuncId} {fn : Func} {code : Code} {c : Ctr} (hf : P.funcs[f]? = some fn) (hname : (fn.name == "runtime.NumGoroutine") = false) (hb : fn.body = some code)
    (hn : Nat.ble c.ins.length fn.ntmps = true) (hd : dstsOk fn.ntmps code = true) (hl : LoopsOk P Γ T A (loopsIn code 0)) (hF : ∀ x y, c.F x = some y → fnK P Γ T A fn c x = some y) : Holds P f c := by
  refine ⟨⟨fn, hf, hname, by rw [hb]; rfl⟩, fun x y hxy col w args hcol hargs => ?_⟩
  have hk := hF x y hxy
  unfold fnK at hk
  rw [hb] at hk
  simp only at hk
  refine calls_of_wp hf hb ?_
  have hlen : args.size = c.ins.length := by have := args_len hargs; simpa using this
  have hle : c.ins.length ≤ fn.ntmps := Nat.le_of_ble_eq_true hn
  let N : Fr := { n := fn.ntmps, b0 := bxOf args.toList }
  let g : Gh := { col, bx := bxOf args.toList, ln := fun _ => 0, es := fun _ => 0, dom := fun id => ∃ cc, (initAS c x).box id = some cc, tk := fun _ => (0, 0, 0), us := fun _ => False, lv := fun _ => False }
  have hall : ∀ (j : Nat) (u : Value), args.toList[j]? = some u → args.toList[0 + j]? = some u := fun j u h => by rw [Nat.zero_add]; exact h
  have hreps : Reps g w (pkIns c.ins x 0) args.toList := ins_rep (g := g) rfl hargs hall fun j t hj => inBox_dom ⟨j, t, hj, rfl⟩
  have hs : Sim N col w (initAS c x) g { tmps := args ++ Array.replicate (fn.ntmps - args.size) undef, defers := [] } w :=
    { size := by show (args ++ Array.replicate (fn.ntmps - args.size) undef).size = fn.ntmps; simp; omega
      pts := fun id _ _ => rfl
      env := fun i => by
        show Rep g w ((pkIns c.ins x 0).getD i .any) _
        rw [List.getD_eq_getElem?_getD]
        cases hp : (pkIns c.ins x 0)[i]? with
        | none => simp only [Option.getD_none, Rep]
        | some p =>
          obtain ⟨v, hv, hr⟩ := hreps.get i p hp
          have hi : i < args.size := by
            have := (List.getElem?_eq_some_iff.mp hv).1
            simpa using this
          have hget : (args ++ Array.replicate (fn.ntmps - args.size) undef).getD i undef = v := by
            rw [Array.getD_eq_getD_getElem?, Array.getElem?_append_left hi]
            have : args[i]? = some v := by simpa using hv
            rw [this]; rfl
          rw [hget]
          exact hr
      defers := rfl
      box := fun id cc hc => ⟨⟨cc, hc⟩, (inBox_rep (g := g) rfl hargs hall id cc hc).2⟩
      dom := fun id h => h
      tok := fun k h => by simp [initAS] at h
      us := fun k h => h.elim
      lv := fun k h => h.elim
      keep := Keep.refl col w
      old := fun b _ o => ⟨Iff.rfl, fun id h => h, fun k => hcol.tk b o k⟩ }
  have fin : ∀ (σ' : AS) (g' : Gh) (a' : Act) (w' : World), finK P fn c σ' = some y → Sim N col w σ' g' a' w' → a'.defers = [] ∧ ∃ v, (results fn a'.tmps).run P w' = .ok v w' ∧ Behind c col w args y (.returned v) w' := by
    intro σ' g' a' w' hfin hs'
    refine ⟨hs'.defers, ?_⟩
    unfold finK at hfin
    cases hpt : c.ptr with
    | true =>
      rw [hpt] at hfin
      simp only [cond_true] at hfin
      split at hfin
      · rename_i y1 h1
        split at hfin
        · rename_i y2 h2
          simp only [Option.some.injEq] at hfin
          subst hfin
          obtain ⟨u, r, h3, h4⟩ := ptr_run hs' hcol h1
          refine ⟨u, ?_, u, colP w g' r, rfl, hs'.keep, fun b hbk o => ?_, by rw [if_pos hpt]; exact h4, ?_⟩
          · rw [results_eq, Array.mapM_eq_mapM_toList]
            simp only [Sem.run_bind, run_fmap, h3, Result.andThen_ok, Sem.run_pure]
            simp
          · unfold colP
            rw [if_neg (by omega)]
            exact (hs'.old b hbk o).1
          · exact pts_rep' (all := args.toList) (stays_colP w g' r w') hs' h2 hargs hall rfl
        · cases hfin
      · cases hfin
    | false =>
    rw [hpt] at hfin
    simp only [cond_false] at hfin
    split at hfin
    · rename_i y1 h1
      split at hfin
      · rename_i y2 h2
        simp only [Option.some.injEq] at hfin
        subst hfin
        obtain ⟨us, h3, h4⟩ := outs_run hs' hcol h1
        refine ⟨_, ?_, _, colE w g', rfl, hs'.keep, fun b hbk o => ?_, by rw [if_neg (by rw [hpt]; simp)]; exact ⟨us, h4, rfl⟩, pts_rep' (all := args.toList) (stays_colE w g' w') hs' h2 hargs hall rfl⟩
        · rw [results_eq, Array.mapM_eq_mapM_toList]
          simp only [Sem.run_bind, run_fmap, h3, Result.andThen_ok, Sem.run_pure]
        · unfold colE
          rw [if_neg (by omega)]
          exact (hs'.old b hbk o).1
      · cases hfin
    · cases hfin
  refine runK_sound hm hΓ hT code 0 hd hl (initAS c x) g _ w _ y _ hk hs fun e σ' g' a' w' he hs' => ?_
  cases e with
  | normal => exact fin σ' g' a' w' he hs'
  | ret => exact fin σ' g' a' w' he hs'
  | exit i => simp at he

end
end Go.VE
