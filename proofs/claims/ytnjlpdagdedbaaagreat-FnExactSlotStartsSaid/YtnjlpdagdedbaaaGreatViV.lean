import Derived.Test.YtnjlpdagdedbaaaGreatViU
/- Functions: a function does what the evaluator says. -/
namespace Go.VE

/-- Where an argument's pointee lies. -/
def bxOf (all : List Value) (id : Nat) : Nat × Nat := match all[id - pBase]? with
  | some (.pointer (some ad)) => (ad.block, ad.off)
  | some (.slice (some ad) _ _) => (ad.block, ad.off)
  | _ => (0, 0)
def lnOf (all : List Value) (id : Nat) : Nat := match all[id - pBase]? with
  | some (.slice _ n _) => n
  | _ => 0
def hdOf (all : List Value) (id : Nat) : Option Addr × Nat := match all[id - pBase]? with
  | some (.slice a _ c) => (a, c)
  | _ => (none, 0)
def esOf (is : List In) (id : Nat) : Nat := match is[id - pBase]? with
  | some (.ow t) => t.size
  | _ => 0
/-- An argument that is written. -/
def wrIn (is : List In) (j : Nat) : Prop := ∃ t, is[j]? = some (.pt t) ∨ is[j]? = some (.ow t)

section
variable {P : Program} {g : Gh} {w : World}

theorem pkCaps_rep : ∀ {ts : List Ty} {x : TysT ts} {vs : List Value}, CapsRep g.col w ts x vs → Reps g w (pkIns.pkCaps ts x) vs
  | [], x, vs, h => by simp only [CapsRep] at h; simp only [pkIns.pkCaps, Reps]; exact h
  | t :: r, x, vs, h => by
    simp only [CapsRep] at h
    obtain ⟨u, us, rfl, ⟨b, o, cs, rfl, h1, h2⟩, h3⟩ := h
    simp only [pkIns.pkCaps, Reps, Rep]
    exact ⟨_, us, rfl, ⟨b, o, cs, rfl, reps_pk h1, h2⟩, pkCaps_rep h3⟩

theorem ins_rep {all : List Value} (hbx : g.bx = bxOf all) (hln : g.ln = lnOf all) (hhd : g.hd = hdOf all) : ∀ {is : List In} {x : InsT is} {i0 : Nat} {vs : List Value}, ArgsRep g.col w is x i0 vs → (∀ (j : Nat) (u : Value), vs[j]? = some u → all[i0 + j]? = some u) →
    (∀ (j : Nat), wrIn is j → g.dom (pBase + (i0 + j))) → Reps g w (pkIns is x i0) vs
  | [], x, i0, vs, h, _, _ => by simp only [ArgsRep] at h; simp only [pkIns, Reps]; exact h
  | i :: r, x, i0, vs, h, hall, hdom => by
    simp only [ArgsRep] at h
    obtain ⟨u, us, rfl, h1, h2⟩ := h
    have ih : Reps g w (pkIns r x.2 (i0 + 1)) us := ins_rep hbx hln hhd h2 (fun j u hj => by
      have := hall (j + 1) u (by simpa using hj)
      rwa [show i0 + (j + 1) = i0 + 1 + j by omega] at this) (fun j hj => by
      have := hdom (j + 1) (by simpa [wrIn] using hj)
      rwa [show i0 + (j + 1) = i0 + 1 + j by omega] at this)
    have h0 := hall 0 u rfl
    cases i with
    | v t =>
      simp only [ArgRep] at h1
      obtain ⟨cs, h3, rfl⟩ := h1
      simp only [pkIns, Reps]
      exact ⟨_, us, rfl, rep_mk h3, ih⟩
    | rf t =>
      simp only [ArgRep, WinRep] at h1
      obtain ⟨b, o, cs, rfl, h3, h4⟩ := h1
      simp only [pkIns, Reps, Rep]
      exact ⟨_, us, rfl, ⟨b, o, cs, rfl, reps_pk h3, h4⟩, ih⟩
    | pt t =>
      simp only [ArgRep] at h1
      obtain ⟨b, o, cs, rfl, h3, h4⟩ := h1
      simp only [pkIns, Reps, Rep]
      refine ⟨_, us, rfl, ⟨hdom 0 ⟨t, .inl rfl⟩, ?_⟩, ih⟩
      rw [hbx]
      simp only [bxOf]
      rw [show pBase + i0 - pBase = i0 + 0 by omega, h0]
      rfl
    | ow t =>
      simp only [ArgRep] at h1
      obtain ⟨a, cap, rfl, _⟩ := h1
      simp only [pkIns, Reps, Rep]
      refine ⟨_, us, rfl, ⟨hdom 0 ⟨t, .inr rfl⟩, ?_⟩, ih⟩
      rw [hln, hhd]
      simp only [lnOf, hdOf]
      rw [show pBase + i0 - pBase = i0 + 0 by omega, h0]
    | clo f ts =>
      simp only [ArgRep] at h1
      obtain ⟨vs', rfl, h3⟩ := h1
      simp only [pkIns, Reps, Rep]
      exact ⟨_, us, rfl, ⟨vs', rfl, pkCaps_rep h3⟩, ih⟩

theorem inBox_skip {i : In} {r : List In} {x : InsT (i :: r)} {i0 id : Nat} (h : ∀ t, i ≠ .pt t ∧ i ≠ .ow t) : inBox (i :: r) x i0 id = inBox r x.2 (i0 + 1) id := by
  cases i with
  | pt t => exact absurd rfl (h t).1
  | ow t => exact absurd rfl (h t).2
  | _ => rfl

/-- Where the slices lie that rows handed in own. -/
def ArgN (col : Nat → Nat → Col) (w : World) (nh : Nat → Nat → Nat → Option Addr × Nat × Nat) : (a : In) → a.T → Nat → Value → Prop
  | .ow t, x, i, v => ∃ a cap, v = .slice a x.len cap ∧ (t.flat = false → t.fl1 = true) ∧ ∃ pa, (0 < x.len → ∃ b o, a = some ⟨b, o, none⟩ ∧ TreeAt col w (pBase + i) (nh (pBase + i)) pa (fun _ => true) t x b o)
  | _, _, _, _ => True
def ArgsN (col : Nat → Nat → Col) (w : World) (nh : Nat → Nat → Nat → Option Addr × Nat × Nat) : (as : List In) → InsT as → Nat → List Value → Prop
  | a :: r, x, i, u :: us => ArgN col w nh a x.1 i u ∧ ArgsN col w nh r x.2 (i + 1) us
  | _, _, _, _ => True
theorem ArgsN.congr {col : Nat → Nat → Col} {nh nh' : Nat → Nat → Nat → Option Addr × Nat × Nat} : ∀ {is : List In} {x : InsT is} {i : Nat} {vs : List Value}, (∀ k, pBase + i ≤ k → nh' k = nh k) → ArgsN col w nh is x i vs → ArgsN col w nh' is x i vs
  | [], _, _, _, _, _ => trivial
  | a :: r, x, i, [], _, _ => trivial
  | a :: r, x, i, u :: us, he, ⟨h1, h2⟩ => by
    refine ⟨?_, ArgsN.congr (fun k hk => he k (by omega)) h2⟩
    cases a with
    | ow t =>
      obtain ⟨b, cap, e, hf, pa, h⟩ := h1
      refine ⟨b, cap, e, hf, pa, fun hp => ?_⟩
      rw [he (pBase + i) (Nat.le_refl _)]
      exact h hp
    | _ => trivial
theorem argsN_ex {col : Nat → Nat → Col} : ∀ {is : List In} {x : InsT is} {i : Nat} {vs : List Value}, ArgsRep col w is x i vs → ∃ nh, ArgsN col w nh is x i vs
  | [], _, _, _, _ => ⟨fun _ _ _ => (none, 0, 0), trivial⟩
  | a :: r, x, i, vs, h => by
    simp only [ArgsRep] at h
    obtain ⟨u, us, rfl, h1, h2⟩ := h
    obtain ⟨nh, h3⟩ := argsN_ex h2
    cases a with
    | ow t =>
      simp only [ArgRep] at h1
      obtain ⟨b, cap, e, _, _, hf, nh1, pa, h⟩ := h1
      refine ⟨upd nh (pBase + i) nh1, ⟨b, cap, e, hf, pa, fun hp => ?_⟩, ArgsN.congr (fun k hk => ?_) h3⟩
      · rw [upd_eq, if_pos rfl]; exact h hp
      · rw [upd_eq, if_neg (by omega)]
    | _ => exact ⟨nh, trivial, h3⟩

theorem inBox_rep {all : List Value} (hbx : g.bx = bxOf all) (hln : g.ln = lnOf all) (hhd : g.hd = hdOf all) : ∀ {is : List In} {x : InsT is} {i0 : Nat} {vs : List Value}, ArgsRep g.col w is x i0 vs → (∀ (j : Nat) (u : Value), vs[j]? = some u → all[i0 + j]? = some u) → (∀ (j : Nat) (t : Ty), is[j]? = some (.ow t) → g.es (pBase + (i0 + j)) = t.size) → ArgsN g.col w g.nh is x i0 vs →
    ∀ id c, inBox is x i0 id = some c → (∃ (j : Nat), wrIn is j ∧ id = pBase + (i0 + j)) ∧ BoxRep g w id c
  | [], x, i0, vs, _, _, _, _, id, c, h => by simp [inBox] at h
  | i :: r, x, i0, vs, h, hall, hes, hN, id, c, hc => by
    simp only [ArgsRep] at h
    obtain ⟨u, us, rfl, h1, h2⟩ := h
    obtain ⟨hN1, hN2⟩ := hN
    have h0 := hall 0 u rfl
    have rest : inBox r x.2 (i0 + 1) id = some c → (∃ (j : Nat), wrIn (i :: r) j ∧ id = pBase + (i0 + j)) ∧ BoxRep g w id c := by
      intro hc
      obtain ⟨⟨j, q1, q2⟩, q3⟩ := inBox_rep hbx hln hhd h2 (fun j u hj => by
        have := hall (j + 1) u (by simpa using hj)
        rwa [show i0 + (j + 1) = i0 + 1 + j by omega] at this) (fun j t hj => by
        have := hes (j + 1) t (by simpa using hj)
        rwa [show i0 + (j + 1) = i0 + 1 + j by omega] at this) hN2 id c hc
      exact ⟨⟨j + 1, by simpa [wrIn] using q1, by omega⟩, q3⟩
    cases i with
    | pt t =>
      simp only [inBox] at hc
      cases hq : Nat.beq id (pBase + i0) with
      | false => rw [hq] at hc; exact rest hc
      | true =>
        rw [hq] at hc
        obtain rfl := Nat.eq_of_beq_eq_true hq
        simp only [cond_true, Option.some.injEq] at hc
        subst hc
        refine ⟨⟨0, ⟨t, .inl rfl⟩, rfl⟩, ?_⟩
        simp only [ArgRep] at h1
        obtain ⟨b, o, cs, rfl, h3, h4⟩ := h1
        have hb : g.bx (pBase + i0) = (b, o) := by
          rw [hbx]
          simp only [bxOf]
          rw [show pBase + i0 - pBase = i0 + 0 by omega, h0]
        refine ⟨cs, reps_pk h3, fun j v hj => ?_⟩
        rw [hb]
        exact h4 j v hj
    | ow t =>
      simp only [inBox] at hc
      cases hq : Nat.beq id (pBase + i0) with
      | false => rw [hq] at hc; exact rest hc
      | true =>
        rw [hq] at hc
        obtain rfl := Nat.eq_of_beq_eq_true hq
        simp only [cond_true, Option.some.injEq] at hc
        subst hc
        refine ⟨⟨0, ⟨t, .inr rfl⟩, rfl⟩, ?_⟩
        simp only [ArgRep] at h1
        obtain ⟨a, cap, rfl, q1, ⟨q2, q3⟩, _⟩ := h1
        obtain ⟨a', cap', e', qf, pa, q4⟩ := hN1
        simp only [Value.slice.injEq, true_and] at e'
        obtain ⟨rfl, rfl⟩ := e'
        have e0 : pBase + i0 - pBase = i0 + 0 := by omega
        have eln : g.ln (pBase + i0) = x.1.len := by rw [hln]; simp only [lnOf]; rw [e0, h0]
        have ehd : g.hd (pBase + i0) = (a, cap) := by rw [hhd]; simp only [hdOf]; rw [e0, h0]
        have ebx : ∀ b o, a = some ⟨b, o, none⟩ → g.bx (pBase + i0) = (b, o) := fun b o e => by rw [hbx]; simp only [bxOf]; rw [e0, h0, e]
        have hall4 : (0 < x.1.len → (g.hd (pBase + i0)).1 = some ⟨(g.bx (pBase + i0)).1, (g.bx (pBase + i0)).2, none⟩) ∧ ((g.hd (pBase + i0)).1 = none → (g.hd (pBase + i0)).2 = 0) ∧ x.1.len ≤ (g.hd (pBase + i0)).2 ∧ (x.1.nil = true ↔ (g.hd (pBase + i0)).1 = none) := by
          refine ⟨fun hp => ?_, fun e => ?_, ?_, ?_⟩
          · obtain ⟨b, o, e1, _⟩ := q4 hp
            rw [ehd, ebx b o e1]; exact e1
          · rw [ehd] at e ⊢; exact q2 e
          · rw [ehd]; exact q1
          · rw [ehd]; exact q3
        unfold owBox
        cases hfl : t.flat with
        | true =>
          refine ⟨eln, ⟨hes 0 t rfl, hall4⟩, fun k hk => ?_⟩
          obtain ⟨b, o, e1, e2⟩ := q4 (by omega)
          obtain ⟨us, e3, e4⟩ := TreeAt.flat g.col w hfl e2 k hk
          refine ⟨us, e3, fun j u hj => ?_⟩
          rw [ebx b o e1]
          exact e4 j u hj
        | false =>
          refine ⟨eln, ⟨hes 0 t rfl, hall4⟩, qf hfl, pa, fun k hk => ?_⟩
          obtain ⟨b, o, e1, e2⟩ := q4 (by omega)
          rw [ebx b o e1]
          exact e2 k hk
    | v t => exact rest hc
    | rf t => exact rest hc
    | clo f ts => exact rest hc

theorem inBox_dom : ∀ {is : List In} {x : InsT is} {i0 : Nat} {id : Nat}, (∃ (j : Nat), wrIn is j ∧ id = pBase + (i0 + j)) → ∃ c, inBox is x i0 id = some c
  | [], x, i0, id, ⟨j, ⟨t, h⟩, _⟩ => by simp at h
  | i :: r, x, i0, id, ⟨j, ⟨t, h⟩, e⟩ => by
    have rest : (∃ (j : Nat), wrIn r j ∧ id = pBase + (i0 + 1 + j)) → ∃ c, inBox r x.2 (i0 + 1) id = some c := inBox_dom
    cases j with
    | zero =>
      simp at h
      have : Nat.beq id (pBase + i0) = true := by rw [e]; simp
      rcases h with h | h
      · subst h
        simp only [inBox]
        rw [this]
        exact ⟨_, rfl⟩
      · subst h
        simp only [inBox]
        rw [this]
        exact ⟨_, rfl⟩
    | succ j =>
      have hr := rest ⟨j, ⟨t, by simpa using h⟩, by omega⟩
      cases i with
      | pt t' =>
        simp only [inBox]
        cases Nat.beq id (pBase + i0) with
        | true => exact ⟨_, rfl⟩
        | false => exact hr
      | ow t' =>
        simp only [inBox]
        cases Nat.beq id (pBase + i0) with
        | true => exact ⟨_, rfl⟩
        | false => exact hr
      | v t' => exact hr
      | rf t' => exact hr
      | clo f ts => exact hr

theorem args_len {col : Nat → Nat → Col} : ∀ {is : List In} {x : InsT is} {i0 : Nat} {vs : List Value}, ArgsRep col w is x i0 vs → vs.length = is.length
  | [], x, i0, vs, h => by simp only [ArgsRep] at h; rw [h]; rfl
  | i :: r, x, i0, vs, h => by
    simp only [ArgsRep] at h
    obtain ⟨u, us, rfl, _, h2⟩ := h
    simp [args_len h2]

end

section
variable {P : Program} {N : Fr} {c0 : Nat → Nat → Col} {w0 : World} {σ : AS} {g : Gh} {a : Act} {w : World}

/-- The colours behind a call. -/
def colE (w0 : World) (g : Gh) : Nat → Nat → Col := fun b o => if w0.heap.size ≤ b then (match g.col b o with | .bx _ => .st | c => c) else g.col b o

theorem colE_st {b o : Nat} (h : g.col b o = .st) : colE w0 g b o = .st := by
  unfold colE
  rw [h]
  split <;> rfl

theorem stays_colE (w0 : World) (g : Gh) (w : World) : Stays g.col w (colE w0 g) w := ⟨fun _ _ _ h h' => ⟨colE_st h, h'⟩⟩

theorem out_rep (hs : Sim N c0 w0 σ g a w) (hc : ColOk c0) {t : Ty} {p : PV} {x : t.T} {v : Value} (h : unV t (rslvN σ.box p) = some x) (hr : Rep g w p v) : ∃ us, RepT (colE w0 g) w t x us ∧ v = mkV t us := by
  by_cases hms : ∃ id, p = .ms id
  · obtain ⟨id, rfl⟩ := hms
    simp only [rslvN] at h
    cases hlt : Nat.blt id pBase with
    | false =>
      rw [hlt] at h
      simp only [cond_false] at h
      cases t <;> simp [unV, PV.isAg, Ty.isAgg, PV.cel, unA, un] at h
    | true =>
      rw [hlt] at h
      have hlt : id < pBase := by simpa [Nat.blt_eq] using hlt
      simp only [cond_true] at h
      simp only [Rep] at hr
      obtain ⟨hd, rfl⟩ := hr
      simp only [rslvA] at h
      split at h
      · rename_i t' y hb
        obtain ⟨b1, ⟨b2, b4, b5, b6, b7⟩, b3⟩ := (hs.box _ _ hb).2
        let g' : Gh := { g with col := colE w0 g }
        have hr' : Rep g' w (.sl t' y .no) (.slice (g.hd id).1 (g.ln id) (g.hd id).2) := by
          simp only [Rep]
          refine ⟨(g.hd id).1, (g.hd id).2, by rw [b1], ?_, trivial⟩
          refine ⟨(g.hd id).1, (g.hd id).2, by rw [b1], b6, ⟨b5, b7⟩, fun ad had => ⟨fun hp => ?_, fun k hk => ?_⟩⟩
          · rw [b4 hp] at had; cases had; rfl
          · rw [b4 (by omega)] at had; cases had
            obtain ⟨us, k1, k2⟩ := b3 k hk
            refine ⟨us, RepT.mono (stays_colE w0 g w) _ _ _ k1, fun j u hj => ?_⟩
            obtain ⟨a1, a2, _⟩ := k2 j u hj
            refine ⟨?_, a2⟩
            show colE w0 g _ _ = _
            unfold colE
            rw [a1]
            split
            · rfl
            · rename_i hbk
              have hbk' : ¬ w0.heap.size ≤ (g.bx id).1 := hbk
              have := hc.bx _ _ _ ((hs.old _ (by omega) _).2.1 _ a1)
              omega
        exact unV_rep (g := g') (w := w) (t := t) (p := .sl t' y .no) h hr'
      · cases t <;> simp [unV, PV.isAg, Ty.isAgg, PV.cel, unA, un] at h
  · have hp : rslvN σ.box p = p := by
      cases p <;> first | rfl | (exact absurd ⟨_, rfl⟩ hms)
    rw [hp] at h
    obtain ⟨us, k1, k2⟩ := unV_rep h hr
    exact ⟨us, RepT.mono (stays_colE w0 g w) _ _ _ k1, k2⟩

/-- One result. -/
def resStep (tmps : Array Value) : ResultVar → Sem Value
  | .tmp t => pure (tmps.getD t undef)
  | .cell a t => do loadVar t (← asAddr (tmps.getD a undef))

theorem results_eq (fn : Func) (tmps : Array Value) : results fn tmps = (fn.results.mapM (resStep tmps) >>= fun vs => pure (if h : vs.size = 1 then vs[0] else .tuple vs)) := by
  unfold results
  congr 1
theorem run_fmap {α β : Type} (f : α → β) (s : Sem α) (w : World) : (f <$> s).run P w = (s.run P w).andThen fun x w' => .ok (f x) w' := by
  rw [← bind_pure_comp, Sem.run_bind]
  rfl

theorem res_run (hs : Sim N c0 w0 σ g a w) {v : ResultVar} {p : PV} (hp : resPV P σ v = some p) : ∃ u, (resStep a.tmps v).run P w = .ok u w ∧ Rep g w p u := by
  cases v with
  | tmp i =>
    simp only [resPV, Option.some.injEq] at hp
    subst hp
    exact ⟨_, rfl, hs.env i⟩
  | cell i ty =>
    simp only [resPV] at hp
    split at hp
    · rename_i id off he
      have hq := hs.env i
      rw [he] at hq
      simp only [Rep] at hq
      obtain ⟨_, hq⟩ := hq
      simp only [rdAt] at hp
      split at hp
      · rename_i cs hb
        obtain ⟨us', h3, h4⟩ := (hs.box _ _ hb).2
        obtain ⟨u, h5, h6⟩ := loadVar_run (P := P) (g := g) (w := w) (g.bx id).1 ((g.bx id).2 + off) hp (h3.drop off) (fun j v hj => by
          rw [List.getElem?_drop] at hj
          have := (h4 _ v hj).2.1
          rwa [← Nat.add_assoc] at this)
        refine ⟨u, ?_, h6⟩
        simp only [resStep]
        rw [hq]
        simp only [asAddr, Sem.run_bind, Sem.run_pure, Result.andThen_ok]
        exact h5
      · cases hp
    · cases hp

theorem outs_run (hs : Sim N c0 w0 σ g a w) (hc : ColOk c0) : ∀ {ts : List Ty} {vs : List ResultVar} {y : TysT ts}, unOuts P σ ts vs = some y → ∃ us : List Value, (vs.mapM (resStep a.tmps)).run P w = .ok us w ∧ OutRep (colE w0 g) w ts y us
  | [], [], y, _ => ⟨[], rfl, by simp only [OutRep]⟩
  | [], v :: vs, y, h => by simp [unOuts] at h
  | t :: r, [], y, h => by simp [unOuts] at h
  | t :: r, v :: vs, y, h => by
    simp only [unOuts] at h
    split at h
    · rename_i p hp
      split at h
      · rename_i x hx
        split at h
        · rename_i y2 hy
          simp only [Option.some.injEq] at h
          subst h
          obtain ⟨us, h1, h2⟩ := outs_run hs hc hy
          have hv := res_run hs hp
          obtain ⟨u, h3, h4⟩ := hv
          obtain ⟨cs, h5, h6⟩ := out_rep hs hc hx h4
          refine ⟨u :: us, ?_, ?_⟩
          · rw [List.mapM_cons]
            simp only [Sem.run_bind, h3, Result.andThen_ok, h1, Sem.run_pure]
          · simp only [OutRep]
            exact ⟨u, us, rfl, ⟨cs, h5, h6⟩, h2⟩
        · cases h
      · cases h
    · cases h

/-- Rows handed in own behind a call what they owned. -/
theorem RepE.toC {c c' cE : Nat → Nat → Col} {w w' : World} {id id' i b : Nat} {nh : Nat → Nat → Option Addr × Nat × Nat} {pa pa' : Nat → Nat → Option (Nat × Nat)} :
    ∀ {t : Ty} {x y : t.T} {us0 us : List Value} {pos j : Nat}, RepE c w id nh pa i t x us0 j → RepE c' w' id' nh pa' i t y us j → t.fl1 = true → (∀ (q : Nat) (u : Value), us0[q]? = some u → w.cell? ⟨b, pos + q, none⟩ = some u) → RepC cE w w' b t y us pos := by
  intro t
  induction t with
  | int k => exact fun _ h _ _ => h
  | bool => exact fun _ h _ _ => h
  | str => exact fun _ h _ _ => h
  | unit => exact fun _ h _ _ => h
  | pair p q ihp ihq =>
    rintro x y us0 us pos j ⟨v1, v2, rfl, h1, h2⟩ ⟨u1, u2, rfl, k1, k2⟩ hf hc
    simp only [Ty.fl1, Bool.and_eq_true] at hf
    have l1 := h1.length
    refine ⟨u1, u2, rfl, ihp h1 k1 hf.1 fun n u hn => hc n u ?_, ihq h2 k2 hf.2 fun n u hn => ?_⟩
    · rw [List.getElem?_append_left (List.getElem?_eq_some_iff.mp hn).1]; exact hn
    · rw [Nat.add_assoc]
      refine hc (p.size + n) u ?_
      rw [List.getElem?_append_right (by omega), l1, Nat.add_sub_cancel_left]; exact hn
  | sl t ih =>
    rintro x y us0 us pos j ⟨a0, cap0, rfl, e1, _⟩ ⟨a, cap, rfl, k1, k2, k3, k4⟩ hf hc
    have h0 := hc 0 _ rfl
    rw [Nat.add_zero] at h0
    rw [e1] at k1
    simp only [Prod.mk.injEq] at k1
    obtain ⟨rfl, hlen, rfl⟩ := k1
    refine ⟨a0, cap0, rfl, by rw [h0, hlen], k3.2, fun ad had k hk => ?_⟩
    obtain ⟨us', q1, q2⟩ := (k4 ad had).2 k hk
    exact ⟨us', RepT.flat hf q1, fun q u hq => (q2 q u hq).2.2.1⟩

theorem pts_rep' {cE : Nat → Nat → Col} {all : List Value} (hs : Sim N c0 w0 σ g a w) : ∀ {is : List In} {x : InsT is} {y : PtT is} {i0 : Nat} {vs : List Value}, unPts σ is i0 = some y → ArgsRep c0 w0 is x i0 vs → (∀ (j : Nat) (u : Value), vs[j]? = some u → all[i0 + j]? = some u) → N.b0 = bxOf all ∧ N.l0 = lnOf all ∧ N.h0 = hdOf all → ArgsN c0 w0 N.n0 is x i0 vs → (Stays g.col w cE w ∨ ptFlat is = true) →
    PtsRep cE w0 w is y vs
  | [], x, y, i0, vs, _, _, _, _, _, _ => by simp only [PtsRep]
  | i :: r, x, y, i0, vs, h, ha, hall, hbx, hN, hE => by
    simp only [ArgsRep] at ha
    obtain ⟨u, us, rfl, h1, h2⟩ := ha
    obtain ⟨hN1, hN2⟩ := hN
    have hE' : Stays g.col w cE w ∨ ptFlat r = true := hE.imp_right fun q => by cases i <;> simp [ptFlat] at q <;> first | exact q.2 | exact q
    have hall' : ∀ (j : Nat) (u : Value), us[j]? = some u → all[i0 + 1 + j]? = some u := fun j u hj => by
      have := hall (j + 1) u (by simpa using hj)
      rwa [show i0 + (j + 1) = i0 + 1 + j by omega] at this
    cases i with
    | v t => simp only [unPts] at h; simp only [PtsRep, List.tail_cons]; exact pts_rep' hs h h2 hall' hbx hN2 hE'
    | rf t => simp only [unPts] at h; simp only [PtsRep, List.tail_cons]; exact pts_rep' hs h h2 hall' hbx hN2 hE'
    | clo f ts => simp only [unPts] at h; simp only [PtsRep, List.tail_cons]; exact pts_rep' hs h h2 hall' hbx hN2 hE'
    | ow t =>
      simp only [unPts] at h
      split at h
      · rename_i t' z hz
        split at h
        · rename_i hbq
          obtain rfl := Ty.eq_of_beq hbq
          cases hfl : t'.flat with
          | false => rw [hfl] at h; cases h
          | true =>
          rw [hfl] at h
          simp only [cond_true] at h
          split at h
          · rename_i y2 hy
            simp only [Option.some.injEq] at h
            simp only [castT] at h
            subst h
            simp only [ArgRep] at h1
            obtain ⟨ad, cap, rfl, _⟩ := h1
            obtain ⟨hdm, b1, ⟨b2, b4, b5, b6, b7⟩, b3⟩ := hs.box _ _ hz
            obtain ⟨p1, p2, p3, p4⟩ := hs.pts _ (Nat.le_add_right _ _) hdm
            have e0 : pBase + i0 - pBase = i0 + 0 := by omega
            have eln : g.ln (pBase + i0) = x.1.len := by rw [p2, hbx.2.1]; simp only [lnOf]; rw [e0, hall 0 _ rfl]
            have ehd : g.hd (pBase + i0) = (ad, cap) := by rw [p3, hbx.2.2]; simp only [hdOf]; rw [e0, hall 0 _ rfl]
            rw [ehd] at b4 b7
            simp only [PtsRep]
            refine ⟨ad, cap, us, by rw [← b1, eln], b7, fun hp => ⟨_, _, b4 hp, fun k hk => ?_⟩, pts_rep' hs hy h2 hall' hbx hN2 hE'⟩
            obtain ⟨ws, c1, c2⟩ := b3 k hk
            exact ⟨ws, RepC.of_flat hfl c1, fun j u hj => (c2 j u hj).2.1⟩
          · cases h
        · cases h
      · rename_i t' z hz
        split at h
        · rename_i hbq
          obtain rfl := Ty.eq_of_beq hbq
          cases hfl : t'.flat with
          | true => rw [hfl] at h; cases h
          | false =>
          rw [hfl] at h
          simp only [cond_false] at h
          split at h
          · rename_i y2 hy
            simp only [Option.some.injEq] at h
            simp only [castT] at h
            subst h
            simp only [ArgRep] at h1
            obtain ⟨ad, cap, rfl, _⟩ := h1
            obtain ⟨ad', cap', e', qf, pa0, q4⟩ := hN1
            simp only [Value.slice.injEq, true_and] at e'
            obtain ⟨rfl, rfl⟩ := e'
            obtain ⟨hdm, b1, ⟨b2, b4, b5, b6, b7⟩, bf, pa, b3⟩ := hs.box _ _ hz
            obtain ⟨p1, p2, p3, p4⟩ := hs.pts _ (Nat.le_add_right _ _) hdm
            have e0 : pBase + i0 - pBase = i0 + 0 := by omega
            have eln : g.ln (pBase + i0) = x.1.len := by rw [p2, hbx.2.1]; simp only [lnOf]; rw [e0, hall 0 _ rfl]
            have ehd : g.hd (pBase + i0) = (ad, cap) := by rw [p3, hbx.2.2]; simp only [hdOf]; rw [e0, hall 0 _ rfl]
            rw [ehd] at b4 b7
            simp only [PtsRep]
            refine ⟨ad, cap, us, by rw [← b1, eln], b7, fun hp => ⟨_, _, b4 hp, fun k hk => ?_⟩, pts_rep' hs hy h2 hall' hbx hN2 hE'⟩
            obtain ⟨ws, c1, c2⟩ := b3 k hk
            rw [if_pos (own_none _)] at c1
            obtain ⟨b, o, f1, f2⟩ := q4 (by omega)
            have f3 := b4 hp
            rw [f1] at f3
            simp only [Option.some.injEq, Addr.mk.injEq, and_true] at f3
            obtain ⟨rfl, rfl⟩ := f3
            obtain ⟨ws0, d1, d2⟩ := f2 k (by omega)
            rw [if_pos rfl] at d1
            rw [p4] at c1
            exact ⟨ws, RepE.toC d1 c1 bf fun q u hq => (d2 q u hq).2.2.1, fun j u hj => (c2 j u hj).2.2.1⟩
          · cases h
        · cases h
      · cases h
    | pt t =>
      simp only [unPts] at h
      split at h
      · rename_i z hz
        split at h
        · rename_i y2 hy
          simp only [Option.some.injEq] at h
          subst h
          simp only [ArgRep] at h1
          obtain ⟨b, o, cs, rfl, h3, h4⟩ := h1
          simp only [winC] at hz
          split at hz
          · rename_i cs' hbq
            obtain ⟨hdm, us', h5, h6⟩ := hs.box _ _ hbq
            have hb : g.bx (pBase + i0) = (b, o) := by
              rw [(hs.pts _ (Nat.le_add_right _ _) hdm).1, hbx.1]
              simp only [bxOf]
              rw [show pBase + i0 - pBase = i0 + 0 by omega, hall 0 _ rfl]
            simp only [List.drop_zero] at hz
            simp only [PtsRep]
            refine ⟨b, o, us'.take t.size, us, rfl, (hE.elim (fun q => RepT.mono q _ _ _ (unA_rep hz (h5.take _))) (fun q => RepT.flat (by simp [ptFlat] at q; exact q.1) (unA_rep hz (h5.take _)))), fun j u hj => ?_, pts_rep' hs hy h2 hall' hbx hN2 hE'⟩
            rw [List.getElem?_take] at hj
            split at hj
            · have := (h6 j u hj).2.1
              rw [hb] at this
              exact this
            · cases hj
          · cases hz
        · cases h
      · cases h


/-- The colours behind a call that hands a new box out. -/
def colP (w0 : World) (g : Gh) (r : Nat) : Nat → Nat → Col := fun b o => if w0.heap.size ≤ b then (match g.col b o with | .bx id => if id = r then .bx oBase else .st | c => c) else g.col b o

theorem stays_colP (w0 : World) (g : Gh) (r : Nat) (w : World) : Stays g.col w (colP w0 g r) w := ⟨fun _ _ _ h h' => ⟨by
  unfold colP
  rw [h]
  split <;> rfl, h'⟩⟩

theorem ptr_run (hs : Sim N c0 w0 σ g a w) (hc : ColOk c0) : ∀ {ts : List Ty} {vs : List ResultVar} {y : TysT ts}, unPtr P σ ts vs = some y → ∃ (u : Value) (r : Nat), (vs.mapM (resStep a.tmps)).run P w = .ok [u] w ∧ PtrRep (colP w0 g r) w0 w ts y u
  | [], vs, y, h => by simp [unPtr] at h
  | [t], [], y, h => by simp [unPtr] at h
  | [t], v :: v2 :: vs, y, h => by simp [unPtr] at h
  | _ :: _ :: _, vs, y, h => by simp [unPtr] at h
  | [t], [v], y, h => by
    simp only [unPtr] at h
    split at h
    · rename_i id hp
      obtain ⟨u, h1, h2⟩ := res_run hs hp
      cases hlt : Nat.blt id pBase with
      | false => rw [hlt] at h; simp at h
      | true =>
        rw [hlt] at h
        simp only [cond_true] at h
        have hlt : id < pBase := by simpa [Nat.blt_eq] using hlt
        split at h
        · rename_i cs hb
          split at h
          · rename_i x hx
            cases hsz : Nat.blt 0 t.size with
            | false => rw [hsz] at h; simp at h
            | true =>
              rw [hsz] at h
              simp only [cond_true, Option.some.injEq] at h
              subst h
              have hsz : 0 < t.size := by simpa [Nat.blt_eq] using hsz
              obtain ⟨hd, us, h3, h4⟩ := hs.box _ _ hb
              have hrt := unA_rep hx h3
              have hl := hrt.length
              simp only [Rep] at h2
              obtain ⟨_, rfl⟩ := h2
              have hfresh : w0.heap.size ≤ (g.bx id).1 := by
                rcases Nat.lt_or_ge (g.bx id).1 w0.heap.size with hlt' | hge
                · obtain ⟨a1, _, _⟩ := h4 0 us[0] (List.getElem?_eq_getElem (by omega))
                  have := hc.bx _ _ _ ((hs.old _ hlt' _).2.1 _ a1)
                  omega
                · exact hge
              refine ⟨_, id, ?_, (g.bx id).1, (g.bx id).2 + 0, us, rfl, hfresh, RepT.mono (stays_colP w0 g id w) _ _ _ hrt, fun j u hj => ?_⟩
              · rw [List.mapM_cons]
                simp only [Sem.run_bind, h1, Result.andThen_ok, List.mapM_nil, Sem.run_pure]
              · obtain ⟨a1, a2, a3⟩ := h4 j u hj
                rw [Nat.add_zero]
                refine ⟨?_, a2, a3⟩
                unfold colP
                rw [if_pos hfresh, a1]
                simp
          · cases h
        · cases h
    · cases h

/-! ### Results in memory of their own -/
def pos (c : Nat) : List Nat → Nat → Option Nat
  | [], _ => none
  | a :: r, j => bif Nat.beq a c then some j else pos c r (j + 1)

theorem pos_of {c : Nat} : ∀ {l : List Nat} {i j : Nat}, nodupNZ l = true → c ≠ 0 → l[i]? = some c → pos c l j = some (j + i)
  | [], i, j, _, _, h => by simp at h
  | a :: r, i, j, hn, hc, h => by
    simp only [nodupNZ, Bool.and_eq_true, Bool.or_eq_true, Bool.not_eq_true'] at hn
    simp only [pos]
    cases i with
    | zero =>
      simp at h; subst h
      simp
    | succ i =>
      simp at h
      have hne : Nat.beq a c = false := by
        cases hb : Nat.beq a c with
        | false => rfl
        | true =>
          have e := Nat.eq_of_beq_eq_true hb
          subst e
          rcases hn.1 with h0 | h0
          · exact absurd (Nat.eq_of_beq_eq_true h0) hc
          · rw [List.any_eq_false] at h0
            exact absurd (by simp) (h0 a (List.mem_of_getElem? h))
      rw [hne]
      simp only [cond_false]
      rw [pos_of hn.2 hc h]
      congr 1; omega

/-- The colours behind a call whose results lie in memory of their own. -/
def colF (w0 : World) (g : Gh) (fr : Nat) (names : List Nat) : Nat → Nat → Col := fun b o => if w0.heap.size ≤ b then (match g.col b o with
    | .bx id => (match pos (2 * id + 1) names 0 with | some j => .bx (oBase + j) | none => .st)
    | .tk k => (match pos (2 * k + 2) names 0 with | some j => .bx (oBase + j) | none => .free)
    | .st => if fr = 1 then (match g.ob b with | 0 => .st | k + 1 => (match pos (2 * k + 2) names 0 with | some j => .bx (oBase + j) | none => .st)) else .st
    | .free => .free) else g.col b o

theorem stays_colF (w0 : World) (g : Gh) {fr : Nat} (hf : fr ≠ 1) (names : List Nat) (w : World) : Stays g.col w (colF w0 g fr names) w := ⟨fun _ _ _ h h' => ⟨by
  unfold colF
  rw [h]
  simp only [if_neg hf]
  split <;> rfl, h'⟩⟩

/-- One slice that is handed out. -/
theorem frSl (hs : Sim N c0 w0 σ g a w) (hc : ColOk c0) {fr : Nat} {names : List Nat} (hn : nodupNZ names = true) {t : Ty} (hfl : (fr = 1 → t.fl1 = true) ∧ (fr ≠ 1 → t.flat = true)) {p : PV} {r ps : List PV} {x : L t.T} {v : Value} {j : Nat} (h : unF σ fr (.sl t) (p :: ps) = some (x, r)) (hp : Rep g w p v) (hj : ∀ c ∈ nameP p, names[j]? = some c) :
    r = ps ∧ (∃ c, nameP p = [c]) ∧ (fr = 1 → FrT (colF w0 g fr names) w0 w (.sl t) x [v] j) ∧ (fr ≠ 1 → OwT (colF w0 g fr names) w0 w (fun b => match g.ob b with | 0 => 0 | k + 1 => (match pos (2 * k + 2) names 0 with | some j => j + 1 | none => 0)) (.sl t) x [v] j) := by
  cases p with
  | nils =>
    simp only [unF, Option.some.injEq, Prod.mk.injEq] at h
    obtain ⟨rfl, rfl⟩ := h
    simp only [Rep] at hp; subst hp
    refine ⟨rfl, ⟨0, rfl⟩, fun hf => ?_, fun _ => ?_⟩
    · exact ⟨none, 0, rfl, Nat.le_refl _, ⟨fun _ => rfl, fun _ => rfl, fun _ => rfl⟩, fun _ => hfl.1 hf, fun _ _ => (none, 0, 0), fun _ _ => none, fun _ _ _ e => (by cases e), fun ad e => nomatch e⟩
    · exact ⟨none, 0, rfl, nils_rep t, fun ad e => nomatch e⟩
  | sl t' y tk =>
    cases tk with
    | no => simp only [unF] at h; cases h
    | tok k => simp only [unF] at h; cases h
    | tight =>
      simp only [unF] at h
      split at h
      · rename_i hb
        split at h
        · rename_i h0
          simp only [Option.some.injEq, Prod.mk.injEq] at h
          obtain ⟨rfl, rfl⟩ := h
          obtain rfl := Ty.eq_of_beq hb
          have h0 : y.len = 0 := Nat.eq_of_beq_eq_true h0
          simp only [Rep, TkC] at hp
          obtain ⟨ad, cap, rfl, hrep, hcap, hsp⟩ := hp
          simp only [castT]
          subst hcap
          refine ⟨trivial, ⟨0, rfl⟩, fun hf => ?_, fun hf => ?_⟩
          · obtain ⟨ad', cap', e, q1, q2, q3⟩ := hrep
            simp only [List.cons.injEq, Value.slice.injEq, and_true, true_and] at e
            obtain ⟨rfl, rfl⟩ := e
            exact ⟨ad, y.len, rfl, q1, q2, fun _ => hfl.1 hf, fun _ _ => (none, 0, 0), fun _ _ => none, fun _ _ _ e => (by cases e), fun ad1 e => ⟨fun _ => hsp ad1 e, fun k hk => by rw [h0] at hk; simp at hk, fun i hi => by omega⟩⟩
          · exact ⟨ad, y.len, rfl, RepT.mono (stays_colF w0 g hf names w) _ _ _ hrep, fun ad1 e => ⟨hsp ad1 e, fun hp => by rw [h0] at hp; simp at hp, fun k hk1 hk2 => by omega⟩⟩
        · cases h
      · cases h
    | own k =>
      simp only [unF] at h
      split at h
      · rename_i hb
        split at h
        · rename_i hlv
          simp only [Option.some.injEq, Prod.mk.injEq] at h
          obtain ⟨rfl, rfl⟩ := h
          obtain rfl := Ty.eq_of_beq hb
          simp only [Bool.and_eq_true, Bool.or_eq_true, Bool.not_eq_true'] at hlv
          obtain ⟨hlv, hft⟩ := hlv
          have hlv : σ.live k = 1 := Nat.eq_of_beq_eq_true hlv
          obtain ⟨hl, hcells⟩ := hs.tok k hlv
          simp only [Rep, TkC] at hp
          obtain ⟨ad, cap, rfl, hrep, ⟨_, htk⟩, hob⟩ := hp
          simp only [castT]
          have hpos : pos (2 * k + 2) names 0 = some j := by
            have := pos_of (j := 0) hn (by omega) (hj (2 * k + 2) (by simp [nameP]))
            simpa using this
          have hrep0 := hrep
          obtain ⟨ad', cap', e, q1, q2, q3⟩ := hrep
          simp only [List.cons.injEq, Value.slice.injEq, and_true, true_and] at e
          obtain ⟨rfl, rfl⟩ := e
          have hblk : ∀ ad1, ad = some ad1 → 0 < cap * t'.size → g.ob ad1.block = k + 1 ∧ ad1.block < w.heap.size ∧ w0.heap.size ≤ ad1.block ∧ ∀ o, w.frozen? ⟨ad1.block, o, none⟩ = false := fun ad1 e hp => by
            have h1 := (hob hl ad1 e).resolve_left (by omega)
            exact ⟨h1, hs.ob _ (by omega)⟩
          refine ⟨trivial, ⟨_, rfl⟩, fun hf => ?_, fun hf => ?_⟩
          · have hfl' : t'.flat = true := hft.resolve_right (fun e => by rw [hf] at e; cases e)
            have hcolE : ∀ ad1, ad = some ad1 → ∀ i, i < y.len * t'.size → w0.heap.size ≤ ad1.block ∧ colF w0 g fr names ad1.block (ad1.off + i) = .bx (oBase + j) ∧ w.frozen? ⟨ad1.block, ad1.off + i, none⟩ = false := fun ad1 e i hi => by
              have hcp : 0 < cap * t'.size := Nat.lt_of_lt_of_le (Nat.lt_of_le_of_lt (Nat.zero_le _) hi) (Nat.mul_le_mul_right _ q1)
              obtain ⟨b1, b2, b3, b4⟩ := hblk ad1 e hcp
              refine ⟨b3, ?_, b4 _⟩
              have hst : g.col ad1.block (ad1.off + i) = .st := by
                have hsz : 0 < t'.size := Nat.pos_of_mul_pos_left hcp |> fun _ => Nat.pos_of_ne_zero fun h0 => by rw [h0] at hcp; simp at hcp
                have hi2 : i / t'.size < y.len := by rw [Nat.div_lt_iff_lt_mul hsz]; exact hi
                obtain ⟨us, c1, c2⟩ := (q3 ad1 e).2 (i / t'.size) hi2
                have hm : i % t'.size < us.length := by rw [c1.length]; exact Nat.mod_lt _ hsz
                have := (c2 (i % t'.size) _ (List.getElem?_eq_getElem hm)).1
                rwa [Nat.add_assoc, show i / t'.size * t'.size + i % t'.size = i by rw [Nat.mul_comm]; exact Nat.div_add_mod i t'.size] at this
              unfold colF
              rw [if_pos b3, hst]
              simp only [if_pos hf, b1, hpos]
            refine ⟨ad, cap, rfl, q1, q2, fun e => (by rw [hfl'] at e; cases e), fun _ _ => (none, 0, 0), fun _ _ => none, fun _ _ _ e => (by cases e), fun ad1 e => ⟨fun _ => (htk hl ad1 e).1, hcolE ad1 e, fun i hi => ?_⟩⟩
            obtain ⟨us, c1, c2⟩ := (q3 ad1 e).2 i hi
            refine ⟨us, by rw [if_pos rfl]; exact RepE.of_flat hfl' (RepT.flat hfl' c1), fun m u hm => ?_⟩
            have hml : m < t'.size := by rw [← c1.length]; exact (List.getElem?_eq_some_iff.mp hm).1
            have hlt : i * t'.size + m < y.len * t'.size := by
              have : (i + 1) * t'.size ≤ y.len * t'.size := Nat.mul_le_mul_right _ hi
              rw [Nat.add_mul, Nat.one_mul] at this; omega
            obtain ⟨d1, d2, d3⟩ := hcolE ad1 e _ hlt
            rw [← Nat.add_assoc] at d2 d3
            exact ⟨d2, rfl, (c2 m u hm).2, d3⟩
          · refine ⟨ad, cap, rfl, RepT.mono (stays_colF w0 g hf names w) _ _ _ hrep0, fun ad1 e => ⟨(htk hl ad1 e).1, fun hcp => ?_, fun i i1 i2 => ?_⟩⟩
            · obtain ⟨b1, b2, b3, b4⟩ := hblk ad1 e hcp
              exact ⟨b3, b2, by simp only [b1, hpos], b4⟩
            · have hlc : y.len < cap := by
                rcases Nat.lt_or_ge y.len cap with h1 | h1
                · exact h1
                · have := Nat.mul_le_mul_right t'.size h1; omega
              have etk := (htk hl ad1 e).2 hlc
              rw [etk] at hcells
              obtain ⟨d1, d2, d3⟩ := hcells (ad1.off + i) (by simp only; omega) (by simp only; omega)
              obtain ⟨b1, b2, b3, b4⟩ := hblk ad1 e (by omega)
              refine ⟨?_, d2⟩
              unfold colF
              rw [if_pos b3]
              simp only at d1
              rw [d1]
              simp only [hpos]
        · cases h
      · cases h
  | ms id =>
    simp only [unF] at h
    split at h
    · rename_i hid
      simp only [Bool.and_eq_true, Nat.blt_eq] at hid
      obtain ⟨hf1, hid⟩ := hid
      have hf1 : fr = 1 := Nat.eq_of_beq_eq_true hf1
      have hge : ∀ b o, g.col b o = .bx id → w0.heap.size ≤ b := fun b o d1 => by
        rcases Nat.lt_or_ge b w0.heap.size with hlt | hge
        · have := hc.bx _ _ _ ((hs.old _ hlt _).2.1 _ d1); omega
        · exact hge
      have hpos : pos (2 * id + 1) names 0 = some j := by
        have := pos_of (j := 0) hn (by omega) (hj (2 * id + 1) (by simp [nameP]))
        simpa using this
      have hcolE : ∀ b o, g.col b o = .bx id → colF w0 g fr names b o = .bx (oBase + j) := fun b o d1 => by
        unfold colF
        rw [if_pos (hge b o d1), d1]
        simp only [hpos]
      split at h
      · rename_i t' y hb
        split at h
        · rename_i hbq
          obtain rfl := Ty.eq_of_beq hbq
          cases hft : t'.flat with
          | false => rw [hft] at h; cases h
          | true =>
          rw [hft] at h
          simp only [cond_true, Option.some.injEq, Prod.mk.injEq] at h
          obtain ⟨rfl, rfl⟩ := h
          simp only [castT]
          simp only [Rep] at hp
          obtain ⟨_, rfl⟩ := hp
          obtain ⟨b1, ⟨b2, b4, b5, b6, b7⟩, b3⟩ := (hs.box _ _ hb).2
          refine ⟨trivial, ⟨_, rfl⟩, fun _ => ?_, fun hne => absurd hf1 hne⟩
          rw [b1]
          refine ⟨(g.hd id).1, (g.hd id).2, rfl, b6, ⟨b5, b7⟩, fun e => (by rw [hft] at e; cases e), fun _ _ => (none, 0, 0), fun _ _ => none, fun _ _ _ e => (by cases e), fun ad1 e => ⟨fun hp => ?_, fun i hi => ?_, fun i hi => ?_⟩⟩
          · rw [b4 hp] at e; cases e; rfl
          · have hy : 0 < y.len := Nat.pos_of_mul_pos_right (Nat.lt_of_le_of_lt (Nat.zero_le _) hi)
            rw [b4 hy] at e; cases e
            have hsz : 0 < t'.size := Nat.pos_of_ne_zero fun h0 => by rw [h0] at hi; simp at hi
            have hi2 : i / t'.size < y.len := by rw [Nat.div_lt_iff_lt_mul hsz]; exact hi
            obtain ⟨us, c1, c2⟩ := b3 (i / t'.size) hi2
            have hm : i % t'.size < us.length := by rw [c1.length]; exact Nat.mod_lt _ hsz
            obtain ⟨d1, d2, d3⟩ := c2 (i % t'.size) _ (List.getElem?_eq_getElem hm)
            rw [Nat.add_assoc, show i / t'.size * t'.size + i % t'.size = i by rw [Nat.mul_comm]; exact Nat.div_add_mod i t'.size] at d1 d3
            exact ⟨hge _ _ d1, hcolE _ _ d1, d3⟩
          · rw [b4 (by omega)] at e; cases e
            obtain ⟨us, c1, c2⟩ := b3 i hi
            exact ⟨us, by rw [if_pos rfl]; exact RepE.of_flat hft (RepT.flat hft c1), fun m u hm => by obtain ⟨d1, d2, d3⟩ := c2 m u hm; exact ⟨hcolE _ _ d1, rfl, d2, d3⟩⟩
        · cases h
      · rename_i t' y hb
        split at h
        · rename_i hbq
          obtain rfl := Ty.eq_of_beq hbq
          cases hft : t'.flat with
          | true => rw [hft] at h; cases h
          | false =>
          rw [hft] at h
          simp only [cond_false, Option.some.injEq, Prod.mk.injEq] at h
          obtain ⟨rfl, rfl⟩ := h
          simp only [castT]
          simp only [Rep] at hp
          obtain ⟨_, rfl⟩ := hp
          obtain ⟨b1, ⟨b2, b4, b5, b6, b7⟩, bf, pa, b3⟩ := (hs.box _ _ hb).2
          refine ⟨trivial, ⟨_, rfl⟩, fun _ => ?_, fun hne => absurd hf1 hne⟩
          rw [b1]
          refine ⟨(g.hd id).1, (g.hd id).2, rfl, b6, ⟨b5, b7⟩, fun _ => bf, g.nh id, fun b o => if w0.heap.size ≤ b then pa b o else none, fun b o q e => ?_, fun ad1 e => ⟨fun hp => ?_, fun i hi => ?_, fun i hi => ?_⟩⟩
          · change (if w0.heap.size ≤ b then pa b o else none) = some q at e
            split at e
            · assumption
            · cases e
          · rw [b4 hp] at e; cases e; rfl
          · have hy : 0 < y.len := Nat.pos_of_mul_pos_right (Nat.lt_of_le_of_lt (Nat.zero_le _) hi)
            rw [b4 hy] at e; cases e
            have hsz : 0 < t'.size := Nat.pos_of_ne_zero fun h0 => by rw [h0] at hi; simp at hi
            have hi2 : i / t'.size < y.len := by rw [Nat.div_lt_iff_lt_mul hsz]; exact hi
            obtain ⟨us, c1, c2⟩ := b3 (i / t'.size) hi2
            rw [if_pos (own_none _)] at c1
            have hm : i % t'.size < us.length := by rw [c1.length]; exact Nat.mod_lt _ hsz
            obtain ⟨d1, _, d2, d3⟩ := c2 (i % t'.size) _ (List.getElem?_eq_getElem hm)
            rw [Nat.add_assoc, show i / t'.size * t'.size + i % t'.size = i by rw [Nat.mul_comm]; exact Nat.div_add_mod i t'.size] at d1 d3
            exact ⟨hge _ _ d1, hcolE _ _ d1, d3⟩
          · rw [b4 (by omega)] at e; cases e
            obtain ⟨us, c1, c2⟩ := b3 i hi
            rw [if_pos (own_none _)] at c1
            refine ⟨us, ?_, fun m u hm => ?_⟩
            · rw [if_pos rfl]
              refine RepE.mono (pa := pa) ?_ (fun _ => rfl) (fun b o v j' a1 a2 a3 a4 => ⟨hcolE _ _ (colNoSt_bx.mp a1), (if_pos (hge _ _ (colNoSt_bx.mp a1))).trans a2, a3, a4⟩) _ _ _ _ (RepE.flatSt bf c1)
              exact ⟨fun b o v e => absurd e colNoSt_st⟩
            · obtain ⟨d1, d0, d2, d3⟩ := c2 m u hm
              exact ⟨hcolE _ _ d1, (if_pos (hge _ _ d1)).trans d0, d2, d3⟩
        · cases h
      · cases h
    · cases h
  | _ => simp only [unF] at h; cases h

/-- Whose a block is, told by the results' places. -/
def obF (g : Gh) (names : List Nat) : Nat → Nat := fun b => match g.ob b with | 0 => 0 | k + 1 => (match pos (2 * k + 2) names 0 with | some j => j + 1 | none => 0)

theorem frT_pair {fr : Nat} {a b : Ty} (h : frT fr (.pair a b) = true) : frT fr a = true ∧ frT fr b = true := by
  unfold frT at h ⊢
  cases hb : Nat.beq fr 1 with
  | true =>
    rw [hb] at h
    simp only [cond_true, Ty.fl2, Bool.and_eq_true] at h
    exact h
  | false =>
    rw [hb] at h
    simp only [cond_false, Ty.fl1, Bool.and_eq_true] at h
    exact h
theorem frT_sl {fr : Nat} {t : Ty} (h : frT fr (.sl t) = true) : (fr = 1 → t.fl1 = true) ∧ (fr ≠ 1 → t.flat = true) := by
  unfold frT at h
  cases hb : Nat.beq fr 1 with
  | true =>
    rw [hb] at h
    exact ⟨fun _ => h, fun hne => absurd (Nat.eq_of_beq_eq_true hb) hne⟩
  | false =>
    rw [hb] at h
    exact ⟨fun e => (by rw [e] at hb; cases hb), fun _ => h⟩
theorem frOk_all {fr : Nat} {ts : List Ty} (h : frOk fr ts = true) : ts.all (frT fr) = true := by
  unfold frOk at h
  split at h
  · cases h
  · exact h
  · rename_i hne
    rw [List.all_eq_true] at h ⊢
    intro t ht
    unfold frT
    cases hb : Nat.beq fr 1 with
    | true => exact absurd (Nat.eq_of_beq_eq_true hb) hne
    | false => exact h t ht

theorem frTy (hs : Sim N c0 w0 σ g a w) (hc : ColOk c0) {fr : Nat} {names : List Nat} (hn : nodupNZ names = true) : ∀ {t : Ty} {cs r : List PV} {x : t.T} {vs : List Value}, frT fr t = true → unF σ fr t cs = some (x, r) → Reps g w cs vs →
    ∃ c1 v1 v2, cs = c1 ++ r ∧ vs = v1 ++ v2 ∧ Reps g w r v2 ∧ (c1.flatMap nameP).length = t.nsl ∧ ∀ j, (∀ i c, (c1.flatMap nameP)[i]? = some c → names[j + i]? = some c) → (fr = 1 → FrT (colF w0 g fr names) w0 w t x v1 j) ∧ (fr ≠ 1 → OwT (colF w0 g fr names) w0 w (obF g names) t x v1 j) := by
  intro t
  induction t with
  | int k =>
    intro cs r x vs _ h hr
    cases cs with
    | nil => simp [unF] at h
    | cons p ps =>
      cases p <;> simp only [unF] at h <;> try cases h
      split at h
      · rename_i e; subst e
        simp only [Option.some.injEq, Prod.mk.injEq] at h
        obtain ⟨rfl, rfl⟩ := h
        simp only [Reps, Rep] at hr
        obtain ⟨u, us, rfl, rfl, h3⟩ := hr
        exact ⟨[_], [_], us, rfl, rfl, h3, rfl, fun j _ => ⟨fun _ => rfl, fun _ => rfl⟩⟩
      · cases h
  | bool =>
    intro cs r x vs _ h hr
    cases cs with
    | nil => simp [unF] at h
    | cons p ps =>
      cases p <;> simp only [unF] at h <;> try cases h
      simp only [Reps, Rep] at hr
      obtain ⟨u, us, rfl, rfl, h3⟩ := hr
      exact ⟨[_], [_], us, rfl, rfl, h3, rfl, fun j _ => ⟨fun _ => rfl, fun _ => rfl⟩⟩
  | str =>
    intro cs r x vs _ h hr
    cases cs with
    | nil => simp [unF] at h
    | cons p ps =>
      cases p <;> simp only [unF] at h <;> try cases h
      simp only [Reps, Rep] at hr
      obtain ⟨u, us, rfl, rfl, h3⟩ := hr
      exact ⟨[_], [_], us, rfl, rfl, h3, rfl, fun j _ => ⟨fun _ => rfl, fun _ => rfl⟩⟩
  | unit =>
    intro cs r x vs _ h hr
    simp only [unF, Option.some.injEq, Prod.mk.injEq, true_and] at h
    subst h
    exact ⟨[], [], vs, rfl, rfl, hr, rfl, fun j _ => ⟨fun _ => rfl, fun _ => rfl⟩⟩
  | pair p q ihp ihq =>
    intro cs r x vs hfl h hr
    have hfl := frT_pair hfl
    simp only [unF] at h
    split at h
    · rename_i x1 r1 h1
      split at h
      · rename_i x2 r2 h2
        simp only [Option.some.injEq, Prod.mk.injEq] at h
        obtain ⟨rfl, rfl⟩ := h
        obtain ⟨c1, v1, v2, rfl, rfl, k1, k2, k3⟩ := ihp hfl.1 h1 hr
        obtain ⟨d1, u1, u2, rfl, rfl, l1, l2, l3⟩ := ihq hfl.2 h2 k1
        refine ⟨c1 ++ d1, v1 ++ u1, u2, by simp, by simp, l1, by simp [k2, l2, Ty.nsl], fun j hj => ?_⟩
        rw [List.flatMap_append] at hj
        obtain ⟨a1, a2⟩ := k3 j fun i c hi => hj i c (by rw [List.getElem?_append_left (List.getElem?_eq_some_iff.mp hi).1]; exact hi)
        obtain ⟨b1, b2⟩ := l3 (j + p.nsl) fun i c hi => by
          have := hj (p.nsl + i) c (by rw [List.getElem?_append_right (by omega), k2]; rw [show p.nsl + i - p.nsl = i by omega]; exact hi)
          rwa [← Nat.add_assoc] at this
        exact ⟨fun e => ⟨v1, u1, rfl, a1 e, b1 e⟩, fun e => ⟨v1, u1, rfl, a2 e, b2 e⟩⟩
      · cases h
    · cases h
  | sl t ih =>
    intro cs r x vs hfl h hr
    cases cs with
    | nil => simp [unF] at h
    | cons p ps =>
      simp only [Reps] at hr
      obtain ⟨u, us, rfl, h1, h2⟩ := hr
      obtain ⟨c, hcn⟩ : ∃ c, nameP p = [c] := by
        cases p <;> first | exact ⟨_, rfl⟩ | (simp only [unF] at h; cases h; done) | skip
        rename_i t' y tk
        cases tk <;> exact ⟨_, rfl⟩
      have hr : r = ps := by
        cases p with
        | nils => simp only [unF, Option.some.injEq, Prod.mk.injEq] at h; exact h.2.symm
        | ms id =>
          simp only [unF] at h
          split at h
          · split at h
            · split at h
              · cases hft : t.flat with
                | true => rw [hft] at h; simp only [cond_true, Option.some.injEq, Prod.mk.injEq] at h; exact h.2.symm
                | false => rw [hft] at h; cases h
              · cases h
            · split at h
              · cases hft : t.flat with
                | true => rw [hft] at h; cases h
                | false => rw [hft] at h; simp only [cond_false, Option.some.injEq, Prod.mk.injEq] at h; exact h.2.symm
              · cases h
            · cases h
          · cases h
        | sl t' y tk =>
          cases tk <;> simp only [unF] at h <;> try cases h
          · split at h
            · split at h
              · simp only [Option.some.injEq, Prod.mk.injEq] at h; exact h.2.symm
              · cases h
            · cases h
          · split at h
            · split at h
              · simp only [Option.some.injEq, Prod.mk.injEq] at h; exact h.2.symm
              · cases h
            · cases h
        | _ => simp only [unF] at h; cases h
      subst hr
      refine ⟨[p], [u], us, rfl, rfl, h2, by simp [hcn, Ty.nsl], fun j hj => ?_⟩
      have := frSl hs hc hn (j := j) (frT_sl hfl) h h1 fun c' hc' => by
        have h0 := hj 0 c (by simp [hcn])
        rw [hcn, List.mem_singleton] at hc'
        subst hc'
        exact h0
      exact this.2.2

theorem frV (hs : Sim N c0 w0 σ g a w) (hc : ColOk c0) {fr : Nat} {names : List Nat} (hn : nodupNZ names = true) {t : Ty} {p : PV} {x : t.T} {v : Value} (hfl : frT fr t = true) (h : unFV σ fr t p = some x) (hp : Rep g w p v) :
    (p.cel.flatMap nameP).length = t.nsl ∧ ∀ j, (∀ i c, (p.cel.flatMap nameP)[i]? = some c → names[j + i]? = some c) → (fr = 1 → ∃ cs, FrT (colF w0 g fr names) w0 w t x cs j ∧ v = mkV t cs) ∧ (fr ≠ 1 → ∃ cs, OwT (colF w0 g fr names) w0 w (obF g names) t x cs j ∧ v = mkV t cs) := by
  unfold unFV at h
  split at h
  · rename_i hag
    split at h
    · rename_i y hy
      simp only [Option.some.injEq] at h
      subst h
      have fin : ∀ (vs : List Value), Reps g w p.cel vs → v = mkV t vs → ((p.cel.flatMap nameP).length = t.nsl ∧ ∀ j, (∀ i c, (p.cel.flatMap nameP)[i]? = some c → names[j + i]? = some c) → (fr = 1 → ∃ cs, FrT (colF w0 g fr names) w0 w t y cs j ∧ v = mkV t cs) ∧ (fr ≠ 1 → ∃ cs, OwT (colF w0 g fr names) w0 w (obF g names) t y cs j ∧ v = mkV t cs)) := fun vs hr hv => by
        obtain ⟨c1, v1, v2, e1, e2, e3, e4, e5⟩ := frTy hs hc hn hfl hy hr
        simp only [List.append_nil] at e1
        simp only [Reps] at e3
        subst e3
        simp only [List.append_nil] at e2
        subst e2
        rw [e1]
        exact ⟨e4, fun j hj => ⟨fun e => ⟨vs, (e5 j hj).1 e, hv⟩, fun e => ⟨vs, (e5 j hj).2 e, hv⟩⟩⟩
      cases p with
      | agg cs =>
        simp only [Rep] at hp
        obtain ⟨vs, rfl, h2⟩ := hp
        refine fin vs h2 ?_
        cases t <;> simp [PV.isAg, Ty.isAgg] at hag <;> rfl
      | _ =>
        refine fin [v] (by simp only [PV.cel, Reps]; exact ⟨v, [], rfl, hp, rfl⟩) ?_
        cases t <;> simp [PV.isAg, Ty.isAgg] at hag <;> rfl
    · cases h
  · cases h

theorem frs_run (hs : Sim N c0 w0 σ g a w) (hc : ColOk c0) {fr : Nat} {names : List Nat} (hn : nodupNZ names = true) : ∀ {ts : List Ty} {vs : List ResultVar} {y : TysT ts} {j : Nat}, ts.all (frT fr) = true → unFs P σ fr ts vs = some y → (∀ i c, (namesR P σ vs)[i]? = some c → names[j + i]? = some c) →
    ∃ us : List Value, (vs.mapM (resStep a.tmps)).run P w = .ok us w ∧ (fr = 1 → FrOuts (FrT (colF w0 g fr names) w0 w) ts y us j) ∧ (fr ≠ 1 → FrOuts (OwT (colF w0 g fr names) w0 w (obF g names)) ts y us j)
  | [], [], y, j, _, _, _ => ⟨[], rfl, fun _ => rfl, fun _ => rfl⟩
  | [], v :: vs, y, j, _, h, _ => by simp [unFs] at h
  | t :: r, [], y, j, _, h, _ => by simp [unFs] at h
  | t :: r, v :: vs, y, j, hfl, h, hj => by
    simp only [List.all_cons, Bool.and_eq_true] at hfl
    simp only [unFs] at h
    split at h
    · rename_i p hp
      split at h
      · rename_i x hx
        split at h
        · rename_i y2 hy
          simp only [Option.some.injEq] at h
          subst h
          obtain ⟨u, h3, h4⟩ := res_run hs hp
          obtain ⟨k1, k2⟩ := frV hs hc hn hfl.1 hx h4
          simp only [namesR, hp] at hj
          obtain ⟨f1, f2⟩ := k2 j fun i c hi => hj i c (by rw [List.getElem?_append_left (List.getElem?_eq_some_iff.mp hi).1]; exact hi)
          obtain ⟨us, h1, h5, h6⟩ := frs_run hs hc hn (j := j + t.nsl) hfl.2 hy fun i c hi => by
            have := hj (t.nsl + i) c (by rw [List.getElem?_append_right (by omega), k1]; rw [show t.nsl + i - t.nsl = i by omega]; exact hi)
            rwa [← Nat.add_assoc] at this
          refine ⟨u :: us, ?_, fun e => ⟨u, us, rfl, f1 e, h5 e⟩, fun e => ⟨u, us, rfl, f2 e, h6 e⟩⟩
          rw [List.mapM_cons]
          simp only [Sem.run_bind, h3, Result.andThen_ok, h1, Sem.run_pure]
        · cases h
      · cases h
    · cases h

theorem ress_run (hs : Sim N c0 w0 σ g a w) : ∀ {vs : List ResultVar} {ps : List PV}, resPVs P σ vs = some ps → ∃ us : List Value, (vs.mapM (resStep a.tmps)).run P w = .ok us w ∧ Reps g w ps us
  | [], ps, h => by
    simp only [resPVs, Option.some.injEq] at h; subst h
    exact ⟨[], rfl, by simp only [Reps]⟩
  | v :: vs, ps, h => by
    simp only [resPVs] at h
    split at h
    · rename_i p hp
      split at h
      · rename_i ps' hps
        simp only [Option.some.injEq] at h; subst h
        obtain ⟨us, h1, h2⟩ := ress_run hs hps
        obtain ⟨u, h3, h4⟩ := res_run hs hp
        refine ⟨u :: us, ?_, ?_⟩
        · rw [List.mapM_cons]
          simp only [Sem.run_bind, h3, Result.andThen_ok, h1, Sem.run_pure]
        · simp only [Reps]
          exact ⟨u, us, rfl, h4, h2⟩
      · cases h
    · cases h

theorem resAll_run (hs : Sim N c0 w0 σ g a w) {vs : List ResultVar} {p : PV} (h : resAll P σ vs = some p) : ∃ us : List Value, (vs.mapM (resStep a.tmps)).run P w = .ok us w ∧ Rep g w p (tupV us) := by
  unfold resAll at h
  split at h
  · rename_i p' hp
    simp only [Option.some.injEq] at h; subst h
    obtain ⟨us, h1, h2⟩ := ress_run hs hp
    simp only [Reps] at h2
    obtain ⟨u, us', rfl, h3, rfl⟩ := h2
    exact ⟨[u], h1, by simpa [tupV] using h3⟩
  · rename_i ps hne hp
    simp only [Option.some.injEq] at h; subst h
    obtain ⟨us, h1, h2⟩ := ress_run hs hp
    refine ⟨us, h1, ?_⟩
    have hl := h2.length
    unfold tupV
    rw [dif_neg]
    · simp only [Rep]
      exact ⟨us, rfl, h2⟩
    · intro e
      simp only [List.size_toArray] at e
      rw [hl] at e
      match hps : ps, e with
      | [q], _ => exact hne q rfl
  · cases h

/-- Functions that are run in place. -/
theorem inlN_ok (hm : P.follows .mixedOrders = true) {Γ : TypeId → Option Ty} {T : Tbl} (hΓ : GamOk P Γ) (hT : TblOk P T) : ∀ n, InlOk P (inlN P Γ T n)
  | 0 => inl_no P
  | n + 1 => by
    intro f ps d σ K r N c0 w0 g a w vs h hs hr
    simp only [inlN] at h
    split at h
    · rename_i fn hf
      split at h
      · rename_i code hb
        split at h
        · rename_i hc
          simp only [Bool.and_eq_true, Bool.not_eq_true'] at hc
          obtain ⟨hle, hname, hd⟩ := hc
          have hle : ps.length ≤ fn.ntmps := Nat.le_of_ble_eq_true hle
          have hlen := hr.length
          refine ⟨⟨fn, hf, hname, by rw [hb]; rfl⟩, calls_of_wp hf hb ?_⟩
          let N' : Fr := { N with n := fn.ntmps, z := σ.off + 2048 * (d + 1), stk := (fun i => a.tmps.getD i undef) :: N.stk }
          have hs' : Sim N' c0 w0 { σ with env := fun j => ps.getD j .any, off := σ.off + 2048 * (d + 1), stk := σ.env :: σ.stk } g { tmps := vs.toArray ++ Array.replicate (fn.ntmps - vs.toArray.size) undef, defers := [] } w :=
            { size := by show (vs.toArray ++ Array.replicate (fn.ntmps - vs.toArray.size) undef).size = fn.ntmps; simp; omega
              off := rfl
              stk := ⟨_, _, rfl, hs.env, hs.stk⟩
              pts := hs.pts
              env := fun i => by
                show Rep g w (ps.getD i .any) _
                rw [List.getD_eq_getElem?_getD]
                cases hp : ps[i]? with
                | none => simp only [Option.getD_none, Rep]
                | some p =>
                  obtain ⟨v, hv, hr⟩ := hr.get i p hp
                  have hi : i < vs.toArray.size := by
                    have := (List.getElem?_eq_some_iff.mp hv).1
                    simpa using this
                  have hget : (vs.toArray ++ Array.replicate (fn.ntmps - vs.toArray.size) undef).getD i undef = v := by
                    rw [Array.getD_eq_getD_getElem?, Array.getElem?_append_left hi]
                    have : vs.toArray[i]? = some v := by simpa using hv
                    rw [this]; rfl
                  rw [hget]
                  exact hr
              defers := rfl
              box := hs.box
              dom := hs.dom
              tok := hs.tok
              us := hs.us
              lv := hs.lv
              ob := hs.ob
              keep := hs.keep
              old := hs.old
              cok := hs.cok }
          have fin : ∀ (σ1 : AS) (g1 : Gh) (a1 : Act) (w1 : World), (match resAll P σ1 fn.results.toList, σ1.stk with
              | some v, env :: r => K v { σ1 with env := env, off := σ.off, stk := r }
              | _, _ => none) = some r → Sim N' c0 w0 σ1 g1 a1 w1 → a1.defers = [] ∧ ∃ v, (results fn a1.tmps).run P w1 = .ok v w1 ∧ ∃ v' p σ' g', Ending.returned v = .returned v' ∧ Sim N c0 w0 σ' g' a w1 ∧ Rep g' w1 p v' ∧ K p σ' = some r := by
            intro σ1 g1 a1 w1 he h1
            refine ⟨h1.defers, ?_⟩
            split at he
            · rename_i p env rs hp hstk
              obtain ⟨us, k1, k2⟩ := resAll_run h1 hp
              have hk := h1.stk
              rw [hstk] at hk
              obtain ⟨f', s', e', k3, k4⟩ := hk
              simp only [N', List.cons.injEq] at e'
              obtain ⟨rfl, rfl⟩ := e'
              refine ⟨tupV us, ?_, tupV us, p, { σ1 with env := env, off := σ.off, stk := rs }, g1, rfl, { size := hs.size, off := hs.off, stk := k4, pts := h1.pts, env := k3, defers := hs.defers, box := h1.box, dom := h1.dom, tok := h1.tok, us := h1.us, lv := h1.lv, ob := h1.ob, keep := h1.keep, old := h1.old, cok := h1.cok }, k2, he⟩
              rw [results_eq, Array.mapM_eq_mapM_toList]
              simp only [Sem.run_bind, run_fmap, k1, Result.andThen_ok, Sem.run_pure]
              rfl
            · cases he
          refine runK_sound hm hΓ hT (inlN_ok hm hΓ hT n) (.inr fun _ => rfl) code 0 hd (loopsI_none _) _ g _ w _ r _ h hs' fun e σ1 g1 a1 w1 he h1 => ?_
          cases e with
          | normal => exact fin σ1 g1 a1 w1 he h1
          | ret => exact fin σ1 g1 a1 w1 he h1
          | exit i => simp at he
        · cases h
      · cases h
    · cases h

/-- A function does what the evaluator says. -/
theorem fn_holds (hm : P.follows .mixedOrders = true) {Γ : TypeId → Option Ty} {T : Tbl} {A : Nat → Option LoopAnn} (hΓ : GamOk P Γ) (hT : TblOk P T) {f : FuncId} {fn : Func} {code : Code} {c : Ctr} (hf : P.funcs[f]? = some fn) (hname : (fn.name == "runtime.NumGoroutine") = false) (hb : fn.body = some code)
    (hn : Nat.ble c.ins.length fn.ntmps = true) (hd : dstsOk fn.ntmps 0 code = true) (hl : LoopsOk P Γ T A (loopsIn code 0)) (hF : ∀ x y, c.F x = some y → fnK P Γ T A fn c x = some y) : Holds P f c := by
  refine ⟨⟨fn, hf, hname, by rw [hb]; rfl⟩, fun x y hxy col w args hcol hargs => ?_⟩
  have hk := hF x y hxy
  unfold fnK at hk
  rw [hb] at hk
  simp only at hk
  refine calls_of_wp hf hb ?_
  have hlen : args.size = c.ins.length := by have := args_len hargs; simpa using this
  have hle : c.ins.length ≤ fn.ntmps := Nat.le_of_ble_eq_true hn
  obtain ⟨nh, hN⟩ := argsN_ex hargs
  let N : Fr := { n := fn.ntmps, b0 := bxOf args.toList, l0 := lnOf args.toList, h0 := hdOf args.toList, n0 := nh }
  let g : Gh := { col, bx := bxOf args.toList, ln := lnOf args.toList, es := esOf c.ins, dom := fun id => ∃ cc, (initAS c x).box id = some cc, tk := fun _ => (0, 0, 0), us := fun _ => False, lv := fun _ => False, ob := fun _ => 0, hd := hdOf args.toList, nh }
  have hall : ∀ (j : Nat) (u : Value), args.toList[j]? = some u → args.toList[0 + j]? = some u := fun j u h => by rw [Nat.zero_add]; exact h
  have hreps : Reps g w (pkIns c.ins x 0) args.toList := ins_rep (g := g) rfl rfl rfl hargs hall fun j hj => inBox_dom ⟨j, hj, rfl⟩
  have hs : Sim N col w (initAS c x) g { tmps := args ++ Array.replicate (fn.ntmps - args.size) undef, defers := [] } w :=
    { size := by show (args ++ Array.replicate (fn.ntmps - args.size) undef).size = fn.ntmps; simp; omega
      off := rfl
      stk := rfl
      pts := fun id _ _ => ⟨rfl, rfl, rfl, rfl⟩
      env := fun i => by
        show Rep g w ((pkIns c.ins x 0).getD i .any) _
        rw [List.getD_eq_getElem?_getD]
        cases hp : (pkIns c.ins x 0)[i]? with
        | none => simp only [Option.getD_none, Rep]
        | some p =>
          obtain ⟨v, hv, hr⟩ := hreps.get i p hp
          have hi : i < args.size := by
            have := (List.getElem?_eq_some_iff.mp hv).1
            simpa using this
          have hget : (args ++ Array.replicate (fn.ntmps - args.size) undef).getD i undef = v := by
            rw [Array.getD_eq_getD_getElem?, Array.getElem?_append_left hi]
            have : args[i]? = some v := by simpa using hv
            rw [this]; rfl
          rw [hget]
          exact hr
      defers := rfl
      box := fun id cc hc => ⟨⟨cc, hc⟩, (inBox_rep (g := g) rfl rfl rfl hargs hall (fun j t hj => by
        show esOf c.ins (pBase + (0 + j)) = _
        simp only [esOf]
        rw [show pBase + (0 + j) - pBase = j by omega, hj]) hN id cc hc).2⟩
      dom := fun id h => h
      tok := fun k h => by simp [initAS] at h
      us := fun k h => h.elim
      lv := fun k h => h.elim
      ob := fun b hb => absurd rfl hb
      keep := Keep.refl col w
      old := fun b _ o => ⟨Iff.rfl, fun id h => h, fun k => hcol.tk b o k⟩
      cok := hcol.bx }
  have fin : ∀ (σ' : AS) (g' : Gh) (a' : Act) (w' : World), finK P fn c σ' = some y → Sim N col w σ' g' a' w' → a'.defers = [] ∧ ∃ v, (results fn a'.tmps).run P w' = .ok v w' ∧ Behind c col w args y (.returned v) w' := by
    intro σ' g' a' w' hfin hs'
    refine ⟨hs'.defers, ?_⟩
    unfold finK at hfin
    cases hpt : c.ptr with
    | true =>
      rw [hpt] at hfin
      simp only [cond_true] at hfin
      split at hfin
      · rename_i y1 h1
        split at hfin
        · rename_i y2 h2
          simp only [Option.some.injEq] at hfin
          subst hfin
          obtain ⟨u, r, h3, h4⟩ := ptr_run hs' hcol h1
          refine ⟨u, ?_, u, colP w g' r, rfl, hs'.keep, fun b hbk o => ?_, by unfold OutIs; rw [if_pos hpt]; exact h4, ?_⟩
          · rw [results_eq, Array.mapM_eq_mapM_toList]
            simp only [Sem.run_bind, run_fmap, h3, Result.andThen_ok, Sem.run_pure]
            simp
          · unfold colP
            rw [if_neg (by omega)]
            exact (hs'.old b hbk o).1
          · exact pts_rep' (all := args.toList) hs' h2 hargs hall ⟨rfl, rfl, rfl⟩ hN (.inl (stays_colP w g' r w'))
        · cases hfin
      · cases hfin
    | false =>
    rw [hpt] at hfin
    simp only [cond_false] at hfin
    have hnp : ¬ (c.ptr = true) := by rw [hpt]; simp
    cases hf0 : Nat.beq c.fr 0 with
    | true =>
      rw [hf0] at hfin
      simp only [cond_true] at hfin
      have hz : c.fr = 0 := Nat.eq_of_beq_eq_true hf0
      split at hfin
      · rename_i y1 h1
        split at hfin
        · rename_i y2 h2
          simp only [Option.some.injEq] at hfin
          subst hfin
          obtain ⟨us, h3, h4⟩ := outs_run hs' hcol h1
          refine ⟨_, ?_, _, colE w g', rfl, hs'.keep, fun b hbk o => ?_, by unfold OutIs; rw [if_neg hnp, hz]; exact ⟨us, h4, rfl⟩, pts_rep' (all := args.toList) hs' h2 hargs hall ⟨rfl, rfl, rfl⟩ hN (.inl (stays_colE w g' w'))⟩
          · rw [results_eq, Array.mapM_eq_mapM_toList]
            simp only [Sem.run_bind, run_fmap, h3, Result.andThen_ok, Sem.run_pure]
          · unfold colE
            rw [if_neg (by omega)]
            exact (hs'.old b hbk o).1
        · cases hfin
      · cases hfin
    | false =>
      rw [hf0] at hfin
      simp only [cond_false] at hfin
      have hnz : c.fr ≠ 0 := fun e => by rw [e] at hf0; cases hf0
      split at hfin
      · rename_i y1 h1
        split at hfin
        · rename_i y2 h2
          simp only [Option.some.injEq] at hfin
          subst hfin
          unfold unFresh at h1
          split at h1
          · rename_i hh
            simp only [Bool.and_eq_true, Bool.or_eq_true, Bool.not_eq_true'] at hh
            obtain ⟨hfl, hnd, hpf⟩ := hh
            obtain ⟨us, h3, h4, h5⟩ := frs_run (j := 0) hs' hcol hnd (frOk_all hfl) h1 fun i c hi => by rw [Nat.zero_add]; exact hi
            refine ⟨tupV us, ?_, tupV us, colF w g' c.fr (namesR P σ' fn.results.toList), rfl, hs'.keep, fun b hbk o => ?_, ?_, pts_rep' (all := args.toList) hs' h2 hargs hall ⟨rfl, rfl, rfl⟩ hN ?_⟩
            · rw [results_eq, Array.mapM_eq_mapM_toList]
              simp only [Sem.run_bind, run_fmap, h3, Result.andThen_ok, Sem.run_pure]
              rfl
            · unfold colF
              rw [if_neg (by omega)]
              exact (hs'.old b hbk o).1
            · unfold OutIs
              rw [if_neg hnp]
              split
              · rename_i e; exact absurd e hnz
              · rename_i e; exact ⟨us, h4 e, rfl⟩
              · rename_i _ e; exact ⟨us, _, h5 e, rfl⟩
            · rcases hpf with hpf | hpf
              · exact .inl (stays_colF w g' (fun e => by rw [e] at hpf; cases hpf) _ w')
              · exact .inr hpf
          · cases h1
        · cases hfin
      · cases hfin
  refine runK_sound hm hΓ hT (inlN_ok hm hΓ hT 3) (.inl ⟨rfl, rfl⟩) code 0 hd (loopsI_of hl) (initAS c x) g _ w _ y _ hk hs fun e σ' g' a' w' he hs' => ?_
  cases e with
  | normal => exact fin σ' g' a' w' he hs'
  | ret => exact fin σ' g' a' w' he hs'
  | exit i => simp at he

end
end Go.VE
