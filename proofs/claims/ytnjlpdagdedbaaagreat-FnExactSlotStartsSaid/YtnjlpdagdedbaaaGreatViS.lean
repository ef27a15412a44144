import Derived.Test.YtnjlpdagdedbaaaGreatViR
/- A loop's shape: the state that it tells of. -/
namespace Go.VE

section
variable {P : Program} {Γ : TypeId → Option Ty} {T : Tbl} {N : Fr} {c0 : Nat → Nat → Col} {w0 : World} {σ : AS} {g : Gh} {a : Act} {w : World}

/-- What may be appended into: its new name, where it lies, its old name. -/
abbrev En := Nat × (Nat × Nat × Nat) × Option Nat

def GoodE (σ : AS) (g : Gh) (e : En) : Prop := (∀ k', e.2.2 = some k' → σ.live k' = 1 ∧ e.2.1 = g.tk k') ∧ (e.2.2 = none → e.2.1.2.1 = e.2.1.2.2)

structure Fit (g g' : Gh) (w : World) (ids : List Nat) (L : List En) : Prop where
  st : Stays g.col w g'.col w
  bc : ∀ b o id, g.col b o = .bx id → g'.col b o = .bx id
  bx : g'.bx = g.bx
  ln : g'.ln = g.ln
  es : g'.es = g.es
  hd : g'.hd = g.hd
  nh : g'.nh = g.nh
  dom : ∀ id, id ∈ ids → g'.dom id
  tk : ∀ e ∈ L, g'.tk e.1 = e.2.1 ∧ g'.us e.1
  ob : ∀ e ∈ L, ∀ k', e.2.2 = some k' → ∀ b, g.ob b = k' + 1 → g'.ob b = e.1 + 1

theorem Fit.left {g g' : Gh} {ids : List Nat} {L1 L2 : List En} (h : Fit g g' w ids (L1 ++ L2)) : Fit g g' w ids L1 := { h with tk := fun e he => h.tk e (List.mem_append_left _ he), ob := fun e he => h.ob e (List.mem_append_left _ he) }
theorem Fit.right {g g' : Gh} {ids : List Nat} {L1 L2 : List En} (h : Fit g g' w ids (L1 ++ L2)) : Fit g g' w ids L2 := { h with tk := fun e he => h.tk e (List.mem_append_right _ he), ob := fun e he => h.ob e (List.mem_append_right _ he) }

theorem any_beq {l : List Nat} {id : Nat} (h : l.any (Nat.beq id) = true) : id ∈ l := by
  obtain ⟨x, hx, he⟩ := List.any_eq_true.mp h
  rw [Nat.eq_of_beq_eq_true he]; exact hx

theorem rfs_fit {g' : Gh} (hst : Stays g.col w g'.col w) : ∀ {ts : List Ty} {ps : List PV} {x : TysT ts} {vs : List Value}, unRfs ts ps = some x → Reps g w ps vs → Reps g' w (pkRfs ts x) vs
  | [], [], x, vs, _, hr => by simp only [Reps] at hr; simp only [pkRfs, Reps]; exact hr
  | [], p :: ps, x, vs, h, _ => by simp [unRfs] at h
  | t :: r, [], x, vs, h, _ => by simp [unRfs] at h
  | t :: r, p :: ps, x, vs, h, hr => by
    cases p <;> simp only [unRfs] at h <;> try cases h
    rename_i cs
    split at h
    · rename_i x1 h1
      split at h
      · rename_i x2 h2
        simp only [Option.some.injEq] at h; subst h
        simp only [Reps, Rep] at hr
        obtain ⟨u, us, rfl, ⟨b, o, vs', rfl, h3, h4⟩, h5⟩ := hr
        simp only [pkRfs, Reps, Rep]
        exact ⟨_, us, rfl, ⟨b, o, vs', rfl, reps_pk (RepT.mono hst _ _ _ (unA_rep h1 h3)), h4.mono hst⟩, rfs_fit hst h2 h5⟩
      · cases h
    · cases h

theorem slot_fit (hs : Sim N c0 w0 σ g a w) {s : Slot} {p : PV} {x : s.T} {v : Value} (h : unSlot σ.live s p = some x) (hr : Rep g w p v) :
    ∃ L : List En, L.map (·.1) = nameS s ∧ L.filterMap (·.2.2) = srcS s p ∧ (∀ e ∈ L, GoodE σ g e) ∧ ∀ g' ids, Fit g g' w ids L → boxS ids s = true → Rep g' w (pkSlot s x) v := by
  cases s with
  | v t =>
    refine ⟨[], rfl, by cases p <;> rfl, by simp, fun g' ids hf _ => ?_⟩
    simp only [unSlot] at h
    obtain ⟨us, h1, rfl⟩ := unV_rep h hr
    exact rep_mk (RepT.mono hf.st _ _ _ h1)
  | rf t =>
    refine ⟨[], rfl, by cases p <;> rfl, by simp, fun g' ids hf _ => ?_⟩
    cases p <;> simp only [unSlot] at h <;> try cases h
    simp only [Rep] at hr
    obtain ⟨b, o, us, rfl, h2, h3⟩ := hr
    simp only [pkSlot, Rep]
    exact ⟨b, o, us, rfl, reps_pk (RepT.mono hf.st _ _ _ (unA_rep h h2)), h3.mono hf.st⟩
  | ms id =>
    refine ⟨[], rfl, by cases p <;> rfl, by simp, fun g' ids hf hb => ?_⟩
    cases p <;> simp only [unSlot] at h <;> try cases h
    split at h
    · rename_i id' hbq
      obtain rfl := Nat.eq_of_beq_eq_true hbq
      simp only [Rep] at hr
      simp only [pkSlot, Rep]
      exact ⟨hf.dom _ (any_beq hb), by rw [hf.hd, hf.ln]; exact hr.2⟩
    · cases h
  | bx id off =>
    refine ⟨[], rfl, by cases p <;> rfl, by simp, fun g' ids hf hb => ?_⟩
    cases p <;> simp only [unSlot] at h <;> try cases h
    split at h
    · rename_i id' off' hbq
      simp only [Bool.and_eq_true] at hbq
      obtain rfl := Nat.eq_of_beq_eq_true hbq.1
      obtain rfl := Nat.eq_of_beq_eq_true hbq.2
      simp only [Rep] at hr
      simp only [pkSlot, Rep]
      exact ⟨hf.dom _ (any_beq hb), by rw [hf.bx]; exact hr.2⟩
    · cases h
  | clo f ts =>
    refine ⟨[], rfl, by cases p <;> rfl, by simp, fun g' ids hf hb => ?_⟩
    cases p <;> simp only [unSlot] at h <;> try cases h
    split at h
    · rename_i f' cap hbq
      obtain rfl := Nat.eq_of_beq_eq_true hbq
      simp only [Rep] at hr
      obtain ⟨vs, rfl, h2⟩ := hr
      simp only [pkSlot, Rep]
      exact ⟨vs, rfl, rfs_fit hf.st h h2⟩
    · cases h
  | ext t k =>
    cases p <;> simp only [unSlot] at h <;> try cases h
    · -- nils
      refine ⟨[(k, (0, 0, 0), none)], rfl, rfl, by simp [GoodE], fun g' ids hf _ => ?_⟩
      simp only [Rep] at hr
      subst hr
      simp only [pkSlot, Rep]
      refine ⟨none, 0, rfl, nils_rep t, ?_⟩
      exact ⟨(hf.tk _ (List.mem_singleton.mpr rfl)).2, fun _ ad had => by cases had⟩
    · rename_i t' l tk
      cases tk with
      | no => simp only at h; cases h
      | tight =>
        simp only [slV] at h
        split at h
        · rename_i hb
          simp only [Option.some.injEq] at h
          obtain rfl := Ty.eq_of_beq hb
          simp only [castT] at h
          subst h
          simp only [Rep] at hr
          obtain ⟨ad, cap, rfl, h2, h3⟩ := hr
          simp only [TkC] at h3
          obtain ⟨h3, h3s⟩ := h3
          subst h3
          refine ⟨[(k, (match (generalizing := false) ad with | some ad => (ad.block, ad.off + l.len * t'.size, ad.off + l.len * t'.size) | none => (0, 0, 0)), none)], rfl, rfl, ?_, fun g' ids hf _ => ?_⟩
          · intro e he
            simp only [List.mem_cons, List.not_mem_nil, or_false] at he
            subst he
            refine ⟨fun k' hk => (by cases hk), fun _ => ?_⟩
            cases ad <;> rfl
          · simp only [pkSlot, Rep]
            refine ⟨ad, l.len, rfl, RepT.mono hf.st _ _ _ h2, (hf.tk _ (List.mem_singleton.mpr rfl)).2, fun _ ad' had => ?_⟩
            subst had
            exact ⟨h3s _ rfl, fun _ => (hf.tk _ (List.mem_singleton.mpr rfl)).1⟩
        · cases h
      | tok k' =>
        simp only at h
        split at h
        · rename_i hlv
          have hlv1 : σ.live k' = 1 := Nat.eq_of_beq_eq_true hlv
          simp only [slV] at h
          split at h
          · rename_i hb
            simp only [Option.some.injEq] at h
            obtain rfl := Ty.eq_of_beq hb
            simp only [castT] at h
            subst h
            simp only [Rep] at hr
            obtain ⟨ad, cap, rfl, h2, h3⟩ := hr
            simp only [TkC] at h3
            refine ⟨[(k, g.tk k', some k')], rfl, rfl, ?_, fun g' ids hf _ => ?_⟩
            · intro e he
              simp only [List.mem_cons, List.not_mem_nil, or_false] at he
              subst he
              refine ⟨fun k'' hk => ?_, fun hk => (by cases hk)⟩
              simp only [Option.some.injEq] at hk
              subst hk
              exact ⟨hlv1, rfl⟩
            · simp only [pkSlot, Rep]
              refine ⟨ad, cap, rfl, RepT.mono hf.st _ _ _ h2, (hf.tk _ (List.mem_singleton.mpr rfl)).2, fun _ ad' had => ?_⟩
              rw [(hf.tk _ (List.mem_singleton.mpr (rfl : (k, g.tk k', some k') = _))).1]
              exact h3.2 (hs.tok k' hlv1).1 ad' had
          · cases h
        · cases h
      | own k' =>
        simp only at h
        split at h
        · rename_i hlv
          have hlv1 : σ.live k' = 1 := Nat.eq_of_beq_eq_true hlv
          simp only [slV] at h
          split at h
          · rename_i hb
            simp only [Option.some.injEq] at h
            obtain rfl := Ty.eq_of_beq hb
            simp only [castT] at h
            subst h
            simp only [Rep] at hr
            obtain ⟨ad, cap, rfl, h2, h3⟩ := hr
            simp only [TkC] at h3
            replace h3 := h3.1
            refine ⟨[(k, g.tk k', some k')], rfl, rfl, ?_, fun g' ids hf _ => ?_⟩
            · intro e he
              simp only [List.mem_cons, List.not_mem_nil, or_false] at he
              subst he
              refine ⟨fun k'' hk => ?_, fun hk => (by cases hk)⟩
              simp only [Option.some.injEq] at hk
              subst hk
              exact ⟨hlv1, rfl⟩
            · simp only [pkSlot, Rep]
              refine ⟨ad, cap, rfl, RepT.mono hf.st _ _ _ h2, (hf.tk _ (List.mem_singleton.mpr rfl)).2, fun _ ad' had => ?_⟩
              rw [(hf.tk _ (List.mem_singleton.mpr (rfl : (k, g.tk k', some k') = _))).1]
              exact h3.2 (hs.tok k' hlv1).1 ad' had
          · cases h
        · cases h
  | exo t k =>
    cases p <;> simp only [unSlot] at h <;> try cases h
    · -- nils
      refine ⟨[(k, (0, 0, 0), none)], rfl, rfl, by simp [GoodE], fun g' ids hf _ => ?_⟩
      simp only [Rep] at hr
      subst hr
      simp only [pkSlot, Rep]
      refine ⟨none, 0, rfl, nils_rep t, ?_⟩
      exact ⟨⟨(hf.tk _ (List.mem_singleton.mpr rfl)).2, fun _ ad had => by cases had⟩, fun _ ad had => by cases had⟩
    · rename_i t' l tk
      cases tk with
      | no => simp only at h; cases h
      | tok k' => simp only at h; cases h
      | tight =>
        simp only at h
        split at h
        · rename_i hl0
          have hl0 : l.len = 0 := Nat.eq_of_beq_eq_true hl0
          simp only [slV] at h
          split at h
          · rename_i hb
            simp only [Option.some.injEq] at h
            obtain rfl := Ty.eq_of_beq hb
            simp only [castT] at h
            subst h
            simp only [Rep] at hr
            obtain ⟨ad, cap, rfl, h2, h3⟩ := hr
            simp only [TkC] at h3
            obtain ⟨h3, h3s⟩ := h3
            subst h3
            refine ⟨[(k, (0, 0, 0), none)], rfl, rfl, by simp [GoodE], fun g' ids hf _ => ?_⟩
            simp only [pkSlot, Rep]
            refine ⟨ad, l.len, rfl, RepT.mono hf.st _ _ _ h2, ⟨(hf.tk _ (List.mem_singleton.mpr rfl)).2, fun _ ad' had => ?_⟩, fun _ ad' had => .inl (by rw [hl0]; simp)⟩
            exact ⟨h3s _ had, fun hlt => by omega⟩
          · cases h
        · cases h
      | own k' =>
        simp only at h
        split at h
        · rename_i hlv
          have hlv1 : σ.live k' = 1 := Nat.eq_of_beq_eq_true hlv
          simp only [slV] at h
          split at h
          · rename_i hb
            simp only [Option.some.injEq] at h
            obtain rfl := Ty.eq_of_beq hb
            simp only [castT] at h
            subst h
            simp only [Rep] at hr
            obtain ⟨ad, cap, rfl, h2, h3⟩ := hr
            simp only [TkC] at h3
            refine ⟨[(k, g.tk k', some k')], rfl, rfl, ?_, fun g' ids hf _ => ?_⟩
            · intro e he
              simp only [List.mem_cons, List.not_mem_nil, or_false] at he
              subst he
              refine ⟨fun k'' hk => ?_, fun hk => (by cases hk)⟩
              simp only [Option.some.injEq] at hk
              subst hk
              exact ⟨hlv1, rfl⟩
            · simp only [pkSlot, Rep]
              refine ⟨ad, cap, rfl, RepT.mono hf.st _ _ _ h2, ⟨(hf.tk _ (List.mem_singleton.mpr rfl)).2, fun _ ad' had => ?_⟩, fun _ ad' had => (h3.2 (hs.tok k' hlv1).1 ad' had).imp_right (hf.ob _ (List.mem_singleton.mpr rfl) k' rfl _)⟩
              rw [(hf.tk _ (List.mem_singleton.mpr (rfl : (k, g.tk k', some k') = _))).1]
              exact h3.1.2 (hs.tok k' hlv1).1 ad' had
          · cases h
        · cases h

theorem cells_fit (hs : Sim N c0 w0 σ g a w) : ∀ {ss : List Slot} {ps : List PV} {x : CellsT ss} {vs : List Value}, unCells σ.live ss ps = some x → Reps g w ps vs →
    ∃ L : List En, L.map (·.1) = ss.flatMap nameS ∧ L.filterMap (·.2.2) = srcC ss ps ∧ (∀ e ∈ L, GoodE σ g e) ∧ ∀ g' ids, Fit g g' w ids L → ss.all (boxS ids) = true → Reps g' w (pkCells ss x) vs
  | [], [], x, vs, h, hr => ⟨[], rfl, rfl, by simp, fun g' ids _ _ => by simp only [Reps] at hr; simp only [pkCells, Reps]; exact hr⟩
  | [], p :: ps, x, vs, h, hr => by simp [unCells] at h
  | s :: r, [], x, vs, h, hr => by simp [unCells] at h
  | s :: r, p :: ps, x, vs, h, hr => by
    simp only [unCells] at h
    split at h
    · rename_i x1 h1
      split at h
      · rename_i x2 h2
        simp only [Option.some.injEq] at h; subst h
        simp only [Reps] at hr
        obtain ⟨u, us, rfl, hr1, hr2⟩ := hr
        obtain ⟨L1, e1, e2, e3, e4⟩ := slot_fit hs h1 hr1
        obtain ⟨L2, f1, f2, f3, f4⟩ := cells_fit hs h2 hr2
        refine ⟨L1 ++ L2, by simp [e1, f1], by simp [e2, f2, srcC], fun e he => (List.mem_append.mp he).elim (e3 e) (f3 e), fun g' ids hf hb => ?_⟩
        simp only [List.all_cons, Bool.and_eq_true] at hb
        simp only [pkCells, Reps]
        exact ⟨u, us, rfl, e4 g' ids hf.left hb.1, f4 g' ids hf.right hb.2⟩
      · cases h
    · cases h

theorem slots_fit (hs : Sim N c0 w0 σ g a w) : ∀ {ss : List (Nat × Slot)} {x : SlotsT ss}, unSlots σ.env σ.live ss = some x →
    ∃ L : List En, L.map (·.1) = ss.flatMap (fun p => nameS p.2) ∧ L.filterMap (·.2.2) = srcL σ.env ss ∧ (∀ e ∈ L, GoodE σ g e) ∧ ∀ g' ids, Fit g g' w ids L → (ss.all fun p => boxS ids p.2) = true → ∀ i, Rep g' w (pkSlots ss x i) (a.tmps.getD i undef)
  | [], x, h => ⟨[], rfl, rfl, by simp, fun g' ids _ _ i => by simp only [pkSlots, Rep]⟩
  | (j, s) :: r, x, h => by
    simp only [unSlots] at h
    split at h
    · rename_i x1 h1
      split at h
      · rename_i x2 h2
        simp only [Option.some.injEq] at h; subst h
        obtain ⟨L1, e1, e2, e3, e4⟩ := slot_fit hs h1 (hs.env j)
        obtain ⟨L2, f1, f2, f3, f4⟩ := slots_fit hs h2
        refine ⟨L1 ++ L2, by simp [e1, f1], by simp [e2, f2, srcL], fun e he => (List.mem_append.mp he).elim (e3 e) (f3 e), fun g' ids hf hb i => ?_⟩
        simp only [List.all_cons, Bool.and_eq_true] at hb
        simp only [pkSlots]
        cases hq : Nat.beq i j with
        | true =>
          obtain rfl := Nat.eq_of_beq_eq_true hq
          exact e4 g' ids hf.left hb.1
        | false => exact f4 g' ids hf.right hb.2 i
      · cases h
    · cases h

def nameB (p : Nat × BSlot) : List Nat := match p.2 with | .cells ss => ss.flatMap nameS | .arr _ => [] | .typ _ => [] | .mix _ => []

theorem boxAt_fit {g' : Gh} {ids : List Nat} {L : List En} (hf : Fit g g' w ids L) {id o : Nat} {us : List Value} (h : BoxAt g w id o us) : BoxAt g' w id o us := by
  intro j v hj
  obtain ⟨h1, h2, h3⟩ := h j v hj
  rw [hf.bx]
  exact ⟨hf.bc _ _ _ h1, h2, h3⟩

theorem boxes_fit (hs : Sim N c0 w0 σ g a w) : ∀ {bs : List (Nat × BSlot)} {y : BoxesT bs}, unBoxes σ.box σ.live bs = some y →
    ∃ L : List En, L.map (·.1) = bs.flatMap nameB ∧ L.filterMap (·.2.2) = srcB σ.box bs ∧ (∀ e ∈ L, GoodE σ g e) ∧ ∀ g' ids, Fit g g' w ids L → (bs.all fun p => match p.2 with | .cells ss => ss.all (boxS ids) | .arr _ => true | .typ _ => true | .mix _ => true) = true → ∀ id c, pkBoxes bs y id = some c → BoxRep g' w id c
  | [], y, h => ⟨[], rfl, rfl, by simp, fun g' ids _ _ id c hc => by simp [pkBoxes] at hc⟩
  | (i, .cells ss) :: r, y, h => by
    simp only [unBoxes] at h
    split at h
    · rename_i cs hbx
      split at h
      · rename_i x1 h1
        split at h
        · rename_i x2 h2
          simp only [Option.some.injEq] at h; subst h
          obtain ⟨_, us, hr1, hr2⟩ := hs.box i _ hbx
          obtain ⟨L1, e1, e2, e3, e4⟩ := cells_fit hs h1 hr1
          obtain ⟨L2, f1, f2, f3, f4⟩ := boxes_fit hs h2
          refine ⟨L1 ++ L2, by simp [e1, f1, nameB], by simp [e2, f2, srcB, hbx], fun e he => (List.mem_append.mp he).elim (e3 e) (f3 e), fun g' ids hf hb id c hc => ?_⟩
          simp only [List.all_cons, Bool.and_eq_true] at hb
          simp only [pkBoxes] at hc
          cases hq : Nat.beq id i with
          | true =>
            obtain rfl := Nat.eq_of_beq_eq_true hq
            rw [hq] at hc
            simp only [cond_true, Option.some.injEq] at hc
            subst hc
            refine ⟨us, e4 g' ids hf.left hb.1, ?_⟩
            rw [hf.bx]
            exact boxAt_fit hf hr2
          | false =>
            rw [hq] at hc
            exact f4 g' ids hf.right hb.2 id c hc
        · cases h
      · cases h
    · cases h
  | (i, .arr t) :: r, y, h => by
    simp only [unBoxes] at h
    split at h
    · rename_i t' l hbx
      split at h
      · rename_i hb0
        split at h
        · rename_i x2 h2
          simp only [Option.some.injEq] at h; subst h
          obtain ⟨_, hr1, hr2, hr3⟩ := hs.box i _ hbx
          obtain ⟨L2, f1, f2, f3, f4⟩ := boxes_fit hs h2
          refine ⟨L2, by simp [f1, nameB], by simp [f2, srcB], f3, fun g' ids hf hb id c hc => ?_⟩
          simp only [List.all_cons, Bool.and_eq_true] at hb
          simp only [pkBoxes] at hc
          cases hq : Nat.beq id i with
          | true =>
            obtain rfl := Nat.eq_of_beq_eq_true hq
            rw [hq] at hc
            simp only [cond_true, Option.some.injEq] at hc
            subst hc
            obtain rfl := Ty.eq_of_beq hb0
            simp only [castT]
            refine ⟨by rw [hf.ln]; exact hr1, by rw [hf.es, hf.hd, hf.bx]; exact hr2, fun j hj => ?_⟩
            obtain ⟨us, k1, k2⟩ := hr3 j hj
            refine ⟨us, RepT.mono hf.st _ _ _ k1, ?_⟩
            rw [hf.bx]
            exact boxAt_fit hf k2
          | false =>
            rw [hq] at hc
            exact f4 g' ids hf hb.2 id c hc
        · cases h
      · cases h
    · cases h
  | (i, .mix t) :: r, y, h => by
    simp only [unBoxes] at h
    split at h
    · rename_i t' l hbx
      split at h
      · rename_i hb0
        split at h
        · rename_i x2 h2
          simp only [Option.some.injEq] at h; subst h
          obtain ⟨_, hr1, hr2, hr3, pa, hr4⟩ := hs.box i _ hbx
          obtain ⟨L2, f1, f2, f3, f4⟩ := boxes_fit hs h2
          refine ⟨L2, by simp [f1, nameB], by simp [f2, srcB], f3, fun g' ids hf hb id c hc => ?_⟩
          simp only [List.all_cons, Bool.and_eq_true] at hb
          simp only [pkBoxes] at hc
          cases hq : Nat.beq id i with
          | true =>
            obtain rfl := Nat.eq_of_beq_eq_true hq
            rw [hq] at hc
            simp only [cond_true, Option.some.injEq] at hc
            subst hc
            obtain rfl := Ty.eq_of_beq hb0
            simp only [castT]
            refine ⟨by rw [hf.ln]; exact hr1, by rw [hf.es, hf.hd, hf.bx]; exact hr2, hr3, pa, ?_⟩
            rw [hf.bx]
            exact TreeAt.mono hf.st (by rw [hf.nh]) (fun b o v a1 a2 a3 => ⟨hf.bc _ _ _ a1, a2, a3⟩) hr4
          | false =>
            rw [hq] at hc
            exact f4 g' ids hf hb.2 id c hc
        · cases h
      · cases h
    · cases h
  | (i, .typ t) :: r, y, h => by
    simp only [unBoxes] at h
    split at h
    · rename_i cs hbx
      split at h
      · rename_i x1 h1
        split at h
        · rename_i x2 h2
          simp only [Option.some.injEq] at h; subst h
          obtain ⟨_, us, hr1, hr2⟩ := hs.box i _ hbx
          obtain ⟨L2, f1, f2, f3, f4⟩ := boxes_fit hs h2
          refine ⟨L2, by simp [f1, nameB], by simp [f2, srcB], f3, fun g' ids hf hb id c hc => ?_⟩
          simp only [List.all_cons, Bool.and_eq_true] at hb
          simp only [pkBoxes] at hc
          cases hq : Nat.beq id i with
          | true =>
            obtain rfl := Nat.eq_of_beq_eq_true hq
            rw [hq] at hc
            simp only [cond_true, Option.some.injEq] at hc
            subst hc
            refine ⟨us, reps_pk (RepT.mono hf.st _ _ _ (unA_rep h1 hr1)), ?_⟩
            rw [hf.bx]
            exact boxAt_fit hf hr2
          | false =>
            rw [hq] at hc
            exact f4 g' ids hf hb.2 id c hc
        · cases h
      · cases h
    · cases h

theorem find_name {L : List En} (hn : (L.map (·.1)).Nodup) {e : En} (he : e ∈ L) : L.find? (fun e' => Nat.beq e'.1 e.1) = some e := by
  induction L with
  | nil => simp at he
  | cons a r ih =>
    simp only [List.map_cons, List.nodup_cons] at hn
    simp only [List.find?_cons]
    rcases List.mem_cons.mp he with rfl | h
    · simp
    · have : Nat.beq a.1 e.1 = false := by
        cases hb : Nat.beq a.1 e.1 with
        | false => rfl
        | true => exact absurd (List.mem_map.mpr ⟨e, h, (Nat.eq_of_beq_eq_true hb).symm⟩) hn.1
      rw [this]
      exact ih hn.2 h

theorem find_src {L : List En} (hn : (L.filterMap (·.2.2)).Nodup) {e : En} (he : e ∈ L) {k : Nat} (hk : e.2.2 = some k) : L.find? (fun e' => e'.2.2 == some k) = some e := by
  induction L with
  | nil => simp at he
  | cons a r ih =>
    simp only [List.find?_cons]
    rcases List.mem_cons.mp he with rfl | h
    · simp [hk]
    · have hmr : k ∈ r.filterMap (·.2.2) := List.mem_filterMap.mpr ⟨e, h, hk⟩
      have : (a.2.2 == some k) = false := by
        cases hb : a.2.2 == some k with
        | false => rfl
        | true =>
          have ha : a.2.2 = some k := by simpa using hb
          rw [List.filterMap_cons, ha] at hn
          exact absurd hmr (List.nodup_cons.mp hn).1
      rw [this]
      refine ih ?_ h
      rw [List.filterMap_cons] at hn
      split at hn
      · exact hn
      · exact (List.nodup_cons.mp hn).2

/-- The ghost of a shape. -/
def ghSh (g : Gh) (L : List En) (dom : Nat → Prop) : Gh :=
  { g with
    col := fun b o => match g.col b o with
      | .tk k' => (match L.find? (fun e' => e'.2.2 == some k') with | some e => .tk e.1 | none => .free)
      | c => c
    dom
    tk := fun k => match L.find? (fun e' => Nat.beq e'.1 k) with | some e => e.2.1 | none => (0, 0, 0)
    us := fun k => k ∈ L.map (·.1)
    lv := fun k => k ∈ L.map (·.1)
    ob := fun b => match g.ob b with | 0 => 0 | k' + 1 => (match L.find? (fun e' => e'.2.2 == some k') with | some e => e.1 + 1 | none => 0) }

theorem pkBoxes_dom : ∀ {bs : List (Nat × BSlot)} {y : BoxesT bs} {id : Nat}, id ∈ bs.map (·.1) → ∃ c, pkBoxes bs y id = some c
  | [], y, id, h => by simp at h
  | (i, .cells ss) :: r, y, id, h => by
    simp only [pkBoxes]
    cases hq : Nat.beq id i with
    | true => exact ⟨_, rfl⟩
    | false =>
      simp only [cond_false]
      simp only [List.map_cons, List.mem_cons] at h
      rcases h with rfl | h
      · simp at hq
      · exact pkBoxes_dom h
  | (i, .arr t) :: r, y, id, h => by
    simp only [pkBoxes]
    cases hq : Nat.beq id i with
    | true => exact ⟨_, rfl⟩
    | false =>
      simp only [cond_false]
      simp only [List.map_cons, List.mem_cons] at h
      rcases h with rfl | h
      · simp at hq
      · exact pkBoxes_dom h
  | (i, .mix t) :: r, y, id, h => by
    simp only [pkBoxes]
    cases hq : Nat.beq id i with
    | true => exact ⟨_, rfl⟩
    | false =>
      simp only [cond_false]
      simp only [List.map_cons, List.mem_cons] at h
      rcases h with rfl | h
      · simp at hq
      · exact pkBoxes_dom h
  | (i, .typ t) :: r, y, id, h => by
    simp only [pkBoxes]
    cases hq : Nat.beq id i with
    | true => exact ⟨_, rfl⟩
    | false =>
      simp only [cond_false]
      simp only [List.map_cons, List.mem_cons] at h
      rcases h with rfl | h
      · simp at hq
      · exact pkBoxes_dom h

theorem unBoxes_dom {box : Nat → Option BoxC} {live : Nat → Nat} : ∀ {bs : List (Nat × BSlot)} {y : BoxesT bs} {id : Nat} {c : BoxC}, unBoxes box live bs = some y → pkBoxes bs y id = some c → ∃ c', box id = some c'
  | [], y, id, c, _, h => by simp [pkBoxes] at h
  | (i, .cells ss) :: r, y, id, c, h, hp => by
    simp only [unBoxes] at h
    split at h
    · rename_i cs hbx
      split at h
      · rename_i x1 h1
        split at h
        · rename_i x2 h2
          simp only [Option.some.injEq] at h; subst h
          simp only [pkBoxes] at hp
          cases hq : Nat.beq id i with
          | true => obtain rfl := Nat.eq_of_beq_eq_true hq; exact ⟨_, hbx⟩
          | false => rw [hq] at hp; exact unBoxes_dom h2 hp
        · cases h
      · cases h
    · cases h
  | (i, .arr t) :: r, y, id, c, h, hp => by
    simp only [unBoxes] at h
    split at h
    · rename_i t' l hbx
      split at h
      · rename_i hb0
        split at h
        · rename_i x2 h2
          simp only [Option.some.injEq] at h; subst h
          simp only [pkBoxes] at hp
          cases hq : Nat.beq id i with
          | true => obtain rfl := Nat.eq_of_beq_eq_true hq; exact ⟨_, hbx⟩
          | false => rw [hq] at hp; exact unBoxes_dom h2 hp
        · cases h
      · cases h
    · cases h
  | (i, .mix t) :: r, y, id, c, h, hp => by
    simp only [unBoxes] at h
    split at h
    · rename_i t' l hbx
      split at h
      · rename_i hb0
        split at h
        · rename_i x2 h2
          simp only [Option.some.injEq] at h; subst h
          simp only [pkBoxes] at hp
          cases hq : Nat.beq id i with
          | true => obtain rfl := Nat.eq_of_beq_eq_true hq; exact ⟨_, hbx⟩
          | false => rw [hq] at hp; exact unBoxes_dom h2 hp
        · cases h
      · cases h
    · cases h
  | (i, .typ t) :: r, y, id, c, h, hp => by
    simp only [unBoxes] at h
    split at h
    · rename_i cs hbx
      split at h
      · rename_i x1 h1
        split at h
        · rename_i x2 h2
          simp only [Option.some.injEq] at h; subst h
          simp only [pkBoxes] at hp
          cases hq : Nat.beq id i with
          | true => obtain rfl := Nat.eq_of_beq_eq_true hq; exact ⟨_, hbx⟩
          | false => rw [hq] at hp; exact unBoxes_dom h2 hp
        · cases h
      · cases h
    · cases h

theorem sim_pkSh (hz : N.z = 0 ∧ N.stk = []) (hs : Sim N c0 w0 σ g a w) {sh : Shape} {x : sh.T} (h : unSh sh σ = some x) : ∃ g', Sim N c0 w0 (pkSh sh x) g' a w := by
  unfold unSh at h
  split at h
  · rename_i x1 h1
    split at h
    · rename_i x2 h2
      split at h
      · rename_i hb
        simp only [Option.some.injEq] at h; subst h
        simp only [Bool.and_eq_true] at hb
        obtain ⟨hcl, _, hsrc, hnm⟩ := hb
        have hsrc := nodup_of hsrc
        have hnm := nodup_of hnm
        unfold Shape.closed at hcl
        simp only [Bool.and_eq_true] at hcl
        obtain ⟨L1, e1, e2, e3, e4⟩ := slots_fit hs h1
        obtain ⟨L2, f1, f2, f3, f4⟩ := boxes_fit hs h2
        have hname : (L1 ++ L2).map (·.1) = sh.names := by
          rw [List.map_append, e1, f1]; rfl
        have hn1 : ((L1 ++ L2).map (·.1)).Nodup := by rw [hname]; exact hnm
        have hn2 : ((L1 ++ L2).filterMap (·.2.2)).Nodup := by rw [List.filterMap_append, e2, f2]; exact hsrc
        have hgood : ∀ e ∈ L1 ++ L2, GoodE σ g e := fun e he => (List.mem_append.mp he).elim (e3 e) (f3 e)
        have hfit : Fit g (ghSh g (L1 ++ L2) (fun id => ∃ c, (pkSh sh (x1, x2)).box id = some c)) w (sh.boxes.map (·.1)) (L1 ++ L2) :=
          { st := ⟨fun b o v hc hw => ⟨by simp only [ghSh, hc], hw⟩⟩
            bc := fun b o id hc => by simp only [ghSh, hc]
            bx := rfl
            ln := rfl
            es := rfl
            hd := rfl
            nh := rfl
            dom := fun id hid => pkBoxes_dom hid
            tk := fun e he => ⟨by simp only [ghSh]; rw [find_name hn1 he], List.mem_map.mpr ⟨e, he, rfl⟩⟩
            ob := fun e he k' hk b hb => by simp only [ghSh, hb]; rw [find_src hn2 he hk] }
        have hlive : ∀ k, (pkSh sh (x1, x2)).live k = if k ∈ (L1 ++ L2).map (·.1) then 1 else 0 := by
          intro k
          rw [hname]
          show (bif sh.names.any (Nat.beq k) then 1 else 0) = _
          cases hq : sh.names.any (Nat.beq k) with
          | true => rw [if_pos (any_beq hq)]; rfl
          | false =>
            rw [if_neg]
            · rfl
            · intro hm
              rw [List.any_eq_false] at hq
              exact absurd (hq k hm) (by simp)
        refine ⟨ghSh g (L1 ++ L2) (fun id => ∃ c, (pkSh sh (x1, x2)).box id = some c), ?_⟩
        exact
          { size := hs.size
            off := hz.1.symm
            stk := by rw [hz.2]; exact rfl
            pts := fun id hid hd => by
              obtain ⟨c, hc⟩ := hd
              obtain ⟨c', hc'⟩ := unBoxes_dom h2 hc
              exact hs.pts id hid (hs.box id c' hc').1
            env := fun i => e4 _ _ hfit.left hcl.1 i
            defers := hs.defers
            box := fun id c hc => ⟨⟨c, hc⟩, f4 _ _ hfit.right hcl.2 id c hc⟩
            dom := fun id hd => hd
            tok := fun k hk => by
              have hm : k ∈ (L1 ++ L2).map (·.1) := by
                rw [hlive] at hk
                split at hk
                · assumption
                · cases hk
              refine ⟨hm, fun o ho1 ho2 => ?_⟩
              obtain ⟨e, he, rfl⟩ := List.mem_map.mp hm
              have htk := (hfit.tk e he).1
              rw [htk] at ho1 ho2 ⊢
              obtain ⟨q1, q2⟩ := hgood e he
              cases hsr : e.2.2 with
              | none => have := q2 hsr; omega
              | some k' =>
                obtain ⟨q3, q4⟩ := q1 k' hsr
                rw [q4] at ho1 ho2 ⊢
                obtain ⟨q5, q6, q7⟩ := (hs.tok k' q3).2 o ho1 ho2
                refine ⟨?_, q6, q7⟩
                simp only [ghSh, q5]
                rw [find_src hn2 he hsr]
            us := fun k hk => by
              have hk' : k ∈ (L1 ++ L2).map (·.1) := hk
              rw [hlive, if_pos hk']; exact Nat.one_ne_zero
            lv := fun k hk => ⟨by have hk' : k ∈ (L1 ++ L2).map (·.1) := hk; rw [hlive, if_pos hk'], hk⟩
            ob := fun b hb => hs.ob b fun h0 => hb (by simp only [ghSh, h0])
            keep := hs.keep
            cok := hs.cok
            old := fun b hbk o => by
              obtain ⟨o1, o2, o3⟩ := hs.old b hbk o
              have hc : (ghSh g (L1 ++ L2) (fun id => ∃ c, (pkSh sh (x1, x2)).box id = some c)).col b o = g.col b o := by
                simp only [ghSh]
              rw [hc]
              exact ⟨o1, o2, o3⟩ }
      · cases h
    · cases h
  · cases h

end
end Go.VE
