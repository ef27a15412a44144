import Derived.Test.YtnjlpdagdedbaaaGreatViE
/- Each operation of the evaluator is what the machine does: reading, writing, new variables. -/
namespace Go.VE

def Runs (P : Program) (o : Oper) (a : Act) (w : World) (v : Value) (w' : World) : Prop :=
  (execOp a.eval o).run P w = .ok (.value v) w' ∨ ((execOp a.eval o).run P w = .ok .skip w' ∧ v = undef)

theorem Runs.wp {P : Program} {o : Oper} {a : Act} {w w' : World} {v : Value} (h : Runs P o a w v w') {next : Act → World → Prop} {Q : Exit → Act → World → Prop} (hn : next (a.put o.dst v) w') : o.wp P a w next Q := by
  unfold Oper.wp
  rcases h with h | ⟨h, rfl⟩
  · rw [h]; exact hn
  · rw [h]; exact hn

def Ty.zeroV : Ty → List Value
  | .int k => [.int k 0]
  | .bool => [.bool false]
  | .str => [.string ByteArray.empty]
  | .unit => []
  | .pair a b => a.zeroV ++ b.zeroV
  | .sl _ => [.slice none 0 0]

/-- The codes of elements' types are what the program's table says. -/
def GamOk (P : Program) (Γ : TypeId → Option Ty) : Prop := ∀ e ty, Γ e = some ty → ∃ i z, P.info? e = some i ∧ i.size = ty.size ∧ i.zero = some z ∧ z.cells.toList = ty.zeroV

theorem zeroV_rep (c : Nat → Nat → Col) (w : World) : ∀ (t : Ty), RepT c w t t.zero t.zeroV
  | .int _ => rfl
  | .bool => rfl
  | .str => rfl
  | .unit => rfl
  | .pair a b => ⟨_, _, rfl, zeroV_rep c w a, zeroV_rep c w b⟩
  | .sl t => nils_rep t

theorem add_none (b o n : Nat) : (⟨b, o, none⟩ : Addr).add n = ⟨b, o + n, none⟩ := by
  unfold Addr.add
  split
  · rename_i h; subst h; rfl
  · rfl

theorem isAgg_run {P : Program} {t : TypeId} {b : Bool} (h : isAgg P t = some b) (w : World) : (Go.isAgg t).run P w = .ok b w := by
  unfold isAgg at h
  unfold Go.isAgg
  simp only [Sem.run_bind, underlying, run_program, Result.andThen_ok]
  cases hu : P.underlying t with
  | none => rw [hu] at h; cases h
  | some d =>
    rw [hu] at h
    cases d <;> simp at h <;> subst h <;> rfl

theorem sizeOf_run {P : Program} {t : TypeId} {n : Nat} (h : szOf P t = some n) (w : World) : (sizeOf t).run P w = .ok n w := by
  unfold szOf at h
  simp only [sizeOf, typeInfo, Sem.run_bind, run_program, Result.andThen_ok]
  cases hi : P.info? t with
  | none => rw [hi] at h; cases h
  | some i => rw [hi] at h; simp only [Option.map_some, Option.some.injEq] at h; subst h; rfl

theorem underlying_run {P : Program} {t : TypeId} {d : TypeDesc} (h : P.underlying t = some d) (w : World) : (underlying t).run P w = .ok d w := by
  simp only [underlying, Sem.run_bind, run_program, Result.andThen_ok, h, Sem.run_pure]

theorem loadVar_run {P : Program} {g : Gh} {w : World} {t : TypeId} {cs : List PV} {us : List Value} {p : PV} (b o : Nat) (h : ldC P t cs = some p) (hr : Reps g w cs us)
    (hc : ∀ j v, us[j]? = some v → w.cell? ⟨b, o + j, none⟩ = some v) : ∃ v, (loadVar t ⟨b, o, none⟩).run P w = .ok v w ∧ Rep g w p v := by
  unfold ldC at h
  split at h
  · rename_i n h1 h2
    split at h
    · rename_i hn
      cases h
      refine ⟨.agg (us.take n).toArray, ?_, ?_⟩
      · simp only [loadVar, Sem.run_bind, isAgg_run h1, Result.andThen_ok, if_true, sizeOf_run h2]
        have hl : (us.take n).length = n := by rw [List.length_take, hr.length]; omega
        have := run_loadCells_list (P := P) (w := w) ⟨b, o, none⟩ (us.take n) (fun j v hj => by
          rw [add_none]
          refine hc j v ?_
          rw [List.getElem?_take] at hj
          split at hj
          · exact hj
          · cases hj)
        rw [hl] at this
        rw [this]; rfl
      · simp only [Rep]
        exact ⟨us.take n, rfl, hr.take n⟩
    · cases h
  · rename_i n h1 h2
    split at h
    · rename_i c r
      cases h
      simp only [Reps] at hr
      obtain ⟨u, us', rfl, h3, _⟩ := hr
      refine ⟨u, ?_, h3⟩
      have h4 := hc 0 u rfl
      simp only [loadVar, Sem.run_bind, isAgg_run h1, Result.andThen_ok]
      rw [if_neg (by simp), run_load]
      rw [show o + 0 = o from rfl] at h4
      rw [h4]
    · cases h
  · cases h

/-- Where an address leads. -/
theorem reps_pkN {g : Gh} {w : World} {id i : Nat} {pa : Nat → Nat → Option (Nat × Nat)} (hd : g.dom id) (hi : i < g.ln id) : ∀ {t : Ty} {x : t.T} {vs : List Value} {j : Nat}, RepE g.col w id (g.nh id) pa i t x vs j → Reps g w (pkN id i t x j) vs := by
  intro t
  induction t with
  | int k => rintro x vs j rfl; simp only [pkN, Reps, Rep]; exact ⟨_, _, rfl, rfl, rfl⟩
  | bool => rintro x vs j rfl; simp only [pkN, Reps, Rep]; exact ⟨_, _, rfl, rfl, rfl⟩
  | str => rintro x vs j rfl; simp only [pkN, Reps, Rep]; exact ⟨_, _, rfl, rfl, rfl⟩
  | unit => rintro x vs j rfl; simp only [pkN, Reps]
  | pair a b iha ihb =>
    rintro x vs j ⟨v1, v2, rfl, h1, h2⟩
    exact Reps.append (iha h1) (ihb h2)
  | sl t ih =>
    rintro x vs j ⟨a, cap, rfl, h, _⟩
    simp only [pkN, Reps, Rep]
    exact ⟨_, _, rfl, ⟨hd, hi, by rw [h]⟩, rfl⟩

theorem slN_rep {c : Nat → Nat → Col} {w : World} {id i : Nat} {nh : Nat → Nat → Option Addr × Nat × Nat} {pa : Nat → Nat → Option (Nat × Nat)} {u : Ty} {y : L u.T} : ∀ {t : Ty} {x : t.T} {vs : List Value} {j0 j : Nat}, slN t x j = some ⟨u, y⟩ → RepE c w id nh pa i t x vs j0 → t.fl1 = true →
    (∃ v, RepE c w id nh pa i (.sl u) y [v] (j0 + j)) ∧ u.flat = true := by
  intro t
  induction t with
  | sl t ih =>
    intro x vs j0 j h hr hf
    cases j with
    | zero =>
      simp only [slN, Option.some.injEq, Sigma.mk.injEq] at h
      obtain ⟨rfl, h⟩ := h
      obtain rfl := eq_of_heq h
      refine ⟨?_, hf⟩
      obtain ⟨a, cap, rfl, h⟩ := hr
      exact ⟨_, a, cap, rfl, h⟩
    | succ j => simp [slN] at h
  | pair a b iha ihb =>
    rintro x vs j0 j h ⟨v1, v2, rfl, h1, h2⟩ hf
    simp only [Ty.fl1, Bool.and_eq_true] at hf
    simp only [slN] at h
    cases hb : Nat.blt j a.nsl with
    | true =>
      rw [hb] at h
      exact iha h h1 hf.1
    | false =>
      rw [hb] at h
      have hge : a.nsl ≤ j := by
        rcases Nat.lt_or_ge j a.nsl with q | q
        · have : Nat.blt j a.nsl = true := by simpa using q
          rw [hb] at this; cases this
        · exact q
      obtain ⟨⟨v, q⟩, q2⟩ := ihb h h2 hf.2
      rw [show j0 + a.nsl + (j - a.nsl) = j0 + j by omega] at q
      exact ⟨⟨v, q⟩, q2⟩
  | _ => intro x vs j0 j h; simp [slN] at h

theorem zeroE_rep (c : Nat → Nat → Col) (w : World) (id i : Nat) (pa : Nat → Nat → Option (Nat × Nat)) : ∀ (t : Ty) (j : Nat), RepE c w id (fun _ _ => (none, 0, 0)) pa i t t.zero t.zeroV j
  | .int _, _ => rfl
  | .bool, _ => rfl
  | .str, _ => rfl
  | .unit, _ => rfl
  | .pair a b, j => ⟨_, _, rfl, zeroE_rep c w id i pa a j, zeroE_rep c w id i pa b (j + a.nsl)⟩
  | .sl t, _ => ⟨none, 0, rfl, rfl, Nat.le_refl _, ⟨fun _ => rfl, fun _ => rfl, fun _ => rfl⟩, fun ad had => by cases had⟩

theorem RepE.of_flat {c : Nat → Nat → Col} {w : World} {id i : Nat} {nh : Nat → Nat → Option Addr × Nat × Nat} {pa : Nat → Nat → Option (Nat × Nat)} : ∀ {t : Ty} {x : t.T} {vs : List Value} {j : Nat}, t.flat = true → RepT c w t x vs → RepE c w id nh pa i t x vs j := by
  intro t
  induction t with
  | int k => exact fun _ h => h
  | bool => exact fun _ h => h
  | str => exact fun _ h => h
  | unit => exact fun _ h => h
  | pair a b iha ihb =>
    rintro x vs j hf ⟨v1, v2, e, h1, h2⟩
    simp only [Ty.flat, Bool.and_eq_true] at hf
    exact ⟨v1, v2, e, iha hf.1 h1, ihb hf.2 h2⟩
  | sl t ih => intro x vs j hf; simp [Ty.flat] at hf

theorem stN_rep {g : Gh} {w : World} {id i : Nat} {pa : Nat → Nat → Option (Nat × Nat)} {nh : Nat → Nat → Option Addr × Nat × Nat} : ∀ {t : Ty} {x y : t.T} {off j : Nat} {cs : List PV} {us vl : List Value}, stN t x off cs = some y → RepE g.col w id nh pa i t x us j → Reps g w cs vl → off + vl.length ≤ us.length →
    RepE g.col w id nh pa i t y (us.take off ++ vl ++ us.drop (off + vl.length)) j := by
  intro t
  have sc : ∀ {t : Ty} {x y : t.T} {off j : Nat} {cs : List PV} {us vl : List Value}, t.flat = true → (bif Nat.beq off 0 then unA t cs else none) = some y → RepE g.col w id nh pa i t x us j → Reps g w cs vl → off + vl.length ≤ us.length →
      RepE g.col w id nh pa i t y (us.take off ++ vl ++ us.drop (off + vl.length)) j := by
    intro t x y off j cs us vl hf h hr hv hl
    cases hb : Nat.beq off 0 with
    | false => rw [hb] at h; cases h
    | true =>
      rw [hb] at h
      simp only [cond_true] at h
      have h0 := Nat.eq_of_beq_eq_true hb
      subst h0
      have h1 := unA_rep h hv
      have e : us.drop (0 + vl.length) = [] := by
        rw [List.drop_eq_nil_iff, hr.length, h1.length]; omega
      rw [e, List.take_zero, List.nil_append, List.append_nil]
      exact RepE.of_flat hf h1
  induction t with
  | int k => intro x y off j cs us vl h; exact sc rfl h
  | bool => intro x y off j cs us vl h; exact sc rfl h
  | str => intro x y off j cs us vl h; exact sc rfl h
  | unit => intro x y off j cs us vl h; exact sc rfl h
  | sl t ih => intro x y off j cs us vl h; simp [stN] at h
  | pair a b iha ihb =>
    intro x y off j cs us vl h hr hv hl
    have hvl : vl.length = cs.length := hv.length
    simp only [stN] at h
    cases hw : (Nat.beq off 0 && (Nat.beq cs.length (Ty.pair a b).size && (Ty.pair a b).flat)) with
    | true =>
      rw [hw] at h
      simp only [cond_true] at h
      simp only [Bool.and_eq_true] at hw
      exact sc hw.2.2 (by rw [hw.1]; exact h) hr hv hl
    | false =>
      rw [hw] at h
      simp only [cond_false] at h
      obtain ⟨v1, v2, rfl, h1, h2⟩ := hr
      have l1 := h1.length
      have l2 := h2.length
      cases hc : Nat.ble (off + cs.length) a.size with
      | true =>
        rw [hc] at h
        simp only [cond_true] at h
        have hc := Nat.le_of_ble_eq_true hc
        split at h
        · rename_i z hz
          cases h
          refine ⟨v1.take off ++ vl ++ v1.drop (off + vl.length), v2, ?_, iha hz h1 hv (by omega), h2⟩
          rw [List.take_append_of_le_length (by omega), List.drop_append_of_le_length (by omega)]
          simp
        · cases h
      | false =>
        rw [hc] at h
        simp only [cond_false] at h
        cases hd : Nat.ble a.size off with
        | false => rw [hd] at h; cases h
        | true =>
          rw [hd] at h
          simp only [cond_true] at h
          have hd := Nat.le_of_ble_eq_true hd
          split at h
          · rename_i z hz
            cases h
            simp only [List.length_append] at hl
            refine ⟨v1, v2.take (off - a.size) ++ vl ++ v2.drop (off - a.size + vl.length), ?_, h1, ihb hz h2 hv (by omega)⟩
            rw [List.take_append, List.drop_append, l1, List.take_of_length_le (by omega), List.drop_eq_nil_of_le (by omega)]
            simp only [List.nil_append, List.append_assoc]
            rw [show off + vl.length - a.size = off - a.size + vl.length by omega]
          · cases h

theorem rdAt_run {P : Program} {N : Fr} {c0 : Nat → Nat → Col} {w0 : World} {σ : AS} {g : Gh} {a : Act} {w : World} (hs : Sim N c0 w0 σ g a w) {t : TypeId} {q p : PV} {u : Value} (h : rdAt P σ.box t q = some p) (hq : Rep g w q u) :
    ∃ v, (Instr.loadAt t u).run P w = .ok v w ∧ Rep g w p v := by
  cases q <;> simp only [rdAt] at h <;> try cases h
  · rename_i id off
    simp only [Rep] at hq
    obtain ⟨h1, rfl⟩ := hq
    split at h
    · rename_i cs hb
      obtain ⟨us, h2, h3⟩ := (hs.box _ _ hb).2
      have := loadVar_run (P := P) (g := g) (w := w) (g.bx id).1 ((g.bx id).2 + off) h (h2.drop off) (fun j v hj => by
        rw [List.getElem?_drop] at hj
        have := (h3 _ v hj).2.1
        rwa [← Nat.add_assoc] at this)
      obtain ⟨v, h4, h5⟩ := this
      exact ⟨v, by simp only [Instr.loadAt, Instr.sureAddr, Sem.run_bind, Sem.run_pure, Result.andThen_ok]; exact h4, h5⟩
    · cases h
  · rename_i id i off
    simp only [Rep] at hq
    obtain ⟨h1, hi, rfl⟩ := hq
    split at h
    · rename_i ty x hb
      obtain ⟨h2, h3, h4⟩ := (hs.box _ _ hb).2
      obtain ⟨us, h5, h6⟩ := h4 i (by rw [← h2]; exact hi)
      have := loadVar_run (P := P) (g := g) (w := w) (g.bx id).1 ((g.bx id).2 + i * ty.size + off) h ((reps_pk h5).drop off) (fun j v hj => by
        rw [List.getElem?_drop] at hj
        have := (h6 _ v hj).2.1
        rwa [← Nat.add_assoc] at this)
      obtain ⟨v, h7, h8⟩ := this
      exact ⟨v, by simp only [Instr.loadAt, Instr.sureAddr, Sem.run_bind, Sem.run_pure, Result.andThen_ok]; rw [h3.1]; exact h7, h8⟩
    · rename_i ty x hb
      obtain ⟨h2, h3, _, pa, h4⟩ := (hs.box _ _ hb).2
      obtain ⟨us, h5, h6⟩ := h4 i (by rw [← h2]; exact hi)
      rw [if_pos (own_none _)] at h5
      have := loadVar_run (P := P) (g := g) (w := w) (g.bx id).1 ((g.bx id).2 + i * ty.size + off) h ((reps_pkN h1 hi h5).drop off) (fun j v hj => by
        rw [List.getElem?_drop] at hj
        have := (h6 _ v hj).2.2.1
        rwa [← Nat.add_assoc] at this)
      obtain ⟨v, h7, h8⟩ := this
      exact ⟨v, by simp only [Instr.loadAt, Instr.sureAddr, Sem.run_bind, Sem.run_pure, Result.andThen_ok]; rw [h3.1]; exact h7, h8⟩
    · cases h
  · rename_i cs
    simp only [Rep] at hq
    obtain ⟨b, o, us, rfl, h2, h3⟩ := hq
    obtain ⟨v, h4, h5⟩ := loadVar_run (P := P) (g := g) (w := w) b o h h2 (fun j v hj => (h3 j v hj).2)
    exact ⟨v, by simp only [Instr.loadAt, Instr.sureAddr, Sem.run_bind, Sem.run_pure, Result.andThen_ok]; exact h4, h5⟩

theorem solid_one {g : Gh} {w : World} {p : PV} {v : Value} (h : Rep g w p v) (hs : p.solid = true) : v.oneCell' = true ∧ v.cells = #[v] := by
  cases p <;> simp only [PV.solid] at hs <;> try cases hs
  all_goals
    simp only [Rep] at h
    first
      | (subst h; exact ⟨rfl, rfl⟩)
      | (obtain ⟨vs, rfl, _⟩ := h; exact ⟨rfl, rfl⟩)
      | (obtain ⟨a, cap, rfl, _⟩ := h; exact ⟨rfl, rfl⟩)
      | (obtain ⟨_, rfl⟩ := h; exact ⟨rfl, rfl⟩)
      | (obtain ⟨_, _, rfl⟩ := h; exact ⟨rfl, rfl⟩)
      | (obtain ⟨b, o, us, rfl, _⟩ := h; exact ⟨rfl, rfl⟩)

theorem reps_one {g : Gh} {w : World} : ∀ {ps : List PV} {us : List Value}, Reps g w ps us → ps.all PV.solid = true → ∀ v ∈ us, v.oneCell' = true
  | [], us, h, _ => by simp only [Reps] at h; subst h; simp
  | p :: ps, us, h, hs => by
    simp only [Reps] at h
    obtain ⟨u, r, rfl, h2, h3⟩ := h
    simp only [List.all_cons, Bool.and_eq_true] at hs
    intro v hv
    rcases List.mem_cons.mp hv with rfl | hv
    · exact (solid_one h2 hs.1).1
    · exact reps_one h3 hs.2 v hv

/-- The cells of a value of the evaluator. -/
theorem cel_rep {g : Gh} {w : World} {p : PV} {v : Value} (h : Rep g w p v) (hs : p.cel.all PV.solid = true) : Reps g w p.cel v.cells.toList ∧ ∀ u ∈ v.cells.toList, u.oneCell' = true := by
  cases p with
  | agg cs =>
    simp only [Rep] at h
    obtain ⟨vs, rfl, h2⟩ := h
    exact ⟨h2, reps_one (us := vs) h2 hs⟩
  | _ =>
    simp only [PV.cel, List.all_cons, List.all_nil, Bool.and_true] at hs
    obtain ⟨h1, h2⟩ := solid_one h hs
    rw [h2]
    exact ⟨by simp only [PV.cel, Reps]; exact ⟨v, [], rfl, h, rfl⟩, by simpa using h1⟩

theorem storeAt_run {P : Program} {w : World} {t : TypeId} {v : Value} {b o : Nat} (hz : szOf P t = some v.cells.toList.length) (h1 : ∀ u ∈ v.cells.toList, u.oneCell' = true)
    (hc : ∀ j, j < v.cells.toList.length → (w.cell? ⟨b, o + j, none⟩).isSome = true) (hf : ∀ j, j < v.cells.toList.length → w.frozen? ⟨b, o + j, none⟩ = false) :
    (Instr.storeAt t (.pointer (some ⟨b, o, none⟩)) v).run P w = .ok () (w.setCells b o v.cells.toList) := by
  simp only [Instr.storeAt, Instr.sureAddr, Sem.run_bind, Sem.run_pure, Result.andThen_ok, storeVar, sizeOf_run hz]
  rw [if_neg (by simp)]
  exact run_storeCells_cells (P := P) b o v.cells.toList 0 w hc hf h1

theorem splice_get (cs : List PV) (off : Nat) (new : List PV) (h : off + new.length ≤ cs.length) (j : Nat) : (splice cs off new)[j]? = if off ≤ j ∧ j < off + new.length then new[j - off]? else cs[j]? := by
  unfold splice
  by_cases h1 : j < off
  · rw [if_neg (by omega), List.append_assoc, List.getElem?_append_left (by simp; omega), List.getElem?_take, if_pos h1]
  · by_cases h2 : j < off + new.length
    · rw [if_pos (by omega), List.getElem?_append_left (by simp; omega), List.getElem?_append_right (by simp; omega)]
      congr 1
      simp; omega
    · rw [if_neg (by omega), List.getElem?_append_right (by simp; omega), List.getElem?_drop]
      congr 1
      simp; omega

theorem splice_len (cs : List PV) (off : Nat) (new : List PV) (h : off + new.length ≤ cs.length) : (splice cs off new).length = cs.length := by
  unfold splice; simp; omega

/-- A store through an address. -/
theorem stAt_run {P : Program} {N : Fr} {c0 : Nat → Nat → Col} {w0 : World} {σ : AS} {g : Gh} {a : Act} {w : World} (hs : Sim N c0 w0 σ g a w) {t : TypeId} {p q : PV} {u v : Value} {id : Nat} {c' : BoxC}
    (h : stAt P σ.box t p q = some (id, c')) (hq : Rep g w q u) (hp : Rep g w p v) :
    ∃ w', (Instr.storeAt t u v).run P w = .ok () w' ∧ Sim N c0 w0 { σ with box := upd σ.box id (some c') } g a w' := by
  cases q <;> simp only [stAt] at h <;> try cases h
  · rename_i id' off
    simp only [Rep] at hq
    obtain ⟨hd, rfl⟩ := hq
    split at h
    · rename_i cs hb
      split at h
      · rename_i hh
        obtain ⟨hsol, hz, hl⟩ := hh
        simp only [Option.some.injEq, Prod.mk.injEq] at h
        obtain ⟨rfl, rfl⟩ := h
        obtain ⟨hcel, hone⟩ := cel_rep hp hsol
        have hrun := fun (b o : Nat) => storeAt_run (P := P) (w := w) (t := t) (v := v) (b := b) (o := o)
        generalize v.cells.toList = vl at hcel hone hrun
        have hlen : vl.length = p.cel.length := hcel.length
        obtain ⟨us, h2, h3⟩ := (hs.box _ _ hb).2
        have hul : us.length = cs.length := h2.length
        have hin : ∀ j, j < vl.length → g.col (g.bx id').1 ((g.bx id').2 + off + j) = .bx id' ∧ (w.cell? ⟨(g.bx id').1, (g.bx id').2 + off + j, none⟩).isSome = true ∧ w.frozen? ⟨(g.bx id').1, (g.bx id').2 + off + j, none⟩ = false := by
          intro j hj
          have hj' : off + j < us.length := by omega
          obtain ⟨a1, a2, a3⟩ := h3 (off + j) us[off + j] (List.getElem?_eq_getElem hj')
          rw [← Nat.add_assoc] at a1 a2 a3
          exact ⟨a1, by rw [a2]; rfl, a3⟩
        refine ⟨_, hrun _ _ (by rw [hlen]; exact hz) hone (fun j hj => (hin j hj).2.1) (fun j hj => (hin j hj).2.2), ?_⟩
        refine hs.setBox hb (fun j hj => ⟨(hin j hj).1, (hin j hj).2.1⟩) fun hst => ?_
        have hcs := cell_setCells (w := w) (b := (g.bx id').1) (o := (g.bx id').2 + off) (vs := vl) (fun j hj => (hin j hj).2.1)
        -- what the box holds now
        refine ⟨us.take off ++ vl ++ us.drop (off + vl.length), ?_, ?_⟩
        · unfold splice
          rw [← hlen]
          exact Reps.append (Reps.append (Reps.mono hst _ _ (h2.take off)) (Reps.mono hst _ _ hcel)) (Reps.mono hst _ _ (h2.drop _))
        · intro j x hj
          have hb3 : ∀ y, us[j]? = some y → g.col (g.bx id').1 ((g.bx id').2 + j) = .bx id' ∧ w.cell? ⟨(g.bx id').1, (g.bx id').2 + j, none⟩ = some y ∧ w.frozen? ⟨(g.bx id').1, (g.bx id').2 + j, none⟩ = false := fun y hy => h3 j y hy
          have hjl : j < us.length := by
            have h5 := (List.getElem?_eq_some_iff.mp hj).1
            simp only [List.length_append, List.length_take, List.length_drop] at h5; omega
          obtain ⟨a1, a2, a3⟩ := hb3 us[j] (List.getElem?_eq_getElem hjl)
          refine ⟨a1, ?_, by rw [World.frozen?_setCells]; exact a3⟩
          rw [hcs]
          by_cases h6 : off ≤ j ∧ j < off + vl.length
          · rw [if_pos ⟨rfl, by omega, by omega⟩]
            rw [List.getElem?_append_left (by simp; omega), List.getElem?_append_right (by simp; omega)] at hj
            rw [← hj]
            congr 1
            simp; omega
          · rw [if_neg (by omega), a2]
            by_cases h7 : j < off
            · rw [List.append_assoc, List.getElem?_append_left (by simp; omega), List.getElem?_take, if_pos h7, List.getElem?_eq_getElem hjl] at hj
              exact hj
            · rw [List.getElem?_append_right (by simp; omega), List.getElem?_drop] at hj
              rw [← hj, ← List.getElem?_eq_getElem hjl]
              congr 1
              simp; omega
      · cases h
    · cases h
  · rename_i id' i off
    simp only [Rep] at hq
    obtain ⟨hd, hi, rfl⟩ := hq
    split at h
    · rename_i ty x hb
      split at h
      · rename_i hh
        obtain ⟨hsol, hz, hl⟩ := hh
        split at h
        · rename_i y hy
          simp only [Option.some.injEq, Prod.mk.injEq] at h
          obtain ⟨rfl, rfl⟩ := h
          obtain ⟨hcel, hone⟩ := cel_rep hp hsol
          have hrun := fun (b o : Nat) => storeAt_run (P := P) (w := w) (t := t) (v := v) (b := b) (o := o)
          generalize v.cells.toList = vl at hcel hone hrun
          have hlen : vl.length = p.cel.length := hcel.length
          obtain ⟨b1, b2, b3⟩ := (hs.box _ _ hb).2
          have hi' : i < x.len := by rw [← b1]; exact hi
          obtain ⟨us, h2, h3⟩ := b3 i hi'
          have hul : us.length = ty.size := h2.length
          have hin : ∀ j, j < vl.length → g.col (g.bx id').1 ((g.bx id').2 + i * ty.size + off + j) = .bx id' ∧ (w.cell? ⟨(g.bx id').1, (g.bx id').2 + i * ty.size + off + j, none⟩).isSome = true ∧ w.frozen? ⟨(g.bx id').1, (g.bx id').2 + i * ty.size + off + j, none⟩ = false := by
            intro j hj
            have hj' : off + j < us.length := by omega
            obtain ⟨a1, a2, a3⟩ := h3 (off + j) us[off + j] (List.getElem?_eq_getElem hj')
            rw [← Nat.add_assoc] at a1 a2 a3
            exact ⟨a1, by rw [a2]; rfl, a3⟩
          rw [b2.1]
          refine ⟨_, hrun _ _ (by rw [hlen]; exact hz) hone (fun j hj => (hin j hj).2.1) (fun j hj => (hin j hj).2.2), ?_⟩
          refine hs.setBox hb (fun j hj => ⟨(hin j hj).1, (hin j hj).2.1⟩) fun hst => ?_
          have hcs := cell_setCells (w := w) (b := (g.bx id').1) (o := (g.bx id').2 + i * ty.size + off) (vs := vl) (fun j hj => (hin j hj).2.1)
          have hrep : RepT g.col (w.setCells (g.bx id').1 ((g.bx id').2 + i * ty.size + off) vl) ty y (us.take off ++ vl ++ us.drop (off + vl.length)) := by
            refine unA_rep hy ?_
            unfold splice
            rw [← hlen]
            have hpk := reps_pk h2
            exact Reps.append (Reps.append (Reps.mono hst _ _ (hpk.take off)) (Reps.mono hst _ _ hcel)) (Reps.mono hst _ _ (hpk.drop _))
          refine ⟨b1, b2, fun k hk => ?_⟩
          have hk' : k < x.len := hk
          by_cases hki : k = i
          · subst hki
            have e : (x.set k y).get k = y := by simp [L.set]
            refine ⟨_, by rw [e]; exact hrep, fun j z hj => ?_⟩
            have hjl : j < us.length := by
              have h5 := (List.getElem?_eq_some_iff.mp hj).1
              simp only [List.length_append, List.length_take, List.length_drop] at h5; omega
            obtain ⟨a1, a2, a3⟩ := h3 j us[j] (List.getElem?_eq_getElem hjl)
            refine ⟨a1, ?_, by rw [World.frozen?_setCells]; exact a3⟩
            rw [hcs]
            by_cases h6 : off ≤ j ∧ j < off + vl.length
            · rw [if_pos ⟨rfl, by omega, by omega⟩]
              rw [List.getElem?_append_left (by simp; omega), List.getElem?_append_right (by simp; omega)] at hj
              rw [← hj]
              congr 1
              simp; omega
            · rw [if_neg (by omega), a2]
              by_cases h7 : j < off
              · rw [List.append_assoc, List.getElem?_append_left (by simp; omega), List.getElem?_take, if_pos h7, List.getElem?_eq_getElem hjl] at hj
                exact hj
              · rw [List.getElem?_append_right (by simp; omega), List.getElem?_drop] at hj
                rw [← hj, ← List.getElem?_eq_getElem hjl]
                congr 1
                simp; omega
          · have e : (x.set i y).get k = x.get k := by
              simp only [L.set]
              cases hbq : Nat.beq k i with
              | true => exact absurd (Nat.eq_of_beq_eq_true hbq) hki
              | false => rfl
            obtain ⟨us', h8, h9⟩ := b3 k hk'
            refine ⟨us', by rw [e]; exact RepT.mono hst.toStays _ _ _ h8, fun j z hj => ?_⟩
            obtain ⟨a1, a2, a3⟩ := h9 j z hj
            refine ⟨a1, ?_, by rw [World.frozen?_setCells]; exact a3⟩
            have hjl : j < ty.size := by
              have h5 := (List.getElem?_eq_some_iff.mp hj).1
              rw [h8.length] at h5; exact h5
            rw [hcs, if_neg, a2]
            rintro ⟨_, q1, q2⟩
            rcases Nat.lt_or_ge k i with hlt | hge
            · have : (k + 1) * ty.size ≤ i * ty.size := Nat.mul_le_mul_right _ hlt
              rw [Nat.add_mul] at this; omega
            · have : (i + 1) * ty.size ≤ k * ty.size := Nat.mul_le_mul_right _ (by omega)
              rw [Nat.add_mul] at this; omega
        · cases h
      · cases h
    · rename_i ty x hb
      split at h
      · rename_i hh
        obtain ⟨hsol, hz, hl⟩ := hh
        split at h
        · rename_i y hy
          simp only [Option.some.injEq, Prod.mk.injEq] at h
          obtain ⟨rfl, rfl⟩ := h
          obtain ⟨hcel, hone⟩ := cel_rep hp hsol
          have hrun := fun (b o : Nat) => storeAt_run (P := P) (w := w) (t := t) (v := v) (b := b) (o := o)
          generalize v.cells.toList = vl at hcel hone hrun
          have hlen : vl.length = p.cel.length := hcel.length
          obtain ⟨b1, b2, bf, pa, b3⟩ := (hs.box _ _ hb).2
          have hi' : i < x.len := by rw [← b1]; exact hi
          obtain ⟨us, h2, h3⟩ := b3 i hi'
          rw [if_pos (own_none _)] at h2
          have hul : us.length = ty.size := h2.length
          have hin : ∀ j, j < vl.length → g.col (g.bx id').1 ((g.bx id').2 + i * ty.size + off + j) = .bx id' ∧ pa (g.bx id').1 ((g.bx id').2 + i * ty.size + off + j) = none ∧ (w.cell? ⟨(g.bx id').1, (g.bx id').2 + i * ty.size + off + j, none⟩).isSome = true ∧ w.frozen? ⟨(g.bx id').1, (g.bx id').2 + i * ty.size + off + j, none⟩ = false := by
            intro j hj
            have hj' : off + j < us.length := by omega
            obtain ⟨a1, a2, a3, a4⟩ := h3 (off + j) us[off + j] (List.getElem?_eq_getElem hj')
            rw [← Nat.add_assoc] at a1 a2 a3 a4
            exact ⟨a1, a2, by rw [a3]; rfl, a4⟩
          rw [b2.1]
          refine ⟨_, hrun _ _ (by rw [hlen]; exact hz) hone (fun j hj => (hin j hj).2.2.1) (fun j hj => (hin j hj).2.2.2), ?_⟩
          refine hs.setBox hb (fun j hj => ⟨(hin j hj).1, (hin j hj).2.2.1⟩) fun hst => ?_
          have hcs := cell_setCells (w := w) (b := (g.bx id').1) (o := (g.bx id').2 + i * ty.size + off) (vs := vl) (fun j hj => (hin j hj).2.2.1)
          have hnest : ∀ b o v (q : Nat × Nat), g.col b o = .bx id' → pa b o = some q → w.cell? ⟨b, o, none⟩ = some v → w.frozen? ⟨b, o, none⟩ = false →
              g.col b o = .bx id' ∧ pa b o = some q ∧ (w.setCells (g.bx id').1 ((g.bx id').2 + i * ty.size + off) vl).cell? ⟨b, o, none⟩ = some v ∧ (w.setCells (g.bx id').1 ((g.bx id').2 + i * ty.size + off) vl).frozen? ⟨b, o, none⟩ = false := by
            intro b o v q a1 a2 a3 a4
            refine ⟨a1, a2, ?_, by rw [World.frozen?_setCells]; exact a4⟩
            rw [hcs, if_neg, a3]
            rintro ⟨rfl, q1, q2⟩
            have := (hin (o - ((g.bx id').2 + i * ty.size + off)) (by omega)).2.1
            rw [show (g.bx id').2 + i * ty.size + off + (o - ((g.bx id').2 + i * ty.size + off)) = o by omega, a2] at this
            cases this
          have hrep := stN_rep hy h2 hcel (by omega)
          have hrep : RepE g.col (w.setCells (g.bx id').1 ((g.bx id').2 + i * ty.size + off) vl) id' (g.nh id') pa i ty y (us.take off ++ vl ++ us.drop (off + vl.length)) 0 :=
            RepE.mono hst.toStays (fun _ => rfl) (fun b o v j a1 a2 a3 a4 => hnest b o v _ a1 a2 a3 a4) _ _ _ _ hrep
          refine ⟨b1, b2, bf, pa, fun k hk => ?_⟩
          have hk' : k < x.len := hk
          by_cases hki : k = i
          · subst hki
            have e : (x.set k y).get k = y := by simp [L.set]
            refine ⟨_, by rw [if_pos (own_none _), e]; exact hrep, fun j z hj => ?_⟩
            have hjl : j < us.length := by
              have h5 := (List.getElem?_eq_some_iff.mp hj).1
              simp only [List.length_append, List.length_take, List.length_drop] at h5; omega
            obtain ⟨a1, a0, a2, a3⟩ := h3 j us[j] (List.getElem?_eq_getElem hjl)
            refine ⟨a1, a0, ?_, by rw [World.frozen?_setCells]; exact a3⟩
            rw [hcs]
            by_cases h6 : off ≤ j ∧ j < off + vl.length
            · rw [if_pos ⟨rfl, by omega, by omega⟩]
              rw [List.getElem?_append_left (by simp; omega), List.getElem?_append_right (by simp; omega)] at hj
              rw [← hj]
              congr 1
              simp; omega
            · rw [if_neg (by omega), a2]
              by_cases h7 : j < off
              · rw [List.append_assoc, List.getElem?_append_left (by simp; omega), List.getElem?_take, if_pos h7, List.getElem?_eq_getElem hjl] at hj
                exact hj
              · rw [List.getElem?_append_right (by simp; omega), List.getElem?_drop] at hj
                rw [← hj, ← List.getElem?_eq_getElem hjl]
                congr 1
                simp; omega
          · have e : (x.set i y).get k = x.get k := by
              simp only [L.set]
              cases hbq : Nat.beq k i with
              | true => exact absurd (Nat.eq_of_beq_eq_true hbq) hki
              | false => rfl
            obtain ⟨us', h8, h9⟩ := b3 k hk'
            rw [if_pos (own_none _)] at h8
            refine ⟨us', by rw [if_pos (own_none _), e]; exact RepE.mono hst.toStays (fun _ => rfl) (fun b o v j a1 a2 a3 a4 => hnest b o v _ a1 a2 a3 a4) _ _ _ _ h8, fun j z hj => ?_⟩
            obtain ⟨a1, a0, a2, a3⟩ := h9 j z hj
            refine ⟨a1, a0, ?_, by rw [World.frozen?_setCells]; exact a3⟩
            have hjl : j < ty.size := by
              have h5 := (List.getElem?_eq_some_iff.mp hj).1
              rw [h8.length] at h5; exact h5
            rw [hcs, if_neg, a2]
            rintro ⟨_, q1, q2⟩
            rcases Nat.lt_or_ge k i with hlt | hge
            · have : (k + 1) * ty.size ≤ i * ty.size := Nat.mul_le_mul_right _ hlt
              rw [Nat.add_mul] at this; omega
            · have : (i + 1) * ty.size ≤ k * ty.size := Nat.mul_le_mul_right _ (by omega)
              rw [Nat.add_mul] at this; omega
        · cases h
      · cases h
    · cases h

end Go.VE
