import Derived.Test.YtnjlpdagdedbaaaGreatViI
/- Each operation of the evaluator is what the machine does: the others. -/
namespace Go.VE

theorem part_run {P : Program} {g : Gh} {w : World} {t : TypeId} {cs : List PV} {vs : List Value} {off : Nat} {p : PV} (h : ldC P t (cs.drop off) = some p) (hr : Reps g w cs vs) :
    ∃ v, (part t vs.toArray off).run P w = .ok v w ∧ Rep g w p v := by
  have hd := hr.drop off
  unfold ldC at h
  split at h
  · rename_i n h1 h2
    split at h
    · rename_i hn
      cases h
      refine ⟨.agg ((vs.drop off).take n).toArray, ?_, by simp only [Rep]; exact ⟨_, rfl, hd.take n⟩⟩
      simp only [part, Sem.run_bind, isAgg_run h1, Result.andThen_ok, if_true, sizeOf_run h2, Sem.run_pure]
      congr 2
      apply Array.ext'
      simp
    · cases h
  · rename_i n h1 h2
    split at h
    · rename_i c r hc
      cases h
      rw [hc] at hd
      simp only [Reps] at hd
      obtain ⟨u, us, e, h3, _⟩ := hd
      have hu : vs[off]? = some u := by
        have := congrArg (fun l => l[0]?) e
        simpa using this
      refine ⟨u, ?_, h3⟩
      simp only [part, Sem.run_bind, isAgg_run h1, Result.andThen_ok]
      rw [if_neg (by simp)]
      simp [hu]
    · cases h
  · cases h

theorem foldl_set : ∀ (l : List Value) (k off : Nat) (cells : Array Value), off + k + l.length ≤ cells.size →
    ((l.zipIdx k).foldl (fun (cs : Array Value) (x : Value × Nat) => cs.setIfInBounds (off + x.2) x.1) cells).toList = cells.toList.take (off + k) ++ l ++ cells.toList.drop (off + k + l.length)
  | [], k, off, cells, _ => by simp
  | v :: r, k, off, cells, h => by
    simp only [List.length_cons] at h
    simp only [List.zipIdx_cons, List.foldl_cons]
    rw [foldl_set r (k + 1) off _ (by simp; omega)]
    apply List.ext_getElem?
    intro j
    have hl : cells.toList.length = cells.size := by simp
    simp only [List.getElem?_append, List.getElem?_take, List.getElem?_drop, List.length_append, List.length_take, List.length_cons, Array.toList_setIfInBounds, List.length_set, List.getElem?_set, hl]
    by_cases h1 : j < off + k
    · rw [if_pos (by omega), if_pos (by omega), if_pos (by omega), if_neg (by omega), if_pos (by omega), if_pos (by omega), if_pos (by omega)]
    · by_cases h2 : j = off + k
      · subst h2
        rw [if_pos (by omega), if_pos (by omega), if_pos (by omega), if_pos rfl, if_pos (by omega), if_pos (by omega), if_neg (by omega)]
        rw [show off + k - min (off + k) cells.size = 0 by omega]; rfl
      · by_cases h3 : j < off + k + 1 + r.length
        · rw [if_pos (by omega), if_neg (by omega), if_pos (by omega), if_neg (by omega)]
          rw [show j - min (off + k) cells.size = (j - min (off + (k + 1)) cells.size) + 1 by omega, List.getElem?_cons_succ]
        · rw [if_neg (by omega), if_neg (by omega), if_neg (by omega)]
          congr 1
          omega

theorem fill_one (cells : Array Value) (v : Value) (off : Nat) (h : off + v.cells.toList.length ≤ cells.size) :
    (v.cells.zipIdx.foldl (fun (cs : Array Value) (x : Value × Nat) => cs.setIfInBounds (off + x.2) x.1) cells).toList = cells.toList.take off ++ v.cells.toList ++ cells.toList.drop (off + v.cells.toList.length) := by
  rw [← Array.foldl_toList, Array.toList_zipIdx]
  have := foldl_set v.cells.toList 0 off cells (by simpa using h)
  simpa using this

theorem fillC_run {g : Gh} {w : World} {ρ : Operand → Value} {env : Nat → PV} (hρ : ∀ x, Rep g w (evO env x) (ρ x)) (place : Nat → Option (Nat × Nat)) : ∀ (parts : List (Nat × Operand)) (cs cs' : List PV) (cells : Array Value),
    fillC place cs (parts.map fun p => (p.1, evO env p.2)) = some cs' → Reps g w cs cells.toList → ∃ out, Instr.fill place cells (parts.map fun p => (p.1, ρ p.2)) = some out ∧ Reps g w cs' out.toList
  | [], cs, cs', cells, h, hr => by
    simp only [List.map_nil, fillC, Option.some.injEq] at h
    subst h
    exact ⟨cells, by simp [Instr.fill], hr⟩
  | (i, x) :: r, cs, cs', cells, h, hr => by
    simp only [List.map_cons, fillC] at h
    split at h
    · rename_i off size hp
      split at h
      · rename_i hh
        obtain ⟨hsol, hz, hl⟩ := hh
        obtain ⟨hcel, _⟩ := cel_rep (hρ x) hsol
        have hlen : (ρ x).cells.toList.length = (evO env x).cel.length := hcel.length
        have hcl : cells.toList.length = cs.length := hr.length
        have hsz : (ρ x).cells.size = size := by rw [← hz, ← hlen]; simp
        have hfit : off + (ρ x).cells.toList.length ≤ cells.size := by
          have : cells.toList.length = cells.size := by simp
          omega
        have hone := fill_one cells (ρ x) off hfit
        have ih := fillC_run hρ place r _ cs' _ h (by rw [hone]; unfold splice; rw [← hlen]; exact Reps.append (Reps.append (hr.take off) hcel) (hr.drop _))
        obtain ⟨out, h1, h2⟩ := ih
        refine ⟨out, ?_, h2⟩
        simp only [List.map_cons, Instr.fill, hp]
        rw [if_neg]
        · exact h1
        · simp only [Array.length_toList] at hfit
          simp [hsz]
          omega
      · cases h
    · cases h

theorem zeroOf_run {P : Program} {t : TypeId} {cs : List PV} (h : zeroOf P t = some cs) (g : Gh) (w : World) : ∃ z, (zeroValue t).run P w = .ok z w ∧ Reps g w cs z.cells.toList := by
  unfold zeroOf at h
  split at h
  · rename_i i hi
    split at h
    · rename_i z hz
      cases h
      refine ⟨z, by simp [zeroValue, typeInfo, hi, hz], Reps.of_get (by simp) fun j p v hp hv => ?_⟩
      simp only [List.getElem?_map, hv, Option.map_some, Option.some.injEq] at hp
      subst hp; exact ofV1_rep g w v
    · cases h
  · cases h

theorem un_solid : ∀ {t : Ty} {cs : List PV} {x : t.T} {r : List PV}, un t cs = some (x, r) → r.all PV.solid = true → cs.all PV.solid = true := by
  intro t
  induction t with
  | int k =>
    intro cs x r h hr
    cases cs with
    | nil => simp [un] at h
    | cons p ps =>
      cases p <;> simp [un] at h
      obtain ⟨_, _, rfl⟩ := h
      simpa [PV.solid] using hr
  | bool =>
    intro cs x r h hr
    cases cs with
    | nil => simp [un] at h
    | cons p ps =>
      cases p <;> simp [un] at h
      obtain ⟨_, rfl⟩ := h
      simpa [PV.solid] using hr
  | str =>
    intro cs x r h hr
    cases cs with
    | nil => simp [un] at h
    | cons p ps =>
      cases p <;> simp [un] at h
      obtain ⟨_, rfl⟩ := h
      simpa [PV.solid] using hr
  | unit =>
    intro cs x r h hr
    simp [un] at h
    subst h; exact hr
  | pair a b iha ihb =>
    intro cs x r h hr
    simp only [un] at h
    split at h
    · rename_i x1 r1 h1
      split at h
      · rename_i y1 r2 h2
        simp only [Option.some.injEq, Prod.mk.injEq] at h
        obtain ⟨_, rfl⟩ := h
        exact iha h1 (ihb h2 hr)
      · cases h
    · cases h
  | sl t ih =>
    intro cs x r h hr
    cases cs with
    | nil => simp [un] at h
    | cons p ps =>
      cases p <;> simp only [un] at h <;> try cases h
      · simpa [PV.solid] using hr
      · split at h
        · simp only [Option.some.injEq, Prod.mk.injEq] at h
          obtain ⟨_, rfl⟩ := h
          simpa [PV.solid] using hr
        · cases h

theorem unA_solid {t : Ty} {cs : List PV} {x : t.T} (h : unA t cs = some x) : cs.all PV.solid = true := by
  simp only [unA] at h
  split at h
  · rename_i y h1
    exact un_solid h1 rfl
  · cases h

/-- A row written out, element by element. -/
theorem fill_row {g : Gh} {w : World} {ρ : Operand → Value} {env : Nat → PV} (hρ : ∀ x, Rep g w (evO env x) (ρ x)) (ty : Ty) : ∀ (parts : List (Nat × Operand)) (k : Nat) (xs : List ty.T) (pre rest : List Value) (d : ty.T),
    (parts.map fun p => p.1) = List.range' k parts.length → (parts.mapM fun p => unA ty (evO env p.2).cel) = some xs → pre.length = k * ty.size → rest.length = parts.length * ty.size →
    ∃ news, Instr.fill (fun i => some (i * ty.size, ty.size)) (pre ++ rest).toArray (parts.map fun p => (p.1, ρ p.2)) = some (pre ++ news).toArray ∧ FlatOf g.col w ty (fun j => xs.getD j d) xs.length news ∧ xs.length = parts.length
  | [], k, xs, pre, rest, d, _, hx, _, hr => by
    simp at hx
    subst hx
    have : rest = [] := List.eq_nil_of_length_eq_zero (by rw [hr]; simp)
    subst this
    exact ⟨[], by simp [Instr.fill], ⟨by simp, by simp, fun i hi => absurd hi (by simp)⟩, rfl⟩
  | (i, x) :: r, k, xs, pre, rest, d, hi, hx, hp, hr => by
    simp only [List.map_cons, List.length_cons, List.range'_succ, List.cons.injEq] at hi
    obtain ⟨rfl, hi⟩ := hi
    rw [List.mapM_cons] at hx
    cases hux : unA ty (evO env x).cel with
    | none => rw [hux] at hx; simp at hx
    | some x0 =>
    cases hxr : (r.mapM fun p => unA ty (evO env p.2).cel) with
    | none => rw [hux, hxr] at hx; simp at hx
    | some xr =>
    rw [hux, hxr] at hx
    simp at hx
    subst hx
    obtain ⟨hcel, hone⟩ := cel_rep (hρ x) (unA_solid hux)
    have hrep := unA_rep hux hcel
    have hvl := hrep.length
    simp only [List.length_cons, Nat.add_mul, Nat.one_mul] at hr
    have hf := fill_one (pre ++ rest).toArray (ρ x) (i * ty.size) (by simp at hvl ⊢; omega)
    have e1 : ((pre ++ rest).toArray.toList.take (i * ty.size) ++ (ρ x).cells.toList ++ (pre ++ rest).toArray.toList.drop (i * ty.size + (ρ x).cells.toList.length)) = (pre ++ (ρ x).cells.toList) ++ rest.drop ty.size := by
      rw [← hp, List.take_left, hvl, List.drop_append, List.drop_eq_nil_of_le (by omega), List.nil_append, Nat.add_sub_cancel_left]
    rw [e1] at hf
    obtain ⟨news, h1, h2, h3⟩ := fill_row hρ ty r (i + 1) xr (pre ++ (ρ x).cells.toList) (rest.drop ty.size) d hi hxr (by rw [List.length_append, hp, hvl, Nat.add_mul, Nat.one_mul]) (by rw [List.length_drop]; omega)
    refine ⟨(ρ x).cells.toList ++ news, ?_, ⟨?_, fun v hv => ?_, fun j hj => ?_⟩, by simp [h3]⟩
    · simp only [List.map_cons, Instr.fill]
      rw [if_neg]
      · rw [show (Array.foldl (fun cs x_1 => match x_1 with | (c, j) => cs.setIfInBounds (i * ty.size + j) c) (pre ++ rest).toArray (ρ x).cells.zipIdx) = ((pre ++ (ρ x).cells.toList) ++ rest.drop ty.size).toArray from by
          apply Array.ext'; rw [List.toList_toArray]; exact hf]
        rw [h1]; simp
      · simp only [Array.length_toList] at hvl
        simp [hvl]; omega
    · simp only [List.length_append, hvl, h2.len, List.length_cons, Nat.add_mul, Nat.one_mul]; omega
    · rcases List.mem_append.mp hv with hv | hv
      · exact hone v hv
      · exact h2.one v hv
    · cases j with
      | zero =>
        simp only [List.getD_cons_zero, Nat.zero_mul, List.drop_zero]
        rw [List.take_append_of_le_length (by omega), List.take_of_length_le (by omega)]
        exact hrep
      | succ j =>
        simp only [List.getD_cons_succ]
        have := h2.el j (by simp at hj; omega)
        rw [show (j + 1) * ty.size = (ρ x).cells.toList.length + j * ty.size by rw [hvl, Nat.add_mul, Nat.one_mul]; omega, List.drop_append, List.drop_eq_nil_of_le (by omega), List.nil_append, Nat.add_sub_cancel_left]
        exact this

end Go.VE
