import Derived.Test.YtnjlpdagdedbaaaGreatViL
/- Behind a call. -/
namespace Go.VE

theorem nodup_of {l : List Nat} : nodupB l = true → l.Nodup := by
  induction l with
  | nil => intro _; exact List.nodup_nil
  | cons a r ih =>
    intro h
    simp only [nodupB, Bool.and_eq_true, List.all_eq_true, Bool.not_eq_true'] at h
    refine List.nodup_cons.mpr ⟨fun hm => ?_, ih h.2⟩
    have := h.1 a hm
    simp at this

theorem disj_of {a b : List Nat} (h : disjB a b = true) : ∀ x ∈ a, x ∉ b := by
  intro x hx hb
  simp only [disjB, List.all_eq_true, Bool.not_eq_true'] at h
  have := h x hx x hb
  simp at this

theorem find_uniq {l : List Win} {e : Win} (hn : (l.map (·.1)).Nodup) (he : e ∈ l) {q : Win → Bool} (hq : q e = true) (hq' : ∀ e' ∈ l, q e' = true → e'.1 = e.1) : l.find? q = some e := by
  induction l with
  | nil => simp at he
  | cons b r ih =>
    simp only [List.map_cons, List.nodup_cons] at hn
    rcases List.mem_cons.mp he with rfl | he
    · rw [List.find?_cons_of_pos hq]
    · have hb : q b = false := by
        cases hqb : q b with
        | false => rfl
        | true =>
          have := hq' b (by simp) hqb
          exact absurd (List.mem_map.mpr ⟨e, he, this.symm⟩) hn.1
      rw [List.find?_cons_of_neg (by rw [hb]; simp)]
      exact ih hn.2 he fun e' h' => hq' e' (by simp [h'])

theorem inj_fst {l : List Win} (hn : (l.map (·.1)).Nodup) {a b : Win} (ha : a ∈ l) (hb : b ∈ l) (h : a.1 = b.1) : a = b := by
  induction l with
  | nil => simp at ha
  | cons c r ih =>
    simp only [List.map_cons, List.nodup_cons] at hn
    rcases List.mem_cons.mp ha with ha | ha <;> rcases List.mem_cons.mp hb with hb | hb
    · rw [ha, hb]
    · exact absurd (List.mem_map.mpr ⟨b, hb, by rw [← h, ha]⟩) hn.1
    · exact absurd (List.mem_map.mpr ⟨a, ha, by rw [h, hb]⟩) hn.1
    · exact ih hn.2 ha hb

theorem ptWins_fst (g : Gh) : ∀ (is : List In) (ps : List PV) (i : Nat), (ptWins g is ps i).map (·.1) = ptIds is ps
  | [], ps, i => by cases ps <;> simp [ptWins, ptIds]
  | a :: r, [], i => by cases a <;> simp [ptWins, ptIds]
  | a :: r, p :: ps, i => by
    have ih := ptWins_fst g r ps (i + 1)
    cases a <;> cases p <;> simp [ptWins, ptIds, ih]

section
variable {P : Program} {N : Fr} {c0 : Nat → Nat → Col} {w0 : World} {σ : AS} {g : Gh} {a : Act} {w : World}

theorem unIns_rep (hs : Sim N c0 w0 σ g a w) (rfs : List Nat) (pts : List Win) (hn : (pts.map (·.1)).Nodup) (hd : ∀ e ∈ pts, e.1 ∉ rfs) : ∀ {is : List In} {ps : List PV} {x : InsT is} {vs : List Value} {i : Nat},
    unIns σ.box is ps = some x → Reps g w ps vs → (∀ id ∈ rfIds is ps, id ∈ rfs) → (∀ e ∈ ptWins g is ps i, e ∈ pts) → ArgsRep (colC g rfs pts) w is x i vs
  | [], ps, x, vs, i, h, hr, _, _ => by
    cases ps with
    | nil => simp only [Reps] at hr; exact hr
    | cons p ps => simp [unIns] at h
  | b :: r, ps, x, vs, i, h, hr, hin, hpt => by
    cases ps with
    | nil => simp [unIns] at h
    | cons p ps =>
      simp only [unIns] at h
      split at h
      · rename_i x1 h1
        split at h
        · rename_i y1 h2
          cases h
          simp only [Reps] at hr
          obtain ⟨u, us, rfl, h3, h4⟩ := hr
          have hin1 : ∀ id ∈ rfIds [b] [p], id ∈ rfs := by
            intro id hid
            apply hin id
            cases b <;> cases p <;> simp [rfIds, rfIdsL] at hid ⊢ <;> first | exact .inl hid | skip
          have hin2 : ∀ id ∈ rfIds r ps, id ∈ rfs := by
            intro id hid
            apply hin id
            cases b <;> cases p <;> simp [rfIds, hid]
          have hpt2 : ∀ e ∈ ptWins g r ps (i + 1), e ∈ pts := by
            intro e he
            apply hpt e
            cases b <;> cases p <;> simp [ptWins, he]
          refine ⟨u, us, rfl, unIn_rep hs h1 h3 hin1 (fun e he => ?_), unIns_rep hs rfs pts hn hd h2 h4 hin2 hpt2⟩
          have hm := hpt e (by cases b <;> cases p <;> simp [ptWins] at he ⊢ <;> exact .inl he)
          refine ⟨hd _ hm, fun b' o q => ?_⟩
          refine find_uniq hn hm (by simp [q]) fun e' _ hq => ?_
          simp only [Bool.and_eq_true] at hq
          exact Nat.eq_of_beq_eq_true hq.1
        · cases h
      · cases h

theorem RepT.flat {c c' : Nat → Nat → Col} {w w' : World} : ∀ {t : Ty} {x : t.T} {vs : List Value}, t.flat = true → RepT c w t x vs → RepT c' w' t x vs := by
  intro t
  induction t with
  | pair a b iha ihb =>
    rintro x vs hf ⟨v1, v2, e, h1, h2⟩
    simp only [Ty.flat, Bool.and_eq_true] at hf
    exact ⟨v1, v2, e, iha hf.1 h1, ihb hf.2 h2⟩
  | sl t ih => intro x vs hf; simp [Ty.flat] at hf
  | _ => exact fun _ h => h

theorem updL_notin {α : Type} : ∀ (l : List (Nat × α)) (f : Nat → α) (d : Nat), d ∉ l.map (·.1) → updL f l d = f d
  | [], f, d, _ => rfl
  | (i, v) :: r, f, d, h => by
    simp only [List.map_cons, List.mem_cons, not_or] at h
    simp only [updL]
    rw [updL_notin r _ d h.2, upd_eq, if_neg h.1]

theorem updL_in {α : Type} : ∀ (l : List (Nat × α)) (f : Nat → α) (d : Nat) (v : α), (l.map (·.1)).Nodup → (d, v) ∈ l → updL f l d = v
  | (i, u) :: r, f, d, v, hn, h => by
    simp only [List.map_cons, List.nodup_cons] at hn
    simp only [updL]
    rcases List.mem_cons.mp h with e | h
    · cases e
      rw [updL_notin r _ _ hn.1, upd_eq, if_pos rfl]
    · exact updL_in r _ d v hn.2 h

theorem unIn_pt {box : Nat → Option BoxC} {t : Ty} {p : PV} {x : t.T} (h : unIn box (.pt t) p = some x) : ∃ id off cs, p = .bx id off ∧ box id = some (.cells cs) ∧ unA t ((cs.drop off).take t.size) = some x := by
  cases p <;> simp only [unIn] at h <;> try cases h
  rename_i id off
  simp only [winC] at h
  split at h
  · rename_i cs hb
    exact ⟨id, off, cs, rfl, hb, h⟩
  · cases h

theorem Ty.beq_refl : ∀ (t : Ty), t.beq t = true
  | .int k => by simp [Ty.beq]
  | .bool => rfl
  | .str => rfl
  | .unit => rfl
  | .pair a b => by simp [Ty.beq, Ty.beq_refl a, Ty.beq_refl b]
  | .sl t => by simp [Ty.beq, Ty.beq_refl t]

theorem blt_false {a b : Nat} (h : Nat.blt a b = false) : b ≤ a := by
  rcases Nat.lt_or_ge a b with q | q
  · have : Nat.blt a b = true := by simpa using q
    rw [h] at this; cases this
  · exact q

theorem setN_some {u : Ty} {y z : L u.T} : ∀ {t : Ty} {x : t.T} {j : Nat}, slN t x j = some ⟨u, y⟩ → ∃ x', setN u z t x j = some x' := by
  intro t
  induction t with
  | sl t ih =>
    intro x j h
    cases j with
    | zero =>
      simp only [slN, Option.some.injEq, Sigma.mk.injEq] at h
      obtain ⟨rfl, _⟩ := h
      exact ⟨z, by simp only [setN]; rw [dif_pos (Ty.beq_refl _)]; rfl⟩
    | succ j => simp [slN] at h
  | pair a b iha ihb =>
    intro x j h
    simp only [slN] at h
    simp only [setN]
    cases hb : Nat.blt j a.nsl with
    | true =>
      rw [hb] at h
      obtain ⟨x', e⟩ := iha h
      exact ⟨(x', x.2), by simp only [cond_true]; rw [e]⟩
    | false =>
      rw [hb] at h
      obtain ⟨x', e⟩ := ihb h
      exact ⟨(x.1, x'), by simp only [cond_false]; rw [e]⟩
  | _ => intro x j h; simp [slN] at h

theorem unIn_ow {box : Nat → Option BoxC} {t : Ty} {p : PV} {x : L t.T} (h : unIn box (.ow t) p = some x) :
    (∃ id, p = .ms id ∧ box id = some (.arr t x) ∧ t.flat = true) ∨ (∃ id, p = .ms id ∧ box id = some (.mix t x none) ∧ t.flat = false) ∨
    ∃ id k j t', ∃ x0 : L t'.T, p = .mn id k j ∧ box id = some (.mix t' x0 none) ∧ slN t' (x0.get k) j = some ⟨t, x⟩ ∧ t.flat = true := by
  cases p <;> simp only [unIn] at h <;> try cases h
  · rename_i id
    split at h
    · rename_i t' y hb
      split at h
      · rename_i hbq
        obtain rfl := Ty.eq_of_beq hbq
        cases hf : t'.flat with
        | false => rw [hf] at h; cases h
        | true =>
          rw [hf] at h
          simp only [cond_true, Option.some.injEq] at h
          simp only [castT] at h
          subst h
          exact .inl ⟨id, rfl, hb, rfl⟩
      · cases h
    · rename_i t' y hb
      split at h
      · rename_i hbq
        obtain rfl := Ty.eq_of_beq hbq
        cases hf : t'.flat with
        | true => rw [hf] at h; cases h
        | false =>
          rw [hf] at h
          simp only [cond_false, Option.some.injEq] at h
          simp only [castT] at h
          subst h
          exact .inr (.inl ⟨id, rfl, hb, rfl⟩)
      · cases h
    · cases h
  · rename_i id k j
    split at h
    · rename_i t' y hb
      split at h
      · rename_i u' z hz
        split at h
        · rename_i hbq
          obtain rfl := Ty.eq_of_beq hbq
          cases hf : u'.flat with
          | false => rw [hf] at h; cases h
          | true =>
            rw [hf] at h
            simp only [cond_true, Option.some.injEq] at h
            simp only [castT] at h
            subst h
            exact .inr (.inr ⟨id, k, j, t', y, rfl, hb, hz, rfl⟩)
        · cases h
      · cases h
    · cases h

theorem wb_fst {box : Nat → Option BoxC} : ∀ {is : List In} {ps : List PV} {x : InsT is} (y : PtT is), unIns box is ps = some x → (wb box is ps y).map (·.1) = ptIds is ps
  | [], ps, x, y, hx => by cases ps <;> simp [wb, ptIds]
  | b :: r, [], x, y, hx => by simp [unIns] at hx
  | b :: r, p :: ps, x, y, hx => by
    simp only [unIns] at hx
    split at hx
    · rename_i x1 h1
      split at hx
      · rename_i y1 h2
        cases b with
        | pt t =>
          obtain ⟨id, off, cs, rfl, hb, _⟩ := unIn_pt h1
          simp [wb, ptIds, hb, wb_fst y.2 h2]
        | ow t =>
          rcases unIn_ow h1 with ⟨id, rfl, hb, _⟩ | ⟨id, rfl, hb, _⟩ | ⟨id, k, j, t', x0, rfl, hb, hz, _⟩
          · simp [wb, ptIds, wb_fst y.2 h2]
          · simp [wb, ptIds, wb_fst y.2 h2]
          · obtain ⟨z', e⟩ := setN_some (z := y.1) hz
            simp [wb, ptIds, hb, e, wb_fst y.2 h2]
        | v t => cases p <;> simp [wb, ptIds, wb_fst (is := r) y h2]
        | rf t => cases p <;> simp [wb, ptIds, wb_fst (is := r) y h2]
        | clo f ts => cases p <;> simp [wb, ptIds, wb_fst (is := r) y h2]
      · cases hx
    · cases hx

theorem RepC.flat {c c' : Nat → Nat → Col} {w0 w w1 : World} {b : Nat} : ∀ {t : Ty} {x : t.T} {vs : List Value} {o : Nat}, t.flat = true → RepC c w0 w b t x vs o → RepT c' w1 t x vs := by
  intro t
  induction t with
  | int k => exact fun _ h => h
  | bool => exact fun _ h => h
  | str => exact fun _ h => h
  | unit => exact fun _ h => h
  | pair p q ihp ihq =>
    rintro x vs o hf ⟨v1, v2, e, h1, h2⟩
    simp only [Ty.flat, Bool.and_eq_true] at hf
    exact ⟨v1, v2, e, ihp hf.1 h1, ihq hf.2 h2⟩
  | sl t ih => intro x vs o hf; simp [Ty.flat] at hf
theorem RepC.length {c : Nat → Nat → Col} {w0 w : World} {b : Nat} : ∀ {t : Ty} {x : t.T} {vs : List Value} {o : Nat}, RepC c w0 w b t x vs o → vs.length = t.size := by
  intro t
  induction t with
  | int k => rintro x vs o rfl; rfl
  | bool => rintro x vs o rfl; rfl
  | str => rintro x vs o rfl; rfl
  | unit => rintro x vs o rfl; rfl
  | pair p q ihp ihq =>
    rintro x vs o ⟨v1, v2, rfl, h1, h2⟩
    simp [Ty.size, ihp h1, ihq h2]
  | sl t ih => rintro x vs o ⟨a, cap, rfl, _⟩; rfl
theorem RepC.of_flat {c c' : Nat → Nat → Col} {w0 w w1 : World} {b : Nat} : ∀ {t : Ty} {x : t.T} {vs : List Value} {o : Nat}, t.flat = true → RepT c w1 t x vs → RepC c' w0 w b t x vs o := by
  intro t
  induction t with
  | int k => exact fun _ h => h
  | bool => exact fun _ h => h
  | str => exact fun _ h => h
  | unit => exact fun _ h => h
  | pair p q ihp ihq =>
    rintro x vs o hf ⟨v1, v2, e, h1, h2⟩
    simp only [Ty.flat, Bool.and_eq_true] at hf
    exact ⟨v1, v2, e, ihp hf.1 h1, ihq hf.2 h2⟩
  | sl t ih => intro x vs o hf; simp [Ty.flat] at hf

/-- A row that was handed on to be written owns what it owned. -/
theorem RepC.toE {c c' col' : Nat → Nat → Col} {w w' : World} {id i b : Nat} {nh : Nat → Nat → Option Addr × Nat × Nat} {pa : Nat → Nat → Option (Nat × Nat)}
    (hk : ∀ b o v, c b o = .bx id → w.cell? ⟨b, o, none⟩ = some v → w.frozen? ⟨b, o, none⟩ = false → c' b o = .bx id ∧ w'.frozen? ⟨b, o, none⟩ = false) :
    ∀ {t : Ty} {x y : t.T} {us0 us : List Value} {pos j : Nat}, RepE c w id nh pa i t x us0 j → RepC col' w w' b t y us pos → t.fl1 = true → (∀ (q : Nat) (u : Value), us0[q]? = some u → w.cell? ⟨b, pos + q, none⟩ = some u) → RepE c' w' id nh pa i t y us j := by
  intro t
  induction t with
  | int k => exact fun _ h _ _ => h
  | bool => exact fun _ h _ _ => h
  | str => exact fun _ h _ _ => h
  | unit => exact fun _ h _ _ => h
  | pair p q ihp ihq =>
    rintro x y us0 us pos j ⟨v1, v2, rfl, h1, h2⟩ ⟨u1, u2, rfl, k1, k2⟩ hf hc
    simp only [Ty.fl1, Bool.and_eq_true] at hf
    have l1 := h1.length
    refine ⟨u1, u2, rfl, ihp h1 k1 hf.1 fun n u hn => hc n u ?_, ihq h2 k2 hf.2 fun n u hn => ?_⟩
    · rw [List.getElem?_append_left (List.getElem?_eq_some_iff.mp hn).1]; exact hn
    · rw [Nat.add_assoc]
      refine hc (p.size + n) u ?_
      rw [List.getElem?_append_right (by omega), l1, Nat.add_sub_cancel_left]; exact hn
  | sl t ih =>
    rintro x y us0 us pos j ⟨a0, cap0, rfl, e1, e2, e3, e4⟩ ⟨a, cap, rfl, k1, k2, k3⟩ hf hc
    have h0 := hc 0 _ rfl
    rw [Nat.add_zero, k1] at h0
    simp only [Option.some.injEq, Value.slice.injEq] at h0
    obtain ⟨rfl, hlen, rfl⟩ := h0
    refine ⟨a, cap, rfl, by rw [e1, hlen], by omega, ⟨e3.1, k2⟩, fun ad had => ⟨fun hp => (e4 ad had).1 (by omega), fun k hk2 => ?_⟩⟩
    obtain ⟨us', q1, q2⟩ := (e4 ad had).2 k (by omega)
    obtain ⟨us2, r1, r2⟩ := k3 ad had k hk2
    refine ⟨us2, RepT.flat hf r1, fun q u hq => ?_⟩
    have hl : q < us'.length := by rw [q1.length, ← r1.length]; exact (List.getElem?_eq_some_iff.mp hq).1
    obtain ⟨a1, a2, a3, a4⟩ := q2 q us'[q] (List.getElem?_eq_getElem hl)
    obtain ⟨b1, b2⟩ := hk _ _ _ a1 a3 a4
    exact ⟨b1, a2, r2 q u hq, b2⟩

/-- One of an element's slices is written. -/
theorem RepE.setN {c c' : Nat → Nat → Col} {w w' : World} {id i : Nat} {nh : Nat → Nat → Option Addr × Nat × Nat} {pa : Nat → Nat → Option (Nat × Nat)} {u : Ty} {y z : L u.T} (hs : Stays c w c' w') :
    ∀ {t : Ty} {x x' : t.T} {us : List Value} {j0 j : Nat}, slN t x j = some ⟨u, y⟩ → VE.setN u z t x j = some x' → (∀ v, RepE c w id nh pa i (.sl u) y [v] (j0 + j) → RepE c' w' id nh pa i (.sl u) z [v] (j0 + j)) →
    (∀ b o v j', j' ≠ j0 + j → c b o = .bx id → pa b o = some (i, j') → w.cell? ⟨b, o, none⟩ = some v → w.frozen? ⟨b, o, none⟩ = false → c' b o = .bx id ∧ pa b o = some (i, j') ∧ w'.cell? ⟨b, o, none⟩ = some v ∧ w'.frozen? ⟨b, o, none⟩ = false) →
    RepE c w id nh pa i t x us j0 → RepE c' w' id nh pa i t x' us j0 := by
  intro t
  induction t with
  | sl t ih =>
    intro x x' us j0 j h1 h2 hz hb hr
    cases j with
    | zero =>
      simp only [slN, Option.some.injEq, Sigma.mk.injEq] at h1
      obtain ⟨rfl, h1⟩ := h1
      obtain rfl := eq_of_heq h1
      simp only [VE.setN] at h2
      rw [dif_pos (Ty.beq_refl _)] at h2
      cases h2
      obtain ⟨a, cap, rfl, hr⟩ := hr
      exact hz _ ⟨a, cap, rfl, hr⟩
    | succ j => simp [slN] at h1
  | pair a b iha ihb =>
    rintro x x' us j0 j h1 h2 hz hb ⟨v1, v2, rfl, k1, k2⟩
    simp only [slN] at h1
    simp only [VE.setN] at h2
    cases hbl : Nat.blt j a.nsl with
    | true =>
      rw [hbl] at h1 h2
      simp only [cond_true] at h1 h2
      have hlt : j < a.nsl := by simpa using hbl
      split at h2
      · rename_i z' e
        cases h2
        exact ⟨v1, v2, rfl, iha h1 e hz hb k1, RepE.monoR hs _ _ _ _ (fun _ _ _ => rfl) (fun b o v j' q1 q2 => hb b o v j' (by omega)) k2⟩
      · cases h2
    | false =>
      rw [hbl] at h1 h2
      simp only [cond_false] at h1 h2
      have hge := blt_false hbl
      split at h2
      · rename_i z' e
        cases h2
        have e0 : j0 + a.nsl + (j - a.nsl) = j0 + j := by omega
        refine ⟨v1, v2, rfl, RepE.monoR hs _ _ _ _ (fun _ _ _ => rfl) (fun b o v j' q1 q2 => hb b o v j' (by omega)) k1, ihb h1 e (by rw [e0]; exact hz) (by rw [e0]; exact hb) k2⟩
      · cases h2
  | _ => intro x x' us j0 j h1; simp [slN] at h1

/-- What is written back of one box: what its window was, what it holds now. -/
def WbOne (box : Nat → Option BoxC) (g : Gh) (col' : Nat → Nat → Col) (w w' : World) (F : Prop) (id : Nat) (q : Nat → Nat → Bool) (c : BoxC) : Prop :=
  (∃ t off cs, ∃ z : t.T, ∃ us, box id = some (.cells cs) ∧ c = .cells (splice cs off (pk t z)) ∧ q = winQ ((g.bx id).2 + off) ((g.bx id).2 + off + t.size) ∧ (∃ z0, unA t ((cs.drop off).take t.size) = some z0) ∧
      RepT col' w' t z us ∧ (∀ (j : Nat) (u : Value), us[j]? = some u → w'.cell? ⟨(g.bx id).1, (g.bx id).2 + off + j, none⟩ = some u) ∧ (F → t.flat = true)) ∨
  (∃ t, ∃ x0 z : L t.T, ((box id = some (.arr t x0) ∧ t.flat = true) ∨ (box id = some (.mix t x0 none) ∧ t.flat = false)) ∧ c = owBox t z ∧ z.len = g.ln id ∧ (z.nil = true ↔ (g.hd id).1 = none) ∧
      (0 < z.len → ∃ b o, (g.hd id).1 = some ⟨b, o, none⟩ ∧ ∀ k, k < z.len → ∃ us, RepC col' w w' b t (z.get k) us (o + k * t.size) ∧ ∀ (j : Nat) (u : Value), us[j]? = some u → w'.cell? ⟨b, o + k * t.size + j, none⟩ = some u)) ∨
  (∃ u t k j, ∃ x0 : L t.T, ∃ y z : L u.T, ∃ z' : t.T, box id = some (.mix t x0 none) ∧ slN t (x0.get k) j = some ⟨u, y⟩ ∧ u.flat = true ∧ setN u z t (x0.get k) j = some z' ∧ c = .mix t (x0.set k z') none ∧ k < g.ln id ∧ q = winH (g.nh id k j).1 ((g.nh id k j).2.1 * u.size) ∧
      z.len = (g.nh id k j).2.1 ∧ (z.nil = true ↔ (g.nh id k j).1 = none) ∧ (0 < z.len → ∃ b o, (g.nh id k j).1 = some ⟨b, o, none⟩ ∧ ∀ k, k < z.len → ∃ us, RepT col' w' u (z.get k) us ∧ ∀ (j : Nat) (v : Value), us[j]? = some v → w'.cell? ⟨b, o + k * u.size + j, none⟩ = some v))

theorem WbOne.weak {box : Nat → Option BoxC} {g : Gh} {col' : Nat → Nat → Col} {w w' : World} {F F' : Prop} {id : Nat} {q : Nat → Nat → Bool} {c : BoxC} (hF : F' → F) (h : WbOne box g col' w w' F id q c) : WbOne box g col' w w' F' id q c := by
  rcases h with ⟨t, off, cs, z, us, h1, h2, h3, h4, h5, h6, h7⟩ | h | h
  · exact .inl ⟨t, off, cs, z, us, h1, h2, h3, h4, h5, h6, fun f => h7 (hF f)⟩
  · exact .inr (.inl h)
  · exact .inr (.inr h)

theorem wb_spec (box : Nat → Option BoxC) (g : Gh) (w : World) (col' : Nat → Nat → Col) (w' : World) : ∀ (is : List In) (ps : List PV) (x : InsT is) (y : PtT is) (vs : List Value) (i : Nat), unIns box is ps = some x → Reps g w ps vs → PtsRep col' w w' is y vs →
    ∀ id ∈ ptIds is ps, ∃ q c n, (id, q, n) ∈ ptWins g is ps i ∧ (id, c) ∈ wb box is ps y ∧ WbOne box g col' w w' (ptFlat is = true) id q c
  | [], ps, x, y, vs, i, hx, hr, hp => by
    intro id hid
    cases ps <;> simp [ptIds] at hid
  | b :: r, [], x, y, vs, i, hx, hr, hp => by simp [unIns] at hx
  | b :: r, p :: ps, x, y, vs, i, hx, hr, hp => by
    simp only [unIns] at hx
    split at hx
    · rename_i x1 h1
      split at hx
      · rename_i y1 h2
        simp only [Reps] at hr
        obtain ⟨u, us, rfl, h3, h4⟩ := hr
        cases b with
        | pt t =>
          obtain ⟨id0, off, cs, rfl, hb, hz⟩ := unIn_pt h1
          simp only [PtsRep] at hp
          obtain ⟨b, o, ws, tl, e, q1, q2, q3⟩ := hp
          simp only [List.cons.injEq] at e
          obtain ⟨rfl, rfl⟩ := e
          simp only [Rep] at h3
          obtain ⟨_, e⟩ := h3
          simp only [Value.pointer.injEq, Option.some.injEq, Addr.mk.injEq, and_true] at e
          obtain ⟨rfl, rfl⟩ := e
          intro id hid
          simp only [ptIds, List.mem_cons] at hid
          rcases hid with rfl | hid
          · exact ⟨winQ ((g.bx id).2 + off) ((g.bx id).2 + off + t.size), .cells (splice cs off (pk t y.1)), i, by simp [ptWins], by simp [wb, hb], .inl ⟨t, off, cs, y.1, ws, hb, rfl, rfl, ⟨x1, hz⟩, q1, q2, fun hf => by simp [ptFlat] at hf; exact hf.1⟩⟩
          · obtain ⟨q, c, n, k1, k2, k3⟩ := wb_spec box g w col' w' r ps y1 y.2 us (i + 1) h2 h4 q3 id hid
            exact ⟨q, c, n, by simp [ptWins, k1], by simp [wb, k2], k3.weak fun hf => by simp [ptFlat] at hf; exact hf.2⟩
        | ow t =>
          simp only [PtsRep] at hp
          obtain ⟨a, cap, tl, e, q1, q2, q3⟩ := hp
          simp only [List.cons.injEq] at e
          obtain ⟨rfl, rfl⟩ := e
          have rest : ∀ id ∈ ptIds r ps, ∃ q c n, (id, q, n) ∈ ptWins g r ps (i + 1) ∧ (id, c) ∈ wb box r ps y.2 ∧ WbOne box g col' w w' (ptFlat (.ow t :: r) = true) id q c := fun id hid => by
            obtain ⟨q, c, n, k1, k2, k3⟩ := wb_spec box g w col' w' r ps y1 y.2 us (i + 1) h2 h4 q3 id hid
            exact ⟨q, c, n, k1, k2, k3.weak fun hf => by simp [ptFlat] at hf; exact hf.2⟩
          intro id hid
          rcases unIn_ow h1 with ⟨id0, rfl, hb, hfl⟩ | ⟨id0, rfl, hb, hfl⟩ | ⟨id0, k, j, t', x0, rfl, hb, hz, hfl⟩
          · simp only [Rep] at h3
            obtain ⟨_, e⟩ := h3
            simp only [Value.slice.injEq] at e
            obtain ⟨rfl, e2, rfl⟩ := e
            simp only [ptIds, List.mem_cons] at hid
            rcases hid with rfl | hid
            · exact ⟨bif t.flat then winQ (g.bx id).2 ((g.bx id).2 + g.ln id * g.es id) else (fun _ _ => true), owBox t y.1, i, by simp [ptWins], by simp [wb], .inr (.inl ⟨t, x1, y.1, .inl ⟨hb, hfl⟩, rfl, e2, q1, q2⟩)⟩
            · obtain ⟨q, c, n, k1, k2, k3⟩ := rest id hid
              exact ⟨q, c, n, by simp [ptWins, k1], by simp [wb, k2], k3⟩
          · simp only [Rep] at h3
            obtain ⟨_, e⟩ := h3
            simp only [Value.slice.injEq] at e
            obtain ⟨rfl, e2, rfl⟩ := e
            simp only [ptIds, List.mem_cons] at hid
            rcases hid with rfl | hid
            · exact ⟨bif t.flat then winQ (g.bx id).2 ((g.bx id).2 + g.ln id * g.es id) else (fun _ _ => true), owBox t y.1, i, by simp [ptWins], by simp [wb], .inr (.inl ⟨t, x1, y.1, .inr ⟨hb, hfl⟩, rfl, e2, q1, q2⟩)⟩
            · obtain ⟨q, c, n, k1, k2, k3⟩ := rest id hid
              exact ⟨q, c, n, by simp [ptWins, k1], by simp [wb, k2], k3⟩
          · simp only [Rep] at h3
            obtain ⟨_, hk, e⟩ := h3
            simp only [Value.slice.injEq] at e
            obtain ⟨rfl, e2, rfl⟩ := e
            obtain ⟨z', ez⟩ := setN_some (z := y.1) hz
            simp only [ptIds, List.mem_cons] at hid
            rcases hid with rfl | hid
            · refine ⟨winH (g.nh id k j).1 ((g.nh id k j).2.1 * t.size), .mix t' (x0.set k z') none, i, by simp [ptWins], by simp [wb, hb, ez], .inr (.inr ⟨t, t', k, j, x0, x1, y.1, z', hb, hz, hfl, ez, rfl, hk, rfl, e2, q1, fun hp => ?_⟩)⟩
              obtain ⟨b, o, f1, f2⟩ := q2 hp
              refine ⟨b, o, f1, fun m hm => ?_⟩
              obtain ⟨us', f3, f4⟩ := f2 m hm
              exact ⟨us', RepC.flat hfl f3, f4⟩
            · obtain ⟨q, c, n, k1, k2, k3⟩ := rest id hid
              exact ⟨q, c, n, by simp [ptWins, k1], by simp [wb, k2], k3⟩
        | v t =>
          simp only [PtsRep, List.tail_cons] at hp
          intro id hid
          have hid' : id ∈ ptIds r ps := by cases p <;> simpa [ptIds] using hid
          obtain ⟨q, c, n, k1, k2, k3⟩ := wb_spec box g w col' w' r ps y1 y us (i + 1) h2 h4 hp id hid'
          exact ⟨q, c, n, by cases p <;> simpa [ptWins] using k1, by cases p <;> simpa [wb] using k2, k3.weak fun hf => by simpa [ptFlat] using hf⟩
        | rf t =>
          simp only [PtsRep, List.tail_cons] at hp
          intro id hid
          have hid' : id ∈ ptIds r ps := by cases p <;> simpa [ptIds] using hid
          obtain ⟨q, c, n, k1, k2, k3⟩ := wb_spec box g w col' w' r ps y1 y us (i + 1) h2 h4 hp id hid'
          exact ⟨q, c, n, by cases p <;> simpa [ptWins] using k1, by cases p <;> simpa [wb] using k2, k3.weak fun hf => by simpa [ptFlat] using hf⟩
        | clo f ts =>
          simp only [PtsRep, List.tail_cons] at hp
          intro id hid
          have hid' : id ∈ ptIds r ps := by cases p <;> simpa [ptIds] using hid
          obtain ⟨q, c, n, k1, k2, k3⟩ := wb_spec box g w col' w' r ps y1 y us (i + 1) h2 h4 hp id hid'
          exact ⟨q, c, n, by cases p <;> simpa [ptWins] using k1, by cases p <;> simpa [wb] using k2, k3.weak fun hf => by simpa [ptFlat] using hf⟩
      · cases hx
    · cases hx

theorem un_len : ∀ {t : Ty} {cs : List PV} {x : t.T} {r : List PV}, un t cs = some (x, r) → cs.length = t.size + r.length := by
  intro t
  induction t with
  | pair a b iha ihb =>
    intro cs x r h
    simp only [un] at h
    split at h
    · rename_i x1 r1 h1
      split at h
      · rename_i y1 r2 h2
        simp only [Option.some.injEq, Prod.mk.injEq] at h
        obtain ⟨_, rfl⟩ := h
        have := iha h1
        have := ihb h2
        simp only [Ty.size]; omega
      · cases h
    · cases h
  | unit => intro cs x r h; simp [un] at h; subst h; simp [Ty.size]
  | int k =>
    intro cs x r h
    cases cs with
    | nil => simp [un] at h
    | cons p ps =>
      cases p <;> simp [un] at h
      obtain ⟨_, _, rfl⟩ := h
      simp [Ty.size, Nat.add_comm]
  | bool =>
    intro cs x r h
    cases cs with
    | nil => simp [un] at h
    | cons p ps =>
      cases p <;> simp [un] at h
      obtain ⟨_, rfl⟩ := h
      simp [Ty.size, Nat.add_comm]
  | str =>
    intro cs x r h
    cases cs with
    | nil => simp [un] at h
    | cons p ps =>
      cases p <;> simp [un] at h
      obtain ⟨_, rfl⟩ := h
      simp [Ty.size, Nat.add_comm]
  | sl t ih =>
    intro cs x r h
    cases cs with
    | nil => simp [un] at h
    | cons p ps =>
      cases p <;> simp only [un] at h <;> try cases h
      · simp [Ty.size, Nat.add_comm]
      · split at h
        · simp only [Option.some.injEq, Prod.mk.injEq] at h
          obtain ⟨_, rfl⟩ := h
          simp [Ty.size, Nat.add_comm]
        · cases h

theorem unA_len {t : Ty} {cs : List PV} {x : t.T} (h : unA t cs = some x) : cs.length = t.size := by
  simp only [unA] at h
  split at h
  · rename_i y h1
    have := un_len h1
    simpa using this
  · cases h

theorem pk_len : ∀ (t : Ty) (x : t.T), (pk t x).length = t.size
  | .int _, _ => rfl
  | .bool, _ => rfl
  | .str, _ => rfl
  | .unit, _ => rfl
  | .pair a b, x => by simp [pk, Ty.size, pk_len a, pk_len b]
  | .sl _, _ => rfl

theorem outs_rep {g : Gh} {w : World} {col' : Nat → Nat → Col} : ∀ {ts : List Ty} {y : TysT ts} {vs : List Value}, (∀ t ∈ ts, ∀ (x : t.T) (us : List Value), RepT col' w t x us → RepT g.col w t x us) → OutRep col' w ts y vs → Reps g w (mkOuts ts y) vs
  | [], y, vs, _, h => by simp only [mkOuts, Reps]; exact h
  | t :: r, y, vs, hm, h => by
    obtain ⟨u, us, rfl, ⟨cs, h1, rfl⟩, h2⟩ := h
    simp only [mkOuts, Reps]
    exact ⟨_, us, rfl, rep_mk (hm t (by simp) _ _ h1), outs_rep (fun t' ht' => hm t' (by simp [ht'])) h2⟩

theorem mkOuts_len : ∀ (ts : List Ty) (y : TysT ts), (mkOuts ts y).length = ts.length
  | [], _ => rfl
  | _ :: r, y => by simp [mkOuts, mkOuts_len r y.2]

theorem res_rep {g : Gh} {w : World} {col' : Nat → Nat → Col} {ts : List Ty} {y : TysT ts} {v : Value} (hm : ∀ t ∈ ts, ∀ (x : t.T) (us : List Value), RepT col' w t x us → RepT g.col w t x us) (h : ResRep col' w ts y v) : Rep g w (mkRes ts y) v := by
  obtain ⟨os, ho, rfl⟩ := h
  have hos := outs_rep hm ho
  match ts, y, hos with
  | [], y, hos =>
    simp only [mkOuts, Reps] at hos
    subst hos
    simp only [mkRes, mkOuts, Rep]
    exact ⟨[], rfl, by simp only [Reps]⟩
  | [t], y, hos =>
    simp only [mkOuts, Reps] at hos
    obtain ⟨u, us, rfl, h1, rfl⟩ := hos
    simp only [mkRes]
    exact h1
  | t :: t2 :: r, y, hos =>
    have hl : os.length = r.length + 2 := by rw [hos.length, mkOuts_len]; rfl
    rw [dif_neg (by simp [hl])]
    simp only [mkRes, Rep]
    exact ⟨os, rfl, hos⟩

/-- Behind a call: all but the result. -/
theorem Sim.callCore (hs : Sim N c0 w0 σ g a w) {c : Ctr} {ps : List PV} {vs : List Value} (hr : Reps g w ps vs) {x : InsT c.ins} (hx : unIns σ.box c.ins ps = some x) (hn : nodupB (ptIds c.ins ps) = true) (hdj : disjB (ptIds c.ins ps) (rfIds c.ins ps) = true)
    (hfl : (rfIds c.ins ps).isEmpty = true ∨ ptFlat c.ins = true) {y : TysT c.out × PtT c.ins}
    {col' : Nat → Nat → Col} {w' : World} (hk : Keep (colC g (rfIds c.ins ps) (ptWins g c.ins ps 0)) w w') (hst : ∀ b, b < w.heap.size → ∀ o, (col' b o = .st ↔ colC g (rfIds c.ins ps) (ptWins g c.ins ps 0) b o = .st)) (hpts : PtsRep col' w w' c.ins y.2 vs.toArray.toList) :
    ∃ g', Sim N c0 w0 (σ.app none { v := .any, bx := wb σ.box c.ins ps y.2 }) g' a w' ∧ (∀ t : Ty, ((rfIds c.ins ps).isEmpty = true ∨ t.flat = true) → ∀ (z : t.T) (us : List Value), RepT col' w' t z us → RepT g'.col w' t z us) ∧
      (∀ b o, w.heap.size ≤ b → col' b o ≠ .st → g'.col b o = .free) ∧ g'.ob = g.ob ∧ (∀ b o, w.heap.size ≤ b → col' b o = .st → g'.col b o = .st) := by
  generalize hrf : rfIds c.ins ps = rfs at hk hst hfl hdj ⊢
  have hlt : ∀ {b o u}, w.cell? ⟨b, o, none⟩ = some u → b < w.heap.size := fun {b o u} hu => World.block_lt_of_cell? w ⟨b, o, none⟩ hu
  let g' : Gh := { g with col := fun b o => if b < w.heap.size then g.col b o else match col' b o with | .st => .st | _ => .free }
  have hcol : ∀ b o, b < w.heap.size → g'.col b o = g.col b o := fun b o h => if_pos h
  have hnobx : ∀ b o, (∀ id, g.col b o ≠ .bx id) → ∀ id, colC g rfs (ptWins g c.ins ps 0) b o ≠ .bx id := by
    intro b o hne id
    unfold colC
    split
    · simp
    · rename_i id' he; exact absurd he (hne id')
    · simp
  have hgs : GStays g w g' w' :=
    { st := fun b o u h1 h2 => ⟨(hcol b o (hlt h2)).trans h1, (hk.cel b (hlt h2) o (hnobx b o (fun id => by rw [h1]; simp))).trans h2⟩
      dom := fun id h => ⟨h, rfl, rfl, rfl, rfl, rfl⟩
      us := fun k h => ⟨h, fun l => ⟨l, rfl, fun _ e => e⟩⟩ }
  -- data that the callee made
  have hdat : ∀ (t : Ty), (rfs.isEmpty = true ∨ t.flat = true) → ∀ (z : t.T) (us : List Value), RepT col' w' t z us → RepT g'.col w' t z us := by
    intro t ht z us h
    rcases ht with ht | ht
    · have hs' : Stays col' w' g'.col w' := by
        refine ⟨fun b o u h1 h2 => ⟨?_, h2⟩⟩
        by_cases hbl : b < w.heap.size
        · rw [hcol b o hbl]
          have h3 := (hst b hbl o).mp h1
          have hem : rfs = [] := by simpa using ht
          rw [hem] at h3
          unfold colC at h3
          split at h3
          · assumption
          · simp only [List.any_nil, Bool.false_eq_true, if_false] at h3
            split at h3 <;> cases h3
          · cases h3
        · show (if _ then _ else _) = _
          rw [if_neg hbl, h1]
      exact RepT.mono hs' _ _ _ h
    · exact RepT.flat ht h
  have hwf := wb_fst y.2 hx
  have hnd := nodup_of hn
  have hnw : ((ptWins g c.ins ps 0).map (·.1)).Nodup := by rw [ptWins_fst]; exact hnd
  have hwb := wb_spec σ.box g w col' w' c.ins ps x y.2 vs 0 hx hr (by simpa using hpts)
  have hbox : ∀ id, (σ.app none { v := .any, bx := wb σ.box c.ins ps y.2 }).box id = updL σ.box ((wb σ.box c.ins ps y.2).map fun p => (p.1, some p.2)) id := fun _ => rfl
  have hmap : ((wb σ.box c.ins ps y.2).map fun p => (p.1, some p.2)).map (·.1) = ptIds c.ins ps := by rw [← hwf]; simp
  refine ⟨g', ?_, hdat, fun b o h1 h2 => ?_, rfl, fun b o h1 h2 => ?_⟩
  rotate_left
  rotate_left
  · show (if _ then _ else _) = _
    rw [if_neg (by omega), h2]
  rotate_left
  · show (if _ then _ else _) = _
    rw [if_neg (by omega)]
    split
    · rename_i he; exact absurd he h2
    · rfl
  refine { off := hs.off, stk := hs.stk.mono hgs, pts := ?_, size := ?_, env := fun i => ?_, defers := ?_, box := fun id c1 hc1 => ?_, dom := fun id hid => ?_, tok := fun k hk' => ?_, us := hs.us, lv := hs.lv, ob := fun b hb => (by
    obtain ⟨o1, o2, o3⟩ := hs.ob b hb
    exact ⟨Nat.lt_of_lt_of_le o1 hk.size, o2, fun o' => (hk.frz b o1 o').trans (o3 o')⟩), keep := ?_, old := fun b hb o => ?_, cok := hs.cok }
  · exact hs.size
  · exact hs.pts
  · exact Rep.mono hgs _ _ (hs.env i)
  · exact hs.defers
  · rw [hbox] at hc1
    by_cases hid : id ∈ ptIds c.ins ps
    · obtain ⟨q, c2, n, k3, k2, hone⟩ := hwb id hid
      have hin := updL_in ((wb σ.box c.ins ps y.2).map fun p => (p.1, some p.2)) σ.box id (some c2) (by rw [hmap]; exact hnd) (List.mem_map.mpr ⟨_, k2, rfl⟩)
      rw [hin] at hc1
      cases hc1
      have hnr : id ∉ rfs := disj_of hdj id hid
      -- cells of this box that were not handed on
      have hnotin : ∀ b o, g.col b o = .bx id → q b o = false → ∀ id', colC g rfs (ptWins g c.ins ps 0) b o ≠ .bx id' := by
        intro b o hb hq id'
        have hnr' : rfs.any (Nat.beq id) = false := by
          rw [List.any_eq_false]
          intro r hr' hb2
          exact hnr (by rw [Nat.eq_of_beq_eq_true hb2]; exact hr')
        have hnf : (ptWins g c.ins ps 0).find? (fun p => Nat.beq p.1 id && p.2.1 b o) = none := by
          rw [List.find?_eq_none]
          intro e he hq'
          simp only [Bool.and_eq_true] at hq'
          have he1 : e.1 = id := Nat.eq_of_beq_eq_true hq'.1
          have : e = (id, q, n) := inj_fst hnw he k3 he1
          subst this
          simp only at hq'
          rw [hq] at hq'
          cases hq'.2
        unfold colC
        rw [hb]
        simp only [hnr', Bool.false_eq_true, if_false]
        rw [hnf]
        simp
      rcases hone with ⟨t, off, cs, z, us, k1, rfl, rfl, ⟨z0, k4⟩, k5, k6, k7⟩ | ⟨t, x0, z, k1, rfl, k4, k5, k6⟩ | ⟨u, t, k, j, x0, yy, z, z', k1, k4, k5, k6, rfl, k7, rfl, k8, k9, k10⟩
      rotate_left
      · rcases k1 with ⟨k1, hfl⟩ | ⟨k1, hfl⟩
        · obtain ⟨d1, b1, ⟨b2, b4, b5, b6, b7⟩, b3⟩ := hs.box id _ k1
          unfold owBox
          rw [hfl]
          refine ⟨d1, k4.symm, ⟨b2, fun hp => b4 (by omega), b5, by rw [k4, b1]; exact b6, k5⟩, fun i hi => ?_⟩
          obtain ⟨b, o, e1, e2⟩ := k6 (by omega)
          obtain ⟨us, e3, e4⟩ := e2 i hi
          have hp0 : 0 < x0.len := by omega
          have e5 := b4 hp0
          rw [e1] at e5
          simp only [Option.some.injEq, Addr.mk.injEq, and_true] at e5
          obtain ⟨rfl, rfl⟩ := e5
          obtain ⟨vs0, f1, f2⟩ := b3 i (by omega)
          refine ⟨us, RepC.flat hfl e3, fun j u hj => ?_⟩
          have hjl : j < vs0.length := by rw [f1.length, ← e3.length]; exact (List.getElem?_eq_some_iff.mp hj).1
          obtain ⟨a1, a2, a3⟩ := f2 j vs0[j] (List.getElem?_eq_getElem hjl)
          exact ⟨(hcol _ _ (hlt a2)).trans a1, e4 j u hj, (hk.frz _ (hlt a2) _).trans a3⟩
        · obtain ⟨d1, b1, ⟨b2, b4, b5, b6, b7⟩, bf, pa, b3⟩ := hs.box id _ k1
          unfold owBox
          rw [hfl]
          refine ⟨d1, k4.symm, ⟨b2, fun hp => b4 (by omega), b5, by rw [k4, b1]; exact b6, k5⟩, bf, pa, fun i hi => ?_⟩
          obtain ⟨b, o, e1, e2⟩ := k6 (by omega)
          obtain ⟨us, e3, e4⟩ := e2 i hi
          have hp0 : 0 < x0.len := by omega
          have e5 := b4 hp0
          rw [e1] at e5
          simp only [Option.some.injEq, Addr.mk.injEq, and_true] at e5
          obtain ⟨rfl, rfl⟩ := e5
          obtain ⟨vs0, f1, f2⟩ := b3 i (by omega)
          rw [if_pos (own_none _)] at f1
          refine ⟨us, ?_, fun j u hj => ?_⟩
          · rw [if_pos (own_none _)]
            exact RepC.toE (fun b o v a1 a2 a3 => ⟨(hcol _ _ (hlt a2)).trans a1, (hk.frz _ (hlt a2) _).trans a3⟩) f1 e3 bf fun n u hn => (f2 n u hn).2.2.1
          · have hjl : j < vs0.length := by rw [f1.length, ← e3.length]; exact (List.getElem?_eq_some_iff.mp hj).1
            obtain ⟨a1, a0, a2, a3⟩ := f2 j vs0[j] (List.getElem?_eq_getElem hjl)
            exact ⟨(hcol _ _ (hlt a2)).trans a1, a0, e4 j u hj, (hk.frz _ (hlt a2) _).trans a3⟩
      · obtain ⟨d1, b1, b2, bf, pa, b3⟩ := hs.box id _ k1
        have hkx : k < x0.len := by rw [← b1]; exact k7
        -- the window's cells
        obtain ⟨usk, f1, _⟩ := b3 k hkx
        rw [if_pos (own_none _)] at f1
        obtain ⟨⟨v0, a0, cap0, e0, e1, e2, e3, e4⟩, _⟩ := slN_rep k4 f1 bf
        rw [Nat.zero_add] at e1 e4
        have hwin : ∀ b o, winH (g.nh id k j).1 ((g.nh id k j).2.1 * u.size) b o = true → pa b o = some (k, j) := by
          intro b o hq
          rw [e1] at hq
          cases a0 with
          | none => simp [winH] at hq
          | some ad =>
            simp only [winH, Bool.and_eq_true, decide_eq_true_eq] at hq
            obtain ⟨q1, q2, q3⟩ := hq
            have q1 := Nat.eq_of_beq_eq_true q1
            subst q1
            have hsz : 0 < u.size := by
              rcases Nat.eq_zero_or_pos u.size with h0 | h0
              · rw [h0] at q3; omega
              · exact h0
            have hm : (o - ad.off) / u.size < yy.len := by
              rw [Nat.div_lt_iff_lt_mul hsz]; omega
            obtain ⟨us', g1, g2⟩ := (e4 ad rfl).2 _ hm
            have hr : (o - ad.off) % u.size < us'.length := by rw [g1.length]; exact Nat.mod_lt _ hsz
            have := (g2 _ us'[(o - ad.off) % u.size] (List.getElem?_eq_getElem hr)).2.1
            have e : ad.off + (o - ad.off) / u.size * u.size + (o - ad.off) % u.size = o := by
              have := Nat.div_add_mod (o - ad.off) u.size
              rw [Nat.mul_comm] at this
              omega
            rw [e] at this
            exact this
        have hkeep : ∀ b o v, g.col b o = .bx id → pa b o ≠ some (k, j) → w.cell? ⟨b, o, none⟩ = some v → w.frozen? ⟨b, o, none⟩ = false → g'.col b o = .bx id ∧ w'.cell? ⟨b, o, none⟩ = some v ∧ w'.frozen? ⟨b, o, none⟩ = false := by
          intro b o v a1 a2 a3 a4
          refine ⟨(hcol _ _ (hlt a3)).trans a1, (hk.cel _ (hlt a3) _ (hnotin b o a1 ?_)).trans a3, (hk.frz _ (hlt a3) _).trans a4⟩
          cases hq : winH (g.nh id k j).1 ((g.nh id k j).2.1 * u.size) b o with
          | false => rfl
          | true => exact absurd (hwin b o hq) a2
        refine ⟨d1, b1, b2, bf, pa, fun i hi => ?_⟩
        obtain ⟨us, h5, h6⟩ := b3 i hi
        rw [if_pos (own_none _)] at h5
        refine ⟨us, ?_, fun n v hn => ?_⟩
        · rw [if_pos (own_none _)]
          by_cases hik : i = k
          · subst hik
            have e : (x0.set i z').get i = z' := by simp [L.set]
            rw [e]
            refine RepE.setN hgs.toStays k4 k6 (fun v hv => ?_) (fun b o v j' hne a1 a2 a3 a4 => ?_) h5
            · rw [Nat.zero_add] at hv ⊢
              obtain ⟨a', cap', f2, f3, f4, f5, f6⟩ := hv
              rw [f3] at k8 k9 k10
              simp only at k8 k9 k10
              refine ⟨a', cap', by rw [k8]; exact f2, by rw [k8]; exact f3, by rw [k8]; exact f4, ⟨f5.1, k9⟩, fun ad had => ⟨fun hp => (f6 ad had).1 (by omega), fun m hm => ?_⟩⟩
              obtain ⟨b, o, p1, p2⟩ := k10 (by omega)
              rw [had] at p1
              simp only [Option.some.injEq] at p1
              subst p1
              obtain ⟨us2, r1, r2⟩ := p2 m hm
              obtain ⟨us', q1, q2⟩ := (f6 _ had).2 m (by omega)
              refine ⟨us2, RepT.flat k5 r1, fun q v hq => ?_⟩
              have hl : q < us'.length := by rw [q1.length, ← r1.length]; exact (List.getElem?_eq_some_iff.mp hq).1
              obtain ⟨a1, a2, a3, a4⟩ := q2 q us'[q] (List.getElem?_eq_getElem hl)
              exact ⟨(hcol _ _ (hlt a3)).trans a1, a2, r2 q v hq, (hk.frz _ (hlt a3) _).trans a4⟩
            · rw [Nat.zero_add] at hne
              obtain ⟨c1, c2, c3⟩ := hkeep b o v a1 (by rw [a2]; simpa using hne) a3 a4
              exact ⟨c1, a2, c2, c3⟩
          · have e : (x0.set k z').get i = x0.get i := by
              simp only [L.set]
              cases hbq : Nat.beq i k with
              | true => exact absurd (Nat.eq_of_beq_eq_true hbq) hik
              | false => rfl
            rw [e]
            refine RepE.mono hgs.toStays (fun _ => rfl) (fun b o v j' a1 a2 a3 a4 => ?_) _ _ _ _ h5
            obtain ⟨c1, c2, c3⟩ := hkeep b o v a1 (by rw [a2]; simp [hik]) a3 a4
            exact ⟨c1, a2, c2, c3⟩
        · obtain ⟨a1, a2, a3, a4⟩ := h6 n v hn
          obtain ⟨c1, c2, c3⟩ := hkeep _ _ v a1 (by rw [a2]; simp) a3 a4
          exact ⟨c1, a2, c2, c3⟩
      obtain ⟨d1, d2⟩ := hs.box id _ k1
      refine ⟨d1, ?_⟩
      obtain ⟨ws, d3, d4⟩ := d2
      have hlen := unA_len k4
      simp only [List.length_take, List.length_drop] at hlen
      have hwl : ws.length = cs.length := d3.length
      have hus : us.length = t.size := k5.length
      have hz' : RepT g'.col w' t z us := hdat t (by
        rcases hfl with h | h
        · exact .inl h
        · exact .inr (k7 h)) z us k5
      refine ⟨ws.take off ++ us ++ ws.drop (off + us.length), ?_, fun j u hj => ?_⟩
      · unfold splice
        rw [pk_len, ← hus]
        exact Reps.append (Reps.append (Reps.mono hgs _ _ (d3.take off)) (reps_pk hz')) (Reps.mono hgs _ _ (d3.drop _))
      · have hjl : j < ws.length := by
          have h5 := (List.getElem?_eq_some_iff.mp hj).1
          simp only [List.length_append, List.length_take, List.length_drop] at h5; omega
        obtain ⟨a1, a2, a3⟩ := d4 j ws[j] (List.getElem?_eq_getElem hjl)
        refine ⟨(hcol _ _ (hlt a2)).trans a1, ?_, (hk.frz _ (hlt a2) _).trans a3⟩
        by_cases h6 : off ≤ j ∧ j < off + us.length
        · rw [List.getElem?_append_left (by simp; omega), List.getElem?_append_right (by simp; omega)] at hj
          have := k6 _ u hj
          simp only [List.length_take] at this
          rw [show (g.bx id).2 + off + (j - min off ws.length) = (g.bx id).2 + j by omega] at this
          exact this
        · have hu : ws[j]? = some u := by
            by_cases h7 : j < off
            · rw [List.append_assoc, List.getElem?_append_left (by simp; omega), List.getElem?_take, if_pos h7] at hj
              exact hj
            · rw [List.getElem?_append_right (by simp; omega), List.getElem?_drop] at hj
              rw [← hj]
              congr 1
              simp; omega
          rw [List.getElem?_eq_getElem hjl] at hu
          cases hu
          refine (hk.cel _ (hlt a2) _ (hnotin _ _ a1 ?_)).trans a2
          cases hq : winQ ((g.bx id).2 + off) ((g.bx id).2 + off + t.size) (g.bx id).1 ((g.bx id).2 + j) with
          | false => rfl
          | true =>
            simp only [winQ, Bool.and_eq_true, decide_eq_true_eq] at hq
            omega
    · rw [updL_notin _ _ _ (by rw [hmap]; exact hid)] at hc1
      obtain ⟨d1, d2⟩ := hs.box id c1 hc1
      refine ⟨d1, BoxRep.stay d1 hgs (fun bb o u a1 a2 a3 => ⟨(hcol _ _ (hlt a2)).trans a1, (hk.cel _ (hlt a2) _ fun id' => ?_).trans a2, (hk.frz _ (hlt a2) _).trans a3⟩) (fun ob c1 c2 c3 => ⟨(hk.blk _ (heap_lt c2) fun o id' => ?_).trans c2, fun o => (hcol _ _ (heap_lt c2)).trans (c1 o)⟩) d2⟩
      rotate_left
      · unfold colC
        rw [c1]
        simp only
        split
        · simp
        · have hnf : (ptWins g c.ins ps 0).find? (fun p => Nat.beq p.1 id && p.2.1 (g.bx id).1 o) = none := by
            rw [List.find?_eq_none]
            intro e he hq
            simp only [Bool.and_eq_true] at hq
            have he1 : e.1 = id := Nat.eq_of_beq_eq_true hq.1
            have hm : id ∈ (ptWins g c.ins ps 0).map (·.1) := List.mem_map.mpr ⟨e, he, he1⟩
            rw [ptWins_fst] at hm
            exact hid hm
          rw [hnf]
          simp
      unfold colC
      rw [a1]
      simp only
      split
      · simp
      · have hnf : (ptWins g c.ins ps 0).find? (fun p => Nat.beq p.1 id && p.2.1 bb o) = none := by
          rw [List.find?_eq_none]
          intro e he hq
          simp only [Bool.and_eq_true] at hq
          have he1 : e.1 = id := Nat.eq_of_beq_eq_true hq.1
          have hm : id ∈ (ptWins g c.ins ps 0).map (·.1) := List.mem_map.mpr ⟨e, he, he1⟩
          rw [ptWins_fst] at hm
          exact hid hm
        rw [hnf]
        simp
  · rw [hbox]
    by_cases hidp : id ∈ ptIds c.ins ps
    · obtain ⟨q, c2, n, _, k2, _⟩ := hwb id hidp
      exact ⟨_, updL_in _ _ _ _ (by rw [hmap]; exact hnd) (List.mem_map.mpr ⟨_, k2, rfl⟩)⟩
    · rw [updL_notin _ _ _ (by rw [hmap]; exact hidp)]
      exact hs.dom id hid
  · obtain ⟨h1, h2⟩ := hs.tok k hk'
    refine ⟨h1, fun o o1 o2 => ?_⟩
    obtain ⟨a1, ⟨u, a2⟩, a3⟩ := h2 o o1 o2
    exact ⟨(hcol _ _ (hlt a2)).trans a1, ⟨u, (hk.cel _ (hlt a2) _ (hnobx _ _ (fun id => by rw [a1]; simp))).trans a2⟩, (hk.frz _ (hlt a2) _).trans a3⟩
  · have hsz := hs.keep.size
    refine ⟨hk.os.trans hs.keep.os, hk.tape.trans hs.keep.tape, hk.output.trans hs.keep.output, Nat.le_trans hsz hk.size, fun b hb hc => ?_, fun b hb o hc => ?_, fun b hb o => ?_⟩
    · exact (hk.blk b (by omega) fun o id => hnobx b o (fun id' he => hc o id' ((hs.old b hb o).2.1 id' he)) id).trans (hs.keep.blk b hb hc)
    · exact (hk.cel b (by omega) o fun id => hnobx b o (fun id' he => hc id' ((hs.old b hb o).2.1 id' he)) id).trans (hs.keep.cel b hb o hc)
    · exact (hk.frz b (by omega) o).trans (hs.keep.frz b hb o)
  · have hsz := hs.keep.size
    rw [hcol b o (by omega)]
    exact hs.old b hb o


/-- The ghost with a box more, in memory that was nobody's. -/
def ghAdd (g : Gh) (b lo hi d : Nat) : Gh :=
  { g with col := fun b' o => if b' = b ∧ lo ≤ o ∧ o < hi then .bx d else g.col b' o, bx := upd g.bx d (b, lo), ln := upd g.ln d 0, es := upd g.es d 0, dom := fun i => i = d ∨ g.dom i }

theorem Sim.addBox (h : Sim N c0 w0 σ g a w) {dd d b o : Nat} {us : List Value} {cs : List PV} (hd : dstOk N (some dd) = true) (hpb : d < pBase) (hn : σ.box d = none) (hfree : ∀ j, j < us.length → g.col b (o + j) = .free)
    (hcell : ∀ (j : Nat) (u : Value), us[j]? = some u → w.cell? ⟨b, o + j, none⟩ = some u ∧ w.frozen? ⟨b, o + j, none⟩ = false) (hb : w0.heap.size ≤ b) (hr : Reps g w cs us) :
    Sim N c0 w0 (σ.app (some dd) { v := .bx d 0, bx := [(d, .cells cs)] }) (ghAdd g b o (o + us.length) d) (a.put (some dd) (.pointer (some ⟨b, o, none⟩))) w := by
  have hlt : dd < a.tmps.size := by rw [h.size]; exact dstOk_lt hd
  have hin : ∀ b' o', b' = b ∧ o ≤ o' ∧ o' < o + us.length → g.col b' o' = .free := by
    rintro b' o' ⟨rfl, h1, h2⟩
    have := hfree (o' - o) (by omega)
    rwa [show o + (o' - o) = o' by omega] at this
  have hcol : ∀ b' o', g.col b' o' ≠ .free → (ghAdd g b o (o + us.length) d).col b' o' = g.col b' o' := fun b' o' hne => by
    show (if _ then _ else _) = _
    rw [if_neg (fun q => hne (hin b' o' q))]
  have hnd : ∀ id, g.dom id → id ≠ d := by
    rintro id hid rfl
    obtain ⟨c, hc⟩ := h.dom _ hid
    rw [hn] at hc; cases hc
  have hs : GStays g w (ghAdd g b o (o + us.length) d) w :=
    { st := fun b' o' v h1 h2 => ⟨by rw [hcol _ _ (by rw [h1]; simp)]; exact h1, h2⟩
      dom := fun id hid => ⟨.inr hid, by show upd _ _ _ _ = _; rw [upd_eq, if_neg (hnd id hid)], by show upd _ _ _ _ = _; rw [upd_eq, if_neg (hnd id hid)], by show upd _ _ _ _ = _; rw [upd_eq, if_neg (hnd id hid)], rfl, rfl⟩
      us := fun k hk => ⟨hk, fun l => ⟨l, rfl, fun _ e => e⟩⟩ }
  have ebx : (ghAdd g b o (o + us.length) d).bx d = (b, o) := by show upd _ _ _ _ = _; rw [upd_eq, if_pos rfl]
  refine { off := h.off, stk := h.stk.mono hs, pts := ?_, size := by simp [Act.put, h.size], env := fun i => ?_, defers := h.defers, box := fun id c hc => ?_, dom := fun id hid => ?_, tok := fun k hk => ?_, us := h.us, lv := h.lv, ob := h.ob, keep := h.keep, old := fun b' hb' o' => ?_, cok := h.cok }
  · intro id hid hdom
    have hne : id ≠ d := by omega
    have hdom : id = d ∨ g.dom id := hdom
    obtain ⟨_, e1, e2, _, e4, e5⟩ := hs.dom id (hdom.resolve_left hne)
    rw [e1, e2, e4, e5]
    exact h.pts id hid (hdom.resolve_left hne)
  · rw [getD_put _ _ _ _ hlt]
    show Rep _ _ (upd σ.env dd _ i) _
    rw [upd_eq]
    split
    · simp only [Rep]
      exact ⟨.inl rfl, by rw [ebx, Nat.add_zero]⟩
    · exact Rep.mono hs _ _ (h.env i)
  · change upd σ.box d (some (.cells cs)) id = some c at hc
    rw [upd_eq] at hc
    split at hc
    · rename_i e; subst e
      cases hc
      refine ⟨.inl rfl, us, Reps.mono hs _ _ hr, fun j u hj => ?_⟩
      rw [ebx]
      refine ⟨?_, hcell j u hj⟩
      show (if _ then _ else _) = _
      have hjl := (List.getElem?_eq_some_iff.mp hj).1
      rw [if_pos ⟨rfl, by omega, by omega⟩]
    · obtain ⟨h1, h2⟩ := h.box id c hc
      exact ⟨.inr h1, BoxRep.stay h1 hs (fun bb o' u a1 a2 a3 => ⟨(hcol _ _ (by rw [a1]; simp)).trans a1, a2, a3⟩) (fun ob c1 c2 c3 => ⟨c2, fun o' => (hcol _ _ (by rw [c1]; simp)).trans (c1 o')⟩) h2⟩
  · show ∃ c, upd σ.box d (some (.cells cs)) id = some c
    rw [upd_eq]
    split
    · exact ⟨_, rfl⟩
    · rename_i hne
      rcases hid with e | hid
      · exact absurd e hne
      · exact h.dom id hid
  · obtain ⟨h1, h2⟩ := h.tok k hk
    refine ⟨h1, fun o' o1 o2 => ?_⟩
    obtain ⟨a1, a2, a3⟩ := h2 o' o1 o2
    exact ⟨(hcol (g.tk k).1 o' (by rw [a1]; simp)).trans a1, a2, a3⟩
  · have hne : ¬ (b' = b ∧ o ≤ o' ∧ o' < o + us.length) := by omega
    have : (ghAdd g b o (o + us.length) d).col b' o' = g.col b' o' := if_neg hne
    rw [this]
    exact h.old b' hb' o'

theorem updL_comm {α : Type} : ∀ (l : List (Nat × α)) (f : Nat → α) (d : Nat) (v : α), d ∉ l.map (·.1) → updL (upd f d v) l = upd (updL f l) d v
  | [], f, d, v, _ => rfl
  | (i, u) :: r, f, d, v, h => by
    simp only [List.map_cons, List.mem_cons, not_or] at h
    simp only [updL]
    have : upd (upd f d v) i u = upd (upd f i u) d v := by
      funext j
      rw [upd_eq, upd_eq, upd_eq, upd_eq]
      by_cases h1 : j = i
      · rw [if_pos h1, if_neg (by rw [h1]; exact Ne.symm h.1), if_pos h1]
      · rw [if_neg h1, if_neg h1]
    rw [this]
    exact updL_comm r _ d v h.2

theorem ptr_inv {col' : Nat → Nat → Col} {w w' : World} {d : Nat} {v' : PV} {b' : List (Nat × BoxC)} : ∀ {ts : List Ty} {y : TysT ts} {v : Value}, PtrRep col' w w' ts y v → ptrRes d ts y = some (v', b') →
    ∃ (t : Ty) (z : t.T) (b o : Nat) (us : List Value), t ∈ ts ∧ v' = .bx d 0 ∧ b' = [(d, .cells (pk t z))] ∧ v = .pointer (some ⟨b, o, none⟩) ∧ w.heap.size ≤ b ∧ RepT col' w' t z us ∧
      ∀ (j : Nat) (u : Value), us[j]? = some u → col' b (o + j) = .bx oBase ∧ w'.cell? ⟨b, o + j, none⟩ = some u ∧ w'.frozen? ⟨b, o + j, none⟩ = false
  | [], _, _, h, _ => h.elim
  | [t], y, v, h, hp => by
    simp only [ptrRes, Option.some.injEq, Prod.mk.injEq] at hp
    obtain ⟨rfl, rfl⟩ := hp
    obtain ⟨b, o, us, h1, h2, h3, h4⟩ := h
    exact ⟨t, y.1, b, o, us, by simp, rfl, rfl, h1, h2, h3, h4⟩
  | _ :: _ :: _, _, _, h, _ => h.elim

end

end Go.VE
