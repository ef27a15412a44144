import Derived.Test.YtnjlpdagdedbaaaGreatViX
/- A row takes over the rows that its new element's slices lie in. -/
namespace Go.VE

section
variable {P : Program} {N : Fr} {c0 : Nat → Nat → Col} {w0 : World} {σ : AS} {g : Gh} {a : Act} {w : World}

theorem hasNat_mem {l : List Nat} {k : Nat} : hasNat l k = true ↔ k ∈ l := by
  unfold hasNat
  rw [List.any_eq_true]
  constructor
  · rintro ⟨x, hx, he⟩
    rw [Nat.eq_of_beq_eq_true he]; exact hx
  · intro h; exact ⟨k, h, by simp⟩
theorem hasNat_not {l : List Nat} {k : Nat} : (!hasNat l k) = true ↔ k ∉ l := by
  rw [← hasNat_mem]; simp

open Classical in
/-- The ghost behind it. -/
noncomputable def ghAbs (g : Gh) (ids : List Nat) (id i : Nat) (hdr : Nat → Option Addr × Nat × Nat) : Gh :=
  { g with col := fun b o => match g.col b o with
      | .bx k => if k ∈ ids then .bx id else .bx k
      | c => c,
           dom := fun k => g.dom k ∧ k ∉ ids, nh := upd g.nh id fun i1 j1 => if i1 = i then hdr j1 else g.nh id i1 j1 }

theorem ghAbs_st {ids : List Nat} {id i : Nat} {hdr : Nat → Option Addr × Nat × Nat} {b o : Nat} (h : g.col b o = .st) : (ghAbs g ids id i hdr).col b o = .st := by
  simp [ghAbs, h]
theorem ghAbs_tk {ids : List Nat} {id i k : Nat} {hdr : Nat → Option Addr × Nat × Nat} {b o : Nat} (h : g.col b o = .tk k) : (ghAbs g ids id i hdr).col b o = .tk k := by
  simp [ghAbs, h]
theorem ghAbs_in {ids : List Nat} {id i k : Nat} {hdr : Nat → Option Addr × Nat × Nat} {b o : Nat} (h : g.col b o = .bx k) (hk : k ∈ ids) : (ghAbs g ids id i hdr).col b o = .bx id := by
  simp [ghAbs, h, hk]
theorem ghAbs_out {ids : List Nat} {id i k : Nat} {hdr : Nat → Option Addr × Nat × Nat} {b o : Nat} (h : g.col b o = .bx k) (hk : k ∉ ids) : (ghAbs g ids id i hdr).col b o = .bx k := by
  simp [ghAbs, h, hk]
theorem ghAbs_nh {ids : List Nat} {id i k : Nat} {hdr : Nat → Option Addr × Nat × Nat} (h : k ≠ id) : (ghAbs g ids id i hdr).nh k = g.nh k := by
  show upd _ _ _ _ = _
  rw [upd_eq, if_neg h]

/-- Values that name nothing of what is taken over. -/
theorem leafF_rep {ids : List Nat} {id i : Nat} {hdr : Nat → Option Addr × Nat × Nat} {w' : World} (hst : Stays g.col w (ghAbs g ids id i hdr).col w') {p : PV} {v : Value} (hp : leafF ids id p = true) (hr : Rep g w p v) : Rep (ghAbs g ids id i hdr) w' p v := by
  cases p <;> simp only [leafF] at hp <;> try cases hp
  case int => simpa only [Rep] using hr
  case bool => simpa only [Rep] using hr
  case str => simpa only [Rep] using hr
  case nils => simpa only [Rep] using hr
  case any => simp only [Rep]
  case sl t x tk =>
    simp only [Rep] at hr ⊢
    obtain ⟨ad, cap, e1, e2, e3⟩ := hr
    refine ⟨ad, cap, e1, RepT.mono hst _ _ _ e2, ?_⟩
    cases tk <;> exact e3
  case bx k off =>
    simp only [Rep] at hr ⊢
    exact ⟨⟨hr.1, hasNat_not.mp hp⟩, hr.2⟩
  case ms k =>
    simp only [Rep] at hr ⊢
    exact ⟨⟨hr.1, hasNat_not.mp hp⟩, hr.2⟩
  case me k j off =>
    simp only [Rep] at hr ⊢
    exact ⟨⟨hr.1, hasNat_not.mp hp⟩, hr.2⟩
  case mn k j n =>
    simp only [Rep] at hr ⊢
    simp only [Bool.and_eq_true] at hp
    have hne : k ≠ id := by
      intro e
      subst e
      simp at hp
    rw [ghAbs_nh hne]
    exact ⟨⟨hr.1, hasNat_not.mp hp.1⟩, hr.2⟩

theorem leafFs_rep {ids : List Nat} {id i : Nat} {hdr : Nat → Option Addr × Nat × Nat} {w' : World} (hst : Stays g.col w (ghAbs g ids id i hdr).col w') : ∀ {ps : List PV} {vs : List Value}, ps.all (leafF ids id) = true → Reps g w ps vs → Reps (ghAbs g ids id i hdr) w' ps vs
  | [], vs, _, h => by simpa only [Reps] using h
  | p :: ps, vs, hp, h => by
    simp only [List.all_cons, Bool.and_eq_true] at hp
    simp only [Reps] at h ⊢
    obtain ⟨u, us, e, h1, h2⟩ := h
    exact ⟨u, us, e, leafF_rep hst hp.1 h1, leafFs_rep hst hp.2 h2⟩

theorem freeB_rep {ids : List Nat} {id i : Nat} {hdr : Nat → Option Addr × Nat × Nat} {w' : World} (hst : Stays g.col w (ghAbs g ids id i hdr).col w') {p : PV} {v : Value} (hp : freeB ids id p = true) (hr : Rep g w p v) : Rep (ghAbs g ids id i hdr) w' p v := by
  cases p with
  | agg cs =>
    simp only [freeB] at hp
    simp only [Rep] at hr ⊢
    obtain ⟨vs, e, h⟩ := hr
    exact ⟨vs, e, leafFs_rep hst hp h⟩
  | rf cs =>
    simp only [freeB] at hp
    simp only [Rep] at hr ⊢
    obtain ⟨b, o, us, e, h, hc⟩ := hr
    exact ⟨b, o, us, e, leafFs_rep hst hp h, hc.mono hst⟩
  | fn f cs =>
    simp only [freeB] at hp
    simp only [Rep] at hr ⊢
    obtain ⟨vs, e, h⟩ := hr
    exact ⟨vs, e, leafFs_rep hst hp h⟩
  | tup cs =>
    simp only [freeB] at hp
    simp only [Rep] at hr ⊢
    obtain ⟨vs, e, h⟩ := hr
    exact ⟨vs, e, leafFs_rep hst hp h⟩
  | _ => exact leafF_rep hst hp hr

theorem scrP_rep {ids : List Nat} {id i : Nat} {hdr : Nat → Option Addr × Nat × Nat} {w' : World} (hst : Stays g.col w (ghAbs g ids id i hdr).col w') {p : PV} {v : Value} (hr : Rep g w p v) : Rep (ghAbs g ids id i hdr) w' (scrP ids id p) v := by
  unfold scrP
  cases hb : freeB ids id p with
  | true => exact freeB_rep hst hb hr
  | false => simp only [cond_false, Rep]
theorem scrPs_rep {ids : List Nat} {id i : Nat} {hdr : Nat → Option Addr × Nat × Nat} {w' : World} (hst : Stays g.col w (ghAbs g ids id i hdr).col w') : ∀ {ps : List PV} {vs : List Value}, Reps g w ps vs → Reps (ghAbs g ids id i hdr) w' (ps.map (scrP ids id)) vs
  | [], vs, h => by simpa only [Reps, List.map_nil] using h
  | p :: ps, vs, h => by
    simp only [Reps] at h
    obtain ⟨u, us, e, h1, h2⟩ := h
    simp only [List.map_cons, Reps]
    exact ⟨u, us, e, scrP_rep hst h1, scrPs_rep hst h2⟩
theorem scrStk_rep {ids : List Nat} {id i : Nat} {hdr : Nat → Option Addr × Nat × Nat} {w' : World} (hst : Stays g.col w (ghAbs g ids id i hdr).col w') : ∀ {es : List (Nat → PV)} {fs : List (Nat → Value)}, StkRep g w es fs → StkRep (ghAbs g ids id i hdr) w' (es.map fun e j => scrP ids id (e j)) fs
  | [], _, k => k
  | _ :: _, _, ⟨f, s, e, h1, h2⟩ => ⟨f, s, e, fun i => scrP_rep hst (h1 i), scrStk_rep hst h2⟩

open Classical in
/-- Whose a cell is, by the box that it was of. -/
noncomputable def paOf (g : Gh) (ids : List Nat) (i : Nat) (lab : Nat → Option Nat) (pa : Nat → Nat → Option (Nat × Nat)) : Nat → Nat → Option (Nat × Nat) := fun b o => match g.col b o with
  | .bx k => if k ∈ ids then (lab k).map fun j => (i, j) else pa b o
  | _ => pa b o
theorem paOf_in {ids : List Nat} {i k : Nat} {lab : Nat → Option Nat} {pa : Nat → Nat → Option (Nat × Nat)} {b o : Nat} (h : g.col b o = .bx k) (hk : k ∈ ids) : paOf g ids i lab pa b o = (lab k).map fun j => (i, j) := by simp [paOf, h, hk]
theorem paOf_out {ids : List Nat} {i k : Nat} {lab : Nat → Option Nat} {pa : Nat → Nat → Option (Nat × Nat)} {b o : Nat} (h : g.col b o = .bx k) (hk : k ∉ ids) : paOf g ids i lab pa b o = pa b o := by simp [paOf, h, hk]

theorem paOf_not {ids : List Nat} {i : Nat} {lab : Nat → Option Nat} {pa : Nat → Nat → Option (Nat × Nat)} {b o : Nat} (h : ¬ ∃ k, g.col b o = .bx k ∧ k ∈ ids) : paOf g ids i lab pa b o = pa b o := by
  unfold paOf
  split
  · rename_i k hk
    rw [if_neg fun hki => h ⟨k, hk, hki⟩]
  · rfl

theorem msIds_append : ∀ (a b : List PV), msIds (a ++ b) = msIds a ++ msIds b
  | [], b => rfl
  | p :: a, b => by
    have := msIds_append a b
    cases p <;> simp [msIds, this]

/-- The new element owns its slices. -/
theorem unM_rep (hs : Sim N c0 w0 σ g a w) {ids : List Nat} {id i : Nat} {col' : Nat → Nat → Col} (hcol : ∀ b o k, g.col b o = .bx k → k ∈ ids → col' b o = .bx id) (pa : Nat → Nat → Option (Nat × Nat)) : ∀ {t : Ty} {cs r : List PV} {y : t.T} {vs : List Value} (j : Nat), unM σ.box t cs = some (y, r) → Reps g w cs vs → t.fl1 = true →
    ∃ c1 v1 v2, cs = c1 ++ r ∧ vs = v1 ++ v2 ∧ Reps g w r v2 ∧ (∀ k ∈ msIds c1, k < pBase) ∧ ((∀ k ∈ msIds c1, k ∈ ids) → (msIds c1).Nodup → ∃ hdr lab, (∀ k n, lab k = some n → k ∈ msIds c1) ∧ RepE col' w id (fun _ => hdr) (paOf g ids i lab pa) i t y v1 j) := by
  intro t
  induction t with
  | int k =>
    intro cs r y vs j h hr _
    cases cs with
    | nil => simp [unM] at h
    | cons p ps =>
      cases p <;> simp [unM] at h
      obtain ⟨rfl, rfl, rfl⟩ := h
      simp only [Reps, Rep] at hr
      obtain ⟨u, us, rfl, rfl, h3⟩ := hr
      exact ⟨[_], [_], us, rfl, rfl, h3, by simp [msIds], fun _ _ => ⟨fun _ => (none, 0, 0), fun _ => none, by simp, rfl⟩⟩
  | bool =>
    intro cs r y vs j h hr _
    cases cs with
    | nil => simp [unM] at h
    | cons p ps =>
      cases p <;> simp [unM] at h
      obtain ⟨rfl, rfl⟩ := h
      simp only [Reps, Rep] at hr
      obtain ⟨u, us, rfl, rfl, h3⟩ := hr
      exact ⟨[_], [_], us, rfl, rfl, h3, by simp [msIds], fun _ _ => ⟨fun _ => (none, 0, 0), fun _ => none, by simp, rfl⟩⟩
  | str =>
    intro cs r y vs j h hr _
    cases cs with
    | nil => simp [unM] at h
    | cons p ps =>
      cases p <;> simp [unM] at h
      obtain ⟨rfl, rfl⟩ := h
      simp only [Reps, Rep] at hr
      obtain ⟨u, us, rfl, rfl, h3⟩ := hr
      exact ⟨[_], [_], us, rfl, rfl, h3, by simp [msIds], fun _ _ => ⟨fun _ => (none, 0, 0), fun _ => none, by simp, rfl⟩⟩
  | unit =>
    intro cs r y vs j h hr _
    simp [unM] at h
    subst h
    exact ⟨[], [], vs, rfl, rfl, hr, by simp [msIds], fun _ _ => ⟨fun _ => (none, 0, 0), fun _ => none, by simp, rfl⟩⟩
  | pair p q ihp ihq =>
    intro cs r y vs j h hr hf
    simp only [Ty.fl1, Bool.and_eq_true] at hf
    simp only [unM] at h
    split at h
    · rename_i x1 r1 h1
      split at h
      · rename_i x2 r2 h2
        simp only [Option.some.injEq, Prod.mk.injEq] at h
        obtain ⟨rfl, rfl⟩ := h
        obtain ⟨c1, v1, v2, rfl, rfl, k1, k2, k3⟩ := ihp j h1 hr hf.1
        obtain ⟨c2, v3, v4, rfl, rfl, m1, m2, m3⟩ := ihq (j + p.nsl) h2 k1 hf.2
        refine ⟨c1 ++ c2, v1 ++ v3, v4, by simp, by simp, m1, fun k hk => ?_, fun hin hnd => ?_⟩
        · rw [msIds_append] at hk
          rcases List.mem_append.mp hk with hk | hk
          · exact k2 k hk
          · exact m2 k hk
        · rw [msIds_append] at hin hnd
          rw [List.nodup_append] at hnd
          obtain ⟨n1, n2, n3⟩ := hnd
          obtain ⟨hdr1, lab1, l1, e1⟩ := k3 (fun k hk => hin k (List.mem_append_left _ hk)) n1
          obtain ⟨hdr2, lab2, l2, e2⟩ := m3 (fun k hk => hin k (List.mem_append_right _ hk)) n2
          refine ⟨fun n => if n < j + p.nsl then hdr1 n else hdr2 n, fun k => match lab1 k with | some n => some n | none => lab2 k, fun k n hk => ?_, v1, v3, rfl, ?_, ?_⟩
          · rw [msIds_append]
            cases hb : lab1 k with
            | some n' => exact List.mem_append_left _ (l1 k n' hb)
            | none =>
              simp only [hb] at hk
              exact List.mem_append_right _ (l2 k n hk)
          · refine RepE.monoR (Stays.refl _ _) _ _ _ _ (fun j' q1 q2 => if_pos q2) (fun b o v j' _ _ a1 a2 a3 a4 => ⟨a1, ?_, a3, a4⟩) e1
            by_cases hc : ∃ k, g.col b o = .bx k ∧ k ∈ ids
            · obtain ⟨k, hk, hki⟩ := hc
              rw [paOf_in hk hki] at a2 ⊢
              cases hb : lab1 k with
              | none => rw [hb] at a2; cases a2
              | some n' => rw [hb] at a2; exact a2
            · rw [paOf_not hc] at a2 ⊢; exact a2
          · refine RepE.monoR (Stays.refl _ _) _ _ _ _ (fun j' q1 q2 => if_neg (by omega)) (fun b o v j' _ _ a1 a2 a3 a4 => ⟨a1, ?_, a3, a4⟩) e2
            by_cases hc : ∃ k, g.col b o = .bx k ∧ k ∈ ids
            · obtain ⟨k, hk, hki⟩ := hc
              rw [paOf_in hk hki] at a2 ⊢
              cases hb2 : lab2 k with
              | none => rw [hb2] at a2; cases a2
              | some n2 =>
                rw [hb2] at a2
                cases hb : lab1 k with
                | none => exact a2
                | some n' => exact absurd rfl (n3 k (l1 k n' hb) k (l2 k n2 hb2))
            · rw [paOf_not hc] at a2 ⊢; exact a2
      · cases h
    · cases h
  | sl t ih =>
    intro cs r y vs j h hr hf
    cases cs with
    | nil => simp [unM] at h
    | cons p ps =>
      cases p <;> simp only [unM] at h <;> try cases h
      · simp only [Reps, Rep] at hr
        obtain ⟨u, us, rfl, rfl, h3⟩ := hr
        exact ⟨[_], [_], us, rfl, rfl, h3, by simp [msIds], fun _ _ => ⟨fun _ => (none, 0, 0), fun _ => none, by simp, none, 0, rfl, rfl, Nat.le_refl _, ⟨fun _ => rfl, fun _ => rfl, fun _ => rfl⟩, fun ad had => by cases had⟩⟩
      · rename_i k
        split at h
        · rename_i t' x hb
          split at h
          · rename_i hbq
            obtain rfl := Ty.eq_of_beq hbq
            cases hc : (t'.flat && Nat.blt k pBase) with
            | false => rw [hc] at h; cases h
            | true =>
              rw [hc] at h
              simp only [cond_true, Option.some.injEq, Prod.mk.injEq, castT] at h
              obtain ⟨rfl, rfl⟩ := h
              simp only [Bool.and_eq_true] at hc
              simp only [Reps, Rep] at hr
              obtain ⟨u, us, rfl, ⟨hd, rfl⟩, h3⟩ := hr
              obtain ⟨b1, ⟨b2, b4, b5, b6, b7⟩, b3⟩ := (hs.box _ _ hb).2
              refine ⟨[.ms k], [_], us, rfl, rfl, h3, by simpa [msIds] using hc.2, fun hin _ => ⟨fun _ => ((g.hd k).1, x.len, (g.hd k).2), fun k' => if k' = k then some j else none, fun k' n hk => ?_, (g.hd k).1, (g.hd k).2, by rw [b1], rfl, b6, ⟨b5, b7⟩, fun ad had => ⟨fun hp => ?_, fun m hm => ?_⟩⟩⟩
              · change (if k' = k then some j else none) = some n at hk
                split at hk
                · rename_i e; simp [msIds, e]
                · cases hk
              · rw [b4 hp] at had; cases had; rfl
              · rw [b4 (by omega)] at had; cases had
                obtain ⟨us', k1, k2⟩ := b3 m hm
                refine ⟨us', RepT.flat hc.1 k1, fun q u hq => ?_⟩
                obtain ⟨a1, a2, a3⟩ := k2 q u hq
                have hki := hin k (by simp [msIds])
                exact ⟨hcol _ _ _ a1 hki, by rw [paOf_in a1 hki, if_pos rfl]; rfl, a2, a3⟩
          · cases h
        · cases h

theorem upd_if {α : Type} (b : Bool) (x y : α) : (bif b then x else y) = if b = true then x else y := by cases b <;> rfl

/-- A fresh element is stored. -/
theorem abs_sound (hs : Sim N c0 w0 σ g a w) {t : TypeId} {p q : PV} {σ' : AS} {u v : Value} (h : absD P t p q σ = some σ') (hq : Rep g w q u) (hp : Rep g w p v) :
    ∃ w' g', (Instr.storeAt t u v).run P w = .ok () w' ∧ Sim N c0 w0 σ' g' a w' := by
  cases q <;> simp only [absD] at h <;> try cases h
  rename_i id i off
  cases off with
  | succ n => cases h
  | zero =>
  simp only at h
  split at h
  · rename_i ty x own hb
    split at h
    · rename_i hh
      obtain ⟨hsol, hz, hnb⟩ := hh
      simp only [Bool.and_eq_true] at hnb
      have hidb : id < pBase := by simpa using hnb.2
      have hnd := nodup_of hnb.1
      rw [List.nodup_cons] at hnd
      obtain ⟨hidn, hndi⟩ := hnd
      split at h
      · rename_i y hy
        simp only [Option.some.injEq] at h
        subst h
        simp only [Rep] at hq
        obtain ⟨hd, hi, rfl⟩ := hq
        obtain ⟨hcel, hone⟩ := cel_rep hp hsol
        have hrun := fun (b o : Nat) => storeAt_run (P := P) (w := w) (t := t) (v := v) (b := b) (o := o)
        generalize v.cells.toList = vl at hcel hone hrun
        have hlen : vl.length = p.cel.length := hcel.length
        obtain ⟨b1, b2, bf, pa, b3⟩ := (hs.box _ _ hb).2
        have hi' : i < x.len := by rw [← b1]; exact hi
        generalize hids : msIds p.cel = ids at *
        -- the new element
        obtain ⟨c1, v1, v2, ec, ev, hr2, hlt, hmk⟩ := unM_rep hs (ids := ids) (id := id) (i := i) (col' := (ghAbs g ids id i fun _ => (none, 0, 0)).col) (fun b o k h1 h2 => ghAbs_in h1 h2) pa 0 hy hcel bf
        rw [List.append_nil] at ec
        subst ec
        simp only [Reps] at hr2
        subst hr2
        rw [List.append_nil] at ev
        subst ev
        rw [hids] at hlt hmk
        obtain ⟨hdr, lab, hlab, hnew⟩ := hmk (fun k hk => hk) hndi
        generalize hpa' : paOf g ids i lab pa = pa' at hnew
        have hvl : vl.length = ty.size := hnew.length
        obtain ⟨us, h2, h3⟩ := b3 i hi'
        have hul : us.length = ty.size := by
          split at h2
          · exact h2.length
          · exact h2.length
        have hin : ∀ j, j < vl.length → g.col (g.bx id).1 ((g.bx id).2 + i * ty.size + j) = .bx id ∧ pa (g.bx id).1 ((g.bx id).2 + i * ty.size + j) = none ∧ (w.cell? ⟨(g.bx id).1, (g.bx id).2 + i * ty.size + j, none⟩).isSome = true ∧ w.frozen? ⟨(g.bx id).1, (g.bx id).2 + i * ty.size + j, none⟩ = false := by
          intro j hj
          obtain ⟨a1, a2, a3, a4⟩ := h3 j us[j] (List.getElem?_eq_getElem (by omega))
          exact ⟨a1, a2, by rw [a3]; rfl, a4⟩
        rw [b2.1]
        simp only [Nat.add_zero]
        refine ⟨w.setCells (g.bx id).1 ((g.bx id).2 + i * ty.size) vl, ghAbs g ids id i hdr, hrun _ _ (by rw [hlen]; exact hz) hone (fun j hj => (hin j hj).2.2.1) (fun j hj => (hin j hj).2.2.2), ?_⟩
        generalize hw' : w.setCells (g.bx id).1 ((g.bx id).2 + i * ty.size) vl = w'
        have hcs : ∀ b' o', w'.cell? ⟨b', o', none⟩ = if b' = (g.bx id).1 ∧ (g.bx id).2 + i * ty.size ≤ o' ∧ o' < (g.bx id).2 + i * ty.size + vl.length then vl[o' - ((g.bx id).2 + i * ty.size)]? else w.cell? ⟨b', o', none⟩ := by
          subst hw'
          exact cell_setCells (fun j hj => (hin j hj).2.2.1)
        have hfr : ∀ x, w'.frozen? x = w.frozen? x := fun x => by subst hw'; exact World.frozen?_setCells _ _ _ _ _
        have hwin : ∀ b o, b = (g.bx id).1 ∧ (g.bx id).2 + i * ty.size ≤ o ∧ o < (g.bx id).2 + i * ty.size + vl.length → g.col b o = .bx id ∧ pa b o = none := by
          rintro b o ⟨rfl, q1, q2⟩
          have := hin (o - ((g.bx id).2 + i * ty.size)) (by omega)
          rw [show (g.bx id).2 + i * ty.size + (o - ((g.bx id).2 + i * ty.size)) = o by omega] at this
          exact ⟨this.1, this.2.1⟩
        have hout : ∀ b o, (g.col b o ≠ .bx id ∨ pa b o ≠ none) → w'.cell? ⟨b, o, none⟩ = w.cell? ⟨b, o, none⟩ := by
          intro b o hne
          rw [hcs, if_neg]
          intro q
          obtain ⟨q1, q2⟩ := hwin b o q
          rcases hne with hne | hne
          · exact hne q1
          · exact hne q2
        have hst : Stays g.col w (ghAbs g ids id i hdr).col w' := ⟨fun b o v h1 h2 => ⟨ghAbs_st h1, by rw [hout b o (.inl (by rw [h1]; simp))]; exact h2⟩⟩
        have hcoleq : ∀ b o, (ghAbs g ids id i fun _ => (none, 0, 0)).col b o = (ghAbs g ids id i hdr).col b o := fun _ _ => rfl
        have hold : ∀ b, b < w0.heap.size → ∀ o, (ghAbs g ids id i hdr).col b o = g.col b o := by
          intro b hb' o
          cases hc : g.col b o with
          | free => simp [ghAbs, hc]
          | st => exact ghAbs_st hc
          | tk k => exact ghAbs_tk hc
          | bx k =>
            refine ghAbs_out hc fun hk => ?_
            have := hs.cok b o k ((hs.old b hb' o).2.1 k hc)
            have := hlt k hk
            omega
        have hroot : w0.heap.size ≤ (g.bx id).1 ∨ vl.length = 0 := by
          rcases Nat.eq_zero_or_pos vl.length with h0 | h0
          · exact .inr h0
          · refine .inl ?_
            rcases Nat.lt_or_ge (g.bx id).1 w0.heap.size with q | q
            · have := hs.cok _ _ id ((hs.old _ q _).2.1 id (hin 0 h0).1)
              omega
            · exact q
        refine { off := hs.off, stk := scrStk_rep hst hs.stk, pts := ?_, size := hs.size, env := fun j => scrP_rep hst (hs.env j), defers := hs.defers, box := fun k c hc => ?_, dom := fun k hk => ?_, tok := fun k hk => ?_, us := hs.us, lv := hs.lv, ob := fun b hb' => ?_, keep := ?_, old := fun b hb' o => ?_, cok := hs.cok }
        · intro k hk hdk
          have hne : k ≠ id := by omega
          rw [ghAbs_nh hne]
          exact hs.pts k hk hdk.1
        · simp only [upd_if, hasNat_mem] at hc
          split at hc
          · cases hc
          · rename_i hkn
            split at hc
            · rename_i e
              have e := Nat.eq_of_beq_eq_true e
              subst e
              cases hc
              refine ⟨⟨hd, hkn⟩, b1, b2, bf, pa', fun i1 hi1 => ?_⟩
              have enh : ∀ j, (ghAbs g ids k i hdr).nh k i1 j = if i1 = i then hdr j else g.nh k i1 j := fun j => by
                have e : (ghAbs g ids k i hdr).nh k = fun i1 j1 => if i1 = i then hdr j1 else g.nh k i1 j1 := by show upd _ _ _ _ = _; rw [upd_eq, if_pos rfl]
                rw [e]
              have hrootpa : ∀ b o, g.col b o = .bx k → pa' b o = pa b o := fun b o hc => by rw [← hpa']; exact paOf_out hc hkn
              have hst' : Stays (ghAbs g ids k i fun _ => (none, 0, 0)).col w (ghAbs g ids k i hdr).col w' := ⟨fun b o v h1 h2 => by
                have h1' : (ghAbs g ids k i hdr).col b o = .st := h1
                refine ⟨h1', ?_⟩
                rw [hout b o (.inl fun e => by rw [ghAbs_out e hkn] at h1'; cases h1')]
                exact h2⟩
              have hout2 : ∀ b o q, (ghAbs g ids k i hdr).col b o = .bx k → pa' b o = some q → w'.cell? ⟨b, o, none⟩ = w.cell? ⟨b, o, none⟩ := fun b o q h1 h2 => by
                refine hout b o ?_
                by_cases hc : g.col b o = .bx k
                · refine .inr ?_
                  rw [hrootpa b o hc] at h2
                  rw [h2]; simp
                · exact .inl hc
              have hown : ∀ j, ownB (ownSet own i) j = if j = i then true else ownB own j := fun j => by
                cases own with
                | none => simp [ownB, ownSet]
                | some f => show upd f i true j = _; rw [upd_eq]; rfl
              by_cases hii : i1 = i
              · subst hii
                have e : (x.set i1 y).get i1 = y := by simp [L.set]
                refine ⟨vl, ?_, fun n u hn => ?_⟩
                · rw [hown, if_pos rfl, if_pos rfl, e]
                  exact RepE.mono (nh := fun _ => hdr) (pa := pa') hst' (fun j => by rw [enh, if_pos rfl]) (fun b o v j a1 a2 a3 a4 => ⟨a1, a2, (hout2 b o _ a1 a2).trans a3, by rw [hfr]; exact a4⟩) _ _ _ _ hnew
                · have hnl := (List.getElem?_eq_some_iff.mp hn).1
                  obtain ⟨a1, a2, a3, a4⟩ := hin n hnl
                  refine ⟨ghAbs_out a1 hkn, (hrootpa _ _ a1).trans a2, ?_, (hfr _).trans a4⟩
                  show w'.cell? ⟨(g.bx k).1, (g.bx k).2 + i1 * ty.size + n, none⟩ = some u
                  rw [hcs, if_pos ⟨rfl, by omega, by omega⟩, Nat.add_sub_cancel_left]
                  exact hn
              · have e : (x.set i y).get i1 = x.get i1 := by
                  simp only [L.set]
                  cases hbq : Nat.beq i1 i with
                  | true => exact absurd (Nat.eq_of_beq_eq_true hbq) hii
                  | false => rfl
                obtain ⟨us', h5, h6⟩ := b3 i1 hi1
                have hl5 : us'.length = ty.size := by
                  split at h5
                  · exact h5.length
                  · exact h5.length
                refine ⟨us', ?_, fun n u hn => ?_⟩
                · rw [hown, if_neg hii, e]
                  split
                  · rename_i ho
                    rw [if_pos ho] at h5
                    refine RepE.mono hst (fun j => by rw [enh, if_neg hii]) (fun b o v j a1 a2 a3 a4 => ⟨ghAbs_out a1 hkn, by rw [hrootpa _ _ a1]; exact a2, ?_, by rw [hfr]; exact a4⟩) _ _ _ _ h5
                    rw [hout b o (.inr (by rw [a2]; simp))]
                    exact a3
                  · rename_i ho
                    rw [if_neg ho] at h5
                    exact RepT.mono hst _ _ _ h5
                · obtain ⟨a1, a2, a3, a4⟩ := h6 n u hn
                  refine ⟨ghAbs_out a1 hkn, (hrootpa _ _ a1).trans a2, ?_, (hfr _).trans a4⟩
                  have hnl : n < ty.size := by rw [← hl5]; exact (List.getElem?_eq_some_iff.mp hn).1
                  show w'.cell? ⟨(g.bx k).1, (g.bx k).2 + i1 * ty.size + n, none⟩ = some u
                  rw [hcs, if_neg, a3]
                  rintro ⟨_, q1, q2⟩
                  rcases Nat.lt_or_ge i1 i with hlt' | hge
                  · have : (i1 + 1) * ty.size ≤ i * ty.size := Nat.mul_le_mul_right _ hlt'
                    rw [Nat.add_mul] at this; omega
                  · have : (i + 1) * ty.size ≤ i1 * ty.size := Nat.mul_le_mul_right _ (by omega)
                    rw [Nat.add_mul] at this; omega
            · rename_i hne
              have hne : k ≠ id := fun e => hne (by rw [e]; simp)
              split at hc
              · rename_i c2 hb2
                cases hc
                obtain ⟨d1, d2⟩ := hs.box k c2 hb2
                refine ⟨⟨d1, hkn⟩, ?_⟩
                have hkeep : ∀ b o v, g.col b o = .bx k → w.cell? ⟨b, o, none⟩ = some v → w.frozen? ⟨b, o, none⟩ = false → (ghAbs g ids id i hdr).col b o = .bx k ∧ w'.cell? ⟨b, o, none⟩ = some v ∧ w'.frozen? ⟨b, o, none⟩ = false := fun b o v a1 a2 a3 =>
                  ⟨ghAbs_out a1 hkn, by rw [hout b o (.inl (by rw [a1]; simpa using hne))]; exact a2, by rw [hfr]; exact a3⟩
                have hat : ∀ o us, BoxAt g w k o us → BoxAt (ghAbs g ids id i hdr) w' k o us := fun o us h j v hj => by
                  obtain ⟨a1, a2, a3⟩ := h j v hj
                  exact hkeep _ _ _ a1 a2 a3
                cases c2 with
                | cells cs =>
                  obtain ⟨us', q1, q2⟩ := d2
                  exact ⟨us', scrPs_rep hst q1, hat _ _ q2⟩
                | arr t' x' =>
                  obtain ⟨q1, q2, q3⟩ := d2
                  refine ⟨q1, q2, fun i1 hi1 => ?_⟩
                  obtain ⟨us', q4, q5⟩ := q3 i1 hi1
                  exact ⟨us', RepT.mono hst _ _ _ q4, hat _ _ q5⟩
                | mix t' x' own' =>
                  obtain ⟨q1, q2, q3, pa2, q4⟩ := d2
                  exact ⟨q1, q2, q3, pa2, TreeAt.mono hst (ghAbs_nh hne) hkeep q4⟩
                | iter s pos =>
                  obtain ⟨q1, q2, q3⟩ := d2
                  refine ⟨q1, fun o => ghAbs_out (q2 o) hkn, ?_⟩
                  show w'.heap[(g.bx k).1]? = _
                  rw [← hw']
                  by_cases h0 : vl.length = 0
                  · rw [List.length_eq_zero_iff.mp h0]; exact q3
                  · rw [heap_setCells]
                    · exact q3
                    · intro e
                      have := (hin 0 (by omega)).1
                      rw [← e, q2] at this
                      exact hne (Col.bx.inj this)
              · cases hc
        · show ∃ c, _ = some c
          simp only [upd_if, hasNat_mem]
          rw [if_neg hk.2]
          split
          · exact ⟨_, rfl⟩
          · obtain ⟨c, hc⟩ := hs.dom k hk.1
            rw [hc]
            exact ⟨_, rfl⟩
        · obtain ⟨h1, h2⟩ := hs.tok k hk
          refine ⟨h1, fun o o1 o2 => ?_⟩
          obtain ⟨a1, ⟨u, a2⟩, a3⟩ := h2 o o1 o2
          exact ⟨ghAbs_tk a1, ⟨u, (hout _ _ (.inl (by show g.col (g.tk k).1 o ≠ _; rw [a1]; simp))).trans a2⟩, (hfr _).trans a3⟩
        · obtain ⟨o1, o2, o3⟩ := hs.ob b hb'
          exact ⟨by rw [← hw', size_setCells]; exact o1, o2, fun o => (hfr _).trans (o3 o)⟩
        · rw [← hw']
          exact hs.keep.setCells _ vl _ w fun j hj => .inl (hroot.resolve_right (by omega))
        · rw [hold b hb' o]
          exact hs.old b hb' o
      · cases h
    · cases h
  · cases h
end
end Go.VE
