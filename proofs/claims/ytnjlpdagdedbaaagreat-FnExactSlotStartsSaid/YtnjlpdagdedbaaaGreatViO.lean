import Derived.Test.YtnjlpdagdedbaaaGreatViN
/- Regions whose order is open: what an operation looks at. -/
namespace Go.VE

/-- The same at one key: 3t a slot, 3b+1 a box, 3k+2 what may be appended to. -/
def AgreeAt (κ : Nat) (σ τ : AS) : Prop := (∀ t, κ = 3 * t → σ.env t = τ.env t) ∧ (∀ b, κ = 3 * b + 1 → σ.box b = τ.box b) ∧ (∀ k, κ = 3 * k + 2 → σ.live k = τ.live k)

theorem AgreeAt.refl (κ : Nat) (σ : AS) : AgreeAt κ σ σ := ⟨fun _ _ => rfl, fun _ _ => rfl, fun _ _ => rfl⟩
theorem AgreeAt.symm {κ : Nat} {σ τ : AS} (h : AgreeAt κ σ τ) : AgreeAt κ τ σ := ⟨fun t e => (h.1 t e).symm, fun t e => (h.2.1 t e).symm, fun t e => (h.2.2 t e).symm⟩
theorem AgreeAt.trans {κ : Nat} {σ τ ρ : AS} (h : AgreeAt κ σ τ) (k : AgreeAt κ τ ρ) : AgreeAt κ σ ρ := ⟨fun t e => (h.1 t e).trans (k.1 t e), fun t e => (h.2.1 t e).trans (k.2.1 t e), fun t e => (h.2.2 t e).trans (k.2.2 t e)⟩

theorem AS.ext_keys {σ τ : AS} (hz : σ.off = τ.off ∧ σ.stk = τ.stk ∧ σ.dp = τ.dp) (h : ∀ κ, AgreeAt κ σ τ) : σ = τ := by
  obtain ⟨e, b, l, z, k, dp⟩ := σ
  obtain ⟨e', b', l', z', k', dp'⟩ := τ
  obtain ⟨hz1, hz2, hz3⟩ := hz
  simp only at hz1 hz2 hz3
  subst hz1 hz2 hz3
  have h1 : e = e' := funext fun t => (h (3 * t)).1 t rfl
  have h2 : b = b' := funext fun t => (h (3 * t + 1)).2.1 t rfl
  have h3 : l = l' := funext fun t => (h (3 * t + 2)).2.2 t rfl
  rw [h1, h2, h3]

def Writes (o : Oper) (x : Option Dl) (κ : Nat) : Prop := (∃ t, o.dst = some t ∧ κ = 3 * t) ∨ ∃ d, x = some d ∧ ((∃ p ∈ d.bx, κ = 3 * p.1 + 1) ∨ ∃ p ∈ d.tk, κ = 3 * p.1 + 2)

theorem updL_const {α : Type} : ∀ (l : List (Nat × α)) (f f' : Nat → α) (d : Nat), d ∈ l.map (·.1) → updL f l d = updL f' l d
  | (i, v) :: r, f, f', d, h => by
    simp only [updL]
    by_cases hr : d ∈ r.map (·.1)
    · exact updL_const r _ _ d hr
    · rw [updL_notin r _ d hr, updL_notin r _ d hr]
      simp only [List.map_cons, List.mem_cons] at h
      rcases h with rfl | h
      · rw [upd_eq, upd_eq, if_pos rfl, if_pos rfl]
      · exact absurd h hr

theorem out_base (o : Oper) (x : Option Dl) (σ : AS) : (outOf o x σ).off = σ.off ∧ (outOf o x σ).stk = σ.stk ∧ (outOf o x σ).dp = σ.dp := by
  cases x with
  | none => cases hdst : o.dst <;> simp [outOf, AS.put, hdst]
  | some d => exact ⟨rfl, rfl, rfl⟩

theorem out_not {o : Oper} {x : Option Dl} {κ : Nat} (h : ¬ Writes o x κ) (σ : AS) : AgreeAt κ (outOf o x σ) σ := by
  have hd : ∀ t, κ = 3 * t → o.dst ≠ some t := fun t e hd => h (.inl ⟨t, hd, e⟩)
  cases x with
  | none =>
    refine ⟨fun t e => ?_, fun b _ => ?_, fun k _ => ?_⟩
    · cases hdst : o.dst with
      | none => simp [outOf, AS.put, hdst]
      | some d =>
        simp only [outOf, AS.put, hdst]
        rw [upd_eq, if_neg]
        rintro rfl; exact hd _ e hdst
    · cases hdst : o.dst <;> simp [outOf, AS.put, hdst]
    · cases hdst : o.dst <;> simp [outOf, AS.put, hdst]
  | some d =>
    refine ⟨fun t e => ?_, fun b e => ?_, fun k e => ?_⟩
    · cases hdst : o.dst with
      | none => simp [outOf, AS.app, hdst]
      | some d' =>
        simp only [outOf, AS.app, hdst]
        rw [upd_eq, if_neg]
        rintro rfl; exact hd _ e hdst
    · show updL σ.box _ b = _
      rw [updL_notin]
      intro hm
      simp only [List.map_map, List.mem_map] at hm
      obtain ⟨p, hp, rfl⟩ := hm
      exact h (.inr ⟨d, rfl, .inl ⟨p, hp, e⟩⟩)
    · show updL σ.live _ k = _
      rw [updL_notin]
      intro hm
      simp only [List.mem_map] at hm
      obtain ⟨p, hp, rfl⟩ := hm
      exact h (.inr ⟨d, rfl, .inr ⟨p, hp, e⟩⟩)

theorem out_write {o : Oper} {x : Option Dl} {κ : Nat} (h : Writes o x κ) (σ τ : AS) : AgreeAt κ (outOf o x σ) (outOf o x τ) := by
  rcases h with ⟨t, hdst, rfl⟩ | ⟨d, rfl, h⟩
  · refine ⟨fun t' e => ?_, fun b e => absurd e (by omega), fun k e => absurd e (by omega)⟩
    have e2 : t = t' := Nat.eq_of_mul_eq_mul_left (by decide : 0 < 3) e
    subst e2
    cases x with
    | none => simp [outOf, AS.put, hdst, upd_eq]
    | some d => simp [outOf, AS.app, hdst, upd_eq]
  · rcases h with ⟨p, hp, rfl⟩ | ⟨p, hp, rfl⟩
    · refine ⟨fun t' e => absurd e (by omega), fun b e => ?_, fun k e => absurd e (by omega)⟩
      have e2 : p.1 = b := by omega
      subst e2
      exact updL_const _ _ _ _ (by simp only [List.map_map, List.mem_map]; exact ⟨p, hp, rfl⟩)
    · refine ⟨fun t' e => absurd e (by omega), fun b e => absurd e (by omega), fun k e => ?_⟩
      have e2 : p.1 = k := by omega
      subst e2
      exact updL_const _ _ _ _ (List.mem_map.mpr ⟨p, hp, rfl⟩)

theorem out_agree (o : Oper) (x : Option Dl) {κ : Nat} {σ τ : AS} (h : AgreeAt κ σ τ) : AgreeAt κ (outOf o x σ) (outOf o x τ) := by
  by_cases hw : Writes o x κ
  · exact out_write hw σ τ
  · exact (out_not hw σ).trans (h.trans (out_not hw τ).symm)

section
variable {P : Program} {Γ : TypeId → Option Ty} {T : Tbl}

theorem slot_agree {all : List Oper} {o : Oper} {σ τ : AS} (h : ∀ p ∈ footT all o, AgreeAt p.1 σ τ) {x : Operand} (hx : x ∈ (match o.op with | .call c => c.operands.toList | op => op.operands.toList)) : evO σ.env x = evO τ.env x := by
  cases x with
  | tmp t =>
    have hm : (3 * t, false) ∈ footT all o := by
      unfold footT
      refine List.mem_append_left _ (List.mem_append_left _ ?_)
      exact List.mem_map.mpr ⟨t, by unfold tmpsOf; exact List.mem_filterMap.mpr ⟨_, hx, rfl⟩, rfl⟩
    exact (h _ hm).1 t rfl
  | const v => rfl
  | global n => rfl
  | func f => rfl

theorem guard_agree {all : List Oper} {o : Oper} {σ τ : AS} (h : ∀ p ∈ footT all o, AgreeAt p.1 σ τ) {b : Bool} (hg : GuardIs all o σ b) : GuardIs all o τ b := by
  unfold GuardIs at hg ⊢
  cases hgo : guardOf all o with
  | none => rw [hgo] at hg; exact hg
  | some q =>
    obtain ⟨gd, want⟩ := q
    rw [hgo] at hg
    cases gd with
    | none => exact hg
    | some gd =>
      simp only at hg ⊢
      have hm : (3 * gd, false) ∈ footT all o := by
        unfold footT
        refine List.mem_append_left _ (List.mem_append_right _ ?_)
        rw [hgo]; simp
      rw [← (h _ hm).1 gd rfl]
      exact hg

/-- What is written stands in the foot. -/
theorem ptrRes_fst {d : Nat} {v' : PV} {b' : List (Nat × BoxC)} : ∀ {ts : List Ty} {y : TysT ts}, ptrRes d ts y = some (v', b') → ∀ p ∈ b', p.1 = d
  | [], _, h => by simp [ptrRes] at h
  | [t], y, h => by
    simp only [ptrRes, Option.some.injEq, Prod.mk.injEq] at h
    obtain ⟨_, rfl⟩ := h
    intro p hp
    simp only [List.mem_singleton] at hp
    rw [hp]
  | _ :: _ :: _, _, h => by simp [ptrRes] at h

theorem clmBs_fst {base : Nat} : ∀ {ts : List Ty} {y : TysT ts} {j : Nat} {p : Nat × BoxC}, p ∈ clmBs base ts y j → ∃ i, j ≤ i ∧ i < j + nslL ts ∧ p.1 = base + i
  | [], y, j, p, h => by simp [clmBs] at h
  | t :: r, y, j, p, h => by
    simp only [clmBs, List.mem_append] at h
    simp only [nslL]
    rcases h with h | h
    · obtain ⟨i, h1, h2, h3⟩ := clmB_fst h; exact ⟨i, h1, by omega, h3⟩
    · obtain ⟨i, h1, h2, h3⟩ := clmBs_fst h; exact ⟨i, by omega, by omega, h3⟩
theorem clmKs_fst {base : Nat} : ∀ {ts : List Ty} {j : Nat} {p : Nat × Nat}, p ∈ clmKs base ts j → ∃ i, j ≤ i ∧ i < j + nslL ts ∧ p.1 = base + i
  | [], j, p, h => by simp [clmKs] at h
  | t :: r, j, p, h => by
    simp only [clmKs, List.mem_append] at h
    simp only [nslL]
    rcases h with h | h
    · obtain ⟨i, h1, h2, h3⟩ := clmK_fst h; exact ⟨i, h1, by omega, h3⟩
    · obtain ⟨i, h1, h2, h3⟩ := clmKs_fst h; exact ⟨i, by omega, by omega, h3⟩

theorem step_writes {o : Oper} {σ : AS} {d : Dl} (h : OpStep P Γ T o σ d) : (∀ p ∈ d.bx, (3 * p.1 + 1, true) ∈ footB T o σ.off σ.env) ∧ ∀ p ∈ d.tk, (3 * p.1 + 2, true) ∈ footB T o σ.off σ.env := by
  cases h with
  | call ho hf hTf hx hnd hdj hfl hF hD =>
    rename_i f args tys gf cap c x y
    have hw : ∀ p ∈ wb σ.box c.ins (args.toList.map (evO σ.env) ++ cap) y.2, (3 * p.1 + 1, true) ∈ footB T o σ.off σ.env := fun p hp => by
      have hm : p.1 ∈ ptIds c.ins (args.toList.map (evO σ.env) ++ cap) := by
        rw [← wb_fst y.2 hx]
        exact List.mem_map.mpr ⟨p, hp, rfl⟩
      simp only [footB, ho, hf, hTf]
      exact List.mem_append_left _ (List.mem_append_left _ (List.mem_map.mpr ⟨_, hm, rfl⟩))
    have hfrF : ∀ q ∈ frFoot c (o.dst.toList.map (σ.off + ·)), q ∈ footB T o σ.off σ.env := fun q hq => by
      simp only [footB, ho, hf, hTf]
      exact List.mem_append_right _ hq
    have hname : ∀ (dd i : Nat), o.dst = some dd → Nat.beq c.fr 0 = false → i < nslL c.out → (3 * (rBase (σ.off + dd) + i) + 1, true) ∈ frFoot c (o.dst.toList.map (σ.off + ·)) ∧ (3 * (rBase (σ.off + dd) + i) + 2, true) ∈ frFoot c (o.dst.toList.map (σ.off + ·)) := by
      intro dd i e hf0 hi
      unfold frFoot
      rw [e, hf0]
      constructor
      · exact List.mem_append_right _ (List.mem_flatMap.mpr ⟨σ.off + dd, by simp, List.mem_flatMap.mpr ⟨i, List.mem_range.mpr hi, by simp⟩⟩)
      · exact List.mem_append_right _ (List.mem_flatMap.mpr ⟨σ.off + dd, by simp, List.mem_flatMap.mpr ⟨i, List.mem_range.mpr hi, by simp⟩⟩)
    unfold resD at hD
    cases hp : c.ptr with
    | false =>
      rw [hp] at hD
      simp only [cond_false] at hD
      split at hD
      · simp only [Option.some.injEq] at hD
        subst hD
        exact ⟨hw, fun p hp => by simp at hp⟩
      · rename_i hf1
        split at hD
        · rename_i dd hdst
          split at hD
          · simp only [Option.some.injEq] at hD
            subst hD
            refine ⟨fun p hp => ?_, fun p hp => by simp at hp⟩
            rcases List.mem_append.mp hp with hm | hm
            · exact hw p hm
            · obtain ⟨i, _, i2, i3⟩ := clmBs_fst hm
              rw [i3]
              exact hfrF _ (hname dd i hdst (by rw [hf1]; rfl) (by omega)).1
          · cases hD
        · cases hD
      · rename_i hf0 _
        split at hD
        · rename_i dd hdst
          split at hD
          · simp only [Option.some.injEq] at hD
            subst hD
            refine ⟨hw, fun p hp => ?_⟩
            obtain ⟨i, _, i2, i3⟩ := clmKs_fst hp
            rw [i3]
            exact hfrF _ (hname dd i hdst (by cases hq : Nat.beq c.fr 0 with | false => rfl | true => exact absurd (Nat.eq_of_beq_eq_true hq) hf0) (by omega)).2
          · cases hD
        · cases hD
    | true =>
      rw [hp] at hD
      simp only [cond_true] at hD
      cases hdst : o.dst with
      | none => rw [hdst] at hD; simp at hD
      | some dd =>
        rw [hdst] at hD
        simp only at hD
        split at hD
        · cases hD
        split at hD
        · rename_i v b hnb hpr
          cases hD
          refine ⟨fun p hp' => ?_, fun p hp' => by simp at hp'⟩
          rcases List.mem_append.mp hp' with hm | hm
          · have e := ptrRes_fst hpr p hm
            refine hfrF _ ?_
            unfold frFoot
            rw [e, hp, hdst]
            exact List.mem_append_left _ (by simp)
          · exact hw p hm
        · cases hD
  | op hc h =>
    simp only [opD] at h
    split at h
    all_goals first
      | ((repeat' split at h) <;> first
          | (cases h; done)
          | (simp only [Option.some.injEq, Prod.mk.injEq] at h; obtain ⟨_, rfl⟩ := h; constructor <;> (intro p hp; simp only [List.not_mem_nil] at hp; done)))
      | skip
    · -- alloc
      rename_i t ho
      split at h
      · rename_i dd cs hdst hz
        split at h
        · simp only [Option.some.injEq, Prod.mk.injEq, true_and] at h; subst h
          refine ⟨fun p hp => ?_, fun p hp => by simp at hp⟩
          simp only [List.mem_singleton] at hp
          subst hp
          simp [footB, ho, hdst]
        · cases h
      · cases h
    · -- box
      rename_i t x ho
      split at h
      · rename_i dd hdst
        split at h
        · split at h
          · simp only [Option.some.injEq, Prod.mk.injEq, true_and] at h; subst h
            refine ⟨fun p hp => ?_, fun p hp => by simp at hp⟩
            simp only [List.mem_singleton] at hp
            subst hp
            simp [footB, ho, hdst]
          · cases h
        · cases h
      · cases h
    · -- store
      rename_i t x y ho
      split at h
      · rename_i b hb
        simp only [Option.some.injEq, Prod.mk.injEq, true_and] at h; subst h
        refine ⟨fun p hp => ?_, fun p hp => by simp at hp⟩
        simp only [List.mem_singleton] at hp
        subst hp
        simp only [footB, ho, List.mem_map]
        refine ⟨p.1, ?_, rfl⟩
        generalize evO σ.env x = q at hb
        cases q <;> simp only [stAt] at hb <;> try cases hb
        · split at hb
          · split at hb
            · cases hb; simp [boxOfP]
            · cases hb
          · cases hb
        · split at hb
          · split at hb
            · split at hb
              · cases hb; simp [boxOfP]
              · cases hb
            · cases hb
          · split at hb
            · split at hb
              · cases hb; simp [boxOfP]
              · cases hb
            · cases hb
          · cases hb
      · cases h
    · -- makeSlice
      rename_i t l c ho
      split at h
      · rename_i dd hdst
        unfold mkSlD at h
        split at h
        · split at h
          · simp only [Option.some.injEq, Prod.mk.injEq] at h; obtain ⟨_, rfl⟩ := h
            refine ⟨fun p hp => ?_, fun p hp => by simp at hp⟩
            simp only [List.mem_singleton] at hp
            subst hp
            simp [footB, ho, hdst]
          · cases h
        · cases h
      · cases h
    · -- indexAddr
      unfold ixD at h
      (repeat' split at h) <;> first
        | (cases h; done)
        | (simp only [Option.some.injEq, Prod.mk.injEq] at h; obtain ⟨_, rfl⟩ := h; constructor <;> (intro p hp; simp only [List.not_mem_nil] at hp; done))
    · -- range
      rename_i t x ho
      split at h
      · rename_i dd s hdst hu hx
        split at h
        · simp only [Option.some.injEq, Prod.mk.injEq, true_and] at h; subst h
          refine ⟨fun p hp => ?_, fun p hp => by simp at hp⟩
          simp only [List.mem_singleton] at hp
          subst hp
          simp [footB, ho, hdst]
        · cases h
      · cases h
    · -- next
      rename_i it ho
      split at h
      · rename_i id hit
        split at h
        · rename_i s pos hb
          have hfoot : footB T o σ.off σ.env = [(3 * id + 1, true)] := by simp [footB, ho, hit, boxOfP]
          rw [hfoot]
          cases hlt : Nat.blt pos s.size with
          | true =>
            rw [hlt] at h
            simp only [cond_true, Option.some.injEq, Prod.mk.injEq, true_and] at h; subst h
            refine ⟨fun p hp => ?_, fun p hp => by simp at hp⟩
            simp only [List.mem_singleton] at hp
            subst hp
            simp
          | false =>
            rw [hlt] at h
            simp only [cond_false, Option.some.injEq, Prod.mk.injEq, true_and] at h; subst h
            exact ⟨fun p hp => by simp at hp, fun p hp => by simp at hp⟩
        · cases h
      · cases h
    · -- append
      rename_i args argTypes ho
      split at h
      · rename_i dd x y t u hdst hargs htys
        split at h
        · split at h
          · split at h
            · rename_i hh
              have hfoot : footB T o σ.off σ.env = (tokOfP (evO σ.env x)).map (fun k => (3 * k + 2, true)) ++ [σ.off + dd].map (fun b => (3 * b + 2, true)) ++ (msOfP (evO σ.env y)).map fun b => (3 * b + 1, false) := by
                simp [footB, ho, hdst, hargs]
              rw [hfoot]
              unfold appD at h
              split at h
              · cases h
              · split at h
                · cases h
                · generalize evO σ.env x = q at h ⊢
                  cases q <;> simp only at h <;> try cases h
                  · simp only [Option.some.injEq, Prod.mk.injEq] at h; obtain ⟨_, rfl⟩ := h
                    refine ⟨fun p hp => by simp at hp, fun p hp => ?_⟩
                    simp only [List.mem_singleton] at hp
                    subst hp
                    simp
                  · rename_i t' l tk
                    split at h
                    · cases tk with
                      | no => cases h
                      | tight =>
                        simp only [Option.some.injEq, Prod.mk.injEq] at h; obtain ⟨_, rfl⟩ := h
                        refine ⟨fun p hp => by simp at hp, fun p hp => ?_⟩
                        simp only [List.mem_singleton] at hp
                        subst hp
                        simp
                      | tok k =>
                        simp only at h
                        split at h
                        · simp only [Option.some.injEq, Prod.mk.injEq] at h; obtain ⟨_, rfl⟩ := h
                          refine ⟨fun p hp => by simp at hp, fun p hp => ?_⟩
                          simp only [List.mem_cons, List.not_mem_nil, or_false] at hp
                          rcases hp with rfl | rfl
                          · simp [tokOfP]
                          · simp
                        · cases h
                      | own k =>
                        simp only at h
                        split at h
                        · simp only [Option.some.injEq, Prod.mk.injEq] at h; obtain ⟨_, rfl⟩ := h
                          refine ⟨fun p hp => by simp at hp, fun p hp => ?_⟩
                          simp only [List.mem_cons, List.not_mem_nil, or_false] at hp
                          rcases hp with rfl | rfl
                          · simp [tokOfP]
                          · simp
                        · cases h
                    · cases h
            · cases h
          · cases h
        · split at h
          · split at h
            · split at h
              · simp only [Option.some.injEq, Prod.mk.injEq] at h; obtain ⟨_, rfl⟩ := h
                refine ⟨fun p hp => by simp at hp, fun p hp => ?_⟩
                simp only [List.mem_singleton] at hp
                subst hp
                simp [footB, ho, hdst, hargs]
              · cases h
            · cases h
          · cases h
        · cases h
      · cases h
end

end Go.VE
