import Derived.Test.YtnjlpdagdedbaaaGreatViQ
import Derived.LoopN
/- Code: weaker states, loops, and what a run comes to. -/
namespace Go.VE

theorem hasNat_iff {l : List Nat} {a : Nat} : hasNat l a = true ↔ a ∈ l := by
  unfold hasNat
  rw [List.any_eq_true]
  constructor
  · rintro ⟨x, hx, h⟩; rw [Nat.eq_of_beq_eq_true h]; exact hx
  · intro h; exact ⟨a, h, by simp⟩

section
variable {P : Program} {Γ : TypeId → Option Ty} {T : Tbl} {N : Fr} {c0 : Nat → Nat → Col} {w0 : World} {σ : AS} {g : Gh} {a : Act} {w : World}

/-! ### Values that name few boxes -/
theorem leafB_rep {g' : Gh} (hst : Stays g.col w g'.col w) (htk : g'.tk = g.tk) (hus : g'.us = g.us) (hlv : g'.lv = g.lv) (hob : g'.ob = g.ob) : ∀ {p : PV} {v : Value}, leafB p = true → Rep g w p v → Rep g' w p v
  | .int _ _, _, _, h => by simpa only [Rep] using h
  | .bool _, _, _, h => by simpa only [Rep] using h
  | .str _, _, _, h => by simpa only [Rep] using h
  | .nils, _, _, h => by simpa only [Rep] using h
  | .any, _, _, _ => by simp only [Rep]
  | .sl t x tk, v, _, h => by
    simp only [Rep] at h ⊢
    obtain ⟨ad, cap, e1, e2, e3⟩ := h
    refine ⟨ad, cap, e1, RepT.mono hst _ _ _ e2, ?_⟩
    cases tk with
    | no => trivial
    | tight => exact e3
    | tok k =>
      simp only [TkC] at e3 ⊢
      rw [htk, hus, hlv]
      exact e3
    | own k =>
      simp only [TkC] at e3 ⊢
      rw [htk, hus, hlv, hob]
      exact e3
  | .agg _, _, h, _ => by simp [leafB] at h
  | .bx _ _, _, h, _ => by simp [leafB] at h
  | .ms _, _, h, _ => by simp [leafB] at h
  | .me _ _ _, _, h, _ => by simp [leafB] at h
  | .rf _, _, h, _ => by simp [leafB] at h
  | .fn _ _, _, h, _ => by simp [leafB] at h
  | .tup _, _, h, _ => by simp [leafB] at h
  | .grw _ _, _, h, _ => by simp [leafB] at h

theorem reps_map {g' : Gh} {q : PV → Bool} (hq : ∀ {p : PV} {v : Value}, q p = true → Rep g w p v → Rep g' w p v) : ∀ {ps : List PV} {vs : List Value}, ps.all q = true → Reps g w ps vs → Reps g' w ps vs
  | [], vs, _, h => by simpa only [Reps] using h
  | p :: ps, vs, hl, h => by
    simp only [List.all_cons, Bool.and_eq_true] at hl
    simp only [Reps] at h ⊢
    obtain ⟨u, us, e1, e2, e3⟩ := h
    exact ⟨u, us, e1, hq hl.1 e2, reps_map hq hl.2 e3⟩

/-- A ghost that knows fewer boxes. -/
def ghDom (g : Gh) (dom : Nat → Prop) : Gh := { g with dom }

theorem names_rep {l : List Nat} {dom : Nat → Prop} (hd : ∀ id, g.dom id → id ∈ l → dom id) {p : PV} {v : Value} (hp : namesB l p = true) (hr : Rep g w p v) : Rep (ghDom g dom) w p v := by
  have hst : Stays g.col w (ghDom g dom).col w := ⟨fun _ _ _ h h' => ⟨h, h'⟩⟩
  have hB : ∀ {p : PV} {v : Value}, leafB p = true → Rep g w p v → Rep (ghDom g dom) w p v := fun h h' => leafB_rep (g' := ghDom g dom) hst rfl rfl rfl rfl h h'
  have hRf : ∀ {cs : List PV} {v : Value}, cs.all leafB = true → Rep g w (.rf cs) v → Rep (ghDom g dom) w (.rf cs) v := by
    intro cs v hl h
    simp only [Rep] at h ⊢
    obtain ⟨b, o, us, e1, e2, e3⟩ := h
    exact ⟨b, o, us, e1, reps_map hB hl e2, e3⟩
  have hC : ∀ {p : PV} {v : Value}, leafC l p = true → Rep g w p v → Rep (ghDom g dom) w p v := by
    intro p v hl h
    cases p with
    | bx id off =>
      simp only [leafC] at hl
      simp only [Rep] at h ⊢
      exact ⟨hd id h.1 (hasNat_iff.mp hl), h.2⟩
    | rf cs => exact hRf (by simpa [leafC] using hl) h
    | _ => exact hB (by simpa [leafC] using hl) h
  have hA : ∀ {p : PV} {v : Value}, leafA p = true → Rep g w p v → Rep (ghDom g dom) w p v := by
    intro p v hl h
    cases p with
    | agg cs =>
      simp only [Rep] at h ⊢
      obtain ⟨vs, e1, e2⟩ := h
      exact ⟨vs, e1, reps_map hB (by simpa [leafA] using hl) e2⟩
    | _ => exact hB (by simpa [leafA] using hl) h
  cases p with
  | int k n => exact hB rfl hr
  | bool b => exact hB rfl hr
  | str s => exact hB rfl hr
  | nils => exact hB rfl hr
  | sl t x tk => exact hB rfl hr
  | any => exact hB rfl hr
  | agg cs =>
    simp only [Rep] at hr ⊢
    obtain ⟨vs, e1, e2⟩ := hr
    exact ⟨vs, e1, reps_map hB (by simpa [namesB] using hp) e2⟩
  | bx id off =>
    simp only [namesB] at hp
    simp only [Rep] at hr ⊢
    exact ⟨hd id hr.1 (hasNat_iff.mp hp), hr.2⟩
  | ms id =>
    simp only [namesB] at hp
    simp only [Rep] at hr ⊢
    exact ⟨hd id hr.1 (hasNat_iff.mp hp), hr.2⟩
  | me id i off =>
    simp only [namesB] at hp
    simp only [Rep] at hr ⊢
    exact ⟨hd id hr.1 (hasNat_iff.mp hp), hr.2⟩
  | mn id i j =>
    simp only [namesB] at hp
    simp only [Rep] at hr ⊢
    exact ⟨hd id hr.1 (hasNat_iff.mp hp), hr.2⟩
  | rf cs => exact hRf (by simpa [namesB] using hp) hr
  | fn f cap =>
    simp only [Rep] at hr ⊢
    obtain ⟨vs, e1, e2⟩ := hr
    exact ⟨vs, e1, reps_map hC (by simpa [namesB] using hp) e2⟩
  | tup cs =>
    simp only [Rep] at hr ⊢
    obtain ⟨vs, e1, e2⟩ := hr
    exact ⟨vs, e1, reps_map hA (by simpa [namesB] using hp) e2⟩
  | grw t k =>
    simp only [Rep] at hr ⊢
    exact hr

theorem stk_any {g' : Gh} {w' : World} : ∀ {es : List (Nat → PV)} {fs : List (Nat → Value)}, StkRep g w es fs → StkRep g' w' (es.map fun _ _ => .any) fs
  | [], _, h => h
  | _ :: _, _, ⟨f, s, e, _, h2⟩ => ⟨f, s, e, fun i => by simp only [Rep], stk_any h2⟩

theorem sim_narrow (hs : Sim N c0 w0 σ g a w) (keep boxes : List Nat) : ∃ g', Sim N c0 w0 (narrow keep boxes σ) g' a w := by
  let dom : Nat → Prop := fun id => ∃ c, (narrow keep boxes σ).box id = some c
  have hd : ∀ id, g.dom id → id ∈ boxes → dom id := by
    intro id h hm
    obtain ⟨c, hc⟩ := hs.dom id h
    show ∃ c, (narrow keep boxes σ).box id = some c
    simp only [narrow, hasNat_iff.mpr hm, cond_true, hc]
    cases c <;> exact ⟨_, rfl⟩
  refine ⟨ghDom g dom, { hs with off := hs.off, stk := stk_any hs.stk, pts := fun id hid hd' => hs.pts id hid ?_, env := fun i => ?_, box := fun id c hc => ?_, dom := fun id h => h }⟩
  · obtain ⟨c, hc⟩ := hd'
    simp only [narrow] at hc
    cases h1 : hasNat boxes id with
    | false => rw [h1] at hc; simp at hc
    | true =>
      rw [h1] at hc
      simp only [cond_true] at hc
      cases h2 : σ.box id with
      | none => rw [h2] at hc; simp at hc
      | some c' => exact (hs.box id c' h2).1
  · show Rep (ghDom g dom) w ((narrow keep boxes σ).env i) _
    simp only [narrow]
    cases h1 : hasNat keep i with
    | false => simp only [cond_false, Rep]
    | true =>
      simp only [cond_true]
      cases h2 : namesB boxes (σ.env i) with
      | false => simp only [cond_false, Rep]
      | true => simp only [cond_true]; exact names_rep hd h2 (hs.env i)
  · refine ⟨⟨c, hc⟩, ?_⟩
    simp only [narrow] at hc
    cases h1 : hasNat boxes id with
    | false => rw [h1] at hc; simp at hc
    | true =>
      rw [h1] at hc
      simp only [cond_true] at hc
      cases h2 : σ.box id with
      | none => rw [h2] at hc; simp at hc
      | some c' =>
        rw [h2] at hc
        obtain ⟨h3, h4⟩ := hs.box id c' h2
        cases c' with
        | arr t x =>
          simp only [Option.some.injEq] at hc
          subst hc
          exact h4
        | iter s pos =>
          simp only [Option.some.injEq] at hc
          subst hc
          exact h4
        | mix t x own =>
          simp only [Option.some.injEq] at hc
          subst hc
          exact h4
        | cells cs =>
          simp only [Option.some.injEq] at hc
          subst hc
          obtain ⟨us, h5, h6⟩ := h4
          refine ⟨us, ?_, h6⟩
          refine Reps.of_get (by simp [h5.length]) fun i p v hp hv => ?_
          simp only [List.getElem?_map, Option.map_eq_some_iff] at hp
          obtain ⟨q, hq, rfl⟩ := hp
          obtain ⟨v', hv', hr⟩ := h5.get i q hq
          rw [hv] at hv'; cases hv'
          cases h7 : namesB boxes q with
          | false => simp only [cond_false, Rep]
          | true => simp only [cond_true]; exact names_rep hd h7 hr

end
end Go.VE
