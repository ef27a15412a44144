import Derived.Test.YtnjlpdagdedbaaaVFnExactDevPlay
import Derived.Test.YtnjlpdagdedbaaaVgY
/- laws.FnExactDevPlay returns true: in plain words, no program in sight. -/
set_option linter.unusedVariables false
set_option linter.unusedSimpArgs false
namespace Go.VE.VFnExactDevPlay
open Go.VE
abbrev tysOf : List Ty := [(.sl (.pair (.int .i64) (.pair (.int .u32) .unit)))]
/-- A row that reads as a list. -/
def RL {α : Type} (x : L α) (l : List α) : Prop := x.len = l.length ∧ ∀ i, i < x.len → l[i]? = some (x.get i)

theorem RL.nilL : RL (nilL (.int .u32)) [] := ⟨rfl, fun i h => absurd h (Nat.not_lt_zero _)⟩
theorem RL.zL : RL (zL (.int .u32)) [] := ⟨rfl, fun i h => absurd h (Nat.not_lt_zero _)⟩
theorem RL.app {α : Type} {x y : L α} {l m : List α} (h : RL x l) (k : RL y m) : RL (L.app x y) (l ++ m) := by
  refine ⟨by show x.len + y.len = _; rw [h.1, k.1, List.length_append], fun i hi => ?_⟩
  have hi : i < x.len + y.len := hi
  show _ = some (bif Nat.blt i x.len then x.get i else y.get (i - x.len))
  by_cases hc : i < x.len
  · rw [bif_t (by simpa using hc), List.getElem?_append_left (by rw [← h.1]; exact hc)]
    exact h.2 i hc
  · rw [bif_f (by cases hb : Nat.blt i x.len with | true => exact absurd (by simpa using hb) hc | false => rfl), List.getElem?_append_right (by rw [← h.1]; omega), ← h.1]
    exact k.2 _ (by omega)
theorem RL.new {α : Type} {x : L α} {l : List α} (h : RL x l) : RL (L.new x) l := h
theorem RL.of {α : Type} (d : α) (l : List α) : RL (L.of d l) l := by
  refine ⟨rfl, fun i hi => ?_⟩
  have hi : i < l.length := hi
  show _ = some (l.getD i d)
  rw [List.getD_eq_getElem?_getD, List.getElem?_eq_getElem hi]; rfl
theorem RL.cut {α : Type} {x : L α} {l : List α} (h : RL x l) {i j : Nat} (hij : i ≤ j) (hj : j ≤ x.len) : RL (L.cut x i j) ((l.drop i).take (j - i)) := by
  have hl := h.1
  refine ⟨by show j - i = _; rw [List.length_take, List.length_drop]; omega, fun k hk => ?_⟩
  have hk : k < j - i := hk
  show _ = some (x.get (i + k))
  rw [List.getElem?_take, if_pos hk, List.getElem?_drop]
  exact h.2 _ (by omega)
theorem RL.list {α : Type} (x : L α) : RL x ((List.range x.len).map x.get) := by
  refine ⟨by simp, fun i hi => ?_⟩
  rw [List.getElem?_map, List.getElem?_range hi]; rfl

theorem RL.uniq {α : Type} {x : L α} {l m : List α} (h : RL x l) (k : RL x m) : l = m := by
  apply List.ext_getElem?
  intro i
  by_cases hi : i < x.len
  · rw [h.2 i hi, k.2 i hi]
  · rw [List.getElem?_eq_none (by rw [← h.1]; omega), List.getElem?_eq_none (by rw [← k.1]; omega)]

/-- A device that reads as two lists. -/
def RD (x : L Int × (L Int × Unit)) (p : List Int × List Int) : Prop := RL x.1 p.1 ∧ RL x.2.1 p.2

theorem RD.nil : RD (nilL (.int .u32), (nilL (.int .u32), ())) ([], []) := ⟨RL.nilL, RL.nilL⟩

theorem ok65 {x : L Int × (L Int × Unit)} {p : List Int × List Int} (h : RD x p) : f65 x = decide (p.1.length ≤ 8 ∧ p.2.length ≤ 8) := by
  have e1 : (x.1.len : Int) = (p.1.length : Int) := by rw [h.1.1]
  have e2 : (x.2.1.len : Int) = (p.2.length : Int) := by rw [h.2.1]
  unfold f65
  rw [e1, e2]
  by_cases hc : p.1.length ≤ 8
  · rw [bif_t (by simp; omega)]
    apply Bool.eq_iff_iff.mpr
    simp only [decide_eq_true_eq]
    omega
  · rw [bif_f (by simp; omega)]
    symm
    rw [decide_eq_false_iff_not]
    omega

theorem list74w (x : L Int) (h : x.len ≤ 1048576) {l : List Int} (hl : RL x l) : ∃ r, g74w x = some ((r, ()), ()) ∧ RL r l := by
  refine ⟨_, by unfold g74w; rw [bif_t (by simp [L.of, most]; omega)], ?_⟩
  exact (RL.of _ []).app hl
theorem copy66w {x : L Int × (L Int × Unit)} {p : List Int × List Int} (h : RD x p) (hp : p.1.length ≤ 8 ∧ p.2.length ≤ 8) : ∃ r, g66w x = some ((r, ()), ()) ∧ RD r p := by
  obtain ⟨r1, e1, k1⟩ := list74w x.1 (by rw [h.1.1]; omega) h.1
  obtain ⟨r2, e2, k2⟩ := list74w x.2.1 (by rw [h.2.1]; omega) h.2
  exact ⟨(r1, (r2, ())), by unfold g66w; rw [e1, e2]; rfl, k1, k2⟩

/-- A word comes in. -/
def dIn (p : List Int × List Int) (w : Int) : (List Int × List Int) × Bool := if p.1.length ≤ 8 ∧ p.2.length ≤ 8 then (if p.1.length = 8 then (p, false) else ((p.1 ++ [w], p.2), true)) else (([], []), false)

theorem in18w {x : L Int × (L Int × Unit)} {p : List Int × List Int} (h : RD x p) (w : Int) : ∃ z, g18w x w = some ((z, (dIn p w).2, ()), ()) ∧ RD z (dIn p w).1 := by
  unfold g18w dIn
  rw [ok65 h]
  by_cases hp : p.1.length ≤ 8 ∧ p.2.length ≤ 8
  · rw [if_pos hp, bif_f (by simp [hp])]
    obtain ⟨r, e, k⟩ := copy66w h hp
    rw [e]
    simp only [Option.bind_some]
    have e1 : (x.1.len : Int) = (p.1.length : Int) := by rw [h.1.1]
    rw [e1]
    by_cases h8 : p.1.length = 8
    · rw [if_pos h8, bif_t (by simp; omega)]
      exact ⟨r, rfl, k⟩
    · rw [if_neg h8, bif_f (by simp; omega), bif_t (by have := k.1.1; simp [L.of, most]; omega)]
      exact ⟨_, rfl, k.1.app (RL.of _ [w]), k.2⟩
  · rw [if_neg hp, bif_t (by simp [hp])]
    exact ⟨_, rfl, RD.nil⟩

theorem dIn_len (p : List Int × List Int) (w : Int) : (dIn p w).1.1.length ≤ 9 ∧ (dIn p w).1.2.length ≤ 8 := by
  unfold dIn
  split
  · split
    · simp only; omega
    · simp only [List.length_append, List.length_singleton]; omega
  · simp

/-- A word is read. -/
def dRd (p : List Int × List Int) : (List Int × List Int) × (Int × Int) := if p.1.length ≤ 8 ∧ p.2.length ≤ 8 then (match p.2 with | [] => (p, 0, 1) | h :: t => ((p.1, t), h, 0)) else (([], []), 0, 3)

theorem rd24w {x : L Int × (L Int × Unit)} {p : List Int × List Int} (h : RD x p) : ∃ z, g24w x = some ((z, (dRd p).2.1, (dRd p).2.2, ()), ()) ∧ RD z (dRd p).1 := by
  unfold g24w dRd
  rw [ok65 h]
  by_cases hp : p.1.length ≤ 8 ∧ p.2.length ≤ 8
  · rw [if_pos hp, bif_f (by simp [hp])]
    obtain ⟨r, e, k⟩ := copy66w h hp
    rw [e]
    simp only [Option.bind_some]
    have hx := h.2
    obtain ⟨p1, p2⟩ := p
    simp only at hx hp k
    cases p2 with
    | nil =>
      rw [bif_t (by simp [hx.1])]
      exact ⟨r, rfl, k⟩
    | cons a t =>
      have hl : x.2.1.len = t.length + 1 := hx.1
      rw [bif_f (by simp; omega), bif_t (by simp; omega)]
      have hc := hx.cut (i := 1) (j := x.2.1.len) (by omega) (Nat.le_refl _)
      have et : ((a :: t).drop 1).take (x.2.1.len - 1) = t := by simp [hl]
      rw [et] at hc
      have ei : (x.2.1.len : Int).toNat = x.2.1.len := Int.toNat_natCast _
      obtain ⟨r2, e2, k2⟩ := list74w (L.cut x.2.1 (1 : Int).toNat (x.2.1.len : Int).toNat) (by rw [ei]; show x.2.1.len - 1 ≤ _; simp at hp; omega) (by rw [ei]; exact hc)
      rw [e2]
      simp only [Option.bind_some]
      rw [bif_t (by simp; omega)]
      have hg := hx.2 0 (by omega)
      simp only [List.getElem?_cons_zero, Option.some.injEq] at hg
      have e0 : x.2.1.get (0 : Int).toNat = a := hg.symm
      rw [e0]
      exact ⟨_, rfl, k.1, k2⟩
  · rw [if_neg hp, bif_t (by simp [hp])]
    exact ⟨_, rfl, RD.nil⟩

theorem dRd_len (p : List Int × List Int) : (dRd p).1.1.length ≤ 9 ∧ (dRd p).1.2.length ≤ 8 := by
  unfold dRd
  split
  · rename_i hp
    obtain ⟨p1, p2⟩ := p
    cases p2 with
    | nil => simp only at hp ⊢; omega
    | cons a t => simp only [List.length_cons] at hp ⊢; omega
  · simp

/-- Words are let be seen. -/
def dN (p : List Int × List Int) : Nat := min p.1.length (8 - p.2.length)
def dOp (p : List Int × List Int) : (List Int × List Int) × Bool := if p.1.length ≤ 8 ∧ p.2.length ≤ 8 then ((p.1.drop (dN p), p.2 ++ p.1.take (dN p)), decide (0 < dN p)) else (([], []), false)

theorem op26loop (q : L Int × (L Int × Unit)) : ∀ (x : (Unit × (Unit × (Bool × Unit))) × ((L Int × (L Int × Unit)) × ((L Int × (L Int × Unit)) × Unit))), (∃ a b, RD x.2.2.1 (a, b) ∧ a.length ≤ 8 ∧ b.length ≤ 8) →
    ∃ d, fixO s26w_L0 x = some d ∧ ∀ a b, RD x.2.2.1 (a, b) → a.length ≤ 8 → b.length ≤ 8 → ∃ z, d = .inl (((), ((), ((x.1.2.2.1 || decide (0 < dN (a, b))), ()))), (x.2.1, (z, ()))) ∧ RD z (a.drop (dN (a, b)), b ++ a.take (dN (a, b))) := by
  refine fixO_rel (step := s26w_L0) (fun x => x.2.2.1.1.len) _ (fun x d => ∀ a b, RD x.2.2.1 (a, b) → a.length ≤ 8 → b.length ≤ 8 → ∃ z, d = .inl (((), ((), ((x.1.2.2.1 || decide (0 < dN (a, b))), ()))), (x.2.1, (z, ()))) ∧ RD z (a.drop (dN (a, b)), b ++ a.take (dN (a, b)))) ?_
  rintro ⟨⟨_, _, t, _⟩, ⟨c1, c2, _⟩, ⟨x1, x2, _⟩, _⟩ ⟨a, b, h, ha, hb⟩
  have e1 : x1.len = a.length := h.1.1
  have e2 : x2.len = b.length := h.2.1
  simp only [s26w_L0, q26w_L0]
  have stop : (a.length = 0 ∨ 8 ≤ b.length) → ∀ a b, RD (x1, (x2, ())) (a, b) → a.length ≤ 8 → b.length ≤ 8 → ∃ z, (Sum.inl (((), ((), (t, ()))), ((c1, (c2, ())), ((x1, (x2, ())), ()))) : ((Unit × (Unit × (Bool × Unit))) × ((L Int × (L Int × Unit)) × ((L Int × (L Int × Unit)) × Unit))) ⊕ Empty) = .inl (((), ((), ((t || decide (0 < dN (a, b))), ()))), ((c1, (c2, ())), (z, ()))) ∧ RD z (a.drop (dN (a, b)), b ++ a.take (dN (a, b))) := by
    intro hs a' b' h' _ _
    have e1' : x1.len = a'.length := h'.1.1
    have e2' : x2.len = b'.length := h'.2.1
    have h0 : dN (a', b') = 0 := by unfold dN; simp only; omega
    refine ⟨(x1, (x2, ())), ?_, ?_⟩
    · rw [h0]; simp
    · rw [h0]; simpa using h'
  by_cases hb8 : b.length < 8
  · rw [bif_t (by simp; omega)]
    by_cases ha0 : 0 < a.length
    · left
      rw [bif_t (by simp; omega), bif_t (by simp; omega), bif_t (by simp [L.of, most]; omega), bif_t (by simp; omega)]
      cases a with
      | nil => simp at ha0
      | cons w r =>
        have hc := h.1.cut (i := 1) (j := x1.len) (by omega) (Nat.le_refl _)
        have et : ((w :: r).drop 1).take (x1.len - 1) = r := by simp at e1; simp [e1]
        rw [et] at hc
        have ei : (x1.len : Int).toNat = x1.len := Int.toNat_natCast _
        obtain ⟨r2, e3, k3⟩ := list74w (L.cut x1 (1 : Int).toNat (x1.len : Int).toNat) (by rw [ei]; show x1.len - 1 ≤ _; omega) (by rw [ei]; exact hc)
        have hg := h.1.2 0 (by show 0 < x1.len; rw [e1]; exact ha0)
        simp only [List.getElem?_cons_zero, Option.some.injEq] at hg
        have e0 : x1.get (0 : Int).toNat = w := hg.symm
        rw [e0, e3]
        have k4 : RL (L.app x2 (L.of (Ty.zero (.int .u32)) [w])) (b ++ [w]) := h.2.app (RL.of _ [w])
        refine ⟨_, rfl, ⟨r, b ++ [w], ⟨k3, k4⟩, by simp at ha; omega, by simp; omega⟩, ?_, fun d hd a' b' h' ha' hb' => ?_⟩
        · show r2.len < x1.len
          rw [k3.1, e1]; simp
        · cases a' with
          | nil => have : x1.len = 0 := h'.1.1; omega
          | cons w' r' =>
            have hg' := h'.1.2 0 (by show 0 < x1.len; omega)
            simp only [List.getElem?_cons_zero, Option.some.injEq] at hg'
            have ew : w' = w := hg'.trans e0
            subst ew
            have e1' : x1.len = (w' :: r').length := h'.1.1
            have hc' := h'.1.cut (i := 1) (j := x1.len) (by omega) (Nat.le_refl _)
            have et' : ((w' :: r').drop 1).take (x1.len - 1) = r' := by simp at e1'; simp [e1']
            rw [et'] at hc'
            have er : r' = r := RL.uniq hc' hc
            subst er
            have e2' : x2.len = b'.length := h'.2.1
            have k4' : RL (L.app x2 (L.of (Ty.zero (.int .u32)) [w'])) (b' ++ [w']) := h'.2.app (RL.of _ [w'])
            obtain ⟨z, q1, q2⟩ := hd r' (b' ++ [w']) ⟨k3, k4'⟩ (by simp at ha'; omega) (by simp; omega)
            have hn : dN (w' :: r', b') = dN (r', b' ++ [w']) + 1 := by
              unfold dN; simp only [List.length_cons, List.length_append, List.length_nil]; omega
            refine ⟨z, ?_, ?_⟩
            · rw [q1, hn]
              simp
            · rw [hn]
              simpa using q2
    · right
      rw [bif_f (by simp; omega)]
      exact ⟨_, rfl, stop (.inl (by omega))⟩
  · right
    rw [bif_f (by simp; omega)]
    exact ⟨_, rfl, stop (.inr (by omega))⟩

theorem op26w {x : L Int × (L Int × Unit)} {p : List Int × List Int} (h : RD x p) : ∃ z, g26w x = some ((z, (dOp p).2, ()), ()) ∧ RD z (dOp p).1 := by
  unfold g26w dOp
  rw [ok65 h]
  by_cases hp : p.1.length ≤ 8 ∧ p.2.length ≤ 8
  · rw [if_pos hp, bif_f (by simp [hp])]
    obtain ⟨r, e, k⟩ := copy66w h hp
    rw [e]
    simp only [Option.bind_some]
    obtain ⟨d, e2, hd⟩ := op26loop r (((), ((), (false, ()))), (((nilL (.int .u32)), ((nilL (.int .u32)), ())), (r, ()))) ⟨p.1, p.2, k, hp.1, hp.2⟩
    obtain ⟨z, rfl, hz⟩ := hd p.1 p.2 k hp.1 hp.2
    rw [e2]
    exact ⟨z, by simp, hz⟩
  · rw [if_neg hp, bif_t (by simp [hp])]
    exact ⟨_, rfl, RD.nil⟩

theorem cat109w {s c : L Int} {b d : List Int} (hs : RL s b) (hc : RL c d) (h1 : b.length ≤ 1000) (h2 : d.length ≤ 1000) : ∃ r, g109w (L.of (Ty.zero (.sl (.int .u32))) [s, c]) = some ((r, ()), ()) ∧ RL r (b ++ d) := by
  have l1 := hs.1
  have l2 := hc.1
  have hm : most = 4294967296 := rfl
  generalize hx : L.of (Ty.zero (.sl (.int .u32))) [s, c] = x
  have xl : x.len = 2 := by subst hx; rfl
  have g0 : x.get (0 : Int).toNat = s := by subst hx; rfl
  have g1 : x.get (1 : Int).toNat = c := by subst hx; rfl
  have e1 : wI (0 + (s.len : Int)) = ((s.len : Nat) : Int) := by rw [wI_id (by omega) (by omega)]; omega
  have e2 : wI (((s.len : Nat) : Int) + (c.len : Int)) = ((s.len + c.len : Nat) : Int) := by rw [wI_id (by omega) (by omega)]; omega
  have w1 : wI (0 + 1) = 1 := wI_id (by omega) (by omega)
  have w2 : wI (1 + 1) = 2 := wI_id (by omega) (by omega)
  have f1 : fixO s109w_L0 ((x, ((0 : Int), (x, ((x.len : Int), ((0 : Int), ()))))), ()) = some (.inl ((x, (((s.len + c.len : Nat) : Int), ())), ())) := by
    rw [fixO_unfold]
    simp only [s109w_L0, q109w_L0]
    rw [bif_t (by simp [xl]), bif_t (by simp [xl]), g0, e1, bif_f (by simp), w1]
    simp only
    rw [fixO_unfold]
    simp only [s109w_L0, q109w_L0]
    rw [bif_t (by simp [xl]), bif_t (by simp [xl]), g1, e2, bif_f (by rw [decide_eq_false_iff_not]; omega), w2]
    simp only
    rw [fixO_unfold]
    simp only [s109w_L0, q109w_L0]
    rw [bif_f (by simp [xl])]
  have f2 : ∀ (t : L Int), RL t [] → ∃ r, fixO s109w_L2 ((t, (x, ((x.len : Int), ((0 : Int), ())))), ()) = some (.inl ((r, ()), ())) ∧ RL r (b ++ d) := by
    intro t ht
    refine ⟨L.app (L.app t s) c, ?_, by have := (ht.app hs).app hc; simpa using this⟩
    have tl : t.len = 0 := ht.1
    rw [fixO_unfold]
    simp only [s109w_L2, q109w_L2]
    rw [bif_t (by simp [xl]), bif_t (by simp [xl]), g0, bif_t (by rw [decide_eq_true_eq, hm]; omega), w1]
    simp only
    rw [fixO_unfold]
    simp only [s109w_L2, q109w_L2]
    rw [bif_t (by simp [xl]), bif_t (by simp [xl]), g1, bif_t (by rw [decide_eq_true_eq, hm]; show t.len + s.len + c.len ≤ _; omega), w2]
    simp only
    rw [fixO_unfold]
    simp only [s109w_L2, q109w_L2]
    rw [bif_f (by simp [xl])]
  unfold g109w
  rw [f1]
  simp only [Option.bind_some]
  rw [bif_f (by simp; omega)]
  have e3 : wI (((s.len + c.len : Nat) : Int) - 0) = ((s.len + c.len : Nat) : Int) := by rw [wI_id (by omega) (by omega)]; omega
  rw [e3]
  by_cases h0 : 0 < s.len + c.len
  · rw [bif_t (by simp only [gt_iff_lt, decide_eq_true_eq]; omega), bif_t (by rw [Bool.and_eq_true, decide_eq_true_eq, decide_eq_true_eq, hm]; clear e1 e2 e3; omega)]
    obtain ⟨r, q1, q2⟩ := f2 _ RL.zL
    rw [q1]
    exact ⟨r, rfl, q2⟩
  · rw [bif_f (by simp only [gt_iff_lt, decide_eq_false_iff_not]; omega)]
    obtain ⟨r, q1, q2⟩ := f2 _ RL.nilL
    rw [q1]
    exact ⟨r, rfl, q2⟩

theorem min_n {x1 x2 : L Int} {p : List Int × List Int} (h1 : RL x1 p.1) (h2 : RL x2 p.2) (hp : p.1.length ≤ 8 ∧ p.2.length ≤ 8) : (if (wI ((8 : Int) - (x2.len : Int))) < (x1.len : Int) then (wI ((8 : Int) - (x2.len : Int))) else (x1.len : Int)) = ((dN p : Nat) : Int) := by
  have l1 := h1.1
  have l2 := h2.1
  rw [wI_id (by omega) (by omega)]
  unfold dN
  split <;> omega

abbrev Op : Type := Int × (Int × Unit)
abbrev Sd : Type := Bool × (Int × (Int × Unit))
abbrev OkD (p : List Int × List Int) : Prop := p.1.length ≤ 8 ∧ p.2.length ≤ 8
def dStep (p : List Int × List Int) (o : Op) : (List Int × List Int) × Sd :=
  if o.1 = 0 then ((dIn p o.2.1).1, ((dIn p o.2.1).2, (0, (0, ()))))
  else if o.1 = 1 then ((dOp p).1, ((dOp p).2, (0, (0, ()))))
  else ((dRd p).1, (false, ((dRd p).2.1, ((dRd p).2.2, ()))))
def dRun : List Int × List Int → List Op → List Sd
  | _, [] => []
  | p, o :: r => (dStep p o).2 :: dRun (dStep p o).1 r
noncomputable def dPlay (os : List Op) : List Sd := if 1000 < os.length then [] else if os.all (fun o => f60 o.1 0 2) = true then dRun ([], []) os else []

theorem dRun_len : ∀ (os : List Op) (p : List Int × List Int), (dRun p os).length = os.length
  | [], _ => rfl
  | o :: r, p => by simp [dRun, dRun_len r]
theorem dPlay_len (os : List Op) : (dPlay os).length ≤ 1000 := by
  unfold dPlay
  split
  · simp
  · split
    · rw [dRun_len]; omega
    · simp

theorem dIn_ok {p : List Int × List Int} (h : OkD p) (w : Int) : OkD (dIn p w).1 := by
  unfold dIn
  rw [if_pos h]
  split
  · exact h
  · refine ⟨?_, h.2⟩
    have := h.1
    simp only [List.length_append, List.length_singleton]; omega
theorem dOp_ok {p : List Int × List Int} (h : OkD p) : OkD (dOp p).1 := by
  unfold dOp
  rw [if_pos h]
  have h1 := h.1; have h2 := h.2
  refine ⟨?_, ?_⟩
  · simp only [List.length_drop]; omega
  · simp only [List.length_append, List.length_take, dN]; omega
theorem dRd_ok {p : List Int × List Int} (h : OkD p) : OkD (dRd p).1 := by
  unfold dRd
  rw [if_pos h]
  obtain ⟨p1, p2⟩ := p
  cases p2 with
  | nil => exact h
  | cons a t =>
    have h1 := h.1; have h2 := h.2
    simp only [List.length_cons] at h1 h2
    exact ⟨h1, by simp only; omega⟩

theorem drop_at {α : Type} {x : L α} {l : List α} (h : RL x l) {i : Nat} (hi : i < x.len) : l.drop i = x.get i :: l.drop (i + 1) := by
  have h1 := h.2 i hi
  obtain ⟨h2, h3⟩ := List.getElem?_eq_some_iff.mp h1
  rw [List.drop_eq_getElem_cons h2, h3]

theorem play29 {t0 : L Op} {os : List Op} (h0 : RL t0 os) (hn : t0.len ≤ 1000) : ∀ (k i : Nat) (x1 x2 : L Int) (p : List Int × List Int) (t3 : L Sd) (l : List Sd), k + i = t0.len → RD (x1, (x2, ())) p → OkD p → RL t3 l → l.length = i →
    ∃ z, fixO s29r_L2 ((t0, (t3, ((), ((i : Int), ())))), ((x1, (x2, ())), ())) = some (.inl ((z, ()), ())) ∧ RL z (l ++ dRun p (os.drop i))
  | 0, i, x1, x2, p, t3, l, hk, hx, hp, h3, hl => by
    have e : os.drop i = [] := List.drop_eq_nil_of_le (by rw [← h0.1]; omega)
    rw [fixO_unfold]
    simp only [s29r_L2, q29r_L2]
    rw [bif_f (by simp; omega)]
    exact ⟨t3, rfl, by rw [e]; simpa [dRun] using h3⟩
  | k + 1, i, x1, x2, p, t3, l, hk, hx, hp, h3, hl => by
    have hi : i < t0.len := by omega
    have hd := drop_at h0 hi
    have hm : most = 4294967296 := rfl
    have hl3 : t3.len = i := by rw [h3.1]; exact hl
    have hlen : t3.len + 1 ≤ most := by omega
    have hb : ∀ (q : L Sd), q.len = 1 → decide (t3.len + q.len ≤ most) = true := fun q e => by rw [e]; exact decide_eq_true hlen
    rw [fixO_unfold]
    simp only [s29r_L2, q29r_L2]
    rw [bif_t (idx_lt hi), bif_t (idx_in hi)]
    simp only [Int.toNat_natCast]
    generalize t0.get i = o at hd ⊢
    have go : ∀ (z1 z2 : L Int) (p' : List Int × List Int) (s : Sd), dStep p o = (p', s) → RD (z1, (z2, ())) p' → OkD p' →
        ∃ z, fixO s29r_L2 ((t0, (L.app t3 (L.of (Ty.zero (.pair .bool (.pair (.int .u32) (.pair (.int .i64) .unit)))) [s]), ((), (((i + 1 : Nat) : Int), ())))), ((z1, (z2, ())), ())) = some (.inl ((z, ()), ())) ∧ RL z (l ++ dRun p (os.drop i)) := by
      intro z1 z2 p' s hs hz hp'
      obtain ⟨z, q1, q2⟩ := play29 h0 hn k (i + 1) z1 z2 p' (L.app t3 (L.of (Ty.zero (.pair .bool (.pair (.int .u32) (.pair (.int .i64) .unit)))) [s])) (l ++ [s]) (by omega) hz hp' (h3.app (RL.of _ [s])) (by simp; omega)
      refine ⟨z, q1, ?_⟩
      rw [hd, dRun, hs]
      simpa using q2
    by_cases c0 : o.1 = 0
    · rw [bif_t (by simp [c0]), bif_t (idx_in hi)]
      obtain ⟨⟨z1, z2, _⟩, e, hz⟩ := in18w hx o.2.1
      rw [e]
      simp only [Option.bind_some]
      rw [bif_t (hb _ rfl), wI_succ hi (by omega)]
      exact go z1 z2 _ _ (by unfold dStep; rw [if_pos c0]) hz (dIn_ok hp _)
    · rw [bif_f (by simp [c0])]
      by_cases c1 : o.1 = 1
      · rw [bif_t (by simp [c1])]
        obtain ⟨⟨z1, z2, _⟩, e, hz⟩ := op26w hx
        rw [e]
        simp only [Option.bind_some]
        rw [bif_t (hb _ rfl), wI_succ hi (by omega)]
        exact go z1 z2 _ _ (by unfold dStep; rw [if_neg c0, if_pos c1]) hz (dOp_ok hp)
      · rw [bif_f (by simp [c1])]
        obtain ⟨⟨z1, z2, _⟩, e, hz⟩ := rd24w hx
        rw [e]
        simp only [Option.bind_some]
        rw [bif_t (hb _ rfl), wI_succ hi (by omega)]
        exact go z1 z2 _ _ (by unfold dStep; rw [if_neg c0, if_neg c1]) hz (dRd_ok hp)

theorem play31 {t0 : L Op} {os : List Op} (h0 : RL t0 os) (hn : t0.len ≤ 1000) : ∀ (k i : Nat) (x1 x2 : L Int) (p : List Int × List Int) (t3 : L Sd) (l : List Sd), k + i = t0.len → RD (x1, (x2, ())) p → OkD p → RL t3 l → l.length = i →
    ∃ z, fixO s31r_L0 (((), (t3, (t0, ((t0.len : Int), ((i : Int), ()))))), ((x1, (x2, ())), ())) = some (.inl ((z, ()), ())) ∧ RL z (l ++ dRun p (os.drop i))
  | 0, i, x1, x2, p, t3, l, hk, hx, hp, h3, hl => by
    have e : os.drop i = [] := List.drop_eq_nil_of_le (by rw [← h0.1]; omega)
    rw [fixO_unfold]
    simp only [s31r_L0, q31r_L0]
    rw [bif_f (by simp; omega)]
    exact ⟨t3, rfl, by rw [e]; simpa [dRun] using h3⟩
  | k + 1, i, x1, x2, p, t3, l, hk, hx, hp, h3, hl => by
    have hi : i < t0.len := by omega
    have hd := drop_at h0 hi
    have hm : most = 4294967296 := rfl
    have hl3 : t3.len = i := by rw [h3.1]; exact hl
    have hlen : t3.len + 1 ≤ most := by omega
    have hb : ∀ (q : L Sd), q.len = 1 → decide (t3.len + q.len ≤ most) = true := fun q e => by rw [e]; exact decide_eq_true hlen
    have hp1 := hp.1; have hp2 := hp.2
    have lx1 : x1.len = p.1.length := hx.1.1
    have lx2 : x2.len = p.2.length := hx.2.1
    have hbx : ∀ (q : L Int), q.len = 1 → decide (x1.len + q.len ≤ most) = true := fun q e => by rw [e]; exact decide_eq_true (by omega)
    rw [fixO_unfold]
    simp only [s31r_L0, q31r_L0]
    rw [bif_t (idx_lt hi), bif_t (idx_in hi)]
    simp only [Int.toNat_natCast]
    generalize t0.get i = o at hd ⊢
    have go : ∀ (z1 z2 : L Int) (p' : List Int × List Int) (s : Sd), dStep p o = (p', s) → RD (z1, (z2, ())) p' → OkD p' →
        ∃ z, fixO s31r_L0 (((), (L.app t3 (L.of (Ty.zero (.pair .bool (.pair (.int .u32) (.pair (.int .i64) .unit)))) [s]), (t0, ((t0.len : Int), (((i + 1 : Nat) : Int), ()))))), ((z1, (z2, ())), ())) = some (.inl ((z, ()), ())) ∧ RL z (l ++ dRun p (os.drop i)) := by
      intro z1 z2 p' s hs hz hp'
      obtain ⟨z, q1, q2⟩ := play31 h0 hn k (i + 1) z1 z2 p' (L.app t3 (L.of (Ty.zero (.pair .bool (.pair (.int .u32) (.pair (.int .i64) .unit)))) [s])) (l ++ [s]) (by omega) hz hp' (h3.app (RL.of _ [s])) (by simp; omega)
      refine ⟨z, q1, ?_⟩
      rw [hd, dRun, hs]
      simpa using q2
    by_cases c0 : o.1 = 0
    · rw [bif_t (by simp [c0])]
      by_cases c8 : p.1.length = 8
      · have hs : dIn p o.2.1 = (p, false) := by unfold dIn; rw [if_pos hp, if_pos c8]
        rw [bif_t (by simp; omega), bif_t (hb _ rfl), wI_succ hi (by omega)]
        exact go x1 x2 p _ (by unfold dStep; rw [if_pos c0, hs]) hx hp
      · have hs : dIn p o.2.1 = ((p.1 ++ [o.2.1], p.2), true) := by unfold dIn; rw [if_pos hp, if_neg c8]
        rw [bif_f (by simp; omega)]
        erw [bif_t (hbx (L.of (Ty.zero (.int .u32)) [o.2.1]) rfl), bif_t (hb (L.of (Ty.zero (.pair .bool (.pair (.int .u32) (.pair (.int .i64) .unit)))) [(true, (0, (0, ())))]) rfl)]
        rw [wI_succ hi (by omega)]
        exact go _ x2 (p.1 ++ [o.2.1], p.2) _ (by unfold dStep; rw [if_pos c0, hs]) ⟨hx.1.app (RL.of _ [o.2.1]), hx.2⟩ ⟨by simp; omega, hp2⟩
    · rw [bif_f (by simp [c0])]
      by_cases c1 : o.1 = 1
      · have hs : dOp p = ((p.1.drop (dN p), p.2 ++ p.1.take (dN p)), decide (0 < dN p)) := by unfold dOp; rw [if_pos hp]
        rw [bif_t (by simp [c1]), min_n hx.1 hx.2 hp]
        have hdn : dN p ≤ x1.len := by unfold dN; omega
        rw [bif_t (by simp; omega)]
        have hc := hx.1.cut (i := 0) (j := dN p) (Nat.zero_le _) hdn
        have et : (p.1.drop 0).take (dN p - 0) = p.1.take (dN p) := by simp
        rw [et] at hc
        obtain ⟨r2, q1, q2⟩ := cat109w hx.2 (c := L.cut x1 (0 : Int).toNat ((dN p : Nat) : Int).toNat) hc (by omega) (by rw [List.length_take]; omega)
        rw [q1]
        simp only [Option.bind_some]
        have hc2 := hx.1.cut (i := dN p) (j := x1.len) hdn (Nat.le_refl _)
        have et2 : (p.1.drop (dN p)).take (x1.len - dN p) = p.1.drop (dN p) := by
          rw [List.take_of_length_le]
          rw [List.length_drop]; omega
        rw [et2] at hc2
        have e3 : decide (((dN p : Nat) : Int) > 0) = decide (0 < dN p) := by
          apply Bool.eq_iff_iff.mpr; simp
        rw [bif_t (by simp; omega), bif_t (hb _ rfl), wI_succ hi (by omega), e3]
        have ok := dOp_ok hp
        rw [hs] at ok
        exact go (L.cut x1 (dN p) x1.len) r2 (p.1.drop (dN p), p.2 ++ p.1.take (dN p)) _ (by unfold dStep; rw [if_neg c0, if_pos c1, hs]) ⟨hc2, q2⟩ ok
      · rw [bif_f (by simp [c1])]
        obtain ⟨p1, p2⟩ := p
        simp only at hp1 hp2 lx1 lx2
        cases p2 with
        | nil =>
          have hs : dRd (p1, []) = ((p1, []), 0, 1) := by unfold dRd; rw [if_pos hp]
          rw [bif_t (by simp [lx2]), bif_t (hb _ rfl), wI_succ hi (by omega)]
          exact go x1 x2 _ _ (by unfold dStep; rw [if_neg c0, if_neg c1, hs]) hx hp
        | cons a t =>
          have hs : dRd (p1, a :: t) = ((p1, t), a, 0) := by unfold dRd; rw [if_pos hp]
          have lx2 : x2.len = t.length + 1 := lx2
          rw [bif_f (by simp; omega), bif_t (by simp; omega), bif_t (by simp; omega), bif_t (hb _ rfl), wI_succ hi (by omega)]
          have hc := hx.2.cut (i := 1) (j := x2.len) (by omega) (Nat.le_refl _)
          have et : ((a :: t).drop 1).take (x2.len - 1) = t := by simp [lx2]
          rw [et] at hc
          have hg := hx.2.2 0 (by show 0 < x2.len; omega)
          simp only [List.getElem?_cons_zero, Option.some.injEq] at hg
          have e0 : x2.get (0 : Int).toNat = a := hg.symm
          rw [e0]
          exact go x1 _ (p1, t) _ (by unfold dStep; rw [if_neg c0, if_neg c1, hs]) ⟨hx.1, hc⟩ ⟨hp1, by simp at hp2; simp only; omega⟩

theorem all_of {x : L Op} {os : List Op} (h : RL x os) : os.all (fun o => f60 o.1 0 2) = true ↔ ∀ i, i < x.len → f60 (x.get i).1 0 2 = true := by
  rw [List.all_eq_true]
  constructor
  · intro q i hi
    exact q _ (List.mem_of_getElem? (h.2 i hi))
  · intro q o ho
    obtain ⟨i, hi, rfl⟩ := List.mem_iff_getElem.mp ho
    have hi' : i < x.len := by rw [h.1]; exact hi
    have e := h.2 i hi'
    rw [List.getElem?_eq_getElem hi] at e
    rw [Option.some.inj e]
    exact q i hi'

theorem dev29r {x : L Op} {os : List Op} (h : RL x os) (hs : x.len ≤ 1048576) : ∃ z, g29r x = some ((z, ()), ()) ∧ RL z (dPlay os) := by
  unfold g29r dPlay
  have hl := h.1
  by_cases hn : 1000 < os.length
  · rw [if_pos hn, bif_t (by simp; omega)]
    exact ⟨_, rfl, RL.of _ []⟩
  · rw [if_neg hn, bif_f (by simp; omega)]
    generalize he : (L.of (Ty.zero (.pair .bool (.pair (.int .u32) (.pair (.int .i64) .unit)))) [] : L Sd) = t3
    have h3 : RL t3 [] := by subst he; exact RL.of _ []
    rcases scan (step := s29r_L0) (fun i => ((x, (t3, ((i : Int), ()))), ())) x.len (fun i => f60 (x.get i).1 0 2) (fun _ => .inl ((t3, ()), ())) (.inr (.inl ((x, (t3, ())), ())))
      (fun i hi ho => by
        simp only [s29r_L0, q29r_L0]
        rw [bif_t (idx_lt hi), bif_t (idx_in hi)]
        simp only [Int.toNat_natCast]
        rw [bif_f (by simp [ho]), wI_succ hi (by omega)])
      (fun i hi ho => by
        simp only [s29r_L0, q29r_L0]
        rw [bif_t (idx_lt hi), bif_t (idx_in hi)]
        simp only [Int.toNat_natCast]
        rw [bif_t (by simp [ho])])
      (by
        simp only [s29r_L0, q29r_L0]
        rw [bif_f (idx_end _)]) with ⟨i, h1, h2, _, h4⟩ | ⟨h1, h2⟩
    · rw [if_neg (fun q => by rw [(all_of h).mp q i h1] at h2; cases h2)]
      have h4 : fixO s29r_L0 ((x, (t3, ((0 : Int), ()))), ()) = some (.inl ((t3, ()), ())) := h4
      rw [h4]
      exact ⟨t3, rfl, h3⟩
    · rw [if_pos ((all_of h).mpr h1)]
      have h2 : fixO s29r_L0 ((x, (t3, ((0 : Int), ()))), ()) = some (.inr (.inl ((x, (t3, ())), ()))) := h2
      rw [h2]
      simp only [Option.bind_some]
      obtain ⟨z, q1, q2⟩ := play29 h (by omega) x.len 0 _ _ ([], []) t3 [] (by omega) RD.nil ⟨by simp, by simp⟩ h3 rfl
      have q1 : fixO s29r_L2 ((x, (t3, ((), ((0 : Int), ())))), (((nilL (.int .u32)), ((nilL (.int .u32)), ())), ())) = some (.inl ((z, ()), ())) := q1
      rw [q1]
      exact ⟨z, rfl, by simpa using q2⟩

theorem dev31r {x : L Op} {os : List Op} (h : RL x os) (hs : x.len ≤ 1048576) : ∃ z, g31r x = some ((z, ()), ()) ∧ RL z (dPlay os) := by
  unfold g31r dPlay
  have hl := h.1
  have h3 : RL (nilL (.pair .bool (.pair (.int .u32) (.pair (.int .i64) .unit))) : L Sd) [] := ⟨rfl, fun i q => absurd q (Nat.not_lt_zero _)⟩
  by_cases hn : 1000 < os.length
  · rw [if_pos hn, bif_t (by simp; omega)]
    exact ⟨_, rfl, h3⟩
  · rw [if_neg hn, bif_f (by simp; omega)]
    have hi := index_loop (step := s110_79_L0) (x := x) (c := ()) (fun i => f79 (x.get i)) (fun i hi => by
      simp only [s110_79_L0, q110_79_L0]
      rw [bif_t (idx_lt hi), bif_t (idx_in hi)]
      simp only [Int.toNat_natCast]
      cases hc : f79 (x.get i) with
      | true => rw [if_pos rfl]; rfl
      | false => rw [if_neg (by simp), wI_succ hi (by omega)]; rfl) (by
      simp only [s110_79_L0, q110_79_L0]
      rw [bif_f (idx_end _)])
    have ef : ∀ i, f79 (x.get i) = !f60 (x.get i).1 0 2 := fun i => rfl
    rcases hi with ⟨i, h1, h2, _, h4⟩ | ⟨h1, h2⟩
    · rw [if_neg (fun q => by rw [ef, (all_of h).mp q i h1] at h2; cases h2)]
      have e : g78_79 x () = some ((true, ()), ()) := by
        unfold g78_79 g110_79
        rw [h4]
        simp
      rw [e]
      exact ⟨_, rfl, h3⟩
    · rw [if_pos ((all_of h).mpr fun i hi => by have := h1 i hi; rw [ef] at this; simpa using this)]
      have e : g78_79 x () = some ((false, ()), ()) := by
        unfold g78_79 g110_79
        rw [h2]
        rfl
      rw [e]
      simp only [Option.bind_some, cond_false]
      obtain ⟨z, q1, q2⟩ := play31 h (by omega) x.len 0 _ _ ([], []) _ [] (by omega) RD.nil ⟨by simp, by simp⟩ h3 rfl
      have q1 : fixO s31r_L0 (((), ((nilL (.pair .bool (.pair (.int .u32) (.pair (.int .i64) .unit)))), (x, ((x.len : Int), ((0 : Int), ()))))), (((nilL (.int .u32)), ((nilL (.int .u32)), ())), ())) = some (.inl ((z, ()), ())) := q1
      rw [q1]
      exact ⟨z, rfl, by simpa using q2⟩

theorem to30r (x : L Op) (h : x.len ≤ 1048576) {l : List Op} (hl : RL x l) : ∃ r, g30r x = some ((r, ()), ()) ∧ RL r l := by
  obtain ⟨r, h1, h2, h3⟩ := copy_loop (step := s30r_L0) (x := x) (fun i => x.get i) (fun i r hi hr => by
    simp only [s30r_L0, q30r_L0]
    rw [bif_t (idx_lt hi), bif_t (idx_in hi), bif_t (by rw [hr]; exact idx_in hi), wI_succ hi (by omega), Int.toNat_natCast]
    rfl) (fun r => by
    simp only [s30r_L0, q30r_L0]
    rw [bif_f (idx_end _)]) (r0 := L.rep (x.len : Int).toNat (Ty.zero (.pair (.int .i64) (.pair (.int .u32) .unit)))) (by simp [L.rep])
  refine ⟨r, ?_, ⟨by rw [h2]; exact hl.1, fun i hi => ?_⟩⟩
  · unfold g30r
    rw [bif_t (by simp; omega)]
    have h1 : fixO s30r_L0 ((x, ((), ((0 : Int), ()))), ((L.rep (x.len : Int).toNat (Ty.zero (.pair (.int .i64) (.pair (.int .u32) .unit)))), ())) = _ := h1
    erw [h1]
    rfl
  · rw [h2] at hi
    rw [h3 i hi]; exact hl.2 i hi

theorem RL.same {α : Type} {x y : L α} {l : List α} (hx : RL x l) (hy : RL y l) : x.len = y.len ∧ ∀ i, i < x.len → x.get i = y.get i := by
  have hl : x.len = y.len := by rw [hx.1, hy.1]
  refine ⟨hl, fun i hi => ?_⟩
  have e1 := hx.2 i hi
  have e2 := hy.2 i (by omega)
  rw [e1] at e2; exact Option.some.inj e2

theorem eq80 (a : Sd) : f80 a a = true := by unfold f80; simp
theorem eq81 (a : Op) : f81 a a = true := by unfold f81; simp

theorem eq32 {x y : L Sd} {l : List Sd} (hx : RL x l) (hy : RL y l) (h : l.length ≤ 1000) : g32 x y = some ((true, ()), ()) := by
  obtain ⟨hl, hg⟩ := RL.same hx hy
  have hlen := hx.1
  have h1 := eq_loop (step := s32_L0) (x := x) (y := y) (fun i hi => by
    simp only [s32_L0, q32_L0]
    rw [bif_t (idx_lt hi), bif_t (idx_in hi), bif_t (idx_in (by omega))]
    simp only [Int.toNat_natCast]
    rw [hg i hi, bif_f (by rw [eq80]; rfl), wI_succ hi (by omega)]) (by
    simp only [s32_L0, q32_L0]
    rw [bif_f (idx_end _)])
  unfold g32
  rw [bif_f (by simp [hl]), h1]
  rfl
theorem eq33 {x y : L Op} {l : List Op} (hx : RL x l) (hy : RL y l) (h : l.length ≤ 1048576) : g33 x y = some ((true, ()), ()) := by
  obtain ⟨hl, hg⟩ := RL.same hx hy
  have hlen := hx.1
  have h1 := eq_loop (step := s33_L0) (x := x) (y := y) (fun i hi => by
    simp only [s33_L0, q33_L0]
    rw [bif_t (idx_lt hi), bif_t (idx_in hi), bif_t (idx_in (by omega))]
    simp only [Int.toNat_natCast]
    rw [hg i hi, bif_f (by rw [eq81]; rfl), wI_succ hi (by omega)]) (by
    simp only [s33_L0, q33_L0]
    rw [bif_f (idx_end _)])
  unfold g33
  rw [bif_f (by simp [hl]), h1]
  rfl

theorem mark34 (x : L Op) (h : x.len ≤ 1048576) : ∃ r, g34 x 1 = some ((((1 + 2 * x.len : Nat) : Int), ()), (r, ())) := by
  obtain ⟨d, h1, r, rfl⟩ := fixO_rel (step := s34_L0) (fun y => x.len - y.1.2.2.1.toNat)
    (fun y => ∃ (i : Nat) (r : L Op), y = (((), (((1 + 2 * i : Nat) : Int), ((i : Int), ()))), (r, ())) ∧ i ≤ x.len ∧ r.len = x.len)
    (fun _ d => ∃ r : L Op, d = .inl ((((1 + 2 * x.len : Nat) : Int), ()), (r, ()))) (by
      rintro _ ⟨i, r, rfl, hi, hr⟩
      by_cases h : i < x.len
      · left
        have e1 : wI (((1 + 2 * i : Nat) : Int) + 1) = ((1 + 2 * i + 1 : Nat) : Int) := by rw [wI_id (by omega) (by omega)]; omega
        have e2 : wI (((1 + 2 * i + 1 : Nat) : Int) + 1) = ((1 + 2 * (i + 1) : Nat) : Int) := by rw [wI_id (by omega) (by omega)]; omega
        let r1 : L Op := L.set r i (((1 + 2 * i : Nat) : Int), (r.get i).2)
        let r2 : L Op := L.set r1 i ((r1.get i).1, (IntKind.u32.wrap ((1 + 2 * i + 1 : Nat) : Int), ()))
        refine ⟨(((), (((1 + 2 * (i + 1) : Nat) : Int), (((i + 1 : Nat) : Int), ()))), (r2, ())), ?_, ⟨i + 1, r2, rfl, h, hr⟩, ?_, fun d hd => hd⟩
        · simp only [s34_L0, q34_L0]
          rw [bif_t (idx_lt (by omega)), bif_t (idx_in (by omega)), bif_t (idx_in (by show i < r.len; omega)), e1, e2, wI_succ h (by omega)]
          rfl
        simp only [Int.toNat_natCast]; omega
      · right
        have : i = x.len := by omega
        subst this
        exact ⟨_, by simp only [s34_L0, q34_L0]; rw [bif_f (by simp [hr])], r, rfl⟩) (((), ((1 : Int), ((0 : Int), ()))), (x, ())) ⟨0, x, by simp, Nat.zero_le _, rfl⟩
  refine ⟨r, ?_⟩
  unfold g34
  rw [h1]; rfl

/-- The marks of what is said. -/
def mk35 (i : Nat) : Sd := (Int.tmod ((1 + 3 * i : Nat) : Int) 3 == 0, (IntKind.u32.wrap ((1 + 3 * i + 1 : Nat) : Int), (((1 + 3 * i + 2 : Nat) : Int), ())))

theorem mark35 (x : L Sd) (h : x.len ≤ 1000) : ∃ r, g35 x 1 = some ((((1 + 3 * x.len : Nat) : Int), ()), (r, ())) ∧ r.len = x.len ∧ ∀ i, i < x.len → r.get i = mk35 i := by
  obtain ⟨d, h1, r, rfl, h2, h3⟩ := fixO_rel (step := s35_L0) (fun y => x.len - y.1.2.2.1.toNat)
    (fun y => ∃ (i : Nat) (r : L Sd), y = (((), (((1 + 3 * i : Nat) : Int), ((i : Int), ()))), (r, ())) ∧ i ≤ x.len ∧ r.len = x.len ∧ ∀ j, j < i → r.get j = mk35 j)
    (fun _ d => ∃ r : L Sd, d = .inl ((((1 + 3 * x.len : Nat) : Int), ()), (r, ())) ∧ r.len = x.len ∧ ∀ i, i < x.len → r.get i = mk35 i) (by
      rintro _ ⟨i, r, rfl, hi, hr, hf⟩
      by_cases h : i < x.len
      · left
        have e1 : wI (((1 + 3 * i : Nat) : Int) + 1) = ((1 + 3 * i + 1 : Nat) : Int) := by rw [wI_id (by omega) (by omega)]; omega
        have e2 : wI (((1 + 3 * i + 1 : Nat) : Int) + 1) = ((1 + 3 * i + 2 : Nat) : Int) := by rw [wI_id (by omega) (by omega)]; omega
        have e3 : wI (((1 + 3 * i + 2 : Nat) : Int) + 1) = ((1 + 3 * (i + 1) : Nat) : Int) := by rw [wI_id (by omega) (by omega)]; omega
        let r1 : L Sd := L.set r i ((Int.tmod ((1 + 3 * i : Nat) : Int) 3 == 0), (r.get i).2)
        let r2 : L Sd := L.set r1 i ((r1.get i).1, (IntKind.u32.wrap ((1 + 3 * i + 1 : Nat) : Int), (r1.get i).2.2))
        let r3 : L Sd := L.set r2 i ((r2.get i).1, ((r2.get i).2.1, (((1 + 3 * i + 2 : Nat) : Int), ())))
        refine ⟨(((), (((1 + 3 * (i + 1) : Nat) : Int), (((i + 1 : Nat) : Int), ()))), (r3, ())), ?_, ⟨i + 1, r3, rfl, h, hr, fun j hj => ?_⟩, ?_, fun d hd => hd⟩
        · simp only [s35_L0, q35_L0]
          rw [bif_t (idx_lt (by omega)), bif_t (idx_in (by omega)), bif_t (idx_in (by show i < r.len; omega)), bif_t (idx_in (by show i < r.len; omega)), e1, e2, e3, wI_succ h (by omega)]
          rfl
        · simp only [r3, r2, r1, set_get]
          by_cases hji : j = i
          · subst hji
            simp only [if_true]
            rfl
          · simp only [if_neg hji]
            exact hf j (by omega)
        · simp only [Int.toNat_natCast]; omega
      · right
        have : i = x.len := by omega
        subst this
        exact ⟨_, by simp only [s35_L0, q35_L0]; rw [bif_f (by simp [hr])], r, rfl, hr, hf⟩) (((), ((1 : Int), ((0 : Int), ()))), (x, ())) ⟨0, x, by simp, Nat.zero_le _, rfl, fun j hj => absurd hj (Nat.not_lt_zero _)⟩
  refine ⟨r, ?_, h2, h3⟩
  unfold g35
  rw [h1]; rfl

theorem held36 (x : L Sd) (h : x.len ≤ 1000) (hx : ∀ i, i < x.len → x.get i = mk35 i) : g36 x 1 = some ((((1 + 3 * x.len : Nat) : Int), ()), ()) := by
  obtain ⟨d, h1, rfl⟩ := fixO_rel (step := s36_L0) (fun y => x.len - y.1.2.2.1.toNat)
    (fun y => ∃ (i : Nat), y = ((x, (((1 + 3 * i : Nat) : Int), ((i : Int), ()))), ()) ∧ i ≤ x.len)
    (fun _ d => d = .inr (.inl ((((1 + 3 * x.len : Nat) : Int), ()), ()))) (by
      rintro _ ⟨i, rfl, hi⟩
      by_cases h : i < x.len
      · left
        have e1 : wI (((1 + 3 * i : Nat) : Int) + 1) = ((1 + 3 * i + 1 : Nat) : Int) := by rw [wI_id (by omega) (by omega)]; omega
        have e2 : wI (((1 + 3 * i + 1 : Nat) : Int) + 1) = ((1 + 3 * i + 2 : Nat) : Int) := by rw [wI_id (by omega) (by omega)]; omega
        have e3 : wI (((1 + 3 * i + 2 : Nat) : Int) + 1) = ((1 + 3 * (i + 1) : Nat) : Int) := by rw [wI_id (by omega) (by omega)]; omega
        refine ⟨_, by
          simp only [s36_L0, q36_L0]
          simp only [Int.toNat_natCast, hx i h]
          rw [bif_t (idx_lt h), bif_t (idx_in h), bif_f (by simp [mk35]), bif_t (idx_in h), e1, bif_f (by simp [mk35]), bif_t (idx_in h), e2, bif_f (by simp [mk35]), e3, wI_succ h (by omega)], ⟨i + 1, rfl, h⟩, ?_, fun d hd => hd⟩
        simp only [Int.toNat_natCast]; omega
      · right
        have : i = x.len := by omega
        subst this
        exact ⟨_, by simp only [s36_L0, q36_L0]; rw [bif_f (idx_end _)], rfl⟩) ((x, ((1 : Int), ((0 : Int), ()))), ()) ⟨0, by simp, Nat.zero_le _⟩
  unfold g36
  rw [h1]; rfl

theorem law (x : L Op) (h1 : x.len ≤ 2 ^ 47) : g8 x = some ((true, ()), ()) := by
  unfold g8
  by_cases hz : f28 x 1048576 < 0
  · rw [bif_t (by simpa using hz)]
  · rw [bif_f (by simpa using hz)]
    have hl : x.len ≤ 1048576 := by
      have h47 : (2 : Nat) ^ 47 = 140737488355328 := by decide
      rw [h47] at h1
      unfold f28 at hz
      rw [wI_id (by omega) (by omega)] at hz
      by_cases hc : (1048576 : Int) - x.len < 0
      · rw [bif_t (by simpa using hc)] at hz; simp at hz
      · omega
    obtain ⟨l, hx⟩ : ∃ l, RL x l := ⟨_, RL.list _⟩
    obtain ⟨r, e0, hr⟩ := to30r x hl hx
    have hrl : r.len = x.len := by rw [hr.1, hx.1]
    have hll : l.length ≤ 1048576 := by rw [← hx.1]; exact hl
    obtain ⟨z, e1, hz1⟩ := dev29r hr (by omega)
    obtain ⟨y, e2, hy⟩ := dev31r hr (by omega)
    have hd := dPlay_len l
    have e3 : g32 y z = some ((true, ()), ()) := eq32 hy hz1 hd
    have e4 : g33 r r = some ((true, ()), ()) := eq33 hr hr hll
    obtain ⟨m, a1⟩ := mark34 r (by omega)
    have hyl : y.len ≤ 1000 := by rw [hy.1]; exact hd
    obtain ⟨n, b1, c1, c2⟩ := mark35 y hyl
    have b2 := held36 n (by omega) (fun i hi => c2 i (by omega))
    rw [c1] at b2
    simp only [e0, Option.bind_some, e1, e2, e3, e4, a1, b1, b2, Bool.not_true, cond_false]
    rw [bif_f (by simp; omega), bif_f (by simp; omega)]
    simp only [bne_self_eq_false, cond_false]
    rw [bif_f (by simp; omega)]

theorem plain : ∀ x, wfIns tysOf x → ∃ z, c8.F x = some ((true, ()), z) := by
  rintro ⟨x, ⟨⟩⟩ ⟨hw1, _⟩
  exact ⟨(), law x hw1.1⟩


end Go.VE.VFnExactDevPlay
