import Derived.Test.YtnjlpdagdedbaaaVFnDevice
import Derived.Test.YtnjlpdagdedbaaaVgY
/- laws.FnDevice returns true: in plain words, no program in sight. -/
set_option linter.unusedVariables false
set_option linter.unusedSimpArgs false
namespace Go.VE.VFnDevice
open Go.VE
abbrev tysOf : List Ty := [(.sl (.int .u8))]
/-- A row that reads as a list. -/
def RL {α : Type} (x : L α) (l : List α) : Prop := x.len = l.length ∧ ∀ i, i < x.len → l[i]? = some (x.get i)

theorem RL.nilL : RL (nilL (.int .u32)) [] := ⟨rfl, fun i h => absurd h (Nat.not_lt_zero _)⟩
theorem RL.zL : RL (zL (.int .u32)) [] := ⟨rfl, fun i h => absurd h (Nat.not_lt_zero _)⟩
theorem RL.app {α : Type} {x y : L α} {l m : List α} (h : RL x l) (k : RL y m) : RL (L.app x y) (l ++ m) := by
  refine ⟨by show x.len + y.len = _; rw [h.1, k.1, List.length_append], fun i hi => ?_⟩
  have hi : i < x.len + y.len := hi
  show _ = some (bif Nat.blt i x.len then x.get i else y.get (i - x.len))
  by_cases hc : i < x.len
  · rw [bif_t (by simpa using hc), List.getElem?_append_left (by rw [← h.1]; exact hc)]
    exact h.2 i hc
  · rw [bif_f (by cases hb : Nat.blt i x.len with | true => exact absurd (by simpa using hb) hc | false => rfl), List.getElem?_append_right (by rw [← h.1]; omega), ← h.1]
    exact k.2 _ (by omega)
theorem RL.new {α : Type} {x : L α} {l : List α} (h : RL x l) : RL (L.new x) l := h
theorem RL.of {α : Type} (d : α) (l : List α) : RL (L.of d l) l := by
  refine ⟨rfl, fun i hi => ?_⟩
  have hi : i < l.length := hi
  show _ = some (l.getD i d)
  rw [List.getD_eq_getElem?_getD, List.getElem?_eq_getElem hi]; rfl
theorem RL.cut {α : Type} {x : L α} {l : List α} (h : RL x l) {i j : Nat} (hij : i ≤ j) (hj : j ≤ x.len) : RL (L.cut x i j) ((l.drop i).take (j - i)) := by
  have hl := h.1
  refine ⟨by show j - i = _; rw [List.length_take, List.length_drop]; omega, fun k hk => ?_⟩
  have hk : k < j - i := hk
  show _ = some (x.get (i + k))
  rw [List.getElem?_take, if_pos hk, List.getElem?_drop]
  exact h.2 _ (by omega)
theorem RL.list {α : Type} (x : L α) : RL x ((List.range x.len).map x.get) := by
  refine ⟨by simp, fun i hi => ?_⟩
  rw [List.getElem?_map, List.getElem?_range hi]; rfl

theorem RL.uniq {α : Type} {x : L α} {l m : List α} (h : RL x l) (k : RL x m) : l = m := by
  apply List.ext_getElem?
  intro i
  by_cases hi : i < x.len
  · rw [h.2 i hi, k.2 i hi]
  · rw [List.getElem?_eq_none (by rw [← h.1]; omega), List.getElem?_eq_none (by rw [← k.1]; omega)]

/-- A device that reads as two lists. -/
def RD (x : L Int × (L Int × Unit)) (p : List Int × List Int) : Prop := RL x.1 p.1 ∧ RL x.2.1 p.2

theorem RD.nil : RD (nilL (.int .u32), (nilL (.int .u32), ())) ([], []) := ⟨RL.nilL, RL.nilL⟩

theorem ok65 {x : L Int × (L Int × Unit)} {p : List Int × List Int} (h : RD x p) : f65 x = decide (p.1.length ≤ 8 ∧ p.2.length ≤ 8) := by
  have e1 : (x.1.len : Int) = (p.1.length : Int) := by rw [h.1.1]
  have e2 : (x.2.1.len : Int) = (p.2.length : Int) := by rw [h.2.1]
  unfold f65
  rw [e1, e2]
  by_cases hc : p.1.length ≤ 8
  · rw [bif_t (by simp; omega)]
    apply Bool.eq_iff_iff.mpr
    simp only [decide_eq_true_eq]
    omega
  · rw [bif_f (by simp; omega)]
    symm
    rw [decide_eq_false_iff_not]
    omega

theorem list74w (x : L Int) (h : x.len ≤ 1048576) {l : List Int} (hl : RL x l) : ∃ r, g74w x = some ((r, ()), ()) ∧ RL r l := by
  refine ⟨_, by unfold g74w; rw [bif_t (by simp [L.of, most]; omega)], ?_⟩
  exact (RL.of _ []).app hl
theorem copy66w {x : L Int × (L Int × Unit)} {p : List Int × List Int} (h : RD x p) (hp : p.1.length ≤ 8 ∧ p.2.length ≤ 8) : ∃ r, g66w x = some ((r, ()), ()) ∧ RD r p := by
  obtain ⟨r1, e1, k1⟩ := list74w x.1 (by rw [h.1.1]; omega) h.1
  obtain ⟨r2, e2, k2⟩ := list74w x.2.1 (by rw [h.2.1]; omega) h.2
  exact ⟨(r1, (r2, ())), by unfold g66w; rw [e1, e2]; rfl, k1, k2⟩

theorem list74 (x : L Int) (h : x.len ≤ 1048576) {l : List Int} (hl : RL x l) : ∃ r, g74 x = some ((r, ()), ()) ∧ RL r l := by
  refine ⟨_, by unfold g74; rw [bif_t (by simp [L.of, most]; omega)], ?_⟩
  exact (RL.of _ []).app hl
theorem copy66 {x : L Int × (L Int × Unit)} {p : List Int × List Int} (h : RD x p) (hp : p.1.length ≤ 8 ∧ p.2.length ≤ 8) : ∃ r, g66 x = some ((r, ()), ()) ∧ RD r p := by
  obtain ⟨r1, e1, k1⟩ := list74 x.1 (by rw [h.1.1]; omega) h.1
  obtain ⟨r2, e2, k2⟩ := list74 x.2.1 (by rw [h.2.1]; omega) h.2
  exact ⟨(r1, (r2, ())), by unfold g66; rw [e1, e2]; rfl, k1, k2⟩

/-- A word comes in. -/
def dIn (p : List Int × List Int) (w : Int) : (List Int × List Int) × Bool := if p.1.length ≤ 8 ∧ p.2.length ≤ 8 then (if p.1.length = 8 then (p, false) else ((p.1 ++ [w], p.2), true)) else (([], []), false)

theorem in18 {x : L Int × (L Int × Unit)} {p : List Int × List Int} (h : RD x p) (w : Int) : ∃ z, g18 x w = some ((z, (dIn p w).2, ()), ()) ∧ RD z (dIn p w).1 := by
  unfold g18 dIn
  rw [ok65 h]
  by_cases hp : p.1.length ≤ 8 ∧ p.2.length ≤ 8
  · rw [if_pos hp, bif_f (by simp [hp])]
    obtain ⟨r, e, k⟩ := copy66w h hp
    rw [e]
    simp only [Option.bind_some]
    have e1 : (x.1.len : Int) = (p.1.length : Int) := by rw [h.1.1]
    rw [e1]
    by_cases h8 : p.1.length = 8
    · rw [if_pos h8, bif_t (by simp; omega)]
      exact ⟨r, rfl, k⟩
    · rw [if_neg h8, bif_f (by simp; omega), bif_t (by have := k.1.1; simp [L.of, most]; omega)]
      exact ⟨_, rfl, k.1.app (RL.of _ [w]), k.2⟩
  · rw [if_neg hp, bif_t (by simp [hp])]
    exact ⟨_, rfl, RD.nil⟩

theorem dIn_len (p : List Int × List Int) (w : Int) : (dIn p w).1.1.length ≤ 9 ∧ (dIn p w).1.2.length ≤ 8 := by
  unfold dIn
  split
  · split
    · simp only; omega
    · simp only [List.length_append, List.length_singleton]; omega
  · simp

/-- A word is read. -/
def dRd (p : List Int × List Int) : (List Int × List Int) × (Int × Int) := if p.1.length ≤ 8 ∧ p.2.length ≤ 8 then (match p.2 with | [] => (p, 0, 1) | h :: t => ((p.1, t), h, 0)) else (([], []), 0, 3)

theorem rd24 {x : L Int × (L Int × Unit)} {p : List Int × List Int} (h : RD x p) : ∃ z, g24 x = some ((z, (dRd p).2.1, (dRd p).2.2, ()), ()) ∧ RD z (dRd p).1 := by
  unfold g24 dRd
  rw [ok65 h]
  by_cases hp : p.1.length ≤ 8 ∧ p.2.length ≤ 8
  · rw [if_pos hp, bif_f (by simp [hp])]
    obtain ⟨r, e, k⟩ := copy66 h hp
    rw [e]
    simp only [Option.bind_some]
    have hx := h.2
    obtain ⟨p1, p2⟩ := p
    simp only at hx hp k
    cases p2 with
    | nil =>
      rw [bif_t (by simp [hx.1])]
      exact ⟨r, rfl, k⟩
    | cons a t =>
      have hl : x.2.1.len = t.length + 1 := hx.1
      rw [bif_f (by simp; omega), bif_t (by simp; omega)]
      have hc := hx.cut (i := 1) (j := x.2.1.len) (by omega) (Nat.le_refl _)
      have et : ((a :: t).drop 1).take (x.2.1.len - 1) = t := by simp [hl]
      rw [et] at hc
      have ei : (x.2.1.len : Int).toNat = x.2.1.len := Int.toNat_natCast _
      obtain ⟨r2, e2, k2⟩ := list74 (L.cut x.2.1 (1 : Int).toNat (x.2.1.len : Int).toNat) (by rw [ei]; show x.2.1.len - 1 ≤ _; simp at hp; omega) (by rw [ei]; exact hc)
      rw [e2]
      simp only [Option.bind_some]
      rw [bif_t (by simp; omega)]
      have hg := hx.2 0 (by omega)
      simp only [List.getElem?_cons_zero, Option.some.injEq] at hg
      have e0 : x.2.1.get (0 : Int).toNat = a := hg.symm
      rw [e0]
      exact ⟨_, rfl, k.1, k2⟩
  · rw [if_neg hp, bif_t (by simp [hp])]
    exact ⟨_, rfl, RD.nil⟩

theorem dRd_len (p : List Int × List Int) : (dRd p).1.1.length ≤ 9 ∧ (dRd p).1.2.length ≤ 8 := by
  unfold dRd
  split
  · rename_i hp
    obtain ⟨p1, p2⟩ := p
    cases p2 with
    | nil => simp only at hp ⊢; omega
    | cons a t => simp only [List.length_cons] at hp ⊢; omega
  · simp

/-- Words are let be seen. -/
def dN (p : List Int × List Int) : Nat := min p.1.length (8 - p.2.length)
def dOp (p : List Int × List Int) : (List Int × List Int) × Bool := if p.1.length ≤ 8 ∧ p.2.length ≤ 8 then ((p.1.drop (dN p), p.2 ++ p.1.take (dN p)), decide (0 < dN p)) else (([], []), false)

theorem op26loop (q : L Int × (L Int × Unit)) : ∀ (x : (Unit × (Unit × (Bool × Unit))) × ((L Int × (L Int × Unit)) × ((L Int × (L Int × Unit)) × Unit))), (∃ a b, RD x.2.2.1 (a, b) ∧ a.length ≤ 8 ∧ b.length ≤ 8) →
    ∃ d, fixO s26_L0 x = some d ∧ ∀ a b, RD x.2.2.1 (a, b) → a.length ≤ 8 → b.length ≤ 8 → ∃ z, d = .inl (((), ((), ((x.1.2.2.1 || decide (0 < dN (a, b))), ()))), (x.2.1, (z, ()))) ∧ RD z (a.drop (dN (a, b)), b ++ a.take (dN (a, b))) := by
  refine fixO_rel (step := s26_L0) (fun x => x.2.2.1.1.len) _ (fun x d => ∀ a b, RD x.2.2.1 (a, b) → a.length ≤ 8 → b.length ≤ 8 → ∃ z, d = .inl (((), ((), ((x.1.2.2.1 || decide (0 < dN (a, b))), ()))), (x.2.1, (z, ()))) ∧ RD z (a.drop (dN (a, b)), b ++ a.take (dN (a, b)))) ?_
  rintro ⟨⟨_, _, t, _⟩, ⟨c1, c2, _⟩, ⟨x1, x2, _⟩, _⟩ ⟨a, b, h, ha, hb⟩
  have e1 : x1.len = a.length := h.1.1
  have e2 : x2.len = b.length := h.2.1
  simp only [s26_L0, q26_L0]
  have stop : (a.length = 0 ∨ 8 ≤ b.length) → ∀ a b, RD (x1, (x2, ())) (a, b) → a.length ≤ 8 → b.length ≤ 8 → ∃ z, (Sum.inl (((), ((), (t, ()))), ((c1, (c2, ())), ((x1, (x2, ())), ()))) : ((Unit × (Unit × (Bool × Unit))) × ((L Int × (L Int × Unit)) × ((L Int × (L Int × Unit)) × Unit))) ⊕ Empty) = .inl (((), ((), ((t || decide (0 < dN (a, b))), ()))), ((c1, (c2, ())), (z, ()))) ∧ RD z (a.drop (dN (a, b)), b ++ a.take (dN (a, b))) := by
    intro hs a' b' h' _ _
    have e1' : x1.len = a'.length := h'.1.1
    have e2' : x2.len = b'.length := h'.2.1
    have h0 : dN (a', b') = 0 := by unfold dN; simp only; omega
    refine ⟨(x1, (x2, ())), ?_, ?_⟩
    · rw [h0]; simp
    · rw [h0]; simpa using h'
  by_cases hb8 : b.length < 8
  · rw [bif_t (by simp; omega)]
    by_cases ha0 : 0 < a.length
    · left
      rw [bif_t (by simp; omega), bif_t (by simp; omega), bif_t (by simp [L.of, most]; omega), bif_t (by simp; omega)]
      cases a with
      | nil => simp at ha0
      | cons w r =>
        have hc := h.1.cut (i := 1) (j := x1.len) (by omega) (Nat.le_refl _)
        have et : ((w :: r).drop 1).take (x1.len - 1) = r := by simp at e1; simp [e1]
        rw [et] at hc
        have ei : (x1.len : Int).toNat = x1.len := Int.toNat_natCast _
        obtain ⟨r2, e3, k3⟩ := list74w (L.cut x1 (1 : Int).toNat (x1.len : Int).toNat) (by rw [ei]; show x1.len - 1 ≤ _; omega) (by rw [ei]; exact hc)
        have hg := h.1.2 0 (by show 0 < x1.len; rw [e1]; exact ha0)
        simp only [List.getElem?_cons_zero, Option.some.injEq] at hg
        have e0 : x1.get (0 : Int).toNat = w := hg.symm
        rw [e0, e3]
        have k4 : RL (L.app x2 (L.of (Ty.zero (.int .u32)) [w])) (b ++ [w]) := h.2.app (RL.of _ [w])
        refine ⟨_, rfl, ⟨r, b ++ [w], ⟨k3, k4⟩, by simp at ha; omega, by simp; omega⟩, ?_, fun d hd a' b' h' ha' hb' => ?_⟩
        · show r2.len < x1.len
          rw [k3.1, e1]; simp
        · cases a' with
          | nil => have : x1.len = 0 := h'.1.1; omega
          | cons w' r' =>
            have hg' := h'.1.2 0 (by show 0 < x1.len; omega)
            simp only [List.getElem?_cons_zero, Option.some.injEq] at hg'
            have ew : w' = w := hg'.trans e0
            subst ew
            have e1' : x1.len = (w' :: r').length := h'.1.1
            have hc' := h'.1.cut (i := 1) (j := x1.len) (by omega) (Nat.le_refl _)
            have et' : ((w' :: r').drop 1).take (x1.len - 1) = r' := by simp at e1'; simp [e1']
            rw [et'] at hc'
            have er : r' = r := RL.uniq hc' hc
            subst er
            have e2' : x2.len = b'.length := h'.2.1
            have k4' : RL (L.app x2 (L.of (Ty.zero (.int .u32)) [w'])) (b' ++ [w']) := h'.2.app (RL.of _ [w'])
            obtain ⟨z, q1, q2⟩ := hd r' (b' ++ [w']) ⟨k3, k4'⟩ (by simp at ha'; omega) (by simp; omega)
            have hn : dN (w' :: r', b') = dN (r', b' ++ [w']) + 1 := by
              unfold dN; simp only [List.length_cons, List.length_append, List.length_nil]; omega
            refine ⟨z, ?_, ?_⟩
            · rw [q1, hn]
              simp
            · rw [hn]
              simpa using q2
    · right
      rw [bif_f (by simp; omega)]
      exact ⟨_, rfl, stop (.inl (by omega))⟩
  · right
    rw [bif_f (by simp; omega)]
    exact ⟨_, rfl, stop (.inr (by omega))⟩

theorem op26 {x : L Int × (L Int × Unit)} {p : List Int × List Int} (h : RD x p) : ∃ z, g26 x = some ((z, (dOp p).2, ()), ()) ∧ RD z (dOp p).1 := by
  unfold g26 dOp
  rw [ok65 h]
  by_cases hp : p.1.length ≤ 8 ∧ p.2.length ≤ 8
  · rw [if_pos hp, bif_f (by simp [hp])]
    obtain ⟨r, e, k⟩ := copy66w h hp
    rw [e]
    simp only [Option.bind_some]
    obtain ⟨d, e2, hd⟩ := op26loop r (((), ((), (false, ()))), (((nilL (.int .u32)), ((nilL (.int .u32)), ())), (r, ()))) ⟨p.1, p.2, k, hp.1, hp.2⟩
    obtain ⟨z, rfl, hz⟩ := hd p.1 p.2 k hp.1 hp.2
    rw [e2]
    exact ⟨z, by simp, hz⟩
  · rw [if_neg hp, bif_t (by simp [hp])]
    exact ⟨_, rfl, RD.nil⟩

theorem cat109 {s c : L Int} {b d : List Int} (hs : RL s b) (hc : RL c d) (h1 : b.length ≤ 1000) (h2 : d.length ≤ 1000) : ∃ r, g109 (L.of (Ty.zero (.sl (.int .u32))) [s, c]) = some ((r, ()), ()) ∧ RL r (b ++ d) := by
  have l1 := hs.1
  have l2 := hc.1
  have hm : most = 4294967296 := rfl
  generalize hx : L.of (Ty.zero (.sl (.int .u32))) [s, c] = x
  have xl : x.len = 2 := by subst hx; rfl
  have g0 : x.get (0 : Int).toNat = s := by subst hx; rfl
  have g1 : x.get (1 : Int).toNat = c := by subst hx; rfl
  have e1 : wI (0 + (s.len : Int)) = ((s.len : Nat) : Int) := by rw [wI_id (by omega) (by omega)]; omega
  have e2 : wI (((s.len : Nat) : Int) + (c.len : Int)) = ((s.len + c.len : Nat) : Int) := by rw [wI_id (by omega) (by omega)]; omega
  have w1 : wI (0 + 1) = 1 := wI_id (by omega) (by omega)
  have w2 : wI (1 + 1) = 2 := wI_id (by omega) (by omega)
  have f1 : fixO s109_L0 ((x, ((0 : Int), (x, ((x.len : Int), ((0 : Int), ()))))), ()) = some (.inl ((x, (((s.len + c.len : Nat) : Int), ())), ())) := by
    rw [fixO_unfold]
    simp only [s109_L0, q109_L0]
    rw [bif_t (by simp [xl]), bif_t (by simp [xl]), g0, e1, bif_f (by simp), w1]
    simp only
    rw [fixO_unfold]
    simp only [s109_L0, q109_L0]
    rw [bif_t (by simp [xl]), bif_t (by simp [xl]), g1, e2, bif_f (by rw [decide_eq_false_iff_not]; omega), w2]
    simp only
    rw [fixO_unfold]
    simp only [s109_L0, q109_L0]
    rw [bif_f (by simp [xl])]
  have f2 : ∀ (t : L Int), RL t [] → ∃ r, fixO s109_L2 ((t, (x, ((x.len : Int), ((0 : Int), ())))), ()) = some (.inl ((r, ()), ())) ∧ RL r (b ++ d) := by
    intro t ht
    refine ⟨L.app (L.app t s) c, ?_, by have := (ht.app hs).app hc; simpa using this⟩
    have tl : t.len = 0 := ht.1
    rw [fixO_unfold]
    simp only [s109_L2, q109_L2]
    rw [bif_t (by simp [xl]), bif_t (by simp [xl]), g0, bif_t (by rw [decide_eq_true_eq, hm]; omega), w1]
    simp only
    rw [fixO_unfold]
    simp only [s109_L2, q109_L2]
    rw [bif_t (by simp [xl]), bif_t (by simp [xl]), g1, bif_t (by rw [decide_eq_true_eq, hm]; show t.len + s.len + c.len ≤ _; omega), w2]
    simp only
    rw [fixO_unfold]
    simp only [s109_L2, q109_L2]
    rw [bif_f (by simp [xl])]
  unfold g109
  rw [f1]
  simp only [Option.bind_some]
  rw [bif_f (by simp; omega)]
  have e3 : wI (((s.len + c.len : Nat) : Int) - 0) = ((s.len + c.len : Nat) : Int) := by rw [wI_id (by omega) (by omega)]; omega
  rw [e3]
  by_cases h0 : 0 < s.len + c.len
  · rw [bif_t (by simp only [gt_iff_lt, decide_eq_true_eq]; omega), bif_t (by rw [Bool.and_eq_true, decide_eq_true_eq, decide_eq_true_eq, hm]; clear e1 e2 e3; omega)]
    obtain ⟨r, q1, q2⟩ := f2 _ RL.zL
    rw [q1]
    exact ⟨r, rfl, q2⟩
  · rw [bif_f (by simp only [gt_iff_lt, decide_eq_false_iff_not]; omega)]
    obtain ⟨r, q1, q2⟩ := f2 _ RL.nilL
    rw [q1]
    exact ⟨r, rfl, q2⟩

theorem min_n {x1 x2 : L Int} {p : List Int × List Int} (h1 : RL x1 p.1) (h2 : RL x2 p.2) (hp : p.1.length ≤ 8 ∧ p.2.length ≤ 8) : (if (wI ((8 : Int) - (x2.len : Int))) < (x1.len : Int) then (wI ((8 : Int) - (x2.len : Int))) else (x1.len : Int)) = ((dN p : Nat) : Int) := by
  have l1 := h1.1
  have l2 := h2.1
  rw [wI_id (by omega) (by omega)]
  unfold dN
  split <;> omega

abbrev Op : Type := Int × (Int × Unit)
abbrev Sd : Type := Bool × (Int × (Int × Unit))
abbrev OkD (p : List Int × List Int) : Prop := p.1.length ≤ 8 ∧ p.2.length ≤ 8
def dStep (p : List Int × List Int) (o : Op) : (List Int × List Int) × Sd :=
  if o.1 = 0 then ((dIn p o.2.1).1, ((dIn p o.2.1).2, (0, (0, ()))))
  else if o.1 = 1 then ((dOp p).1, ((dOp p).2, (0, (0, ()))))
  else ((dRd p).1, (false, ((dRd p).2.1, ((dRd p).2.2, ()))))
def dRun : List Int × List Int → List Op → List Sd
  | _, [] => []
  | p, o :: r => (dStep p o).2 :: dRun (dStep p o).1 r
noncomputable def dPlay (os : List Op) : List Sd := if 1000 < os.length then [] else if os.all (fun o => f60 o.1 0 2) = true then dRun ([], []) os else []

theorem dRun_len : ∀ (os : List Op) (p : List Int × List Int), (dRun p os).length = os.length
  | [], _ => rfl
  | o :: r, p => by simp [dRun, dRun_len r]
theorem dPlay_len (os : List Op) : (dPlay os).length ≤ 1000 := by
  unfold dPlay
  split
  · simp
  · split
    · rw [dRun_len]; omega
    · simp

theorem dIn_ok {p : List Int × List Int} (h : OkD p) (w : Int) : OkD (dIn p w).1 := by
  unfold dIn
  rw [if_pos h]
  split
  · exact h
  · refine ⟨?_, h.2⟩
    have := h.1
    simp only [List.length_append, List.length_singleton]; omega
theorem dOp_ok {p : List Int × List Int} (h : OkD p) : OkD (dOp p).1 := by
  unfold dOp
  rw [if_pos h]
  have h1 := h.1; have h2 := h.2
  refine ⟨?_, ?_⟩
  · simp only [List.length_drop]; omega
  · simp only [List.length_append, List.length_take, dN]; omega
theorem dRd_ok {p : List Int × List Int} (h : OkD p) : OkD (dRd p).1 := by
  unfold dRd
  rw [if_pos h]
  obtain ⟨p1, p2⟩ := p
  cases p2 with
  | nil => exact h
  | cons a t =>
    have h1 := h.1; have h2 := h.2
    simp only [List.length_cons] at h1 h2
    exact ⟨h1, by simp only; omega⟩

theorem drop_at {α : Type} {x : L α} {l : List α} (h : RL x l) {i : Nat} (hi : i < x.len) : l.drop i = x.get i :: l.drop (i + 1) := by
  have h1 := h.2 i hi
  obtain ⟨h2, h3⟩ := List.getElem?_eq_some_iff.mp h1
  rw [List.drop_eq_getElem_cons h2, h3]

theorem play29 {t0 : L Op} {os : List Op} (h0 : RL t0 os) (hn : t0.len ≤ 1000) : ∀ (k i : Nat) (x1 x2 : L Int) (p : List Int × List Int) (t3 : L Sd) (l : List Sd), k + i = t0.len → RD (x1, (x2, ())) p → OkD p → RL t3 l → l.length = i →
    ∃ z, fixO s29_L2 ((t0, (t3, ((), ((i : Int), ())))), ((x1, (x2, ())), ())) = some (.inl ((z, ()), ())) ∧ RL z (l ++ dRun p (os.drop i))
  | 0, i, x1, x2, p, t3, l, hk, hx, hp, h3, hl => by
    have e : os.drop i = [] := List.drop_eq_nil_of_le (by rw [← h0.1]; omega)
    rw [fixO_unfold]
    simp only [s29_L2, q29_L2]
    rw [bif_f (by simp; omega)]
    exact ⟨t3, rfl, by rw [e]; simpa [dRun] using h3⟩
  | k + 1, i, x1, x2, p, t3, l, hk, hx, hp, h3, hl => by
    have hi : i < t0.len := by omega
    have hd := drop_at h0 hi
    have hm : most = 4294967296 := rfl
    have hl3 : t3.len = i := by rw [h3.1]; exact hl
    have hlen : t3.len + 1 ≤ most := by omega
    have hb : ∀ (q : L Sd), q.len = 1 → decide (t3.len + q.len ≤ most) = true := fun q e => by rw [e]; exact decide_eq_true hlen
    rw [fixO_unfold]
    simp only [s29_L2, q29_L2]
    rw [bif_t (idx_lt hi), bif_t (idx_in hi)]
    simp only [Int.toNat_natCast]
    generalize t0.get i = o at hd ⊢
    have go : ∀ (z1 z2 : L Int) (p' : List Int × List Int) (s : Sd), dStep p o = (p', s) → RD (z1, (z2, ())) p' → OkD p' →
        ∃ z, fixO s29_L2 ((t0, (L.app t3 (L.of (Ty.zero (.pair .bool (.pair (.int .u32) (.pair (.int .i64) .unit)))) [s]), ((), (((i + 1 : Nat) : Int), ())))), ((z1, (z2, ())), ())) = some (.inl ((z, ()), ())) ∧ RL z (l ++ dRun p (os.drop i)) := by
      intro z1 z2 p' s hs hz hp'
      obtain ⟨z, q1, q2⟩ := play29 h0 hn k (i + 1) z1 z2 p' (L.app t3 (L.of (Ty.zero (.pair .bool (.pair (.int .u32) (.pair (.int .i64) .unit)))) [s])) (l ++ [s]) (by omega) hz hp' (h3.app (RL.of _ [s])) (by simp; omega)
      refine ⟨z, q1, ?_⟩
      rw [hd, dRun, hs]
      simpa using q2
    by_cases c0 : o.1 = 0
    · rw [bif_t (by simp [c0]), bif_t (idx_in hi)]
      obtain ⟨⟨z1, z2, _⟩, e, hz⟩ := in18 hx o.2.1
      rw [e]
      simp only [Option.bind_some]
      rw [bif_t (hb _ rfl), wI_succ hi (by omega)]
      exact go z1 z2 _ _ (by unfold dStep; rw [if_pos c0]) hz (dIn_ok hp _)
    · rw [bif_f (by simp [c0])]
      by_cases c1 : o.1 = 1
      · rw [bif_t (by simp [c1])]
        obtain ⟨⟨z1, z2, _⟩, e, hz⟩ := op26 hx
        rw [e]
        simp only [Option.bind_some]
        rw [bif_t (hb _ rfl), wI_succ hi (by omega)]
        exact go z1 z2 _ _ (by unfold dStep; rw [if_neg c0, if_pos c1]) hz (dOp_ok hp)
      · rw [bif_f (by simp [c1])]
        obtain ⟨⟨z1, z2, _⟩, e, hz⟩ := rd24 hx
        rw [e]
        simp only [Option.bind_some]
        rw [bif_t (hb _ rfl), wI_succ hi (by omega)]
        exact go z1 z2 _ _ (by unfold dStep; rw [if_neg c0, if_neg c1]) hz (dRd_ok hp)

theorem play31 {t0 : L Op} {os : List Op} (h0 : RL t0 os) (hn : t0.len ≤ 1000) : ∀ (k i : Nat) (x1 x2 : L Int) (p : List Int × List Int) (t3 : L Sd) (l : List Sd), k + i = t0.len → RD (x1, (x2, ())) p → OkD p → RL t3 l → l.length = i →
    ∃ z, fixO s31_L0 (((), (t3, (t0, ((t0.len : Int), ((i : Int), ()))))), ((x1, (x2, ())), ())) = some (.inl ((z, ()), ())) ∧ RL z (l ++ dRun p (os.drop i))
  | 0, i, x1, x2, p, t3, l, hk, hx, hp, h3, hl => by
    have e : os.drop i = [] := List.drop_eq_nil_of_le (by rw [← h0.1]; omega)
    rw [fixO_unfold]
    simp only [s31_L0, q31_L0]
    rw [bif_f (by simp; omega)]
    exact ⟨t3, rfl, by rw [e]; simpa [dRun] using h3⟩
  | k + 1, i, x1, x2, p, t3, l, hk, hx, hp, h3, hl => by
    have hi : i < t0.len := by omega
    have hd := drop_at h0 hi
    have hm : most = 4294967296 := rfl
    have hl3 : t3.len = i := by rw [h3.1]; exact hl
    have hlen : t3.len + 1 ≤ most := by omega
    have hb : ∀ (q : L Sd), q.len = 1 → decide (t3.len + q.len ≤ most) = true := fun q e => by rw [e]; exact decide_eq_true hlen
    have hp1 := hp.1; have hp2 := hp.2
    have lx1 : x1.len = p.1.length := hx.1.1
    have lx2 : x2.len = p.2.length := hx.2.1
    have hbx : ∀ (q : L Int), q.len = 1 → decide (x1.len + q.len ≤ most) = true := fun q e => by rw [e]; exact decide_eq_true (by omega)
    rw [fixO_unfold]
    simp only [s31_L0, q31_L0]
    rw [bif_t (idx_lt hi), bif_t (idx_in hi)]
    simp only [Int.toNat_natCast]
    generalize t0.get i = o at hd ⊢
    have go : ∀ (z1 z2 : L Int) (p' : List Int × List Int) (s : Sd), dStep p o = (p', s) → RD (z1, (z2, ())) p' → OkD p' →
        ∃ z, fixO s31_L0 (((), (L.app t3 (L.of (Ty.zero (.pair .bool (.pair (.int .u32) (.pair (.int .i64) .unit)))) [s]), (t0, ((t0.len : Int), (((i + 1 : Nat) : Int), ()))))), ((z1, (z2, ())), ())) = some (.inl ((z, ()), ())) ∧ RL z (l ++ dRun p (os.drop i)) := by
      intro z1 z2 p' s hs hz hp'
      obtain ⟨z, q1, q2⟩ := play31 h0 hn k (i + 1) z1 z2 p' (L.app t3 (L.of (Ty.zero (.pair .bool (.pair (.int .u32) (.pair (.int .i64) .unit)))) [s])) (l ++ [s]) (by omega) hz hp' (h3.app (RL.of _ [s])) (by simp; omega)
      refine ⟨z, q1, ?_⟩
      rw [hd, dRun, hs]
      simpa using q2
    by_cases c0 : o.1 = 0
    · rw [bif_t (by simp [c0])]
      by_cases c8 : p.1.length = 8
      · have hs : dIn p o.2.1 = (p, false) := by unfold dIn; rw [if_pos hp, if_pos c8]
        rw [bif_t (by simp; omega), bif_t (hb _ rfl), wI_succ hi (by omega)]
        exact go x1 x2 p _ (by unfold dStep; rw [if_pos c0, hs]) hx hp
      · have hs : dIn p o.2.1 = ((p.1 ++ [o.2.1], p.2), true) := by unfold dIn; rw [if_pos hp, if_neg c8]
        rw [bif_f (by simp; omega)]
        erw [bif_t (hbx (L.of (Ty.zero (.int .u32)) [o.2.1]) rfl), bif_t (hb (L.of (Ty.zero (.pair .bool (.pair (.int .u32) (.pair (.int .i64) .unit)))) [(true, (0, (0, ())))]) rfl)]
        rw [wI_succ hi (by omega)]
        exact go _ x2 (p.1 ++ [o.2.1], p.2) _ (by unfold dStep; rw [if_pos c0, hs]) ⟨hx.1.app (RL.of _ [o.2.1]), hx.2⟩ ⟨by simp; omega, hp2⟩
    · rw [bif_f (by simp [c0])]
      by_cases c1 : o.1 = 1
      · have hs : dOp p = ((p.1.drop (dN p), p.2 ++ p.1.take (dN p)), decide (0 < dN p)) := by unfold dOp; rw [if_pos hp]
        rw [bif_t (by simp [c1]), min_n hx.1 hx.2 hp]
        have hdn : dN p ≤ x1.len := by unfold dN; omega
        rw [bif_t (by simp; omega)]
        have hc := hx.1.cut (i := 0) (j := dN p) (Nat.zero_le _) hdn
        have et : (p.1.drop 0).take (dN p - 0) = p.1.take (dN p) := by simp
        rw [et] at hc
        obtain ⟨r2, q1, q2⟩ := cat109 hx.2 (c := L.cut x1 (0 : Int).toNat ((dN p : Nat) : Int).toNat) hc (by omega) (by rw [List.length_take]; omega)
        rw [q1]
        simp only [Option.bind_some]
        have hc2 := hx.1.cut (i := dN p) (j := x1.len) hdn (Nat.le_refl _)
        have et2 : (p.1.drop (dN p)).take (x1.len - dN p) = p.1.drop (dN p) := by
          rw [List.take_of_length_le]
          rw [List.length_drop]; omega
        rw [et2] at hc2
        have e3 : decide (((dN p : Nat) : Int) > 0) = decide (0 < dN p) := by
          apply Bool.eq_iff_iff.mpr; simp
        rw [bif_t (by simp; omega), bif_t (hb _ rfl), wI_succ hi (by omega), e3]
        have ok := dOp_ok hp
        rw [hs] at ok
        exact go (L.cut x1 (dN p) x1.len) r2 (p.1.drop (dN p), p.2 ++ p.1.take (dN p)) _ (by unfold dStep; rw [if_neg c0, if_pos c1, hs]) ⟨hc2, q2⟩ ok
      · rw [bif_f (by simp [c1])]
        obtain ⟨p1, p2⟩ := p
        simp only at hp1 hp2 lx1 lx2
        cases p2 with
        | nil =>
          have hs : dRd (p1, []) = ((p1, []), 0, 1) := by unfold dRd; rw [if_pos hp]
          rw [bif_t (by simp [lx2]), bif_t (hb _ rfl), wI_succ hi (by omega)]
          exact go x1 x2 _ _ (by unfold dStep; rw [if_neg c0, if_neg c1, hs]) hx hp
        | cons a t =>
          have hs : dRd (p1, a :: t) = ((p1, t), a, 0) := by unfold dRd; rw [if_pos hp]
          have lx2 : x2.len = t.length + 1 := lx2
          rw [bif_f (by simp; omega), bif_t (by simp; omega), bif_t (by simp; omega), bif_t (hb _ rfl), wI_succ hi (by omega)]
          have hc := hx.2.cut (i := 1) (j := x2.len) (by omega) (Nat.le_refl _)
          have et : ((a :: t).drop 1).take (x2.len - 1) = t := by simp [lx2]
          rw [et] at hc
          have hg := hx.2.2 0 (by show 0 < x2.len; omega)
          simp only [List.getElem?_cons_zero, Option.some.injEq] at hg
          have e0 : x2.get (0 : Int).toNat = a := hg.symm
          rw [e0]
          exact go x1 _ (p1, t) _ (by unfold dStep; rw [if_neg c0, if_neg c1, hs]) ⟨hx.1, hc⟩ ⟨hp1, by simp at hp2; simp only; omega⟩

theorem all_of {x : L Op} {os : List Op} (h : RL x os) : os.all (fun o => f60 o.1 0 2) = true ↔ ∀ i, i < x.len → f60 (x.get i).1 0 2 = true := by
  rw [List.all_eq_true]
  constructor
  · intro q i hi
    exact q _ (List.mem_of_getElem? (h.2 i hi))
  · intro q o ho
    obtain ⟨i, hi, rfl⟩ := List.mem_iff_getElem.mp ho
    have hi' : i < x.len := by rw [h.1]; exact hi
    have e := h.2 i hi'
    rw [List.getElem?_eq_getElem hi] at e
    rw [Option.some.inj e]
    exact q i hi'

theorem dev29 {x : L Op} {os : List Op} (h : RL x os) (hs : x.len ≤ 1048576) : ∃ z, g29 x = some ((z, ()), ()) ∧ RL z (dPlay os) := by
  unfold g29 dPlay
  have hl := h.1
  by_cases hn : 1000 < os.length
  · rw [if_pos hn, bif_t (by simp; omega)]
    exact ⟨_, rfl, RL.of _ []⟩
  · rw [if_neg hn, bif_f (by simp; omega)]
    generalize he : (L.of (Ty.zero (.pair .bool (.pair (.int .u32) (.pair (.int .i64) .unit)))) [] : L Sd) = t3
    have h3 : RL t3 [] := by subst he; exact RL.of _ []
    rcases scan (step := s29_L0) (fun i => ((x, (t3, ((i : Int), ()))), ())) x.len (fun i => f60 (x.get i).1 0 2) (fun _ => .inl ((t3, ()), ())) (.inr (.inl ((x, (t3, ())), ())))
      (fun i hi ho => by
        simp only [s29_L0, q29_L0]
        rw [bif_t (idx_lt hi), bif_t (idx_in hi)]
        simp only [Int.toNat_natCast]
        rw [bif_f (by simp [ho]), wI_succ hi (by omega)])
      (fun i hi ho => by
        simp only [s29_L0, q29_L0]
        rw [bif_t (idx_lt hi), bif_t (idx_in hi)]
        simp only [Int.toNat_natCast]
        rw [bif_t (by simp [ho])])
      (by
        simp only [s29_L0, q29_L0]
        rw [bif_f (idx_end _)]) with ⟨i, h1, h2, _, h4⟩ | ⟨h1, h2⟩
    · rw [if_neg (fun q => by rw [(all_of h).mp q i h1] at h2; cases h2)]
      have h4 : fixO s29_L0 ((x, (t3, ((0 : Int), ()))), ()) = some (.inl ((t3, ()), ())) := h4
      rw [h4]
      exact ⟨t3, rfl, h3⟩
    · rw [if_pos ((all_of h).mpr h1)]
      have h2 : fixO s29_L0 ((x, (t3, ((0 : Int), ()))), ()) = some (.inr (.inl ((x, (t3, ())), ()))) := h2
      rw [h2]
      simp only [Option.bind_some]
      obtain ⟨z, q1, q2⟩ := play29 h (by omega) x.len 0 _ _ ([], []) t3 [] (by omega) RD.nil ⟨by simp, by simp⟩ h3 rfl
      have q1 : fixO s29_L2 ((x, (t3, ((), ((0 : Int), ())))), (((nilL (.int .u32)), ((nilL (.int .u32)), ())), ())) = some (.inl ((z, ()), ())) := q1
      rw [q1]
      exact ⟨z, rfl, by simpa using q2⟩

theorem dev31 {x : L Op} {os : List Op} (h : RL x os) (hs : x.len ≤ 1048576) : ∃ z, g31 x = some ((z, ()), ()) ∧ RL z (dPlay os) := by
  unfold g31 dPlay
  have hl := h.1
  have h3 : RL (nilL (.pair .bool (.pair (.int .u32) (.pair (.int .i64) .unit))) : L Sd) [] := ⟨rfl, fun i q => absurd q (Nat.not_lt_zero _)⟩
  by_cases hn : 1000 < os.length
  · rw [if_pos hn, bif_t (by simp; omega)]
    exact ⟨_, rfl, h3⟩
  · rw [if_neg hn, bif_f (by simp; omega)]
    have hi := index_loop (step := s110_79_L0) (x := x) (c := ()) (fun i => f79 (x.get i)) (fun i hi => by
      simp only [s110_79_L0, q110_79_L0]
      rw [bif_t (idx_lt hi), bif_t (idx_in hi)]
      simp only [Int.toNat_natCast]
      cases hc : f79 (x.get i) with
      | true => rw [if_pos rfl]; rfl
      | false => rw [if_neg (by simp), wI_succ hi (by omega)]; rfl) (by
      simp only [s110_79_L0, q110_79_L0]
      rw [bif_f (idx_end _)])
    have ef : ∀ i, f79 (x.get i) = !f60 (x.get i).1 0 2 := fun i => rfl
    rcases hi with ⟨i, h1, h2, _, h4⟩ | ⟨h1, h2⟩
    · rw [if_neg (fun q => by rw [ef, (all_of h).mp q i h1] at h2; cases h2)]
      have e : g78_79 x () = some ((true, ()), ()) := by
        unfold g78_79 g110_79
        rw [h4]
        simp
      rw [e]
      exact ⟨_, rfl, h3⟩
    · rw [if_pos ((all_of h).mpr fun i hi => by have := h1 i hi; rw [ef] at this; simpa using this)]
      have e : g78_79 x () = some ((false, ()), ()) := by
        unfold g78_79 g110_79
        rw [h2]
        rfl
      rw [e]
      simp only [Option.bind_some, cond_false]
      obtain ⟨z, q1, q2⟩ := play31 h (by omega) x.len 0 _ _ ([], []) _ [] (by omega) RD.nil ⟨by simp, by simp⟩ h3 rfl
      have q1 : fixO s31_L0 (((), ((nilL (.pair .bool (.pair (.int .u32) (.pair (.int .i64) .unit)))), (x, ((x.len : Int), ((0 : Int), ()))))), (((nilL (.int .u32)), ((nilL (.int .u32)), ())), ())) = some (.inl ((z, ()), ())) := q1
      rw [q1]
      exact ⟨z, rfl, by simpa using q2⟩

/-- A draw's cursor. -/
abbrev Cur : Type := L Int × (Int × (Int × Unit))
def Cw (c : Cur) : Prop := (c.1.len : Int) ≤ 2 ^ 47 ∧ 0 ≤ c.2.1 ∧ c.2.1 ≤ c.1.len

theorem and255 (a : Int) : 0 ≤ andOf .i64 a 255 ∧ andOf .i64 a 255 ≤ 255 := by
  unfold andOf
  generalize hx : BitVec.ofInt (IntKind.i64).bits a = x
  have h : (x &&& BitVec.ofInt (IntKind.i64).bits 255).toNat ≤ 255 := by
    rw [BitVec.toNat_and]
    exact Nat.and_le_right
  generalize (x &&& BitVec.ofInt (IntKind.i64).bits 255).toNat = n at h
  have : IntKind.i64.wrap (n : Int) = n := wI_id (by omega) (by omega)
  rw [this]; omega

theorem byte (c : Cur) (h : Cw c) : ∃ (x : Int) (c' : Cur), g112 c = some ((x, ()), (c', ())) ∧ 0 ≤ x ∧ x ≤ 255 ∧ Cw c' := by
  obtain ⟨h1, h2, h3⟩ := h
  unfold g112
  by_cases hi : c.2.1 < (c.1.len : Int)
  · rw [bif_t (by simpa using hi), bif_t (by simp; omega)]
    refine ⟨_, _, rfl, (and255 _).1, (and255 _).2, h1, ?_, ?_⟩
    · show 0 ≤ wI (c.2.1 + 1)
      rw [wI_id (by omega) (by omega)]; omega
    · show wI (c.2.1 + 1) ≤ c.1.len
      rw [wI_id (by omega) (by omega)]; omega
  · rw [bif_f (by simpa using hi)]
    exact ⟨_, _, rfl, (and255 _).1, (and255 _).2, h1, h2, h3⟩

theorem below (c : Cur) (h : Cw c) (n : Int) (h1 : 1 ≤ n) (h2 : n ≤ 256) : ∃ (x : Int) (c' : Cur), g84 c n = some ((x, ()), (c', ())) ∧ 0 ≤ x ∧ x < n ∧ Cw c' := by
  obtain ⟨x, c', e, x0, x1, hc⟩ := byte c h
  unfold g84
  rw [bif_f (by simp; omega), bif_t (by simpa using h2), e]
  simp only [Option.bind_some]
  rw [bif_t (by simp; omega)]
  exact ⟨_, _, rfl, Int.tmod_nonneg _ x0, Int.tmod_lt_of_pos _ (by omega), hc⟩

theorem pick (c : Cur) (h : Cw c) (l : L Int) (h1 : 1 ≤ l.len) (h2 : l.len ≤ 256) : ∃ (i : Nat) (c' : Cur), g87 c l = some ((l.get i, ()), (c', ())) ∧ i < l.len ∧ Cw c' := by
  obtain ⟨x, c', e, x0, x1, hc⟩ := below c h l.len (by omega) (by omega)
  unfold g87
  rw [e]
  simp only [Option.bind_some]
  rw [bif_t (by simp; omega)]
  exact ⟨x.toNat, _, rfl, by omega, hc⟩

/-- What is picked is one of the list's. -/
theorem pickIn (c : Cur) (h : Cw c) (z : Int) (l : List Int) (h1 : 1 ≤ l.length) (h2 : l.length ≤ 256) : ∃ (x : Int) (c' : Cur), g87 c (L.of z l) = some ((x, ()), (c', ())) ∧ x ∈ l ∧ Cw c' := by
  obtain ⟨i, c', e, hi, hc⟩ := pick c h (L.of z l) h1 h2
  refine ⟨_, c', e, ?_, hc⟩
  show l.getD i z ∈ l
  have hi : i < l.length := hi
  rw [List.getD_eq_getElem?_getD, List.getElem?_eq_getElem hi]
  simp

theorem once (c : Cur) (h : Cw c) (n : Int) (h1 : 1 ≤ n) (h2 : n ≤ 256) : ∃ (b : Bool) (c' : Cur), g86 c n = some ((b, ()), (c', ())) ∧ Cw c' := by
  obtain ⟨x, c', e, _, _, hc⟩ := below c h n h1 h2
  unfold g86
  rw [e]
  exact ⟨_, _, rfl, hc⟩

theorem newCur (code : L Int) (h : code.len ≤ 2 ^ 46) : ∃ c : Cur, g82 code = some ((c, ()), ()) ∧ Cw c := by
  obtain ⟨d, e1, hh, e2⟩ := fixO_rel (step := s82_L0) (fun a => code.len - a.1.2.2.1.toNat)
    (fun a => ∃ (i : Nat) (k : Int), a = ((code, (k, ((i : Int), ()))), ()) ∧ i ≤ code.len) (fun _ d => ∃ k : Int, d = .inl ((code, (k, ())), ()))
    (by
      rintro _ ⟨i, k, rfl, hi⟩
      show (∃ y, q82_L0 code k i = _ ∧ _) ∨ ∃ d, q82_L0 code k i = _ ∧ _
      unfold q82_L0
      by_cases h1 : i < code.len
      · rw [bif_t (idx_lt h1)]
        by_cases h2 : (i : Int) < 4000
        · rw [bif_t (by simpa using h2), bif_t (idx_in h1), wI_succ h1 (by omega)]
          exact .inl ⟨_, rfl, ⟨i + 1, _, rfl, h1⟩, by simp; omega, fun d hd => hd⟩
        · rw [bif_f (by simpa using h2)]
          exact .inr ⟨_, rfl, k, rfl⟩
      · rw [bif_f (by simp; omega)]
        exact .inr ⟨_, rfl, k, rfl⟩) ((code, ((wI ((76076 : Int) + (code.len : Int))), ((0 : Int), ()))), ()) ⟨0, _, rfl, Nat.zero_le _⟩
  subst e2
  unfold g82
  rw [e1]
  exact ⟨_, rfl, by show (code.len : Int) ≤ _; omega, Int.le_refl 0, by show (0 : Int) ≤ _; omega⟩

theorem belowBig (c : Cur) (h : Cw c) (n : Int) (h1 : 1 ≤ n) : ∃ (x : Int) (c' : Cur), g84 c n = some ((x, ()), (c', ())) ∧ 0 ≤ x ∧ x < n ∧ Cw c' := by
  by_cases h2 : n ≤ 256
  · exact below c h n h1 h2
  · obtain ⟨x1, c1, e1, a1, b1, k1⟩ := byte c h
    obtain ⟨x2, c2, e2, a2, b2, k2⟩ := byte c1 k1
    obtain ⟨x3, c3, e3, a3, b3, k3⟩ := byte c2 k2
    obtain ⟨x4, c4, e4, a4, b4, k4⟩ := byte c3 k3
    unfold g84
    rw [bif_f (by simp; omega), bif_f (by simp; omega), e1]
    simp only [Option.bind_some]
    rw [e2]
    simp only [Option.bind_some]
    rw [e3]
    simp only [Option.bind_some]
    rw [e4]
    simp only [Option.bind_some]
    rw [bif_t (by simp; omega)]
    have w : 0 ≤ wI ((wI ((wI ((wI (x1 * 16777216)) + (wI (x2 * 65536)))) + (wI (x3 * 256)))) + x4) := by
      rw [wI_id (n := x1 * 16777216) (by omega) (by omega), wI_id (n := x2 * 65536) (by omega) (by omega), wI_id (n := x3 * 256) (by omega) (by omega), wI_id (n := x1 * 16777216 + x2 * 65536) (by omega) (by omega), wI_id (n := x1 * 16777216 + x2 * 65536 + x3 * 256) (by omega) (by omega), wI_id (by omega) (by omega)]
      omega
    exact ⟨_, _, rfl, Int.tmod_nonneg _ w, Int.tmod_lt_of_pos _ (by omega), k4⟩

theorem wordD (c : Cur) (h : Cw c) : ∃ (x : Int) (c' : Cur), g111 c = some ((x, ()), (c', ())) ∧ Cw c' := by
  obtain ⟨x1, c1, e1, _, _, k1⟩ := belowBig c h 4 (by omega)
  unfold g111
  rw [e1]
  simp only [Option.bind_some]
  by_cases h0 : x1 = 0
  · rw [bif_t (by simp [h0])]
    obtain ⟨y, c2, e2, _, k2⟩ := pickIn c1 k1 (Ty.zero (.int .i64)) [(0 : Int), (1 : Int), (2 : Int), (31 : Int), (32 : Int), (255 : Int), (256 : Int), (2147483647 : Int), (2147483648 : Int), (4294967295 : Int), (4294967294 : Int)] (by simp) (by simp)
    rw [e2]
    exact ⟨_, _, rfl, k2⟩
  · rw [bif_f (by simp [h0])]
    by_cases h1 : x1 = 1
    · rw [bif_t (by simp [h1])]
      obtain ⟨y, c2, e2, _, _, k2⟩ := belowBig c1 k1 300 (by omega)
      rw [e2]
      exact ⟨_, _, rfl, k2⟩
    · rw [bif_f (by simp [h1])]
      obtain ⟨y, c2, e2, _, _, k2⟩ := belowBig c1 k1 65536 (by omega)
      rw [e2]
      simp only [Option.bind_some]
      obtain ⟨z, c3, e3, _, _, k3⟩ := belowBig c2 k2 65536 (by omega)
      rw [e3]
      exact ⟨_, _, rfl, k3⟩

theorem opsLoop (n : Nat) (hn : n ≤ 2000) : ∀ (k i : Nat) (c : Cur) (x : L Op), k + i = n → Cw c → x.len = i → ∃ (y : L Op) (c' : Cur), fixO s83w_L0 (((), ((n : Int), (x, ((i : Int), ())))), (c, ())) = some (.inl ((y, ()), (c', ()))) ∧ y.len = n ∧ Cw c'
  | 0, i, c, x, hk, hc, hx => by
    rw [fixO_unfold]
    simp only [s83w_L0, q83w_L0]
    rw [bif_f (by simp; omega)]
    exact ⟨x, c, rfl, by omega, hc⟩
  | k + 1, i, c, x, hk, hc, hx => by
    have hm : most = 4294967296 := rfl
    have hb : ∀ (q : L Op), q.len = 1 → decide (x.len + q.len ≤ most) = true := fun q e => by rw [e]; exact decide_eq_true (by omega)
    obtain ⟨w, c1, e1, _, k1⟩ := pickIn c hc (Ty.zero (.int .i64)) [(0 : Int), (0 : Int), (0 : Int), (1 : Int), (1 : Int), (2 : Int), (2 : Int)] (by simp) (by simp)
    rw [fixO_unfold]
    simp only [s83w_L0, q83w_L0]
    rw [bif_t (by simp; omega), e1]
    simp only [Option.bind_some]
    by_cases h0 : w = 0
    · rw [bif_t (by simp [h0])]
      obtain ⟨v, c2, e2, k2⟩ := wordD c1 k1
      rw [e2]
      simp only [Option.bind_some]
      rw [bif_t (hb _ rfl), wI_succ (n := n) (by omega) (by omega)]
      exact opsLoop n hn k (i + 1) c2 _ (by omega) k2 (by show x.len + 1 = _; omega)
    · rw [bif_f (by simp [h0]), bif_t (hb _ rfl), wI_succ (n := n) (by omega) (by omega)]
      exact opsLoop n hn k (i + 1) c1 _ (by omega) k1 (by show x.len + 1 = _; omega)

theorem opsD (c : Cur) (h : Cw c) (n : Int) (h1 : 0 ≤ n) (h2 : n ≤ 2000) : ∃ (y : L Op) (c' : Cur), g83w c n = some ((y, ()), (c', ())) ∧ y.len ≤ 2000 ∧ Cw c' := by
  obtain ⟨m, rfl⟩ : ∃ m : Nat, n = m := ⟨n.toNat, by omega⟩
  obtain ⟨y, c', e, hy, k⟩ := opsLoop m (by omega) m 0 c (L.of (Ty.zero (.pair (.int .i64) (.pair (.int .u32) .unit))) []) (by omega) h rfl
  have e : fixO s83w_L0 (((), ((m : Int), (L.of (Ty.zero (.pair (.int .i64) (.pair (.int .u32) .unit))) [], ((0 : Int), ())))), (c, ())) = some (.inl ((y, ()), (c', ()))) := e
  unfold g83w
  rw [e]
  exact ⟨y, c', rfl, by omega, k⟩

theorem size85 (x : L Int) (h : x.len ≤ 2 ^ 46) : 1 ≤ f85 x 80 ∧ f85 x 80 ≤ 256 := by
  have h46 : (2 : Nat) ^ 46 = 70368744177664 := by decide
  rw [h46] at h
  unfold f85
  have e0 : Int.tdiv (x.len : Int) 20 = ((x.len / 20 : Nat) : Int) := rfl
  rw [e0, wI_id (n := ((x.len / 20 : Nat) : Int)) (by omega) (by omega), wI_id (by omega) (by omega)]
  by_cases hc : (2 : Int) + ((x.len / 20 : Nat) : Int) > 80
  · rw [bif_t (by simpa using hc)]; omega
  · rw [bif_f (by simpa using hc)]; omega

theorem draw38 (x : L Int) (h : x.len ≤ 2 ^ 46) : ∃ y : L Op, g38 x = some ((y, ()), ()) ∧ y.len ≤ 3000 := by
  obtain ⟨c0, e0, k0⟩ := newCur x h
  have hs := size85 x h
  obtain ⟨n, c1, e1, n0, n1, k1⟩ := belowBig c0 k0 (f85 x 80) hs.1
  obtain ⟨y, c2, e2, l2, k2⟩ := opsD c1 k1 n n0 (by omega)
  obtain ⟨b, c3, e3, k3⟩ := once c2 k2 20 (by omega) (by omega)
  have hm : most = 4294967296 := rfl
  have last : ∀ (c : Cur) (z : L Op), Cw c → z.len ≤ 2001 → ∃ w : L Op, ((g86 c 60).bind fun y6 => bif y6.1.1 then (g84 y6.2.1 (2 : Int)).bind fun y7 => (g83w y7.2.1 (wI ((1000 : Int) + y7.1.1))).bind fun y8 => some ((y8.1.1, ()), ()) else some ((z, ()), ())) = some ((w, ()), ()) ∧ w.len ≤ 3000 := by
    intro c z hc hz
    obtain ⟨b, d1, f1, j1⟩ := once c hc 60 (by omega) (by omega)
    rw [f1]
    simp only [Option.bind_some]
    cases b with
    | true =>
      simp only [cond_true]
      obtain ⟨v, d2, f2, v0, v1, j2⟩ := belowBig d1 j1 2 (by omega)
      rw [f2]
      simp only [Option.bind_some]
      rw [wI_id (by omega) (by omega)]
      obtain ⟨w, d3, f3, l3, _⟩ := opsD d2 j2 (1000 + v) (by omega) (by omega)
      rw [f3]
      exact ⟨w, rfl, by omega⟩
    | false => exact ⟨z, rfl, by omega⟩
  unfold g38
  rw [e0]
  simp only [Option.bind_some]
  rw [e1]
  simp only [Option.bind_some]
  rw [e2]
  simp only [Option.bind_some]
  rw [e3]
  simp only [Option.bind_some]
  cases b with
  | true =>
    simp only [cond_true]
    obtain ⟨v, c4, e4, _, k4⟩ := pickIn c3 k3 (Ty.zero (.int .i64)) [(-1 : Int), (3 : Int)] (by simp) (by simp)
    rw [e4]
    simp only [Option.bind_some]
    rw [bif_t (decide_eq_true (by rw [hm]; show y.len + 1 ≤ _; omega))]
    exact last c4 _ k4 (by show y.len + 1 ≤ _; omega)
  | false =>
    simp only [cond_false]
    exact last c3 y k3 (by omega)

/-- Words go on. -/
theorem moveLoop (t3 : L Op) (t4 : L Sd) (t8 : Int) : ∀ (k : Nat) (x1 x2 : L Int) (m : Bool) (a b : List Int), a.length = k → RL x1 a → RL x2 b → a.length ≤ 8 → b.length ≤ 8 →
    ∃ z1 z2, fixO s9_L3 ((t3, (t4, (x1, (x2, (t8, (m, ())))))), ()) = some (.inl ((t3, (t4, (z1, (z2, (t8, ((m || decide (0 < dN (a, b))), ())))))), ())) ∧ RL z1 (a.drop (dN (a, b))) ∧ RL z2 (b ++ a.take (dN (a, b)))
  | 0, x1, x2, m, a, b, hk, h1, h2, ha, hb => by
    have e1 := h1.1
    have h0 : dN (a, b) = 0 := by unfold dN; simp only; omega
    rw [fixO_unfold]
    simp only [s9_L3, q9_L3]
    rw [bif_f (by simp; omega), h0]
    exact ⟨x1, x2, by simp, by simpa using h1, by simpa using h2⟩
  | k + 1, x1, x2, m, [], b, hk, h1, h2, ha, hb => by simp at hk
  | k + 1, x1, x2, m, w :: r, b, hk, h1, h2, ha, hb => by
    have hm : most = 4294967296 := rfl
    have e1 : x1.len = r.length + 1 := h1.1
    have e2 := h2.1
    simp only [List.length_cons] at hk ha
    rw [fixO_unfold]
    simp only [s9_L3, q9_L3]
    rw [bif_t (by simp; omega)]
    by_cases hb8 : b.length < 8
    · have hbx : ∀ (q : L Int), q.len = 1 → decide (x2.len + q.len ≤ most) = true := fun q e => by rw [e]; exact decide_eq_true (by omega)
      have hg := h1.2 0 (by omega)
      simp only [List.getElem?_cons_zero, Option.some.injEq] at hg
      have e0 : x1.get (0 : Int).toNat = w := hg.symm
      rw [bif_t (by simp; omega), bif_t (by simp; omega)]
      rw [bif_t (hbx _ rfl), bif_t (by simp; omega), e0]
      have hc := h1.cut (i := 1) (j := x1.len) (by omega) (Nat.le_refl _)
      have et : ((w :: r).drop 1).take (x1.len - 1) = r := by simp [e1]
      rw [et] at hc
      have ei : (x1.len : Int).toNat = x1.len := Int.toNat_natCast _
      have k4 : RL (L.app x2 (L.of (Ty.zero (.int .u32)) [w])) (b ++ [w]) := h2.app (RL.of _ [w])
      obtain ⟨z1, z2, q1, q2, q3⟩ := moveLoop t3 t4 t8 k (L.cut x1 1 x1.len) _ true r (b ++ [w]) (by omega) hc k4 (by omega) (by simp; omega)
      have hn : dN (w :: r, b) = dN (r, b ++ [w]) + 1 := by
        unfold dN; simp only [List.length_cons, List.length_append, List.length_nil]; omega
      rw [ei]
      refine ⟨z1, z2, ?_, ?_, ?_⟩
      · show fixO s9_L3 ((t3, (t4, (L.cut x1 1 x1.len, (L.app x2 (L.of (Ty.zero (.int .u32)) [w]), (t8, (true, ())))))), ()) = _
        rw [q1, hn]; simp
      · rw [hn]; simpa using q2
      · rw [hn]; simpa using q3
    · have h0 : dN (w :: r, b) = 0 := by unfold dN; simp only; omega
      rw [bif_f (by simp; omega), h0]
      exact ⟨x1, x2, by simp, by simpa using h1, by simpa using h2⟩

theorem mainLoop {t3 : L Op} {os : List Op} {t4 : L Sd} (h0 : RL t3 os) (hn : t3.len ≤ 1000) (hl : t4.len = t3.len) (ss : List Sd) (h4 : RL t4 ss) : ∀ (k i : Nat) (x1 x2 : L Int) (p : List Int × List Int), k + i = t3.len → RD (x1, (x2, ())) p → OkD p → ss.drop i = dRun p (os.drop i) →
    fixO s9_L0 ((t3, (t4, (x1, (x2, ((i : Int), ()))))), ()) = some (.inr (.inl ((), ())))
  | 0, i, x1, x2, p, hk, hx, hp, hr => by
    rw [fixO_unfold]
    simp only [s9_L0, q9_L0]
    rw [bif_f (by simp; omega)]
  | k + 1, i, x1, x2, p, hk, hx, hp, hr => by
    have hi : i < t3.len := by omega
    have hi4 : i < t4.len := by omega
    have hd := drop_at h0 hi
    have hd4 := drop_at h4 hi4
    have hp1 := hp.1; have hp2 := hp.2
    have lx1 : x1.len = p.1.length := hx.1.1
    have lx2 : x2.len = p.2.length := hx.2.1
    have hm : most = 4294967296 := rfl
    have hbx : ∀ (q : L Int), q.len = 1 → decide (x1.len + q.len ≤ most) = true := fun q e => by rw [e]; exact decide_eq_true (by omega)
    rw [hd, hd4, dRun] at hr
    simp only [List.cons.injEq] at hr
    obtain ⟨hs, hr⟩ := hr
    rw [fixO_unfold]
    simp only [s9_L0, q9_L0]
    rw [bif_t (idx_lt hi4), bif_t (idx_in hi)]
    simp only [Int.toNat_natCast]
    generalize t3.get i = o at hd hs hr ⊢
    have go : ∀ (z1 z2 : L Int) (p' : List Int × List Int) (s : Sd), dStep p o = (p', s) → RD (z1, (z2, ())) p' → OkD p' →
        fixO s9_L0 ((t3, (t4, (z1, (z2, (((i + 1 : Nat) : Int), ()))))), ()) = some (.inr (.inl ((), ()))) := by
      intro z1 z2 p' s hs' hz hp'
      rw [hs'] at hr
      exact mainLoop h0 hn hl ss h4 k (i + 1) z1 z2 p' (by omega) hz hp' hr
    by_cases c0 : o.1 = 0
    · rw [bif_t (by simp [c0]), bif_t (idx_in hi4)]
      by_cases c8 : p.1.length = 8
      · have hI : dIn p o.2.1 = (p, false) := by unfold dIn; rw [if_pos hp, if_pos c8]
        have hS : dStep p o = (p, (false, (0, (0, ())))) := by unfold dStep; rw [if_pos c0, hI]
        rw [hS] at hs
        rw [hs, bif_f (by simp; omega), bif_t (idx_in hi4)]
        simp only [cond_false]
        rw [wI_succ hi (by omega)]
        exact go x1 x2 p _ hS hx hp
      · have hI : dIn p o.2.1 = ((p.1 ++ [o.2.1], p.2), true) := by unfold dIn; rw [if_pos hp, if_neg c8]
        have hS : dStep p o = ((p.1 ++ [o.2.1], p.2), (true, (0, (0, ())))) := by unfold dStep; rw [if_pos c0, hI]
        rw [hS] at hs
        rw [hs, bif_f (by simp; omega), bif_t (idx_in hi4)]
        simp only [cond_true]
        rw [bif_t (idx_in hi)]
        erw [bif_t (hbx (L.of (Ty.zero (.int .u32)) [o.2.1]) rfl)]
        rw [wI_succ hi (by omega)]
        exact go _ x2 (p.1 ++ [o.2.1], p.2) _ hS ⟨hx.1.app (RL.of _ [o.2.1]), hx.2⟩ ⟨by simp; omega, hp2⟩
    · rw [bif_f (by simp [c0])]
      by_cases c1 : o.1 = 1
      · have hO : dOp p = ((p.1.drop (dN p), p.2 ++ p.1.take (dN p)), decide (0 < dN p)) := by unfold dOp; rw [if_pos hp]
        have hS : dStep p o = ((p.1.drop (dN p), p.2 ++ p.1.take (dN p)), (decide (0 < dN p), (0, (0, ())))) := by unfold dStep; rw [if_neg c0, if_pos c1, hO]
        rw [bif_t (by simp [c1])]
        obtain ⟨z1, z2, q1, q2, q3⟩ := moveLoop t3 t4 (i : Int) p.1.length x1 x2 false p.1 p.2 rfl hx.1 hx.2 hp1 hp2
        rw [q1]
        simp only [Option.bind_some]
        rw [bif_t (idx_in hi4)]
        simp only [Int.toNat_natCast]
        rw [hS] at hs
        rw [hs, bif_f (by simp), wI_succ hi (by omega)]
        have ok := dOp_ok hp
        rw [hO] at ok
        exact go z1 z2 _ _ hS ⟨q2, q3⟩ ok
      · rw [bif_f (by simp [c1])]
        obtain ⟨p1, p2⟩ := p
        simp only at hp1 hp2 lx1 lx2
        cases p2 with
        | nil =>
          have hR : dRd (p1, []) = ((p1, []), 0, 1) := by unfold dRd; rw [if_pos hp]
          have hS : dStep (p1, []) o = ((p1, []), (false, (0, (1, ())))) := by unfold dStep; rw [if_neg c0, if_neg c1, hR]
          rw [hS] at hs
          rw [bif_t (by simp [lx2]), bif_t (idx_in hi4), hs, bif_f (by simp), wI_succ hi (by omega)]
          exact go x1 x2 _ _ hS hx hp
        | cons a t =>
          have hR : dRd (p1, a :: t) = ((p1, t), a, 0) := by unfold dRd; rw [if_pos hp]
          have hS : dStep (p1, a :: t) o = ((p1, t), (false, (a, (0, ())))) := by unfold dStep; rw [if_neg c0, if_neg c1, hR]
          rw [hS] at hs
          have lx2 : x2.len = t.length + 1 := lx2
          have hc := hx.2.cut (i := 1) (j := x2.len) (by omega) (Nat.le_refl _)
          have et : ((a :: t).drop 1).take (x2.len - 1) = t := by simp [lx2]
          rw [et] at hc
          have hg := hx.2.2 0 (by show 0 < x2.len; omega)
          simp only [List.getElem?_cons_zero, Option.some.injEq] at hg
          have e0 : x2.get (0 : Int).toNat = a := hg.symm
          rw [bif_f (by simp; omega), bif_t (idx_in hi4), hs, bif_f (by simp), bif_t (idx_in hi4), bif_t (by simp; omega), e0, bif_f (by simp), bif_t (by simp; omega), wI_succ hi (by omega)]
          exact go x1 _ (p1, t) _ hS ⟨hx.1, hc⟩ ⟨hp1, by simp at hp2; simp only; omega⟩

theorem law (x : L Int) : g9 x = some ((true, ()), ()) := by
  unfold g9
  by_cases hb : f37 x = true
  · rw [bif_t hb]
  · rw [bif_f (by simpa using hb)]
    have h1 : x.len ≤ 2 ^ 46 := by
      have h46 : (2 : Nat) ^ 46 = 70368744177664 := by decide
      rw [h46]
      unfold f37 at hb
      simp only [gt_iff_lt, decide_eq_true_eq] at hb
      omega
    obtain ⟨y, e0, hy⟩ := draw38 x h1
    obtain ⟨os, hos⟩ : ∃ l, RL y l := ⟨_, RL.list _⟩
    obtain ⟨z, e1, hz⟩ := dev29 hos (by omega)
    obtain ⟨w, e2, hw⟩ := dev31 hos (by omega)
    rw [e0]
    simp only [Option.bind_some]
    rw [e2]
    simp only [Option.bind_some]
    rw [e1]
    simp only [Option.bind_some]
    have hl : w.len = z.len := by rw [hw.1, hz.1]
    rw [bif_f (by simp [hl])]
    have fin : fixO s9_L0 ((y, (w, ((L.of (Ty.zero (.int .u32)) []), ((L.of (Ty.zero (.int .u32)) []), ((0 : Int), ()))))), ()) = some (.inr (.inl ((), ()))) := by
      have hcase : dPlay os = [] ∨ (dPlay os = dRun ([], []) os ∧ os.length ≤ 1000) := by
        unfold dPlay
        split
        · exact .inl rfl
        · split
          · exact .inr ⟨rfl, by omega⟩
          · exact .inl rfl
      rcases hcase with hc | ⟨hc, hc2⟩
      · rw [hc] at hw
        have h0 : w.len = 0 := hw.1
        rw [fixO_unfold]
        simp only [s9_L0, q9_L0]
        rw [bif_f (by simp [h0])]
      · rw [hc] at hw
        have hyl := hos.1
        exact mainLoop hos (by omega) (by rw [hw.1, dRun_len, hos.1]) _ hw y.len 0 _ _ ([], []) (by omega) ⟨RL.of _ [], RL.of _ []⟩ ⟨by simp, by simp⟩ rfl
    rw [fin]
    rfl

theorem plain : ∀ x, wfIns tysOf x → ∃ z, c9.F x = some ((true, ()), z) := by
  rintro ⟨x, ⟨⟩⟩ ⟨hw1, _⟩
  exact ⟨(), law x⟩


end Go.VE.VFnDevice
