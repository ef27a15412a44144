import Derived.Test.YtnjlpdagdedbaaaVFnExactDevOpen
import Derived.Test.YtnjlpdagdedbaaaVgY
/- laws.FnExactDevOpen returns true: in plain words, no program in sight. -/
set_option linter.unusedVariables false
set_option linter.unusedSimpArgs false
namespace Go.VE.VFnExactDevOpen
open Go.VE
abbrev tysOf : List Ty := [(.pair (.sl (.int .u32)) (.pair (.sl (.int .u32)) .unit))]
/-- A row that reads as a list. -/
def RL {α : Type} (x : L α) (l : List α) : Prop := x.len = l.length ∧ ∀ i, i < x.len → l[i]? = some (x.get i)

theorem RL.nilL : RL (nilL (.int .u32)) [] := ⟨rfl, fun i h => absurd h (Nat.not_lt_zero _)⟩
theorem RL.zL : RL (zL (.int .u32)) [] := ⟨rfl, fun i h => absurd h (Nat.not_lt_zero _)⟩
theorem RL.app {α : Type} {x y : L α} {l m : List α} (h : RL x l) (k : RL y m) : RL (L.app x y) (l ++ m) := by
  refine ⟨by show x.len + y.len = _; rw [h.1, k.1, List.length_append], fun i hi => ?_⟩
  have hi : i < x.len + y.len := hi
  show _ = some (bif Nat.blt i x.len then x.get i else y.get (i - x.len))
  by_cases hc : i < x.len
  · rw [bif_t (by simpa using hc), List.getElem?_append_left (by rw [← h.1]; exact hc)]
    exact h.2 i hc
  · rw [bif_f (by cases hb : Nat.blt i x.len with | true => exact absurd (by simpa using hb) hc | false => rfl), List.getElem?_append_right (by rw [← h.1]; omega), ← h.1]
    exact k.2 _ (by omega)
theorem RL.new {α : Type} {x : L α} {l : List α} (h : RL x l) : RL (L.new x) l := h
theorem RL.of {α : Type} (d : α) (l : List α) : RL (L.of d l) l := by
  refine ⟨rfl, fun i hi => ?_⟩
  have hi : i < l.length := hi
  show _ = some (l.getD i d)
  rw [List.getD_eq_getElem?_getD, List.getElem?_eq_getElem hi]; rfl
theorem RL.cut {α : Type} {x : L α} {l : List α} (h : RL x l) {i j : Nat} (hij : i ≤ j) (hj : j ≤ x.len) : RL (L.cut x i j) ((l.drop i).take (j - i)) := by
  have hl := h.1
  refine ⟨by show j - i = _; rw [List.length_take, List.length_drop]; omega, fun k hk => ?_⟩
  have hk : k < j - i := hk
  show _ = some (x.get (i + k))
  rw [List.getElem?_take, if_pos hk, List.getElem?_drop]
  exact h.2 _ (by omega)
theorem RL.list {α : Type} (x : L α) : RL x ((List.range x.len).map x.get) := by
  refine ⟨by simp, fun i hi => ?_⟩
  rw [List.getElem?_map, List.getElem?_range hi]; rfl

theorem RL.uniq {α : Type} {x : L α} {l m : List α} (h : RL x l) (k : RL x m) : l = m := by
  apply List.ext_getElem?
  intro i
  by_cases hi : i < x.len
  · rw [h.2 i hi, k.2 i hi]
  · rw [List.getElem?_eq_none (by rw [← h.1]; omega), List.getElem?_eq_none (by rw [← k.1]; omega)]

/-- A device that reads as two lists. -/
def RD (x : L Int × (L Int × Unit)) (p : List Int × List Int) : Prop := RL x.1 p.1 ∧ RL x.2.1 p.2

theorem sz64 (x : L Int) (b : Int) (h : x.len ≤ 2 ^ 47) (hb : 0 ≤ b) (hb' : b ≤ 1048576) : f64 x b = if b < x.len then -1 else b - x.len := by
  have h47 : (2 : Nat) ^ 47 = 140737488355328 := by decide
  rw [h47] at h
  unfold f64
  rw [wI_id (by omega) (by omega)]
  by_cases hc : b < x.len
  · rw [bif_t (by simp; omega), if_pos hc]
  · rw [bif_f (by simp; omega), if_neg hc]

theorem sz17 (x : L Int × (L Int × Unit)) (h1 : x.1.len ≤ 2 ^ 47) (h2 : x.2.1.len ≤ 2 ^ 47) (hz : ¬ f17 x 1048576 < 0) : x.1.len + x.2.1.len ≤ 1048576 := by
  unfold f17 at hz
  rw [sz64 _ _ h1 (by omega) (by omega)] at hz
  have a1 : ¬ (1048576 : Int) < x.1.len := by
    intro hc
    rw [if_pos hc] at hz
    simp at hz
  rw [if_neg a1, bif_f (by simp; omega), sz64 _ _ h2 (by omega) (by omega)] at hz
  have a2 : ¬ (1048576 : Int) - x.1.len < x.2.1.len := by
    intro hc
    rw [if_pos hc] at hz
    simp at hz
  omega

theorem to67r (x : L Int) (h : x.len ≤ 1048576) {l : List Int} (hl : RL x l) : ∃ r, g67r x = some ((r, ()), ()) ∧ RL r l ∧ r.nil = false := by
  obtain ⟨r, h1, h2, h3, h4⟩ := copy_loopN (step := s67r_L0) (x := x) (fun i => x.get i) (fun i r hi hr => by
    simp only [s67r_L0, q67r_L0]
    rw [bif_t (by simpa using hi), bif_t (by simpa using hi), bif_t (by simpa [hr] using hi), wI_succ hi (by omega), Int.toNat_natCast]) (fun r => by
    simp only [s67r_L0, q67r_L0]
    rw [bif_f (by simp)]) (r0 := L.rep (x.len : Int).toNat (Ty.zero (.int .u32))) (by simp [L.rep])
  refine ⟨r, ?_, ⟨by rw [h2]; exact hl.1, fun i hi => ?_⟩, h4⟩
  · unfold g67r
    rw [bif_t (by simp; omega), h1]
    rfl
  · rw [h2] at hi
    rw [h3 i hi]; exact hl.2 i hi

theorem to19r (x : L Int × (L Int × Unit)) (h : x.1.len + x.2.1.len ≤ 1048576) {p : List Int × List Int} (hp : RD x p) : ∃ r, g19r x = some ((r, ()), ()) ∧ RD r p ∧ r.1.nil = false ∧ r.2.1.nil = false := by
  obtain ⟨r1, e1, k1, n1⟩ := to67r x.1 (by omega) hp.1
  obtain ⟨r2, e2, k2, n2⟩ := to67r x.2.1 (by omega) hp.2
  exact ⟨(r1, (r2, ())), by unfold g19r; rw [e1, e2]; rfl, ⟨k1, k2⟩, n1, n2⟩

theorem eq71 {x y : L Int} {l : List Int} (hx : RL x l) (hy : RL y l) (h : l.length ≤ 2000000) : g71 x y = some ((true, ()), ()) := by
  have hl : x.len = y.len := by rw [hx.1, hy.1]
  have h1 := eq_loop (step := s71_L0) (x := x) (y := y) (fun i hi => by
    have hg : x.get i = y.get i := by
      have e1 := hx.2 i hi
      have e2 := hy.2 i (by omega)
      rw [e1] at e2; exact Option.some.inj e2
    simp only [s71_L0, q71_L0]
    rw [bif_t (by simpa using hi), bif_t (by simpa using hi), bif_t (by simpa using (by omega : i < y.len)), bif_f (by simpa using hg), wI_succ hi (by have := hx.1; omega)]) (by
    simp only [s71_L0, q71_L0]
    rw [bif_f (by simp)])
  unfold g71
  rw [bif_f (by simp [hl]), h1]
  rfl

theorem eq21 {x y : L Int × (L Int × Unit)} {p : List Int × List Int} (hx : RD x p) (hy : RD y p) (h : p.1.length ≤ 2000000 ∧ p.2.length ≤ 2000000) : g21 x y = some ((true, ()), ()) := by
  unfold g21
  rw [eq71 hx.1 hy.1 h.1]
  simp only [Option.bind_some, Bool.not_true, cond_false]
  rw [eq71 hx.2 hy.2 h.2]
  rfl

/-- The marks from k on. -/
def marks (k n : Nat) : List Int := (List.range n).map fun i => IntKind.u32.wrap ((k + i : Nat) : Int)
theorem marks_get {k n i : Nat} (h : i < n) : (marks k n)[i]? = some (IntKind.u32.wrap ((k + i : Nat) : Int)) := by
  unfold marks
  rw [List.getElem?_map, List.getElem?_range h]; rfl
theorem marks_len (k n : Nat) : (marks k n).length = n := by simp [marks]

theorem mark72 (x : L Int) (k : Nat) (h : x.len ≤ 2000000) (hk : k ≤ 2000000) : ∃ r, g72 x k = some ((((k + x.len : Nat) : Int), ()), (r, ())) ∧ RL r (marks k x.len) := by
  obtain ⟨d, h1, r, rfl, h2, h3⟩ := fixO_rel (step := s72_L0) (fun y => x.len - y.1.2.2.1.toNat)
    (fun y => ∃ (i : Nat) (r : L Int), y = (((), (((k + i : Nat) : Int), ((i : Int), ()))), (r, ())) ∧ i ≤ x.len ∧ r.len = x.len ∧ ∀ j, j < i → r.get j = IntKind.u32.wrap ((k + j : Nat) : Int))
    (fun _ d => ∃ r : L Int, d = .inl ((((k + x.len : Nat) : Int), ()), (r, ())) ∧ r.len = x.len ∧ ∀ i, i < x.len → r.get i = IntKind.u32.wrap ((k + i : Nat) : Int)) (by
      rintro _ ⟨i, r, rfl, hi, hr, hf⟩
      by_cases h : i < x.len
      · left
        refine ⟨_, by simp only [s72_L0, q72_L0]; rw [bif_t (by simpa [hr] using h), bif_t (by simpa [hr] using h), wI_succ h (by omega), Int.toNat_natCast], ⟨i + 1, L.set r i (IntKind.u32.wrap ((k + i : Nat) : Int)), ?_, h, hr, fun j hj => ?_⟩, ?_, fun d hd => hd⟩
        · rw [show wI (((k + i : Nat) : Int) + 1) = ((k + (i + 1) : Nat) : Int) by rw [wI_id (by omega) (by omega)]; omega]
        · rw [set_get]
          split
          · rename_i e; rw [e]
          · exact hf j (by omega)
        · simp only [Int.toNat_natCast]; omega
      · right
        have : i = x.len := by omega
        subst this
        exact ⟨_, by simp only [s72_L0, q72_L0]; rw [bif_f (by simp [hr])], r, rfl, hr, hf⟩) (((), ((k : Int), ((0 : Int), ()))), (x, ())) ⟨0, x, by simp, Nat.zero_le _, rfl, fun j hj => absurd hj (Nat.not_lt_zero _)⟩
  refine ⟨r, ?_, by rw [marks_len]; exact h2, fun i hi => ?_⟩
  · unfold g72
    rw [h1]; rfl
  · rw [h2] at hi
    rw [marks_get hi, h3 i hi]

theorem held73 (x : L Int) (k : Nat) (hx : RL x (marks k x.len)) (h : x.len ≤ 2000000) (hk : k ≤ 2000000) : g73 x k = some ((((k + x.len : Nat) : Int), ()), ()) := by
  obtain ⟨d, h1, rfl⟩ := fixO_rel (step := s73_L0) (fun y => x.len - y.1.2.2.1.toNat)
    (fun y => ∃ (i : Nat), y = ((x, (((k + i : Nat) : Int), ((i : Int), ()))), ()) ∧ i ≤ x.len)
    (fun _ d => d = .inr (.inl ((((k + x.len : Nat) : Int), ()), ()))) (by
      rintro _ ⟨i, rfl, hi⟩
      by_cases h : i < x.len
      · left
        have hg : x.get i = IntKind.u32.wrap ((k + i : Nat) : Int) := by
          have e1 := hx.2 i h
          rw [marks_get h] at e1; exact (Option.some.inj e1).symm
        refine ⟨_, by simp only [s73_L0, q73_L0]; rw [bif_t (by simpa using h), bif_t (by simpa using h), bif_f (by simpa using hg), wI_succ h (by omega)], ⟨i + 1, ?_, h⟩, ?_, fun d hd => hd⟩
        · rw [show wI (((k + i : Nat) : Int) + 1) = ((k + (i + 1) : Nat) : Int) by rw [wI_id (by omega) (by omega)]; omega]
        · simp only [Int.toNat_natCast]; omega
      · right
        have : i = x.len := by omega
        subst this
        exact ⟨_, by simp only [s73_L0, q73_L0]; rw [bif_f (by simp)], rfl⟩) ((x, ((k : Int), ((0 : Int), ()))), ()) ⟨0, by simp, Nat.zero_le _⟩
  unfold g73
  rw [h1]; rfl

theorem held23 {x y : L Int} {k : Nat} (hx : RL x (marks k x.len)) (hy : RL y (marks (k + x.len) y.len)) (h1 : x.len ≤ 100) (h2 : y.len ≤ 100) (hk : k ≤ 100) : g23 (x, (y, ())) k = some ((((k + x.len + y.len : Nat) : Int), ()), ()) := by
  unfold g23
  rw [held73 x k hx (by omega) (by omega)]
  simp only [Option.bind_some]
  rw [bif_f (by simp; omega), held73 y (k + x.len) hy (by omega) (by omega)]
  simp only [Option.bind_some]
  rw [bif_f (by simp; omega)]

theorem list74w (x : L Int) (h : x.len ≤ 1048576) {l : List Int} (hl : RL x l) : ∃ r, g74w x = some ((r, ()), ()) ∧ RL r l := by
  refine ⟨_, by unfold g74w; rw [bif_t (by simp [L.of, most]; omega)], ?_⟩
  exact (RL.of _ []).app hl
theorem clone108w (x : L Int) (h : x.len ≤ 1048576) {l : List Int} (hl : RL x l) (hn : x.nil = false) : ∃ r, g108w x = some ((r, ()), ()) ∧ RL r l := by
  refine ⟨_, by unfold g108w; rw [bif_f hn, bif_t (by simp [L.of, most]; omega)], ?_⟩
  exact (RL.of _ []).app hl

theorem ok65 {x : L Int × (L Int × Unit)} {p : List Int × List Int} (h : RD x p) : f65 x = decide (p.1.length ≤ 8 ∧ p.2.length ≤ 8) := by
  have e1 : (x.1.len : Int) = (p.1.length : Int) := by rw [h.1.1]
  have e2 : (x.2.1.len : Int) = (p.2.length : Int) := by rw [h.2.1]
  unfold f65
  rw [e1, e2]
  by_cases hc : p.1.length ≤ 8
  · rw [bif_t (by simp; omega)]
    apply Bool.eq_iff_iff.mpr
    simp only [decide_eq_true_eq]
    omega
  · rw [bif_f (by simp; omega)]
    symm
    rw [decide_eq_false_iff_not]
    omega
theorem ok68 {x : L Int × (L Int × Unit)} {p : List Int × List Int} (h : RD x p) : f68 x = decide (p.1.length ≤ 8 ∧ p.2.length ≤ 8) := ok65 h

theorem copy66w {x : L Int × (L Int × Unit)} {p : List Int × List Int} (h : RD x p) (hp : p.1.length ≤ 8 ∧ p.2.length ≤ 8) : ∃ r, g66w x = some ((r, ()), ()) ∧ RD r p := by
  obtain ⟨r1, e1, k1⟩ := list74w x.1 (by rw [h.1.1]; omega) h.1
  obtain ⟨r2, e2, k2⟩ := list74w x.2.1 (by rw [h.2.1]; omega) h.2
  exact ⟨(r1, (r2, ())), by unfold g66w; rw [e1, e2]; rfl, k1, k2⟩
theorem clone69w {x : L Int × (L Int × Unit)} {p : List Int × List Int} (h : RD x p) (hp : p.1.length ≤ 8 ∧ p.2.length ≤ 8) (hn : x.1.nil = false ∧ x.2.1.nil = false) : ∃ r, g69w x = some ((r, ()), ()) ∧ RD r p := by
  obtain ⟨r1, e1, k1⟩ := clone108w x.1 (by rw [h.1.1]; omega) h.1 hn.1
  obtain ⟨r2, e2, k2⟩ := clone108w x.2.1 (by rw [h.2.1]; omega) h.2 hn.2
  exact ⟨(r1, (r2, ())), by unfold g69w; rw [e1, e2]; rfl, k1, k2⟩
theorem RD.nil : RD (nilL (.int .u32), (nilL (.int .u32), ())) ([], []) := ⟨RL.nilL, RL.nilL⟩

/-- Words are let be seen. -/
def dN (p : List Int × List Int) : Nat := min p.1.length (8 - p.2.length)
def dOp (p : List Int × List Int) : (List Int × List Int) × Bool := if p.1.length ≤ 8 ∧ p.2.length ≤ 8 then ((p.1.drop (dN p), p.2 ++ p.1.take (dN p)), decide (0 < dN p)) else (([], []), false)

theorem op26loop (q : L Int × (L Int × Unit)) : ∀ (x : (Unit × (Unit × (Bool × Unit))) × ((L Int × (L Int × Unit)) × ((L Int × (L Int × Unit)) × Unit))), (∃ a b, RD x.2.2.1 (a, b) ∧ a.length ≤ 8 ∧ b.length ≤ 8) →
    ∃ d, fixO s26r_L0 x = some d ∧ ∀ a b, RD x.2.2.1 (a, b) → a.length ≤ 8 → b.length ≤ 8 → ∃ z, d = .inl (((), ((), ((x.1.2.2.1 || decide (0 < dN (a, b))), ()))), (x.2.1, (z, ()))) ∧ RD z (a.drop (dN (a, b)), b ++ a.take (dN (a, b))) := by
  refine fixO_rel (step := s26r_L0) (fun x => x.2.2.1.1.len) _ (fun x d => ∀ a b, RD x.2.2.1 (a, b) → a.length ≤ 8 → b.length ≤ 8 → ∃ z, d = .inl (((), ((), ((x.1.2.2.1 || decide (0 < dN (a, b))), ()))), (x.2.1, (z, ()))) ∧ RD z (a.drop (dN (a, b)), b ++ a.take (dN (a, b)))) ?_
  rintro ⟨⟨_, _, t, _⟩, ⟨c1, c2, _⟩, ⟨x1, x2, _⟩, _⟩ ⟨a, b, h, ha, hb⟩
  have e1 : x1.len = a.length := h.1.1
  have e2 : x2.len = b.length := h.2.1
  simp only [s26r_L0, q26r_L0]
  have stop : (a.length = 0 ∨ 8 ≤ b.length) → ∀ a b, RD (x1, (x2, ())) (a, b) → a.length ≤ 8 → b.length ≤ 8 → ∃ z, (Sum.inl (((), ((), (t, ()))), ((c1, (c2, ())), ((x1, (x2, ())), ()))) : ((Unit × (Unit × (Bool × Unit))) × ((L Int × (L Int × Unit)) × ((L Int × (L Int × Unit)) × Unit))) ⊕ Empty) = .inl (((), ((), ((t || decide (0 < dN (a, b))), ()))), ((c1, (c2, ())), (z, ()))) ∧ RD z (a.drop (dN (a, b)), b ++ a.take (dN (a, b))) := by
    intro hs a' b' h' _ _
    have e1' : x1.len = a'.length := h'.1.1
    have e2' : x2.len = b'.length := h'.2.1
    have h0 : dN (a', b') = 0 := by unfold dN; simp only; omega
    refine ⟨(x1, (x2, ())), ?_, ?_⟩
    · rw [h0]; simp
    · rw [h0]; simpa using h'
  by_cases hb8 : b.length < 8
  · rw [bif_t (by simp; omega)]
    by_cases ha0 : 0 < a.length
    · left
      rw [bif_t (by simp; omega), bif_t (by simp; omega), bif_t (by simp [L.of, most]; omega), bif_t (by simp; omega)]
      cases a with
      | nil => simp at ha0
      | cons w r =>
        have hc := h.1.cut (i := 1) (j := x1.len) (by omega) (Nat.le_refl _)
        have et : ((w :: r).drop 1).take (x1.len - 1) = r := by simp at e1; simp [e1]
        rw [et] at hc
        have ei : (x1.len : Int).toNat = x1.len := Int.toNat_natCast _
        obtain ⟨r2, e3, k3⟩ := list74w (L.cut x1 (1 : Int).toNat (x1.len : Int).toNat) (by rw [ei]; show x1.len - 1 ≤ _; omega) (by rw [ei]; exact hc)
        have hg := h.1.2 0 (by show 0 < x1.len; rw [e1]; exact ha0)
        simp only [List.getElem?_cons_zero, Option.some.injEq] at hg
        have e0 : x1.get (0 : Int).toNat = w := hg.symm
        rw [e0, e3]
        have k4 : RL (L.app x2 (L.of (Ty.zero (.int .u32)) [w])) (b ++ [w]) := h.2.app (RL.of _ [w])
        refine ⟨_, rfl, ⟨r, b ++ [w], ⟨k3, k4⟩, by simp at ha; omega, by simp; omega⟩, ?_, fun d hd a' b' h' ha' hb' => ?_⟩
        · show r2.len < x1.len
          rw [k3.1, e1]; simp
        · cases a' with
          | nil => have : x1.len = 0 := h'.1.1; omega
          | cons w' r' =>
            have hg' := h'.1.2 0 (by show 0 < x1.len; omega)
            simp only [List.getElem?_cons_zero, Option.some.injEq] at hg'
            have ew : w' = w := hg'.trans e0
            subst ew
            have e1' : x1.len = (w' :: r').length := h'.1.1
            have hc' := h'.1.cut (i := 1) (j := x1.len) (by omega) (Nat.le_refl _)
            have et' : ((w' :: r').drop 1).take (x1.len - 1) = r' := by simp at e1'; simp [e1']
            rw [et'] at hc'
            have er : r' = r := RL.uniq hc' hc
            subst er
            have e2' : x2.len = b'.length := h'.2.1
            have k4' : RL (L.app x2 (L.of (Ty.zero (.int .u32)) [w'])) (b' ++ [w']) := h'.2.app (RL.of _ [w'])
            obtain ⟨z, q1, q2⟩ := hd r' (b' ++ [w']) ⟨k3, k4'⟩ (by simp at ha'; omega) (by simp; omega)
            have hn : dN (w' :: r', b') = dN (r', b' ++ [w']) + 1 := by
              unfold dN; simp only [List.length_cons, List.length_append, List.length_nil]; omega
            refine ⟨z, ?_, ?_⟩
            · rw [q1, hn]
              simp
            · rw [hn]
              simpa using q2
    · right
      rw [bif_f (by simp; omega)]
      exact ⟨_, rfl, stop (.inl (by omega))⟩
  · right
    rw [bif_f (by simp; omega)]
    exact ⟨_, rfl, stop (.inr (by omega))⟩

theorem op26r {x : L Int × (L Int × Unit)} {p : List Int × List Int} (h : RD x p) : ∃ z, g26r x = some ((z, (dOp p).2, ()), ()) ∧ RD z (dOp p).1 := by
  unfold g26r dOp
  rw [ok65 h]
  by_cases hp : p.1.length ≤ 8 ∧ p.2.length ≤ 8
  · rw [if_pos hp, bif_f (by simp [hp])]
    obtain ⟨r, e, k⟩ := copy66w h hp
    rw [e]
    simp only [Option.bind_some]
    obtain ⟨d, e2, hd⟩ := op26loop r (((), ((), (false, ()))), (((nilL (.int .u32)), ((nilL (.int .u32)), ())), (r, ()))) ⟨p.1, p.2, k, hp.1, hp.2⟩
    obtain ⟨z, rfl, hz⟩ := hd p.1 p.2 k hp.1 hp.2
    rw [e2]
    exact ⟨z, by simp, hz⟩
  · rw [if_neg hp, bif_t (by simp [hp])]
    exact ⟨_, rfl, RD.nil⟩

theorem cat109w {s c : L Int} {b d : List Int} (hs : RL s b) (hc : RL c d) (h1 : b.length ≤ 1000) (h2 : d.length ≤ 1000) : ∃ r, g109w (L.of (Ty.zero (.sl (.int .u32))) [s, c]) = some ((r, ()), ()) ∧ RL r (b ++ d) := by
  have l1 := hs.1
  have l2 := hc.1
  have hm : most = 4294967296 := rfl
  generalize hx : L.of (Ty.zero (.sl (.int .u32))) [s, c] = x
  have xl : x.len = 2 := by subst hx; rfl
  have g0 : x.get (0 : Int).toNat = s := by subst hx; rfl
  have g1 : x.get (1 : Int).toNat = c := by subst hx; rfl
  have e1 : wI (0 + (s.len : Int)) = ((s.len : Nat) : Int) := by rw [wI_id (by omega) (by omega)]; omega
  have e2 : wI (((s.len : Nat) : Int) + (c.len : Int)) = ((s.len + c.len : Nat) : Int) := by rw [wI_id (by omega) (by omega)]; omega
  have w1 : wI (0 + 1) = 1 := wI_id (by omega) (by omega)
  have w2 : wI (1 + 1) = 2 := wI_id (by omega) (by omega)
  have f1 : fixO s109w_L0 ((x, ((0 : Int), (x, ((x.len : Int), ((0 : Int), ()))))), ()) = some (.inl ((x, (((s.len + c.len : Nat) : Int), ())), ())) := by
    rw [fixO_unfold]
    simp only [s109w_L0, q109w_L0]
    rw [bif_t (by simp [xl]), bif_t (by simp [xl]), g0, e1, bif_f (by simp), w1]
    simp only
    rw [fixO_unfold]
    simp only [s109w_L0, q109w_L0]
    rw [bif_t (by simp [xl]), bif_t (by simp [xl]), g1, e2, bif_f (by rw [decide_eq_false_iff_not]; omega), w2]
    simp only
    rw [fixO_unfold]
    simp only [s109w_L0, q109w_L0]
    rw [bif_f (by simp [xl])]
  have f2 : ∀ (t : L Int), RL t [] → ∃ r, fixO s109w_L2 ((t, (x, ((x.len : Int), ((0 : Int), ())))), ()) = some (.inl ((r, ()), ())) ∧ RL r (b ++ d) := by
    intro t ht
    refine ⟨L.app (L.app t s) c, ?_, by have := (ht.app hs).app hc; simpa using this⟩
    have tl : t.len = 0 := ht.1
    rw [fixO_unfold]
    simp only [s109w_L2, q109w_L2]
    rw [bif_t (by simp [xl]), bif_t (by simp [xl]), g0, bif_t (by rw [decide_eq_true_eq, hm]; omega), w1]
    simp only
    rw [fixO_unfold]
    simp only [s109w_L2, q109w_L2]
    rw [bif_t (by simp [xl]), bif_t (by simp [xl]), g1, bif_t (by rw [decide_eq_true_eq, hm]; show t.len + s.len + c.len ≤ _; omega), w2]
    simp only
    rw [fixO_unfold]
    simp only [s109w_L2, q109w_L2]
    rw [bif_f (by simp [xl])]
  unfold g109w
  rw [f1]
  simp only [Option.bind_some]
  rw [bif_f (by simp; omega)]
  have e3 : wI (((s.len + c.len : Nat) : Int) - 0) = ((s.len + c.len : Nat) : Int) := by rw [wI_id (by omega) (by omega)]; omega
  rw [e3]
  by_cases h0 : 0 < s.len + c.len
  · rw [bif_t (by simp only [gt_iff_lt, decide_eq_true_eq]; omega), bif_t (by rw [Bool.and_eq_true, decide_eq_true_eq, decide_eq_true_eq, hm]; clear e1 e2 e3; omega)]
    obtain ⟨r, q1, q2⟩ := f2 _ RL.zL
    rw [q1]
    exact ⟨r, rfl, q2⟩
  · rw [bif_f (by simp only [gt_iff_lt, decide_eq_false_iff_not]; omega)]
    obtain ⟨r, q1, q2⟩ := f2 _ RL.nilL
    rw [q1]
    exact ⟨r, rfl, q2⟩

theorem min_n {x1 x2 : L Int} {p : List Int × List Int} (h1 : RL x1 p.1) (h2 : RL x2 p.2) (hp : p.1.length ≤ 8 ∧ p.2.length ≤ 8) : (if (wI ((8 : Int) - (x2.len : Int))) < (x1.len : Int) then (wI ((8 : Int) - (x2.len : Int))) else (x1.len : Int)) = ((dN p : Nat) : Int) := by
  have l1 := h1.1
  have l2 := h2.1
  rw [wI_id (by omega) (by omega)]
  unfold dN
  split <;> omega

theorem op27r {x : L Int × (L Int × Unit)} {p : List Int × List Int} (h : RD x p) (hn : x.1.nil = false ∧ x.2.1.nil = false) : ∃ z, g27r x = some ((z, (dOp p).2, ()), ()) ∧ RD z (dOp p).1 := by
  unfold g27r dOp
  rw [ok68 h]
  by_cases hp : p.1.length ≤ 8 ∧ p.2.length ≤ 8
  · rw [if_pos hp, bif_f (by simp [hp])]
    obtain ⟨r, e, k⟩ := clone69w h hp hn
    rw [e]
    simp only [Option.bind_some]
    rw [min_n k.1 k.2 hp]
    have l1 := k.1.1
    have hd : dN p ≤ r.1.len := by unfold dN; omega
    rw [bif_t (by simp; omega)]
    have hc := k.1.cut (i := 0) (j := dN p) (Nat.zero_le _) hd
    have et : (p.1.drop 0).take (dN p - 0) = p.1.take (dN p) := by simp
    rw [et] at hc
    obtain ⟨r2, q1, q2⟩ := cat109w k.2 (c := L.cut r.1 (0 : Int).toNat ((dN p : Nat) : Int).toNat) hc (by omega) (by rw [List.length_take]; omega)
    rw [q1]
    simp only [Option.bind_some]
    rw [bif_t (by simp; omega)]
    have hc2 := k.1.cut (i := dN p) (j := r.1.len) hd (Nat.le_refl _)
    have et2 : (p.1.drop (dN p)).take (r.1.len - dN p) = p.1.drop (dN p) := by
      rw [List.take_of_length_le]
      rw [List.length_drop]; omega
    rw [et2] at hc2
    refine ⟨(L.cut r.1 (dN p) r.1.len, (r2, ())), ?_, hc2, q2⟩
    have e3 : decide (((dN p : Nat) : Int) > 0) = decide (0 < dN p) := by
      apply Bool.eq_iff_iff.mpr; simp
    rw [e3]
    rfl
  · rw [if_neg hp, bif_t (by simp [hp])]
    exact ⟨_, rfl, RD.nil⟩

theorem dOp_len (p : List Int × List Int) : (dOp p).1.1.length ≤ 9 ∧ (dOp p).1.2.length ≤ 8 := by
  unfold dOp
  split
  · simp only [List.length_drop, List.length_append, List.length_take, dN]; omega
  · simp

theorem law (x : L Int × (L Int × Unit)) (h1 : x.1.len ≤ 2 ^ 47) (h2 : x.2.1.len ≤ 2 ^ 47) : g7 x = some ((true, ()), ()) := by
  unfold g7
  by_cases hz : f17 x 1048576 < 0
  · rw [bif_t (by simpa using hz)]
  · rw [bif_f (by simpa using hz)]
    have hl := sz17 x h1 h2 hz
    obtain ⟨p, hp⟩ : ∃ p, RD x p := ⟨(_, _), RL.list _, RL.list _⟩
    have hpl : p.1.length + p.2.length ≤ 1048576 := by have := hp.1.1; have := hp.2.1; omega
    obtain ⟨r, e0, hr, hn⟩ := to19r x hl hp
    obtain ⟨z, e1, hz1⟩ := op26r hr
    obtain ⟨y, e2, hy⟩ := op27r hr hn
    have hd := dOp_len p
    have e3 : g21 y z = some ((true, ()), ()) := eq21 hy hz1 (by omega)
    have e4 : g21 r r = some ((true, ()), ()) := eq21 hr hr (by omega)
    obtain ⟨m1, a1, _⟩ := mark72 r.1 1 (by rw [hr.1.1]; omega) (by omega)
    obtain ⟨m2, a2, _⟩ := mark72 r.2.1 (1 + r.1.len) (by rw [hr.2.1]; omega) (by rw [hr.1.1]; omega)
    obtain ⟨n1, b1, c1⟩ := mark72 y.1 1 (by rw [hy.1.1]; omega) (by omega)
    obtain ⟨n2, b2, c2⟩ := mark72 y.2.1 (1 + y.1.len) (by rw [hy.2.1]; omega) (by rw [hy.1.1]; omega)
    have l1 : n1.len = y.1.len := by rw [c1.1, marks_len]
    have l2 : n2.len = y.2.1.len := by rw [c2.1, marks_len]
    have e5 : g23 (n1, (n2, ())) 1 = some ((((1 + y.1.len + y.2.1.len : Nat) : Int), ()), ()) := by
      have := held23 (x := n1) (y := n2) (k := 1) (by rw [l1]; exact c1) (by rw [l1, l2]; exact c2) (by rw [l1, hy.1.1]; omega) (by rw [l2, hy.2.1]; omega) (by omega)
      rw [l1, l2] at this; exact this
    rw [show ((1 : Nat) : Int) = 1 from rfl] at a1 b1
    simp only [e0, Option.bind_some, e1, e2, e3, e4, a1, a2, b1, b2, Bool.not_true, cond_false, beq_self_eq_true, bne_self_eq_false]
    rw [bif_f (by simp; omega)]
    simp only [e5, Option.bind_some]
    rw [bif_f (by simp; omega)]
    simp only [bne_self_eq_false, cond_false]
    rw [bif_f (by simp; omega)]

theorem plain : ∀ x, wfIns tysOf x → ∃ z, c7.F x = some ((true, ()), z) := by
  rintro ⟨x, ⟨⟩⟩ ⟨⟨hw1, hw2, _⟩, _⟩
  exact ⟨(), law x hw1.1 hw2.1⟩


end Go.VE.VFnExactDevOpen
