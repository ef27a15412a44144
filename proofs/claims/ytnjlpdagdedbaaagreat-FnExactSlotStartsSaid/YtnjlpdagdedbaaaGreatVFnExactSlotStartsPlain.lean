import Derived.Test.YtnjlpdagdedbaaaGreatVFnExactSlotStartsLaws0
/- More plain laws of what laws.FnExactSlotStarts calls. -/
set_option linter.unusedVariables false
set_option linter.unusedSimpArgs false
namespace Go.VE.VFnExactSlotStarts
open Go.VE
/-! ### Marks -/
theorem get_upd_eq {α : Type} (x : L α) (i : Nat) (f : α → α) : (L.upd x i f).get i = f (x.get i) := by simp [L.upd, L.set]
theorem get_upd_ne {α : Type} (x : L α) {i j : Nat} (f : α → α) (h : j ≠ i) : (L.upd x i f).get j = x.get j := by
  simp only [L.upd, L.set]
  cases hb : Nat.beq j i with
  | true => exact absurd (Nat.eq_of_beq_eq_true hb) h
  | false => rfl
theorem len_upd {α : Type} (x : L α) (i : Nat) (f : α → α) : (L.upd x i f).len = x.len := rfl

/-- A loop that marks a row: each round takes the counter on by at most c. -/
theorem mark_loop {α D : Type} {step : ((Unit × (Int × (Int × Unit))) × (L α × Unit)) → Option (((Unit × (Int × (Int × Unit))) × (L α × Unit)) ⊕ D)} {n : Nat} (c : Int) (ok : Nat → α → Prop) (fin : Int → L α → D) (k0 : Int) (hc : 0 ≤ c) (h0 : 0 ≤ k0) (hb : k0 + c * n ≤ 4611686018427387904)
    (hs : ∀ (i : Nat) (k : Int) (r : L α), i < n → r.len = n → k0 ≤ k → k ≤ k0 + c * i → ok i (r.get i) → ∃ k' f, step (((), (k, ((i : Int), ()))), (r, ())) = some (.inl (((), (k', (((i + 1 : Nat) : Int), ()))), (L.upd r i f, ()))) ∧ k ≤ k' ∧ k' ≤ k + c)
    (he : ∀ (k : Int) (r : L α), r.len = n → step (((), (k, ((n : Int), ()))), (r, ())) = some (.inr (fin k r)))
    {x : L α} (hx : x.len = n) (hok : ∀ i, i < n → ok i (x.get i)) :
    ∃ k' x', fixO step (((), (k0, ((0 : Int), ()))), (x, ())) = some (fin k' x') ∧ k0 ≤ k' ∧ k' ≤ k0 + c * n ∧ x'.len = n := by
  obtain ⟨d, h1, k', x', rfl, h2, h3, h4⟩ := fixO_rel (step := step) (fun y => n - y.1.2.2.1.toNat)
    (fun y => ∃ (i : Nat) (k : Int) (r : L α), y = (((), (k, ((i : Int), ()))), (r, ())) ∧ i ≤ n ∧ r.len = n ∧ k0 ≤ k ∧ k ≤ k0 + c * i ∧ ∀ j, i ≤ j → j < n → ok j (r.get j))
    (fun _ d => ∃ k' x', d = fin k' x' ∧ k0 ≤ k' ∧ k' ≤ k0 + c * n ∧ x'.len = n) (by
      rintro _ ⟨i, k, r, rfl, hi, hr, k1, k2, ho⟩
      by_cases h : i < n
      · left
        obtain ⟨k', f, e1, e2, e3⟩ := hs i k r h hr k1 k2 (ho i (Nat.le_refl _) h)
        refine ⟨_, e1, ⟨i + 1, k', _, rfl, h, hr, by omega, ?_, fun j j1 j2 => ?_⟩, by simp only; omega, fun _ hd => hd⟩
        · have : c * ((i + 1 : Nat) : Int) = c * i + c := by rw [Int.natCast_add, Int.mul_add]; simp
          omega
        · rw [get_upd_ne _ _ (by omega)]
          exact ho j (by omega) j2
      · right
        obtain rfl : i = n := by omega
        exact ⟨_, he k r hr, k, r, rfl, k1, k2, hr⟩) (((), (k0, ((0 : Int), ()))), (x, ())) ⟨0, k0, x, rfl, Nat.zero_le _, hx, Int.le_refl _, by simp, fun j _ hj => hok j hj⟩
  exact ⟨k', x', h1, h2, h3, h4⟩

theorem strOf1 (b : Int) : (strOfL (L.of (Ty.zero (.int .u8)) [b])).size = 1 := rfl

theorem markText (k : Int) (h0 : 0 ≤ k) (hb : k ≤ 4611686018427387904) : ∃ s, g61 k = some ((s, ()), ()) := by
  unfold g61
  by_cases hz : k ≤ 0
  · exact ⟨_, bif_t (by simpa using hz)⟩
  · rw [bif_f (by simpa using hz)]
    obtain ⟨d, e1, s, rfl, hs⟩ := fixO_rel (step := s61_L0) (fun y => y.1.1.toNat)
      (fun y => ∃ (m : Int) (s : ByteArray), y = ((m, (s, ())), ()) ∧ 0 ≤ m ∧ (s.size : Int) + m ≤ k)
      (fun _ d => ∃ s, d = .inl ((s, ()), ()) ∧ (s.size : Int) ≤ k) (by
        rintro _ ⟨m, s, rfl, m0, hm⟩
        simp only [s61_L0, q61_L0]
        by_cases h : m > 0
        · left
          have hd : Int.tdiv m 10 = m / 10 := Int.tdiv_eq_ediv_of_nonneg m0
          rw [bif_t (by simpa using h), bif_t (by rw [strOf1]; exact Nat.ble_eq_true_of_le (by omega)), hd, wI_id (by omega) (by omega)]
          refine ⟨_, rfl, ⟨m / 10, _, rfl, by omega, ?_⟩, by simp only; omega, fun _ hd => hd⟩
          rw [ByteArray.size_append, strOf1]
          omega
        · right
          rw [bif_f (by simpa using h)]
          exact ⟨_, rfl, s, rfl, by omega⟩) ((k, ((⟨#[]⟩ : ByteArray), ())), ()) ⟨k, _, rfl, h0, by simp [ByteArray.size]⟩
    rw [e1]
    simp only [Option.bind_some]
    exact ⟨_, bif_t (Nat.ble_eq_true_of_le (by show 1 + s.size ≤ _; omega))⟩

theorem upd_upd {α : Type} (x : L α) (i : Nat) (f g : α → α) : L.upd (L.upd x i f) i g = L.upd x i (fun e => g (f e)) := by
  simp only [L.upd, L.set]
  congr 1
  funext j
  cases hb : Nat.beq j i with
  | true => simp
  | false => rfl

/-- Marks of a row of numbers, and that they are held. -/
theorem markInt (x : L Int) (k0 : Int) (h0 : 0 ≤ k0) (hb : k0 + x.len ≤ 4611686018427387904) (hn : x.len ≤ 2 ^ 47) : ∃ x', g11 x k0 = some ((k0 + x.len, ()), (x', ())) ∧ x'.len = x.len ∧ ∀ i, i < x.len → x'.get i = k0 + i := by
  unfold g11
  obtain ⟨d, h1, x', rfl, h2, h3⟩ := fixO_rel (step := s11_L0) (fun y => x.len - y.1.2.2.1.toNat)
    (fun y => ∃ (i : Nat) (r : L Int), y = (((), (k0 + i, ((i : Int), ()))), (r, ())) ∧ i ≤ x.len ∧ r.len = x.len ∧ ∀ j : Nat, j < i → r.get j = k0 + j)
    (fun _ d => ∃ x', d = .inl ((k0 + x.len, ()), (x', ())) ∧ x'.len = x.len ∧ ∀ i : Nat, i < x.len → x'.get i = k0 + i) (by
      rintro _ ⟨i, r, rfl, hi, hr, hg⟩
      simp only [s11_L0, q11_L0]
      by_cases h : i < x.len
      · left
        have hl : i < r.len := by omega
        rw [bif_t (idx_lt hl), bif_t (idx_in hl), wI_succ h hn, wI_id (n := k0 + i + 1) (by omega) (by omega), Int.toNat_natCast]
        refine ⟨_, rfl, ⟨i + 1, L.upd r i fun _ => k0 + i, ?_, h, hr, fun j hj => ?_⟩, by simp only; omega, fun _ hd => hd⟩
        · rw [show k0 + (i : Int) + 1 = k0 + ((i + 1 : Nat) : Int) by omega]
        · by_cases hji : j = i
          · subst hji; rw [get_upd_eq]
          · rw [get_upd_ne _ _ hji]; exact hg j (by omega)
      · right
        obtain rfl : i = x.len := by omega
        have : decide ((x.len : Int) < (r.len : Int)) = false := by rw [hr]; exact idx_end _
        rw [bif_f this]
        exact ⟨_, rfl, r, rfl, hr, hg⟩) (((), (k0, ((0 : Int), ()))), (x, ())) ⟨0, x, by simp, Nat.zero_le _, rfl, fun j hj => absurd hj (Nat.not_lt_zero j)⟩
  rw [h1]
  exact ⟨x', rfl, h2, h3⟩
theorem heldInt (x : L Int) (k0 : Int) (h0 : 0 ≤ k0) (hb : k0 + x.len ≤ 4611686018427387904) (hn : x.len ≤ 2 ^ 47) (hg : ∀ i : Nat, i < x.len → x.get i = k0 + i) : g12 x k0 = some ((k0 + x.len, ()), ()) := by
  unfold g12
  obtain ⟨d, h1, rfl⟩ := fixO_rel (step := s12_L0) (fun y => x.len - y.1.2.2.1.toNat)
    (fun y => ∃ (i : Nat), y = ((x, (k0 + i, ((i : Int), ()))), ()) ∧ i ≤ x.len)
    (fun _ d => d = .inr (.inl ((k0 + x.len, ()), ()))) (by
      rintro _ ⟨i, rfl, hi⟩
      simp only [s12_L0, q12_L0]
      by_cases h : i < x.len
      · left
        rw [bif_t (idx_lt h), bif_t (idx_in h), Int.toNat_natCast, bif_f (by rw [hg i h]; simp), wI_succ h hn, wI_id (n := k0 + i + 1) (by omega) (by omega)]
        refine ⟨_, rfl, ⟨i + 1, ?_, h⟩, by simp only; omega, fun _ hd => hd⟩
        rw [show k0 + (i : Int) + 1 = k0 + ((i + 1 : Nat) : Int) by omega]
      · right
        obtain rfl : i = x.len := by omega
        rw [bif_f (idx_end _)]
        exact ⟨_, rfl, rfl⟩) ((x, (k0, ((0 : Int), ()))), ()) ⟨0, by simp, Nat.zero_le _⟩
  rw [h1]
  rfl

theorem markWin (x : L Sl) (k0 : Int) (h0 : 0 ≤ k0) (hb : k0 + 3 * x.len ≤ 4611686018427387904) (hn : x.len ≤ 2 ^ 47) : ∃ k' x', g62 x k0 = some ((k', ()), (x', ())) ∧ k0 ≤ k' ∧ k' ≤ k0 + 3 * x.len ∧ x'.len = x.len := by
  unfold g62
  obtain ⟨k', x', h1, h2, h3, h4⟩ := mark_loop (step := s62_L0) (n := x.len) 3 (fun _ _ => True) (fun k r => .inl ((k, ()), (r, ()))) k0 (by omega) h0 hb
    (fun i k r hi hr k1 k2 _ => by
      have hl : i < r.len := by omega
      have e : s62_L0 (((), (k, ((i : Int), ()))), (r, ())) = some (.inl (((), (k + 1 + 1 + 1, (((i + 1 : Nat) : Int), ()))), (L.upd r i (fun e => (k, (k + 1, (k + 1 + 1, ())))), ()))) := by
        simp only [s62_L0, q62_L0]
        rw [Int.toNat_natCast]
        refine (bif_t (idx_lt hl)).trans ((bif_t (idx_in hl)).trans ((bif_t (idx_in hl)).trans ((bif_t (idx_in hl)).trans ?_)))
        rw [wI_succ hi hn, wI_id (n := k + 1) (by omega) (by omega), wI_id (n := k + 1 + 1) (by omega) (by omega), wI_id (n := k + 1 + 1 + 1) (by omega) (by omega), upd_upd, upd_upd]
      exact ⟨_, _, e, by omega, by omega⟩)
    (fun k r hr => by
      have : decide ((x.len : Int) < (r.len : Int)) = false := by rw [hr]; exact idx_end _
      simp only [s62_L0, q62_L0]
      rw [bif_f this]) rfl (fun _ _ => trivial)
  rw [h1]
  exact ⟨k', x', rfl, h2, h3, h4⟩
theorem markSlot (x : L Sl) (k0 : Int) (h0 : 0 ≤ k0) (hb : k0 + 3 * x.len ≤ 4611686018427387904) (hn : x.len ≤ 2 ^ 47) : ∃ k' x', g36 x k0 = some ((k', ()), (x', ())) ∧ k0 ≤ k' ∧ k' ≤ k0 + 3 * x.len ∧ x'.len = x.len := by
  unfold g36
  obtain ⟨k', x', h1, h2, h3, h4⟩ := mark_loop (step := s36_L0) (n := x.len) 3 (fun _ _ => True) (fun k r => .inl ((k, ()), (r, ()))) k0 (by omega) h0 hb
    (fun i k r hi hr k1 k2 _ => by
      have hl : i < r.len := by omega
      have e : s36_L0 (((), (k, ((i : Int), ()))), (r, ())) = some (.inl (((), (k + 1 + 1 + 1, (((i + 1 : Nat) : Int), ()))), (L.upd r i (fun e => (k, (k + 1, (k + 1 + 1, ())))), ()))) := by
        simp only [s36_L0, q36_L0]
        rw [Int.toNat_natCast]
        refine (bif_t (idx_lt hl)).trans ((bif_t (idx_in hl)).trans ((bif_t (idx_in hl)).trans ((bif_t (idx_in hl)).trans ?_)))
        rw [wI_succ hi hn, wI_id (n := k + 1) (by omega) (by omega), wI_id (n := k + 1 + 1) (by omega) (by omega), wI_id (n := k + 1 + 1 + 1) (by omega) (by omega), upd_upd, upd_upd]
      exact ⟨_, _, e, by omega, by omega⟩)
    (fun k r hr => by
      have : decide ((x.len : Int) < (r.len : Int)) = false := by rw [hr]; exact idx_end _
      simp only [s36_L0, q36_L0]
      rw [bif_f this]) rfl (fun _ _ => trivial)
  rw [h1]
  exact ⟨k', x', rfl, h2, h3, h4⟩
theorem markChan (x : L Ch) (k0 : Int) (h0 : 0 ≤ k0) (hb : k0 + 4 * x.len ≤ 4611686018427387904) (hn : x.len ≤ 2 ^ 47) : ∃ k' x', g35 x k0 = some ((k', ()), (x', ())) ∧ k0 ≤ k' ∧ k' ≤ k0 + 4 * x.len ∧ x'.len = x.len := by
  unfold g35
  obtain ⟨k', x', h1, h2, h3, h4⟩ := mark_loop (step := s35_L0) (n := x.len) 4 (fun _ _ => True) (fun k r => .inl ((k, ()), (r, ()))) k0 (by omega) h0 hb
    (fun i k r hi hr k1 k2 _ => by
      have hl : i < r.len := by omega
      have e : s35_L0 (((), (k, ((i : Int), ()))), (r, ())) = some (.inl (((), (k + 1 + 1 + 1 + 1, (((i + 1 : Nat) : Int), ()))), (L.upd r i (fun e => (k, (k + 1, (k + 1 + 1, (k + 1 + 1 + 1, ()))))), ()))) := by
        simp only [s35_L0, q35_L0]
        rw [Int.toNat_natCast]
        refine (bif_t (idx_lt hl)).trans ((bif_t (idx_in hl)).trans ((bif_t (idx_in hl)).trans ((bif_t (idx_in hl)).trans ((bif_t (idx_in hl)).trans ?_))))
        rw [wI_succ hi hn, wI_id (n := k + 1) (by omega) (by omega), wI_id (n := k + 1 + 1) (by omega) (by omega), wI_id (n := k + 1 + 1 + 1) (by omega) (by omega), wI_id (n := k + 1 + 1 + 1 + 1) (by omega) (by omega), upd_upd, upd_upd, upd_upd]
      exact ⟨_, _, e, by omega, by omega⟩)
    (fun k r hr => by
      have : decide ((x.len : Int) < (r.len : Int)) = false := by rw [hr]; exact idx_end _
      simp only [s35_L0, q35_L0]
      rw [bif_f this]) rfl (fun _ _ => trivial)
  rw [h1]
  exact ⟨k', x', rfl, h2, h3, h4⟩
theorem markPart (x : L PR) (k0 : Int) (h0 : 0 ≤ k0) (hb : k0 + 3145732 * x.len ≤ 4611686018427387904) (hn : x.len ≤ 2 ^ 47) (hw : ∀ i, i < x.len → (x.get i).2.2.2.1.len ≤ 1048576) :
    ∃ k' x', g34 x k0 = some ((k', ()), (x', ())) ∧ k0 ≤ k' ∧ k' ≤ k0 + 3145732 * x.len ∧ x'.len = x.len := by
  unfold g34
  obtain ⟨k', x', h1, h2, h3, h4⟩ := mark_loop (step := s34_L0) (n := x.len) 3145732 (fun _ (e : PR) => e.2.2.2.1.len ≤ 1048576) (fun k r => .inl ((k, ()), (r, ()))) k0 (by omega) h0 hb
    (fun i k r hi hr k1 k2 ho => by
      have hl : i < r.len := by omega
      have h47 : (2 : Nat) ^ 47 = 140737488355328 := by decide
      obtain ⟨s, hs⟩ := markText k (by omega) (by omega)
      obtain ⟨k', w', e1, e2, e3, _⟩ := markWin (r.get i).2.2.2.1 (k + 1 + 1 + 1 + 1) (by omega) (by omega) (by rw [h47]; omega)
      have e : s34_L0 (((), (k, ((i : Int), ()))), (r, ())) = some (.inl (((), (k', (((i + 1 : Nat) : Int), ()))), (L.upd r i (fun e => (s, (k + 1, ((k + 1 + 1, (k + 1 + 1 + 1, ())), (w', e.2.2.2.2))))), ()))) := by
        simp only [s34_L0, q34_L0]
        rw [Int.toNat_natCast]
        refine (bif_t (idx_lt hl)).trans ?_
        rw [hs]
        refine (bif_t (idx_in hl)).trans ((bif_t (idx_in hl)).trans ((bif_t (idx_in hl)).trans ((bif_t (idx_in hl)).trans ((bif_t (idx_in hl)).trans ?_))))
        rw [wI_succ hi hn, wI_id (n := k + 1) (by omega) (by omega), wI_id (n := k + 1 + 1) (by omega) (by omega), wI_id (n := k + 1 + 1 + 1) (by omega) (by omega), wI_id (n := k + 1 + 1 + 1 + 1) (by omega) (by omega), upd_upd, upd_upd, upd_upd, get_upd_eq, e1]
        simp only [Option.bind_some, upd_upd]
      exact ⟨_, _, e, by omega, by omega⟩)
    (fun k r hr => by
      have : decide ((x.len : Int) < (r.len : Int)) = false := by rw [hr]; exact idx_end _
      simp only [s34_L0, q34_L0]
      rw [bif_f this]) rfl hw
  rw [h1]
  exact ⟨k', x', rfl, h2, h3, h4⟩

/-! ### SlotStarts -/
/-- Has a slot a place of the frame. -/
def hasP (s : Sl) (q : Int) : Bool := decide (s.2.1 ≤ q) && decide (q < s.2.1 + s.2.2.1)

theorem slotImp (t : Tb) (c : Int) (hf : Facts t) : ∃ n : Int, g28 t c = some ((n, ()), ()) ∧
    ((∃ k : Nat, n = k ∧ k < (tSlots t).len ∧ hasP ((tSlots t).get k) (Int.tmod c t.2.2.2.2.2.2.1) = true) ∨ (n = -1 ∧ ∀ k, k < (tSlots t).len → hasP ((tSlots t).get k) (Int.tmod c t.2.2.2.2.2.2.1) = false)) := by
  obtain ⟨_, hp, hg, hm, _, _, _, _, _, _, _, _, hs, ⟨hl1, hl⟩, _⟩ := hf
  have hne : (!decide (t.2.2.2.2.2.2.1 = 0)) = true := by simp; omega
  unfold g28
  rw [bif_t hne]
  generalize hq : Int.tmod c t.2.2.2.2.2.2.1 = q
  have hw : ∀ i, i < (tSlots t).len → wI (((tSlots t).get i).2.1 + ((tSlots t).get i).2.2.1) = ((tSlots t).get i).2.1 + ((tSlots t).get i).2.2.1 := fun i hi => by
    have f := (hs.1 i hi).2
    exact wI_id (by omega) (by omega)
  have q2 := index_loop (step := s56_57_L0) (x := tSlots t) (c := (q, ())) (fun i => hasP ((tSlots t).get i) q) (fun i hi => by
    simp only [s56_57_L0, q56_57_L0]
    refine (bif_t (idx_lt hi)).trans ((bif_t (idx_in hi)).trans ?_)
    rw [wI_succ hi (by omega), Int.toNat_natCast]
    have e144 : f57 ((tSlots t).get i) q = hasP ((tSlots t).get i) q := by
      unfold f57 hasP
      rw [hw i hi]
      cases decide (((tSlots t).get i).2.1 ≤ q) <;> rfl
    by_cases hf : hasP ((tSlots t).get i) q = true
    · rw [if_pos hf]; exact bif_t (e144.trans hf)
    · rw [if_neg hf]
      have hf' : hasP ((tSlots t).get i) q = false := by simpa using hf
      exact bif_f (e144.trans hf')) (by
    simp only [s56_57_L0, q56_57_L0]
    exact bif_f (idx_end (tSlots t).len))
  unfold g56_57
  rcases q2 with ⟨k, k1, k2, k3, k4⟩ | ⟨k1, k2⟩
  · have k4' : fixO s56_57_L0 ((t.2.2.2.2.2.2.2.2.2.2.1, ((q, ()), ((t.2.2.2.2.2.2.2.2.2.2.1.len : Int), ((0 : Int), ())))), ()) = some (.inl (((k : Int), ()), ())) := k4
    rw [k4']
    exact ⟨k, rfl, .inl ⟨k, rfl, k1, k2⟩⟩
  · have k2' : fixO s56_57_L0 ((t.2.2.2.2.2.2.2.2.2.2.1, ((q, ()), ((t.2.2.2.2.2.2.2.2.2.2.1.len : Int), ((0 : Int), ())))), ()) = some (.inr (.inl ((), ()))) := k2
    rw [k2']
    exact ⟨-1, rfl, .inr ⟨rfl, k1⟩⟩

theorem firstAt (t : Tb) (c : Int) (hf : Facts t) : ∃ n : Int, g19 t c = some ((n, ()), ()) ∧
    ((∃ k : Nat, k < (tSlots t).len ∧ n = ((tSlots t).get k).1 ∧ ((tSlots t).get k).2.1 = Int.tmod c t.2.2.2.2.2.2.1) ∨ (n = -1 ∧ ∀ k, k < (tSlots t).len → ((tSlots t).get k).2.1 ≠ Int.tmod c t.2.2.2.2.2.2.1)) := by
  obtain ⟨_, hp, hg, hm, _, _, _, _, _, _, _, _, hs, ⟨hl1, hl⟩, _⟩ := hf
  have hne : (!decide (t.2.2.2.2.2.2.1 = 0)) = true := by simp; omega
  unfold g19
  generalize hq : Int.tmod c t.2.2.2.2.2.2.1 = q
  have q1 := scan (step := s19_L0) (fun i => ((c, ((), ((i : Int), ()))), (t, ()))) (tSlots t).len (fun i => !(((tSlots t).get i).2.1 == q)) (fun i => .inl ((((tSlots t).get i).1, ()), ())) (.inr (.inl ((), ())))
    (fun i hi ho => by
      have ho : (((tSlots t).get i).2.1 == q) = false := by simpa using ho
      simp only [s19_L0, q19_L0, hq]
      refine (bif_t (idx_lt hi)).trans ((bif_t (idx_in hi)).trans ((bif_t hne).trans ?_))
      rw [wI_succ hi (by omega), Int.toNat_natCast]
      exact bif_f ho)
    (fun i hi ho => by
      have ho : (((tSlots t).get i).2.1 == q) = true := by simpa using ho
      simp only [s19_L0, q19_L0, hq]
      refine (bif_t (idx_lt hi)).trans ((bif_t (idx_in hi)).trans ((bif_t hne).trans ?_))
      rw [Int.toNat_natCast]
      exact (bif_t ho).trans (bif_t (idx_in hi)))
    (by
      simp only [s19_L0, q19_L0]
      exact bif_f (idx_end (tSlots t).len))
  rcases q1 with ⟨i, hi, ho, hj, e⟩ | ⟨ha, e⟩
  · have e' : fixO s19_L0 ((c, ((), ((0 : Int), ()))), (t, ())) = some (.inl ((((tSlots t).get i).1, ()), ())) := e
    rw [e']
    exact ⟨_, rfl, .inl ⟨i, hi, rfl, by simpa using ho⟩⟩
  · have e' : fixO s19_L0 ((c, ((), ((0 : Int), ()))), (t, ())) = some (.inr (.inl ((), ()))) := e
    rw [e']
    exact ⟨-1, rfl, .inr ⟨rfl, fun k hk => by simpa using ha k hk⟩⟩

/-- Both find the same slot's start. -/
theorem starts (t : Tb) (c p : Int) (hf : Facts t) : ∃ n m : Int, g19 t c = some ((n, ()), ()) ∧ g28 t c = some ((m, ()), ()) ∧ (m ≥ 0 → m < (tSlots t).len) ∧ (n = -1 ∨ (0 ≤ n ∧ n < (tParts t).len)) ∧
    (p ≠ -1 → ((n == p) = true ↔ m ≥ 0 ∧ (((tSlots t).get m.toNat).1 == p) = true ∧ (((tSlots t).get m.toNat).2.1 == Int.tmod c t.2.2.2.2.2.2.1) = true)) ∧
    (m ≥ 0 → 0 ≤ ((tSlots t).get m.toNat).1 ∧ ((tSlots t).get m.toNat).1 < (tParts t).len) := by
  obtain ⟨n, e1, h1⟩ := firstAt t c hf
  obtain ⟨m, e2, h2⟩ := slotImp t c hf
  obtain ⟨_, hp, hg, hm, _, _, hpl, _, _, _, _, _, hs, ⟨hl1, hl⟩, _⟩ := hf
  generalize hq : Int.tmod c t.2.2.2.2.2.2.1 = q at *
  have hpart : ∀ k, k < (tSlots t).len → 0 ≤ ((tSlots t).get k).1 ∧ ((tSlots t).get k).1 < (tParts t).len := fun k hk => by
    have := (f18_iff _ _ _).mp (hs.1 k hk).1
    rw [wI_id (by omega) (by omega)] at this
    omega
  have hin : ∀ k, k < (tSlots t).len → ((tSlots t).get k).2.1 = q → hasP ((tSlots t).get k) q = true := fun k hk e => by
    have := (hs.1 k hk).2
    unfold hasP
    simp only [Bool.and_eq_true, decide_eq_true_eq]
    omega
  have hun : ∀ k k', k < (tSlots t).len → k' < (tSlots t).len → hasP ((tSlots t).get k) q = true → hasP ((tSlots t).get k') q = true → k = k' := fun k k' hk hk' a b => by
    unfold hasP at a b
    simp only [Bool.and_eq_true, decide_eq_true_eq] at a b
    rcases Nat.lt_trichotomy k k' with lt | eq | gt
    · have := hs.2 k k' lt hk'; omega
    · exact eq
    · have := hs.2 k' k gt hk; omega
  refine ⟨n, m, e1, e2, fun hm0 => ?_, ?_, fun hp1 => ?_, fun hm0 => ?_⟩
  · rcases h2 with ⟨k, rfl, k1, _⟩ | ⟨rfl, _⟩
    · omega
    · omega
  · rcases h1 with ⟨k, k1, rfl, _⟩ | ⟨rfl, _⟩
    · exact .inr (hpart k k1)
    · exact .inl rfl
  · constructor
    · intro hn
      have hn : n = p := by simpa using hn
      rcases h1 with ⟨k, k1, k2, k3⟩ | ⟨k1, _⟩
      · have hh := hin k k1 k3
        rcases h2 with ⟨k', rfl, j1, j2⟩ | ⟨_, j2⟩
        · have := hun k k' k1 j1 hh j2
          subst this
          rw [Int.toNat_natCast]
          exact ⟨by omega, by simp; omega, by simpa using k3⟩
        · have := j2 k k1
          rw [hh] at this; cases this
      · omega
    · rintro ⟨hm0, ha, hb⟩
      have ha : ((tSlots t).get m.toNat).1 = p := by simpa using ha
      have hb : ((tSlots t).get m.toNat).2.1 = q := by simpa using hb
      rcases h2 with ⟨k', rfl, j1, j2⟩ | ⟨rfl, _⟩
      · rw [Int.toNat_natCast] at ha hb
        rcases h1 with ⟨k, k1, k2, k3⟩ | ⟨_, k2⟩
        · have := hun k k' k1 j1 (hin k k1 k3) j2
          subst this
          simp; omega
        · exact absurd hb (k2 k' j1)
      · omega
  · rcases h2 with ⟨k, rfl, k1, _⟩ | ⟨rfl, _⟩
    · rw [Int.toNat_natCast]; exact hpart k k1
    · omega

def SameL (a b : L Int) : Prop := a.len = b.len ∧ ∀ i, i < a.len → a.get i = b.get i

theorem SameL.app {a b : L Int} (h : SameL a b) (c : Int) : SameL (L.app a (L.of (Ty.zero (.int .i64)) [c])) (L.app b (L.of (Ty.zero (.int .i64)) [c])) := by
  refine ⟨by show a.len + 1 = b.len + 1; rw [h.1], fun i hi => ?_⟩
  show (bif Nat.blt i a.len then a.get i else _) = (bif Nat.blt i b.len then b.get i else _)
  rw [← h.1]
  cases hb : Nat.blt i a.len with
  | true => exact h.2 i (by simpa using hb)
  | false => rfl

theorem mostOk {n : Nat} (h : n ≤ 50000) (c : Int) : decide (n + (L.of (Ty.zero (.int .i64)) [c]).len ≤ most) = true := by
  have e : (L.of (Ty.zero (.int .i64)) [c]).len = 1 := rfl
  have e2 : most = 4294967296 := rfl
  rw [e, e2]
  simp; omega

theorem main (t : Tb) (a0 a1 a2 : Int) (h : Bnd t) : ∃ x y : L Int, g5r t a0 a1 a2 = some ((x, ()), ()) ∧ g7r t a0 a1 a2 = some ((y, ()), ()) ∧ SameL x y ∧ x.len ≤ 50000 := by
  obtain ⟨b, h1, h2, h3⟩ := sound_wf t (wf_of_bnd h)
  unfold g5r g7r g17
  rw [h1, h2]
  have e27 : ∀ n, f27 n = f18 n 0 50000 := fun _ => rfl
  rw [e27, e27]
  simp only [Option.bind_some]
  have s0 : SameL (L.of (Ty.zero (.int .i64)) []) (nilL (.int .i64)) := ⟨rfl, fun i hi => absurd hi (Nat.not_lt_zero i)⟩
  cases b with
  | false => exact ⟨_, _, rfl, rfl, s0, Nat.zero_le _⟩
  | true =>
    simp only [Bool.not_true, cond_false, cond_true, Option.bind_some]
    cases hc1 : f18 a1 0 50000 with
    | false => exact ⟨_, _, rfl, rfl, s0, Nat.zero_le _⟩
    | true =>
      cases hc2 : f18 a2 0 50000 with
      | false => exact ⟨_, _, rfl, rfl, s0, Nat.zero_le _⟩
      | true =>
        have hc1 := (f18_iff _ _ _).mp hc1
        have hc2 := (f18_iff _ _ _).mp hc2
        have hF := h3 rfl
        have hpl : 1 ≤ (tParts t).len ∧ (tParts t).len ≤ 6 := hF.2.2.2.2.2.2.1
        have hM : (!decide (t.2.2.2.2.2.2.1 = 0)) = true := by have := hF.2.2.2.1; simp; omega
        simp only [Bool.not_true, cond_false, Option.bind_some]
        cases hp : f18 a0 0 (wI ((t.2.2.2.2.2.2.2.1.len : Int) - 1)) with
        | false =>
          have hno : ¬ (0 ≤ a0 ∧ a0 < (tParts t).len) := fun q => by
            have e : ((t.2.2.2.2.2.2.2.1.len : Int)) = (tParts t).len := rfl
            have : f18 a0 0 (wI ((t.2.2.2.2.2.2.2.1.len : Int) - 1)) = true := (f18_iff _ _ _).mpr (by rw [e, wI_id (by omega) (by omega)]; omega)
            rw [hp] at this; cases this
          obtain ⟨d, e1, rfl⟩ := fixO_rel (step := s7r_L0) (fun a => (a2 - a.1.2.2.2.2.1).toNat)
            (fun a => ∃ c : Int, a = ((a0, (a2, ((), (nilL (.int .i64), (c, ()))))), (t, ())) ∧ 0 ≤ c ∧ c ≤ 50000)
            (fun _ d => d = .inl ((nilL (.int .i64), ()), ())) (by
              rintro _ ⟨c, rfl, c1, c2⟩
              simp only [s7r_L0, q7r_L0]
              by_cases hlt : c < a2
              · left
                rw [bif_t (by simpa using hlt), wI_id (n := c + 1) (by omega) (by omega)]
                have hmm : (a2 - (c + 1)).toNat < (a2 - c).toNat := by omega
                obtain ⟨n, m, _, m1, m2, _, _, m3⟩ := starts t c a0 hF
                rw [m1]
                simp only [Option.bind_some]
                by_cases hm0 : m ≥ 0
                · have hml := m2 hm0
                  have hpp := m3 hm0
                  have hne : ((t.2.2.2.2.2.2.2.2.2.2.1.get m.toNat).1 == a0) = false := by
                    have : ((tSlots t).get m.toNat).1 ≠ a0 := fun e => hno (by omega)
                    have : (((tSlots t).get m.toNat).1 == a0) = false := by simpa using this
                    exact this
                  have hin : (decide (0 ≤ m) && decide (m < (t.2.2.2.2.2.2.2.2.2.2.1.len : Int))) = true := by
                    simp only [Bool.and_eq_true, decide_eq_true_eq]; exact ⟨hm0, hml⟩
                  rw [bif_t (by simpa using hm0), bif_t hin, bif_f hne]
                  exact ⟨_, rfl, ⟨c + 1, rfl, by omega, by omega⟩, hmm, fun d hd => hd⟩
                · rw [bif_f (by simpa using hm0)]
                  exact ⟨_, rfl, ⟨c + 1, rfl, by omega, by omega⟩, hmm, fun d hd => hd⟩
              · right
                rw [bif_f (by simpa using hlt)]
                exact ⟨_, rfl, rfl⟩)
            ((a0, (a2, ((), (nilL (.int .i64), (a1, ()))))), (t, ())) ⟨a1, rfl, hc1.1, hc1.2⟩
          rw [e1]
          exact ⟨_, _, rfl, rfl, s0, Nat.zero_le _⟩
        | true =>
          have hp := (f18_iff _ _ _).mp hp
          have hp1 : a0 ≠ -1 := by omega
          simp only [Bool.not_true, cond_false]
          obtain ⟨d, e, e1, e2, x, y, rfl, rfl, r1, r2⟩ := fixO_sim (s1 := s5r_L0) (s2 := s7r_L0)
            (fun a b => ∃ (c : Int) (x y : L Int), a = ((a0, (a2, ((), (x, (c, ()))))), (t, ())) ∧ b = ((a0, (a2, ((), (y, (c, ()))))), (t, ())) ∧ SameL x y ∧ (x.len : Int) ≤ c ∧ 0 ≤ c ∧ c ≤ 50000)
            (fun d e => ∃ x y, d = .inl ((x, ()), ()) ∧ e = .inl ((y, ()), ()) ∧ SameL x y ∧ x.len ≤ 50000) (fun a => (a2 - a.1.2.2.2.2.1).toNat) (by
              rintro _ _ ⟨c, x, y, rfl, rfl, hxy, hxc, c1, c2⟩
              simp only [s5r_L0, q5r_L0, s7r_L0, q7r_L0]
              by_cases hlt : c < a2
              · left
                have hmm : (a2 - (c + 1)).toNat < (a2 - c).toNat := by omega
                obtain ⟨n, m, n1, m1, m2, _, m3, _⟩ := starts t c a0 hF
                have m3 := m3 hp1
                have hlt' : decide (c < a2) = true := by simpa using hlt
                rw [bif_t hlt', bif_t hlt', n1, m1, wI_id (n := c + 1) (by omega) (by omega)]
                simp only [Option.bind_some]
                have hx5 : x.len ≤ 50000 := by omega
                have hy5 : y.len ≤ 50000 := by rw [← hxy.1]; exact hx5
                by_cases hn : (n == a0) = true
                · obtain ⟨q1, q2, q3⟩ := m3.mp hn
                  have hin : (decide (0 ≤ m) && decide (m < (t.2.2.2.2.2.2.2.2.2.2.1.len : Int))) = true := by
                    simp only [Bool.and_eq_true, decide_eq_true_eq]; exact ⟨q1, m2 q1⟩
                  have q2' : ((t.2.2.2.2.2.2.2.2.2.2.1.get m.toNat).1 == a0) = true := q2
                  have q3' : ((t.2.2.2.2.2.2.2.2.2.2.1.get m.toNat).2.1 == Int.tmod c t.2.2.2.2.2.2.1) = true := q3
                  have q1' : decide (m ≥ 0) = true := by simpa using q1
                  rw [bif_t hn, bif_t (mostOk hx5 c), bif_t q1', bif_t hin, bif_t q2', bif_t hin, bif_t hM, bif_t q3', bif_t (mostOk hy5 c)]
                  exact ⟨_, _, rfl, rfl, ⟨c + 1, _, _, rfl, rfl, hxy.app c, by show ((x.len + 1 : Nat) : Int) ≤ _; omega, by omega, by omega⟩, hmm⟩
                · have hn' : (n == a0) = false := by simpa using hn
                  rw [bif_f hn']
                  have hnot : ¬ (m ≥ 0 ∧ (((tSlots t).get m.toNat).1 == a0) = true ∧ (((tSlots t).get m.toNat).2.1 == Int.tmod c t.2.2.2.2.2.2.1) = true) := fun q => hn (m3.mpr q)
                  by_cases hm0 : m ≥ 0
                  · have hin : (decide (0 ≤ m) && decide (m < (t.2.2.2.2.2.2.2.2.2.2.1.len : Int))) = true := by
                      simp only [Bool.and_eq_true, decide_eq_true_eq]; exact ⟨hm0, m2 hm0⟩
                    rw [bif_t (by simpa using hm0), bif_t hin]
                    cases hpa : ((t.2.2.2.2.2.2.2.2.2.2.1.get m.toNat).1 == a0) with
                    | false =>
                      simp only [cond_false]
                      exact ⟨_, _, rfl, rfl, ⟨c + 1, _, _, rfl, rfl, hxy, by omega, by omega, by omega⟩, hmm⟩
                    | true =>
                      have hst : ((t.2.2.2.2.2.2.2.2.2.2.1.get m.toNat).2.1 == Int.tmod c t.2.2.2.2.2.2.1) = false := by
                        cases hst : ((t.2.2.2.2.2.2.2.2.2.2.1.get m.toNat).2.1 == Int.tmod c t.2.2.2.2.2.2.1) with
                        | false => rfl
                        | true => exact absurd ⟨hm0, hpa, hst⟩ hnot
                      simp only [cond_true]
                      rw [bif_t hin, bif_t hM, bif_f hst]
                      exact ⟨_, _, rfl, rfl, ⟨c + 1, _, _, rfl, rfl, hxy, by omega, by omega, by omega⟩, hmm⟩
                  · rw [bif_f (by simpa using hm0)]
                    exact ⟨_, _, rfl, rfl, ⟨c + 1, _, _, rfl, rfl, hxy, by omega, by omega, by omega⟩, hmm⟩
              · right
                have hlt' : decide (c < a2) = false := by simpa using hlt
                rw [bif_f hlt', bif_f hlt']
                exact ⟨_, _, rfl, rfl, x, y, rfl, rfl, hxy, by omega⟩)
            ((a0, (a2, ((), (L.of (Ty.zero (.int .i64)) [], (a1, ()))))), (t, ())) ((a0, (a2, ((), (nilL (.int .i64), (a1, ()))))), (t, ())) ⟨a1, _, _, rfl, rfl, s0, by show ((0 : Nat) : Int) ≤ a1; omega, hc1.1, hc1.2⟩
          rw [e1, e2]
          exact ⟨x, y, rfl, rfl, r1, r2⟩

theorem eqSame {a b : L Int} (h : SameL a b) (hl : a.len ≤ 2 ^ 47) : g8 a b = some ((true, ()), ()) := by
  unfold g8
  rw [bif_f (by rw [h.1]; simp)]
  have := eq_loop (step := s8_L0) (x := a) (y := b) (fun i hi => by
    simp only [s8_L0, q8_L0]
    have hi' : i < b.len := by rw [← h.1]; exact hi
    rw [bif_t (idx_lt hi), bif_t (idx_in hi), bif_t (idx_in hi'), Int.toNat_natCast, bif_f (by rw [h.2 i hi]; simp), wI_succ hi hl]) (by
    simp only [s8_L0, q8_L0]
    exact bif_f (idx_end a.len))
  rw [this]
  rfl

theorem law (t : Tb) (a0 a1 a2 : Int) (hw : Wf t) : g3 t a0 a1 a2 = some ((true, ()), ()) := by
  unfold g3
  have h47 : (2 : Nat) ^ 47 = 140737488355328 := by decide
  obtain ⟨n, e1, e2⟩ := sz12 t hw
  rw [e1]
  simp only [Option.bind_some]
  rcases e2 with rfl | ⟨n1, hb⟩
  · rw [bif_t (by decide)]
  · rw [bif_f (by simpa using n1)]
    obtain ⟨r, r1, r2⟩ := to14 t hb
    obtain ⟨x, y, m1, m2, m3, m4⟩ := main r a0 a1 a2 r2
    have m5 : SameL y x := ⟨m3.1.symm, fun i hi => (m3.2 i (by rw [m3.1]; exact hi)).symm⟩
    have hyl : y.len ≤ 50000 := by rw [← m3.1]; exact m4
    have hq := eqSame m5 (by omega)
    obtain ⟨b1, b2, b3, b4, b5⟩ := r2
    rw [r1]
    simp only [Option.bind_some]
    rw [m1, m2]
    simp only [Option.bind_some]
    rw [hq]
    simp only [Option.bind_some, Bool.not_true, cond_false]
    rw [eq16 r ⟨b1, b2, b3, b4, b5⟩]
    simp only [Option.bind_some, Bool.not_true, cond_false]
    obtain ⟨k1, x1, p1, p2, p3, _⟩ := markPart (tParts r) 1 (by omega) (by omega) (by omega) (fun i hi => (b5 i hi).2)
    have p1' : g34 r.2.2.2.2.2.2.2.1 1 = some ((k1, ()), (x1, ())) := p1
    rw [p1']
    simp only [Option.bind_some]
    obtain ⟨x2, p4, _, _⟩ := markInt (tDevs r) k1 (by omega) (by omega) (by omega)
    have p4' : g11 r.2.2.2.2.2.2.2.2.1 k1 = some ((k1 + (tDevs r).len, ()), (x2, ())) := p4
    rw [p4']
    simp only [Option.bind_some]
    obtain ⟨k3, x3, p5, p6, p7, _⟩ := markChan (tChans r) (k1 + (tDevs r).len) (by omega) (by omega) (by omega)
    have p5' : g35 r.2.2.2.2.2.2.2.2.2.1 (k1 + (tDevs r).len) = some ((k3, ()), (x3, ())) := p5
    rw [p5']
    simp only [Option.bind_some]
    obtain ⟨k4, x4, p8, p9, p10, _⟩ := markSlot (tSlots r) k3 (by omega) (by omega) (by omega)
    have p8' : g36 r.2.2.2.2.2.2.2.2.2.2.1 k3 = some ((k4, ()), (x4, ())) := p8
    rw [p8']
    simp only [Option.bind_some]
    have hk4 : decide (k4 < 0) = false := by simp; omega
    rw [bif_f hk4]
    obtain ⟨y', s1, s2, s3⟩ := markInt y 1 (by omega) (by omega) (by omega)
    rw [s1]
    simp only [Option.bind_some]
    have s4 := heldInt y' 1 (by omega) (by rw [s2]; omega) (by rw [s2]; omega) (fun i hi => s3 i (by rw [← s2]; exact hi))
    rw [s2] at s4
    rw [s4]
    simp only [Option.bind_some]
    have hk5 : decide ((1 : Int) + (y.len : Int) < 0) = false := by simp; omega
    have hne : ((1 : Int) + (y.len : Int) != 1 + (y.len : Int)) = false := by simp
    rw [bif_f hk5, bif_f hne]
    exact (bif_f hk5).trans (bif_f hne)

theorem plain : ∀ x, wfIns tysOf x → ∃ z, c3.F x = some ((true, ()), z) := by
  rintro ⟨t, b0, b1, b2, ⟨⟩⟩ ⟨hw, _⟩
  obtain ⟨_, _, _, _, _, _, _, hp, hd, hc, hs, _⟩ := hw
  exact ⟨(), law t b0 b1 b2 ⟨hp.1, hd.1, hc.1, hs.1, fun i hi => ⟨(hp.2 i hi).1, (hp.2 i hi).2.2.2.1.1⟩⟩⟩


end Go.VE.VFnExactSlotStarts
