import Derived.Test.YtnjlpdagdedbaaaGreatViP
/- Regions whose order is open: whatever the order, the same comes out. -/
namespace Go.VE

section
variable {P : Program} {Γ : TypeId → Option Ty} {T : Tbl} {N : Fr} {c0 : Nat → Nat → Col} {w0 : World}

/-- A region's run, told: what each operation gives, and the states between. -/
structure Told (P : Program) (Γ : TypeId → Option Ty) (T : Tbl) (all : List Oper) (x : Nat → Option Dl) (st : Nat → AS) (es : List (Nat × Nat × Bool)) (k : Nat) : Prop where
  step : ∀ i o, k ≤ i → all[i]? = some o → GuardIs all o (st i) (x i).isSome ∧ (∀ d, x i = some d → OpStep P Γ T o (st i) d) ∧ st (i + 1) = outOf o (x i) (st i)
  ent : ∀ i o, k ≤ i → all[i]? = some o → ∀ e ∈ ent T all o (x i) i (st i).off (st i).env, e ∈ es

theorem told_of {R : Type} {all : List Oper} : ∀ (rest : List Oper) (k : Nat) (es : List (Nat × Nat × Bool)) (σ : AS) (K : AS → List (Nat × Nat × Bool) → Option R) (r : R), all.drop k = rest → k ≤ all.length → regK P Γ T all rest k es σ K = some r →
    ∃ x st esf, st k = σ ∧ Told P Γ T all x st esf k ∧ (∀ e ∈ es, e ∈ esf) ∧ K (st all.length) esf = some r
  | [], k, es, σ, K, r, hr, hk, h => by
    simp only [regK] at h
    have hkl : k = all.length := by have := congrArg List.length hr; simp at this; omega
    refine ⟨fun _ => none, fun _ => σ, es, rfl, ⟨fun i o hi ho => ?_, fun i o hi ho => ?_⟩, fun _ h => h, h⟩
    · have := (List.getElem?_eq_some_iff.mp ho).1; omega
    · have := (List.getElem?_eq_some_iff.mp ho).1; omega
  | o :: rest, k, es, σ, K, r, hr, hk, h => by
    obtain ⟨x0, h1, h2, h3⟩ := regK_cons h
    have hok : all[k]? = some o := by
      have := congrArg (fun l => l[0]?) hr
      simpa using this
    have hkl : k < all.length := (List.getElem?_eq_some_iff.mp hok).1
    have hr' : all.drop (k + 1) = rest := by
      have := congrArg List.tail hr
      simpa using this
    obtain ⟨x, st, esf, q1, q2, q3, q4⟩ := told_of rest (k + 1) _ _ K r hr' (by omega) h3
    refine ⟨fun i => if i = k then x0 else x i, fun i => if i = k then σ else st i, esf, by simp, ⟨fun i o' hi ho => ?_, fun i o' hi ho => ?_⟩, fun e he => q3 e (List.mem_append_right _ he), ?_⟩
    · by_cases hik : i = k
      · subst hik
        rw [hok] at ho; cases ho
        simp only [if_true]
        exact ⟨h1, h2, by rw [if_neg (by omega)]; exact q1⟩
      · simp only [if_neg hik]
        rw [if_neg (by omega)]
        exact q2.step i o' (by omega) ho
    · by_cases hik : i = k
      · subst hik
        rw [hok] at ho; cases ho
        simp only [if_true]
        exact fun e he => q3 e (List.mem_append_left _ he)
      · simp only [if_neg hik]
        exact q2.ent i o' (by omega) ho
    · simp only
      rw [if_neg (by omega)]
      exact q4

/-- The state behind some of the operations, laid in the text's order. -/
def foldS (all : List Oper) (x : Nat → Option Dl) (σ : AS) (S : Nat → Bool) : Nat → AS
  | 0 => σ
  | i + 1 => match all[i]? with
    | some o => if S i then outOf o (x i) (foldS all x σ S i) else foldS all x σ S i
    | none => foldS all x σ S i

theorem foldS_prefix {all : List Oper} {x : Nat → Option Dl} {st : Nat → AS} {es : List (Nat × Nat × Bool)} (h : Told P Γ T all x st es 0) (i : Nat) (hi : i ≤ all.length) : ∀ n, i ≤ n → foldS all x (st 0) (fun j => decide (j < i)) n = st i := by
  have h1 : ∀ n, n ≤ i → foldS all x (st 0) (fun j => decide (j < i)) n = st n := by
    intro n
    induction n with
    | zero => intro _; rfl
    | succ n ih =>
      intro hn
      have hlt : n < all.length := by omega
      simp only [foldS, List.getElem?_eq_getElem hlt]
      rw [if_pos (by simp; omega), ih (by omega)]
      exact ((h.step n _ (Nat.zero_le _) (List.getElem?_eq_getElem hlt)).2.2).symm
  intro n
  induction n with
  | zero => intro hn; exact h1 0 (by omega) ▸ (by rw [show i = 0 by omega]; rfl)
  | succ n ih =>
    intro hn
    by_cases hin : i = n + 1
    · rw [h1 (n + 1) (by omega), hin]
    · simp only [foldS]
      split
      · rw [if_neg (by simp; omega)]
        exact ih (by omega)
      · exact ih (by omega)

theorem foldS_base {all : List Oper} {x : Nat → Option Dl} {σ : AS} {S : Nat → Bool} : ∀ (n : Nat), (foldS all x σ S n).off = σ.off ∧ (foldS all x σ S n).stk = σ.stk ∧ (foldS all x σ S n).dp = σ.dp
  | 0 => ⟨rfl, rfl, rfl⟩
  | n + 1 => by
    have ih := foldS_base (all := all) (x := x) (σ := σ) (S := S) n
    simp only [foldS]
    split
    · rename_i o ho
      split
      · have := out_base o (x n) (foldS all x σ S n)
        exact ⟨this.1.trans ih.1, this.2.1.trans ih.2.1, this.2.2.trans ih.2.2⟩
      · exact ih
    · exact ih

theorem foldS_agree {all : List Oper} {x : Nat → Option Dl} {σ : AS} {S1 S2 : Nat → Bool} {κ : Nat} : ∀ (n : Nat), (∀ j o, j < n → all[j]? = some o → S1 j = S2 j ∨ ¬ Writes o (x j) κ) → AgreeAt κ (foldS all x σ S1 n) (foldS all x σ S2 n)
  | 0, _ => AgreeAt.refl _ _
  | n + 1, h => by
    have ih := foldS_agree (all := all) (x := x) (σ := σ) n fun j o hj ho => h j o (by omega) ho
    simp only [foldS]
    split
    · rename_i o ho
      rcases h n o (by omega) ho with he | hw
      · rw [he]
        split
        · exact out_agree o (x n) ih
        · exact ih
      · have hn := out_not hw
        split <;> split
        · exact out_agree o (x n) ih
        · exact (hn _).trans ih
        · exact ih.trans (hn _).symm
        · exact ih
    · exact ih

/-- The last that writes. -/
theorem foldS_last {all : List Oper} {x : Nat → Option Dl} {σ : AS} {S : Nat → Bool} {κ i : Nat} {o : Oper} (ho : all[i]? = some o) (hS : S i = true) (hw : Writes o (x i) κ) (τ : AS) : ∀ (n : Nat), i < n → (∀ j o', i < j → j < n → all[j]? = some o' → S j = true → ¬ Writes o' (x j) κ) → AgreeAt κ (foldS all x σ S n) (outOf o (x i) τ)
  | 0, hi, _ => by omega
  | n + 1, hi, h => by
    by_cases hin : i = n
    · subst hin
      simp only [foldS, ho]
      rw [if_pos hS]
      exact out_write hw _ _
    · have ih := foldS_last (σ := σ) ho hS hw τ n (by omega) fun j o' h1 h2 => h j o' h1 (by omega)
      simp only [foldS]
      split
      · rename_i o' ho'
        split
        · rename_i hSn
          exact (out_not (h n o' (by omega) (by omega) ho' hSn) _).trans ih
        · exact ih
      · exact ih

/-! ### What comes before what -/
theorem maskOf_bit {acc : List Nat} {o : Oper} {k : Nat} (h : (maskOf acc o).testBit k = true) : ∃ e ∈ o.after.toList, Region.binds .any e = true ∧ (k = e.on ∨ (acc.getD e.on 0).testBit k = true) := by
  unfold maskOf at h
  have key : ∀ (l : List Edge) (s : Nat), (l.foldl (fun s e => bif Region.binds .any e then s ||| 2 ^ e.on ||| acc.getD e.on 0 else s) s).testBit k = true → s.testBit k = true ∨ ∃ e ∈ l, Region.binds .any e = true ∧ (k = e.on ∨ (acc.getD e.on 0).testBit k = true) := by
    intro l
    induction l with
    | nil => intro s h; exact .inl h
    | cons e r ih =>
      intro s h
      simp only [List.foldl_cons] at h
      rcases ih _ h with h | ⟨e', he', h'⟩
      · cases hb : Region.binds .any e with
        | false => rw [hb] at h; exact .inl h
        | true =>
          rw [hb] at h
          simp only [cond_true, Nat.testBit_or, Bool.or_eq_true, Nat.testBit_two_pow] at h
          rcases h with (h | h) | h
          · exact .inl h
          · simp only [decide_eq_true_eq] at h
            exact .inr ⟨e, by simp, hb, .inl h.symm⟩
          · exact .inr ⟨e, by simp, hb, .inr h⟩
      · exact .inr ⟨e', by simp [he'], h'⟩
  rcases key _ _ h with h | h
  · simp at h
  · exact h

theorem masks_get : ∀ (l : List Oper) (acc : List Nat) (i : Nat) (o : Oper), l[i]? = some o → (masks l acc).getD (acc.length + i) 0 = maskOf ((masks l acc).take (acc.length + i)) o ∧ (∀ j, j < acc.length → (masks l acc)[j]? = acc[j]?)
  | [], acc, i, o, h => by simp at h
  | a :: r, acc, i, o, h => by
    have pre : ∀ (l : List Oper) (acc : List Nat) (j : Nat), j < acc.length → (masks l acc)[j]? = acc[j]? := by
      intro l
      induction l with
      | nil => intro acc j _; rfl
      | cons b s ih =>
        intro acc j hj
        simp only [masks]
        rw [ih _ j (by simp; omega), List.getElem?_append_left hj]
    refine ⟨?_, fun j hj => pre (a :: r) acc j hj⟩
    cases i with
    | zero =>
      simp at h; subst h
      simp only [masks, Nat.add_zero]
      have h1 := pre r (acc ++ [maskOf acc a]) acc.length (by simp)
      rw [List.getD_eq_getElem?_getD, h1]
      simp only [List.getElem?_concat_length, Option.getD_some]
      congr 1
      apply List.ext_getElem?
      intro j
      rw [List.getElem?_take]
      split
      · rename_i hj
        rw [pre r _ j (by simp; omega), List.getElem?_append_left hj]
      · rename_i hj
        rw [List.getElem?_eq_none (by omega)]
    | succ i =>
      simp only [List.getElem?_cons_succ] at h
      simp only [masks]
      have ih := (masks_get r (acc ++ [maskOf acc a]) i o h).1
      simp only [List.length_append, List.length_singleton] at ih
      rw [show acc.length + (i + 1) = acc.length + 1 + i by omega]
      exact ih

theorem mask_at {all : List Oper} {i : Nat} {o : Oper} (ho : all[i]? = some o) {k : Nat} (h : ((masks all []).getD i 0).testBit k = true) : ∃ e ∈ o.after.toList, Region.binds .any e = true ∧ (k = e.on ∨ (e.on < i ∧ ((masks all []).getD e.on 0).testBit k = true)) := by
  have h1 := (masks_get all [] i o ho).1
  simp only [List.length_nil, Nat.zero_add] at h1
  rw [h1] at h
  obtain ⟨e, he, hb, hk⟩ := maskOf_bit h
  refine ⟨e, he, hb, ?_⟩
  rcases hk with hk | hk
  · exact .inl hk
  · right
    rw [List.getD_eq_getElem?_getD, List.getElem?_take] at hk
    split at hk
    · rename_i hlt
      exact ⟨hlt, by rw [List.getD_eq_getElem?_getD]; exact hk⟩
    · simp at hk

theorem edges_lt : ∀ (l : List Oper) (k : Nat), edgesB l k = true → ∀ (i : Nat) (o : Oper), l[i]? = some o → ∀ e ∈ o.after.toList, Region.binds .any e = true → e.on < k + i
  | [], k, _, i, o, h => by simp at h
  | a :: r, k, hb, i, o, h => by
    simp only [edgesB, Bool.and_eq_true, List.all_eq_true, Bool.or_eq_true, Bool.not_eq_true'] at hb
    cases i with
    | zero =>
      simp at h; subst h
      intro e he hbi
      rcases hb.1 e he with h' | h'
      · rw [hbi] at h'; cases h'
      · rw [Nat.blt_eq] at h'; omega
    | succ i =>
      simp only [List.getElem?_cons_succ] at h
      intro e he hbi
      have := edges_lt r (k + 1) hb.2 i o h e he hbi
      omega

/-- Two that clash are ordered. -/
theorem ordered_of {all : List Oper} {es : List (Nat × Nat × Bool)} (h : okDraw all es = true) {κ i j : Nat} {b : Bool} (h1 : (κ, i, true) ∈ es) (h2 : (κ, j, b) ∈ es) (hij : i ≠ j) : ((masks all []).getD (max i j) 0).testBit (min i j) = true := by
  unfold okDraw at h
  simp only [Bool.and_eq_true, List.all_eq_true, Bool.or_eq_true, Bool.not_eq_true'] at h
  have := h.2 _ h1
  simp only [Bool.true_eq_false, false_or] at this
  have := this _ h2
  unfold clash at this
  simp only [Bool.true_and, Nat.beq_refl] at this
  cases hq : ((masks all []).getD (max i j) 0).testBit (min i j) with
  | true => rfl
  | false =>
    rw [hq] at this
    have hne : Nat.beq i j = false := by
      cases hb : Nat.beq i j with
      | true => exact absurd (Nat.eq_of_beq_eq_true hb) hij
      | false => rfl
    rw [hne] at this
    simp at this

/-- What is written stands among the entries. -/
theorem writes_ent {all : List Oper} {x : Nat → Option Dl} {st : Nat → AS} {es : List (Nat × Nat × Bool)} (h : Told P Γ T all x st es 0) {j : Nat} {o : Oper} (ho : all[j]? = some o) {κ : Nat} (hw : Writes o (x j) κ) : (κ, j, true) ∈ es := by
  have he := h.ent j o (Nat.zero_le _) ho
  have hstep := h.step j o (Nat.zero_le _) ho
  rcases hw with ⟨t, hd, rfl⟩ | ⟨d, hx, hw⟩
  · have hm : (3 * t, true) ∈ footT all o := by
      unfold footT
      exact List.mem_append_right _ (by rw [hd]; simp)
    apply he
    cases hx : x j with
    | none => exact List.mem_map.mpr ⟨_, hm, rfl⟩
    | some d => exact List.mem_map.mpr ⟨(3 * t, true), List.mem_append_left _ hm, rfl⟩
  · apply he
    rw [hx]
    obtain ⟨h1, h2⟩ := step_writes (hstep.2.1 d hx)
    rcases hw with ⟨p, hp, rfl⟩ | ⟨p, hp, rfl⟩
    · exact List.mem_map.mpr ⟨(3 * p.1 + 1, true), List.mem_append_right _ (h1 p hp), rfl⟩
    · exact List.mem_map.mpr ⟨(3 * p.1 + 2, true), List.mem_append_right _ (h2 p hp), rfl⟩

theorem getD_false {listed : Array Bool} {i : Nat} (h : listed.getD i true = false) : listed.getD i false = false := by
  simp only [Array.getD_eq_getD_getElem?] at h ⊢
  cases hq : listed[i]? with
  | none => rfl
  | some b => rw [hq] at h; simpa using h

theorem getD_true {listed : Array Bool} {i : Nat} (hi : i < listed.size) (h : listed.getD i false = false) : listed.getD i true = false := by
  simp only [Array.getD_eq_getD_getElem?] at h ⊢
  rw [Array.getElem?_eq_getElem hi] at h ⊢
  simpa using h

/-- A state behind a set of operations that is closed under what comes before. -/
structure Closed (all : List Oper) (S : Nat → Bool) : Prop where
  cl : ∀ j k, S j = true → ((masks all []).getD j 0).testBit k = true → S k = true

section one
variable {all : List Oper} {x : Nat → Option Dl} {st : Nat → AS} {es : List (Nat × Nat × Bool)} {S : Nat → Bool} {i : Nat} {o : Oper}

theorem ready_agree (q2 : Told P Γ T all x st es 0) (hd : okDraw all es = true) (hcl : Closed all S) (ho : all[i]? = some o) (hi : S i = false) (hm : ∀ k, ((masks all []).getD i 0).testBit k = true → S k = true) {κ : Nat} {b : Bool} (hk : (κ, i, b) ∈ es) :
    AgreeAt κ (st i) (foldS all x (st 0) S all.length) := by
  have hil : i < all.length := (List.getElem?_eq_some_iff.mp ho).1
  rw [← foldS_prefix q2 i (by omega) all.length (by omega)]
  refine foldS_agree _ fun j o' hj ho' => ?_
  by_cases hw : Writes o' (x j) κ
  · left
    by_cases hij : j = i
    · subst hij; simp [hi]
    · have h1 := ordered_of hd (writes_ent q2 ho' hw) hk hij
      by_cases hlt : j < i
      · rw [Nat.max_eq_right (by omega), Nat.min_eq_left (by omega)] at h1
        simp [hlt, hm _ h1]
      · rw [Nat.max_eq_left (by omega), Nat.min_eq_right (by omega)] at h1
        cases hs : S j with
        | false => simp [hlt]
        | true => rw [hcl.cl j i hs h1] at hi; cases hi
  · exact .inr hw

theorem ready_out (q2 : Told P Γ T all x st es 0) (hd : okDraw all es = true) (hcl : Closed all S) (ho : all[i]? = some o) (hi : S i = false) {S' : Nat → Bool} (hS' : ∀ j, S' j = if j = i then true else S j) :
    outOf o (x i) (foldS all x (st 0) S all.length) = foldS all x (st 0) S' all.length := by
  have hil : i < all.length := (List.getElem?_eq_some_iff.mp ho).1
  have hz := out_base o (x i) (foldS all x (st 0) S all.length)
  have hz1 := foldS_base (all := all) (x := x) (σ := st 0) (S := S) all.length
  have hz2 := foldS_base (all := all) (x := x) (σ := st 0) (S := S') all.length
  refine AS.ext_keys ⟨hz.1.trans (hz1.1.trans hz2.1.symm), hz.2.1.trans (hz1.2.1.trans hz2.2.1.symm), hz.2.2.trans (hz1.2.2.trans hz2.2.2.symm)⟩ ?_
  intro κ
  by_cases hw : Writes o (x i) κ
  · refine (foldS_last (σ := st 0) (S := S') ho (by rw [hS', if_pos rfl]) hw _ _ hil fun j o' hij hj ho' hs hw' => ?_).symm
    rw [hS', if_neg (by omega)] at hs
    have h1 := ordered_of hd (writes_ent q2 ho' hw') (writes_ent q2 ho hw) (by omega)
    rw [Nat.max_eq_left (by omega), Nat.min_eq_right (by omega)] at h1
    rw [hcl.cl j i hs h1] at hi; cases hi
  · refine (out_not hw _).trans (foldS_agree _ fun j o' hj ho' => ?_)
    by_cases hij : j = i
    · subst hij; rw [ho] at ho'; cases ho'; exact .inr hw
    · left; rw [hS', if_neg hij]

theorem Closed.add (hcl : Closed all S) (hm : ∀ k, ((masks all []).getD i 0).testBit k = true → S k = true) {S' : Nat → Bool} (hS' : ∀ j, S' j = if j = i then true else S j) : Closed all S' := by
  refine ⟨fun j k hj hk => ?_⟩
  rw [hS']
  split
  · rfl
  · rw [hS'] at hj
    split at hj
    · rename_i e; subst e; exact hm k hk
    · exact hcl.cl j k hj hk
end one

theorem reg_draw (hΓ : GamOk P Γ) (hT : TblOk P T) {R : Type} {ops : Array Oper} {Q : Exit → Act → World → Prop} (hdst : ∀ o ∈ ops.toList, dstOk N o.dst = true) {σ : AS} {g : Gh} {a : Act} {w : World} {K : AS → List (Nat × Nat × Bool) → Option R} {r : R}
    (h : regK P Γ T ops.toList ops.toList 0 [] σ K = some r) (hok : ∀ σ' es', K σ' es' = some r → okDraw ops.toList es' = true) (hs : Sim N c0 w0 σ g a w) (hK : ∀ σ' es' g' a' w', K σ' es' = some r → Sim N c0 w0 σ' g' a' w' → Q .normal a' w') :
    wpAny P .any ops Q ops.size (Array.replicate ops.size false) a w := by
  obtain ⟨x, st, es, q1, q2, _, q4⟩ := told_of (P := P) (Γ := Γ) (T := T) ops.toList 0 [] σ K r (by simp) (Nat.zero_le _) h
  have hdraw := hok _ _ q4
  have hedge : ∀ (i : Nat) (o : Oper), ops.toList[i]? = some o → ∀ e ∈ o.after.toList, Region.binds .any e = true → e.on < i := by
    intro i o ho e he hb
    have hd := hdraw
    unfold okDraw at hd
    simp only [Bool.and_eq_true] at hd
    have := edges_lt _ 0 hd.1 i o ho e he hb
    omega
  have hlen : ops.toList.length = ops.size := by simp
  have fin : ∀ (listed : Array Bool) (g : Gh) (a : Act) (w : World), listed.size = ops.size → Region.ready .any ops listed = [] → Sim N c0 w0 (foldS ops.toList x (st 0) (fun j => listed.getD j false) ops.toList.length) g a w → Q .normal a w := by
    intro listed g a w hsz hr hs
    have hall : ∀ i, i < ops.size → listed.getD i false = true := by
      intro i
      induction i using Nat.strongRecOn with
      | _ i ih =>
        intro hi
        cases hl : listed.getD i false with
        | true => rfl
        | false =>
          exfalso
          have hm : i ∈ Region.ready .any ops listed := by
            rw [mem_ready]
            refine ⟨getD_true (by omega) hl, ops[i], Array.getElem?_eq_getElem hi, fun e he hb => ?_⟩
            have hlt := hedge i ops[i] (by rw [List.getElem?_eq_getElem (by simpa using hi)]; simp) e (by simpa using he) hb
            exact ih e.on hlt (by omega)
          rw [hr] at hm
          simp at hm
    have he : foldS ops.toList x (st 0) (fun j => listed.getD j false) ops.toList.length = st ops.toList.length := by
      rw [← foldS_prefix q2 ops.toList.length (Nat.le_refl _) ops.toList.length (Nat.le_refl _)]
      refine AS.ext_keys ⟨(foldS_base _).1.trans (foldS_base _).1.symm, (foldS_base _).2.1.trans (foldS_base _).2.1.symm, (foldS_base _).2.2.trans (foldS_base _).2.2.symm⟩ ?_
      intro κ
      refine foldS_agree _ fun j o hj ho => .inl ?_
      rw [hall j (by omega)]
      simp only [hj, decide_true]
    rw [he] at hs
    exact hK _ _ _ _ _ q4 hs
  have main : ∀ (fuel : Nat) (l : List Nat) (listed : Array Bool) (g : Gh) (a : Act) (w : World), listed.size = ops.size → l.length = fuel → (∀ i, i < ops.size → listed.getD i true = false → i ∈ l) →
      Closed ops.toList (fun j => listed.getD j false) →
      Sim N c0 w0 (foldS ops.toList x (st 0) (fun j => listed.getD j false) ops.toList.length) g a w → wpAny P .any ops Q fuel listed a w := by
    intro fuel
    induction fuel with
    | zero =>
      intro l listed g a w hsz hl hin hcl hs
      have hr : Region.ready .any ops listed = [] := by
        rw [List.eq_nil_iff_forall_not_mem]
        intro i hi
        have hm := mem_ready.mp hi
        obtain ⟨o, ho, _⟩ := hm.2
        have := hin i (Array.getElem?_eq_some_iff.mp ho).1 hm.1
        rw [List.length_eq_zero_iff.mp hl] at this
        simp at this
      exact ⟨hr, fin listed g a w hsz hr hs⟩
    | succ fuel ih =>
      intro l listed g a w hsz hl hin hcl hs
      refine ⟨fun hr => fin listed g a w hsz hr hs, fun i hi => ?_⟩
      obtain ⟨hi0, o, ho, hedges⟩ := mem_ready.mp hi
      have hisz : i < ops.size := (Array.getElem?_eq_some_iff.mp ho).1
      have hol : ops.toList[i]? = some o := by simpa using ho
      have hmem : o ∈ ops.toList := List.mem_of_getElem? hol
      have hiS : (fun j => listed.getD j false) i = false := getD_false hi0
      have hm : ∀ k, ((masks ops.toList []).getD i 0).testBit k = true → (fun j => listed.getD j false) k = true := by
        intro k hk
        obtain ⟨e, he, hb, h'⟩ := mask_at hol hk
        have hon := hedges e (by simpa using he) hb
        rcases h' with rfl | ⟨_, h'⟩
        · exact hon
        · exact hcl.cl e.on k hon h'
      have hS' : ∀ j, (fun j => (listed.setIfInBounds i true).getD j false) j = if j = i then true else (fun j => listed.getD j false) j := by
        intro j
        simp only
        split
        · rename_i e; subst e
          simp only [Array.getD_eq_getD_getElem?]
          rw [Array.getElem?_setIfInBounds_self_of_lt (by omega)]
          rfl
        · exact getD_set_ne false (by omega)
      have hag : ∀ {κ : Nat} {b : Bool}, (κ, i, b) ∈ es → AgreeAt κ (st i) (foldS ops.toList x (st 0) (fun j => listed.getD j false) ops.toList.length) := fun hk => ready_agree q2 hdraw hcl hol hiS hm hk
      have hout := ready_out (i := i) q2 hdraw hcl hol hiS hS'
      have hcl' := hcl.add hm hS'
      obtain ⟨h1, h2, _⟩ := q2.step i o (Nat.zero_le _) hol
      have hent := q2.ent i o (Nat.zero_le _) hol
      have hfT : ∀ p ∈ footT ops.toList o, AgreeAt p.1 (st i) (foldS ops.toList x (st 0) (fun j => listed.getD j false) ops.toList.length) := by
        intro p hp
        refine hag (b := p.2) (hent _ ?_)
        cases hx : x i with
        | none => exact List.mem_map.mpr ⟨p, hp, rfl⟩
        | some d => exact List.mem_map.mpr ⟨p, List.mem_append_left _ hp, rfl⟩
      have hg := guard_agree hfT h1
      have hw := guard_sound hs hg
      have next : ∀ (g' : Gh) (a' : Act) (w' : World), Sim N c0 w0 (outOf o (x i) (foldS ops.toList x (st 0) (fun j => listed.getD j false) ops.toList.length)) g' a' w' → wpAny P .any ops Q fuel (listed.setIfInBounds i true) a' w' := by
        intro g' a' w' hs'
        rw [hout] at hs'
        refine ih (l.erase i) _ g' a' w' (by simp [hsz]) ?_ (fun j hj hj0 => ?_) hcl' hs'
        · rw [List.length_erase_of_mem (hin i hisz hi0), hl]; rfl
        · have hji : j ≠ i := by
            rintro rfl
            rw [Array.getD_eq_getD_getElem?, Array.getElem?_setIfInBounds_self_of_lt (by omega)] at hj0
            cases hj0
          rw [getD_set_ne true (by omega)] at hj0
          exact (List.mem_erase_of_ne hji).mpr (hin j hj hj0)
      unfold wpOp
      rw [ho]
      simp only
      cases hx : x i with
      | none =>
        rw [hx] at hw next
        rw [if_neg (by rw [hw]; simp)]
        exact next g _ _ (hs.put (hdst o hmem) (by simp only [Rep]; exact ⟨[], rfl, by simp only [Reps]⟩))
      | some d =>
        rw [hx] at hw next
        rw [if_pos (by rw [hw]; rfl)]
        have hfB : ∀ p ∈ footB T o (st i).off (st i).env, AgreeAt p.1 (st i) (foldS ops.toList x (st 0) (fun j => listed.getD j false) ops.toList.length) := by
          intro p hp
          refine hag (b := p.2) (hent _ ?_)
          rw [hx]
          exact List.mem_map.mpr ⟨p, List.mem_append_right _ hp, rfl⟩
        exact .inl (step_sound hΓ hT hs (step_agree (by rw [(foldS_base _).1, ← foldS_prefix q2 i (by omega) ops.toList.length (by omega), (foldS_base _).1]) (by rw [(foldS_base _).2.2, ← foldS_prefix q2 i (by omega) ops.toList.length (by omega), (foldS_base _).2.2]) (h2 d hx) hfT hfB) (hdst o hmem) fun v w' g' hs' => next g' _ _ hs')
  refine main ops.size (List.range ops.size) _ g a w (by simp) (by simp) (fun i hi _ => List.mem_range.mpr hi) ⟨fun j k hj _ => ?_⟩ ?_
  · simp only [Array.getD_eq_getD_getElem?, Array.getElem?_replicate] at hj
    split at hj <;> cases hj
  · have he : foldS ops.toList x (st 0) (fun j => (Array.replicate ops.size false).getD j false) ops.toList.length = st 0 := by
      refine Eq.trans ?_ (foldS_prefix q2 0 (Nat.zero_le _) ops.toList.length (Nat.zero_le _))
      refine AS.ext_keys ⟨(foldS_base _).1.trans (foldS_base _).1.symm, (foldS_base _).2.1.trans (foldS_base _).2.1.symm, (foldS_base _).2.2.trans (foldS_base _).2.2.symm⟩ ?_
      intro κ
      refine foldS_agree _ fun j o hj ho => .inl ?_
      simp only [Array.getD_eq_getD_getElem?, Array.getElem?_replicate]
      split <;> simp
    rw [he, q1]
    exact hs
end

end Go.VE
