import Derived.Test.YtnjlpdagdedbaaaGreatViM
/- Behind a call whose results lie in memory of their own. -/
namespace Go.VE

def colNoSt (col : Nat → Nat → Col) : Nat → Nat → Col := fun b o => match col b o with
  | .st => .free
  | c => c
theorem colNoSt_st {col : Nat → Nat → Col} {b o : Nat} : colNoSt col b o ≠ .st := by
  unfold colNoSt
  split
  · simp
  · rename_i h; exact h
theorem colNoSt_bx {col : Nat → Nat → Col} {b o id : Nat} : colNoSt col b o = .bx id ↔ col b o = .bx id := by
  unfold colNoSt
  split
  · rename_i h; rw [h]; simp
  · exact Iff.rfl

theorem RepE.flatSt {col : Nat → Nat → Col} {w : World} {id i : Nat} {nh : Nat → Nat → Option Addr × Nat × Nat} {pa : Nat → Nat → Option (Nat × Nat)} : ∀ {t : Ty} {x : t.T} {vs : List Value} {j : Nat}, t.fl1 = true → RepE col w id nh pa i t x vs j → RepE (colNoSt col) w id nh pa i t x vs j := by
  intro t
  induction t with
  | int k => exact fun _ h => h
  | bool => exact fun _ h => h
  | str => exact fun _ h => h
  | unit => exact fun _ h => h
  | pair a b iha ihb =>
    rintro x vs j hf ⟨v1, v2, e, h1, h2⟩
    simp only [Ty.fl1, Bool.and_eq_true] at hf
    exact ⟨v1, v2, e, iha hf.1 h1, ihb hf.2 h2⟩
  | sl t ih =>
    rintro x vs j hf ⟨a, cap, e, e2, hl, hn, hs⟩
    refine ⟨a, cap, e, e2, hl, hn, fun ad had => ⟨(hs ad had).1, fun k hk => ?_⟩⟩
    obtain ⟨us, hr, hc⟩ := (hs ad had).2 k hk
    refine ⟨us, RepT.flat hf hr, fun q u hq => ?_⟩
    obtain ⟨a1, a2, a3, a4⟩ := hc q u hq
    exact ⟨colNoSt_bx.mpr a1, a2, a3, a4⟩
theorem TreeAt.flatSt {col : Nat → Nat → Col} {w : World} {id : Nat} {nh : Nat → Nat → Option Addr × Nat × Nat} {pa : Nat → Nat → Option (Nat × Nat)} {t : Ty} {x : L t.T} {b o : Nat} (hf : t.fl1 = true) (h : TreeAt col w id nh pa (fun _ => true) t x b o) : TreeAt (colNoSt col) w id nh pa (fun _ => true) t x b o := by
  intro i hi
  obtain ⟨us, h1, h2⟩ := h i hi
  rw [if_pos rfl] at h1
  refine ⟨us, by rw [if_pos rfl]; exact RepE.flatSt hf h1, fun q u hq => ?_⟩
  obtain ⟨a1, a2, a3, a4⟩ := h2 q u hq
  exact ⟨colNoSt_bx.mpr a1, a2, a3, a4⟩
/-- Data without slices in a row that is its own. -/
theorem TreeAt.flat {col : Nat → Nat → Col} {w : World} {id : Nat} {nh : Nat → Nat → Option Addr × Nat × Nat} {pa : Nat → Nat → Option (Nat × Nat)} {own : Nat → Bool} {t : Ty} {x : L t.T} {b o : Nat} (c' : Nat → Nat → Col) (w' : World) (hf : t.flat = true) (h : TreeAt col w id nh pa own t x b o) :
    ∀ i, i < x.len → ∃ us, RepT c' w' t (x.get i) us ∧ ∀ (q : Nat) (u : Value), us[q]? = some u → col b (o + i * t.size + q) = .bx id ∧ w.cell? ⟨b, o + i * t.size + q, none⟩ = some u ∧ w.frozen? ⟨b, o + i * t.size + q, none⟩ = false := by
  intro i hi
  obtain ⟨us, h1, h2⟩ := h i hi
  refine ⟨us, ?_, fun q u hq => ?_⟩
  · split at h1
    · exact RepE.flat hf h1
    · exact RepT.flat hf h1
  · obtain ⟨a1, _, a3, a4⟩ := h2 q u hq
    exact ⟨a1, a3, a4⟩

theorem fl1_of_flat : ∀ {t : Ty}, t.flat = true → t.fl1 = true := by
  intro t
  induction t with
  | pair a b iha ihb =>
    intro h
    simp only [Ty.flat, Bool.and_eq_true] at h
    simp only [Ty.fl1, Bool.and_eq_true]
    exact ⟨iha h.1, ihb h.2⟩
  | sl t ih => intro h; simp [Ty.flat] at h
  | _ => intro _; rfl

section
variable {P : Program} {N : Fr} {c0 : Nat → Nat → Col} {w0 : World} {σ : AS} {g : Gh} {a : Act} {w : World}

def adB : Option Addr → Nat × Nat
  | some ad => (ad.block, ad.off)
  | none => (0, 0)

/-- The ghost with a row more, in memory that was nobody's. -/
def ghArr (g : Gh) (d : Nat) (ad : Option Addr) (len cap sz : Nat) : Gh :=
  { g with col := fun b' o => if b' = (adB ad).1 ∧ (adB ad).2 ≤ o ∧ o < (adB ad).2 + len * sz then .bx d else g.col b' o, bx := upd g.bx d (adB ad), ln := upd g.ln d len, es := upd g.es d sz, hd := upd g.hd d (ad, cap), dom := fun i => i = d ∨ g.dom i }

theorem Sim.addArr (h : Sim N c0 w0 σ g a w) {d : Nat} {t : Ty} {x : L t.T} {ad : Option Addr} {cap : Nat} (hd : d < pBase) (hn : σ.box d = none) (hl : x.len ≤ cap) (hnn : ad = none → cap = 0) (hnil : x.nil = true ↔ ad = none)
    (hsp : ∀ ad1, ad = some ad1 → 0 < x.len → ad1.spot = none) (hfree : ∀ ad1, ad = some ad1 → ∀ k, k < x.len * t.size → w0.heap.size ≤ ad1.block ∧ g.col ad1.block (ad1.off + k) = .free ∧ w.frozen? ⟨ad1.block, ad1.off + k, none⟩ = false)
    (hel : ∀ ad1, ad = some ad1 → ∀ i, i < x.len → ∃ us, RepT g.col w t (x.get i) us ∧ ∀ (k : Nat) (u : Value), us[k]? = some u → w.cell? ⟨ad1.block, ad1.off + i * t.size + k, none⟩ = some u) :
    Sim N c0 w0 (σ.app none { v := .any, bx := [(d, .arr t x)] }) (ghArr g d ad x.len cap t.size) a w ∧ GStays g w (ghArr g d ad x.len cap t.size) w ∧ Rep (ghArr g d ad x.len cap t.size) w (.ms d) (.slice ad x.len cap) := by
  generalize hg' : ghArr g d ad x.len cap t.size = g'
  have hsome : ∀ b o, b = (adB ad).1 ∧ (adB ad).2 ≤ o ∧ o < (adB ad).2 + x.len * t.size → ∃ ad1, ad = some ad1 ∧ b = ad1.block ∧ ∃ k, k < x.len * t.size ∧ o = ad1.off + k := by
    rintro b o ⟨h1, h2, h3⟩
    cases ad with
    | none =>
      have := hnn rfl
      have h0 : x.len = 0 := by omega
      rw [h0] at h3; simp at h3; omega
    | some ad1 => exact ⟨ad1, rfl, h1, o - ad1.off, by have h2 : ad1.off ≤ o := h2; have h3 : o < ad1.off + x.len * t.size := h3; omega, by have h2 : ad1.off ≤ o := h2; omega⟩
  have hcol : ∀ b o, g.col b o ≠ .free → g'.col b o = g.col b o := fun b o hne => by
    subst hg'
    show (if _ then _ else _) = _
    rw [if_neg]
    intro q
    obtain ⟨ad1, e1, rfl, k, k1, rfl⟩ := hsome b o q
    exact hne (hfree ad1 e1 k k1).2.1
  have hin : ∀ ad1, ad = some ad1 → ∀ k, k < x.len * t.size → g'.col ad1.block (ad1.off + k) = .bx d := fun ad1 e k hk => by
    subst hg'
    show (if _ then _ else _) = _
    rw [if_pos]
    rw [e]
    exact ⟨rfl, Nat.le_add_right _ _, by show ad1.off + k < ad1.off + _; omega⟩
  have hnd : ∀ id, g.dom id → id ≠ d := by
    rintro id hid rfl
    obtain ⟨c, hc⟩ := h.dom _ hid
    rw [hn] at hc; cases hc
  have hs : GStays g w g' w :=
    { st := fun b o v h1 h2 => ⟨by rw [hcol _ _ (by rw [h1]; simp)]; exact h1, h2⟩
      dom := fun id hid => by
        subst hg'
        exact ⟨.inr hid, by show upd _ _ _ _ = _; rw [upd_eq, if_neg (hnd id hid)], by show upd _ _ _ _ = _; rw [upd_eq, if_neg (hnd id hid)], by show upd _ _ _ _ = _; rw [upd_eq, if_neg (hnd id hid)], by show upd _ _ _ _ = _; rw [upd_eq, if_neg (hnd id hid)], rfl⟩
      us := fun k hk => by subst hg'; exact ⟨hk, fun l => ⟨l, rfl, fun _ e => e⟩⟩ }
  have ebx : g'.bx d = adB ad := by subst hg'; show upd _ _ _ _ = _; rw [upd_eq, if_pos rfl]
  have eln : g'.ln d = x.len := by subst hg'; show upd _ _ _ _ = _; rw [upd_eq, if_pos rfl]
  have ees : g'.es d = t.size := by subst hg'; show upd _ _ _ _ = _; rw [upd_eq, if_pos rfl]
  have ehd : g'.hd d = (ad, cap) := by subst hg'; show upd _ _ _ _ = _; rw [upd_eq, if_pos rfl]
  have edom : ∀ id, g'.dom id ↔ id = d ∨ g.dom id := fun id => by subst hg'; exact Iff.rfl
  have eob : g'.ob = g.ob := by subst hg'; rfl
  have etk : g'.tk = g.tk := by subst hg'; rfl
  have eus : g'.us = g.us := by subst hg'; rfl
  have elv : g'.lv = g.lv := by subst hg'; rfl
  refine ⟨{ off := h.off, stk := h.stk.mono hs, pts := ?_, size := h.size, env := fun i => Rep.mono hs _ _ (h.env i), defers := h.defers, box := fun id c hc => ?_, dom := fun id hid => ?_, tok := fun k hk => ?_, us := by rw [eus]; exact h.us, lv := by rw [elv, eus]; exact h.lv, ob := by rw [eob]; exact h.ob, keep := h.keep, old := fun b' hb' o' => ?_, cok := h.cok }, hs, ?_⟩
  · intro id hid hdom
    have hne : id ≠ d := by omega
    obtain ⟨_, e1, e2, _, e4, e5⟩ := hs.dom id (((edom id).mp hdom).resolve_left hne)
    rw [e1, e2, e4, e5]
    exact h.pts id hid (((edom id).mp hdom).resolve_left hne)
  · change upd σ.box d (some (.arr t x)) id = some c at hc
    rw [upd_eq] at hc
    split at hc
    · rename_i e; subst e
      cases hc
      refine ⟨(edom _).mpr (.inl rfl), eln, ⟨ees, fun hp => ?_, fun e => ?_, ?_, ?_⟩, fun i hi => ?_⟩
      · rw [ehd, ebx]
        cases ad with
        | none => have := hnn rfl; omega
        | some ad1 =>
          have := hsp ad1 rfl hp
          show some ad1 = some ⟨ad1.block, ad1.off, none⟩
          cases ad1; simp_all
      · rw [ehd] at e ⊢; exact hnn e
      · rw [ehd]; exact hl
      · rw [ehd]; exact hnil
      · cases ad with
        | none => have := hnn rfl; omega
        | some ad1 =>
          obtain ⟨us, k1, k2⟩ := hel ad1 rfl i hi
          refine ⟨us, RepT.mono hs.toStays _ _ _ k1, fun j u hj => ?_⟩
          rw [ebx]
          have hjl : j < t.size := by rw [← k1.length]; exact (List.getElem?_eq_some_iff.mp hj).1
          have hlt : i * t.size + j < x.len * t.size := by
            have : (i + 1) * t.size ≤ x.len * t.size := Nat.mul_le_mul_right _ hi
            rw [Nat.add_mul, Nat.one_mul] at this; omega
          show g'.col ad1.block (ad1.off + i * t.size + j) = _ ∧ _ ∧ _
          have e3 : ad1.off + i * t.size + j = ad1.off + (i * t.size + j) := by omega
          refine ⟨by rw [e3]; exact hin ad1 rfl _ hlt, k2 j u hj, ?_⟩
          show w.frozen? ⟨ad1.block, ad1.off + i * t.size + j, none⟩ = false
          rw [e3]
          exact (hfree ad1 rfl _ hlt).2.2
    · obtain ⟨h1, h2⟩ := h.box id c hc
      exact ⟨(edom _).mpr (.inr h1), BoxRep.stay h1 hs (fun bb o' u a1 a2 a3 => ⟨(hcol _ _ (by rw [a1]; simp)).trans a1, a2, a3⟩) (fun ob c1 c2 c3 => ⟨c2, fun o' => (hcol _ _ (by rw [c1]; simp)).trans (c1 o')⟩) h2⟩
  · show ∃ c, upd σ.box d (some (.arr t x)) id = some c
    rw [upd_eq]
    split
    · exact ⟨_, rfl⟩
    · rename_i hne
      exact h.dom id (((edom id).mp hid).resolve_left hne)
  · obtain ⟨h1, h2⟩ := h.tok k hk
    rw [elv, etk]
    refine ⟨h1, fun o' o1 o2 => ?_⟩
    obtain ⟨a1, a2, a3⟩ := h2 o' o1 o2
    exact ⟨(hcol (g.tk k).1 o' (by rw [a1]; simp)).trans a1, a2, a3⟩
  · have : g'.col b' o' = g.col b' o' := by
      subst hg'
      show (if _ then _ else _) = _
      rw [if_neg]
      intro q
      obtain ⟨ad1, e1, rfl, k, k1, rfl⟩ := hsome b' o' q
      have := (hfree ad1 e1 k k1).1
      omega
    rw [this]
    exact h.old b' hb' o'
  · simp only [Rep]
    exact ⟨(edom _).mpr (.inl rfl), by rw [ehd, eln]⟩

open Classical in
/-- The ghost with a row more that owns its elements' slices, in memory that was nobody's. -/
noncomputable def ghTree (g : Gh) (d : Nat) (ad : Option Addr) (len cap sz : Nat) (S : Nat → Nat → Prop) (nh : Nat → Nat → Option Addr × Nat × Nat) : Gh :=
  { g with col := fun b' o => if S b' o then .bx d else g.col b' o, bx := upd g.bx d (adB ad), ln := upd g.ln d len, es := upd g.es d sz, hd := upd g.hd d (ad, cap), nh := upd g.nh d nh, dom := fun i => i = d ∨ g.dom i }

theorem ghTree_in {d : Nat} {ad : Option Addr} {len cap sz : Nat} {S : Nat → Nat → Prop} {nh : Nat → Nat → Option Addr × Nat × Nat} {b o : Nat} (h : S b o) : (ghTree g d ad len cap sz S nh).col b o = .bx d := by simp [ghTree, h]
theorem ghTree_out {d : Nat} {ad : Option Addr} {len cap sz : Nat} {S : Nat → Nat → Prop} {nh : Nat → Nat → Option Addr × Nat × Nat} {b o : Nat} (h : ¬ S b o) : (ghTree g d ad len cap sz S nh).col b o = g.col b o := by simp [ghTree, h]

theorem Sim.addTree (h : Sim N c0 w0 σ g a w) {d : Nat} {t : Ty} {x : L t.T} {ad : Option Addr} {cap : Nat} {S : Nat → Nat → Prop} {nh : Nat → Nat → Option Addr × Nat × Nat} {pa : Nat → Nat → Option (Nat × Nat)} {col2 : Nat → Nat → Col} {id2 : Nat} (hd : d < pBase) (hn : σ.box d = none) (hl : x.len ≤ cap) (hnn : ad = none → cap = 0) (hnil : x.nil = true ↔ ad = none) (hf : t.fl1 = true)
    (hsp : ∀ ad1, ad = some ad1 → 0 < x.len → ad1.spot = none) (hfree : ∀ b o, S b o → w0.heap.size ≤ b ∧ g.col b o = .free)
    (hel : ∀ ad1, ad = some ad1 → TreeAt col2 w id2 nh pa (fun _ => true) t x ad1.block ad1.off) (hS : ∀ ad1, ad = some ad1 → ∀ b o, (∃ q, pa b o = some q) ∨ (∃ n, n < x.len * t.size ∧ b = ad1.block ∧ o = ad1.off + n) → col2 b o = .bx id2 → S b o) :
    Sim N c0 w0 (σ.app none { v := .any, bx := [(d, .mix t x none)] }) (ghTree g d ad x.len cap t.size S nh) a w ∧ GStays g w (ghTree g d ad x.len cap t.size S nh) w ∧ Rep (ghTree g d ad x.len cap t.size S nh) w (.ms d) (.slice ad x.len cap) := by
  generalize hg' : ghTree g d ad x.len cap t.size S nh = g'
  have hcol : ∀ b o, g.col b o ≠ .free → g'.col b o = g.col b o := fun b o hne => by
    subst hg'
    exact ghTree_out fun q => hne (hfree b o q).2
  have hin : ∀ b o, S b o → g'.col b o = .bx d := fun b o q => by
    subst hg'
    exact ghTree_in q
  have hnd : ∀ id, g.dom id → id ≠ d := by
    rintro id hid rfl
    obtain ⟨c, hc⟩ := h.dom _ hid
    rw [hn] at hc; cases hc
  have hs : GStays g w g' w :=
    { st := fun b o v h1 h2 => ⟨by rw [hcol _ _ (by rw [h1]; simp)]; exact h1, h2⟩
      dom := fun id hid => by
        subst hg'
        exact ⟨.inr hid, by show upd _ _ _ _ = _; rw [upd_eq, if_neg (hnd id hid)], by show upd _ _ _ _ = _; rw [upd_eq, if_neg (hnd id hid)], by show upd _ _ _ _ = _; rw [upd_eq, if_neg (hnd id hid)], by show upd _ _ _ _ = _; rw [upd_eq, if_neg (hnd id hid)], by show upd _ _ _ _ = _; rw [upd_eq, if_neg (hnd id hid)]⟩
      us := fun k hk => by subst hg'; exact ⟨hk, fun l => ⟨l, rfl, fun _ e => e⟩⟩ }
  have ebx : g'.bx d = adB ad := by subst hg'; show upd _ _ _ _ = _; rw [upd_eq, if_pos rfl]
  have eln : g'.ln d = x.len := by subst hg'; show upd _ _ _ _ = _; rw [upd_eq, if_pos rfl]
  have ees : g'.es d = t.size := by subst hg'; show upd _ _ _ _ = _; rw [upd_eq, if_pos rfl]
  have ehd : g'.hd d = (ad, cap) := by subst hg'; show upd _ _ _ _ = _; rw [upd_eq, if_pos rfl]
  have enh : g'.nh d = nh := by subst hg'; show upd _ _ _ _ = _; rw [upd_eq, if_pos rfl]
  have edom : ∀ id, g'.dom id ↔ id = d ∨ g.dom id := fun id => by subst hg'; exact Iff.rfl
  have eob : g'.ob = g.ob := by subst hg'; rfl
  have etk : g'.tk = g.tk := by subst hg'; rfl
  have eus : g'.us = g.us := by subst hg'; rfl
  have elv : g'.lv = g.lv := by subst hg'; rfl
  refine ⟨{ off := h.off, stk := h.stk.mono hs, pts := ?_, size := h.size, env := fun i => Rep.mono hs _ _ (h.env i), defers := h.defers, box := fun id c hc => ?_, dom := fun id hid => ?_, tok := fun k hk => ?_, us := by rw [eus]; exact h.us, lv := by rw [elv, eus]; exact h.lv, ob := by rw [eob]; exact h.ob, keep := h.keep, old := fun b' hb' o' => ?_, cok := h.cok }, hs, ?_⟩
  · intro id hid hdom
    have hne : id ≠ d := by omega
    obtain ⟨_, e1, e2, _, e4, e5⟩ := hs.dom id (((edom id).mp hdom).resolve_left hne)
    rw [e1, e2, e4, e5]
    exact h.pts id hid (((edom id).mp hdom).resolve_left hne)
  · change upd σ.box d (some (.mix t x none)) id = some c at hc
    rw [upd_eq] at hc
    split at hc
    · rename_i e; subst e
      cases hc
      refine ⟨(edom _).mpr (.inl rfl), eln, ⟨ees, fun hp => ?_, fun e => ?_, ?_, ?_⟩, hf, pa, ?_⟩
      · rw [ehd, ebx]
        cases ad with
        | none => have := hnn rfl; omega
        | some ad1 =>
          have := hsp ad1 rfl hp
          show some ad1 = some ⟨ad1.block, ad1.off, none⟩
          cases ad1; simp_all
      · rw [ehd] at e ⊢; exact hnn e
      · rw [ehd]; exact hl
      · rw [ehd]; exact hnil
      · cases ad with
        | none =>
          have := hnn rfl
          intro i hi
          omega
        | some ad1 =>
          rw [ebx]
          refine TreeAt.monoW (nh := nh) ?_ enh (fun b o v hor a1 a2 a3 => ⟨hin b o (hS ad1 rfl b o hor (colNoSt_bx.mp a1)), a2, a3⟩) (TreeAt.flatSt hf (hel ad1 rfl))
          exact ⟨fun b o v e => absurd e colNoSt_st⟩
    · obtain ⟨h1, h2⟩ := h.box id c hc
      exact ⟨(edom _).mpr (.inr h1), BoxRep.stay h1 hs (fun bb o' u a1 a2 a3 => ⟨(hcol _ _ (by rw [a1]; simp)).trans a1, a2, a3⟩) (fun ob c1 c2 c3 => ⟨c2, fun o' => (hcol _ _ (by rw [c1]; simp)).trans (c1 o')⟩) h2⟩
  · show ∃ c, upd σ.box d (some (.mix t x none)) id = some c
    rw [upd_eq]
    split
    · exact ⟨_, rfl⟩
    · rename_i hne
      exact h.dom id (((edom id).mp hid).resolve_left hne)
  · obtain ⟨h1, h2⟩ := h.tok k hk
    rw [elv, etk]
    refine ⟨h1, fun o' o1 o2 => ?_⟩
    obtain ⟨a1, a2, a3⟩ := h2 o' o1 o2
    exact ⟨(hcol (g.tk k).1 o' (by rw [a1]; simp)).trans a1, a2, a3⟩
  · have : g'.col b' o' = g.col b' o' := by
      subst hg'
      refine ghTree_out fun q => ?_
      have := (hfree b' o' q).1
      omega
    rw [this]
    exact h.old b' hb' o'
  · simp only [Rep]
    exact ⟨(edom _).mpr (.inl rfl), by rw [ehd, eln]⟩

/-- The ghost with something more that may be appended to. -/
def ghOwn (g : Gh) (k : Nat) (ad : Option Addr) (len cap sz : Nat) : Gh :=
  { g with col := fun b' o => if b' = (adB ad).1 ∧ (adB ad).2 + len * sz ≤ o ∧ o < (adB ad).2 + cap * sz then .tk k else g.col b' o, tk := upd g.tk k ((adB ad).1, (adB ad).2 + len * sz, (adB ad).2 + cap * sz),
           us := fun i => i = k ∨ g.us i, lv := fun i => i = k ∨ g.lv i, ob := if 0 < cap * sz then upd g.ob (adB ad).1 (k + 1) else g.ob }

theorem Sim.addOwn (h : Sim N c0 w0 σ g a w) {k : Nat} {ad : Option Addr} {len cap sz : Nat} (hk : σ.live k = 0) (hlen : len ≤ cap) (hnn : ad = none → cap = 0)
    (hsp : ∀ ad1, ad = some ad1 → ad1.spot = none) (hob : ∀ ad1, ad = some ad1 → 0 < cap * sz → w0.heap.size ≤ ad1.block ∧ ad1.block < w.heap.size ∧ g.ob ad1.block = 0 ∧ ∀ o, w.frozen? ⟨ad1.block, o, none⟩ = false)
    (hfree : ∀ ad1, ad = some ad1 → ∀ i, len * sz ≤ i → i < cap * sz → g.col ad1.block (ad1.off + i) = .free ∧ ∃ u, w.cell? ⟨ad1.block, ad1.off + i, none⟩ = some u) :
    Sim N c0 w0 (σ.app none { v := .any, tk := [(k, 1)] }) (ghOwn g k ad len cap sz) a w ∧ GStays g w (ghOwn g k ad len cap sz) w ∧ TkC (ghOwn g k ad len cap sz) sz len ad cap (.own k) := by
  generalize hg' : ghOwn g k ad len cap sz = g'
  have hpos : 0 < cap * sz → ∃ ad1, ad = some ad1 := fun hp => by
    cases ad with
    | none => have := hnn rfl; subst this; simp at hp
    | some ad1 => exact ⟨ad1, rfl⟩
  have hsome : ∀ b o, b = (adB ad).1 ∧ (adB ad).2 + len * sz ≤ o ∧ o < (adB ad).2 + cap * sz → ∃ ad1, ad = some ad1 ∧ b = ad1.block ∧ 0 < cap * sz ∧ ∃ i, len * sz ≤ i ∧ i < cap * sz ∧ o = ad1.off + i := by
    rintro b o ⟨h1, h2, h3⟩
    obtain ⟨ad1, e⟩ := hpos (by omega)
    subst e
    have h2 : ad1.off + len * sz ≤ o := h2
    have h3 : o < ad1.off + cap * sz := h3
    exact ⟨ad1, rfl, h1, by omega, o - ad1.off, by omega, by omega, by omega⟩
  have hcol : ∀ b o, g.col b o ≠ .free → g'.col b o = g.col b o := fun b o hne => by
    subst hg'
    show (if _ then _ else _) = _
    rw [if_neg]
    intro q
    obtain ⟨ad1, e1, rfl, _, i, i1, i2, rfl⟩ := hsome b o q
    exact hne (hfree ad1 e1 i i1 i2).1
  have hnk : ∀ i, g.us i → i ≠ k := by
    rintro i hi rfl
    exact h.us _ hi hk
  have eob : ∀ b, g'.ob b = if 0 < cap * sz ∧ b = (adB ad).1 then k + 1 else g.ob b := fun b => by
    subst hg'
    show (if 0 < cap * sz then upd g.ob (adB ad).1 (k + 1) else g.ob) b = _
    by_cases hp : 0 < cap * sz
    · rw [if_pos hp, upd_eq]
      by_cases hb : b = (adB ad).1
      · rw [if_pos hb, if_pos ⟨hp, hb⟩]
      · rw [if_neg hb, if_neg (fun q => hb q.2)]
    · rw [if_neg hp, if_neg (fun q => hp q.1)]
  have etk : ∀ i, g'.tk i = if i = k then ((adB ad).1, (adB ad).2 + len * sz, (adB ad).2 + cap * sz) else g.tk i := fun i => by subst hg'; show upd _ _ _ _ = _; rw [upd_eq]
  have eus : ∀ i, g'.us i ↔ i = k ∨ g.us i := fun i => by subst hg'; exact Iff.rfl
  have elv : ∀ i, g'.lv i ↔ i = k ∨ g.lv i := fun i => by subst hg'; exact Iff.rfl
  have hs : GStays g w g' w :=
    { st := fun b o v h1 h2 => ⟨by rw [hcol _ _ (by rw [h1]; simp)]; exact h1, h2⟩
      dom := fun id hid => by subst hg'; exact ⟨hid, rfl, rfl, rfl, rfl, rfl⟩
      us := fun i hi => ⟨(eus i).mpr (.inr hi), fun l => ⟨((elv i).mp l).resolve_left (hnk i hi), by rw [etk, if_neg (hnk i hi)], fun b e => by
        rw [eob, if_neg]
        · exact e
        · rintro ⟨hp, hb⟩
          obtain ⟨ad1, ea⟩ := hpos hp
          subst ea
          have := (hob ad1 rfl hp).2.2.1
          have hb : b = ad1.block := hb
          rw [hb] at e; omega⟩⟩ }
  have hlive : ∀ i, (σ.app none { v := .any, tk := [(k, 1)] }).live i = if i = k then 1 else σ.live i := fun i => by
    show upd σ.live k 1 i = _
    rw [upd_eq]
  refine ⟨{ off := h.off, stk := h.stk.mono hs, pts := fun id hid hdom => by subst hg'; exact h.pts id hid hdom, size := h.size, env := fun i => Rep.mono hs _ _ (h.env i), defers := h.defers, box := fun id c hc => ?_, dom := fun id hid => by subst hg'; exact h.dom id hid, tok := fun i hi => ?_, us := fun i hi => ?_, lv := fun i hi => ?_, ob := fun b hb => ?_, keep := h.keep, old := fun b' hb' o' => ?_, cok := h.cok }, hs, ?_⟩
  · obtain ⟨h1, h2⟩ := h.box id c hc
    exact ⟨(hs.dom id h1).1, BoxRep.stay h1 hs (fun bb o' u a1 a2 a3 => ⟨(hcol _ _ (by rw [a1]; simp)).trans a1, a2, a3⟩) (fun ob c1 c2 c3 => ⟨c2, fun o' => (hcol _ _ (by rw [c1]; simp)).trans (c1 o')⟩) h2⟩
  · rw [hlive] at hi
    split at hi
    · rename_i e; subst e
      refine ⟨(elv _).mpr (.inl rfl), fun o o1 o2 => ?_⟩
      rw [etk, if_pos rfl] at o1 o2 ⊢
      simp only at o1 o2 ⊢
      obtain ⟨ad1, e1, e2, hp, j, j1, j2, e3⟩ := hsome (adB ad).1 o ⟨rfl, o1, o2⟩
      refine ⟨?_, ?_, ?_⟩
      · subst hg'
        show (if _ then _ else _) = _
        rw [if_pos ⟨rfl, o1, o2⟩]
      · rw [e2, e3]; exact (hfree ad1 e1 j j1 j2).2
      · rw [e2]; exact (hob ad1 e1 hp).2.2.2 o
    · rename_i hne
      obtain ⟨h1, h2⟩ := h.tok i hi
      refine ⟨(elv _).mpr (.inr h1), ?_⟩
      rw [etk, if_neg hne]
      intro o o1 o2
      obtain ⟨a1, a2, a3⟩ := h2 o o1 o2
      exact ⟨(hcol _ _ (by rw [a1]; simp)).trans a1, a2, a3⟩
  · rw [hlive]
    split
    · simp
    · rename_i hne
      exact h.us i (((eus i).mp hi).resolve_left hne)
  · rw [hlive]
    rcases (elv i).mp hi with rfl | hi
    · rw [if_pos rfl]; exact ⟨rfl, (eus _).mpr (.inl rfl)⟩
    · split
      · exact ⟨rfl, (eus _).mpr (.inr (h.lv i hi).2)⟩
      · exact ⟨(h.lv i hi).1, (eus _).mpr (.inr (h.lv i hi).2)⟩
  · rw [eob] at hb
    split at hb
    · rename_i hh
      obtain ⟨hp, rfl⟩ := hh
      obtain ⟨ad1, ea⟩ := hpos hp
      subst ea
      obtain ⟨q1, q2, _, q4⟩ := hob ad1 rfl hp
      exact ⟨q2, q1, q4⟩
    · exact h.ob b hb
  · have : g'.col b' o' = g.col b' o' := by
      subst hg'
      show (if _ then _ else _) = _
      rw [if_neg]
      intro q
      obtain ⟨ad1, e1, rfl, hp, _⟩ := hsome b' o' q
      have := (hob ad1 e1 hp).1
      omega
    rw [this]
    exact h.old b' hb' o'
  · refine ⟨⟨(eus _).mpr (.inl rfl), fun _ ad1 e1 => ⟨hsp ad1 e1, fun _ => ?_⟩⟩, fun _ ad1 e1 => ?_⟩
    · rw [etk, if_pos rfl, e1]; rfl
    · rcases Nat.eq_zero_or_pos (cap * sz) with hz | hp
      · exact .inl hz
      · refine .inr ?_
        rw [eob, if_pos ⟨hp, by rw [e1]; rfl⟩]

theorem updL_append {α : Type} : ∀ (l1 l2 : List (Nat × α)) (f : Nat → α), updL f (l1 ++ l2) = updL (updL f l1) l2
  | [], _, _ => rfl
  | (i, v) :: r, l2, f => by
    simp only [List.cons_append, updL]
    exact updL_append r l2 _

theorem app_bx (σ : AS) (l1 l2 : List (Nat × BoxC)) : σ.app none { v := .any, bx := l1 ++ l2 } = (σ.app none { v := .any, bx := l1 }).app none { v := .any, bx := l2 } := by
  simp only [AS.app, List.map_append, updL_append, updL]
theorem app_tk (σ : AS) (l1 l2 : List (Nat × Nat)) : σ.app none { v := .any, tk := l1 ++ l2 } = (σ.app none { v := .any, tk := l1 }).app none { v := .any, tk := l2 } := by
  simp only [AS.app, updL_append, List.map_nil, updL]

theorem clmB_fst {base : Nat} : ∀ {t : Ty} {x : t.T} {j : Nat} {p : Nat × BoxC}, p ∈ clmB base t x j → ∃ i, j ≤ i ∧ i < j + t.nsl ∧ p.1 = base + i := by
  intro t
  induction t with
  | pair a b iha ihb =>
    intro x j p hp
    simp only [clmB, List.mem_append] at hp
    simp only [Ty.nsl]
    rcases hp with hp | hp
    · obtain ⟨i, h1, h2, h3⟩ := iha hp; exact ⟨i, h1, by omega, h3⟩
    · obtain ⟨i, h1, h2, h3⟩ := ihb hp; exact ⟨i, by omega, by omega, h3⟩
  | sl t ih =>
    intro x j p hp
    simp only [clmB, List.mem_singleton] at hp
    subst hp
    exact ⟨j, Nat.le_refl _, by simp [Ty.nsl], rfl⟩
  | _ => intro x j p hp; simp [clmB] at hp
theorem clmK_fst {base : Nat} : ∀ {t : Ty} {j : Nat} {p : Nat × Nat}, p ∈ clmK base t j → ∃ i, j ≤ i ∧ i < j + t.nsl ∧ p.1 = base + i := by
  intro t
  induction t with
  | pair a b iha ihb =>
    intro j p hp
    simp only [clmK, List.mem_append] at hp
    simp only [Ty.nsl]
    rcases hp with hp | hp
    · obtain ⟨i, h1, h2, h3⟩ := iha hp; exact ⟨i, h1, by omega, h3⟩
    · obtain ⟨i, h1, h2, h3⟩ := ihb hp; exact ⟨i, by omega, by omega, h3⟩
  | sl t ih =>
    intro j p hp
    simp only [clmK, List.mem_singleton] at hp
    subst hp
    exact ⟨j, Nat.le_refl _, by simp [Ty.nsl], rfl⟩
  | _ => intro j p hp; simp [clmK] at hp

theorem box_app {σ : AS} {l : List (Nat × BoxC)} {d : Nat} (h : ∀ p ∈ l, p.1 ≠ d) : (σ.app none { v := .any, bx := l }).box d = σ.box d := by
  show updL σ.box (l.map fun p => (p.1, some p.2)) d = _
  rw [updL_notin]
  intro hm
  simp only [List.map_map, List.mem_map] at hm
  obtain ⟨p, h1, h2⟩ := hm
  exact h p h1 h2
theorem live_app {σ : AS} {l : List (Nat × Nat)} {d : Nat} (h : ∀ p ∈ l, p.1 ≠ d) : (σ.app none { v := .any, tk := l }).live d = σ.live d := by
  show updL σ.live l d = _
  rw [updL_notin]
  intro hm
  obtain ⟨p, h1, h2⟩ := List.mem_map.mp hm
  exact h p h1 h2

/-- Results' slices become rows of the caller's. -/
theorem claim1 {col' : Nat → Nat → Col} {w1 : World} {base : Nat} (hw : w0.heap.size ≤ w1.heap.size) : ∀ {t : Ty} {x : t.T} {vs : List Value} {j : Nat} {σ : AS} {g : Gh}, Sim N c0 w0 σ g a w → FrT col' w1 w t x vs j → t.fl2 = true →
    (∀ b o i, j ≤ i → w1.heap.size ≤ b → col' b o = .bx (oBase + i) → g.col b o = .free) → (∀ i, j ≤ i → i < j + t.nsl → σ.box (base + i) = none ∧ base + i < pBase) →
    ∃ g2, Sim N c0 w0 (σ.app none { v := .any, bx := clmB base t x j }) g2 a w ∧ GStays g w g2 w ∧ Reps g2 w (clmV 1 base t x j) vs ∧ (∀ b o i, j + t.nsl ≤ i → w1.heap.size ≤ b → col' b o = .bx (oBase + i) → g2.col b o = .free) := by
  intro t
  induction t with
  | int k => rintro x vs j σ g hs rfl _ hfr _; exact ⟨g, hs, GStays.refl _ _, by simp only [clmV, Reps, Rep]; exact ⟨_, _, rfl, rfl, rfl⟩, hfr⟩
  | bool => rintro x vs j σ g hs rfl _ hfr _; exact ⟨g, hs, GStays.refl _ _, by simp only [clmV, Reps, Rep]; exact ⟨_, _, rfl, rfl, rfl⟩, hfr⟩
  | str => rintro x vs j σ g hs rfl _ hfr _; exact ⟨g, hs, GStays.refl _ _, by simp only [clmV, Reps, Rep]; exact ⟨_, _, rfl, rfl, rfl⟩, hfr⟩
  | unit => rintro x vs j σ g hs rfl _ hfr _; exact ⟨g, hs, GStays.refl _ _, by simp only [clmV, Reps], hfr⟩
  | pair p q ihp ihq =>
    rintro x vs j σ g hs ⟨v1, v2, rfl, h1, h2⟩ hfl hfr hnm
    simp only [Ty.fl2, Bool.and_eq_true] at hfl
    simp only [Ty.nsl] at hnm ⊢
    obtain ⟨g1, s1, st1, r1, f1⟩ := ihp hs h1 hfl.1 hfr fun i i1 i2 => hnm i i1 (by omega)
    obtain ⟨g2, s2, st2, r2, f2⟩ := ihq s1 h2 hfl.2 f1 fun i i1 i2 => by
      obtain ⟨n1, n2⟩ := hnm i (by omega) (by omega)
      refine ⟨?_, n2⟩
      rw [box_app]
      · exact n1
      · intro pr hpr e
        obtain ⟨i', j1, j2, j3⟩ := clmB_fst hpr
        omega
    refine ⟨g2, ?_, st1.trans st2, ?_, fun b o i hi => f2 b o i (by omega)⟩
    · simp only [clmB]; rw [app_bx]; exact s2
    · simp only [clmV]; exact Reps.append (Reps.mono st2 _ _ r1) r2
  | sl t ih =>
    rintro x vs j σ g hs ⟨ad, cap, rfl, hl, ⟨hnn, hnil⟩, hff, nh, pa, hpa, had⟩ hfl hfr hnm
    obtain ⟨n1, n2⟩ := hnm j (Nat.le_refl _) (by simp [Ty.nsl])
    cases hft : t.flat with
    | true =>
      obtain ⟨s1, st1, r1⟩ := hs.addArr (d := base + j) (t := t) (x := x) (ad := ad) (cap := cap) n2 n1 hl hnn hnil (fun ad1 e => (had ad1 e).1)
        (fun ad1 e k hk => by obtain ⟨q1, q2, q3⟩ := (had ad1 e).2.1 k hk; exact ⟨by omega, hfr _ _ j (Nat.le_refl _) q1 q2, q3⟩)
        (fun ad1 e i hi => by obtain ⟨us, q1, q2⟩ := TreeAt.flat g.col w hft (had ad1 e).2.2 i hi; exact ⟨us, q1, fun k u hk => (q2 k u hk).2.1⟩)
      refine ⟨_, by simp only [clmB, owBox, hft, cond_true]; exact s1, st1, ?_, fun b o i hi hb hc => ?_⟩
      · show Reps _ w [.ms (base + j)] _
        simp only [Reps]
        exact ⟨_, [], rfl, r1, rfl⟩
      · show (if _ then _ else _) = _
        have hfree := hfr b o i (by simp only [Ty.nsl] at hi; omega) hb hc
        rw [if_neg]
        · exact hfree
        · rintro ⟨q1, q2, q3⟩
          cases ad with
          | none =>
            have := hnn rfl
            have h0 : x.len = 0 := by omega
            rw [h0] at q3; simp at q3; omega
          | some ad1 =>
            have q1 : b = ad1.block := q1
            have q2 : ad1.off ≤ o := q2
            have q3 : o < ad1.off + x.len * t.size := q3
            obtain ⟨_, k2, _⟩ := (had ad1 rfl).2.1 (o - ad1.off) (by omega)
            rw [show ad1.off + (o - ad1.off) = o by omega, ← q1, hc] at k2
            have := Col.bx.inj k2
            simp only [Ty.nsl] at hi
            omega
    | false =>
      obtain ⟨s1, st1, r1⟩ := hs.addTree (d := base + j) (t := t) (x := x) (ad := ad) (cap := cap) (S := fun b o => w1.heap.size ≤ b ∧ col' b o = .bx (oBase + j)) (nh := nh) (pa := pa) (col2 := col') (id2 := oBase + j) n2 n1 hl hnn hnil (hff hft) (fun ad1 e => (had ad1 e).1)
        (fun b o q => ⟨by have := q.1; omega, hfr b o j (Nat.le_refl _) q.1 q.2⟩) (fun ad1 e => (had ad1 e).2.2)
        (fun ad1 e b o hor hc => by
          refine ⟨?_, hc⟩
          rcases hor with ⟨q, hq⟩ | ⟨n, hn, rfl, rfl⟩
          · exact hpa b o q hq
          · exact ((had ad1 e).2.1 n hn).1)
      refine ⟨_, by simp only [clmB, owBox, hft, cond_false]; exact s1, st1, ?_, fun b o i hi hb hc => ?_⟩
      · show Reps _ w [.ms (base + j)] _
        simp only [Reps]
        exact ⟨_, [], rfl, r1, rfl⟩
      · have hfree := hfr b o i (by simp only [Ty.nsl] at hi; omega) hb hc
        rw [ghTree_out]
        · exact hfree
        · rintro ⟨_, q2⟩
          rw [hc] at q2
          have := Col.bx.inj q2
          simp only [Ty.nsl] at hi
          omega

/-- Results' slices become what the caller may append to. -/
theorem claim2 {col' : Nat → Nat → Col} {w1 : World} {base : Nat} {ob : Nat → Nat} (hw : w0.heap.size ≤ w1.heap.size) : ∀ {t : Ty} {x : t.T} {vs : List Value} {j : Nat} {σ : AS} {g : Gh}, Sim N c0 w0 σ g a w → OwT col' w1 w ob t x vs j → t.fl1 = true →
    (∀ b o i, j ≤ i → w1.heap.size ≤ b → col' b o = .bx (oBase + i) → g.col b o = .free) → (∀ b o, w1.heap.size ≤ b → col' b o = .st → g.col b o = .st) → (∀ b, w1.heap.size ≤ b → g.ob b ≠ 0 → ob b < j + 1) → (∀ i, j ≤ i → i < j + t.nsl → σ.live (base + i) = 0) →
    ∃ g2, Sim N c0 w0 (σ.app none { v := .any, tk := clmK base t j }) g2 a w ∧ GStays g w g2 w ∧ Reps g2 w (clmV 2 base t x j) vs ∧ (∀ b o i, j + t.nsl ≤ i → w1.heap.size ≤ b → col' b o = .bx (oBase + i) → g2.col b o = .free) ∧
      (∀ b o, w1.heap.size ≤ b → col' b o = .st → g2.col b o = .st) ∧ (∀ b, w1.heap.size ≤ b → g2.ob b ≠ 0 → ob b < j + t.nsl + 1) := by
  intro t
  induction t with
  | int k => rintro x vs j σ g hs rfl _ hfr hst hob _; exact ⟨g, hs, GStays.refl _ _, by simp only [clmV, Reps, Rep]; exact ⟨_, _, rfl, rfl, rfl⟩, hfr, hst, hob⟩
  | bool => rintro x vs j σ g hs rfl _ hfr hst hob _; exact ⟨g, hs, GStays.refl _ _, by simp only [clmV, Reps, Rep]; exact ⟨_, _, rfl, rfl, rfl⟩, hfr, hst, hob⟩
  | str => rintro x vs j σ g hs rfl _ hfr hst hob _; exact ⟨g, hs, GStays.refl _ _, by simp only [clmV, Reps, Rep]; exact ⟨_, _, rfl, rfl, rfl⟩, hfr, hst, hob⟩
  | unit => rintro x vs j σ g hs rfl _ hfr hst hob _; exact ⟨g, hs, GStays.refl _ _, by simp only [clmV, Reps], hfr, hst, hob⟩
  | pair p q ihp ihq =>
    rintro x vs j σ g hs ⟨v1, v2, rfl, h1, h2⟩ hfl hfr hst hob hnm
    simp only [Ty.fl1, Bool.and_eq_true] at hfl
    simp only [Ty.nsl] at hnm ⊢
    obtain ⟨g1, s1, st1, r1, f1, f1', f1''⟩ := ihp hs h1 hfl.1 hfr hst hob fun i i1 i2 => hnm i i1 (by omega)
    obtain ⟨g2, s2, st2, r2, f2, f2', f2''⟩ := ihq s1 h2 hfl.2 f1 f1' f1'' fun i i1 i2 => by
      rw [live_app]
      · exact hnm i (by omega) (by omega)
      · intro pr hpr e
        obtain ⟨i', j1, j2, j3⟩ := clmK_fst hpr
        omega
    refine ⟨g2, ?_, st1.trans st2, ?_, fun b o i hi => f2 b o i (by omega), f2', fun b hb h0 => by have := f2'' b hb h0; omega⟩
    · simp only [clmK]; rw [app_tk]; exact s2
    · simp only [clmV]; exact Reps.append (Reps.mono st2 _ _ r1) r2
  | sl t ih =>
    rintro x vs j σ g hs ⟨ad, cap, rfl, hrep, had⟩ hfl hfr hst hob hnm
    have n1 := hnm j (Nat.le_refl _) (by simp [Ty.nsl])
    have hrep0 := hrep
    obtain ⟨ad', cap', e, hl, ⟨hnn, hnil⟩, hel⟩ := hrep
    simp only [List.cons.injEq, Value.slice.injEq, and_true, true_and] at e
    obtain ⟨rfl, rfl⟩ := e
    have hcells : ∀ ad1, ad = some ad1 → 0 < x.len * t.size → w1.heap.size ≤ ad1.block := fun ad1 e hp => ((had ad1 e).2.1 (Nat.lt_of_lt_of_le hp (Nat.mul_le_mul_right _ hl))).1
    obtain ⟨s1, st1, r1⟩ := hs.addOwn (k := base + j) (ad := ad) (len := x.len) (cap := cap) (sz := t.size) n1 hl hnn (fun ad1 e => (had ad1 e).1)
      (fun ad1 e hp => by
        obtain ⟨q1, q2, q3, q4⟩ := (had ad1 e).2.1 hp
        refine ⟨by omega, q2, ?_, q4⟩
        rcases Nat.eq_zero_or_pos (g.ob ad1.block) with h0 | h0
        · exact h0
        · have := hob _ q1 (by omega); omega)
      (fun ad1 e i i1 i2 => by
        obtain ⟨q1, q2⟩ := (had ad1 e).2.2 i i1 i2
        exact ⟨hfr _ _ j (Nat.le_refl _) ((had ad1 e).2.1 (by omega)).1 q1, q2⟩)
    refine ⟨_, s1, st1, ?_, fun b o i hi hb hc => ?_, fun b o hb hc => ?_, fun b hb h0 => ?_⟩
    · show Reps _ w [.sl t x (.own (base + j))] _
      simp only [Reps, Rep]
      refine ⟨_, [], rfl, ⟨ad, cap, rfl, ?_, r1⟩, rfl⟩
      refine RepT.mono st1.toStays _ _ _ ⟨ad, cap, rfl, hl, ⟨hnn, hnil⟩, fun ad1 e => ⟨(hel ad1 e).1, fun i hi => ?_⟩⟩
      obtain ⟨us, q1, q2⟩ := (hel ad1 e).2 i hi
      refine ⟨us, RepT.flat hfl q1, fun k v hk => ?_⟩
      obtain ⟨c1, c2⟩ := q2 k v hk
      refine ⟨hst _ _ (hcells ad1 e ?_) c1, c2⟩
      have hkl : k < t.size := by rw [← q1.length]; exact (List.getElem?_eq_some_iff.mp hk).1
      have : (i + 1) * t.size ≤ x.len * t.size := Nat.mul_le_mul_right _ hi
      rw [Nat.add_mul, Nat.one_mul] at this; omega
    · show (if _ then _ else _) = _
      have hfree := hfr b o i (by simp only [Ty.nsl] at hi; omega) hb hc
      rw [if_neg]
      · exact hfree
      · rintro ⟨q1, q2, q3⟩
        cases ad with
        | none =>
          have := hnn rfl
          subst this
          simp at q3; omega
        | some ad1 =>
          have q1 : b = ad1.block := q1
          have q2 : ad1.off + x.len * t.size ≤ o := q2
          have q3 : o < ad1.off + cap * t.size := q3
          obtain ⟨k2, _⟩ := (had ad1 rfl).2.2 (o - ad1.off) (by omega) (by omega)
          rw [show ad1.off + (o - ad1.off) = o by omega, ← q1, hc] at k2
          have := Col.bx.inj k2
          simp only [Ty.nsl] at hi
          omega
    · show (if _ then _ else _) = _
      have hs0 := hst b o hb hc
      rw [if_neg]
      · exact hs0
      · rintro ⟨q1, q2, q3⟩
        cases ad with
        | none =>
          have := hnn rfl
          subst this
          simp at q3; omega
        | some ad1 =>
          have q1 : b = ad1.block := q1
          have q2 : ad1.off + x.len * t.size ≤ o := q2
          have q3 : o < ad1.off + cap * t.size := q3
          obtain ⟨k2, _⟩ := (had ad1 rfl).2.2 (o - ad1.off) (by omega) (by omega)
          rw [show ad1.off + (o - ad1.off) = o by omega, ← q1, hc] at k2
          cases k2
    · simp only [Ty.nsl]
      change (if 0 < cap * t.size then upd g.ob (adB ad).1 (base + j + 1) else g.ob) b ≠ 0 at h0
      split at h0
      · rename_i hp
        rw [upd_eq] at h0
        split at h0
        · rename_i eb
          cases ad with
          | none => have := hnn rfl; subst this; simp at hp
          | some ad1 =>
            have eb : b = ad1.block := eb
            have := ((had ad1 rfl).2.1 hp).2.2.1
            rw [← eb] at this; omega
        · have := hob b hb h0; omega
      · have := hob b hb h0; omega

theorem rep_clm {fr base : Nat} : ∀ {t : Ty} {x : t.T} {j : Nat} {cs : List Value}, Reps g w (clmV fr base t x j) cs → Rep g w (mkPV t (clmV fr base t x j)) (mkV t cs) := by
  intro t x j cs h
  cases t with
  | unit => simp only [mkPV, mkV, Rep]; exact ⟨cs, rfl, h⟩
  | pair a b => simp only [mkPV, mkV, Rep]; exact ⟨cs, rfl, h⟩
  | int k => simp only [clmV, Reps] at h; obtain ⟨u, us, rfl, h2, h3⟩ := h; exact h2
  | bool => simp only [clmV, Reps] at h; obtain ⟨u, us, rfl, h2, h3⟩ := h; exact h2
  | str => simp only [clmV, Reps] at h; obtain ⟨u, us, rfl, h2, h3⟩ := h; exact h2
  | sl t =>
    simp only [clmV] at h ⊢
    cases hq : Nat.beq fr 1 with
    | true =>
      rw [hq] at h
      simp only [cond_true, Reps] at h ⊢
      obtain ⟨u, us, rfl, h2, h3⟩ := h
      exact h2
    | false =>
      rw [hq] at h
      simp only [cond_false, Reps] at h ⊢
      obtain ⟨u, us, rfl, h2, h3⟩ := h
      exact h2

theorem claims1 {col' : Nat → Nat → Col} {w1 : World} {base : Nat} (hw : w0.heap.size ≤ w1.heap.size) : ∀ {ts : List Ty} {y : TysT ts} {vs : List Value} {j : Nat} {σ : AS} {g : Gh}, Sim N c0 w0 σ g a w → FrOuts (FrT col' w1 w) ts y vs j → ts.all Ty.fl2 = true →
    (∀ b o i, j ≤ i → w1.heap.size ≤ b → col' b o = .bx (oBase + i) → g.col b o = .free) → (∀ i, j ≤ i → i < j + nslL ts → σ.box (base + i) = none ∧ base + i < pBase) →
    ∃ g2, Sim N c0 w0 (σ.app none { v := .any, bx := clmBs base ts y j }) g2 a w ∧ GStays g w g2 w ∧ Reps g2 w (clmVs 1 base ts y j) vs
  | [], y, vs, j, σ, g, hs, h, _, _, _ => ⟨g, hs, GStays.refl _ _, by simp only [clmVs, Reps]; exact h⟩
  | t :: r, y, vs, j, σ, g, hs, ⟨u, us, e, ⟨cs, h1, h2⟩, h3⟩, hfl, hfr, hnm => by
    subst e h2
    simp only [List.all_cons, Bool.and_eq_true] at hfl
    simp only [nslL] at hnm
    obtain ⟨g1, s1, st1, r1, f1⟩ := claim1 (base := base) hw hs h1 hfl.1 hfr fun i i1 i2 => hnm i i1 (by omega)
    obtain ⟨g2, s2, st2, r2⟩ := claims1 (base := base) hw s1 h3 hfl.2 f1 fun i i1 i2 => by
      obtain ⟨n1, n2⟩ := hnm i (by omega) (by omega)
      refine ⟨?_, n2⟩
      rw [box_app]
      · exact n1
      · intro pr hpr e
        obtain ⟨i', j1, j2, j3⟩ := clmB_fst hpr
        omega
    refine ⟨g2, ?_, st1.trans st2, ?_⟩
    · simp only [clmBs]; rw [app_bx]; exact s2
    · simp only [clmVs, Reps]
      exact ⟨_, us, rfl, Rep.mono st2 _ _ (rep_clm r1), r2⟩

theorem claims2 {col' : Nat → Nat → Col} {w1 : World} {base : Nat} {ob : Nat → Nat} (hw : w0.heap.size ≤ w1.heap.size) : ∀ {ts : List Ty} {y : TysT ts} {vs : List Value} {j : Nat} {σ : AS} {g : Gh}, Sim N c0 w0 σ g a w → FrOuts (OwT col' w1 w ob) ts y vs j → ts.all Ty.fl1 = true →
    (∀ b o i, j ≤ i → w1.heap.size ≤ b → col' b o = .bx (oBase + i) → g.col b o = .free) → (∀ b o, w1.heap.size ≤ b → col' b o = .st → g.col b o = .st) → (∀ b, w1.heap.size ≤ b → g.ob b ≠ 0 → ob b < j + 1) → (∀ i, j ≤ i → i < j + nslL ts → σ.live (base + i) = 0) →
    ∃ g2, Sim N c0 w0 (σ.app none { v := .any, tk := clmKs base ts j }) g2 a w ∧ GStays g w g2 w ∧ Reps g2 w (clmVs 2 base ts y j) vs
  | [], y, vs, j, σ, g, hs, h, _, _, _, _, _ => ⟨g, hs, GStays.refl _ _, by simp only [clmVs, Reps]; exact h⟩
  | t :: r, y, vs, j, σ, g, hs, ⟨u, us, e, ⟨cs, h1, h2⟩, h3⟩, hfl, hfr, hst, hob, hnm => by
    subst e h2
    simp only [List.all_cons, Bool.and_eq_true] at hfl
    simp only [nslL] at hnm
    obtain ⟨g1, s1, st1, r1, f1, f1', f1''⟩ := claim2 (base := base) hw hs h1 hfl.1 hfr hst hob fun i i1 i2 => hnm i i1 (by omega)
    obtain ⟨g2, s2, st2, r2⟩ := claims2 (base := base) hw s1 h3 hfl.2 f1 f1' f1'' fun i i1 i2 => by
      rw [live_app]
      · exact hnm i (by omega) (by omega)
      · intro pr hpr e
        obtain ⟨i', j1, j2, j3⟩ := clmK_fst hpr
        omega
    refine ⟨g2, ?_, st1.trans st2, ?_⟩
    · simp only [clmKs]; rw [app_tk]; exact s2
    · simp only [clmVs, Reps]
      exact ⟨_, us, rfl, Rep.mono st2 _ _ (rep_clm r1), r2⟩

theorem clmVs_len (fr base : Nat) : ∀ (ts : List Ty) (y : TysT ts) (j : Nat), (clmVs fr base ts y j).length = ts.length
  | [], _, _ => rfl
  | _ :: r, y, j => by simp [clmVs, clmVs_len fr base r y.2]

theorem rep_clmR {fr base : Nat} {ts : List Ty} {y : TysT ts} {vs : List Value} (h : Reps g w (clmVs fr base ts y 0) vs) : Rep g w (clmR fr base ts y) (tupV vs) := by
  match ts, y, h with
  | [], y, h =>
    simp only [clmVs, Reps] at h
    subst h
    simp only [clmR, clmVs, Rep]
    exact ⟨[], rfl, by simp only [Reps]⟩
  | [t], y, h =>
    simp only [clmVs, Reps] at h
    obtain ⟨u, us, rfl, h1, rfl⟩ := h
    simp only [clmR]
    exact h1
  | t :: t2 :: r, y, h =>
    have hl : vs.length = r.length + 2 := by rw [h.length, clmVs_len]; rfl
    unfold tupV
    rw [dif_neg (by simp [hl])]
    simp only [clmR, Rep]
    exact ⟨vs, rfl, h⟩

theorem freeN_iff {σ : AS} {base n : Nat} (h : freeN σ base n = true) : ∀ i, i < n → σ.box (base + i) = none ∧ σ.live (base + i) = 0 ∧ base + i < pBase := by
  intro i hi
  unfold freeN at h
  rw [List.all_eq_true] at h
  have := h i (List.mem_range.mpr hi)
  simp only [Bool.and_eq_true] at this
  obtain ⟨h1, h2, h3⟩ := this
  refine ⟨?_, Nat.eq_of_beq_eq_true h2, by simpa [pBase] using h3⟩
  cases hb : σ.box (base + i) with
  | none => rfl
  | some c => rw [hb] at h1; cases h1

theorem wb_some {box : Nat → Option BoxC} {col' : Nat → Nat → Col} {w' : World} {is : List In} {ps : List PV} {x : InsT is} {y : PtT is} {vs : List Value} (hx : unIns box is ps = some x) (hr : Reps g w ps vs) (hp : PtsRep col' w w' is y vs) {id : Nat} (hid : id ∈ ptIds is ps) (hn : box id = none) : False := by
  obtain ⟨q, c, n, _, _, h⟩ := wb_spec box g w col' w' is ps x y vs 0 hx hr hp id hid
  rcases h with ⟨t, off, cs, z, us, h1, _⟩ | ⟨t, x0, z, ⟨h1, _⟩ | ⟨h1, _⟩, _⟩ | ⟨u, t, k, j, x0, yy, z, z', h1, _⟩ <;> (rw [hn] at h1; cases h1)

/-- Behind a call the caller goes on. -/
theorem Sim.call (hs : Sim N c0 w0 σ g a w) {c : Ctr} {ps : List PV} {vs : List Value} (hr : Reps g w ps vs) {x : InsT c.ins} (hx : unIns σ.box c.ins ps = some x) (hn : nodupB (ptIds c.ins ps) = true) (hdj : disjB (ptIds c.ins ps) (rfIds c.ins ps) = true)
    (hfl : (rfIds c.ins ps).isEmpty = true ∨ ((c.out.all Ty.flat = true ∨ frOk c.fr c.out = true) ∧ ptFlat c.ins = true)) {y : TysT c.out × PtT c.ins} {e : Ending} {w' : World}
    (hb : Behind c (colC g (rfIds c.ins ps) (ptWins g c.ins ps 0)) w vs.toArray y e w') {dst : Option Nat} (hd : dstOk N dst = true) {d : Dl} (hD : resD c σ dst y.1 (wb σ.box c.ins ps y.2) = some d) :
    ∃ v g', e = .returned v ∧ Sim N c0 w0 (σ.app dst d) g' (a.put dst v) w' := by
  obtain ⟨v, col', rfl, hk, hst, hres, hpts⟩ := hb
  obtain ⟨g', h1, h2, h3, h4, h5⟩ := Sim.callCore hs hr hx hn hdj (hfl.imp_right (·.2)) hk hst hpts
  have hnone : ∀ i, σ.box i = none → (σ.app none { v := .any, bx := wb σ.box c.ins ps y.2 }).box i = none := by
    intro d' hnb
    rw [box_app]
    · exact hnb
    · intro p hp e
      have hm : d' ∈ ptIds c.ins ps := by rw [← wb_fst y.2 hx]; exact List.mem_map.mpr ⟨p, hp, e⟩
      exact wb_some hx hr (by simpa using hpts) hm hnb
  have hobn : ∀ b, w.heap.size ≤ b → g'.ob b ≠ 0 → False := fun b hb h0 => by
    rw [h4] at h0
    have := (hs.ob b h0).1; omega
  unfold resD at hD
  unfold OutIs at hres
  cases hp : c.ptr with
  | false =>
    rw [hp] at hD hres
    simp only [cond_false, Bool.false_eq_true, if_false] at hD hres
    split at hD
    · rename_i hf0
      rw [hf0] at hres
      simp only [Option.some.injEq] at hD hres
      subst hD
      refine ⟨v, g', rfl, ?_⟩
      have hvr : Rep g' w' (mkRes c.out y.1) v := by
        refine res_rep (fun t ht => h2 t ?_) hres
        rcases hfl with h | ⟨h | h, _⟩
        · exact .inl h
        · exact .inr (List.all_eq_true.mp h t ht)
        · rw [hf0] at h; simp [frOk] at h
      have := h1.put hd hvr
      cases dst with
      | none => exact this
      | some d => exact this
    · rename_i hf1
      rw [hf1] at hres
      simp only at hres
      split at hD
      · rename_i d'
        split at hD
        · rename_i hfree
          simp only [Option.some.injEq] at hD
          subst hD
          simp only [Bool.and_eq_true] at hfree
          obtain ⟨hfl1, hfree⟩ := hfree
          have hfree := freeN_iff hfree
          obtain ⟨us, q1, rfl⟩ := hres
          obtain ⟨g2, s2, _, r2⟩ := claims1 (base := rBase (σ.off + d')) hs.keep.size h1 q1 hfl1 (fun b o i _ hb hc => h3 b o hb (by rw [hc]; simp)) (fun i _ hi => by
            have := hfree i (by omega)
            exact ⟨hnone _ this.1, this.2.2⟩)
          refine ⟨_, g2, rfl, ?_⟩
          have := s2.put hd (rep_clmR r2)
          have e : σ.app (some d') { v := clmR 1 (rBase (σ.off + d')) c.out y.1, bx := wb σ.box c.ins ps y.2 ++ clmBs (rBase (σ.off + d')) c.out y.1 0 } = ((σ.app none { v := .any, bx := wb σ.box c.ins ps y.2 }).app none { v := .any, bx := clmBs (rBase (σ.off + d')) c.out y.1 0 }).put (some d') (clmR 1 (rBase (σ.off + d')) c.out y.1) := by
            simp only [AS.app, AS.put, List.map_append, updL_append, updL]
          rw [e]; exact this
        · cases hD
      · cases hD
    · rename_i hf0 hf1
      have hres : ∃ us ob, FrOuts (OwT col' w w' ob) c.out y.1 us 0 ∧ v = tupV us := by
        split at hres
        · rename_i h0; exact absurd h0 hf0
        · rename_i h0; exact absurd h0 hf1
        · exact hres
      split at hD
      · rename_i d'
        split at hD
        · rename_i hfree
          simp only [Option.some.injEq] at hD
          subst hD
          simp only [Bool.and_eq_true] at hfree
          obtain ⟨hfl1, hfree⟩ := hfree
          have hfree := freeN_iff hfree
          obtain ⟨us, ob, q1, rfl⟩ := hres
          obtain ⟨g2, s2, _, r2⟩ := claims2 (base := rBase (σ.off + d')) hs.keep.size h1 q1 hfl1 (fun b o i _ hb hc => h3 b o hb (by rw [hc]; simp)) (fun b o hb hc => h5 b o hb hc) (fun b hb h0 => (hobn b hb h0).elim) (fun i _ hi => (hfree i (by omega)).2.1)
          refine ⟨_, g2, rfl, ?_⟩
          have := s2.put hd (rep_clmR r2)
          have e : σ.app (some d') { v := clmR 2 (rBase (σ.off + d')) c.out y.1, bx := wb σ.box c.ins ps y.2, tk := clmKs (rBase (σ.off + d')) c.out 0 } = ((σ.app none { v := .any, bx := wb σ.box c.ins ps y.2 }).app none { v := .any, tk := clmKs (rBase (σ.off + d')) c.out 0 }).put (some d') (clmR 2 (rBase (σ.off + d')) c.out y.1) := by
            simp only [AS.app, AS.put, List.map_nil, updL]
          rw [e]; exact this
        · cases hD
      · cases hD
  | true =>
    rw [hp] at hD hres
    simp only [cond_true, if_true] at hD hres
    cases dst with
    | none => simp at hD
    | some dd =>
      simp only at hD
      split at hD
      · cases hD
      rename_i hfr0
      obtain ⟨d', hd'⟩ : ∃ n, n = σ.off + dd := ⟨_, rfl⟩
      rw [← hd'] at hD
      have hpb : d' < pBase := by rw [hd', hs.off]; exact dstOk_pb hd
      have hfr0 : Nat.beq c.fr 0 = true := by simpa using hfr0
      split at hD
      · rename_i v' b' hnb hpr
        cases hD
        obtain ⟨t, z, b, o, us, q0, rfl, rfl, rfl, q1, q2, q3⟩ := ptr_inv hres hpr
        have hz : RepT g'.col w' t z us := h2 t (by
          rcases hfl with h | ⟨h | h, _⟩
          · exact .inl h
          · exact .inr (List.all_eq_true.mp h t q0)
          · exact .inl (by rw [Nat.eq_of_beq_eq_true hfr0] at h; simp [frOk] at h)) z us q2
        have hni : d' ∉ ptIds c.ins ps := by
          intro hm
          rw [← wb_fst y.2 hx] at hm
          obtain ⟨⟨i, bc⟩, hm1, hm2⟩ := List.mem_map.mp hm
          have hm2 : i = d' := hm2
          subst hm2
          exact wb_some hx hr (by simpa using hpts) (by rw [← wb_fst y.2 hx]; exact List.mem_map.mpr ⟨_, hm1, rfl⟩) hnb
        have hbox : (σ.app none { v := .any, bx := wb σ.box c.ins ps y.2 }).box d' = none := by
          show updL σ.box _ d' = none
          rw [updL_notin _ _ _ (by rw [List.map_map]; show d' ∉ (wb σ.box c.ins ps y.2).map (fun p => p.1); rw [wb_fst y.2 hx]; exact hni)]
          exact hnb
        have hcell : ∀ (j : Nat) (u : Value), us[j]? = some u → w'.cell? ⟨b, o + j, none⟩ = some u ∧ w'.frozen? ⟨b, o + j, none⟩ = false := fun j u hj => (q3 j u hj).2
        have := h1.addBox (cs := pk t z) hd hpb hbox (fun j hj => h3 b (o + j) q1 (by rw [(q3 j _ (List.getElem?_eq_getElem hj)).1]; simp)) hcell (Nat.le_trans hs.keep.size q1) (reps_pk hz)
        refine ⟨.pointer (some ⟨b, o, none⟩), ghAdd g' b o (o + us.length) d', rfl, ?_⟩
        have e : σ.app (some dd) { v := .bx d' 0, bx := [(d', .cells (pk t z))] ++ wb σ.box c.ins ps y.2 } = (σ.app none { v := .any, bx := wb σ.box c.ins ps y.2 }).app (some dd) { v := .bx d' 0, bx := [(d', .cells (pk t z))] } := by
          simp only [AS.app, List.map_cons, List.map_nil, List.cons_append, List.nil_append, updL]
          rw [updL_comm _ _ _ _ (by rw [List.map_map]; show d' ∉ (wb σ.box c.ins ps y.2).map (fun p => p.1); rw [wb_fst y.2 hx]; exact hni)]
        rw [e]
        exact this
      · cases hD

end
end Go.VE
