import Derived.Test.YtnjlpdagdedbaaaGreatViD
/- New blocks, and the boxes in them. -/
namespace Go.VE
open Go.RowKit (Below)

/-- The colours behind a new block. -/
def colNew (col : Nat → Nat → Col) (n : Nat) (c : Nat → Col) : Nat → Nat → Col := fun b o => if b = n then c o else col b o

theorem colNew_old (col : Nat → Nat → Col) (n : Nat) (c : Nat → Col) {b : Nat} (o : Nat) (h : b ≠ n) : colNew col n c b o = col b o := if_neg h
theorem colNew_new (col : Nat → Nat → Col) (n : Nat) (c : Nat → Col) (o : Nat) : colNew col n c n o = c o := if_pos rfl

theorem stays_alloc (col : Nat → Nat → Col) (w : World) (c : Nat → Col) (ob : Obj) : Stays col w (colNew col w.heap.size c) (w.alloc ob) := by
  refine ⟨fun b o v h1 h2 => ?_⟩
  have hl : b < w.heap.size := World.block_lt_of_cell? w ⟨b, o, none⟩ h2
  exact ⟨by rw [colNew_old _ _ _ _ (by omega)]; exact h1, by rw [World.cell?_alloc_lt _ _ _ hl]; exact h2⟩

/-- What a step does to the ghost but for the boxes and what may be appended to. -/
theorem Sim.lift {N : Fr} {c0 : Nat → Nat → Col} {w0 : World} {σ : AS} {g g' : Gh} {a : Act} {w w' : World} (h : Sim N c0 w0 σ g a w) (hs : GStays g w g' w') : (∀ i, Rep g' w' (σ.env i) (a.tmps.getD i undef)) :=
  fun i => Rep.mono hs _ _ (h.env i)

theorem heap_lt {w : World} {b : Nat} {ob : Obj} (h : w.heap[b]? = some ob) : b < w.heap.size := (Array.getElem?_eq_some_iff.mp h).1

/-- Boxes that a step leaves alone. -/
theorem BoxRep.stay {g g' : Gh} {w w' : World} {id : Nat} {c : BoxC} (hd : g.dom id) (hs : GStays g w g' w')
    (hb : ∀ b o v, g.col b o = .bx id → w.cell? ⟨b, o, none⟩ = some v → w.frozen? ⟨b, o, none⟩ = false → g'.col b o = .bx id ∧ w'.cell? ⟨b, o, none⟩ = some v ∧ w'.frozen? ⟨b, o, none⟩ = false)
    (hi : ∀ ob, (∀ o, g.col (g.bx id).1 o = .bx id) → w.heap[(g.bx id).1]? = some ob → w.cell? ⟨(g.bx id).1, 0, none⟩ = none → w'.heap[(g.bx id).1]? = some ob ∧ ∀ o, g'.col (g.bx id).1 o = .bx id)
    (h : BoxRep g w id c) : BoxRep g' w' id c := by
  obtain ⟨d1, d2, d3, d4, d5, d6⟩ := hs.dom id hd
  have key : ∀ o us, BoxAt g w id o us → BoxAt g' w' id o us := by
    intro o us hat j v hj
    obtain ⟨a1, a2, a3⟩ := hat j v hj
    rw [d2]
    exact hb _ _ _ a1 a2 a3
  cases c with
  | cells cs =>
    obtain ⟨us, h1, h2⟩ := h
    exact ⟨us, Reps.mono hs _ _ h1, by rw [d2]; exact key _ _ h2⟩
  | arr t x =>
    obtain ⟨h1, ⟨h2, h2'⟩, h3⟩ := h
    refine ⟨d3.trans h1, ⟨d4.trans h2, by rw [d5, d2]; exact h2'⟩, fun i hi => ?_⟩
    obtain ⟨us, h4, h5⟩ := h3 i hi
    exact ⟨us, RepT.mono hs.toStays _ _ _ h4, by rw [d2]; exact key _ _ h5⟩
  | mix t x own =>
    obtain ⟨h1, ⟨h2, h2'⟩, h3, pa, h4⟩ := h
    refine ⟨d3.trans h1, ⟨d4.trans h2, by rw [d5, d2]; exact h2'⟩, h3, pa, ?_⟩
    rw [d2]
    exact TreeAt.mono hs.toStays d6 hb h4
  | iter s pos =>
    obtain ⟨h1, h2, h3⟩ := h
    obtain ⟨k1, k2⟩ := hi _ h2 h3 (by simp [World.cell?, h3])
    refine ⟨by rw [d2]; exact h1, ?_, ?_⟩
    · rw [d2]; exact k2
    · rw [d2]; exact k1

/-- The ghost with a new box in a new block. -/
def ghBox (g : Gh) (n d : Nat) (ln es : Nat) : Gh :=
  { g with col := colNew g.col n (fun _ => .bx d), bx := upd g.bx d (n, 0), ln := upd g.ln d ln, es := upd g.es d es, dom := fun i => i = d ∨ g.dom i, hd := upd g.hd d (some ⟨n, 0, none⟩, ln), nh := upd g.nh d fun _ _ => (none, 0, 0) }

theorem gstays_box {N : Fr} {c0 : Nat → Nat → Col} {w0 : World} {σ : AS} {g : Gh} {a : Act} {w : World} (h : Sim N c0 w0 σ g a w) {d : Nat} (hn : σ.box d = none) (ln es : Nat) (ob : Obj) :
    GStays g w (ghBox g w.heap.size d ln es) (w.alloc ob) where
  st := (stays_alloc g.col w (fun _ => .bx d) ob).st
  dom id hid := by
    have : id ≠ d := by
      rintro rfl
      obtain ⟨c, hc⟩ := h.dom id hid
      rw [hn] at hc; cases hc
    exact ⟨.inr hid, by show upd _ _ _ _ = _; rw [upd_eq, if_neg this], by show upd _ _ _ _ = _; rw [upd_eq, if_neg this], by show upd _ _ _ _ = _; rw [upd_eq, if_neg this], by show upd _ _ _ _ = _; rw [upd_eq, if_neg this], by show upd _ _ _ _ = _; rw [upd_eq, if_neg this]⟩
  us k hk := ⟨hk, fun l => ⟨l, rfl, fun _ e => e⟩⟩

theorem ghBox_old (g : Gh) (n d ln es : Nat) {b : Nat} (o : Nat) (h : b ≠ n) : (ghBox g n d ln es).col b o = g.col b o := if_neg h

theorem ghBox_new (g : Gh) (n d ln es o : Nat) : (ghBox g n d ln es).col n o = .bx d := if_pos rfl
theorem ghBox_bx (g : Gh) (n d ln es : Nat) : (ghBox g n d ln es).bx d = (n, 0) := by
  show upd _ _ _ _ = _; rw [upd_eq, if_pos rfl]
theorem ghBox_hd (g : Gh) (n d ln es : Nat) : (ghBox g n d ln es).hd d = (some ⟨n, 0, none⟩, ln) := by
  show upd _ _ _ _ = _; rw [upd_eq, if_pos rfl]
theorem ghBox_nh (g : Gh) (n d ln es : Nat) : (ghBox g n d ln es).nh d = fun _ _ => (none, 0, 0) := by
  show upd _ _ _ _ = _; rw [upd_eq, if_pos rfl]
theorem ghBox_ln (g : Gh) (n d ln es : Nat) : (ghBox g n d ln es).ln d = ln := by
  show upd _ _ _ _ = _; rw [upd_eq, if_pos rfl]
theorem ghBox_es (g : Gh) (n d ln es : Nat) : (ghBox g n d ln es).es d = es := by
  show upd _ _ _ _ = _; rw [upd_eq, if_pos rfl]

/-- A new box. -/
theorem Sim.newBox {N : Fr} {c0 : Nat → Nat → Col} {w0 : World} {σ : AS} {g : Gh} {a : Act} {w : World} (h : Sim N c0 w0 σ g a w) {dd d : Nat} (hd : dstOk N (some dd) = true) (hpb : d < pBase) (hn : σ.box d = none)
    {ln es : Nat} {ob : Obj} {c : BoxC} {p : PV} {v : Value}
    (hc : BoxRep (ghBox g w.heap.size d ln es) (w.alloc ob) d c)
    (hp : Rep (ghBox g w.heap.size d ln es) (w.alloc ob) p v) :
    Sim N c0 w0 (σ.app (some dd) { v := p, bx := [(d, c)] }) (ghBox g w.heap.size d ln es) (a.put (some dd) v) (w.alloc ob) := by
  have hs := gstays_box h hn ln es ob
  have hlt : dd < a.tmps.size := by rw [h.size]; exact dstOk_lt hd
  have hcell : ∀ b o u, w.cell? ⟨b, o, none⟩ = some u → b ≠ w.heap.size := fun b o u hu => Nat.ne_of_lt (World.block_lt_of_cell? w ⟨b, o, none⟩ hu)
  refine { off := h.off, stk := h.stk.mono hs, pts := ?_, size := ?_, env := fun i => ?_, defers := h.defers, box := fun id c' hc' => ?_, dom := fun id hid => ?_, tok := fun k hk => ?_, us := h.us, lv := h.lv, ob := ob_alloc h.ob _, keep := h.keep.alloc _, old := fun b hb o => ?_, cok := h.cok }
  · simp [Act.put, h.size]
  · intro id hid hdom
    have hne : id ≠ d := by omega
    have hdom : id = d ∨ g.dom id := hdom
    obtain ⟨_, e1, e2, _, e4, e5⟩ := hs.dom id (hdom.resolve_left hne)
    rw [e1, e2, e4, e5]
    exact h.pts id hid (hdom.resolve_left hne)
  · rw [getD_put _ _ _ _ hlt]
    show Rep _ _ (upd σ.env dd p i) _
    rw [upd_eq]
    split
    · exact hp
    · exact Rep.mono hs _ _ (h.env i)
  · change upd σ.box d (some c) id = some c' at hc'
    rw [upd_eq] at hc'
    split at hc'
    · rename_i e; subst e
      cases hc'
      exact ⟨.inl rfl, hc⟩
    · obtain ⟨h1, h2⟩ := h.box id c' hc'
      refine ⟨.inr h1, BoxRep.stay h1 hs (fun bb o u a1 a2 a3 => ?_) (fun ob' c1 c2 c3 => ?_) h2⟩
      rotate_left
      · have hlt := heap_lt c2
        exact ⟨(Below.heap_alloc w ob _ hlt).trans c2, fun o => (ghBox_old _ _ _ _ _ _ (by omega)).trans (c1 o)⟩
      have hb := hcell _ _ _ a2
      exact ⟨(ghBox_old _ _ _ _ _ _ hb).trans a1, by rw [World.cell?_alloc_old _ _ _ hb]; exact a2, by rw [World.frozen?_alloc_old _ _ _ hb]; exact a3⟩
  · show ∃ c', upd σ.box d (some c) id = some c'
    rw [upd_eq]
    split
    · exact ⟨_, rfl⟩
    · rename_i hne
      rcases hid with e | hid
      · exact absurd e hne
      · exact h.dom id hid
  · obtain ⟨h1, h2⟩ := h.tok k hk
    refine ⟨h1, fun o o1 o2 => ?_⟩
    obtain ⟨a1, ⟨u, a2⟩, a3⟩ := h2 o o1 o2
    have hb := hcell _ _ _ a2
    exact ⟨(ghBox_old _ _ _ _ _ _ hb).trans a1, ⟨u, by rw [World.cell?_alloc_old _ _ _ hb]; exact a2⟩, by rw [World.frozen?_alloc_old _ _ _ hb]; exact a3⟩
  · have hne : b ≠ w.heap.size := by have := h.keep.size; omega
    have e : (ghBox g w.heap.size d ln es).col b o = g.col b o := ghBox_old _ _ _ _ _ _ hne
    rw [e]
    exact h.old b hb o

/-- A new block whose cells are data that stays. -/
def ghSt (g : Gh) (n : Nat) : Gh := { g with col := colNew g.col n (fun _ => .st) }

theorem ghSt_old (g : Gh) (n : Nat) {b : Nat} (o : Nat) (h : b ≠ n) : (ghSt g n).col b o = g.col b o := if_neg h

theorem gstays_st (g : Gh) (w : World) (ob : Obj) : GStays g w (ghSt g w.heap.size) (w.alloc ob) where
  st := (stays_alloc g.col w (fun _ => .st) ob).st
  dom _ hid := ⟨hid, rfl, rfl, rfl, rfl, rfl⟩
  us _ hk := ⟨hk, fun l => ⟨l, rfl, fun _ e => e⟩⟩

theorem Sim.newSt {N : Fr} {c0 : Nat → Nat → Col} {w0 : World} {σ : AS} {g : Gh} {a : Act} {w : World} (h : Sim N c0 w0 σ g a w) (ob : Obj) : Sim N c0 w0 σ (ghSt g w.heap.size) a (w.alloc ob) := by
  have hs := gstays_st g w ob
  have hcell : ∀ b o u, w.cell? ⟨b, o, none⟩ = some u → b ≠ w.heap.size := fun b o u hu => Nat.ne_of_lt (World.block_lt_of_cell? w ⟨b, o, none⟩ hu)
  refine { off := h.off, stk := h.stk.mono hs, pts := h.pts, size := h.size, env := fun i => Rep.mono hs _ _ (h.env i), defers := h.defers, box := fun id c' hc' => ?_, dom := h.dom, tok := fun k hk => ?_, us := h.us, lv := h.lv, ob := ob_alloc h.ob _, keep := h.keep.alloc _, old := fun b hb o => ?_, cok := h.cok }
  · obtain ⟨h1, h2⟩ := h.box id c' hc'
    refine ⟨h1, BoxRep.stay h1 hs (fun bb o u a1 a2 a3 => ?_) (fun ob' c1 c2 c3 => ?_) h2⟩
    rotate_left
    · have hlt := heap_lt c2
      exact ⟨(Below.heap_alloc w ob _ hlt).trans c2, fun o => (ghSt_old _ _ _ (by omega)).trans (c1 o)⟩
    have hb := hcell _ _ _ a2
    exact ⟨(ghSt_old _ _ _ hb).trans a1, by rw [World.cell?_alloc_old _ _ _ hb]; exact a2, by rw [World.frozen?_alloc_old _ _ _ hb]; exact a3⟩
  · obtain ⟨h1, h2⟩ := h.tok k hk
    refine ⟨h1, fun o o1 o2 => ?_⟩
    obtain ⟨a1, ⟨u, a2⟩, a3⟩ := h2 o o1 o2
    have hb := hcell _ _ _ a2
    exact ⟨(ghSt_old _ _ _ hb).trans a1, ⟨u, by rw [World.cell?_alloc_old _ _ _ hb]; exact a2⟩, by rw [World.frozen?_alloc_old _ _ _ hb]; exact a3⟩
  · have hne : b ≠ w.heap.size := by have := h.keep.size; omega
    have e : (ghSt g w.heap.size).col b o = g.col b o := ghSt_old _ _ _ hne
    rw [e]
    exact h.old b hb o

/-- Cells of a box written. -/
theorem cell_setCells {w : World} {b o : Nat} {vs : List Value} (hc : ∀ j, j < vs.length → (w.cell? ⟨b, o + j, none⟩).isSome = true) (b' o' : Nat) :
    (w.setCells b o vs).cell? ⟨b', o', none⟩ = if b' = b ∧ o ≤ o' ∧ o' < o + vs.length then vs[o' - o]? else w.cell? ⟨b', o', none⟩ := by
  split
  · rename_i h
    obtain ⟨rfl, h1, h2⟩ := h
    have := World.cell?_setCells_in b' vs o w hc (o' - o) (by omega)
    rw [show o + (o' - o) = o' by omega] at this
    rw [this, List.getElem?_eq_getElem (by omega)]
  · rename_i h
    exact World.cell?_setCells_out b vs o w _ (fun e _ => by simp only at e ⊢; omega)

theorem size_setCells (b : Nat) : ∀ (vs : List Value) (o : Nat) (w : World), (w.setCells b o vs).heap.size = w.heap.size
  | [], _, _ => rfl
  | v :: r, o, w => by
    show ((w.setCell ⟨b, o, none⟩ v).setCells b (o + 1) r).heap.size = _
    rw [size_setCells b r (o + 1)]; simp

theorem heap_setCells (b k : Nat) (h : k ≠ b) : ∀ (vs : List Value) (o : Nat) (w : World), (w.setCells b o vs).heap[k]? = w.heap[k]?
  | [], _, _ => rfl
  | v :: r, o, w => by
    show ((w.setCell ⟨b, o, none⟩ v).setCells b (o + 1) r).heap[k]? = _
    rw [heap_setCells b k h r (o + 1)]
    exact Below.heap_setCell _ _ _ _ h

/-- A box's cells are written: the box holds something else, all others hold what they held. -/
theorem Sim.setBox {N : Fr} {c0 : Nat → Nat → Col} {w0 : World} {σ : AS} {g : Gh} {a : Act} {w : World} (h : Sim N c0 w0 σ g a w) {id o : Nat} {c c' : BoxC} {vs : List Value}
    (hb : σ.box id = some c) (hat : ∀ j, j < vs.length → g.col (g.bx id).1 (o + j) = .bx id ∧ (w.cell? ⟨(g.bx id).1, o + j, none⟩).isSome = true)
    (hc : GStays g w g (w.setCells (g.bx id).1 o vs) → BoxRep g (w.setCells (g.bx id).1 o vs) id c') :
    Sim N c0 w0 { σ with box := upd σ.box id (some c') } g a (w.setCells (g.bx id).1 o vs) := by
  have hcs := cell_setCells (fun j hj => (hat j hj).2)
  have hout : ∀ b' o' , g.col b' o' ≠ .bx id → (w.setCells (g.bx id).1 o vs).cell? ⟨b', o', none⟩ = w.cell? ⟨b', o', none⟩ := by
    intro b' o' hne
    rw [hcs, if_neg]
    rintro ⟨rfl, h1, h2⟩
    have := (hat (o' - o) (by omega)).1
    rw [show o + (o' - o) = o' by omega] at this
    exact hne this
  have hfr : ∀ x, (w.setCells (g.bx id).1 o vs).frozen? x = w.frozen? x := fun x => World.frozen?_setCells _ _ _ _ _
  have hs : GStays g w g (w.setCells (g.bx id).1 o vs) :=
    { GStays.refl g w with st := fun b' o' v h1 h2 => ⟨h1, by rw [hout b' o' (by rw [h1]; simp)]; exact h2⟩ }
  refine { off := h.off, stk := h.stk.mono hs, pts := h.pts, size := h.size, env := fun i => Rep.mono hs _ _ (h.env i), defers := h.defers, box := fun id' c1 hc1 => ?_, dom := fun id' hid => ?_, tok := fun k hk => ?_, us := h.us, lv := h.lv, ob := fun b hb => by
                obtain ⟨o1, o2, o3⟩ := h.ob b hb
                exact ⟨by rw [size_setCells]; exact o1, o2, fun o' => by rw [hfr]; exact o3 o'⟩, keep := ?_, old := h.old, cok := h.cok }
  · change upd σ.box id (some c') id' = some c1 at hc1
    rw [upd_eq] at hc1
    split at hc1
    · rename_i e; subst e
      cases hc1
      exact ⟨(h.box id' c hb).1, hc hs⟩
    · rename_i hne
      obtain ⟨h1, h2⟩ := h.box id' c1 hc1
      refine ⟨h1, BoxRep.stay h1 hs (fun bb o' u a1 a2 a3 => ⟨a1, ?_, by rw [hfr]; exact a3⟩) (fun ob' c1 c2 c3 => ⟨?_, c1⟩) h2⟩
      rotate_left
      · cases vs with
        | nil => exact c2
        | cons v r =>
          have hq := (hat 0 (by simp)).1
          rw [heap_setCells]
          · exact c2
          · intro e
            rw [← e, Nat.add_zero, c1] at hq
            exact hne (Col.bx.inj hq)
      rw [hout _ _ (by rw [a1]; simpa using hne)]; exact a2
  · show ∃ c1, upd σ.box id (some c') id' = some c1
    rw [upd_eq]
    split
    · exact ⟨_, rfl⟩
    · exact h.dom id' hid
  · obtain ⟨h1, h2⟩ := h.tok k hk
    refine ⟨h1, fun o' o1 o2 => ?_⟩
    obtain ⟨a1, ⟨u, a2⟩, a3⟩ := h2 o' o1 o2
    exact ⟨a1, ⟨u, by rw [hout _ _ (by rw [a1]; simp)]; exact a2⟩, by rw [hfr]; exact a3⟩
  · refine h.keep.setCells _ vs o w fun j hj => ?_
    by_cases hlt : (g.bx id).1 < w0.heap.size
    · exact .inr ⟨id, (h.old _ hlt _).2.1 id (hat j hj).1⟩
    · exact .inl (by omega)

/-- A string's walker goes on. -/
theorem Sim.setIter {N : Fr} {c0 : Nat → Nat → Col} {w0 : World} {σ : AS} {g : Gh} {a : Act} {w : World} (h : Sim N c0 w0 σ g a w) {id : Nat} {s : ByteArray} {pos : Nat} (hb : σ.box id = some (.iter s pos)) (pos' : Nat) :
    Sim N c0 w0 { σ with box := upd σ.box id (some (.iter s pos')) } g a { w with heap := w.heap.setIfInBounds (g.bx id).1 (.stringIter s pos') } := by
  obtain ⟨hd0, e1, e2, e3⟩ := h.box _ _ hb
  generalize hr : (g.bx id).1 = r at *
  have hlt := heap_lt e3
  have hsame : ({ w with heap := w.heap.setIfInBounds r (.stringIter s pos') } : World).heap[r]? = some (.stringIter s pos') := by
    show (w.heap.setIfInBounds r _)[r]? = _
    rw [Array.getElem?_setIfInBounds, if_pos rfl, if_pos hlt]
  have hoth : ∀ b, b ≠ r → ({ w with heap := w.heap.setIfInBounds r (.stringIter s pos') } : World).heap[b]? = w.heap[b]? := fun b hne => by
    show (w.heap.setIfInBounds r _)[b]? = _
    rw [Array.getElem?_setIfInBounds, if_neg (Ne.symm hne)]
  have hcell : ∀ b o, ({ w with heap := w.heap.setIfInBounds r (.stringIter s pos') } : World).cell? ⟨b, o, none⟩ = w.cell? ⟨b, o, none⟩ := fun b o => by
    by_cases e : b = r
    · subst e
      unfold World.cell?
      simp only
      rw [hsame, e3]
    · exact World.cell?_of_block (hoth b e)
  have hfrz : ∀ b o, ({ w with heap := w.heap.setIfInBounds r (.stringIter s pos') } : World).frozen? ⟨b, o, none⟩ = w.frozen? ⟨b, o, none⟩ := fun b o => by
    by_cases e : b = r
    · subst e
      unfold World.frozen?
      simp only
      rw [hsame, e3]
    · exact World.frozen?_of_block (hoth b e)
  have hs : GStays g w g { w with heap := w.heap.setIfInBounds r (.stringIter s pos') } :=
    { GStays.refl g w with st := fun b o v h1 h2 => ⟨h1, by rw [hcell]; exact h2⟩ }
  refine { off := h.off, stk := h.stk.mono hs, pts := h.pts, size := h.size, env := fun i => Rep.mono hs _ _ (h.env i), defers := h.defers, box := fun id' c1 hc1 => ?_, dom := fun id' hid => ?_, tok := fun k hk => ?_, us := h.us, lv := h.lv, ob := fun b hb => by
                obtain ⟨o1, o2, o3⟩ := h.ob b hb
                exact ⟨by show b < (w.heap.setIfInBounds r _).size; rw [Array.size_setIfInBounds]; exact o1, o2, fun o' => by rw [hfrz]; exact o3 o'⟩, keep := ?_, old := h.old, cok := h.cok }
  · change upd σ.box id (some (.iter s pos')) id' = some c1 at hc1
    rw [upd_eq] at hc1
    split at hc1
    · rename_i e; subst e
      cases hc1
      exact ⟨hd0, e1, by rw [hr]; exact e2, by rw [hr]; exact hsame⟩
    · rename_i hne
      obtain ⟨h1, h2⟩ := h.box id' c1 hc1
      refine ⟨h1, BoxRep.stay h1 hs (fun bb o' u a1 a2 a3 => ⟨a1, by rw [hcell]; exact a2, by rw [hfrz]; exact a3⟩) (fun ob' c1 c2 c3 => ⟨?_, c1⟩) h2⟩
      rw [hoth]
      · exact c2
      · intro e
        have := c1 0
        rw [e, e2 0] at this
        exact hne (Col.bx.inj this).symm
  · show ∃ c1, upd σ.box id (some (.iter s pos')) id' = some c1
    rw [upd_eq]
    split
    · exact ⟨_, rfl⟩
    · exact h.dom id' hid
  · obtain ⟨h1, h2⟩ := h.tok k hk
    refine ⟨h1, fun o' o1 o2 => ?_⟩
    obtain ⟨a1, ⟨u, a2⟩, a3⟩ := h2 o' o1 o2
    exact ⟨a1, ⟨u, by rw [hcell]; exact a2⟩, by rw [hfrz]; exact a3⟩
  · have hk := h.keep
    refine ⟨hk.os, hk.tape, hk.output, ?_, fun b hb' hc => ?_, fun b hb' o hc => by rw [hcell]; exact hk.cel b hb' o hc, fun b hb' o => by rw [hfrz]; exact hk.frz b hb' o⟩
    · show w0.heap.size ≤ (w.heap.setIfInBounds r _).size
      rw [Array.size_setIfInBounds]; exact hk.size
    · have hne : b ≠ r := by
        rintro rfl
        exact hc 0 id ((h.old b hb' 0).2.1 id (e2 0))
      rw [hoth b hne]; exact hk.blk b hb' hc

end Go.VE
