import Derived.Test.YtnjlpdagdedbaaaGreatViC
import Derived.Laws.Cells
import Derived.Laws.IdiomCopy
import Derived.Laws.Append
import Derived.Laws.Slices
import Derived.Laws.Small
import Derived.Deep.Draws
/- What a run of the evaluator says of memory, and what an operation makes of it. -/
namespace Go.VE
open Go.RowKit (Below)

def BoxAt (g : Gh) (w : World) (id o : Nat) (us : List Value) : Prop :=
  ∀ j v, us[j]? = some v → g.col (g.bx id).1 (o + j) = .bx id ∧ w.cell? ⟨(g.bx id).1, o + j, none⟩ = some v ∧ w.frozen? ⟨(g.bx id).1, o + j, none⟩ = false

def BoxRep (g : Gh) (w : World) (id : Nat) : BoxC → Prop
  | .cells cs => ∃ us, Reps g w cs us ∧ BoxAt g w id (g.bx id).2 us
  | .arr t x => g.ln id = x.len ∧ (g.es id = t.size ∧ (0 < x.len → (g.hd id).1 = some ⟨(g.bx id).1, (g.bx id).2, none⟩) ∧ ((g.hd id).1 = none → (g.hd id).2 = 0) ∧ x.len ≤ (g.hd id).2 ∧ (x.nil = true ↔ (g.hd id).1 = none)) ∧ ∀ i, i < x.len → ∃ us, RepT g.col w t (x.get i) us ∧ BoxAt g w id ((g.bx id).2 + i * t.size) us
  | .mix t x own => g.ln id = x.len ∧ (g.es id = t.size ∧ (0 < x.len → (g.hd id).1 = some ⟨(g.bx id).1, (g.bx id).2, none⟩) ∧ ((g.hd id).1 = none → (g.hd id).2 = 0) ∧ x.len ≤ (g.hd id).2 ∧ (x.nil = true ↔ (g.hd id).1 = none)) ∧ t.fl1 = true ∧ ∃ pa, TreeAt g.col w id (g.nh id) pa (ownB own) t x (g.bx id).1 (g.bx id).2
  | .iter s pos => (g.bx id).2 = 0 ∧ (∀ o, g.col (g.bx id).1 o = .bx id) ∧ w.heap[(g.bx id).1]? = some (.stringIter s pos)

/-- What was there before a call: nothing of it has turned, but for the cells of boxes. -/
structure Keep (c0 : Nat → Nat → Col) (w0 w : World) : Prop where
  os : w.os = w0.os
  tape : w.tape = w0.tape
  output : w.output = w0.output
  size : w0.heap.size ≤ w.heap.size
  blk : ∀ b, b < w0.heap.size → (∀ o id, c0 b o ≠ .bx id) → w.heap[b]? = w0.heap[b]?
  cel : ∀ b, b < w0.heap.size → ∀ o, (∀ id, c0 b o ≠ .bx id) → w.cell? ⟨b, o, none⟩ = w0.cell? ⟨b, o, none⟩
  frz : ∀ b, b < w0.heap.size → ∀ o, w.frozen? ⟨b, o, none⟩ = w0.frozen? ⟨b, o, none⟩

theorem Keep.refl (c0 : Nat → Nat → Col) (w : World) : Keep c0 w w := ⟨rfl, rfl, rfl, Nat.le_refl _, fun _ _ _ => rfl, fun _ _ _ _ => rfl, fun _ _ _ => rfl⟩
theorem Keep.drew {c0 : Nat → Nat → Col} {w0 w : World} (h : Keep c0 w0 w) : Keep c0 w0 w.drew := ⟨h.os, h.tape, h.output, h.size, h.blk, h.cel, h.frz⟩
theorem Keep.alloc {c0 : Nat → Nat → Col} {w0 w : World} (h : Keep c0 w0 w) (o : Obj) : Keep c0 w0 (w.alloc o) := by
  have hb : ∀ b, b < w0.heap.size → (w.alloc o).heap[b]? = w.heap[b]? := fun b hb => Below.heap_alloc w o b (Nat.lt_of_lt_of_le hb h.size)
  refine ⟨h.os, h.tape, h.output, ?_, fun b hl hc => (hb b hl).trans (h.blk b hl hc), fun b hl o' hc => ?_, fun b hl o' => ?_⟩
  · have := h.size; simp; omega
  · rw [World.cell?_of_block (w := w) (hb b hl)]; exact h.cel b hl o' hc
  · rw [World.frozen?_of_block (w := w) (hb b hl)]; exact h.frz b hl o'
theorem Keep.setCell {c0 : Nat → Nat → Col} {w0 w : World} (h : Keep c0 w0 w) (b o : Nat) (v : Value) (hc : w0.heap.size ≤ b ∨ ∃ id, c0 b o = .bx id) : Keep c0 w0 (w.setCell ⟨b, o, none⟩ v) := by
  refine ⟨h.os, h.tape, h.output, by simpa using h.size, fun b' hl hn => ?_, fun b' hl o' hn => ?_, fun b' hl o' => ?_⟩
  · have : b' ≠ b := by
      rintro rfl
      rcases hc with hc | ⟨id, hc⟩
      · omega
      · exact hn o id hc
    rw [Below.heap_setCell _ _ _ _ (by simpa using this)]; exact h.blk b' hl hn
  · rw [World.cell?_setCell_other]
    · exact h.cel b' hl o' hn
    · intro e
      simp only [Addr.mk.injEq, and_true] at e
      obtain ⟨rfl, rfl⟩ := e
      rcases hc with hc | ⟨id, hc⟩
      · omega
      · exact hn id hc
  · rw [World.frozen?_setCell]; exact h.frz b' hl o'
theorem Keep.setCells {c0 : Nat → Nat → Col} {w0 : World} (b : Nat) : ∀ (vs : List Value) (o : Nat) (w : World), Keep c0 w0 w → (∀ j, j < vs.length → w0.heap.size ≤ b ∨ ∃ id, c0 b (o + j) = .bx id) → Keep c0 w0 (w.setCells b o vs)
  | [], _, _, h, _ => h
  | v :: r, o, w, h, hc => by
    refine Keep.setCells b r (o + 1) _ (h.setCell b o v (by simpa using hc 0 (by simp))) fun j hj => ?_
    have := hc (j + 1) (by simp; omega)
    rwa [show o + 1 + j = o + (j + 1) by omega]

/-- A frame: its slots, and where the pointees lie that were handed in. -/
structure Fr where
  n : Nat
  b0 : Nat → Nat × Nat
  l0 : Nat → Nat
  h0 : Nat → Option Addr × Nat
  n0 : Nat → Nat → Nat → Option Addr × Nat × Nat
  /-- Where the names begin of what is made here; the variables of those that called. -/
  z : Nat := 0
  stk : List (Nat → Value) := []

/-- The variables of those that called. -/
def StkRep (g : Gh) (w : World) : List (Nat → PV) → List (Nat → Value) → Prop
  | [], fs => fs = []
  | e :: r, fs => ∃ f s, fs = f :: s ∧ (∀ i, Rep g w (e i) (f i)) ∧ StkRep g w r s

theorem StkRep.map {g g' : Gh} {w w' : World} (h : ∀ (p : PV) (v : Value), Rep g w p v → Rep g' w' p v) : ∀ {es : List (Nat → PV)} {fs : List (Nat → Value)}, StkRep g w es fs → StkRep g' w' es fs
  | [], _, k => k
  | _ :: _, _, ⟨f, s, e, h1, h2⟩ => ⟨f, s, e, fun i => h _ _ (h1 i), StkRep.map h h2⟩
theorem StkRep.mono {g g' : Gh} {w w' : World} (hs : GStays g w g' w') {es : List (Nat → PV)} {fs : List (Nat → Value)} (h : StkRep g w es fs) : StkRep g' w' es fs := h.map fun _ _ k => Rep.mono hs _ _ k

structure Sim (N : Fr) (c0 : Nat → Nat → Col) (w0 : World) (σ : AS) (g : Gh) (a : Act) (w : World) : Prop where
  size : a.tmps.size = N.n
  off : σ.off = N.z
  stk : StkRep g w σ.stk N.stk
  pts : ∀ id, pBase ≤ id → g.dom id → g.bx id = N.b0 id ∧ g.ln id = N.l0 id ∧ g.hd id = N.h0 id ∧ g.nh id = N.n0 id
  env : ∀ i, Rep g w (σ.env i) (a.tmps.getD i undef)
  defers : a.defers = []
  box : ∀ id c, σ.box id = some c → g.dom id ∧ BoxRep g w id c
  dom : ∀ id, g.dom id → ∃ c, σ.box id = some c
  tok : ∀ k, σ.live k = 1 → g.lv k ∧ ∀ o, (g.tk k).2.1 ≤ o → o < (g.tk k).2.2 → g.col (g.tk k).1 o = .tk k ∧ (∃ v, w.cell? ⟨(g.tk k).1, o, none⟩ = some v) ∧ w.frozen? ⟨(g.tk k).1, o, none⟩ = false
  us : ∀ k, g.us k → σ.live k ≠ 0
  lv : ∀ k, g.lv k → σ.live k = 1 ∧ g.us k
  ob : ∀ b, g.ob b ≠ 0 → b < w.heap.size ∧ w0.heap.size ≤ b ∧ ∀ o, w.frozen? ⟨b, o, none⟩ = false
  keep : Keep c0 w0 w
  old : ∀ b, b < w0.heap.size → ∀ o, (g.col b o = .st ↔ c0 b o = .st) ∧ (∀ id, g.col b o = .bx id → c0 b o = .bx id) ∧ ∀ k, g.col b o ≠ .tk k
  cok : ∀ b o id, c0 b o = .bx id → pBase ≤ id

theorem TreeAt.monoW {col col' : Nat → Nat → Col} {w w' : World} {id id' : Nat} {nh nh' : Nat → Nat → Option Addr × Nat × Nat} {pa : Nat → Nat → Option (Nat × Nat)} {own : Nat → Bool} {t : Ty} {x : L t.T} {b o : Nat} (hs : Stays col w col' w') (hnh : nh' = nh)
    (hb : ∀ b' o' v, (∃ q, pa b' o' = some q) ∨ (∃ n, n < x.len * t.size ∧ b' = b ∧ o' = o + n) → col b' o' = .bx id → w.cell? ⟨b', o', none⟩ = some v → w.frozen? ⟨b', o', none⟩ = false → col' b' o' = .bx id' ∧ w'.cell? ⟨b', o', none⟩ = some v ∧ w'.frozen? ⟨b', o', none⟩ = false)
    (h : TreeAt col w id nh pa own t x b o) : TreeAt col' w' id' nh' pa own t x b o := by
  intro i hi
  obtain ⟨us, h1, h2⟩ := h i hi
  have hlen : us.length = t.size := by
    split at h1
    · exact h1.length
    · exact h1.length
  refine ⟨us, ?_, fun q u hq => ?_⟩
  · split
    · rename_i ho
      rw [if_pos ho] at h1
      exact RepE.mono hs (fun j => by rw [hnh]) (fun b o v j a1 a2 a3 a4 => by obtain ⟨c1, c2, c3⟩ := hb b o v (.inl ⟨_, a2⟩) a1 a3 a4; exact ⟨c1, a2, c2, c3⟩) _ _ _ _ h1
    · rename_i ho
      rw [if_neg ho] at h1
      exact RepT.mono hs _ _ _ h1
  · obtain ⟨a1, a2, a3, a4⟩ := h2 q u hq
    have hql : q < t.size := by rw [← hlen]; exact (List.getElem?_eq_some_iff.mp hq).1
    have hlt : i * t.size + q < x.len * t.size := by
      have : (i + 1) * t.size ≤ x.len * t.size := Nat.mul_le_mul_right _ hi
      rw [Nat.add_mul, Nat.one_mul] at this; omega
    obtain ⟨c1, c2, c3⟩ := hb _ _ _ (.inr ⟨i * t.size + q, hlt, rfl, by omega⟩) a1 a3 a4
    exact ⟨c1, a2, c2, c3⟩

theorem TreeAt.mono {col col' : Nat → Nat → Col} {w w' : World} {id id' : Nat} {nh nh' : Nat → Nat → Option Addr × Nat × Nat} {pa : Nat → Nat → Option (Nat × Nat)} {own : Nat → Bool} {t : Ty} {x : L t.T} {b o : Nat} (hs : Stays col w col' w') (hnh : nh' = nh)
    (hb : ∀ b o v, col b o = .bx id → w.cell? ⟨b, o, none⟩ = some v → w.frozen? ⟨b, o, none⟩ = false → col' b o = .bx id' ∧ w'.cell? ⟨b, o, none⟩ = some v ∧ w'.frozen? ⟨b, o, none⟩ = false)
    (h : TreeAt col w id nh pa own t x b o) : TreeAt col' w' id' nh' pa own t x b o := TreeAt.monoW hs hnh (fun b' o' v _ => hb b' o' v) h

theorem ob_alloc {g : Gh} {w0 w : World} (h : ∀ b, g.ob b ≠ 0 → b < w.heap.size ∧ w0.heap.size ≤ b ∧ ∀ o, w.frozen? ⟨b, o, none⟩ = false) (x : Obj) :
    ∀ b, g.ob b ≠ 0 → b < (w.alloc x).heap.size ∧ w0.heap.size ≤ b ∧ ∀ o, (w.alloc x).frozen? ⟨b, o, none⟩ = false := fun b hb => by
  obtain ⟨h1, h2, h3⟩ := h b hb
  refine ⟨by simp; omega, h2, fun o => ?_⟩
  rw [World.frozen?_alloc_old _ _ _ (by show b ≠ _; omega)]
  exact h3 o

/-- A world that is the same to all eyes but the drawn one. -/
theorem stays_drew {g : Gh} {w : World} : GStays g w g w.drew := { GStays.refl g w with st := fun _ _ _ h h' => ⟨h, h'⟩ }

theorem BoxAt.mono {g : Gh} {w w' : World} {id o : Nat} {us : List Value} (h : BoxAt g w id o us) (hw : ∀ o' v, g.col (g.bx id).1 o' = .bx id → w.cell? ⟨(g.bx id).1, o', none⟩ = some v → w.frozen? ⟨(g.bx id).1, o', none⟩ = false → w'.cell? ⟨(g.bx id).1, o', none⟩ = some v ∧ w'.frozen? ⟨(g.bx id).1, o', none⟩ = false) : BoxAt g w' id o us :=
  fun j v hj => let ⟨a, b, c⟩ := h j v hj; let ⟨d, e⟩ := hw _ v a b c; ⟨a, d, e⟩

theorem Sim.drew {N : Fr} {c0 : Nat → Nat → Col} {w0 : World} {σ : AS} {g : Gh} {a : Act} {w : World} (h : Sim N c0 w0 σ g a w) : Sim N c0 w0 σ g a w.drew where
  size := h.size
  off := h.off
  stk := h.stk.mono stays_drew
  pts := h.pts
  env i := Rep.mono stays_drew _ _ (h.env i)
  defers := h.defers
  box id c hc := by
    obtain ⟨h1, h2⟩ := h.box id c hc
    refine ⟨h1, ?_⟩
    cases c with
    | cells cs => obtain ⟨us, h3, h4⟩ := h2; exact ⟨us, Reps.mono stays_drew _ _ h3, h4⟩
    | arr t x =>
      obtain ⟨h3, h4, h5⟩ := h2
      refine ⟨h3, h4, fun i hi => ?_⟩
      obtain ⟨us, h6, h7⟩ := h5 i hi
      exact ⟨us, RepT.mono stays_drew.toStays _ _ _ h6, h7⟩
    | mix t x own =>
      obtain ⟨h3, h4, h5, pa, h6⟩ := h2
      exact ⟨h3, h4, h5, pa, TreeAt.mono stays_drew.toStays rfl (fun _ _ _ a1 a2 a3 => ⟨a1, a2, a3⟩) h6⟩
    | iter s pos => exact h2
  dom := h.dom
  tok := h.tok
  us := h.us
  lv := h.lv
  ob := h.ob
  keep := h.keep.drew
  old := h.old
  cok := h.cok

theorem getD_put (a : Act) (d : Nat) (v : Value) (i : Nat) (hd : d < a.tmps.size) : (a.put (some d) v).tmps.getD i undef = if i = d then v else a.tmps.getD i undef := by
  simp only [Act.put, Array.getD_eq_getD_getElem?, Array.getElem?_setIfInBounds]
  by_cases h : d = i
  · subst h; simp [hd]
  · simp [h, Ne.symm h]

theorem upd_eq {α : Type} (f : Nat → α) (d : Nat) (v : α) (i : Nat) : upd f d v i = if i = d then v else f i := by
  simp only [upd]
  by_cases h : i = d
  · subst h; simp
  · cases hb : Nat.beq i d with
    | true => exact absurd (Nat.eq_of_beq_eq_true hb) h
    | false => simp [h]

def dstOk (N : Fr) (dst : Option Nat) : Bool := dstOkN N.n N.z dst
theorem dstOk_lt {N : Fr} {d : Nat} (h : dstOk N (some d) = true) : d < N.n := by
  simp only [dstOk, dstOkN, Bool.and_eq_true, Nat.blt_eq] at h; exact h.1
theorem dstOk_pb {N : Fr} {d : Nat} (h : dstOk N (some d) = true) : N.z + d < pBase := by
  simp only [dstOk, dstOkN, Bool.and_eq_true, Nat.blt_eq] at h; exact h.2

/-- A value is put into a slot. -/
theorem Sim.put {N : Fr} {c0 : Nat → Nat → Col} {w0 : World} {σ : AS} {g : Gh} {a : Act} {w : World} (h : Sim N c0 w0 σ g a w) {dst : Option Nat} (hd : dstOk N dst = true) {p : PV} {v : Value} (hr : Rep g w p v) :
    Sim N c0 w0 (σ.put dst p) g (a.put dst v) w := by
  cases dst with
  | none => exact h
  | some d =>
    have hlt : d < a.tmps.size := by rw [h.size]; exact dstOk_lt hd
    refine { h with size := ?_, off := h.off, stk := h.stk, env := fun i => ?_, defers := h.defers, box := h.box, dom := h.dom, tok := h.tok, us := h.us }
    · simp [Act.put, h.size]
    · rw [getD_put _ _ _ _ hlt]
      show Rep g w (upd σ.env d p i) _
      rw [upd_eq]
      split
      · exact hr
      · exact h.env i

theorem AS.app_plain (σ : AS) (dst : Option Nat) (p : PV) : σ.app dst { v := p } = σ.put dst p := by
  cases dst <;> rfl

theorem evO_rep {N : Fr} {c0 : Nat → Nat → Col} {w0 : World} {σ : AS} {g : Gh} {a : Act} {w : World} (h : Sim N c0 w0 σ g a w) (x : Operand) : Rep g w (evO σ.env x) (a.eval x) := by
  cases x with
  | tmp t => exact h.env t
  | const v =>
    show Rep g w (ofV v) v
    have h1 : ∀ u : Value, Rep g w (ofV1 u) u := by
      intro u
      unfold ofV1
      split <;> simp only [Rep]
    cases v with
    | agg cs =>
      simp only [ofV, Rep]
      refine ⟨cs.toList, by simp, Reps.of_get (by simp) fun i p v hp hv => ?_⟩
      simp only [List.getElem?_map] at hp
      rw [hv] at hp
      simp only [Option.map_some, Option.some.injEq] at hp
      subst hp; exact h1 v
    | _ => first | exact h1 _ | (simp only [ofV]; exact h1 _)
  | global n => simp only [evO, Rep]
  | func f => simp only [evO, Rep]; exact ⟨[], by simp [Act.eval], by simp only [Reps]⟩

theorem ofV1_rep (g : Gh) (w : World) (u : Value) : Rep g w (ofV1 u) u := by
  unfold ofV1
  split <;> simp only [Rep]

theorem unV_rep {g : Gh} {w : World} {t : Ty} {p : PV} {x : t.T} {v : Value} (h : unV t p = some x) (hr : Rep g w p v) : ∃ us, RepT g.col w t x us ∧ v = mkV t us := by
  unfold unV at h
  split at h
  · rename_i hb
    cases p with
    | agg cs =>
      simp only [Rep] at hr
      obtain ⟨vs, rfl, h2⟩ := hr
      refine ⟨vs, unA_rep h h2, ?_⟩
      cases t <;> simp [PV.isAg, Ty.isAgg] at hb <;> rfl
    | _ =>
      refine ⟨[v], unA_rep h (by simp only [PV.cel, Reps]; exact ⟨v, [], rfl, hr, rfl⟩), ?_⟩
      cases t <;> simp [PV.isAg, Ty.isAgg] at hb <;> rfl
  · cases h

/-- What an operation that turns nothing gives. -/
def Gives (P : Program) (o : Oper) (a : Act) (w : World) (v : Value) : Prop := (execOp a.eval o).run P w = .ok (.value v) w

theorem Gives.wp {P : Program} {o : Oper} {a : Act} {w : World} {v : Value} (h : Gives P o a w v) {next : Act → World → Prop} {Q : Exit → Act → World → Prop} (hn : next (a.put o.dst v) w) : o.wp P a w next Q := by
  unfold Oper.wp
  rw [show (execOp a.eval o).run P w = .ok (.value v) w from h]
  exact hn

end Go.VE
