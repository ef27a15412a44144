import Derived.Test.YtnjlpdagdedbaaaGreatViK
/- Calls: what a function is said to do, and that a call of it does it. -/
namespace Go.VE

def WinRep (col : Nat → Nat → Col) (w : World) (t : Ty) (x : t.T) (v : Value) : Prop := ∃ b o us, v = .pointer (some ⟨b, o, none⟩) ∧ RepT col w t x us ∧ CellsAt col w b o us

def CapsRep (col : Nat → Nat → Col) (w : World) : (ts : List Ty) → TysT ts → List Value → Prop
  | [], _, vs => vs = []
  | t :: r, x, vs => ∃ u us, vs = u :: us ∧ WinRep col w t x.1 u ∧ CapsRep col w r x.2 us

/-- An argument: i is its place. -/
def ArgRep (col : Nat → Nat → Col) (w : World) : (a : In) → a.T → Nat → Value → Prop
  | .v t, x, _, v => ∃ us, RepT col w t x us ∧ v = mkV t us
  | .rf t, x, _, v => WinRep col w t x v
  | .pt t, x, i, v => ∃ b o us, v = .pointer (some ⟨b, o, none⟩) ∧ RepT col w t x us ∧ ∀ (j : Nat) (u : Value), us[j]? = some u → col b (o + j) = .bx (pBase + i) ∧ w.cell? ⟨b, o + j, none⟩ = some u ∧ w.frozen? ⟨b, o + j, none⟩ = false
  | .ow t, x, i, v => ∃ a cap, v = .slice a x.len cap ∧ x.len ≤ cap ∧ ((a = none → cap = 0) ∧ (x.nil = true ↔ a = none)) ∧ (t.flat = false → t.fl1 = true) ∧ ∃ nh pa, (0 < x.len → ∃ b o, a = some ⟨b, o, none⟩ ∧ TreeAt col w (pBase + i) nh pa (fun _ => true) t x b o)
  | .clo f ts, x, _, v => ∃ vs : List Value, v = .func (.func f) #[] vs.toArray ∧ CapsRep col w ts x vs
def ArgsRep (col : Nat → Nat → Col) (w : World) : (as : List In) → InsT as → Nat → List Value → Prop
  | [], _, _, vs => vs = []
  | a :: r, x, i, vs => ∃ u us, vs = u :: us ∧ ArgRep col w a x.1 i u ∧ ArgsRep col w r x.2 (i + 1) us
/-- An element whose slices lie where they lay in a world before. -/
def RepC (col : Nat → Nat → Col) (w0 w : World) (b : Nat) : (t : Ty) → t.T → List Value → Nat → Prop
  | .int k, n, vs, _ => vs = [.int k n]
  | .bool, b, vs, _ => vs = [.bool b]
  | .str, s, vs, _ => vs = [.string s]
  | .unit, _, vs, _ => vs = []
  | .pair p q, x, vs, o => ∃ v1 v2, vs = v1 ++ v2 ∧ RepC col w0 w b p x.1 v1 o ∧ RepC col w0 w b q x.2 v2 (o + p.size)
  | .sl t, x, vs, o => ∃ a cap, vs = [.slice a x.len cap] ∧ w0.cell? ⟨b, o, none⟩ = some (.slice a x.len cap) ∧ (x.nil = true ↔ a = none) ∧ ∀ ad, a = some ad → ∀ k, k < x.len → ∃ us, RepT col w t (x.get k) us ∧
      ∀ (q : Nat) (u : Value), us[q]? = some u → w.cell? ⟨ad.block, ad.off + k * t.size + q, none⟩ = some u
/-- What the pointees hold behind a call. -/
def PtsRep (col : Nat → Nat → Col) (w0 w : World) : (as : List In) → PtT as → List Value → Prop
  | [], _, _ => True
  | .pt t :: r, y, vs => ∃ b o us tl, vs = .pointer (some ⟨b, o, none⟩) :: tl ∧ RepT col w t y.1 us ∧ (∀ (j : Nat) (u : Value), us[j]? = some u → w.cell? ⟨b, o + j, none⟩ = some u) ∧ PtsRep col w0 w r y.2 tl
  | .ow t :: r, y, vs => ∃ a cap tl, vs = .slice a y.1.len cap :: tl ∧ (y.1.nil = true ↔ a = none) ∧ (0 < y.1.len → ∃ b o, a = some ⟨b, o, none⟩ ∧ ∀ k, k < y.1.len → ∃ us, RepC col w0 w b t (y.1.get k) us (o + k * t.size) ∧
      ∀ (j : Nat) (u : Value), us[j]? = some u → w.cell? ⟨b, o + k * t.size + j, none⟩ = some u) ∧ PtsRep col w0 w r y.2 tl
  | .v _ :: r, y, vs => PtsRep col w0 w r y vs.tail
  | .rf _ :: r, y, vs => PtsRep col w0 w r y vs.tail
  | .clo _ _ :: r, y, vs => PtsRep col w0 w r y vs.tail
def OutRep (col : Nat → Nat → Col) (w : World) : (ts : List Ty) → TysT ts → List Value → Prop
  | [], _, vs => vs = []
  | t :: r, y, vs => ∃ u us, vs = u :: us ∧ (∃ cs, RepT col w t y.1 cs ∧ u = mkV t cs) ∧ OutRep col w r y.2 us
/-- A pointer to memory of its own. -/
def PtrRep (col : Nat → Nat → Col) (w w' : World) : (ts : List Ty) → TysT ts → Value → Prop
  | [t], y, v => ∃ b o us, v = .pointer (some ⟨b, o, none⟩) ∧ w.heap.size ≤ b ∧ RepT col w' t y.1 us ∧ ∀ (j : Nat) (u : Value), us[j]? = some u → col b (o + j) = .bx oBase ∧ w'.cell? ⟨b, o + j, none⟩ = some u ∧ w'.frozen? ⟨b, o + j, none⟩ = false
  | _, _, _ => False
def ResRep (col : Nat → Nat → Col) (w : World) (ts : List Ty) (y : TysT ts) (v : Value) : Prop := ∃ vs : List Value, OutRep col w ts y vs ∧ v = (if h : vs.toArray.size = 1 then vs.toArray[0] else .tuple vs.toArray)

/-- Data whose slices each lie in memory of their own, made by a call. -/
def FrT (col : Nat → Nat → Col) (w w' : World) : (t : Ty) → t.T → List Value → Nat → Prop
  | .int k, n, vs, _ => vs = [.int k n]
  | .bool, b, vs, _ => vs = [.bool b]
  | .str, s, vs, _ => vs = [.string s]
  | .unit, _, vs, _ => vs = []
  | .pair a b, x, vs, j => ∃ v1 v2, vs = v1 ++ v2 ∧ FrT col w w' a x.1 v1 j ∧ FrT col w w' b x.2 v2 (j + a.nsl)
  | .sl t, x, vs, j => ∃ a cap, vs = [.slice a x.len cap] ∧ x.len ≤ cap ∧ ((a = none → cap = 0) ∧ (x.nil = true ↔ a = none)) ∧ (t.flat = false → t.fl1 = true) ∧ ∃ nh pa, (∀ b o q, pa b o = some q → w.heap.size ≤ b) ∧ ∀ ad, a = some ad → (0 < x.len → ad.spot = none) ∧
      (∀ k, k < x.len * t.size → w.heap.size ≤ ad.block ∧ col ad.block (ad.off + k) = .bx (oBase + j) ∧ w'.frozen? ⟨ad.block, ad.off + k, none⟩ = false) ∧ TreeAt col w' (oBase + j) nh pa (fun _ => true) t x ad.block ad.off
/-- Data whose slices each lie in a block of its own, made by a call, and what lies behind their ends is nobody's. -/
def OwT (col : Nat → Nat → Col) (w w' : World) (ob : Nat → Nat) : (t : Ty) → t.T → List Value → Nat → Prop
  | .int k, n, vs, _ => vs = [.int k n]
  | .bool, b, vs, _ => vs = [.bool b]
  | .str, s, vs, _ => vs = [.string s]
  | .unit, _, vs, _ => vs = []
  | .pair a b, x, vs, j => ∃ v1 v2, vs = v1 ++ v2 ∧ OwT col w w' ob a x.1 v1 j ∧ OwT col w w' ob b x.2 v2 (j + a.nsl)
  | .sl t, x, vs, j => ∃ a cap, vs = [.slice a x.len cap] ∧ RepT col w' (.sl t) x [.slice a x.len cap] ∧ ∀ ad, a = some ad → ad.spot = none ∧
      (0 < cap * t.size → w.heap.size ≤ ad.block ∧ ad.block < w'.heap.size ∧ ob ad.block = j + 1 ∧ ∀ o, w'.frozen? ⟨ad.block, o, none⟩ = false) ∧
      ∀ k, x.len * t.size ≤ k → k < cap * t.size → col ad.block (ad.off + k) = .bx (oBase + j) ∧ ∃ u, w'.cell? ⟨ad.block, ad.off + k, none⟩ = some u
def FrOuts (Rp : (t : Ty) → t.T → List Value → Nat → Prop) : (ts : List Ty) → TysT ts → List Value → Nat → Prop
  | [], _, vs, _ => vs = []
  | t :: r, y, vs, j => ∃ u us, vs = u :: us ∧ (∃ cs, Rp t y.1 cs j ∧ u = mkV t cs) ∧ FrOuts Rp r y.2 us (j + t.nsl)
def tupV (vs : List Value) : Value := if h : vs.toArray.size = 1 then vs.toArray[0] else .tuple vs.toArray
/-- What comes back of a call. -/
def OutIs (c : Ctr) (col' : Nat → Nat → Col) (w w' : World) (y : TysT c.out) (v : Value) : Prop :=
  if c.ptr = true then PtrRep col' w w' c.out y v
  else match c.fr with
    | 0 => ResRep col' w' c.out y v
    | 1 => ∃ vs, FrOuts (FrT col' w w') c.out y vs 0 ∧ v = tupV vs
    | _ => ∃ vs ob, FrOuts (OwT col' w w' ob) c.out y vs 0 ∧ v = tupV vs

def Enters (P : Program) (f : FuncId) : Prop := ∃ fn, P.funcs[f]? = some fn ∧ (fn.name == "runtime.NumGoroutine") = false ∧ fn.body.isSome = true

def Behind (c : Ctr) (col : Nat → Nat → Col) (w : World) (args : Array Value) (y : TysT c.out × PtT c.ins) (e : Ending) (w' : World) : Prop :=
  ∃ v col', e = .returned v ∧ Keep col w w' ∧ (∀ b, b < w.heap.size → ∀ o, (col' b o = .st ↔ col b o = .st)) ∧ OutIs c col' w w' y.1 v ∧ PtsRep col' w w' c.ins y.2 args.toList

/-- The colours that a call begins with. -/
structure ColOk (col : Nat → Nat → Col) : Prop where
  tk : ∀ b o k, col b o ≠ .tk k
  bx : ∀ b o id, col b o = .bx id → pBase ≤ id

/-- A function does what is said of it: whatever memory it is called in. -/
def Holds (P : Program) (f : FuncId) (c : Ctr) : Prop :=
  Enters P f ∧ ∀ x y, c.F x = some y → ∀ (col : Nat → Nat → Col) (w : World) (args : Array Value), ColOk col → ArgsRep col w c.ins x 0 args.toList → Calls P f args w (Behind c col w args y)

def TblOk (P : Program) (T : Tbl) : Prop := ∀ f gs c, (f, gs, c) ∈ T → Holds P f c

theorem TblOk.find {P : Program} : ∀ {T : Tbl}, TblOk P T → ∀ {f gs c}, T.find f gs = some c → Holds P f c
  | [], _, f, gs, c, h => by simp [Tbl.find] at h
  | (f', gs', c') :: r, hT, f, gs, c, h => by
    simp only [Tbl.find] at h
    split at h
    · rename_i hb
      simp only [Bool.and_eq_true] at hb
      cases h
      have := Nat.eq_of_beq_eq_true hb.1
      subst this
      exact hT f gs' c' (by simp)
    · exact TblOk.find (fun f gs c hm => hT f gs c (by simp [hm])) h

/-- The windows that are handed on to be written: box, which cells, place. -/
abbrev Win := Nat × (Nat → Nat → Bool) × Nat
def winQ (lo hi : Nat) : Nat → Nat → Bool := fun _ o => decide (lo ≤ o) && decide (o < hi)
def winH (a : Option Addr) (n : Nat) : Nat → Nat → Bool := fun b o => match a with
  | some ad => Nat.beq b ad.block && (decide (ad.off ≤ o) && decide (o < ad.off + n))
  | none => false
def ptWins (g : Gh) : List In → List PV → Nat → List Win
  | .ow t :: r, .ms id :: ps, i => (id, bif t.flat then winQ (g.bx id).2 ((g.bx id).2 + g.ln id * g.es id) else (fun _ _ => true), i) :: ptWins g r ps (i + 1)
  | .ow t :: r, .mn id k j :: ps, i => (id, winH (g.nh id k j).1 ((g.nh id k j).2.1 * t.size), i) :: ptWins g r ps (i + 1)
  | .pt t :: r, .bx id off :: ps, i => (id, winQ ((g.bx id).2 + off) ((g.bx id).2 + off + t.size), i) :: ptWins g r ps (i + 1)
  | _ :: r, _ :: ps, i => ptWins g r ps (i + 1)
  | _, _, _ => []

/-- The colours that a callee sees. -/
def colC (g : Gh) (rfs : List Nat) (pts : List Win) : Nat → Nat → Col := fun b o => match g.col b o with
  | .st => .st
  | .bx id => if rfs.any (Nat.beq id) then .st else match pts.find? (fun p => Nat.beq p.1 id && p.2.1 b o) with
    | some p => .bx (pBase + p.2.2)
    | none => .free
  | _ => .free

theorem colC_pt {g : Gh} {rfs : List Nat} {pts : List Win} {b o : Nat} {e : Win} (h : g.col b o = .bx e.1) (hr : e.1 ∉ rfs) (hf : pts.find? (fun p => Nat.beq p.1 e.1 && p.2.1 b o) = some e) : colC g rfs pts b o = .bx (pBase + e.2.2) := by
  have hnr : rfs.any (Nat.beq e.1) = false := by
    rw [List.any_eq_false]
    intro y hy hb2
    exact hr (by rw [Nat.eq_of_beq_eq_true hb2]; exact hy)
  simp only [colC, h, hnr, Bool.false_eq_true, if_false, hf]
theorem colC_st {g : Gh} {rfs : List Nat} {pts : List Win} {b o : Nat} (h : g.col b o = .st) : colC g rfs pts b o = .st := by simp [colC, h]
theorem colC_rf {g : Gh} {rfs : List Nat} {pts : List Win} {b o id : Nat} (h : g.col b o = .bx id) (hr : id ∈ rfs) : colC g rfs pts b o = .st := by
  have : rfs.any (Nat.beq id) = true := List.any_eq_true.mpr ⟨id, hr, by simp⟩
  simp [colC, h, this]
theorem colC_tk {g : Gh} {rfs : List Nat} {pts : List Win} {b o k : Nat} : colC g rfs pts b o ≠ .tk k := by
  unfold colC
  split
  · simp
  · split
    · simp
    · split <;> simp
  · simp

theorem colC_bx {g : Gh} {rfs : List Nat} {pts : List Win} {b o id : Nat} (h : colC g rfs pts b o = .bx id) : pBase ≤ id := by
  unfold colC at h
  split at h
  · cases h
  · split at h
    · cases h
    · split at h
      · cases h; exact Nat.le_add_right _ _
      · cases h
  · cases h

theorem stays_colC (g : Gh) (w : World) (rfs : List Nat) (pts : List Win) : Stays g.col w (colC g rfs pts) w := ⟨fun _ _ _ h h' => ⟨colC_st h, h'⟩⟩

section
variable {P : Program} {N : Fr} {c0 : Nat → Nat → Col} {w0 : World} {σ : AS} {g : Gh} {a : Act} {w : World}

theorem take_drop_reps {cs : List PV} {us : List Value} (h : Reps g w cs us) (off n : Nat) : Reps g w ((cs.drop off).take n) ((us.drop off).take n) := (h.drop off).take n

theorem mem_any {l : List Nat} {id : Nat} (h : id ∈ l) : l.any (Nat.beq id) = true := List.any_eq_true.mpr ⟨id, h, by simp⟩

/-- A window that is read. -/
theorem winC_rep (hs : Sim N c0 w0 σ g a w) {rfs : List Nat} {pts : List Win} {t : Ty} {p : PV} {x : t.T} {v : Value} (h : winC σ.box t p = some x) (hr : Rep g w p v) (hin : ∀ id ∈ rfIdsL [p], id ∈ rfs) : WinRep (colC g rfs pts) w t x v := by
  cases p <;> simp only [winC] at h <;> try cases h
  · rename_i id off
    simp only [Rep] at hr
    obtain ⟨hd, rfl⟩ := hr
    split at h
    · rename_i cs hb
      obtain ⟨us, h2, h3⟩ := (hs.box _ _ hb).2
      have hrep := unA_rep h (take_drop_reps h2 off t.size)
      refine ⟨_, _, _, rfl, RepT.mono (stays_colC g w rfs pts) _ _ _ hrep, fun j u hj => ?_⟩
      rw [List.getElem?_take] at hj
      split at hj
      · rw [List.getElem?_drop] at hj
        obtain ⟨a1, a2, _⟩ := h3 _ u hj
        rw [← Nat.add_assoc] at a1 a2
        exact ⟨colC_rf a1 (hin id (by simp [rfIdsL])), a2⟩
      · cases hj
    · cases h
  · rename_i cs
    simp only [Rep] at hr
    obtain ⟨b, o, us, rfl, h2, h3⟩ := hr
    have hrep := unA_rep h (h2.take t.size)
    refine ⟨b, o, _, rfl, RepT.mono (stays_colC g w rfs pts) _ _ _ hrep, fun j u hj => ?_⟩
    rw [List.getElem?_take] at hj
    split at hj
    · obtain ⟨a1, a2⟩ := h3 j u hj
      exact ⟨colC_st a1, a2⟩
    · cases hj

theorem unCaps_rep (hs : Sim N c0 w0 σ g a w) {rfs : List Nat} {pts : List Win} : ∀ {ts : List Ty} {ps : List PV} {x : TysT ts} {vs : List Value}, unCaps σ.box ts ps = some x → Reps g w ps vs → (∀ id ∈ rfIdsL ps, id ∈ rfs) → CapsRep (colC g rfs pts) w ts x vs
  | [], ps, x, vs, h, hr, _ => by
    cases ps with
    | nil => simp only [Reps] at hr; exact hr
    | cons p ps => simp [unCaps] at h
  | t :: r, ps, x, vs, h, hr, hin => by
    cases ps with
    | nil => simp [unCaps] at h
    | cons p ps =>
      simp only [unCaps] at h
      split at h
      · rename_i x1 h1
        split at h
        · rename_i y1 h2
          cases h
          simp only [Reps] at hr
          obtain ⟨u, us, rfl, h3, h4⟩ := hr
          have hin1 : ∀ id ∈ rfIdsL [p], id ∈ rfs := by
            intro id hid
            apply hin id
            cases p <;> simp [rfIdsL] at hid ⊢ <;> exact .inl hid
          have hin2 : ∀ id ∈ rfIdsL ps, id ∈ rfs := by
            intro id hid
            apply hin id
            cases p <;> simp [rfIdsL, hid]
          exact ⟨u, us, rfl, winC_rep hs h1 h3 hin1, unCaps_rep hs h2 h4 hin2⟩
        · cases h
      · cases h

/-- One argument. -/
theorem unIn_rep (hs : Sim N c0 w0 σ g a w) {rfs : List Nat} {pts : List Win} {i : In} {p : PV} {x : i.T} {v : Value} {pos : Nat} (h : unIn σ.box i p = some x) (hr : Rep g w p v) (hin : ∀ id ∈ rfIds [i] [p], id ∈ rfs)
    (hw : ∀ e ∈ ptWins g [i] [p] pos, e.1 ∉ rfs ∧ ∀ b o, e.2.1 b o = true → pts.find? (fun q => Nat.beq q.1 e.1 && q.2.1 b o) = some e) :
    ArgRep (colC g rfs pts) w i x pos v := by
  cases i with
  | ow t =>
    have hst := stays_colC g w rfs pts
    cases p <;> simp only [unIn] at h <;> try cases h
    · rename_i id
      have hw1 := hw (id, bif t.flat then winQ (g.bx id).2 ((g.bx id).2 + g.ln id * g.es id) else (fun _ _ => true), pos) (by simp [ptWins])
      obtain ⟨q1, q2⟩ := hw1
      simp only [Rep] at hr
      obtain ⟨hd, rfl⟩ := hr
      split at h
      · rename_i t' y hb
        split at h
        · rename_i hbq
          obtain rfl := Ty.eq_of_beq hbq
          cases hfl : t'.flat with
          | false => rw [hfl] at h; cases h
          | true =>
            rw [hfl] at h q1 q2
            simp only [cond_true, Option.some.injEq] at h q1 q2
            simp only [castT] at h
            subst h
            obtain ⟨b1, ⟨b2, b4, b5, b6, b7⟩, b3⟩ := (hs.box _ _ hb).2
            refine ⟨(g.hd id).1, (g.hd id).2, by rw [b1], b6, ⟨b5, b7⟩, fun e => (by rw [hfl] at e; cases e), fun _ _ => (none, 0, 0), fun _ _ => none, fun hp => ⟨(g.bx id).1, (g.bx id).2, b4 hp, fun k hk => ?_⟩⟩
            obtain ⟨us, k1, k2⟩ := b3 k hk
            refine ⟨us, by rw [if_pos rfl]; exact RepE.of_flat hfl (RepT.mono hst _ _ _ k1), fun j u hj => ?_⟩
            obtain ⟨a1, a2, a3⟩ := k2 j u hj
            have hjl : j < t'.size := by rw [← k1.length]; exact (List.getElem?_eq_some_iff.mp hj).1
            have hlt : k * t'.size + j < y.len * t'.size := by
              have : (k + 1) * t'.size ≤ y.len * t'.size := Nat.mul_le_mul_right _ hk
              rw [Nat.add_mul, Nat.one_mul] at this; omega
            exact ⟨colC_pt (e := (id, winQ (g.bx id).2 ((g.bx id).2 + g.ln id * g.es id), pos)) a1 q1 (q2 _ _ (by simp only [winQ, Bool.and_eq_true, decide_eq_true_eq]; rw [b1, b2]; omega)), rfl, a2, a3⟩
        · cases h
      · rename_i t' y hb
        split at h
        · rename_i hbq
          obtain rfl := Ty.eq_of_beq hbq
          cases hfl : t'.flat with
          | true => rw [hfl] at h; cases h
          | false =>
            rw [hfl] at h q1 q2
            simp only [cond_false, Option.some.injEq] at h q1 q2
            simp only [castT] at h
            subst h
            obtain ⟨b1, ⟨b2, b4, b5, b6, b7⟩, bf, pa, b3⟩ := (hs.box _ _ hb).2
            refine ⟨(g.hd id).1, (g.hd id).2, by rw [b1], b6, ⟨b5, b7⟩, fun _ => bf, g.nh id, pa, fun hp => ⟨(g.bx id).1, (g.bx id).2, b4 hp, ?_⟩⟩
            exact TreeAt.mono hst rfl (fun b o v a1 a2 a3 => ⟨colC_pt (e := (id, (fun _ _ => true), pos)) a1 q1 (q2 _ _ trivial), a2, a3⟩) b3
        · cases h
      · cases h
    · rename_i id k j
      have hw1 := hw (id, winH (g.nh id k j).1 ((g.nh id k j).2.1 * t.size), pos) (by simp [ptWins])
      obtain ⟨q1, q2⟩ := hw1
      simp only [Rep] at hr
      obtain ⟨hd, hk, rfl⟩ := hr
      split at h
      · rename_i t' y hb
        split at h
        · rename_i u' z hz
          split at h
          · rename_i hbq
            obtain rfl := Ty.eq_of_beq hbq
            cases hfl : u'.flat with
            | false => rw [hfl] at h; cases h
            | true =>
              rw [hfl] at h
              simp only [cond_true, Option.some.injEq] at h
              simp only [castT] at h
              subst h
              obtain ⟨b1, _, bf, pa, b3⟩ := (hs.box _ _ hb).2
              obtain ⟨us, k1, _⟩ := b3 k (by rw [← b1]; exact hk)
              rw [if_pos (own_none _)] at k1
              obtain ⟨⟨v, a', cap', e1, e2, e3, e4, e5⟩, _⟩ := slN_rep hz k1 bf
              rw [Nat.zero_add] at e2 e5
              rw [e2] at q2 ⊢
              refine ⟨a', cap', rfl, e3, e4, fun e => (by rw [hfl] at e; cases e), fun _ _ => (none, 0, 0), fun _ _ => none, fun hp => ?_⟩
              cases a' with
              | none => have := e4.1 rfl; omega
              | some ad =>
                obtain ⟨f1, f2⟩ := e5 ad rfl
                refine ⟨ad.block, ad.off, ?_, fun m hm => ?_⟩
                · have := f1 hp
                  cases ad; simp_all
                · obtain ⟨us', g1, g2⟩ := f2 m hm
                  refine ⟨us', by rw [if_pos rfl]; exact RepE.of_flat hfl (RepT.mono hst _ _ _ g1), fun q u hq => ?_⟩
                  obtain ⟨a1, _, a2, a3⟩ := g2 q u hq
                  have hjl : q < u'.size := by rw [← g1.length]; exact (List.getElem?_eq_some_iff.mp hq).1
                  have hlt : m * u'.size + q < z.len * u'.size := by
                    have : (m + 1) * u'.size ≤ z.len * u'.size := Nat.mul_le_mul_right _ hm
                    rw [Nat.add_mul, Nat.one_mul] at this; omega
                  exact ⟨colC_pt (e := (id, winH (some ad) (z.len * u'.size), pos)) a1 q1 (q2 _ _ (by simp only [winH, Bool.and_eq_true, decide_eq_true_eq]; exact ⟨by simp, by omega⟩)), rfl, a2, a3⟩
          · cases h
        · cases h
      · cases h
  | v t =>
    simp only [unIn] at h
    have hgs : GStays g w { g with col := colC g rfs pts } w := { stays_colC g w rfs pts with dom := fun _ h => ⟨h, rfl, rfl, rfl, rfl, rfl⟩, us := fun _ h => ⟨h, fun l => ⟨l, rfl, fun _ e => e⟩⟩ }
    have toT : ∀ (id i : Nat) (pa : Nat → Nat → Option (Nat × Nat)), id ∈ rfs → ∀ (t : Ty) (x : t.T) (us : List Value) (j : Nat), RepE g.col w id (g.nh id) pa i t x us j → RepT (colC g rfs pts) w t x us := by
      intro id i pa hid t
      induction t with
      | int k => exact fun _ _ _ h => h
      | bool => exact fun _ _ _ h => h
      | str => exact fun _ _ _ h => h
      | unit => exact fun _ _ _ h => h
      | pair a b iha ihb =>
        rintro x us j ⟨v1, v2, e, h1, h2⟩
        exact ⟨v1, v2, e, iha _ _ _ h1, ihb _ _ _ h2⟩
      | sl t ih =>
        rintro x us j ⟨a, cap, e, _, h1, h2, h3⟩
        refine ⟨a, cap, e, h1, h2, fun ad had => ⟨(h3 ad had).1, fun k hk => ?_⟩⟩
        obtain ⟨us', h4, h5⟩ := (h3 ad had).2 k hk
        refine ⟨us', RepT.mono (stays_colC g w rfs pts) _ _ _ h4, fun q u hq => ?_⟩
        obtain ⟨a1, _, a2, _⟩ := h5 q u hq
        exact ⟨colC_rf a1 hid, a2⟩
    have one : ∀ (q : PV) (u : Value), Rep g w q u → (∀ id ∈ msIds [q], id ∈ rfs) → Rep { g with col := colC g rfs pts } w (rslv1 σ.box q) u := by
      intro q u hq hin
      by_cases hmn : ∃ id i j, q = .mn id i j
      · obtain ⟨id, i, j, rfl⟩ := hmn
        simp only [Rep] at hq
        obtain ⟨hd, hi, rfl⟩ := hq
        simp only [rslv1]
        split
        · rename_i t' y hb
          split
          · rename_i u' z hz
            obtain ⟨b1, _, bf, pa, b3⟩ := (hs.box _ _ hb).2
            obtain ⟨us, k1, _⟩ := b3 i (by rw [← b1]; exact hi)
            rw [if_pos (own_none _)] at k1
            obtain ⟨⟨v, e0⟩, _⟩ := slN_rep hz k1 bf
            have e1 := toT id i pa (hin id (by simp [msIds])) _ _ _ _ e0
            obtain ⟨a', cap', e2, e3, _⟩ := e0
            rw [Nat.zero_add] at e3
            cases e2
            simp only [Rep]
            rw [e3]
            exact ⟨a', cap', rfl, e1, trivial⟩
          · simp only [Rep]
        · simp only [Rep]
      by_cases hms : ∃ id, q = .ms id
      · obtain ⟨id, rfl⟩ := hms
        have hq0 := hq
        simp only [Rep] at hq
        obtain ⟨hd, rfl⟩ := hq
        simp only [rslv1]
        split
        · rename_i t' y hb
          obtain ⟨b1, ⟨b2, b4, b5, b6, b7⟩, b3⟩ := (hs.box _ _ hb).2
          simp only [Rep]
          refine ⟨(g.hd id).1, (g.hd id).2, by rw [b1], ?_, trivial⟩
          refine ⟨(g.hd id).1, (g.hd id).2, by rw [b1], b6, ⟨b5, b7⟩, fun ad had => ⟨fun hp => ?_, fun k hk => ?_⟩⟩
          · rw [b4 hp] at had; cases had; rfl
          · rw [b4 (by omega)] at had; cases had
            obtain ⟨us, k1, k2⟩ := b3 k hk
            refine ⟨us, RepT.mono (stays_colC g w rfs pts) _ _ _ k1, fun j u hj => ?_⟩
            obtain ⟨a1, a2, _⟩ := k2 j u hj
            exact ⟨colC_rf a1 (hin id (by simp [msIds])), a2⟩
        · rename_i t' y own hb
          obtain ⟨b1, ⟨b2, b4, b5, b6, b7⟩, _, pa, b3⟩ := (hs.box _ _ hb).2
          simp only [Rep]
          refine ⟨(g.hd id).1, (g.hd id).2, by rw [b1], ?_, trivial⟩
          refine ⟨(g.hd id).1, (g.hd id).2, by rw [b1], b6, ⟨b5, b7⟩, fun ad had => ⟨fun hp => ?_, fun k hk => ?_⟩⟩
          · rw [b4 hp] at had; cases had; rfl
          · rw [b4 (by omega)] at had; cases had
            obtain ⟨us, k1, k2⟩ := b3 k hk
            refine ⟨us, ?_, fun j u hj => ?_⟩
            · split at k1
              · exact toT id k pa (hin id (by simp [msIds])) _ _ _ _ k1
              · exact RepT.mono (stays_colC g w rfs pts) _ _ _ k1
            · obtain ⟨a1, _, a2, _⟩ := k2 j u hj
              exact ⟨colC_rf a1 (hin id (by simp [msIds])), a2⟩
        · simp only [Rep]
      · have hp : rslv1 σ.box q = q := by
          cases q <;> first | rfl | (exact absurd ⟨_, rfl⟩ hms) | (exact absurd ⟨_, _, _, rfl⟩ hmn)
        rw [hp]
        exact Rep.mono hgs _ _ hq
    have all : ∀ (qs : List PV) (us : List Value), Reps g w qs us → (∀ id ∈ msIds qs, id ∈ rfs) → Reps { g with col := colC g rfs pts } w (qs.map (rslv1 σ.box)) us := by
      intro qs
      induction qs with
      | nil => intro us h _; simpa only [Reps, List.map_nil] using h
      | cons q qs ih =>
        intro us h hin
        simp only [Reps] at h
        obtain ⟨u, us', rfl, h1, h2⟩ := h
        simp only [List.map_cons, Reps]
        refine ⟨u, us', rfl, one q u h1 fun id hid => hin id ?_, ih us' h2 fun id hid => hin id ?_⟩
        · cases q <;> simp [msIds] at hid ⊢ <;> exact .inl hid
        · cases q <;> simp [msIds, hid]
    have hr' : Rep { g with col := colC g rfs pts } w (rslv σ.box p) v := by
      cases p with
      | agg cs =>
        simp only [Rep] at hr
        obtain ⟨vs, rfl, h2⟩ := hr
        simp only [rslv, Rep]
        exact ⟨vs, rfl, all cs vs h2 fun id hid => hin id (by simp [rfIds, rfIdsL, hid])⟩
      | ms id => exact one (.ms id) v hr fun i hi => hin i (by simpa [rfIds, rfIdsL, msIds] using hi)
      | mn id i j => exact one (.mn id i j) v hr fun i hi => hin i (by simpa [rfIds, rfIdsL, msIds] using hi)
      | _ => exact one _ v hr fun i hi => by simp [msIds] at hi
    exact unV_rep (g := { g with col := colC g rfs pts }) (w := w) h hr'
  | rf t =>
    simp only [unIn] at h
    exact winC_rep hs h hr (fun id hid => hin id (by simpa [rfIds] using hid))
  | pt t =>
    cases p <;> simp only [unIn] at h <;> try cases h
    rename_i id off
    obtain ⟨q1, q2⟩ := hw (id, winQ ((g.bx id).2 + off) ((g.bx id).2 + off + t.size), pos) (by simp [ptWins])
    simp only [winC] at h
    split at h
    · rename_i cs hb
      simp only [Rep] at hr
      obtain ⟨hd, rfl⟩ := hr
      obtain ⟨us, h2, h3⟩ := (hs.box _ _ hb).2
      have hrep := unA_rep h (take_drop_reps h2 off t.size)
      have hl := hrep.length
      refine ⟨_, _, _, rfl, RepT.mono (stays_colC g w rfs pts) _ _ _ hrep, fun j u hj => ?_⟩
      have hj' : j < t.size := by rw [← hl]; exact (List.getElem?_eq_some_iff.mp hj).1
      rw [List.getElem?_take, if_pos hj', List.getElem?_drop] at hj
      obtain ⟨a1, a2, a3⟩ := h3 _ u hj
      rw [← Nat.add_assoc] at a1 a2 a3
      exact ⟨colC_pt (e := (id, winQ ((g.bx id).2 + off) ((g.bx id).2 + off + t.size), pos)) a1 q1 (q2 _ _ (by simp only [winQ, Bool.and_eq_true, decide_eq_true_eq]; omega)), a2, a3⟩
    · cases h
  | clo f ts =>
    cases p <;> simp only [unIn] at h <;> try cases h
    rename_i f' caps
    split at h
    · rename_i hb
      have := Nat.eq_of_beq_eq_true hb
      subst this
      simp only [Rep] at hr
      obtain ⟨vs, e, h2⟩ := hr
      exact ⟨vs, e, unCaps_rep hs h h2 (fun id hid => hin id (by simpa [rfIds] using hid))⟩
    · cases h

end

end Go.VE
