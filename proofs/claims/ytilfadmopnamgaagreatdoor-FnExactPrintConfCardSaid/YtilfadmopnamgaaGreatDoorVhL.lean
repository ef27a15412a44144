import Derived.Test.YtilfadmopnamgaaGreatDoorVhK
import Derived.Lib.LaidTab
import Derived.Lib.ItoaNum
import Derived.FnData
/- Calls: what a function is said to do, and that a call of it does it. -/
namespace Go.VE

def WinRep (col : Nat → Nat → Col) (w : World) (t : Ty) (x : t.T) (v : Value) : Prop := ∃ b o us, v = .pointer (some ⟨b, o, none⟩) ∧ RepT col w t x us ∧ CellsAt col w b o us

def CapsRep (col : Nat → Nat → Col) (w : World) : (ts : List Ty) → TysT ts → List Value → Prop
  | [], _, vs => vs = []
  | t :: r, x, vs => ∃ u us, vs = u :: us ∧ WinRep col w t x.1 u ∧ CapsRep col w r x.2 us

/-- An argument: i is its place. -/
def ArgRep (col : Nat → Nat → Col) (w : World) : (a : In) → a.T → Nat → Value → Prop
  | .v t, x, _, v => ∃ us, RepT col w t x us ∧ v = mkV t us
  | .rf t, x, _, v => WinRep col w t x v
  | .pt t, x, i, v => ∃ b o us, v = .pointer (some ⟨b, o, none⟩) ∧ RepT col w t x us ∧ ∀ (j : Nat) (u : Value), us[j]? = some u → col b (o + j) = .bx (pBase + i) ∧ w.cell? ⟨b, o + j, none⟩ = some u ∧ w.frozen? ⟨b, o + j, none⟩ = false
  | .ow t, x, i, v => ∃ a cap, v = .slice a x.len cap ∧ x.len ≤ cap ∧ ((a = none → cap = 0) ∧ (x.nil = true ↔ a = none)) ∧ (0 < x.len → ∃ b o, a = some ⟨b, o, none⟩ ∧ ∀ k, k < x.len → ∃ us, RepT col w t (x.get k) us ∧
      ∀ (j : Nat) (u : Value), us[j]? = some u → col b (o + k * t.size + j) = .bx (pBase + i) ∧ w.cell? ⟨b, o + k * t.size + j, none⟩ = some u ∧ w.frozen? ⟨b, o + k * t.size + j, none⟩ = false)
  | .clo f ts, x, _, v => ∃ vs : List Value, v = .func (.func f) #[] vs.toArray ∧ CapsRep col w ts x vs
def ArgsRep (col : Nat → Nat → Col) (w : World) : (as : List In) → InsT as → Nat → List Value → Prop
  | [], _, _, vs => vs = []
  | a :: r, x, i, vs => ∃ u us, vs = u :: us ∧ ArgRep col w a x.1 i u ∧ ArgsRep col w r x.2 (i + 1) us
/-- What the pointees hold behind a call. -/
def PtsRep (col : Nat → Nat → Col) (w : World) : (as : List In) → PtT as → List Value → Prop
  | [], _, _ => True
  | .pt t :: r, y, vs => ∃ b o us tl, vs = .pointer (some ⟨b, o, none⟩) :: tl ∧ RepT col w t y.1 us ∧ (∀ (j : Nat) (u : Value), us[j]? = some u → w.cell? ⟨b, o + j, none⟩ = some u) ∧ PtsRep col w r y.2 tl
  | .ow t :: r, y, vs => ∃ a cap tl, vs = .slice a y.1.len cap :: tl ∧ (y.1.nil = true ↔ a = none) ∧ (0 < y.1.len → ∃ b o, a = some ⟨b, o, none⟩ ∧ ∀ k, k < y.1.len → ∃ us, RepT col w t (y.1.get k) us ∧
      ∀ (j : Nat) (u : Value), us[j]? = some u → w.cell? ⟨b, o + k * t.size + j, none⟩ = some u) ∧ PtsRep col w r y.2 tl
  | .v _ :: r, y, vs => PtsRep col w r y vs.tail
  | .rf _ :: r, y, vs => PtsRep col w r y vs.tail
  | .clo _ _ :: r, y, vs => PtsRep col w r y vs.tail
def OutRep (col : Nat → Nat → Col) (w : World) : (ts : List Ty) → TysT ts → List Value → Prop
  | [], _, vs => vs = []
  | t :: r, y, vs => ∃ u us, vs = u :: us ∧ (∃ cs, RepT col w t y.1 cs ∧ u = mkV t cs) ∧ OutRep col w r y.2 us
/-- A pointer to memory of its own. -/
def PtrRep (col : Nat → Nat → Col) (w w' : World) : (ts : List Ty) → TysT ts → Value → Prop
  | [t], y, v => ∃ b o us, v = .pointer (some ⟨b, o, none⟩) ∧ w.heap.size ≤ b ∧ RepT col w' t y.1 us ∧ ∀ (j : Nat) (u : Value), us[j]? = some u → col b (o + j) = .bx oBase ∧ w'.cell? ⟨b, o + j, none⟩ = some u ∧ w'.frozen? ⟨b, o + j, none⟩ = false
  | _, _, _ => False
def ResRep (col : Nat → Nat → Col) (w : World) (ts : List Ty) (y : TysT ts) (v : Value) : Prop := ∃ vs : List Value, OutRep col w ts y vs ∧ v = (if h : vs.toArray.size = 1 then vs.toArray[0] else .tuple vs.toArray)

/-- Data whose slices each lie in memory of their own, made by a call. -/
def FrT (col : Nat → Nat → Col) (w w' : World) : (t : Ty) → t.T → List Value → Nat → Prop
  | .int k, n, vs, _ => vs = [.int k n]
  | .bool, b, vs, _ => vs = [.bool b]
  | .str, s, vs, _ => vs = [.string s]
  | .unit, _, vs, _ => vs = []
  | .pair a b, x, vs, j => ∃ v1 v2, vs = v1 ++ v2 ∧ FrT col w w' a x.1 v1 j ∧ FrT col w w' b x.2 v2 (j + a.nsl)
  | .sl t, x, vs, j => ∃ a cap, vs = [.slice a x.len cap] ∧ x.len ≤ cap ∧ ((a = none → cap = 0) ∧ (x.nil = true ↔ a = none)) ∧ ∀ ad, a = some ad → (0 < x.len → ad.spot = none) ∧
      (∀ k, k < x.len * t.size → w.heap.size ≤ ad.block ∧ col ad.block (ad.off + k) = .bx (oBase + j) ∧ w'.frozen? ⟨ad.block, ad.off + k, none⟩ = false) ∧
      ∀ i, i < x.len → ∃ us, RepT col w' t (x.get i) us ∧ ∀ (k : Nat) (u : Value), us[k]? = some u → w'.cell? ⟨ad.block, ad.off + i * t.size + k, none⟩ = some u
/-- Data whose slices each lie in a block of its own, made by a call, and what lies behind their ends is nobody's. -/
def OwT (col : Nat → Nat → Col) (w w' : World) (ob : Nat → Nat) : (t : Ty) → t.T → List Value → Nat → Prop
  | .int k, n, vs, _ => vs = [.int k n]
  | .bool, b, vs, _ => vs = [.bool b]
  | .str, s, vs, _ => vs = [.string s]
  | .unit, _, vs, _ => vs = []
  | .pair a b, x, vs, j => ∃ v1 v2, vs = v1 ++ v2 ∧ OwT col w w' ob a x.1 v1 j ∧ OwT col w w' ob b x.2 v2 (j + a.nsl)
  | .sl t, x, vs, j => ∃ a cap, vs = [.slice a x.len cap] ∧ RepT col w' (.sl t) x [.slice a x.len cap] ∧ ∀ ad, a = some ad → ad.spot = none ∧
      (0 < cap * t.size → w.heap.size ≤ ad.block ∧ ad.block < w'.heap.size ∧ ob ad.block = j + 1 ∧ ∀ o, w'.frozen? ⟨ad.block, o, none⟩ = false) ∧
      ∀ k, x.len * t.size ≤ k → k < cap * t.size → col ad.block (ad.off + k) = .bx (oBase + j) ∧ ∃ u, w'.cell? ⟨ad.block, ad.off + k, none⟩ = some u
def FrOuts (Rp : (t : Ty) → t.T → List Value → Nat → Prop) : (ts : List Ty) → TysT ts → List Value → Nat → Prop
  | [], _, vs, _ => vs = []
  | t :: r, y, vs, j => ∃ u us, vs = u :: us ∧ (∃ cs, Rp t y.1 cs j ∧ u = mkV t cs) ∧ FrOuts Rp r y.2 us (j + t.nsl)
def tupV (vs : List Value) : Value := if h : vs.toArray.size = 1 then vs.toArray[0] else .tuple vs.toArray
/-- What comes back of a call. -/
def OutIs (c : Ctr) (col' : Nat → Nat → Col) (w w' : World) (y : TysT c.out) (v : Value) : Prop :=
  if c.ptr = true then PtrRep col' w w' c.out y v
  else match c.fr with
    | 0 => ResRep col' w' c.out y v
    | 1 => ∃ vs, FrOuts (FrT col' w w') c.out y vs 0 ∧ v = tupV vs
    | _ => ∃ vs ob, FrOuts (OwT col' w w' ob) c.out y vs 0 ∧ v = tupV vs

def Enters (P : Program) (f : FuncId) : Prop := ∃ fn, P.funcs[f]? = some fn ∧ (fn.name == "runtime.NumGoroutine") = false ∧ fn.body.isSome = true

def Behind (c : Ctr) (col : Nat → Nat → Col) (w : World) (args : Array Value) (y : TysT c.out × PtT c.ins) (e : Ending) (w' : World) : Prop :=
  ∃ v col', e = .returned v ∧ Keep col w w' ∧ (∀ b, b < w.heap.size → ∀ o, (col' b o = .st ↔ col b o = .st)) ∧ OutIs c col' w w' y.1 v ∧ PtsRep col' w' c.ins y.2 args.toList

/-- The colours that a call begins with. -/
structure ColOk (col : Nat → Nat → Col) : Prop where
  tk : ∀ b o k, col b o ≠ .tk k
  bx : ∀ b o id, col b o = .bx id → pBase ≤ id

/-- The table that is read where a number is told: it lies where it was laid. -/
def LayOk (P : Program) (col : Nat → Nat → Col) (w : World) : Prop := Lib.TabIs P w "internal/strconv.uint64pow10" .u64 Lib.pow10Tab ∧ ∀ g, P.globalNamed "internal/strconv.uint64pow10" = some g → ∀ o id, col g o ≠ .bx id

/-- A function does what is said of it: whatever memory it is called in. -/
def Holds (P : Program) (f : FuncId) (c : Ctr) : Prop :=
  Enters P f ∧ ∀ x y, c.F x = some y → ∀ (col : Nat → Nat → Col) (w : World) (args : Array Value), ColOk col → LayOk P col w → ArgsRep col w c.ins x 0 args.toList → Calls P f args w (Behind c col w args y)

def TblOk (P : Program) (T : Tbl) : Prop := ∀ f gs c, (f, gs, c) ∈ T → Holds P f c

theorem TblOk.find {P : Program} : ∀ {T : Tbl}, TblOk P T → ∀ {f gs c}, T.find f gs = some c → Holds P f c
  | [], _, f, gs, c, h => by simp [Tbl.find] at h
  | (f', gs', c') :: r, hT, f, gs, c, h => by
    simp only [Tbl.find] at h
    split at h
    · rename_i hb
      simp only [Bool.and_eq_true] at hb
      cases h
      have := Nat.eq_of_beq_eq_true hb.1
      subst this
      exact hT f gs' c' (by simp)
    · exact TblOk.find (fun f gs c hm => hT f gs c (by simp [hm])) h

/-- The windows that are handed on to be written: box, from, to, place. -/
def ptWins (g : Gh) : List In → List PV → Nat → List (Nat × Nat × Nat × Nat)
  | .ow _ :: r, .ms id :: ps, i => (id, (g.bx id).2, (g.bx id).2 + g.ln id * g.es id, i) :: ptWins g r ps (i + 1)
  | .pt t :: r, .bx id off :: ps, i => (id, (g.bx id).2 + off, (g.bx id).2 + off + t.size, i) :: ptWins g r ps (i + 1)
  | _ :: r, _ :: ps, i => ptWins g r ps (i + 1)
  | _, _, _ => []

/-- The colours that a callee sees. -/
def colC (g : Gh) (rfs : List Nat) (pts : List (Nat × Nat × Nat × Nat)) : Nat → Nat → Col := fun b o => match g.col b o with
  | .st => .st
  | .bx id => if rfs.any (Nat.beq id) then .st else match pts.find? (fun p => Nat.beq p.1 id && (decide (p.2.1 ≤ o) && decide (o < p.2.2.1))) with
    | some p => .bx (pBase + p.2.2.2)
    | none => .free
  | _ => .free

theorem colC_st {g : Gh} {rfs : List Nat} {pts : List (Nat × Nat × Nat × Nat)} {b o : Nat} (h : g.col b o = .st) : colC g rfs pts b o = .st := by simp [colC, h]
theorem colC_rf {g : Gh} {rfs : List Nat} {pts : List (Nat × Nat × Nat × Nat)} {b o id : Nat} (h : g.col b o = .bx id) (hr : id ∈ rfs) : colC g rfs pts b o = .st := by
  have : rfs.any (Nat.beq id) = true := List.any_eq_true.mpr ⟨id, hr, by simp⟩
  simp [colC, h, this]
theorem colC_tk {g : Gh} {rfs : List Nat} {pts : List (Nat × Nat × Nat × Nat)} {b o k : Nat} : colC g rfs pts b o ≠ .tk k := by
  unfold colC
  split
  · simp
  · split
    · simp
    · split <;> simp
  · simp

theorem colC_bx {g : Gh} {rfs : List Nat} {pts : List (Nat × Nat × Nat × Nat)} {b o id : Nat} (h : colC g rfs pts b o = .bx id) : pBase ≤ id := by
  unfold colC at h
  split at h
  · cases h
  · split at h
    · cases h
    · split at h
      · cases h; exact Nat.le_add_right _ _
      · cases h
  · cases h

theorem Sim.lay {P : Program} {N : Fr} {c0 : Nat → Nat → Col} {w0 : World} {σ : AS} {g : Gh} {a : Act} {w : World} (hs : Sim N c0 w0 σ g a w) (hL : LayOk P c0 w0) (rfs : List Nat) (pts : List (Nat × Nat × Nat × Nat)) : LayOk P (colC g rfs pts) w := by
  obtain ⟨h1, h2⟩ := hL
  have key : ∀ gb, P.globalNamed "internal/strconv.uint64pow10" = some gb → gb < w0.heap.size := by
    intro gb hg
    unfold Lib.TabIs at h1
    simp only [World.var?, hg, Option.bind_some] at h1
    split at h1
    · rename_i hb
      exact (Array.getElem?_eq_some_iff.mp hb).1
    · cases h1
  refine ⟨?_, fun gb hg o id hc => ?_⟩
  · unfold Lib.TabIs at h1 ⊢
    rw [← h1]
    unfold World.var?
    cases hg : P.globalNamed "internal/strconv.uint64pow10" with
    | none => rfl
    | some gb =>
      simp only [Option.bind_some]
      rw [hs.keep.blk gb (key gb hg) (h2 gb hg)]
  · have hlt := key gb hg
    have hcol : ∀ id', g.col gb o ≠ .bx id' := fun id' e => h2 gb hg o id' ((hs.old gb hlt o).2.1 id' e)
    unfold colC at hc
    split at hc
    · cases hc
    · rename_i id' e
      exact hcol id' e
    · cases hc

theorem stays_colC (g : Gh) (w : World) (rfs : List Nat) (pts : List (Nat × Nat × Nat × Nat)) : Stays g.col w (colC g rfs pts) w := ⟨fun _ _ _ h h' => ⟨colC_st h, h'⟩⟩

section
variable {P : Program} {N : Fr} {c0 : Nat → Nat → Col} {w0 : World} {σ : AS} {g : Gh} {a : Act} {w : World}

theorem take_drop_reps {cs : List PV} {us : List Value} (h : Reps g w cs us) (off n : Nat) : Reps g w ((cs.drop off).take n) ((us.drop off).take n) := (h.drop off).take n

theorem mem_any {l : List Nat} {id : Nat} (h : id ∈ l) : l.any (Nat.beq id) = true := List.any_eq_true.mpr ⟨id, h, by simp⟩

/-- A window that is read. -/
theorem winC_rep (hs : Sim N c0 w0 σ g a w) {rfs : List Nat} {pts : List (Nat × Nat × Nat × Nat)} {t : Ty} {p : PV} {x : t.T} {v : Value} (h : winC σ.box t p = some x) (hr : Rep g w p v) (hin : ∀ id ∈ rfIdsL [p], id ∈ rfs) : WinRep (colC g rfs pts) w t x v := by
  cases p <;> simp only [winC] at h <;> try cases h
  · rename_i id off
    simp only [Rep] at hr
    obtain ⟨hd, rfl⟩ := hr
    split at h
    · rename_i cs hb
      obtain ⟨us, h2, h3⟩ := (hs.box _ _ hb).2
      have hrep := unA_rep h (take_drop_reps h2 off t.size)
      refine ⟨_, _, _, rfl, RepT.mono (stays_colC g w rfs pts) _ _ _ hrep, fun j u hj => ?_⟩
      rw [List.getElem?_take] at hj
      split at hj
      · rw [List.getElem?_drop] at hj
        obtain ⟨a1, a2, _⟩ := h3 _ u hj
        rw [← Nat.add_assoc] at a1 a2
        exact ⟨colC_rf a1 (hin id (by simp [rfIdsL])), a2⟩
      · cases hj
    · cases h
  · rename_i cs
    simp only [Rep] at hr
    obtain ⟨b, o, us, rfl, h2, h3⟩ := hr
    have hrep := unA_rep h (h2.take t.size)
    refine ⟨b, o, _, rfl, RepT.mono (stays_colC g w rfs pts) _ _ _ hrep, fun j u hj => ?_⟩
    rw [List.getElem?_take] at hj
    split at hj
    · obtain ⟨a1, a2⟩ := h3 j u hj
      exact ⟨colC_st a1, a2⟩
    · cases hj

theorem unCaps_rep (hs : Sim N c0 w0 σ g a w) {rfs : List Nat} {pts : List (Nat × Nat × Nat × Nat)} : ∀ {ts : List Ty} {ps : List PV} {x : TysT ts} {vs : List Value}, unCaps σ.box ts ps = some x → Reps g w ps vs → (∀ id ∈ rfIdsL ps, id ∈ rfs) → CapsRep (colC g rfs pts) w ts x vs
  | [], ps, x, vs, h, hr, _ => by
    cases ps with
    | nil => simp only [Reps] at hr; exact hr
    | cons p ps => simp [unCaps] at h
  | t :: r, ps, x, vs, h, hr, hin => by
    cases ps with
    | nil => simp [unCaps] at h
    | cons p ps =>
      simp only [unCaps] at h
      split at h
      · rename_i x1 h1
        split at h
        · rename_i y1 h2
          cases h
          simp only [Reps] at hr
          obtain ⟨u, us, rfl, h3, h4⟩ := hr
          have hin1 : ∀ id ∈ rfIdsL [p], id ∈ rfs := by
            intro id hid
            apply hin id
            cases p <;> simp [rfIdsL] at hid ⊢ <;> exact .inl hid
          have hin2 : ∀ id ∈ rfIdsL ps, id ∈ rfs := by
            intro id hid
            apply hin id
            cases p <;> simp [rfIdsL, hid]
          exact ⟨u, us, rfl, winC_rep hs h1 h3 hin1, unCaps_rep hs h2 h4 hin2⟩
        · cases h
      · cases h

/-- One argument. -/
theorem unIn_rep (hs : Sim N c0 w0 σ g a w) {rfs : List Nat} {pts : List (Nat × Nat × Nat × Nat)} {i : In} {p : PV} {x : i.T} {v : Value} {pos : Nat} (h : unIn σ.box i p = some x) (hr : Rep g w p v) (hin : ∀ id ∈ rfIds [i] [p], id ∈ rfs)
    (hpt : ∀ t id off, i = .pt t → p = .bx id off → id ∉ rfs ∧ ∀ o, (g.bx id).2 + off ≤ o → o < (g.bx id).2 + off + t.size → pts.find? (fun q => Nat.beq q.1 id && (decide (q.2.1 ≤ o) && decide (o < q.2.2.1))) = some (id, (g.bx id).2 + off, (g.bx id).2 + off + t.size, pos))
    (how : ∀ t id, i = .ow t → p = .ms id → id ∉ rfs ∧ ∀ o, (g.bx id).2 ≤ o → o < (g.bx id).2 + g.ln id * g.es id → pts.find? (fun q => Nat.beq q.1 id && (decide (q.2.1 ≤ o) && decide (o < q.2.2.1))) = some (id, (g.bx id).2, (g.bx id).2 + g.ln id * g.es id, pos)) :
    ArgRep (colC g rfs pts) w i x pos v := by
  cases i with
  | ow t =>
    cases p <;> simp only [unIn] at h <;> try cases h
    rename_i id
    obtain ⟨q1, q2⟩ := how t id rfl rfl
    split at h
    · rename_i t' y hb
      split at h
      · rename_i hbq
        simp only [Option.some.injEq] at h
        obtain rfl := Ty.eq_of_beq hbq
        simp only [castT] at h
        subst h
        simp only [Rep] at hr
        obtain ⟨hd, rfl⟩ := hr
        obtain ⟨b1, ⟨b2, b4, b5, b6, b7⟩, b3⟩ := (hs.box _ _ hb).2
        refine ⟨(g.hd id).1, (g.hd id).2, by rw [b1], b6, ⟨b5, b7⟩, fun hp => ⟨(g.bx id).1, (g.bx id).2, b4 hp, fun k hk => ?_⟩⟩
        obtain ⟨us, k1, k2⟩ := b3 k hk
        refine ⟨us, RepT.mono (stays_colC g w rfs pts) _ _ _ k1, fun j u hj => ?_⟩
        obtain ⟨a1, a2, a3⟩ := k2 j u hj
        refine ⟨?_, a2, a3⟩
        have hnr : rfs.any (Nat.beq id) = false := by
          rw [List.any_eq_false]
          intro y hy hb2
          exact q1 (by rw [Nat.eq_of_beq_eq_true hb2]; exact hy)
        have hjl : j < t'.size := by rw [← k1.length]; exact (List.getElem?_eq_some_iff.mp hj).1
        have hlt : k * t'.size + j < y.len * t'.size := by
          have : (k + 1) * t'.size ≤ y.len * t'.size := Nat.mul_le_mul_right _ hk
          rw [Nat.add_mul, Nat.one_mul] at this; omega
        simp only [colC, a1, hnr, Bool.false_eq_true, if_false]
        rw [q2 _ (by omega) (by rw [b1, b2]; omega)]
      · cases h
    · cases h
  | v t =>
    simp only [unIn] at h
    have hgs : GStays g w { g with col := colC g rfs pts } w := { stays_colC g w rfs pts with dom := fun _ h => ⟨h, rfl, rfl, rfl, rfl⟩, us := fun _ h => ⟨h, fun l => ⟨l, rfl, fun _ e => e⟩⟩ }
    have one : ∀ (q : PV) (u : Value), Rep g w q u → (∀ id ∈ msIds [q], id ∈ rfs) → Rep { g with col := colC g rfs pts } w (rslv1 σ.box q) u := by
      intro q u hq hin
      by_cases hms : ∃ id, q = .ms id
      · obtain ⟨id, rfl⟩ := hms
        have hq0 := hq
        simp only [Rep] at hq
        obtain ⟨hd, rfl⟩ := hq
        simp only [rslv1]
        split
        · rename_i t' y hb
          obtain ⟨b1, ⟨b2, b4, b5, b6, b7⟩, b3⟩ := (hs.box _ _ hb).2
          simp only [Rep]
          refine ⟨(g.hd id).1, (g.hd id).2, by rw [b1], ?_, trivial⟩
          refine ⟨(g.hd id).1, (g.hd id).2, by rw [b1], b6, ⟨b5, b7⟩, fun ad had => ⟨fun hp => ?_, fun k hk => ?_⟩⟩
          · rw [b4 hp] at had; cases had; rfl
          · rw [b4 (by omega)] at had; cases had
            obtain ⟨us, k1, k2⟩ := b3 k hk
            refine ⟨us, RepT.mono (stays_colC g w rfs pts) _ _ _ k1, fun j u hj => ?_⟩
            obtain ⟨a1, a2, _⟩ := k2 j u hj
            exact ⟨colC_rf a1 (hin id (by simp [msIds])), a2⟩
        · simp only [Rep]
      · have hp : rslv1 σ.box q = q := by
          cases q <;> first | rfl | (exact absurd ⟨_, rfl⟩ hms)
        rw [hp]
        exact Rep.mono hgs _ _ hq
    have all : ∀ (qs : List PV) (us : List Value), Reps g w qs us → (∀ id ∈ msIds qs, id ∈ rfs) → Reps { g with col := colC g rfs pts } w (qs.map (rslv1 σ.box)) us := by
      intro qs
      induction qs with
      | nil => intro us h _; simpa only [Reps, List.map_nil] using h
      | cons q qs ih =>
        intro us h hin
        simp only [Reps] at h
        obtain ⟨u, us', rfl, h1, h2⟩ := h
        simp only [List.map_cons, Reps]
        refine ⟨u, us', rfl, one q u h1 fun id hid => hin id ?_, ih us' h2 fun id hid => hin id ?_⟩
        · cases q <;> simp [msIds] at hid ⊢ <;> exact .inl hid
        · cases q <;> simp [msIds, hid]
    have hr' : Rep { g with col := colC g rfs pts } w (rslv σ.box p) v := by
      cases p with
      | agg cs =>
        simp only [Rep] at hr
        obtain ⟨vs, rfl, h2⟩ := hr
        simp only [rslv, Rep]
        exact ⟨vs, rfl, all cs vs h2 fun id hid => hin id (by simp [rfIds, rfIdsL, hid])⟩
      | ms id => exact one (.ms id) v hr fun i hi => hin i (by simpa [rfIds, rfIdsL, msIds] using hi)
      | _ => exact one _ v hr fun i hi => by simp [msIds] at hi
    exact unV_rep (g := { g with col := colC g rfs pts }) (w := w) h hr'
  | rf t =>
    simp only [unIn] at h
    exact winC_rep hs h hr (fun id hid => hin id (by simpa [rfIds] using hid))
  | pt t =>
    cases p <;> simp only [unIn] at h <;> try cases h
    rename_i id off
    obtain ⟨q1, q2⟩ := hpt t id off rfl rfl
    simp only [winC] at h
    split at h
    · rename_i cs hb
      simp only [Rep] at hr
      obtain ⟨hd, rfl⟩ := hr
      obtain ⟨us, h2, h3⟩ := (hs.box _ _ hb).2
      have hrep := unA_rep h (take_drop_reps h2 off t.size)
      have hl := hrep.length
      refine ⟨_, _, _, rfl, RepT.mono (stays_colC g w rfs pts) _ _ _ hrep, fun j u hj => ?_⟩
      have hj' : j < t.size := by rw [← hl]; exact (List.getElem?_eq_some_iff.mp hj).1
      rw [List.getElem?_take, if_pos hj', List.getElem?_drop] at hj
      obtain ⟨a1, a2, a3⟩ := h3 _ u hj
      rw [← Nat.add_assoc] at a1 a2 a3
      refine ⟨?_, a2, a3⟩
      have hnr : rfs.any (Nat.beq id) = false := by
        rw [List.any_eq_false]
        intro y hy hb2
        exact q1 (by rw [Nat.eq_of_beq_eq_true hb2]; exact hy)
      simp only [colC, a1, hnr, Bool.false_eq_true, if_false]
      rw [q2 _ (by omega) (by omega)]
    · cases h
  | clo f ts =>
    cases p <;> simp only [unIn] at h <;> try cases h
    rename_i f' caps
    split at h
    · rename_i hb
      have := Nat.eq_of_beq_eq_true hb
      subst this
      simp only [Rep] at hr
      obtain ⟨vs, e, h2⟩ := hr
      exact ⟨vs, e, unCaps_rep hs h h2 (fun id hid => hin id (by simpa [rfIds] using hid))⟩
    · cases h

end

end Go.VE
