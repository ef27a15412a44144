import Derived.Test.YtnjlpdagdedbaaaGreatViA
/- Contracts, regions, code, loops. -/
namespace Go.VE

inductive In where
  | v (t : Ty)
  | rf (t : Ty)
  | pt (t : Ty)
  | ow (t : Ty)
  | clo (g : FuncId) (ts : List Ty)

@[reducible] def TysT : List Ty → Type
  | [] => Unit
  | t :: r => t.T × TysT r
@[reducible] def In.T : In → Type
  | .v t => t.T
  | .rf t => t.T
  | .pt t => t.T
  | .ow t => L t.T
  | .clo _ ts => TysT ts
@[reducible] def InsT : List In → Type
  | [] => Unit
  | i :: r => i.T × InsT r
@[reducible] def PtT : List In → Type
  | [] => Unit
  | .pt t :: r => t.T × PtT r
  | .ow t :: r => L t.T × PtT r
  | _ :: r => PtT r

/-- What a function is said to do: what goes in, what comes out, and what the pointees hold behind it. -/
structure Ctr where
  ins : List In
  out : List Ty
  ptr : Bool := false
  /-- The slices among the results: 0: not known; 1: each in memory of its own, made by the call; 2: each in a block of its own, made by the call, and what lies behind its end is nobody's. -/
  fr : Nat := 0
  F : InsT ins → Option (TysT out × PtT ins)

abbrev Tbl := List (Nat × List Nat × Ctr)

def beqNats : List Nat → List Nat → Bool
  | [], [] => true
  | a :: r, b :: s => Nat.beq a b && beqNats r s
  | _, _ => false

def Tbl.find (f : Nat) (gs : List Nat) : Tbl → Option Ctr
  | [] => none
  | (f', gs', c) :: r => if Nat.beq f f' && beqNats gs gs' then some c else Tbl.find f gs r

def cloIds : List PV → List Nat
  | [] => []
  | .fn g _ :: r => g :: cloIds r
  | _ :: r => cloIds r

def PV.isAg : PV → Bool
  | .agg _ => true
  | _ => false

/-- A value as typed data. -/
def unV (t : Ty) (p : PV) : Option t.T := if p.isAg == t.isAgg then unA t p.cel else none

def winC (box : Nat → Option BoxC) (t : Ty) : PV → Option t.T
  | .rf cs => unA t (cs.take t.size)
  | .bx id off => match box id with
    | some (.cells cs) => unA t ((cs.drop off).take t.size)
    | _ => none
  | _ => none

def unCaps (box : Nat → Option BoxC) : (ts : List Ty) → List PV → Option (TysT ts)
  | [], [] => some ()
  | t :: r, p :: ps => match winC box t p with
    | some x => match unCaps box r ps with
      | some y => some (x, y)
      | none => none
    | none => none
  | _, _ => none

def unIn (box : Nat → Option BoxC) : (i : In) → PV → Option i.T
  | .v t, p => unV t (rslv box p)
  | .rf t, p => winC box t p
  | .pt t, .bx id off => winC box t (.bx id off)
  | .ow t, .ms id => match box id with
    | some (.arr t' x) => if h : t'.beq t = true then (bif t.flat then some (castT (Ty.eq_of_beq h) x) else none) else none
    | some (.mix t' x none) => if h : t'.beq t = true then (bif t.flat then none else some (castT (Ty.eq_of_beq h) x)) else none
    | _ => none
  | .ow t, .mn id i j => match box id with
    | some (.mix t' x none) => (match slN t' (x.get i) j with
      | some ⟨u, y⟩ => if h : u.beq t = true then (bif t.flat then some (castT (Ty.eq_of_beq h) y) else none) else none
      | none => none)
    | _ => none
  | .clo g ts, .fn g' caps => if Nat.beq g g' then unCaps box ts caps else none
  | _, _ => none

def unIns (box : Nat → Option BoxC) : (is : List In) → List PV → Option (InsT is)
  | [], [] => some ()
  | i :: r, p :: ps => match unIn box i p with
    | some x => match unIns box r ps with
      | some y => some (x, y)
      | none => none
    | none => none
  | _, _ => none

/-- The boxes that are handed on to be written. -/
def ptIds : List In → List PV → List Nat
  | .pt _ :: r, .bx id _ :: ps => id :: ptIds r ps
  | .ow _ :: r, .ms id :: ps => id :: ptIds r ps
  | .ow _ :: r, .mn id _ _ :: ps => id :: ptIds r ps
  | _ :: r, _ :: ps => ptIds r ps
  | _, _ => []

/-- The boxes that are handed on to be read. -/
def msIds : List PV → List Nat
  | [] => []
  | .ms id :: r => id :: msIds r
  | .mn id _ _ :: r => id :: msIds r
  | _ :: r => msIds r
def rfIdsL : List PV → List Nat
  | [] => []
  | .agg cs :: r => msIds cs ++ rfIdsL r
  | .bx id _ :: r => id :: rfIdsL r
  | .ms id :: r => id :: rfIdsL r
  | .mn id _ _ :: r => id :: rfIdsL r
  | _ :: r => rfIdsL r
def rfIds : List In → List PV → List Nat
  | .v _ :: r, p :: ps => rfIdsL [p] ++ rfIds r ps
  | .rf _ :: r, p :: ps => rfIdsL [p] ++ rfIds r ps
  | .clo _ _ :: r, .fn _ caps :: ps => rfIdsL caps ++ rfIds r ps
  | _ :: r, _ :: ps => rfIds r ps
  | _, _ => []

def nodupB : List Nat → Bool
  | [] => true
  | a :: r => (r.all fun b => !Nat.beq a b) && nodupB r

/-- A row handed in or out to be written. -/
def owBox (t : Ty) (x : L t.T) : BoxC := bif t.flat then .arr t x else .mix t x none

def wb (box : Nat → Option BoxC) : (is : List In) → List PV → PtT is → List (Nat × BoxC)
  | [], _, _ => []
  | .pt t :: r, .bx id off :: ps, y => (match box id with
      | some (.cells cs) => [(id, .cells (splice cs off (pk t y.1)))]
      | _ => []) ++ wb box r ps y.2
  | .pt _ :: r, _ :: ps, y => wb box r ps y.2
  | .ow t :: r, .ms id :: ps, y => (id, owBox t y.1) :: wb box r ps y.2
  | .ow t :: r, .mn id i j :: ps, y => (match box id with
      | some (.mix t' x own) => (match setN t y.1 t' (x.get i) j with
        | some z => [(id, .mix t' (x.set i z) own)]
        | none => [])
      | _ => []) ++ wb box r ps y.2
  | .ow _ :: r, _ :: ps, y => wb box r ps y.2
  | .v _ :: r, _ :: ps, y => wb box r ps y
  | .rf _ :: r, _ :: ps, y => wb box r ps y
  | .clo _ _ :: r, _ :: ps, y => wb box r ps y
  | _, _, _ => []

def mkOut (t : Ty) (x : t.T) : PV := mkPV t (pk t x)
def mkOuts : (ts : List Ty) → TysT ts → List PV
  | [], _ => []
  | t :: r, y => mkOut t y.1 :: mkOuts r y.2
def mkRes : (ts : List Ty) → TysT ts → PV
  | [t], y => mkOut t y.1
  | ts, y => .tup (mkOuts ts y)

def ptFlat : List In → Bool
  | [] => true
  | .pt t :: r => t.flat && ptFlat r
  | .ow t :: r => t.fl1 && ptFlat r
  | _ :: r => ptFlat r

def disjB (a b : List Nat) : Bool := a.all fun x => b.all fun y => !Nat.beq x y

def pBase : Nat := 100000000
/-- The name that the boxes of a result's own memory bear behind a call. -/
def oBase : Nat := 300000000

/-- A pointer that comes back: to a new box. -/
def ptrRes (d : Nat) : (ts : List Ty) → TysT ts → Option (PV × List (Nat × BoxC))
  | [t], y => some (.bx d 0, [(d, .cells (pk t y.1))])
  | _, _ => none

/-! ### Results in memory of their own -/
def frT (fr : Nat) (t : Ty) : Bool := bif Nat.beq fr 1 then t.fl2 else t.fl1
/-- May results of these types be handed out in memory of their own. -/
def frOk (fr : Nat) (ts : List Ty) : Bool := match fr with
  | 0 => false
  | 1 => ts.all Ty.fl2
  | _ => ts.all Ty.fl1
def nslL : List Ty → Nat
  | [] => 0
  | t :: r => t.nsl + nslL r
/-- The names of a call's results' slices. -/
def rBase (d : Nat) : Nat := 1000000 + 64 * d
def clmV (fr base : Nat) : (t : Ty) → t.T → Nat → List PV
  | .int k, n, _ => [.int k n]
  | .bool, b, _ => [.bool b]
  | .str, s, _ => [.str s]
  | .unit, _, _ => []
  | .pair a b, x, j => clmV fr base a x.1 j ++ clmV fr base b x.2 (j + a.nsl)
  | .sl t, x, j => bif Nat.beq fr 1 then [.ms (base + j)] else [.sl t x (.own (base + j))]
def clmB (base : Nat) : (t : Ty) → t.T → Nat → List (Nat × BoxC)
  | .pair a b, x, j => clmB base a x.1 j ++ clmB base b x.2 (j + a.nsl)
  | .sl t, x, j => [(base + j, owBox t x)]
  | _, _, _ => []
def clmK (base : Nat) : (t : Ty) → Nat → List (Nat × Nat)
  | .pair a b, j => clmK base a j ++ clmK base b (j + a.nsl)
  | .sl _, j => [(base + j, 1)]
  | _, _ => []
def clmVs (fr base : Nat) : (ts : List Ty) → TysT ts → Nat → List PV
  | [], _, _ => []
  | t :: r, y, j => mkPV t (clmV fr base t y.1 j) :: clmVs fr base r y.2 (j + t.nsl)
def clmBs (base : Nat) : (ts : List Ty) → TysT ts → Nat → List (Nat × BoxC)
  | [], _, _ => []
  | t :: r, y, j => clmB base t y.1 j ++ clmBs base r y.2 (j + t.nsl)
def clmKs (base : Nat) : List Ty → Nat → List (Nat × Nat)
  | [], _ => []
  | t :: r, j => clmK base t j ++ clmKs base r (j + t.nsl)
def clmR (fr base : Nat) : (ts : List Ty) → TysT ts → PV
  | [t], y => mkPV t (clmV fr base t y.1 0)
  | ts, y => .tup (clmVs fr base ts y 0)
/-- The names are new. -/
def freeN (σ : AS) (base n : Nat) : Bool := (List.range n).all fun j => (match σ.box (base + j) with | none => true | some _ => false) && (Nat.beq (σ.live (base + j)) 0 && Nat.blt (base + j) 100000000)

/-- What comes back of a call. -/
def resD (c : Ctr) (σ : AS) (dst : Option Nat) (y : TysT c.out) (w : List (Nat × BoxC)) : Option Dl :=
  bif c.ptr then (match dst with
    | some d => if !Nat.beq c.fr 0 then none else match σ.box (σ.off + d), ptrRes (σ.off + d) c.out y with
      | none, some (v, b) => some { v, bx := b ++ w }
      | _, _ => none
    | none => none)
  else match c.fr with
    | 0 => some { v := mkRes c.out y, bx := w }
    | 1 => (match dst with
      | some d => if frOk 1 c.out && freeN σ (rBase (σ.off + d)) (nslL c.out) then some { v := clmR 1 (rBase (σ.off + d)) c.out y, bx := w ++ clmBs (rBase (σ.off + d)) c.out y 0 } else none
      | none => none)
    | _ => (match dst with
      | some d => if c.out.all Ty.fl1 && freeN σ (rBase (σ.off + d)) (nslL c.out) then some { v := clmR 2 (rBase (σ.off + d)) c.out y, bx := w, tk := clmKs (rBase (σ.off + d)) c.out 0 } else none
      | none => none)

def callK {R : Type} (T : Tbl) (σ : AS) (dst : Option Nat) (f : FuncId) (args : List PV) (K : Dl → Option R) : Option R :=
  match T.find f (cloIds args) with
  | none => none
  | some c => match unIns σ.box c.ins args with
    | none => none
    | some x => if nodupB (ptIds c.ins args) && (disjB (ptIds c.ins args) (rfIds c.ins args) && ((rfIds c.ins args).isEmpty || ((c.out.all Ty.flat || frOk c.fr c.out) && ptFlat c.ins)))
      then (c.F x).bind fun y => (resD c σ dst y.1 (wb σ.box c.ins args y.2)).bind K else none

def guardOf (all : List Oper) (o : Oper) : Option (Option Nat × Bool) := match o.guard with
  | none => none
  | some (j, want) => some ((all[j]?).bind (·.dst), want)

/-! ### May a region's order be left open -/
def maskOf (acc : List Nat) (o : Oper) : Nat :=
  o.after.toList.foldl (fun s e => bif Region.binds .any e then s ||| 2 ^ e.on ||| acc.getD e.on 0 else s) 0
def masks : List Oper → List Nat → List Nat
  | [], acc => acc
  | o :: r, acc => masks r (acc ++ [maskOf acc o])

def tmpsOf (os : List Operand) : List Nat := os.filterMap fun | .tmp t => some t | _ => none

def boxOfP : PV → List Nat
  | .bx id _ => [id]
  | .ms id => [id]
  | .me id _ _ => [id]
  | .mn id _ _ => [id]
  | _ => []
def tokOfP : PV → List Nat
  | .sl _ _ (.tok k) => [k]
  | .sl _ _ (.own k) => [k]
  | _ => []
def msOfP : PV → List Nat
  | .ms id => [id]
  | .mn id _ _ => [id]
  | _ => []

/-- The names that a call's results get. -/
def frFoot (c : Ctr) (d : List Nat) : List (Nat × Bool) :=
  ((bif c.ptr then d else []).map fun b => (3 * b + 1, true)) ++ (bif Nat.beq c.fr 0 then [] else d.flatMap fun b => (List.range (nslL c.out)).flatMap fun j => [(3 * (rBase b + j) + 1, true), (3 * (rBase b + j) + 2, true)])

/-- What an operation looks at and what it turns: (its key, is it turned). Keys: 3t a slot, 3b+1 a box, 3k+2 what may be appended to. -/
def footB (T : Tbl) (o : Oper) (z : Nat) (env : Nat → PV) : List (Nat × Bool) :=
  let d := o.dst.toList.map (z + ·)
  match o.op with
  | .load _ a => (boxOfP (evO env a)).map fun b => (3 * b + 1, false)
  | .store _ a _ => (boxOfP (evO env a)).map fun b => (3 * b + 1, true)
  | .alloc _ => d.map fun b => (3 * b + 1, true)
  | .box _ _ => d.map fun b => (3 * b + 1, true)
  | .makeSlice _ _ _ => d.map fun b => (3 * b + 1, true)
  | .range _ _ => d.map fun b => (3 * b + 1, true)
  | .next it _ => (boxOfP (evO env it)).map fun b => (3 * b + 1, true)
  | .indexAddr _ x _ => (msOfP (evO env x)).map fun b => (3 * b + 1, false)
  | .call { callee := .builtin .append, args, argTypes := _ } => match args.toList.map (evO env) with
    | [x, y] => (tokOfP x).map (fun k => (3 * k + 2, true)) ++ d.map (fun b => (3 * b + 2, true)) ++ (msOfP y).map fun b => (3 * b + 1, false)
    | _ => []
  | .call { callee := .builtin _, args, argTypes := _ } => (args.toList.map (evO env)).flatMap fun p => (msOfP p).map fun b => (3 * b + 1, false)
  | .call { callee := .value f, args, argTypes := _ } => match evO env f with
    | .fn g cap =>
      let ps := args.toList.map (evO env) ++ cap
      match T.find g (cloIds ps) with
      | some c => (ptIds c.ins ps).map (fun b => (3 * b + 1, true)) ++ (rfIds c.ins ps).map (fun b => (3 * b + 1, false)) ++ frFoot c d
      | none => []
    | _ => []
  | _ => []
def footT (all : List Oper) (o : Oper) : List (Nat × Bool) :=
  (tmpsOf (match o.op with | .call c => c.operands.toList | op => op.operands.toList)).map (fun t => (3 * t, false)) ++
  (match guardOf all o with | some (some g, _) => [(3 * g, false)] | _ => []) ++
  (o.dst.toList.map fun d => (3 * d, true))
def foot (T : Tbl) (all : List Oper) (o : Oper) (z : Nat) (env : Nat → PV) : List (Nat × Bool) := footT all o ++ footB T o z env

def keyed (i : Nat) (l : List (Nat × Bool)) : List (Nat × Nat × Bool) := l.map fun p => (p.1, i, p.2)

def clash (ms : List Nat) (e1 e2 : Nat × Nat × Bool) : Bool :=
  e1.2.2 && (Nat.beq e1.1 e2.1 && (!Nat.beq e1.2.1 e2.2.1 && !((ms.getD (max e1.2.1 e2.2.1) 0).testBit (min e1.2.1 e2.2.1))))

def edgesB : List Oper → Nat → Bool
  | [], _ => true
  | o :: r, i => (o.after.toList.all fun e => !(Region.binds .any e) || Nat.blt e.on i) && edgesB r (i + 1)

def okDraw (all : List Oper) (es : List (Nat × Nat × Bool)) : Bool :=
  let ms := masks all []
  edgesB all 0 && es.all fun e1 => !e1.2.2 || es.all fun e2 => !clash ms e1 e2

def regK {R : Type} (P : Program) (Γ : TypeId → Option Ty) (T : Tbl) (all : List Oper) : List Oper → Nat → List (Nat × Nat × Bool) → AS → (AS → List (Nat × Nat × Bool) → Option R) → Option R
  | [], _, es, σ, K => K σ es
  | o :: rest, i, es, σ, K =>
    let step (σ : AS) : Option R := match o.op with
      | .call { callee := .value f, args, argTypes := _ } => match evO σ.env f with
        | .fn g cap => callK T σ o.dst g (args.toList.map (evO σ.env) ++ cap) fun d => regK P Γ T all rest (i + 1) (keyed i (foot T all o σ.off σ.env) ++ es) (σ.app o.dst d) K
        | _ => none
      | _ => match opD P Γ o σ with
        | some (c, d) => bif c then regK P Γ T all rest (i + 1) (keyed i (foot T all o σ.off σ.env) ++ es) (σ.app o.dst d) K else none
        | none => none
    let skip (σ : AS) : Option R := regK P Γ T all rest (i + 1) (keyed i (footT all o) ++ es) (σ.put o.dst (.tup [])) K
    match guardOf all o with
    | none => step σ
    | some (some g, want) => match σ.env g with
      | .bool b => bif b then
          (bif want then step { σ with env := upd σ.env g (.bool true) } else skip { σ with env := upd σ.env g (.bool true) })
        else
          (bif want then skip { σ with env := upd σ.env g (.bool false) } else step { σ with env := upd σ.env g (.bool false) })
      | .tup [] => skip σ
      | _ => none
    | some (none, _) => none

/-- What a small function comes to that is run in place: its arguments, the slot of what it gives, the state, what is done behind it. -/
structure Inl where
  run : ∀ {R : Type}, FuncId → List PV → Nat → AS → (PV → AS → Option R) → Option R
def Inl.no : Inl := ⟨fun _ _ _ _ _ => none⟩

def hasNat (l : List Nat) (a : Nat) : Bool := l.any (Nat.beq a)

/-! ### A row takes over what its elements' slices lie in -/
/-- A value of one cell that names none of these boxes, and nothing that box id owns. -/
def leafF (ids : List Nat) (id : Nat) : PV → Bool
  | .int _ _ => true
  | .bool _ => true
  | .str _ => true
  | .nils => true
  | .sl _ _ _ => true
  | .any => true
  | .bx k _ => !hasNat ids k
  | .ms k => !hasNat ids k
  | .me k _ _ => !hasNat ids k
  | .mn k _ _ => !hasNat ids k && !Nat.beq k id
  | _ => false
def freeB (ids : List Nat) (id : Nat) : PV → Bool
  | .agg cs => cs.all (leafF ids id)
  | .rf cs => cs.all (leafF ids id)
  | .fn _ cs => cs.all (leafF ids id)
  | .tup cs => cs.all (leafF ids id)
  | p => leafF ids id p
def scrP (ids : List Nat) (id : Nat) (p : PV) : PV := bif freeB ids id p then p else .any
def scrB (ids : List Nat) (id : Nat) : BoxC → BoxC
  | .cells cs => .cells (cs.map (scrP ids id))
  | c => c
/-- An element's cells, the slices' rows being what they are. -/
def unM (box : Nat → Option BoxC) : (t : Ty) → List PV → Option (t.T × List PV)
  | .int k, .int k' n :: r => if k = k' then some (n, r) else none
  | .bool, .bool b :: r => some (b, r)
  | .str, .str s :: r => some (s, r)
  | .unit, r => some ((), r)
  | .pair a b, l => match unM box a l with
    | some (x, r) => match unM box b r with
      | some (y, r') => some ((x, y), r')
      | none => none
    | none => none
  | .sl t, .nils :: r => some ({ len := 0, get := fun _ => t.zero, nil := true }, r)
  | .sl t, .ms id :: r => match box id with
    | some (.arr t' x) => if h : t'.beq t = true then (bif t.flat && Nat.blt id pBase then some (castT (Ty.eq_of_beq h) x, r) else none) else none
    | _ => none
  | _, _ => none
def ownSet (own : Option (Nat → Bool)) (i : Nat) : Option (Nat → Bool) := match own with
  | none => none
  | some f => some (upd f i true)
def absD (P : Program) (t : TypeId) (v a : PV) (σ : AS) : Option AS := match a with
  | .me id i 0 => match σ.box id with
    | some (.mix ty x own) => if v.cel.all PV.solid = true ∧ szOf P t = some v.cel.length ∧ (nodupB (id :: msIds v.cel) && Nat.blt id pBase) = true then match unM σ.box ty v.cel with
        | some (y, []) => some { σ with env := fun j => scrP (msIds v.cel) id (σ.env j), stk := σ.stk.map fun e j => scrP (msIds v.cel) id (e j), box := fun k => bif hasNat (msIds v.cel) k then none else bif Nat.beq k id then some (.mix ty (x.set i y) (ownSet own i)) else (match σ.box k with | some c => some (scrB (msIds v.cel) id c) | none => none) }
        | _ => none
      else none
    | _ => none
  | _ => none
def absO (P : Program) (o : Oper) (σ : AS) : Option AS := match o.op, o.dst with
  | .store t a x, none => absD P t (evO σ.env x) (evO σ.env a) σ
  | _, _ => none

/-- A region whose order is told: small functions are run in place. -/
def regI {R : Type} (P : Program) (Γ : TypeId → Option Ty) (T : Tbl) (I : Inl) (all : List Oper) : List Oper → AS → (AS → Option R) → Option R
  | [], σ, K => K σ
  | o :: rest, σ, K =>
    let step (σ : AS) : Option R := match o.op with
      | .call { callee := .value f, args, argTypes := _ } => match evO σ.env f with
        | .fn g cap => match T.find g (cloIds (args.toList.map (evO σ.env) ++ cap)) with
          | some _ => callK T σ o.dst g (args.toList.map (evO σ.env) ++ cap) fun d => regI P Γ T I all rest (σ.app o.dst d) K
          | none => I.run g (args.toList.map (evO σ.env) ++ cap) (o.dst.getD 0) σ fun v σ' => regI P Γ T I all rest (σ'.put o.dst v) K
        | _ => none
      | _ => match opD P Γ o σ with
        | some (c, d) => bif c then regI P Γ T I all rest (σ.app o.dst d) K else none
        | none => match absO P o σ with
          | some σ' => regI P Γ T I all rest σ' K
          | none => none
    let skip (σ : AS) : Option R := regI P Γ T I all rest (σ.put o.dst (.tup [])) K
    match guardOf all o with
    | none => step σ
    | some (some g, want) => match σ.env g with
      | .bool b => bif b then
          (bif want then step { σ with env := upd σ.env g (.bool true) } else skip { σ with env := upd σ.env g (.bool true) })
        else
          (bif want then skip { σ with env := upd σ.env g (.bool false) } else step { σ with env := upd σ.env g (.bool false) })
      | .tup [] => skip σ
      | _ => none
    | some (none, _) => none

/-! ### Loops -/
inductive XT where
  | normal | exit (id : Nat) | ret

inductive Slot where
  | v (t : Ty)
  | rf (t : Ty)
  | ext (t : Ty) (k : Nat)
  | exo (t : Ty) (k : Nat)
  | ms (id : Nat)
  | bx (id off : Nat)
  | clo (g : FuncId) (ts : List Ty)

@[reducible] def Slot.T : Slot → Type
  | .v t => t.T
  | .rf t => t.T
  | .ext t _ => L t.T
  | .exo t _ => L t.T
  | .clo _ ts => TysT ts
  | _ => Unit
inductive BSlot where
  | cells (cs : List Slot)
  | arr (t : Ty)
  | typ (t : Ty)
  | mix (t : Ty)
@[reducible] def SlotsT : List (Nat × Slot) → Type
  | [] => Unit
  | (_, s) :: r => s.T × SlotsT r
@[reducible] def CellsT : List Slot → Type
  | [] => Unit
  | s :: r => s.T × CellsT r
@[reducible] def BSlot.T : BSlot → Type
  | .cells cs => CellsT cs
  | .arr t => L t.T
  | .typ t => t.T
  | .mix t => L t.T
@[reducible] def BoxesT : List (Nat × BSlot) → Type
  | [] => Unit
  | (_, s) :: r => s.T × BoxesT r
structure Shape where
  slots : List (Nat × Slot)
  boxes : List (Nat × BSlot)
  dp : Bool := false
@[reducible] def Shape.T (s : Shape) : Type := SlotsT s.slots × BoxesT s.boxes

def slV (t : Ty) : PV → Option (L t.T)
  | .sl t' x _ => if h : t'.beq t = true then some (castT (Ty.eq_of_beq h) x) else none
  | .nils => some { len := 0, get := fun _ => t.zero, nil := true }
  | _ => none

/-- What a function holds: variables that are read. -/
def unRfs : (ts : List Ty) → List PV → Option (TysT ts)
  | [], [] => some ()
  | t :: r, .rf cs :: ps => match unA t cs with
    | some x => match unRfs r ps with
      | some y => some (x, y)
      | none => none
    | none => none
  | _, _ => none
def pkRfs : (ts : List Ty) → TysT ts → List PV
  | [], _ => []
  | t :: r, x => .rf (pk t x.1) :: pkRfs r x.2

def unSlot (live : Nat → Nat) : (s : Slot) → PV → Option s.T
  | .v t, p => unV t p
  | .rf t, .rf cs => unA t cs
  | .ext t _, p => match p with
    | .sl t' x (.tok k') => if Nat.beq (live k') 1 then slV t (.sl t' x (.tok k')) else none
    | .sl t' x (.own k') => if Nat.beq (live k') 1 then slV t (.sl t' x (.own k')) else none
    | .sl t' x .tight => slV t (.sl t' x .tight)
    | .nils => slV t .nils
    | _ => none
  | .exo t _, p => match p with
    | .sl t' x (.own k') => if Nat.beq (live k') 1 then slV t (.sl t' x (.own k')) else none
    | .sl t' x .tight => if Nat.beq x.len 0 then slV t (.sl t' x .tight) else none
    | .nils => slV t .nils
    | _ => none
  | .ms id, .ms id' => if Nat.beq id id' then some () else none
  | .bx id off, .bx id' off' => if Nat.beq id id' && Nat.beq off off' then some () else none
  | .clo g ts, .fn g' cap => if Nat.beq g g' then unRfs ts cap else none
  | _, _ => none
def unCells (live : Nat → Nat) : (ss : List Slot) → List PV → Option (CellsT ss)
  | [], [] => some ()
  | s :: r, p :: ps => match unSlot live s p with
    | some x => match unCells live r ps with
      | some y => some (x, y)
      | none => none
    | none => none
  | _, _ => none
def unSlots (env : Nat → PV) (live : Nat → Nat) : (ss : List (Nat × Slot)) → Option (SlotsT ss)
  | [] => some ()
  | (i, s) :: r => match unSlot live s (env i) with
    | some x => match unSlots env live r with
      | some y => some (x, y)
      | none => none
    | none => none
def unBoxes (box : Nat → Option BoxC) (live : Nat → Nat) : (bs : List (Nat × BSlot)) → Option (BoxesT bs)
  | [] => some ()
  | (i, .cells ss) :: r => match box i with
    | some (.cells cs) => match unCells live ss cs with
      | some x => match unBoxes box live r with
        | some y => some (x, y)
        | none => none
      | none => none
    | _ => none
  | (i, .arr t) :: r => match box i with
    | some (.arr t' x) => if h : t'.beq t = true then match unBoxes box live r with
        | some y => some (castT (Ty.eq_of_beq h) x, y)
        | none => none
      else none
    | _ => none
  | (i, .mix t) :: r => match box i with
    | some (.mix t' x none) => if h : t'.beq t = true then match unBoxes box live r with
        | some y => some (castT (Ty.eq_of_beq h) x, y)
        | none => none
      else none
    | _ => none
  | (i, .typ t) :: r => match box i with
    | some (.cells cs) => match unA t cs with
      | some x => match unBoxes box live r with
        | some y => some (x, y)
        | none => none
      | none => none
    | _ => none

/-- The sources of what may be appended to, and the names that they get. -/
def srcS : Slot → PV → List Nat
  | .ext _ _, .sl _ _ (.tok k') => [k']
  | .ext _ _, .sl _ _ (.own k') => [k']
  | .exo _ _, .sl _ _ (.own k') => [k']
  | _, _ => []
def srcC : List Slot → List PV → List Nat
  | s :: r, p :: ps => srcS s p ++ srcC r ps
  | _, _ => []
def srcL (env : Nat → PV) : List (Nat × Slot) → List Nat
  | [] => []
  | (i, s) :: r => srcS s (env i) ++ srcL env r
def srcB (box : Nat → Option BoxC) : List (Nat × BSlot) → List Nat
  | [] => []
  | (i, .cells ss) :: r => (match box i with | some (.cells cs) => srcC ss cs | _ => []) ++ srcB box r
  | (_, .arr _) :: r => srcB box r
  | (_, .typ _) :: r => srcB box r
  | (_, .mix _) :: r => srcB box r
def nameS : Slot → List Nat
  | .ext _ k => [k]
  | .exo _ k => [k]
  | _ => []
def Shape.names (s : Shape) : List Nat := s.slots.flatMap (fun p => nameS p.2) ++ s.boxes.flatMap fun p => match p.2 with | .cells ss => ss.flatMap nameS | .arr _ => [] | .typ _ => [] | .mix _ => []

/-- The boxes that a shape's slots name lie in it. -/
def boxS (ids : List Nat) : Slot → Bool
  | .ms id => ids.any (Nat.beq id)
  | .bx id _ => ids.any (Nat.beq id)
  | _ => true
def Shape.closed (s : Shape) : Bool :=
  let ids := s.boxes.map (·.1)
  (s.slots.all fun p => boxS ids p.2) && s.boxes.all fun p => match p.2 with | .cells ss => ss.all (boxS ids) | .arr _ => true | .typ _ => true | .mix _ => true

def unSh (sh : Shape) (σ : AS) : Option sh.T := match unSlots σ.env σ.live sh.slots with
  | some x => match unBoxes σ.box σ.live sh.boxes with
    | some y => if sh.closed && (nodupB (sh.boxes.map (·.1)) && (nodupB (srcL σ.env sh.slots ++ srcB σ.box sh.boxes) && nodupB sh.names)) then some (x, y) else none
    | none => none
  | none => none

def pkSlot : (s : Slot) → s.T → PV
  | .v t, x => mkPV t (pk t x)
  | .rf t, x => .rf (pk t x)
  | .ext t k, x => .sl t x (.tok k)
  | .exo t k, x => .sl t x (.own k)
  | .ms id, _ => .ms id
  | .bx id off, _ => .bx id off
  | .clo g ts, x => .fn g (pkRfs ts x)
def pkCells : (ss : List Slot) → CellsT ss → List PV
  | [], _ => []
  | s :: r, x => pkSlot s x.1 :: pkCells r x.2
def pkSlots : (ss : List (Nat × Slot)) → SlotsT ss → Nat → PV
  | [], _ => fun _ => .any
  | (i, s) :: r, x => fun j => bif Nat.beq j i then pkSlot s x.1 else pkSlots r x.2 j
def pkBoxes : (bs : List (Nat × BSlot)) → BoxesT bs → Nat → Option BoxC
  | [], _ => fun _ => none
  | (i, .cells ss) :: r, x => fun j => bif Nat.beq j i then some (.cells (pkCells ss x.1)) else pkBoxes r x.2 j
  | (i, .arr t) :: r, x => fun j => bif Nat.beq j i then some (.arr t x.1) else pkBoxes r x.2 j
  | (i, .typ t) :: r, x => fun j => bif Nat.beq j i then some (.cells (pk t x.1)) else pkBoxes r x.2 j
  | (i, .mix t) :: r, x => fun j => bif Nat.beq j i then some (.mix t x.1 none) else pkBoxes r x.2 j
def pkSh (sh : Shape) (x : sh.T) : AS := { env := pkSlots sh.slots x.1, box := pkBoxes sh.boxes x.2, live := fun k => bif sh.names.any (Nat.beq k) then 1 else 0, dp := sh.dp }

@[reducible] def ExT : List (XT × Shape) → Type
  | [] => Empty
  | (_, s) :: r => s.T ⊕ ExT r

def XT.same : XT → XT → Bool
  | .normal, .normal => true
  | .exit i, .exit j => Nat.beq i j
  | .ret, .ret => true
  | _, _ => false

/-- By which way a round leaves its loop. -/
def cls : (es : List (XT × Shape)) → XT → AS → Option (ExT es)
  | [], _, _ => none
  | (e', s) :: r, e, σ => if e'.same e then (match unSh s σ with | some y => some (.inl y) | none => none) else (match cls r e σ with | some d => some (.inr d) | none => none)
def exK {R : Type} : (es : List (XT × Shape)) → ExT es → (XT → AS → Option R) → Option R
  | [], d, _ => nomatch d
  | (e, s) :: r, d, K => match d with
    | .inl y => K e (pkSh s y)
    | .inr d' => exK r d' K

inductive LoopAnn where
  | fix (sh : Shape) (es : List (XT × Shape)) (step : sh.T → Option (sh.T ⊕ ExT es))
  | unroll (n : Nat) (keep : List Nat) (boxes : List Nat)

def iterO {X D : Type} (step : X → Option (X ⊕ D)) : Nat → X → Option D
  | 0, _ => none
  | n + 1, x => match step x with
    | none => none
    | some (.inl y) => iterO step n y
    | some (.inr d) => some d

open Classical in
/-- What a loop comes to: none where it comes to no end. -/
noncomputable def fixO {X D : Type} (step : X → Option (X ⊕ D)) (x : X) : Option D :=
  if h : ∃ n, ∃ d, iterO step n x = some d then some (Classical.choose (Classical.choose_spec h)) else none

theorem iterO_mono {X D : Type} {step : X → Option (X ⊕ D)} {n m : Nat} {x : X} {d : D} (h : iterO step n x = some d) (hm : n ≤ m) : iterO step m x = some d := by
  induction n generalizing m x with
  | zero => simp [iterO] at h
  | succ n ih =>
    obtain ⟨m, rfl⟩ : ∃ k, m = k + 1 := ⟨m - 1, by omega⟩
    simp only [iterO] at h ⊢
    cases hs : step x with
    | none => rw [hs] at h; simp at h
    | some r =>
      rw [hs] at h
      cases r with
      | inl y => simp only at h ⊢; exact ih h (by omega)
      | inr e => simpa using h

theorem fixO_some {X D : Type} {step : X → Option (X ⊕ D)} {x : X} {d : D} : fixO step x = some d ↔ ∃ n, iterO step n x = some d := by
  unfold fixO
  constructor
  · intro h
    split at h
    · rename_i hh
      obtain rfl := Option.some.inj h
      exact ⟨Classical.choose hh, Classical.choose_spec (Classical.choose_spec hh)⟩
    · cases h
  · rintro ⟨n, hn⟩
    have hh : ∃ n, ∃ d, iterO step n x = some d := ⟨n, d, hn⟩
    rw [dif_pos hh]
    have h2 := Classical.choose_spec (Classical.choose_spec hh)
    have h3 := iterO_mono h2 (Nat.le_max_left _ n)
    have h4 := iterO_mono hn (Nat.le_max_right (Classical.choose hh) n)
    rw [h3] at h4
    exact h4

theorem fixO_unfold {X D : Type} (step : X → Option (X ⊕ D)) (x : X) : fixO step x = match step x with
    | none => none
    | some (.inl y) => fixO step y
    | some (.inr d) => some d := by
  apply Option.ext
  intro d
  rw [fixO_some]
  cases hs : step x with
  | none =>
    simp only
    constructor
    · rintro ⟨n, hn⟩
      cases n with
      | zero => simp [iterO] at hn
      | succ n => simp [iterO, hs] at hn
    · intro h; cases h
  | some r =>
    cases r with
    | inl y =>
      simp only
      rw [fixO_some]
      constructor
      · rintro ⟨n, hn⟩
        cases n with
        | zero => simp [iterO] at hn
        | succ n => exact ⟨n, by simpa [iterO, hs] using hn⟩
      · rintro ⟨n, hn⟩
        exact ⟨n + 1, by simpa [iterO, hs] using hn⟩
    | inr e =>
      simp only
      constructor
      · rintro ⟨n, hn⟩
        cases n with
        | zero => simp [iterO] at hn
        | succ n => simpa [iterO, hs] using hn
      · intro h
        exact ⟨1, by simpa [iterO, hs] using h⟩

/-- A value of one cell that names no box. -/
def leafB : PV → Bool
  | .int _ _ => true
  | .bool _ => true
  | .str _ => true
  | .nils => true
  | .sl _ _ _ => true
  | .any => true
  | _ => false
def leafA : PV → Bool
  | .agg cs => cs.all leafB
  | p => leafB p
def leafC (l : List Nat) : PV → Bool
  | .bx id _ => hasNat l id
  | .rf cs => cs.all leafB
  | p => leafB p

/-- Does a value name no box but these. -/
def namesB (l : List Nat) : PV → Bool
  | .bx id _ => hasNat l id
  | .ms id => hasNat l id
  | .me id _ _ => hasNat l id
  | .mn id _ _ => hasNat l id
  | .fn _ cap => cap.all (leafC l)
  | .agg cs => cs.all leafB
  | .rf cs => cs.all leafB
  | .tup cs => cs.all leafA
  | _ => true

def narrow (keep boxes : List Nat) (σ : AS) : AS :=
  { σ with stk := σ.stk.map fun _ _ => .any, env := fun j => bif hasNat keep j then (bif namesB boxes (σ.env j) then σ.env j else .any) else .any, box := fun j => bif hasNat boxes j then (match σ.box j with | some (.cells cs) => some (.cells (cs.map fun p => bif namesB boxes p then p else .any)) | r => r) else none }

def loopU {R : Type} (body : AS → (XT → AS → Option R) → Option R) (keep boxes : List Nat) : Nat → AS → (XT → AS → Option R) → Option R
  | 0, _, _ => none
  | n + 1, σ, K => body σ fun e σ' => match e with
    | .normal => loopU body keep boxes n (narrow keep boxes σ') K
    | .exit i => K (.exit i) σ'
    | .ret => K .ret σ'

noncomputable def runK {R : Type} (P : Program) (Γ : TypeId → Option Ty) (T : Tbl) (I : Inl) (A : Nat → Option LoopAnn) : Code → Nat → AS → (XT → AS → Option R) → Option R
  | .skip, _, σ, K => K .normal σ
  | .region _ ops d, _, σ, K => bif d then regK P Γ T ops.toList ops.toList 0 [] σ fun σ' es => (bif okDraw ops.toList es then K .normal σ' else none) else regI P Γ T I ops.toList ops.toList σ fun σ' => K .normal σ'
  | .seq a b, c, σ, K => runK P Γ T I A a c σ fun e σ' => match e with
    | .normal => runK P Γ T I A b c σ' K
    | .exit i => K (.exit i) σ'
    | .ret => K .ret σ'
  | .cond o a b, c, σ, K => match evO σ.env o with
    | .bool t => bif t then runK P Γ T I A a c σ K else runK P Γ T I A b c σ K
    | _ => none
  | .block id b, _, σ, K => runK P Γ T I A b id σ fun e σ' => match e with
    | .exit j => bif Nat.beq j id then K .normal σ' else K (.exit j) σ'
    | .normal => K .normal σ'
    | .ret => K .ret σ'
  | .loop b, c, σ, K => match A c with
    | some (.fix sh es step) => match unSh sh σ with
      | some x => (fixO step x).bind fun d => exK es d K
      | none => none
    | some (.unroll n keep boxes) => loopU (fun σ K => runK P Γ T I A b c σ K) keep boxes n (narrow keep boxes σ) K
    | none => none
  | .exit id, _, σ, K => K (.exit id) σ
  | .ret, _, σ, K => K .ret σ
  | _, _, _, _ => none

def resPV (P : Program) (σ : AS) : ResultVar → Option PV
  | .tmp t => some (σ.env t)
  | .cell a t => match σ.env a with
    | .bx id off => rdAt P σ.box t (.bx id off)
    | _ => none
def resPVs (P : Program) (σ : AS) : List ResultVar → Option (List PV)
  | [] => some []
  | v :: vs => match resPV P σ v with
    | some p => match resPVs P σ vs with
      | some ps => some (p :: ps)
      | none => none
    | none => none
def resAll (P : Program) (σ : AS) (vs : List ResultVar) : Option PV := match resPVs P σ vs with
  | some [p] => some p
  | some ps => some (.tup ps)
  | none => none

def dstOkN (n z : Nat) (dst : Option Nat) : Bool := match dst with
  | some d => Nat.blt d n && Nat.blt (z + d) pBase
  | none => true
/-- Every slot that a text writes is one of the frame's. -/
def dstsOk (n z : Nat) : Code → Bool
  | .region _ ops _ => ops.toList.all fun o => dstOkN n z o.dst
  | .seq a b => dstsOk n z a && dstsOk n z b
  | .cond _ a b => dstsOk n z a && dstsOk n z b
  | .block _ b => dstsOk n z b
  | .loop b => dstsOk n z b
  | _ => true

/-- Small functions run in place, so deep. -/
noncomputable def inlN (P : Program) (Γ : TypeId → Option Ty) (T : Tbl) : Nat → Inl
  | 0 => Inl.no
  | n + 1 => ⟨fun g ps d σ K => match P.funcs[g]? with
    | some fn => match fn.body with
      | some code => if Nat.ble ps.length fn.ntmps && (!(fn.name == "runtime.NumGoroutine") && dstsOk fn.ntmps (σ.off + 2048 * (d + 1)) code) then
          runK P Γ T (inlN P Γ T n) (fun _ => none) code 0 { σ with env := fun j => ps.getD j .any, off := σ.off + 2048 * (d + 1), stk := σ.env :: σ.stk } fun e σ' => match e with
            | .exit _ => none
            | _ => match resAll P σ' fn.results.toList, σ'.stk with
              | some v, env :: r => K v { σ' with env := env, off := σ.off, stk := r }
              | _, _ => none
        else none
      | none => none
    | none => none⟩

/-! ### A function -/
def pkIns : (is : List In) → InsT is → Nat → List PV
  | [], _, _ => []
  | .v t :: r, x, i => mkPV t (pk t x.1) :: pkIns r x.2 (i + 1)
  | .rf t :: r, x, i => .rf (pk t x.1) :: pkIns r x.2 (i + 1)
  | .pt _ :: r, x, i => .bx (pBase + i) 0 :: pkIns r x.2 (i + 1)
  | .ow _ :: r, x, i => .ms (pBase + i) :: pkIns r x.2 (i + 1)
  | .clo g ts :: r, x, i => .fn g (pkCaps ts x.1) :: pkIns r x.2 (i + 1)
where
  pkCaps : (ts : List Ty) → TysT ts → List PV
    | [], _ => []
    | t :: r, x => .rf (pk t x.1) :: pkCaps r x.2
def inBox : (is : List In) → InsT is → Nat → Nat → Option BoxC
  | [], _, _ => fun _ => none
  | .pt t :: r, x, i => fun j => bif Nat.beq j (pBase + i) then some (.cells (pk t x.1)) else inBox r x.2 (i + 1) j
  | .ow t :: r, x, i => fun j => bif Nat.beq j (pBase + i) then some (owBox t x.1) else inBox r x.2 (i + 1) j
  | _ :: r, x, i => inBox r x.2 (i + 1)

def initAS (c : Ctr) (x : InsT c.ins) : AS := { env := fun j => (pkIns c.ins x 0).getD j .any, box := inBox c.ins x 0, live := fun _ => 0, dp := Nat.beq c.fr 1 && !c.out.all Ty.fl1 }

/-- A made row is handed out only where it was made here. -/
def rslvN (box : Nat → Option BoxC) : PV → PV
  | .ms id => bif Nat.blt id pBase then rslvA box (.ms id) else .any
  | p => p
def unOuts (P : Program) (σ : AS) : (ts : List Ty) → List ResultVar → Option (TysT ts)
  | [], [] => some ()
  | t :: r, v :: vs => match resPV P σ v with
    | some p => match unV t (rslvN σ.box p) with
      | some x => match unOuts P σ r vs with
        | some y => some (x, y)
        | none => none
      | none => none
    | none => none
  | _, _ => none
def unPts (σ : AS) : (is : List In) → Nat → Option (PtT is)
  | [], _ => some ()
  | .pt t :: r, i => match winC σ.box t (.bx (pBase + i) 0) with
    | some x => match unPts σ r (i + 1) with
      | some y => some (x, y)
      | none => none
    | none => none
  | .ow t :: r, i => match σ.box (pBase + i) with
    | some (.arr t' x) => if h : t'.beq t = true then (bif t.flat then match unPts σ r (i + 1) with
        | some y => some (castT (Ty.eq_of_beq h) x, y)
        | none => none
      else none) else none
    | some (.mix t' x none) => if h : t'.beq t = true then (bif t.flat then none else match unPts σ r (i + 1) with
        | some y => some (castT (Ty.eq_of_beq h) x, y)
        | none => none) else none
    | _ => none
  | .v _ :: r, i => unPts σ r (i + 1)
  | .rf _ :: r, i => unPts σ r (i + 1)
  | .clo _ _ :: r, i => unPts σ r (i + 1)

/-- A pointer that is handed out: to a box that was made here. -/
def unPtr (P : Program) (σ : AS) : (ts : List Ty) → List ResultVar → Option (TysT ts)
  | [t], [v] => match resPV P σ v with
    | some (.bx id 0) => bif Nat.blt id pBase then (match σ.box id with
      | some (.cells cs) => match unA t cs with
        | some x => bif Nat.blt 0 t.size then some (x, ()) else none
        | none => none
      | _ => none) else none
    | _ => none
  | _, _ => none

/-! ### Results in memory of their own: what a function hands out -/
/-- Whose a slice is that is handed out: 2 k + 2: what may be appended to; 2 id + 1: a row; 0: it has no elements. -/
def nameP : PV → List Nat
  | .nils => [0]
  | .sl _ _ (.own k) => [2 * k + 2]
  | .sl _ _ _ => [0]
  | .ms id => [2 * id + 1]
  | _ => []
def unF (σ : AS) (fr : Nat) : (t : Ty) → List PV → Option (t.T × List PV)
  | .int k, .int k' n :: r => if k = k' then some (n, r) else none
  | .bool, .bool b :: r => some (b, r)
  | .str, .str s :: r => some (s, r)
  | .unit, r => some ((), r)
  | .pair a b, l => match unF σ fr a l with
    | some (x, r) => match unF σ fr b r with
      | some (y, r') => some ((x, y), r')
      | none => none
    | none => none
  | .sl t, .nils :: r => some ({ len := 0, get := fun _ => t.zero, nil := true }, r)
  | .sl t, .sl t' x (.own k) :: r => if h : t'.beq t = true then (if (Nat.beq (σ.live k) 1 && (t.flat || !Nat.beq fr 1)) = true then some (castT (Ty.eq_of_beq h) x, r) else none) else none
  | .sl t, .sl t' x .tight :: r => if h : t'.beq t = true then (if Nat.beq x.len 0 then some (castT (Ty.eq_of_beq h) x, r) else none) else none
  | .sl t, .ms id :: r => if Nat.beq fr 1 && Nat.blt id pBase then (match σ.box id with
      | some (.arr t' x) => if h : t'.beq t = true then (bif t.flat then some (castT (Ty.eq_of_beq h) x, r) else none) else none
      | some (.mix t' x none) => if h : t'.beq t = true then (bif t.flat then none else some (castT (Ty.eq_of_beq h) x, r)) else none
      | _ => none) else none
  | _, _ => none
def unFV (σ : AS) (fr : Nat) (t : Ty) (p : PV) : Option t.T := if p.isAg == t.isAgg then (match unF σ fr t p.cel with
  | some (x, []) => some x
  | _ => none) else none
def unFs (P : Program) (σ : AS) (fr : Nat) : (ts : List Ty) → List ResultVar → Option (TysT ts)
  | [], [] => some ()
  | t :: r, v :: vs => match resPV P σ v with
    | some p => match unFV σ fr t p with
      | some x => match unFs P σ fr r vs with
        | some y => some (x, y)
        | none => none
      | none => none
    | none => none
  | _, _ => none
def namesR (P : Program) (σ : AS) : List ResultVar → List Nat
  | [] => []
  | v :: vs => (match resPV P σ v with | some p => p.cel.flatMap nameP | none => []) ++ namesR P σ vs
def nodupNZ : List Nat → Bool
  | [] => true
  | a :: r => (Nat.beq a 0 || !r.any (Nat.beq a)) && nodupNZ r
def unFresh (P : Program) (σ : AS) (c : Ctr) (vs : List ResultVar) : Option (TysT c.out) :=
  if frOk c.fr c.out && (nodupNZ (namesR P σ vs) && (!Nat.beq c.fr 1 || ptFlat c.ins)) then unFs P σ c.fr c.out vs else none

def finK (P : Program) (fn : Func) (c : Ctr) (σ : AS) : Option (TysT c.out × PtT c.ins) := match (bif c.ptr then unPtr P σ c.out fn.results.toList else bif Nat.beq c.fr 0 then unOuts P σ c.out fn.results.toList else unFresh P σ c fn.results.toList) with
  | some y => match unPts σ c.ins 0 with
    | some z => some (y, z)
    | none => none
  | none => none

noncomputable def fnK (P : Program) (Γ : TypeId → Option Ty) (T : Tbl) (A : Nat → Option LoopAnn) (fn : Func) (c : Ctr) (x : InsT c.ins) : Option (TysT c.out × PtT c.ins) :=
  match fn.body with
  | some code => runK P Γ T (inlN P Γ T 3) A code 0 (initAS c x) fun e σ => match e with
    | .exit _ => none
    | _ => finK P fn c σ
  | none => none

/-- The loops of a text: the number of the block round each, and its round. -/
def loopsIn : Code → Nat → List (Nat × Code)
  | .seq a b, c => loopsIn a c ++ loopsIn b c
  | .cond _ a b, c => loopsIn a c ++ loopsIn b c
  | .block id b, _ => loopsIn b id
  | .loop b, c => (c, b) :: loopsIn b c
  | _, _ => []

def loopCls {sh : Shape} {es : List (XT × Shape)} (e : XT) (σ : AS) : Option (sh.T ⊕ ExT es) := match e with
  | .normal => match unSh sh σ with
    | some y => some (.inl y)
    | none => none
  | .exit i => match cls es (.exit i) σ with
    | some d => some (.inr d)
    | none => none
  | .ret => match cls es .ret σ with
    | some d => some (.inr d)
    | none => none

def LoopOk (P : Program) (Γ : TypeId → Option Ty) (T : Tbl) (A : Nat → Option LoopAnn) (p : Nat × Code) : Prop := match A p.1 with
  | some (.fix sh es step) => ∀ x d, step x = some d → runK P Γ T (inlN P Γ T 3) A p.2 p.1 (pkSh sh x) (loopCls (sh := sh) (es := es)) = some d
  | _ => True

def LoopsOk (P : Program) (Γ : TypeId → Option Ty) (T : Tbl) (A : Nat → Option LoopAnn) : List (Nat × Code) → Prop
  | [] => True
  | p :: r => LoopOk P Γ T A p ∧ LoopsOk P Γ T A r

end Go.VE
