import Derived.Below
import Derived.Orders
import Derived.KernelRfl
/- An evaluator of loaded Go code on typed values: the words and the evaluator itself. -/
namespace Go.VE
inductive Ty where
 | int (k:IntKind)
 | bool
 | str
 | unit
 | pair (a b:Ty)
 | sl (t:Ty)
structure L (α:Type) where
 len:Nat
 get:Nat→α
 nil:Bool:=false
@[reducible] def Ty.T:Ty→Type
  | .int _=>Int
  | .bool=>Bool
  | .str=>ByteArray
  | .unit=>Unit
  | .pair a b=>a.T×b.T
  | .sl t=>L t.T
def Ty.beq:Ty→Ty→Bool
 | .int k,.int k'=>decide (k = k')
 | .bool,.bool=>true
 | .str,.str=>true
 | .unit,.unit=>true
 | .pair a b,.pair a' b'=>a.beq a'&&b.beq b'
 | .sl t,.sl t'=>t.beq t'
 | _,_=>false
theorem Ty.eq_of_beq:∀ {a b:Ty},a.beq b = true→a = b:=by
 intro a
 induction a with
 | int k=>intro b h; cases b <;> simp [Ty.beq] at h; rw [h]
 | bool=>intro b h; cases b <;> simp [Ty.beq] at h; rfl
 | str=>intro b h; cases b <;> simp [Ty.beq] at h; rfl
 | unit=>intro b h; cases b <;> simp [Ty.beq] at h; rfl
 | pair a b iha ihb =>
   intro c h
   cases c <;> simp [Ty.beq] at h
   rw [iha h.1,ihb h.2]
 | sl t ih =>
   intro c h
   cases c <;> simp [Ty.beq] at h
   rw [ih h]
def Ty.size:Ty→Nat
 | .unit=>0
 | .pair a b=>a.size + b.size
 | _=>1
def Ty.zero:(t:Ty)→t.T
 | .int _=>(0:Int)
 | .bool=>false
 | .str=>ByteArray.empty
 | .unit=>()
 | .pair a b=>(a.zero,b.zero)
 | .sl t=>{ len:=0,get:=fun _=>t.zero,nil:=true }
inductive PV where
 | int (k:IntKind) (n:Int)
 | bool (b:Bool)
 | str (s:ByteArray)
 | l9
 | sl (t:Ty) (x:L t.T)
 | agg (cs:List PV)
 | bx (id off:Nat)
 /-- A row,as it stood at turn v. -/
 | ms (id v:Nat)
 /-- A part of a row. -/
 | vw (id v sz lo hi:Nat)
 /-- Slice j of a row's element i. -/
 | mn (id v i j:Nat)
 | vn (id v i j sz lo hi:Nat)
 /-- Where a row's element lies,and where an element of an element's slice. -/
 | me (id v sz i off:Nat)
 | mp (id v i j sz k off:Nat)
 /-- A slice written out of cells that are rows,or parts of rows,as they stand. -/
 | so (u:Ty) (cs:List PV)
 | rf (cs:List PV)
 | fn (f:FuncId) (cap:List PV)
 | HY (cs:List PV)
 | any
def PV.solid:PV→Bool
 | .agg _=>false
 | .HY _=>false
 | .any=>false
 | _=>true
inductive aU where
 | cells (cs:List PV)
 | row (t:Ty) (x:L t.T) (own:Option (Nat→Bool)) (hv nv:Nat)
 | gone (hv nv:Nat)
 /-- A row of slices of which one went to a row of its own. -/
 | hol (u:Ty) (x:L (L u.T)) (i hv nv:Nat)
 | iter (s:ByteArray) (pos:Nat)
structure AS where
 env:Nat→PV
 box:Nat→Option aU
def upd {α:Type} (f:Nat→α) (d:Nat) (v:α):Nat→α:=fun j=>bif Nat.beq j d then v else f j
def L.set {α:Type} (x:L α) (i:Nat) (v:α):L α:={ len:=x.len,get:=fun j=>bif Nat.beq j i then v else x.get j,nil:=x.nil }
def L.upd {α:Type} (x:L α) (i:Nat) (f:α→α):L α:=x.set i (f (x.get i))
def L.cut {α:Type} (x:L α) (l h:Nat):L α:={ len:=h - l,get:=fun j=>x.get (l + j),nil:=x.nil }
def L.app {α:Type} (x y:L α):L α:={ len:=x.len + y.len,get:=fun j=>bif Nat.blt j x.len then x.get j else y.get (j - x.len),nil:=x.nil&&Nat.beq y.len 0 }
def L.new {α:Type} (x:L α):L α:={ len:=x.len,get:=x.get,nil:=Nat.beq x.len 0 }
def L.of {α:Type} (d:α) (l:List α):L α:={ len:=l.length,get:=fun j=>l.getD j d }
def L.rep {α:Type} (n:Nat) (v:α):L α:={ len:=n,get:=fun _=>v }
def pk:(t:Ty)→t.T→List PV
 | .int k,n=>[.int k n]
 | .bool,b=>[.bool b]
 | .str,s=>[.str s]
 | .unit,_=>[]
 | .pair a b,x=>pk a x.1 ++ pk b x.2
 | .sl t,x=>[.sl t x]
def PV.dY:PV→List PV
 | .agg cs=>cs
 | p=>[p]
def Ty.isAgg:Ty→Bool
 | .unit=>true
 | .pair _ _=>true
 | _=>false
def yh (t:Ty) (cs:List PV):PV:=match t with
 | .unit=>.agg cs
 | .pair _ _=>.agg cs
 | _=>cs.headD .any
def dx {a b:Ty} (h:a = b) (x:L a.T):L b.T:=h ▸ x
def Ty.bJ:Ty→Nat
 | .pair a b=>a.bJ + b.bJ
 | .sl _=>1
 | _=>0
def Ty.flat:Ty→Bool
 | .pair a b=>a.flat&&b.flat
 | .sl _=>false
 | _=>true
def Ty.yj:Ty→Bool
 | .pair a b=>a.yj&&b.yj
 | .sl t=>t.flat
 | _=>true
def Ty.YH:Ty→Bool
 | .pair a b=>a.YH&&b.YH
 | .sl t=>t.yj
 | _=>true
def sI:(t:Ty)→t.T→Nat→Option ((u:Ty)×L u.T)
 | .sl u,x,0=>some ⟨u,x⟩
 | .pair a b,x,j=>bif Nat.blt j a.bJ then sI a x.1 j else sI b x.2 (j - a.bJ)
 | _,_,_=>none
def jP (u:Ty) (y:L u.T):(t:Ty)→t.T→Nat→Option t.T
 | .sl u',_,0=>if h:u.beq u' = true then some (dx (Ty.eq_of_beq h) y) else none
 | .pair a b,x,j=>bif Nat.blt j a.bJ then (match jP u y a x.1 j with | some z=>some (z,x.2) | none=>none) else (match jP u y b x.2 (j - a.bJ) with | some z=>some (x.1,z) | none=>none)
 | _,_,_=>none
def Ro (id v i:Nat):(t:Ty)→t.T→Nat→List PV
 | .int k,n,_=>[.int k n]
 | .bool,b,_=>[.bool b]
 | .str,s,_=>[.str s]
 | .unit,_,_=>[]
 | .pair a b,x,j=>Ro id v i a x.1 j ++ Ro id v i b x.2 (j + a.bJ)
 | .sl _,_,j=>[.mn id v i j]
def un:(t:Ty)→List PV→Option (t.T×List PV)
 | .int k,.int k' n::r=>if k = k' then some (n,r) else none
 | .bool,.bool b::r=>some (b,r)
 | .str,.str s::r=>some (s,r)
 | .unit,r=>some ((),r)
 | .pair a b,l=>match un a l with
   | some (x,r)=>match un b r with
     | some (y,r')=>some ((x,y),r')
     | none=>none
   | none=>none
 | .sl t,.sl t' x::r=>if h:t'.beq t = true then some (dx (Ty.eq_of_beq h) x,r) else none
 | .sl t,.l9::r=>some ({ len:=0,get:=fun _=>t.zero,nil:=true },r)
 | _,_=>none
def yt (t:Ty) (cs:List PV):Option t.T:=match un t cs with
 | some (x,[])=>some x
 | _=>none
def H8:Value→PV
 | .int k n=>.int k n
 | .bool b=>.bool b
 | .string s=>.str s
 | .slice none 0 0=>.l9
 | _=>.any
def ofV:Value→PV
 | .agg cs=>.agg (cs.toList.map H8)
 | v=>H8 v
def jQ (env:Nat→PV):Operand→PV
 | .tmp t=>env t
 | .const v=>ofV v
 | .global _=>.any
 | .func f=>.fn f []
def xB (box:Nat→Option aU):PV→PV
 | .ms id v=>match box id with
   | some (.row t x _ hv _)=>bif Nat.beq v hv then .sl t x else .any
   | _=>.any
 | .vw id v sz lo hi=>match box id with
   | some (.row t x _ hv _)=>bif Nat.beq v hv&&Nat.beq sz t.size then .sl t (x.cut lo hi) else .any
   | _=>.any
 | .mn id v i j=>match box id with
   | some (.row t x _ _ nv)=>bif Nat.beq v nv then (match sI t (x.get i) j with
     | some ⟨u,y⟩=>.sl u y
     | none=>.any) else .any
   | _=>.any
 | .vn id v i j sz lo hi=>match box id with
   | some (.row t x _ _ nv)=>bif Nat.beq v nv then (match sI t (x.get i) j with
     | some ⟨u,y⟩=>bif Nat.beq sz u.size then .sl u (y.cut lo hi) else .any
     | none=>.any) else .any
   | _=>.any
 | p=>p
def Fg (u:Ty):List PV→Option (List u.T)
 | []=>some []
 | p::r=>match yt u [p],Fg u r with
   | some x,some xs=>some (x::xs)
   | _,_=>none
def kG (box:Nat→Option aU):PV→PV
 | .so u cs=>match Fg u (cs.map (xB box)) with
   | some xs=>.sl u (L.of u.zero xs)
   | none=>.any
 | p=>xB box p
def Vf (box:Nat→Option aU):PV→PV
 | .agg cs=>.agg (cs.map (kG box))
 | p=>kG box p
structure Dl where
 v:PV
 bx:List (Nat×aU):=[]
def oG {α:Type} (f:Nat→α):List (Nat×α)→Nat→α
 | []=>f
 | (d,v)::r=>oG (upd f d v) r
def AS.put (σ:AS) (dst:Option Nat) (v:PV):AS:=match dst with
 | some d=>{ σ with env:=upd σ.env d v }
 | none=>σ
def AS.app (σ:AS) (dst:Option Nat) (d:Dl):AS :=
 { env:=match dst with | some t=>upd σ.env t d.v | none=>σ.env,box:=oG σ.box (d.bx.map fun p=>(p.1,some p.2)) }
/-! ### What the program's tables say -/
def isAgg (P:Program) (t:TypeId):Option Bool:=match P.underlying t with
 | some (.struct _)=>some true
 | some (.array _ _)=>some true
 | some _=>some false
 | none=>none
def jR (P:Program) (t:TypeId):Option Nat:=(P.info? t).map (·.size)
def bytesOf (P:Program) (t:TypeId):Option Nat:=(P.info? t).map (·.bytes)
def zeroOf (P:Program) (t:TypeId):Option (List PV):=match P.info? t with
 | some i=>match i.zero with
   | some v=>some (v.cells.toList.map H8)
   | none=>none
 | none=>none
def yJ (P:Program) (s:TypeId) (f:Nat):Option (Nat×TypeId):=match P.underlying s with
 | some (.struct fs)=>match fs[f]? with
   | some x=>some (x.offset,x.type)
   | none=>none
 | _=>none
def elemOf (P:Program) (t:TypeId):Option TypeId:=match P.underlying t with
 | some (.slice e)=>some e
 | _=>none
def Rs (P:Program) (t:TypeId) (cs:List PV):Option PV:=match isAgg P t,jR P t with
 | some true,some n=>if n≤cs.length then some (.agg (cs.take n)) else none
 | some false,some _=>match cs with
   | c::_=>some c
   | []=>none
 | _,_=>none
def splice (cs:List PV) (off:Nat) (new:List PV):List PV:=cs.take off ++ new ++ cs.drop (off + new.length)
def Cj (place:Nat→Option (Nat×Nat)) (cs:List PV):List (Nat×PV)→Option (List PV)
 | []=>some cs
 | (i,p)::r=>match place i with
   | some (off,size)=>if p.dY.all PV.solid = true ∧ p.dY.length = size ∧ off + size≤cs.length then Cj place (splice cs off p.dY) r else none
   | none=>none
def wI (n:Int):Int:=IntKind.i64.wrap n
def Fh (op:BinOp) (k:IntKind) (a b:Int):Option (Bool×PV):=match op with
 | .add=>some (true,.int k (k.wrap (a + b)))
 | .sub=>some (true,.int k (k.wrap (a - b)))
 | .mul=>some (true,.int k (k.wrap (a * b)))
 | .quo=>some (!decide (b = 0),.int k (k.wrap (a.tdiv b)))
 | .rem=>some (!decide (b = 0),.int k (a.tmod b))
 | .and=>some (true,.int k (k.wrap (BitVec.toNat (BitVec.ofInt k.bits a &&&BitVec.ofInt k.bits b))))
 | .or=>some (true,.int k (k.wrap (BitVec.toNat (BitVec.ofInt k.bits a ||| BitVec.ofInt k.bits b))))
 | .xor=>some (true,.int k (k.wrap (BitVec.toNat (BitVec.ofInt k.bits a ^^^ BitVec.ofInt k.bits b))))
 | .andNot=>some (true,.int k (k.wrap (BitVec.toNat (BitVec.ofInt k.bits a &&&~~~(BitVec.ofInt k.bits b)))))
 | .eql=>some (true,.bool (a == b))
 | .neq=>some (true,.bool (a != b))
 | .lss=>some (true,.bool (decide (a < b)))
 | .leq=>some (true,.bool (decide (a≤b)))
 | .gtr=>some (true,.bool (decide (a > b)))
 | .geq=>some (true,.bool (decide (a ≥ b)))
 | _=>none
def kW (k:IntKind) (a b:Int):Int:=k.wrap (a * 2 ^ (min b.toNat k.bits))
def dz (k:IntKind) (a b:Int):Int:=a.fdiv (2 ^ (min b.toNat k.bits))
def strEq (a b:ByteArray):Bool:=a.toList == b.toList
def qW (P:Program) (t:TypeId):Bool:=match P.underlying t with
 | some (.int _)=>true
 | _=>false
def Fj (P:Program) (t:TypeId):Bool:=match P.underlying t with
 | some .bool=>true
 | _=>false
def Jz (P:Program) (t:TypeId):Bool:=match P.underlying t with
 | some .string=>true
 | _=>false
def DN (P:Program):List Field→Nat→List PV→List PV→Option Bool
 | [],_,[],[]=>some true
 | f::fs,i,.int k a::r,.int k' b::s=>if k = k' ∧ (f.name == "_") = false ∧ f.offset = i ∧ qW P f.type = true then (DN P fs (i + 1) r s).map fun q=>(a == b)&&q else none
 | f::fs,i,.bool a::r,.bool b::s=>if (f.name == "_") = false ∧ f.offset = i ∧ Fj P f.type = true then (DN P fs (i + 1) r s).map fun q=>(a == b)&&q else none
 | f::fs,i,.str a::r,.str b::s=>if (f.name == "_") = false ∧ f.offset = i ∧ Jz P f.type = true then (DN P fs (i + 1) r s).map fun q=>strEq a b&&q else none
 | _,_,_,_=>none
def uh (P:Program) (t:TypeId) (a b:List PV):Option Bool:=match P.underlying t with
 | some (.struct fs)=>if P.stoodInHeld t = false ∧ P.eqGuardType P.depth t = false then DN P fs.toList 0 a b else none
 | _=>none
def M8 (P:Program) (op:BinOp) (t:TypeId) (x y:PV):Option (Bool×PV):=match op,x,y with
 | .shl,.int k a,.int _ b=>some (decide (0≤b),.int k (kW k a b))
 | .shr,.int k a,.int _ b=>some (decide (0≤b),.int k (dz k a b))
 | op,.int k a,.int k' b=>if k = k' then Fh op k a b else none
 | .eql,.bool a,.bool b=>match P.underlying t with
   | some .bool=>some (true,.bool (a == b))
   | _=>none
 | .neq,.bool a,.bool b=>match P.underlying t with
   | some .bool=>some (true,.bool (!(a == b)))
   | _=>none
 | .add,.str a,.str b=>some (Nat.ble (a.size + b.size) 9223372036854775807,.str (a ++ b))
 | .eql,.str a,.str b=>some (true,.bool (strEq a b))
 | .neq,.str a,.str b=>some (true,.bool (!strEq a b))
 | .eql,.agg a,.agg b=>(uh P t a b).map fun q=>(true,.bool q)
 | .neq,.agg a,.agg b=>(uh P t a b).map fun q=>(true,.bool (!q))
 | .eql,.sl _ x,.l9=>match P.underlying t with
   | some (.slice _)=>some (true,.bool x.nil)
   | _=>none
 | .neq,.sl _ x,.l9=>match P.underlying t with
   | some (.slice _)=>some (true,.bool (!x.nil))
   | _=>none
 | .eql,.l9,.l9=>match P.underlying t with
   | some (.slice _)=>some (true,.bool true)
   | _=>none
 | _,_,_=>none
def bt (s:ByteArray) (i:Int):Int:=((s[i.toNat]?).getD 0).toNat
def gI (v:Option PV) (d:Int):Option Int:=match v with
 | some (.int _ n)=>some n
 | none=>some d
 | _=>none
def iO (t:Ty):L t.T:={ len:=0,get:=fun _=>t.zero,nil:=true }
def M9 (P:Program) (box:Nat→Option aU) (t:TypeId):PV→Option PV
 | .bx id off=>match box id with
   | some (.cells cs)=>Rs P t (cs.drop off)
   | _=>none
 | .rf cs=>Rs P t cs
 | .me id v sz i off=>match box id with
   | some (.row ty x _ hv nv)=>bif Nat.beq v hv&&Nat.beq sz ty.size then Rs P t ((Ro id nv i ty (x.get i) 0).drop off) else none
   | _=>none
 | .mp id v i j sz k off=>match box id with
   | some (.row ty x _ _ nv)=>bif Nat.beq v nv then (match sI ty (x.get i) j with
     | some ⟨u,y⟩=>bif Nat.beq sz u.size&&u.flat then Rs P t ((pk u (y.get k)).drop off) else none
     | none=>none) else none
   | _=>none
 | _=>none
def Vg:(t:Ty)→t.T→Nat→List PV→Option t.T
 | .pair a b,x,off,cs=>bif Nat.beq off 0&&(Nat.beq cs.length (Ty.pair a b).size&&(Ty.pair a b).flat) then yt (.pair a b) cs
  else bif Nat.ble (off + cs.length) a.size then (match Vg a x.1 off cs with | some z=>some (z,x.2) | none=>none)
  else bif Nat.ble a.size off then (match Vg b x.2 (off - a.size) cs with | some z=>some (x.1,z) | none=>none) else none
 | .sl _,_,_,_=>none
 | t,_,off,cs=>bif Nat.beq off 0 then yt t cs else none
def bF:Nat:=100000000
def dV:Nat:=200000000
def jI (r:Nat):Bool:=Nat.blt r bF || (Nat.blt r dV&&!Nat.beq (r % 64) 0)
def Ul (box:Nat→Option aU) (u:Ty):PV→Option (L u.T)
 | .l9=>some (iO u)
 | .ms r v=>match box r with
   | some (.row t y none hv _)=>if h:t.beq u = true then (bif Nat.beq v hv&&jI r then some (dx (Ty.eq_of_beq h) y) else none) else none
   | _=>none
 | .vw r v sz lo hi=>match box r with
   | some (.row t y none hv _)=>if h:t.beq u = true then (bif Nat.beq v hv&&(Nat.beq sz t.size&&jI r) then some ((dx (Ty.eq_of_beq h) y).cut lo hi) else none) else none
   | _=>none
 | _=>none
def sS (box:Nat→Option aU):(t:Ty)→List PV→Option (t.T×List PV)
 | .int k,.int k' n::r=>if k = k' then some (n,r) else none
 | .bool,.bool b::r=>some (b,r)
 | .str,.str s::r=>some (s,r)
 | .unit,r=>some ((),r)
 | .pair a b,l=>match sS box a l with
   | some (x,r)=>match sS box b r with
     | some (y,r')=>some ((x,y),r')
     | none=>none
   | none=>none
 | .sl u,p::r=>match Ul box u p with
   | some y=>some (y,r)
   | none=>none
 | _,_=>none
def ay:List PV→List Nat
 | []=>[]
 | .ms id _::r=>id::ay r
 | .vw id _ _ _ _::r=>id::ay r
 | _::r=>ay r
def gQ (box:Nat→Option aU) (r:Nat):Nat×aU:=(r,match box r with
 | some (.row _ _ _ hv nv)=>.gone hv nv
 | _=>.gone 0 0)
def nodupB:List Nat→Bool
 | []=>true
 | a::r=>(r.all fun b=>!Nat.beq a b)&&nodupB r
def BI:Ty→Nat→Option Nat
 | .sl _,0=>some 0
 | .pair a b,off=>bif Nat.blt off a.size then BI a off else (match BI b (off - a.size) with | some j=>some (a.bJ + j) | none=>none)
 | _,_=>none
def H9 (own:Option (Nat→Bool)) (i:Nat):Option (Nat→Bool):=match own with
 | none=>none
 | some f=>some (upd f i true)
def Na (box:Nat→Option aU) (id:Nat) (ty:Ty) (x:L ty.T) (own:Option (Nat→Bool)) (hv nv i off:Nat) (cs:List PV):Option (List (Nat×aU)):=match Vg ty (x.get i) off cs with
 | some y=>some [(id,.row ty (x.set i y) own hv nv)]
 | none=>if nodupB (id::ay cs) = true ∧ jI id = true ∧ ty.yj = true then
    (bif Nat.beq off 0&&Nat.beq cs.length ty.size then (match sS box ty cs with
     | some (y,[])=>some ((id,.row ty (x.set i y) (H9 own i) hv (nv + 1))::(ay cs).map (gQ box))
     | _=>none)
    else match own,BI ty off,cs with
     | none,some j,[p]=>match sI ty (x.get i) j with
       | some ⟨u,_⟩=>match Ul box u p with
         | some z=>match jP u z ty (x.get i) j with
           | some y=>some ((id,.row ty (x.set i y) none hv (nv + 1))::(ay cs).map (gQ box))
           | none=>none
         | none=>none
       | none=>none
     | _,_,_=>none)
   else none
def Vh (P:Program) (box:Nat→Option aU) (t:TypeId) (v:PV):PV→Option (List (Nat×aU))
 | .bx id off=>match box id with
   | some (.cells cs)=>if v.dY.all PV.solid = true ∧ jR P t = some v.dY.length ∧ off + v.dY.length≤cs.length then some [(id,.cells (splice cs off v.dY))] else none
   | _=>none
 | .me id u sz i off=>match box id with
   | some (.row ty x own hv nv)=>if v.dY.all PV.solid = true ∧ jR P t = some v.dY.length ∧ off + v.dY.length≤ty.size ∧ (Nat.beq u hv&&Nat.beq sz ty.size) = true then Na box id ty x own hv nv i off v.dY else none
   | some (.hol ut x _ hv nv)=>match v.dY with
     | [p]=>if p.solid = true ∧ jR P t = some 1 ∧ nodupB (id::ay [p]) = true ∧ (Nat.beq u hv&&(Nat.beq sz 1&&(Nat.beq off 0&&(jI id&&ut.flat)))) = true then (match Ul box ut p with
       | some z=>some ((id,.row (.sl ut) (x.set i z) none hv (nv + 1))::(ay [p]).map (gQ box))
       | none=>none) else none
     | _=>none
   | _=>none
 | .mp id u i j sz k off=>match box id with
   | some (.row ty x none hv nv)=>bif Nat.beq u nv then (match sI ty (x.get i) j with
     | some ⟨ut,y⟩=>if v.dY.all PV.solid = true ∧ jR P t = some v.dY.length ∧ off + v.dY.length≤ut.size ∧ (Nat.beq sz ut.size&&ut.flat) = true then (match yt ut (splice (pk ut (y.get k)) off v.dY) with
       | some z=>match jP ut (y.set k z) ty (x.get i) j with
         | some e=>some [(id,.row ty (x.set i e) none hv nv)]
         | none=>none
       | none=>none) else none
     | none=>none) else none
   | _=>none
 | _=>none
def Vj (box:Nat→Option aU):PV→Bool
 | .me id _ _ i _=>match box id with
   | some (.hol _ _ i' _ _)=>Nat.beq i i'
   | _=>true
 | _=>true
def most:Nat:=2 ^ 32
def lenOf (P:Program) (t:TypeId) (p:PV):Option Nat:=match P.underlying t,p with
 | some (.slice _),.sl _ x=>some x.len
 | some (.slice _),.l9=>some 0
 | some .string,.str s=>some s.size
 | _,_=>none
def ownB (own:Option (Nat→Bool)) (i:Nat):Bool:=match own with
 | none=>true
 | some f=>f i
def Nb (own:Option (Nat→Bool)) (lo:Nat):Option (Nat→Bool):=match own with
 | none=>none
 | some f=>some fun i=>f (lo + i)
def sU (n:Nat) (o1 o2:Option (Nat→Bool)):Option (Nat→Bool):=match o1,o2 with
 | none,none=>none
 | _,_=>some fun i=>bif Nat.blt i n then ownB o1 i else ownB o2 (i - n)
def sJ (box:Nat→Option aU) (d:Nat):Option (Nat×Nat):=match box d with
 | none=>some (0,0)
 | some (.row _ _ _ hv nv)=>some (hv + 1,nv + 1)
 | some (.gone hv nv)=>some (hv + 1,nv + 1)
 | _=>none
def Nc (box:Nat→Option aU) (ty:Ty) (y:PV):Option (L ty.T×Option (Nat→Bool)×List Nat) :=
 bif ty.flat then (match yt (.sl ty) [kG box y] with
  | some b=>some (b,none,[])
  | none=>none)
 else match y with
  | .ms r v=>match box r with
    | some (.row t b own hv _)=>if h:t.beq ty = true then (bif Nat.beq v hv&&jI r then some (dx (Ty.eq_of_beq h) b,own,[r]) else none) else none
    | _=>none
  | .sl t b=>if h:t.beq ty = true then some (dx (Ty.eq_of_beq h) b,some fun _=>false,[]) else none
  | _=>none
def Nf (ty:Ty) (d:Nat) (box:Nat→Option aU) (x y:PV):Option (Bool×Dl):=match Nc box ty y with
 | none=>none
 | some (b,ob,tk)=>match x with
   | .l9=>match sJ box d with
     | some (h,n)=>if tk.all (fun r=>!Nat.beq r d) = true then some (decide (b.len≤most),{ v:=.ms d h,bx:=(d,.row ty b.new ob h n)::tk.map (gQ box) }) else none
     | none=>none
   | .ms r v=>match box r with
     | some (.row t a own hv nv)=>if h:t.beq ty = true then (bif Nat.beq v hv&&(jI r&&tk.all fun r'=>!Nat.beq r' r) then
      some (decide (a.len + b.len≤most),{ v:=.ms r (hv + 1),bx:=(r,.row ty ((dx (Ty.eq_of_beq h) a).app b) (sU a.len own ob) (hv + 1) (nv + 1))::tk.map (gQ box) }) else none) else none
     | _=>none
   | .vw r v sz lo hi=>match box r with
     | some (.row t a own hv nv)=>if h:t.beq ty = true then (bif Nat.beq v hv&&(Nat.beq sz t.size&&(jI r&&tk.all fun r'=>!Nat.beq r' r)) then
      some (decide (hi - lo + b.len≤most),{ v:=.ms r (hv + 1),bx:=(r,.row ty (((dx (Ty.eq_of_beq h) a).cut lo hi).app b) (sU (hi - lo) (Nb own lo) ob) (hv + 1) (nv + 1))::tk.map (gQ box) }) else none) else none
     | _=>none
   | _=>none
def appH (ty:Ty) (d:Nat) (box:Nat→Option aU) (x y:PV):Option (Bool×Dl):=match x with
 | .mn id v i 0=>match box id,sJ box d with
   | some (.row (.sl u) l none hv nv),some (h,n)=>if hb:u.beq ty = true then (bif Nat.beq v nv&&(jI id&&(ty.flat&&!Nat.beq id d)) then
    (match yt (.sl ty) [kG (upd (upd box id (some (.hol u l i hv nv))) d (some (.row ty (dx (Ty.eq_of_beq hb) (l.get i)) none h n))) y] with
    | some b=>some (decide ((l.get i).len + b.len≤most),{ v:=.ms d (h + 1),bx:=[(id,.hol u l i hv nv),(d,.row ty ((dx (Ty.eq_of_beq hb) (l.get i)).app b) none (h + 1) (n + 1))] })
    | none=>none) else none) else none
   | _,_=>none
 | x=>Nf ty d box x y
def L.YN {α:Type} (x:L α) (lo n:Nat) (b:L α):L α:={ len:=x.len,get:=fun j=>bif Nat.ble lo j&&Nat.blt j (lo + n) then b.get (j - lo) else x.get j,nil:=x.nil }
def Ng (ty:Ty) (box:Nat→Option aU) (x y:PV):Option Dl:=if ty.flat = true ∧ ty.size = 1 then match yt (.sl ty) [kG box y],x with
 | some b,.vn r v i j sz lo hi=>match box r with
   | some (.row t a none hv nv)=>match sI t (a.get i) j with
     | some ⟨u,z⟩=>if h:u.beq ty = true then (bif Nat.beq v nv&&Nat.beq sz u.size then (match jP ty ((dx (Ty.eq_of_beq h) z).YN lo (Nat.min b.len (hi - lo)) b) t (a.get i) j with
       | some e=>some { v:=.int .i64 ((Nat.min b.len (hi - lo):Nat):Int),bx:=[(r,.row t (a.set i e) none hv nv)] }
       | none=>none) else none) else none
     | none=>none
   | _=>none
 | _,_=>none
 else none
def Um (op:UnOp) (x:PV):Option PV:=match op,x with
 | .not,.bool b=>some (.bool (!b))
 | .neg,.int k n=>some (.int k (k.wrap (0 - n)))
 | _,_=>none
def zQ (l:L Int):ByteArray:=((List.range l.len).map l.get).foldl (fun r n=>r.push (UInt8.ofNat n.toNat)) ByteArray.empty
def Vk (P:Program) (e:TypeId):Bool:=match P.underlying e with
 | some (.int .u8)=>true
 | _=>false
def Un (P:Program) (src dst:TypeId) (x:PV):Option PV:=match P.underlying src,P.underlying dst,x with
 | some _,some (.int k),.int _ n=>some (.int k (k.wrap n))
 | some _,some .string,.str s=>some (.str s)
 | some (.int _),some .string,.int _ n=>some (.str (Utf8.encode n))
 | some (.slice e),some .string,.sl (.int .u8) l=>bif Vk P e then some (.str (zQ l)) else none
 | _,_,_=>none
def Ia (ty:Ty):Option (Nat→Bool):=bif ty.yj then none else some fun _=>false
def Nh (P:Program) (Γ:TypeId→Option Ty) (d:Nat) (e:Option TypeId) (l c:PV) (b:Option (Nat×Nat)):Option (Bool×Dl):=match e,l,c with
 | some e,.int .i64 n,.int .i64 m=>match Γ e,b,bytesOf P e with
   | some ty,some (hv,nv),some Ni=>some (decide (n = m)&&(decide (0≤n)&&(decide (n≤2 ^ 40)&&decide (Ni * n≤2 ^ 48))),{ v:=.ms d hv,bx:=[(d,.row ty (L.rep n.toNat ty.zero) (Ia ty) hv nv)] })
   | _,_,_=>none
 | _,_,_=>none
def Vl (box:Nat→Option aU) (ty:Ty) (ps:List (List PV)):Option (List ty.T×Option (Nat→Bool)) :=
 match (bif ty.yj then ps.mapM fun cs=>match sS box ty cs with | some (y,[])=>some y | _=>none else none) with
 | some ys=>some (ys,none)
 | none=>match ps.mapM fun cs=>yt ty cs with
   | some ys=>some (ys,some fun _=>false)
   | none=>none
def af8:PV→Bool
 | .vw _ _ _ _ _=>true
 | _=>false
def Vm (ty:Ty) (ps:List (List PV)):Bool:=Nat.beq ty.size 1&&(ps.all (fun cs=>Nat.beq cs.length 1&&cs.all PV.solid)&&ps.any fun cs=>cs.any af8)
def Vn (Γ:TypeId→Option Ty) (d:Nat) (e:Option TypeId) (n:Nat) (ixs:List Nat) (ps:List (List PV)) (box:Nat→Option aU):Option Dl:=match e,sJ box d with
 | some e,some (hv,nv)=>match Γ e with
   | some ty=>bif Vm ty ps then (if n≤1024 ∧ (ixs == List.range n) = true then some { v:=.so ty ps.flatten } else none) else if n≤1024 ∧ ty.size≤1024 ∧ (ixs == List.range n) = true ∧ nodupB (d::ps.flatMap ay) = true then (match Vl box ty ps with
     | some (ys,own)=>some { v:=.ms d hv,bx:=(d,.row ty (L.of ty.zero ys) own hv nv)::(ps.flatMap ay).map (gQ box) }
     | none=>none) else none
   | none=>none
 | _,_=>none
def ixD (Γ:TypeId→Option Ty) (box:Nat→Option aU) (e:Option TypeId) (x i:PV):Option (Bool×Dl):=match e,i with
 | some e,.int _ n=>match Γ e,x with
   | some ty,.sl ty' l=>if h:ty'.beq ty = true then some (decide (0≤n)&&decide (n < (dx (Ty.eq_of_beq h) l).len),{ v:=.rf (pk ty ((dx (Ty.eq_of_beq h) l).get n.toNat)) }) else none
   | some ty,.ms id v=>match box id with
     | some (.row ty' l _ hv _)=>bif ty'.beq ty&&Nat.beq v hv then some (decide (0≤n)&&decide (n < l.len),{ v:=.me id v ty.size n.toNat 0 }) else none
     | some (.hol u l _ hv _)=>bif (Ty.sl u).beq ty&&Nat.beq v hv then some (decide (0≤n)&&decide (n < l.len),{ v:=.me id v ty.size n.toNat 0 }) else none
     | _=>none
   | some ty,.vw id v sz lo hi=>match box id with
     | some (.row ty' l _ hv _)=>bif ty'.beq ty&&(Nat.beq v hv&&(Nat.beq sz ty.size&&Nat.ble hi l.len)) then some (decide (0≤n)&&decide (n < ((hi - lo:Nat):Int)),{ v:=.me id v ty.size (lo + n.toNat) 0 }) else none
     | _=>none
   | some ty,.mn id v i j=>match box id with
     | some (.row ty' l _ _ nv)=>match sI ty' (l.get i) j with
       | some ⟨u,y⟩=>bif u.beq ty&&Nat.beq v nv then some (decide (0≤n)&&decide (n < y.len),{ v:=.mp id v i j ty.size n.toNat 0 }) else none
       | none=>none
     | _=>none
   | _,_=>none
 | _,_=>none
def YO (Γ:TypeId→Option Ty) (box:Nat→Option aU) (e:TypeId) (x:PV) (l:Int) (hi:Option PV):Option (Bool×Dl):=match Γ e,x with
 | some ty',.sl ty a=>match gI hi a.len with
   | some h=>if ty.beq ty' then some (decide (0≤l)&&(decide (l≤h)&&decide (h≤a.len)),{ v:=.sl ty (a.cut l.toNat h.toNat) }) else none
   | none=>none
 | some ty',.ms id v=>match box id with
   | some (.row ty a _ hv _)=>match gI hi a.len with
     | some h=>if (ty.beq ty'&&Nat.beq v hv) = true then some (decide (0≤l)&&(decide (l≤h)&&decide (h≤a.len)),{ v:=.vw id v ty.size l.toNat h.toNat }) else none
     | none=>none
   | _=>none
 | some ty',.mn id v i j=>match box id with
   | some (.row t a _ _ nv)=>match sI t (a.get i) j with
     | some ⟨u,y⟩=>match gI hi y.len with
       | some h=>if (u.beq ty'&&Nat.beq v nv) = true then some (decide (0≤l)&&(decide (l≤h)&&decide (h≤y.len)),{ v:=.vn id v i j u.size l.toNat h.toNat }) else none
       | none=>none
     | none=>none
   | _=>none
 | _,_=>none
def Vo (P:Program) (Γ:TypeId→Option Ty) (o:Oper) (σ:AS):Option (Bool×Dl) :=
 let ev:=jQ σ.env
 let rv:=fun x=>kG σ.box (jQ σ.env x)
 let ok (v:PV):Option (Bool×Dl):=some (true,{ v })
 match o.op with
 | .move x=>ok (ev x)
 | .assign x=>ok (ev x)
 | .pick c a b=>match ev c with
   | .bool t=>ok (bif t then ev a else ev b)
   | _=>none
 | .alloc t=>match o.dst,zeroOf P t with
   | some d,some cs=>match σ.box d with
     | none=>some (true,{ v:=.bx d 0,bx:=[(d,.cells cs)] })
     | some _=>none
   | _,_=>none
 | .box _ x=>match o.dst with
   | some d=>match σ.box d with
     | none=>if (ev x).dY.all PV.solid then some (true,{ v:=.bx d 0,bx:=[(d,.cells (ev x).dY)] }) else none
     | some _=>none
   | none=>none
 | .build t parts=>match P.underlying t,zeroOf P t with
   | some (.struct fs),some z=>match fs.toList.mapM (fun f=>(jR P f.type).map fun n=>(f.offset,n)) with
     | some pl=>match Cj (fun i=>pl[i]?) z (parts.toList.map fun p=>(p.1,ev p.2)) with
       | some cs=>ok (.agg cs)
       | none=>none
     | none=>none
   | some (.array _ e),some z=>match jR P e with
     | some n=>match Cj (fun i=>some (i * n,n)) z (parts.toList.map fun p=>(p.1,ev p.2)) with
       | some cs=>ok (.agg cs)
       | none=>none
     | none=>none
   | _,_=>none
 | .load t a=>match M9 P σ.box t (ev a) with
   | some v=>ok v
   | none=>none
 | .store t a x=>match Vh P σ.box t (ev x) (ev a) with
   | some b=>some (Vj σ.box (ev a),{ v:=.any,bx:=b })
   | none=>none
 | .nilCheck x=>match ev x with
   | .bx i f=>ok (.bx i f)
   | .rf cs=>ok (.rf cs)
   | .me i v s j f=>ok (.me i v s j f)
   | .mp i v j k s l f=>ok (.mp i v j k s l f)
   | .fn f cs=>ok (.fn f cs)
   | _=>none
 | .binOp op t x y _=>match M8 P op t (rv x) (rv y) with
   | some (c,v)=>some (c,{ v })
   | none=>none
 | .unOp op _ x=>match Um op (ev x) with
   | some v=>ok v
   | none=>none
 | .convert src dst x=>match Un P src dst (rv x) with
   | some v=>ok v
   | none=>none
 | .makeFunc (.func f) first cap=>if first.isEmpty then ok (.fn f (cap.toList.map ev)) else none
 | .makeSlice t l c=>match o.dst with
   | some d=>Nh P Γ d (elemOf P t) (ev l) (ev c) (sJ σ.box d)
   | none=>none
 | .buildSlice t n parts=>match o.dst with
   | some d=>match Vn Γ d (elemOf P t) n (parts.toList.map fun p=>p.1) (parts.toList.map fun p=>(ev p.2).dY) σ.box with
     | some b=>some (true,b)
     | none=>none
   | none=>none
 | .fieldAddr s x f=>match yJ P s f with
   | some (off,ft)=>match jR P ft with
     | some (_ + 1)=>match ev x with
       | .bx id o'=>ok (.bx id (o' + off))
       | .rf cs=>ok (.rf (cs.drop off))
       | .me id v sz i o'=>ok (.me id v sz i (o' + off))
       | .mp id v i j sz k o'=>ok (.mp id v i j sz k (o' + off))
       | _=>none
     | _=>none
   | none=>none
 | .field s x f=>match yJ P s f,ev x with
   | some (off,ft),.agg cs=>match Rs P ft (cs.drop off) with
     | some v=>ok v
     | none=>none
   | _,_=>none
 | .indexAddr t x i=>ixD Γ σ.box (elemOf P t) (ev x) (ev i)
 | .index t x i=>match P.underlying t,ev x,ev i with
   | some .string,.str s,.int _ n=>some (decide (0≤n)&&decide (n < s.size),{ v:=.int .u8 (bt s n) })
   | some (.array m e),.agg cs,.int _ n=>match jR P e with
     | some z=>match Rs P e (cs.drop (n.toNat * z)) with
       | some v=>some (decide (0≤n)&&decide (n < m),{ v })
       | none=>none
     | none=>none
   | _,_,_=>none
 | .extract x i=>match ev x with
   | .HY cs=>match cs[i]? with
     | some v=>ok v
     | none=>none
   | _=>none
 | .slice t x lo hi none=>match P.underlying t,ev x,gI (lo.map ev) 0 with
   | some .string,.str s,some l=>match gI (hi.map ev) s.size with
     | some h=>some (decide (0≤l)&&(decide (l≤h)&&decide (h≤s.size)),{ v:=.str (s.extract l.toNat h.toNat) })
     | none=>none
   | some (.slice e),.l9,some l=>match jR P e,hi.map ev with
     | some _,some (.int _ h)=>some (decide (l = 0)&&decide (h = 0),{ v:=.l9 })
     | _,_=>none
   | some (.slice e),p,some l=>YO Γ σ.box e p l (hi.map ev)
   | _,_,_=>none
 | .range t x=>match o.dst,P.underlying t,ev x with
   | some d,some .string,.str s=>match σ.box d with
     | none=>some (true,{ v:=.bx d 0,bx:=[(d,.iter s 0)] })
     | some _=>none
   | _,_,_=>none
 | .next it true=>match ev it with
   | .bx id 0=>match σ.box id with
     | some (.iter s pos)=>bif Nat.blt pos s.size then some (true,{ v:=.HY [.bool true,.int .i64 pos,.int .i32 (Utf8.decode s pos).1],bx:=[(id,.iter s (pos + (Utf8.decode s pos).2))] })
      else some (true,{ v:=.HY [.bool false] })
     | _=>none
   | _=>none
 | .call { callee:=.builtin .len,args,argTypes }=>match args.toList,argTypes.toList with
   | [x],[t]=>match lenOf P t (rv x) with
     | some n=>ok (.int .i64 n)
     | none=>none
   | _,_=>none
 | .call { callee:=.builtin .cap,args,argTypes }=>match args.toList,argTypes.toList with
   | [x],[t]=>match P.underlying t,ev x with
     | some (.slice _),.l9=>ok (.int .i64 0)
     | _,_=>none
   | _,_=>none
 | .call { callee:=.builtin .append,args,argTypes }=>match o.dst,args.toList,argTypes.toList with
   | some d,[x,y],[t,u]=>match elemOf P t,elemOf P u with
     | some e,some e'=>match Γ e,bytesOf P e with
       | some ty,some Ni=>if Nat.beq e e' ∧ Ni≤4096 ∧ 1≤ty.size then appH ty d σ.box (ev x) (ev y) else none
       | _,_=>none
     | some e,none=>match Γ e,bytesOf P e,qW P u,ev x,ev y with
       | some ty,some Ni,true,.l9,.int _ n=>match sJ σ.box d with
         | some (hv,nv)=>if Ni≤4096 ∧ 1≤ty.size then some (decide (0 < n)&&decide (n≤most),{ v:=.ms d hv,bx:=[(d,.row ty (L.rep n.toNat ty.zero) (Ia ty) hv nv)] }) else none
         | none=>none
       | _,_,_,_,_=>none
     | _,_=>none
   | _,_,_=>none
 | .call { callee:=.builtin .copy,args,argTypes }=>match args.toList,argTypes.toList with
   | [x,y],[t,u]=>match elemOf P t,elemOf P u with
     | some e,some e'=>match Γ e with
       | some ty=>if Nat.beq e e' then (match Ng ty σ.box (ev x) (ev y) with
         | some d=>some (true,d)
         | none=>none) else none
       | none=>none
     | _,_=>none
   | _,_=>none
 | .call { callee:=.builtin .max,args,argTypes:=_ }=>match args.toList.map ev with
   | [.int k a,.int k' b]=>if k = k' then ok (.int k (if b > a then b else a)) else none
   | _=>none
 | .call { callee:=.builtin .min,args,argTypes:=_ }=>match args.toList.map ev with
   | [.int k a,.int k' b]=>if k = k' then ok (.int k (if b < a then b else a)) else none
   | _=>none
 | _=>none
end Go.VE
