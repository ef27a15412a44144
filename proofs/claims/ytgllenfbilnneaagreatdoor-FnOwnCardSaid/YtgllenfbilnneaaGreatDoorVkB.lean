import Derived.Test.YtgllenfbilnneaaGreatDoorVkA
/- Contracts,regions,code,loops. -/
namespace Go.VE
inductive In where
 | v (t:Ty)
 | rf (t:Ty)
 | pt (t:Ty)
 | pd (t:Ty)
 | ow (t:Ty)
 | mv (t:Ty)
 | nl
 | pW (g:FuncId) (ts:List Ty)
@[reducible] def dR:List Ty→Type
  | []=>Unit
  | t::r=>t.T×dR r
@[reducible] def In.T:In→Type
  | .v t=>t.T
  | .rf t=>t.T
  | .pt t=>t.T
  | .pd t=>t.T
  | .ow t=>t.T
  | .mv t=>t.T
  | .nl=>Unit
  | .pW _ ts=>dR ts
@[reducible] def jK:List In→Type
  | []=>Unit
  | i::r=>i.T×jK r
@[reducible] def lI:List In→Type
  | []=>Unit
  | .pt t::r=>t.T×lI r
  | .pd t::r=>t.T×lI r
  | .ow t::r=>t.T×lI r
  | _::r=>lI r
structure sK where
 ins:List In
 out:List Ty
 ptr:Bool:=false
 /-- The slices among the results: 0: not known; 1: rows by themselves; 2: rows by themselves whose elements' slices are not. -/
 fr:Nat:=0
 F:jK ins→Option (dR out×lI ins)
abbrev tZ:=List (Nat×List Nat×sK)
def JA:List Nat→List Nat→Bool
 | [],[]=>true
 | a::r,b::s=>Nat.beq a b&&JA r s
 | _,_=>false
def tZ.find (f:Nat) (gs:List Nat):tZ→Option sK
 | []=>none
 | (f',gs',c)::r=>if Nat.beq f f'&&JA gs gs' then some c else tZ.find f gs r
def zR:List PV→List Nat
 | []=>[]
 | .fn g _::r=>g::zR r
 | _::r=>zR r
def PV.DR:PV→Bool
 | .agg _=>true
 | _=>false
def YI (t:Ty) (p:PV):Option t.T:=if p.DR == t.isAgg then yt t p.dY else none
def iA:PV→List Nat
 | .ms id _=>[id]
 | .vw id _ _ _ _=>[id]
 | .mn id _ _ _=>[id]
 | .vn id _ _ _ _ _ _=>[id]
 | _=>[]
def eF:PV→List Nat
 | .so _ cs=>cs.flatMap iA
 | .ms id _=>[id]
 | .vw id _ _ _ _=>[id]
 | .mn id _ _ _=>[id]
 | .vn id _ _ _ _ _ _=>[id]
 | _=>[]
def dS (box:Nat→Option aU) (n:Nat):PV→Option (List PV)
 | .rf cs=>some (cs.take n)
 | .bx id off=>match box id with
   | some (.cells cs)=>some ((cs.drop off).take n)
   | _=>none
 | .me id v sz i off=>match box id with
   | some (.row ty x _ hv nv)=>bif Nat.beq v hv&&Nat.beq sz ty.size then some (((Ro id nv i ty (x.get i) 0).drop off).take n) else none
   | _=>none
 | .mp id v i j sz k off=>match box id with
   | some (.row ty x _ _ nv)=>bif Nat.beq v nv then (match sI ty (x.get i) j with
     | some ⟨u,y⟩=>bif Nat.beq sz u.size&&u.flat then some (((pk u (y.get k)).drop off).take n) else none
     | none=>none) else none
   | _=>none
 | _=>none
def Rx (box:Nat→Option aU) (t:Ty) (p:PV):Option t.T:=match dS box t.size p with
 | some cs=>yt t (cs.map (kG box))
 | none=>none
def wu (box:Nat→Option aU):(ts:List Ty)→List PV→Option (dR ts)
 | [],[]=>some ()
 | t::r,p::ps=>match Rx box t p with
   | some x=>match wu box r ps with
     | some y=>some (x,y)
     | none=>none
   | none=>none
 | _,_=>none
def owC (box:Nat→Option aU) (u:Ty):PV→Option (L u.T)
 | .l9=>some (iO u)
 | .ms r v=>match box r with
   | some (.row t y none hv _)=>if h:t.beq u = true then (bif Nat.beq v hv then some (dx (Ty.eq_of_beq h) y) else none) else none
   | _=>none
 | .mn r v i j=>match box r with
   | some (.row t y none _ nv)=>match sI t (y.get i) j with
     | some ⟨u',z⟩=>if h:u'.beq u = true then (bif Nat.beq v nv then some (dx (Ty.eq_of_beq h) z) else none) else none
     | none=>none
   | _=>none
 | _=>none
def JB (box:Nat→Option aU):(t:Ty)→List PV→Option (t.T×List PV)
 | .int k,.int k' n::r=>if k = k' then some (n,r) else none
 | .bool,.bool b::r=>some (b,r)
 | .str,.str s::r=>some (s,r)
 | .unit,r=>some ((),r)
 | .pair a b,l=>match JB box a l with
   | some (x,r)=>match JB box b r with
     | some (y,r')=>some ((x,y),r')
     | none=>none
   | none=>none
 | .sl u,p::r=>match owC box u p with
   | some y=>some (y,r)
   | none=>none
 | _,_=>none
def Ib {α β:Type}:Option (α×List β)→Option α
 | some (x,[])=>some x
 | _=>none
def iL (box:Nat→Option aU):(i:In)→PV→Option i.T
 | .v t,p=>YI t (Vf box p)
 | .rf t,p=>Rx box t p
 | .pt t,.bx id off=>match dS box t.size (.bx id off) with
   | some cs=>Ib (sS box t cs)
   | none=>none
 | .pd t,.bx id off=>match dS box t.size (.bx id off) with
   | some cs=>yt t cs
   | none=>none
 | .pt t,.me id v sz i 0=>match box id with
   | some (.row ty x none hv _)=>if h:ty.beq t = true then (bif Nat.beq v hv&&(Nat.beq sz ty.size&&(jI id&&ty.yj)) then some (Ty.eq_of_beq h ▸ x.get i) else none) else none
   | _=>none
 | .ow t,p=>if p.DR == t.isAgg then Ib (JB box t p.dY) else none
 | .mv t,p=>if p.DR == t.isAgg then Ib (sS box t p.dY) else none
 | .nl,.l9=>some ()
 | .pW g ts,.fn g' caps=>if Nat.beq g g' then wu box ts caps else none
 | _,_=>none
def lJ (box:Nat→Option aU):(is:List In)→List PV→Option (jK is)
 | [],[]=>some ()
 | i::r,p::ps=>match iL box i p with
   | some x=>match lJ box r ps with
     | some y=>some (x,y)
     | none=>none
   | none=>none
 | _,_=>none
def yK (box:Nat→Option aU):In→PV→List Nat
 | .pt t,.bx id off=>id::ay ((dS box t.size (.bx id off)).getD [])
 | .pd _,.bx id _=>[id]
 | .pt _,.me id _ _ _ _=>[id]
 | .ow _,p=>p.dY.flatMap eF
 | .mv _,p=>ay p.dY
 | _,_=>[]
def oH (box:Nat→Option aU):List In→List PV→List Nat
 | i::r,p::ps=>yK box i p ++ oH box r ps
 | _,_=>[]
def Ck (box:Nat→Option aU) (n:Nat) (p:PV):List Nat:=(match p with
 | .bx id _=>[id]
 | .me id _ _ _ _=>[id]
 | .mp id _ _ _ _ _ _=>[id]
 | _=>[]) ++ ((dS box n p).getD []).flatMap eF
def zS (box:Nat→Option aU):List Ty→List PV→List Nat
 | t::r,p::ps=>Ck box t.size p ++ zS box r ps
 | _,_=>[]
def YP (box:Nat→Option aU):In→PV→List Nat
 | .v _,p=>p.dY.flatMap eF
 | .rf t,p=>Ck box t.size p
 | .pW _ ts,.fn _ caps=>zS box ts caps
 | _,_=>[]
def fZ (box:Nat→Option aU):List In→List PV→List Nat
 | i::r,p::ps=>YP box i p ++ fZ box r ps
 | _,_=>[]
/-! ### Things whose slices are rows by themselves -/
def zT (base:Nat):(t:Ty)→t.T→Nat→List PV
 | .int k,n,_=>[.int k n]
 | .bool,b,_=>[.bool b]
 | .str,s,_=>[.str s]
 | .unit,_,_=>[]
 | .pair a b,x,j=>zT base a x.1 j ++ zT base b x.2 (j + a.bJ)
 | .sl _,_,j=>[.ms (base + j) 0]
def jL (base:Nat):(t:Ty)→t.T→Nat→List (Nat×aU)
 | .pair a b,x,j=>jL base a x.1 j ++ jL base b x.2 (j + a.bJ)
 | .sl t,x,j=>[(base + j,.row t x none 0 0)]
 | _,_,_=>[]
def Nj:(t:Ty)→t.T→List (Nat×Nat×Nat)→List PV
 | .int k,n,_=>[.int k n]
 | .bool,b,_=>[.bool b]
 | .str,s,_=>[.str s]
 | .unit,_,_=>[]
 | .pair a b,x,l=>Nj a x.1 l ++ Nj b x.2 (l.drop a.bJ)
 | .sl _,_,l=>match l with
   | (m,h,_)::_=>[.ms m h]
   | []=>[.any]
def HZ (sh:Bool):(t:Ty)→t.T→List (Nat×Nat×Nat)→List (Nat×aU)
 | .pair a b,x,l=>HZ sh a x.1 l ++ HZ sh b x.2 (l.drop a.bJ)
 | .sl t,x,l=>match l with
   | (m,h,n)::_=>[(m,.row t x (bif sh then some fun _=>false else none) h n)]
   | []=>[]
 | _,_,_=>[]
def Ic:(ts:List Ty)→dR ts→List (Nat×Nat×Nat)→List PV
 | [],_,_=>[]
 | t::r,y,l=>yh t (Nj t y.1 l)::Ic r y.2 (l.drop t.bJ)
def yu (sh:Bool):(ts:List Ty)→dR ts→List (Nat×Nat×Nat)→List (Nat×aU)
 | [],_,_=>[]
 | t::r,y,l=>HZ sh t y.1 l ++ yu sh r y.2 (l.drop t.bJ)
def sV:List Ty→Nat
 | []=>0
 | t::r=>t.bJ + sV r
def turns (box:Nat→Option aU):List Nat→Option (List (Nat×Nat×Nat))
 | []=>some []
 | m::r=>match sJ box m with
   | some (h,n)=>match turns box r with
     | some l=>some ((m,h,n)::l)
     | none=>none
   | none=>none
def bY:Nat:=300000000
def pN (i:Nat):Nat:=bF + 64 * i
def wN (i:Nat):Nat:=dV + 64 * i
def Cm (d:Nat):Nat:=1000000 + 64 * d
def Uo (id q:Nat):PV→Nat
 | .ms r _=>r
 | .vw r _ _ _ _=>r
 | _=>bif Nat.blt id bF then 20000000 + 64 * id + q else 60000000 + (id - bF) + q
def mZ (id:Nat):(t:Ty)→List PV→Nat→List Nat
 | .pair a b,cs,q=>mZ id a (cs.take a.size) q ++ mZ id b (cs.drop a.size) (q + a.size)
 | .sl _,c::_,q=>[Uo id q c]
 | _,_,_=>[]
def MX (box:Nat→Option aU) (u:Ty) (y:L u.T):PV→List (Nat×aU)
 | .ms r _=>match box r with
   | some (.row _ _ own hv nv)=>[(r,.row u y own hv nv)]
   | _=>[]
 | .mn r _ i j=>match box r with
   | some (.row t x own hv nv)=>match jP u y t (x.get i) j with
     | some z=>[(r,.row t (x.set i z) own hv nv)]
     | none=>[]
   | _=>[]
 | _=>[]
def zU (box:Nat→Option aU):(t:Ty)→t.T→List PV→List (Nat×aU)
 | .pair a b,x,cs=>zU box a x.1 (cs.take a.size) ++ zU box b x.2 (cs.drop a.size)
 | .sl u,y,p::_=>MX box u y p
 | _,_,_=>[]
def Fp (box:Nat→Option aU):(i:In)→PV→lI [i]→Option (List (Nat×aU))
 | .pt t,.bx id off,y=>match box id with
   | some (.cells cs)=>match turns box (mZ id t ((cs.drop off).take t.size) off) with
     | some l=>bif nodupB (id::l.map (·.1))&&l.all (fun m=>jI m.1) then some ((id,.cells (splice cs off (Nj t y.1 l)))::HZ false t y.1 l) else none
     | none=>none
   | _=>none
 | .pd t,.bx id off,y=>match box id with
   | some (.cells cs)=>some [(id,.cells (splice cs off (pk t y.1)))]
   | _=>none
 | .pt t,.me id _ _ i _,y=>match box id with
   | some (.row ty x own hv nv)=>if h:t.beq ty = true then some [(id,.row ty (x.set i (Ty.eq_of_beq h ▸ y.1)) own hv (nv + 1))] else none
   | _=>none
 | .ow t,p,y=>some (zU box t y.1 p.dY)
 | .mv _,p,_=>some ((ay p.dY).map (gQ box))
 | _,_,_=>some []
def Ry:(i:In)→(r:List In)→lI (i::r)→lI [i]
 | .pt _,_,y=>(y.1,())
 | .pd _,_,y=>(y.1,())
 | .ow _,_,y=>(y.1,())
 | .v _,_,_=>()
 | .rf _,_,_=>()
 | .mv _,_,_=>()
 | .nl,_,_=>()
 | .pW _ _,_,_=>()
def Rz:(i:In)→(r:List In)→lI (i::r)→lI r
 | .pt _,_,y=>y.2
 | .pd _,_,y=>y.2
 | .ow _,_,y=>y.2
 | .v _,_,y=>y
 | .rf _,_,y=>y
 | .mv _,_,y=>y
 | .nl,_,y=>y
 | .pW _ _,_,y=>y
def wb (box:Nat→Option aU):(is:List In)→List PV→lI is→Option (List (Nat×aU))
 | i::r,p::ps,y=>match Fp box i p (Ry i r y) with
   | some l=>match wb box r ps (Rz i r y) with
     | some l'=>some (l ++ l')
     | none=>none
   | none=>none
 | _,_,_=>some []
def Uq (t:Ty) (x:t.T):PV:=yh t (pk t x)
def zV:(ts:List Ty)→dR ts→List PV
 | [],_=>[]
 | t::r,y=>Uq t y.1::zV r y.2
def one (l:List PV):PV:=match l with
 | [p]=>p
 | l=>.HY l
def Ur (ts:List Ty) (y:dR ts):PV:=one (zV ts y)
def zW (a b:List Nat):Bool:=a.all fun x=>b.all fun y=>!Nat.beq x y
def Ig (d:Nat):(ts:List Ty)→dR ts→Option (PV×List (Nat×aU))
 | [t],y=>some (.bx d 0,[(d,.cells (pk t y.1))])
 | _,_=>none
def Vp (fr:Nat) (ts:List Ty):Bool:=match fr with
 | 0=>false
 | 1=>ts.all Ty.YH
 | _=>true
def Nk (box:Nat→Option aU) (c:sK) (dst:Option Nat) (y:dR c.out) (w:List (Nat×aU)):Option Dl :=
 bif c.ptr then (match dst with
  | some d=>if (!Nat.beq c.fr 0 || w.any fun p=>Nat.beq p.1 d) = true then none else match box d,Ig d c.out y with
    | none,some (v,b)=>some { v,bx:=b ++ w }
    | _,_=>none
  | none=>none)
 else bif Nat.beq c.fr 0 then some { v:=Ur c.out y,bx:=w }
 else match dst with
  | some d=>match turns box ((List.range (sV c.out)).map (Cm d + ·)) with
    | some l=>if (Vp c.fr c.out&&(Nat.blt (Cm d + 64) bF&&(Nat.blt (sV c.out) 64&&zW (l.map (·.1)) (w.map (·.1))))) = true then some { v:=one (Ic c.out y l),bx:=w ++ yu (!Nat.beq c.fr 1) c.out y l } else none
    | none=>none
  | none=>none
def Ih:In→Bool
 | .pd t=>t.flat
 | _=>true
def fu:In→Bool
 | .pt t=>t.YH&&Nat.blt t.bJ 60
 | .ow t=>t.YH&&Nat.blt t.bJ 60
 | .mv t=>t.YH&&Nat.blt t.bJ 60
 | _=>true
def exA (box:Nat→Option aU) (dst:Option Nat):List In→List PV→Option ((Nat→Option aU)×List PV×List (Nat×aU))
 | .mv _::_,.mn id v k 0::r=>match dst with
   | some d=>match box id,sJ box d with
     | some (.row (.sl u) l none hv nv),some (h,n)=>bif Nat.beq v nv&&(jI id&&(u.flat&&!Nat.beq id d)) then
      some (upd (upd box id (some (.hol u l k hv v))) d (some (.row u (l.get k) none h n)),.ms d h::r,[(id,.hol u l k hv v)]) else none
     | _,_=>none
   | none=>none
 | _,args=>some (box,args,[])
def YQ (dst:Option Nat):List In→List PV→List Nat
 | .mv _::_,.mn id _ _ _::_=>id::dst.toList
 | _,_=>[]
def RA (ex:List (Nat×aU)) (dst:Option Nat) (bx:List (Nat×aU)):Bool:=match ex with
 | []=>true
 | _=>match dst with
   | some d=>bx.any fun p=>Nat.beq p.1 d
   | none=>false
def Fq {R:Type} (T:tZ) (σ:AS) (dst:Option Nat) (f:FuncId) (args:List PV) (K:Dl→Option R):Option R :=
 match T.find f (zR args) with
 | none=>none
 | some c=>match exA σ.box dst c.ins args with
   | none=>none
   | some (box,args,ex)=>match lJ box c.ins args with
   | none=>none
   | some x=>if nodupB (oH box c.ins args)&&(zW (oH box c.ins args) (fZ box c.ins args)&&((fZ box c.ins args).isEmpty || (c.ins.all Ih&&(Nat.beq c.fr 0&&c.out.all Ty.flat || Nat.beq c.fr 1))))
     then (c.F x).bind fun y=>(wb box c.ins args y.2).bind fun w=>(Nk box c dst y.1 w).bind fun d=>bif nodupB (d.bx.map (·.1))&&RA ex dst d.bx then K { d with bx:=ex ++ d.bx } else none else none
def guardOf (all:List Oper) (o:Oper):Option (Option Nat×Bool):=match o.guard with
 | none=>none
 | some (j,want)=>some ((all[j]?).bind (·.dst),want)
/-! ### May a region's order be left open -/
def wz (acc:List Nat) (o:Oper):Nat :=
 o.after.toList.foldl (fun s e=>bif Region.binds .any e then s ||| 2 ^ e.on ||| acc.getD e.on 0 else s) 0
def masks:List Oper→List Nat→List Nat
 | [],acc=>acc
 | o::r,acc=>masks r (acc ++ [wz acc o])
def tmpsOf (os:List Operand):List Nat:=os.filterMap fun | .tmp t=>some t | _=>none
def Vq:PV→List Nat
 | .bx id _=>[id]
 | .me id _ _ _ _=>[id]
 | .mp id _ _ _ _ _ _=>[id]
 | p=>eF p
def Us (l:List Nat):List (Nat×Bool):=l.map fun b=>(2 * b + 1,false)
def Rt (l:List Nat):List (Nat×Bool):=l.map fun b=>(2 * b + 1,true)
def YR (T:tZ) (o:Oper) (env:Nat→PV) (box:Nat→Option aU):List (Nat×Bool) :=
 let d:=Rt o.dst.toList
 let ids:=fun (x:Operand)=>(jQ env x).dY.flatMap Vq
 match o.op with
 | .load _ a=>Us (ids a)
 | .store _ a x=>Rt (ids a) ++ Rt (ay (jQ env x).dY)
 | .alloc _=>d
 | .box _ _=>d
 | .makeSlice _ _ _=>d
 | .buildSlice _ _ ps=>d ++ Rt (ps.toList.flatMap fun p=>ay (jQ env p.2).dY)
 | .range _ _=>d
 | .next it _=>Rt (ids it)
 | .indexAddr _ x _=>Us (ids x)
 | .slice _ x _ _ _=>Us (ids x)
 | .binOp _ _ x y _=>Us (ids x) ++ Us (ids y)
 | .convert _ _ x=>Us (ids x)
 | .call { callee:=.builtin .append,args,argTypes:=_ }=>d ++ Rt (args.toList.flatMap ids)
 | .call { callee:=.builtin .copy,args,argTypes:=_ }=>Rt (args.toList.flatMap ids)
 | .call { callee:=.builtin _,args,argTypes:=_ }=>Us (args.toList.flatMap ids)
 | .call { callee:=.value f,args,argTypes:=_ }=>match jQ env f with
   | .fn g cap =>
     let ps:=args.toList.map (jQ env) ++ cap
     match T.find g (zR ps) with
     | some c=>Rt (YQ o.dst c.ins ps) ++ Rt (oH box c.ins ps) ++ Us (fZ box c.ins ps) ++ (bif c.ptr then d else []) ++ (bif Nat.beq c.fr 0 then [] else o.dst.toList.flatMap fun b=>Rt ((List.range (sV c.out)).map (Cm b + ·)))
     | none=>[]
   | _=>[]
 | _=>[]
def uj (all:List Oper) (o:Oper):List (Nat×Bool) :=
 (tmpsOf (match o.op with | .call c=>c.operands.toList | op=>op.operands.toList)).map (fun t=>(2 * t,false)) ++
 (match guardOf all o with | some (some g,_)=>[(2 * g,false)] | _=>[]) ++
 (o.dst.toList.map fun d=>(2 * d,true))
def foot (T:tZ) (all:List Oper) (o:Oper) (σ:AS):List (Nat×Bool):=uj all o ++ YR T o σ.env σ.box
def kU (F:List (Nat×Bool)) (k:Nat):Bool:=F.any fun p=>Nat.beq p.1 k
def pV (F:List (Nat×Bool)) (σ:AS):AS:={ env:=fun t=>bif kU F (2 * t) then σ.env t else .any,box:=fun b=>bif kU F (2 * b + 1) then σ.box b else none }
def yw (F:List (Nat×Bool)) (d:Dl):Bool:=d.bx.all fun p=>F.any fun q=>Nat.beq q.1 (2 * p.1 + 1)&&q.2
def keyed (i:Nat) (l:List (Nat×Bool)):List (Nat×Nat×Bool):=l.map fun p=>(p.1,i,p.2)
def clash (ms:List Nat) (e1 e2:Nat×Nat×Bool):Bool :=
 e1.2.2&&(Nat.beq e1.1 e2.1&&(!Nat.beq e1.2.1 e2.2.1&&!((ms.getD (max e1.2.1 e2.2.1) 0).testBit (min e1.2.1 e2.2.1))))
def DT:List Oper→Nat→Bool
 | [],_=>true
 | o::r,i=>(o.after.toList.all fun e=>!(Region.binds .any e) || Nat.blt e.on i)&&DT r (i + 1)
def ng (all:List Oper) (es:List (Nat×Nat×Bool)):Bool :=
 let ms:=masks all []
 DT all 0&&es.all fun e1=>!e1.2.2 || es.all fun e2=>!clash ms e1 e2
def wB {R:Type} (P:Program) (Γ:TypeId→Option Ty) (T:tZ) (all:List Oper):List Oper→Nat→List (Nat×Nat×Bool)→AS→(AS→List (Nat×Nat×Bool)→Option R)→Option R
 | [],_,es,σ,K=>K σ es
 | o::rest,i,es,σ,K =>
   let step (σ:AS):Option R:=match o.op with
    | .call { callee:=.value f,args,argTypes:=_ }=>match jQ (pV (foot T all o σ) σ).env f with
      | .fn g cap=>Fq T (pV (foot T all o σ) σ) o.dst g (args.toList.map (jQ (pV (foot T all o σ) σ).env) ++ cap) fun d=>bif yw (foot T all o σ) d then wB P Γ T all rest (i + 1) (keyed i (foot T all o σ) ++ es) (σ.app o.dst d) K else none
      | _=>none
    | _=>match Vo P Γ o (pV (foot T all o σ) σ) with
      | some (c,d)=>bif c then (bif yw (foot T all o σ) d then wB P Γ T all rest (i + 1) (keyed i (foot T all o σ) ++ es) (σ.app o.dst d) K else none) else none
      | none=>none
   let skip (σ:AS):Option R:=wB P Γ T all rest (i + 1) (keyed i (uj all o) ++ es) (σ.put o.dst (.HY [])) K
   match guardOf all o with
   | none=>step σ
   | some (some g,want)=>match σ.env g with
     | .bool b=>bif b then
        (bif want then step { σ with env:=upd σ.env g (.bool true) } else skip { σ with env:=upd σ.env g (.bool true) })
       else
        (bif want then skip { σ with env:=upd σ.env g (.bool false) } else step { σ with env:=upd σ.env g (.bool false) })
     | .HY []=>skip σ
     | _=>none
   | some (none,_)=>none
def DU {R:Type} (P:Program) (Γ:TypeId→Option Ty) (T:tZ) (all:List Oper):List Oper→AS→(AS→Option R)→Option R
 | [],σ,K=>K σ
 | o::rest,σ,K =>
   let step (σ:AS):Option R:=match o.op with
    | .call { callee:=.value f,args,argTypes:=_ }=>match jQ σ.env f with
      | .fn g cap=>Fq T σ o.dst g (args.toList.map (jQ σ.env) ++ cap) fun d=>DU P Γ T all rest (σ.app o.dst d) K
      | _=>none
    | _=>match Vo P Γ o σ with
      | some (c,d)=>bif c then DU P Γ T all rest (σ.app o.dst d) K else none
      | none=>none
   let skip (σ:AS):Option R:=DU P Γ T all rest (σ.put o.dst (.HY [])) K
   match guardOf all o with
   | none=>step σ
   | some (some g,want)=>match σ.env g with
     | .bool b=>bif b then
        (bif want then step { σ with env:=upd σ.env g (.bool true) } else skip { σ with env:=upd σ.env g (.bool true) })
       else
        (bif want then skip { σ with env:=upd σ.env g (.bool false) } else step { σ with env:=upd σ.env g (.bool false) })
     | .HY []=>skip σ
     | _=>none
   | some (none,_)=>none
/-! ### Loops -/
inductive XT where
 | normal | exit (id:Nat) | ret
inductive Slot where
 | v (t:Ty)
 | rf (t:Ty)
 /-- A row by itself,and the name that it gets. -/
 | row (t:Ty) (id:Nat)
 | ms (id:Nat)
 | bx (id off:Nat)
 | pW (g:FuncId) (ts:List Ty)
 /-- What nothing looks at. -/
 | any
@[reducible] def Slot.T:Slot→Type
  | .v t=>t.T
  | .rf t=>t.T
  | .row t _=>L t.T
  | .pW _ ts=>dR ts
  | _=>Unit
inductive jd where
 | cells (cs:List Slot)
 | row (t:Ty)
 | pV (t:Ty)
 | typ (t:Ty)
@[reducible] def oI:List (Nat×Slot)→Type
  | []=>Unit
  | (_,s)::r=>s.T×oI r
@[reducible] def nk:List Slot→Type
  | []=>Unit
  | s::r=>s.T×nk r
@[reducible] def jd.T:jd→Type
  | .cells cs=>nk cs
  | .row t=>L t.T
  | .pV t=>L t.T×(Nat→Bool)
  | .typ t=>t.T
@[reducible] def oJ:List (Nat×jd)→Type
  | []=>Unit
  | (_,s)::r=>s.T×oJ r
structure Shape where
 slots:List (Nat×Slot)
 boxes:List (Nat×jd)
@[reducible] def Shape.T (s:Shape):Type:=oI s.slots×oJ s.boxes
def Cn:(ts:List Ty)→List PV→Option (dR ts)
 | [],[]=>some ()
 | t::r,.rf cs::ps=>match yt t cs with
   | some x=>match Cn r ps with
     | some y=>some (x,y)
     | none=>none
   | none=>none
 | _,_=>none
def Fu:(ts:List Ty)→dR ts→List PV
 | [],_=>[]
 | t::r,x=>.rf (pk t x.1)::Fu r x.2
def zX (box:Nat→Option aU) (id v:Nat):Bool:=match box id with
 | some (.row _ _ _ hv _)=>Nat.beq v hv
 | _=>false
def oK (box:Nat→Option aU):(s:Slot)→PV→Option s.T
 | .v t,p=>YI t p
 | .rf t,.rf cs=>yt t cs
 | .row t _,p=>Ul box t p
 | .ms id,.ms id' v=>if Nat.beq id id'&&zX box id v then some () else none
 | .bx id off,.bx id' off'=>if Nat.beq id id'&&Nat.beq off off' then some () else none
 | .pW g ts,.fn g' cap=>if Nat.beq g g' then Cn ts cap else none
 | .any,_=>some ()
 | _,_=>none
def qX (box:Nat→Option aU):(ss:List Slot)→List PV→Option (nk ss)
 | [],[]=>some ()
 | s::r,p::ps=>match oK box s p with
   | some x=>match qX box r ps with
     | some y=>some (x,y)
     | none=>none
   | none=>none
 | _,_=>none
def yL (env:Nat→PV) (box:Nat→Option aU):(ss:List (Nat×Slot))→Option (oI ss)
 | []=>some ()
 | (i,s)::r=>match oK box s (env i) with
   | some x=>match yL env box r with
     | some y=>some (x,y)
     | none=>none
   | none=>none
def pX (own:Option (Nat→Bool)) (n:Nat):Bool:=match own with
 | none=>true
 | some f=>(List.range n).all f
def je (box:Nat→Option aU):(bs:List (Nat×jd))→Option (oJ bs)
 | []=>some ()
 | (i,.cells ss)::r=>match box i with
   | some (.cells cs)=>match qX box ss cs with
     | some x=>match je box r with
       | some y=>some (x,y)
       | none=>none
     | none=>none
   | _=>none
 | (i,.row t)::r=>match box i with
   | some (.row t' x own _ _)=>if h:t'.beq t = true then (bif pX own x.len then (match je box r with
      | some y=>some (dx (Ty.eq_of_beq h) x,y)
      | none=>none) else none)
     else none
   | _=>none
 | (i,.pV t)::r=>match box i with
   | some (.row t' x own _ _)=>if h:t'.beq t = true then match je box r with
      | some y=>some ((dx (Ty.eq_of_beq h) x,ownB own),y)
      | none=>none
     else none
   | _=>none
 | (i,.typ t)::r=>match box i with
   | some (.cells cs)=>match yt t cs with
     | some x=>match je box r with
       | some y=>some (x,y)
       | none=>none
     | none=>none
   | _=>none
def RB:Slot→PV→List Nat
 | .row _ _,p=>ay [p]
 | _,_=>[]
def RD:List Slot→List PV→List Nat
 | s::r,p::ps=>RB s p ++ RD r ps
 | _,_=>[]
def RF (env:Nat→PV):List (Nat×Slot)→List Nat
 | []=>[]
 | (i,s)::r=>RB s (env i) ++ RF env r
def BJ (box:Nat→Option aU):List (Nat×jd)→List Nat
 | []=>[]
 | (i,.cells ss)::r=>(match box i with | some (.cells cs)=>RD ss cs | _=>[]) ++ BJ box r
 | (i,.row _)::r=>i::BJ box r
 | (i,.pV _)::r=>i::BJ box r
 | (_,.typ _)::r=>BJ box r
def um:Slot→List Nat
 | .row _ k=>[k]
 | _=>[]
def Cq (p:Nat×jd):List Nat:=p.1::match p.2 with
 | .cells ss=>ss.flatMap um
 | _=>[]
def Shape.names (s:Shape):List Nat:=s.slots.flatMap (fun p=>um p.2) ++ s.boxes.flatMap Cq
def BK (bs:List (Nat×jd)):Slot→Bool
 | .ms id=>bs.any fun p=>Nat.beq id p.1&&(match p.2 with | .row _=>true | .pV _=>true | _=>false)
 | .bx id _=>bs.any fun p=>Nat.beq id p.1&&(match p.2 with | .cells _=>true | .typ _=>true | _=>false)
 | .row _ k=>jI k
 | _=>true
def Shape.closed (s:Shape):Bool :=
 (s.slots.all fun p=>BK s.boxes p.2)&&s.boxes.all fun p=>match p.2 with | .cells ss=>ss.all (BK s.boxes) | _=>true
def Lr (sh:Shape) (σ:AS):Option sh.T:=match yL σ.env σ.box sh.slots with
 | some x=>match je σ.box sh.boxes with
   | some y=>if sh.closed&&(nodupB sh.names&&nodupB (RF σ.env sh.slots ++ BJ σ.box sh.boxes)) then some (x,y) else none
   | none=>none
 | none=>none
def oL:(s:Slot)→s.T→PV
 | .v t,x=>yh t (pk t x)
 | .rf t,x=>.rf (pk t x)
 | .row _ k,_=>.ms k 0
 | .ms id,_=>.ms id 0
 | .bx id off,_=>.bx id off
 | .pW g ts,x=>.fn g (Fu ts x)
 | .any,_=>.any
def oM:(ss:List Slot)→nk ss→List PV
 | [],_=>[]
 | s::r,x=>oL s x.1::oM r x.2
def uo:(ss:List (Nat×Slot))→oI ss→Nat→PV
 | [],_=>fun _=>.any
 | (i,s)::r,x=>fun j=>bif Nat.beq j i then oL s x.1 else uo r x.2 j
def Vr:(s:Slot)→s.T→(Nat→Option aU)→Nat→Option aU
 | .row t k,x,f=>fun j=>bif Nat.beq j k then some (.row t x none 0 0) else f j
 | _,_,f=>f
def RG:(ss:List Slot)→nk ss→(Nat→Option aU)→Nat→Option aU
 | [],_,f=>f
 | s::r,x,f=>Vr s x.1 (RG r x.2 f)
def Nl:(ss:List (Nat×Slot))→oI ss→(Nat→Option aU)→Nat→Option aU
 | [],_,f=>f
 | (_,s)::r,x,f=>Vr s x.1 (Nl r x.2 f)
def jf:(bs:List (Nat×jd))→oJ bs→Nat→Option aU
 | [],_=>fun _=>none
 | (i,.cells ss)::r,x=>fun j=>bif Nat.beq j i then some (.cells (oM ss x.1)) else RG ss x.1 (jf r x.2) j
 | (i,.row t)::r,x=>fun j=>bif Nat.beq j i then some (.row t x.1 none 0 0) else jf r x.2 j
 | (i,.pV t)::r,x=>fun j=>bif Nat.beq j i then some (.row t x.1.1 (some x.1.2) 0 0) else jf r x.2 j
 | (i,.typ t)::r,x=>fun j=>bif Nat.beq j i then some (.cells (pk t x.1)) else jf r x.2 j
def zY (sh:Shape) (x:sh.T):AS:={ env:=uo sh.slots x.1,box:=Nl sh.slots x.1 (jf sh.boxes x.2) }
@[reducible] def Ru:List (XT×Shape)→Type
  | []=>Empty
  | (_,s)::r=>s.T⊕Ru r
def XT.same:XT→XT→Bool
 | .normal,.normal=>true
 | .exit i,.exit j=>Nat.beq i j
 | .ret,.ret=>true
 | _,_=>false
def cls:(es:List (XT×Shape))→XT→AS→Option (Ru es)
 | [],_,_=>none
 | (e',s)::r,e,σ=>if e'.same e then (match Lr s σ with | some y=>some (.inl y) | none=>none) else (match cls r e σ with | some d=>some (.inr d) | none=>none)
def exK {R:Type}:(es:List (XT×Shape))→Ru es→(XT→AS→Option R)→Option R
 | [],d,_=>nomatch d
 | (e,s)::r,d,K=>match d with
   | .inl y=>K e (zY s y)
   | .inr d'=>exK r d' K
inductive gJ where
 | fix (sh:Shape) (es:List (XT×Shape)) (step:sh.T→Option (sh.T⊕Ru es))
 | Nn (n:Nat) (keep:List Nat) (boxes:List Nat)
def jg {X D:Type} (step:X→Option (X⊕D)):Nat→X→Option D
 | 0,_=>none
 | n + 1,x=>match step x with
   | none=>none
   | some (.inl y)=>jg step n y
   | some (.inr d)=>some d
open Classical in
noncomputable def aL {X D:Type} (step:X→Option (X⊕D)) (x:X):Option D :=
 if h:∃ n,∃ d,jg step n x = some d then some (Classical.choose (Classical.choose_spec h)) else none
theorem zZ {X D:Type} {step:X→Option (X⊕D)} {n m:Nat} {x:X} {d:D} (h:jg step n x = some d) (hm:n≤m):jg step m x = some d:=by
 induction n generalizing m x with
 | zero=>simp [jg] at h
 | succ n ih =>
   obtain ⟨m,rfl⟩:∃ k,m = k + 1:=⟨m - 1,by omega⟩
   simp only [jg] at h ⊢
   cases hs:step x with
   | none=>rw [hs] at h; simp at h
   | some r =>
     rw [hs] at h
     cases r with
     | inl y=>simp only at h ⊢; exact ih h (by omega)
     | inr e=>simpa using h
theorem wC {X D:Type} {step:X→Option (X⊕D)} {x:X} {d:D}:aL step x = some d ↔ ∃ n,jg step n x = some d:=by
 unfold aL
 constructor
 · intro h
   split at h
   · rename_i hh
     obtain rfl:=Option.some.inj h
     exact ⟨Classical.choose hh,Classical.choose_spec (Classical.choose_spec hh)⟩
   · cases h
 · rintro ⟨n,hn⟩
   have hh:∃ n,∃ d,jg step n x = some d:=⟨n,d,hn⟩
   rw [dif_pos hh]
   have h2:=Classical.choose_spec (Classical.choose_spec hh)
   have h3:=zZ h2 (Nat.le_max_left _ n)
   have h4:=zZ hn (Nat.le_max_right (Classical.choose hh) n)
   rw [h3] at h4
   exact h4
theorem cu {X D:Type} (step:X→Option (X⊕D)) (x:X):aL step x = match step x with
 | none=>none
 | some (.inl y)=>aL step y
 | some (.inr d)=>some d:=by
 apply Option.ext
 intro d
 rw [wC]
 cases hs:step x with
 | none =>
   simp only
   constructor
   · rintro ⟨n,hn⟩
     cases n with
     | zero=>simp [jg] at hn
     | succ n=>simp [jg,hs] at hn
   · intro h; cases h
 | some r =>
   cases r with
   | inl y =>
     simp only
     rw [wC]
     constructor
     · rintro ⟨n,hn⟩
       cases n with
       | zero=>simp [jg] at hn
       | succ n=>exact ⟨n,by simpa [jg,hs] using hn⟩
     · rintro ⟨n,hn⟩
       exact ⟨n + 1,by simpa [jg,hs] using hn⟩
   | inr e =>
     simp only
     constructor
     · rintro ⟨n,hn⟩
       cases n with
       | zero=>simp [jg] at hn
       | succ n=>simpa [jg,hs] using hn
     · intro h
       exact ⟨1,by simpa [jg,hs] using h⟩
def kX:PV→Bool
 | .int _ _=>true
 | .bool _=>true
 | .str _=>true
 | .l9=>true
 | .sl _ _=>true
 | .any=>true
 | _=>false
def hasNat (l:List Nat) (a:Nat):Bool:=l.any (Nat.beq a)
def nN (l:List Nat):PV→Bool
 | .bx id _=>hasNat l id
 | .ms id _=>hasNat l id
 | .vw id _ _ _ _=>hasNat l id
 | .mn id _ _ _=>hasNat l id
 | .vn id _ _ _ _ _ _=>hasNat l id
 | .me id _ _ _ _=>hasNat l id
 | .mp id _ _ _ _ _ _=>hasNat l id
 | .rf cs=>cs.all kX
 | p=>kX p
def Fv (l:List Nat):PV→Bool
 | .agg cs=>cs.all (nN l)
 | p=>nN l p
def pY (l:List Nat):PV→Bool
 | .fn _ cap=>cap.all (nN l)
 | .HY cs=>cs.all (Fv l)
 | p=>Fv l p
def narrow (keep boxes:List Nat) (σ:AS):AS :=
 { env:=fun j=>bif hasNat keep j then (bif pY boxes (σ.env j) then σ.env j else .any) else .any,box:=fun j=>bif hasNat boxes j then (match σ.box j with | some (.cells cs)=>some (.cells (cs.map fun p=>bif pY boxes p then p else .any)) | r=>r) else none }
def Fw {R:Type} (body:AS→(XT→AS→Option R)→Option R) (keep boxes:List Nat):Nat→AS→(XT→AS→Option R)→Option R
 | 0,_,_=>none
 | n + 1,σ,K=>body σ fun e σ'=>match e with
   | .normal=>Fw body keep boxes n (narrow keep boxes σ') K
   | .exit i=>K (.exit i) σ'
   | .ret=>K .ret σ'
noncomputable def runK {R:Type} (P:Program) (Γ:TypeId→Option Ty) (T:tZ) (A:Nat→Option gJ):Code→Nat→AS→(XT→AS→Option R)→Option R
 | .skip,_,σ,K=>K .normal σ
 | .region _ ops d,_,σ,K=>bif d then wB P Γ T ops.toList ops.toList 0 [] σ fun σ' es=>(bif ng ops.toList es then K .normal σ' else none) else DU P Γ T ops.toList ops.toList σ fun σ'=>K .normal σ'
 | .seq a b,c,σ,K=>runK P Γ T A a c σ fun e σ'=>match e with
   | .normal=>runK P Γ T A b c σ' K
   | .exit i=>K (.exit i) σ'
   | .ret=>K .ret σ'
 | .cond o a b,c,σ,K=>match jQ σ.env o with
   | .bool t=>bif t then runK P Γ T A a c σ K else runK P Γ T A b c σ K
   | _=>none
 | .block id b,_,σ,K=>runK P Γ T A b id σ fun e σ'=>match e with
   | .exit j=>bif Nat.beq j id then K .normal σ' else K (.exit j) σ'
   | .normal=>K .normal σ'
   | .ret=>K .ret σ'
 | .loop b,c,σ,K=>match A c with
   | some (.fix sh es step)=>match Lr sh σ with
     | some x=>(aL step x).bind fun d=>exK es d K
     | none=>none
   | some (.Nn n keep boxes)=>Fw (fun σ K=>runK P Γ T A b c σ K) keep boxes n (narrow keep boxes σ) K
   | none=>none
 | .exit id,_,σ,K=>K (.exit id) σ
 | .ret,_,σ,K=>K .ret σ
 | _,_,_,_=>none
def uq (P:Program) (σ:AS):ResultVar→Option PV
 | .tmp t=>some (σ.env t)
 | .cell a t=>match σ.env a with
   | .bx id off=>M9 P σ.box t (.bx id off)
   | _=>none
def DV (n:Nat) (dst:Option Nat):Bool:=match dst with
 | some d=>Nat.blt d n&&Nat.blt d bF
 | none=>true
def jS (n:Nat):Code→Bool
 | .region _ ops _=>ops.toList.all fun o=>DV n o.dst
 | .seq a b=>jS n a&&jS n b
 | .cond _ a b=>jS n a&&jS n b
 | .block _ b=>jS n b
 | .loop b=>jS n b
 | _=>true
/-! ### A function -/
def Aa:(ts:List Ty)→dR ts→List PV
 | [],_=>[]
 | t::r,x=>.rf (pk t x.1)::Aa r x.2
def Ii:(i:In)→i.T→Nat→PV
 | .v t,x,_=>yh t (pk t x)
 | .rf t,x,_=>.rf (pk t x)
 | .pt _,_,i=>.bx (pN i) 0
 | .pd _,_,i=>.bx (pN i) 0
 | .ow t,x,i=>yh t (zT (wN i) t x 0)
 | .mv t,x,i=>yh t (zT (pN i + 1) t x 0)
 | .nl,_,_=>.l9
 | .pW g ts,x,_=>.fn g (Aa ts x)
def Ab:(is:List In)→jK is→Nat→List PV
 | [],_,_=>[]
 | a::r,x,i=>Ii a x.1 i::Ab r x.2 (i + 1)
def iB:(i:In)→i.T→Nat→List (Nat×aU)
 | .pt t,x,i=>(pN i,.cells (zT (pN i + 1) t x 0))::jL (pN i + 1) t x 0
 | .pd t,x,i=>[(pN i,.cells (pk t x))]
 | .ow t,x,i=>jL (wN i) t x 0
 | .mv t,x,i=>jL (pN i + 1) t x 0
 | _,_,_=>[]
def Ls:(is:List In)→jK is→Nat→List (Nat×aU)
 | [],_,_=>[]
 | a::r,x,i=>iB a x.1 i ++ Ls r x.2 (i + 1)
def iC:List (Nat×aU)→Nat→Option aU
 | []=>fun _=>none
 | (i,c)::r=>fun j=>bif Nat.beq j i then some c else iC r j
def DW (c:sK) (x:jK c.ins):AS:={ env:=fun j=>(Ab c.ins x 0).getD j .any,box:=iC (Ls c.ins x 0) }
def p9 (box:Nat→Option aU):PV→PV
 | .ms id v=>bif Nat.blt id bF then kG box (.ms id v) else .any
 | .vw id v sz lo hi=>bif Nat.blt id bF then kG box (.vw id v sz lo hi) else .any
 | .mn _ _ _ _=>.any
 | .vn _ _ _ _ _ _ _=>.any
 | p=>p
def JC (box:Nat→Option aU):PV→PV
 | .agg cs=>.agg (cs.map (p9 box))
 | p=>p9 box p
def wD (P:Program) (σ:AS):(ts:List Ty)→List ResultVar→Option (dR ts×List Nat)
 | [],[]=>some ((),[])
 | t::r,v::vs=>match uq P σ v with
   | some p=>match YI t (JC σ.box p) with
     | some x=>match wD P σ r vs with
       | some (y,l)=>some ((x,y),ay p.dY ++ l)
       | none=>none
     | none=>none
   | none=>none
 | _,_=>none
def uw (σ:AS):(i:In)→Nat→Option (lI [i]×List Nat)
 | .pd t,i=>match σ.box (pN i) with
   | some (.cells cs)=>match yt t cs with
     | some x=>some ((x,()),[])
     | none=>none
   | _=>none
 | .pt t,i=>match σ.box (pN i) with
   | some (.cells cs)=>match Ib (sS σ.box t cs) with
     | some x=>some ((x,()),ay cs)
     | none=>none
   | _=>none
 | .ow t,i=>match Lu σ.box (wN i) t 0 with
   | some x=>some ((x,()),[])
   | none=>none
 | .v _,_=>some ((),[])
 | .rf _,_=>some ((),[])
 | .mv _,_=>some ((),[])
 | .nl,_=>some ((),[])
 | .pW _ _,_=>some ((),[])
where
 Lu (box:Nat→Option aU) (base:Nat):(t:Ty)→Nat→Option t.T
  | .pair a b,j=>match Lu box base a j with
    | some x=>match Lu box base b (j + a.bJ) with
      | some y=>some (x,y)
      | none=>none
    | none=>none
  | .sl u,j=>match box (base + j) with
    | some (.row t x none 0 0)=>if h:t.beq u = true then some (dx (Ty.eq_of_beq h) x) else none
    | _=>none
  | t,_=>some t.zero
def Vs:(i:In)→(r:List In)→lI [i]→lI r→lI (i::r)
 | .pt _,_,x,y=>(x.1,y)
 | .pd _,_,x,y=>(x.1,y)
 | .ow _,_,x,y=>(x.1,y)
 | .v _,_,_,y=>y
 | .rf _,_,_,y=>y
 | .mv _,_,_,y=>y
 | .nl,_,_,y=>y
 | .pW _ _,_,_,y=>y
def xC (σ:AS):(is:List In)→Nat→Option (lI is×List Nat)
 | [],_=>some ((),[])
 | a::r,i=>match uw σ a i with
   | some (x,l)=>match xC σ r (i + 1) with
     | some (y,l')=>some (Vs a r x y,l ++ l')
     | none=>none
   | none=>none
def Ac (P:Program) (σ:AS):(ts:List Ty)→List ResultVar→Option (dR ts)
 | [t],[v]=>match uq P σ v with
   | some (.bx id 0)=>bif Nat.blt id bF then (match σ.box id with
     | some (.cells cs)=>match yt t cs with
       | some x=>bif Nat.blt 0 t.size then some (x,()) else none
       | none=>none
     | _=>none) else none
   | _=>none
 | _,_=>none
def YS (box:Nat→Option aU) (u:Ty):PV→Option (L u.T)
 | .l9=>some (iO u)
 | .ms r v=>match box r with
   | some (.row t y (some _) hv _)=>if h:t.beq u = true then (bif Nat.beq v hv&&Nat.blt r bF then some (dx (Ty.eq_of_beq h) y) else none) else none
   | _=>none
 | _=>none
def yx (box:Nat→Option aU):(t:Ty)→List PV→Option (t.T×List PV)
 | .int k,.int k' n::r=>if k = k' then some (n,r) else none
 | .bool,.bool b::r=>some (b,r)
 | .str,.str s::r=>some (s,r)
 | .unit,r=>some ((),r)
 | .pair a b,l=>match yx box a l with
   | some (x,r)=>match yx box b r with
     | some (y,r')=>some ((x,y),r')
     | none=>none
   | none=>none
 | .sl u,p::r=>match YS box u p with
   | some y=>some (y,r)
   | none=>none
 | _,_=>none
def BL (P:Program) (σ:AS) (fr:Nat):(ts:List Ty)→List ResultVar→Option (dR ts×List Nat)
 | [],[]=>some ((),[])
 | t::r,v::vs=>match uq P σ v with
   | some p=>if p.DR == t.isAgg then (match Ib (bif Nat.beq fr 1 then sS σ.box t p.dY else yx σ.box t p.dY) with
     | some x=>match BL P σ fr r vs with
       | some (y,l)=>some ((x,y),ay p.dY ++ l)
       | none=>none
     | none=>none) else none
   | none=>none
 | _,_=>none
def mg:List In→Bool
 | []=>true
 | .pt t::r=>t.flat&&mg r
 | .mv _::_=>false
 | _::r=>mg r
def Vt (P:Program) (fn:Func) (c:sK) (σ:AS):Option (dR c.out×lI c.ins):=match xC σ c.ins 0 with
 | some (z,lp)=>bif c.ptr then (bif mg c.ins&&(Nat.beq c.fr 0&&nodupB lp) then (match Ac P σ c.out fn.results.toList with
    | some y=>some (y,z)
    | none=>none) else none)
   else bif Nat.beq c.fr 0 then (match wD P σ c.out fn.results.toList with
    | some (y,l)=>bif (l.isEmpty || mg c.ins)&&nodupB lp then some (y,z) else none
    | none=>none)
   else (match BL P σ c.fr c.out fn.results.toList with
    | some (y,l)=>bif Vp c.fr c.out&&(nodupB (l ++ lp)&&(Nat.beq c.fr 1 || mg c.ins)) then some (y,z) else none
    | none=>none)
 | none=>none
noncomputable def fnK (P:Program) (Γ:TypeId→Option Ty) (T:tZ) (A:Nat→Option gJ) (fn:Func) (c:sK) (x:jK c.ins):Option (dR c.out×lI c.ins) :=
 bif c.ins.all fu&&Nat.blt c.ins.length 1000 then (match fn.body with
 | some code=>runK P Γ T A code 0 (DW c x) fun e σ=>match e with
   | .exit _=>none
   | _=>Vt P fn c σ
 | none=>none) else none
def jh:Code→Nat→List (Nat×Code)
 | .seq a b,c=>jh a c ++ jh b c
 | .cond _ a b,c=>jh a c ++ jh b c
 | .block id b,_=>jh b id
 | .loop b,c=>(c,b)::jh b c
 | _,_=>[]
def oN {sh:Shape} {es:List (XT×Shape)} (e:XT) (σ:AS):Option (sh.T⊕Ru es):=match e with
 | .normal=>match Lr sh σ with
   | some y=>some (.inl y)
   | none=>none
 | .exit i=>match cls es (.exit i) σ with
   | some d=>some (.inr d)
   | none=>none
 | .ret=>match cls es .ret σ with
   | some d=>some (.inr d)
   | none=>none
def Np (P:Program) (Γ:TypeId→Option Ty) (T:tZ) (A:Nat→Option gJ) (p:Nat×Code):Prop:=match A p.1 with
 | some (.fix sh es step)=>∀ x d,step x = some d→runK P Γ T A p.2 p.1 (zY sh x) (oN (sh:=sh) (es:=es)) = some d
 | _=>True
def mF (P:Program) (Γ:TypeId→Option Ty) (T:tZ) (A:Nat→Option gJ):List (Nat×Code)→Prop
 | []=>True
 | p::r=>Np P Γ T A p ∧ mF P Γ T A r
end Go.VE
