import Derived.Test.YtgllenfbilnneaaGreatDoorVkA
/- Contracts,regions,code,loops. -/
namespace Go.VE
inductive In where
 | v (t:Ty)
 | rf (t:Ty)
 | pt (t:Ty)
 | pd (t:Ty)
 | ow (t:Ty)
 | mv (t:Ty)
 | nl
 | clo (g:FuncId) (ts:List Ty)
@[reducible] def TysT:List Ty→Type
  | []=>Unit
  | t::r=>t.T×TysT r
@[reducible] def In.T:In→Type
  | .v t=>t.T
  | .rf t=>t.T
  | .pt t=>t.T
  | .pd t=>t.T
  | .ow t=>t.T
  | .mv t=>t.T
  | .nl=>Unit
  | .clo _ ts=>TysT ts
@[reducible] def InsT:List In→Type
  | []=>Unit
  | i::r=>i.T×InsT r
@[reducible] def PtT:List In→Type
  | []=>Unit
  | .pt t::r=>t.T×PtT r
  | .pd t::r=>t.T×PtT r
  | .ow t::r=>t.T×PtT r
  | _::r=>PtT r
structure Ctr where
 ins:List In
 out:List Ty
 ptr:Bool:=false
 /-- The slices among the results: 0: not known; 1: rows by themselves; 2: rows by themselves whose elements' slices are not. -/
 fr:Nat:=0
 F:InsT ins→Option (TysT out×PtT ins)
abbrev Tbl:=List (Nat×List Nat×Ctr)
def beqNats:List Nat→List Nat→Bool
 | [],[]=>true
 | a::r,b::s=>Nat.beq a b&&beqNats r s
 | _,_=>false
def Tbl.find (f:Nat) (gs:List Nat):Tbl→Option Ctr
 | []=>none
 | (f',gs',c)::r=>if Nat.beq f f'&&beqNats gs gs' then some c else Tbl.find f gs r
def cloIds:List PV→List Nat
 | []=>[]
 | .fn g _::r=>g::cloIds r
 | _::r=>cloIds r
def PV.isAg:PV→Bool
 | .agg _=>true
 | _=>false
def unV (t:Ty) (p:PV):Option t.T:=if p.isAg == t.isAgg then unA t p.cel else none
def leafIds0:PV→List Nat
 | .ms id _=>[id]
 | .vw id _ _ _ _=>[id]
 | .mn id _ _ _=>[id]
 | .vn id _ _ _ _ _ _=>[id]
 | _=>[]
def leafIds:PV→List Nat
 | .so _ cs=>cs.flatMap leafIds0
 | .ms id _=>[id]
 | .vw id _ _ _ _=>[id]
 | .mn id _ _ _=>[id]
 | .vn id _ _ _ _ _ _=>[id]
 | _=>[]
def winCells (box:Nat→Option BoxC) (n:Nat):PV→Option (List PV)
 | .rf cs=>some (cs.take n)
 | .bx id off=>match box id with
   | some (.cells cs)=>some ((cs.drop off).take n)
   | _=>none
 | .me id v sz i off=>match box id with
   | some (.row ty x _ hv nv)=>bif Nat.beq v hv&&Nat.beq sz ty.size then some (((pkN id nv i ty (x.get i) 0).drop off).take n) else none
   | _=>none
 | .mp id v i j sz k off=>match box id with
   | some (.row ty x _ _ nv)=>bif Nat.beq v nv then (match slN ty (x.get i) j with
     | some ⟨u,y⟩=>bif Nat.beq sz u.size&&u.flat then some (((pk u (y.get k)).drop off).take n) else none
     | none=>none) else none
   | _=>none
 | _=>none
def winC (box:Nat→Option BoxC) (t:Ty) (p:PV):Option t.T:=match winCells box t.size p with
 | some cs=>unA t (cs.map (rslv1 box))
 | none=>none
def unCaps (box:Nat→Option BoxC):(ts:List Ty)→List PV→Option (TysT ts)
 | [],[]=>some ()
 | t::r,p::ps=>match winC box t p with
   | some x=>match unCaps box r ps with
     | some y=>some (x,y)
     | none=>none
   | none=>none
 | _,_=>none
def owC (box:Nat→Option BoxC) (u:Ty):PV→Option (L u.T)
 | .nils=>some (nilL0 u)
 | .ms r v=>match box r with
   | some (.row t y none hv _)=>if h:t.beq u = true then (bif Nat.beq v hv then some (castT (Ty.eq_of_beq h) y) else none) else none
   | _=>none
 | .mn r v i j=>match box r with
   | some (.row t y none _ nv)=>match slN t (y.get i) j with
     | some ⟨u',z⟩=>if h:u'.beq u = true then (bif Nat.beq v nv then some (castT (Ty.eq_of_beq h) z) else none) else none
     | none=>none
   | _=>none
 | _=>none
def unO (box:Nat→Option BoxC):(t:Ty)→List PV→Option (t.T×List PV)
 | .int k,.int k' n::r=>if k = k' then some (n,r) else none
 | .bool,.bool b::r=>some (b,r)
 | .str,.str s::r=>some (s,r)
 | .unit,r=>some ((),r)
 | .pair a b,l=>match unO box a l with
   | some (x,r)=>match unO box b r with
     | some (y,r')=>some ((x,y),r')
     | none=>none
   | none=>none
 | .sl u,p::r=>match owC box u p with
   | some y=>some (y,r)
   | none=>none
 | _,_=>none
def all0 {α β:Type}:Option (α×List β)→Option α
 | some (x,[])=>some x
 | _=>none
def unIn (box:Nat→Option BoxC):(i:In)→PV→Option i.T
 | .v t,p=>unV t (rslv box p)
 | .rf t,p=>winC box t p
 | .pt t,.bx id off=>match winCells box t.size (.bx id off) with
   | some cs=>all0 (unM box t cs)
   | none=>none
 | .pd t,.bx id off=>match winCells box t.size (.bx id off) with
   | some cs=>unA t cs
   | none=>none
 | .pt t,.me id v sz i 0=>match box id with
   | some (.row ty x none hv _)=>if h:ty.beq t = true then (bif Nat.beq v hv&&(Nat.beq sz ty.size&&(mvB id&&ty.fl1)) then some (Ty.eq_of_beq h ▸ x.get i) else none) else none
   | _=>none
 | .ow t,p=>if p.isAg == t.isAgg then all0 (unO box t p.cel) else none
 | .mv t,p=>if p.isAg == t.isAgg then all0 (unM box t p.cel) else none
 | .nl,.nils=>some ()
 | .clo g ts,.fn g' caps=>if Nat.beq g g' then unCaps box ts caps else none
 | _,_=>none
def unIns (box:Nat→Option BoxC):(is:List In)→List PV→Option (InsT is)
 | [],[]=>some ()
 | i::r,p::ps=>match unIn box i p with
   | some x=>match unIns box r ps with
     | some y=>some (x,y)
     | none=>none
   | none=>none
 | _,_=>none
def wId (box:Nat→Option BoxC):In→PV→List Nat
 | .pt t,.bx id off=>id::rowIds ((winCells box t.size (.bx id off)).getD [])
 | .pd _,.bx id _=>[id]
 | .pt _,.me id _ _ _ _=>[id]
 | .ow _,p=>p.cel.flatMap leafIds
 | .mv _,p=>rowIds p.cel
 | _,_=>[]
def wIds (box:Nat→Option BoxC):List In→List PV→List Nat
 | i::r,p::ps=>wId box i p ++ wIds box r ps
 | _,_=>[]
def rdIds (box:Nat→Option BoxC) (n:Nat) (p:PV):List Nat:=(match p with
 | .bx id _=>[id]
 | .me id _ _ _ _=>[id]
 | .mp id _ _ _ _ _ _=>[id]
 | _=>[]) ++ ((winCells box n p).getD []).flatMap leafIds
def capIds (box:Nat→Option BoxC):List Ty→List PV→List Nat
 | t::r,p::ps=>rdIds box t.size p ++ capIds box r ps
 | _,_=>[]
def rfId (box:Nat→Option BoxC):In→PV→List Nat
 | .v _,p=>p.cel.flatMap leafIds
 | .rf t,p=>rdIds box t.size p
 | .clo _ ts,.fn _ caps=>capIds box ts caps
 | _,_=>[]
def rfIds (box:Nat→Option BoxC):List In→List PV→List Nat
 | i::r,p::ps=>rfId box i p ++ rfIds box r ps
 | _,_=>[]
/-! ### Things whose slices are rows by themselves -/
def clmV (base:Nat):(t:Ty)→t.T→Nat→List PV
 | .int k,n,_=>[.int k n]
 | .bool,b,_=>[.bool b]
 | .str,s,_=>[.str s]
 | .unit,_,_=>[]
 | .pair a b,x,j=>clmV base a x.1 j ++ clmV base b x.2 (j + a.nsl)
 | .sl _,_,j=>[.ms (base + j) 0]
def clmB (base:Nat):(t:Ty)→t.T→Nat→List (Nat×BoxC)
 | .pair a b,x,j=>clmB base a x.1 j ++ clmB base b x.2 (j + a.nsl)
 | .sl t,x,j=>[(base + j,.row t x none 0 0)]
 | _,_,_=>[]
def nmV:(t:Ty)→t.T→List (Nat×Nat×Nat)→List PV
 | .int k,n,_=>[.int k n]
 | .bool,b,_=>[.bool b]
 | .str,s,_=>[.str s]
 | .unit,_,_=>[]
 | .pair a b,x,l=>nmV a x.1 l ++ nmV b x.2 (l.drop a.nsl)
 | .sl _,_,l=>match l with
   | (m,h,_)::_=>[.ms m h]
   | []=>[.any]
def nmB (sh:Bool):(t:Ty)→t.T→List (Nat×Nat×Nat)→List (Nat×BoxC)
 | .pair a b,x,l=>nmB sh a x.1 l ++ nmB sh b x.2 (l.drop a.nsl)
 | .sl t,x,l=>match l with
   | (m,h,n)::_=>[(m,.row t x (bif sh then some fun _=>false else none) h n)]
   | []=>[]
 | _,_,_=>[]
def nmVs:(ts:List Ty)→TysT ts→List (Nat×Nat×Nat)→List PV
 | [],_,_=>[]
 | t::r,y,l=>mkPV t (nmV t y.1 l)::nmVs r y.2 (l.drop t.nsl)
def nmBs (sh:Bool):(ts:List Ty)→TysT ts→List (Nat×Nat×Nat)→List (Nat×BoxC)
 | [],_,_=>[]
 | t::r,y,l=>nmB sh t y.1 l ++ nmBs sh r y.2 (l.drop t.nsl)
def nslL:List Ty→Nat
 | []=>0
 | t::r=>t.nsl + nslL r
def turns (box:Nat→Option BoxC):List Nat→Option (List (Nat×Nat×Nat))
 | []=>some []
 | m::r=>match nxt box m with
   | some (h,n)=>match turns box r with
     | some l=>some ((m,h,n)::l)
     | none=>none
   | none=>none
def oBase:Nat:=300000000
def pN (i:Nat):Nat:=pBase + 64 * i
def wN (i:Nat):Nat:=wBase + 64 * i
def rBase (d:Nat):Nat:=1000000 + 64 * d
def cellN (id q:Nat):PV→Nat
 | .ms r _=>r
 | .vw r _ _ _ _=>r
 | _=>bif Nat.blt id pBase then 20000000 + 64 * id + q else 60000000 + (id - pBase) + q
def cellNs (id:Nat):(t:Ty)→List PV→Nat→List Nat
 | .pair a b,cs,q=>cellNs id a (cs.take a.size) q ++ cellNs id b (cs.drop a.size) (q + a.size)
 | .sl _,c::_,q=>[cellN id q c]
 | _,_,_=>[]
def owB (box:Nat→Option BoxC) (u:Ty) (y:L u.T):PV→List (Nat×BoxC)
 | .ms r _=>match box r with
   | some (.row _ _ own hv nv)=>[(r,.row u y own hv nv)]
   | _=>[]
 | .mn r _ i j=>match box r with
   | some (.row t x own hv nv)=>match setN u y t (x.get i) j with
     | some z=>[(r,.row t (x.set i z) own hv nv)]
     | none=>[]
   | _=>[]
 | _=>[]
def owBs (box:Nat→Option BoxC):(t:Ty)→t.T→List PV→List (Nat×BoxC)
 | .pair a b,x,cs=>owBs box a x.1 (cs.take a.size) ++ owBs box b x.2 (cs.drop a.size)
 | .sl u,y,p::_=>owB box u y p
 | _,_,_=>[]
def wb1 (box:Nat→Option BoxC):(i:In)→PV→PtT [i]→Option (List (Nat×BoxC))
 | .pt t,.bx id off,y=>match box id with
   | some (.cells cs)=>match turns box (cellNs id t ((cs.drop off).take t.size) off) with
     | some l=>bif nodupB (id::l.map (·.1))&&l.all (fun m=>mvB m.1) then some ((id,.cells (splice cs off (nmV t y.1 l)))::nmB false t y.1 l) else none
     | none=>none
   | _=>none
 | .pd t,.bx id off,y=>match box id with
   | some (.cells cs)=>some [(id,.cells (splice cs off (pk t y.1)))]
   | _=>none
 | .pt t,.me id _ _ i _,y=>match box id with
   | some (.row ty x own hv nv)=>if h:t.beq ty = true then some [(id,.row ty (x.set i (Ty.eq_of_beq h ▸ y.1)) own hv (nv + 1))] else none
   | _=>none
 | .ow t,p,y=>some (owBs box t y.1 p.cel)
 | .mv _,p,_=>some ((rowIds p.cel).map (goneC box))
 | _,_,_=>some []
def ptHd:(i:In)→(r:List In)→PtT (i::r)→PtT [i]
 | .pt _,_,y=>(y.1,())
 | .pd _,_,y=>(y.1,())
 | .ow _,_,y=>(y.1,())
 | .v _,_,_=>()
 | .rf _,_,_=>()
 | .mv _,_,_=>()
 | .nl,_,_=>()
 | .clo _ _,_,_=>()
def ptTl:(i:In)→(r:List In)→PtT (i::r)→PtT r
 | .pt _,_,y=>y.2
 | .pd _,_,y=>y.2
 | .ow _,_,y=>y.2
 | .v _,_,y=>y
 | .rf _,_,y=>y
 | .mv _,_,y=>y
 | .nl,_,y=>y
 | .clo _ _,_,y=>y
def wb (box:Nat→Option BoxC):(is:List In)→List PV→PtT is→Option (List (Nat×BoxC))
 | i::r,p::ps,y=>match wb1 box i p (ptHd i r y) with
   | some l=>match wb box r ps (ptTl i r y) with
     | some l'=>some (l ++ l')
     | none=>none
   | none=>none
 | _,_,_=>some []
def mkOut (t:Ty) (x:t.T):PV:=mkPV t (pk t x)
def mkOuts:(ts:List Ty)→TysT ts→List PV
 | [],_=>[]
 | t::r,y=>mkOut t y.1::mkOuts r y.2
def one (l:List PV):PV:=match l with
 | [p]=>p
 | l=>.tup l
def mkRes (ts:List Ty) (y:TysT ts):PV:=one (mkOuts ts y)
def disjB (a b:List Nat):Bool:=a.all fun x=>b.all fun y=>!Nat.beq x y
def ptrRes (d:Nat):(ts:List Ty)→TysT ts→Option (PV×List (Nat×BoxC))
 | [t],y=>some (.bx d 0,[(d,.cells (pk t y.1))])
 | _,_=>none
def frOk (fr:Nat) (ts:List Ty):Bool:=match fr with
 | 0=>false
 | 1=>ts.all Ty.fl2
 | _=>true
def resD (box:Nat→Option BoxC) (c:Ctr) (dst:Option Nat) (y:TysT c.out) (w:List (Nat×BoxC)):Option Dl :=
 bif c.ptr then (match dst with
  | some d=>if (!Nat.beq c.fr 0 || w.any fun p=>Nat.beq p.1 d) = true then none else match box d,ptrRes d c.out y with
    | none,some (v,b)=>some { v,bx:=b ++ w }
    | _,_=>none
  | none=>none)
 else bif Nat.beq c.fr 0 then some { v:=mkRes c.out y,bx:=w }
 else match dst with
  | some d=>match turns box ((List.range (nslL c.out)).map (rBase d + ·)) with
    | some l=>if (frOk c.fr c.out&&(Nat.blt (rBase d + 64) pBase&&(Nat.blt (nslL c.out) 64&&disjB (l.map (·.1)) (w.map (·.1))))) = true then some { v:=one (nmVs c.out y l),bx:=w ++ nmBs (!Nat.beq c.fr 1) c.out y l } else none
    | none=>none
  | none=>none
def pdFlat:In→Bool
 | .pd t=>t.flat
 | _=>true
def inFit:In→Bool
 | .pt t=>t.fl2&&Nat.blt t.nsl 60
 | .ow t=>t.fl2&&Nat.blt t.nsl 60
 | .mv t=>t.fl2&&Nat.blt t.nsl 60
 | _=>true
def exA (box:Nat→Option BoxC) (dst:Option Nat):List In→List PV→Option ((Nat→Option BoxC)×List PV×List (Nat×BoxC))
 | .mv _::_,.mn id v k 0::r=>match dst with
   | some d=>match box id,nxt box d with
     | some (.row (.sl u) l none hv nv),some (h,n)=>bif Nat.beq v nv&&(mvB id&&(u.flat&&!Nat.beq id d)) then
      some (upd (upd box id (some (.hol u l k hv v))) d (some (.row u (l.get k) none h n)),.ms d h::r,[(id,.hol u l k hv v)]) else none
     | _,_=>none
   | none=>none
 | _,args=>some (box,args,[])
def exIds (dst:Option Nat):List In→List PV→List Nat
 | .mv _::_,.mn id _ _ _::_=>id::dst.toList
 | _,_=>[]
def exOk (ex:List (Nat×BoxC)) (dst:Option Nat) (bx:List (Nat×BoxC)):Bool:=match ex with
 | []=>true
 | _=>match dst with
   | some d=>bx.any fun p=>Nat.beq p.1 d
   | none=>false
def callK {R:Type} (T:Tbl) (σ:AS) (dst:Option Nat) (f:FuncId) (args:List PV) (K:Dl→Option R):Option R :=
 match T.find f (cloIds args) with
 | none=>none
 | some c=>match exA σ.box dst c.ins args with
   | none=>none
   | some (box,args,ex)=>match unIns box c.ins args with
   | none=>none
   | some x=>if nodupB (wIds box c.ins args)&&(disjB (wIds box c.ins args) (rfIds box c.ins args)&&((rfIds box c.ins args).isEmpty || (c.ins.all pdFlat&&(Nat.beq c.fr 0&&c.out.all Ty.flat || Nat.beq c.fr 1))))
     then (c.F x).bind fun y=>(wb box c.ins args y.2).bind fun w=>(resD box c dst y.1 w).bind fun d=>bif nodupB (d.bx.map (·.1))&&exOk ex dst d.bx then K { d with bx:=ex ++ d.bx } else none else none
def guardOf (all:List Oper) (o:Oper):Option (Option Nat×Bool):=match o.guard with
 | none=>none
 | some (j,want)=>some ((all[j]?).bind (·.dst),want)
/-! ### May a region's order be left open -/
def maskOf (acc:List Nat) (o:Oper):Nat :=
 o.after.toList.foldl (fun s e=>bif Region.binds .any e then s ||| 2 ^ e.on ||| acc.getD e.on 0 else s) 0
def masks:List Oper→List Nat→List Nat
 | [],acc=>acc
 | o::r,acc=>masks r (acc ++ [maskOf acc o])
def tmpsOf (os:List Operand):List Nat:=os.filterMap fun | .tmp t=>some t | _=>none
def boxOfP:PV→List Nat
 | .bx id _=>[id]
 | .me id _ _ _ _=>[id]
 | .mp id _ _ _ _ _ _=>[id]
 | p=>leafIds p
def rdK (l:List Nat):List (Nat×Bool):=l.map fun b=>(2 * b + 1,false)
def wrK (l:List Nat):List (Nat×Bool):=l.map fun b=>(2 * b + 1,true)
def footB (T:Tbl) (o:Oper) (env:Nat→PV) (box:Nat→Option BoxC):List (Nat×Bool) :=
 let d:=wrK o.dst.toList
 let ids:=fun (x:Operand)=>(evO env x).cel.flatMap boxOfP
 match o.op with
 | .load _ a=>rdK (ids a)
 | .store _ a x=>wrK (ids a) ++ wrK (rowIds (evO env x).cel)
 | .alloc _=>d
 | .box _ _=>d
 | .makeSlice _ _ _=>d
 | .buildSlice _ _ ps=>d ++ wrK (ps.toList.flatMap fun p=>rowIds (evO env p.2).cel)
 | .range _ _=>d
 | .next it _=>wrK (ids it)
 | .indexAddr _ x _=>rdK (ids x)
 | .slice _ x _ _ _=>rdK (ids x)
 | .binOp _ _ x y _=>rdK (ids x) ++ rdK (ids y)
 | .convert _ _ x=>rdK (ids x)
 | .call { callee:=.builtin .append,args,argTypes:=_ }=>d ++ wrK (args.toList.flatMap ids)
 | .call { callee:=.builtin .copy,args,argTypes:=_ }=>wrK (args.toList.flatMap ids)
 | .call { callee:=.builtin _,args,argTypes:=_ }=>rdK (args.toList.flatMap ids)
 | .call { callee:=.value f,args,argTypes:=_ }=>match evO env f with
   | .fn g cap =>
     let ps:=args.toList.map (evO env) ++ cap
     match T.find g (cloIds ps) with
     | some c=>wrK (exIds o.dst c.ins ps) ++ wrK (wIds box c.ins ps) ++ rdK (rfIds box c.ins ps) ++ (bif c.ptr then d else []) ++ (bif Nat.beq c.fr 0 then [] else o.dst.toList.flatMap fun b=>wrK ((List.range (nslL c.out)).map (rBase b + ·)))
     | none=>[]
   | _=>[]
 | _=>[]
def footT (all:List Oper) (o:Oper):List (Nat×Bool) :=
 (tmpsOf (match o.op with | .call c=>c.operands.toList | op=>op.operands.toList)).map (fun t=>(2 * t,false)) ++
 (match guardOf all o with | some (some g,_)=>[(2 * g,false)] | _=>[]) ++
 (o.dst.toList.map fun d=>(2 * d,true))
def foot (T:Tbl) (all:List Oper) (o:Oper) (σ:AS):List (Nat×Bool):=footT all o ++ footB T o σ.env σ.box
def hasKey (F:List (Nat×Bool)) (k:Nat):Bool:=F.any fun p=>Nat.beq p.1 k
def msk (F:List (Nat×Bool)) (σ:AS):AS:={ env:=fun t=>bif hasKey F (2 * t) then σ.env t else .any,box:=fun b=>bif hasKey F (2 * b + 1) then σ.box b else none }
def wrOk (F:List (Nat×Bool)) (d:Dl):Bool:=d.bx.all fun p=>F.any fun q=>Nat.beq q.1 (2 * p.1 + 1)&&q.2
def keyed (i:Nat) (l:List (Nat×Bool)):List (Nat×Nat×Bool):=l.map fun p=>(p.1,i,p.2)
def clash (ms:List Nat) (e1 e2:Nat×Nat×Bool):Bool :=
 e1.2.2&&(Nat.beq e1.1 e2.1&&(!Nat.beq e1.2.1 e2.2.1&&!((ms.getD (max e1.2.1 e2.2.1) 0).testBit (min e1.2.1 e2.2.1))))
def edgesB:List Oper→Nat→Bool
 | [],_=>true
 | o::r,i=>(o.after.toList.all fun e=>!(Region.binds .any e) || Nat.blt e.on i)&&edgesB r (i + 1)
def okDraw (all:List Oper) (es:List (Nat×Nat×Bool)):Bool :=
 let ms:=masks all []
 edgesB all 0&&es.all fun e1=>!e1.2.2 || es.all fun e2=>!clash ms e1 e2
def regK {R:Type} (P:Program) (Γ:TypeId→Option Ty) (T:Tbl) (all:List Oper):List Oper→Nat→List (Nat×Nat×Bool)→AS→(AS→List (Nat×Nat×Bool)→Option R)→Option R
 | [],_,es,σ,K=>K σ es
 | o::rest,i,es,σ,K =>
   let step (σ:AS):Option R:=match o.op with
    | .call { callee:=.value f,args,argTypes:=_ }=>match evO (msk (foot T all o σ) σ).env f with
      | .fn g cap=>callK T (msk (foot T all o σ) σ) o.dst g (args.toList.map (evO (msk (foot T all o σ) σ).env) ++ cap) fun d=>bif wrOk (foot T all o σ) d then regK P Γ T all rest (i + 1) (keyed i (foot T all o σ) ++ es) (σ.app o.dst d) K else none
      | _=>none
    | _=>match opD P Γ o (msk (foot T all o σ) σ) with
      | some (c,d)=>bif c then (bif wrOk (foot T all o σ) d then regK P Γ T all rest (i + 1) (keyed i (foot T all o σ) ++ es) (σ.app o.dst d) K else none) else none
      | none=>none
   let skip (σ:AS):Option R:=regK P Γ T all rest (i + 1) (keyed i (footT all o) ++ es) (σ.put o.dst (.tup [])) K
   match guardOf all o with
   | none=>step σ
   | some (some g,want)=>match σ.env g with
     | .bool b=>bif b then
        (bif want then step { σ with env:=upd σ.env g (.bool true) } else skip { σ with env:=upd σ.env g (.bool true) })
       else
        (bif want then skip { σ with env:=upd σ.env g (.bool false) } else step { σ with env:=upd σ.env g (.bool false) })
     | .tup []=>skip σ
     | _=>none
   | some (none,_)=>none
def regI {R:Type} (P:Program) (Γ:TypeId→Option Ty) (T:Tbl) (all:List Oper):List Oper→AS→(AS→Option R)→Option R
 | [],σ,K=>K σ
 | o::rest,σ,K =>
   let step (σ:AS):Option R:=match o.op with
    | .call { callee:=.value f,args,argTypes:=_ }=>match evO σ.env f with
      | .fn g cap=>callK T σ o.dst g (args.toList.map (evO σ.env) ++ cap) fun d=>regI P Γ T all rest (σ.app o.dst d) K
      | _=>none
    | _=>match opD P Γ o σ with
      | some (c,d)=>bif c then regI P Γ T all rest (σ.app o.dst d) K else none
      | none=>none
   let skip (σ:AS):Option R:=regI P Γ T all rest (σ.put o.dst (.tup [])) K
   match guardOf all o with
   | none=>step σ
   | some (some g,want)=>match σ.env g with
     | .bool b=>bif b then
        (bif want then step { σ with env:=upd σ.env g (.bool true) } else skip { σ with env:=upd σ.env g (.bool true) })
       else
        (bif want then skip { σ with env:=upd σ.env g (.bool false) } else step { σ with env:=upd σ.env g (.bool false) })
     | .tup []=>skip σ
     | _=>none
   | some (none,_)=>none
/-! ### Loops -/
inductive XT where
 | normal | exit (id:Nat) | ret
inductive Slot where
 | v (t:Ty)
 | rf (t:Ty)
 /-- A row by itself,and the name that it gets. -/
 | row (t:Ty) (id:Nat)
 | ms (id:Nat)
 | bx (id off:Nat)
 | clo (g:FuncId) (ts:List Ty)
@[reducible] def Slot.T:Slot→Type
  | .v t=>t.T
  | .rf t=>t.T
  | .row t _=>L t.T
  | .clo _ ts=>TysT ts
  | _=>Unit
inductive BSlot where
 | cells (cs:List Slot)
 | row (t:Ty)
 | msk (t:Ty)
 | typ (t:Ty)
@[reducible] def SlotsT:List (Nat×Slot)→Type
  | []=>Unit
  | (_,s)::r=>s.T×SlotsT r
@[reducible] def CellsT:List Slot→Type
  | []=>Unit
  | s::r=>s.T×CellsT r
@[reducible] def BSlot.T:BSlot→Type
  | .cells cs=>CellsT cs
  | .row t=>L t.T
  | .msk t=>L t.T×(Nat→Bool)
  | .typ t=>t.T
@[reducible] def BoxesT:List (Nat×BSlot)→Type
  | []=>Unit
  | (_,s)::r=>s.T×BoxesT r
structure Shape where
 slots:List (Nat×Slot)
 boxes:List (Nat×BSlot)
@[reducible] def Shape.T (s:Shape):Type:=SlotsT s.slots×BoxesT s.boxes
def unRfs:(ts:List Ty)→List PV→Option (TysT ts)
 | [],[]=>some ()
 | t::r,.rf cs::ps=>match unA t cs with
   | some x=>match unRfs r ps with
     | some y=>some (x,y)
     | none=>none
   | none=>none
 | _,_=>none
def pkRfs:(ts:List Ty)→TysT ts→List PV
 | [],_=>[]
 | t::r,x=>.rf (pk t x.1)::pkRfs r x.2
def atTurn (box:Nat→Option BoxC) (id v:Nat):Bool:=match box id with
 | some (.row _ _ _ hv _)=>Nat.beq v hv
 | _=>false
def unSlot (box:Nat→Option BoxC):(s:Slot)→PV→Option s.T
 | .v t,p=>unV t p
 | .rf t,.rf cs=>unA t cs
 | .row t _,p=>slC box t p
 | .ms id,.ms id' v=>if Nat.beq id id'&&atTurn box id v then some () else none
 | .bx id off,.bx id' off'=>if Nat.beq id id'&&Nat.beq off off' then some () else none
 | .clo g ts,.fn g' cap=>if Nat.beq g g' then unRfs ts cap else none
 | _,_=>none
def unCells (box:Nat→Option BoxC):(ss:List Slot)→List PV→Option (CellsT ss)
 | [],[]=>some ()
 | s::r,p::ps=>match unSlot box s p with
   | some x=>match unCells box r ps with
     | some y=>some (x,y)
     | none=>none
   | none=>none
 | _,_=>none
def unSlots (env:Nat→PV) (box:Nat→Option BoxC):(ss:List (Nat×Slot))→Option (SlotsT ss)
 | []=>some ()
 | (i,s)::r=>match unSlot box s (env i) with
   | some x=>match unSlots env box r with
     | some y=>some (x,y)
     | none=>none
   | none=>none
def allOwn (own:Option (Nat→Bool)) (n:Nat):Bool:=match own with
 | none=>true
 | some f=>(List.range n).all f
def unBoxes (box:Nat→Option BoxC):(bs:List (Nat×BSlot))→Option (BoxesT bs)
 | []=>some ()
 | (i,.cells ss)::r=>match box i with
   | some (.cells cs)=>match unCells box ss cs with
     | some x=>match unBoxes box r with
       | some y=>some (x,y)
       | none=>none
     | none=>none
   | _=>none
 | (i,.row t)::r=>match box i with
   | some (.row t' x own _ _)=>if h:t'.beq t = true then (bif allOwn own x.len then (match unBoxes box r with
      | some y=>some (castT (Ty.eq_of_beq h) x,y)
      | none=>none) else none)
     else none
   | _=>none
 | (i,.msk t)::r=>match box i with
   | some (.row t' x own _ _)=>if h:t'.beq t = true then match unBoxes box r with
      | some y=>some ((castT (Ty.eq_of_beq h) x,ownB own),y)
      | none=>none
     else none
   | _=>none
 | (i,.typ t)::r=>match box i with
   | some (.cells cs)=>match unA t cs with
     | some x=>match unBoxes box r with
       | some y=>some (x,y)
       | none=>none
     | none=>none
   | _=>none
def srcS:Slot→PV→List Nat
 | .row _ _,p=>rowIds [p]
 | _,_=>[]
def srcC:List Slot→List PV→List Nat
 | s::r,p::ps=>srcS s p ++ srcC r ps
 | _,_=>[]
def srcL (env:Nat→PV):List (Nat×Slot)→List Nat
 | []=>[]
 | (i,s)::r=>srcS s (env i) ++ srcL env r
def srcB (box:Nat→Option BoxC):List (Nat×BSlot)→List Nat
 | []=>[]
 | (i,.cells ss)::r=>(match box i with | some (.cells cs)=>srcC ss cs | _=>[]) ++ srcB box r
 | (i,.row _)::r=>i::srcB box r
 | (i,.msk _)::r=>i::srcB box r
 | (_,.typ _)::r=>srcB box r
def nameS:Slot→List Nat
 | .row _ k=>[k]
 | _=>[]
def nameB (p:Nat×BSlot):List Nat:=p.1::match p.2 with
 | .cells ss=>ss.flatMap nameS
 | _=>[]
def Shape.names (s:Shape):List Nat:=s.slots.flatMap (fun p=>nameS p.2) ++ s.boxes.flatMap nameB
def boxS (bs:List (Nat×BSlot)):Slot→Bool
 | .ms id=>bs.any fun p=>Nat.beq id p.1&&(match p.2 with | .row _=>true | .msk _=>true | _=>false)
 | .bx id _=>bs.any fun p=>Nat.beq id p.1&&(match p.2 with | .cells _=>true | .typ _=>true | _=>false)
 | .row _ k=>mvB k
 | _=>true
def Shape.closed (s:Shape):Bool :=
 (s.slots.all fun p=>boxS s.boxes p.2)&&s.boxes.all fun p=>match p.2 with | .cells ss=>ss.all (boxS s.boxes) | _=>true
def unSh (sh:Shape) (σ:AS):Option sh.T:=match unSlots σ.env σ.box sh.slots with
 | some x=>match unBoxes σ.box sh.boxes with
   | some y=>if sh.closed&&(nodupB sh.names&&nodupB (srcL σ.env sh.slots ++ srcB σ.box sh.boxes)) then some (x,y) else none
   | none=>none
 | none=>none
def pkSlot:(s:Slot)→s.T→PV
 | .v t,x=>mkPV t (pk t x)
 | .rf t,x=>.rf (pk t x)
 | .row _ k,_=>.ms k 0
 | .ms id,_=>.ms id 0
 | .bx id off,_=>.bx id off
 | .clo g ts,x=>.fn g (pkRfs ts x)
def pkCells:(ss:List Slot)→CellsT ss→List PV
 | [],_=>[]
 | s::r,x=>pkSlot s x.1::pkCells r x.2
def pkSlots:(ss:List (Nat×Slot))→SlotsT ss→Nat→PV
 | [],_=>fun _=>.any
 | (i,s)::r,x=>fun j=>bif Nat.beq j i then pkSlot s x.1 else pkSlots r x.2 j
def rowS:(s:Slot)→s.T→(Nat→Option BoxC)→Nat→Option BoxC
 | .row t k,x,f=>fun j=>bif Nat.beq j k then some (.row t x none 0 0) else f j
 | _,_,f=>f
def rowC:(ss:List Slot)→CellsT ss→(Nat→Option BoxC)→Nat→Option BoxC
 | [],_,f=>f
 | s::r,x,f=>rowS s x.1 (rowC r x.2 f)
def rowL:(ss:List (Nat×Slot))→SlotsT ss→(Nat→Option BoxC)→Nat→Option BoxC
 | [],_,f=>f
 | (_,s)::r,x,f=>rowS s x.1 (rowL r x.2 f)
def pkBoxes:(bs:List (Nat×BSlot))→BoxesT bs→Nat→Option BoxC
 | [],_=>fun _=>none
 | (i,.cells ss)::r,x=>fun j=>bif Nat.beq j i then some (.cells (pkCells ss x.1)) else rowC ss x.1 (pkBoxes r x.2) j
 | (i,.row t)::r,x=>fun j=>bif Nat.beq j i then some (.row t x.1 none 0 0) else pkBoxes r x.2 j
 | (i,.msk t)::r,x=>fun j=>bif Nat.beq j i then some (.row t x.1.1 (some x.1.2) 0 0) else pkBoxes r x.2 j
 | (i,.typ t)::r,x=>fun j=>bif Nat.beq j i then some (.cells (pk t x.1)) else pkBoxes r x.2 j
def pkSh (sh:Shape) (x:sh.T):AS:={ env:=pkSlots sh.slots x.1,box:=rowL sh.slots x.1 (pkBoxes sh.boxes x.2) }
@[reducible] def ExT:List (XT×Shape)→Type
  | []=>Empty
  | (_,s)::r=>s.T⊕ExT r
def XT.same:XT→XT→Bool
 | .normal,.normal=>true
 | .exit i,.exit j=>Nat.beq i j
 | .ret,.ret=>true
 | _,_=>false
def cls:(es:List (XT×Shape))→XT→AS→Option (ExT es)
 | [],_,_=>none
 | (e',s)::r,e,σ=>if e'.same e then (match unSh s σ with | some y=>some (.inl y) | none=>none) else (match cls r e σ with | some d=>some (.inr d) | none=>none)
def exK {R:Type}:(es:List (XT×Shape))→ExT es→(XT→AS→Option R)→Option R
 | [],d,_=>nomatch d
 | (e,s)::r,d,K=>match d with
   | .inl y=>K e (pkSh s y)
   | .inr d'=>exK r d' K
inductive LoopAnn where
 | fix (sh:Shape) (es:List (XT×Shape)) (step:sh.T→Option (sh.T⊕ExT es))
 | unroll (n:Nat) (keep:List Nat) (boxes:List Nat)
def iterO {X D:Type} (step:X→Option (X⊕D)):Nat→X→Option D
 | 0,_=>none
 | n + 1,x=>match step x with
   | none=>none
   | some (.inl y)=>iterO step n y
   | some (.inr d)=>some d
open Classical in
noncomputable def fixO {X D:Type} (step:X→Option (X⊕D)) (x:X):Option D :=
 if h:∃ n,∃ d,iterO step n x = some d then some (Classical.choose (Classical.choose_spec h)) else none
theorem iterO_mono {X D:Type} {step:X→Option (X⊕D)} {n m:Nat} {x:X} {d:D} (h:iterO step n x = some d) (hm:n≤m):iterO step m x = some d:=by
 induction n generalizing m x with
 | zero=>simp [iterO] at h
 | succ n ih =>
   obtain ⟨m,rfl⟩:∃ k,m = k + 1:=⟨m - 1,by omega⟩
   simp only [iterO] at h ⊢
   cases hs:step x with
   | none=>rw [hs] at h; simp at h
   | some r =>
     rw [hs] at h
     cases r with
     | inl y=>simp only at h ⊢; exact ih h (by omega)
     | inr e=>simpa using h
theorem fixO_some {X D:Type} {step:X→Option (X⊕D)} {x:X} {d:D}:fixO step x = some d ↔ ∃ n,iterO step n x = some d:=by
 unfold fixO
 constructor
 · intro h
   split at h
   · rename_i hh
     obtain rfl:=Option.some.inj h
     exact ⟨Classical.choose hh,Classical.choose_spec (Classical.choose_spec hh)⟩
   · cases h
 · rintro ⟨n,hn⟩
   have hh:∃ n,∃ d,iterO step n x = some d:=⟨n,d,hn⟩
   rw [dif_pos hh]
   have h2:=Classical.choose_spec (Classical.choose_spec hh)
   have h3:=iterO_mono h2 (Nat.le_max_left _ n)
   have h4:=iterO_mono hn (Nat.le_max_right (Classical.choose hh) n)
   rw [h3] at h4
   exact h4
theorem fixO_unfold {X D:Type} (step:X→Option (X⊕D)) (x:X):fixO step x = match step x with
 | none=>none
 | some (.inl y)=>fixO step y
 | some (.inr d)=>some d:=by
 apply Option.ext
 intro d
 rw [fixO_some]
 cases hs:step x with
 | none =>
   simp only
   constructor
   · rintro ⟨n,hn⟩
     cases n with
     | zero=>simp [iterO] at hn
     | succ n=>simp [iterO,hs] at hn
   · intro h; cases h
 | some r =>
   cases r with
   | inl y =>
     simp only
     rw [fixO_some]
     constructor
     · rintro ⟨n,hn⟩
       cases n with
       | zero=>simp [iterO] at hn
       | succ n=>exact ⟨n,by simpa [iterO,hs] using hn⟩
     · rintro ⟨n,hn⟩
       exact ⟨n + 1,by simpa [iterO,hs] using hn⟩
   | inr e =>
     simp only
     constructor
     · rintro ⟨n,hn⟩
       cases n with
       | zero=>simp [iterO] at hn
       | succ n=>simpa [iterO,hs] using hn
     · intro h
       exact ⟨1,by simpa [iterO,hs] using h⟩
def leafB:PV→Bool
 | .int _ _=>true
 | .bool _=>true
 | .str _=>true
 | .nils=>true
 | .sl _ _=>true
 | .any=>true
 | _=>false
def hasNat (l:List Nat) (a:Nat):Bool:=l.any (Nat.beq a)
def leafC (l:List Nat):PV→Bool
 | .bx id _=>hasNat l id
 | .ms id _=>hasNat l id
 | .vw id _ _ _ _=>hasNat l id
 | .mn id _ _ _=>hasNat l id
 | .vn id _ _ _ _ _ _=>hasNat l id
 | .me id _ _ _ _=>hasNat l id
 | .mp id _ _ _ _ _ _=>hasNat l id
 | .rf cs=>cs.all leafB
 | p=>leafB p
def leafA (l:List Nat):PV→Bool
 | .agg cs=>cs.all (leafC l)
 | p=>leafC l p
def namesB (l:List Nat):PV→Bool
 | .fn _ cap=>cap.all (leafC l)
 | .tup cs=>cs.all (leafA l)
 | p=>leafA l p
def narrow (keep boxes:List Nat) (σ:AS):AS :=
 { env:=fun j=>bif hasNat keep j then (bif namesB boxes (σ.env j) then σ.env j else .any) else .any,box:=fun j=>bif hasNat boxes j then (match σ.box j with | some (.cells cs)=>some (.cells (cs.map fun p=>bif namesB boxes p then p else .any)) | r=>r) else none }
def loopU {R:Type} (body:AS→(XT→AS→Option R)→Option R) (keep boxes:List Nat):Nat→AS→(XT→AS→Option R)→Option R
 | 0,_,_=>none
 | n + 1,σ,K=>body σ fun e σ'=>match e with
   | .normal=>loopU body keep boxes n (narrow keep boxes σ') K
   | .exit i=>K (.exit i) σ'
   | .ret=>K .ret σ'
noncomputable def runK {R:Type} (P:Program) (Γ:TypeId→Option Ty) (T:Tbl) (A:Nat→Option LoopAnn):Code→Nat→AS→(XT→AS→Option R)→Option R
 | .skip,_,σ,K=>K .normal σ
 | .region _ ops d,_,σ,K=>bif d then regK P Γ T ops.toList ops.toList 0 [] σ fun σ' es=>(bif okDraw ops.toList es then K .normal σ' else none) else regI P Γ T ops.toList ops.toList σ fun σ'=>K .normal σ'
 | .seq a b,c,σ,K=>runK P Γ T A a c σ fun e σ'=>match e with
   | .normal=>runK P Γ T A b c σ' K
   | .exit i=>K (.exit i) σ'
   | .ret=>K .ret σ'
 | .cond o a b,c,σ,K=>match evO σ.env o with
   | .bool t=>bif t then runK P Γ T A a c σ K else runK P Γ T A b c σ K
   | _=>none
 | .block id b,_,σ,K=>runK P Γ T A b id σ fun e σ'=>match e with
   | .exit j=>bif Nat.beq j id then K .normal σ' else K (.exit j) σ'
   | .normal=>K .normal σ'
   | .ret=>K .ret σ'
 | .loop b,c,σ,K=>match A c with
   | some (.fix sh es step)=>match unSh sh σ with
     | some x=>(fixO step x).bind fun d=>exK es d K
     | none=>none
   | some (.unroll n keep boxes)=>loopU (fun σ K=>runK P Γ T A b c σ K) keep boxes n (narrow keep boxes σ) K
   | none=>none
 | .exit id,_,σ,K=>K (.exit id) σ
 | .ret,_,σ,K=>K .ret σ
 | _,_,_,_=>none
def resPV (P:Program) (σ:AS):ResultVar→Option PV
 | .tmp t=>some (σ.env t)
 | .cell a t=>match σ.env a with
   | .bx id off=>rdAt P σ.box t (.bx id off)
   | _=>none
def dstOkN (n:Nat) (dst:Option Nat):Bool:=match dst with
 | some d=>Nat.blt d n&&Nat.blt d pBase
 | none=>true
def dstsOk (n:Nat):Code→Bool
 | .region _ ops _=>ops.toList.all fun o=>dstOkN n o.dst
 | .seq a b=>dstsOk n a&&dstsOk n b
 | .cond _ a b=>dstsOk n a&&dstsOk n b
 | .block _ b=>dstsOk n b
 | .loop b=>dstsOk n b
 | _=>true
/-! ### A function -/
def pkCaps:(ts:List Ty)→TysT ts→List PV
 | [],_=>[]
 | t::r,x=>.rf (pk t x.1)::pkCaps r x.2
def pkIn:(i:In)→i.T→Nat→PV
 | .v t,x,_=>mkPV t (pk t x)
 | .rf t,x,_=>.rf (pk t x)
 | .pt _,_,i=>.bx (pN i) 0
 | .pd _,_,i=>.bx (pN i) 0
 | .ow t,x,i=>mkPV t (clmV (wN i) t x 0)
 | .mv t,x,i=>mkPV t (clmV (pN i + 1) t x 0)
 | .nl,_,_=>.nils
 | .clo g ts,x,_=>.fn g (pkCaps ts x)
def pkIns:(is:List In)→InsT is→Nat→List PV
 | [],_,_=>[]
 | a::r,x,i=>pkIn a x.1 i::pkIns r x.2 (i + 1)
def inB1:(i:In)→i.T→Nat→List (Nat×BoxC)
 | .pt t,x,i=>(pN i,.cells (clmV (pN i + 1) t x 0))::clmB (pN i + 1) t x 0
 | .pd t,x,i=>[(pN i,.cells (pk t x))]
 | .ow t,x,i=>clmB (wN i) t x 0
 | .mv t,x,i=>clmB (pN i + 1) t x 0
 | _,_,_=>[]
def inB:(is:List In)→InsT is→Nat→List (Nat×BoxC)
 | [],_,_=>[]
 | a::r,x,i=>inB1 a x.1 i ++ inB r x.2 (i + 1)
def lookB:List (Nat×BoxC)→Nat→Option BoxC
 | []=>fun _=>none
 | (i,c)::r=>fun j=>bif Nat.beq j i then some c else lookB r j
def initAS (c:Ctr) (x:InsT c.ins):AS:={ env:=fun j=>(pkIns c.ins x 0).getD j .any,box:=lookB (inB c.ins x 0) }
def rslvN1 (box:Nat→Option BoxC):PV→PV
 | .ms id v=>bif Nat.blt id pBase then rslv1 box (.ms id v) else .any
 | .vw id v sz lo hi=>bif Nat.blt id pBase then rslv1 box (.vw id v sz lo hi) else .any
 | .mn _ _ _ _=>.any
 | .vn _ _ _ _ _ _ _=>.any
 | p=>p
def rslvN (box:Nat→Option BoxC):PV→PV
 | .agg cs=>.agg (cs.map (rslvN1 box))
 | p=>rslvN1 box p
def unOuts (P:Program) (σ:AS):(ts:List Ty)→List ResultVar→Option (TysT ts×List Nat)
 | [],[]=>some ((),[])
 | t::r,v::vs=>match resPV P σ v with
   | some p=>match unV t (rslvN σ.box p) with
     | some x=>match unOuts P σ r vs with
       | some (y,l)=>some ((x,y),rowIds p.cel ++ l)
       | none=>none
     | none=>none
   | none=>none
 | _,_=>none
def unPt1 (σ:AS):(i:In)→Nat→Option (PtT [i]×List Nat)
 | .pd t,i=>match σ.box (pN i) with
   | some (.cells cs)=>match unA t cs with
     | some x=>some ((x,()),[])
     | none=>none
   | _=>none
 | .pt t,i=>match σ.box (pN i) with
   | some (.cells cs)=>match all0 (unM σ.box t cs) with
     | some x=>some ((x,()),rowIds cs)
     | none=>none
   | _=>none
 | .ow t,i=>match unOw σ.box (wN i) t 0 with
   | some x=>some ((x,()),[])
   | none=>none
 | .v _,_=>some ((),[])
 | .rf _,_=>some ((),[])
 | .mv _,_=>some ((),[])
 | .nl,_=>some ((),[])
 | .clo _ _,_=>some ((),[])
where
 unOw (box:Nat→Option BoxC) (base:Nat):(t:Ty)→Nat→Option t.T
  | .pair a b,j=>match unOw box base a j with
    | some x=>match unOw box base b (j + a.nsl) with
      | some y=>some (x,y)
      | none=>none
    | none=>none
  | .sl u,j=>match box (base + j) with
    | some (.row t x none 0 0)=>if h:t.beq u = true then some (castT (Ty.eq_of_beq h) x) else none
    | _=>none
  | t,_=>some t.zero
def ptCons:(i:In)→(r:List In)→PtT [i]→PtT r→PtT (i::r)
 | .pt _,_,x,y=>(x.1,y)
 | .pd _,_,x,y=>(x.1,y)
 | .ow _,_,x,y=>(x.1,y)
 | .v _,_,_,y=>y
 | .rf _,_,_,y=>y
 | .mv _,_,_,y=>y
 | .nl,_,_,y=>y
 | .clo _ _,_,_,y=>y
def unPts (σ:AS):(is:List In)→Nat→Option (PtT is×List Nat)
 | [],_=>some ((),[])
 | a::r,i=>match unPt1 σ a i with
   | some (x,l)=>match unPts σ r (i + 1) with
     | some (y,l')=>some (ptCons a r x y,l ++ l')
     | none=>none
   | none=>none
def unPtr (P:Program) (σ:AS):(ts:List Ty)→List ResultVar→Option (TysT ts)
 | [t],[v]=>match resPV P σ v with
   | some (.bx id 0)=>bif Nat.blt id pBase then (match σ.box id with
     | some (.cells cs)=>match unA t cs with
       | some x=>bif Nat.blt 0 t.size then some (x,()) else none
       | none=>none
     | _=>none) else none
   | _=>none
 | _,_=>none
def slS (box:Nat→Option BoxC) (u:Ty):PV→Option (L u.T)
 | .nils=>some (nilL0 u)
 | .ms r v=>match box r with
   | some (.row t y (some _) hv _)=>if h:t.beq u = true then (bif Nat.beq v hv&&Nat.blt r pBase then some (castT (Ty.eq_of_beq h) y) else none) else none
   | _=>none
 | _=>none
def unS (box:Nat→Option BoxC):(t:Ty)→List PV→Option (t.T×List PV)
 | .int k,.int k' n::r=>if k = k' then some (n,r) else none
 | .bool,.bool b::r=>some (b,r)
 | .str,.str s::r=>some (s,r)
 | .unit,r=>some ((),r)
 | .pair a b,l=>match unS box a l with
   | some (x,r)=>match unS box b r with
     | some (y,r')=>some ((x,y),r')
     | none=>none
   | none=>none
 | .sl u,p::r=>match slS box u p with
   | some y=>some (y,r)
   | none=>none
 | _,_=>none
def unFs (P:Program) (σ:AS) (fr:Nat):(ts:List Ty)→List ResultVar→Option (TysT ts×List Nat)
 | [],[]=>some ((),[])
 | t::r,v::vs=>match resPV P σ v with
   | some p=>if p.isAg == t.isAgg then (match all0 (bif Nat.beq fr 1 then unM σ.box t p.cel else unS σ.box t p.cel) with
     | some x=>match unFs P σ fr r vs with
       | some (y,l)=>some ((x,y),rowIds p.cel ++ l)
       | none=>none
     | none=>none) else none
   | none=>none
 | _,_=>none
def noMv:List In→Bool
 | []=>true
 | .pt t::r=>t.flat&&noMv r
 | .mv _::_=>false
 | _::r=>noMv r
def finK (P:Program) (fn:Func) (c:Ctr) (σ:AS):Option (TysT c.out×PtT c.ins):=match unPts σ c.ins 0 with
 | some (z,lp)=>bif c.ptr then (bif noMv c.ins&&(Nat.beq c.fr 0&&nodupB lp) then (match unPtr P σ c.out fn.results.toList with
    | some y=>some (y,z)
    | none=>none) else none)
   else bif Nat.beq c.fr 0 then (match unOuts P σ c.out fn.results.toList with
    | some (y,l)=>bif (l.isEmpty || noMv c.ins)&&nodupB lp then some (y,z) else none
    | none=>none)
   else (match unFs P σ c.fr c.out fn.results.toList with
    | some (y,l)=>bif frOk c.fr c.out&&(nodupB (l ++ lp)&&(Nat.beq c.fr 1 || noMv c.ins)) then some (y,z) else none
    | none=>none)
 | none=>none
noncomputable def fnK (P:Program) (Γ:TypeId→Option Ty) (T:Tbl) (A:Nat→Option LoopAnn) (fn:Func) (c:Ctr) (x:InsT c.ins):Option (TysT c.out×PtT c.ins) :=
 bif c.ins.all inFit&&Nat.blt c.ins.length 1000 then (match fn.body with
 | some code=>runK P Γ T A code 0 (initAS c x) fun e σ=>match e with
   | .exit _=>none
   | _=>finK P fn c σ
 | none=>none) else none
def loopsIn:Code→Nat→List (Nat×Code)
 | .seq a b,c=>loopsIn a c ++ loopsIn b c
 | .cond _ a b,c=>loopsIn a c ++ loopsIn b c
 | .block id b,_=>loopsIn b id
 | .loop b,c=>(c,b)::loopsIn b c
 | _,_=>[]
def loopCls {sh:Shape} {es:List (XT×Shape)} (e:XT) (σ:AS):Option (sh.T⊕ExT es):=match e with
 | .normal=>match unSh sh σ with
   | some y=>some (.inl y)
   | none=>none
 | .exit i=>match cls es (.exit i) σ with
   | some d=>some (.inr d)
   | none=>none
 | .ret=>match cls es .ret σ with
   | some d=>some (.inr d)
   | none=>none
def LoopOk (P:Program) (Γ:TypeId→Option Ty) (T:Tbl) (A:Nat→Option LoopAnn) (p:Nat×Code):Prop:=match A p.1 with
 | some (.fix sh es step)=>∀ x d,step x = some d→runK P Γ T A p.2 p.1 (pkSh sh x) (loopCls (sh:=sh) (es:=es)) = some d
 | _=>True
def LoopsOk (P:Program) (Γ:TypeId→Option Ty) (T:Tbl) (A:Nat→Option LoopAnn):List (Nat×Code)→Prop
 | []=>True
 | p::r=>LoopOk P Γ T A p ∧ LoopsOk P Γ T A r
end Go.VE
