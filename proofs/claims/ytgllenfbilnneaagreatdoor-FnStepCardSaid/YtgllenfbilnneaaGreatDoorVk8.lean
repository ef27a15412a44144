import Derived.Test.YtgllenfbilnneaaGreatDoorVk7
/- Words for printed texts. -/
namespace Go.VE
def nilL (t:Ty):L t.T:={ len:=0,get:=fun _=>t.zero,nil:=true }
def andOf (k:IntKind) (a b:Int):Int:=k.wrap (BitVec.toNat (BitVec.ofInt k.bits a &&&BitVec.ofInt k.bits b))
def orOf (k:IntKind) (a b:Int):Int:=k.wrap (BitVec.toNat (BitVec.ofInt k.bits a ||| BitVec.ofInt k.bits b))
def xorOf (k:IntKind) (a b:Int):Int:=k.wrap (BitVec.toNat (BitVec.ofInt k.bits a ^^^ BitVec.ofInt k.bits b))
def andNotOf (k:IntKind) (a b:Int):Int:=k.wrap (BitVec.toNat (BitVec.ofInt k.bits a &&&~~~(BitVec.ofInt k.bits b)))
theorem pull1 {α:Type} {c:Bool} {a b:α}:(bif c then some ((a,()),()) else some ((b,()),())) = some ((bif c then a else b,()),()):=by cases c <;> rfl
section
variable {P:Program} {Γ:TypeId→Option Ty} {T:Tbl} {A:Nat→Option LoopAnn}
theorem tblOk_nil:TblOk P []:=fun _ _ _ h=>by simp at h
theorem tblOk_cons {f:Nat} {gs:List Nat} {c:Ctr} {r:Tbl} (h:Holds P f c) (hr:TblOk P r):TblOk P ((f,gs,c)::r):=by
 intro f' gs' c' hm
 rcases List.mem_cons.mp hm with e | hm
 · cases e; exact h
 · exact hr f' gs' c' hm
def eqZ:List Value→List Value→Bool
 | [],[]=>true
 | .int k n::r,.int k' n'::s=>decide (k = k')&&(decide (n = n')&&eqZ r s)
 | .bool b::r,.bool b'::s=>(b == b')&&eqZ r s
 | .string a::r,.string b::s=>Nat.beq a.size 0&&(Nat.beq b.size 0&&eqZ r s)
 | .slice none 0 0::r,.slice none 0 0::s=>eqZ r s
 | _,_=>false
theorem empty_of {a:ByteArray} (h:a.size = 0):a = ByteArray.empty:=by
 cases a with
 | mk d=>
   have:d.size = 0:=h
   rw [Array.eq_empty_of_size_eq_zero this]; rfl
theorem eqZ_eq:∀ {l r:List Value},eqZ l r = true→l = r:=by
 intro l
 induction l with
 | nil=>intro r h; cases r with | nil=>rfl | cons _ _=>simp [eqZ] at h
 | cons a l ih =>
   intro r h
   unfold eqZ at h
   split at h
   · rename_i e; cases e
   · rename_i k n l' k' n' s e
     simp only [Bool.and_eq_true,decide_eq_true_eq] at h
     cases e
     rw [h.1,h.2.1,ih h.2.2]
   · rename_i e
     simp only [Bool.and_eq_true,beq_iff_eq] at h
     cases e
     rw [h.1,ih h.2]
   · rename_i e
     simp only [Bool.and_eq_true] at h
     cases e
     rw [empty_of (Nat.eq_of_beq_eq_true h.1),empty_of (Nat.eq_of_beq_eq_true h.2.1),ih h.2.2]
   · rename_i e
     cases e
     rw [ih h]
   · cases h
def gamB (P:Program) (Γ:TypeId→Option Ty) (e:Nat):Bool:=match Γ e,P.info? e with
 | some ty,some i=>Nat.beq i.size ty.size&&(match i.zero with | some z=>eqZ z.cells.toList ty.zeroV | none=>false)
 | _,_=>false
theorem gamOk_of (l:List Nat) (hl:∀ e ty,Γ e = some ty→e ∈ l) (hc:l.all (gamB P Γ) = true):GamOk P Γ:=by
 intro e ty h
 have:=List.all_eq_true.mp hc e (hl e ty h)
 unfold gamB at this
 rw [h] at this
 cases hi:P.info? e with
 | none=>rw [hi] at this; simp at this
 | some i =>
   rw [hi] at this
   simp only [Bool.and_eq_true] at this
   obtain ⟨h1,h2⟩:=this
   cases hz:i.zero with
   | none=>rw [hz] at h2; simp at h2
   | some z =>
     rw [hz] at h2
     exact ⟨i,z,rfl,Nat.eq_of_beq_eq_true h1,hz,eqZ_eq h2⟩
end
end Go.VE
