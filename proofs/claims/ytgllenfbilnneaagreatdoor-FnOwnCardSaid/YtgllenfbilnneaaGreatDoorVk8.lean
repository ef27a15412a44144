import Derived.Test.YtgllenfbilnneaaGreatDoorVk7
/- Words for printed texts. -/
namespace Go.VE
def bG (t:Ty):L t.T:={ len:=0,get:=fun _=>t.zero,nil:=true }
def bP (k:IntKind) (a b:Int):Int:=k.wrap (BitVec.toNat (BitVec.ofInt k.bits a &&&BitVec.ofInt k.bits b))
def Eu (k:IntKind) (a b:Int):Int:=k.wrap (BitVec.toNat (BitVec.ofInt k.bits a ||| BitVec.ofInt k.bits b))
def Dj (k:IntKind) (a b:Int):Int:=k.wrap (BitVec.toNat (BitVec.ofInt k.bits a ^^^ BitVec.ofInt k.bits b))
def OE (k:IntKind) (a b:Int):Int:=k.wrap (BitVec.toNat (BitVec.ofInt k.bits a &&&~~~(BitVec.ofInt k.bits b)))
theorem bL {α:Type} {c:Bool} {a b:α}:(bif c then some ((a,()),()) else some ((b,()),())) = some ((bif c then a else b,()),()):=by cases c <;> rfl
section
variable {P:Program} {Γ:TypeId→Option Ty} {T:tZ} {A:Nat→Option gJ}
theorem Ml:pJ P []:=fun _ _ _ h=>by simp at h
theorem I5 {f:Nat} {gs:List Nat} {c:sK} {r:tZ} (h:Holds P f c) (hr:pJ P r):pJ P ((f,gs,c)::r):=by
 intro f' gs' c' hm
 rcases List.mem_cons.mp hm with e | hm
 · cases e; exact h
 · exact hr f' gs' c' hm
def UF:List Value→List Value→Bool
 | [],[]=>true
 | .int k n::r,.int k' n'::s=>decide (k = k')&&(decide (n = n')&&UF r s)
 | .bool b::r,.bool b'::s=>(b == b')&&UF r s
 | .string a::r,.string b::s=>Nat.beq a.size 0&&(Nat.beq b.size 0&&UF r s)
 | .slice none 0 0::r,.slice none 0 0::s=>UF r s
 | _,_=>false
theorem F9 {a:ByteArray} (h:a.size = 0):a = ByteArray.empty:=by
 cases a with
 | mk d=>
   have:d.size = 0:=h
   rw [Array.eq_empty_of_size_eq_zero this]; rfl
theorem Wj:∀ {l r:List Value},UF l r = true→l = r:=by
 intro l
 induction l with
 | nil=>intro r h; cases r with | nil=>rfl | cons _ _=>simp [UF] at h
 | cons a l ih =>
   intro r h
   unfold UF at h
   split at h
   · rename_i e; cases e
   · rename_i k n l' k' n' s e
     simp only [Bool.and_eq_true,decide_eq_true_eq] at h
     cases e
     rw [h.1,h.2.1,ih h.2.2]
   · rename_i e
     simp only [Bool.and_eq_true,beq_iff_eq] at h
     cases e
     rw [h.1,ih h.2]
   · rename_i e
     simp only [Bool.and_eq_true] at h
     cases e
     rw [F9 (Nat.eq_of_beq_eq_true h.1),F9 (Nat.eq_of_beq_eq_true h.2.1),ih h.2.2]
   · rename_i e
     cases e
     rw [ih h]
   · cases h
def Zp (P:Program) (Γ:TypeId→Option Ty) (e:Nat):Bool:=match Γ e,P.info? e with
 | some ty,some i=>Nat.beq i.size ty.size&&(match i.zero with | some z=>UF z.cells.toList ty.zeroV | none=>false)
 | _,_=>false
theorem OG (l:List Nat) (hl:∀ e ty,Γ e = some ty→e ∈ l) (hc:l.all (Zp P Γ) = true):sM P Γ:=by
 intro e ty h
 have:=List.all_eq_true.mp hc e (hl e ty h)
 unfold Zp at this
 rw [h] at this
 cases hi:P.info? e with
 | none=>rw [hi] at this; simp at this
 | some i =>
   rw [hi] at this
   simp only [Bool.and_eq_true] at this
   obtain ⟨h1,h2⟩:=this
   cases hz:i.zero with
   | none=>rw [hz] at h2; simp at h2
   | some z =>
     rw [hz] at h2
     exact ⟨i,z,rfl,Nat.eq_of_beq_eq_true h1,hz,Wj h2⟩
end
end Go.VE
