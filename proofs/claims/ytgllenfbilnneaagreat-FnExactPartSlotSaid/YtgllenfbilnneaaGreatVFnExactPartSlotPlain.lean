import Derived.Test.YtgllenfbilnneaaGreatVFnExactPartSlotLaws0
/- More plain laws of what laws.FnExactPartSlot calls. -/
set_option linter.unusedVariables false
set_option linter.unusedSimpArgs false
namespace Go.VE.VFnExactPartSlot
open Go.VE
theorem mk161 (x:L Int) (k0:Int) (h0:0≤k0) (hb:k0≤2305843009213693952) (hn:x.len≤1048576):∃ k' x',g161w x k0 = some ((k',()),(x',())) ∧ x'.len = x.len ∧ k0≤k' ∧ k'≤k0 + 1048576 ∧ g163 x' k0 = some ((k',()),()):=by
  obtain ⟨k',x',h1,h2,h3⟩:=mark_n (step:=s161w_L0) x.len 1 (by omega) (fun a k k'=>a = IntKind.wrap .u32 k ∧ k' = k + 1) (fun i k r=>(((),(k,((i:Int),()))),(r,()))) (fun k r=>.inl ((k,()),(r,()))) x rfl k0 h0
    (fun i k r hi hr hg k1 k2=>by
      have hl:i < r.len:=by omega
      refine ⟨k + 1,L.set r i (IntKind.wrap .u32 k),?_,hr,fun j hj=>set_ne_get _ _ hj,⟨by rw [set_eq_get],rfl⟩,by omega,by omega⟩
      simp only [s161w_L0,q161w_L0]
      rw [bif_t (idx_lt hl),bif_t (idx_in hl),wI_succ hl (by omega),wI_id (n:=k + 1) (by omega) (by omega),Int.toNat_natCast])
    (fun k r hr=>by
      simp only [s161w_L0,q161w_L0]
      rw [bif_f (by rw [hr]; exact idx_end _)])
  have hle:=h3.le
  refine ⟨k',x',?_,h2,hle.1,by omega,?_⟩
  · unfold g161w
    have h1':fixO s161w_L0 (((),(k0,((0:Int),()))),(x,())) = _:=h1
    rw [h1']; rfl
  · have h4:=held_n (step:=s163_L0) (x:=x') x.len 1 (fun a k k'=>a = IntKind.wrap .u32 k ∧ k' = k + 1) (fun i k=>((x',(k,((i:Int),()))),())) (fun k=>.inr (.inl ((k,()),()))) h3
      (fun i k k1 hi he q1 q2 q3 q4=>by
        have hl:i < x'.len:=by omega
        obtain ⟨e1,rfl⟩:=he
        simp only [s163_L0,q163_L0]
        rw [bif_t (idx_lt hl),bif_t (idx_in hl),Int.toNat_natCast,e1,bif_f (by simp),wI_succ hl (by omega),wI_id (n:=k + 1) (by omega) (by omega)])
      (fun k=>by
        simp only [s163_L0,q163_L0]
        rw [bif_f (by rw [h2]; exact idx_end _)])
    have h4':fixO s163_L0 ((x',(k0,((0:Int),()))),()) = _:=h4
    unfold g163
    rw [h4']; rfl


theorem mk76 (x:L Int) (k0:Int) (h0:0≤k0) (hb:k0≤2305843009213693952) (hn:x.len≤1048576):∃ k' x',g76w x k0 = some ((k',()),(x',())) ∧ x'.len = x.len ∧ k0≤k' ∧ k'≤k0 + 1048576 ∧ g166 x' k0 = some ((k',()),()):=by
  obtain ⟨k',x',h1,h2,h3⟩:=mark_n (step:=s76w_L0) x.len 1 (by omega) (fun a k k'=>a = IntKind.wrap .u8 k ∧ k' = k + 1) (fun i k r=>(((),(k,((i:Int),()))),(r,()))) (fun k r=>.inl ((k,()),(r,()))) x rfl k0 h0
    (fun i k r hi hr hg k1 k2=>by
      have hl:i < r.len:=by omega
      refine ⟨k + 1,L.set r i (IntKind.wrap .u8 k),?_,hr,fun j hj=>set_ne_get _ _ hj,⟨by rw [set_eq_get],rfl⟩,by omega,by omega⟩
      simp only [s76w_L0,q76w_L0]
      rw [bif_t (idx_lt hl),bif_t (idx_in hl),wI_succ hl (by omega),wI_id (n:=k + 1) (by omega) (by omega),Int.toNat_natCast])
    (fun k r hr=>by
      simp only [s76w_L0,q76w_L0]
      rw [bif_f (by rw [hr]; exact idx_end _)])
  have hle:=h3.le
  refine ⟨k',x',?_,h2,hle.1,by omega,?_⟩
  · unfold g76w
    have h1':fixO s76w_L0 (((),(k0,((0:Int),()))),(x,())) = _:=h1
    rw [h1']; rfl
  · have h4:=held_n (step:=s166_L0) (x:=x') x.len 1 (fun a k k'=>a = IntKind.wrap .u8 k ∧ k' = k + 1) (fun i k=>((x',(k,((i:Int),()))),())) (fun k=>.inr (.inl ((k,()),()))) h3
      (fun i k k1 hi he q1 q2 q3 q4=>by
        have hl:i < x'.len:=by omega
        obtain ⟨e1,rfl⟩:=he
        simp only [s166_L0,q166_L0]
        rw [bif_t (idx_lt hl),bif_t (idx_in hl),Int.toNat_natCast,e1,bif_f (by simp),wI_succ hl (by omega),wI_id (n:=k + 1) (by omega) (by omega)])
      (fun k=>by
        simp only [s166_L0,q166_L0]
        rw [bif_f (by rw [h2]; exact idx_end _)])
    have h4':fixO s166_L0 ((x',(k0,((0:Int),()))),()) = _:=h4
    unfold g166
    rw [h4']; rfl


theorem mk73 (x:L Int) (k0:Int) (h0:0≤k0) (hb:k0≤2305843009213693952) (hn:x.len≤1048576):∃ k' x',g73w x k0 = some ((k',()),(x',())) ∧ x'.len = x.len ∧ k0≤k' ∧ k'≤k0 + 1048576 ∧ g165 x' k0 = some ((k',()),()):=by
  obtain ⟨k',x',h1,h2,h3⟩:=mark_n (step:=s73w_L0) x.len 1 (by omega) (fun a k k'=>a = k ∧ k' = k + 1) (fun i k r=>(((),(k,((i:Int),()))),(r,()))) (fun k r=>.inl ((k,()),(r,()))) x rfl k0 h0
    (fun i k r hi hr hg k1 k2=>by
      have hl:i < r.len:=by omega
      refine ⟨k + 1,L.set r i (k),?_,hr,fun j hj=>set_ne_get _ _ hj,⟨by rw [set_eq_get],rfl⟩,by omega,by omega⟩
      simp only [s73w_L0,q73w_L0]
      rw [bif_t (idx_lt hl),bif_t (idx_in hl),wI_succ hl (by omega),wI_id (n:=k + 1) (by omega) (by omega),Int.toNat_natCast])
    (fun k r hr=>by
      simp only [s73w_L0,q73w_L0]
      rw [bif_f (by rw [hr]; exact idx_end _)])
  have hle:=h3.le
  refine ⟨k',x',?_,h2,hle.1,by omega,?_⟩
  · unfold g73w
    have h1':fixO s73w_L0 (((),(k0,((0:Int),()))),(x,())) = _:=h1
    rw [h1']; rfl
  · have h4:=held_n (step:=s165_L0) (x:=x') x.len 1 (fun a k k'=>a = k ∧ k' = k + 1) (fun i k=>((x',(k,((i:Int),()))),())) (fun k=>.inr (.inl ((k,()),()))) h3
      (fun i k k1 hi he q1 q2 q3 q4=>by
        have hl:i < x'.len:=by omega
        obtain ⟨e1,rfl⟩:=he
        simp only [s165_L0,q165_L0]
        rw [bif_t (idx_lt hl),bif_t (idx_in hl),Int.toNat_natCast,e1,bif_f (by simp),wI_succ hl (by omega),wI_id (n:=k + 1) (by omega) (by omega)])
      (fun k=>by
        simp only [s165_L0,q165_L0]
        rw [bif_f (by rw [h2]; exact idx_end _)])
    have h4':fixO s165_L0 ((x',(k0,((0:Int),()))),()) = _:=h4
    unfold g165
    rw [h4']; rfl


theorem mk245 (x:L Wy) (k0:Int) (h0:0≤k0) (hb:k0≤2305843009213693952) (hn:x.len≤1048576) (hw:∀ i,i < x.len→True):∃ k' x',g245w x k0 = some ((k',()),(x',())) ∧ x'.len = x.len ∧ k0≤k' ∧ k'≤k0 + 2097152 ∧ g246 x' k0 = some ((k',()),()):=by
  obtain ⟨k',x',h1,h2,h3⟩:=mark_n (step:=s245w_L0) x.len 2 (by omega) (fun a k k'=>a.1 = k ∧ a.2.1 = ((Int.tmod (k + 1) (3:Int)) == (0:Int)) ∧ k' = k + 2) (fun i k r=>(((),(k,((i:Int),()))),(r,()))) (fun k r=>.inl ((k,()),(r,()))) x rfl k0 h0
    (fun i k r hi hr hg k1 k2=>by
      have hl:i < r.len:=by omega
      have hwi:=hw i hi
      try rw [← hg] at hwi
      refine ⟨k + 2,L.upd r i (fun e=>(k,(((Int.tmod (k + 1) (3:Int)) == (0:Int)),()))),?_,hr,fun j hj=>upd_ne_get _ _ hj,⟨by rw [upd_eq_get],by rw [upd_eq_get],rfl⟩,by omega,by omega⟩
      simp only [s245w_L0,q245w_L0]
      rw [Int.toNat_natCast]
      refine (bif_t (idx_lt hl)).trans ((bif_t (idx_in hl)).trans ((bif_t (idx_in hl)).trans ?_))
      rw [wI_succ hl (by omega),wI_id (n:=k + 1) (by omega) (by omega),wI_id (n:=k + 1 + 1) (by omega) (by omega),upd_twice,show k + 1 + 1 = k + 2 by omega])
    (fun k r hr=>by
      simp only [s245w_L0,q245w_L0]
      rw [bif_f (by rw [hr]; exact idx_end _)])
  have hle:=h3.le
  refine ⟨k',x',?_,h2,hle.1,by omega,?_⟩
  · unfold g245w
    have h1':fixO s245w_L0 (((),(k0,((0:Int),()))),(x,())) = _:=h1
    rw [h1']; rfl
  · have h4:=held_n (step:=s246_L0) (x:=x') x.len 2 (fun a k k'=>a.1 = k ∧ a.2.1 = ((Int.tmod (k + 1) (3:Int)) == (0:Int)) ∧ k' = k + 2) (fun i k=>((x',(k,((i:Int),()))),())) (fun k=>.inr (.inl ((k,()),()))) h3
      (fun i k k1 hi he q1 q2 q3 q4=>by
        have hl:i < x'.len:=by omega
        obtain ⟨e1,e2,rfl⟩:=he
        simp only [s246_L0,q246_L0]
        rw [bif_t (idx_lt hl),bif_t (idx_in hl),Int.toNat_natCast,e1,bif_f (by simp),bif_t (idx_in hl),wI_id (n:=k + 1) (by omega) (by omega),e2,bif_f (by simp),wI_succ hl (by omega),wI_id (n:=k + 1 + 1) (by omega) (by omega),show k + 1 + 1 = k + 2 by omega])
      (fun k=>by
        simp only [s246_L0,q246_L0]
        rw [bif_f (by rw [h2]; exact idx_end _)])
    have h4':fixO s246_L0 ((x',(k0,((0:Int),()))),()) = _:=h4
    unfold g246
    rw [h4']; rfl


theorem mk19 (x:L (L Int)) (k0:Int) (h0:0≤k0) (hb:k0≤1152921504606846976) (hn:x.len≤1048576) (hw:∀ i,i < x.len→(x.get i).len≤1048576):∃ k' x',g19w x k0 = some ((k',()),(x',())) ∧ x'.len = x.len ∧ k0≤k' ∧ k'≤k0 + 1099511627776 ∧ g86 x' k0 = some ((k',()),()):=by
  obtain ⟨k',x',h1,h2,h3⟩:=mark_n (step:=s19w_L0) x.len 1048576 (by omega) (fun a k k'=>g166 a k = some ((k',()),()) ∧ 0≤k') (fun i k r=>(((),(k,((i:Int),()))),(r,()))) (fun k r=>.inl ((k,()),(r,()))) x rfl k0 h0
    (fun i k r hi hr hg k1 k2=>by
      have hl:i < r.len:=by omega
      have hwi:=hw i hi
      try rw [← hg] at hwi
      obtain ⟨k',x1,p1,p2,p3,p4,p5⟩:=mk76 (r.get i) k (by omega) (by omega) hwi
      refine ⟨k',L.upd r i (fun e=>x1),?_,hr,fun j hj=>upd_ne_get _ _ hj,⟨by rw [upd_eq_get]; exact p5,by omega⟩,p3,by omega⟩
      simp only [s19w_L0,q19w_L0]
      rw [bif_t (idx_lt hl),bif_t (idx_in hl),Int.toNat_natCast,p1,wI_succ hl (by omega)]
      rfl)
    (fun k r hr=>by
      simp only [s19w_L0,q19w_L0]
      rw [bif_f (by rw [hr]; exact idx_end _)])
  have hle:=h3.le
  refine ⟨k',x',?_,h2,hle.1,by omega,?_⟩
  · unfold g19w
    have h1':fixO s19w_L0 (((),(k0,((0:Int),()))),(x,())) = _:=h1
    rw [h1']; rfl
  · have h4:=held_n (step:=s86_L0) (x:=x') x.len 1048576 (fun a k k'=>g166 a k = some ((k',()),()) ∧ 0≤k') (fun i k=>((x',(k,((i:Int),()))),())) (fun k=>.inr (.inl ((k,()),()))) h3
      (fun i k k1 hi he q1 q2 q3 q4=>by
        have hl:i < x'.len:=by omega
        obtain ⟨e1,e2⟩:=he
        simp only [s86_L0,q86_L0]
        rw [bif_t (idx_lt hl),bif_t (idx_in hl),Int.toNat_natCast,e1]
        simp only [Option.bind_some]
        rw [bif_f (by simpa using e2),wI_succ hl (by omega)])
      (fun k=>by
        simp only [s86_L0,q86_L0]
        rw [bif_f (by rw [h2]; exact idx_end _)])
    have h4':fixO s86_L0 ((x',(k0,((0:Int),()))),()) = _:=h4
    unfold g86
    rw [h4']; rfl


theorem mk162 (x:L (L Wy)) (k0:Int) (h0:0≤k0) (hb:k0≤1152921504606846976) (hn:x.len≤1048576) (hw:∀ i,i < x.len→(x.get i).len≤1048576):∃ k' x',g162w x k0 = some ((k',()),(x',())) ∧ x'.len = x.len ∧ k0≤k' ∧ k'≤k0 + 2199023255552 ∧ g164 x' k0 = some ((k',()),()):=by
  obtain ⟨k',x',h1,h2,h3⟩:=mark_n (step:=s162w_L0) x.len 2097152 (by omega) (fun a k k'=>g246 a k = some ((k',()),()) ∧ 0≤k') (fun i k r=>(((),(k,((i:Int),()))),(r,()))) (fun k r=>.inl ((k,()),(r,()))) x rfl k0 h0
    (fun i k r hi hr hg k1 k2=>by
      have hl:i < r.len:=by omega
      have hwi:=hw i hi
      try rw [← hg] at hwi
      obtain ⟨k',x1,p1,p2,p3,p4,p5⟩:=mk245 (r.get i) k (by omega) (by omega) hwi (fun _ _=>trivial)
      refine ⟨k',L.upd r i (fun e=>x1),?_,hr,fun j hj=>upd_ne_get _ _ hj,⟨by rw [upd_eq_get]; exact p5,by omega⟩,p3,by omega⟩
      simp only [s162w_L0,q162w_L0]
      rw [bif_t (idx_lt hl),bif_t (idx_in hl),Int.toNat_natCast,p1,wI_succ hl (by omega)]
      rfl)
    (fun k r hr=>by
      simp only [s162w_L0,q162w_L0]
      rw [bif_f (by rw [hr]; exact idx_end _)])
  have hle:=h3.le
  refine ⟨k',x',?_,h2,hle.1,by omega,?_⟩
  · unfold g162w
    have h1':fixO s162w_L0 (((),(k0,((0:Int),()))),(x,())) = _:=h1
    rw [h1']; rfl
  · have h4:=held_n (step:=s164_L0) (x:=x') x.len 2097152 (fun a k k'=>g246 a k = some ((k',()),()) ∧ 0≤k') (fun i k=>((x',(k,((i:Int),()))),())) (fun k=>.inr (.inl ((k,()),()))) h3
      (fun i k k1 hi he q1 q2 q3 q4=>by
        have hl:i < x'.len:=by omega
        obtain ⟨e1,e2⟩:=he
        simp only [s164_L0,q164_L0]
        rw [bif_t (idx_lt hl),bif_t (idx_in hl),Int.toNat_natCast,e1]
        simp only [Option.bind_some]
        rw [bif_f (by simpa using e2),wI_succ hl (by omega)])
      (fun k=>by
        simp only [s164_L0,q164_L0]
        rw [bif_f (by rw [h2]; exact idx_end _)])
    have h4':fixO s164_L0 ((x',(k0,((0:Int),()))),()) = _:=h4
    unfold g164
    rw [h4']; rfl


theorem mk80 (x:L Oe) (k0:Int) (h0:0≤k0) (hb:k0≤1152921504606846976) (hn:x.len≤1048576) (hw:∀ i,i < x.len→(x.get i).2.1.len≤1048576):∃ k' x',g80w x k0 = some ((k',()),(x',())) ∧ x'.len = x.len ∧ k0≤k' ∧ k'≤k0 + 2199023255552 ∧ g87 x' k0 = some ((k',()),()):=by
  obtain ⟨k',x',h1,h2,h3⟩:=mark_n (step:=s80w_L0) x.len 1048577 (by omega) (fun a k k'=>a.1 = k ∧ g163 a.2.1 (k + 1) = some ((k',()),()) ∧ 0≤k') (fun i k r=>(((),(k,((i:Int),()))),(r,()))) (fun k r=>.inl ((k,()),(r,()))) x rfl k0 h0
    (fun i k r hi hr hg k1 k2=>by
      have hl:i < r.len:=by omega
      have hwi:=hw i hi
      try rw [← hg] at hwi
      obtain ⟨k',x1,p1,p2,p3,p4,p5⟩:=mk161 (r.get i).2.1 (k + 1) (by omega) (by omega) hwi
      refine ⟨k',L.upd r i (fun e=>(k,(x1,e.2.2))),?_,hr,fun j hj=>upd_ne_get _ _ hj,⟨by rw [upd_eq_get],by rw [upd_eq_get]; exact p5,by omega⟩,by omega,by omega⟩
      simp only [s80w_L0,q80w_L0]
      rw [Int.toNat_natCast]
      refine (bif_t (idx_lt hl)).trans ((bif_t (idx_in hl)).trans ((bif_t (idx_in hl)).trans ?_))
      rw [wI_id (n:=k + 1) (by omega) (by omega),upd_eq_get,p1,wI_succ hl (by omega)]
      simp only [Option.bind_some,upd_twice])
    (fun k r hr=>by
      simp only [s80w_L0,q80w_L0]
      rw [bif_f (by rw [hr]; exact idx_end _)])
  have hle:=h3.le
  refine ⟨k',x',?_,h2,hle.1,by omega,?_⟩
  · unfold g80w
    have h1':fixO s80w_L0 (((),(k0,((0:Int),()))),(x,())) = _:=h1
    rw [h1']; rfl
  · have h4:=held_n (step:=s87_L0) (x:=x') x.len 1048577 (fun a k k'=>a.1 = k ∧ g163 a.2.1 (k + 1) = some ((k',()),()) ∧ 0≤k') (fun i k=>((x',(k,((i:Int),()))),())) (fun k=>.inr (.inl ((k,()),()))) h3
      (fun i k k1 hi he q1 q2 q3 q4=>by
        have hl:i < x'.len:=by omega
        obtain ⟨e1,e2,e3⟩:=he
        simp only [s87_L0,q87_L0]
        rw [bif_t (idx_lt hl),bif_t (idx_in hl),Int.toNat_natCast,e1,bif_f (by simp),bif_t (idx_in hl),wI_id (n:=k + 1) (by omega) (by omega),e2]
        simp only [Option.bind_some]
        rw [bif_f (by simpa using e3),wI_succ hl (by omega)])
      (fun k=>by
        simp only [s87_L0,q87_L0]
        rw [bif_f (by rw [h2]; exact idx_end _)])
    have h4':fixO s87_L0 ((x',(k0,((0:Int),()))),()) = _:=h4
    unfold g87
    rw [h4']; rfl


theorem mk81 (x:L Ie) (k0:Int) (h0:0≤k0) (hb:k0≤1152921504606846976) (hn:x.len≤1048576) (hw:∀ i,i < x.len→(x.get i).1.len≤1048576):∃ k' x',g81w x k0 = some ((k',()),(x',())) ∧ x'.len = x.len ∧ k0≤k' ∧ k'≤k0 + 2199023255552 ∧ g88 x' k0 = some ((k',()),()):=by
  obtain ⟨k',x',h1,h2,h3⟩:=mark_n (step:=s81w_L0) x.len 1048576 (by omega) (fun a k k'=>g163 a.1 k = some ((k',()),()) ∧ 0≤k') (fun i k r=>(((),(k,((i:Int),()))),(r,()))) (fun k r=>.inl ((k,()),(r,()))) x rfl k0 h0
    (fun i k r hi hr hg k1 k2=>by
      have hl:i < r.len:=by omega
      have hwi:=hw i hi
      try rw [← hg] at hwi
      obtain ⟨k',x1,p1,p2,p3,p4,p5⟩:=mk161 (r.get i).1 k (by omega) (by omega) hwi
      refine ⟨k',L.upd r i (fun e=>(x1,e.2)),?_,hr,fun j hj=>upd_ne_get _ _ hj,⟨by rw [upd_eq_get]; exact p5,by omega⟩,by omega,by omega⟩
      simp only [s81w_L0,q81w_L0]
      rw [bif_t (idx_lt hl),bif_t (idx_in hl),Int.toNat_natCast,p1,wI_succ hl (by omega)]
      rfl)
    (fun k r hr=>by
      simp only [s81w_L0,q81w_L0]
      rw [bif_f (by rw [hr]; exact idx_end _)])
  have hle:=h3.le
  refine ⟨k',x',?_,h2,hle.1,by omega,?_⟩
  · unfold g81w
    have h1':fixO s81w_L0 (((),(k0,((0:Int),()))),(x,())) = _:=h1
    rw [h1']; rfl
  · have h4:=held_n (step:=s88_L0) (x:=x') x.len 1048576 (fun a k k'=>g163 a.1 k = some ((k',()),()) ∧ 0≤k') (fun i k=>((x',(k,((i:Int),()))),())) (fun k=>.inr (.inl ((k,()),()))) h3
      (fun i k k1 hi he q1 q2 q3 q4=>by
        have hl:i < x'.len:=by omega
        obtain ⟨e2,e3⟩:=he
        simp only [s88_L0,q88_L0]
        rw [bif_t (idx_lt hl),bif_t (idx_in hl),Int.toNat_natCast,e2]
        simp only [Option.bind_some]
        rw [bif_f (by simpa using e3),wI_succ hl (by omega)])
      (fun k=>by
        simp only [s88_L0,q88_L0]
        rw [bif_f (by rw [h2]; exact idx_end _)])
    have h4':fixO s88_L0 ((x',(k0,((0:Int),()))),()) = _:=h4
    unfold g88
    rw [h4']; rfl


theorem mk82 (x:L De) (k0:Int) (h0:0≤k0) (hb:k0≤1152921504606846976) (hn:x.len≤1048576) (hw:∀ i,i < x.len→(x.get i).1.len≤1048576 ∧ (x.get i).2.1.len≤1048576):∃ k' x',g82w x k0 = some ((k',()),(x',())) ∧ x'.len = x.len ∧ k0≤k' ∧ k'≤k0 + 2199023255552 ∧ g89 x' k0 = some ((k',()),()):=by
  obtain ⟨k',x',h1,h2,h3⟩:=mark_n (step:=s82w_L0) x.len 2097152 (by omega) (fun a k k'=>∃ m,g163 a.1 k = some ((m,()),()) ∧ 0≤m ∧ g163 a.2.1 m = some ((k',()),()) ∧ 0≤k') (fun i k r=>(((),(k,((i:Int),()))),(r,()))) (fun k r=>.inl ((k,()),(r,()))) x rfl k0 h0
    (fun i k r hi hr hg k1 k2=>by
      have hl:i < r.len:=by omega
      have hwi:=hw i hi
      try rw [← hg] at hwi
      obtain ⟨m,x1,p1,p2,p3,p4,p5⟩:=mk161 (r.get i).1 k (by omega) (by omega) hwi.1
      obtain ⟨k',x2,r1,r2,r3,r4,r5⟩:=mk161 (r.get i).2.1 m (by omega) (by omega) hwi.2
      refine ⟨k',L.upd r i (fun e=>(x1,(x2,e.2.2))),?_,hr,fun j hj=>upd_ne_get _ _ hj,⟨m,by rw [upd_eq_get]; exact p5,by omega,by rw [upd_eq_get]; exact r5,by omega⟩,by omega,by omega⟩
      simp only [s82w_L0,q82w_L0]
      rw [Int.toNat_natCast]
      refine (bif_t (idx_lt hl)).trans ((bif_t (idx_in hl)).trans ?_)
      rw [p1]
      refine (bif_t (idx_in hl)).trans ?_
      rw [upd_eq_get,r1,wI_succ hl (by omega)]
      simp only [Option.bind_some,upd_twice])
    (fun k r hr=>by
      simp only [s82w_L0,q82w_L0]
      rw [bif_f (by rw [hr]; exact idx_end _)])
  have hle:=h3.le
  refine ⟨k',x',?_,h2,hle.1,by omega,?_⟩
  · unfold g82w
    have h1':fixO s82w_L0 (((),(k0,((0:Int),()))),(x,())) = _:=h1
    rw [h1']; rfl
  · have h4:=held_n (step:=s89_L0) (x:=x') x.len 2097152 (fun a k k'=>∃ m,g163 a.1 k = some ((m,()),()) ∧ 0≤m ∧ g163 a.2.1 m = some ((k',()),()) ∧ 0≤k') (fun i k=>((x',(k,((i:Int),()))),())) (fun k=>.inr (.inl ((k,()),()))) h3
      (fun i k k1 hi he q1 q2 q3 q4=>by
        have hl:i < x'.len:=by omega
        obtain ⟨m,e1,e2,e3,e4⟩:=he
        simp only [s89_L0,q89_L0]
        rw [bif_t (idx_lt hl),bif_t (idx_in hl),Int.toNat_natCast,e1]
        simp only [Option.bind_some]
        rw [bif_f (by simpa using e2),bif_t (idx_in hl),e3]
        simp only [Option.bind_some]
        rw [bif_f (by simpa using e4),wI_succ hl (by omega)])
      (fun k=>by
        simp only [s89_L0,q89_L0]
        rw [bif_f (by rw [h2]; exact idx_end _)])
    have h4':fixO s89_L0 ((x',(k0,((0:Int),()))),()) = _:=h4
    unfold g89
    rw [h4']; rfl


theorem mkState (s:St) (k0:Int) (h0:0≤k0) (hk0:k0≤4398046511104) (h:BndS s 1048576):∃ k s',g20w s k0 = some ((k,()),(s',())) ∧ 0≤k ∧ ∀ s2:St,s2.1.1 = s'.1.1→s2.1.2.2.1 = s'.1.2.2.1→s2.2.2.2.1.2.1 = s'.2.2.2.1.2.1→s2.2.2.2.2.1.2.1 = s'.2.2.2.2.1.2.1→sBoot s2 = sBoot s'→sOuts s2 = sOuts s'→sIns s2 = sIns s'→sDevs s2 = sDevs s'→g21 s2 k0 = some ((k,()),()):=by
  obtain ⟨h1,⟨h2,h2'⟩,⟨h3,h3'⟩,h4,⟨h5,h5'⟩,⟨h6,h6'⟩,⟨h7,h7'⟩,h8,h8'⟩:=h
  obtain ⟨k1,x1,a1,a2,a3,a4,a5⟩:=mk161 s.1.1 k0 (by omega) (by omega) h1
  obtain ⟨k2,x2,b1,b2,b3,b4,b5⟩:=mk19 s.1.2.2.1 k1 (by omega) (by omega) h2 h2'
  obtain ⟨k3,x3,c1,c2,c3,c4,c5⟩:=mk162 s.2.2.2.1.2.1 k2 (by omega) (by omega) h3 h3'
  obtain ⟨k4,x4,d1,d2,d3,d4,d5⟩:=mk73 s.2.2.2.2.1.2.1 k3 (by omega) (by omega) h4
  obtain ⟨k5,x5,e1,e2,e3,e4,e5⟩:=mk19 (sBoot s) k4 (by omega) (by omega) h5 h5'
  obtain ⟨k6,x6,f1,f2,f3,f4,f5⟩:=mk80 (sOuts s) k5 (by omega) (by omega) h6 h6'
  obtain ⟨k7,x7,i1,i2,i3,i4,i5⟩:=mk81 (sIns s) k6 (by omega) (by omega) h7 h7'
  obtain ⟨k8,x8,j1,j2,j3,j4,j5⟩:=mk82 (sDevs s) k7 (by omega) (by omega) h8 h8'
  have z:∀ {k:Int},0≤k→decide (k < 0) = false:=fun h=>by simpa using h
  refine ⟨k8,((x1,((Ty.zero (.int .u32)),(x2,(Ty.zero .unit)))),(((Ty.zero .bool),((Ty.zero (.int .u32)),((Ty.zero (.int .u32)),((Ty.zero (.int .u32)),((Ty.zero (.int .u32)),((Ty.zero .bool),((Ty.zero .bool),((Ty.zero (.int .u32)),(Ty.zero .unit))))))))),(((Ty.zero (.int .i64)),((Ty.zero (.int .i64)),((Ty.zero (.int .i64)),((Ty.zero .bool),(Ty.zero .unit))))),((((Ty.zero (.int .i64)),((Ty.zero (.int .i64)),((Ty.zero (.int .i64)),(Ty.zero .unit)))),(x3,(Ty.zero .unit))),(((Ty.zero (.int .i64)),(x4,(Ty.zero .unit))),((Ty.zero (.int .i64)),((Ty.zero .bool),(x5,(x6,(x7,(x8,(Ty.zero .unit)))))))))))),?_,by omega,?_⟩
  rotate_left
  · intro s2 q1 q2 q3 q4 q5 q6 q7 q8
    unfold g21 g83 g84 g85
    rw [q1]
    show (Option.bind (Option.bind (g163 x1 k0) _) _) = _
    rw [a5]
    simp only [Option.bind_some]
    rw [bif_f (z (by omega)),q2]
    show (Option.bind (Option.bind (g86 x2 k1) _) _) = _
    rw [b5]
    simp only [Option.bind_some]
    rw [bif_f (z (by omega))]
    simp only [Option.bind_some]
    rw [bif_f (z (by omega)),q3]
    show (Option.bind (Option.bind (g164 x3 k2) _) _) = _
    rw [c5]
    simp only [Option.bind_some]
    rw [bif_f (z (by omega))]
    simp only [Option.bind_some]
    rw [bif_f (z (by omega)),q4]
    show (Option.bind (Option.bind (g165 x4 k3) _) _) = _
    rw [d5]
    simp only [Option.bind_some]
    rw [bif_f (z (by omega))]
    simp only [Option.bind_some]
    rw [bif_f (z (by omega))]
    show (Option.bind (g86 (sBoot s2) k4) _) = _
    rw [q5]
    show (Option.bind (g86 x5 k4) _) = _
    rw [e5]
    simp only [Option.bind_some]
    rw [bif_f (z (by omega))]
    show (Option.bind (g87 (sOuts s2) k5) _) = _
    rw [q6]
    show (Option.bind (g87 x6 k5) _) = _
    rw [f5]
    simp only [Option.bind_some]
    rw [bif_f (z (by omega))]
    show (Option.bind (g88 (sIns s2) k6) _) = _
    rw [q7]
    show (Option.bind (g88 x7 k6) _) = _
    rw [i5]
    simp only [Option.bind_some]
    rw [bif_f (z (by omega))]
    show (Option.bind (g89 (sDevs s2) k7) _) = _
    rw [q8]
    show (Option.bind (g89 x8 k7) _) = _
    rw [j5]
    simp only [Option.bind_some]
    rw [bif_f (z (by omega))]
  · unfold g20w g77w g78w g79w
    show (Option.bind (Option.bind (g161w s.1.1 k0) _) _) = _
    rw [a1,Option.bind_some]
    show (Option.bind (Option.bind (g19w s.1.2.2.1 k1) _) _) = _
    rw [b1,Option.bind_some,Option.bind_some]
    show (Option.bind (Option.bind (g162w s.2.2.2.1.2.1 k2) _) _) = _
    rw [c1,Option.bind_some,Option.bind_some]
    show (Option.bind (Option.bind (g73w s.2.2.2.2.1.2.1 k3) _) _) = _
    rw [d1,Option.bind_some,Option.bind_some]
    show (Option.bind (g19w (sBoot s) k4) _) = _
    rw [e1,Option.bind_some]
    show (Option.bind (g80w (sOuts s) k5) _) = _
    rw [f1,Option.bind_some]
    show (Option.bind (g81w (sIns s) k6) _) = _
    rw [i1,Option.bind_some]
    show (Option.bind (g82w (sDevs s) k7) _) = _
    rw [j1,Option.bind_some]



theorem get_upd_eq {α:Type} (x:L α) (i:Nat) (f:α→α):(L.upd x i f).get i = f (x.get i):=by simp [L.upd,L.set]
theorem get_upd_ne {α:Type} (x:L α) {i j:Nat} (f:α→α) (h:j ≠ i):(L.upd x i f).get j = x.get j:=by
  simp only [L.upd,L.set]
  cases hb:Nat.beq j i with
  | true=>exact absurd (Nat.eq_of_beq_eq_true hb) h
  | false=>rfl
theorem mark_loop {α D:Type} {step:((Unit×(Int×(Int×Unit)))×(L α×Unit))→Option (((Unit×(Int×(Int×Unit)))×(L α×Unit))⊕D)} {n:Nat} (c:Int) (ok:Nat→α→Prop) (fin:Int→L α→D) (k0:Int) (hc:0≤c) (h0:0≤k0) (hb:k0 + c * n≤4611686018427387904)
    (hs:∀ (i:Nat) (k:Int) (r:L α),i < n→r.len = n→k0≤k→k≤k0 + c * i→ok i (r.get i)→∃ k' f,step (((),(k,((i:Int),()))),(r,())) = some (.inl (((),(k',(((i + 1:Nat):Int),()))),(L.upd r i f,()))) ∧ k≤k' ∧ k'≤k + c)
    (he:∀ (k:Int) (r:L α),r.len = n→step (((),(k,((n:Int),()))),(r,())) = some (.inr (fin k r)))
    {x:L α} (hx:x.len = n) (hok:∀ i,i < n→ok i (x.get i)) :
    ∃ k' x',fixO step (((),(k0,((0:Int),()))),(x,())) = some (fin k' x') ∧ k0≤k' ∧ k'≤k0 + c * n ∧ x'.len = n:=by
  obtain ⟨d,h1,k',x',rfl,h2,h3,h4⟩:=fixO_rel (step:=step) (fun y=>n - y.1.2.2.1.toNat)
    (fun y=>∃ (i:Nat) (k:Int) (r:L α),y = (((),(k,((i:Int),()))),(r,())) ∧ i≤n ∧ r.len = n ∧ k0≤k ∧ k≤k0 + c * i ∧ ∀ j,i≤j→j < n→ok j (r.get j))
    (fun _ d=>∃ k' x',d = fin k' x' ∧ k0≤k' ∧ k'≤k0 + c * n ∧ x'.len = n) (by
      rintro _ ⟨i,k,r,rfl,hi,hr,k1,k2,ho⟩
      by_cases h:i < n
      · left
        obtain ⟨k',f,e1,e2,e3⟩:=hs i k r h hr k1 k2 (ho i (Nat.le_refl _) h)
        refine ⟨_,e1,⟨i + 1,k',_,rfl,h,hr,by omega,?_,fun j j1 j2=>?_⟩,by simp only; omega,fun _ hd=>hd⟩
        · have:c * ((i + 1:Nat):Int) = c * i + c:=by rw [Int.natCast_add,Int.mul_add]; simp
          omega
        · rw [get_upd_ne _ _ (by omega)]
          exact ho j (by omega) j2
      · right
        obtain rfl:i = n:=by omega
        exact ⟨_,he k r hr,k,r,rfl,k1,k2,hr⟩) (((),(k0,((0:Int),()))),(x,())) ⟨0,k0,x,rfl,Nat.zero_le _,hx,Int.le_refl _,by simp,fun j _ hj=>hok j hj⟩
  exact ⟨k',x',h1,h2,h3,h4⟩

theorem strOf1 (b:Int):(strOfL (L.of (Ty.zero (.int .u8)) [b])).size = 1:=rfl

theorem markText (k:Int) (h0:0≤k) (hb:k≤4611686018427387904):∃ s,g159 k = some ((s,()),()):=by
  unfold g159
  by_cases hz:k≤0
  · exact ⟨_,bif_t (by simpa using hz)⟩
  · rw [bif_f (by simpa using hz)]
    obtain ⟨d,e1,s,rfl,hs⟩:=fixO_rel (step:=s159_L0) (fun y=>y.1.1.toNat)
      (fun y=>∃ (m:Int) (s:ByteArray),y = ((m,(s,())),()) ∧ 0≤m ∧ (s.size:Int) + m≤k)
      (fun _ d=>∃ s,d = .inl ((s,()),()) ∧ (s.size:Int)≤k) (by
        rintro _ ⟨m,s,rfl,m0,hm⟩
        simp only [s159_L0,q159_L0]
        by_cases h:m > 0
        · left
          have hd:Int.tdiv m 10 = m / 10:=Int.tdiv_eq_ediv_of_nonneg m0
          rw [bif_t (by simpa using h),bif_t (by rw [strOf1]; exact Nat.ble_eq_true_of_le (by omega)),hd,wI_id (by omega) (by omega)]
          refine ⟨_,rfl,⟨m / 10,_,rfl,by omega,?_⟩,by simp only; omega,fun _ hd=>hd⟩
          rw [ByteArray.size_append,strOf1]
          omega
        · right
          rw [bif_f (by simpa using h)]
          exact ⟨_,rfl,s,rfl,by omega⟩) ((k,((⟨#[]⟩:ByteArray),())),()) ⟨k,_,rfl,h0,by simp [ByteArray.size]⟩
    rw [e1]
    simp only [Option.bind_some]
    exact ⟨_,bif_t (Nat.ble_eq_true_of_le (by show 1 + s.size≤_; omega))⟩

theorem upd_upd {α:Type} (x:L α) (i:Nat) (f g:α→α):L.upd (L.upd x i f) i g = L.upd x i (fun e=>g (f e)):=by
  simp only [L.upd,L.set]
  congr 1
  funext j
  cases hb:Nat.beq j i with
  | true=>simp
  | false=>rfl

theorem markWin (x:L Sl) (k0:Int) (h0:0≤k0) (hb:k0 + 3 * x.len≤4611686018427387904) (hn:x.len≤2 ^ 47):∃ k' x',g160w x k0 = some ((k',()),(x',())) ∧ k0≤k' ∧ k'≤k0 + 3 * x.len ∧ x'.len = x.len:=by
  unfold g160w
  obtain ⟨k',x',h1,h2,h3,h4⟩:=mark_loop (step:=s160w_L0) (n:=x.len) 3 (fun _ _=>True) (fun k r=>.inl ((k,()),(r,()))) k0 (by omega) h0 hb
    (fun i k r hi hr k1 k2 _=>by
      have hl:i < r.len:=by omega
      have e:s160w_L0 (((),(k,((i:Int),()))),(r,())) = some (.inl (((),(k + 1 + 1 + 1,(((i + 1:Nat):Int),()))),(L.upd r i (fun e=>(k,(k + 1,(k + 1 + 1,())))),()))):=by
        simp only [s160w_L0,q160w_L0]
        rw [Int.toNat_natCast]
        refine (bif_t (idx_lt hl)).trans ((bif_t (idx_in hl)).trans ((bif_t (idx_in hl)).trans ((bif_t (idx_in hl)).trans ?_)))
        rw [wI_succ hi hn,wI_id (n:=k + 1) (by omega) (by omega),wI_id (n:=k + 1 + 1) (by omega) (by omega),wI_id (n:=k + 1 + 1 + 1) (by omega) (by omega),upd_upd,upd_upd]
      exact ⟨_,_,e,by omega,by omega⟩)
    (fun k r hr=>by
      have:decide ((x.len:Int) < (r.len:Int)) = false:=by rw [hr]; exact idx_end _
      simp only [s160w_L0,q160w_L0]
      rw [bif_f this]) rfl (fun _ _=>trivial)
  rw [h1]
  exact ⟨k',x',rfl,h2,h3,h4⟩
theorem markSlot (x:L Sl) (k0:Int) (h0:0≤k0) (hb:k0 + 3 * x.len≤4611686018427387904) (hn:x.len≤2 ^ 47):∃ k' x',g75w x k0 = some ((k',()),(x',())) ∧ k0≤k' ∧ k'≤k0 + 3 * x.len ∧ x'.len = x.len:=by
  unfold g75w
  obtain ⟨k',x',h1,h2,h3,h4⟩:=mark_loop (step:=s75w_L0) (n:=x.len) 3 (fun _ _=>True) (fun k r=>.inl ((k,()),(r,()))) k0 (by omega) h0 hb
    (fun i k r hi hr k1 k2 _=>by
      have hl:i < r.len:=by omega
      have e:s75w_L0 (((),(k,((i:Int),()))),(r,())) = some (.inl (((),(k + 1 + 1 + 1,(((i + 1:Nat):Int),()))),(L.upd r i (fun e=>(k,(k + 1,(k + 1 + 1,())))),()))):=by
        simp only [s75w_L0,q75w_L0]
        rw [Int.toNat_natCast]
        refine (bif_t (idx_lt hl)).trans ((bif_t (idx_in hl)).trans ((bif_t (idx_in hl)).trans ((bif_t (idx_in hl)).trans ?_)))
        rw [wI_succ hi hn,wI_id (n:=k + 1) (by omega) (by omega),wI_id (n:=k + 1 + 1) (by omega) (by omega),wI_id (n:=k + 1 + 1 + 1) (by omega) (by omega),upd_upd,upd_upd]
      exact ⟨_,_,e,by omega,by omega⟩)
    (fun k r hr=>by
      have:decide ((x.len:Int) < (r.len:Int)) = false:=by rw [hr]; exact idx_end _
      simp only [s75w_L0,q75w_L0]
      rw [bif_f this]) rfl (fun _ _=>trivial)
  rw [h1]
  exact ⟨k',x',rfl,h2,h3,h4⟩
theorem markChan (x:L Ch) (k0:Int) (h0:0≤k0) (hb:k0 + 4 * x.len≤4611686018427387904) (hn:x.len≤2 ^ 47):∃ k' x',g74w x k0 = some ((k',()),(x',())) ∧ k0≤k' ∧ k'≤k0 + 4 * x.len ∧ x'.len = x.len:=by
  unfold g74w
  obtain ⟨k',x',h1,h2,h3,h4⟩:=mark_loop (step:=s74w_L0) (n:=x.len) 4 (fun _ _=>True) (fun k r=>.inl ((k,()),(r,()))) k0 (by omega) h0 hb
    (fun i k r hi hr k1 k2 _=>by
      have hl:i < r.len:=by omega
      have e:s74w_L0 (((),(k,((i:Int),()))),(r,())) = some (.inl (((),(k + 1 + 1 + 1 + 1,(((i + 1:Nat):Int),()))),(L.upd r i (fun e=>(k,(k + 1,(k + 1 + 1,(k + 1 + 1 + 1,()))))),()))):=by
        simp only [s74w_L0,q74w_L0]
        rw [Int.toNat_natCast]
        refine (bif_t (idx_lt hl)).trans ((bif_t (idx_in hl)).trans ((bif_t (idx_in hl)).trans ((bif_t (idx_in hl)).trans ((bif_t (idx_in hl)).trans ?_))))
        rw [wI_succ hi hn,wI_id (n:=k + 1) (by omega) (by omega),wI_id (n:=k + 1 + 1) (by omega) (by omega),wI_id (n:=k + 1 + 1 + 1) (by omega) (by omega),wI_id (n:=k + 1 + 1 + 1 + 1) (by omega) (by omega),upd_upd,upd_upd,upd_upd]
      exact ⟨_,_,e,by omega,by omega⟩)
    (fun k r hr=>by
      have:decide ((x.len:Int) < (r.len:Int)) = false:=by rw [hr]; exact idx_end _
      simp only [s74w_L0,q74w_L0]
      rw [bif_f this]) rfl (fun _ _=>trivial)
  rw [h1]
  exact ⟨k',x',rfl,h2,h3,h4⟩
theorem markPart (x:L PR) (k0:Int) (h0:0≤k0) (hb:k0 + 3145732 * x.len≤4611686018427387904) (hn:x.len≤2 ^ 47) (hw:∀ i,i < x.len→(x.get i).2.2.2.1.len≤1048576) :
    ∃ k' x',g72w x k0 = some ((k',()),(x',())) ∧ k0≤k' ∧ k'≤k0 + 3145732 * x.len ∧ x'.len = x.len:=by
  unfold g72w
  obtain ⟨k',x',h1,h2,h3,h4⟩:=mark_loop (step:=s72w_L0) (n:=x.len) 3145732 (fun _ (e:PR)=>e.2.2.2.1.len≤1048576) (fun k r=>.inl ((k,()),(r,()))) k0 (by omega) h0 hb
    (fun i k r hi hr k1 k2 ho=>by
      have hl:i < r.len:=by omega
      have h47:(2:Nat) ^ 47 = 140737488355328:=by decide
      obtain ⟨s,hs⟩:=markText k (by omega) (by omega)
      obtain ⟨k',w',e1,e2,e3,_⟩:=markWin (r.get i).2.2.2.1 (k + 1 + 1 + 1 + 1) (by omega) (by omega) (by rw [h47]; omega)
      have e:s72w_L0 (((),(k,((i:Int),()))),(r,())) = some (.inl (((),(k',(((i + 1:Nat):Int),()))),(L.upd r i (fun e=>(s,(k + 1,((k + 1 + 1,(k + 1 + 1 + 1,())),(w',e.2.2.2.2))))),()))):=by
        simp only [s72w_L0,q72w_L0]
        rw [Int.toNat_natCast]
        refine (bif_t (idx_lt hl)).trans ?_
        rw [hs]
        refine (bif_t (idx_in hl)).trans ((bif_t (idx_in hl)).trans ((bif_t (idx_in hl)).trans ((bif_t (idx_in hl)).trans ((bif_t (idx_in hl)).trans ?_))))
        rw [wI_succ hi hn,wI_id (n:=k + 1) (by omega) (by omega),wI_id (n:=k + 1 + 1) (by omega) (by omega),wI_id (n:=k + 1 + 1 + 1) (by omega) (by omega),wI_id (n:=k + 1 + 1 + 1 + 1) (by omega) (by omega),upd_upd,upd_upd,upd_upd,get_upd_eq,e1]
        simp only [Option.bind_some,upd_upd]
      exact ⟨_,_,e,by omega,by omega⟩)
    (fun k r hr=>by
      have:decide ((x.len:Int) < (r.len:Int)) = false:=by rw [hr]; exact idx_end _
      simp only [s72w_L0,q72w_L0]
      rw [bif_f this]) rfl hw
  rw [h1]
  exact ⟨k',x',rfl,h2,h3,h4⟩


theorem mkTables (r:Tb) (h:Bnd r):∃ k z,g18w r 1 = some ((k,()),z) ∧ 0≤k ∧ k≤4398046511104:=by
  obtain ⟨b1,b2,b3,b4,b5⟩:=h
  have h47:(2:Nat) ^ 47 = 140737488355328:=by decide
  obtain ⟨k1,x1,p1,p2,p3,_⟩:=markPart (tParts r) 1 (by omega) (by omega) (by omega) (fun i hi=>(b5 i hi).2)
  obtain ⟨k2,x2,q1,q2,q3,q4,_⟩:=mk73 (tDevs r) k1 (by omega) (by omega) b2
  obtain ⟨k3,x3,p5,p6,p7,_⟩:=markChan (tChans r) k2 (by omega) (by omega) (by omega)
  obtain ⟨k4,x4,p8,p9,p10,_⟩:=markSlot (tSlots r) k3 (by omega) (by omega) (by omega)
  unfold g18w
  have p1':g72w r.2.2.2.2.2.2.2.1 1 = some ((k1,()),(x1,())):=p1
  have q1':g73w r.2.2.2.2.2.2.2.2.1 k1 = some ((k2,()),(x2,())):=q1
  have p5':g74w r.2.2.2.2.2.2.2.2.2.1 k2 = some ((k3,()),(x3,())):=p5
  have p8':g75w r.2.2.2.2.2.2.2.2.2.2.1 k3 = some ((k4,()),(x4,())):=p8
  rw [p1',Option.bind_some,q1',Option.bind_some,p5',Option.bind_some,p8',Option.bind_some]
  exact ⟨k4,_,rfl,by omega,by omega⟩


def SmL {α:Type} (x y:L α):Prop:=x.len = y.len ∧ ∀ i,i < x.len→x.get i = y.get i
def SmR {α:Type} (R:α→α→Prop) (x y:L α):Prop:=x.len = y.len ∧ ∀ i,i < x.len→R (x.get i) (y.get i)
theorem SmL.refl {α:Type} (x:L α):SmL x x:=⟨rfl,fun _ _=>rfl⟩
theorem SmL.symm {α:Type} {x y:L α} (h:SmL x y):SmL y x:=⟨h.1.symm,fun i hi=>(h.2 i (by rw [h.1]; exact hi)).symm⟩
theorem SmL.trans {α:Type} {x y z:L α} (h:SmL x y) (k:SmL y z):SmL x z:=⟨h.1.trans k.1,fun i hi=>(h.2 i hi).trans (k.2 i (by rw [← h.1]; exact hi))⟩
theorem SmR.refl {α:Type} {R:α→α→Prop} (hR:∀ a,R a a) (x:L α):SmR R x x:=⟨rfl,fun _ _=>hR _⟩
theorem SmR.symm {α:Type} {R:α→α→Prop} (hR:∀ a b,R a b→R b a) {x y:L α} (h:SmR R x y):SmR R y x:=⟨h.1.symm,fun i hi=>hR _ _ (h.2 i (by rw [h.1]; exact hi))⟩
theorem SmR.trans {α:Type} {R:α→α→Prop} (hR:∀ a b c,R a b→R b c→R a c) {x y z:L α} (h:SmR R x y) (k:SmR R y z):SmR R x z:=⟨h.1.trans k.1,fun i hi=>hR _ _ _ (h.2 i hi) (k.2 i (by rw [← h.1]; exact hi))⟩
def SmO (a b:Oe):Prop:=a.1 = b.1 ∧ SmL a.2.1 b.2.1
def SmI (a b:Ie):Prop:=SmL a.1 b.1
def SmD (a b:De):Prop:=SmL a.1 b.1 ∧ SmL a.2.1 b.2.1
theorem SmO.symm {a b:Oe} (h:SmO a b):SmO b a:=⟨h.1.symm,h.2.symm⟩
theorem SmI.symm {a b:Ie} (h:SmI a b):SmI b a:=SmL.symm h
theorem SmD.symm {a b:De} (h:SmD a b):SmD b a:=⟨h.1.symm,h.2.symm⟩
theorem SmO.trans {a b c:Oe} (h:SmO a b) (k:SmO b c):SmO a c:=⟨h.1.trans k.1,h.2.trans k.2⟩
theorem SmI.trans {a b c:Ie} (h:SmI a b) (k:SmI b c):SmI a c:=SmL.trans h k
theorem SmD.trans {a b c:De} (h:SmD a b) (k:SmD b c):SmD a c:=⟨h.1.trans k.1,h.2.trans k.2⟩
def SmG (a b:Gu):Prop:=SmL a.1 b.1 ∧ a.2.1 = b.2.1 ∧ SmR SmL a.2.2.1 b.2.2.1
def SmC (a b:Ca):Prop:=a.1 = b.1 ∧ SmR SmL a.2.1 b.2.1
def SmT (a b:Tl):Prop:=a.1 = b.1 ∧ SmL a.2.1 b.2.1
structure SmS (a b:St):Prop where
  gu:SmG a.1 b.1
  vi:a.2.1 = b.2.1
  he:a.2.2.1 = b.2.2.1
  ca:SmC a.2.2.2.1 b.2.2.2.1
  tl:SmT a.2.2.2.2.1 b.2.2.2.2.1
  nx:a.2.2.2.2.2.1 = b.2.2.2.2.2.1
  id:a.2.2.2.2.2.2.1 = b.2.2.2.2.2.2.1
  bo:SmR SmL (sBoot a) (sBoot b)
  ou:SmR SmO (sOuts a) (sOuts b)
  is:SmR SmI (sIns a) (sIns b)
  de:SmR SmD (sDevs a) (sDevs b)
theorem SmG.refl (a:Gu):SmG a a:=⟨SmL.refl _,rfl,SmR.refl SmL.refl _⟩
theorem SmS.refl (a:St):SmS a a:=⟨SmG.refl _,rfl,rfl,⟨rfl,SmR.refl SmL.refl _⟩,⟨rfl,SmL.refl _⟩,rfl,rfl,SmR.refl SmL.refl _,SmR.refl (fun _=>⟨rfl,SmL.refl _⟩) _,SmR.refl (R:=SmI) (fun _=>SmL.refl _) _,SmR.refl (fun _=>⟨SmL.refl _,SmL.refl _⟩) _⟩
theorem SmG.symm {a b:Gu} (h:SmG a b):SmG b a:=⟨h.1.symm,h.2.1.symm,h.2.2.symm (fun _ _=>SmL.symm)⟩
theorem SmG.trans {a b c:Gu} (h:SmG a b) (k:SmG b c):SmG a c:=⟨h.1.trans k.1,h.2.1.trans k.2.1,SmR.trans (R:=SmL) (fun _ _ _=>SmL.trans) h.2.2 k.2.2⟩
theorem SmS.symm {a b:St} (h:SmS a b):SmS b a:=⟨h.gu.symm,h.vi.symm,h.he.symm,⟨h.ca.1.symm,h.ca.2.symm (fun _ _=>SmL.symm)⟩,⟨h.tl.1.symm,h.tl.2.symm⟩,h.nx.symm,h.id.symm,h.bo.symm (fun _ _=>SmL.symm),h.ou.symm (fun _ _=>SmO.symm),h.is.symm (fun _ _=>SmI.symm),h.de.symm (fun _ _=>SmD.symm)⟩
theorem SmS.trans {a b c:St} (h:SmS a b) (k:SmS b c):SmS a c:=⟨h.gu.trans k.gu,h.vi.trans k.vi,h.he.trans k.he,⟨h.ca.1.trans k.ca.1,SmR.trans (R:=SmL) (fun _ _ _=>SmL.trans) h.ca.2 k.ca.2⟩,⟨h.tl.1.trans k.tl.1,h.tl.2.trans k.tl.2⟩,h.nx.trans k.nx,h.id.trans k.id,SmR.trans (R:=SmL) (fun _ _ _=>SmL.trans) h.bo k.bo,SmR.trans (R:=SmO) (fun _ _ _=>SmO.trans) h.ou k.ou,SmR.trans (R:=SmI) (fun _ _ _=>SmI.trans) h.is k.is,SmR.trans (R:=SmD) (fun _ _ _=>SmD.trans) h.de k.de⟩

theorem eqI151 {x y:L Int} (h:SmL x y) (hl:x.len≤1048576):g151 x y = some ((true,()),()):=by
  have h1:=eq_loop (step:=s151_L0) (x:=x) (y:=y) (fun i hi=>by
    have hy:i < y.len:=by rw [← h.1]; exact hi
    simp only [s151_L0,q151_L0]
    rw [bif_t (idx_lt hi),bif_t (idx_in hi),bif_t (idx_in hy),Int.toNat_natCast,bif_f (by rw [h.2 i hi]; simp),wI_succ hi (by omega)]) (by
    simp only [s151_L0,q151_L0]
    rw [bif_f (idx_end _)])
  unfold g151
  rw [bif_f (by rw [h.1]; simp),h1]
  rfl

theorem eqI71 {x y:L Int} (h:SmL x y) (hl:x.len≤1048576):g71 x y = some ((true,()),()):=by
  have h1:=eq_loop (step:=s71_L0) (x:=x) (y:=y) (fun i hi=>by
    have hy:i < y.len:=by rw [← h.1]; exact hi
    simp only [s71_L0,q71_L0]
    rw [bif_t (idx_lt hi),bif_t (idx_in hi),bif_t (idx_in hy),Int.toNat_natCast,bif_f (by rw [h.2 i hi]; simp),wI_succ hi (by omega)]) (by
    simp only [s71_L0,q71_L0]
    rw [bif_f (idx_end _)])
  unfold g71
  rw [bif_f (by rw [h.1]; simp),h1]
  rfl

theorem eqI68 {x y:L Int} (h:SmL x y) (hl:x.len≤1048576):g68 x y = some ((true,()),()):=by
  have h1:=eq_loop (step:=s68_L0) (x:=x) (y:=y) (fun i hi=>by
    have hy:i < y.len:=by rw [← h.1]; exact hi
    simp only [s68_L0,q68_L0]
    rw [bif_t (idx_lt hi),bif_t (idx_in hi),bif_t (idx_in hy),Int.toNat_natCast,bif_f (by rw [h.2 i hi]; simp),wI_succ hi (by omega)]) (by
    simp only [s68_L0,q68_L0]
    rw [bif_f (idx_end _)])
  unfold g68
  rw [bif_f (by rw [h.1]; simp),h1]
  rfl

theorem eqR17 {x y:L (L Int)} (h:SmR SmL x y) (hl:x.len≤1048576) (hw:∀ i,i < x.len→(x.get i).len≤1048576):g17 x y = some ((true,()),()):=by
  have h1:=eq_loop (step:=s17_L0) (x:=x) (y:=y) (fun i hi=>by
    have hy:i < y.len:=by rw [← h.1]; exact hi
    have hr:=h.2 i hi
    simp only [s17_L0,q17_L0]
    rw [bif_t (idx_lt hi),bif_t (idx_in hi),bif_t (idx_in hy),Int.toNat_natCast,eqI71 hr (hw i hi),wI_succ hi (by omega)]
    rfl) (by
    simp only [s17_L0,q17_L0]
    rw [bif_f (idx_end _)])
  unfold g17
  rw [bif_f (by rw [h.1]; simp),h1]
  rfl

theorem eqR242 {x y:L Wy} (h:SmR (· = ·) x y) (hl:x.len≤1048576):g242 x y = some ((true,()),()):=by
  have h1:=eq_loop (step:=s242_L0) (x:=x) (y:=y) (fun i hi=>by
    have hy:i < y.len:=by rw [← h.1]; exact hi
    have hr:=h.2 i hi
    have hf:f306 (x.get i) (y.get i) = true:=by
      have hr:x.get i = y.get i:=hr
      rw [hr]; simp [f306]
    simp only [s242_L0,q242_L0]
    rw [bif_t (idx_lt hi),bif_t (idx_in hi),bif_t (idx_in hy),Int.toNat_natCast,hf,wI_succ hi (by omega)]
    rfl) (by
    simp only [s242_L0,q242_L0]
    rw [bif_f (idx_end _)])
  unfold g242
  rw [bif_f (by rw [h.1]; simp),h1]
  rfl

theorem eqR152 {x y:L (L Wy)} (h:SmR SmL x y) (hl:x.len≤1048576) (hw:∀ i,i < x.len→(x.get i).len≤1048576):g152 x y = some ((true,()),()):=by
  have h1:=eq_loop (step:=s152_L0) (x:=x) (y:=y) (fun i hi=>by
    have hy:i < y.len:=by rw [← h.1]; exact hi
    have hr:=h.2 i hi
    simp only [s152_L0,q152_L0]
    rw [bif_t (idx_lt hi),bif_t (idx_in hi),bif_t (idx_in hy),Int.toNat_natCast,eqR242 (show SmR (· = ·) _ _ from hr) (hw i hi),wI_succ hi (by omega)]
    rfl) (by
    simp only [s152_L0,q152_L0]
    rw [bif_f (idx_end _)])
  unfold g152
  rw [bif_f (by rw [h.1]; simp),h1]
  rfl

theorem eqR62 {x y:L Oe} (h:SmR SmO x y) (hl:x.len≤1048576) (hw:∀ i,i < x.len→(x.get i).2.1.len≤1048576):g62 x y = some ((true,()),()):=by
  have h1:=eq_loop (step:=s62_L0) (x:=x) (y:=y) (fun i hi=>by
    have hy:i < y.len:=by rw [← h.1]; exact hi
    have hr:=h.2 i hi
    have hf:g153 (x.get i) (y.get i) = some ((true,()),()):=by
      unfold g153
      rw [bif_f (by rw [hr.1]; simp),eqI151 hr.2 (hw i hi)]; rfl
    simp only [s62_L0,q62_L0]
    rw [bif_t (idx_lt hi),bif_t (idx_in hi),bif_t (idx_in hy),Int.toNat_natCast,hf,wI_succ hi (by omega)]
    rfl) (by
    simp only [s62_L0,q62_L0]
    rw [bif_f (idx_end _)])
  unfold g62
  rw [bif_f (by rw [h.1]; simp),h1]
  rfl

theorem eqR63 {x y:L Ie} (h:SmR SmI x y) (hl:x.len≤1048576) (hw:∀ i,i < x.len→(x.get i).1.len≤1048576):g63 x y = some ((true,()),()):=by
  have h1:=eq_loop (step:=s63_L0) (x:=x) (y:=y) (fun i hi=>by
    have hy:i < y.len:=by rw [← h.1]; exact hi
    have hr:=h.2 i hi
    have hf:g154 (x.get i) (y.get i) = some ((true,()),()):=by
      unfold g154
      rw [eqI151 hr (hw i hi)]; rfl
    simp only [s63_L0,q63_L0]
    rw [bif_t (idx_lt hi),bif_t (idx_in hi),bif_t (idx_in hy),Int.toNat_natCast,hf,wI_succ hi (by omega)]
    rfl) (by
    simp only [s63_L0,q63_L0]
    rw [bif_f (idx_end _)])
  unfold g63
  rw [bif_f (by rw [h.1]; simp),h1]
  rfl

theorem eqR64 {x y:L De} (h:SmR SmD x y) (hl:x.len≤1048576) (hw:∀ i,i < x.len→(x.get i).1.len≤1048576 ∧ (x.get i).2.1.len≤1048576):g64 x y = some ((true,()),()):=by
  have h1:=eq_loop (step:=s64_L0) (x:=x) (y:=y) (fun i hi=>by
    have hy:i < y.len:=by rw [← h.1]; exact hi
    have hr:=h.2 i hi
    have hf:g155 (x.get i) (y.get i) = some ((true,()),()):=by
      unfold g155
      rw [eqI151 hr.1 (hw i hi).1,eqI151 hr.2 (hw i hi).2]; rfl
    simp only [s64_L0,q64_L0]
    rw [bif_t (idx_lt hi),bif_t (idx_in hi),bif_t (idx_in hy),Int.toNat_natCast,hf,wI_succ hi (by omega)]
    rfl) (by
    simp only [s64_L0,q64_L0]
    rw [bif_f (idx_end _)])
  unfold g64
  rw [bif_f (by rw [h.1]; simp),h1]
  rfl


theorem eqState {a b:St} (h:SmS a b) (hb:BndS a 1048576):g15 a b = some ((true,()),()):=by
  obtain ⟨h1,⟨h2,h2'⟩,⟨h3,h3'⟩,h4,⟨h5,h5'⟩,⟨h6,h6'⟩,⟨h7,h7'⟩,h8,h8'⟩:=hb
  have a1:=eqI151 h.gu.1 h1
  have b1:=eqR17 h.gu.2.2 h2 h2'
  have c1:=eqR152 h.ca.2 h3 h3'
  have d1:=eqI68 h.tl.2 h4
  have e1:g17 a.2.2.2.2.2.2.2.1 b.2.2.2.2.2.2.2.1 = some ((true,()),()):=eqR17 h.bo h5 h5'
  have f1:g62 a.2.2.2.2.2.2.2.2.1 b.2.2.2.2.2.2.2.2.1 = some ((true,()),()):=eqR62 h.ou h6 h6'
  have g1:g63 a.2.2.2.2.2.2.2.2.2.1 b.2.2.2.2.2.2.2.2.2.1 = some ((true,()),()):=eqR63 h.is h7 h7'
  have k1:g64 a.2.2.2.2.2.2.2.2.2.2.1 b.2.2.2.2.2.2.2.2.2.2.1 = some ((true,()),()):=eqR64 h.de h8 h8'
  have v1:f58 a.2.1 b.2.1 = true:=by rw [h.vi]; simp [f58]
  have v2:f59 a.2.2.1 b.2.2.1 = true:=by rw [h.he]; simp [f59]
  have v3:f65 a.2.2.2.1.1 b.2.2.2.1.1 = true:=by rw [h.ca.1]; simp [f65]
  unfold g15 g57 g60 g61
  rw [a1,b1,c1,d1,e1,f1,g1,k1,v1,v2,v3,h.gu.2.1,h.tl.1,h.nx,h.id]
  simp
theorem BndS.same {a b:St} {m:Nat} (h:SmS a b) (hb:BndS a m):BndS b m:=by
  obtain ⟨h1,⟨h2,h2'⟩,⟨h3,h3'⟩,h4,⟨h5,h5'⟩,⟨h6,h6'⟩,⟨h7,h7'⟩,h8,h8'⟩:=hb
  refine ⟨by rw [← h.gu.1.1]; exact h1,⟨by rw [← h.gu.2.2.1]; exact h2,fun i hi=>?_⟩,⟨by rw [← h.ca.2.1]; exact h3,fun i hi=>?_⟩,by rw [← h.tl.2.1]; exact h4,⟨by rw [← h.bo.1]; exact h5,fun i hi=>?_⟩,⟨by rw [← h.ou.1]; exact h6,fun i hi=>?_⟩,⟨by rw [← h.is.1]; exact h7,fun i hi=>?_⟩,by rw [← h.de.1]; exact h8,fun i hi=>?_⟩
  · have hi':i < a.1.2.2.1.len:=by rw [h.gu.2.2.1]; exact hi
    rw [← (h.gu.2.2.2 i hi').1]; exact h2' i hi'
  · have hi':i < a.2.2.2.1.2.1.len:=by rw [h.ca.2.1]; exact hi
    rw [← (h.ca.2.2 i hi').1]; exact h3' i hi'
  · have hi':i < (sBoot a).len:=by rw [h.bo.1]; exact hi
    rw [← (h.bo.2 i hi').1]; exact h5' i hi'
  · have hi':i < (sOuts a).len:=by rw [h.ou.1]; exact hi
    rw [← (h.ou.2 i hi').2.1]; exact h6' i hi'
  · have hi':i < (sIns a).len:=by rw [h.is.1]; exact hi
    rw [← (h.is.2 i hi').1]; exact h7' i hi'
  · have hi':i < (sDevs a).len:=by rw [h.de.1]; exact hi
    rw [← (h.de.2 i hi').1.1,← (h.de.2 i hi').2.1]; exact h8' i hi'



theorem bind_of {α β σ:Type} {o:Option α} {F:α→Option β} {g:σ→β} {P:σ→Prop} (h:∃ a,o = some a ∧ ∃ s,F a = some (g s) ∧ P s):∃ s,o.bind F = some (g s) ∧ P s:=by
  obtain ⟨a,rfl,s,h1,h2⟩:=h
  exact ⟨s,h1,h2⟩
theorem snoc_lt {α:Type} (r:L α) (d q:α) {j:Nat} (h:j < r.len):(L.app r (L.of d [q])).get j = r.get j:=app_get_lt h
theorem snoc_at {α:Type} (r:L α) (d q:α) {i:Nat} (h:r.len = i):(L.app r (L.of d [q])).get i = q:=by
  subst h
  exact app_get_ge (x:=r) (y:=L.of d [q]) (i:=0)
theorem snoc_fit {α:Type} (r:L α) (d q:α) (h:r.len≤1048576):decide (r.len + (L.of d [q]).len≤most) = true:=decide_eq_true (by show r.len + 1≤4294967296; omega)
theorem app0 {α:Type} (d:α) (y:L α):SmL (L.app (L.of d []) y) y:=by
  refine ⟨Nat.zero_add _,fun i hi=>?_⟩
  have:=app_get_ge (x:=L.of d []) (y:=y) (i:=i)
  rwa [show (L.of d ([]:List α)).len + i = i from Nat.zero_add i] at this
theorem app0_fit {α:Type} (d:α) (y:L α) (h:y.len≤1048576):decide ((L.of d []).len + y.len≤most) = true:=decide_eq_true (by show 0 + y.len≤4294967296; omega)

theorem snoc_n {X D β:Type} {step:X→Option (X⊕D)} (n:Nat) (hn:n≤1048576) (st:Nat→L β→X) (fin:L β→D) (d:β) (R:Nat→β→Prop)
    (hs:∀ i r,i < n→r.len = i→∃ q,step (st i r) = some (.inl (st (i + 1) (L.app r (L.of d [q])))) ∧ R i q)
    (he:∀ r,r.len = n→step (st n r) = some (.inr (fin r))) {r0:L β} (h0:r0.len = 0) :
    ∃ r,fixO step (st 0 r0) = some (fin r) ∧ r.len = n ∧ ∀ i,i < n→R i (r.get i) :=
  build_n n st fin R (fun i r hi hr=>by
    obtain ⟨q,h1,h2⟩:=hs i r hi hr
    exact ⟨_,h1,by show r.len + 1 = _; omega,fun j hj=>snoc_lt _ _ _ (by omega),by rw [snoc_at _ _ _ hr]; exact h2⟩) he h0

theorem ram130 (x:Im) (hl:x.len≤1048576) (hw:∀ i,i < x.len→(x.get i).len≤1048576):∃ r:Im,g130r x = some ((r,()),()) ∧ SmR SmL r x:=by
  obtain ⟨r,h1,h2,h3⟩:=snoc_n (step:=s130r_L0) x.len hl (fun i r=>((x,((),((i:Int),()))),(r,()))) (fun r=>.inl (((),()),(r,()))) (Ty.zero (.sl (.int .u8))) (fun i q=>SmL q (x.get i))
    (fun i r hi hr=>⟨L.app (L.of (Ty.zero (.int .u8)) []) (x.get i),by
      simp only [s130r_L0,q130r_L0]
      rw [bif_t (idx_lt hi),bif_t (idx_in hi),Int.toNat_natCast,bif_t (app0_fit _ _ (hw i hi)),bif_t (snoc_fit _ _ _ (by omega)),wI_succ hi (by omega)],app0 _ _⟩)
    (fun r hr=>by
      simp only [s130r_L0,q130r_L0]
      rw [bif_f (idx_end _)]) (r0:=L.of (Ty.zero (.sl (.int .u8))) []) rfl
  refine ⟨r,?_,h2,fun i hi=>h3 i (by omega)⟩
  unfold g130r
  have h1':fixO s130r_L0 ((x,((),((0:Int),()))),((L.of (Ty.zero (.sl (.int .u8))) []),())) = _:=h1
  rw [h1']; rfl

theorem clone241 (x:L Int) (h:x.len≤1048576) (hn:x.nil = true→x.len = 0):∃ r,g241r x = some ((r,()),()) ∧ SmL r x ∧ (r.nil = true→r.len = 0):=by
  unfold g241r
  cases hx:x.nil with
  | true=>exact ⟨_,rfl,⟨by rw [hn hx]; rfl,fun i hi=>absurd hi (Nat.not_lt_zero i)⟩,fun _=>rfl⟩
  | false=>exact ⟨_,(bif_f rfl).trans (bif_t (app0_fit _ _ h)),app0 _ _,fun h=>by cases h⟩

theorem bytes150n (x:Im) (hl:x.len≤1048576) (hw:∀ i,i < x.len→(x.get i).len≤1048576) (hn:∀ i,i < x.len→(x.get i).nil = true→(x.get i).len = 0):∃ r:Im,g150r x = some ((r,()),()) ∧ SmR SmL r x ∧ ∀ i,i < r.len→(r.get i).nil = true→(r.get i).len = 0:=by
  obtain ⟨r,h1,h2,h3⟩:=snoc_n (step:=s150r_L0) x.len hl (fun i r=>((r,(x,((x.len:Int),((i:Int),())))),())) (fun r=>.inl (((),()),(r,()))) (Ty.zero (.sl (.int .u8))) (fun i q=>SmL q (x.get i) ∧ (q.nil = true→q.len = 0))
    (fun i r hi hr=>by
      obtain ⟨q,q1,q2⟩:=clone241 (x.get i) (hw i hi) (hn i hi)
      refine ⟨q,?_,q2⟩
      simp only [s150r_L0,q150r_L0]
      rw [bif_t (idx_lt hi),bif_t (idx_in hi),Int.toNat_natCast,q1]
      simp only [Option.bind_some]
      rw [bif_t (snoc_fit _ _ _ (by omega)),wI_succ hi (by omega)])
    (fun r hr=>by
      simp only [s150r_L0,q150r_L0]
      rw [bif_f (idx_end _)]) (r0:=nilL (.sl (.int .u8))) rfl
  refine ⟨r,?_,⟨h2,fun i hi=>(h3 i (by omega)).1⟩,fun i hi=>(h3 i (by omega)).2⟩
  unfold g150r
  have h1':fixO s150r_L0 (((nilL (.sl (.int .u8))),(x,((x.len:Int),((0:Int),())))),()) = _:=h1
  rw [h1']; rfl
def StartG (t:Tb) (p:Int) (x:Im) (g:Gu):Prop:=(g.1.len = 16 ∧ ∀ i,i < 16→g.1.get i = 0) ∧ g.2.1 = IntKind.wrap .u32 ((tParts t).get p.toNat).2.1 ∧ SmR SmL g.2.2.1 x

theorem StartG.same {t:Tb} {p:Int} {x y:Im} {a b:Gu} (h:StartG t p x a) (k:StartG t p y b) (hxy:SmR SmL x y):SmG a b :=
  ⟨⟨by rw [h.1.1,k.1.1],fun i hi=>by rw [h.1.1] at hi; rw [h.1.2 i hi,k.1.2 i hi]⟩,h.2.1.trans k.2.1.symm,SmR.trans (R:=SmL) (fun _ _ _=>SmL.trans) h.2.2 (SmR.trans (R:=SmL) (fun _ _ _=>SmL.trans) hxy (SmR.symm (R:=SmL) (fun _ _=>SmL.symm) k.2.2))⟩

def NoneC (s:Sh) (c:Ca):Prop:=c.1 = s ∧ c.2.1.len = s.1.toNat ∧ ∀ i,i < c.2.1.len→(c.2.1.get i).len = 0
theorem NoneC.same {s:Sh} {a b:Ca} (h:NoneC s a) (k:NoneC s b):SmC a b :=
  ⟨h.1.trans k.1.symm,h.2.1.trans k.2.1.symm,fun i hi=>⟨by rw [h.2.2 i hi,k.2.2 i (by rw [k.2.1,← h.2.1]; exact hi)],fun j hj=>by rw [h.2.2 i hi] at hj; exact absurd hj (Nat.not_lt_zero j)⟩⟩
theorem shape_le {s:Sh} (h:f119 s = true):1≤s.1 ∧ s.1≤16:=by
  rw [f119_eq] at h
  simp only [Bool.and_eq_true,Bool.or_eq_true,beq_iff_eq] at h
  omega
theorem cache149 (s:Sh) (h:f119 s = true):∃ c:Ca,g149r s = some ((c,()),()) ∧ NoneC s c:=by
  have:=shape_le h
  unfold g149r
  refine ⟨_,bif_t (by simp; omega),rfl,rfl,fun i _=>rfl⟩
theorem cache34 (s:Sh) (h:f119 s = true):∃ c:Ca,g34r s = some ((c,()),()) ∧ NoneC s c:=by
  have hs:=shape_le h
  have key:∀ (b2_0 b2_1 b2_2:Int) (b2_3:L (L Wy)) (b3_0 b3_1 b3_2:Int),∃ r:L (L Wy),fixO s34r_L0 (((),((),((),((0:Int),())))),(s,((b2_0,(b2_1,(b2_2,(b2_3,())))),((b3_0,(b3_1,(b3_2,((nilL (.sl (.pair (.int .i64) (.pair .bool .unit)))),())))),())))) = some (.inl (((),((),())),((b2_0,(b2_1,(b2_2,((),())))),((b3_0,(b3_1,(b3_2,((),())))),(b2_3,(r,())))))) ∧ r.len = s.1.toNat ∧ ∀ i,i < s.1.toNat→(r.get i).len = 0:=by
    intro b2_0 b2_1 b2_2 b2_3 b3_0 b3_1 b3_2
    exact snoc_n (step:=s34r_L0) s.1.toNat (by omega) (fun i r=>(((),((),((),((i:Int),())))),(s,((b2_0,(b2_1,(b2_2,(b2_3,())))),((b3_0,(b3_1,(b3_2,(r,())))),()))))) (fun r=>.inl (((),((),())),((b2_0,(b2_1,(b2_2,((),())))),((b3_0,(b3_1,(b3_2,((),())))),(b2_3,(r,())))))) (Ty.zero (.sl (.pair (.int .i64) (.pair .bool .unit)))) (fun i q=>q.len = 0)
      (fun i r hi hr=>⟨_,by
        simp only [s34r_L0,q34r_L0]
        rw [bif_t (by simp; omega),bif_t (snoc_fit _ _ _ (by omega)),wI_succ hi (by omega)],rfl⟩)
      (fun r hr=>by
        simp only [s34r_L0,q34r_L0]
        rw [bif_f (by simp; omega)]) (r0:=nilL (.sl (.pair (.int .i64) (.pair .bool .unit)))) rfl
  unfold g34r
  rw [h]
  simp only [Bool.not_true,cond_false]
  obtain ⟨r,k1,k2,k3⟩:=key 0 0 0 (nilL (.sl (.pair (.int .i64) (.pair .bool .unit)))) s.1 s.2.1 s.2.2.1
  rw [k1]
  exact ⟨_,rfl,rfl,k2,fun i hi=>k3 i (by rw [← k2]; exact hi)⟩
theorem tlb_of {t:Tb} (h:g127 t = some ((true,()),())):f97 t.2.2.1 1 8 = true:=by
  unfold g127 g220 at h
  cases hq:f97 t.2.2.1 1 8 with
  | true=>rfl
  | false =>
    rw [hq] at h
    simp only [Bool.not_false,cond_true] at h
    cases f97 t.1 64 2048 <;> cases (Int.tmod t.1 4 != 0) <;> cases f119 t.2.1 <;> simp at h

structure Start (t:Tb) (p:Int) (x:Im) (s:St):Prop where
  gu:StartG t p x s.1
  vi:s.2.1 = (false,(0,(0,(0,(0,(false,(false,(0,()))))))))
  he:s.2.2.1 = (0,(0,(0,(false,()))))
  ca:NoneC t.2.1 s.2.2.2.1
  tl:s.2.2.2.2.1.1 = t.2.2.1 ∧ s.2.2.2.2.1.2.1.len = 0
  nx:s.2.2.2.2.2.1 = 0
  id:s.2.2.2.2.2.2.1 = true
  bo:SmR SmL (sBoot s) x
  ou:(sOuts s).len = (tChans t).len ∧ ∀ i,i < (tChans t).len→((sOuts s).get i).1 = 0 ∧ ((sOuts s).get i).2.1.len = 0
  is:(sIns s).len = (tChans t).len ∧ ∀ i,i < (tChans t).len→((sIns s).get i).1.len = 0
  de:(sDevs s).len = (tDevs t).len ∧ ∀ i,i < (tDevs t).len→((sDevs s).get i).1.len = 0 ∧ ((sDevs s).get i).2.1.len = 0
theorem sml0 {α:Type} {x y:L α} (h:x.len = 0) (k:y.len = 0):SmL x y:=⟨h.trans k.symm,fun i hi=>by rw [h] at hi; exact absurd hi (Nat.not_lt_zero i)⟩
theorem Start.same {t:Tb} {p:Int} {x y:Im} {a b:St} (h:Start t p x a) (k:Start t p y b) (hxy:SmR SmL x y):SmS a b :=
  ⟨h.gu.same k.gu hxy,h.vi.trans k.vi.symm,h.he.trans k.he.symm,h.ca.same k.ca,⟨h.tl.1.trans k.tl.1.symm,sml0 h.tl.2 k.tl.2⟩,h.nx.trans k.nx.symm,h.id.trans k.id.symm,
   SmR.trans (R:=SmL) (fun _ _ _=>SmL.trans) h.bo (SmR.trans (R:=SmL) (fun _ _ _=>SmL.trans) hxy (SmR.symm (R:=SmL) (fun _ _=>SmL.symm) k.bo)),
   ⟨h.ou.1.trans k.ou.1.symm,fun i hi=>by rw [h.ou.1] at hi; exact ⟨(h.ou.2 i hi).1.trans (k.ou.2 i hi).1.symm,sml0 (h.ou.2 i hi).2 (k.ou.2 i hi).2⟩⟩,
   ⟨h.is.1.trans k.is.1.symm,fun i hi=>by rw [h.is.1] at hi; exact sml0 (h.is.2 i hi) (k.is.2 i hi)⟩,
   ⟨h.de.1.trans k.de.1.symm,fun i hi=>by rw [h.de.1] at hi; exact ⟨sml0 (h.de.2 i hi).1 (k.de.2 i hi).1,sml0 (h.de.2 i hi).2 (k.de.2 i hi).2⟩⟩⟩

theorem Start.bnd {t:Tb} {p:Int} {x:Im} {s:St} (h:Start t p x s) (hb:Bnd t) (hF:Facts t) (hl:x.len≤1048576) (hw:∀ i,i < x.len→(x.get i).len≤1048576):BndS s 1048576:=by
  have hc8:(tChans t).len≤1048576:=hb.2.2.1
  have hd8:(tDevs t).len≤1048576:=hb.2.1
  have hs:=shape_le hF.2.2.2.2.1
  refine ⟨by rw [h.gu.1.1]; omega,⟨by rw [h.gu.2.2.1]; exact hl,fun i hi=>?_⟩,⟨by rw [h.ca.2.1]; omega,fun i hi=>by rw [h.ca.2.2 i hi]; omega⟩,by rw [h.tl.2]; omega,⟨by rw [h.bo.1]; exact hl,fun i hi=>?_⟩,⟨by rw [h.ou.1]; exact hc8,fun i hi=>?_⟩,⟨by rw [h.is.1]; exact hc8,fun i hi=>?_⟩,by rw [h.de.1]; exact hd8,fun i hi=>?_⟩
  · rw [(h.gu.2.2.2 i hi).1]; exact hw i (by rw [← h.gu.2.2.1]; exact hi)
  · rw [(h.bo.2 i hi).1]; exact hw i (by rw [← h.bo.1]; exact hi)
  · rw [(h.ou.2 i (by rw [← h.ou.1]; exact hi)).2]; omega
  · rw [h.is.2 i (by rw [← h.is.1]; exact hi)]; omega
  · rw [(h.de.2 i (by rw [← h.de.1]; exact hi)).1,(h.de.2 i (by rw [← h.de.1]; exact hi)).2]; omega

theorem bndS0 {s:St} (h1:s.1.1.len = 0) (h2:s.1.2.2.1.len = 0) (h3:s.2.2.2.1.2.1.len = 0) (h4:s.2.2.2.2.1.2.1.len = 0) (h5:(sBoot s).len = 0) (h6:(sOuts s).len = 0) (h7:(sIns s).len = 0) (h8:(sDevs s).len = 0):BndS s 1048576 :=
  ⟨by omega,⟨by omega,fun i hi=>by omega⟩,⟨by omega,fun i hi=>by omega⟩,by omega,⟨by omega,fun i hi=>by omega⟩,⟨by omega,fun i hi=>by omega⟩,⟨by omega,fun i hi=>by omega⟩,by omega,fun i hi=>by omega⟩

theorem to53n (x:L Int) (h:x.len≤1048576):∃ r:L Int,g53r x = some ((r,()),()) ∧ r.len = x.len ∧ r.nil = false:=by
  obtain ⟨r,h1,h2,h3,h4⟩:=copy_loopN (step:=s53r_L0) (x:=x) (fun i=>x.get i) (fun i r hi hr=>by
    simp only [s53r_L0,q53r_L0]
    rw [bif_t (idx_lt hi),bif_t (idx_in hi),bif_t (by simpa [hr] using hi),wI_succ hi (by omega),Int.toNat_natCast]) (fun r=>by
    simp only [s53r_L0,q53r_L0]
    rw [bif_f (by simp)]) (r0:=L.rep (x.len:Int).toNat (Ty.zero (.int .u8))) (by simp [L.rep])
  refine ⟨r,?_,h2,h4⟩
  unfold g53r
  rw [bif_t (by simp; omega),h1]
  rfl
theorem to13n (x:Im) (h:x.len≤1048576) (hw:∀ i,i < x.len→(x.get i).len≤1048576):∃ r:Im,g13r x = some ((r,()),()) ∧ r.len≤1048576 ∧ (∀ i,i < r.len→(r.get i).len≤1048576) ∧ ∀ i,i < r.len→(r.get i).nil = false:=by
  obtain ⟨r,h1,h2,h3⟩:=copy_each (step:=s13r_L0) (x:=x) (fun i q=>g53r (x.get i) = some ((q,()),()) ∧ q.len = (x.get i).len ∧ q.nil = false) (fun i hi=>to53n (x.get i) (hw i hi)) (fun i r q hi hr hq=>by
    simp only [s13r_L0,q13r_L0]
    rw [bif_t (idx_lt hi),bif_t (idx_in hi),wI_succ hi (by omega),Int.toNat_natCast,hq.1]
    simp only [Option.bind_some]
    exact bif_t (by simpa [hr] using hi)) (fun r=>by
    simp only [s13r_L0,q13r_L0]
    rw [bif_f (by simp)]) (r0:=L.rep (x.len:Int).toNat (Ty.zero (.sl (.int .u8)))) (by simp [L.rep])
  refine ⟨r,?_,by omega,fun i hi=>by rw [(h3 i (by omega)).2.1]; exact hw i (by omega),fun i hi=>(h3 i (by omega)).2.2⟩
  unfold g13r
  rw [bif_t (by simp; omega),h1]
  rfl
theorem bind_eq {α β:Type} {o:Option α} {F:α→Option β} {a:α} {z:Option β} (h:o = some a) (k:F a = z):o.bind F = z:=by rw [h]; exact k
theorem notneg {k:Int} (h:0≤k):decide (k < 0) = false:=by simpa using h


theorem copy_eachN {α β:Type} {step:((L α×(Unit×(Int×Unit)))×(L β×Unit))→Option (((L α×(Unit×(Int×Unit)))×(L β×Unit))⊕(((Unit×Unit)×(L β×Unit))⊕Empty))} {x:L α} (R:Nat→β→Prop) (hex:∀ i,i < x.len→∃ q,R i q)
    (hstep:∀ (i:Nat) (r:L β) (q:β),i < x.len→r.len = x.len→R i q→step ((x,((),((i:Int),()))),(r,())) = some (.inl ((x,((),(((i + 1:Nat):Int),()))),(L.set r i q,()))))
    (hend:∀ r,step ((x,((),((x.len:Int),()))),(r,())) = some (.inr (.inl (((),()),(r,()))))) {r0:L β} (h0:r0.len = x.len) :
    ∃ r,fixO step ((x,((),((0:Int),()))),(r0,())) = some (.inl (((),()),(r,()))) ∧ r.len = x.len ∧ (∀ i,i < x.len→R i (r.get i)) ∧ r.nil = r0.nil:=by
  have hex':∀ i:Nat,∃ q:β,i < x.len→R i q:=fun i=>by
    by_cases hi:i < x.len
    · obtain ⟨q,a⟩:=hex i hi
      exact ⟨q,fun _=>a⟩
    · exact ⟨r0.get 0,fun h=>absurd h hi⟩
  obtain ⟨F,hF⟩:=Classical.axiomOfChoice hex'
  obtain ⟨r,h1,h2,h3,h4⟩:=copy_loopN (step:=step) (x:=x) F (fun i r hi hr=>hstep i r (F i) hi hr (hF i hi)) hend h0
  exact ⟨r,h1,h2,fun i hi=>by rw [h3 i hi]; exact hF i hi,h4⟩

theorem to181n (x:L Int) (h:x.len≤1048576):∃ r:L Int,g181r x = some ((r,()),()) ∧ r.len = x.len ∧ r.nil = false:=by
  obtain ⟨r,h1,h2,h3,h4⟩:=copy_loopN (step:=s181r_L0) (x:=x) (fun i=>x.get i) (fun i r hi hr=>by
    simp only [s181r_L0,q181r_L0]
    rw [bif_t (idx_lt hi),bif_t (idx_in hi),bif_t (by simpa [hr] using hi),wI_succ hi (by omega),Int.toNat_natCast]) (fun r=>by
    simp only [s181r_L0,q181r_L0]
    rw [bif_f (by simp)]) (r0:=L.rep (x.len:Int).toNat (Ty.zero (.int .u32))) (by simp [L.rep])
  refine ⟨r,?_,h2,h4⟩
  unfold g181r
  rw [bif_t (by simp; omega),h1]
  rfl

theorem to50n (x:L Int) (h:x.len≤1048576):∃ r:L Int,g50r x = some ((r,()),()) ∧ r.len = x.len ∧ r.nil = false:=by
  obtain ⟨r,h1,h2,h3,h4⟩:=copy_loopN (step:=s50r_L0) (x:=x) (fun i=>x.get i) (fun i r hi hr=>by
    simp only [s50r_L0,q50r_L0]
    rw [bif_t (idx_lt hi),bif_t (idx_in hi),bif_t (by simpa [hr] using hi),wI_succ hi (by omega),Int.toNat_natCast]) (fun r=>by
    simp only [s50r_L0,q50r_L0]
    rw [bif_f (by simp)]) (r0:=L.rep (x.len:Int).toNat (Ty.zero (.int .i64))) (by simp [L.rep])
  refine ⟨r,?_,h2,h4⟩
  unfold g50r
  rw [bif_t (by simp; omega),h1]
  rfl

theorem to251n (x:L Wy) (h:x.len≤1048576):∃ r:L Wy,g251r x = some ((r,()),()) ∧ r.len = x.len ∧ r.nil = false:=by
  obtain ⟨r,h1,h2,h3,h4⟩:=copy_loopN (step:=s251r_L0) (x:=x) (fun i=>f310 (x.get i)) (fun i r hi hr=>by
    simp only [s251r_L0,q251r_L0]
    rw [bif_t (idx_lt hi),bif_t (idx_in hi),bif_t (by simpa [hr] using hi),wI_succ hi (by omega),Int.toNat_natCast]) (fun r=>by
    simp only [s251r_L0,q251r_L0]
    rw [bif_f (by simp)]) (r0:=L.rep (x.len:Int).toNat (Ty.zero (.pair (.int .i64) (.pair .bool .unit)))) (by simp [L.rep])
  refine ⟨r,?_,h2,h4⟩
  unfold g251r
  rw [bif_t (by simp; omega),h1]
  rfl

theorem to182n (x:L (L Wy)) (h:x.len≤1048576) (hw:∀ i,i < x.len→(x.get i).len≤1048576):∃ r:L (L Wy),g182r x = some ((r,()),()) ∧ r.len = x.len ∧ r.nil = false ∧ ∀ i,i < r.len→(r.get i).len≤1048576 ∧ (r.get i).nil = false:=by
  obtain ⟨r,h1,h2,h3,h4⟩:=copy_eachN (step:=s182r_L0) (x:=x) (fun i q=>g251r (x.get i) = some ((q,()),()) ∧ q.len = (x.get i).len ∧ q.nil = false) (fun i hi=>by
    exact to251n (x.get i) (hw i hi)) (fun i r q hi hr hq=>by
    simp only [s182r_L0,q182r_L0]
    rw [bif_t (idx_lt hi),bif_t (idx_in hi),wI_succ hi (by omega),Int.toNat_natCast,hq.1]
    simp only [Option.bind_some]
    exact bif_t (by simpa [hr] using hi)) (fun r=>by
    simp only [s182r_L0,q182r_L0]
    rw [bif_f (by simp)]) (r0:=L.rep (x.len:Int).toNat (Ty.zero (.sl (.pair (.int .i64) (.pair .bool .unit))))) (by simp [L.rep])
  refine ⟨r,?_,h2,h4,fun i hi=>?_⟩
  · unfold g182r
    rw [bif_t (by simp; omega),h1]
    rfl
  · have hi':i < x.len:=by omega
    have e:=h3 i hi'
    have ew:=hw i hi'
    exact ⟨by omega,e.2.2⟩

theorem to105n (x:L Oe) (h:x.len≤1048576) (hw:∀ i,i < x.len→(x.get i).2.1.len≤1048576):∃ r:L Oe,g105r x = some ((r,()),()) ∧ r.len = x.len ∧ r.nil = false ∧ ∀ i,i < r.len→(r.get i).2.1.len≤1048576 ∧ (r.get i).2.1.nil = false:=by
  obtain ⟨r,h1,h2,h3,h4⟩:=copy_eachN (step:=s105r_L0) (x:=x) (fun i q=>g183r (x.get i) = some ((q,()),()) ∧ q.2.1.len = (x.get i).2.1.len ∧ q.2.1.nil = false) (fun i hi=>by
    obtain ⟨r,h1,h2,h3⟩:=to181n (x.get i).2.1 (hw i hi)
    unfold g183r
    rw [h1]
    exact ⟨((x.get i).1,(r,())),rfl,h2,h3⟩) (fun i r q hi hr hq=>by
    simp only [s105r_L0,q105r_L0]
    rw [bif_t (idx_lt hi),bif_t (idx_in hi),wI_succ hi (by omega),Int.toNat_natCast,hq.1]
    simp only [Option.bind_some]
    exact bif_t (by simpa [hr] using hi)) (fun r=>by
    simp only [s105r_L0,q105r_L0]
    rw [bif_f (by simp)]) (r0:=L.rep (x.len:Int).toNat (Ty.zero (.pair (.int .i64) (.pair (.sl (.int .u32)) .unit)))) (by simp [L.rep])
  refine ⟨r,?_,h2,h4,fun i hi=>?_⟩
  · unfold g105r
    rw [bif_t (by simp; omega),h1]
    rfl
  · have hi':i < x.len:=by omega
    have e:=h3 i hi'
    have ew:=hw i hi'
    exact ⟨by omega,e.2.2⟩

theorem to106n (x:L Ie) (h:x.len≤1048576) (hw:∀ i,i < x.len→(x.get i).1.len≤1048576):∃ r:L Ie,g106r x = some ((r,()),()) ∧ r.len = x.len ∧ r.nil = false ∧ ∀ i,i < r.len→(r.get i).1.len≤1048576 ∧ (r.get i).1.nil = false:=by
  obtain ⟨r,h1,h2,h3,h4⟩:=copy_eachN (step:=s106r_L0) (x:=x) (fun i q=>g184r (x.get i) = some ((q,()),()) ∧ q.1.len = (x.get i).1.len ∧ q.1.nil = false) (fun i hi=>by
    obtain ⟨r,h1,h2,h3⟩:=to181n (x.get i).1 (hw i hi)
    unfold g184r
    rw [h1]
    exact ⟨(r,()),rfl,h2,h3⟩) (fun i r q hi hr hq=>by
    simp only [s106r_L0,q106r_L0]
    rw [bif_t (idx_lt hi),bif_t (idx_in hi),wI_succ hi (by omega),Int.toNat_natCast,hq.1]
    simp only [Option.bind_some]
    exact bif_t (by simpa [hr] using hi)) (fun r=>by
    simp only [s106r_L0,q106r_L0]
    rw [bif_f (by simp)]) (r0:=L.rep (x.len:Int).toNat (Ty.zero (.pair (.sl (.int .u32)) .unit))) (by simp [L.rep])
  refine ⟨r,?_,h2,h4,fun i hi=>?_⟩
  · unfold g106r
    rw [bif_t (by simp; omega),h1]
    rfl
  · have hi':i < x.len:=by omega
    have e:=h3 i hi'
    have ew:=hw i hi'
    exact ⟨by omega,e.2.2⟩

theorem to107n (x:L De) (h:x.len≤1048576) (hw:∀ i,i < x.len→(x.get i).1.len≤1048576 ∧ (x.get i).2.1.len≤1048576):∃ r:L De,g107r x = some ((r,()),()) ∧ r.len = x.len ∧ r.nil = false ∧ ∀ i,i < r.len→((r.get i).1.len≤1048576 ∧ (r.get i).1.nil = false) ∧ (r.get i).2.1.len≤1048576 ∧ (r.get i).2.1.nil = false:=by
  obtain ⟨r,h1,h2,h3,h4⟩:=copy_eachN (step:=s107r_L0) (x:=x) (fun i q=>g185r (x.get i) = some ((q,()),()) ∧ (q.1.len = (x.get i).1.len ∧ q.1.nil = false) ∧ q.2.1.len = (x.get i).2.1.len ∧ q.2.1.nil = false) (fun i hi=>by
    obtain ⟨r,h1,h2,h3⟩:=to181n (x.get i).1 (hw i hi).1
    obtain ⟨u,u1,u2,u3⟩:=to181n (x.get i).2.1 (hw i hi).2
    unfold g185r
    rw [h1,u1]
    exact ⟨(r,(u,())),rfl,⟨h2,h3⟩,u2,u3⟩) (fun i r q hi hr hq=>by
    simp only [s107r_L0,q107r_L0]
    rw [bif_t (idx_lt hi),bif_t (idx_in hi),wI_succ hi (by omega),Int.toNat_natCast,hq.1]
    simp only [Option.bind_some]
    exact bif_t (by simpa [hr] using hi)) (fun r=>by
    simp only [s107r_L0,q107r_L0]
    rw [bif_f (by simp)]) (r0:=L.rep (x.len:Int).toNat (Ty.zero (.pair (.sl (.int .u32)) (.pair (.sl (.int .u32)) .unit)))) (by simp [L.rep])
  refine ⟨r,?_,h2,h4,fun i hi=>?_⟩
  · unfold g107r
    rw [bif_t (by simp; omega),h1]
    rfl
  · have hi':i < x.len:=by omega
    have e:=h3 i hi'
    have ew:=hw i hi'
    exact ⟨⟨by omega,e.2.1.2⟩,by omega,e.2.2.2⟩

def NoNil (s:St):Prop:=s.1.1.nil = false ∧ (∀ i,i < s.1.2.2.1.len→(s.1.2.2.1.get i).nil = false) ∧ (∀ i,i < s.2.2.2.1.2.1.len→(s.2.2.2.1.2.1.get i).nil = false) ∧ s.2.2.2.2.1.2.1.nil = false ∧ (∀ i,i < (sBoot s).len→((sBoot s).get i).nil = false) ∧
  ((sOuts s).nil = false ∧ ∀ i,i < (sOuts s).len→((sOuts s).get i).2.1.nil = false) ∧ ((sIns s).nil = false ∧ ∀ i,i < (sIns s).len→((sIns s).get i).1.nil = false) ∧ (sDevs s).nil = false ∧ ∀ i,i < (sDevs s).len→((sDevs s).get i).1.nil = false ∧ ((sDevs s).get i).2.1.nil = false
theorem toState (s:St) (h:BndS s 1048576):∃ r:St,g24r s = some ((r,()),()) ∧ BndS r 1048576 ∧ NoNil r ∧ r.2.1 = s.2.1:=by
  obtain ⟨h1,⟨h2,h2'⟩,⟨h3,h3'⟩,h4,⟨h5,h5'⟩,⟨h6,h6'⟩,⟨h7,h7'⟩,h8,h8'⟩:=h
  obtain ⟨a,a1,a2,a3⟩:=to181n s.1.1 h1
  obtain ⟨b,b1,b2,b3,b4⟩:=to13n s.1.2.2.1 h2 h2'
  obtain ⟨c,c1,c2,c3,c4⟩:=to182n s.2.2.2.1.2.1 h3 h3'
  obtain ⟨d,d1,d2,d3⟩:=to50n s.2.2.2.2.1.2.1 h4
  obtain ⟨e,e1,e2,e3,e4⟩:=to13n (sBoot s) h5 h5'
  obtain ⟨f,f1,f2,f3,f4⟩:=to105n (sOuts s) h6 h6'
  obtain ⟨g,g1,g2,g3,g4⟩:=to106n (sIns s) h7 h7'
  obtain ⟨k,k1,k2,k3,k4⟩:=to107n (sDevs s) h8 h8'
  have e1':g13r s.2.2.2.2.2.2.2.1 = some ((e,()),()):=e1
  have f1':g105r s.2.2.2.2.2.2.2.2.1 = some ((f,()),()):=f1
  have g1':g106r s.2.2.2.2.2.2.2.2.2.1 = some ((g,()),()):=g1
  have k1':g107r s.2.2.2.2.2.2.2.2.2.2.1 = some ((k,()),()):=k1
  unfold g24r g100r g103r g104r
  rw [a1,b1,c1,d1,e1',f1',g1',k1']
  refine ⟨((a,(s.1.2.1,(b,()))),(s.2.1,(s.2.2.1,((s.2.2.2.1.1,(c,())),((s.2.2.2.2.1.1,(d,())),(s.2.2.2.2.2.1,(s.2.2.2.2.2.2.1,(e,(f,(g,(k,()))))))))))),rfl,?_,?_,rfl⟩
  · exact ⟨show a.len≤_ by omega,⟨b2,b3⟩,⟨show c.len≤_ by omega,fun i hi=>(c4 i hi).1⟩,show d.len≤_ by omega,⟨e2,e3⟩,⟨show f.len≤_ by omega,fun i hi=>(f4 i hi).1⟩,⟨show g.len≤_ by omega,fun i hi=>(g4 i hi).1⟩,show k.len≤_ by omega,fun i hi=>⟨(k4 i hi).1.1,(k4 i hi).2.1⟩⟩
  · exact ⟨a3,b4,fun i hi=>(c4 i hi).2,d3,e4,⟨f3,fun i hi=>(f4 i hi).2⟩,⟨g3,fun i hi=>(g4 i hi).2⟩,k3,fun i hi=>⟨(k4 i hi).1.2,(k4 i hi).2.2⟩⟩



theorem cl197 (x:L Int) (h:x.len≤1048576) (hn:x.nil = false):∃ r,g197r x = some ((r,()),()) ∧ SmL r x:=by
  unfold g197r
  exact ⟨_,(bif_f hn).trans (bif_t (app0_fit _ _ h)),app0 _ _⟩
theorem cl192 (x:L Int) (h:x.len≤1048576) (hn:x.nil = false):∃ r,g192r x = some ((r,()),()) ∧ SmL r x:=by
  unfold g192r
  exact ⟨_,(bif_f hn).trans (bif_t (app0_fit _ _ h)),app0 _ _⟩
theorem cl259 (x:L Wy) (h:x.len≤1048576) (hn:x.nil = false):∃ r,g259r x = some ((r,()),()) ∧ SmL r x:=by
  unfold g259r
  exact ⟨_,(bif_f hn).trans (bif_t (app0_fit _ _ h)),app0 _ _⟩
theorem cl193 (x:L Oe) (h:x.len≤1048576) (hn:x.nil = false):∃ r,g193w x = some ((r,()),()) ∧ SmL r x:=by
  unfold g193w
  exact ⟨_,(bif_f hn).trans (bif_t (app0_fit _ _ h)),app0 _ _⟩
theorem cl194 (x:L Ie) (h:x.len≤1048576) (hn:x.nil = false):∃ r,g194w x = some ((r,()),()) ∧ SmL r x:=by
  unfold g194w
  exact ⟨_,(bif_f hn).trans (bif_t (app0_fit _ _ h)),app0 _ _⟩
theorem cl195 (x:L De) (h:x.len≤1048576) (hn:x.nil = false):∃ r,g195w x = some ((r,()),()) ∧ SmL r x:=by
  unfold g195w
  exact ⟨_,(bif_f hn).trans (bif_t (app0_fit _ _ h)),app0 _ _⟩

theorem guest190 (g:Gu) (h1:g.1.len≤1048576) (h2:BndI g.2.2.1 1048576) (n1:g.1.nil = false) (n2:∀ i,i < g.2.2.1.len→(g.2.2.1.get i).nil = false):∃ r:Gu,g190r g = some ((r,()),()) ∧ SmG r g:=by
  obtain ⟨y,y1,y2⟩:=cl197 g.1 h1 n1
  have key:∀ {b2_0 b2_1 b2_2 b3_1 r1000512:_},∃ r:Im,fixO s190r_L0 (((),((),(g.2.2.1,((g.2.2.1.len:Int),((0:Int),()))))),((b2_0,(b2_1,(b2_2,()))),(((),(b3_1,((nilL (.sl (.int .u8))),()))),(r1000512,())))) = some (.inl (((),((),())),(((),(b2_1,((),()))),(((),(b3_1,((),()))),(b2_0,(b2_2,(r1000512,(r,())))))))) ∧ r.len = g.2.2.1.len ∧ ∀ i,i < g.2.2.1.len→SmL (r.get i) (g.2.2.1.get i):=by
    intro b2_0 b2_1 b2_2 b3_1 r1000512
    exact snoc_n (step:=s190r_L0) g.2.2.1.len h2.1 (fun i r=>(((),((),(g.2.2.1,((g.2.2.1.len:Int),((i:Int),()))))),((b2_0,(b2_1,(b2_2,()))),(((),(b3_1,(r,()))),(r1000512,()))))) (fun r=>.inl (((),((),())),(((),(b2_1,((),()))),(((),(b3_1,((),()))),(b2_0,(b2_2,(r1000512,(r,())))))))) (Ty.zero (.sl (.int .u8))) (fun i q=>SmL q (g.2.2.1.get i))
      (fun i r hi hr=>by
        have hb:=h2.2 i hi
        have hm:=h2.1
        obtain ⟨q,q1,q2,_⟩:=clone241 (g.2.2.1.get i) hb (fun h=>by rw [n2 i hi] at h; cases h)
        refine ⟨q,?_,q2⟩
        simp only [s190r_L0,q190r_L0]
        rw [bif_t (idx_lt hi),bif_t (idx_in hi),Int.toNat_natCast,q1]
        simp only [Option.bind_some]
        rw [bif_t (snoc_fit _ _ _ (by omega)),wI_succ hi (by omega)])
      (fun r hr=>by
        simp only [s190r_L0,q190r_L0]
        rw [bif_f (idx_end _)]) (r0:=nilL (.sl (.int .u8))) rfl
  unfold g190r
  rw [y1,Option.bind_some]
  refine bind_of ?_
  refine key.elim fun r h=>⟨_,h.1,?_⟩
  exact ⟨_,rfl,y2,rfl,h.2.1,fun i hi=>h.2.2 i (by rw [← h.2.1]; exact hi)⟩

theorem cache191 (c:Ca) (h2:c.2.1.len≤1048576 ∧ ∀ i,i < c.2.1.len→(c.2.1.get i).len≤1048576) (n2:∀ i,i < c.2.1.len→(c.2.1.get i).nil = false):∃ r:Ca,g191r c = some ((r,()),()) ∧ SmC r c:=by
  have key:∀ {b2_0 b2_1 b2_2 b2_3 b3_0 b3_1 b3_2:_},∃ r:L (L Wy),fixO s191r_L0 (((),((),(c.2.1,((c.2.1.len:Int),((0:Int),()))))),((b2_0,(b2_1,(b2_2,(b2_3,())))),((b3_0,(b3_1,(b3_2,((nilL (.sl (.pair (.int .i64) (.pair .bool .unit)))),())))),()))) = some (.inl (((),((),())),((b2_0,(b2_1,(b2_2,((),())))),((b3_0,(b3_1,(b3_2,((),())))),(b2_3,(r,())))))) ∧ r.len = c.2.1.len ∧ ∀ i,i < c.2.1.len→SmL (r.get i) (c.2.1.get i):=by
    intro b2_0 b2_1 b2_2 b2_3 b3_0 b3_1 b3_2
    exact snoc_n (step:=s191r_L0) c.2.1.len h2.1 (fun i r=>(((),((),(c.2.1,((c.2.1.len:Int),((i:Int),()))))),((b2_0,(b2_1,(b2_2,(b2_3,())))),((b3_0,(b3_1,(b3_2,(r,())))),())))) (fun r=>.inl (((),((),())),((b2_0,(b2_1,(b2_2,((),())))),((b3_0,(b3_1,(b3_2,((),())))),(b2_3,(r,())))))) (Ty.zero (.sl (.pair (.int .i64) (.pair .bool .unit)))) (fun i q=>SmL q (c.2.1.get i))
      (fun i r hi hr=>by
        have hm:=h2.1
        obtain ⟨q,q1,q2⟩:=cl259 (c.2.1.get i) (h2.2 i hi) (n2 i hi)
        refine ⟨q,?_,q2⟩
        simp only [s191r_L0,q191r_L0]
        rw [bif_t (idx_lt hi),bif_t (idx_in hi),Int.toNat_natCast,q1]
        simp only [Option.bind_some]
        rw [bif_t (snoc_fit _ _ _ (by omega)),wI_succ hi (by omega)])
      (fun r hr=>by
        simp only [s191r_L0,q191r_L0]
        rw [bif_f (idx_end _)]) (r0:=nilL (.sl (.pair (.int .i64) (.pair .bool .unit)))) rfl
  unfold g191r
  refine bind_of ?_
  refine key.elim fun r h=>⟨_,h.1,?_⟩
  exact ⟨_,rfl,rfl,h.2.1,fun i hi=>h.2.2 i (by rw [← h.2.1]; exact hi)⟩

theorem out196 (o:Oe) (h:o.2.1.len≤1048576) (hn:o.2.1.nil = false):∃ r:Oe,g196r o = some ((r,()),()) ∧ SmO r o:=by
  obtain ⟨y,y1,y2⟩:=cl197 o.2.1 h hn
  unfold g196r
  rw [y1]
  exact ⟨_,rfl,rfl,y2⟩
theorem dev198 (o:De) (h:o.1.len≤1048576 ∧ o.2.1.len≤1048576) (hn:o.1.nil = false ∧ o.2.1.nil = false):∃ r:De,g198r o = some ((r,()),()) ∧ SmD r o:=by
  obtain ⟨y,y1,y2⟩:=cl197 o.1 h.1 hn.1
  obtain ⟨z,z1,z2⟩:=cl197 o.2.1 h.2 hn.2
  unfold g198r
  rw [y1,z1]
  exact ⟨_,rfl,y2,z2⟩
theorem allOwn_t {m:Nat→Bool} {n:Nat} (h:∀ j,j < n→m j = true):allOwn (some m) n = true:=List.all_eq_true.mpr fun j hj=>h j (List.mem_range.mp hj)
theorem updT (m:Nat→Bool) (i j:Nat):Go.VE.upd m i true j = if j = i then true else m j:=upd_eq m i true j

theorem part110 (s:St) (hb:BndS s 1048576) (hn:NoNil s) (hio:(sOuts s).len = (sIns s).len):∃ r:St,g110r s = some ((r,()),()) ∧ SmS r s ∧ ∀ i,i < (sBoot r).len→((sBoot r).get i).nil = true→((sBoot r).get i).len = 0:=by
  obtain ⟨h1,h2,h3,h4,⟨h5,h5'⟩,⟨h6,h6'⟩,⟨h7,h7'⟩,h8,h8'⟩:=hb
  obtain ⟨n1,n2,n3,n4,n5,⟨n6,n6'⟩,⟨n7,n7'⟩,n8,n8'⟩:=hn
  obtain ⟨g,g1,g2⟩:=guest190 s.1 h1 h2 n1 n2
  obtain ⟨c,c1,c2⟩:=cache191 s.2.2.2.1 h3 n3
  obtain ⟨y,y1,y2,y3⟩:=bytes150n (sBoot s) h5 h5' (fun i hi h=>by rw [n5 i hi] at h; cases h)
  obtain ⟨pg,p1,p2⟩:=cl192 s.2.2.2.2.1.2.1 h4 n4
  obtain ⟨o,o1,o2⟩:=cl193 (sOuts s) h6 n6
  obtain ⟨q,q1,q2⟩:=cl194 (sIns s) h7 n7
  obtain ⟨d,d1,d2⟩:=cl195 (sDevs s) h8 n8
  have y1':g150r s.2.2.2.2.2.2.2.1 = some ((y,()),()):=y1
  have o1':g193w s.2.2.2.2.2.2.2.2.1 = some ((o,()),()):=o1
  have q1':g194w s.2.2.2.2.2.2.2.2.2.1 = some ((q,()),()):=q1
  have d1':g195w s.2.2.2.2.2.2.2.2.2.2.1 = some ((d,()),()):=d1
  have ol:=o2.1
  have ql:=q2.1
  have dl:=d2.1
  have keyA:∀ {b1_1 b1_3 b1_4 b1_5 b1_6 b1_7 b1_8 b1_9 b1_10 b1_11 b1_12 b1_13 b1_14 b1_15 b1_16 b1_17 b1_19 b1_21 b1_22 b1_24 b1_25 b1_26 b2_0 b2_1 b2_2 b2_3 b2_4 b2_5 b2_6 b2_7 b2_8 b2_9 b2_10 b2_11 b2_12 b2_13 b2_14 b2_15 b2_16 b2_17 b2_18 b2_19 b2_20 b2_21 b2_22 b2_23 b2_24 b2_25 b2_26 r1002304 m1002304 r1000768 r1000769 r1000960 r1001600 r1001152:_},∃ (o':L Oe) (q':L Ie),fixO s110r_L0 (((),((),((),((),((),((),((o.len:Int),((0:Int),())))))))),(((),(b1_1,((),(b1_3,(b1_4,(b1_5,(b1_6,(b1_7,(b1_8,(b1_9,(b1_10,(b1_11,(b1_12,(b1_13,(b1_14,(b1_15,(b1_16,(b1_17,((),(b1_19,((),(b1_21,(b1_22,((),(b1_24,(b1_25,(b1_26,()))))))))))))))))))))))))))),((b2_0,(b2_1,(b2_2,(b2_3,(b2_4,(b2_5,(b2_6,(b2_7,(b2_8,(b2_9,(b2_10,(b2_11,(b2_12,(b2_13,(b2_14,(b2_15,(b2_16,(b2_17,(b2_18,(b2_19,(b2_20,(b2_21,(b2_22,(b2_23,(b2_24,(b2_25,(b2_26,()))))))))))))))))))))))))))),((o,(fun _=>false)),((q,(fun _=>false)),((r1002304,m1002304),(r1000768,(r1000769,(r1000960,(r1001600,(r1001152,()))))))))))) = some (.inl (((),((),((),((),((),()))))),(((),(b1_1,((),(b1_3,(b1_4,(b1_5,(b1_6,(b1_7,(b1_8,(b1_9,(b1_10,(b1_11,(b1_12,(b1_13,(b1_14,(b1_15,(b1_16,(b1_17,((),(b1_19,((),(b1_21,(b1_22,((),(b1_24,(b1_25,(b1_26,()))))))))))))))))))))))))))),(((),(b2_1,((),(b2_3,(b2_4,(b2_5,(b2_6,(b2_7,(b2_8,(b2_9,(b2_10,(b2_11,(b2_12,(b2_13,(b2_14,(b2_15,(b2_16,(b2_17,((),(b2_19,((),(b2_21,(b2_22,((),((),((),((),()))))))))))))))))))))))))))),(o',(q',((r1002304,m1002304),(r1000768,(r1000769,(r1000960,(r1001600,(r1001152,(b2_0,(b2_2,(b2_18,(b2_20,(b2_23,(b2_24,(b2_25,(b2_26,())))))))))))))))))))) ∧ SmR SmO o' o ∧ SmR SmI q' q:=by
    intro b1_1 b1_3 b1_4 b1_5 b1_6 b1_7 b1_8 b1_9 b1_10 b1_11 b1_12 b1_13 b1_14 b1_15 b1_16 b1_17 b1_19 b1_21 b1_22 b1_24 b1_25 b1_26 b2_0 b2_1 b2_2 b2_3 b2_4 b2_5 b2_6 b2_7 b2_8 b2_9 b2_10 b2_11 b2_12 b2_13 b2_14 b2_15 b2_16 b2_17 b2_18 b2_19 b2_20 b2_21 b2_22 b2_23 b2_24 b2_25 b2_26 r1002304 m1002304 r1000768 r1000769 r1000960 r1001600 r1001152
    obtain ⟨z,z1,o',q',rfl,z2,z3⟩:=loop_n (step:=s110r_L0) o.len
      (fun i z=>∃ (o':L Oe) (q':L Ie) (mo mq:Nat→Bool),z = (((),((),((),((),((),((),((o.len:Int),((i:Int),())))))))),(((),(b1_1,((),(b1_3,(b1_4,(b1_5,(b1_6,(b1_7,(b1_8,(b1_9,(b1_10,(b1_11,(b1_12,(b1_13,(b1_14,(b1_15,(b1_16,(b1_17,((),(b1_19,((),(b1_21,(b1_22,((),(b1_24,(b1_25,(b1_26,()))))))))))))))))))))))))))),((b2_0,(b2_1,(b2_2,(b2_3,(b2_4,(b2_5,(b2_6,(b2_7,(b2_8,(b2_9,(b2_10,(b2_11,(b2_12,(b2_13,(b2_14,(b2_15,(b2_16,(b2_17,(b2_18,(b2_19,(b2_20,(b2_21,(b2_22,(b2_23,(b2_24,(b2_25,(b2_26,()))))))))))))))))))))))))))),((o',mo),((q',mq),((r1002304,m1002304),(r1000768,(r1000769,(r1000960,(r1001600,(r1001152,()))))))))))) ∧ (o'.len = o.len ∧ (∀ j,j < i→SmO (o'.get j) (o.get j) ∧ mo j = true) ∧ ∀ j,i≤j→o'.get j = o.get j) ∧ q'.len = q.len ∧ (∀ j,j < i→SmI (q'.get j) (q.get j) ∧ mq j = true) ∧ ∀ j,i≤j→q'.get j = q.get j)
      (fun z=>∃ (o':L Oe) (q':L Ie),z = .inl (((),((),((),((),((),()))))),(((),(b1_1,((),(b1_3,(b1_4,(b1_5,(b1_6,(b1_7,(b1_8,(b1_9,(b1_10,(b1_11,(b1_12,(b1_13,(b1_14,(b1_15,(b1_16,(b1_17,((),(b1_19,((),(b1_21,(b1_22,((),(b1_24,(b1_25,(b1_26,()))))))))))))))))))))))))))),(((),(b2_1,((),(b2_3,(b2_4,(b2_5,(b2_6,(b2_7,(b2_8,(b2_9,(b2_10,(b2_11,(b2_12,(b2_13,(b2_14,(b2_15,(b2_16,(b2_17,((),(b2_19,((),(b2_21,(b2_22,((),((),((),((),()))))))))))))))))))))))))))),(o',(q',((r1002304,m1002304),(r1000768,(r1000769,(r1000960,(r1001600,(r1001152,(b2_0,(b2_2,(b2_18,(b2_20,(b2_23,(b2_24,(b2_25,(b2_26,()))))))))))))))))))) ∧ SmR SmO o' o ∧ SmR SmI q' q)
      (by
        rintro i _ hi ⟨o',q',mo,mq,rfl,⟨a1,a2,a3⟩,b1,b2,b3⟩
        have hio':i < o'.len:=by omega
        have hiq:i < q.len:=by omega
        have hiq':i < q'.len:=by omega
        have eo:=a3 i (Nat.le_refl _)
        have eq:=b3 i (Nat.le_refl _)
        have so:i < (sOuts s).len:=by omega
        have sq:i < (sIns s).len:=by omega
        have co:=o2.2 i hi
        have cq:=q2.2 i hiq
        obtain ⟨u,u1,u2⟩:=out196 (o.get i) (by rw [co]; exact h6' i so) (by rw [co]; exact n6' i so)
        obtain ⟨v,v1,v2⟩:=cl197 (q.get i).1 (by rw [cq]; exact h7' i sq) (by rw [cq]; exact n7' i sq)
        refine .inl ⟨_,?_,L.set o' i u,L.set q' i (v,()),Go.VE.upd mo i true,Go.VE.upd mq i true,rfl,⟨a1,fun j hj=>?_,fun j hj=>by rw [set_ne_get _ _ (by omega)]; exact a3 j (by omega)⟩,b1,fun j hj=>?_,fun j hj=>by rw [set_ne_get _ _ (by omega)]; exact b3 j (by omega)⟩
        · simp only [s110r_L0,q110r_L0]
          rw [bif_t (idx_lt hi),bif_t (idx_in hio'),Int.toNat_natCast,eo]
          refine bind_eq u1 ?_
          refine (bif_t (idx_in hio')).trans ((bif_t (idx_in hiq')).trans ?_)
          rw [eq]
          refine bind_eq v1 ?_
          refine (bif_t (idx_in hiq')).trans ?_
          rw [wI_succ hi (by omega)]
        · rw [updT]
          rcases Nat.lt_or_eq_of_le (Nat.le_of_lt_succ hj) with e | rfl
          · rw [set_ne_get _ _ (by omega),if_neg (by omega)]; exact a2 j e
          · rw [set_eq_get,if_pos rfl]; exact ⟨u2,rfl⟩
        · rw [updT]
          rcases Nat.lt_or_eq_of_le (Nat.le_of_lt_succ hj) with e | rfl
          · rw [set_ne_get _ _ (by omega),if_neg (by omega)]; exact b2 j e
          · rw [set_eq_get,if_pos rfl]; exact ⟨v2,rfl⟩)
      (by
        rintro _ ⟨o',q',mo,mq,rfl,⟨a1,a2,a3⟩,b1,b2,b3⟩
        refine ⟨_,?_,o',q',rfl,⟨a1,fun j hj=>(a2 j (by omega)).1⟩,b1,fun j hj=>(b2 j (by omega)).1⟩
        simp only [s110r_L0,q110r_L0]
        rw [bif_f (idx_end _),bif_t (allOwn_t (fun j hj=>(a2 j (by omega)).2)),bif_t (allOwn_t (fun j hj=>(b2 j (by omega)).2))]
        rfl) (((),((),((),((),((),((),((o.len:Int),((0:Int),())))))))),(((),(b1_1,((),(b1_3,(b1_4,(b1_5,(b1_6,(b1_7,(b1_8,(b1_9,(b1_10,(b1_11,(b1_12,(b1_13,(b1_14,(b1_15,(b1_16,(b1_17,((),(b1_19,((),(b1_21,(b1_22,((),(b1_24,(b1_25,(b1_26,()))))))))))))))))))))))))))),((b2_0,(b2_1,(b2_2,(b2_3,(b2_4,(b2_5,(b2_6,(b2_7,(b2_8,(b2_9,(b2_10,(b2_11,(b2_12,(b2_13,(b2_14,(b2_15,(b2_16,(b2_17,(b2_18,(b2_19,(b2_20,(b2_21,(b2_22,(b2_23,(b2_24,(b2_25,(b2_26,()))))))))))))))))))))))))))),((o,(fun _=>false)),((q,(fun _=>false)),((r1002304,m1002304),(r1000768,(r1000769,(r1000960,(r1001600,(r1001152,()))))))))))) ⟨o,q,_,_,rfl,⟨rfl,fun j hj=>absurd hj (Nat.not_lt_zero j),fun _ _=>rfl⟩,rfl,fun j hj=>absurd hj (Nat.not_lt_zero j),fun _ _=>rfl⟩
    exact ⟨o',q',z1,z2,z3⟩
  have keyB:∀ {b1_1 b1_3 b1_4 b1_5 b1_6 b1_7 b1_8 b1_9 b1_10 b1_11 b1_12 b1_13 b1_14 b1_15 b1_16 b1_17 b1_19 b1_21 b1_22 b1_24 b1_25 b1_26 b2_1 b2_3 b2_4 b2_5 b2_6 b2_7 b2_8 b2_9 b2_10 b2_11 b2_12 b2_13 b2_14 b2_15 b2_16 b2_17 b2_19 b2_21 b2_22 r1001920 r1002112 r1000768 r1000769 r1000960 r1001600 r1001152 r60128 r60130 r60146 r60148 r60151 r60152 r60153 r60154:_},∃ (d':L De),fixO s110r_L2 (((),((),((),((),((),((),((d.len:Int),((0:Int),())))))))),(((),(b1_1,((),(b1_3,(b1_4,(b1_5,(b1_6,(b1_7,(b1_8,(b1_9,(b1_10,(b1_11,(b1_12,(b1_13,(b1_14,(b1_15,(b1_16,(b1_17,((),(b1_19,((),(b1_21,(b1_22,((),(b1_24,(b1_25,(b1_26,()))))))))))))))))))))))))))),(((),(b2_1,((),(b2_3,(b2_4,(b2_5,(b2_6,(b2_7,(b2_8,(b2_9,(b2_10,(b2_11,(b2_12,(b2_13,(b2_14,(b2_15,(b2_16,(b2_17,((),(b2_19,((),(b2_21,(b2_22,((),((),((),((),()))))))))))))))))))))))))))),(r1001920,(r1002112,((d,(fun _=>false)),(r1000768,(r1000769,(r1000960,(r1001600,(r1001152,(r60128,(r60130,(r60146,(r60148,(r60151,(r60152,(r60153,(r60154,()))))))))))))))))))) = some (.inl (((),((),((),((),((),()))))),(((),(b1_1,((),(b1_3,(b1_4,(b1_5,(b1_6,(b1_7,(b1_8,(b1_9,(b1_10,(b1_11,(b1_12,(b1_13,(b1_14,(b1_15,(b1_16,(b1_17,((),(b1_19,((),(b1_21,(b1_22,((),(b1_24,(b1_25,(b1_26,()))))))))))))))))))))))))))),(((),(b2_1,((),(b2_3,(b2_4,(b2_5,(b2_6,(b2_7,(b2_8,(b2_9,(b2_10,(b2_11,(b2_12,(b2_13,(b2_14,(b2_15,(b2_16,(b2_17,((),(b2_19,((),(b2_21,(b2_22,((),((),((),((),()))))))))))))))))))))))))))),(r1001920,(r1002112,(d',(r1000768,(r1000769,(r1000960,(r1001600,(r1001152,(r60128,(r60130,(r60146,(r60148,(r60151,(r60152,(r60153,(r60154,())))))))))))))))))))) ∧ SmR SmD d' d:=by
    intro b1_1 b1_3 b1_4 b1_5 b1_6 b1_7 b1_8 b1_9 b1_10 b1_11 b1_12 b1_13 b1_14 b1_15 b1_16 b1_17 b1_19 b1_21 b1_22 b1_24 b1_25 b1_26 b2_1 b2_3 b2_4 b2_5 b2_6 b2_7 b2_8 b2_9 b2_10 b2_11 b2_12 b2_13 b2_14 b2_15 b2_16 b2_17 b2_19 b2_21 b2_22 r1001920 r1002112 r1000768 r1000769 r1000960 r1001600 r1001152 r60128 r60130 r60146 r60148 r60151 r60152 r60153 r60154
    obtain ⟨z,z1,d',rfl,z2⟩:=loop_n (step:=s110r_L2) d.len
      (fun i z=>∃ (o':L De) (mo:Nat→Bool),z = (((),((),((),((),((),((),((d.len:Int),((i:Int),())))))))),(((),(b1_1,((),(b1_3,(b1_4,(b1_5,(b1_6,(b1_7,(b1_8,(b1_9,(b1_10,(b1_11,(b1_12,(b1_13,(b1_14,(b1_15,(b1_16,(b1_17,((),(b1_19,((),(b1_21,(b1_22,((),(b1_24,(b1_25,(b1_26,()))))))))))))))))))))))))))),(((),(b2_1,((),(b2_3,(b2_4,(b2_5,(b2_6,(b2_7,(b2_8,(b2_9,(b2_10,(b2_11,(b2_12,(b2_13,(b2_14,(b2_15,(b2_16,(b2_17,((),(b2_19,((),(b2_21,(b2_22,((),((),((),((),()))))))))))))))))))))))))))),(r1001920,(r1002112,((o',mo),(r1000768,(r1000769,(r1000960,(r1001600,(r1001152,(r60128,(r60130,(r60146,(r60148,(r60151,(r60152,(r60153,(r60154,()))))))))))))))))))) ∧ o'.len = d.len ∧ (∀ j,j < i→SmD (o'.get j) (d.get j) ∧ mo j = true) ∧ ∀ j,i≤j→o'.get j = d.get j)
      (fun z=>∃ (o':L De),z = .inl (((),((),((),((),((),()))))),(((),(b1_1,((),(b1_3,(b1_4,(b1_5,(b1_6,(b1_7,(b1_8,(b1_9,(b1_10,(b1_11,(b1_12,(b1_13,(b1_14,(b1_15,(b1_16,(b1_17,((),(b1_19,((),(b1_21,(b1_22,((),(b1_24,(b1_25,(b1_26,()))))))))))))))))))))))))))),(((),(b2_1,((),(b2_3,(b2_4,(b2_5,(b2_6,(b2_7,(b2_8,(b2_9,(b2_10,(b2_11,(b2_12,(b2_13,(b2_14,(b2_15,(b2_16,(b2_17,((),(b2_19,((),(b2_21,(b2_22,((),((),((),((),()))))))))))))))))))))))))))),(r1001920,(r1002112,(o',(r1000768,(r1000769,(r1000960,(r1001600,(r1001152,(r60128,(r60130,(r60146,(r60148,(r60151,(r60152,(r60153,(r60154,()))))))))))))))))))) ∧ SmR SmD o' d)
      (by
        rintro i _ hi ⟨o',mo,rfl,a1,a2,a3⟩
        have hio':i < o'.len:=by omega
        have eo:=a3 i (Nat.le_refl _)
        have so:i < (sDevs s).len:=by omega
        have co:=d2.2 i hi
        obtain ⟨u,u1,u2⟩:=dev198 (d.get i) (by rw [co]; exact h8' i so) (by rw [co]; exact n8' i so)
        refine .inl ⟨_,?_,L.set o' i u,Go.VE.upd mo i true,rfl,a1,fun j hj=>?_,fun j hj=>by rw [set_ne_get _ _ (by omega)]; exact a3 j (by omega)⟩
        · simp only [s110r_L2,q110r_L2]
          rw [bif_t (idx_lt hi),bif_t (idx_in hio'),Int.toNat_natCast,eo]
          refine bind_eq u1 ?_
          refine (bif_t (idx_in hio')).trans ?_
          rw [wI_succ hi (by omega)]
        · rw [updT]
          rcases Nat.lt_or_eq_of_le (Nat.le_of_lt_succ hj) with e | rfl
          · rw [set_ne_get _ _ (by omega),if_neg (by omega)]; exact a2 j e
          · rw [set_eq_get,if_pos rfl]; exact ⟨u2,rfl⟩)
      (by
        rintro _ ⟨o',mo,rfl,a1,a2,a3⟩
        refine ⟨_,?_,o',rfl,a1,fun j hj=>(a2 j (by omega)).1⟩
        simp only [s110r_L2,q110r_L2]
        rw [bif_f (idx_end _),bif_t (allOwn_t (fun j hj=>(a2 j (by omega)).2))]
        rfl) (((),((),((),((),((),((),((d.len:Int),((0:Int),())))))))),(((),(b1_1,((),(b1_3,(b1_4,(b1_5,(b1_6,(b1_7,(b1_8,(b1_9,(b1_10,(b1_11,(b1_12,(b1_13,(b1_14,(b1_15,(b1_16,(b1_17,((),(b1_19,((),(b1_21,(b1_22,((),(b1_24,(b1_25,(b1_26,()))))))))))))))))))))))))))),(((),(b2_1,((),(b2_3,(b2_4,(b2_5,(b2_6,(b2_7,(b2_8,(b2_9,(b2_10,(b2_11,(b2_12,(b2_13,(b2_14,(b2_15,(b2_16,(b2_17,((),(b2_19,((),(b2_21,(b2_22,((),((),((),((),()))))))))))))))))))))))))))),(r1001920,(r1002112,((d,(fun _=>false)),(r1000768,(r1000769,(r1000960,(r1001600,(r1001152,(r60128,(r60130,(r60146,(r60148,(r60151,(r60152,(r60153,(r60154,()))))))))))))))))))) ⟨d,_,rfl,rfl,fun j hj=>absurd hj (Nat.not_lt_zero j),fun _ _=>rfl⟩
    exact ⟨d',z1,z2⟩
  unfold g110r
  refine bind_of ⟨_,g1,bind_of ⟨_,c1,bind_of ⟨_,y1',bind_of ⟨_,p1,bind_of ⟨_,o1',bind_of ⟨_,q1',bind_of ⟨_,d1',?_⟩⟩⟩⟩⟩⟩⟩
  refine bind_of (keyA.elim fun o' h=>h.elim fun q' h=>⟨_,h.1,?_⟩)
  refine bind_of (keyB.elim fun d' k=>⟨_,k.1,?_⟩)
  refine ⟨_,rfl,⟨g2,rfl,rfl,c2,⟨rfl,p2⟩,rfl,rfl,y2,?_,?_,?_⟩,y3⟩
  · exact ⟨h.2.1.1.trans ol,fun j hj=>by have:=h.2.1.2 j hj; rw [o2.2 j (by rw [← h.2.1.1]; exact hj)] at this; exact this⟩
  · exact ⟨h.2.2.1.trans ql,fun j hj=>by have:=h.2.2.2 j hj; rw [q2.2 j (by rw [← h.2.2.1]; exact hj)] at this; exact this⟩
  · exact ⟨k.2.1.trans dl,fun j hj=>by have:=k.2.2 j hj; rw [d2.2 j (by rw [← k.2.1]; exact hj)] at this; exact this⟩


theorem ifT {β σ:Type} {c:Bool} {A B:Option β} {g:σ→β} {P:σ→Prop} (hc:c = true) (h:∃ s,A = some (g s) ∧ P s):∃ s,(bif c then A else B) = some (g s) ∧ P s:=by rw [hc]; exact h
theorem sp178 (x:L Int) (h:x.len≤1048576):∃ r,g178r x = some ((r,()),()) ∧ SmL r x:=by
  unfold g178r
  exact ⟨_,bif_t (app0_fit _ _ h),app0 _ _⟩
theorem guest177 (g:Gu) (h1:g.1.len≤1048576) (h2:BndI g.2.2.1 1048576):∃ r:Gu,g177r g = some ((r,()),()) ∧ SmG r g:=by
  obtain ⟨y,y1,y2⟩:=ram130 g.2.2.1 h2.1 h2.2
  unfold g177r
  rw [bif_t (app0_fit _ _ h1),y1]
  exact ⟨_,rfl,app0 _ _,rfl,y2⟩
theorem dev179 (o:De) (h:o.1.len≤1048576 ∧ o.2.1.len≤1048576):∃ r:De,g179r o = some ((r,()),()) ∧ SmD r o:=by
  obtain ⟨y,y1,y2⟩:=sp178 o.1 h.1
  obtain ⟨z,z1,z2⟩:=sp178 o.2.1 h.2
  unfold g179r
  rw [y1,z1]
  exact ⟨_,rfl,y2,z2⟩

theorem part98 (s:St) (hb:BndS s 1048576):∃ r:St,g98r s = some ((r,()),()) ∧ SmS r s:=by
  obtain ⟨h1,h2,⟨h3,h3'⟩,h4,⟨h5,h5'⟩,⟨h6,h6'⟩,⟨h7,h7'⟩,h8,h8'⟩:=hb
  obtain ⟨g,g1,g2⟩:=guest177 s.1 h1 h2
  obtain ⟨y,y1,y2⟩:=ram130 (sBoot s) h5 h5'
  have keyA:∀ {b2_0 b2_1 b2_2 b2_3 b2_4 b2_5 b2_6 b2_7 b2_8 b2_9 b2_10 b2_11 b2_12 b2_13 b2_14 b2_15 b2_16 b2_17 b2_18 b2_19 b2_20 b2_21 b2_22 b2_23 b2_24 b2_25 b2_26 b3_1 b3_3 b3_4 b3_5 b3_6 b3_7 b3_8 b3_9 b3_10 b3_11 b3_12 b3_13 b3_14 b3_15 b3_16 b3_17 b3_19 b3_20 b3_21 b3_22 b3_23 b3_24 b3_25 b3_26 r1000704 r1000705:_},∃ r:L (L Wy),fixO s98r_L0 (((),((),((),((0:Int),())))),(s,((b2_0,(b2_1,(b2_2,(b2_3,(b2_4,(b2_5,(b2_6,(b2_7,(b2_8,(b2_9,(b2_10,(b2_11,(b2_12,(b2_13,(b2_14,(b2_15,(b2_16,(b2_17,(b2_18,(b2_19,(b2_20,(b2_21,(b2_22,(b2_23,(b2_24,(b2_25,(b2_26,()))))))))))))))))))))))))))),(((),(b3_1,((),(b3_3,(b3_4,(b3_5,(b3_6,(b3_7,(b3_8,(b3_9,(b3_10,(b3_11,(b3_12,(b3_13,(b3_14,(b3_15,(b3_16,(b3_17,((nilL (.sl (.pair (.int .i64) (.pair .bool .unit)))),(b3_19,(b3_20,(b3_21,(b3_22,(b3_23,(b3_24,(b3_25,(b3_26,()))))))))))))))))))))))))))),(r1000704,(r1000705,())))))) = some (.inl (((),((),((),()))),(s,(((),(b2_1,((),(b2_3,(b2_4,(b2_5,(b2_6,(b2_7,(b2_8,(b2_9,(b2_10,(b2_11,(b2_12,(b2_13,(b2_14,(b2_15,(b2_16,(b2_17,((),(b2_19,((),(b2_21,(b2_22,((),((),((),((),()))))))))))))))))))))))))))),(((),(b3_1,((),(b3_3,(b3_4,(b3_5,(b3_6,(b3_7,(b3_8,(b3_9,(b3_10,(b3_11,(b3_12,(b3_13,(b3_14,(b3_15,(b3_16,(b3_17,((),(b3_19,(b3_20,(b3_21,(b3_22,(b3_23,(b3_24,(b3_25,(b3_26,()))))))))))))))))))))))))))),(b2_0,(b2_2,(b2_18,(b2_20,(b2_23,(b2_24,(b2_25,(b2_26,(r1000704,(r1000705,(r,())))))))))))))))) ∧ r.len = s.2.2.2.1.2.1.len ∧ ∀ i,i < s.2.2.2.1.2.1.len→SmL (r.get i) (s.2.2.2.1.2.1.get i):=by
    intro b2_0 b2_1 b2_2 b2_3 b2_4 b2_5 b2_6 b2_7 b2_8 b2_9 b2_10 b2_11 b2_12 b2_13 b2_14 b2_15 b2_16 b2_17 b2_18 b2_19 b2_20 b2_21 b2_22 b2_23 b2_24 b2_25 b2_26 b3_1 b3_3 b3_4 b3_5 b3_6 b3_7 b3_8 b3_9 b3_10 b3_11 b3_12 b3_13 b3_14 b3_15 b3_16 b3_17 b3_19 b3_20 b3_21 b3_22 b3_23 b3_24 b3_25 b3_26 r1000704 r1000705
    exact snoc_n (step:=s98r_L0) s.2.2.2.1.2.1.len h3 (fun i r=>(((),((),((),((i:Int),())))),(s,((b2_0,(b2_1,(b2_2,(b2_3,(b2_4,(b2_5,(b2_6,(b2_7,(b2_8,(b2_9,(b2_10,(b2_11,(b2_12,(b2_13,(b2_14,(b2_15,(b2_16,(b2_17,(b2_18,(b2_19,(b2_20,(b2_21,(b2_22,(b2_23,(b2_24,(b2_25,(b2_26,()))))))))))))))))))))))))))),(((),(b3_1,((),(b3_3,(b3_4,(b3_5,(b3_6,(b3_7,(b3_8,(b3_9,(b3_10,(b3_11,(b3_12,(b3_13,(b3_14,(b3_15,(b3_16,(b3_17,(r,(b3_19,(b3_20,(b3_21,(b3_22,(b3_23,(b3_24,(b3_25,(b3_26,()))))))))))))))))))))))))))),(r1000704,(r1000705,()))))))) (fun r=>.inl (((),((),((),()))),(s,(((),(b2_1,((),(b2_3,(b2_4,(b2_5,(b2_6,(b2_7,(b2_8,(b2_9,(b2_10,(b2_11,(b2_12,(b2_13,(b2_14,(b2_15,(b2_16,(b2_17,((),(b2_19,((),(b2_21,(b2_22,((),((),((),((),()))))))))))))))))))))))))))),(((),(b3_1,((),(b3_3,(b3_4,(b3_5,(b3_6,(b3_7,(b3_8,(b3_9,(b3_10,(b3_11,(b3_12,(b3_13,(b3_14,(b3_15,(b3_16,(b3_17,((),(b3_19,(b3_20,(b3_21,(b3_22,(b3_23,(b3_24,(b3_25,(b3_26,()))))))))))))))))))))))))))),(b2_0,(b2_2,(b2_18,(b2_20,(b2_23,(b2_24,(b2_25,(b2_26,(r1000704,(r1000705,(r,())))))))))))))))) (Ty.zero (.sl (.pair (.int .i64) (.pair .bool .unit)))) (fun i q=>SmL q (s.2.2.2.1.2.1.get i))
      (fun i r hi hr=>⟨L.app (L.of (Ty.zero (.pair (.int .i64) (.pair .bool .unit))) []) (s.2.2.2.1.2.1.get i),by
        simp only [s98r_L0,q98r_L0]
        rw [bif_t (idx_lt hi),bif_t (idx_in hi),Int.toNat_natCast,bif_t (app0_fit _ _ (h3' i hi)),bif_t (snoc_fit _ _ _ (by omega)),wI_succ hi (by omega)],app0 _ _⟩)
      (fun r hr=>by
        simp only [s98r_L0,q98r_L0]
        rw [bif_f (idx_end _)]) (r0:=nilL (.sl (.pair (.int .i64) (.pair .bool .unit)))) rfl
  have keyB:∀ {b2_1 b2_3 b2_4 b2_5 b2_6 b2_7 b2_8 b2_9 b2_10 b2_11 b2_12 b2_13 b2_14 b2_15 b2_16 b2_17 b2_19 b2_21 b2_22 b3_1 b3_3 b3_4 b3_5 b3_6 b3_7 b3_8 b3_9 b3_10 b3_11 b3_12 b3_13 b3_14 b3_15 b3_16 b3_17 b3_19 b3_21 b3_22 b3_25 b3_26 r60128 r60130 r60146 r60148 r60151 r60152 r60153 r60154 r1000704 r1000705 r60210 r41 r1003200:_},∃ r:L Oe,fixO s98r_L2 (((),((),((),((0:Int),())))),(s,(((),(b2_1,((),(b2_3,(b2_4,(b2_5,(b2_6,(b2_7,(b2_8,(b2_9,(b2_10,(b2_11,(b2_12,(b2_13,(b2_14,(b2_15,(b2_16,(b2_17,((),(b2_19,((),(b2_21,(b2_22,((),((),((),((),()))))))))))))))))))))))))))),(((),(b3_1,((),(b3_3,(b3_4,(b3_5,(b3_6,(b3_7,(b3_8,(b3_9,(b3_10,(b3_11,(b3_12,(b3_13,(b3_14,(b3_15,(b3_16,(b3_17,((),(b3_19,((),(b3_21,(b3_22,((),((),(b3_25,(b3_26,()))))))))))))))))))))))))))),(r60128,(r60130,(r60146,(r60148,(r60151,(r60152,(r60153,(r60154,(r1000704,(r1000705,(r60210,(r41,(r1003200,((L.of (Ty.zero (.pair (.int .i64) (.pair (.sl (.int .u32)) .unit))) []),())))))))))))))))))) = some (.inl (((),((),((),()))),(s,(((),(b2_1,((),(b2_3,(b2_4,(b2_5,(b2_6,(b2_7,(b2_8,(b2_9,(b2_10,(b2_11,(b2_12,(b2_13,(b2_14,(b2_15,(b2_16,(b2_17,((),(b2_19,((),(b2_21,(b2_22,((),((),((),((),()))))))))))))))))))))))))))),(((),(b3_1,((),(b3_3,(b3_4,(b3_5,(b3_6,(b3_7,(b3_8,(b3_9,(b3_10,(b3_11,(b3_12,(b3_13,(b3_14,(b3_15,(b3_16,(b3_17,((),(b3_19,((),(b3_21,(b3_22,((),((),(b3_25,(b3_26,()))))))))))))))))))))))))))),(r60128,(r60130,(r60146,(r60148,(r60151,(r60152,(r60153,(r60154,(r1000704,(r1000705,(r60210,(r41,(r1003200,(r,()))))))))))))))))))) ∧ r.len = (sOuts s).len ∧ ∀ i,i < (sOuts s).len→SmO (r.get i) ((sOuts s).get i):=by
    intro b2_1 b2_3 b2_4 b2_5 b2_6 b2_7 b2_8 b2_9 b2_10 b2_11 b2_12 b2_13 b2_14 b2_15 b2_16 b2_17 b2_19 b2_21 b2_22 b3_1 b3_3 b3_4 b3_5 b3_6 b3_7 b3_8 b3_9 b3_10 b3_11 b3_12 b3_13 b3_14 b3_15 b3_16 b3_17 b3_19 b3_21 b3_22 b3_25 b3_26 r60128 r60130 r60146 r60148 r60151 r60152 r60153 r60154 r1000704 r1000705 r60210 r41 r1003200
    exact snoc_n (step:=s98r_L2) (sOuts s).len h6 (fun i r=>(((),((),((),((i:Int),())))),(s,(((),(b2_1,((),(b2_3,(b2_4,(b2_5,(b2_6,(b2_7,(b2_8,(b2_9,(b2_10,(b2_11,(b2_12,(b2_13,(b2_14,(b2_15,(b2_16,(b2_17,((),(b2_19,((),(b2_21,(b2_22,((),((),((),((),()))))))))))))))))))))))))))),(((),(b3_1,((),(b3_3,(b3_4,(b3_5,(b3_6,(b3_7,(b3_8,(b3_9,(b3_10,(b3_11,(b3_12,(b3_13,(b3_14,(b3_15,(b3_16,(b3_17,((),(b3_19,((),(b3_21,(b3_22,((),((),(b3_25,(b3_26,()))))))))))))))))))))))))))),(r60128,(r60130,(r60146,(r60148,(r60151,(r60152,(r60153,(r60154,(r1000704,(r1000705,(r60210,(r41,(r1003200,(r,()))))))))))))))))))) (fun r=>.inl (((),((),((),()))),(s,(((),(b2_1,((),(b2_3,(b2_4,(b2_5,(b2_6,(b2_7,(b2_8,(b2_9,(b2_10,(b2_11,(b2_12,(b2_13,(b2_14,(b2_15,(b2_16,(b2_17,((),(b2_19,((),(b2_21,(b2_22,((),((),((),((),()))))))))))))))))))))))))))),(((),(b3_1,((),(b3_3,(b3_4,(b3_5,(b3_6,(b3_7,(b3_8,(b3_9,(b3_10,(b3_11,(b3_12,(b3_13,(b3_14,(b3_15,(b3_16,(b3_17,((),(b3_19,((),(b3_21,(b3_22,((),((),(b3_25,(b3_26,()))))))))))))))))))))))))))),(r60128,(r60130,(r60146,(r60148,(r60151,(r60152,(r60153,(r60154,(r1000704,(r1000705,(r60210,(r41,(r1003200,(r,()))))))))))))))))))) (Ty.zero (.pair (.int .i64) (.pair (.sl (.int .u32)) .unit))) (fun i q=>SmO q ((sOuts s).get i))
      (fun i r hi hr=>by
        obtain ⟨v,v1,v2⟩:=sp178 ((sOuts s).get i).2.1 (h6' i hi)
        refine ⟨(((sOuts s).get i).1,(v,())),?_,rfl,v2⟩
        simp only [s98r_L2,q98r_L2]
        refine (bif_t (idx_lt hi)).trans ((bif_t (idx_in hi)).trans ((bif_t (idx_in hi)).trans ?_))
        rw [Int.toNat_natCast]
        refine bind_eq v1 ?_
        refine (bif_t (snoc_fit _ _ _ (by omega))).trans ?_
        rw [wI_succ hi (by omega)]
        rfl)
      (fun r hr=>by
        simp only [s98r_L2,q98r_L2]
        exact bif_f (idx_end _)) (r0:=L.of (Ty.zero (.pair (.int .i64) (.pair (.sl (.int .u32)) .unit))) []) rfl
  have keyC:∀ {b2_1 b2_3 b2_4 b2_5 b2_6 b2_7 b2_8 b2_9 b2_10 b2_11 b2_12 b2_13 b2_14 b2_15 b2_16 b2_17 b2_19 b2_21 b2_22 b3_1 b3_3 b3_4 b3_5 b3_6 b3_7 b3_8 b3_9 b3_10 b3_11 b3_12 b3_13 b3_14 b3_15 b3_16 b3_17 b3_19 b3_21 b3_22 b3_26 r60128 r60130 r60146 r60148 r60151 r60152 r60153 r60154 r1000704 r1000705 r60210 r41 r1003200 r52:_},∃ r:L Ie,fixO s98r_L4 (((),((),((),((0:Int),())))),(s,(((),(b2_1,((),(b2_3,(b2_4,(b2_5,(b2_6,(b2_7,(b2_8,(b2_9,(b2_10,(b2_11,(b2_12,(b2_13,(b2_14,(b2_15,(b2_16,(b2_17,((),(b2_19,((),(b2_21,(b2_22,((),((),((),((),()))))))))))))))))))))))))))),(((),(b3_1,((),(b3_3,(b3_4,(b3_5,(b3_6,(b3_7,(b3_8,(b3_9,(b3_10,(b3_11,(b3_12,(b3_13,(b3_14,(b3_15,(b3_16,(b3_17,((),(b3_19,((),(b3_21,(b3_22,((),((),((),(b3_26,()))))))))))))))))))))))))))),(r60128,(r60130,(r60146,(r60148,(r60151,(r60152,(r60153,(r60154,(r1000704,(r1000705,(r60210,(r41,(r1003200,(r52,((L.of (Ty.zero (.pair (.sl (.int .u32)) .unit)) []),()))))))))))))))))))) = some (.inl (((),((),((),()))),(s,(((),(b2_1,((),(b2_3,(b2_4,(b2_5,(b2_6,(b2_7,(b2_8,(b2_9,(b2_10,(b2_11,(b2_12,(b2_13,(b2_14,(b2_15,(b2_16,(b2_17,((),(b2_19,((),(b2_21,(b2_22,((),((),((),((),()))))))))))))))))))))))))))),(((),(b3_1,((),(b3_3,(b3_4,(b3_5,(b3_6,(b3_7,(b3_8,(b3_9,(b3_10,(b3_11,(b3_12,(b3_13,(b3_14,(b3_15,(b3_16,(b3_17,((),(b3_19,((),(b3_21,(b3_22,((),((),((),(b3_26,()))))))))))))))))))))))))))),(r60128,(r60130,(r60146,(r60148,(r60151,(r60152,(r60153,(r60154,(r1000704,(r1000705,(r60210,(r41,(r1003200,(r52,(r,())))))))))))))))))))) ∧ r.len = (sIns s).len ∧ ∀ i,i < (sIns s).len→SmI (r.get i) ((sIns s).get i):=by
    intro b2_1 b2_3 b2_4 b2_5 b2_6 b2_7 b2_8 b2_9 b2_10 b2_11 b2_12 b2_13 b2_14 b2_15 b2_16 b2_17 b2_19 b2_21 b2_22 b3_1 b3_3 b3_4 b3_5 b3_6 b3_7 b3_8 b3_9 b3_10 b3_11 b3_12 b3_13 b3_14 b3_15 b3_16 b3_17 b3_19 b3_21 b3_22 b3_26 r60128 r60130 r60146 r60148 r60151 r60152 r60153 r60154 r1000704 r1000705 r60210 r41 r1003200 r52
    exact snoc_n (step:=s98r_L4) (sIns s).len h7 (fun i r=>(((),((),((),((i:Int),())))),(s,(((),(b2_1,((),(b2_3,(b2_4,(b2_5,(b2_6,(b2_7,(b2_8,(b2_9,(b2_10,(b2_11,(b2_12,(b2_13,(b2_14,(b2_15,(b2_16,(b2_17,((),(b2_19,((),(b2_21,(b2_22,((),((),((),((),()))))))))))))))))))))))))))),(((),(b3_1,((),(b3_3,(b3_4,(b3_5,(b3_6,(b3_7,(b3_8,(b3_9,(b3_10,(b3_11,(b3_12,(b3_13,(b3_14,(b3_15,(b3_16,(b3_17,((),(b3_19,((),(b3_21,(b3_22,((),((),((),(b3_26,()))))))))))))))))))))))))))),(r60128,(r60130,(r60146,(r60148,(r60151,(r60152,(r60153,(r60154,(r1000704,(r1000705,(r60210,(r41,(r1003200,(r52,(r,())))))))))))))))))))) (fun r=>.inl (((),((),((),()))),(s,(((),(b2_1,((),(b2_3,(b2_4,(b2_5,(b2_6,(b2_7,(b2_8,(b2_9,(b2_10,(b2_11,(b2_12,(b2_13,(b2_14,(b2_15,(b2_16,(b2_17,((),(b2_19,((),(b2_21,(b2_22,((),((),((),((),()))))))))))))))))))))))))))),(((),(b3_1,((),(b3_3,(b3_4,(b3_5,(b3_6,(b3_7,(b3_8,(b3_9,(b3_10,(b3_11,(b3_12,(b3_13,(b3_14,(b3_15,(b3_16,(b3_17,((),(b3_19,((),(b3_21,(b3_22,((),((),((),(b3_26,()))))))))))))))))))))))))))),(r60128,(r60130,(r60146,(r60148,(r60151,(r60152,(r60153,(r60154,(r1000704,(r1000705,(r60210,(r41,(r1003200,(r52,(r,())))))))))))))))))))) (Ty.zero (.pair (.sl (.int .u32)) .unit)) (fun i q=>SmI q ((sIns s).get i))
      (fun i r hi hr=>by
        obtain ⟨v,v1,v2⟩:=sp178 ((sIns s).get i).1 (h7' i hi)
        refine ⟨(v,()),?_,v2⟩
        simp only [s98r_L4,q98r_L4]
        refine (bif_t (idx_lt hi)).trans ((bif_t (idx_in hi)).trans ?_)
        rw [Int.toNat_natCast]
        refine bind_eq v1 ?_
        refine (bif_t (snoc_fit _ _ _ (by omega))).trans ?_
        rw [wI_succ hi (by omega)])
      (fun r hr=>by
        simp only [s98r_L4,q98r_L4]
        exact bif_f (idx_end _)) (r0:=L.of (Ty.zero (.pair (.sl (.int .u32)) .unit)) []) rfl
  have keyD:∀ {b2_1 b2_3 b2_4 b2_5 b2_6 b2_7 b2_8 b2_9 b2_10 b2_11 b2_12 b2_13 b2_14 b2_15 b2_16 b2_17 b2_19 b2_21 b2_22 b3_1 b3_3 b3_4 b3_5 b3_6 b3_7 b3_8 b3_9 b3_10 b3_11 b3_12 b3_13 b3_14 b3_15 b3_16 b3_17 b3_19 b3_21 b3_22 r60128 r60130 r60146 r60148 r60151 r60152 r60153 r60154 r1000704 r1000705 r60210 r41 r1003200 r52 r80:_},∃ r:L De,fixO s98r_L6 (((),((),((),((0:Int),())))),(s,(((),(b2_1,((),(b2_3,(b2_4,(b2_5,(b2_6,(b2_7,(b2_8,(b2_9,(b2_10,(b2_11,(b2_12,(b2_13,(b2_14,(b2_15,(b2_16,(b2_17,((),(b2_19,((),(b2_21,(b2_22,((),((),((),((),()))))))))))))))))))))))))))),(((),(b3_1,((),(b3_3,(b3_4,(b3_5,(b3_6,(b3_7,(b3_8,(b3_9,(b3_10,(b3_11,(b3_12,(b3_13,(b3_14,(b3_15,(b3_16,(b3_17,((),(b3_19,((),(b3_21,(b3_22,((),((),((),((),()))))))))))))))))))))))))))),(r60128,(r60130,(r60146,(r60148,(r60151,(r60152,(r60153,(r60154,(r1000704,(r1000705,(r60210,(r41,(r1003200,(r52,(r80,((L.of (Ty.zero (.pair (.sl (.int .u32)) (.pair (.sl (.int .u32)) .unit))) []),())))))))))))))))))))) = some (.inl (((),((),())),(((),(b2_1,((),(b2_3,(b2_4,(b2_5,(b2_6,(b2_7,(b2_8,(b2_9,(b2_10,(b2_11,(b2_12,(b2_13,(b2_14,(b2_15,(b2_16,(b2_17,((),(b2_19,((),(b2_21,(b2_22,((),((),((),((),()))))))))))))))))))))))))))),(((),(b3_1,((),(b3_3,(b3_4,(b3_5,(b3_6,(b3_7,(b3_8,(b3_9,(b3_10,(b3_11,(b3_12,(b3_13,(b3_14,(b3_15,(b3_16,(b3_17,((),(b3_19,((),(b3_21,(b3_22,((),((),((),((),()))))))))))))))))))))))))))),(r60128,(r60130,(r60146,(r60148,(r60151,(r60152,(r60153,(r60154,(r1000704,(r1000705,(r60210,(r41,(r1003200,(r52,(r80,(r,())))))))))))))))))))) ∧ r.len = (sDevs s).len ∧ ∀ i,i < (sDevs s).len→SmD (r.get i) ((sDevs s).get i):=by
    intro b2_1 b2_3 b2_4 b2_5 b2_6 b2_7 b2_8 b2_9 b2_10 b2_11 b2_12 b2_13 b2_14 b2_15 b2_16 b2_17 b2_19 b2_21 b2_22 b3_1 b3_3 b3_4 b3_5 b3_6 b3_7 b3_8 b3_9 b3_10 b3_11 b3_12 b3_13 b3_14 b3_15 b3_16 b3_17 b3_19 b3_21 b3_22 r60128 r60130 r60146 r60148 r60151 r60152 r60153 r60154 r1000704 r1000705 r60210 r41 r1003200 r52 r80
    exact snoc_n (step:=s98r_L6) (sDevs s).len h8 (fun i r=>(((),((),((),((i:Int),())))),(s,(((),(b2_1,((),(b2_3,(b2_4,(b2_5,(b2_6,(b2_7,(b2_8,(b2_9,(b2_10,(b2_11,(b2_12,(b2_13,(b2_14,(b2_15,(b2_16,(b2_17,((),(b2_19,((),(b2_21,(b2_22,((),((),((),((),()))))))))))))))))))))))))))),(((),(b3_1,((),(b3_3,(b3_4,(b3_5,(b3_6,(b3_7,(b3_8,(b3_9,(b3_10,(b3_11,(b3_12,(b3_13,(b3_14,(b3_15,(b3_16,(b3_17,((),(b3_19,((),(b3_21,(b3_22,((),((),((),((),()))))))))))))))))))))))))))),(r60128,(r60130,(r60146,(r60148,(r60151,(r60152,(r60153,(r60154,(r1000704,(r1000705,(r60210,(r41,(r1003200,(r52,(r80,(r,()))))))))))))))))))))) (fun r=>.inl (((),((),())),(((),(b2_1,((),(b2_3,(b2_4,(b2_5,(b2_6,(b2_7,(b2_8,(b2_9,(b2_10,(b2_11,(b2_12,(b2_13,(b2_14,(b2_15,(b2_16,(b2_17,((),(b2_19,((),(b2_21,(b2_22,((),((),((),((),()))))))))))))))))))))))))))),(((),(b3_1,((),(b3_3,(b3_4,(b3_5,(b3_6,(b3_7,(b3_8,(b3_9,(b3_10,(b3_11,(b3_12,(b3_13,(b3_14,(b3_15,(b3_16,(b3_17,((),(b3_19,((),(b3_21,(b3_22,((),((),((),((),()))))))))))))))))))))))))))),(r60128,(r60130,(r60146,(r60148,(r60151,(r60152,(r60153,(r60154,(r1000704,(r1000705,(r60210,(r41,(r1003200,(r52,(r80,(r,())))))))))))))))))))) (Ty.zero (.pair (.sl (.int .u32)) (.pair (.sl (.int .u32)) .unit))) (fun i q=>SmD q ((sDevs s).get i))
      (fun i r hi hr=>by
        obtain ⟨v,v1,v2⟩:=dev179 ((sDevs s).get i) (h8' i hi)
        refine ⟨v,?_,v2⟩
        simp only [s98r_L6,q98r_L6]
        refine (bif_t (idx_lt hi)).trans ((bif_t (idx_in hi)).trans ?_)
        rw [Int.toNat_natCast]
        refine bind_eq v1 ?_
        refine (bif_t (snoc_fit _ _ _ (by omega))).trans ?_
        rw [wI_succ hi (by omega)])
      (fun r hr=>by
        simp only [s98r_L6,q98r_L6]
        exact bif_f (idx_end _)) (r0:=L.of (Ty.zero (.pair (.sl (.int .u32)) (.pair (.sl (.int .u32)) .unit))) []) rfl
  unfold g98r
  refine bind_of ⟨_,g1,?_⟩
  refine bind_of (keyA.elim fun rows hA=>⟨_,hA.1,?_⟩)
  have hfit:decide ((L.of (Ty.zero (.int .i64)) []).len + s.2.2.2.2.1.2.1.len≤most) = true:=app0_fit _ _ h4
  refine ifT hfit ?_
  refine bind_of ⟨_,y1,?_⟩
  refine bind_of (keyB.elim fun o hB=>⟨_,hB.1,?_⟩)
  refine bind_of (keyC.elim fun q hC=>⟨_,hC.1,?_⟩)
  refine bind_of (keyD.elim fun d hD=>⟨_,hD.1,?_⟩)
  exact ⟨_,rfl,g2,rfl,rfl,⟨rfl,hA.2.1,fun i hi=>hA.2.2 i (by rw [← hA.2.1]; exact hi)⟩,⟨rfl,app0 _ _⟩,rfl,rfl,y2,⟨hB.2.1,fun i hi=>hB.2.2 i (by rw [← hB.2.1]; exact hi)⟩,⟨hC.2.1,fun i hi=>hC.2.2 i (by rw [← hC.2.1]; exact hi)⟩,⟨hD.2.1,fun i hi=>hD.2.2 i (by rw [← hD.2.1]; exact hi)⟩⟩


theorem app_same {α:Type} {x y:L α} (z:L α) (h:SmL x y):SmL (L.app x z) (L.app y z):=by
  refine ⟨by show x.len + z.len = y.len + z.len; rw [h.1],fun i hi=>?_⟩
  have hi:i < x.len + z.len:=hi
  by_cases hx:i < x.len
  · rw [app_get_lt hx,app_get_lt (by rw [← h.1]; exact hx)]
    exact h.2 i hx
  · have e1:=app_get_ge (x:=x) (y:=z) (i:=i - x.len)
    have e2:=app_get_ge (x:=y) (y:=z) (i:=i - x.len)
    rw [show x.len + (i - x.len) = i by omega] at e1
    rw [← h.1,show x.len + (i - x.len) = i by omega] at e2
    rw [e1,e2]
def InputIs (d:De) (w:Int) (r:De) (f:Bool):Prop:=(d.1.len = 8 ∧ f = false ∧ SmD r d) ∨ (d.1.len ≠ 8 ∧ f = true ∧ SmL r.1 (L.app d.1 (L.of (Ty.zero (.int .u32)) [w])) ∧ SmL r.2.1 d.2.1)
theorem InputIs.same {d1 d2:De} {w:Int} {r1 r2:De} {f1 f2:Bool} (h:SmD d1 d2) (a:InputIs d1 w r1 f1) (b:InputIs d2 w r2 f2):f1 = f2 ∧ SmD r1 r2:=by
  rcases a with ⟨a1,rfl,a2⟩ | ⟨a1,rfl,a2,a3⟩ <;> rcases b with ⟨b1,rfl,b2⟩ | ⟨b1,rfl,b2,b3⟩
  · exact ⟨rfl,(a2.trans h).trans b2.symm⟩
  · rw [h.1.1] at a1; exact absurd a1 b1
  · rw [h.1.1] at a1; exact absurd b1 a1
  · exact ⟨rfl,(a2.trans (app_same _ h.1)).trans b2.symm,(a3.trans h.2).trans b3.symm⟩
theorem InputIs.bnd {d:De} {w:Int} {r:De} {f:Bool} (a:InputIs d w r f) (hd:d.1.len≤1000 ∧ d.2.1.len≤1000):r.1.len≤1048576 ∧ r.2.1.len≤1048576:=by
  rcases a with ⟨a1,rfl,a2⟩ | ⟨a1,rfl,a2,a3⟩
  · rw [a2.1.1,a2.2.1]; omega
  · have:r.1.len = d.1.len + 1:=a2.1
    rw [this,a3.1]; omega
theorem f180_le {d:De} (h:f180 d = true):d.1.len≤8 ∧ d.2.1.len≤8:=by
  unfold f180 at h
  simp at h
  omega
theorem wrap_u32 (n:Int):IntKind.wrap .u32 n = n % 4294967296:=by
  unfold IntKind.wrap
  simp [IntKind.bits,IntKind.signed]
theorem wrap_u64 (n:Int):IntKind.wrap .u64 n = n % 18446744073709551616:=by
  unfold IntKind.wrap
  simp [IntKind.bits,IntKind.signed]
theorem bit_or0 (n d:Nat) (hd:d < 32) (h:n / 2 ^ d % 2 = 0):(BitVec.ofNat 32 n ||| BitVec.ofNat 32 (2 ^ d)).toNat = (n + 2 ^ d) % 2 ^ 32:=by
  have e:BitVec.ofNat 32 (2 ^ d) = BitVec.twoPow 32 d:=by
    apply BitVec.eq_of_toNat_eq
    rw [BitVec.toNat_twoPow]
    rfl
  have hz:BitVec.ofNat 32 n &&&BitVec.ofNat 32 (2 ^ d) = 0:=by
    rw [e]
    ext i hi
    simp only [BitVec.getElem_and,BitVec.getElem_twoPow,BitVec.getElem_eq_testBit_toNat (BitVec.ofNat 32 n),BitVec.toNat_ofNat,Nat.testBit_mod_two_pow]
    by_cases hid:i = d
    · subst hid
      have:n.testBit i = false:=by
        rw [Nat.testBit_eq_decide_div_mod_eq,h]; rfl
      simp [this,hi]
    · simp [hid,Ne.symm hid]
  rw [← BitVec.add_eq_or_of_and_eq_zero _ _ hz]
  simp [BitVec.toNat_add]
theorem bit_or1 (n d:Nat) (hn:n < 2 ^ 32) (hd:d < 32) (h:n / 2 ^ d % 2 = 1):(BitVec.ofNat 32 n ||| BitVec.ofNat 32 (2 ^ d)).toNat = n:=by
  have e:BitVec.ofNat 32 (2 ^ d) = BitVec.twoPow 32 d:=by
    apply BitVec.eq_of_toNat_eq
    rw [BitVec.toNat_twoPow]
    rfl
  have:BitVec.ofNat 32 n ||| BitVec.ofNat 32 (2 ^ d) = BitVec.ofNat 32 n:=by
    rw [e]
    ext i hi
    simp only [BitVec.getElem_or,BitVec.getElem_twoPow,BitVec.getElem_eq_testBit_toNat (BitVec.ofNat 32 n),BitVec.toNat_ofNat,Nat.testBit_mod_two_pow]
    by_cases hid:i = d
    · subst hid
      have:n.testBit i = true:=by
        rw [Nat.testBit_eq_decide_div_mod_eq,h]; rfl
      simp [this,hi]
    · have hid':¬ d = i:=fun e=>hid e.symm
      simp [hid,hid']
  rw [this]
  simp; omega
theorem shl1 {d:Nat} (hd:d≤31):shlOf .u32 1 (d:Int) = ((2 ^ d:Nat):Int):=by
  have h1:2 ^ d≤2 ^ 31:=Nat.pow_le_pow_right (by omega) hd
  have h2:(2:Nat) ^ 31 = 2147483648:=by decide
  have e:(1:Int) * 2 ^ d = ((2 ^ d:Nat):Int):=by simp
  unfold shlOf
  rw [Int.toNat_natCast,show min d IntKind.u32.bits = d by simp [IntKind.bits]; omega,wrap_u32,e]
  generalize 2 ^ d = m at *
  omega
theorem shr1 {n d:Nat} (hd:d≤31):shrOf .u32 (n:Int) (d:Int) = ((n / 2 ^ d:Nat):Int):=by
  unfold shrOf
  rw [Int.toNat_natCast,show min d IntKind.u32.bits = d by simp [IntKind.bits]; omega]
  have:((2:Int) ^ d) = ((2 ^ d:Nat):Int):=by simp
  rw [this,Int.fdiv_eq_ediv_of_nonneg _ (Int.natCast_nonneg _)]
  rfl
theorem and1 {n:Nat} (hn:n < 2 ^ 63):andOf .i64 (n:Int) 1 = ((n % 2:Nat):Int):=by
  have e:(BitVec.ofInt 64 (n:Int) &&&BitVec.ofInt 64 1).toNat = n % 2:=by
    rw [BitVec.toNat_and]
    have:BitVec.ofInt 64 (n:Int) = BitVec.ofNat 64 n:=by simp
    rw [this,BitVec.toNat_ofNat]
    rw [show (BitVec.ofInt 64 1).toNat = 1 by decide,Nat.and_one_is_mod]
    omega
  show wI (((BitVec.ofInt 64 (n:Int) &&&BitVec.ofInt 64 1).toNat:Nat):Int) = _
  rw [e]
  exact wI_id (n:=((n % 2:Nat):Int)) (by omega) (by omega)
theorem setBit {n d:Nat} (hn:n < 2 ^ 32) (hd:d≤31):orOf .u32 (n:Int) (shlOf .u32 1 (d:Int)) = if n / 2 ^ d % 2 = 0 then IntKind.wrap .u32 ((n:Int) + shlOf .u32 1 (d:Int)) else (n:Int):=by
  rw [shl1 hd]
  show IntKind.wrap .u32 (((BitVec.ofInt 32 (n:Int) ||| BitVec.ofInt 32 (((2 ^ d:Nat):Int))).toNat:Nat):Int) = _
  have e1:BitVec.ofInt 32 (n:Int) = BitVec.ofNat 32 n:=by simp
  have e2:BitVec.ofInt 32 (((2 ^ d:Nat):Int)) = BitVec.ofNat 32 (2 ^ d):=by
    rw [BitVec.ofInt_natCast]
  rw [e1,e2]
  have h32:(2:Nat) ^ 32 = 4294967296:=by decide
  by_cases h:n / 2 ^ d % 2 = 0
  · rw [if_pos h,bit_or0 n d (by omega) h,wrap_u32,wrap_u32,h32]
    generalize 2 ^ d = m at *
    omega
  · rw [if_neg h,bit_or1 n d hn (by omega) (by omega),wrap_u32]
    omega


def OpenIs (d r:De) (f:Bool):Prop:=∃ n,n = min d.1.len (8 - d.2.1.len) ∧ f = decide (0 < n) ∧ (r.1.len = d.1.len - n ∧ ∀ j,j < d.1.len - n→r.1.get j = d.1.get (n + j)) ∧ r.2.1.len = d.2.1.len + n ∧ (∀ j,j < d.2.1.len→r.2.1.get j = d.2.1.get j) ∧ ∀ j,j < n→r.2.1.get (d.2.1.len + j) = d.1.get j
theorem OpenIs.same {d1 d2 r1 r2:De} {f1 f2:Bool} (h:SmD d1 d2) (a:OpenIs d1 r1 f1) (b:OpenIs d2 r2 f2):f1 = f2 ∧ SmD r1 r2:=by
  obtain ⟨n,hn,rfl,⟨a1,a2⟩,a3,a4,a5⟩:=a
  obtain ⟨m,hm,rfl,⟨b1,b2⟩,b3,b4,b5⟩:=b
  have e1:=h.1.1
  have e2:=h.2.1
  have:n = m:=by omega
  subst this
  refine ⟨rfl,⟨by omega,fun i hi=>?_⟩,by omega,fun i hi=>?_⟩
  · rw [a2 i (by omega),b2 i (by omega)]
    exact h.1.2 _ (by omega)
  · by_cases hs:i < d1.2.1.len
    · rw [a4 i hs,b4 i (by omega)]
      exact h.2.2 i hs
    · have ea:=a5 (i - d1.2.1.len) (by omega)
      have eb:=b5 (i - d1.2.1.len) (by omega)
      rw [show d1.2.1.len + (i - d1.2.1.len) = i by omega] at ea
      rw [← e2,show d1.2.1.len + (i - d1.2.1.len) = i by omega] at eb
      rw [ea,eb]
      exact h.1.2 _ (by omega)
theorem OpenIs.bnd {d r:De} {f:Bool} (a:OpenIs d r f) (h:d.1.len≤8 ∧ d.2.1.len≤8):r.1.len≤8 ∧ r.2.1.len≤8:=by
  obtain ⟨n,hn,rfl,⟨a1,a2⟩,a3,a4,a5⟩:=a
  omega

theorem open203 (d:De) (h:f180 d = true):∃ (r:De) (f:Bool),g203r d = some ((r,(f,())),()) ∧ OpenIs d r f:=by
  have hl:=f180_le h
  obtain ⟨y,y1,y2⟩:=dev179 d ⟨by omega,by omega⟩
  have hy1:=y2.1.1
  have hy2:=y2.2.1
  have key:∀ {b2_0 b2_1:_},∃ (l s:L Int) (f:Bool),fixO s203r_L0 (((),((),(false,()))),((b2_0,(b2_1,())),((y.1,((),())),(y.2.1,())))) = some (.inl (((),((),(f,()))),(((),((),())),(((),((),())),(b2_0,(b2_1,(l,(s,())))))))) ∧ OpenIs d (l,(s,())) f:=by
    intro b2_0 b2_1
    obtain ⟨z,z1,l,s,f,rfl,z2⟩:=loop_n (step:=s203r_L0) (min d.1.len (8 - d.2.1.len))
      (fun i z=>∃ (l s:L Int),z = (((),((),((decide (0 < i)),()))),((b2_0,(b2_1,())),((l,((),())),(s,())))) ∧ (l.len = d.1.len - i ∧ ∀ j,j < d.1.len - i→l.get j = d.1.get (i + j)) ∧ s.len = d.2.1.len + i ∧ (∀ j,j < d.2.1.len→s.get j = d.2.1.get j) ∧ ∀ j,j < i→s.get (d.2.1.len + j) = d.1.get j)
      (fun z=>∃ (l s:L Int) (f:Bool),z = .inl (((),((),(f,()))),(((),((),())),(((),((),())),(b2_0,(b2_1,(l,(s,()))))))) ∧ OpenIs d (l,(s,())) f)
      (by
        rintro i _ hi ⟨l,s,rfl,⟨l1,l2⟩,s1,s2,s3⟩
        have hs8:decide ((s.len:Int) < (8:Int)) = true:=by simp; omega
        have hl0:decide ((l.len:Int) > (0:Int)) = true:=by simp; omega
        have hl0':decide ((0:Int) < (l.len:Int)) = true:=by simp; omega
        obtain ⟨v,v1,v2⟩:=sp178 (L.cut l (1:Int).toNat (l.len:Int).toNat) (by show (l.len:Int).toNat - 1≤_; omega)
        have vl:v.len = l.len - 1:=v2.1
        refine .inl ⟨_,?_,v,L.app s (L.of (Ty.zero (.int .u32)) [(L.get l (0:Int).toNat)]),rfl,⟨by omega,fun j hj=>?_⟩,by show s.len + 1 = _; omega,fun j hj=>?_,fun j hj=>?_⟩
        · simp only [s203r_L0,q203r_L0]
          refine (bif_t hs8).trans ((bif_t hl0).trans ((bif_t hl0').trans ((bif_t (snoc_fit _ _ _ (by omega))).trans ((bif_t (by simp; omega)).trans (bind_eq v1 ?_)))))
          rw [show decide (0 < i + 1) = true by simp]
        · have e:=v2.2 j (by omega)
          have e':(L.cut l (1:Int).toNat (l.len:Int).toNat).get j = l.get (1 + j):=rfl
          rw [e,e',l2 (1 + j) (by omega)]
          congr 1; omega
        · rw [snoc_lt _ _ _ (by omega)]; exact s2 j hj
        · rcases Nat.lt_or_eq_of_le (Nat.le_of_lt_succ hj) with e | rfl
          · rw [snoc_lt _ _ _ (by omega)]; exact s3 j e
          · rw [snoc_at _ _ _ s1]
            exact l2 0 (by omega))
      (by
        rintro _ ⟨l,s,rfl,⟨l1,l2⟩,s1,s2,s3⟩
        refine ⟨_,?_,l,s,_,rfl,_,rfl,rfl,⟨l1,l2⟩,s1,s2,s3⟩
        simp only [s203r_L0,q203r_L0]
        by_cases hs:s.len < 8
        · have hs8:decide ((s.len:Int) < (8:Int)) = true:=by simp; omega
          have hl0:decide ((l.len:Int) > (0:Int)) = false:=by simp; omega
          exact (bif_t hs8).trans (bif_f hl0)
        · exact bif_f (by simp; omega))
      (((),((),((decide (0 < 0)),()))),((b2_0,(b2_1,())),((y.1,((),())),(y.2.1,())))) ⟨y.1,y.2.1,rfl,⟨by omega,fun j hj=>by rw [Nat.zero_add]; exact y2.1.2 j (by omega)⟩,by omega,fun j hj=>y2.2.2 j (by omega),fun j hj=>absurd hj (Nat.not_lt_zero j)⟩
    exact ⟨l,s,f,z1,z2⟩
  unfold g203r
  rw [h]
  simp only [Bool.not_true,cond_false]
  rw [y1,Option.bind_some]
  obtain ⟨l,s,f,k1,k2⟩:=key (b2_0:=nilL (.int .u32)) (b2_1:=nilL (.int .u32))
  exact ⟨(l,(s,())),f,bind_eq k1 rfl,k2⟩

theorem fixO_step {X D:Type} {step:X→Option (X⊕D)} {x y:X} (h:step x = some (.inl y)):fixO step x = fixO step y:=by rw [fixO_unfold,h]
theorem fixO_end {X D:Type} {step:X→Option (X⊕D)} {x:X} {d:D} (h:step x = some (.inr d)):fixO step x = some d:=by rw [fixO_unfold,h]
theorem concat261 (x y:L Int) (hx:x.len≤1000) (hy:y.len≤1000):∃ r,g261r (L.of (Ty.zero (.sl (.int .u32))) [x,y]) = some ((r,()),()) ∧ r.len = x.len + y.len ∧ (∀ j,j < x.len→r.get j = x.get j) ∧ ∀ j,j < y.len→r.get (x.len + j) = y.get j:=by
  generalize hX:L.of (Ty.zero (.sl (.int .u32))) [x,y] = X
  have X0:L.get X (0:Int).toNat = x:=by rw [← hX]; rfl
  have X1:L.get X (1:Int).toNat = y:=by rw [← hX]; rfl
  have Xl:(X.len:Int) = 2:=by rw [← hX]; rfl
  have t0:decide ((0:Int) < (2:Int)) = true:=rfl
  have t1:decide ((1:Int) < (2:Int)) = true:=rfl
  have i0:(decide ((0:Int)≤(0:Int))&&decide ((0:Int) < (2:Int))) = true:=rfl
  have i1:(decide ((0:Int)≤(1:Int))&&decide ((1:Int) < (2:Int))) = true:=rfl
  have f2:decide ((2:Int) < (2:Int)) = false:=rfl
  have hm:most = 4294967296:=rfl
  have a1:fixO s261r_L0 ((X,((0:Int),(X,((X.len:Int),((0:Int),()))))),()) = some (.inl ((X,(((x.len + y.len:Nat):Int),())),())):=by
    rw [Xl]
    have e0:s261r_L0 ((X,((0:Int),(X,((2:Int),((0:Int),()))))),()) = some (.inl ((X,((x.len:Int),(X,((2:Int),((1:Int),()))))),())):=by
      simp only [s261r_L0,q261r_L0]
      rw [Xl,bif_t t0,bif_t i0,X0,wI_id (n:=0 + (x.len:Int)) (by omega) (by omega),bif_f (by simp),wI_id (n:=0 + 1) (by omega) (by omega),Int.zero_add,Int.zero_add]
    have e1:s261r_L0 ((X,((x.len:Int),(X,((2:Int),((1:Int),()))))),()) = some (.inl ((X,(((x.len + y.len:Nat):Int),(X,((2:Int),((2:Int),()))))),())):=by
      simp only [s261r_L0,q261r_L0]
      rw [Xl,bif_t t1,bif_t i1,X1,wI_id (n:=(x.len:Int) + (y.len:Int)) (by omega) (by omega),bif_f (by simp; omega),wI_id (n:=1 + 1) (by omega) (by omega)]
      rfl
    have e2:s261r_L0 ((X,(((x.len + y.len:Nat):Int),(X,((2:Int),((2:Int),()))))),()) = some (.inr (.inl ((X,(((x.len + y.len:Nat):Int),())),()))):=by
      simp only [s261r_L0,q261r_L0]
      rw [bif_f f2]
    exact (fixO_step e0).trans ((fixO_step e1).trans (fixO_end e2))
  have a2:∃ g:L Int,g313rn ((x.len + y.len:Nat):Int) = some ((g,()),()) ∧ g.len = 0:=by
    unfold g313rn
    rw [bif_f (by simp; omega),wI_id (by omega) (by omega)]
    by_cases h0:x.len + y.len = 0
    · rw [bif_f (by rw [h0]; rfl)]
      exact ⟨_,rfl,rfl⟩
    · rw [bif_t (by simp; omega),bif_t (by rw [hm]; simp; omega),bif_t (by simp [L.rep]; omega)]
      exact ⟨_,rfl,rfl⟩
  obtain ⟨g,a2,g0⟩:=a2
  have a3:fixO s261r_L2 (((),(X,((X.len:Int),((0:Int),())))),(g,())) = some (.inl (((),()),(L.app (L.app g x) y,()))):=by
    rw [Xl]
    have e0:s261r_L2 (((),(X,((2:Int),((0:Int),())))),(g,())) = some (.inl (((),(X,((2:Int),((1:Int),())))),(L.app g x,()))):=by
      simp only [s261r_L2,q261r_L2]
      rw [Xl,bif_t t0,bif_t i0,X0,bif_t (by rw [hm]; simp; omega),wI_id (n:=0 + 1) (by omega) (by omega),Int.zero_add]
    have e1:s261r_L2 (((),(X,((2:Int),((1:Int),())))),(L.app g x,())) = some (.inl (((),(X,((2:Int),((2:Int),())))),(L.app (L.app g x) y,()))):=by
      have hl:(L.app g x).len = g.len + x.len:=rfl
      simp only [s261r_L2,q261r_L2]
      rw [Xl,bif_t t1,bif_t i1,X1,bif_t (by rw [hm,hl]; simp; omega),wI_id (n:=1 + 1) (by omega) (by omega)]
      rfl
    have e2:s261r_L2 (((),(X,((2:Int),((2:Int),())))),(L.app (L.app g x) y,())) = some (.inr (.inl (((),()),(L.app (L.app g x) y,())))):=by
      simp only [s261r_L2,q261r_L2]
      rw [bif_f f2]
    exact (fixO_step e0).trans ((fixO_step e1).trans (fixO_end e2))
  have gl:(L.app g x).len = x.len:=by show g.len + x.len = _; omega
  have gx:∀ j,(L.app g x).get j = x.get j:=fun j=>by
    have:=app_get_ge (x:=g) (y:=x) (i:=j)
    rwa [g0,Nat.zero_add] at this
  refine ⟨L.app (L.app g x) y,?_,by show (L.app g x).len + y.len = _; rw [gl],fun j hj=>?_,fun j hj=>?_⟩
  · unfold g261r
    exact bind_eq a1 (bind_eq a2 (bind_eq a3 rfl))
  · rw [app_get_lt (by rw [gl]; exact hj),gx]
  · have:=app_get_ge (x:=L.app g x) (y:=y) (i:=j)
    rwa [gl] at this

theorem open205 (d:De) (h:d.1.len≤8 ∧ d.2.1.len≤8):∃ (r:De) (f:Bool),g205p d = some ((f,()),(r,())) ∧ OpenIs d r f:=by
  have eN:(if (wI ((8:Int) - (d.2.1.len:Int))) < (d.1.len:Int) then (wI ((8:Int) - (d.2.1.len:Int))) else (d.1.len:Int)) = ((min d.1.len (8 - d.2.1.len):Nat):Int):=by
    rw [wI_id (by omega) (by omega)]
    split <;> omega
  unfold g205p
  rw [eN]
  generalize hn:min d.1.len (8 - d.2.1.len) = n
  have hn1:n≤d.1.len:=by omega
  obtain ⟨r,r1,r2,r3,r4⟩:=concat261 d.2.1 (L.cut d.1 (0:Int).toNat (n:Int).toNat) (by omega) (by show (n:Int).toNat - 0≤_; omega)
  have cl:(L.cut d.1 (0:Int).toNat (n:Int).toNat).len = n:=by show (n:Int).toNat - 0 = _; omega
  refine ⟨(L.cut d.1 (n:Int).toNat (d.1.len:Int).toNat,(r,())),decide ((n:Int) > 0),?_,n,hn.symm,by simp,⟨by show (d.1.len:Int).toNat - (n:Int).toNat = _; omega,fun j hj=>by show d.1.get ((n:Int).toNat + j) = _; rw [Int.toNat_natCast]⟩,by rw [cl] at r2; exact r2,r3,fun j hj=>?_⟩
  · exact (bif_t (by simp; omega)).trans (bind_eq r1 ((bif_t (by simp; omega)).trans rfl))
  · rw [cl] at r4
    have:=r4 j hj
    rw [this]
    show d.1.get (0 + j) = _
    rw [Nat.zero_add]


def pend (v:Vi):Int:=v.2.2.2.2.2.2.2.1
def PendOk (v:Vi):Prop:=0≤pend v ∧ pend v < 4294967296
def holdV (v:Vi) (i:Nat):Vi:=(v.1,(v.2.1,(v.2.2.1,(v.2.2.2.1,(v.2.2.2.2.1,(v.2.2.2.2.2.1,(v.2.2.2.2.2.2.1,((orOf .u32 v.2.2.2.2.2.2.2.1 (shlOf .u32 (1:Int) (i:Int))),()))))))))
theorem holdV_ok (v:Vi) (i:Nat):PendOk (holdV v i):=by
  show 0≤IntKind.wrap .u32 _ ∧ IntKind.wrap .u32 _ < _
  rw [wrap_u32]
  omega
theorem hold206 (v:Vi) {i:Nat} (hi:i≤31):g206 v (i:Int) = some ((holdV v i,()),()):=by
  unfold g206
  rw [show f136 = f97 from rfl,bif_t ((f97_iff _ _ _).mpr (by omega)),bif_t (by simp)]
  rfl
theorem hold204 (v:Vi) {i:Nat} (hi:i≤31) (hp:PendOk v):g204 v (i:Int) = some ((holdV v i,()),()):=by
  obtain ⟨p0,p1⟩:=hp
  have e64:IntKind.wrap .u64 (i:Int) = (i:Int):=by rw [wrap_u64]; omega
  have h64:decide (0≤(i:Int)) = true:=by simp
  have hn:v.2.2.2.2.2.2.2.1 = ((pend v).toNat:Int):=by show pend v = _; omega
  have hb := setBit (n := (pend v).toNat) (d := i) (by have : (2 : Nat) ^ 32 = 4294967296 := by decide
                                                       omega) hi
  have hbit:andOf .i64 (wI (shrOf .u32 v.2.2.2.2.2.2.2.1 (i:Int))) 1 = (((pend v).toNat / 2 ^ i % 2:Nat):Int):=by
    have hle:(pend v).toNat / 2 ^ i≤(pend v).toNat:=Nat.div_le_self _ _
    rw [hn,shr1 hi]
    generalize (pend v).toNat / 2 ^ i = m at *
    rw [wI_id (by omega) (by omega),and1 (by omega)]
  unfold g204 g260
  rw [bif_t ((f97_iff _ _ _).mpr (by omega)),e64,bif_t h64,Option.bind_some]
  unfold holdV
  rw [hbit]
  by_cases h:(pend v).toNat / 2 ^ i % 2 = 0
  · rw [if_pos h] at hb
    rw [h]
    refine (bif_t rfl).trans ((bif_t h64).trans ?_)
    rw [hn,hb]
  · rw [if_neg h] at hb
    rw [(Nat.mod_two_eq_zero_or_one _).resolve_left h]
    refine (bif_f rfl).trans ?_
    rw [hn,hb,← hn]
def vAt (t:Tb) (p:Int) (d:L De) (v:Vi):Nat→Vi
  | 0=>v
  | i + 1=>if (tDevs t).get i = p ∧ 0 < min (d.get i).1.len (8 - (d.get i).2.1.len) then holdV (vAt t p d v i) i else vAt t p d v i
theorem vAt_same {t:Tb} {p:Int} {d e:L De} {v:Vi} (h:SmR SmD d e):∀ i,i≤d.len→vAt t p d v i = vAt t p e v i
  | 0,_=>rfl
  | i + 1,hi=>by
    simp only [vAt]
    rw [vAt_same h i (by omega),(h.2 i hi).1.1,(h.2 i hi).2.1]
def DevsAre (t:Tb) (p:Int) (h:Bool) (d r:L De):Prop:=r.len = d.len ∧ ∀ i,i < d.len→((h = true ∨ (tDevs t).get i ≠ p) ∧ r.get i = d.get i) ∨ (h = false ∧ (tDevs t).get i = p ∧ ∃ f,OpenIs (d.get i) (r.get i) f)
theorem DevsAre.same {t:Tb} {p:Int} {h:Bool} {d e r q:L De} (hde:SmR SmD d e) (a:DevsAre t p h d r) (b:DevsAre t p h e q):SmR SmD r q:=by
  refine ⟨a.1.trans (hde.1.trans b.1.symm),fun i hi=>?_⟩
  have hd:i < d.len:=by rw [← a.1]; exact hi
  have he:i < e.len:=by rw [← hde.1]; exact hd
  rcases a.2 i hd with ⟨a1,a2⟩ | ⟨a1,a2,f,a3⟩ <;> rcases b.2 i he with ⟨b1,b2⟩ | ⟨b1,b2,g,b3⟩
  · rw [a2,b2]; exact hde.2 i hd
  · rcases a1 with a1 | a1
    · rw [a1] at b1; cases b1
    · exact absurd b2 a1
  · rcases b1 with b1 | b1
    · rw [b1] at a1; cases a1
    · exact absurd a2 b1
  · exact (OpenIs.same (hde.2 i hd) a3 b3).2
structure SlotIs (t:Tb) (p:Int) (s:St) (cy:Int) (r:St):Prop where
  gu:r.1 = s.1
  vi:r.2.1 = if s.2.2.1.2.2.2.1 = true then s.2.1 else vAt t p (sDevs s) s.2.1 (sDevs s).len
  he:r.2.2.1 = s.2.2.1
  ca:NoneC t.2.1 r.2.2.2.1
  tl:r.2.2.2.2.1.1 = t.2.2.1 ∧ r.2.2.2.2.1.2.1.len = 0
  nx:r.2.2.2.2.2.1 = wI (cy + t.2.2.2.2.1)
  id:r.2.2.2.2.2.2.1 = false
  bo:sBoot r = sBoot s
  ou:sOuts r = sOuts s
  is:sIns r = sIns s
  de:DevsAre t p s.2.2.1.2.2.2.1 (sDevs s) (sDevs r)
theorem SlotIs.same {t:Tb} {p cy:Int} {s1 s2 r1 r2:St} (h:SmS s1 s2) (a:SlotIs t p s1 cy r1) (b:SlotIs t p s2 cy r2):SmS r1 r2 :=
  ⟨by rw [a.gu,b.gu]; exact h.gu,by rw [a.vi,b.vi,h.he,h.vi,vAt_same h.de _ (Nat.le_refl _),h.de.1],by rw [a.he,b.he]; exact h.he,a.ca.same b.ca,⟨a.tl.1.trans b.tl.1.symm,sml0 a.tl.2 b.tl.2⟩,a.nx.trans b.nx.symm,a.id.trans b.id.symm,
   by rw [a.bo,b.bo]; exact h.bo,by rw [a.ou,b.ou]; exact h.ou,by rw [a.is,b.is]; exact h.is,DevsAre.same h.de a.de (by have:=b.de; rw [← h.he] at this; exact this)⟩
theorem SlotIs.bnd {t:Tb} {p cy:Int} {s r:St} (h:SlotIs t p s cy r) (hF:Facts t) (hb:BndS s 1048576) (hd:∀ i,i < (sDevs s).len→(tDevs t).get i = p→((sDevs s).get i).1.len≤8 ∧ ((sDevs s).get i).2.1.len≤8):BndS r 1048576:=by
  obtain ⟨h1,h2,h3,h4,h5,h6,h7,h8,h8'⟩:=hb
  have hs:=shape_le hF.2.2.2.2.1
  refine ⟨by rw [h.gu]; exact h1,by rw [h.gu]; exact h2,⟨by rw [h.ca.2.1]; omega,fun i hi=>by rw [h.ca.2.2 i hi]; omega⟩,by rw [h.tl.2]; omega,by rw [h.bo]; exact h5,by rw [h.ou]; exact h6,by rw [h.is]; exact h7,by rw [h.de.1]; exact h8,fun i hi=>?_⟩
  have hi':i < (sDevs s).len:=by rw [← h.de.1]; exact hi
  rcases h.de.2 i hi' with ⟨_,e⟩ | ⟨_,e,f,q⟩
  · rw [e]; exact h8' i hi'
  · have:=q.bnd (hd i hi' e); omega
theorem hasDev109 (t:Tb) (p:Int) (hd:(tDevs t).len≤1048576) {i:Nat} (hi:i < (tDevs t).len):g109 t p (i:Int) = some ((((tDevs t).get i == p),()),()):=by
  have ed:(t.2.2.2.2.2.2.2.2.1.len:Int) = (tDevs t).len:=rfl
  unfold g109
  rw [show f136 = f97 from rfl,ed,wI_id (by omega) (by omega),bif_t ((f97_iff _ _ _).mpr (by omega)),bif_t (idx_in hi),Int.toNat_natCast]
  rfl

theorem slot114 (t:Tb) (p:Int) (s:St) (cy:Int) (hs:g127 t = some ((true,()),())) (hF:Facts t) (hl:(sDevs s).len = (tDevs t).len) (hd8:(tDevs t).len≤8) (hok:∀ j,j < (tDevs t).len→(tDevs t).get j = p→f180 ((sDevs s).get j) = true) (hp:PendOk s.2.1):∃ r:St,g114p t p s cy = some ((),(r,())) ∧ SlotIs t p s cy r:=by
  obtain ⟨c,c1,c2⟩:=cache34 t.2.1 hF.2.2.2.2.1
  have e35:f35r t.2.2.1 = (t.2.2.1,((nilL (.int .i64)),())):=by unfold f35r; rw [tlb_of hs]; rfl
  unfold g114p
  refine bind_of ⟨_,c1,?_⟩
  rw [e35]
  cases hh:s.2.2.1.2.2.2.1 with
  | true =>
    have key:∀ {b100000128_1 b100000128_3 b100000128_4 b100000128_5 b100000128_6 b100000128_7 b100000128_8 b100000128_9 b100000128_10 b100000128_11 b100000128_12 b100000128_13 b100000128_15 b100000128_16 b100000128_17 b100000128_19 b100000128_21 b100000128_22 r100000129 r100000130 r1000896 r1001280 r100000133 r100000134 r100000135 r100000136:_},fixO s114p_L0 ((p,((),((),((0:Int),())))),(((),(b100000128_1,((),(b100000128_3,(b100000128_4,(b100000128_5,(b100000128_6,(b100000128_7,(b100000128_8,(b100000128_9,(b100000128_10,(b100000128_11,(b100000128_12,(b100000128_13,(true,(b100000128_15,(b100000128_16,(b100000128_17,((),(b100000128_19,((),(b100000128_21,(b100000128_22,((),((),((),((),()))))))))))))))))))))))))))),(t,(r100000129,(r100000130,(r1000896,(r1001280,(r100000133,(r100000134,(r100000135,(r100000136,()))))))))))) = some (.inl ((),(((),(b100000128_1,((),(b100000128_3,(b100000128_4,(b100000128_5,(b100000128_6,(b100000128_7,(b100000128_8,(b100000128_9,(b100000128_10,(b100000128_11,(b100000128_12,(b100000128_13,(true,(b100000128_15,(b100000128_16,(b100000128_17,((),(b100000128_19,((),(b100000128_21,(b100000128_22,((),((),((),((),()))))))))))))))))))))))))))),(r100000129,(r100000130,(r1000896,(r1001280,(r100000133,(r100000134,(r100000135,(r100000136,()))))))))))):=by
      intro b100000128_1 b100000128_3 b100000128_4 b100000128_5 b100000128_6 b100000128_7 b100000128_8 b100000128_9 b100000128_10 b100000128_11 b100000128_12 b100000128_13 b100000128_15 b100000128_16 b100000128_17 b100000128_19 b100000128_21 b100000128_22 r100000129 r100000130 r1000896 r1001280 r100000133 r100000134 r100000135 r100000136
      apply fixO_end
      simp only [s114p_L0,q114p_L0]
      by_cases h0:0 < (tDevs t).len
      · exact (bif_t (idx_lt h0)).trans (bif_f rfl)
      · exact bif_f (by have ed : (t.2.2.2.2.2.2.2.2.1.len : Int) = (tDevs t).len := rfl
                        rw [ed]; simp; omega)
    refine bind_of ⟨_,key,?_⟩
    exact ⟨_,rfl,rfl,by rw [if_pos hh],by rw [← hh],c2,⟨rfl,rfl⟩,rfl,rfl,rfl,rfl,rfl,rfl,fun i hi=>.inl ⟨.inl hh,rfl⟩⟩
  | false =>
    have key:∀ {b100000128_1 b100000128_11 b100000128_12 b100000128_13 b100000128_15 b100000128_16 b100000128_17 b100000128_19 b100000128_21 b100000128_22 r100000129 r100000130 r1000896 r1001280 r100000133 r100000134 r100000135:_},∃ (v:Vi) (d:L De),fixO s114p_L0 ((p,((),((),((0:Int),())))),(((),(b100000128_1,((),(s.2.1.1,(s.2.1.2.1,(s.2.1.2.2.1,(s.2.1.2.2.2.1,(s.2.1.2.2.2.2.1,(s.2.1.2.2.2.2.2.1,(s.2.1.2.2.2.2.2.2.1,(s.2.1.2.2.2.2.2.2.2.1,(b100000128_11,(b100000128_12,(b100000128_13,(false,(b100000128_15,(b100000128_16,(b100000128_17,((),(b100000128_19,((),(b100000128_21,(b100000128_22,((),((),((),((),()))))))))))))))))))))))))))),(t,(r100000129,(r100000130,(r1000896,(r1001280,(r100000133,(r100000134,(r100000135,((sDevs s),()))))))))))) = some (.inl ((),(((),(b100000128_1,((),(v.1,(v.2.1,(v.2.2.1,(v.2.2.2.1,(v.2.2.2.2.1,(v.2.2.2.2.2.1,(v.2.2.2.2.2.2.1,(v.2.2.2.2.2.2.2.1,(b100000128_11,(b100000128_12,(b100000128_13,(false,(b100000128_15,(b100000128_16,(b100000128_17,((),(b100000128_19,((),(b100000128_21,(b100000128_22,((),((),((),((),()))))))))))))))))))))))))))),(r100000129,(r100000130,(r1000896,(r1001280,(r100000133,(r100000134,(r100000135,(d,()))))))))))) ∧ v = vAt t p (sDevs s) s.2.1 (tDevs t).len ∧ DevsAre t p false (sDevs s) d:=by
      intro b100000128_1 b100000128_11 b100000128_12 b100000128_13 b100000128_15 b100000128_16 b100000128_17 b100000128_19 b100000128_21 b100000128_22 r100000129 r100000130 r1000896 r1001280 r100000133 r100000134 r100000135
      obtain ⟨z,z1,v,d,rfl,z2,z3⟩:=loop_n (step:=s114p_L0) (tDevs t).len
        (fun i z=>∃ (v:Vi) (d:L De),z = ((p,((),((),((i:Int),())))),(((),(b100000128_1,((),(v.1,(v.2.1,(v.2.2.1,(v.2.2.2.1,(v.2.2.2.2.1,(v.2.2.2.2.2.1,(v.2.2.2.2.2.2.1,(v.2.2.2.2.2.2.2.1,(b100000128_11,(b100000128_12,(b100000128_13,(false,(b100000128_15,(b100000128_16,(b100000128_17,((),(b100000128_19,((),(b100000128_21,(b100000128_22,((),((),((),((),()))))))))))))))))))))))))))),(t,(r100000129,(r100000130,(r1000896,(r1001280,(r100000133,(r100000134,(r100000135,(d,()))))))))))) ∧ v = vAt t p (sDevs s) s.2.1 i ∧ PendOk v ∧ d.len = (sDevs s).len ∧ (∀ j,j < i→((tDevs t).get j ≠ p ∧ d.get j = (sDevs s).get j) ∨ ((tDevs t).get j = p ∧ ∃ f,OpenIs ((sDevs s).get j) (d.get j) f)) ∧ ∀ j,i≤j→d.get j = (sDevs s).get j)
        (fun z=>∃ (v:Vi) (d:L De),z = .inl ((),(((),(b100000128_1,((),(v.1,(v.2.1,(v.2.2.1,(v.2.2.2.1,(v.2.2.2.2.1,(v.2.2.2.2.2.1,(v.2.2.2.2.2.2.1,(v.2.2.2.2.2.2.2.1,(b100000128_11,(b100000128_12,(b100000128_13,(false,(b100000128_15,(b100000128_16,(b100000128_17,((),(b100000128_19,((),(b100000128_21,(b100000128_22,((),((),((),((),()))))))))))))))))))))))))))),(r100000129,(r100000130,(r1000896,(r1001280,(r100000133,(r100000134,(r100000135,(d,())))))))))) ∧ v = vAt t p (sDevs s) s.2.1 (tDevs t).len ∧ DevsAre t p false (sDevs s) d)
        (by
          rintro i _ hi ⟨v,d,rfl,hv,hpv,d1,d2,d3⟩
          have hid:i < d.len:=by omega
          have ei:=d3 i (Nat.le_refl _)
          by_cases hq:(tDevs t).get i = p
          · have hq':(L.get t.2.2.2.2.2.2.2.2.1 (i:Int).toNat == p) = true:=by rw [Int.toNat_natCast]; have e:L.get t.2.2.2.2.2.2.2.2.1 i = p:=hq; simpa using e
            obtain ⟨r,f,r1,r2⟩:=open203 ((sDevs s).get i) (hok i hi hq)
            have hdj:∀ j,j < i + 1→((tDevs t).get j ≠ p ∧ (L.set d i r).get j = (sDevs s).get j) ∨ ((tDevs t).get j = p ∧ ∃ f,OpenIs ((sDevs s).get j) ((L.set d i r).get j) f):=fun j hj=>by
              by_cases e:j = i
              · subst e; rw [set_eq_get]; exact .inr ⟨hq,f,r2⟩
              · rw [set_ne_get _ _ e]; exact d2 j (by omega)
            have hdj2:∀ j,i + 1≤j→(L.set d i r).get j = (sDevs s).get j:=fun j hj=>by rw [set_ne_get _ _ (by omega)]; exact d3 j (by omega)
            cases f with
            | true =>
              have hn:0 < min ((sDevs s).get i).1.len (8 - ((sDevs s).get i).2.1.len):=by
                obtain ⟨n,n1,n2,_⟩:=r2
                have:0 < n:=by simpa using n2.symm
                omega
              have hva:vAt t p (sDevs s) s.2.1 (i + 1) = holdV v i:=by
                simp only [vAt]
                rw [if_pos ⟨hq,hn⟩,hv]
              refine .inl ⟨_,?_,holdV v i,L.set d i r,rfl,hva.symm,holdV_ok _ _,d1,hdj,hdj2⟩
              simp only [s114p_L0,q114p_L0]
              refine (bif_t (idx_lt hi)).trans ((bif_t rfl).trans ((bif_t (idx_in hi)).trans ((bif_t hq').trans ((bif_t (idx_in hid)).trans ?_))))
              rw [Int.toNat_natCast,ei]
              refine bind_eq r1 ((bif_t (idx_in hid)).trans ((bif_t rfl).trans (bind_eq (hold204 v (by omega) hpv) ?_)))
              rw [wI_succ hi (by omega)]
            | false =>
              have hn:¬ 0 < min ((sDevs s).get i).1.len (8 - ((sDevs s).get i).2.1.len):=by
                obtain ⟨n,n1,n2,_⟩:=r2
                have:¬ 0 < n:=by simpa using n2.symm
                omega
              have hva:vAt t p (sDevs s) s.2.1 (i + 1) = v:=by
                simp only [vAt]
                rw [if_neg (fun h=>hn h.2),hv]
              refine .inl ⟨_,?_,v,L.set d i r,rfl,hva.symm,hpv,d1,hdj,hdj2⟩
              simp only [s114p_L0,q114p_L0]
              refine (bif_t (idx_lt hi)).trans ((bif_t rfl).trans ((bif_t (idx_in hi)).trans ((bif_t hq').trans ((bif_t (idx_in hid)).trans ?_))))
              rw [Int.toNat_natCast,ei]
              refine bind_eq r1 ((bif_t (idx_in hid)).trans ((bif_f rfl).trans ?_))
              rw [wI_succ hi (by omega)]
          · have hq':(L.get t.2.2.2.2.2.2.2.2.1 (i:Int).toNat == p) = false:=by rw [Int.toNat_natCast]; have e:¬ L.get t.2.2.2.2.2.2.2.2.1 i = p:=hq; simpa using e
            have hva:vAt t p (sDevs s) s.2.1 (i + 1) = v:=by
              simp only [vAt]
              rw [if_neg (fun h=>hq h.1),hv]
            refine .inl ⟨_,?_,v,d,rfl,hva.symm,hpv,d1,fun j hj=>?_,fun j hj=>d3 j (by omega)⟩
            · simp only [s114p_L0,q114p_L0]
              refine (bif_t (idx_lt hi)).trans ((bif_t rfl).trans ((bif_t (idx_in hi)).trans ((bif_f hq').trans ?_)))
              rw [wI_succ hi (by omega)]
            · by_cases e:j = i
              · subst e; exact .inl ⟨hq,ei⟩
              · exact d2 j (by omega))
        (by
          rintro _ ⟨v,d,rfl,hv,hpv,d1,d2,d3⟩
          refine ⟨_,?_,v,d,rfl,hv,d1,fun j hj=>?_⟩
          · simp only [s114p_L0,q114p_L0]
            exact bif_f (idx_end _)
          · rcases d2 j (by omega) with ⟨e1,e2⟩ | ⟨e1,e2⟩
            · exact .inl ⟨.inr e1,e2⟩
            · exact .inr ⟨rfl,e1,e2⟩)
        ((p,((),((),((0:Int),())))),(((),(b100000128_1,((),(s.2.1.1,(s.2.1.2.1,(s.2.1.2.2.1,(s.2.1.2.2.2.1,(s.2.1.2.2.2.2.1,(s.2.1.2.2.2.2.2.1,(s.2.1.2.2.2.2.2.2.1,(s.2.1.2.2.2.2.2.2.2.1,(b100000128_11,(b100000128_12,(b100000128_13,(false,(b100000128_15,(b100000128_16,(b100000128_17,((),(b100000128_19,((),(b100000128_21,(b100000128_22,((),((),((),((),()))))))))))))))))))))))))))),(t,(r100000129,(r100000130,(r1000896,(r1001280,(r100000133,(r100000134,(r100000135,((sDevs s),()))))))))))) ⟨s.2.1,sDevs s,rfl,rfl,hp,rfl,fun j hj=>absurd hj (Nat.not_lt_zero j),fun _ _=>rfl⟩
      exact ⟨v,d,z1,z2,z3⟩
    refine bind_of (key.elim fun v h=>h.elim fun d h=>⟨_,h.1,?_⟩)
    refine ⟨_,rfl,rfl,?_,by rw [← hh],c2,⟨rfl,rfl⟩,rfl,rfl,rfl,rfl,rfl,?_⟩
    · rw [if_neg (by rw [hh]; simp),hl]; exact h.2.1
    · rw [hh]; exact h.2.2


theorem slot116 (t:Tb) (p:Int) (s:St) (cy:Int) (hF:Facts t) (hl:(sDevs s).len = (tDevs t).len) (hd8:(tDevs t).len≤8) (hok:∀ j,j < (tDevs t).len→(tDevs t).get j = p→f180 ((sDevs s).get j) = true):∃ r:St,g116p s t p cy = some ((),(r,())) ∧ SlotIs t p s cy r:=by
  obtain ⟨c,c1,c2⟩:=cache149 t.2.1 hF.2.2.2.2.1
  unfold g116p
  refine bind_of ⟨_,c1,?_⟩
  cases hh:s.2.2.1.2.2.2.1 with
  | true=>exact ⟨_,rfl,rfl,by rw [if_pos hh],rfl,c2,⟨rfl,rfl⟩,rfl,rfl,rfl,rfl,rfl,rfl,fun i hi=>.inl ⟨.inl hh,rfl⟩⟩
  | false =>
    simp only [cond_false]
    have key:∀ {b100000000_1 b100000000_11 b100000000_12 b100000000_13 b100000000_14 b100000000_15 b100000000_16 b100000000_17 b100000000_19 b100000000_20 b100000000_21 b100000000_22 r100000001 r100000002 r1000960 r100000005 r100000006 r100000007:_},∃ (v:Vi) (d:L De),fixO s116p_L0 (((),(p,((),(((sDevs s).len:Int),((0:Int),()))))),(((),(b100000000_1,((),(s.2.1.1,(s.2.1.2.1,(s.2.1.2.2.1,(s.2.1.2.2.2.1,(s.2.1.2.2.2.2.1,(s.2.1.2.2.2.2.2.1,(s.2.1.2.2.2.2.2.2.1,(s.2.1.2.2.2.2.2.2.2.1,(b100000000_11,(b100000000_12,(b100000000_13,(b100000000_14,(b100000000_15,(b100000000_16,(b100000000_17,((),(b100000000_19,(b100000000_20,(b100000000_21,(b100000000_22,((),((),((),((),()))))))))))))))))))))))))))),(t,(r100000001,(r100000002,(r1000960,(r100000005,(r100000006,(r100000007,((sDevs s),())))))))))) = some (.inl ((),(((),(b100000000_1,((),(v.1,(v.2.1,(v.2.2.1,(v.2.2.2.1,(v.2.2.2.2.1,(v.2.2.2.2.2.1,(v.2.2.2.2.2.2.1,(v.2.2.2.2.2.2.2.1,(b100000000_11,(b100000000_12,(b100000000_13,(b100000000_14,(b100000000_15,(b100000000_16,(b100000000_17,((),(b100000000_19,((),(b100000000_21,(b100000000_22,((),((),((),((),()))))))))))))))))))))))))))),(r100000001,(r100000002,(r1000960,(b100000000_20,(r100000005,(r100000006,(r100000007,(d,()))))))))))) ∧ v = vAt t p (sDevs s) s.2.1 (sDevs s).len ∧ DevsAre t p false (sDevs s) d:=by
      intro b100000000_1 b100000000_11 b100000000_12 b100000000_13 b100000000_14 b100000000_15 b100000000_16 b100000000_17 b100000000_19 b100000000_20 b100000000_21 b100000000_22 r100000001 r100000002 r1000960 r100000005 r100000006 r100000007
      obtain ⟨z,z1,v,d,rfl,z2,z3⟩:=loop_n (step:=s116p_L0) (sDevs s).len
        (fun i z=>∃ (v:Vi) (d:L De),z = (((),(p,((),(((sDevs s).len:Int),((i:Int),()))))),(((),(b100000000_1,((),(v.1,(v.2.1,(v.2.2.1,(v.2.2.2.1,(v.2.2.2.2.1,(v.2.2.2.2.2.1,(v.2.2.2.2.2.2.1,(v.2.2.2.2.2.2.2.1,(b100000000_11,(b100000000_12,(b100000000_13,(b100000000_14,(b100000000_15,(b100000000_16,(b100000000_17,((),(b100000000_19,(b100000000_20,(b100000000_21,(b100000000_22,((),((),((),((),()))))))))))))))))))))))))))),(t,(r100000001,(r100000002,(r1000960,(r100000005,(r100000006,(r100000007,(d,())))))))))) ∧ v = vAt t p (sDevs s) s.2.1 i ∧ d.len = (sDevs s).len ∧ (∀ j,j < i→((tDevs t).get j ≠ p ∧ d.get j = (sDevs s).get j) ∨ ((tDevs t).get j = p ∧ ∃ f,OpenIs ((sDevs s).get j) (d.get j) f)) ∧ ∀ j,i≤j→d.get j = (sDevs s).get j)
        (fun z=>∃ (v:Vi) (d:L De),z = .inl ((),(((),(b100000000_1,((),(v.1,(v.2.1,(v.2.2.1,(v.2.2.2.1,(v.2.2.2.2.1,(v.2.2.2.2.2.1,(v.2.2.2.2.2.2.1,(v.2.2.2.2.2.2.2.1,(b100000000_11,(b100000000_12,(b100000000_13,(b100000000_14,(b100000000_15,(b100000000_16,(b100000000_17,((),(b100000000_19,((),(b100000000_21,(b100000000_22,((),((),((),((),()))))))))))))))))))))))))))),(r100000001,(r100000002,(r1000960,(b100000000_20,(r100000005,(r100000006,(r100000007,(d,())))))))))) ∧ v = vAt t p (sDevs s) s.2.1 (sDevs s).len ∧ DevsAre t p false (sDevs s) d)
        (by
          rintro i _ hi ⟨v,d,rfl,hv,d1,d2,d3⟩
          have hid:i < d.len:=by omega
          have hit:i < (tDevs t).len:=by omega
          have ei:=d3 i (Nat.le_refl _)
          have hD:=hasDev109 t p (by omega) hit
          by_cases hq:(tDevs t).get i = p
          · have hq':((tDevs t).get i == p) = true:=by simpa using hq
            obtain ⟨r,f,r1,r2⟩:=open205 ((sDevs s).get i) (f180_le (hok i hit hq))
            have hdj:∀ j,j < i + 1→((tDevs t).get j ≠ p ∧ (L.set d i r).get j = (sDevs s).get j) ∨ ((tDevs t).get j = p ∧ ∃ f,OpenIs ((sDevs s).get j) ((L.set d i r).get j) f):=fun j hj=>by
              by_cases e:j = i
              · subst e; rw [set_eq_get]; exact .inr ⟨hq,f,r2⟩
              · rw [set_ne_get _ _ e]; exact d2 j (by omega)
            have hdj2:∀ j,i + 1≤j→(L.set d i r).get j = (sDevs s).get j:=fun j hj=>by rw [set_ne_get _ _ (by omega)]; exact d3 j (by omega)
            cases f with
            | true =>
              have hn:0 < min ((sDevs s).get i).1.len (8 - ((sDevs s).get i).2.1.len):=by
                obtain ⟨n,n1,n2,_⟩:=r2
                have:0 < n:=by simpa using n2.symm
                omega
              have hva:vAt t p (sDevs s) s.2.1 (i + 1) = holdV v i:=by
                simp only [vAt]
                rw [if_pos ⟨hq,hn⟩,hv]
              refine .inl ⟨_,?_,holdV v i,L.set d i r,rfl,hva.symm,d1,hdj,hdj2⟩
              simp only [s116p_L0,q116p_L0]
              refine (bif_t (idx_lt hi)).trans (bind_eq hD ((bif_t hq').trans ((bif_t (idx_in hid)).trans ?_)))
              rw [Int.toNat_natCast,ei]
              refine bind_eq r1 ((bif_t rfl).trans (bind_eq (hold206 v (by omega)) ?_))
              rw [wI_succ hi (by omega)]
            | false =>
              have hn:¬ 0 < min ((sDevs s).get i).1.len (8 - ((sDevs s).get i).2.1.len):=by
                obtain ⟨n,n1,n2,_⟩:=r2
                have:¬ 0 < n:=by simpa using n2.symm
                omega
              have hva:vAt t p (sDevs s) s.2.1 (i + 1) = v:=by
                simp only [vAt]
                rw [if_neg (fun h=>hn h.2),hv]
              refine .inl ⟨_,?_,v,L.set d i r,rfl,hva.symm,d1,hdj,hdj2⟩
              simp only [s116p_L0,q116p_L0]
              refine (bif_t (idx_lt hi)).trans (bind_eq hD ((bif_t hq').trans ((bif_t (idx_in hid)).trans ?_)))
              rw [Int.toNat_natCast,ei]
              refine bind_eq r1 ((bif_f rfl).trans ?_)
              rw [wI_succ hi (by omega)]
          · have hq':((tDevs t).get i == p) = false:=by simpa using hq
            have hva:vAt t p (sDevs s) s.2.1 (i + 1) = v:=by
              simp only [vAt]
              rw [if_neg (fun h=>hq h.1),hv]
            refine .inl ⟨_,?_,v,d,rfl,hva.symm,d1,fun j hj=>?_,fun j hj=>d3 j (by omega)⟩
            · simp only [s116p_L0,q116p_L0]
              refine (bif_t (idx_lt hi)).trans (bind_eq hD ((bif_f hq').trans ?_))
              rw [wI_succ hi (by omega)]
            · by_cases e:j = i
              · subst e; exact .inl ⟨hq,ei⟩
              · exact d2 j (by omega))
        (by
          rintro _ ⟨v,d,rfl,hv,d1,d2,d3⟩
          refine ⟨_,?_,v,d,rfl,hv,d1,fun j hj=>?_⟩
          · simp only [s116p_L0,q116p_L0]
            exact bif_f (idx_end _)
          · rcases d2 j (by omega) with ⟨e1,e2⟩ | ⟨e1,e2⟩
            · exact .inl ⟨.inr e1,e2⟩
            · exact .inr ⟨rfl,e1,e2⟩)
        (((),(p,((),(((sDevs s).len:Int),((0:Int),()))))),(((),(b100000000_1,((),(s.2.1.1,(s.2.1.2.1,(s.2.1.2.2.1,(s.2.1.2.2.2.1,(s.2.1.2.2.2.2.1,(s.2.1.2.2.2.2.2.1,(s.2.1.2.2.2.2.2.2.1,(s.2.1.2.2.2.2.2.2.2.1,(b100000000_11,(b100000000_12,(b100000000_13,(b100000000_14,(b100000000_15,(b100000000_16,(b100000000_17,((),(b100000000_19,(b100000000_20,(b100000000_21,(b100000000_22,((),((),((),((),()))))))))))))))))))))))))))),(t,(r100000001,(r100000002,(r1000960,(r100000005,(r100000006,(r100000007,((sDevs s),())))))))))) ⟨s.2.1,sDevs s,rfl,rfl,rfl,fun j hj=>absurd hj (Nat.not_lt_zero j),fun _ _=>rfl⟩
      exact ⟨v,d,z1,z2,z3⟩
    refine bind_of (key.elim fun v h=>h.elim fun d h=>⟨_,h.1,?_⟩)
    refine ⟨_,rfl,rfl,?_,by rw [← hh],c2,⟨rfl,rfl⟩,rfl,rfl,rfl,rfl,rfl,?_⟩
    · rw [if_neg (by rw [hh]; simp)]; exact h.2.1
    · rw [hh]; exact h.2.2

theorem slotMain (t:Tb) (p:Int) (s:St) (cy:Int) (hb:Bnd t) (hs:BndS s 1048576) (hn:NoNil s) (hp:PendOk s.2.1) :
    ∃ (a b:St) (f:Bool),g28r t p s cy = some ((a,(f,())),()) ∧ g29r t p s cy = some ((b,(f,())),()) ∧ SmS b a ∧ BndS b 1048576:=by
  obtain ⟨k,k1,k2,k3⟩:=main t p s hb hs
  have e115:f115 cy = f97 cy 0 50000:=rfl
  obtain ⟨q,q1,q2,q3⟩:=sound_wf t (wf_of_bnd hb)
  unfold g28r g29r
  rw [k1,k2,Option.bind_some,Option.bind_some,e115]
  cases k with
  | false=>exact ⟨_,_,false,rfl,rfl,SmS.refl _,bndS0 rfl rfl rfl rfl rfl rfl rfl rfl⟩
  | true =>
    obtain ⟨hF,hin,hE,_⟩:=k3 rfl
    simp only [Bool.not_true,cond_false]
    cases hc:f97 cy 0 50000 with
    | false=>exact ⟨_,_,false,rfl,rfl,SmS.refl _,bndS0 rfl rfl rfl rfl rfl rfl rfl rfl⟩
    | true =>
      simp only [Bool.not_true,cond_false]
      have hsnd:g127 t = some ((true,()),()):=by
        cases q with
        | true=>exact q1
        | false =>
          exfalso
          unfold g96 g45 at k1
          rw [q1,Option.bind_some] at k1
          cases k1
      have hd8:(tDevs t).len≤8:=hF.2.2.2.2.2.2.2.2.1
      obtain ⟨a,a1,a2⟩:=part98 s hs
      obtain ⟨b,b1,b2,_⟩:=part110 s hs hn (hE.1.trans hE.2.1.symm)
      have hbb:=BndS.same b2.symm hs
      have hab:SmS b a:=b2.trans a2.symm
      have ok:∀ {z:St},SmS z s→∀ j,j < (tDevs t).len→(tDevs t).get j = p→f180 ((sDevs z).get j) = true:=fun {z} hz j hj hjp=>by
        have e:=hz.de.2 j (by rw [hz.de.1,hE.2.2.1]; exact hj)
        have:f180 ((sDevs z).get j) = f180 ((sDevs s).get j):=by unfold f180; rw [e.1.1,e.2.1]
        rw [this]; exact hE.2.2.2 j hj hjp
      obtain ⟨x,x1,x2⟩:=slot114 t p a cy hsnd hF (a2.de.1.trans hE.2.2.1) hd8 (ok a2) (by rw [a2.vi]; exact hp)
      obtain ⟨y,y1,y2⟩:=slot116 t p b cy hF (b2.de.1.trans hE.2.2.1) hd8 (ok b2)
      refine ⟨x,y,true,?_,?_,SlotIs.same hab y2 x2,y2.bnd hF hbb fun i hi hip=>f180_le (ok b2 i (by rw [← hE.2.2.1,← b2.de.1]; exact hi) hip)⟩
      · exact bind_eq a1 (bind_eq x1 rfl)
      · exact bind_eq b1 (bind_eq y1 rfl)


theorem law (t0:Tb) (p:Int) (s0:St) (cy:Int) (hw:Wf t0) (hS:BndS s0 (2 ^ 47)) (hp:PendOk s0.2.1):g6 t0 p s0 cy = some ((true,()),()):=by
  obtain ⟨n,e1,e2⟩:=sz12b t0 hw
  unfold g6
  refine bind_eq e1 ?_
  rcases e2 with rfl | ⟨n1,n2,hb⟩
  · rfl
  refine (bif_f (notneg n1)).trans ?_
  obtain ⟨m,m1,m2⟩:=sz47 s0 n hS n1 n2
  refine bind_eq m1 ?_
  rcases m2 with rfl | ⟨m2,m3⟩
  · rfl
  refine (bif_f (notneg m2)).trans ?_
  obtain ⟨t,r1,r2⟩:=to14 t0 hb
  obtain ⟨s,q1,q2,q3,q4⟩:=toState s0 m3
  obtain ⟨a,b,f,a1,b1,hs,hbs⟩:=slotMain t p s cy r2 q2 q3 (by rw [q4]; exact hp)
  have heq:=eqState hs hbs
  have hff:(!(f == f)) = false:=by simp
  obtain ⟨k1,z1,k2,k3,k4⟩:=mkTables t r2
  obtain ⟨k5,x5,k6,k7,_⟩:=mkState s k1 k3 k4 q2
  obtain ⟨k,s',c1,c2,c3⟩:=mkState b 1 (by omega) (by omega) hbs
  have hkk:(k != k) = false:=by simp
  refine bind_eq r1 (bind_eq q1 (bind_eq a1 (bind_eq r1 (bind_eq q1 (bind_eq b1 (bind_eq heq ?_))))))
  refine (bif_f rfl).trans ((bif_f hff).trans (bind_eq r1 (bind_eq (eq16 t r2) ?_)))
  refine (bif_f rfl).trans (bind_eq q1 (bind_eq (eqState (SmS.refl s) q2) ?_))
  refine (bif_f rfl).trans (bind_eq k2 (bind_eq k6 ?_))
  refine (bif_f (notneg k7)).trans (bind_eq heq ?_)
  refine (bif_f rfl).trans ((bif_f hff).trans (bind_eq c1 ?_))
  refine bind_eq (c3 _ rfl rfl rfl rfl rfl rfl rfl rfl) ?_
  refine (bif_f (notneg c2)).trans ((bif_f hkk).trans ?_)
  refine bind_eq r1 (bind_eq q1 (bind_eq b1 (bind_eq heq ?_)))
  refine (bif_f rfl).trans ((bif_f hff).trans ?_)
  refine bind_eq (c3 _ rfl rfl rfl rfl rfl rfl rfl rfl) ?_
  exact (bif_f (notneg c2)).trans (bif_f hkk)

theorem plain:∀ x,wfIns tysOf x→∃ z,c6.F x = some ((true,()),z):=by
  rintro ⟨t,p,s,cy,⟨⟩⟩ ⟨hw,_,hs,_⟩
  obtain ⟨_,_,_,_,_,_,_,hp,hd,hc,hsl,_⟩:=hw
  obtain ⟨⟨r1,_,r2,_⟩,⟨_,_,_,_,_,_,_,pd,_⟩,_,⟨_,c1,_⟩,⟨_,p1,_⟩,_,_,b1,o1,i1,d1,_⟩:=hs
  exact ⟨(),law t p s cy ⟨hp.1,hd.1,hc.1,hsl.1,fun i hi=>⟨(hp.2 i hi).1,(hp.2 i hi).2.2.2.1.1⟩⟩
    ⟨r1.1,⟨r2.1,fun i hi=>(r2.2 i hi).1⟩,⟨c1.1,fun i hi=>(c1.2 i hi).1⟩,p1.1,⟨b1.1,fun i hi=>(b1.2 i hi).1⟩,⟨o1.1,fun i hi=>(o1.2 i hi).2.1.1⟩,⟨i1.1,fun i hi=>(i1.2 i hi).1.1⟩,⟨d1.1,fun i hi=>⟨(d1.2 i hi).1.1,(d1.2 i hi).2.1.1⟩⟩⟩ (by
      obtain ⟨a,b⟩:=pd
      have e1:IntKind.u32.min = 0:=rfl
      have e2:IntKind.u32.max = 4294967295:=rfl
      rw [e1] at a
      rw [e2] at b
      exact ⟨a,Int.lt_of_le_of_lt b (by decide)⟩)⟩



end Go.VE.VFnExactPartSlot
