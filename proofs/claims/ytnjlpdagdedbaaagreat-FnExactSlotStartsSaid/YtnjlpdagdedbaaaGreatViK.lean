import Derived.Test.YtnjlpdagdedbaaaGreatViJ
import Derived.Laws.BytesString
import Derived.Lib.AppendZeros
import Derived.Laws.BitsLemmas
import Derived.Laws.MakeOwn
/- Each operation of the evaluator is what the machine does. -/
namespace Go.VE

theorem TkC.cut {g : Gh} {sz len l cap : Nat} {ad : Option Addr} : ∀ {tk : Tk}, TkC g sz len ad cap tk → l ≤ len → len ≤ cap → TkC g sz (len - l) (if cap = l then ad else ad.map (·.add (l * sz))) (cap - l) tk := by
  have key : ∀ {ad2 : Addr}, (if cap = l then ad else ad.map (·.add (l * sz))) = some ad2 → (∃ ad1, ad = some ad1 ∧ ((cap = l ∧ ad2 = ad1) ∨ (cap ≠ l ∧ ad2 = ad1.add (l * sz)))) := by
    intro ad2 h
    split at h
    · rename_i e; exact ⟨ad2, h, .inl ⟨e, rfl⟩⟩
    · rename_i e
      cases ad with
      | none => simp at h
      | some ad1 => simp at h; exact ⟨ad1, rfl, .inr ⟨e, h.symm⟩⟩
  have tok : ∀ k, (g.us k ∧ (g.lv k → ∀ ad1, ad = some ad1 → ad1.spot = none ∧ (len < cap → g.tk k = (ad1.block, ad1.off + len * sz, ad1.off + cap * sz)))) → l ≤ len → len ≤ cap →
      (g.us k ∧ (g.lv k → ∀ ad2, (if cap = l then ad else ad.map (·.add (l * sz))) = some ad2 → ad2.spot = none ∧ (len - l < cap - l → g.tk k = (ad2.block, ad2.off + (len - l) * sz, ad2.off + (cap - l) * sz)))) := by
    rintro k ⟨h1, h2⟩ hl hc
    refine ⟨h1, fun lv ad2 had2 => ?_⟩
    obtain ⟨ad1, e1, e2⟩ := key had2
    obtain ⟨h3, h4⟩ := h2 lv ad1 e1
    rcases e2 with ⟨e, rfl⟩ | ⟨e, rfl⟩
    · exact ⟨h3, fun h => by omega⟩
    · have e3 : ad1 = ⟨ad1.block, ad1.off, none⟩ := by cases ad1; simp_all
      rw [e3, add_none]
      refine ⟨rfl, fun h => ?_⟩
      rw [h4 (by omega)]
      simp only [Prod.mk.injEq, true_and]
      have a1 : len * sz = l * sz + (len - l) * sz := by rw [← Nat.add_mul]; congr 1; omega
      have a2 : cap * sz = l * sz + (cap - l) * sz := by rw [← Nat.add_mul]; congr 1; omega
      omega
  intro tk h hl hc
  cases tk with
  | no => trivial
  | tight =>
    obtain ⟨h1, h2⟩ := h
    refine ⟨by omega, fun ad2 had2 => ?_⟩
    obtain ⟨ad1, e1, e2⟩ := key had2
    have h3 := h2 ad1 e1
    rcases e2 with ⟨e, rfl⟩ | ⟨e, rfl⟩
    · exact h3
    · have e3 : ad1 = ⟨ad1.block, ad1.off, none⟩ := by cases ad1; simp_all
      rw [e3, add_none]
  | tok k => exact tok k h hl hc
  | own k =>
    refine ⟨tok k h.1 hl hc, fun lv ad2 had2 => ?_⟩
    obtain ⟨ad1, e1, e2⟩ := key had2
    rcases h.2 lv ad1 e1 with h0 | h0
    · refine .inl ?_
      have : (cap - l) * sz ≤ cap * sz := Nat.mul_le_mul_right _ (Nat.sub_le _ _)
      omega
    · refine .inr ?_
      rcases e2 with ⟨_, rfl⟩ | ⟨_, rfl⟩
      · exact h0
      · have h3 := (h.1.2 lv ad1 e1).1
        have e3 : ad1 = ⟨ad1.block, ad1.off, none⟩ := by cases ad1; simp_all
        rw [e3, add_none]; exact h0

section
variable {P : Program} {N : Fr} {c0 : Nat → Nat → Col} {w0 : World} {σ : AS} {g : Gh} {a : Act} {w : World}

def Good (P : Program) (N : Fr) (c0 : Nat → Nat → Col) (w0 : World) (σ' : AS) (o : Oper) (a : Act) (w : World) : Prop :=
  ∃ v w' g', Runs P o a w v w' ∧ Sim N c0 w0 σ' g' (a.put o.dst v) w'

theorem Good.plain (hs : Sim N c0 w0 σ g a w) {o : Oper} (hd : dstOk N o.dst = true) {v : Value} {p : PV} (h : (execOp a.eval o).run P w = .ok (.value v) w) (hr : Rep g w p v) : Good P N c0 w0 (σ.app o.dst { v := p }) o a w :=
  ⟨v, w, g, .inl h, by rw [AS.app_plain]; exact hs.put hd hr⟩

theorem zero_cells (z : Array Value) (n : Nat) (i j : Nat) (hi : i < n) (hj : j < z.size) : ((Array.range (n * z.size)).map (z[· % z.size]!)).toList[i * z.size + j]? = z[j]? := by
  have hlt : i * z.size + j < n * z.size := by
    have : (i + 1) * z.size ≤ n * z.size := Nat.mul_le_mul_right _ hi
    rw [Nat.add_mul, Nat.one_mul] at this; omega
  rw [Array.getElem?_toList, Array.getElem?_map, Array.getElem?_range]
  simp only [hlt, if_true, Option.map_some]
  rw [show (i * z.size + j) % z.size = j by rw [Nat.add_comm, Nat.add_mul_mod_self_right, Nat.mod_eq_of_lt hj]]
  simp [hj]

theorem i64_wrap_id {n : Int} (h0 : 0 ≤ n) (h1 : n ≤ 2 ^ 40) : IntKind.i64.wrap n = n := by
  rw [IntKind.wrap_i64]; omega

theorem pick_rep {c : Bool} {x y : PV} {u v : Value} (hx : Rep g w x u) (hy : Rep g w y v) : Rep g w (bif c then x else y) (if c then u else v) := by
  cases c
  · exact hy
  · exact hx

theorem places_run (f : Field → Sem (Nat × Nat)) (hf : ∀ x n, szOf P x.type = some n → (f x).run P w = .ok (x.offset, n) w) : ∀ (l : List Field) (pl : List (Nat × Nat)), l.mapM (fun f => (szOf P f.type).map fun n => (f.offset, n)) = some pl → (l.mapM f).run P w = .ok pl w
  | [], pl, h => by simp at h; subst h; rfl
  | x :: r, pl, h => by
    rw [List.mapM_cons] at h
    cases hx : szOf P x.type with
    | none => rw [hx] at h; simp at h
    | some n =>
    cases hr : (r.mapM fun f => (szOf P f.type).map fun n => (f.offset, n)) with
    | none => rw [hx, hr] at h; simp at h
    | some pr =>
    rw [hx, hr] at h
    simp at h; subst h
    rw [List.mapM_cons]
    simp only [Sem.run_bind, hf x n hx, Result.andThen_ok, places_run f hf r pr hr, Sem.run_pure]

theorem opD_sound {Γ : TypeId → Option Ty} (hΓ : GamOk P Γ) (hs : Sim N c0 w0 σ g a w) {o : Oper} {d : Dl} (h : opD P Γ o σ = some (true, d)) (hd : dstOk N o.dst = true) : Good P N c0 w0 (σ.app o.dst d) o a w := by
  have ev := evO_rep hs
  simp only [opD] at h
  split at h
  · -- move
    rename_i x ho
    simp only [Option.some.injEq, Prod.mk.injEq, true_and] at h; subst h
    exact Good.plain hs hd (v := a.eval x) (by simp [execOp, ho]) (ev x)
  · rename_i x ho
    simp only [Option.some.injEq, Prod.mk.injEq, true_and] at h; subst h
    exact Good.plain hs hd (v := a.eval x) (by simp [execOp, ho]) (ev x)
  · -- pick
    rename_i c x y ho
    split at h
    · rename_i t hc
      simp only [Option.some.injEq, Prod.mk.injEq, true_and] at h; subst h
      have hcv := ev c
      rw [hc] at hcv
      simp only [Rep] at hcv
      exact Good.plain hs hd (v := if t then a.eval x else a.eval y) (by simp [execOp, ho, hcv, asBool]) (pick_rep (ev x) (ev y))
    · cases h
  · -- alloc
    rename_i t ho
    split at h
    · rename_i dd cs hdst hz
      split at h
      · rename_i hb
        simp only [Option.some.injEq, Prod.mk.injEq, true_and] at h; subst h
        obtain ⟨z, z1, z2⟩ := zeroOf_run hz g w
        have hcells : ∀ o' v, z.cells.toList[o']? = some v → (w.alloc (.cells z.cells.toList.toArray t)).cell? ⟨w.heap.size, o', none⟩ = some v := by
          intro o' v hv
          rw [World.cell?_alloc_new]; simpa using hv
        have hgs := gstays_box hs hb 0 0 (.cells z.cells.toList.toArray t)
        refine ⟨.pointer (some ⟨w.heap.size, 0, none⟩), w.alloc (.cells z.cells t), ghBox g w.heap.size (σ.off + dd) 0 0, .inl ?_, ?_⟩
        · simp [execOp, ho, Instr.alloc, z1, newVar, newRow]
        · rw [hdst] at hd ⊢
          have := hs.newBox (ob := .cells z.cells.toList.toArray t) (ln := 0) (es := 0) (c := .cells cs) (p := .bx (σ.off + dd) 0) (v := .pointer (some ⟨w.heap.size, 0, none⟩)) hd (by rw [hs.off]; exact dstOk_pb hd) hb
            ⟨z.cells.toList, Reps.mono hgs _ _ z2, fun j v hj => by
              simp only [ghBox_bx, Nat.zero_add]
              exact ⟨ghBox_new _ _ _ _ _ _, hcells j v hj, by rw [World.frozen?_alloc_new]⟩⟩
            (by simp only [Rep]; exact ⟨.inl rfl, by simp only [ghBox_bx, Nat.add_zero]⟩)
          simpa using this
      · cases h
    · cases h
  · -- box
    rename_i t x ho
    split at h
    · rename_i dd hdst
      split at h
      · rename_i hb
        split at h
        · rename_i hsol
          simp only [Option.some.injEq, Prod.mk.injEq, true_and] at h; subst h
          obtain ⟨z2, _⟩ := cel_rep (ev x) hsol
          have hcells : ∀ o' v, (a.eval x).cells.toList[o']? = some v → (w.alloc (.cells (a.eval x).cells.toList.toArray t)).cell? ⟨w.heap.size, o', none⟩ = some v := by
            intro o' v hv
            rw [World.cell?_alloc_new]; simpa using hv
          have hgs := gstays_box hs hb 0 0 (.cells (a.eval x).cells.toList.toArray t)
          refine ⟨.pointer (some ⟨w.heap.size, 0, none⟩), w.alloc (.cells (a.eval x).cells t), ghBox g w.heap.size (σ.off + dd) 0 0, .inl ?_, ?_⟩
          · simp [execOp, ho, Instr.box, newVar, newRow]
          · rw [hdst] at hd ⊢
            have := hs.newBox (ob := .cells (a.eval x).cells.toList.toArray t) (ln := 0) (es := 0) (c := .cells (evO σ.env x).cel) (p := .bx (σ.off + dd) 0) (v := .pointer (some ⟨w.heap.size, 0, none⟩)) hd (by rw [hs.off]; exact dstOk_pb hd) hb
              ⟨_, Reps.mono hgs _ _ z2, fun j v hj => by
                simp only [ghBox_bx, Nat.zero_add]
                exact ⟨ghBox_new _ _ _ _ _ _, hcells j v hj, by rw [World.frozen?_alloc_new]⟩⟩
              (by simp only [Rep]; exact ⟨.inl rfl, by simp only [ghBox_bx, Nat.add_zero]⟩)
            simpa using this
        · cases h
      · cases h
    · cases h
  · -- build
    rename_i t parts ho
    split at h
    · rename_i fs z hu hz
      split at h
      · rename_i pl hpl
        split at h
        · rename_i cs hf
          simp only [Option.some.injEq, Prod.mk.injEq, true_and] at h; subst h
          obtain ⟨zv, z1, z2⟩ := zeroOf_run hz g w
          obtain ⟨out, k1, k2⟩ := fillC_run (g := g) (w := w) (ρ := a.eval) (env := σ.env) ev (fun i => pl[i]?) parts.toList z cs zv.cells hf z2
          have hpr := places_run (P := P) (w := w) (fun f => do pure (f.offset, ← sizeOf f.type)) (fun x n hn => by simp [sizeOf_run hn]) fs.toList pl hpl
          refine Good.plain hs hd (v := .agg out) ?_ (by simp only [Rep]; exact ⟨out.toList, by simp, k2⟩)
          have hpr' : (fs.mapM fun f => do pure (f.offset, ← sizeOf f.type) : Sem (Array (Nat × Nat))).run P w = .ok pl.toArray w := by
            rw [Array.mapM_eq_mapM_toList, Sem.run_map, hpr]; rfl
          simp only [execOp, ho, Instr.build, Sem.run_bind, z1, Result.andThen_ok, VE.underlying_run hu, hpr']
          have e1 : (fun (x : Nat) => (pl.toArray)[x]?) = (fun (i : Nat) => pl[i]?) := by funext i; simp
          rw [show (Array.map (fun x => match x with | (i, x) => (i, a.eval x)) parts).toList = parts.toList.map (fun p => (p.1, a.eval p.2)) by simp]
          rw [e1, k1]
          rfl
        · cases h
      · cases h
    · rename_i n e z hu hz
      split at h
      · rename_i m hm
        split at h
        · rename_i cs hf
          simp only [Option.some.injEq, Prod.mk.injEq, true_and] at h; subst h
          obtain ⟨zv, z1, z2⟩ := zeroOf_run hz g w
          obtain ⟨out, k1, k2⟩ := fillC_run (g := g) (w := w) (ρ := a.eval) (env := σ.env) ev (fun i => some (i * m, m)) parts.toList z cs zv.cells hf z2
          refine Good.plain hs hd (v := .agg out) ?_ (by simp only [Rep]; exact ⟨out.toList, by simp, k2⟩)
          simp only [execOp, ho, Instr.build, Sem.run_bind, z1, Result.andThen_ok, VE.underlying_run hu, sizeOf_run hm]
          rw [show (Array.map (fun x => match x with | (i, x) => (i, a.eval x)) parts).toList = parts.toList.map (fun p => (p.1, a.eval p.2)) by simp]
          rw [k1]
          rfl
        · cases h
      · cases h
    · cases h
  · -- load
    rename_i t x ho
    split at h
    · rename_i p hp
      simp only [Option.some.injEq, Prod.mk.injEq, true_and] at h; subst h
      obtain ⟨v, h1, h2⟩ := rdAt_run hs hp (ev x)
      exact Good.plain hs hd (v := v) (by simp [execOp, ho, h1]) h2
    · cases h
  · -- store
    rename_i t x y ho
    split at h
    · rename_i b hb
      simp only [Option.some.injEq, Prod.mk.injEq, true_and] at h; subst h
      obtain ⟨id, c'⟩ := b
      obtain ⟨w', h1, h2⟩ := stAt_run hs hb (ev x) (ev y)
      refine ⟨undef, w', g, .inr ⟨by simp [execOp, ho, h1], rfl⟩, ?_⟩
      have := h2.put hd (p := .any) (v := undef) (by simp only [Rep])
      cases hdst : o.dst with
      | none => rw [hdst] at this; exact this
      | some dd => rw [hdst] at this; exact this
    · cases h
  · -- nilCheck
    rename_i x ho
    split at h <;> try cases h
    · rename_i i f hx
      have hv := ev x
      rw [hx] at hv
      have hv' := hv
      simp only [Rep] at hv'
      exact Good.plain hs hd (v := a.eval x) (by simp [execOp, ho, hv'.2]) hv
    · rename_i cs hx
      have hv := ev x
      rw [hx] at hv
      have hv' := hv
      simp only [Rep] at hv'
      obtain ⟨b, oo, us, e, _⟩ := hv'
      exact Good.plain hs hd (v := a.eval x) (by simp [execOp, ho, e]) hv
    · rename_i i j f hx
      have hv := ev x
      rw [hx] at hv
      have hv' := hv
      simp only [Rep] at hv'
      exact Good.plain hs hd (v := a.eval x) (by simp [execOp, ho, hv'.2.2]) hv
    · rename_i f cs hx
      have hv := ev x
      rw [hx] at hv
      have hv' := hv
      simp only [Rep] at hv'
      obtain ⟨vs, e, _⟩ := hv'
      exact Good.plain hs hd (v := a.eval x) (by simp [execOp, ho, e]) hv
  · -- binOp
    rename_i op t x y ty ho
    split at h
    · rename_i c v hb
      simp only [Option.some.injEq, Prod.mk.injEq] at h
      obtain ⟨rfl, rfl⟩ := h
      obtain ⟨z, h1, h2⟩ := binD_run x y hb (ev x) (ev y)
      exact Good.plain hs hd (v := z) (by simp only [execOp, ho, Sem.run_bind] at h1 ⊢; simp only [h1, Result.andThen_ok, Sem.run_pure]) h2
    · cases h
  · -- unOp
    rename_i op t x ho
    split at h
    · rename_i v hv
      simp only [Option.some.injEq, Prod.mk.injEq, true_and] at h; subst h
      have hx := ev x
      generalize evO σ.env x = px at hv hx
      unfold unOpD at hv
      split at hv
      · rename_i b
        cases hv
        simp only [Rep] at hx
        exact Good.plain hs hd (v := .bool (!b)) (by simp [execOp, ho, hx, Op.unary]) (by simp only [Rep])
      · rename_i k n
        cases hv
        simp only [Rep] at hx
        exact Good.plain hs hd (v := .int k (k.wrap (0 - n))) (by simp only [execOp, ho, hx, Op.unary, Op.intArith]; rfl) (by simp only [Rep])
      · cases hv
    · cases h
  · -- convert
    rename_i src dst x ho
    split at h
    · rename_i v hv
      simp only [Option.some.injEq, Prod.mk.injEq, true_and] at h; subst h
      have hx := ev x
      generalize evO σ.env x = px at hv hx
      unfold convD at hv
      split at hv
      · rename_i ds k kx n h1 h2
        cases hv
        simp only [Rep] at hx
        exact Good.plain hs hd (v := .int k (k.wrap n)) (by simp [execOp, ho, hx, convert, VE.underlying_run h1, VE.underlying_run h2, Conv.intToInt]) (by simp only [Rep])
      · rename_i ds s h1 h2
        cases hv
        simp only [Rep] at hx
        exact Good.plain hs hd (v := .string s) (by simp [execOp, ho, hx, convert, VE.underlying_run h1, VE.underlying_run h2]) (by simp only [Rep])
      · rename_i ks kx n h1 h2
        cases hv
        simp only [Rep] at hx
        exact Good.plain hs hd (v := .string (Utf8.encode n)) (by simp [execOp, ho, hx, convert, VE.underlying_run h1, VE.underlying_run h2, Conv.intToString]) (by simp only [Rep])
      · rename_i e l tk h1 h2
        cases hu : u8Of P e with
        | false => rw [hu] at hv; cases hv
        | true =>
          rw [hu] at hv
          cases hv
          have he : P.underlying e = some (.int .u8) := by
            unfold u8Of at hu
            split at hu
            · assumption
            · cases hu
          simp only [Rep] at hx
          obtain ⟨ad, cap, e1, hrep, _⟩ := hx
          rw [e1] at hrep
          obtain ⟨ad', cap', e2, hl, hnn, hsl⟩ := hrep
          simp only [List.cons.injEq, Value.slice.injEq, and_true, true_and] at e2
          obtain ⟨rfl, rfl⟩ := e2
          have key : (Conv.bytesToString (.slice ad l.len cap)).run P w = .ok (.string (strOfL l)) w := by
            cases ad with
            | none =>
              have h0 : l.len = 0 := by have := hnn.1 rfl; omega
              have : strOfL l = ByteArray.empty := by simp [strOfL, h0]
              rw [this]
              rfl
            | some ad =>
              have hc := run_loadCells_list (P := P) (w := w) ad (((List.range l.len).map l.get).map (Value.int .u8)) (fun j v hj => by
                simp only [List.getElem?_map, Option.map_eq_some_iff] at hj
                obtain ⟨m, ⟨n, hn, rfl⟩, rfl⟩ := hj
                obtain ⟨hjl, hjn⟩ := List.getElem?_eq_some_iff.mp hn
                simp only [List.length_range] at hjl
                simp only [List.getElem_range] at hjn
                subst hjn
                obtain ⟨q1, q2⟩ := hsl ad rfl
                obtain ⟨us, q3, q4⟩ := q2 j hjl
                have q1 := q1 (by omega)
                have q3 : us = [.int .u8 (l.get j)] := q3
                subst q3
                have := (q4 0 _ rfl).2
                have e3 : ad = ⟨ad.block, ad.off, none⟩ := by cases ad; simp_all
                rw [e3, add_none]
                simpa [Ty.size] using this)
              have := run_bytesToString (P := P) w ad l.len cap ((List.range l.len).map l.get) (by simpa using hc)
              exact this
          exact Good.plain hs hd (v := .string (strOfL l)) (by simp only [execOp, ho, e1, run_convert_bytes_string w src dst e ad l.len cap h1 he h2, key, Sem.run_bind, Result.andThen_ok, Sem.run_pure]) (by simp only [Rep])
      · cases hv
    · cases h
  · -- makeFunc
    rename_i f first cap ho
    split at h
    · rename_i hf
      simp only [Option.some.injEq, Prod.mk.injEq, true_and] at h; subst h
      have hf' : first = #[] := by simpa using hf
      subst hf'
      refine Good.plain hs hd (v := .func (.func f) #[] (cap.map a.eval)) (by simp [execOp, ho, Instr.makeFunc]) ?_
      simp only [Rep]
      refine ⟨cap.toList.map a.eval, (by congr 1; apply Array.ext'; simp), Reps.of_get (by simp) fun i p v hp hv => ?_⟩
      simp only [List.getElem?_map, Option.map_eq_some_iff] at hp hv
      obtain ⟨x, hx, rfl⟩ := hp
      obtain ⟨y, hy, rfl⟩ := hv
      rw [hx] at hy; cases hy
      exact ev x
    · cases h
  · -- makeSlice
    rename_i t l c ho
    split at h
    · rename_i dd hdst
      unfold mkSlD at h
      split at h
      · rename_i e n m he hl hc
        split at h
        · rename_i ty by_ hty hb hby
          simp only [Option.some.injEq, Prod.mk.injEq, Bool.and_eq_true, decide_eq_true_eq] at h
          obtain ⟨⟨rfl, h0, h40, h48⟩, rfl⟩ := h
          obtain ⟨i, z, hi, hsz, hz, hzz⟩ := hΓ e ty hty
          have hu : P.underlying t = some (.slice e) := by
            unfold VE.elemOf at he
            split at he
            · cases he; assumption
            · cases he
          have hlv := ev l
          have hcv := ev c
          rw [hl] at hlv
          rw [hc] at hcv
          simp only [Rep] at hlv hcv
          have hwr := i64_wrap_id h0 h40
          have hzl : z.cells.size = ty.size := by
            have := (zeroV_rep g.col w ty).length
            rw [← hzz] at this
            simpa using this
          have hbyi : i.bytes = by_ := by simpa [VE.bytesOf, hi] using hby
          have hmk := run_make (P := P) w t e i z hu hi hz .i64 .i64 n n h0 (Int.le_refl _) (by rw [hbyi]; omega) (by omega)
          have hrun : (execOp a.eval o).run P w = .ok (.value (.slice (some ⟨w.heap.size, 0, none⟩) n.toNat n.toNat)) (w.alloc (.cells (madeCells z.cells (n.toNat * i.size)) e)) := by
            simp only [execOp, ho, Sem.run_bind, hlv, hcv, hmk, Result.andThen_ok, Sem.run_pure]
          rw [hdst] at hd
          refine ⟨_, _, ghBox g w.heap.size (σ.off + dd) n.toNat ty.size, .inl hrun, ?_⟩
          rw [hdst]
          have hgs := gstays_box hs hb n.toNat ty.size (.cells (madeCells z.cells (n.toNat * i.size)).toList.toArray e)
          have hel : ∀ k, k < n.toNat → ∀ (j : Nat) (v : Value), ty.zeroV[j]? = some v → (ghBox g w.heap.size (σ.off + dd) n.toNat ty.size).col ((ghBox g w.heap.size (σ.off + dd) n.toNat ty.size).bx (σ.off + dd)).1 (((ghBox g w.heap.size (σ.off + dd) n.toNat ty.size).bx (σ.off + dd)).2 + k * ty.size + j) = .bx (σ.off + dd) ∧
              (w.alloc (.cells (madeCells z.cells (n.toNat * i.size)).toList.toArray e)).cell? ⟨((ghBox g w.heap.size (σ.off + dd) n.toNat ty.size).bx (σ.off + dd)).1, ((ghBox g w.heap.size (σ.off + dd) n.toNat ty.size).bx (σ.off + dd)).2 + k * ty.size + j, none⟩ = some v ∧
              (w.alloc (.cells (madeCells z.cells (n.toNat * i.size)).toList.toArray e)).frozen? ⟨((ghBox g w.heap.size (σ.off + dd) n.toNat ty.size).bx (σ.off + dd)).1, ((ghBox g w.heap.size (σ.off + dd) n.toNat ty.size).bx (σ.off + dd)).2 + k * ty.size + j, none⟩ = false := fun k hk j v hj => by
              have hk' : k < n.toNat := hk
              have hjl : j < ty.size := by
                have := (List.getElem?_eq_some_iff.mp hj).1
                rwa [(zeroV_rep g.col w ty).length] at this
              simp only [ghBox_bx, Nat.zero_add]
              refine ⟨ghBox_new _ _ _ _ _ _, ?_, by rw [World.frozen?_alloc_new]⟩
              rw [World.cell?_alloc_new]
              have := zero_cells z.cells n.toNat k j hk' (by rw [hzl]; exact hjl)
              rw [hzl] at this
              rw [← hzz] at hj
              simp only [Array.getElem?_toList] at hj
              rw [hj] at this
              simpa [madeCells, hzl, hsz] using this
          have hhd : ((0 < n.toNat → ((ghBox g w.heap.size (σ.off + dd) n.toNat ty.size).hd (σ.off + dd)).1 = some ⟨((ghBox g w.heap.size (σ.off + dd) n.toNat ty.size).bx (σ.off + dd)).1, ((ghBox g w.heap.size (σ.off + dd) n.toNat ty.size).bx (σ.off + dd)).2, none⟩) ∧
              (((ghBox g w.heap.size (σ.off + dd) n.toNat ty.size).hd (σ.off + dd)).1 = none → ((ghBox g w.heap.size (σ.off + dd) n.toNat ty.size).hd (σ.off + dd)).2 = 0) ∧ n.toNat ≤ ((ghBox g w.heap.size (σ.off + dd) n.toNat ty.size).hd (σ.off + dd)).2 ∧
              ((L.rep n.toNat ty.zero).nil = true ↔ ((ghBox g w.heap.size (σ.off + dd) n.toNat ty.size).hd (σ.off + dd)).1 = none)) :=
            ⟨(fun _ => by rw [ghBox_hd, ghBox_bx]), (fun e => by rw [ghBox_hd] at e; cases e), (by rw [ghBox_hd]; exact Nat.le_refl _), (by rw [ghBox_hd]; simp [L.rep])⟩
          have := hs.newBox (ob := .cells (madeCells z.cells (n.toNat * i.size)).toList.toArray e) (ln := n.toNat) (es := ty.size) (c := bif σ.dp && (!ty.flat && ty.fl1) then .mix ty (L.rep n.toNat ty.zero) none else .arr ty (L.rep n.toNat ty.zero)) (p := .ms (σ.off + dd)) (v := .slice (some ⟨w.heap.size, 0, none⟩) n.toNat n.toNat) hd (by rw [hs.off]; exact dstOk_pb hd) hb
            (by
              cases hdp : (σ.dp && (!ty.flat && ty.fl1)) with
              | false => exact ⟨ghBox_ln _ _ _ _ _, ⟨ghBox_es _ _ _ _ _, hhd⟩, fun k hk => ⟨ty.zeroV, zeroV_rep _ _ _, hel k hk⟩⟩
              | true =>
                simp only [Bool.and_eq_true] at hdp
                refine ⟨ghBox_ln _ _ _ _ _, ⟨ghBox_es _ _ _ _ _, hhd⟩, hdp.2.2, fun _ _ => none, fun k hk => ⟨ty.zeroV, ?_, fun j v hj => ?_⟩⟩
                · rw [if_pos (own_none _), ghBox_nh]
                  exact zeroE_rep _ _ _ _ _ _ _
                · obtain ⟨q1, q2, q3⟩ := hel k hk j v hj
                  exact ⟨q1, rfl, q2, q3⟩)
            (by simp only [Rep]; exact ⟨.inl rfl, by rw [ghBox_hd, ghBox_ln]⟩)
          simpa using this
        · cases h
      · cases h
    · cases h
  · -- buildSlice
    rename_i t n parts ho
    split at h
    · rename_i e he
      split at h
      · rename_i ty hty
        split at h
        · rename_i hsmall
          split at h
          · rename_i xs hidx hxs
            simp only [Option.some.injEq, Prod.mk.injEq, true_and] at h; subst h
            obtain ⟨i, z, hi, hsz, hz, hzz⟩ := hΓ e ty hty
            have hu : P.underlying t = some (.slice e) := by
              unfold VE.elemOf at he
              split at he
              · cases he; assumption
              · cases he
            have hidx' : (parts.toList.map fun p => p.1) = List.range' 0 parts.toList.length := by
              have h1 : (parts.toList.map fun p => p.1) = List.range n := by simpa using hidx
              have h2 : n = parts.toList.length := by have := congrArg List.length h1; simpa using this.symm
              rw [h1, h2, List.range_eq_range']
            have hnl : n = parts.toList.length := by
              have h1 : (parts.toList.map fun p => p.1) = List.range n := by simpa using hidx
              have := congrArg List.length h1; simpa using this.symm
            have hzl : z.cells.size = ty.size := by
              have := (zeroV_rep g.col w ty).length
              rw [← hzz] at this
              simpa using this
            have hzv : (zeroValue e).run P w = .ok z w := by simp [zeroValue, typeInfo, hi, hz]
            have fin : ∀ (zs : Array Value), (n * ty.size = 0 ∧ zs = #[]) ∨ (n * ty.size ≠ 0 ∧ zs = z.cells) →
                Good P N c0 w0 (σ.app o.dst { v := .sl ty (L.of ty.zero xs) .tight }) o a w := by
              intro zs hzs
              obtain ⟨news, f1, f2, f3⟩ := fill_row (g := g) (w := w) (ρ := a.eval) (env := σ.env) ev ty parts.toList 0 xs [] ((Array.range (n * ty.size)).map (zs[· % zs.size]!)).toList ty.zero hidx' hxs (by simp) (by simp [hnl])
              have hs' := hs.newSt (.cells news.toArray e)
              have hgs := gstays_st g w (.cells news.toArray e)
              refine ⟨.slice (some ⟨w.heap.size, 0, none⟩) n n, w.alloc (.cells news.toArray e), ghSt g w.heap.size, .inl ?_, ?_⟩
              · have q : ¬ (2 ^ 24 < n * ty.size) := by
                  have : n * ty.size ≤ 1024 * 1024 := Nat.mul_le_mul hsmall.1 hsmall.2
                  omega
                simp only [execOp, ho, Instr.buildSlice, Sem.run_bind, VE.underlying_run hu, Result.andThen_ok, sizeOf, typeInfo, run_program, hi, Sem.run_pure, hsz, gt_iff_lt, q, if_false]
                simp only [List.nil_append] at f1
                have e2 : (Array.map (fun x => match x with | (i, x) => (i, a.eval x)) parts).toList = parts.toList.map (fun p => (p.1, a.eval p.2)) := by simp
                have e3 : (Array.map (fun x => zs[x % zs.size]!) (Array.range (n * ty.size))) = ((Array.range (n * ty.size)).map (zs[· % zs.size]!)).toList.toArray := by apply Array.ext'; simp
                rcases hzs with ⟨q1, rfl⟩ | ⟨q1, rfl⟩
                · rw [if_pos q1]
                  simp only [Sem.run_bind, Sem.run_pure, Result.andThen_ok]
                  rw [e2, e3, f1]
                  rfl
                · rw [if_neg q1]
                  simp only [Sem.run_bind, hzv, Sem.run_pure, Result.andThen_ok]
                  rw [e2, e3, f1]
                  rfl
              · rw [AS.app_plain]
                refine hs'.put hd ?_
                simp only [Rep]
                have hlen : (L.of ty.zero xs).len = n := by rw [hnl, ← f3]; rfl
                have hrep := rep_of_flat (c := (ghSt g w.heap.size).col) (w := w.alloc (.cells news.toArray e)) (x := L.of ty.zero xs) (b := w.heap.size) (o := 0) (cap := n) (f2.mono hgs.toStays)
                  (fun j v hj => ⟨if_pos rfl, by rw [Nat.zero_add, World.cell?_alloc_new]; simpa using hj⟩) (by rw [hlen]; exact Nat.le_refl _) rfl
                exact ⟨_, n, by rw [hlen], by rw [hlen] at hrep; exact hrep, hlen.symm, fun _ h => by cases h; rfl⟩
            by_cases hn0 : n * ty.size = 0
            · exact fin #[] (.inl ⟨hn0, rfl⟩)
            · exact fin z.cells (.inr ⟨hn0, rfl⟩)
          · cases h
        · cases h
      · cases h
    · cases h
  · -- fieldAddr
    rename_i s x f ho
    split at h
    · rename_i off ft hf
      split at h
      · rename_i m hm
        obtain ⟨fs, fd, hu, hfd, rfl, rfl⟩ : ∃ fs fd, P.underlying s = some (.struct fs) ∧ fs[f]? = some fd ∧ fd.offset = off ∧ fd.type = ft := by
          unfold fieldOf at hf
          split at hf
          · rename_i fs hu
            split at hf
            · rename_i fd hfd
              simp only [Option.some.injEq, Prod.mk.injEq] at hf
              exact ⟨fs, fd, hu, hfd, hf.1, hf.2⟩
            · cases hf
          · cases hf
        have hrun : ∀ b oo, (Instr.fieldAt s (.pointer (some ⟨b, oo, none⟩)) f).run P w = .ok (.pointer (some ⟨b, oo + fd.offset, none⟩)) w := by
          intro b oo
          simp only [Instr.fieldAt, Sem.run_bind, VE.underlying_run hu, Result.andThen_ok, hfd, Instr.sureAddr, Sem.run_pure, fieldPlace, sizeOf_run hm]
          rw [if_neg (by omega)]
          simp [add_none]
        have hxv := ev x
        split at h <;> try cases h
        · rename_i id o' hx
          rw [hx] at hxv
          simp only [Rep] at hxv
          exact Good.plain hs hd (v := .pointer (some ⟨(g.bx id).1, (g.bx id).2 + o' + fd.offset, none⟩)) (by simp [execOp, ho, hxv.2, hrun]) (by simp only [Rep]; exact ⟨hxv.1, by rw [Nat.add_assoc]⟩)
        · rename_i cs hx
          rw [hx] at hxv
          simp only [Rep] at hxv
          obtain ⟨b, oo, us, e, h2, h3⟩ := hxv
          refine Good.plain hs hd (v := .pointer (some ⟨b, oo + fd.offset, none⟩)) (by simp [execOp, ho, e, hrun]) ?_
          simp only [Rep]
          refine ⟨b, oo + fd.offset, us.drop fd.offset, rfl, h2.drop _, fun j v hj => ?_⟩
          rw [List.getElem?_drop] at hj
          have := h3 _ v hj
          rwa [← Nat.add_assoc] at this
        · rename_i id i o' hx
          rw [hx] at hxv
          simp only [Rep] at hxv
          exact Good.plain hs hd (v := .pointer (some ⟨(g.bx id).1, (g.bx id).2 + i * g.es id + o' + fd.offset, none⟩)) (by simp [execOp, ho, hxv.2.2, hrun]) (by simp only [Rep]; exact ⟨hxv.1, hxv.2.1, by rw [Nat.add_assoc _ o']⟩)
      · cases h
    · cases h
  · -- field
    rename_i s x f ho
    split at h
    · rename_i off ft cs hf hx
      split at h
      · rename_i v hv
        simp only [Option.some.injEq, Prod.mk.injEq, true_and] at h; subst h
        obtain ⟨fs, fd, hu, hfd, rfl, rfl⟩ : ∃ fs fd, P.underlying s = some (.struct fs) ∧ fs[f]? = some fd ∧ fd.offset = off ∧ fd.type = ft := by
          unfold fieldOf at hf
          split at hf
          · rename_i fs hu
            split at hf
            · rename_i fd hfd
              simp only [Option.some.injEq, Prod.mk.injEq] at hf
              exact ⟨fs, fd, hu, hfd, hf.1, hf.2⟩
            · cases hf
          · cases hf
        have hxv := ev x
        rw [hx] at hxv
        simp only [Rep] at hxv
        obtain ⟨vs, e, h2⟩ := hxv
        obtain ⟨u, h3, h4⟩ := part_run (P := P) (t := fd.type) hv h2
        exact Good.plain hs hd (v := u) (by simp only [execOp, ho, e, Instr.field, Sem.run_bind, VE.underlying_run hu, Result.andThen_ok, hfd, asAgg, Sem.run_pure, h3]) h4
      · cases h
    · cases h
  · -- indexAddr
    rename_i t x ix ho
    unfold ixD at h
    split at h
    · rename_i e k n he hn
      obtain ⟨hu, hsz⟩ : P.underlying t = some (.slice e) ∧ ∀ ty, Γ e = some ty → szOf P e = some ty.size := by
        refine ⟨?_, fun ty hty => ?_⟩
        · unfold VE.elemOf at he
          split at he
          · cases he; assumption
          · cases he
        · obtain ⟨i, z, hi, hsz, _⟩ := hΓ e ty hty
          simp [szOf, hi, hsz]
      have hiv := ev ix
      rw [hn] at hiv
      simp only [Rep] at hiv
      have hxv := ev x
      have hrun : ∀ (b oo : Nat) (len cap m : Nat), 0 ≤ n → n < len → szOf P e = some m → (Instr.indexAt t (.slice (some ⟨b, oo, none⟩) len cap) (.int k n)).run P w = .ok (.pointer (some ⟨b, oo + n.toNat * m, none⟩)) w := by
        intro b oo len cap m h0 h1 hm
        simp only [Instr.indexAt, asIntOf, Sem.run_bind, Sem.run_pure, Result.andThen_ok, VE.underlying_run hu]
        rw [if_pos ⟨h0, h1⟩]
        simp [add_none, sizeOf_run hm]
      split at h
      · rename_i ty ty' l tk hty hx
        split at h
        · rename_i hbq
          simp only [Option.some.injEq, Prod.mk.injEq, Bool.and_eq_true, decide_eq_true_eq] at h
          obtain ⟨⟨h0, h1⟩, rfl⟩ := h
          rw [hx] at hxv
          simp only [Rep] at hxv
          obtain ⟨ad, cap, e1, hrep, _⟩ := hxv
          rw [e1] at hrep
          rw [castT_len] at h1
          obtain ⟨a', cap', e2, hl, hnn, hsl⟩ := hrep
          simp only [List.cons.injEq, Value.slice.injEq, and_true, true_and] at e2
          obtain ⟨rfl, rfl⟩ := e2
          cases ad with
          | none => have := hnn.1 rfl; omega
          | some ad =>
            obtain ⟨q1, q2⟩ := hsl ad rfl
            obtain ⟨us, q3, q4⟩ := q2 n.toNat (by omega)
            have q1' := q1 (by omega)
            have e3 : ad = ⟨ad.block, ad.off, none⟩ := by cases ad; simp_all
            have hs1 : szOf P e = some ty'.size := by rw [Ty.eq_of_beq hbq]; exact hsz ty hty
            refine Good.plain hs hd (v := .pointer (some ⟨ad.block, ad.off + n.toNat * ty'.size, none⟩)) ?_ ?_
            · rw [e3] at e1
              simp only [execOp, ho, e1, hiv, Sem.run_bind, hrun _ _ _ _ _ h0 h1 hs1, Result.andThen_ok, Sem.run_pure]
            · simp only [Rep]
              rw [castT_pk]
              exact ⟨_, _, us, rfl, reps_pk q3, q4⟩
        · cases h
      · rename_i ty id hty hx
        rw [hx] at h
        simp only [msBox] at h
        split at h
        · rename_i ty' l hb
          split at h
          · rename_i hbq
            simp only [Option.some.injEq, Prod.mk.injEq, Bool.and_eq_true, decide_eq_true_eq] at h
            obtain ⟨⟨h0, h1⟩, rfl⟩ := h
            rw [hx] at hxv
            simp only [Rep] at hxv
            obtain ⟨hdm, e1⟩ := hxv
            obtain ⟨b1, ⟨b2, b4, _⟩, b3⟩ := (hs.box _ _ hb).2
            rw [b4 (by omega)] at e1
            have h1' : n < (g.ln id : Int) := by rw [b1]; exact h1
            have hs1 : szOf P e = some ty'.size := by rw [Ty.eq_of_beq hbq]; exact hsz ty hty
            refine Good.plain hs hd (v := .pointer (some ⟨(g.bx id).1, (g.bx id).2 + n.toNat * ty'.size, none⟩)) ?_ ?_
            · simp only [execOp, ho, e1, hiv, Sem.run_bind, hrun _ _ _ _ _ h0 h1' hs1, Result.andThen_ok, Sem.run_pure]
            · simp only [Rep]
              exact ⟨hdm, by rw [b1]; omega, by rw [b2]; rfl⟩
          · cases h
        · rename_i ty' l _ hb
          split at h
          · rename_i hbq
            simp only [Option.some.injEq, Prod.mk.injEq, Bool.and_eq_true, decide_eq_true_eq] at h
            obtain ⟨⟨h0, h1⟩, rfl⟩ := h
            rw [hx] at hxv
            simp only [Rep] at hxv
            obtain ⟨hdm, e1⟩ := hxv
            obtain ⟨b1, ⟨b2, b4, _⟩, b3⟩ := (hs.box _ _ hb).2
            rw [b4 (by omega)] at e1
            have h1' : n < (g.ln id : Int) := by rw [b1]; exact h1
            have hs1 : szOf P e = some ty'.size := by rw [Ty.eq_of_beq hbq]; exact hsz ty hty
            refine Good.plain hs hd (v := .pointer (some ⟨(g.bx id).1, (g.bx id).2 + n.toNat * ty'.size, none⟩)) ?_ ?_
            · simp only [execOp, ho, e1, hiv, Sem.run_bind, hrun _ _ _ _ _ h0 h1' hs1, Result.andThen_ok, Sem.run_pure]
            · simp only [Rep]
              exact ⟨hdm, by rw [b1]; omega, by rw [b2]; rfl⟩
          · cases h
        · cases h
      · cases h
    · cases h
  · -- index
    rename_i t x ix ho
    have hxv := ev x
    have hiv := ev ix
    split at h
    · rename_i s k n hu hx hn
      simp only [Option.some.injEq, Prod.mk.injEq, Bool.and_eq_true, decide_eq_true_eq] at h
      obtain ⟨⟨h0, h1⟩, rfl⟩ := h
      rw [hx] at hxv
      rw [hn] at hiv
      simp only [Rep] at hxv hiv
      have hlt : n.toNat < s.size := by omega
      refine Good.plain hs hd (v := .int .u8 (bt s n)) ?_ (by simp only [Rep])
      have hget : s[n.toNat]? = some s[n.toNat] := by simp [hlt]
      simp only [execOp, ho, hxv, hiv, Instr.index, asIntOf, Sem.run_bind, Sem.run_pure, Result.andThen_ok, VE.underlying_run hu, h0, if_true, hget, bt, Option.getD_some]
    · rename_i m e cs k n hu hx hn
      split at h
      · rename_i z hz
        split at h
        · rename_i v hv
          simp only [Option.some.injEq, Prod.mk.injEq, Bool.and_eq_true, decide_eq_true_eq] at h
          obtain ⟨⟨h0, h1⟩, rfl⟩ := h
          rw [hx] at hxv
          rw [hn] at hiv
          simp only [Rep] at hxv hiv
          obtain ⟨vs, e1, h2⟩ := hxv
          obtain ⟨u, h3, h4⟩ := part_run (P := P) (t := e) hv h2
          refine Good.plain hs hd (v := u) ?_ h4
          simp only [execOp, ho, e1, hiv, Instr.index, asIntOf, Sem.run_bind, Sem.run_pure, Result.andThen_ok, VE.underlying_run hu]
          rw [if_pos ⟨h0, h1⟩]
          simp only [Sem.run_bind, sizeOf_run hz, Result.andThen_ok, h3]
        · cases h
      · cases h
    · cases h
  · -- extract
    rename_i x i ho
    split at h
    · rename_i cs hx
      split at h
      · rename_i v hv
        simp only [Option.some.injEq, Prod.mk.injEq, true_and] at h; subst h
        have hxv := ev x
        rw [hx] at hxv
        simp only [Rep] at hxv
        obtain ⟨vs, e1, h2⟩ := hxv
        obtain ⟨u, h3, h4⟩ := h2.get i v hv
        exact Good.plain hs hd (v := u) (by simp [execOp, ho, e1, Instr.extract, h3]) h4
      · cases h
    · cases h
  · -- slice
    rename_i t x lo hi ho
    have hxv := ev x
    have hlo : ∀ (d : Nat) (l : Int), boundOf (lo.map (evO σ.env)) d = some l → (∃ k, lo.map a.eval = some (.int k l)) ∨ (lo.map a.eval = none ∧ l = d) := by
      intro d l hl
      cases lo with
      | none => simp [boundOf] at hl; exact .inr ⟨rfl, hl.symm⟩
      | some q =>
        have hq := ev q
        simp only [Option.map_some] at hl ⊢
        unfold boundOf at hl
        split at hl
        · rename_i k n e
          simp only [Option.some.injEq] at e
          rw [e] at hq
          simp only [Rep] at hq
          cases hl
          exact .inl ⟨k, by rw [hq]⟩
        · rename_i e; cases e
        · cases hl
    have hhi : ∀ (d : Nat) (l : Int), boundOf (hi.map (evO σ.env)) d = some l → (∃ k, hi.map a.eval = some (.int k l)) ∨ (hi.map a.eval = none ∧ l = d) := by
      intro d l hl
      cases hi with
      | none => simp [boundOf] at hl; exact .inr ⟨rfl, hl.symm⟩
      | some q =>
        have hq := ev q
        simp only [Option.map_some] at hl ⊢
        unfold boundOf at hl
        split at hl
        · rename_i k n e
          simp only [Option.some.injEq] at e
          rw [e] at hq
          simp only [Rep] at hq
          cases hl
          exact .inl ⟨k, by rw [hq]⟩
        · rename_i e; cases e
        · cases hl
    -- the bounds, told
    have bounds : ∀ (isS : Bool) (len cap : Nat) (l hh : Int), boundOf (lo.map (evO σ.env)) ((0 : Nat) : Int) = some l → boundOf (hi.map (evO σ.env)) (len : Int) = some hh → 0 ≤ l → l ≤ hh → hh ≤ len → len ≤ cap →
        (Instr.sliceBounds isS len cap (lo.map a.eval) (hi.map a.eval) none).run P w = .ok (l.toNat, hh.toNat, cap) w := by
      intro isS len cap l hh h1 h2 q0 q1 q2 q3
      have eh : (hh.toNat : Int) = hh := Int.toNat_of_nonneg (by omega)
      rcases hlo _ _ h1 with ⟨kl, e1⟩ | ⟨e1, e2⟩ <;> rcases hhi _ _ h2 with ⟨kh, e3⟩ | ⟨e3, e4⟩
      · have r1 := run_sliceBound (P := P) w kh hh cap (if isS then .sliceAcap else .sliceAlen) (by omega) (by omega)
        have r2 := run_sliceBound (P := P) w kl l hh.toNat .sliceB (by omega) (by omega)
        simp [Instr.sliceBounds, e1, e3, r1, r2]
      · subst e4
        have r2 := run_sliceBound (P := P) w kl l len .sliceB (by omega) (by omega)
        simp [Instr.sliceBounds, e1, e3, r2]
      · subst e2
        have r1 := run_sliceBound (P := P) w kh hh cap (if isS then .sliceAcap else .sliceAlen) (by omega) (by omega)
        simp [Instr.sliceBounds, e1, e3, r1]
      · subst e2 e4
        simp [Instr.sliceBounds, e1, e3]
    split at h
    · rename_i s l hu hx hl
      split at h
      · rename_i hh hhe
        simp only [Option.some.injEq, Prod.mk.injEq, Bool.and_eq_true, decide_eq_true_eq] at h
        obtain ⟨⟨h0, h1, h2⟩, rfl⟩ := h
        rw [hx] at hxv
        simp only [Rep] at hxv
        refine Good.plain hs hd (v := .string (s.extract l.toNat hh.toNat)) ?_ (by simp only [Rep])
        simp only [execOp, ho, hxv, Instr.sliceAt, Sem.run_bind, VE.underlying_run hu, Result.andThen_ok, Instr.slice]
        simp only [Option.isSome_none, Option.map_none, Bool.false_eq_true, if_false, Sem.run_bind, bounds false s.size s.size l hh hl hhe h0 h1 h2 (Nat.le_refl _), Result.andThen_ok, Sem.run_pure]
      · cases h
    · rename_i e ty x' tk l hu hx hl
      split at h
      · rename_i ty' hh hty hhe
        split at h
        · rename_i hbq
          simp only [Option.some.injEq, Prod.mk.injEq, Bool.and_eq_true, decide_eq_true_eq] at h
          obtain ⟨⟨h0, h1, h2⟩, rfl⟩ := h
          rw [hx] at hxv
          simp only [Rep] at hxv
          obtain ⟨ad, cap, e1, hrep, htk⟩ := hxv
          rw [e1] at hrep
          obtain ⟨a', cap', e2, hlen, ⟨hnn, hnil⟩, hsl⟩ := hrep
          simp only [List.cons.injEq, Value.slice.injEq, and_true, true_and] at e2
          obtain ⟨rfl, rfl⟩ := e2
          obtain ⟨i, z, hi', hsz, _⟩ := hΓ e ty' hty
          have hs1 : szOf P e = some ty.size := by rw [Ty.eq_of_beq hbq]; simp [szOf, hi', hsz]
          refine Good.plain hs hd (v := .slice (if cap = l.toNat then ad else ad.map (·.add (l.toNat * ty.size))) (hh.toNat - l.toNat) (cap - l.toNat)) ?_ ?_
          · simp only [execOp, ho, e1, Instr.sliceAt, Sem.run_bind, VE.underlying_run hu, Result.andThen_ok, Instr.slice]
            simp only [Option.map_none, bounds true x'.len cap l hh hl hhe h0 h1 h2 hlen, Result.andThen_ok, sizeOf_run hs1, Sem.run_pure]
          · simp only [Rep]
            refine ⟨_, _, rfl, ⟨_, _, rfl, ?_, ⟨?_, ?_⟩, fun ad2 had2 => ?_⟩, ?_⟩
            · show hh.toNat - l.toNat ≤ cap - l.toNat
              omega
            · intro hn
              split at hn
              · omega
              · cases ad with
                | none => have := hnn rfl; omega
                | some ad => simp at hn
            · show x'.nil = true ↔ _
              rw [hnil]
              split
              · exact Iff.rfl
              · cases ad <;> simp
            · split at had2
              · rename_i hc
                refine ⟨fun hp => ?_, fun i hi => ?_⟩
                · have : 0 < hh.toNat - l.toNat := hp
                  omega
                · have : i < hh.toNat - l.toNat := hi
                  omega
              · cases ad with
                | none => simp at had2
                | some ad =>
                  simp only [Option.map_some, Option.some.injEq] at had2
                  obtain ⟨q1, q2⟩ := hsl ad rfl
                  have e4 : 0 < x'.len → ad2 = ⟨ad.block, ad.off + l.toNat * ty.size, none⟩ := by
                    intro hp
                    have q1' := q1 hp
                    have e3 : ad = ⟨ad.block, ad.off, none⟩ := by cases ad; simp_all
                    rw [← had2, e3]; exact add_none _ _ _
                  refine ⟨fun hp => ?_, fun i hi => ?_⟩
                  · have : 0 < hh.toNat - l.toNat := hp
                    rw [e4 (by omega)]
                  have hi' : i < hh.toNat - l.toNat := hi
                  have e4 := e4 (by omega)
                  subst e4
                  obtain ⟨us, q3, q4⟩ := q2 (l.toNat + i) (by omega)
                  refine ⟨us, q3, ?_⟩
                  simp only
                  rw [show ad.off + l.toNat * ty.size + i * ty.size = ad.off + (l.toNat + i) * ty.size by rw [Nat.add_mul]; omega]
                  exact q4
            · cases hi with
              | some y => exact trivial
              | none =>
                have hhl : hh = (x'.len : Int) := by simpa [boundOf] using hhe.symm
                show TkC g ty.size (hh.toNat - l.toNat) _ _ tk
                rw [hhl, Int.toNat_natCast]
                exact htk.cut (by omega) hlen
        · cases h
      · cases h
    · -- of nothing
      rename_i e l hu hx hl
      split at h
      · rename_i m k hh hm hhe
        simp only [Option.some.injEq, Prod.mk.injEq, Bool.and_eq_true, decide_eq_true_eq] at h
        obtain ⟨⟨rfl, rfl⟩, rfl⟩ := h
        rw [hx] at hxv
        simp only [Rep] at hxv
        have hb := bounds true 0 0 0 0 hl (by rw [hhe]; rfl) (by omega) (by omega) (by simp) (by omega)
        refine Good.plain hs hd (v := .slice none 0 0) ?_ (by simp only [Rep])
        simp only [execOp, ho, hxv, Instr.sliceAt, Sem.run_bind, VE.underlying_run hu, Result.andThen_ok, Instr.slice]
        simp only [Option.map_none, hb, Result.andThen_ok, sizeOf_run hm, Sem.run_pure]
        simp
      · cases h
    · -- of room
      rename_i e ty k l hu hx hl
      split at h
      · rename_i ty' kk hh hty hhe
        split at h
        · rename_i hbq
          simp only [Option.some.injEq, Prod.mk.injEq, Bool.and_eq_true, decide_eq_true_eq] at h
          obtain ⟨⟨rfl, rfl⟩, rfl⟩ := h
          rw [hx] at hxv
          simp only [Rep] at hxv
          obtain ⟨ad, n, cap, e1, hsp, hnc, htk⟩ := hxv
          obtain ⟨i, z, hi', hsz, _⟩ := hΓ e ty' hty
          have hs1 : szOf P e = some ty.size := by rw [Ty.eq_of_beq hbq]; simp [szOf, hi', hsz]
          have hb := bounds true n cap 0 0 hl (by rw [hhe]; rfl) (by omega) (by omega) (by omega) hnc
          have e2 : ad = ⟨ad.block, ad.off, none⟩ := by cases ad; simp_all
          refine Good.plain hs hd (v := .slice (some ad) 0 cap) ?_ ?_
          · simp only [execOp, ho, e1, Instr.sliceAt, Sem.run_bind, VE.underlying_run hu, Result.andThen_ok, Instr.slice]
            simp only [Option.map_none, hb, Result.andThen_ok, sizeOf_run hs1, Sem.run_pure]
            have e3 : ad.add (Int.toNat 0 * ty.size) = ad := by rw [e2, add_none]; simp
            simp only [Option.map_some, e3]
            simp
          · simp only [Rep]
            exact ⟨some ad, cap, rfl, ⟨some ad, cap, rfl, Nat.zero_le _, ⟨fun q => (by cases q), (by simp)⟩, fun ad2 _ => ⟨fun q => absurd q (by simp), fun i q => absurd q (by simp)⟩⟩, htk⟩
        · cases h
      · cases h
    · cases h
  · -- range
    rename_i t x ho
    split at h
    · rename_i dd s hdst hu hx
      split at h
      · rename_i hb
        simp only [Option.some.injEq, Prod.mk.injEq, true_and] at h; subst h
        have hxr := ev x
        rw [hx] at hxr
        simp only [Rep] at hxr
        refine ⟨.pointer (some ⟨w.heap.size, 0, none⟩), w.alloc (.stringIter s 0), ghBox g w.heap.size (σ.off + dd) 0 0, .inl ?_, ?_⟩
        · simp [execOp, ho, Instr.range, hxr, VE.underlying_run hu]
        · rw [hdst] at hd ⊢
          exact hs.newBox (ob := .stringIter s 0) (ln := 0) (es := 0) (c := .iter s 0) (p := .bx (σ.off + dd) 0) (v := .pointer (some ⟨w.heap.size, 0, none⟩)) hd (by rw [hs.off]; exact dstOk_pb hd) hb
            ⟨by rw [ghBox_bx], fun o => by rw [ghBox_bx]; exact ghBox_new _ _ _ _ _ _, by rw [ghBox_bx]; show (w.heap.push _)[w.heap.size]? = _; rw [Array.getElem?_push, if_pos rfl]⟩
            (by simp only [Rep]; exact ⟨.inl rfl, by simp only [ghBox_bx, Nat.add_zero]⟩)
      · cases h
    · cases h
  · -- next
    rename_i it ho
    split at h
    · rename_i id hit
      split at h
      · rename_i s pos hb
        have hi := ev it
        rw [hit] at hi
        simp only [Rep] at hi
        obtain ⟨b1, b2, b3, b4⟩ := hs.box _ _ hb
        rw [b2] at hi
        simp only [Nat.add_zero] at hi
        cases hlt : Nat.blt pos s.size with
        | true =>
          rw [hlt] at h
          simp only [cond_true, Option.some.injEq, Prod.mk.injEq, true_and] at h; subst h
          have hlt' : pos < s.size := by simpa [Nat.blt_eq] using hlt
          refine ⟨.tuple #[.bool true, goInt pos, .int .i32 (Utf8.decode s pos).1], { w with heap := w.heap.setIfInBounds (g.bx id).1 (.stringIter s (pos + (Utf8.decode s pos).2)) }, g, .inl ?_, ?_⟩
          · simp [execOp, ho, Instr.next, hi.2, b4, hlt', getObj, setObj, Sem.run, Result.andThen]
          · have h2 := hs.setIter hb (pos + (Utf8.decode s pos).2)
            have := h2.put hd (p := .tup [.bool true, .int .i64 pos, .int .i32 (Utf8.decode s pos).1]) (v := .tuple #[.bool true, goInt pos, .int .i32 (Utf8.decode s pos).1]) (by
              simp only [Rep, Reps]
              exact ⟨_, rfl, _, _, rfl, rfl, _, _, rfl, rfl, _, _, rfl, rfl, rfl⟩)
            cases hdst : o.dst with
            | none => rw [hdst] at this; exact this
            | some dd => rw [hdst] at this; exact this
        | false =>
          rw [hlt] at h
          simp only [cond_false, Option.some.injEq, Prod.mk.injEq, true_and] at h; subst h
          have hlt' : ¬ pos < s.size := by
            intro q
            have : Nat.blt pos s.size = true := by simpa [Nat.blt_eq] using q
            rw [this] at hlt; cases hlt
          refine Good.plain hs hd (v := .tuple #[.bool false]) ?_ (by simp only [Rep, Reps]; exact ⟨_, rfl, _, _, rfl, rfl, rfl⟩)
          simp [execOp, ho, Instr.next, hi.2, b4, hlt', getObj, Sem.run, Result.andThen]
      · cases h
    · cases h
  · -- len
    rename_i args argTypes ho
    split at h
    · rename_i x t hargs htys
      split at h
      · rename_i n hn
        simp only [Option.some.injEq, Prod.mk.injEq, true_and] at h; subst h
        have ha : args = #[x] := by apply Array.ext'; simpa using hargs
        have hta : argTypes = #[t] := by apply Array.ext'; simpa using htys
        subst ha hta
        have hxv := ev x
        refine Good.plain hs hd (v := .int .i64 n) ?_ (by simp only [Rep])
        have key : (Builtin.len_ #[t] o.type #[a.eval x]).run P w = .ok (.int .i64 n) w := by
          unfold lenOf at hn
          split at hn
          · rename_i e ty l tk hu hx
            cases hn
            rw [hx] at hxv; simp only [Rep] at hxv
            obtain ⟨ad, cap, e1, _⟩ := hxv
            simp [Builtin.len_, e1, VE.underlying_run hu, goInt]
          · rename_i e hu hx
            cases hn
            rw [hx] at hxv; simp only [Rep] at hxv
            simp [Builtin.len_, hxv, VE.underlying_run hu, goInt]
          · rename_i s hu hx
            cases hn
            rw [hx] at hxv; simp only [Rep] at hxv
            simp [Builtin.len_, hxv, VE.underlying_run hu, goInt]
          · rename_i e id hu hx
            split at hn
            · rename_i ty l hb
              cases hn
              rw [hx] at hxv; simp only [Rep] at hxv
              obtain ⟨b1, _⟩ := (hs.box _ _ hb).2
              simp [Builtin.len_, hxv.2, VE.underlying_run hu, goInt, b1]
            · rename_i ty l _ hb
              cases hn
              rw [hx] at hxv; simp only [Rep] at hxv
              obtain ⟨b1, _⟩ := (hs.box _ _ hb).2
              simp [Builtin.len_, hxv.2, VE.underlying_run hu, goInt, b1]
            · cases hn
          · rename_i e id i j hu hx
            split at hn
            · rename_i ty l hb
              split at hn
              · rename_i u' y hy
                cases hn
                rw [hx] at hxv; simp only [Rep] at hxv
                obtain ⟨_, hi, e1⟩ := hxv
                obtain ⟨b1, _, b2, pa, b3⟩ := (hs.box _ _ hb).2
                obtain ⟨us, b4, _⟩ := b3 i (by rw [← b1]; exact hi)
                rw [if_pos (own_none _)] at b4
                obtain ⟨⟨v, a', cap', _, b5, _⟩, _⟩ := slN_rep hy b4 b2
                rw [Nat.zero_add] at b5
                rw [b5] at e1
                simp [Builtin.len_, e1, VE.underlying_run hu, goInt]
              · cases hn
            · cases hn
          · cases hn
        simp only [execOp, ho, resolve, invoke, builtin, Sem.run_bind, Sem.run_pure, Result.andThen_ok]
        simp [key]
      · cases h
    · cases h
  · -- cap
    rename_i args argTypes ho
    split at h
    · rename_i x t hargs htys
      split at h
      · rename_i e hu hx
        simp only [Option.some.injEq, Prod.mk.injEq, true_and] at h; subst h
        have ha : args = #[x] := by apply Array.ext'; simpa using hargs
        have hta : argTypes = #[t] := by apply Array.ext'; simpa using htys
        subst ha hta
        have hxv := ev x
        rw [hx] at hxv; simp only [Rep] at hxv
        refine Good.plain hs hd (v := .int .i64 0) ?_ (by simp only [Rep])
        have key : (Builtin.cap_ #[t] o.type #[a.eval x]).run P w = .ok (.int .i64 0) w := by
          simp [Builtin.cap_, hxv, VE.underlying_run hu, goInt]
        simp only [execOp, ho, resolve, invoke, builtin, Sem.run_bind, Sem.run_pure, Result.andThen_ok]
        simp [key]
      · cases h
    · cases h
  · -- append
    rename_i args argTypes ho
    split at h
    · rename_i dd x y t u hdst hargs htys
      split at h
      · rename_i e e' he he'
        split at h
        · rename_i ty by_ hty hby
          split at h
          · rename_i hh
            obtain ⟨hee, hb4, _⟩ := hh
            have hee' : e = e' := Nat.eq_of_beq_eq_true hee
            subst hee'
            obtain ⟨i, z, hi, hsz, hz, hzz⟩ := hΓ e ty hty
            have hbyi : i.bytes = by_ := by simpa [VE.bytesOf, hi] using hby
            have hu1 : P.underlying t = some (.slice e) := by
              unfold VE.elemOf at he
              split at he
              · cases he; assumption
              · cases he
            have hu2 : P.underlying u = some (.slice e) := by
              unfold VE.elemOf at he'
              split at he'
              · cases he'; assumption
              · cases he'
            have ha : args = #[x, y] := by apply Array.ext'; simpa using hargs
            have hta : argTypes = #[t, u] := by apply Array.ext'; simpa using htys
            subst ha hta
            rw [hdst] at hd
            obtain ⟨r, w', g', k1, k2⟩ := appD_sound (P := P) (ty0 := o.type) hs hu1 hu2 hi hz hsz hzz (by rw [hbyi]; exact hb4) hd (ev x) (ev y) h
            refine ⟨r, w', g', .inl ?_, by rw [hdst]; exact k2⟩
            simp only [execOp, ho, resolve, invoke, builtin, Sem.run_bind, Sem.run_pure, Result.andThen_ok]
            simp [k1]
          · cases h
        · cases h
      · -- room
        rename_i e he he'
        split at h
        · rename_i ty by_ kn n hty hby hiu hx hy
          split at h
          · rename_i hh
            obtain ⟨hb4, hpos⟩ := hh
            split at h
            · rename_i hlv
              simp only [Option.some.injEq, Prod.mk.injEq, Bool.and_eq_true, decide_eq_true_eq] at h
              obtain ⟨⟨hn0, hnm⟩, rfl⟩ := h
              have hlv : σ.live (σ.off + dd) = 0 := Nat.eq_of_beq_eq_true hlv
              obtain ⟨i, z, hi, hsz, hz, hzz⟩ := hΓ e ty hty
              have hbyi : i.bytes = by_ := by simpa [VE.bytesOf, hi] using hby
              have hu1 : P.underlying t = some (.slice e) := by
                unfold VE.elemOf at he
                split at he
                · cases he; assumption
                · cases he
              obtain ⟨ku, hu2⟩ : ∃ ku, P.underlying u = some (.int ku) := by
                unfold VE.intKindOf at hiu
                split at hiu
                · exact ⟨_, by assumption⟩
                · cases hiu
              have ha : args = #[x, y] := by apply Array.ext'; simpa using hargs
              have hta : argTypes = #[t, u] := by apply Array.ext'; simpa using htys
              subst ha hta
              rw [hdst] at hd
              have hxv := ev x
              have hyv := ev y
              rw [hx] at hxv; rw [hy] at hyv
              simp only [Rep] at hxv hyv
              obtain ⟨m, rfl⟩ : ∃ m : Nat, n = m := ⟨n.toNat, by omega⟩
              have hzl : z.cells.size = ty.size := by
                have := (zeroV_rep g.col w ty).length
                rw [← hzz] at this
                simpa using this
              have hm1 : m ≤ 2 ^ 32 := by unfold most at hnm; omega
              have hm2 : m * i.bytes ≤ 281474976710656 := by
                have := Nat.mul_le_mul hm1 (by rw [hbyi]; exact hb4 : i.bytes ≤ 4096)
                omega
              have hrun := Lib.run_append_nil_zeros (P := P) w t u o.type e i z kn ku hu1 hu2 hi hz m (by omega) (by omega) (by omega) hm2
              have hcapge : m ≤ grownCap w m 0 e := by
                unfold grownCap; simp only [Question.cut]; omega
              generalize grownCap w m 0 e = cap at hrun hcapge
              have hcl : (Builtin.zeroCells z.cells m ++ Builtin.zeroCells z.cells (cap - m)).size = cap * ty.size := by
                have h1 := zeroCells_len z.cells m
                have h2 := zeroCells_len z.cells (cap - m)
                simp only [Array.length_toList] at h1 h2
                rw [Array.size_append, h1, h2, hzl, ← Nat.add_mul]; congr 1; omega
              generalize Builtin.zeroCells z.cells m ++ Builtin.zeroCells z.cells (cap - m) = zs at hrun hcl
              have hsd : w.drew.heap.size = w.heap.size := rfl
              refine ⟨.slice (some ⟨w.heap.size, 0, none⟩) m cap, w.drew.alloc (.cells zs e), ghApp g none (σ.off + dd) w.heap.size 0 0 (cap * ty.size) true, .inl ?_, ?_⟩
              · simp only [execOp, ho, resolve, invoke, builtin, Sem.run_bind, Sem.run_pure, Result.andThen_ok]
                simp only [List.map_toArray, List.map_cons, List.map_nil, hxv, hyv]
                rw [hrun]; rfl
              · rw [hdst]
                refine hs.append (k := none) (ow := true) hlv hd (fun j hj => nomatch hj) (Nat.le_refl _) (Nat.zero_le _) (fun o h1 h2 => .inr rfl) (fun b' o v h1 _ => ?_) (fun b' o hb => ?_) (fun o h1 h2 => ?_) (fun _ => .inl rfl) (fun _ => ⟨by rw [← hsd]; simp, hs.keep.size, fun o' => by rw [← hsd, World.frozen?_alloc_new]⟩) (by rw [← hsd]; simp) (hs.keep.drew.alloc _) (fun b' ob c1 c2 => (RowKit.Below.heap_alloc w.drew _ _ (heap_lt c2)).trans c2) fun hst => ?_
                · rw [World.cell?_alloc_lt w.drew _ ⟨b', o, none⟩ (World.block_lt_of_cell? w ⟨b', o, none⟩ h1)]; exact h1
                · rw [World.frozen?_alloc_old _ _ _ (by show b' ≠ w.drew.heap.size; rw [hsd]; omega)]; rfl
                · refine ⟨?_, by rw [← hsd, World.frozen?_alloc_new]⟩
                  rw [← hsd, World.cell?_alloc_new]
                  exact ⟨zs[o]'(by rw [hcl]; exact h2), by rw [Array.getElem?_eq_getElem (by rw [hcl]; exact h2)]⟩
                · simp only [Rep]
                  refine ⟨⟨w.heap.size, 0, none⟩, m, cap, rfl, rfl, hcapge, ⟨.inl rfl, fun _ ad had => ?_⟩, fun _ ad had => .inr ?_⟩
                  · cases had
                    refine ⟨rfl, fun _ => ?_⟩
                    show upd _ _ _ _ = _
                    rw [upd_eq, if_pos rfl]; simp
                  · cases had
                    show (if true = true then upd g.ob w.heap.size (σ.off + dd + 1) else g.ob) w.heap.size = _
                    rw [if_pos rfl, upd_eq, if_pos rfl]
            · cases h
          · cases h
        · cases h
      · cases h
    · cases h
  · -- max
    rename_i args argTypes ho
    split at h
    · rename_i k m k' n hargs
      split at h
      · rename_i e; subst e
        simp only [Option.some.injEq, Prod.mk.injEq, true_and] at h; subst h
        obtain ⟨x, y, ha, hx, hy⟩ : ∃ x y, args = #[x, y] ∧ evO σ.env x = .int k m ∧ evO σ.env y = .int k n := by
          cases hl : args.toList with
          | nil => rw [hl] at hargs; simp at hargs
          | cons x r =>
            cases r with
            | nil => rw [hl] at hargs; simp at hargs
            | cons y r =>
              rw [hl] at hargs
              simp only [List.map_cons, List.cons.injEq, List.map_eq_nil_iff] at hargs
              obtain ⟨h1, h2, h3⟩ := hargs
              subst h3
              exact ⟨x, y, by apply Array.ext'; simpa using hl, h1, h2⟩
        subst ha
        have hxv := ev x
        have hyv := ev y
        rw [hx] at hxv
        rw [hy] at hyv
        simp only [Rep] at hxv hyv
        refine Good.plain hs hd (v := .int k (if n > m then n else m)) ?_ (by simp only [Rep])
        simp only [execOp, ho, resolve, invoke, builtin, Sem.run_bind, Sem.run_pure, Result.andThen_ok]
        simp [hxv, hyv, run_max_int2]
      · cases h
    · cases h
  · -- min
    rename_i args argTypes ho
    split at h
    · rename_i k m k' n hargs
      split at h
      · rename_i e; subst e
        simp only [Option.some.injEq, Prod.mk.injEq, true_and] at h; subst h
        obtain ⟨x, y, ha, hx, hy⟩ : ∃ x y, args = #[x, y] ∧ evO σ.env x = .int k m ∧ evO σ.env y = .int k n := by
          cases hl : args.toList with
          | nil => rw [hl] at hargs; simp at hargs
          | cons x r =>
            cases r with
            | nil => rw [hl] at hargs; simp at hargs
            | cons y r =>
              rw [hl] at hargs
              simp only [List.map_cons, List.cons.injEq, List.map_eq_nil_iff] at hargs
              obtain ⟨h1, h2, h3⟩ := hargs
              subst h3
              exact ⟨x, y, by apply Array.ext'; simpa using hl, h1, h2⟩
        subst ha
        have hxv := ev x
        have hyv := ev y
        rw [hx] at hxv
        rw [hy] at hyv
        simp only [Rep] at hxv hyv
        refine Good.plain hs hd (v := .int k (if n < m then n else m)) ?_ (by simp only [Rep])
        simp only [execOp, ho, resolve, invoke, builtin, Sem.run_bind, Sem.run_pure, Result.andThen_ok]
        simp [hxv, hyv, run_min_int2]
      · cases h
    · cases h
  · cases h

end

end Go.VE
