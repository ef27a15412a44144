import Derived.Test.YtnjlpdagdedbaaaGreatViG
import Derived.Laws.AppendOwn
/- Each operation of the evaluator is what the machine does: append. -/
namespace Go.VE

theorem RepT.one {c : Nat → Nat → Col} {w : World} : ∀ {t : Ty} {x : t.T} {vs : List Value}, RepT c w t x vs → ∀ v ∈ vs, v.oneCell' = true := by
  intro t
  induction t with
  | int k => rintro x vs rfl; simp [Value.oneCell']
  | bool => rintro x vs rfl; simp [Value.oneCell']
  | str => rintro x vs rfl; simp [Value.oneCell']
  | unit => rintro x vs rfl; simp
  | pair a b iha ihb =>
    rintro x vs ⟨v1, v2, rfl, h1, h2⟩ v hv
    rcases List.mem_append.mp hv with hv | hv
    · exact iha h1 v hv
    · exact ihb h2 v hv
  | sl t ih => rintro x vs ⟨a, cap, rfl, _⟩; simp [Value.oneCell']

/-- A row's elements, one behind the other. -/
structure FlatOf (c : Nat → Nat → Col) (w : World) (t : Ty) (get : Nat → t.T) (n : Nat) (news : List Value) : Prop where
  len : news.length = n * t.size
  one : ∀ v ∈ news, v.oneCell' = true
  el : ∀ i, i < n → RepT c w t (get i) ((news.drop (i * t.size)).take t.size)

theorem FlatOf.mono {c c' : Nat → Nat → Col} {w w' : World} (h : Stays c w c' w') {t : Ty} {get : Nat → t.T} {n : Nat} {news : List Value} (f : FlatOf c w t get n news) : FlatOf c' w' t get n news :=
  ⟨f.len, f.one, fun i hi => RepT.mono h _ _ _ (f.el i hi)⟩

theorem flat_ofQ {c : Nat → Nat → Col} {w : World} {t : Ty} {get : Nat → t.T} {Q : Nat → Value → Prop} {o : Nat} : ∀ (n : Nat), (∀ i, i < n → ∃ us, RepT c w t (get i) us ∧ ∀ (j : Nat) (v : Value), us[j]? = some v → Q (o + i * t.size + j) v) →
    ∃ news : List Value, FlatOf c w t get n news ∧ ∀ (j : Nat) (v : Value), news[j]? = some v → Q (o + j) v
  | 0, _ => ⟨[], ⟨by simp, by simp, fun i hi => absurd hi (by omega)⟩, fun j v hj => by simp at hj⟩
  | n + 1, h => by
    obtain ⟨news, hf, hc⟩ := flat_ofQ n fun i hi => h i (by omega)
    obtain ⟨us, h1, h2⟩ := h n (by omega)
    have hu := h1.length
    refine ⟨news ++ us, ⟨by rw [List.length_append, hf.len, hu, Nat.add_mul, Nat.one_mul], fun v hv => ?_, fun i hi => ?_⟩, fun j v hj => ?_⟩
    · rcases List.mem_append.mp hv with hv | hv
      · exact hf.one v hv
      · exact h1.one v hv
    · by_cases hin : i < n
      · have hle : i * t.size + t.size ≤ news.length := by
          rw [hf.len, ← Nat.succ_mul]; exact Nat.mul_le_mul_right _ hin
        rw [List.drop_append_of_le_length (by omega), List.take_append_of_le_length (by simp; omega)]
        exact hf.el i hin
      · obtain rfl : i = n := by omega
        rw [show i * t.size = news.length from hf.len.symm, List.drop_left, List.take_of_length_le (by omega)]
        exact h1
    · by_cases hj' : j < news.length
      · rw [List.getElem?_append_left hj'] at hj; exact hc j v hj
      · rw [List.getElem?_append_right (by omega)] at hj
        have := h2 _ v hj
        rwa [show o + n * t.size + (j - news.length) = o + j by rw [hf.len] at hj' ⊢; omega] at this

theorem flat_of {c : Nat → Nat → Col} {w : World} {t : Ty} {get : Nat → t.T} {b o : Nat} (n : Nat) (h : ∀ i, i < n → ∃ us, RepT c w t (get i) us ∧ CellsAt c w b (o + i * t.size) us) :
    ∃ news, FlatOf c w t get n news ∧ CellsAt c w b o news :=
  flat_ofQ (Q := fun o' v => c b o' = .st ∧ w.cell? ⟨b, o', none⟩ = some v) n h

/-- The rows of two slices, one behind the other. -/
theorem FlatOf.app {c : Nat → Nat → Col} {w : World} {t : Ty} {x y : L t.T} {us vs : List Value} (f : FlatOf c w t x.get x.len us) (k : FlatOf c w t y.get y.len vs) : FlatOf c w t (x.app y).get (x.len + y.len) (us ++ vs) := by
  refine ⟨by rw [List.length_append, f.len, k.len, Nat.add_mul], fun v hv => ?_, fun i hi => ?_⟩
  · rcases List.mem_append.mp hv with hv | hv
    · exact f.one v hv
    · exact k.one v hv
  · by_cases hin : i < x.len
    · have e : (x.app y).get i = x.get i := by
        have : Nat.blt i x.len = true := by rw [Nat.blt_eq]; exact hin
        simp [L.app, this]
      have hle : i * t.size + t.size ≤ us.length := by
        rw [f.len, ← Nat.succ_mul]; exact Nat.mul_le_mul_right _ hin
      rw [e, List.drop_append_of_le_length (by omega), List.take_append_of_le_length (by simp; omega)]
      exact f.el i hin
    · have e : (x.app y).get i = y.get (i - x.len) := by
        have : Nat.blt i x.len = false := by
          cases hb : Nat.blt i x.len with
          | true => rw [Nat.blt_eq] at hb; exact absurd hb hin
          | false => rfl
        simp [L.app, this]
      have := k.el (i - x.len) (by omega)
      rw [e]
      rw [show i * t.size = us.length + (i - x.len) * t.size by rw [f.len, ← Nat.add_mul]; congr 1; omega]
      rw [List.drop_append, List.drop_eq_nil_of_le (by omega), List.nil_append, Nat.add_sub_cancel_left]
      exact this

/-- A slice over a row. -/
theorem rep_of_flat {c : Nat → Nat → Col} {w : World} {t : Ty} {x : L t.T} {news : List Value} {b o cap : Nat} (f : FlatOf c w t x.get x.len news) (hc : CellsAt c w b o news) (hl : x.len ≤ cap) (hnil : x.nil = false) :
    RepT c w (.sl t) x [.slice (some ⟨b, o, none⟩) x.len cap] := by
  refine ⟨_, _, rfl, hl, ⟨(fun e => nomatch e), by rw [hnil]; simp⟩, fun ad had => ?_⟩
  cases had
  refine ⟨fun _ => rfl, fun i hi => ⟨_, f.el i hi, fun j v hj => ?_⟩⟩
  rw [List.getElem?_take] at hj
  split at hj
  · rw [List.getElem?_drop] at hj
    have := hc _ v hj
    rwa [← Nat.add_assoc] at this
  · cases hj

/-- The row behind a slice. -/
theorem flat_of_rep {c : Nat → Nat → Col} {w : World} {t : Ty} {x : L t.T} {a : Option Addr} {cap : Nat} (h : RepT c w (.sl t) x [.slice a x.len cap]) :
    ∃ news, FlatOf c w t x.get x.len news ∧ (∀ ad, a = some ad → (0 < x.len → ad.spot = none) ∧ CellsAt c w ad.block ad.off news) ∧ (a = none → x.len = 0 ∧ cap = 0) ∧ x.len ≤ cap ∧ (x.nil = true ↔ a = none) := by
  obtain ⟨a', cap', e, hl, ⟨hn, hnil⟩, hs⟩ := h
  simp only [List.cons.injEq, Value.slice.injEq, and_true, true_and] at e
  obtain ⟨rfl, rfl⟩ := e
  cases a with
  | none =>
    have h0 : x.len = 0 := by have := hn rfl; omega
    refine ⟨[], ⟨by simp [h0], by simp, fun i hi => absurd hi (by omega)⟩, fun ad had => (by cases had), fun _ => ⟨h0, hn rfl⟩, hl, hnil⟩
  | some ad =>
    obtain ⟨h1, h2⟩ := hs ad rfl
    obtain ⟨news, h3, h4⟩ := flat_of (b := ad.block) (o := ad.off) x.len h2
    exact ⟨news, h3, fun ad' had => by cases had; exact ⟨h1, h4⟩, fun e => (by cases e), hl, hnil⟩

def killTk : Option Nat → List (Nat × Nat)
  | some i => [(i, 2)]
  | none => []

/-- The ghost behind an append: the row's new cells are data that stays, what lies behind them is dst's. -/
def ghApp (g : Gh) (k : Option Nat) (dst : Nat) (b lo mid hi : Nat) (ow : Bool) : Gh :=
  { g with col := fun b' o => if b' = b ∧ lo ≤ o ∧ o < mid then .st else if b' = b ∧ mid ≤ o ∧ o < hi then .tk dst else g.col b' o,
           tk := upd g.tk dst (b, mid, hi), us := fun i => i = dst ∨ g.us i, lv := fun i => i = dst ∨ (g.lv i ∧ some i ≠ k), ob := if ow = true then upd g.ob b (dst + 1) else g.ob }

theorem Sim.append {N : Fr} {c0 : Nat → Nat → Col} {w0 : World} {σ : AS} {g : Gh} {a : Act} {w w' : World} (h : Sim N c0 w0 σ g a w) {k : Option Nat} {dd dst b lo mid hi : Nat} {ow : Bool} (hd : σ.live dst = 0) (hdN : dstOk N (some dd) = true)
    (hk : ∀ i, k = some i → σ.live i = 1) (hmid : lo ≤ mid) (hmid' : mid ≤ hi)
    -- what is written is nobody's: what k told, or a new block
    (hcol : ∀ o, lo ≤ o → o < hi → (∃ i, k = some i ∧ g.col b o = .tk i) ∨ b = w.heap.size)
    (hcell : ∀ b' o v, w.cell? ⟨b', o, none⟩ = some v → ¬ (b' = b ∧ lo ≤ o ∧ o < hi) → w'.cell? ⟨b', o, none⟩ = some v)
    (hfr : ∀ b' o, b' < w.heap.size → w'.frozen? ⟨b', o, none⟩ = w.frozen? ⟨b', o, none⟩)
    (hnew : ∀ o, mid ≤ o → o < hi → (∃ v, w'.cell? ⟨b, o, none⟩ = some v) ∧ w'.frozen? ⟨b, o, none⟩ = false)
    (how : ow = true → b = w.heap.size ∨ ∃ j, k = some j ∧ g.ob b = j + 1) (hob : ow = true → b < w'.heap.size ∧ w0.heap.size ≤ b ∧ ∀ o, w'.frozen? ⟨b, o, none⟩ = false) (hsz : w.heap.size ≤ w'.heap.size)
    (hkeep : Keep c0 w0 w') (hblk : ∀ b' ob, (∀ o, ∃ id, g.col b' o = .bx id) → w.heap[b']? = some ob → w'.heap[b']? = some ob) {p : PV} {v : Value}
    (hp : GStays g w (ghApp g k dst b lo mid hi ow) w' → Rep (ghApp g k dst b lo mid hi ow) w' p v) :
    Sim N c0 w0 (σ.app (some dd) { v := p, tk := killTk k ++ [(dst, 1)] }) (ghApp g k dst b lo mid hi ow) (a.put (some dd) v) w' := by
  have hlt : dd < a.tmps.size := by rw [h.size]; exact dstOk_lt hdN
  have hblt : ∀ {b' o v}, w.cell? ⟨b', o, none⟩ = some v → b' < w.heap.size := fun {b' o v} hv => World.block_lt_of_cell? w ⟨b', o, none⟩ hv
  have hout : ∀ b' o v, w.cell? ⟨b', o, none⟩ = some v → (∀ i, k = some i → g.col b' o ≠ .tk i) → ¬ (b' = b ∧ lo ≤ o ∧ o < hi) := by
    rintro b' o v hv hne ⟨rfl, h1, h2⟩
    rcases hcol o h1 h2 with ⟨i, hi1, hi2⟩ | hb
    · exact hne i hi1 hi2
    · have := hblt hv; omega
  have hcolout : ∀ b' o, ¬ (b' = b ∧ lo ≤ o ∧ o < hi) → (ghApp g k dst b lo mid hi ow).col b' o = g.col b' o := by
    intro b' o hn
    show (if _ then _ else if _ then _ else _) = _
    rw [if_neg (by omega), if_neg (by omega)]
  have hs : GStays g w (ghApp g k dst b lo mid hi ow) w' :=
    { st := fun b' o v h1 h2 => by
        have hn := hout b' o v h2 (fun i _ => by rw [h1]; simp)
        exact ⟨by rw [hcolout _ _ hn]; exact h1, hcell _ _ _ h2 hn⟩
      dom := fun id hid => ⟨hid, rfl, rfl, rfl, rfl, rfl⟩
      us := fun i hi' => ⟨.inr hi', fun l => by
        have hne : i ≠ dst := by rintro rfl; exact h.us _ hi' hd
        rcases l with l | l
        · exact absurd l hne
        · refine ⟨l.1, by show upd _ _ _ _ = _; rw [upd_eq, if_neg hne], fun b' e => ?_⟩
          show (if ow = true then upd g.ob b (dst + 1) else g.ob) b' = _
          split
          · rename_i how'
            rw [upd_eq]
            split
            · rename_i e2; subst e2
              rcases how how' with hb | ⟨j, hj1, hj2⟩
              · have := (h.ob b' (by omega)).1; omega
              · have : j = i := by omega
                subst this
                exact absurd hj1.symm l.2
            · exact e
          · exact e⟩ }
  have hlive : ∀ i, (σ.app (some dd) { v := p, tk := killTk k ++ [(dst, 1)] }).live i = if i = dst then 1 else if some i = k then 2 else σ.live i := by
    intro i
    cases k with
    | none =>
      show upd σ.live dst 1 i = _
      rw [upd_eq]; simp
    | some j =>
      show upd (upd σ.live j 2) dst 1 i = _
      rw [upd_eq, upd_eq]
      simp
  refine { off := h.off, stk := h.stk.mono hs, pts := h.pts, size := by simp [Act.put, h.size], env := fun i => ?_, defers := h.defers, box := fun id c hc => ?_, dom := h.dom, tok := fun i hi' => ?_, us := fun i hu => ?_, lv := fun i hl => ?_, ob := fun b' hb' => ?_, keep := hkeep, old := fun b' hb' o => ?_, cok := h.cok }
  · rw [getD_put _ _ _ _ hlt]
    show Rep _ _ (upd σ.env dd p i) _
    rw [upd_eq]
    split
    · exact hp hs
    · exact Rep.mono hs _ _ (h.env i)
  · obtain ⟨h1, h2⟩ := h.box id c hc
    refine ⟨h1, BoxRep.stay h1 hs (fun bb o u a1 a2 a3 => ?_) (fun ob c1 c2 c3 => ⟨hblk _ _ (fun o => ⟨id, c1 o⟩) c2, fun o => ?_⟩) h2⟩
    rotate_left
    · rw [hcolout]
      · exact c1 o
      · rintro ⟨rfl, h1, h2⟩
        rcases hcol o h1 h2 with ⟨i, _, hi2⟩ | hb
        · rw [c1] at hi2; cases hi2
        · have := heap_lt c2; omega
    have hn := hout _ o u a2 (fun i _ => by rw [a1]; simp)
    exact ⟨by rw [hcolout _ _ hn]; exact a1, hcell _ _ _ a2 hn, by rw [hfr _ _ (hblt a2)]; exact a3⟩
  · rw [hlive] at hi'
    split at hi'
    · rename_i e; subst e
      refine ⟨.inl rfl, fun o o1 o2 => ?_⟩
      have etk : (ghApp g k i b lo mid hi ow).tk i = (b, mid, hi) := by show upd _ _ _ _ = _; rw [upd_eq, if_pos rfl]
      rw [etk] at o1 o2 ⊢
      simp only at o1 o2 ⊢
      refine ⟨?_, hnew o o1 o2⟩
      show (if _ then _ else if _ then _ else _) = _
      rw [if_neg (by omega), if_pos ⟨rfl, o1, o2⟩]
    · rename_i hne
      split at hi'
      · cases hi'
      · rename_i hne'
        obtain ⟨h1, h2⟩ := h.tok i hi'
        refine ⟨.inr ⟨h1, hne'⟩, ?_⟩
        have etk : (ghApp g k dst b lo mid hi ow).tk i = g.tk i := by show upd _ _ _ _ = _; rw [upd_eq, if_neg hne]
        rw [etk]
        intro o o1 o2
        obtain ⟨a1, ⟨u, a2⟩, a3⟩ := h2 o o1 o2
        have hn := hout _ o u a2 (fun j hj => by rw [a1]; simp only [ne_eq, Col.tk.injEq]; rintro rfl; exact hne' hj.symm)
        exact ⟨by rw [hcolout _ _ hn]; exact a1, ⟨u, hcell _ _ _ a2 hn⟩, by rw [hfr _ _ (hblt a2)]; exact a3⟩
  · rw [hlive]
    split
    · simp
    · split
      · simp
      · rename_i hne _
        rcases hu with hu | hu
        · exact absurd hu hne
        · exact h.us i hu
  · rw [hlive]
    rcases hl with rfl | ⟨h1, h2⟩
    · rw [if_pos rfl]; exact ⟨rfl, .inl rfl⟩
    · have hne : i ≠ dst := by rintro rfl; have := (h.lv _ h1).1; omega
      rw [if_neg hne, if_neg h2]
      exact ⟨(h.lv i h1).1, .inr (h.lv i h1).2⟩
  · have old' : g.ob b' ≠ 0 → b' < w'.heap.size ∧ w0.heap.size ≤ b' ∧ ∀ o, w'.frozen? ⟨b', o, none⟩ = false := fun hb => by
      obtain ⟨o1, o2, o3⟩ := h.ob b' hb
      exact ⟨by omega, o2, fun o => by rw [hfr _ _ o1]; exact o3 o⟩
    change (if ow = true then upd g.ob b (dst + 1) else g.ob) b' ≠ 0 at hb'
    split at hb'
    · rename_i how'
      rw [upd_eq] at hb'
      split at hb'
      · rename_i e; subst e; exact hob how'
      · exact old' hb'
    · exact old' hb'
  · have hn : ¬ (b' = b ∧ lo ≤ o ∧ o < hi) := by
      rintro ⟨rfl, h1, h2⟩
      rcases hcol o h1 h2 with ⟨i, _, hi2⟩ | hb
      · exact (h.old b' hb' o).2.2 i hi2
      · have := h.keep.size; omega
    rw [hcolout _ _ hn]
    exact h.old b' hb' o

/-- A slice whose row can be read. -/
def RowRd (g : Gh) (w : World) (t : Ty) (x : L t.T) (v : Value) : Prop := ∃ a cap news, v = .slice a x.len cap ∧ FlatOf g.col w t x.get x.len news ∧
  (∀ ad, a = some ad → (0 < x.len → ad.spot = none) ∧ ∀ (j : Nat) (u : Value), news[j]? = some u → w.cell? ⟨ad.block, ad.off + j, none⟩ = some u) ∧ (a = none → x.len = 0)

theorem rowRd_sl {g : Gh} {w : World} {t : Ty} {x : L t.T} {v : Value} (h : RepT g.col w (.sl t) x [v]) : RowRd g w t x v := by
  have h' := h
  obtain ⟨a, cap, e, _⟩ := h'
  simp only [List.cons.injEq, and_true] at e
  subst e
  obtain ⟨news, h1, h2, h3, _⟩ := flat_of_rep h
  exact ⟨a, cap, news, rfl, h1, fun ad had => ⟨(h2 ad had).1, fun j u hj => ((h2 ad had).2 j u hj).2⟩, fun e => (h3 e).1⟩

theorem castT_row {g : Gh} {w : World} {a b : Ty} (h : a = b) {x : L a.T} {v : Value} (hr : RowRd g w a x v) : RowRd g w b (castT h x) v := by subst h; exact hr

/-- What is read of a slice of the evaluator. -/
theorem rslv_row {N : Fr} {c0 : Nat → Nat → Col} {w0 : World} {σ : AS} {g : Gh} {a : Act} {w : World} (hs : Sim N c0 w0 σ g a w) {p : PV} {v : Value} (hr : Rep g w p v) {t : Ty} {x : L t.T} (h : unA (.sl t) [rslvA σ.box p] = some x) : RowRd g w t x v := by
  have main : ∀ q : PV, (∀ id, q ≠ .ms id) → Rep g w q v → unA (.sl t) [q] = some x → RowRd g w t x v := by
    intro q _ hq hu
    have := unA_rep (g := g) (w := w) (vs := [v]) hu (by simp only [Reps]; exact ⟨v, [], rfl, hq, rfl⟩)
    exact rowRd_sl this
  cases p with
  | ms id =>
    simp only [rslvA] at h
    simp only [Rep] at hr
    obtain ⟨hd, rfl⟩ := hr
    split at h
    · rename_i t' y hb
      obtain ⟨h1, h2, h3⟩ := (hs.box _ _ hb).2
      simp only [unA, un] at h
      split at h
      · rename_i z he
        split at he
        · rename_i hbq
          simp only [Option.some.injEq, Prod.mk.injEq, and_true] at he
          simp only [Option.some.injEq] at h
          subst h; subst he
          have := flat_ofQ (c := g.col) (w := w) (t := t') (get := y.get) (Q := fun o' u => w.cell? ⟨(g.bx id).1, o', none⟩ = some u) (o := (g.bx id).2) y.len fun i hi => by
            obtain ⟨us, k1, k2⟩ := h3 i hi
            exact ⟨us, k1, fun j u hj => (k2 j u hj).2.1⟩
          obtain ⟨news, f1, f2⟩ := this
          obtain ⟨_, e1, e2, e3, e4⟩ := h2
          have hnews : ∀ j u, news[j]? = some u → 0 < y.len := fun j u hj => by
            have hj := (List.getElem?_eq_some_iff.mp hj).1
            rw [f1.len] at hj
            exact Nat.pos_of_mul_pos_right (Nat.lt_of_le_of_lt (Nat.zero_le _) hj)
          refine castT_row _ ⟨(g.hd id).1, (g.hd id).2, news, by rw [h1], f1, fun ad had => ⟨fun hp => ?_, fun j u hj => ?_⟩, fun e => ?_⟩
          · rw [e1 hp] at had; cases had; rfl
          · have := e1 (hnews j u hj)
            rw [this] at had; cases had
            exact f2 j u hj
          · have := e2 e; omega
        · cases he
      · cases h
    · simp [unA, un] at h
  | _ => exact main _ (fun _ e => by cases e) hr h

theorem append_fits {P : Program} {w : World} {t u ty e : TypeId} {i : TypeInfo} (ht : P.underlying t = some (.slice e)) (hu : P.underlying u = some (.slice e)) (hi : P.info? e = some i)
    {sLen sCap n c : Nat} {ad : Addr} (hsp : ad.spot = none) {a2 : Option Addr} {news : List Value} (hl : news.length = n * i.size) (h1 : ∀ x ∈ news, x.oneCell' = true)
    (hnews : ∀ ad2, a2 = some ad2 → (0 < n → ad2.spot = none) ∧ ∀ (j : Nat) (x : Value), news[j]? = some x → w.cell? ⟨ad2.block, ad2.off + j, none⟩ = some x) (hno : a2 = none → n = 0)
    (hfit : sLen + n ≤ sCap) (hc : ∀ j, j < news.length → (w.cell? ⟨ad.block, ad.off + sLen * i.size + j, none⟩).isSome = true ∧ w.frozen? ⟨ad.block, ad.off + sLen * i.size + j, none⟩ = false) :
    (Builtin.append_ #[t, u] ty #[.slice (some ad) sLen sCap, .slice a2 n c]).run P w = .ok (.slice (some ad) (sLen + n) sCap) (w.setCells ad.block (ad.off + sLen * i.size) news) := by
  have hf : (Builtin.firstCells i.size n (.slice a2 n c)).run P w = .ok news.toArray w := by
    cases a2 with
    | none =>
      have h0 : n = 0 := hno rfl
      subst h0
      have : news = [] := List.eq_nil_of_length_eq_zero (by rw [hl]; simp)
      subst this
      simp [Builtin.firstCells]
    | some ad2 =>
      obtain ⟨hs2, hn2⟩ := hnews ad2 rfl
      refine run_firstCells_some (P := P) w i.size n ad2 n c news hl (fun j v hj => ?_)
      have hn0 : 0 < n := by
        have := (List.getElem?_eq_some_iff.mp hj).1
        rw [hl] at this
        exact Nat.pos_of_mul_pos_right (Nat.lt_of_le_of_lt (Nat.zero_le _) this)
      have e2 : ad2 = ⟨ad2.block, ad2.off, none⟩ := by have := hs2 hn0; cases ad2; simp_all
      rw [e2, add_none]; exact hn2 j v hj
  have e1 : ad = ⟨ad.block, ad.off, none⟩ := by cases ad; simp_all
  have hst := run_storeCells_cells (P := P) ad.block (ad.off + sLen * i.size) news 0 w (fun j hj => (hc j hj).1) (fun j hj => (hc j hj).2) h1
  simp only [Nat.add_zero] at hst
  have hadd : ad.add (sLen * i.size) = ⟨ad.block, ad.off + sLen * i.size, none⟩ := by rw [e1]; exact add_none _ _ _
  simp [Builtin.append_, run_underlying ht, run_underlying hu, sizeOf, typeInfo, hi, Builtin.lenOf, hfit, hf, hadd, hst]

theorem append_grows {P : Program} {w : World} {t u ty e : TypeId} {i : TypeInfo} {z : Value} (ht : P.underlying t = some (.slice e)) (hu : P.underlying u = some (.slice e)) (hi : P.info? e = some i) (hz : i.zero = some z)
    {sLen sCap n c : Nat} {a1 a2 : Option Addr} {olds news : List Value} (hlo : olds.length = sLen * i.size) (hl : news.length = n * i.size)
    (holds : ∀ ad1, a1 = some ad1 → (0 < sLen → ad1.spot = none) ∧ ∀ (j : Nat) (x : Value), olds[j]? = some x → w.cell? ⟨ad1.block, ad1.off + j, none⟩ = some x) (hno1 : a1 = none → sLen = 0)
    (hnews : ∀ ad2, a2 = some ad2 → (0 < n → ad2.spot = none) ∧ ∀ (j : Nat) (x : Value), news[j]? = some x → w.cell? ⟨ad2.block, ad2.off + j, none⟩ = some x) (hno : a2 = none → n = 0)
    (hg : sCap < sLen + n) (hsmall : sLen + n ≤ most) (hby : i.bytes ≤ 4096) :
    (Builtin.append_ #[t, u] ty #[.slice a1 sLen sCap, .slice a2 n c]).run P w =
      .ok (.slice (some ⟨w.heap.size, 0, none⟩) (sLen + n) (grownCap w (sLen + n) sCap e))
        (w.drew.alloc (.cells (olds ++ news ++ (Builtin.zeroCells z.cells (grownCap w (sLen + n) sCap e - (sLen + n))).toList).toArray e)) := by
  have first : ∀ (a : Option Addr) (m c' : Nat) (cs : List Value), cs.length = m * i.size → (∀ ad, a = some ad → (0 < m → ad.spot = none) ∧ ∀ (j : Nat) (x : Value), cs[j]? = some x → w.cell? ⟨ad.block, ad.off + j, none⟩ = some x) → (a = none → m = 0) →
      (Builtin.firstCells i.size m (.slice a m c')).run P w.drew = .ok cs.toArray w.drew := by
    intro a m c' cs hl' h1 h2
    cases a with
    | none =>
      have h0 : m = 0 := h2 rfl
      subst h0
      have : cs = [] := List.eq_nil_of_length_eq_zero (by rw [hl']; simp)
      subst this
      simp [Builtin.firstCells]
    | some ad2 =>
      obtain ⟨hs2, hn2⟩ := h1 ad2 rfl
      refine run_firstCells_some (P := P) w.drew i.size m ad2 m c' cs hl' (fun j v hj => ?_)
      have hn0 : 0 < m := by
        have := (List.getElem?_eq_some_iff.mp hj).1
        rw [hl'] at this
        exact Nat.pos_of_mul_pos_right (Nat.lt_of_le_of_lt (Nat.zero_le _) this)
      have e2 : ad2 = ⟨ad2.block, ad2.off, none⟩ := by have := hs2 hn0; cases ad2; simp_all
      rw [e2, add_none]; exact hn2 j v hj
  have hfo := first a1 sLen sCap olds hlo holds hno1
  have hfn := first a2 n c news hl hnews hno
  have hn : ¬ (sLen + n ≤ sCap) := by omega
  have h63' : ¬ (9223372036854775807 < ((sLen : Int) + (n : Int))) := by unfold most at hsmall; omega
  have h48 : Builtin.nextslicecap (sLen + n) sCap * i.bytes ≤ 281474976710656 := by
    have := nextslicecap_le (need := sLen + n) (old := sCap) hg
    have h2 : Builtin.nextslicecap (sLen + n) sCap ≤ 2 * 2 ^ 32 := by unfold most at hsmall; omega
    calc _ ≤ (2 * 2 ^ 32) * 4096 := Nat.mul_le_mul h2 hby
      _ ≤ _ := by decide
  have h48' : ¬ (281474976710656 < Builtin.nextslicecap (sLen + n) sCap * i.bytes) := by omega
  simp [Builtin.append_, run_underlying ht, run_underlying hu, sizeOf, typeInfo, zeroValue, hi, hz, Builtin.lenOf, hn, h63', h48', Question.forced, hfn, hfo, newRow, grownCap]
  congr 2
  apply Array.ext'
  simp

end Go.VE
