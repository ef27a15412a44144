import Derived.Test.YtnjlpdagdedbaaaGreatViH
/- Each operation of the evaluator is what the machine does: append, as a whole. -/
namespace Go.VE

theorem zeroCells_len (z : Array Value) (n : Nat) : (Builtin.zeroCells z n).toList.length = n * z.size := by
  simp [Builtin.zeroCells]

theorem append_core {P : Program} {N : Fr} {c0 : Nat → Nat → Col} {w0 : World} {σ : AS} {g : Gh} {a : Act} {w : World} (hs : Sim N c0 w0 σ g a w) {t u ty0 e : TypeId} {i : TypeInfo} {z : Value} {ty : Ty}
    (ht : P.underlying t = some (.slice e)) (hu : P.underlying u = some (.slice e)) (hi : P.info? e = some i) (hz : i.zero = some z) (hsz : i.size = ty.size) (hzz : z.cells.toList = ty.zeroV) (hby : i.bytes ≤ 4096)
    {dd dst : Nat} (hd : σ.live dst = 0) (hdN : dstOk N (some dd) = true)
    {base : Option Addr} {sLen sCap : Nat} {olds : List Value} (hlo : olds.length = sLen * ty.size) (hold : ∀ ad, base = some ad → ad.spot = none ∧ CellsAt g.col w ad.block ad.off olds) (hbn : base = none → sLen = 0 ∧ sCap = 0) (hcap : sLen ≤ sCap)
    {a2 : Option Addr} {n c : Nat} {news : List Value} (hln : news.length = n * ty.size) (hone : ∀ x ∈ news, x.oneCell' = true) (hnew : ∀ ad, a2 = some ad → (0 < n → ad.spot = none) ∧ ∀ (j : Nat) (x : Value), news[j]? = some x → w.cell? ⟨ad.block, ad.off + j, none⟩ = some x) (hno : a2 = none → n = 0)
    {res : L ty.T} (hrl : res.len = sLen + n) (hrf : FlatOf g.col w ty res.get res.len (olds ++ news)) (hmost : sLen + n ≤ most) (hnil : res.nil = true ↔ base = none ∧ n = 0)
    {k : Option Nat} (hk : ∀ j, k = some j → σ.live j = 1 ∧ ∀ ad, base = some ad → sLen < sCap → g.tk j = (ad.block, ad.off + sLen * ty.size, ad.off + sCap * ty.size)) (hkn : k = none → sCap = sLen) {o : Bool} (how : o = true → sCap * ty.size = 0 ∨ ∃ j, k = some j ∧ ∀ ad, base = some ad → g.ob ad.block = j + 1) :
    ∃ r w' g', (Builtin.append_ #[t, u] ty0 #[.slice base sLen sCap, .slice a2 n c]).run P w = .ok r w' ∧
      Sim N c0 w0 (σ.app (some dd) { v := .sl ty res (bif o then .own dst else .tok dst), tk := killTk k ++ [(dst, 1)] }) g' (a.put (some dd) r) w' := by
  have tkc : ∀ {g' : Gh} {a : Option Addr} {cap : Nat}, (g'.us dst ∧ (g'.lv dst → ∀ ad, a = some ad → ad.spot = none ∧ (res.len < cap → g'.tk dst = (ad.block, ad.off + res.len * ty.size, ad.off + cap * ty.size)))) → (o = true → ∀ ad, a = some ad → cap * ty.size = 0 ∨ g'.ob ad.block = dst + 1) → TkC g' ty.size res.len a cap (bif o then .own dst else .tok dst) := by
    intro g' a cap h1 h2
    cases o with
    | false => exact h1
    | true => exact ⟨h1, fun _ => h2 rfl⟩
  have hzl : z.cells.size = ty.size := by
    have := (zeroV_rep g.col w ty).length
    rw [← hzz] at this
    simpa using this
  by_cases hfit : sLen + n ≤ sCap
  · cases hbs : base with
    | none =>
      obtain ⟨q1, q2⟩ := hbn hbs
      have hn0 : n = 0 := by omega
      subst hn0
      have hr0 : res.len = 0 := by omega
      have hnews : news = [] := List.eq_nil_of_length_eq_zero (by rw [hln]; simp)
      subst hnews
      refine ⟨.slice none 0 0, w, ghApp g k dst 0 0 0 0 false, ?_, ?_⟩
      · subst q1 q2
        have hf : (Builtin.firstCells i.size 0 (.slice a2 0 c)).run P w = .ok #[] w := by
          cases a2 with
          | none => simp [Builtin.firstCells]
          | some ad2 => exact run_firstCells_some (P := P) w i.size 0 ad2 0 c [] (by simp) (fun j v hj => by simp at hj)
        simp [Builtin.append_, run_underlying ht, run_underlying hu, sizeOf, typeInfo, hi, Builtin.lenOf, hf]
      · refine hs.append (ow := false) hd hdN (fun j hj => (hk j hj).1) (Nat.le_refl _) (Nat.le_refl _) (fun o h1 h2 => by omega) (fun b' o v h1 _ => h1) (fun _ _ _ => rfl) (fun o h1 h2 => by omega) (fun e => nomatch e) (fun e => nomatch e) (Nat.le_refl _) hs.keep (fun _ _ _ h => h) fun hst => ?_
        simp only [Rep]
        refine ⟨none, 0, by rw [hr0], ?_, tkc ⟨.inl rfl, fun _ ad had => nomatch had⟩ (fun _ ad had => nomatch had)⟩
        exact ⟨none, 0, by rw [hr0], by omega, ⟨fun _ => rfl, by rw [hnil, hbs]; simp⟩, fun ad had => nomatch had⟩
    | some ad =>
      obtain ⟨o1, o2⟩ := hold ad hbs
      -- the cells that are written are k's
      have hreg : ∀ j, j < news.length → (∃ q, k = some q ∧ g.col ad.block (ad.off + sLen * ty.size + j) = .tk q) ∧ (∃ x, w.cell? ⟨ad.block, ad.off + sLen * ty.size + j, none⟩ = some x) ∧ w.frozen? ⟨ad.block, ad.off + sLen * ty.size + j, none⟩ = false := by
        intro j hj
        cases hkk : k with
        | none =>
          have := hkn hkk
          have : n = 0 := by omega
          subst this; rw [hln] at hj; simp at hj
        | some q =>
          obtain ⟨q1, q2⟩ := hk q hkk
          have hn1 : 0 < n := by
            rw [hln] at hj
            exact Nat.pos_of_mul_pos_right (Nat.lt_of_le_of_lt (Nat.zero_le _) hj)
          have q3 := q2 ad hbs (by omega)
          obtain ⟨_, q4⟩ := hs.tok q q1
          rw [q3] at q4
          have hmul : (sLen + n) * ty.size ≤ sCap * ty.size := Nat.mul_le_mul_right _ hfit
          rw [Nat.add_mul] at hmul
          obtain ⟨a1, a2, a3⟩ := q4 (ad.off + sLen * ty.size + j) (by simp only; omega) (by simp only; omega)
          exact ⟨⟨q, rfl, a1⟩, a2, a3⟩
      have hrun := append_fits (P := P) (ty := ty0) (c := c) ht hu hi o1 (sLen := sLen) (sCap := sCap) (n := n) (a2 := a2) (by rw [hsz]; exact hln) hone hnew hno hfit
        (fun j hj => by rw [hsz]; obtain ⟨_, ⟨x, hx⟩, hf⟩ := hreg j hj; exact ⟨by rw [hx]; rfl, hf⟩)
      rw [hsz] at hrun
      have hcs := cell_setCells (w := w) (b := ad.block) (o := ad.off + sLen * ty.size) (vs := news) (fun j hj => by obtain ⟨_, ⟨x, hx⟩, _⟩ := hreg j hj; rw [hx]; rfl)
      have hmul : (sLen + n) * ty.size ≤ sCap * ty.size := Nat.mul_le_mul_right _ hfit
      rw [Nat.add_mul] at hmul
      have htail : ∀ o, ad.off + sLen * ty.size + news.length ≤ o → o < ad.off + (if k = none then sLen * ty.size + news.length else sCap * ty.size) → (∃ q, k = some q ∧ g.col ad.block o = .tk q) ∧ (∃ v, w.cell? ⟨ad.block, o, none⟩ = some v) ∧ w.frozen? ⟨ad.block, o, none⟩ = false := by
        intro o h1 h2
        cases hkk : k with
        | none => rw [if_pos hkk] at h2; omega
        | some q =>
          rw [if_neg (by rw [hkk]; simp)] at h2
          obtain ⟨q1, q2⟩ := hk q hkk
          have hlc : sLen < sCap := by
            rcases Nat.lt_or_ge sLen sCap with hl | hl
            · exact hl
            · have : sCap * ty.size ≤ sLen * ty.size := Nat.mul_le_mul_right _ hl
              omega
          have q3 := q2 ad hbs hlc
          obtain ⟨_, q4⟩ := hs.tok q q1
          rw [q3] at q4
          obtain ⟨a1, a2, a3⟩ := q4 o (by simp only; omega) (by simp only; omega)
          exact ⟨⟨q, rfl, a1⟩, a2, a3⟩
      have hhi : ad.off + (if k = none then sLen * ty.size + news.length else sCap * ty.size) = ad.off + sCap * ty.size := by
        split
        · rename_i hkk
          have := hkn hkk
          have : n = 0 := by omega
          subst this
          rw [hln]; simp; rw [hkn hkk]
        · rfl
      rw [hhi] at htail
      let ow : Bool := o && !decide (sCap * ty.size = 0)
      have how' : ow = true → ∃ j, k = some j ∧ g.ob ad.block = j + 1 := fun e => by
        simp only [ow, Bool.and_eq_true, Bool.not_eq_true', decide_eq_false_iff_not] at e
        rcases how e.1 with h0 | ⟨j, j1, j2⟩
        · exact absurd h0 e.2
        · exact ⟨j, j1, j2 ad hbs⟩
      refine ⟨_, _, ghApp g k dst ad.block (ad.off + sLen * ty.size) (ad.off + sLen * ty.size + news.length) (ad.off + sCap * ty.size) ow, hrun, ?_⟩
      refine hs.append hd hdN (fun j hj => (hk j hj).1) (by omega) (by omega) (fun o h1 h2 => .inl ?_) (fun b' o v h1 h2 => ?_) (fun b' o _ => World.frozen?_setCells _ _ _ _ _) (fun o h1 h2 => ?_) (fun e => .inr (how' e)) (fun e => by
        obtain ⟨j, _, j2⟩ := how' e
        obtain ⟨o1, o2, o3⟩ := hs.ob ad.block (by omega)
        exact ⟨by rw [size_setCells]; exact o1, o2, fun o' => by rw [World.frozen?_setCells]; exact o3 o'⟩) (by rw [size_setCells]; exact Nat.le_refl _) ?_ (fun b' ob c1 c2 => ?_) fun hst => ?_
      · by_cases ho : o < ad.off + sLen * ty.size + news.length
        · obtain ⟨q1, _⟩ := hreg (o - (ad.off + sLen * ty.size)) (by omega)
          rwa [show ad.off + sLen * ty.size + (o - (ad.off + sLen * ty.size)) = o by omega] at q1
        · exact (htail o (by omega) h2).1
      · rw [hcs, if_neg (by omega)]; exact h1
      · obtain ⟨_, ⟨v, q1⟩, q2⟩ := htail o h1 h2
        exact ⟨⟨v, by rw [hcs, if_neg (by omega)]; exact q1⟩, by rw [World.frozen?_setCells]; exact q2⟩
      · refine hs.keep.setCells _ news _ w fun j hj => ?_
        obtain ⟨⟨q, _, q1⟩, _⟩ := hreg j hj
        by_cases hlt : ad.block < w0.heap.size
        · exact absurd q1 ((hs.old _ hlt _).2.2 q)
        · exact .inl (by omega)
      · cases hne : news with
        | nil => exact c2
        | cons v0 r0 =>
          rw [heap_setCells]
          · exact c2
          · rintro rfl
            obtain ⟨⟨q, _, q1⟩, _⟩ := hreg 0 (by rw [hne]; simp)
            obtain ⟨id, c1⟩ := c1 (ad.off + sLen * ty.size + 0)
            rw [c1] at q1; cases q1
      · simp only [Rep]
        have hcells : CellsAt (ghApp g k dst ad.block (ad.off + sLen * ty.size) (ad.off + sLen * ty.size + news.length) (ad.off + sCap * ty.size) ow).col (w.setCells ad.block (ad.off + sLen * ty.size) news) ad.block ad.off (olds ++ news) := by
          intro j v hj
          by_cases hjo : j < olds.length
          · rw [List.getElem?_append_left hjo] at hj
            obtain ⟨q1, q2⟩ := o2 j v hj
            exact hst.st _ _ _ q1 q2
          · rw [List.getElem?_append_right (by omega)] at hj
            have hjn : j - olds.length < news.length := (List.getElem?_eq_some_iff.mp hj).1
            constructor
            · show (if _ then _ else _) = _
              rw [if_pos ⟨rfl, by rw [hlo] at hjo; omega, by rw [hlo] at hjo hjn; omega⟩]
            · rw [hcs, if_pos ⟨rfl, by rw [hlo] at hjo; omega, by rw [hlo] at hjo hjn; omega⟩, ← hj]
              congr 1
              rw [hlo] at hjo ⊢; omega
        have e1 : ad = ⟨ad.block, ad.off, none⟩ := by cases ad; simp_all
        have hrn : res.nil = false := by
          rw [Bool.eq_false_iff]; intro hq; have := (hnil.mp hq).1; rw [hbs] at this; cases this
        have hrep := rep_of_flat (cap := sCap) (hrf.mono hst.toStays) hcells (by omega) hrn
        refine ⟨some ad, sCap, by rw [hrl], by rw [← hrl]; rw [e1]; exact hrep, tkc ⟨.inl rfl, fun _ ad' had' => ?_⟩ (fun ho ad' had' => ?_)⟩
        · cases had'
          refine ⟨o1, fun _ => ?_⟩
          show upd _ _ _ _ = _
          rw [upd_eq, if_pos rfl, hrl, hln, Nat.add_mul, ← Nat.add_assoc]
        · cases had'
          by_cases hz0 : sCap * ty.size = 0
          · exact .inl hz0
          · have : ow = true := by simp [ow, ho, hz0]
            refine .inr ?_
            show (if ow = true then upd g.ob ad.block (dst + 1) else g.ob) ad.block = _
            rw [if_pos this, upd_eq, if_pos rfl]
  · -- a new row
    have hrun := append_grows (P := P) (w := w) (ty := ty0) (c := c) ht hu hi hz (a1 := base) (sCap := sCap) (by rw [hsz]; exact hlo) (by rw [hsz]; exact hln) (fun ad had => ⟨fun _ => (hold ad had).1, fun j x hj => ((hold ad had).2 j x hj).2⟩) (fun e => (hbn e).1) hnew hno (by omega) hmost hby
    have hcapge : sLen + n ≤ grownCap w (sLen + n) sCap e := by
      unfold grownCap; simp only [Question.cut]; omega
    generalize grownCap w (sLen + n) sCap e = cap at hrun hcapge
    have hzlen : (Builtin.zeroCells z.cells (cap - (sLen + n))).toList.length = (cap - (sLen + n)) * ty.size := by rw [zeroCells_len, hzl]
    generalize (Builtin.zeroCells z.cells (cap - (sLen + n))).toList = zs at hrun hzlen
    have hsd : w.drew.heap.size = w.heap.size := rfl
    have hlen : (olds ++ news).length = (sLen + n) * ty.size := by rw [List.length_append, hlo, hln, Nat.add_mul]
    have hcapmul : cap * ty.size = (sLen + n) * ty.size + (cap - (sLen + n)) * ty.size := by rw [← Nat.add_mul]; congr 1; omega
    have hnewcell : ∀ j, (w.drew.alloc (.cells (olds ++ news ++ zs).toArray e)).cell? ⟨w.heap.size, j, none⟩ = (olds ++ news ++ zs)[j]? := by
      intro j
      rw [← hsd, World.cell?_alloc_new]; simp
    have hold' : ∀ b' o v, w.cell? ⟨b', o, none⟩ = some v → (w.drew.alloc (.cells (olds ++ news ++ zs).toArray e)).cell? ⟨b', o, none⟩ = some v := by
      intro b' o v hv
      rw [World.cell?_alloc_lt w.drew _ ⟨b', o, none⟩ (World.block_lt_of_cell? w ⟨b', o, none⟩ hv)]; exact hv
    refine ⟨_, _, ghApp g k dst w.heap.size 0 ((sLen + n) * ty.size) (cap * ty.size) o, hrun, ?_⟩
    refine hs.append hd hdN (fun j hj => (hk j hj).1) (Nat.zero_le _) (by omega) (fun o h1 h2 => .inr rfl) (fun b' o v h1 _ => hold' b' o v h1) (fun b' o hb => ?_) (fun o h1 h2 => ?_) (fun _ => .inl rfl) (fun _ => ⟨by rw [← hsd]; simp, hs.keep.size, fun o' => by rw [← hsd, World.frozen?_alloc_new]⟩) (by rw [← hsd]; simp) (hs.keep.drew.alloc _) (fun b' ob c1 c2 => (RowKit.Below.heap_alloc w.drew _ _ (heap_lt c2)).trans c2) fun hst => ?_
    · rw [World.frozen?_alloc_old _ _ _ (by show b' ≠ w.drew.heap.size; rw [hsd]; omega)]; rfl
    · constructor
      · have : o < (olds ++ news ++ zs).length := by rw [List.length_append, hlen, hzlen]; omega
        exact ⟨_, (hnewcell o).trans (List.getElem?_eq_getElem this)⟩
      · rw [← hsd, World.frozen?_alloc_new]
    · simp only [Rep]
      have hcells : CellsAt (ghApp g k dst w.heap.size 0 ((sLen + n) * ty.size) (cap * ty.size) o).col (w.drew.alloc (.cells (olds ++ news ++ zs).toArray e)) w.heap.size 0 (olds ++ news) := by
        intro j v hj
        have hjn : j < (olds ++ news).length := (List.getElem?_eq_some_iff.mp hj).1
        constructor
        · show (if _ then _ else _) = _
          rw [if_pos ⟨rfl, by omega, by omega⟩]
        · rw [Nat.zero_add, hnewcell, List.getElem?_append_left hjn]; exact hj
      have hrn : res.nil = false := by
        rw [Bool.eq_false_iff]; intro hq; have := (hnil.mp hq).2; omega
      have hrep := rep_of_flat (cap := cap) (hrf.mono hst.toStays) hcells (by omega) hrn
      refine ⟨some ⟨w.heap.size, 0, none⟩, cap, by rw [hrl], by rw [hrl] at hrep; exact hrep, tkc ⟨.inl rfl, fun _ ad' had' => ?_⟩ (fun ho ad' had' => .inr ?_)⟩
      · cases had'
        refine ⟨rfl, fun _ => ?_⟩
        show upd _ _ _ _ = _
        rw [upd_eq, if_pos rfl, hrl]; simp
      · cases had'
        show (if o = true then upd g.ob w.heap.size (dst + 1) else g.ob) w.heap.size = _
        rw [if_pos ho, upd_eq, if_pos rfl]

theorem appD_sound {P : Program} {N : Fr} {c0 : Nat → Nat → Col} {w0 : World} {σ : AS} {g : Gh} {a : Act} {w : World} (hs : Sim N c0 w0 σ g a w) {t u ty0 e : TypeId} {i : TypeInfo} {z : Value} {ty : Ty}
    (ht : P.underlying t = some (.slice e)) (hu : P.underlying u = some (.slice e)) (hi : P.info? e = some i) (hz : i.zero = some z) (hsz : i.size = ty.size) (hzz : z.cells.toList = ty.zeroV) (hby : i.bytes ≤ 4096)
    {dd dst : Nat} (hdN : dstOk N (some dd) = true) {x y : PV} {ux vy : Value} (hx : Rep g w x ux) (hy : Rep g w y vy) {dl : Dl} (h : appD ty dst σ.live x (rslvA σ.box y) = some (true, dl)) :
    ∃ r w' g', (Builtin.append_ #[t, u] ty0 #[ux, vy]).run P w = .ok r w' ∧ Sim N c0 w0 (σ.app (some dd) dl) g' (a.put (some dd) r) w' := by
  unfold appD at h
  split at h
  · cases h
  · rename_i hlv
    have hd : σ.live dst = 0 := by
      cases hb : Nat.beq (σ.live dst) 0 with
      | true => exact Nat.eq_of_beq_eq_true hb
      | false => rw [hb] at hlv; simp at hlv
    split at h
    · cases h
    · rename_i b hb
      obtain ⟨a2, c, news, rfl, f1, f2, f3⟩ := rslv_row hs hy hb
      cases x <;> simp only at h <;> try cases h
      · -- nothing yet
        simp only [Option.some.injEq, Prod.mk.injEq, decide_eq_true_eq] at h
        obtain ⟨hm, rfl⟩ := h
        simp only [Rep] at hx; subst hx
        exact append_core hs ht hu hi hz hsz hzz hby hd hdN (base := none) (sLen := 0) (sCap := 0) (olds := []) (by simp) (fun ad had => nomatch had) (fun _ => ⟨rfl, rfl⟩) (Nat.le_refl _)
          (a2 := a2) (n := b.len) (c := c) (news := news) f1.len f1.one f2 f3 (res := b.new) (by simp [L.new]) (by simpa [L.new] using f1) (by simpa using hm) (by simp [L.new]) (k := none) (fun j hj => nomatch hj) (fun _ => rfl) (o := true) (fun _ => .inl (by simp))
      · rename_i t' x' tk
        split at h
        · rename_i hbq
          simp only [Rep] at hx
          obtain ⟨base, sCap, rfl, hrep, htk⟩ := hx
          have hl : (castT (Ty.eq_of_beq hbq) x').len = x'.len := castT_len _ _
          have hrep' := castT_rep (Ty.eq_of_beq hbq) hrep
          have htk' : TkC g ty.size (castT (Ty.eq_of_beq hbq) x').len base sCap tk := by rw [hl, ← Ty.eq_of_beq hbq]; exact htk
          rw [← hl] at hrep' ⊢
          clear hrep htk hl
          generalize castT (Ty.eq_of_beq hbq) x' = x at h hrep' htk'
          obtain ⟨olds, q1, q2, q3, q4, q5⟩ := flat_of_rep hrep'
          have core : ∀ (k : Option Nat) (o : Bool), (o = true → sCap * ty.size = 0 ∨ ∃ j, k = some j ∧ ∀ ad, base = some ad → g.ob ad.block = j + 1) → (∀ ad, base = some ad → ad.spot = none) → (∀ j, k = some j → σ.live j = 1 ∧ ∀ ad, base = some ad → x.len < sCap → g.tk j = (ad.block, ad.off + x.len * ty.size, ad.off + sCap * ty.size)) → (k = none → sCap = x.len) → x.len + b.len ≤ most →
              ∃ r w' g', (Builtin.append_ #[t, u] ty0 #[.slice base x.len sCap, .slice a2 b.len c]).run P w = .ok r w' ∧ Sim N c0 w0 (σ.app (some dd) { v := .sl ty (x.app b) (bif o then .own dst else .tok dst), tk := killTk k ++ [(dst, 1)] }) g' (a.put (some dd) r) w' :=
            fun k o h00 h0 h1 h2 h3 => append_core hs ht hu hi hz hsz hzz hby hd hdN q1.len (fun ad had => ⟨h0 ad had, (q2 ad had).2⟩) q3 q4 f1.len f1.one f2 f3 (res := x.app b) rfl (q1.app f1) h3 (by show (x.nil && Nat.beq b.len 0) = true ↔ _; rw [Bool.and_eq_true, q5]; simp) h1 h2 (o := o) h00
          cases tk with
          | no => simp at h
          | tight =>
            simp only [Option.some.injEq, Prod.mk.injEq, decide_eq_true_eq] at h
            obtain ⟨hm, rfl⟩ := h
            exact core none (Nat.beq x.len 0) (fun e => .inl (by rw [htk'.1, Nat.eq_of_beq_eq_true e]; simp)) htk'.2 (fun j hj => nomatch hj) (fun _ => htk'.1) hm
          | tok j =>
            simp only at h
            split at h
            · rename_i hj
              have hj1 : σ.live j = 1 := Nat.eq_of_beq_eq_true hj
              simp only [Option.some.injEq, Prod.mk.injEq, decide_eq_true_eq] at h
              obtain ⟨hm, rfl⟩ := h
              refine core (some j) false (fun e => nomatch e) (fun ad had => (htk'.2 (hs.tok j hj1).1 ad had).1) (fun j' hj' => ?_) (fun e => nomatch e) hm
              cases hj'
              exact ⟨hj1, fun ad had => (htk'.2 (hs.tok j hj1).1 ad had).2⟩
            · cases h
          | own j =>
            simp only at h
            split at h
            · rename_i hj
              have hj1 : σ.live j = 1 := Nat.eq_of_beq_eq_true hj
              simp only [Option.some.injEq, Prod.mk.injEq, decide_eq_true_eq] at h
              obtain ⟨hm, rfl⟩ := h
              have hlv := (hs.tok j hj1).1
              refine core (some j) true (fun _ => ?_) (fun ad had => (htk'.1.2 hlv ad had).1) (fun j' hj' => ?_) (fun e => nomatch e) hm
              · by_cases hz0 : sCap * ty.size = 0
                · exact .inl hz0
                · exact .inr ⟨j, rfl, fun ad had => (htk'.2 hlv ad had).resolve_left hz0⟩
              · cases hj'
                exact ⟨hj1, fun ad had => (htk'.1.2 hlv ad had).2⟩
            · cases h
        · cases h

end Go.VE
