import Derived.Test.YtnjlpdagdedbaaaGreatViB
/- What typed data is in memory, and what keeps it. -/
namespace Go.VE
open Go.RowKit (Below)

/-- Whose a cell is: nobody's here; data that stays; a box's; what may be appended into. -/
inductive Col where
  | free | st | bx (id : Nat) | tk (k : Nat)

structure Gh where
  col : Nat → Nat → Col
  bx : Nat → Nat × Nat
  ln : Nat → Nat
  es : Nat → Nat
  dom : Nat → Prop
  tk : Nat → Nat × Nat × Nat
  us : Nat → Prop
  lv : Nat → Prop
  /-- Whose a block is: 0: nobody's; k + 1: k's. -/
  ob : Nat → Nat
  /-- A made row's address and capacity. -/
  hd : Nat → Option Addr × Nat
  /-- A row's elements' slices' addresses and capacities, where the row owns them. -/
  nh : Nat → Nat → Nat → Option Addr × Nat × Nat

def CellsAt (col : Nat → Nat → Col) (w : World) (b o : Nat) (us : List Value) : Prop :=
  ∀ j v, us[j]? = some v → col b (o + j) = .st ∧ w.cell? ⟨b, o + j, none⟩ = some v

def RepT (col : Nat → Nat → Col) (w : World) : (t : Ty) → t.T → List Value → Prop
  | .int k, n, vs => vs = [.int k n]
  | .bool, b, vs => vs = [.bool b]
  | .str, s, vs => vs = [.string s]
  | .unit, _, vs => vs = []
  | .pair a b, x, vs => ∃ v1 v2, vs = v1 ++ v2 ∧ RepT col w a x.1 v1 ∧ RepT col w b x.2 v2
  | .sl t, x, vs => ∃ a cap, vs = [.slice a x.len cap] ∧ x.len ≤ cap ∧ ((a = none → cap = 0) ∧ (x.nil = true ↔ a = none)) ∧ ∀ ad, a = some ad → (0 < x.len → ad.spot = none) ∧
      ∀ i, i < x.len → ∃ us, RepT col w t (x.get i) us ∧ CellsAt col w ad.block (ad.off + i * t.size) us

/-- An element that owns its slices: where they lie, nh tells; whose cells they are, pa. -/
def RepE (col : Nat → Nat → Col) (w : World) (id : Nat) (nh : Nat → Nat → Option Addr × Nat × Nat) (pa : Nat → Nat → Option (Nat × Nat)) (i : Nat) : (t : Ty) → t.T → List Value → Nat → Prop
  | .int k, n, vs, _ => vs = [.int k n]
  | .bool, b, vs, _ => vs = [.bool b]
  | .str, s, vs, _ => vs = [.string s]
  | .unit, _, vs, _ => vs = []
  | .pair a b, x, vs, j => ∃ v1 v2, vs = v1 ++ v2 ∧ RepE col w id nh pa i a x.1 v1 j ∧ RepE col w id nh pa i b x.2 v2 (j + a.nsl)
  | .sl t, x, vs, j => ∃ a cap, vs = [.slice a x.len cap] ∧ nh i j = (a, x.len, cap) ∧ x.len ≤ cap ∧ ((a = none → cap = 0) ∧ (x.nil = true ↔ a = none)) ∧ ∀ ad, a = some ad → (0 < x.len → ad.spot = none) ∧
      ∀ k, k < x.len → ∃ us, RepT col w t (x.get k) us ∧ ∀ (q : Nat) (u : Value), us[q]? = some u →
        col ad.block (ad.off + k * t.size + q) = .bx id ∧ pa ad.block (ad.off + k * t.size + q) = some (i, j) ∧ w.cell? ⟨ad.block, ad.off + k * t.size + q, none⟩ = some u ∧ w.frozen? ⟨ad.block, ad.off + k * t.size + q, none⟩ = false

def ownB (own : Option (Nat → Bool)) (i : Nat) : Bool := match own with
  | none => true
  | some f => f i
theorem own_none (i : Nat) : ownB none i = true := rfl
/-- A row of elements of which some own their slices. -/
def TreeAt (col : Nat → Nat → Col) (w : World) (id : Nat) (nh : Nat → Nat → Option Addr × Nat × Nat) (pa : Nat → Nat → Option (Nat × Nat)) (own : Nat → Bool) (t : Ty) (x : L t.T) (b o : Nat) : Prop :=
  ∀ i, i < x.len → ∃ us, (if own i = true then RepE col w id nh pa i t (x.get i) us 0 else RepT col w t (x.get i) us) ∧ ∀ (q : Nat) (u : Value), us[q]? = some u →
    col b (o + i * t.size + q) = .bx id ∧ pa b (o + i * t.size + q) = none ∧ w.cell? ⟨b, o + i * t.size + q, none⟩ = some u ∧ w.frozen? ⟨b, o + i * t.size + q, none⟩ = false

def TkC (g : Gh) (sz len : Nat) (a : Option Addr) (cap : Nat) : Tk → Prop
  | .no => True
  | .tight => cap = len ∧ ∀ ad, a = some ad → ad.spot = none
  | .tok k => g.us k ∧ (g.lv k → ∀ ad, a = some ad → ad.spot = none ∧ (len < cap → g.tk k = (ad.block, ad.off + len * sz, ad.off + cap * sz)))
  | .own k => (g.us k ∧ (g.lv k → ∀ ad, a = some ad → ad.spot = none ∧ (len < cap → g.tk k = (ad.block, ad.off + len * sz, ad.off + cap * sz)))) ∧ (g.lv k → ∀ ad, a = some ad → cap * sz = 0 ∨ g.ob ad.block = k + 1)

mutual
def Rep (g : Gh) (w : World) : PV → Value → Prop
  | .int k n, v => v = .int k n
  | .bool b, v => v = .bool b
  | .str s, v => v = .string s
  | .nils, v => v = .slice none 0 0
  | .sl t x tk, v => ∃ a cap, v = .slice a x.len cap ∧ RepT g.col w (.sl t) x [v] ∧ TkC g t.size x.len a cap tk
  | .agg cs, v => ∃ vs : List Value, v = .agg vs.toArray ∧ Reps g w cs vs
  | .bx id off, v => g.dom id ∧ v = .pointer (some ⟨(g.bx id).1, (g.bx id).2 + off, none⟩)
  | .ms id, v => g.dom id ∧ v = .slice (g.hd id).1 (g.ln id) (g.hd id).2
  | .mn id i j, v => g.dom id ∧ i < g.ln id ∧ v = .slice (g.nh id i j).1 (g.nh id i j).2.1 (g.nh id i j).2.2
  | .me id i off, v => g.dom id ∧ i < g.ln id ∧ v = .pointer (some ⟨(g.bx id).1, (g.bx id).2 + i * g.es id + off, none⟩)
  | .rf cs, v => ∃ b o us, v = .pointer (some ⟨b, o, none⟩) ∧ Reps g w cs us ∧ CellsAt g.col w b o us
  | .fn f cap, v => ∃ vs : List Value, v = .func (.func f) #[] vs.toArray ∧ Reps g w cap vs
  | .tup cs, v => ∃ vs : List Value, v = .tuple vs.toArray ∧ Reps g w cs vs
  | .grw t k, v => ∃ a n cap, v = .slice (some a) n cap ∧ a.spot = none ∧ n ≤ cap ∧ TkC g t.size 0 (some a) cap (.own k)
  | .any, _ => True
def Reps (g : Gh) (w : World) : List PV → List Value → Prop
  | [], vs => vs = []
  | p :: ps, vs => ∃ u us, vs = u :: us ∧ Rep g w p u ∧ Reps g w ps us
end

/-- Worlds and colours under which data stays what it is. -/
structure Stays (col : Nat → Nat → Col) (w : World) (col' : Nat → Nat → Col) (w' : World) : Prop where
  st : ∀ b o v, col b o = .st → w.cell? ⟨b, o, none⟩ = some v → col' b o = .st ∧ w'.cell? ⟨b, o, none⟩ = some v

theorem Stays.refl (col : Nat → Nat → Col) (w : World) : Stays col w col w := ⟨fun _ _ _ h h' => ⟨h, h'⟩⟩
theorem Stays.trans {c1 c2 c3 : Nat → Nat → Col} {w1 w2 w3 : World} (h : Stays c1 w1 c2 w2) (k : Stays c2 w2 c3 w3) : Stays c1 w1 c3 w3 :=
  ⟨fun b o v a b' => let ⟨x, y⟩ := h.st b o v a b'; k.st b o v x y⟩

theorem CellsAt.mono {c c' : Nat → Nat → Col} {w w' : World} (h : Stays c w c' w') {b o : Nat} {us : List Value} (hc : CellsAt c w b o us) : CellsAt c' w' b o us :=
  fun j v hj => let ⟨x, y⟩ := hc j v hj; h.st _ _ _ x y

theorem RepT.mono {c c' : Nat → Nat → Col} {w w' : World} (h : Stays c w c' w') : ∀ (t : Ty) (x : t.T) (vs : List Value), RepT c w t x vs → RepT c' w' t x vs := by
  intro t
  induction t with
  | int k => exact fun _ _ hr => hr
  | bool => exact fun _ _ hr => hr
  | str => exact fun _ _ hr => hr
  | unit => exact fun _ _ hr => hr
  | pair a b iha ihb =>
    rintro x vs ⟨v1, v2, e, h1, h2⟩
    exact ⟨v1, v2, e, iha _ _ h1, ihb _ _ h2⟩
  | sl t ih =>
    rintro x vs ⟨a, cap, e, hl, hn, hs⟩
    refine ⟨a, cap, e, hl, hn, fun ad had => ⟨(hs ad had).1, fun i hi => ?_⟩⟩
    obtain ⟨us, hr, hc⟩ := (hs ad had).2 i hi
    exact ⟨us, ih _ _ hr, hc.mono h⟩

theorem RepE.monoR {col col' : Nat → Nat → Col} {w w' : World} {id id' : Nat} {nh nh' : Nat → Nat → Option Addr × Nat × Nat} {pa pa' : Nat → Nat → Option (Nat × Nat)} {i : Nat} (h : Stays col w col' w') :
    ∀ (t : Ty) (x : t.T) (vs : List Value) (j : Nat), (∀ j', j ≤ j' → j' < j + t.nsl → nh' i j' = nh i j') →
    (∀ b o v j', j ≤ j' → j' < j + t.nsl → col b o = .bx id → pa b o = some (i, j') → w.cell? ⟨b, o, none⟩ = some v → w.frozen? ⟨b, o, none⟩ = false → col' b o = .bx id' ∧ pa' b o = some (i, j') ∧ w'.cell? ⟨b, o, none⟩ = some v ∧ w'.frozen? ⟨b, o, none⟩ = false) →
    RepE col w id nh pa i t x vs j → RepE col' w' id' nh' pa' i t x vs j := by
  intro t
  induction t with
  | int k => exact fun _ _ _ _ _ hr => hr
  | bool => exact fun _ _ _ _ _ hr => hr
  | str => exact fun _ _ _ _ _ hr => hr
  | unit => exact fun _ _ _ _ _ hr => hr
  | pair a b iha ihb =>
    rintro x vs j hnh hb ⟨v1, v2, e, h1, h2⟩
    simp only [Ty.nsl] at hnh hb
    exact ⟨v1, v2, e, iha _ _ _ (fun j' q1 q2 => hnh j' q1 (by omega)) (fun b o v j' q1 q2 => hb b o v j' q1 (by omega)) h1, ihb _ _ _ (fun j' q1 q2 => hnh j' (by omega) (by omega)) (fun b o v j' q1 q2 => hb b o v j' (by omega) (by omega)) h2⟩
  | sl t ih =>
    rintro x vs j hnh hb ⟨a, cap, e, e2, hl, hn, hs⟩
    simp only [Ty.nsl] at hnh hb
    refine ⟨a, cap, e, (hnh j (Nat.le_refl _) (by omega)).trans e2, hl, hn, fun ad had => ⟨(hs ad had).1, fun k hk => ?_⟩⟩
    obtain ⟨us, hr, hc⟩ := (hs ad had).2 k hk
    refine ⟨us, RepT.mono h _ _ _ hr, fun q u hq => ?_⟩
    obtain ⟨a1, a2, a3, a4⟩ := hc q u hq
    exact hb _ _ _ _ (Nat.le_refl _) (by omega) a1 a2 a3 a4

theorem RepE.mono {col col' : Nat → Nat → Col} {w w' : World} {id id' : Nat} {nh nh' : Nat → Nat → Option Addr × Nat × Nat} {pa pa' : Nat → Nat → Option (Nat × Nat)} {i : Nat} (h : Stays col w col' w') (hnh : ∀ j, nh' i j = nh i j)
    (hb : ∀ b o v j, col b o = .bx id → pa b o = some (i, j) → w.cell? ⟨b, o, none⟩ = some v → w.frozen? ⟨b, o, none⟩ = false → col' b o = .bx id' ∧ pa' b o = some (i, j) ∧ w'.cell? ⟨b, o, none⟩ = some v ∧ w'.frozen? ⟨b, o, none⟩ = false)
    (t : Ty) (x : t.T) (vs : List Value) (j : Nat) (hr : RepE col w id nh pa i t x vs j) : RepE col' w' id' nh' pa' i t x vs j :=
  RepE.monoR h t x vs j (fun j' _ _ => hnh j') (fun b o v j' _ _ => hb b o v j') hr

/-- The length of data's cells. -/
theorem RepT.length {c : Nat → Nat → Col} {w : World} : ∀ {t : Ty} {x : t.T} {vs : List Value}, RepT c w t x vs → vs.length = t.size := by
  intro t
  induction t with
  | int k => rintro x vs rfl; rfl
  | bool => rintro x vs rfl; rfl
  | str => rintro x vs rfl; rfl
  | unit => rintro x vs rfl; rfl
  | pair a b iha ihb =>
    rintro x vs ⟨v1, v2, rfl, h1, h2⟩
    simp [Ty.size, iha h1, ihb h2]
  | sl t ih => rintro x vs ⟨a, cap, rfl, _⟩; rfl

theorem RepE.length {c : Nat → Nat → Col} {w : World} {id : Nat} {nh : Nat → Nat → Option Addr × Nat × Nat} {pa : Nat → Nat → Option (Nat × Nat)} {i : Nat} : ∀ {t : Ty} {x : t.T} {vs : List Value} {j : Nat}, RepE c w id nh pa i t x vs j → vs.length = t.size := by
  intro t
  induction t with
  | int k => rintro x vs j rfl; rfl
  | bool => rintro x vs j rfl; rfl
  | str => rintro x vs j rfl; rfl
  | unit => rintro x vs j rfl; rfl
  | pair a b iha ihb =>
    rintro x vs j ⟨v1, v2, rfl, h1, h2⟩
    simp [Ty.size, iha h1, ihb h2]
  | sl t ih => rintro x vs j ⟨a, cap, rfl, _⟩; rfl

theorem RepE.flat {c c' : Nat → Nat → Col} {w w' : World} {id i : Nat} {nh : Nat → Nat → Option Addr × Nat × Nat} {pa : Nat → Nat → Option (Nat × Nat)} : ∀ {t : Ty} {x : t.T} {vs : List Value} {j : Nat}, t.flat = true → RepE c w id nh pa i t x vs j → RepT c' w' t x vs := by
  intro t
  induction t with
  | int k => exact fun _ h => h
  | bool => exact fun _ h => h
  | str => exact fun _ h => h
  | unit => exact fun _ h => h
  | pair a b iha ihb =>
    rintro x vs j hf ⟨v1, v2, e, h1, h2⟩
    simp only [Ty.flat, Bool.and_eq_true] at hf
    exact ⟨v1, v2, e, iha hf.1 h1, ihb hf.2 h2⟩
  | sl t ih => intro x vs j hf; simp [Ty.flat] at hf

/-- What a ghost must keep so that values stay what they are. -/
structure GStays (g : Gh) (w : World) (g' : Gh) (w' : World) : Prop extends Stays g.col w g'.col w' where
  dom : ∀ id, g.dom id → g'.dom id ∧ g'.bx id = g.bx id ∧ g'.ln id = g.ln id ∧ g'.es id = g.es id ∧ g'.hd id = g.hd id ∧ g'.nh id = g.nh id
  us : ∀ k, g.us k → g'.us k ∧ (g'.lv k → g.lv k ∧ g'.tk k = g.tk k ∧ ∀ b, g.ob b = k + 1 → g'.ob b = k + 1)

theorem GStays.refl (g : Gh) (w : World) : GStays g w g w := { Stays.refl _ _ with dom := fun _ h => ⟨h, rfl, rfl, rfl, rfl, rfl⟩, us := fun _ h => ⟨h, fun l => ⟨l, rfl, fun _ e => e⟩⟩ }
theorem GStays.trans {g1 g2 g3 : Gh} {w1 w2 w3 : World} (h : GStays g1 w1 g2 w2) (k : GStays g2 w2 g3 w3) : GStays g1 w1 g3 w3 :=
  { h.toStays.trans k.toStays with
    dom := fun id a => by
      obtain ⟨a1, a2, a3, a4, a5, a6⟩ := h.dom id a
      obtain ⟨b1, b2, b3, b4, b5, b6⟩ := k.dom id a1
      exact ⟨b1, b2.trans a2, b3.trans a3, b4.trans a4, b5.trans a5, b6.trans a6⟩
    us := fun i a => by
      obtain ⟨a1, a2⟩ := h.us i a
      obtain ⟨b1, b2⟩ := k.us i a1
      refine ⟨b1, fun l => ?_⟩
      obtain ⟨c1, c2, c3⟩ := b2 l
      obtain ⟨d1, d2, d3⟩ := a2 c1
      exact ⟨d1, c2.trans d2, fun b e => c3 b (d3 b e)⟩ }

theorem TkC.mono {g g' : Gh} {w w' : World} (h : GStays g w g' w') {sz len : Nat} {a : Option Addr} {cap : Nat} : ∀ {tk : Tk}, TkC g sz len a cap tk → TkC g' sz len a cap tk
  | .no, _ => trivial
  | .tight, e => e
  | .tok k, ⟨hu, hl⟩ => ⟨(h.us k hu).1, fun l ad had => by
      obtain ⟨c1, c2, _⟩ := (h.us k hu).2 l
      rw [c2]; exact hl c1 ad had⟩
  | .own k, ⟨⟨hu, hl⟩, ho⟩ => ⟨⟨(h.us k hu).1, fun l ad had => by
      obtain ⟨c1, c2, _⟩ := (h.us k hu).2 l
      rw [c2]; exact hl c1 ad had⟩, fun l ad had => by
      obtain ⟨c1, _, c3⟩ := (h.us k hu).2 l
      exact (ho c1 ad had).imp_right (c3 _)⟩

mutual
theorem Rep.mono {g g' : Gh} {w w' : World} (h : GStays g w g' w') : ∀ (p : PV) (v : Value), Rep g w p v → Rep g' w' p v
  | .int _ _, _, e => by simpa only [Rep] using e
  | .bool _, _, e => by simpa only [Rep] using e
  | .str _, _, e => by simpa only [Rep] using e
  | .nils, _, e => by simpa only [Rep] using e
  | .sl t x tk, v, e => by
    simp only [Rep] at e ⊢
    obtain ⟨a, cap, e1, e2, e3⟩ := e
    exact ⟨a, cap, e1, RepT.mono h.toStays _ _ _ e2, e3.mono h⟩
  | .agg cs, v, e => by
    simp only [Rep] at e ⊢
    obtain ⟨vs, e1, e2⟩ := e
    exact ⟨vs, e1, Reps.mono h cs vs e2⟩
  | .bx id off, v, e => by
    simp only [Rep] at e ⊢
    obtain ⟨a1, a2, a3, a4⟩ := h.dom id e.1
    exact ⟨a1, by rw [a2]; exact e.2⟩
  | .ms id, v, e => by
    simp only [Rep] at e ⊢
    obtain ⟨a1, a2, a3, a4, a5, _⟩ := h.dom id e.1
    exact ⟨a1, by rw [a5, a3]; exact e.2⟩
  | .mn id i j, v, e => by
    simp only [Rep] at e ⊢
    obtain ⟨a1, a2, a3, a4, a5, a6⟩ := h.dom id e.1
    exact ⟨a1, by rw [a3]; exact e.2.1, by rw [a6]; exact e.2.2⟩
  | .me id i off, v, e => by
    simp only [Rep] at e ⊢
    obtain ⟨a1, a2, a3, a4, _⟩ := h.dom id e.1
    exact ⟨a1, by rw [a3]; exact e.2.1, by rw [a2, a4]; exact e.2.2⟩
  | .rf cs, v, e => by
    simp only [Rep] at e ⊢
    obtain ⟨b, o, us, e1, e2, e3⟩ := e
    exact ⟨b, o, us, e1, Reps.mono h cs us e2, e3.mono h.toStays⟩
  | .fn f cap, v, e => by
    simp only [Rep] at e ⊢
    obtain ⟨vs, e1, e2⟩ := e
    exact ⟨vs, e1, Reps.mono h cap vs e2⟩
  | .tup cs, v, e => by
    simp only [Rep] at e ⊢
    obtain ⟨vs, e1, e2⟩ := e
    exact ⟨vs, e1, Reps.mono h cs vs e2⟩
  | .grw t k, v, e => by
    simp only [Rep] at e ⊢
    obtain ⟨a, n, cap, e1, e2, e3, e4⟩ := e
    exact ⟨a, n, cap, e1, e2, e3, e4.mono h⟩
  | .any, _, _ => by simp only [Rep]
theorem Reps.mono {g g' : Gh} {w w' : World} (h : GStays g w g' w') : ∀ (ps : List PV) (vs : List Value), Reps g w ps vs → Reps g' w' ps vs
  | [], _, e => by simpa only [Reps] using e
  | p :: ps, vs, e => by
    simp only [Reps] at e ⊢
    obtain ⟨u, us, e1, e2, e3⟩ := e
    exact ⟨u, us, e1, Rep.mono h p u e2, Reps.mono h ps us e3⟩
end

theorem Reps.length {g : Gh} {w : World} : ∀ {ps : List PV} {vs : List Value}, Reps g w ps vs → vs.length = ps.length
  | [], vs, h => by simp only [Reps] at h; rw [h]; rfl
  | p :: ps, vs, h => by
    simp only [Reps] at h
    obtain ⟨u, us, rfl, _, h3⟩ := h
    simp [h3.length]

theorem Reps.append {g : Gh} {w : World} : ∀ {ps qs : List PV} {vs us : List Value}, Reps g w ps vs → Reps g w qs us → Reps g w (ps ++ qs) (vs ++ us)
  | [], qs, vs, us, h, k => by simp only [Reps] at h; rw [h]; exact k
  | p :: ps, qs, vs, us, h, k => by
    simp only [Reps] at h
    obtain ⟨u, r, rfl, h2, h3⟩ := h
    simp only [List.cons_append, Reps]
    exact ⟨u, r ++ us, rfl, h2, Reps.append h3 k⟩

theorem Reps.split {g : Gh} {w : World} : ∀ {ps qs : List PV} {vs : List Value}, Reps g w (ps ++ qs) vs → ∃ v1 v2, vs = v1 ++ v2 ∧ Reps g w ps v1 ∧ Reps g w qs v2
  | [], qs, vs, h => ⟨[], vs, rfl, by simp only [Reps], h⟩
  | p :: ps, qs, vs, h => by
    simp only [List.cons_append, Reps] at h
    obtain ⟨u, r, rfl, h2, h3⟩ := h
    obtain ⟨v1, v2, rfl, h4, h5⟩ := Reps.split h3
    exact ⟨u :: v1, v2, rfl, by simp only [Reps]; exact ⟨u, v1, rfl, h2, h4⟩, h5⟩

theorem Reps.get {g : Gh} {w : World} : ∀ {ps : List PV} {vs : List Value}, Reps g w ps vs → ∀ (i : Nat) (p : PV), ps[i]? = some p → ∃ v, vs[i]? = some v ∧ Rep g w p v
  | [], vs, h, i, p, hp => by simp at hp
  | q :: ps, vs, h, i, p, hp => by
    simp only [Reps] at h
    obtain ⟨u, r, rfl, h2, h3⟩ := h
    cases i with
    | zero => simp at hp; subst hp; exact ⟨u, rfl, h2⟩
    | succ i => simp at hp; exact Reps.get h3 i p hp

theorem Reps.of_get {g : Gh} {w : World} : ∀ {ps : List PV} {vs : List Value}, vs.length = ps.length → (∀ (i : Nat) (p : PV) (v : Value), ps[i]? = some p → vs[i]? = some v → Rep g w p v) → Reps g w ps vs
  | [], vs, hl, _ => by cases vs with | nil => simp only [Reps] | cons a b => simp at hl
  | p :: ps, vs, hl, h => by
    cases vs with
    | nil => simp at hl
    | cons u us =>
      simp only [Reps]
      exact ⟨u, us, rfl, h 0 p u rfl rfl, Reps.of_get (by simpa using hl) fun i p' v' hp hv => h (i + 1) p' v' (by simpa using hp) (by simpa using hv)⟩

theorem Reps.take {g : Gh} {w : World} {ps : List PV} {vs : List Value} (h : Reps g w ps vs) (n : Nat) : Reps g w (ps.take n) (vs.take n) := by
  refine Reps.of_get (by simp [h.length]) fun i p v hp hv => ?_
  simp only [List.getElem?_take] at hp hv
  split at hp
  · rename_i hi
    rw [if_pos hi] at hv
    obtain ⟨v', hv', hr⟩ := h.get i p hp
    rw [hv] at hv'; cases hv'; exact hr
  · cases hp

theorem Reps.drop {g : Gh} {w : World} {ps : List PV} {vs : List Value} (h : Reps g w ps vs) (n : Nat) : Reps g w (ps.drop n) (vs.drop n) := by
  refine Reps.of_get (by simp [h.length]) fun i p v hp hv => ?_
  simp only [List.getElem?_drop] at hp hv
  obtain ⟨v', hv', hr⟩ := h.get _ p hp
  rw [hv] at hv'; cases hv'; exact hr

/-- Typed data as cells. -/
theorem reps_pk {g : Gh} {w : World} : ∀ {t : Ty} {x : t.T} {vs : List Value}, RepT g.col w t x vs → Reps g w (pk t x) vs := by
  intro t
  induction t with
  | int k => rintro x vs rfl; simp only [pk, Reps, Rep]; exact ⟨_, _, rfl, rfl, rfl⟩
  | bool => rintro x vs rfl; simp only [pk, Reps, Rep]; exact ⟨_, _, rfl, rfl, rfl⟩
  | str => rintro x vs rfl; simp only [pk, Reps, Rep]; exact ⟨_, _, rfl, rfl, rfl⟩
  | unit => rintro x vs rfl; simp only [pk, Reps]
  | pair a b iha ihb =>
    rintro x vs ⟨v1, v2, rfl, h1, h2⟩
    exact Reps.append (iha h1) (ihb h2)
  | sl t ih =>
    rintro x vs ⟨a, cap, rfl, h⟩
    simp only [pk, Reps, Rep]
    exact ⟨_, _, rfl, ⟨a, cap, rfl, ⟨a, cap, rfl, h⟩, trivial⟩, rfl⟩

theorem castT_rep {c : Nat → Nat → Col} {w : World} {a b : Ty} (h : a = b) {x : L a.T} {vs : List Value} (hr : RepT c w (.sl a) x vs) : RepT c w (.sl b) (castT h x) vs := by
  subst h; exact hr
theorem castT_len {a b : Ty} (h : a = b) (x : L a.T) : (castT h x).len = x.len := by subst h; rfl
theorem castT_pk {a b : Ty} (h : a = b) (x : L a.T) (i : Nat) : pk b ((castT h x).get i) = pk a (x.get i) := by subst h; rfl

theorem nils_rep {c : Nat → Nat → Col} {w : World} (t : Ty) : RepT c w (.sl t) { len := 0, get := fun _ => t.zero, nil := true } [.slice none 0 0] :=
  ⟨none, 0, rfl, Nat.le_refl _, ⟨fun _ => rfl, fun _ => rfl, fun _ => rfl⟩, fun ad had => by cases had⟩

/-- Cells that are typed data. -/
theorem un_rep {g : Gh} {w : World} : ∀ {t : Ty} {cs : List PV} {x : t.T} {r : List PV} {vs : List Value}, un t cs = some (x, r) → Reps g w cs vs →
    ∃ v1 v2, vs = v1 ++ v2 ∧ RepT g.col w t x v1 ∧ Reps g w r v2 := by
  intro t
  induction t with
  | int k =>
    intro cs x r vs h hr
    cases cs with
    | nil => simp [un] at h
    | cons p ps =>
      cases p <;> simp [un] at h
      obtain ⟨h1, rfl, rfl⟩ := h
      subst h1
      simp only [Reps, Rep] at hr
      obtain ⟨u, us, rfl, rfl, h3⟩ := hr
      exact ⟨[_], us, rfl, rfl, h3⟩
  | bool =>
    intro cs x r vs h hr
    cases cs with
    | nil => simp [un] at h
    | cons p ps =>
      cases p <;> simp [un] at h
      obtain ⟨rfl, rfl⟩ := h
      simp only [Reps, Rep] at hr
      obtain ⟨u, us, rfl, rfl, h3⟩ := hr
      exact ⟨[_], us, rfl, rfl, h3⟩
  | str =>
    intro cs x r vs h hr
    cases cs with
    | nil => simp [un] at h
    | cons p ps =>
      cases p <;> simp [un] at h
      obtain ⟨rfl, rfl⟩ := h
      simp only [Reps, Rep] at hr
      obtain ⟨u, us, rfl, rfl, h3⟩ := hr
      exact ⟨[_], us, rfl, rfl, h3⟩
  | unit =>
    intro cs x r vs h hr
    simp [un] at h
    subst h
    exact ⟨[], vs, rfl, rfl, hr⟩
  | pair a b iha ihb =>
    intro cs x r vs h hr
    simp only [un] at h
    split at h
    · rename_i x1 r1 h1
      split at h
      · rename_i y1 r2 h2
        simp only [Option.some.injEq, Prod.mk.injEq] at h
        obtain ⟨rfl, rfl⟩ := h
        obtain ⟨v1, v2, rfl, k1, k2⟩ := iha h1 hr
        obtain ⟨u1, u2, rfl, k3, k4⟩ := ihb h2 k2
        exact ⟨v1 ++ u1, u2, by simp, ⟨v1, u1, rfl, k1, k3⟩, k4⟩
      · cases h
    · cases h
  | sl t ih =>
    intro cs x r vs h hr
    cases cs with
    | nil => simp [un] at h
    | cons p ps =>
      cases p <;> simp only [un] at h <;> try cases h
      · simp only [Reps, Rep] at hr
        obtain ⟨u, us, rfl, rfl, h3⟩ := hr
        exact ⟨[_], us, rfl, nils_rep t, h3⟩
      · split at h
        · rename_i t' y tk hb
          simp only [Option.some.injEq, Prod.mk.injEq] at h
          obtain ⟨rfl, rfl⟩ := h
          simp only [Reps] at hr
          obtain ⟨u, us, rfl, h2, h3⟩ := hr
          simp only [Rep] at h2
          obtain ⟨a, cap, rfl, h4, _⟩ := h2
          exact ⟨[_], us, rfl, castT_rep _ h4, h3⟩
        · cases h

theorem unA_rep {g : Gh} {w : World} {t : Ty} {cs : List PV} {x : t.T} {vs : List Value} (h : unA t cs = some x) (hr : Reps g w cs vs) : RepT g.col w t x vs := by
  simp only [unA] at h
  split at h
  · rename_i y h1
    simp only [Option.some.injEq] at h; subst h
    obtain ⟨v1, v2, rfl, k1, k2⟩ := un_rep h1 hr
    simp only [Reps] at k2; subst k2
    simpa using k1
  · cases h

/-- A value out of its cells: in memory's words. -/
def mkV (t : Ty) (vs : List Value) : Value := match t with
  | .unit => .agg vs.toArray
  | .pair _ _ => .agg vs.toArray
  | _ => vs.headD undef

theorem rep_mk {g : Gh} {w : World} {t : Ty} {x : t.T} {vs : List Value} (h : RepT g.col w t x vs) : Rep g w (mkPV t (pk t x)) (mkV t vs) := by
  have hp := reps_pk h
  cases t with
  | unit => simp only [mkPV, mkV, Rep]; exact ⟨vs, rfl, hp⟩
  | pair a b => simp only [mkPV, mkV, Rep]; exact ⟨vs, rfl, hp⟩
  | int k => simp only [pk, Reps] at hp; obtain ⟨u, us, rfl, h2, h3⟩ := hp; exact h2
  | bool => simp only [pk, Reps] at hp; obtain ⟨u, us, rfl, h2, h3⟩ := hp; exact h2
  | str => simp only [pk, Reps] at hp; obtain ⟨u, us, rfl, h2, h3⟩ := hp; exact h2
  | sl t => simp only [pk, Reps] at hp; obtain ⟨u, us, rfl, h2, h3⟩ := hp; exact h2

end Go.VE
