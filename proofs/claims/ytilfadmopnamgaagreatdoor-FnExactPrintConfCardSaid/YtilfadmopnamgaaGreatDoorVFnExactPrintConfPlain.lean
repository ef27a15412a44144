import Derived.Test.YtilfadmopnamgaaGreatDoorVFnExactPrintConfLaws0
/- More plain laws of what laws.FnExactPrintConf calls. -/
set_option linter.unusedVariables false
set_option linter.unusedSimpArgs false
namespace Go.VE.VFnExactPrintConf
open Go.VE
theorem bl {n : Nat} (h : n ≤ 9223372036854775807) : Nat.ble n 9223372036854775807 = true := Nat.ble_eq_true_of_le h
theorem B_app (x y : List UInt8) : (⟨x.toArray⟩ : ByteArray) ++ ⟨y.toArray⟩ = ⟨(x ++ y).toArray⟩ := by
  apply ByteArray.ext
  simp [ByteArray.data_append]
theorem B_assoc (a b c : ByteArray) : a ++ b ++ c = a ++ (b ++ c) := by
  apply ByteArray.ext
  simp [ByteArray.data_append, Array.append_assoc]
theorem B_size (a b : ByteArray) : (a ++ b).size = a.size + b.size := ByteArray.size_append
theorem B_nil (a : ByteArray) : a ++ (⟨#[]⟩ : ByteArray) = a := by
  apply ByteArray.ext
  simp [ByteArray.data_append]

/-- A number's text. -/
def dec (n : Int) : ByteArray := ⟨(Lib.itoa n).toArray⟩
/-- The numbers of sound tables. -/
def Nn (n : Int) : Prop := 0 ≤ n ∧ n ≤ 1000000

theorem dec55 {n : Int} (h : Nn n) : g55 n = some ((dec n, ()), ()) := by
  obtain ⟨h0, h1⟩ := h
  unfold g55 g84 g101 gFI
  rw [if_pos ⟨rfl, by omega, by omega⟩]
  rfl

theorem nDigits_le : ∀ (u : Nat), Lib.nDigits u ≤ u + 1 := by
  intro u
  induction u using Nat.strongRecOn with
  | _ u ih =>
    rw [Lib.nDigits]
    split
    · omega
    · have := ih (u / 10) (by omega)
      omega

theorem dec_size {n : Int} (h : Nn n) : (dec n).size ≤ 1000001 := by
  obtain ⟨m, rfl⟩ : ∃ m : Nat, n = m := ⟨n.toNat, by have := h.1; omega⟩
  have hm : m ≤ 1000000 := by have := h.2; omega
  show (Lib.itoa (m : Int)).toArray.size ≤ _
  unfold Lib.itoa
  rw [if_neg (by omega)]
  simp only [List.size_toArray, Int.toNat_natCast]
  rw [Lib.decDigits_length]
  have := nDigits_le m
  omega

theorem digit (d : Nat) (h : d < 10) : ByteArray.extract (⟨#[48, 49, 50, 51, 52, 53, 54, 55, 56, 57]⟩ : ByteArray) d (d + 1) = ⟨[UInt8.ofNat (48 + d)].toArray⟩ := by
  have : d = 0 ∨ d = 1 ∨ d = 2 ∨ d = 3 ∨ d = 4 ∨ d = 5 ∨ d = 6 ∨ d = 7 ∨ d = 8 ∨ d = 9 := by omega
  rcases this with rfl | rfl | rfl | rfl | rfl | rfl | rfl | rfl | rfl | rfl <;> decide +kernel

theorem loop15 (N : Int) : ∀ (m : Nat), 0 < m → ∀ t : ByteArray, t.size + m ≤ 2000000 → fixO s15_L0 ((N, (t, ((m : Int), ()))), ()) = some (.inl ((N, ((⟨(Lib.decDigits m).toArray⟩ : ByteArray) ++ t, ())), ())) := by
  intro m
  induction m using Nat.strongRecOn with
  | _ m ih =>
    intro hm t ht
    have e1 : Int.tmod (m : Int) 10 = ((m % 10 : Nat) : Int) := rfl
    have e2 : Int.tdiv (m : Int) 10 = ((m / 10 : Nat) : Int) := rfl
    have hd : m % 10 < 10 := Nat.mod_lt _ (by decide)
    have hz : ((⟨#[48, 49, 50, 51, 52, 53, 54, 55, 56, 57]⟩ : ByteArray).size : Int) = 10 := rfl
    have e3 : wI (((m % 10 : Nat) : Int) + 1) = ((m % 10 + 1 : Nat) : Int) := by rw [wI_id (by omega) (by omega)]; omega
    have e4 : wI ((m / 10 : Nat) : Int) = ((m / 10 : Nat) : Int) := wI_id (by omega) (by omega)
    have hs1 : (⟨[UInt8.ofNat (48 + m % 10)].toArray⟩ : ByteArray).size = 1 := rfl
    rw [fixO_unfold]
    simp only [s15_L0, q15_L0, e1, e2, e3, e4, hz]
    rw [bif_t (by simp; omega), bif_f (by rw [decide_eq_false_iff_not]; omega), bif_t (by simp only [Bool.and_eq_true, decide_eq_true_eq]; omega)]
    simp only [Int.toNat_natCast]
    rw [digit _ hd, bif_t (bl (by rw [hs1]; omega))]
    simp only
    by_cases hc : m < 10
    · have e0 : m / 10 = 0 := by omega
      rw [e0, fixO_unfold]
      simp only [s15_L0, q15_L0]
      rw [bif_f (by simp)]
      simp only
      rw [Lib.decDigits_one hc, show m % 10 = m by omega]
    · rw [ih (m / 10) (by omega) (by omega) _ (by rw [B_size, hs1]; omega)]
      rw [← B_assoc, B_app (Lib.decDigits (m / 10)) [UInt8.ofNat (48 + m % 10)]]
      conv => rhs; rw [Lib.decDigits, dif_neg hc]

theorem dec15 {n : Int} (h : Nn n) : g15 n = some ((dec n, ()), ()) := by
  obtain ⟨m, rfl⟩ : ∃ m : Nat, n = m := ⟨n.toNat, by have := h.1; omega⟩
  have hm : m ≤ 1000000 := by have := h.2; omega
  have ed : dec (m : Int) = ⟨(Lib.decDigits m).toArray⟩ := by
    unfold dec Lib.itoa
    rw [if_neg (by omega)]; rfl
  unfold g15
  by_cases h0 : m = 0
  · subst h0
    rw [bif_t (by simp), ed, Lib.decDigits_one (by decide)]
    rfl
  · rw [bif_f (by simp; omega), loop15 _ m (by omega) _ (by show 0 + m ≤ _; omega)]
    simp only [Option.bind_some]
    rw [bif_f (by simp), ed, B_nil]

/-- Words and numbers in a line. -/
def say (w : ByteArray) : List Int → ByteArray
  | [] => w ++ (⟨#[10]⟩ : ByteArray)
  | n :: r => say (w ++ ((⟨#[32]⟩ : ByteArray) ++ dec n)) r

theorem say_size : ∀ (l : List Int) (w : ByteArray), (∀ n ∈ l, Nn n) → (say w l).size ≤ w.size + 1000002 * l.length + 1
  | [], w, _ => by
    have : (⟨#[10]⟩ : ByteArray).size = 1 := rfl
    simp only [say, B_size, this, List.length_nil]; omega
  | n :: r, w, h => by
    have h1 := say_size r (w ++ ((⟨#[32]⟩ : ByteArray) ++ dec n)) fun m hm => h m (by simp [hm])
    have h2 := dec_size (h n (by simp))
    have h3 : (⟨#[32]⟩ : ByteArray).size = 1 := rfl
    simp only [B_size, h3] at h1
    simp only [say, List.length_cons]
    omega

theorem sayLoops {x : L Int} {l : List Int} (hx : x.len = l.length ∧ ∀ i, i < x.len → l[i]? = some (x.get i)) (hn : ∀ n ∈ l, Nn n) (hl : x.len ≤ 10) : ∀ (k i : Nat) (w : ByteArray), k + i = x.len → w.size ≤ 1000000000000 + i * 2000000 →
    ∃ r, fixO s14_L0 ((w, (x, ((i : Int), ()))), ()) = some (.inl ((r, ()), ())) ∧ fixO s54_L0 ((w, (x, ((x.len : Int), ((i : Int), ())))), ()) = some (.inl ((r, ()), ())) ∧ r ++ (⟨#[10]⟩ : ByteArray) = say w (l.drop i) ∧ r.size ≤ 1000020000000
  | 0, i, w, hk, hw => by
    have e : l.drop i = [] := List.drop_eq_nil_of_le (by rw [← hx.1]; omega)
    refine ⟨w, ?_, ?_, by rw [e]; rfl, by omega⟩
    · rw [fixO_unfold]
      simp only [s14_L0, q14_L0]
      rw [bif_f (by simp; omega)]
    · rw [fixO_unfold]
      simp only [s54_L0, q54_L0]
      rw [bif_f (by simp; omega)]
  | k + 1, i, w, hk, hw => by
    have hi : i < x.len := by omega
    have hg := hx.2 i hi
    obtain ⟨g1, g2⟩ := List.getElem?_eq_some_iff.mp hg
    have hd : l.drop i = x.get i :: l.drop (i + 1) := by rw [List.drop_eq_getElem_cons g1, g2]
    have hN : Nn (x.get i) := hn _ (List.mem_of_getElem? hg)
    have hs := dec_size hN
    have h3 : (⟨#[32]⟩ : ByteArray).size = 1 := rfl
    obtain ⟨r, r1, r2, r3, r4⟩ := sayLoops hx hn hl k (i + 1) (w ++ ((⟨#[32]⟩ : ByteArray) ++ dec (x.get i))) (by omega) (by simp only [B_size, h3]; omega)
    refine ⟨r, ?_, ?_, by rw [r3, hd]; rfl, r4⟩
    · rw [fixO_unfold]
      simp only [s14_L0, q14_L0]
      rw [bif_t (idx_lt hi), bif_t (bl (by rw [h3]; omega)), bif_t (idx_in hi)]
      simp only [Int.toNat_natCast]
      rw [dec15 hN]
      simp only [Option.bind_some]
      rw [bif_t (bl (by simp only [B_size, h3]; omega)), wI_succ hi (by omega), B_assoc]
      exact r1
    · rw [fixO_unfold]
      simp only [s54_L0, q54_L0]
      rw [bif_t (idx_lt hi), bif_t (idx_in hi)]
      simp only [Int.toNat_natCast]
      rw [dec55 hN]
      simp only [Option.bind_some]
      rw [bif_t (bl (by rw [h3]; omega)), bif_t (bl (by simp only [B_size, h3]; omega)), wI_succ hi (by omega)]
      exact r2

theorem says (w : ByteArray) (z : Int) (l : List Int) (hw : w.size ≤ 1000000000000) (hn : ∀ n ∈ l, Nn n) (hl : l.length ≤ 10) : g14 w (L.of z l) = some ((say w l, ()), ()) ∧ g54 w (L.of z l) = some ((say w l, ()), ()) := by
  have hx : (L.of z l).len = l.length ∧ ∀ i, i < (L.of z l).len → l[i]? = some ((L.of z l).get i) := by
    refine ⟨rfl, fun i hi => ?_⟩
    have hi : i < l.length := hi
    show _ = some (l.getD i z)
    rw [List.getD_eq_getElem?_getD, List.getElem?_eq_getElem hi]; rfl
  obtain ⟨r, r1, r2, r3, r4⟩ := sayLoops hx hn hl (L.of z l).len 0 w (by omega) (by omega)
  have r1 : fixO s14_L0 ((w, (L.of z l, ((0 : Int), ()))), ()) = some (.inl ((r, ()), ())) := r1
  have r2 : fixO s54_L0 ((w, (L.of z l, (((L.of z l).len : Int), ((0 : Int), ())))), ()) = some (.inl ((r, ()), ())) := r2
  have r3 : r ++ (⟨#[10]⟩ : ByteArray) = say w l := r3
  have h3 : (⟨#[10]⟩ : ByteArray).size = 1 := rfl
  constructor
  · unfold g14
    rw [r1]
    simp only [Option.bind_some]
    rw [bif_t (bl (by rw [h3]; omega)), r3]
  · unfold g54
    rw [r2]
    simp only [Option.bind_some]
    rw [bif_t (bl (by rw [h3]; omega)), r3]

theorem range17 {p : Int} (h : 1 ≤ p) (h' : p ≤ 7) : p = 1 ∨ p = 2 ∨ p = 3 ∨ p = 4 ∨ p = 5 ∨ p = 6 ∨ p = 7 := by omega
def ptOk (a b : Option ((ByteArray × Unit) × Unit)) : Bool := match a, b with
  | some x, some y => decide (x.1.1 = y.1.1) && Nat.ble x.1.1.size 3
  | _, _ => false
theorem pt1 : ptOk (g56 1) (g16 1) = true := by kernel_rfl
theorem pt2 : ptOk (g56 2) (g16 2) = true := by kernel_rfl
theorem pt3 : ptOk (g56 3) (g16 3) = true := by kernel_rfl
theorem pt4 : ptOk (g56 4) (g16 4) = true := by kernel_rfl
theorem pt5 : ptOk (g56 5) (g16 5) = true := by kernel_rfl
theorem pt6 : ptOk (g56 6) (g16 6) = true := by kernel_rfl
theorem pt7 : ptOk (g56 7) (g16 7) = true := by kernel_rfl
/-- The texts of 1 to 7 are told alike. -/
theorem pt {p : Int} (h : 1 ≤ p) (h' : p ≤ 7) : ∃ s, g56 p = some ((s, ()), ()) ∧ g16 p = some ((s, ()), ()) ∧ s.size ≤ 3 := by
  have : ptOk (g56 p) (g16 p) = true := by
    rcases range17 h h' with rfl | rfl | rfl | rfl | rfl | rfl | rfl
    · exact pt1
    · exact pt2
    · exact pt3
    · exact pt4
    · exact pt5
    · exact pt6
    · exact pt7
  unfold ptOk at this
  split at this
  · rename_i x y e1 e2
    simp only [Bool.and_eq_true] at this
    obtain ⟨⟨s, ⟨⟩⟩, ⟨⟩⟩ := x
    obtain ⟨⟨s', ⟨⟩⟩, ⟨⟩⟩ := y
    have hs : s = s' := of_decide_eq_true this.1
    subst hs
    exact ⟨s, e1, e2, Nat.le_of_ble_eq_true this.2⟩
  · cases this

/-- What the lines need of a partition. -/
structure PrP (p : PR) : Prop where
  nm : p.1.size ≤ 1048576
  en : Nn p.2.1
  most : Nn p.2.2.1.2.1
  wl : p.2.2.2.1.len ≤ 4
  wi : ∀ j, j < p.2.2.2.1.len → Nn (p.2.2.2.1.get j).1 ∧ Nn (p.2.2.2.1.get j).2.1 ∧ 1 ≤ (p.2.2.2.1.get j).2.2.1 ∧ (p.2.2.2.1.get j).2.2.1 ≤ 7
  kind : p.2.2.1.1 = 0 ∨ p.2.2.1.1 = 1 ∨ p.2.2.1.1 = 2
/-- What the lines need of tables. -/
structure Pr (t : Tb) : Prop where
  pl : t.2.2.2.2.2.2.2.1.len ≤ 6
  parts : ∀ i, i < t.2.2.2.2.2.2.2.1.len → PrP (t.2.2.2.2.2.2.2.1.get i)
  dl : t.2.2.2.2.2.2.2.2.1.len ≤ 8
  devs : ∀ i, i < t.2.2.2.2.2.2.2.2.1.len → 0 ≤ t.2.2.2.2.2.2.2.2.1.get i ∧ t.2.2.2.2.2.2.2.2.1.get i < t.2.2.2.2.2.2.2.1.len
  cl : t.2.2.2.2.2.2.2.2.2.1.len ≤ 8
  chans : ∀ i, i < t.2.2.2.2.2.2.2.2.2.1.len → (0 ≤ (t.2.2.2.2.2.2.2.2.2.1.get i).2.1 ∧ (t.2.2.2.2.2.2.2.2.2.1.get i).2.1 < t.2.2.2.2.2.2.2.1.len) ∧ (0 ≤ (t.2.2.2.2.2.2.2.2.2.1.get i).2.2.1 ∧ (t.2.2.2.2.2.2.2.2.2.1.get i).2.2.1 < t.2.2.2.2.2.2.2.1.len) ∧ Nn (t.2.2.2.2.2.2.2.2.2.1.get i).2.2.2.1
  sl : t.2.2.2.2.2.2.2.2.2.2.1.len ≤ 16
  slots : ∀ i, i < t.2.2.2.2.2.2.2.2.2.2.1.len → (0 ≤ (t.2.2.2.2.2.2.2.2.2.2.1.get i).1 ∧ (t.2.2.2.2.2.2.2.2.2.2.1.get i).1 < t.2.2.2.2.2.2.2.1.len) ∧ Nn (t.2.2.2.2.2.2.2.2.2.2.1.get i).2.1 ∧ Nn (t.2.2.2.2.2.2.2.2.2.2.1.get i).2.2.1

theorem Pr.name {t : Tb} (h : Pr t) {n : Int} (h0 : 0 ≤ n) (h1 : n < t.2.2.2.2.2.2.2.1.len) : (t.2.2.2.2.2.2.2.1.get n.toNat).1.size ≤ 1048576 := (h.parts n.toNat (by omega)).nm
theorem in_int {n : Int} {m : Nat} (h0 : 0 ≤ n) (h1 : n < m) : (decide ((0 : Int) ≤ n) && decide (n < (m : Int))) = true := by simp; omega

theorem sk1 : (⟨#[112, 97, 114, 116, 32]⟩ : ByteArray).size = 5 := rfl
theorem sk2 : (⟨#[32]⟩ : ByteArray).size = 1 := rfl
theorem sk3 : (⟨#[32, 114, 101, 115, 116, 97, 114, 116]⟩ : ByteArray).size = 8 := rfl
theorem sk4 : (⟨#[32, 115, 107, 105, 112, 10]⟩ : ByteArray).size = 6 := rfl
theorem sk5 : (⟨#[32, 104, 97, 108, 116, 10]⟩ : ByteArray).size = 6 := rfl
theorem sk6 : (⟨#[104, 97, 108, 116, 10]⟩ : ByteArray).size = 5 := rfl
theorem sk7 : (⟨#[115, 107, 105, 112, 10]⟩ : ByteArray).size = 5 := rfl
theorem sk8 : (⟨#[114, 101, 115, 116, 97, 114, 116]⟩ : ByteArray).size = 7 := rfl
theorem sk9 : (⟨#[119, 105, 110, 100, 111, 119, 32]⟩ : ByteArray).size = 7 := rfl
theorem sk10 : (⟨#[10]⟩ : ByteArray).size = 1 := rfl
theorem sk11 : (⟨#[100, 101, 118, 32]⟩ : ByteArray).size = 4 := rfl
theorem sk12 : (⟨#[99, 104, 97, 110, 32, 115, 97, 109, 112, 108, 101, 32]⟩ : ByteArray).size = 12 := rfl
theorem sk13 : (⟨#[99, 104, 97, 110, 32, 113, 117, 101, 117, 101, 32]⟩ : ByteArray).size = 11 := rfl
theorem sk14 : (⟨#[115, 108, 111, 116, 32]⟩ : ByteArray).size = 5 := rfl
theorem lit1 : (⟨#[32, 115, 107, 105, 112, 10]⟩ : ByteArray) = (⟨#[32]⟩ : ByteArray) ++ (⟨#[115, 107, 105, 112, 10]⟩ : ByteArray) := by decide +kernel
theorem lit2 : (⟨#[32, 104, 97, 108, 116, 10]⟩ : ByteArray) = (⟨#[32]⟩ : ByteArray) ++ (⟨#[104, 97, 108, 116, 10]⟩ : ByteArray) := by decide +kernel
theorem lit3 : (⟨#[32, 114, 101, 115, 116, 97, 114, 116]⟩ : ByteArray) = (⟨#[32]⟩ : ByteArray) ++ (⟨#[114, 101, 115, 116, 97, 114, 116]⟩ : ByteArray) := by decide +kernel

theorem partsL {t : Tb} (h : Pr t) : ∀ (k i : Nat) (w : ByteArray), k + i = t.2.2.2.2.2.2.2.1.len → w.size ≤ 10000000000 + i * 10000000 →
    ∃ r, fixO s5_L0 (((), (w, ((i : Int), ()))), (t, ())) = some (.inl (((), (r, ())), (t, ()))) ∧ fixO s24_L0 (((), (w, (t.2.2.2.2.2.2.2.1, ((t.2.2.2.2.2.2.2.1.len : Int), ((i : Int), ()))))), (t, ())) = some (.inl (((), (r, ())), (t, ()))) ∧ r.size ≤ 10100000000
  | 0, i, w, hk, hw => by
    have hpl := h.pl
    refine ⟨w, ?_, ?_, by omega⟩
    · rw [fixO_unfold]
      simp only [s5_L0, q5_L0]
      rw [bif_f (by simp; omega)]
    · rw [fixO_unfold]
      simp only [s24_L0, q24_L0]
      rw [bif_f (by simp; omega)]
  | k + 1, i, w, hk, hw => by
    have hi : i < t.2.2.2.2.2.2.2.1.len := by omega
    have hpl := h.pl
    have hp := h.parts i hi
    have d1 := dec_size hp.en
    have n1 := hp.nm
    have hm := hp.most
    have he := hp.en
    have hpk := hp.kind
    have d2 := dec_size hm
    obtain ⟨p, ep⟩ : ∃ p, t.2.2.2.2.2.2.2.1.get i = p := ⟨_, rfl⟩
    rw [ep] at d1 n1 hm he hpk d2
    have hsz : ∀ x : ByteArray, (say x [p.2.2.1.2.1]).size = x.size + 1 + (dec p.2.2.1.2.1).size + 1 := fun x => by simp only [say, B_size, sk2, sk10]; omega
    rcases hpk with h0 | h1 | h2
    · obtain ⟨r, r1, r2, r3⟩ := partsL h k (i + 1) (w ++ ((((((⟨#[112, 97, 114, 116, 32]⟩ : ByteArray) ++ p.1) ++ (⟨#[32]⟩ : ByteArray)) ++ dec p.2.1) ++ (⟨#[32]⟩ : ByteArray)) ++ (⟨#[104, 97, 108, 116, 10]⟩ : ByteArray))) (by omega) (by simp only [B_size, sk1, sk2, sk3, sk4, sk5, sk6, sk7, sk8, sk9, sk10, sk11, sk12, sk13, sk14]; omega)
      simp only [B_assoc] at r1 r2
      refine ⟨r, ?_, ?_, r3⟩
      · rw [fixO_unfold]
        simp only [s5_L0, q5_L0]
        rw [bif_t (idx_lt hi), bif_t (idx_in hi)]
        simp only [Int.toNat_natCast]
        rw [ep, dec15 he]
        simp only [Option.bind_some]
        rw [bif_f (c := p.2.2.1.1 == 1) (by simp [h0]), bif_f (c := p.2.2.1.1 == 2) (by simp [h0])]
        repeat rw [bif_t (bl (by simp only [B_size, sk1, sk2, sk3, sk4, sk5, sk6, sk7, sk8, sk9, sk10, sk11, sk12, sk13, sk14]; omega))]
        rw [wI_succ hi (by omega)]
        simp only [lit2, B_assoc]
        exact r1
      · rw [fixO_unfold]
        simp only [s24_L0, q24_L0]
        rw [bif_t (idx_lt hi), bif_t (idx_in hi)]
        simp only [Int.toNat_natCast]
        rw [ep, dec55 he]
        simp only [Option.bind_some]
        rw [bif_t (c := p.2.2.1.1 == 0) (by simp [h0])]
        repeat rw [bif_t (bl (by simp only [B_size, sk1, sk2, sk3, sk4, sk5, sk6, sk7, sk8, sk9, sk10, sk11, sk12, sk13, sk14]; omega))]
        rw [wI_succ hi (by omega)]
        simp only [B_assoc]
        exact r2
    · obtain ⟨r, r1, r2, r3⟩ := partsL h k (i + 1) (w ++ say ((((((⟨#[112, 97, 114, 116, 32]⟩ : ByteArray) ++ p.1) ++ (⟨#[32]⟩ : ByteArray)) ++ dec p.2.1) ++ (⟨#[32]⟩ : ByteArray)) ++ (⟨#[114, 101, 115, 116, 97, 114, 116]⟩ : ByteArray)) [p.2.2.1.2.1]) (by omega) (by simp only [hsz, B_size, sk1, sk2, sk3, sk4, sk5, sk6, sk7, sk8, sk9, sk10, sk11, sk12, sk13, sk14]; omega)
      simp only [say, B_assoc] at r1 r2
      have e1 := (says (⟨#[32, 114, 101, 115, 116, 97, 114, 116]⟩ : ByteArray) (Ty.zero (.int .i64)) [p.2.2.1.2.1] (by rw [sk3]; omega) (by simpa using hm) (by simp)).1
      have e2 := (says ((((((⟨#[112, 97, 114, 116, 32]⟩ : ByteArray) ++ p.1) ++ (⟨#[32]⟩ : ByteArray)) ++ dec p.2.1) ++ (⟨#[32]⟩ : ByteArray)) ++ (⟨#[114, 101, 115, 116, 97, 114, 116]⟩ : ByteArray)) (Ty.zero (.int .i64)) [p.2.2.1.2.1] (by simp only [B_size, sk1, sk2, sk3, sk4, sk5, sk6, sk7, sk8, sk9, sk10, sk11, sk12, sk13, sk14]; omega) (by simpa using hm) (by simp)).2
      refine ⟨r, ?_, ?_, r3⟩
      · rw [fixO_unfold]
        simp only [s5_L0, q5_L0]
        rw [bif_t (idx_lt hi), bif_t (idx_in hi)]
        simp only [Int.toNat_natCast]
        rw [ep, dec15 he]
        simp only [Option.bind_some]
        rw [bif_t (c := p.2.2.1.1 == 1) (by simp [h1]), e1]
        simp only [Option.bind_some]
        repeat rw [bif_t (bl (by simp only [hsz, B_size, sk1, sk2, sk3, sk4, sk5, sk6, sk7, sk8, sk9, sk10, sk11, sk12, sk13, sk14]; omega))]
        rw [wI_succ hi (by omega)]
        simp only [say, lit3, B_assoc]
        exact r1
      · rw [fixO_unfold]
        simp only [s24_L0, q24_L0]
        rw [bif_t (idx_lt hi), bif_t (idx_in hi)]
        simp only [Int.toNat_natCast]
        rw [ep, dec55 he]
        simp only [Option.bind_some]
        rw [bif_f (c := p.2.2.1.1 == 0) (by simp [h1]), bif_f (c := p.2.2.1.1 == 2) (by simp [h1]), e2]
        simp only [Option.bind_some]
        repeat rw [bif_t (bl (by simp only [hsz, B_size, sk1, sk2, sk3, sk4, sk5, sk6, sk7, sk8, sk9, sk10, sk11, sk12, sk13, sk14]; omega))]
        rw [wI_succ hi (by omega)]
        simp only [say, B_assoc]
        exact r2
    · obtain ⟨r, r1, r2, r3⟩ := partsL h k (i + 1) (w ++ ((((((⟨#[112, 97, 114, 116, 32]⟩ : ByteArray) ++ p.1) ++ (⟨#[32]⟩ : ByteArray)) ++ dec p.2.1) ++ (⟨#[32]⟩ : ByteArray)) ++ (⟨#[115, 107, 105, 112, 10]⟩ : ByteArray))) (by omega) (by simp only [B_size, sk1, sk2, sk3, sk4, sk5, sk6, sk7, sk8, sk9, sk10, sk11, sk12, sk13, sk14]; omega)
      simp only [B_assoc] at r1 r2
      refine ⟨r, ?_, ?_, r3⟩
      · rw [fixO_unfold]
        simp only [s5_L0, q5_L0]
        rw [bif_t (idx_lt hi), bif_t (idx_in hi)]
        simp only [Int.toNat_natCast]
        rw [ep, dec15 he]
        simp only [Option.bind_some]
        rw [bif_f (c := p.2.2.1.1 == 1) (by simp [h2]), bif_t (c := p.2.2.1.1 == 2) (by simp [h2])]
        repeat rw [bif_t (bl (by simp only [B_size, sk1, sk2, sk3, sk4, sk5, sk6, sk7, sk8, sk9, sk10, sk11, sk12, sk13, sk14]; omega))]
        rw [wI_succ hi (by omega)]
        simp only [lit1, B_assoc]
        exact r1
      · rw [fixO_unfold]
        simp only [s24_L0, q24_L0]
        rw [bif_t (idx_lt hi), bif_t (idx_in hi)]
        simp only [Int.toNat_natCast]
        rw [ep, dec55 he]
        simp only [Option.bind_some]
        rw [bif_f (c := p.2.2.1.1 == 0) (by simp [h2]), bif_t (c := p.2.2.1.1 == 2) (by simp [h2])]
        repeat rw [bif_t (bl (by simp only [B_size, sk1, sk2, sk3, sk4, sk5, sk6, sk7, sk8, sk9, sk10, sk11, sk12, sk13, sk14]; omega))]
        rw [wI_succ hi (by omega)]
        simp only [B_assoc]
        exact r2

theorem winsL {t : Tb} (h : Pr t) {a : Nat} (ha : a < t.2.2.2.2.2.2.2.1.len) : ∀ (k j : Nat) (w : ByteArray), k + j = (t.2.2.2.2.2.2.2.1.get a).2.2.2.1.len → w.size ≤ 20000000000 + a * 100000000 + j * 10000000 →
    ∃ r, fixO s5_L5 (((), (w, ((a : Int), ((j : Int), ())))), (t, ())) = some (.inl (((), (r, ((a : Int), ()))), (t, ()))) ∧
      fixO s24_L5 (((), (w, ((), (t.2.2.2.2.2.2.2.1, ((t.2.2.2.2.2.2.2.1.len : Int), ((a : Int), ((t.2.2.2.2.2.2.2.1.get a).2.2.2.1, (((t.2.2.2.2.2.2.2.1.get a).2.2.2.1.len : Int), ((j : Int), ()))))))))), (t, (t.2.2.2.2.2.2.2.1.get a, ()))) = some (.inl (((), (r, (t.2.2.2.2.2.2.2.1, ((t.2.2.2.2.2.2.2.1.len : Int), ((a : Int), ()))))), (t, ()))) ∧ r.size ≤ 20000000000 + (a + 1) * 100000000
  | 0, j, w, hk, hw => by
    have hwl := (h.parts a ha).wl
    refine ⟨w, ?_, ?_, by omega⟩
    · rw [fixO_unfold]
      simp only [s5_L5, q5_L5]
      rw [bif_t (idx_in ha)]
      simp only [Int.toNat_natCast]
      rw [bif_f (by simp; omega)]
    · rw [fixO_unfold]
      simp only [s24_L5, q24_L5]
      rw [bif_f (by simp; omega)]
  | k + 1, j, w, hk, hw => by
    have hwl := (h.parts a ha).wl
    have hpl := h.pl
    have hj : j < (t.2.2.2.2.2.2.2.1.get a).2.2.2.1.len := by omega
    obtain ⟨w1, w2, w3, w4⟩ := (h.parts a ha).wi j hj
    have n1 := (h.parts a ha).nm
    obtain ⟨s, p1, p2, p3⟩ := pt w3 w4
    have d1 := dec_size w1
    have d2 := dec_size w2
    obtain ⟨r, r1, r2, r3⟩ := winsL h ha k (j + 1) (w ++ (((((((((⟨#[119, 105, 110, 100, 111, 119, 32]⟩ : ByteArray) ++ (t.2.2.2.2.2.2.2.1.get a).1) ++ (⟨#[32]⟩ : ByteArray)) ++ dec ((t.2.2.2.2.2.2.2.1.get a).2.2.2.1.get j).1) ++ (⟨#[32]⟩ : ByteArray)) ++ dec ((t.2.2.2.2.2.2.2.1.get a).2.2.2.1.get j).2.1) ++ (⟨#[32]⟩ : ByteArray)) ++ s) ++ (⟨#[10]⟩ : ByteArray))) (by omega) (by simp only [B_size, sk1, sk2, sk3, sk4, sk5, sk6, sk7, sk8, sk9, sk10, sk11, sk12, sk13, sk14]; omega)
    simp only [B_assoc] at r1 r2
    refine ⟨r, ?_, ?_, r3⟩
    · rw [fixO_unfold]
      simp only [s5_L5, q5_L5]
      rw [bif_t (idx_in ha)]
      simp only [Int.toNat_natCast]
      rw [bif_t (idx_lt hj), bif_t (idx_in ha), bif_t (idx_in hj), dec15 w1, dec15 w2, p2]
      simp only [Option.bind_some]
      rw [bif_t (bl (by simp only [B_size, sk1, sk2, sk3, sk4, sk5, sk6, sk7, sk8, sk9, sk10, sk11, sk12, sk13, sk14]; omega)), bif_t (idx_in ha)]
      repeat rw [bif_t (bl (by simp only [B_size, sk1, sk2, sk3, sk4, sk5, sk6, sk7, sk8, sk9, sk10, sk11, sk12, sk13, sk14]; omega))]
      rw [wI_succ hj (by omega)]
      simp only [B_assoc]
      exact r1
    · rw [fixO_unfold]
      simp only [s24_L5, q24_L5]
      rw [bif_t (idx_lt hj), bif_t (idx_in hj)]
      simp only [Int.toNat_natCast]
      rw [dec55 w1, dec55 w2, p1]
      simp only [Option.bind_some]
      repeat rw [bif_t (bl (by simp only [B_size, sk1, sk2, sk3, sk4, sk5, sk6, sk7, sk8, sk9, sk10, sk11, sk12, sk13, sk14]; omega))]
      rw [wI_succ hj (by omega)]
      simp only [B_assoc]
      exact r2

theorem allWinsL {t : Tb} (h : Pr t) : ∀ (k i : Nat) (w : ByteArray), k + i = t.2.2.2.2.2.2.2.1.len → w.size ≤ 20000000000 + i * 100000000 →
    ∃ r, fixO s5_L3 (((), (w, ((i : Int), ()))), (t, ())) = some (.inl (((), (r, ())), (t, ()))) ∧ fixO s24_L3 (((), (w, (t.2.2.2.2.2.2.2.1, ((t.2.2.2.2.2.2.2.1.len : Int), ((i : Int), ()))))), (t, ())) = some (.inl (((), (r, ())), (t, ()))) ∧ r.size ≤ 21000000000
  | 0, i, w, hk, hw => by
    have := h.pl
    refine ⟨w, ?_, ?_, by omega⟩
    · rw [fixO_unfold]
      simp only [s5_L3, q5_L3]
      rw [bif_f (by simp; omega)]
    · rw [fixO_unfold]
      simp only [s24_L3, q24_L3]
      rw [bif_f (by simp; omega)]
  | k + 1, i, w, hk, hw => by
    have hpl := h.pl
    have hi : i < t.2.2.2.2.2.2.2.1.len := by omega
    obtain ⟨r, r1, r2, r3⟩ := winsL h hi (t.2.2.2.2.2.2.2.1.get i).2.2.2.1.len 0 w (Nat.add_zero _) (by rw [Nat.zero_mul, Nat.add_zero]; exact hw)
    rw [show ((0 : Nat) : Int) = 0 from rfl] at r1 r2
    obtain ⟨q, q1, q2, q3⟩ := allWinsL h k (i + 1) r (by omega) (by omega)
    refine ⟨q, ?_, ?_, q3⟩
    · rw [fixO_unfold]
      simp only [s5_L3, q5_L3]
      rw [bif_t (idx_lt hi), r1]
      simp only [Option.bind_some]
      rw [wI_succ hi (by omega)]
      exact q1
    · rw [fixO_unfold]
      simp only [s24_L3, q24_L3]
      rw [bif_t (idx_lt hi), bif_t (idx_in hi)]
      simp only [Int.toNat_natCast]
      rw [r2]
      simp only [Option.bind_some]
      rw [wI_succ hi (by omega)]
      exact q2

theorem devsL {t : Tb} (h : Pr t) : ∀ (k i : Nat) (w : ByteArray), k + i = t.2.2.2.2.2.2.2.2.1.len → w.size ≤ 30000000000 + i * 10000000 →
    ∃ r, fixO s5_L7 (((), (w, ((i : Int), ()))), (t, ())) = some (.inl (((), (r, ())), (t, ()))) ∧ fixO s24_L7 (((), (w, (t.2.2.2.2.2.2.2.2.1, ((t.2.2.2.2.2.2.2.2.1.len : Int), ((i : Int), ()))))), (t, ())) = some (.inl (((), (r, ())), (t, ()))) ∧ r.size ≤ 31000000000
  | 0, i, w, hk, hw => by
    have hpl := h.dl
    refine ⟨w, ?_, ?_, by omega⟩
    · rw [fixO_unfold]
      simp only [s5_L7, q5_L7]
      rw [bif_f (by simp; omega)]
    · rw [fixO_unfold]
      simp only [s24_L7, q24_L7]
      rw [bif_f (by simp; omega)]
  | k + 1, i, w, hk, hw => by
    have hpl := h.dl
    have hi : i < t.2.2.2.2.2.2.2.2.1.len := by omega
    obtain ⟨d0, d1⟩ := h.devs i hi
    have n1 := h.name d0 d1
    obtain ⟨r, r1, r2, r3⟩ := devsL h k (i + 1) (w ++ (((⟨#[100, 101, 118, 32]⟩ : ByteArray) ++ (t.2.2.2.2.2.2.2.1.get (t.2.2.2.2.2.2.2.2.1.get i).toNat).1) ++ (⟨#[10]⟩ : ByteArray))) (by omega) (by simp only [B_size, sk1, sk2, sk3, sk4, sk5, sk6, sk7, sk8, sk9, sk10, sk11, sk12, sk13, sk14]; omega)
    simp only [B_assoc] at r1 r2
    refine ⟨r, ?_, ?_, r3⟩
    · rw [fixO_unfold]
      simp only [s5_L7, q5_L7]
      rw [bif_t (idx_lt hi)]
      simp only [Int.toNat_natCast]
      rw [bif_t (bl (by simp only [B_size, sk1, sk2, sk3, sk4, sk5, sk6, sk7, sk8, sk9, sk10, sk11, sk12, sk13, sk14]; omega)), bif_t (idx_in hi), bif_t (in_int d0 d1)]
      repeat rw [bif_t (bl (by simp only [B_size, sk1, sk2, sk3, sk4, sk5, sk6, sk7, sk8, sk9, sk10, sk11, sk12, sk13, sk14]; omega))]
      rw [wI_succ hi (by omega)]
      simp only [B_assoc]
      exact r1
    · rw [fixO_unfold]
      simp only [s24_L7, q24_L7]
      rw [bif_t (idx_lt hi), bif_t (idx_in hi)]
      simp only [Int.toNat_natCast]
      rw [bif_t (in_int d0 d1)]
      repeat rw [bif_t (bl (by simp only [B_size, sk1, sk2, sk3, sk4, sk5, sk6, sk7, sk8, sk9, sk10, sk11, sk12, sk13, sk14]; omega))]
      rw [wI_succ hi (by omega)]
      simp only [B_assoc]
      exact r2

theorem chansL {t : Tb} (h : Pr t) : ∀ (k i : Nat) (w : ByteArray), k + i = t.2.2.2.2.2.2.2.2.2.1.len → w.size ≤ 40000000000 + i * 10000000 →
    ∃ r, fixO s5_L9 (((), (w, ((i : Int), ()))), (t, ())) = some (.inl (((), (r, ())), (t, ()))) ∧ fixO s24_L9 (((), (w, (t.2.2.2.2.2.2.2.2.2.1, ((t.2.2.2.2.2.2.2.2.2.1.len : Int), ((i : Int), ()))))), (t, ())) = some (.inl (((), (r, ())), (t, ()))) ∧ r.size ≤ 41000000000
  | 0, i, w, hk, hw => by
    have hpl := h.cl
    refine ⟨w, ?_, ?_, by omega⟩
    · rw [fixO_unfold]
      simp only [s5_L9, q5_L9]
      rw [bif_f (by simp; omega)]
    · rw [fixO_unfold]
      simp only [s24_L9, q24_L9]
      rw [bif_f (by simp; omega)]
  | k + 1, i, w, hk, hw => by
    have hpl := h.cl
    have hi : i < t.2.2.2.2.2.2.2.2.2.1.len := by omega
    obtain ⟨⟨a0, a1⟩, ⟨b0, b1⟩, hn⟩ := h.chans i hi
    have n1 := h.name a0 a1
    have n2 := h.name b0 b1
    obtain ⟨c, ec⟩ : ∃ c, t.2.2.2.2.2.2.2.2.2.1.get i = c := ⟨_, rfl⟩
    rw [ec] at a0 a1 b0 b1 hn n1 n2
    obtain ⟨x, ex⟩ : ∃ x, (t.2.2.2.2.2.2.2.1.get c.2.1.toNat).1 = x := ⟨_, rfl⟩
    obtain ⟨y, ey⟩ : ∃ y, (t.2.2.2.2.2.2.2.1.get c.2.2.1.toNat).1 = y := ⟨_, rfl⟩
    rw [ex] at n1; rw [ey] at n2
    have d2 := dec_size hn
    have hsz : ∀ x : ByteArray, (say x [c.2.2.2.1]).size = x.size + 1 + (dec c.2.2.2.1).size + 1 := fun x => by simp only [say, B_size, sk2, sk10]; omega
    by_cases hc : c.1 = 0
    · obtain ⟨r, r1, r2, r3⟩ := chansL h k (i + 1) (w ++ (((⟨#[99, 104, 97, 110, 32, 115, 97, 109, 112, 108, 101, 32]⟩ : ByteArray) ++ ((x ++ (⟨#[32]⟩ : ByteArray)) ++ y)) ++ (⟨#[10]⟩ : ByteArray))) (by omega) (by simp only [B_size, sk1, sk2, sk3, sk4, sk5, sk6, sk7, sk8, sk9, sk10, sk11, sk12, sk13, sk14]; omega)
      simp only [B_assoc] at r1 r2
      refine ⟨r, ?_, ?_, r3⟩
      · rw [fixO_unfold]
        simp only [s5_L9, q5_L9]
        rw [bif_t (idx_lt hi), bif_t (idx_in hi)]
        simp only [Int.toNat_natCast]
        simp only [ec, ex, ey]
        rw [bif_t (c := c.1 == 0) (by simp [hc])]
        rw [bif_t (bl (by simp only [B_size, sk1, sk2, sk3, sk4, sk5, sk6, sk7, sk8, sk9, sk10, sk11, sk12, sk13, sk14]; omega)), bif_t (in_int a0 a1), bif_t (bl (by simp only [B_size, sk1, sk2, sk3, sk4, sk5, sk6, sk7, sk8, sk9, sk10, sk11, sk12, sk13, sk14]; omega)), bif_t (bl (by simp only [B_size, sk1, sk2, sk3, sk4, sk5, sk6, sk7, sk8, sk9, sk10, sk11, sk12, sk13, sk14]; omega)), bif_t (in_int b0 b1)]
        repeat rw [bif_t (bl (by simp only [B_size, sk1, sk2, sk3, sk4, sk5, sk6, sk7, sk8, sk9, sk10, sk11, sk12, sk13, sk14]; omega))]
        rw [wI_succ hi (by omega)]
        simp only [B_assoc]
        exact r1
      · rw [fixO_unfold]
        simp only [s24_L9, q24_L9]
        rw [bif_t (idx_lt hi), bif_t (idx_in hi)]
        simp only [Int.toNat_natCast]
        simp only [ec, ex, ey]
        rw [bif_t (in_int a0 a1), bif_t (bl (by simp only [B_size, sk1, sk2, sk3, sk4, sk5, sk6, sk7, sk8, sk9, sk10, sk11, sk12, sk13, sk14]; omega)), bif_t (in_int b0 b1), bif_t (bl (by simp only [B_size, sk1, sk2, sk3, sk4, sk5, sk6, sk7, sk8, sk9, sk10, sk11, sk12, sk13, sk14]; omega)), bif_t (c := c.1 == 0) (by simp [hc])]
        repeat rw [bif_t (bl (by simp only [B_size, sk1, sk2, sk3, sk4, sk5, sk6, sk7, sk8, sk9, sk10, sk11, sk12, sk13, sk14]; omega))]
        rw [wI_succ hi (by omega)]
        simp only [B_assoc]
        exact r2
    · have e1 := (says ((((⟨#[99, 104, 97, 110, 32, 113, 117, 101, 117, 101, 32]⟩ : ByteArray) ++ x) ++ (⟨#[32]⟩ : ByteArray)) ++ y) (Ty.zero (.int .i64)) [c.2.2.2.1] (by simp only [B_size, sk1, sk2, sk3, sk4, sk5, sk6, sk7, sk8, sk9, sk10, sk11, sk12, sk13, sk14]; omega) (by simpa using hn) (by simp)).1
      have e2 := (says ((⟨#[99, 104, 97, 110, 32, 113, 117, 101, 117, 101, 32]⟩ : ByteArray) ++ ((x ++ (⟨#[32]⟩ : ByteArray)) ++ y)) (Ty.zero (.int .i64)) [c.2.2.2.1] (by simp only [B_size, sk1, sk2, sk3, sk4, sk5, sk6, sk7, sk8, sk9, sk10, sk11, sk12, sk13, sk14]; omega) (by simpa using hn) (by simp)).2
      obtain ⟨r, r1, r2, r3⟩ := chansL h k (i + 1) (w ++ say ((⟨#[99, 104, 97, 110, 32, 113, 117, 101, 117, 101, 32]⟩ : ByteArray) ++ ((x ++ (⟨#[32]⟩ : ByteArray)) ++ y)) [c.2.2.2.1]) (by omega) (by simp only [hsz, B_size, sk1, sk2, sk3, sk4, sk5, sk6, sk7, sk8, sk9, sk10, sk11, sk12, sk13, sk14]; omega)
      simp only [say, B_assoc] at r1 r2
      refine ⟨r, ?_, ?_, r3⟩
      · rw [fixO_unfold]
        simp only [s5_L9, q5_L9]
        rw [bif_t (idx_lt hi), bif_t (idx_in hi)]
        simp only [Int.toNat_natCast]
        simp only [ec, ex, ey]
        rw [bif_f (c := c.1 == 0) (by simp [hc])]
        rw [bif_t (in_int a0 a1), bif_t (bl (by simp only [B_size, sk1, sk2, sk3, sk4, sk5, sk6, sk7, sk8, sk9, sk10, sk11, sk12, sk13, sk14]; omega)), bif_t (bl (by simp only [B_size, sk1, sk2, sk3, sk4, sk5, sk6, sk7, sk8, sk9, sk10, sk11, sk12, sk13, sk14]; omega)), bif_t (in_int b0 b1), bif_t (bl (by simp only [B_size, sk1, sk2, sk3, sk4, sk5, sk6, sk7, sk8, sk9, sk10, sk11, sk12, sk13, sk14]; omega)), e1]
        simp only [Option.bind_some]
        repeat rw [bif_t (bl (by simp only [hsz, B_size, sk1, sk2, sk3, sk4, sk5, sk6, sk7, sk8, sk9, sk10, sk11, sk12, sk13, sk14]; omega))]
        rw [wI_succ hi (by omega)]
        simp only [say, B_assoc]
        exact r1
      · rw [fixO_unfold]
        simp only [s24_L9, q24_L9]
        rw [bif_t (idx_lt hi), bif_t (idx_in hi)]
        simp only [Int.toNat_natCast]
        simp only [ec, ex, ey]
        rw [bif_t (in_int a0 a1), bif_t (bl (by simp only [B_size, sk1, sk2, sk3, sk4, sk5, sk6, sk7, sk8, sk9, sk10, sk11, sk12, sk13, sk14]; omega)), bif_t (in_int b0 b1), bif_t (bl (by simp only [B_size, sk1, sk2, sk3, sk4, sk5, sk6, sk7, sk8, sk9, sk10, sk11, sk12, sk13, sk14]; omega)), bif_f (c := c.1 == 0) (by simp [hc])]
        rw [bif_t (bl (by simp only [B_size, sk1, sk2, sk3, sk4, sk5, sk6, sk7, sk8, sk9, sk10, sk11, sk12, sk13, sk14]; omega)), e2]
        simp only [Option.bind_some]
        repeat rw [bif_t (bl (by simp only [hsz, B_size, sk1, sk2, sk3, sk4, sk5, sk6, sk7, sk8, sk9, sk10, sk11, sk12, sk13, sk14]; omega))]
        rw [wI_succ hi (by omega)]
        simp only [say, B_assoc]
        exact r2

theorem slotsL {t : Tb} (h : Pr t) : ∀ (k i : Nat) (w : ByteArray), k + i = t.2.2.2.2.2.2.2.2.2.2.1.len → w.size ≤ 50000000000 + i * 10000000 →
    ∃ r, fixO s5_L11 (((), (w, ((i : Int), ()))), (t, ())) = some (.inl ((r, ()), ())) ∧ fixO s24_L11 (((), (w, (t.2.2.2.2.2.2.2.2.2.2.1, ((t.2.2.2.2.2.2.2.2.2.2.1.len : Int), ((i : Int), ()))))), (t, ())) = some (.inl ((r, ()), ()))
  | 0, i, w, hk, hw => by
    have hpl := h.sl
    refine ⟨w, ?_, ?_⟩
    · rw [fixO_unfold]
      simp only [s5_L11, q5_L11]
      rw [bif_f (by simp; omega)]
    · rw [fixO_unfold]
      simp only [s24_L11, q24_L11]
      rw [bif_f (by simp; omega)]
  | k + 1, i, w, hk, hw => by
    have hpl := h.sl
    have hi : i < t.2.2.2.2.2.2.2.2.2.2.1.len := by omega
    obtain ⟨⟨a0, a1⟩, hs, hn⟩ := h.slots i hi
    have n1 := h.name a0 a1
    obtain ⟨c, ec⟩ : ∃ c, t.2.2.2.2.2.2.2.2.2.2.1.get i = c := ⟨_, rfl⟩
    rw [ec] at a0 a1 hs hn n1
    obtain ⟨x, ex⟩ : ∃ x, (t.2.2.2.2.2.2.2.1.get c.1.toNat).1 = x := ⟨_, rfl⟩
    rw [ex] at n1
    have d1 := dec_size hs
    have d2 := dec_size hn
    have hsz : ∀ x : ByteArray, (say x [c.2.1, c.2.2.1]).size = x.size + 1 + (dec c.2.1).size + 1 + (dec c.2.2.1).size + 1 := fun x => by simp only [say, B_size, sk2, sk10]; omega
    obtain ⟨e1, e2⟩ := says ((⟨#[115, 108, 111, 116, 32]⟩ : ByteArray) ++ x) (Ty.zero (.int .i64)) [c.2.1, c.2.2.1] (by simp only [B_size, sk1, sk2, sk3, sk4, sk5, sk6, sk7, sk8, sk9, sk10, sk11, sk12, sk13, sk14]; omega) (by intro n hm; simp at hm; rcases hm with rfl | rfl <;> assumption) (by simp)
    obtain ⟨r, r1, r2⟩ := slotsL h k (i + 1) (w ++ say ((⟨#[115, 108, 111, 116, 32]⟩ : ByteArray) ++ x) [c.2.1, c.2.2.1]) (by omega) (by simp only [hsz, B_size, sk1, sk2, sk3, sk4, sk5, sk6, sk7, sk8, sk9, sk10, sk11, sk12, sk13, sk14]; omega)
    refine ⟨r, ?_, ?_⟩
    · rw [fixO_unfold]
      simp only [s5_L11, q5_L11]
      rw [bif_t (idx_lt hi), bif_t (idx_in hi)]
      simp only [Int.toNat_natCast]
      simp only [ec, ex]
      rw [bif_t (in_int a0 a1), bif_t (bl (by simp only [B_size, sk1, sk2, sk3, sk4, sk5, sk6, sk7, sk8, sk9, sk10, sk11, sk12, sk13, sk14]; omega)), bif_t (idx_in hi), bif_t (idx_in hi), e1]
      simp only [Option.bind_some]
      repeat rw [bif_t (bl (by simp only [hsz, B_size, sk1, sk2, sk3, sk4, sk5, sk6, sk7, sk8, sk9, sk10, sk11, sk12, sk13, sk14]; omega))]
      rw [wI_succ hi (by omega)]
      exact r1
    · rw [fixO_unfold]
      simp only [s24_L11, q24_L11]
      rw [bif_t (idx_lt hi), bif_t (idx_in hi)]
      simp only [Int.toNat_natCast]
      simp only [ec, ex]
      rw [bif_t (in_int a0 a1), bif_t (bl (by simp only [B_size, sk1, sk2, sk3, sk4, sk5, sk6, sk7, sk8, sk9, sk10, sk11, sk12, sk13, sk14]; omega)), e2]
      simp only [Option.bind_some]
      repeat rw [bif_t (bl (by simp only [hsz, B_size, sk1, sk2, sk3, sk4, sk5, sk6, sk7, sk8, sk9, sk10, sk11, sk12, sk13, sk14]; omega))]
      rw [wI_succ hi (by omega)]
      exact r2

theorem Nn_of {n a b : Int} (h1 : a ≤ n) (h2 : n ≤ b) (ha : 0 ≤ a) (hb : b ≤ 1000000) : Nn n := ⟨by omega, by omega⟩

theorem policy_of {p : Int × (Int × Unit)} (h : f90 p = true) : (p.1 = 0 ∨ p.1 = 1 ∨ p.1 = 2) ∧ Nn p.2.1 := by
  unfold f90 at h
  by_cases h1 : p.1 = 1
  · rw [bif_t (by simp [h1])] at h
    have := (f36_iff p.2.1 0 100).mp h
    exact ⟨.inr (.inl h1), Nn_of this.1 this.2 (by omega) (by omega)⟩
  · rw [bif_f (by simp [h1])] at h
    by_cases h0 : p.1 = 0
    · rw [bif_t (by simp [h0])] at h
      have : p.2.1 = 0 := by simpa using h
      exact ⟨.inl h0, by rw [this]; exact ⟨by omega, by omega⟩⟩
    · rw [bif_f (by simp [h0])] at h
      by_cases h2 : p.1 = 2
      · rw [bif_t (by simp [h2])] at h
        have : p.2.1 = 0 := by simpa using h
        exact ⟨.inr (.inr h2), by rw [this]; exact ⟨by omega, by omega⟩⟩
      · rw [bif_f (by simp [h2])] at h
        cases h

theorem shape_nn {s : Int × (Int × (Int × Unit))} (h : f61 s = true) : Nn s.1 ∧ Nn s.2.1 ∧ Nn s.2.2.1 := by
  rw [f61_eq] at h
  simp only [Bool.and_eq_true, Bool.or_eq_true, beq_iff_eq] at h
  obtain ⟨h1, h2, h3⟩ := h
  have := (f36_iff s.2.1 1 4).mp h2
  refine ⟨⟨by omega, by omega⟩, ⟨by omega, by omega⟩, ⟨by omega, by omega⟩⟩

theorem chan_in {c : Ch} (h : f66 c = true) : 0 ≤ c.2.1 ∧ 0 ≤ c.2.2.1 := by
  unfold f66 at h
  cases h1 : f36 c.2.1 0 5 with
  | false => rw [h1] at h; simp at h
  | true =>
    cases h2 : f36 c.2.2.1 0 5 with
    | false => rw [h1, h2] at h; simp at h
    | true => exact ⟨((f36_iff _ _ _).mp h1).1, ((f36_iff _ _ _).mp h2).1⟩

theorem prp_of {p : PR} {mem : Int} (hs : p.1.size ≤ 1048576) (hg : PartG p mem) : PrP p := by
  obtain ⟨_, hpol, ⟨_, w4⟩, hwin, ⟨j, hj, hins⟩, _⟩ := hg
  obtain ⟨hk, hm⟩ := policy_of hpol
  have hw := fun j hj => (f91_iff _).mp (hwin j hj).1
  refine ⟨hs, ?_, hm, w4, fun j hj => ?_, hk⟩
  · obtain ⟨a1, a2, _, _, a5, _⟩ := hw j hj
    have := (f92_iff _ _ (hwin j hj).1).mp hins.1
    exact ⟨by omega, by omega⟩
  · obtain ⟨a1, a2, _, _, a5, a6⟩ := hw j hj
    exact ⟨⟨by omega, by omega⟩, ⟨by omega, by omega⟩, a6.1, a6.2⟩

theorem pr_of {t : Tb} (hb : Bnd t) (hf : Facts t) : Pr t := by
  obtain ⟨hcost, hpad, hgua, hmaj, hsh, hmem, ⟨n1, n6⟩, ⟨hparts, _⟩, dl8, cl8, hdev, hch, ⟨hsl, _⟩, ⟨_, sl16⟩, _⟩ := hf
  have en1 : wI (((tParts t).len : Int) - 1) = ((tParts t).len : Int) - 1 := wI_id (by omega) (by omega)
  refine ⟨n6, fun i hi => ?_, dl8, fun i hi => ?_, cl8, fun i hi => ?_, sl16, fun i hi => ?_⟩
  · exact prp_of (hb.2.2.2.2 i hi).1 (hparts i hi).1
  · have := (f36_iff _ _ _).mp (hdev i hi)
    rw [en1] at this
    exact ⟨this.1, by have := this.2; show ((tDevs t).get i) < ((tParts t).len : Int); omega⟩
  · obtain ⟨c1, c2, c3⟩ := hch i hi
    obtain ⟨c4, c5⟩ := chan_in c1
    refine ⟨⟨c4, c2⟩, ⟨c5, c3⟩, ?_⟩
    rcases chan_of c1 with ⟨_, h⟩ | ⟨_, h⟩
    · show Nn ((tChans t).get i).2.2.2.1
      rw [h]; exact ⟨by omega, by omega⟩
    · exact ⟨by show 0 ≤ ((tChans t).get i).2.2.2.1; omega, by show ((tChans t).get i).2.2.2.1 ≤ _; omega⟩
  · obtain ⟨s1, s2, s3, s4⟩ := hsl i hi
    have := (f36_iff _ _ _).mp s1
    rw [en1] at this
    refine ⟨⟨this.1, by have := this.2; show ((tSlots t).get i).1 < ((tParts t).len : Int); omega⟩, ⟨s3, ?_⟩, ⟨?_, ?_⟩⟩
    · show ((tSlots t).get i).2.1 ≤ _; omega
    · show 0 ≤ ((tSlots t).get i).2.2.1; omega
    · show ((tSlots t).get i).2.2.1 ≤ _; omega

theorem tlb_of {t : Tb} (h : g23 t = some ((true, ()), ())) : Nn t.2.2.1 := by
  cases h1 : f42 t.2.2.1 1 8 with
  | true =>
    have : 1 ≤ t.2.2.1 ∧ t.2.2.1 ≤ 8 := (f36_iff _ _ _).mp (by rw [← h1]; rfl)
    exact ⟨by omega, by omega⟩
  | false =>
    exfalso
    unfold g23 at h
    rw [h1] at h
    cases h2 : f40 t.1 <;> cases h3 : f41 t.2.1 <;> rw [h2, h3] at h <;> cases h

/-- The lines are the same. -/
theorem linesD {t : Tb} (hb : Bnd t) (hf : Facts t) (ht : Nn t.2.2.1) (hs1 : g13 t = some ((true, ()), ())) (hs2 : g23 t = some ((true, ()), ())) : ∃ s, g5 t = some ((s, (true, ())), ()) ∧ g7 t = some ((s, (true, ())), ()) := by
  have hp := pr_of hb hf
  obtain ⟨hcost, hpad, hgua, hmaj, hsh, hmem, _⟩ := hf
  obtain ⟨c1, c2, c3, c4, c5, c6, c7⟩ := costs_of hcost
  obtain ⟨s1, s2, s3⟩ := shape_nn hsh
  have lm : (⟨#[109, 101, 109]⟩ : ByteArray).size = 3 := rfl
  have lc : (⟨#[99, 97, 99, 104, 101]⟩ : ByteArray).size = 5 := rfl
  have lt : (⟨#[116, 108, 98]⟩ : ByteArray).size = 3 := rfl
  have lo : (⟨#[99, 111, 115, 116, 115]⟩ : ByteArray).size = 5 := rfl
  have lp : (⟨#[112, 97, 100]⟩ : ByteArray).size = 3 := rfl
  have lg : (⟨#[103, 117, 97, 114, 100]⟩ : ByteArray).size = 5 := rfl
  have lj : (⟨#[109, 97, 106, 111, 114]⟩ : ByteArray).size = 5 := rfl
  have q1 : ∀ n ∈ [t.1], Nn n := by simp only [List.mem_singleton, forall_eq]; exact ⟨by omega, by omega⟩
  have q2 : ∀ n ∈ [t.2.1.1, t.2.1.2.1, t.2.1.2.2.1], Nn n := by intro n hn; simp at hn; rcases hn with rfl | rfl | rfl <;> assumption
  have q3 : ∀ n ∈ [t.2.2.1], Nn n := by simp only [List.mem_singleton, forall_eq]; exact ht
  have q4 : ∀ n ∈ [t.2.2.2.1.1, t.2.2.2.1.2.1, t.2.2.2.1.2.2.1, t.2.2.2.1.2.2.2.1, t.2.2.2.1.2.2.2.2.1, t.2.2.2.1.2.2.2.2.2.1, t.2.2.2.1.2.2.2.2.2.2.1], Nn n := by
    intro n hn
    simp only [List.mem_cons, List.not_mem_nil, or_false] at hn
    rcases hn with rfl | rfl | rfl | rfl | rfl | rfl | rfl <;> exact ⟨by omega, by omega⟩
  have q5 : ∀ n ∈ [t.2.2.2.2.1], Nn n := by simp only [List.mem_singleton, forall_eq]; exact ⟨by omega, by omega⟩
  have q6 : ∀ n ∈ [t.2.2.2.2.2.1], Nn n := by simp only [List.mem_singleton, forall_eq]; exact ⟨by omega, by omega⟩
  have q7 : ∀ n ∈ [t.2.2.2.2.2.2.1], Nn n := by simp only [List.mem_singleton, forall_eq]; exact ⟨by omega, by omega⟩
  obtain ⟨a1, b1⟩ := says (⟨#[109, 101, 109]⟩ : ByteArray) (Ty.zero (.int .i64)) [t.1] (by omega) q1 (by simp)
  obtain ⟨a2, b2⟩ := says (⟨#[99, 97, 99, 104, 101]⟩ : ByteArray) (Ty.zero (.int .i64)) [t.2.1.1, t.2.1.2.1, t.2.1.2.2.1] (by omega) q2 (by simp)
  obtain ⟨a3, b3⟩ := says (⟨#[116, 108, 98]⟩ : ByteArray) (Ty.zero (.int .i64)) [t.2.2.1] (by omega) q3 (by simp)
  obtain ⟨a4, b4⟩ := says (⟨#[99, 111, 115, 116, 115]⟩ : ByteArray) (Ty.zero (.int .i64)) [t.2.2.2.1.1, t.2.2.2.1.2.1, t.2.2.2.1.2.2.1, t.2.2.2.1.2.2.2.1, t.2.2.2.1.2.2.2.2.1, t.2.2.2.1.2.2.2.2.2.1, t.2.2.2.1.2.2.2.2.2.2.1] (by omega) q4 (by simp)
  obtain ⟨a5, b5⟩ := says (⟨#[112, 97, 100]⟩ : ByteArray) (Ty.zero (.int .i64)) [t.2.2.2.2.1] (by omega) q5 (by simp)
  obtain ⟨a6, b6⟩ := says (⟨#[103, 117, 97, 114, 100]⟩ : ByteArray) (Ty.zero (.int .i64)) [t.2.2.2.2.2.1] (by omega) q6 (by simp)
  obtain ⟨a7, b7⟩ := says (⟨#[109, 97, 106, 111, 114]⟩ : ByteArray) (Ty.zero (.int .i64)) [t.2.2.2.2.2.2.1] (by omega) q7 (by simp)
  have z1 := say_size _ (⟨#[109, 101, 109]⟩ : ByteArray) q1
  have z2 := say_size _ (⟨#[99, 97, 99, 104, 101]⟩ : ByteArray) q2
  have z3 := say_size _ (⟨#[116, 108, 98]⟩ : ByteArray) q3
  have z4 := say_size _ (⟨#[99, 111, 115, 116, 115]⟩ : ByteArray) q4
  have z5 := say_size _ (⟨#[112, 97, 100]⟩ : ByteArray) q5
  have z6 := say_size _ (⟨#[103, 117, 97, 114, 100]⟩ : ByteArray) q6
  have z7 := say_size _ (⟨#[109, 97, 106, 111, 114]⟩ : ByteArray) q7
  simp only [List.length_cons, List.length_nil] at z1 z2 z3 z4 z5 z6 z7
  generalize say (⟨#[109, 101, 109]⟩ : ByteArray) [t.1] = v1 at *
  generalize say (⟨#[99, 97, 99, 104, 101]⟩ : ByteArray) [t.2.1.1, t.2.1.2.1, t.2.1.2.2.1] = v2 at *
  generalize say (⟨#[116, 108, 98]⟩ : ByteArray) [t.2.2.1] = v3 at *
  generalize say (⟨#[99, 111, 115, 116, 115]⟩ : ByteArray) [t.2.2.2.1.1, t.2.2.2.1.2.1, t.2.2.2.1.2.2.1, t.2.2.2.1.2.2.2.1, t.2.2.2.1.2.2.2.2.1, t.2.2.2.1.2.2.2.2.2.1, t.2.2.2.1.2.2.2.2.2.2.1] = v4 at *
  generalize say (⟨#[112, 97, 100]⟩ : ByteArray) [t.2.2.2.2.1] = v5 at *
  generalize say (⟨#[103, 117, 97, 114, 100]⟩ : ByteArray) [t.2.2.2.2.2.1] = v6 at *
  generalize say (⟨#[109, 97, 106, 111, 114]⟩ : ByteArray) [t.2.2.2.2.2.2.1] = v7 at *
  have e0 : ((0 : Nat) : Int) = 0 := rfl
  obtain ⟨r1, x1, y1, l1⟩ := partsL hp t.2.2.2.2.2.2.2.1.len 0 (v1 ++ v2 ++ v3 ++ v4 ++ v5 ++ v6 ++ v7) (Nat.add_zero _) (by simp only [B_size]; omega)
  obtain ⟨r2, x2, y2, l2⟩ := allWinsL hp t.2.2.2.2.2.2.2.1.len 0 r1 (Nat.add_zero _) (by omega)
  obtain ⟨r3, x3, y3, l3⟩ := devsL hp t.2.2.2.2.2.2.2.2.1.len 0 r2 (Nat.add_zero _) (by omega)
  obtain ⟨r4, x4, y4, l4⟩ := chansL hp t.2.2.2.2.2.2.2.2.2.1.len 0 r3 (Nat.add_zero _) (by omega)
  obtain ⟨r5, x5, y5⟩ := slotsL hp t.2.2.2.2.2.2.2.2.2.2.1.len 0 r4 (Nat.add_zero _) (by omega)
  rw [e0] at x1 y1 x2 y2 x3 y3 x4 y4 x5 y5
  refine ⟨r5, ?_, ?_⟩
  · unfold g5
    rw [hs1]
    simp only [Option.bind_some, Bool.not_true, cond_false]
    rw [a1, a2, a3, a4, a5, a6, a7]
    simp only [Option.bind_some]
    rw [bif_t (bl (by omega))]
    repeat rw [bif_t (bl (by simp only [B_size]; omega))]
    rw [x1]
    simp only [Option.bind_some]
    rw [x2]
    simp only [Option.bind_some]
    rw [x3]
    simp only [Option.bind_some]
    rw [x4]
    simp only [Option.bind_some]
    rw [x5]
    rfl
  · unfold g7 g24
    rw [hs2]
    simp only [Option.bind_some, Bool.not_true, cond_false]
    rw [b1, b2, b3, b4, b5, b6, b7]
    simp only [Option.bind_some]
    rw [bif_t (bl (by omega))]
    repeat rw [bif_t (bl (by simp only [B_size]; omega))]
    rw [y1]
    simp only [Option.bind_some]
    rw [y2]
    simp only [Option.bind_some]
    rw [y3]
    simp only [Option.bind_some]
    rw [y4]
    simp only [Option.bind_some]
    rw [y5]
    rfl

theorem mainP (t : Tb) (hb : Bnd t) : ∃ (s : ByteArray) (b : Bool), g5 t = some ((s, (b, ())), ()) ∧ g7 t = some ((s, (b, ())), ()) := by
  obtain ⟨b, h1, h2, h3⟩ := sound_wf t (wf_of_bnd hb)
  cases b with
  | true =>
    obtain ⟨s, e1, e2⟩ := linesD hb (h3 rfl) (tlb_of h2) h1 h2
    exact ⟨s, true, e1, e2⟩
  | false =>
    refine ⟨(⟨#[]⟩ : ByteArray), false, ?_, ?_⟩
    · unfold g5
      rw [h1]; rfl
    · unfold g7
      rw [h2]; rfl

theorem law (t : Tb) (hw : Wf t) : g3 t = some ((true, ()), ()) := by
  unfold g3
  obtain ⟨n, e1, e2⟩ := sz12 t hw
  rw [e1]
  simp only [Option.bind_some]
  rcases e2 with rfl | ⟨n1, hb⟩
  · rw [bif_t (by decide)]
  · rw [bif_f (by simpa using n1)]
    obtain ⟨r, r1, r2⟩ := to14 t hb
    obtain ⟨s, b, m1, m2⟩ := mainP r r2
    rw [r1]
    simp only [Option.bind_some]
    rw [m1]
    simp only [Option.bind_some]
    rw [m2]
    simp only [Option.bind_some]
    rw [bif_f (by rw [strEq_self]; rfl), bif_f (by simp), eq16 r r2]
    rfl

theorem plain : ∀ x, wfIns tysOf x → ∃ z, c3.F x = some ((true, ()), z) := by
  rintro ⟨t, ⟨⟩⟩ ⟨hw, _⟩
  obtain ⟨_, _, _, _, _, _, _, hp, hd, hc, hs, _⟩ := hw
  exact ⟨(), law t ⟨hp.1, hd.1, hc.1, hs.1, fun i hi => ⟨(hp.2 i hi).1, (hp.2 i hi).2.2.2.1.1⟩⟩⟩


end Go.VE.VFnExactPrintConf
