/- Plain arithmetic for the walks: quotients, products that fit, parts of an axis. No program in sight. -/
import Derived.Test.YtdnodlgebpnfoaaGreatRot
namespace Go.Proofs.YtdnodlgebpnfoaaGreat.Sw

theorem fl_abs {n d B : Int} (hd : 0 < d) (h : -B ≤ n ∧ n ≤ B) (hB : 0 ≤ B) : -B ≤ fl n d ∧ fl n d ≤ B := by
  unfold fl
  have h1 : n / d ≤ B := by
    rcases Int.lt_or_le n 0 with hn | hn
    · have := Int.ediv_lt_of_lt_mul hd (show n < 0 * d by omega)
      omega
    · have := Int.ediv_le_self (b := d) hn
      omega
  have h2 : -B ≤ n / d := by
    refine (Int.le_ediv_iff_mul_le hd).2 ?_
    have : B * 1 ≤ B * d := Int.mul_le_mul_of_nonneg_left (by omega) hB
    rw [Int.neg_mul]; omega
  exact ⟨h2, h1⟩
theorem fl_of_nonneg {n d : Int} (hn : 0 ≤ n) : Int.tdiv n d = fl n d := Int.tdiv_eq_ediv_of_nonneg hn
/-- The specification's floor of a number below 0. -/
theorem fl_neg {n d : Int} (hn : n < 0) (hd : 0 < d) : -(Int.tdiv (-n + d - 1) d) = fl n d := by
  rw [Int.tdiv_eq_ediv_of_nonneg (by omega)]
  unfold fl
  have h1 := Int.mul_ediv_add_emod n d
  have h2 := Int.emod_nonneg n (Int.ne_of_gt hd)
  have h3 := Int.emod_lt_of_pos n hd
  -- -n + d - 1 = d * (-(n/d)) + (d - 1 - n%d)
  have h4 : (-n + d - 1) / d = -(n / d) := by
    have e : -n + d - 1 = (d - 1 - n % d) + d * (-(n / d)) := by rw [Int.mul_neg]; omega
    rw [e, Int.add_mul_ediv_left _ _ (Int.ne_of_gt hd), Int.ediv_eq_zero_of_lt (by omega) (by omega)]
    omega
  rw [h4]; omega
/-- The program's floor. -/
theorem fl_rem {n d : Int} (hd : 0 < d) : (if Int.tmod n d < 0 then Int.tdiv n d - 1 else Int.tdiv n d) = fl n d := by
  unfold fl
  have h1 := Int.mul_ediv_add_emod n d
  have h2 := Int.emod_nonneg n (Int.ne_of_gt hd)
  have h3 := Int.emod_lt_of_pos n hd
  have h4 := Int.mul_tdiv_add_tmod n d
  rcases Int.lt_or_le n 0 with hn | hn
  · have h5 : Int.tmod n d = -(Int.tmod (-n) d) := by rw [Int.neg_tmod, Int.neg_neg]
    have h6 : Int.tmod (-n) d = (-n) % d := Int.tmod_eq_emod_of_nonneg (by omega)
    have h7 := Int.emod_nonneg (-n) (Int.ne_of_gt hd)
    have h8 := Int.emod_lt_of_pos (-n) hd
    split
    · rename_i hc
      have e : n = (d + Int.tmod n d) + d * (Int.tdiv n d - 1) := by rw [Int.mul_sub, Int.mul_one]; omega
      have : n / d = Int.tdiv n d - 1 := by
        rw [show n / d = ((d + Int.tmod n d) + d * (Int.tdiv n d - 1)) / d from congrArg (· / d) e, Int.add_mul_ediv_left _ _ (Int.ne_of_gt hd), Int.ediv_eq_zero_of_lt (by omega) (by omega)]
        omega
      omega
    · rename_i hc
      have h0 : Int.tmod n d = 0 := by omega
      have e : n = 0 + d * Int.tdiv n d := by omega
      have : n / d = Int.tdiv n d := by
        rw [show n / d = (0 + d * Int.tdiv n d) / d from congrArg (· / d) e, Int.add_mul_ediv_left _ _ (Int.ne_of_gt hd)]
        simp
      omega
  · have h5 : Int.tmod n d = n % d := Int.tmod_eq_emod_of_nonneg hn
    rw [if_neg (by omega), Int.tdiv_eq_ediv_of_nonneg hn]
theorem m2 {a b : Int} (ha : 0 ≤ a ∧ a ≤ 10000) (hb : 0 ≤ b ∧ b ≤ 10000) : 0 ≤ a * b ∧ a * b ≤ 100000000 := by
  refine ⟨Int.mul_nonneg ha.1 hb.1, ?_⟩
  have := Int.mul_le_mul ha.2 hb.2 hb.1 (by omega)
  omega
theorem m3 {p v : Int} (hp : 0 ≤ p ∧ p ≤ 100000000) (hv : -1000000 ≤ v ∧ v ≤ 1000000) : -100000000000000 ≤ p * v ∧ p * v ≤ 100000000000000 := by
  have h1 := Int.mul_le_mul_of_nonneg_left hv.1 hp.1
  have h2 := Int.mul_le_mul_of_nonneg_left hv.2 hp.1
  omega
/-- A product that fits. -/
theorem mb {a b A B : Int} (ha : -A ≤ a ∧ a ≤ A) (hb : -B ≤ b ∧ b ≤ B) : -(A * B) ≤ a * b ∧ a * b ≤ A * B := by
  have hA : 0 ≤ A := by omega
  have hB : 0 ≤ B := by omega
  rcases Int.le_total 0 a with h | h
  · have h1 := Int.mul_le_mul_of_nonneg_left hb.1 h
    have h2 := Int.mul_le_mul_of_nonneg_left hb.2 h
    have h3 := Int.mul_le_mul_of_nonneg_right ha.2 hB
    rw [Int.mul_neg] at h1
    omega
  · have h1 := Int.mul_le_mul_of_nonpos_left h hb.1
    have h2 := Int.mul_le_mul_of_nonpos_left h hb.2
    have h3 := Int.mul_le_mul_of_nonneg_right ha.1 hB
    rw [Int.mul_neg] at h1
    rw [Int.neg_mul] at h3
    omega

/-! ### which part of an axis -/
def cellGo (l : List Int) (x : Int) : Nat → Nat → Nat
  | 0, i => i
  | n + 1, i => if i + 2 < l.length ∧ ix l (i + 1) ≤ x then cellGo l x n (i + 1) else i
/-- The part that the specification takes. -/
def cellOf (l : List Int) (x : Int) : Nat := cellGo l x l.length 0
theorem cellGo_on {l : List Int} {x : Int} {i : Nat} (h : i + 2 < l.length) (h1 : ix l (i + 1) ≤ x) : cellGo l x (l.length - i) i = cellGo l x (l.length - (i + 1)) (i + 1) := by
  rw [show l.length - i = (l.length - (i + 1)) + 1 by omega]
  simp only [cellGo]
  rw [if_pos ⟨h, h1⟩]
theorem cellGo_off {l : List Int} {x : Int} {i : Nat} (h : ¬ (i + 2 < l.length ∧ ix l (i + 1) ≤ x)) : cellGo l x (l.length - i) i = i := by
  cases hn : l.length - i with
  | zero => rfl
  | succ n => simp only [cellGo]; rw [if_neg h]
theorem cellGo_in {l : List Int} {x : Int} (h1 : x ≤ lastOf l) : ∀ (n i : Nat), n = l.length - i → i + 1 < l.length → ix l i ≤ x → InCell l (cellGo l x n i) x
  | 0, i, hn, hi, _ => by omega
  | n + 1, i, hn, hi, hx => by
    simp only [cellGo]
    by_cases hc : i + 2 < l.length ∧ ix l (i + 1) ≤ x
    · rw [if_pos hc]
      exact cellGo_in h1 n (i + 1) (by omega) (by omega) hc.2
    · rw [if_neg hc]
      refine ⟨hi, hx, ?_⟩
      by_cases h2 : i + 2 < l.length
      · have := fun h => hc ⟨h2, h⟩
        omega
      · unfold lastOf at h1
        rwa [show i + 1 = l.length - 1 by omega]
theorem cellOf_in {l : List Int} {x : Int} (h : 2 ≤ l.length) (h0 : ix l 0 ≤ x) (h1 : x ≤ lastOf l) : InCell l (cellOf l x) x := cellGo_in h1 l.length 0 (by omega) (by omega) h0

/-- What a table's part holds, in small numbers. -/
structure Part4 (t : Tab) (i k : Nat) (x y : Int) : Prop where
  i1 : i + 1 < t.X.length
  k1 : k + 1 < t.Y.length
  a : 0 ≤ ix t.X (i + 1) - x ∧ ix t.X (i + 1) - x ≤ 10000
  b : 0 ≤ x - ix t.X i ∧ x - ix t.X i ≤ 10000
  c : 0 ≤ ix t.Y (k + 1) - y ∧ ix t.Y (k + 1) - y ≤ 10000
  d : 0 ≤ y - ix t.Y k ∧ y - ix t.Y k ≤ 10000
  v : ∀ i' k', i' < t.X.length → k' < t.Y.length → -1000000 ≤ ix (rowOf t.V i') k' ∧ ix (rowOf t.V i') k' ≤ 1000000
  rows : t.V.length = t.X.length
  cols : ∀ i', i' < t.X.length → (rowOf t.V i').length = t.Y.length
  wx : 1 ≤ ix t.X (i + 1) - ix t.X i ∧ ix t.X (i + 1) - ix t.X i ≤ 10000
  wy : 1 ≤ ix t.Y (k + 1) - ix t.Y k ∧ ix t.Y (k + 1) - ix t.Y k ≤ 10000
theorem part4 {t : Tab} (h : tabOk t = true) {i k : Nat} {x y : Int} (hi : InCell t.X i x) (hk : InCell t.Y k y) : Part4 t i k x y := by
  obtain ⟨hX, hY, hV, hR⟩ := tab_axes h
  have h1 := hX.step i hi.1
  have h2 := hY.step k hk.1
  obtain ⟨e1, e2, e3⟩ := hi
  obtain ⟨f1, f2, f3⟩ := hk
  refine ⟨e1, f1, by omega, by omega, by omega, by omega, fun i' k' hi' hk' => tab_within h i' k' hi' hk', hV, fun i' hi' => ?_, h1, h2⟩
  have : rowOf t.V i' = t.V[i']'(by omega) := by simp [rowOf, List.getD_eq_getElem?_getD, show i' < t.V.length by omega]
  rw [this]; exact (hR _ (List.getElem_mem _)).1
theorem num_abs {t : Tab} {i k : Nat} {x y : Int} (h : Part4 t i k x y) : -400000000000000 ≤ num t i k x y ∧ num t i k x y ≤ 400000000000000 := by
  unfold num vat
  have h1 := m3 (m2 h.a h.c) (h.v i k (by have := h.i1; omega) (by have := h.k1; omega))
  have h2 := m3 (m2 h.b h.c) (h.v (i + 1) k h.i1 (by have := h.k1; omega))
  have h3 := m3 (m2 h.a h.d) (h.v i (k + 1) (by have := h.i1; omega) h.k1)
  have h4 := m3 (m2 h.b h.d) (h.v (i + 1) (k + 1) h.i1 h.k1)
  omega
theorem den_abs {t : Tab} {i k : Nat} {x y : Int} (h : Part4 t i k x y) : 1 ≤ den t i k ∧ den t i k ≤ 100000000 := by
  unfold den
  have h1 := m2 ⟨by have := h.wx; omega, h.wx.2⟩ ⟨by have := h.wy; omega, h.wy.2⟩
  have h2 : 0 < (ix t.X (i + 1) - ix t.X i) * (ix t.Y (k + 1) - ix t.Y k) := Int.mul_pos (by have := h.wx; omega) (by have := h.wy; omega)
  omega

/-! ### at the points where one looks -/
theorem cell_bd {t : Tab} (h : tabOk t = true) {x y : Int} (hx : ix t.X 0 ≤ x ∧ x ≤ lastOf t.X) (hy : ix t.Y 0 ≤ y ∧ y ≤ lastOf t.Y) :
    (1 ≤ den t (cellOf t.X x) (cellOf t.Y y) ∧ den t (cellOf t.X x) (cellOf t.Y y) ≤ 100000000) ∧ (-400000000000000 ≤ num t (cellOf t.X x) (cellOf t.Y y) x y ∧ num t (cellOf t.X x) (cellOf t.Y y) x y ≤ 400000000000000) := by
  obtain ⟨hX, hY, _, _⟩ := tab_axes h
  have hp := part4 h (cellOf_in hX.two hx.1 hx.2) (cellOf_in hY.two hy.1 hy.2)
  exact ⟨den_abs hp, num_abs hp⟩
theorem cell_low {t : Tab} (h : tabOk t = true) {x y : Int} (hx : ix t.X 0 ≤ x ∧ x ≤ lastOf t.X) (hy : ix t.Y 0 ≤ y ∧ y ≤ lastOf t.Y) :
    fl (num t (cellOf t.X x) (cellOf t.Y y) x y) (den t (cellOf t.X x) (cellOf t.Y y)) = lowAt t x y ∧ ce (num t (cellOf t.X x) (cellOf t.Y y) x y) (den t (cellOf t.X x) (cellOf t.Y y)) = highAt t x y := by
  obtain ⟨hX, hY, _, _⟩ := tab_axes h
  obtain ⟨h1, h2⟩ := lowAt_cell hX hY (cellOf_in hX.two hx.1 hx.2) (cellOf_in hY.two hy.1 hy.2)
  exact ⟨h1.symm, h2.symm⟩
theorem stops_pos (l : List Int) (lo hi : Int) : 1 ≤ (stops l lo hi).length := by simp [stops]
theorem stops_len {l : List Int} (h : l.length ≤ 12) (lo hi : Int) : (stops l lo hi).length ≤ 14 := by
  unfold stops
  have h1 := List.length_filter_le (fun x => decide (lo < x) && decide (x < hi)) l
  simp only [List.length_cons, List.length_append]
  split <;> simp <;> omega
theorem stops_on {l : List Int} {lo hi : Int} (h : lo ≤ hi) (h0 : ix l 0 ≤ lo) (h1 : hi ≤ lastOf l) {i : Nat} (hi' : i < (stops l lo hi).length) : ix l 0 ≤ ix (stops l lo hi) i ∧ ix (stops l lo hi) i ≤ lastOf l := by
  have hm : ix (stops l lo hi) i ∈ stops l lo hi := mem_ix.2 ⟨i, hi', rfl⟩
  have := (mem_stops h).1 hm
  omega
/-- The least of what has been looked at so far, a the value at the first point. -/
structure Least (t : Tab) (p q : Span) (f : Int → Int → Int) (le : Int → Int → Prop) (i j : Nat) (m : Int) : Prop where
  mem : m ∈ (corners t p.lo p.hi q.lo q.hi).map fun c => f c.1 c.2
  rows : ∀ i' j', i' < i → j' < (stops t.Y q.lo q.hi).length → le m (f (ix (stops t.X p.lo p.hi) i') (ix (stops t.Y q.lo q.hi) j'))
  row : ∀ j', j' < j → le m (f (ix (stops t.X p.lo p.hi) i) (ix (stops t.Y q.lo q.hi) j'))
theorem Least.at_ {t : Tab} {p q : Span} {f : Int → Int → Int} {i j : Nat} (hi : i < (stops t.X p.lo p.hi).length) (hj : j < (stops t.Y q.lo q.hi).length) : f (ix (stops t.X p.lo p.hi) i) (ix (stops t.Y q.lo q.hi) j) ∈ (corners t p.lo p.hi q.lo q.hi).map fun c => f c.1 c.2 :=
  List.mem_map.2 ⟨(_, _), mem_corners.2 ⟨mem_ix.2 ⟨i, hi, rfl⟩, mem_ix.2 ⟨j, hj, rfl⟩⟩, rfl⟩
theorem Least.row0 {t : Tab} {p q : Span} {f : Int → Int → Int} {le : Int → Int → Prop} {i j : Nat} {m : Int} (h : Least t p q f le i j m) (hj : (stops t.Y q.lo q.hi).length ≤ j) : Least t p q f le (i + 1) 0 m := by
  refine ⟨h.mem, fun i' j' hi' hj' => ?_, fun j' hj' => absurd hj' (Nat.not_lt_zero j')⟩
  by_cases e : i' = i
  · subst e; exact h.row j' (by omega)
  · exact h.rows i' j' (by omega) hj'
theorem Least.open_ {t : Tab} {p q : Span} {f : Int → Int → Int} {le : Int → Int → Prop} {i : Nat} {m : Int} (h : Least t p q f le i 0 m) : Least t p q f le i 0 m := h
theorem Least.next {t : Tab} {p q : Span} {f : Int → Int → Int} {le : Int → Int → Prop} {i j : Nat} {m m' : Int} (h : Least t p q f le i j m) (hm : m' ∈ (corners t p.lo p.hi q.lo q.hi).map fun c => f c.1 c.2) (h1 : ∀ x, le m x → le m' x)
    (h2 : le m' (f (ix (stops t.X p.lo p.hi) i) (ix (stops t.Y q.lo q.hi) j))) : Least t p q f le i (j + 1) m' := by
  refine ⟨hm, fun i' j' hi' hj' => h1 _ (h.rows i' j' hi' hj'), fun j' hj' => ?_⟩
  by_cases e : j' = j
  · subst e; exact h2
  · exact h1 _ (h.row j' (by omega))
theorem Least.first {t : Tab} {p q : Span} {f : Int → Int → Int} {le : Int → Int → Prop} : Least t p q f le 0 0 (f (ix (stops t.X p.lo p.hi) 0) (ix (stops t.Y q.lo q.hi) 0)) :=
  ⟨Least.at_ (stops_pos _ _ _) (stops_pos _ _ _), fun i' _ hi' => absurd hi' (Nat.not_lt_zero i'), fun j' hj' => absurd hj' (Nat.not_lt_zero j')⟩
theorem Least.low {t : Tab} {p q : Span} {i j : Nat} {m : Int} (h : Least t p q (lowAt t) (· ≤ ·) i j m) (hi : (stops t.X p.lo p.hi).length ≤ i) : boundLow t p.lo p.hi q.lo q.hi = m := by
  refine minL_eq h.mem fun b hb => ?_
  obtain ⟨c, hc, rfl⟩ := List.mem_map.1 hb
  obtain ⟨h1, h2⟩ := mem_corners.1 hc
  obtain ⟨i', hi', e1⟩ := mem_ix.1 h1
  obtain ⟨j', hj', e2⟩ := mem_ix.1 h2
  rw [← e1, ← e2]
  exact h.rows i' j' (by omega) hj'
theorem Least.high {t : Tab} {p q : Span} {i j : Nat} {m : Int} (h : Least t p q (highAt t) (· ≥ ·) i j m) (hi : (stops t.X p.lo p.hi).length ≤ i) : boundHigh t p.lo p.hi q.lo q.hi = m := by
  refine maxL_eq h.mem fun b hb => ?_
  obtain ⟨c, hc, rfl⟩ := List.mem_map.1 hb
  obtain ⟨h1, h2⟩ := mem_corners.1 hc
  obtain ⟨i', hi', e1⟩ := mem_ix.1 h1
  obtain ⟨j', hj', e2⟩ := mem_ix.1 h2
  rw [← e1, ← e2]
  exact h.rows i' j' (by omega) hj'

/-! ### searching -/
theorem tdiv_abs {n d B : Int} (hd : 0 < d) (h : -B ≤ n ∧ n ≤ B) : -B ≤ Int.tdiv n d ∧ Int.tdiv n d ≤ B := by
  rcases Int.le_total 0 n with hn | hn
  · rw [Int.tdiv_eq_ediv_of_nonneg hn]
    have := Int.ediv_le_self (b := d) hn
    have := Int.ediv_nonneg hn (Int.le_of_lt hd)
    omega
  · have e : Int.tdiv n d = -(Int.tdiv (-n) d) := by rw [Int.neg_tdiv, Int.neg_neg]
    rw [e, Int.tdiv_eq_ediv_of_nonneg (by omega)]
    have := Int.ediv_le_self (a := -n) (b := d) (by omega)
    have := Int.ediv_nonneg (a := -n) (by omega) (Int.le_of_lt hd)
    omega
def Asc (l : List Int) : Prop := ∀ i j, i < j → j < l.length → ix l i < ix l j
/-- How many of a list are below x. -/
def lowB (l : List Int) (x : Int) : Nat := (l.filter fun k => decide (k < x)).length
theorem lowB_of {l : List Int} (h : Asc l) {x : Int} {i : Nat} (hi : i ≤ l.length) (h1 : i = 0 ∨ ix l (i - 1) < x) (h2 : i = l.length ∨ ¬ ix l i < x) : lowB l x = i := by
  have e : ∀ j (hj : j < l.length), l[j] = ix l j := fun j hj => by simp [ix, List.getD_eq_getElem?_getD, hj]
  unfold lowB
  apply filter_prefix
  · exact hi
  · intro j hj hji
    rw [e]
    simp only [decide_eq_true_eq]
    rcases h1 with h1 | h1
    · omega
    · rcases Nat.lt_or_eq_of_le (show j ≤ i - 1 by omega) with hc | hc
      · have := h j (i - 1) hc (by omega); omega
      · rw [hc]; exact h1
  · intro j hj hji
    rw [e]
    simp only [decide_eq_false_iff_not]
    rcases h2 with h2 | h2
    · omega
    · rcases Nat.lt_or_eq_of_le hji with hc | hc
      · have := h i j hc hj; omega
      · rw [← hc]; exact h2
theorem inner_eq (l : List Int) : (l.drop 1).take (l.length - 1 - 1) = l.tail.dropLast := by
  rw [List.dropLast_eq_take, List.length_tail, List.drop_one]
theorem cellAt_lowB (l : List Int) (x : Int) : lowB ((l.drop 1).take (l.length - 1 - 1)) x = cellAt l x := by
  rw [inner_eq]; rfl
theorem inner_asc {l : List Int} (h : Axis l) : Asc ((l.drop 1).take (l.length - 1 - 1)) := by
  intro i j hij hj
  have hl : ((l.drop 1).take (l.length - 1 - 1)).length = l.length - 2 := by simp; omega
  rw [hl] at hj
  have e : ∀ k, k < l.length - 2 → ix ((l.drop 1).take (l.length - 1 - 1)) k = ix l (k + 1) := fun k hk => by
    simp [ix, List.getD_eq_getElem?_getD, show k < l.length - 1 - 1 by omega, show k + 1 < l.length by omega]
  rw [e i (by omega), e j hj]
  exact h.lt (by omega) (by omega)
/-- The first that passes. -/
def idxOf {α : Type} (p : α → Bool) (xs : List α) : Int := if xs.any p then (xs.findIdx p : Int) else -1
theorem idxOf_ge {α : Type} (p : α → Bool) (xs : List α) : decide (idxOf p xs ≥ 0) = xs.any p := by
  unfold idxOf
  cases h : xs.any p <;> simp
theorem idxOf_none {α : Type} {p : α → Bool} {xs : List α} {d : α} (h : ∀ j, j < xs.length → p (xs.getD j d) = false) : idxOf p xs = -1 := by
  unfold idxOf
  rw [any_bad h]; rfl
theorem idxOf_some {α : Type} {p : α → Bool} {xs : List α} {d : α} {i : Nat} (hi : i < xs.length) (h : ∀ j, j < i → p (xs.getD j d) = false) (hp : p (xs.getD i d) = true) : idxOf p xs = (i : Int) := by
  unfold idxOf
  rw [any_good hi hp, if_pos rfl]
  have e : ∀ j (hj : j < xs.length), xs[j] = xs.getD j d := fun j hj => by simp [List.getD_eq_getElem?_getD, hj]
  have : xs.findIdx p = i := by
    rw [List.findIdx_eq hi]
    exact ⟨by rw [e]; exact hp, fun j hj => by rw [e]; rw [h j hj]⟩
  rw [this]

/-! ### comparing fractions -/
def orOf (xs : List Int) : Int := (xs.find? fun x => x != 0).getD 0
theorem orOf_two (a b : Int) : orOf [a, b] = if a = 0 then b else a := by
  unfold orOf
  by_cases h : a = 0
  · subst h
    by_cases hb : b = 0
    · subst hb; rfl
    · simp [hb]
  · simp [h]
theorem fl_rest {n d : Int} (hd : 0 < d) : 0 ≤ n - fl n d * d ∧ n - fl n d * d < d := by
  unfold fl
  have h1 := Int.mul_ediv_add_emod n d
  have h2 := Int.emod_nonneg n (Int.ne_of_gt hd)
  have h3 := Int.emod_lt_of_pos n hd
  rw [Int.mul_comm] at h1
  omega
/-- The program's comparison. -/
def cmpV (p q : Span) : Int := orOf [fl p.lo p.hi - fl q.lo q.hi, (p.lo - fl p.lo p.hi * p.hi) * q.hi - (q.lo - fl q.lo q.hi * q.hi) * p.hi]
theorem cmpV_spec {p q : Span} (hp : 0 < p.hi) (hq : 0 < q.hi) : (cmpV p q < 0 ↔ p.lo * q.hi < q.lo * p.hi) ∧ (cmpV p q > 0 ↔ p.lo * q.hi > q.lo * p.hi) := by
  unfold cmpV
  rw [orOf_two]
  have h1 := fl_rest (n := p.lo) hp
  have h2 := fl_rest (n := q.lo) hq
  generalize fl p.lo p.hi = a at *
  generalize fl q.lo q.hi = b at *
  generalize hr : p.lo - a * p.hi = r at *
  generalize hs : q.lo - b * q.hi = s at *
  have e1 : p.lo * q.hi = a * (p.hi * q.hi) + r * q.hi := by rw [show p.lo = a * p.hi + r by omega]; grind
  have e2 : q.lo * p.hi = b * (p.hi * q.hi) + s * p.hi := by rw [show q.lo = b * q.hi + s by omega]; grind
  have hpq : 0 < p.hi * q.hi := Int.mul_pos hp hq
  have b1 : r * q.hi < p.hi * q.hi := Int.mul_lt_mul_of_pos_right h1.2 hq
  have b2 : s * p.hi < p.hi * q.hi := by rw [Int.mul_comm p.hi]; exact Int.mul_lt_mul_of_pos_right h2.2 hp
  have b3 : 0 ≤ r * q.hi := Int.mul_nonneg h1.1 (by omega)
  have b4 : 0 ≤ s * p.hi := Int.mul_nonneg h2.1 (by omega)
  generalize p.hi * q.hi = D at *
  generalize r * q.hi = R at *
  generalize s * p.hi = S at *
  rw [e1, e2]
  rcases Int.lt_trichotomy a b with h | h | h
  · have : a * D + D ≤ b * D := by
      have := Int.mul_le_mul_of_nonneg_right (show a + 1 ≤ b by omega) (show 0 ≤ D by omega)
      rw [Int.add_mul, Int.one_mul] at this; exact this
    rw [if_neg (by omega)]; omega
  · subst h
    rw [if_pos (by omega)]; omega
  · have : b * D + D ≤ a * D := by
      have := Int.mul_le_mul_of_nonneg_right (show b + 1 ≤ a by omega) (show 0 ≤ D by omega)
      rw [Int.add_mul, Int.one_mul] at this; exact this
    rw [if_neg (by omega)]; omega
theorem mul_rest {a b A B : Int} (ha : 0 ≤ a ∧ a ≤ A) (hb : 0 ≤ b ∧ b ≤ B) : 0 ≤ a * b ∧ a * b ≤ A * B :=
  ⟨Int.mul_nonneg ha.1 hb.1, Int.mul_le_mul ha.2 hb.2 hb.1 (Int.le_trans ha.1 ha.2)⟩
end Go.Proofs.YtdnodlgebpnfoaaGreat.Sw
