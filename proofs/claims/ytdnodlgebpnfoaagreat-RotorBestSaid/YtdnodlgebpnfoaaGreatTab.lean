/- Plain mathematics of tables between whose knots values are bilinear: what the least and the greatest value on a box are. No program in sight. -/
namespace Go.Proofs.YtdnodlgebpnfoaaGreat.Sw

structure Tab where
  X : List Int
  Y : List Int
  V : List (List Int)

def ix (l : List Int) (i : Nat) : Int := l.getD i 0
def rowOf (l : List (List Int)) (i : Nat) : List Int := l.getD i []
def within (n lo hi : Int) : Bool := decide (lo ≤ n) && decide (n ≤ hi)
def axisOk (l : List Int) : Bool :=
  decide (2 ≤ l.length) && decide (l.length ≤ 12) &&
    (List.range l.length).all fun i => within (ix l i) (-1000000) 1000000 && (i == 0 || within (ix l i - ix l (i - 1)) 1 10000)
def tabOk (t : Tab) : Bool :=
  axisOk t.X && axisOk t.Y && decide (t.V.length = t.X.length) &&
    t.V.all fun row => decide (row.length = t.Y.length) && row.all fun n => within n (-1000000) 1000000

/-! ### axes -/
structure Axis (l : List Int) : Prop where
  two : 2 ≤ l.length
  most : l.length ≤ 12
  low : ∀ i, i < l.length → -1000000 ≤ ix l i
  high : ∀ i, i < l.length → ix l i ≤ 1000000
  step : ∀ i, i + 1 < l.length → 1 ≤ ix l (i + 1) - ix l i ∧ ix l (i + 1) - ix l i ≤ 10000

theorem axis_iff (l : List Int) : axisOk l = true ↔ Axis l := by
  unfold axisOk within
  simp only [Bool.and_eq_true, decide_eq_true_eq, List.all_eq_true, List.mem_range, Bool.or_eq_true, beq_iff_eq]
  constructor
  · rintro ⟨⟨h1, h2⟩, h3⟩
    refine ⟨h1, h2, fun i hi => (h3 i hi).1.1, fun i hi => (h3 i hi).1.2, fun i hi => ?_⟩
    have := (h3 (i + 1) hi).2
    simpa using this
  · rintro ⟨h1, h2, h3, h4, h5⟩
    refine ⟨⟨h1, h2⟩, fun i hi => ⟨⟨h3 i hi, h4 i hi⟩, ?_⟩⟩
    rcases i with _ | i
    · exact .inl rfl
    · exact .inr (by simpa using h5 i hi)

def axisGood (l : List Int) (i : Nat) : Bool := within (ix l i) (-1000000) 1000000 && (i == 0 || within (ix l i - ix l (i - 1)) 1 10000)
theorem axisOk_eq (l : List Int) : axisOk l = (within (l.length : Int) 2 12 && (List.range l.length).all (axisGood l)) := by
  unfold axisOk axisGood within
  congr 1
  rw [Bool.eq_iff_iff]; simp; omega
theorem axisOk_len {l : List Int} (h : within (l.length : Int) 2 12 = false) : axisOk l = false := by rw [axisOk_eq, h]; rfl
theorem axisOk_bad {l : List Int} {i : Nat} (hi : i < l.length) (h : axisGood l i = false) : axisOk l = false := by
  rw [axisOk_eq, Bool.and_eq_false_iff]
  refine .inr ?_
  rw [List.all_eq_false]
  exact ⟨i, by simpa using hi, by simp [h]⟩
theorem axisOk_good {l : List Int} (h0 : within (l.length : Int) 2 12 = true) (h : ∀ i, i < l.length → axisGood l i = true) : axisOk l = true := by
  rw [axisOk_eq, h0, Bool.true_and, List.all_eq_true]
  intro i hi
  exact h i (by simpa using hi)
theorem Axis.lt {l : List Int} (h : Axis l) {i j : Nat} (hij : i < j) (hj : j < l.length) : ix l i < ix l j := by
  induction j with
  | zero => omega
  | succ j ih =>
    have := (h.step j hj).1
    rcases Nat.lt_or_eq_of_le (Nat.le_of_lt_succ hij) with h1 | h1
    · have := ih h1 (by omega); omega
    · subst h1; omega
theorem Axis.le {l : List Int} (h : Axis l) {i j : Nat} (hij : i ≤ j) (hj : j < l.length) : ix l i ≤ ix l j := by
  rcases Nat.lt_or_eq_of_le hij with h1 | h1
  · exact Int.le_of_lt (h.lt h1 hj)
  · subst h1; exact Int.le_refl _
theorem mem_ix {l : List Int} {x : Int} : x ∈ l ↔ ∃ i, i < l.length ∧ ix l i = x := by
  rw [List.mem_iff_getElem]
  constructor
  · rintro ⟨i, hi, h⟩; exact ⟨i, hi, by simp [ix, List.getD_eq_getElem?_getD, hi, h]⟩
  · rintro ⟨i, hi, h⟩; exact ⟨i, hi, by simpa [ix, List.getD_eq_getElem?_getD, hi] using h⟩

def lastOf (l : List Int) : Int := ix l (l.length - 1)
/-- A span lies on an axis. -/
def lies (l : List Int) (lo hi : Int) : Bool := decide (ix l 0 ≤ lo) && decide (hi ≤ lastOf l)

def rowGood (t : Tab) (row : List Int) : Bool := decide (row.length = t.Y.length) && row.all fun n => within n (-1000000) 1000000
theorem tabOk_eq (t : Tab) : tabOk t = (axisOk t.X && axisOk t.Y && decide (t.V.length = t.X.length) && t.V.all (rowGood t)) := rfl
theorem getD_mem {α : Type} {l : List α} {i : Nat} {d : α} (h : i < l.length) : l.getD i d ∈ l := by
  simp [List.getD_eq_getElem?_getD, h]
theorem all_bad {α : Type} {l : List α} {p : α → Bool} {i : Nat} {d : α} (h : i < l.length) (hp : p (l.getD i d) = false) : l.all p = false := by
  rw [List.all_eq_false]
  exact ⟨l.getD i d, getD_mem h, by rw [hp]; simp⟩
theorem all_good {α : Type} {l : List α} {p : α → Bool} {d : α} (hp : ∀ i, i < l.length → p (l.getD i d) = true) : l.all p = true := by
  rw [List.all_eq_true]
  intro x hx
  obtain ⟨i, hi, rfl⟩ := List.mem_iff_getElem.1 hx
  have := hp i hi
  simpa [List.getD_eq_getElem?_getD, hi] using this
theorem any_good {α : Type} {l : List α} {p : α → Bool} {i : Nat} {d : α} (h : i < l.length) (hp : p (l.getD i d) = true) : l.any p = true := by
  rw [List.any_eq_true]
  exact ⟨l.getD i d, getD_mem h, hp⟩
theorem any_bad {α : Type} {l : List α} {p : α → Bool} {d : α} (hp : ∀ i, i < l.length → p (l.getD i d) = false) : l.any p = false := by
  rw [List.any_eq_false]
  intro x hx
  obtain ⟨i, hi, rfl⟩ := List.mem_iff_getElem.1 hx
  have := hp i hi
  simpa [List.getD_eq_getElem?_getD, hi] using this
theorem tabOk_row {t : Tab} {i : Nat} (h : i < t.V.length) (hb : rowGood t (rowOf t.V i) = false) : tabOk t = false := by
  rw [tabOk_eq, all_bad (d := []) h hb, Bool.and_false]
/-- Number i of the parts of an axis has x. -/
def InCell (l : List Int) (i : Nat) (x : Int) : Prop := i + 1 < l.length ∧ ix l i ≤ x ∧ x ≤ ix l (i + 1)

theorem cell_ex {l : List Int} (h : Axis l) {x : Int} (h0 : ix l 0 ≤ x) (h1 : x ≤ lastOf l) : ∃ i, InCell l i x := by
  unfold lastOf at h1
  have key : ∀ n, n + 1 < l.length → x ≤ ix l (n + 1) → ∃ i, InCell l i x := by
    intro n
    induction n with
    | zero => intro hn hx; exact ⟨0, hn, h0, hx⟩
    | succ n ih =>
      intro hn hx
      by_cases hc : x ≤ ix l (n + 1)
      · exact ih (by omega) hc
      · exact ⟨n + 1, hn, by omega, hx⟩
  have h2 := h.two
  exact key (l.length - 2) (by omega) (by rwa [show l.length - 2 + 1 = l.length - 1 by omega])

/-! ### values -/
def vat (t : Tab) (i k : Nat) : Int := ix (rowOf t.V i) k
def num (t : Tab) (i k : Nat) (x y : Int) : Int :=
  (ix t.X (i + 1) - x) * (ix t.Y (k + 1) - y) * vat t i k + (x - ix t.X i) * (ix t.Y (k + 1) - y) * vat t (i + 1) k +
    (ix t.X (i + 1) - x) * (y - ix t.Y k) * vat t i (k + 1) + (x - ix t.X i) * (y - ix t.Y k) * vat t (i + 1) (k + 1)
def den (t : Tab) (i k : Nat) : Int := (ix t.X (i + 1) - ix t.X i) * (ix t.Y (k + 1) - ix t.Y k)
def fl (n d : Int) : Int := n / d
def ce (n d : Int) : Int := -(-n / d)

theorem fl_mono {a b d : Int} (hd : 0 < d) (h : a ≤ b) : fl a d ≤ fl b d := Int.ediv_le_ediv hd h
theorem ce_mono {a b d : Int} (hd : 0 < d) (h : a ≤ b) : ce a d ≤ ce b d := by
  unfold ce
  have := Int.ediv_le_ediv hd (show -b ≤ -a by omega)
  omega
theorem fl_le_ce (n : Int) {d : Int} (hd : 0 < d) : fl n d ≤ ce n d := by
  unfold fl ce
  have h1 := Int.ediv_mul_le n (Int.ne_of_gt hd)
  have h2 := Int.ediv_mul_le (-n) (Int.ne_of_gt hd)
  have h3 : (n / d + -n / d) * d ≤ 0 := by rw [Int.add_mul]; omega
  have : n / d + -n / d ≤ 0 := by
    apply Int.not_lt.1
    intro h
    have := Int.mul_pos h hd
    omega
  omega
/-- Equal fractions. -/
theorem fl_eq {a b c d : Int} (hb : 0 < b) (hd : 0 < d) (h : a * d = c * b) : fl a b = fl c d := by
  unfold fl
  have h1 : a / b = (a * d) / (b * d) := (Int.mul_ediv_mul_of_pos_left a b hd).symm
  have h2 : c / d = (c * b) / (d * b) := (Int.mul_ediv_mul_of_pos_left c d hb).symm
  rw [h1, h2, h, Int.mul_comm b d]
theorem ce_eq {a b c d : Int} (hb : 0 < b) (hd : 0 < d) (h : a * d = c * b) : ce a b = ce c d := by
  unfold ce
  have := fl_eq (a := -a) (c := -c) hb hd (by rw [Int.neg_mul, Int.neg_mul, h])
  unfold fl at this
  rw [this]

theorem den_pos {t : Tab} (hX : Axis t.X) (hY : Axis t.Y) {i k : Nat} (hi : i + 1 < t.X.length) (hk : k + 1 < t.Y.length) : 0 < den t i k :=
  Int.mul_pos (by have := hX.step i hi; omega) (by have := hY.step k hk; omega)

/-- Two parts that both have a number: the value there is the same fraction. -/
theorem cell_two {l : List Int} (h : Axis l) {i j : Nat} {x : Int} (hi : InCell l i x) (hj : InCell l j x) (hne : i < j) : j = i + 1 ∧ x = ix l j := by
  obtain ⟨a1, a2, a3⟩ := hi
  obtain ⟨b1, b2, b3⟩ := hj
  have : j = i + 1 := by
    apply Classical.byContradiction
    intro hc
    have := h.lt (show i + 1 < j by omega) (by omega)
    omega
  subst this
  exact ⟨rfl, by omega⟩

theorem same_x {t : Tab} (hX : Axis t.X) {i j k : Nat} {x y : Int} (hi : InCell t.X i x) (hj : InCell t.X j x) : num t i k x y * den t j k = num t j k x y * den t i k := by
  have key : ∀ {i j : Nat}, InCell t.X i x → InCell t.X j x → i < j → num t i k x y * den t j k = num t j k x y * den t i k := by
    intro i j hi hj hlt
    obtain ⟨rfl, hx⟩ := cell_two hX hi hj hlt
    unfold num den
    rw [hx]
    generalize vat t (i + 1) k = v1
    generalize vat t (i + 1) (k + 1) = v2
    generalize vat t i k = v3
    generalize vat t i (k + 1) = v4
    generalize vat t (i + 1 + 1) k = v5
    generalize vat t (i + 1 + 1) (k + 1) = v6
    grind
  rcases Nat.lt_trichotomy i j with h | h | h
  · exact key hi hj h
  · subst h; rfl
  · exact (key hj hi h).symm
theorem same_y {t : Tab} (hY : Axis t.Y) {i j k : Nat} {x y : Int} (hi : InCell t.Y i y) (hj : InCell t.Y j y) : num t k i x y * den t k j = num t k j x y * den t k i := by
  have key : ∀ {i j : Nat}, InCell t.Y i y → InCell t.Y j y → i < j → num t k i x y * den t k j = num t k j x y * den t k i := by
    intro i j hi hj hlt
    obtain ⟨rfl, hx⟩ := cell_two hY hi hj hlt
    unfold num den
    rw [hx]
    generalize vat t k i = v1
    generalize vat t k (i + 1) = v2
    generalize vat t k (i + 1 + 1) = v3
    generalize vat t (k + 1) i = v4
    generalize vat t (k + 1) (i + 1) = v5
    generalize vat t (k + 1) (i + 1 + 1) = v6
    grind
  rcases Nat.lt_trichotomy i j with h | h | h
  · exact key hi hj h
  · subst h; rfl
  · exact (key hj hi h).symm

/-- The value's floor and ceiling do not hang on which part is taken. -/
theorem fl_cell {t : Tab} (hX : Axis t.X) (hY : Axis t.Y) {i j k m : Nat} {x y : Int} (hi : InCell t.X i x) (hj : InCell t.X j x) (hk : InCell t.Y k y) (hm : InCell t.Y m y) :
    fl (num t i k x y) (den t i k) = fl (num t j m x y) (den t j m) ∧ ce (num t i k x y) (den t i k) = ce (num t j m x y) (den t j m) := by
  have p1 := den_pos hX hY hi.1 hk.1
  have p2 := den_pos hX hY hj.1 hk.1
  have p3 := den_pos hX hY hj.1 hm.1
  have e1 := same_x (k := k) (y := y) hX hi hj
  have e2 := same_y (k := j) (x := x) hY hk hm
  exact ⟨(fl_eq p1 p2 e1).trans (fl_eq p2 p3 e2), (ce_eq p1 p2 e1).trans (ce_eq p2 p3 e2)⟩

/-- Which part the program takes: as many inner knots as lie below the number. -/
def cellAt (l : List Int) (x : Int) : Nat := ((l.tail.dropLast).filter fun k => decide (k < x)).length

def lowAt (t : Tab) (x y : Int) : Int := fl (num t (cellAt t.X x) (cellAt t.Y y) x y) (den t (cellAt t.X x) (cellAt t.Y y))
def highAt (t : Tab) (x y : Int) : Int := ce (num t (cellAt t.X x) (cellAt t.Y y) x y) (den t (cellAt t.X x) (cellAt t.Y y))

theorem inner_len (l : List Int) : (l.tail.dropLast).length = l.length - 2 := by simp; omega
theorem inner_get (l : List Int) (i : Nat) (h : i + 2 < l.length) : (l.tail.dropLast)[i]'(by rw [inner_len]; omega) = ix l (i + 1) := by
  rw [List.getElem_dropLast, List.getElem_tail]
  simp [ix, List.getD_eq_getElem?_getD, show i + 1 < l.length by omega]

/-- As many of an ascending list as satisfy a test that holds of a beginning. -/
theorem filter_prefix {l : List Int} (p : Int → Bool) (n : Nat) (hn : n ≤ l.length) (h1 : ∀ i (h : i < l.length), i < n → p l[i] = true) (h2 : ∀ i (h : i < l.length), n ≤ i → p l[i] = false) : (l.filter p).length = n := by
  induction l generalizing n with
  | nil => simp at hn; subst hn; rfl
  | cons a l ih =>
    rcases n with _ | n
    · have : (a :: l).filter p = [] := by
        rw [List.filter_eq_nil_iff]
        intro b hb
        obtain ⟨i, hi, rfl⟩ := List.mem_iff_getElem.1 hb
        simp [h2 i hi (Nat.zero_le _)]
      rw [this]; rfl
    · have ha : p a = true := h1 0 (by simp) (by omega)
      rw [List.filter_cons_of_pos ha, List.length_cons, ih n (by simpa using hn) (fun i h hi => h1 (i + 1) (by simpa using h) (by omega)) (fun i h hi => h2 (i + 1) (by simpa using h) (by omega))]

theorem cellAt_of {l : List Int} (h : Axis l) {x : Int} {i : Nat} (hi : i + 1 < l.length) (h1 : i = 0 ∨ ix l i < x) (h2 : i + 2 = l.length ∨ x ≤ ix l (i + 1)) : cellAt l x = i := by
  unfold cellAt
  apply filter_prefix
  · rw [inner_len]; omega
  · intro j hj hji
    rw [inner_len] at hj
    rw [inner_get l j (by omega)]
    have := h.le (show j + 1 ≤ i by omega) (by omega)
    simp only [decide_eq_true_eq]
    omega
  · intro j hj hji
    rw [inner_len] at hj
    rw [inner_get l j (by omega)]
    have := h.le (show i + 1 ≤ j + 1 by omega) (by omega)
    simp only [decide_eq_false_iff_not]
    omega
theorem cellAt_in {l : List Int} (h : Axis l) {x : Int} (h0 : ix l 0 ≤ x) (h1 : x ≤ lastOf l) : InCell l (cellAt l x) x := by
  have key : ∀ n, n + 1 < l.length → (n = 0 ∨ ix l n < x) → ∃ i, i + 1 < l.length ∧ (i = 0 ∨ ix l i < x) ∧ (i + 2 = l.length ∨ x ≤ ix l (i + 1)) := by
    intro n
    induction hk : l.length - n generalizing n with
    | zero => intro h; omega
    | succ k ih =>
      intro hn hx
      by_cases hc : n + 2 = l.length ∨ x ≤ ix l (n + 1)
      · exact ⟨n, hn, hx, hc⟩
      · exact ih (n + 1) (by omega) (by omega) (.inr (by omega))
  have h2 := h.two
  obtain ⟨i, hi, ha, hb⟩ := key 0 (by omega) (.inl rfl)
  rw [cellAt_of h hi ha hb]
  refine ⟨hi, ?_, ?_⟩
  · rcases ha with rfl | ha
    · exact h0
    · omega
  · rcases hb with hb | hb
    · unfold lastOf at h1
      rwa [show l.length - 1 = i + 1 by omega] at h1
    · exact hb

theorem lowAt_cell {t : Tab} (hX : Axis t.X) (hY : Axis t.Y) {i k : Nat} {x y : Int} (hi : InCell t.X i x) (hk : InCell t.Y k y) : lowAt t x y = fl (num t i k x y) (den t i k) ∧ highAt t x y = ce (num t i k x y) (den t i k) := by
  have on : ∀ {l : List Int} (_ : Axis l) {i : Nat} {x : Int}, InCell l i x → InCell l (cellAt l x) x := by
    intro l h i x hc
    obtain ⟨a, b, c⟩ := hc
    refine cellAt_in h (Int.le_trans (h.le (Nat.zero_le i) (by omega)) b) (Int.le_trans c ?_)
    exact h.le (by omega) (by omega)
  exact fl_cell hX hY (on hX hi) hi (on hY hk) hk

/-! ### between two points of one part -/
theorem affine {A B x a b : Int} (h1 : a ≤ x) (h2 : x ≤ b) : min (A * a + B) (A * b + B) ≤ A * x + B ∧ A * x + B ≤ max (A * a + B) (A * b + B) := by
  rcases Int.le_total 0 A with h | h
  · have := Int.mul_le_mul_of_nonneg_left h1 h
    have := Int.mul_le_mul_of_nonneg_left h2 h
    omega
  · have := Int.mul_le_mul_of_nonpos_left h h1
    have := Int.mul_le_mul_of_nonpos_left h h2
    omega
theorem num_x (t : Tab) (i k : Nat) (y : Int) : ∃ A B, ∀ x, num t i k x y = A * x + B :=
  ⟨(ix t.Y (k + 1) - y) * vat t (i + 1) k - (ix t.Y (k + 1) - y) * vat t i k + (y - ix t.Y k) * vat t (i + 1) (k + 1) - (y - ix t.Y k) * vat t i (k + 1),
   ix t.X (i + 1) * (ix t.Y (k + 1) - y) * vat t i k - ix t.X i * (ix t.Y (k + 1) - y) * vat t (i + 1) k + ix t.X (i + 1) * (y - ix t.Y k) * vat t i (k + 1) - ix t.X i * (y - ix t.Y k) * vat t (i + 1) (k + 1),
   fun x => by unfold num; grind⟩
theorem num_y (t : Tab) (i k : Nat) (x : Int) : ∃ A B, ∀ y, num t i k x y = A * y + B :=
  ⟨(ix t.X (i + 1) - x) * vat t i (k + 1) - (ix t.X (i + 1) - x) * vat t i k + (x - ix t.X i) * vat t (i + 1) (k + 1) - (x - ix t.X i) * vat t (i + 1) k,
   (ix t.X (i + 1) - x) * ix t.Y (k + 1) * vat t i k - (ix t.X (i + 1) - x) * ix t.Y k * vat t i (k + 1) + (x - ix t.X i) * ix t.Y (k + 1) * vat t (i + 1) k - (x - ix t.X i) * ix t.Y k * vat t (i + 1) (k + 1),
   fun x => by unfold num; grind⟩

theorem between_x {t : Tab} (hX : Axis t.X) (hY : Axis t.Y) {i : Nat} {a x b y : Int} {k : Nat} (ha : InCell t.X i a) (hb : InCell t.X i b) (h1 : a ≤ x) (h2 : x ≤ b) (hk : InCell t.Y k y) :
    min (lowAt t a y) (lowAt t b y) ≤ lowAt t x y ∧ highAt t x y ≤ max (highAt t a y) (highAt t b y) := by
  have hx : InCell t.X i x := ⟨ha.1, by have := ha.2.1; omega, by have := hb.2.2; omega⟩
  have hd := den_pos hX hY ha.1 hk.1
  obtain ⟨e1, f1⟩ := lowAt_cell hX hY ha hk
  obtain ⟨e2, f2⟩ := lowAt_cell hX hY hb hk
  obtain ⟨e3, f3⟩ := lowAt_cell hX hY hx hk
  rw [e1, e2, e3, f1, f2, f3]
  obtain ⟨A, B, h⟩ := num_x t i k y
  have haf := affine (A := A) (B := B) h1 h2
  rw [h a, h b, h x]
  constructor
  · rcases Int.le_total (A * a + B) (A * b + B) with hc | hc
    · have := fl_mono hd (show A * a + B ≤ A * x + B by omega); omega
    · have := fl_mono hd (show A * b + B ≤ A * x + B by omega); omega
  · rcases Int.le_total (A * a + B) (A * b + B) with hc | hc
    · have := ce_mono hd (show A * x + B ≤ A * b + B by omega); omega
    · have := ce_mono hd (show A * x + B ≤ A * a + B by omega); omega
theorem between_y {t : Tab} (hX : Axis t.X) (hY : Axis t.Y) {k : Nat} {a y b x : Int} {i : Nat} (ha : InCell t.Y k a) (hb : InCell t.Y k b) (h1 : a ≤ y) (h2 : y ≤ b) (hi : InCell t.X i x) :
    min (lowAt t x a) (lowAt t x b) ≤ lowAt t x y ∧ highAt t x y ≤ max (highAt t x a) (highAt t x b) := by
  have hx : InCell t.Y k y := ⟨ha.1, by have := ha.2.1; omega, by have := hb.2.2; omega⟩
  have hd := den_pos hX hY hi.1 ha.1
  obtain ⟨e1, f1⟩ := lowAt_cell hX hY hi ha
  obtain ⟨e2, f2⟩ := lowAt_cell hX hY hi hb
  obtain ⟨e3, f3⟩ := lowAt_cell hX hY hi hx
  rw [e1, e2, e3, f1, f2, f3]
  obtain ⟨A, B, h⟩ := num_y t i k x
  have haf := affine (A := A) (B := B) h1 h2
  rw [h a, h b, h y]
  constructor
  · rcases Int.le_total (A * a + B) (A * b + B) with hc | hc
    · have := fl_mono hd (show A * a + B ≤ A * y + B by omega); omega
    · have := fl_mono hd (show A * b + B ≤ A * y + B by omega); omega
  · rcases Int.le_total (A * a + B) (A * b + B) with hc | hc
    · have := ce_mono hd (show A * y + B ≤ A * b + B by omega); omega
    · have := ce_mono hd (show A * y + B ≤ A * a + B by omega); omega

/-! ### the corners of a box -/
def stops (l : List Int) (lo hi : Int) : List Int := lo :: ((l.filter fun x => decide (lo < x) && decide (x < hi)) ++ (if lo < hi then [hi] else []))
theorem mem_stops {l : List Int} {lo hi s : Int} (h : lo ≤ hi) : s ∈ stops l lo hi ↔ lo ≤ s ∧ s ≤ hi ∧ (s = lo ∨ s = hi ∨ s ∈ l) := by
  unfold stops
  simp only [List.mem_cons, List.mem_append, List.mem_filter, Bool.and_eq_true, decide_eq_true_eq]
  by_cases hc : lo < hi
  · simp only [hc, if_true, List.mem_singleton]
    constructor
    · rintro (rfl | ⟨h1, h2, h3⟩ | rfl)
      · exact ⟨Int.le_refl _, h, .inl rfl⟩
      · exact ⟨by omega, by omega, .inr (.inr h1)⟩
      · exact ⟨h, Int.le_refl _, .inr (.inl rfl)⟩
    · rintro ⟨h1, h2, rfl | rfl | h3⟩
      · exact .inl rfl
      · exact .inr (.inr rfl)
      · by_cases ha : s = lo
        · exact .inl ha
        · by_cases hb : s = hi
          · exact .inr (.inr hb)
          · exact .inr (.inl ⟨h3, by omega, by omega⟩)
  · simp only [hc, if_false, List.not_mem_nil, or_false]
    constructor
    · rintro (rfl | ⟨h1, h2, h3⟩)
      · exact ⟨Int.le_refl _, h, .inl rfl⟩
      · exact ⟨by omega, by omega, .inr (.inr h1)⟩
    · rintro ⟨h1, h2, _⟩; exact .inl (by omega)

/-- Each number of a span lies between two of its stops, all in one part. -/
theorem stop_pair {l : List Int} (h : Axis l) {lo hi x : Int} (h0 : ix l 0 ≤ lo) (h1 : hi ≤ lastOf l) (ha : lo ≤ x) (hb : x ≤ hi) :
    ∃ i a b, a ∈ stops l lo hi ∧ b ∈ stops l lo hi ∧ InCell l i a ∧ InCell l i b ∧ a ≤ x ∧ x ≤ b := by
  obtain ⟨i, h3, h4, h5⟩ := cell_ex h (x := x) (by omega) (by omega)
  have hle : lo ≤ hi := by omega
  have hst := h.step i h3
  refine ⟨i, max lo (ix l i), min hi (ix l (i + 1)), (mem_stops hle).2 ?_, (mem_stops hle).2 ?_, ⟨h3, by omega, by omega⟩, ⟨h3, by omega, by omega⟩, by omega, by omega⟩
  · refine ⟨by omega, by omega, ?_⟩
    by_cases hc : ix l i ≤ lo
    · exact .inl (by omega)
    · exact .inr (.inr (mem_ix.2 ⟨i, by omega, by omega⟩))
  · refine ⟨by omega, by omega, ?_⟩
    by_cases hc : hi ≤ ix l (i + 1)
    · exact .inr (.inl (by omega))
    · exact .inr (.inr (mem_ix.2 ⟨i + 1, by omega, by omega⟩))

def minL : List Int → Int
  | [] => 0
  | a :: l => l.foldl min a
def maxL : List Int → Int
  | [] => 0
  | a :: l => l.foldl max a
theorem foldl_min (l : List Int) : ∀ a, l.foldl min a ≤ a ∧ (∀ b ∈ l, l.foldl min a ≤ b) ∧ (l.foldl min a = a ∨ l.foldl min a ∈ l) := by
  induction l with
  | nil => intro a; simp
  | cons c l ih =>
    intro a
    obtain ⟨h1, h2, h3⟩ := ih (min a c)
    simp only [List.foldl_cons]
    refine ⟨by omega, ?_, ?_⟩
    · intro b hb
      rcases List.mem_cons.1 hb with rfl | hb
      · omega
      · exact h2 b hb
    · rcases h3 with h3 | h3
      · rcases Int.le_total a c with hc | hc
        · exact .inl (by omega)
        · exact .inr (List.mem_cons.2 (.inl (by omega)))
      · exact .inr (List.mem_cons_of_mem _ h3)
theorem foldl_max (l : List Int) : ∀ a, a ≤ l.foldl max a ∧ (∀ b ∈ l, b ≤ l.foldl max a) ∧ (l.foldl max a = a ∨ l.foldl max a ∈ l) := by
  induction l with
  | nil => intro a; simp
  | cons c l ih =>
    intro a
    obtain ⟨h1, h2, h3⟩ := ih (max a c)
    simp only [List.foldl_cons]
    refine ⟨by omega, ?_, ?_⟩
    · intro b hb
      rcases List.mem_cons.1 hb with rfl | hb
      · omega
      · exact h2 b hb
    · rcases h3 with h3 | h3
      · rcases Int.le_total a c with hc | hc
        · exact .inr (List.mem_cons.2 (.inl (by omega)))
        · exact .inl (by omega)
      · exact .inr (List.mem_cons_of_mem _ h3)
theorem minL_le {l : List Int} {b : Int} (h : b ∈ l) : minL l ≤ b := by
  rcases l with _ | ⟨a, l⟩
  · cases h
  · rcases List.mem_cons.1 h with rfl | h
    · exact (foldl_min l _).1
    · exact (foldl_min l _).2.1 b h
theorem minL_mem {l : List Int} (h : l ≠ []) : minL l ∈ l := by
  rcases l with _ | ⟨a, l⟩
  · exact absurd rfl h
  · rcases (foldl_min l a).2.2 with h | h
    · exact List.mem_cons.2 (.inl h)
    · exact List.mem_cons_of_mem _ h
theorem le_maxL {l : List Int} {b : Int} (h : b ∈ l) : b ≤ maxL l := by
  rcases l with _ | ⟨a, l⟩
  · cases h
  · rcases List.mem_cons.1 h with rfl | h
    · exact (foldl_max l _).1
    · exact (foldl_max l _).2.1 b h
theorem maxL_mem {l : List Int} (h : l ≠ []) : maxL l ∈ l := by
  rcases l with _ | ⟨a, l⟩
  · exact absurd rfl h
  · rcases (foldl_max l a).2.2 with h | h
    · exact List.mem_cons.2 (.inl h)
    · exact List.mem_cons_of_mem _ h
theorem minL_eq {l : List Int} {m : Int} (h1 : m ∈ l) (h2 : ∀ b ∈ l, m ≤ b) : minL l = m := by
  have := minL_le h1
  have := h2 _ (minL_mem (List.ne_nil_of_mem h1))
  omega
theorem maxL_eq {l : List Int} {m : Int} (h1 : m ∈ l) (h2 : ∀ b ∈ l, b ≤ m) : maxL l = m := by
  have := le_maxL h1
  have := h2 _ (maxL_mem (List.ne_nil_of_mem h1))
  omega

/-- The corners, in order. -/
def corners (t : Tab) (xl xh yl yh : Int) : List (Int × Int) := (stops t.X xl xh).flatMap fun x => (stops t.Y yl yh).map fun y => (x, y)
theorem mem_corners {t : Tab} {xl xh yl yh : Int} {p : Int × Int} : p ∈ corners t xl xh yl yh ↔ p.1 ∈ stops t.X xl xh ∧ p.2 ∈ stops t.Y yl yh := by
  unfold corners
  rw [List.mem_flatMap]
  constructor
  · rintro ⟨x, hx, h⟩
    obtain ⟨y, hy, rfl⟩ := List.mem_map.1 h
    exact ⟨hx, hy⟩
  · rintro ⟨hx, hy⟩
    exact ⟨p.1, hx, List.mem_map.2 ⟨p.2, hy, rfl⟩⟩
theorem corners_ne (t : Tab) (xl xh yl yh : Int) : corners t xl xh yl yh ≠ [] := by
  intro h
  have : (xl, yl) ∈ corners t xl xh yl yh := mem_corners.2 ⟨List.mem_cons_self, List.mem_cons_self⟩
  rw [h] at this
  cases this

def boundLow (t : Tab) (xl xh yl yh : Int) : Int := minL ((corners t xl xh yl yh).map fun p => lowAt t p.1 p.2)
def boundHigh (t : Tab) (xl xh yl yh : Int) : Int := maxL ((corners t xl xh yl yh).map fun p => highAt t p.1 p.2)

/-- Two spans lie on a table. -/
structure On (t : Tab) (xl xh yl yh : Int) : Prop where
  x0 : ix t.X 0 ≤ xl
  x1 : xl ≤ xh
  x2 : xh ≤ lastOf t.X
  y0 : ix t.Y 0 ≤ yl
  y1 : yl ≤ yh
  y2 : yh ≤ lastOf t.Y

/-- THE LAW OF THE BOX: each point of it has its value within the bounds. -/
theorem bound_at {t : Tab} (hX : Axis t.X) (hY : Axis t.Y) {xl xh yl yh x y : Int} (h : On t xl xh yl yh) (hx1 : xl ≤ x) (hx2 : x ≤ xh) (hy1 : yl ≤ y) (hy2 : y ≤ yh) :
    boundLow t xl xh yl yh ≤ lowAt t x y ∧ highAt t x y ≤ boundHigh t xl xh yl yh := by
  obtain ⟨i, a, b, ha, hb, ca, cb, h1, h2⟩ := stop_pair hX h.x0 h.x2 hx1 hx2
  obtain ⟨k, c, d, hc, hd, cc, cd, h3, h4⟩ := stop_pair hY h.y0 h.y2 hy1 hy2
  have cy : InCell t.Y k y := ⟨cc.1, by have := cc.2.1; omega, by have := cd.2.2; omega⟩
  obtain ⟨e1, f1⟩ := between_x hX hY ca cb h1 h2 cy
  obtain ⟨e2, f2⟩ := between_y hX hY cc cd h3 h4 ca
  obtain ⟨e3, f3⟩ := between_y hX hY cc cd h3 h4 cb
  have g : ∀ {x y : Int}, x ∈ stops t.X xl xh → y ∈ stops t.Y yl yh → boundLow t xl xh yl yh ≤ lowAt t x y ∧ highAt t x y ≤ boundHigh t xl xh yl yh := by
    intro x y hx hy
    have hm : (x, y) ∈ corners t xl xh yl yh := mem_corners.2 ⟨hx, hy⟩
    exact ⟨minL_le (List.mem_map.2 ⟨_, hm, rfl⟩), le_maxL (List.mem_map.2 ⟨_, hm, rfl⟩)⟩
  have := g ha hc
  have := g ha hd
  have := g hb hc
  have := g hb hd
  omega

/-- Smaller boxes have narrower bounds. -/
theorem bound_sub {t : Tab} (hX : Axis t.X) (hY : Axis t.Y) {xl xh yl yh xl' xh' yl' yh' : Int} (h : On t xl xh yl yh) (hx1 : xl ≤ xl') (hx : xl' ≤ xh') (hx2 : xh' ≤ xh) (hy1 : yl ≤ yl') (hy : yl' ≤ yh') (hy2 : yh' ≤ yh) :
    boundLow t xl xh yl yh ≤ boundLow t xl' xh' yl' yh' ∧ boundHigh t xl' xh' yl' yh' ≤ boundHigh t xl xh yl yh := by
  have key : ∀ p ∈ corners t xl' xh' yl' yh', boundLow t xl xh yl yh ≤ lowAt t p.1 p.2 ∧ highAt t p.1 p.2 ≤ boundHigh t xl xh yl yh := by
    intro p hp
    obtain ⟨h1, h2⟩ := mem_corners.1 hp
    obtain ⟨a1, a2, _⟩ := (mem_stops hx).1 h1
    obtain ⟨b1, b2, _⟩ := (mem_stops hy).1 h2
    exact bound_at hX hY h (by omega) (by omega) (by omega) (by omega)
  have ne : corners t xl' xh' yl' yh' ≠ [] := corners_ne _ _ _ _ _
  constructor
  · obtain ⟨p, hp, e⟩ := List.mem_map.1 (minL_mem (l := (corners t xl' xh' yl' yh').map fun p => lowAt t p.1 p.2) (by simpa using ne))
    have := (key p hp).1
    unfold boundLow at this ⊢
    omega
  · obtain ⟨p, hp, e⟩ := List.mem_map.1 (maxL_mem (l := (corners t xl' xh' yl' yh').map fun p => highAt t p.1 p.2) (by simpa using ne))
    have := (key p hp).2
    unfold boundHigh at this ⊢
    omega
theorem boundLow_le_High {t : Tab} (hX : Axis t.X) (hY : Axis t.Y) {xl xh yl yh : Int} (h : On t xl xh yl yh) : boundLow t xl xh yl yh ≤ boundHigh t xl xh yl yh := by
  have := bound_at hX hY h (Int.le_refl _) h.x1 (Int.le_refl _) h.y1
  have hc := cellAt_in hX (x := xl) h.x0 (by have := h.x1; have := h.x2; omega)
  have hk := cellAt_in hY (x := yl) h.y0 (by have := h.y1; have := h.y2; omega)
  have := fl_le_ce (num t (cellAt t.X xl) (cellAt t.Y yl) xl yl) (den_pos hX hY hc.1 hk.1)
  unfold lowAt highAt at *
  omega

/-! ### how great values are -/
def Within (t : Tab) (lo hi : Int) : Prop := ∀ i k, i < t.X.length → k < t.Y.length → lo ≤ vat t i k ∧ vat t i k ≤ hi
theorem num_within {t : Tab} {lo hi : Int} (hv : Within t lo hi) {i k : Nat} {x y : Int} (hi' : InCell t.X i x) (hk : InCell t.Y k y) : lo * den t i k ≤ num t i k x y ∧ num t i k x y ≤ hi * den t i k := by
  obtain ⟨a1, a2, a3⟩ := hi'
  obtain ⟨b1, b2, b3⟩ := hk
  have v1 := hv i k (by omega) (by omega)
  have v2 := hv (i + 1) k (by omega) (by omega)
  have v3 := hv i (k + 1) (by omega) (by omega)
  have v4 := hv (i + 1) (k + 1) (by omega) (by omega)
  unfold num den
  generalize ix t.X (i + 1) = p at *
  generalize ix t.X i = q at *
  generalize ix t.Y (k + 1) = r at *
  generalize ix t.Y k = s at *
  have w1 : 0 ≤ (p - x) * (r - y) := Int.mul_nonneg (by omega) (by omega)
  have w2 : 0 ≤ (x - q) * (r - y) := Int.mul_nonneg (by omega) (by omega)
  have w3 : 0 ≤ (p - x) * (y - s) := Int.mul_nonneg (by omega) (by omega)
  have w4 : 0 ≤ (x - q) * (y - s) := Int.mul_nonneg (by omega) (by omega)
  have hs : (p - q) * (r - s) = (p - x) * (r - y) + (x - q) * (r - y) + (p - x) * (y - s) + (x - q) * (y - s) := by grind
  rw [hs]
  generalize (p - x) * (r - y) = W1 at *
  generalize (x - q) * (r - y) = W2 at *
  generalize (p - x) * (y - s) = W3 at *
  generalize (x - q) * (y - s) = W4 at *
  have l1 := Int.mul_le_mul_of_nonneg_left v1.1 w1
  have l2 := Int.mul_le_mul_of_nonneg_left v2.1 w2
  have l3 := Int.mul_le_mul_of_nonneg_left v3.1 w3
  have l4 := Int.mul_le_mul_of_nonneg_left v4.1 w4
  have u1 := Int.mul_le_mul_of_nonneg_left v1.2 w1
  have u2 := Int.mul_le_mul_of_nonneg_left v2.2 w2
  have u3 := Int.mul_le_mul_of_nonneg_left v3.2 w3
  have u4 := Int.mul_le_mul_of_nonneg_left v4.2 w4
  constructor <;> grind
theorem at_within {t : Tab} (hX : Axis t.X) (hY : Axis t.Y) {lo hi : Int} (hv : Within t lo hi) {x y : Int} (h0 : ix t.X 0 ≤ x) (h1 : x ≤ lastOf t.X) (h2 : ix t.Y 0 ≤ y) (h3 : y ≤ lastOf t.Y) : lo ≤ lowAt t x y ∧ highAt t x y ≤ hi ∧ lowAt t x y ≤ highAt t x y := by
  have hc := cellAt_in hX h0 h1
  have hk := cellAt_in hY h2 h3
  obtain ⟨n1, n2⟩ := num_within hv hc hk
  have hd := den_pos hX hY hc.1 hk.1
  unfold lowAt highAt
  generalize num t (cellAt t.X x) (cellAt t.Y y) x y = n at *
  generalize den t (cellAt t.X x) (cellAt t.Y y) = d at *
  refine ⟨(Int.le_ediv_iff_mul_le hd).2 n1, ?_, fl_le_ce _ hd⟩
  unfold ce
  have := (Int.le_ediv_iff_mul_le (a := -hi) (b := -n) hd).2 (by rw [Int.neg_mul]; omega)
  omega
theorem bound_within {t : Tab} (hX : Axis t.X) (hY : Axis t.Y) {lo hi : Int} (hv : Within t lo hi) {xl xh yl yh : Int} (h : On t xl xh yl yh) :
    lo ≤ boundLow t xl xh yl yh ∧ boundHigh t xl xh yl yh ≤ hi ∧ boundLow t xl xh yl yh ≤ boundHigh t xl xh yl yh := by
  have key : ∀ p ∈ corners t xl xh yl yh, lo ≤ lowAt t p.1 p.2 ∧ highAt t p.1 p.2 ≤ hi := by
    intro p hp
    obtain ⟨h1, h2⟩ := mem_corners.1 hp
    obtain ⟨a1, a2, _⟩ := (mem_stops h.x1).1 h1
    obtain ⟨b1, b2, _⟩ := (mem_stops h.y1).1 h2
    have := at_within hX hY hv (x := p.1) (y := p.2) (by have := h.x0; omega) (by have := h.x2; omega) (by have := h.y0; omega) (by have := h.y2; omega)
    exact ⟨this.1, this.2.1⟩
  have ne : corners t xl xh yl yh ≠ [] := corners_ne _ _ _ _ _
  refine ⟨?_, ?_, boundLow_le_High hX hY h⟩
  · obtain ⟨p, hp, e⟩ := List.mem_map.1 (minL_mem (l := (corners t xl xh yl yh).map fun p => lowAt t p.1 p.2) (by simpa using ne))
    have := (key p hp).1
    unfold boundLow
    omega
  · obtain ⟨p, hp, e⟩ := List.mem_map.1 (maxL_mem (l := (corners t xl xh yl yh).map fun p => highAt t p.1 p.2) (by simpa using ne))
    have := (key p hp).2
    unfold boundHigh
    omega
end Go.Proofs.YtdnodlgebpnfoaaGreat.Sw
