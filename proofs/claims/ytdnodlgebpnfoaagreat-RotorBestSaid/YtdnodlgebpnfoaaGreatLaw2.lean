/- Plain mathematics of chapter 2: what the rotor's functions answer, and why. No program in sight. -/
import Derived.Test.YtdnodlgebpnfoaaGreatArith
namespace Go.Proofs.YtdnodlgebpnfoaaGreat.Sw

def errC (r : Rot) (a : Air) (b : Bool) : Int := if rotOk r then (if airOk a then (if b then 0 else 1) else 21) else 20
theorem errC_ok {r : Rot} {a : Air} {b : Bool} (h : errC r a b = 0) : rotOk r = true ∧ airOk a = true ∧ b = true := by
  unfold errC at h
  cases h1 : rotOk r <;> cases h2 : airOk a <;> cases b <;> simp [h1, h2] at h ⊢
theorem errC_of {r : Rot} {a : Air} {b : Bool} (h1 : rotOk r = true) (h2 : airOk a = true) (h3 : b = true) : errC r a b = 0 := by
  unfold errC; simp [h1, h2, h3]
theorem errC_and {r : Rot} {a : Air} {b c : Bool} (h : errC r a b = 0) : errC r a (b && c) = errC r a c := by
  obtain ⟨h1, h2, rfl⟩ := errC_ok h
  simp
theorem errC_andN {r : Rot} {a : Air} {b c : Bool} (h : errC r a b ≠ 0) : errC r a (b && c) = errC r a b := by
  unfold errC at *
  cases h1 : rotOk r <;> cases h2 : airOk a <;> cases b <;> simp [h1, h2] at h ⊢
theorem airOk_iff (a : Air) : airOk a = true ↔ a.weight.ok = true ∧ a.temp.ok = true ∧ a.height.ok = true ∧ a.wind.ok = true := by
  simp [airOk, and_assoc]
/-- What holds of a rotor that is one. -/
structure RotP (r : Rot) : Prop where
  hover : tabOk r.hover = true ∧ Within r.hover 0 100000
  ground : tabOk r.ground = true ∧ Within r.ground 0 100
  level : tabOk r.level = true ∧ Within r.level 0 100000
  power : tabOk r.power = true ∧ Within r.power 0 100000
  never : tabOk r.never = true ∧ Within r.never 0 10000
  low : tabOk r.low = true ∧ Within r.low 0 10000
  high : tabOk r.high = true ∧ Within r.high 0 10000
  glide : tabOk r.glide = true ∧ Within r.glide 1 10000
  sameX : r.low.X = r.high.X
  sameY : r.low.Y = r.high.Y
  climb : 1 ≤ r.climb ∧ r.climb ≤ 1000
  burn : 1 ≤ r.burn ∧ r.burn ≤ 1000
theorem rot_p {r : Rot} (h : rotOk r = true) : RotP r := by
  simp only [rotOk, Bool.and_eq_true, decide_eq_true_eq, within] at h
  obtain ⟨⟨⟨⟨⟨⟨⟨⟨h1, h2⟩, h3⟩, h4⟩, h5⟩, h6⟩, h7⟩, h8⟩, ⟨⟨⟨h9, h10⟩, h11⟩, h12⟩, _⟩ := h
  exact ⟨filled_within h1, filled_within h2, filled_within h3, filled_within h4, filled_within h5, filled_within h6, filled_within h7, filled_within h8, h9, h10, h11, h12⟩
/-- A table looked up at spans that lie on it. -/
theorem bnd_in {t : Tab} {lo hi : Int} (ht : tabOk t = true ∧ Within t lo hi) {p q : Span} (hp : p.ok = true) (hq : q.ok = true) (hl : liesT t p q = true) : lo ≤ (bnd t p q).lo ∧ (bnd t p q).hi ≤ hi ∧ (bnd t p q).lo ≤ (bnd t p q).hi := by
  obtain ⟨hX, hY, _, _⟩ := tab_axes ht.1
  exact bound_within hX hY ht.2 (on_of hp hq hl)
def spanIn (p q : Span) : Prop := q.lo ≤ p.lo ∧ p.hi ≤ q.hi
theorem liesT_sub {t : Tab} {p q p' q' : Span} (hl : liesT t p q = true) (h1 : spanIn p' p) (h2 : spanIn q' q) : liesT t p' q' = true := by
  simp only [liesT, lies, Bool.and_eq_true, decide_eq_true_eq] at *
  unfold spanIn at *; omega
theorem bnd_sub {t : Tab} (ht : tabOk t = true) {p q p' q' : Span} (hp : p.ok = true) (hq : q.ok = true) (hp' : p'.ok = true) (hq' : q'.ok = true) (hl : liesT t p q = true) (h1 : spanIn p' p) (h2 : spanIn q' q) : spanIn (bnd t p' q') (bnd t p q) := by
  obtain ⟨hX, hY, _, _⟩ := tab_axes ht
  have a := (Span.ok_iff p').1 hp'; have b := (Span.ok_iff q').1 hq'
  exact bound_sub hX hY (on_of hp hq hl) h1.1 a.2.1 h1.2 h2.1 b.2.1 h2.2
def one (n : Int) : Span := ⟨n, n⟩
theorem one_ok {n : Int} : (one n).ok = true ↔ -1000000 ≤ n ∧ n ≤ 1000000 := by
  rw [Span.ok_iff]; unfold one; simp only; omega

/-! ### hovering -/
def needsOf (r : Rot) (a : Air) (p : Span) : Span :=
  ⟨(bnd r.hover a.weight a.temp).lo * (bnd r.ground p a.wind).lo / 100, ((bnd r.hover a.weight a.temp).hi * (bnd r.ground p a.wind).hi + 99) / 100⟩
def onNeeds (r : Rot) (a : Air) (p : Span) : Bool := p.ok && (liesT r.hover a.weight a.temp && liesT r.ground p a.wind)
def hasOf (r : Rot) (a : Air) : Span := bnd r.power a.temp a.height
def onHas (r : Rot) (a : Air) : Bool := liesT r.power a.temp a.height
def marginOf (r : Rot) (a : Air) (p : Span) : Int := (hasOf r a).lo - (needsOf r a p).hi
def onMargin (r : Rot) (a : Air) (p : Span) : Bool := onNeeds r a p && onHas r a
def upTo_ (a : Air) (w : Int) : Air := { a with weight := ⟨a.weight.lo, w⟩ }
/-- The greatest of so many numbers from lo on that pass, lo - 1 if none does. -/
def topW (P : Int → Bool) (lo : Int) : Nat → Int
  | 0 => lo - 1
  | n + 1 => if P (lo + n) then lo + n else topW P lo n
structure IsTop (P : Int → Bool) (lo hi n : Int) : Prop where
  lo_ : lo - 1 ≤ n
  hi_ : n ≤ hi
  yes : ∀ w, lo ≤ w → w ≤ n → P w = true
  no : ∀ w, n < w → w ≤ hi → P w = false
theorem IsTop.eq {P : Int → Bool} {lo n : Int} : ∀ {k : Nat}, IsTop P lo (lo + k - 1) n → topW P lo k = n := by
  intro k
  induction k with
  | zero => intro h; have := h.lo_; have := h.hi_; simp only [topW]; omega
  | succ k ih =>
    intro h
    simp only [topW]
    by_cases hc : n = lo + k
    · rw [if_pos (h.yes _ (by omega) (by omega))]; exact hc.symm
    · have := h.hi_
      rw [if_neg (by rw [h.no (lo + k) (by omega) (by omega)]; simp)]
      exact ih ⟨h.lo_, by omega, h.yes, fun w h1 h2 => h.no w h1 (by omega)⟩
def heavyOf (r : Rot) (a : Air) (p : Span) (v : Int) : Int := topW (fun w => decide (v ≤ marginOf r (upTo_ a w) p)) a.weight.lo (a.weight.hi - a.weight.lo + 1).toNat
theorem heavy_eq {r : Rot} {a : Air} {p : Span} {v n : Int} (h : IsTop (fun w => decide (v ≤ marginOf r (upTo_ a w) p)) a.weight.lo a.weight.hi n) (ha : a.weight.ok = true) : heavyOf r a p v = n := by
  have := (Span.ok_iff _).1 ha
  refine IsTop.eq ?_
  rw [show a.weight.lo + ((a.weight.hi - a.weight.lo + 1).toNat : Int) - 1 = a.weight.hi by omega]; exact h
def heavyE (r : Rot) (a : Air) (p : Span) (v : Int) : Int := if errC r a (onMargin r a p) = 0 then (if heavyOf r a p v < a.weight.lo then 3 else 0) else errC r a (onMargin r a p)
theorem upTo_ok {a : Air} {w : Int} (ha : airOk a = true) (h1 : a.weight.lo ≤ w) (h2 : w ≤ a.weight.hi) : airOk (upTo_ a w) = true := by
  rw [airOk_iff] at *
  have := (Span.ok_iff _).1 ha.1
  exact ⟨by rw [Span.ok_iff]; simp only [upTo_]; omega, ha.2⟩
theorem onMargin_upTo {r : Rot} {a : Air} {p : Span} {w : Int} (h : onMargin r a p = true) (h2 : w ≤ a.weight.hi) : onMargin r (upTo_ a w) p = true := by
  simp only [onMargin, onNeeds, onHas, Bool.and_eq_true] at *
  refine ⟨⟨h.1.1, liesT_sub h.1.2.1 ⟨Int.le_refl _, ?_⟩ ⟨Int.le_refl _, Int.le_refl _⟩, h.1.2.2⟩, h.2⟩
  exact h2
theorem need_mono {a b c d : Int} (h0 : 0 ≤ a) (h1 : a ≤ b) (h2 : 0 ≤ c) (h3 : c ≤ d) : (a * c) / 100 ≤ (b * d) / 100 ∧ (a * c + 99) / 100 ≤ (b * d + 99) / 100 := by
  have : a * c ≤ b * d := Int.mul_le_mul h1 h3 h2 (by omega)
  omega
/-- What is needed lies within what is said of a wider air. -/
theorem needs_sub {r : Rot} (hr : rotOk r = true) {a b : Air} (ha : airOk a = true) (hb : airOk b = true) {p q : Span} (hp : onNeeds r a p = true) (hq : q.ok = true) (h1 : spanIn b.weight a.weight) (h2 : spanIn b.temp a.temp) (h3 : spanIn b.wind a.wind) (h4 : spanIn q p) : onNeeds r b q = true ∧ spanIn (needsOf r b q) (needsOf r a p) := by
  have hR := rot_p hr
  rw [airOk_iff] at ha hb
  simp only [onNeeds, Bool.and_eq_true] at *
  have l1 := liesT_sub hp.2.1 h1 h2; have l2 := liesT_sub hp.2.2 h4 h3
  refine ⟨⟨hq, l1, l2⟩, ?_⟩
  have s1 := bnd_sub hR.hover.1 ha.1 ha.2.1 hb.1 hb.2.1 hp.2.1 h1 h2
  have s2 := bnd_sub hR.ground.1 hp.1 ha.2.2.2 hq hb.2.2.2 hp.2.2 h4 h3
  have w1 := bnd_in hR.hover ha.1 ha.2.1 hp.2.1; have w2 := bnd_in hR.ground hp.1 ha.2.2.2 hp.2.2
  have v1 := bnd_in hR.hover hb.1 hb.2.1 l1; have v2 := bnd_in hR.ground hq hb.2.2.2 l2
  exact ⟨(need_mono w1.1 s1.1 w2.1 s2.1).1, (need_mono (by omega) s1.2 (by omega) s2.2).2⟩
theorem has_sub {r : Rot} (hr : rotOk r = true) {a b : Air} (ha : airOk a = true) (hb : airOk b = true) (hp : onHas r a = true) (h1 : spanIn b.temp a.temp) (h2 : spanIn b.height a.height) : onHas r b = true ∧ spanIn (hasOf r b) (hasOf r a) := by
  have hR := rot_p hr
  rw [airOk_iff] at ha hb
  exact ⟨liesT_sub hp h1 h2, bnd_sub hR.power.1 ha.2.1 ha.2.2.1 hb.2.1 hb.2.2.1 hp h1 h2⟩
theorem margin_mono {r : Rot} (hr : rotOk r = true) {a : Air} (ha : airOk a = true) {p : Span} (hm : onMargin r a p = true) {w w' : Int} (h0 : a.weight.lo ≤ w) (h1 : w ≤ w') (h2 : w' ≤ a.weight.hi) : marginOf r (upTo_ a w') p ≤ marginOf r (upTo_ a w) p := by
  have hm' := onMargin_upTo (w := w') hm h2
  simp only [onMargin, Bool.and_eq_true] at hm'
  have hpo : p.ok = true := by simp only [onMargin, onNeeds, Bool.and_eq_true] at hm; exact hm.1.1
  have := (needs_sub (b := upTo_ a w) (q := p) hr (upTo_ok (w := w') ha (by omega) h2) (upTo_ok ha h0 (by omega)) hm'.1 hpo ⟨Int.le_refl _, h1⟩ ⟨Int.le_refl _, Int.le_refl _⟩ ⟨Int.le_refl _, Int.le_refl _⟩ ⟨Int.le_refl _, Int.le_refl _⟩).2.2
  unfold marginOf
  have e : hasOf r (upTo_ a w') = hasOf r (upTo_ a w) := rfl
  rw [e]; omega
/-- How great these numbers are. -/
theorem needs_in {r : Rot} (hr : rotOk r = true) {a : Air} (ha : airOk a = true) {p : Span} (hp : onNeeds r a p = true) : (0 ≤ (bnd r.hover a.weight a.temp).lo ∧ (bnd r.hover a.weight a.temp).lo ≤ 100000 ∧ 0 ≤ (bnd r.hover a.weight a.temp).hi ∧ (bnd r.hover a.weight a.temp).hi ≤ 100000) ∧
    (0 ≤ (bnd r.ground p a.wind).lo ∧ (bnd r.ground p a.wind).lo ≤ 100 ∧ 0 ≤ (bnd r.ground p a.wind).hi ∧ (bnd r.ground p a.wind).hi ≤ 100) := by
  have hR := rot_p hr
  rw [airOk_iff] at ha
  simp only [onNeeds, Bool.and_eq_true] at hp
  have w1 := bnd_in hR.hover ha.1 ha.2.1 hp.2.1; have w2 := bnd_in hR.ground hp.1 ha.2.2.2 hp.2.2
  omega
theorem prod_in {a b A B : Int} (h0 : 0 ≤ a) (h1 : a ≤ A) (h2 : 0 ≤ b) (h3 : b ≤ B) : 0 ≤ a * b ∧ a * b ≤ A * B := ⟨Int.mul_nonneg h0 h2, Int.mul_le_mul h1 h3 h2 (by omega)⟩
theorem needsOf_in {r : Rot} (hr : rotOk r = true) {a : Air} (ha : airOk a = true) {p : Span} (hp : onNeeds r a p = true) : 0 ≤ (needsOf r a p).lo ∧ (needsOf r a p).lo ≤ 100000 ∧ 0 ≤ (needsOf r a p).hi ∧ (needsOf r a p).hi ≤ 100000 := by
  have h := needs_in hr ha hp
  have p1 := prod_in h.1.1 h.1.2.1 h.2.1 h.2.2.1
  have p2 := prod_in h.1.2.2.1 h.1.2.2.2 h.2.2.2.1 h.2.2.2.2
  unfold needsOf
  simp only
  omega
theorem hasOf_in {r : Rot} (hr : rotOk r = true) {a : Air} (ha : airOk a = true) (hp : onHas r a = true) : 0 ≤ (hasOf r a).lo ∧ (hasOf r a).lo ≤ 100000 ∧ 0 ≤ (hasOf r a).hi ∧ (hasOf r a).hi ≤ 100000 := by
  have hR := rot_p hr
  rw [airOk_iff] at ha
  have w1 := bnd_in hR.power ha.2.1 ha.2.2.1 hp
  unfold hasOf; omega

/-! ### level flight -/
def levelOf (r : Rot) (a : Air) (v : Span) : Span := bnd r.level v a.weight
def onLevel (r : Rot) (a : Air) (v : Span) : Bool := v.ok && liesT r.level v a.weight
def partOf (p : Span) (n d : Int) : Span := ⟨fl (p.lo * n) d, ce (p.hi * n) d⟩
def partE (p : Span) (n d : Int) : Int := if p.ok then (if within n 0 1000 && within d 1 1000 then (if (partOf p n d).ok then 0 else 2) else 1) else 10
def addE (p q : Span) : Int := if p.ok && q.ok then (if (⟨p.lo + q.lo, p.hi + q.hi⟩ : Span).ok then 0 else 2) else 10
def rateOf (r : Rot) (a : Air) (v : Int) : Int := fl ((hasOf r a).lo - (levelOf r a (one v)).hi) r.climb
def onRate (r : Rot) (a : Air) (v : Int) : Bool := onHas r a && onLevel r a (one v)
theorem levelOf_in {r : Rot} (hr : rotOk r = true) {a : Air} (ha : airOk a = true) {v : Span} (hp : onLevel r a v = true) : 0 ≤ (levelOf r a v).lo ∧ (levelOf r a v).lo ≤ (levelOf r a v).hi ∧ (levelOf r a v).hi ≤ 100000 := by
  have hR := rot_p hr
  rw [airOk_iff] at ha
  simp only [onLevel, Bool.and_eq_true] at hp
  have w1 := bnd_in hR.level hp.1 ha.1 hp.2
  unfold levelOf; omega
theorem levelOf_ok {r : Rot} (hr : rotOk r = true) {a : Air} (ha : airOk a = true) {v : Span} (hp : onLevel r a v = true) : (levelOf r a v).ok = true := by
  rw [Span.ok_iff]; have := levelOf_in hr ha hp; omega
theorem flow_ok {p : Span} (h : 0 ≤ p.lo ∧ p.lo ≤ p.hi ∧ p.hi ≤ 100000) {n : Int} (hn : 1 ≤ n ∧ n ≤ 1000) : partE p n 1000 = 0 := by
  have p1 := prod_in h.1 (show p.lo ≤ 100000 by omega) (show 0 ≤ n by omega) hn.2
  have p2 := prod_in (show 0 ≤ p.hi by omega) h.2.2 (show 0 ≤ n by omega) hn.2
  have p3 : p.lo * n ≤ p.hi * n := Int.mul_le_mul_of_nonneg_right h.2.1 (by omega)
  have h1 : p.ok = true := by rw [Span.ok_iff]; omega
  have h2 : (partOf p n 1000).ok = true := by
    rw [Span.ok_iff]; unfold partOf fl ce; simp only; omega
  have h3 : (within n 0 1000 && within 1000 1 1000) = true := by simp [within]; omega
  unfold partE; simp only [h1, h2, h3, if_true]

/-! ### the wake -/
def wakeOf (r : Rot) (a : Air) (v s : Span) : Bool := decide ((bnd r.low v a.weight).lo ≤ s.hi) && decide (s.lo ≤ (bnd r.high v a.weight).hi)
def onRing (r : Rot) (a : Air) (v : Span) : Bool := v.ok && liesT r.low v a.weight
structure Drop where
  speed : Span
  sink : Span
  ticks : Int

/-! ### gliding -/
def onGlide (r : Rot) (a : Air) (v h : Int) : Bool := liesT r.glide (one v) a.weight && (within v 0 1000000 && within h 0 1000000)
def glideBy (r : Rot) (a : Air) (v n : Int) : Span := ⟨n / (bnd r.glide (one v) a.weight).hi, (n + (bnd r.glide (one v) a.weight).lo - 1) / (bnd r.glide (one v) a.weight).lo⟩
theorem glide_in {r : Rot} (hr : rotOk r = true) {a : Air} (ha : airOk a = true) {v : Int} (h1 : (one v).ok = true) (h2 : liesT r.glide (one v) a.weight = true) : 1 ≤ (bnd r.glide (one v) a.weight).lo ∧ (bnd r.glide (one v) a.weight).lo ≤ (bnd r.glide (one v) a.weight).hi ∧ (bnd r.glide (one v) a.weight).hi ≤ 10000 := by
  have hR := rot_p hr
  rw [airOk_iff] at ha
  have w1 := bnd_in hR.glide h1 ha.1 h2
  omega
/-! ### what a call returns -/
theorem one_lies {t : Tab} (ht : tabOk t = true) {q : Span} {v : Int} (h : liesT t (one v) q = true) : (one v).ok = true := by
  obtain ⟨hX, _, _, _⟩ := tab_axes ht
  simp only [liesT, lies, one, Bool.and_eq_true, decide_eq_true_eq] at h
  have h1 := hX.low 0 (by have := hX.two; omega)
  have h2 := hX.high (t.X.length - 1) (by have := hX.two; omega)
  have h3 : ix t.X 0 ≤ v ∧ v ≤ ix t.X (t.X.length - 1) := ⟨of_decide_eq_true h.1.1, of_decide_eq_true h.1.2⟩
  rw [one_ok]; omega
theorem errC_congr {r : Rot} {a : Air} {b c : Bool} (h : rotOk r = true → b = c) : errC r a b = errC r a c := by
  unfold errC
  cases h1 : rotOk r with
  | true => rw [h h1]
  | false => rfl
def onWake (r : Rot) (a : Air) (p q : Span) : Bool := q.ok && onRing r a p
def needsV (r : Rot) (a : Air) (p : Span) : Span := if errC r a (onNeeds r a p) = 0 then needsOf r a p else ⟨0, 0⟩
def hasV (r : Rot) (a : Air) : Span := if errC r a (onHas r a) = 0 then hasOf r a else ⟨0, 0⟩
def levelV (r : Rot) (a : Air) (p : Span) : Span := if errC r a (onLevel r a p) = 0 then levelOf r a p else ⟨0, 0⟩
def flowV (r : Rot) (a : Air) (p : Span) : Span := if errC r a (onLevel r a p) = 0 then partOf (levelOf r a p) r.burn 1000 else ⟨0, 0⟩
def rateV (r : Rot) (a : Air) (v : Int) : Int := if errC r a (onRate r a v) = 0 then rateOf r a v else 0
def wakeV (r : Rot) (a : Air) (p q : Span) : Bool := if errC r a (onWake r a p q) = 0 then wakeOf r a p q else false
theorem ring_same {r : Rot} (h : RotP r) {p q : Span} : liesT r.high p q = liesT r.low p q := by simp only [liesT, h.sameX, h.sameY]
def marginV (r : Rot) (a : Air) (p : Span) : Int := if errC r a (onMargin r a p) = 0 then marginOf r a p else 0
def heavyV (r : Rot) (a : Air) (p : Span) (v : Int) : Int := if heavyE r a p v = 0 then heavyOf r a p v else 0
theorem topW_is {P : Int → Bool} {lo : Int} : ∀ {k : Nat}, (∀ w w', lo ≤ w → w ≤ w' → w' < lo + k → P w' = true → P w = true) → IsTop P lo (lo + k - 1) (topW P lo k)
  | 0, _ => ⟨Int.le_refl _, by simp only [topW]; omega, fun w h1 h2 => by simp only [topW] at h2; omega, fun w h1 h2 => by simp only [topW] at h1; omega⟩
  | k + 1, hm => by
    simp only [topW]
    by_cases hc : P (lo + k) = true
    · rw [if_pos hc]
      exact ⟨by omega, by omega, fun w h1 h2 => hm w (lo + k) h1 h2 (by omega) hc, fun w h1 h2 => by omega⟩
    · rw [if_neg hc]
      have ih := topW_is (P := P) (lo := lo) (k := k) (fun w w' h1 h2 h3 => hm w w' h1 h2 (by omega))
      exact ⟨ih.lo_, by have := ih.hi_; omega, ih.yes, fun w h1 h2 => by
        by_cases e : w = lo + k
        · rw [e]; simpa using hc
        · exact ih.no w h1 (by omega)⟩
theorem heavy_top {r : Rot} {a : Air} {p : Span} {v : Int} (hr : rotOk r = true) (ha : airOk a = true) (hm : onMargin r a p = true) : IsTop (fun w => decide (v ≤ marginOf r (upTo_ a w) p)) a.weight.lo a.weight.hi (heavyOf r a p v) := by
  have hw := (Span.ok_iff _).1 ((airOk_iff a).1 ha).1
  have := topW_is (P := fun w => decide (v ≤ marginOf r (upTo_ a w) p)) (lo := a.weight.lo) (k := (a.weight.hi - a.weight.lo + 1).toNat) (fun w w' h1 h2 h3 h4 => by
    have hmm := margin_mono hr ha hm (w := w) (w' := w') h1 h2 (by omega)
    simp only [decide_eq_true_eq] at h4 ⊢; omega)
  rw [show a.weight.lo + ((a.weight.hi - a.weight.lo + 1).toNat : Int) - 1 = a.weight.hi by omega] at this
  exact this
theorem heavyE_ok {r : Rot} {a : Air} {p : Span} {v : Int} (h : heavyE r a p v = 0) : rotOk r = true ∧ airOk a = true ∧ onMargin r a p = true ∧ a.weight.lo ≤ heavyOf r a p v := by
  unfold heavyE at h
  by_cases h1 : errC r a (onMargin r a p) = 0
  · rw [if_pos h1] at h
    by_cases h2 : heavyOf r a p v < a.weight.lo
    · rw [if_pos h2] at h; cases h
    · obtain ⟨a1, a2, a3⟩ := errC_ok h1
      exact ⟨a1, a2, a3, by omega⟩
  · rw [if_neg h1] at h; exact absurd h h1
/-! ### glides -/
def glideE (r : Rot) (a : Air) (v h : Int) : Int := if errC r a (onGlide r a v h) = 0 then (if (glideBy r a v h).ok && (glideBy r a v (v * h)).ok then 0 else 2) else errC r a (onGlide r a v h)
def glide1V (r : Rot) (a : Air) (v h : Int) : Span := if glideE r a v h = 0 then glideBy r a v h else ⟨0, 0⟩
def glide2V (r : Rot) (a : Air) (v h : Int) : Span := if glideE r a v h = 0 then glideBy r a v (v * h) else ⟨0, 0⟩
theorem glideE_ok {r : Rot} {a : Air} {v h : Int} (h0 : glideE r a v h = 0) : rotOk r = true ∧ airOk a = true ∧ liesT r.glide (one v) a.weight = true ∧ (0 ≤ v ∧ v ≤ 1000000) ∧ (0 ≤ h ∧ h ≤ 1000000) := by
  unfold glideE at h0
  by_cases h1 : errC r a (onGlide r a v h) = 0
  · obtain ⟨a1, a2, a3⟩ := errC_ok h1
    simp only [onGlide, within, Bool.and_eq_true, decide_eq_true_eq] at a3
    exact ⟨a1, a2, a3.1, a3.2.1, a3.2.2⟩
  · rw [if_neg h1] at h0; exact absurd h0 h1
theorem quo_mono {x y d : Int} (hd : 0 < d) (h : x ≤ y) : x / d ≤ y / d := Int.ediv_le_ediv hd h
theorem glideBy_mono {r : Rot} {a : Air} {v x y : Int} (h : 1 ≤ (bnd r.glide (one v) a.weight).lo ∧ 1 ≤ (bnd r.glide (one v) a.weight).hi) (hxy : x ≤ y) : (glideBy r a v x).lo ≤ (glideBy r a v y).lo ∧ (glideBy r a v x).hi ≤ (glideBy r a v y).hi :=
  ⟨quo_mono (by omega) hxy, quo_mono (by omega) (by omega)⟩
theorem glide_mono {r : Rot} {a : Air} {v h k : Int} (h1 : glideE r a v h = 0) (h2 : glideE r a v k = 0) (hk : h ≤ k) :
    ((glide1V r a v h).lo ≤ (glide1V r a v k).lo ∧ (glide1V r a v h).hi ≤ (glide1V r a v k).hi) ∧ ((glide2V r a v h).lo ≤ (glide2V r a v k).lo ∧ (glide2V r a v h).hi ≤ (glide2V r a v k).hi) := by
  obtain ⟨hr, ha, hl, hv, _⟩ := glideE_ok h1
  have hg := glide_in hr ha (one_lies (rot_p hr).glide.1 hl) hl
  simp only [glide1V, glide2V, if_pos h1, if_pos h2]
  exact ⟨glideBy_mono (by omega) hk, glideBy_mono (by omega) (Int.mul_le_mul_of_nonneg_left hk hv.1)⟩
/-! ### parts of a span -/
def wid (p : Span) : Int := p.hi - p.lo + 1
def inW (p : Span) (m : Int) : Int := Int.tmod (Int.tmod m (wid p) + wid p) (wid p)
theorem tmod_in {m d : Int} (h : 0 < d) : -d < Int.tmod m d ∧ Int.tmod m d < d := by
  rcases Int.le_total 0 m with h0 | h0
  · rw [Int.tmod_eq_emod_of_nonneg h0]
    have := Int.emod_nonneg m (Int.ne_of_gt h); have := Int.emod_lt_of_pos m h; omega
  · have e : Int.tmod m d = -(Int.tmod (-m) d) := by rw [Int.neg_tmod, Int.neg_neg]
    rw [e, Int.tmod_eq_emod_of_nonneg (by omega)]
    have := Int.emod_nonneg (-m) (Int.ne_of_gt h); have := Int.emod_lt_of_pos (-m) h; omega
theorem inW_in {p : Span} (h : p.ok = true) (m : Int) : 0 ≤ inW p m ∧ inW p m < wid p := by
  have h1 := (Span.ok_iff p).1 h
  have hw : 0 < wid p := by unfold wid; omega
  have h2 := tmod_in (m := m) hw
  unfold inW
  rw [Int.tmod_eq_emod_of_nonneg (by omega)]
  exact ⟨Int.emod_nonneg _ (Int.ne_of_gt hw), Int.emod_lt_of_pos _ hw⟩
def pickOf (p : Span) (m n : Int) : Span := ⟨p.lo + (if inW p n < inW p m then inW p n else inW p m), p.lo + (if inW p n > inW p m then inW p n else inW p m)⟩
theorem pick_in {p : Span} (h : p.ok = true) (m n : Int) : (pickOf p m n).ok = true ∧ spanIn (pickOf p m n) p ∧ (pickOf p m n).lo ≤ (pickOf p m n).hi := by
  have h1 := (Span.ok_iff p).1 h
  have hm := inW_in h m; have hn := inW_in h n
  unfold wid at hm hn
  unfold spanIn pickOf
  rw [Span.ok_iff]
  simp only
  split <;> split <;> omega
def smallOf (a : Air) (n : Nat → Int) : Air := ⟨pickOf a.weight (n 0) (n 1), pickOf a.temp (n 2) (n 3), pickOf a.height (n 4) (n 5), pickOf a.wind (n 6) (n 7)⟩
theorem small_ok {a : Air} (h : airOk a = true) (n : Nat → Int) : airOk (smallOf a n) = true := by
  rw [airOk_iff] at *
  exact ⟨(pick_in h.1 _ _).1, (pick_in h.2.1 _ _).1, (pick_in h.2.2.1 _ _).1, (pick_in h.2.2.2 _ _).1⟩
theorem level_sub {r : Rot} (hr : rotOk r = true) {a b : Air} (ha : airOk a = true) (hb : airOk b = true) {p q : Span} (hp : onLevel r a p = true) (hq : q.ok = true) (h1 : spanIn b.weight a.weight) (h2 : spanIn q p) : onLevel r b q = true ∧ spanIn (levelOf r b q) (levelOf r a p) := by
  have hR := rot_p hr
  rw [airOk_iff] at ha hb
  simp only [onLevel, Bool.and_eq_true] at *
  exact ⟨⟨hq, liesT_sub hp.2 h2 h1⟩, bnd_sub hR.level.1 hp.1 ha.1 hq hb.1 hp.2 h2 h1⟩
theorem part_sub {p q : Span} {n : Int} (hn : 0 ≤ n) (h : spanIn p q) : spanIn (partOf p n 1000) (partOf q n 1000) := by
  have h1 := Int.mul_le_mul_of_nonneg_right h.1 hn
  have h2 := Int.mul_le_mul_of_nonneg_right h.2 hn
  exact ⟨fl_mono (by decide) h1, ce_mono (by decide) h2⟩
theorem wake_sub {r : Rot} (hr : rotOk r = true) {a b : Air} (ha : airOk a = true) (hb : airOk b = true) {p q s t : Span} (hp : onWake r a p s = true) (hq : q.ok = true) (ht : t.ok = true) (h1 : spanIn b.weight a.weight) (h2 : spanIn q p) (h3 : spanIn t s) : onWake r b q t = true ∧ (wakeOf r b q t = true → wakeOf r a p s = true) := by
  have hR := rot_p hr
  rw [airOk_iff] at ha hb
  simp only [onWake, onRing, Bool.and_eq_true] at *
  refine ⟨⟨ht, hq, liesT_sub hp.2.2 h2 h1⟩, fun hw => ?_⟩
  have s1 := bnd_sub hR.low.1 hp.2.1 ha.1 hq hb.1 hp.2.2 h2 h1
  have s2 := bnd_sub hR.high.1 hp.2.1 ha.1 hq hb.1 (by rw [ring_same hR]; exact hp.2.2) h2 h1
  simp only [wakeOf, Bool.and_eq_true, decide_eq_true_eq] at *
  unfold spanIn at *; omega
/-- The margin at one point. -/
theorem kept {r : Rot} (hr : rotOk r = true) {a : Air} (ha : airOk a = true) {p : Span} (hm : onMargin r a p = true) {we te he wi ab : Int} (h1 : spanIn (one we) a.weight) (h2 : spanIn (one te) a.temp) (h3 : spanIn (one he) a.height) (h4 : spanIn (one wi) a.wind) (h5 : spanIn (one ab) p) :
    (liesT r.power (one te) (one he) = true ∧ liesT r.hover (one we) (one te) = true ∧ liesT r.ground (one ab) (one wi) = true) ∧ highAt r.hover we te * highAt r.ground ab wi + marginOf r a p * 100 ≤ lowAt r.power te he * 100 ∧
    (0 ≤ highAt r.hover we te ∧ highAt r.hover we te ≤ 100000) ∧ (0 ≤ highAt r.ground ab wi ∧ highAt r.ground ab wi ≤ 100) ∧ (0 ≤ lowAt r.power te he ∧ lowAt r.power te he ≤ 100000) ∧ (-100000 ≤ marginOf r a p ∧ marginOf r a p ≤ 100000) := by
  have hR := rot_p hr
  have hA := (airOk_iff a).1 ha
  simp only [onMargin, onNeeds, onHas, Bool.and_eq_true] at hm
  obtain ⟨⟨hpo, hl1, hl2⟩, hl3⟩ := hm
  have l1 := liesT_sub hl1 h1 h2; have l2 := liesT_sub hl2 h5 h4; have l3 := liesT_sub hl3 h2 h3
  refine ⟨⟨l3, l1, l2⟩, ?_⟩
  have ax := tab_axes hR.hover.1; have ay := tab_axes hR.ground.1; have az := tab_axes hR.power.1
  unfold spanIn one at h1 h2 h3 h4 h5
  simp only at h1 h2 h3 h4 h5
  have b1 := bound_at ax.1 ax.2.1 (on_of hA.1 hA.2.1 hl1) h1.1 h1.2 h2.1 h2.2
  have b2 := bound_at ay.1 ay.2.1 (on_of hpo hA.2.2.2 hl2) h5.1 h5.2 h4.1 h4.2
  have b3 := bound_at az.1 az.2.1 (on_of hA.2.1 hA.2.2.1 hl3) h2.1 h2.2 h3.1 h3.2
  have o1 := on_of hA.1 hA.2.1 hl1; have o2 := on_of hpo hA.2.2.2 hl2; have o3 := on_of hA.2.1 hA.2.2.1 hl3
  have c1 := at_within ax.1 ax.2.1 hR.hover.2 (x := we) (y := te) (by have := o1.x0; omega) (by have := o1.x2; omega) (by have := o1.y0; omega) (by have := o1.y2; omega)
  have c2 := at_within ay.1 ay.2.1 hR.ground.2 (x := ab) (y := wi) (by have := o2.x0; omega) (by have := o2.x2; omega) (by have := o2.y0; omega) (by have := o2.y2; omega)
  have c3 := at_within az.1 az.2.1 hR.power.2 (x := te) (y := he) (by have := o3.x0; omega) (by have := o3.x2; omega) (by have := o3.y0; omega) (by have := o3.y2; omega)
  have n1 := needsOf_in hr ha (p := p) (by simp [onNeeds, hpo, hl1, hl2]); have n2 := hasOf_in hr ha hl3
  have d1 : highAt r.hover we te * highAt r.ground ab wi ≤ (bnd r.hover a.weight a.temp).hi * (bnd r.ground p a.wind).hi := by
    refine Int.mul_le_mul b1.2 b2.2 (by omega) ?_
    have := b1.2; unfold bnd; simp only; omega
  have e1 : lowAt r.power te he ≥ (hasOf r a).lo := b3.1
  unfold marginOf
  have e2 : (needsOf r a p).hi = ((bnd r.hover a.weight a.temp).hi * (bnd r.ground p a.wind).hi + 99) / 100 := rfl
  refine ⟨?_, ⟨by omega, by omega⟩, ⟨by omega, by omega⟩, ⟨by omega, by omega⟩, by omega⟩
  rw [e2] at *
  omega
/-! ### a smaller air -/
theorem small_sub {a : Air} (h : airOk a = true) (n : Nat → Int) : spanIn (smallOf a n).weight a.weight ∧ spanIn (smallOf a n).temp a.temp ∧ spanIn (smallOf a n).height a.height ∧ spanIn (smallOf a n).wind a.wind := by
  rw [airOk_iff] at h
  exact ⟨(pick_in h.1 _ _).2.1, (pick_in h.2.1 _ _).2.1, (pick_in h.2.2.1 _ _).2.1, (pick_in h.2.2.2 _ _).2.1⟩
theorem in_dec {p q : Span} (h : spanIn p q) : (decide (q.lo ≤ p.lo) && decide (p.hi ≤ q.hi)) = true := by
  have h1 : q.lo ≤ p.lo := h.1
  have h2 : p.hi ≤ q.hi := h.2
  simp [h1, h2]
theorem less_needs {r : Rot} {A : Air} {p : Span} (hp : p.ok = true) (n : Nat → Int) (m k : Int) (h : errC r A (onNeeds r A p) = 0) : errC r (smallOf A n) (onNeeds r (smallOf A n) (pickOf p m k)) = 0 ∧ spanIn (needsV r (smallOf A n) (pickOf p m k)) (needsV r A p) := by
  obtain ⟨hr, ha, ho⟩ := errC_ok h
  have hb := small_ok ha n
  have hs := small_sub ha n
  have hx := needs_sub hr ha hb ho (pick_in hp m k).1 hs.1 hs.2.1 hs.2.2.2 (pick_in hp m k).2.1
  have e := errC_of hr hb hx.1
  rw [needsV, needsV, if_pos h, if_pos e]
  exact ⟨e, hx.2⟩
theorem less_has {r : Rot} {A : Air} (n : Nat → Int) (h : errC r A (onHas r A) = 0) : errC r (smallOf A n) (onHas r (smallOf A n)) = 0 ∧ spanIn (hasV r (smallOf A n)) (hasV r A) := by
  obtain ⟨hr, ha, ho⟩ := errC_ok h
  have hb := small_ok ha n
  have hs := small_sub ha n
  have hx := has_sub hr ha hb ho hs.2.1 hs.2.2.1
  have e := errC_of hr hb hx.1
  rw [hasV, hasV, if_pos h, if_pos e]
  exact ⟨e, hx.2⟩
theorem less_margin {r : Rot} {A : Air} {p : Span} (hp : p.ok = true) (n : Nat → Int) (m k : Int) (h : errC r A (onMargin r A p) = 0) : errC r (smallOf A n) (onMargin r (smallOf A n) (pickOf p m k)) = 0 ∧ marginV r A p ≤ marginV r (smallOf A n) (pickOf p m k) := by
  obtain ⟨hr, ha, ho⟩ := errC_ok h
  have hb := small_ok ha n
  have hs := small_sub ha n
  have ho2 := ho
  simp only [onMargin, Bool.and_eq_true] at ho2
  have hx := needs_sub hr ha hb ho2.1 (pick_in hp m k).1 hs.1 hs.2.1 hs.2.2.2 (pick_in hp m k).2.1
  have hy := has_sub hr ha hb ho2.2 hs.2.1 hs.2.2.1
  have e := errC_of (b := onMargin r (smallOf A n) (pickOf p m k)) hr hb (by simp only [onMargin, Bool.and_eq_true]; exact ⟨hx.1, hy.1⟩)
  rw [marginV, marginV, if_pos h, if_pos e]
  refine ⟨e, ?_⟩
  have h1 := hx.2; have h2 := hy.2
  unfold spanIn at h1 h2
  unfold marginOf
  omega
theorem less_flow {r : Rot} {A : Air} {p : Span} (hp : p.ok = true) (n : Nat → Int) (m k : Int) (h : errC r A (onLevel r A p) = 0) : errC r (smallOf A n) (onLevel r (smallOf A n) (pickOf p m k)) = 0 ∧ spanIn (flowV r (smallOf A n) (pickOf p m k)) (flowV r A p) := by
  obtain ⟨hr, ha, ho⟩ := errC_ok h
  have hb := small_ok ha n
  have hs := small_sub ha n
  have hx := level_sub hr ha hb ho (pick_in hp m k).1 hs.1 (pick_in hp m k).2.1
  have e := errC_of hr hb hx.1
  rw [flowV, flowV, if_pos h, if_pos e]
  have hb0 := (rot_p hr).burn
  exact ⟨e, part_sub (by omega) hx.2⟩
theorem less_wake {r : Rot} {A : Air} {p q : Span} (hp : p.ok = true) (hq : q.ok = true) (n : Nat → Int) (m k m' k' : Int) (h : errC r A (onWake r A p q) = 0) : errC r (smallOf A n) (onWake r (smallOf A n) (pickOf p m k) (pickOf q m' k')) = 0 ∧ (wakeV r (smallOf A n) (pickOf p m k) (pickOf q m' k') = true → wakeV r A p q = true) := by
  obtain ⟨hr, ha, ho⟩ := errC_ok h
  have hb := small_ok ha n
  have hs := small_sub ha n
  have hx := wake_sub hr ha hb ho (pick_in hp m k).1 (pick_in hq m' k').1 hs.1 (pick_in hp m k).2.1 (pick_in hq m' k').2.1
  have e := errC_of hr hb hx.1
  rw [wakeV, wakeV, if_pos h, if_pos e]
  exact ⟨e, hx.2⟩
/-! ### the example -/
def exRot : Rot := ⟨⟨[1000, 2000], [0, 40], [[400, 500], [900, 1100]]⟩, ⟨[0, 20], [0, 30], [[70, 80], [100, 100]]⟩, ⟨[0, 50, 100], [1000, 2000], [[400, 900], [250, 500], [500, 800]]⟩, ⟨[0, 40], [0, 1000], [[1200, 1000], [1000, 800]]⟩,
  ⟨[1000, 2000], [0, 40], [[120, 110], [100, 90]]⟩, ⟨[0, 30], [1000, 2000], [[5, 6], [12, 14]]⟩, ⟨[0, 30], [1000, 2000], [[15, 18], [12, 14]]⟩, ⟨[30, 90], [1000, 2000], [[20, 24], [16, 20]]⟩, 10, 200⟩
def exAir : Air := ⟨⟨1000, 1500⟩, ⟨0, 20⟩, ⟨0, 0⟩, ⟨0, 30⟩⟩
theorem ex_margin : errC exRot exAir (onMargin exRot exAir ⟨20, 20⟩) = 0 ∧ marginOf exRot exAir ⟨20, 20⟩ = 375 := by decide +kernel
theorem ex_heavy : heavyE exRot exAir ⟨20, 20⟩ 400 = 0 ∧ heavyOf exRot exAir ⟨20, 20⟩ 400 = 1454 := by decide +kernel
end Go.Proofs.YtdnodlgebpnfoaaGreat.Sw
