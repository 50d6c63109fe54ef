/- Plain mathematics of chapter 2: what the rotor's functions answer, and why. No program in sight. -/
import Derived.Test.YtdnodlgebpnfoaaArith
namespace Go.Proofs.Ytdnodlgebpnfoaa.Sw

def errC (r : Rot) (a : Air) (b : Bool) : Int := if rotOk r then (if airOk a then (if b then 0 else 1) else 21) else 20
theorem errC_ok {r : Rot} {a : Air} {b : Bool} (h : errC r a b = 0) : rotOk r = true ∧ airOk a = true ∧ b = true := by
  unfold errC at h
  cases h1 : rotOk r <;> cases h2 : airOk a <;> cases b <;> simp [h1, h2] at h ⊢
theorem errC_of {r : Rot} {a : Air} {b : Bool} (h1 : rotOk r = true) (h2 : airOk a = true) (h3 : b = true) : errC r a b = 0 := by
  unfold errC; simp [h1, h2, h3]
theorem errC_and {r : Rot} {a : Air} {b c : Bool} (h : errC r a b = 0) : errC r a (b && c) = errC r a c := by
  obtain ⟨h1, h2, rfl⟩ := errC_ok h
  simp
theorem errC_andN {r : Rot} {a : Air} {b c : Bool} (h : errC r a b ≠ 0) : errC r a (b && c) = errC r a b := by
  unfold errC at *
  cases h1 : rotOk r <;> cases h2 : airOk a <;> cases b <;> simp [h1, h2] at h ⊢
theorem airOk_iff (a : Air) : airOk a = true ↔ a.weight.ok = true ∧ a.temp.ok = true ∧ a.height.ok = true ∧ a.wind.ok = true := by
  simp [airOk, and_assoc]
/-- What holds of a rotor that is one. -/
structure RotP (r : Rot) : Prop where
  hover : tabOk r.hover = true ∧ Within r.hover 0 100000
  ground : tabOk r.ground = true ∧ Within r.ground 0 100
  level : tabOk r.level = true ∧ Within r.level 0 100000
  power : tabOk r.power = true ∧ Within r.power 0 100000
  never : tabOk r.never = true ∧ Within r.never 0 10000
  low : tabOk r.low = true ∧ Within r.low 0 10000
  high : tabOk r.high = true ∧ Within r.high 0 10000
  glide : tabOk r.glide = true ∧ Within r.glide 1 10000
  sameX : r.low.X = r.high.X
  sameY : r.low.Y = r.high.Y
  climb : 1 ≤ r.climb ∧ r.climb ≤ 1000
  burn : 1 ≤ r.burn ∧ r.burn ≤ 1000
theorem rot_p {r : Rot} (h : rotOk r = true) : RotP r := by
  simp only [rotOk, Bool.and_eq_true, decide_eq_true_eq, within] at h
  obtain ⟨⟨⟨⟨⟨⟨⟨⟨h1, h2⟩, h3⟩, h4⟩, h5⟩, h6⟩, h7⟩, h8⟩, ⟨⟨⟨h9, h10⟩, h11⟩, h12⟩, _⟩ := h
  exact ⟨filled_within h1, filled_within h2, filled_within h3, filled_within h4, filled_within h5, filled_within h6, filled_within h7, filled_within h8, h9, h10, h11, h12⟩
/-- A table looked up at spans that lie on it. -/
theorem bnd_in {t : Tab} {lo hi : Int} (ht : tabOk t = true ∧ Within t lo hi) {p q : Span} (hp : p.ok = true) (hq : q.ok = true) (hl : liesT t p q = true) : lo ≤ (bnd t p q).lo ∧ (bnd t p q).hi ≤ hi ∧ (bnd t p q).lo ≤ (bnd t p q).hi := by
  obtain ⟨hX, hY, _, _⟩ := tab_axes ht.1
  exact bound_within hX hY ht.2 (on_of hp hq hl)
def spanIn (p q : Span) : Prop := q.lo ≤ p.lo ∧ p.hi ≤ q.hi
theorem liesT_sub {t : Tab} {p q p' q' : Span} (hl : liesT t p q = true) (h1 : spanIn p' p) (h2 : spanIn q' q) : liesT t p' q' = true := by
  simp only [liesT, lies, Bool.and_eq_true, decide_eq_true_eq] at *
  unfold spanIn at *; omega
theorem bnd_sub {t : Tab} (ht : tabOk t = true) {p q p' q' : Span} (hp : p.ok = true) (hq : q.ok = true) (hp' : p'.ok = true) (hq' : q'.ok = true) (hl : liesT t p q = true) (h1 : spanIn p' p) (h2 : spanIn q' q) : spanIn (bnd t p' q') (bnd t p q) := by
  obtain ⟨hX, hY, _, _⟩ := tab_axes ht
  have a := (Span.ok_iff p').1 hp'; have b := (Span.ok_iff q').1 hq'
  exact bound_sub hX hY (on_of hp hq hl) h1.1 a.2.1 h1.2 h2.1 b.2.1 h2.2
def one (n : Int) : Span := ⟨n, n⟩
theorem one_ok {n : Int} : (one n).ok = true ↔ -1000000 ≤ n ∧ n ≤ 1000000 := by
  rw [Span.ok_iff]; unfold one; simp only; omega

/-! ### hovering -/
def needsOf (r : Rot) (a : Air) (p : Span) : Span :=
  ⟨(bnd r.hover a.weight a.temp).lo * (bnd r.ground p a.wind).lo / 100, ((bnd r.hover a.weight a.temp).hi * (bnd r.ground p a.wind).hi + 99) / 100⟩
def onNeeds (r : Rot) (a : Air) (p : Span) : Bool := p.ok && (liesT r.hover a.weight a.temp && liesT r.ground p a.wind)
def hasOf (r : Rot) (a : Air) : Span := bnd r.power a.temp a.height
def onHas (r : Rot) (a : Air) : Bool := liesT r.power a.temp a.height
def marginOf (r : Rot) (a : Air) (p : Span) : Int := (hasOf r a).lo - (needsOf r a p).hi
def onMargin (r : Rot) (a : Air) (p : Span) : Bool := onNeeds r a p && onHas r a
def upTo_ (a : Air) (w : Int) : Air := { a with weight := ⟨a.weight.lo, w⟩ }
/-- The greatest of so many numbers from lo on that pass, lo - 1 if none does. -/
def topW (P : Int → Bool) (lo : Int) : Nat → Int
  | 0 => lo - 1
  | n + 1 => if P (lo + n) then lo + n else topW P lo n
structure IsTop (P : Int → Bool) (lo hi n : Int) : Prop where
  lo_ : lo - 1 ≤ n
  hi_ : n ≤ hi
  yes : ∀ w, lo ≤ w → w ≤ n → P w = true
  no : ∀ w, n < w → w ≤ hi → P w = false
theorem IsTop.eq {P : Int → Bool} {lo n : Int} : ∀ {k : Nat}, IsTop P lo (lo + k - 1) n → topW P lo k = n := by
  intro k
  induction k with
  | zero => intro h; have := h.lo_; have := h.hi_; simp only [topW]; omega
  | succ k ih =>
    intro h
    simp only [topW]
    by_cases hc : n = lo + k
    · rw [if_pos (h.yes _ (by omega) (by omega))]; exact hc.symm
    · have := h.hi_
      rw [if_neg (by rw [h.no (lo + k) (by omega) (by omega)]; simp)]
      exact ih ⟨h.lo_, by omega, h.yes, fun w h1 h2 => h.no w h1 (by omega)⟩
def heavyOf (r : Rot) (a : Air) (p : Span) (v : Int) : Int := topW (fun w => decide (v ≤ marginOf r (upTo_ a w) p)) a.weight.lo (a.weight.hi - a.weight.lo + 1).toNat
theorem heavy_eq {r : Rot} {a : Air} {p : Span} {v n : Int} (h : IsTop (fun w => decide (v ≤ marginOf r (upTo_ a w) p)) a.weight.lo a.weight.hi n) (ha : a.weight.ok = true) : heavyOf r a p v = n := by
  have := (Span.ok_iff _).1 ha
  refine IsTop.eq ?_
  rw [show a.weight.lo + ((a.weight.hi - a.weight.lo + 1).toNat : Int) - 1 = a.weight.hi by omega]; exact h
def heavyE (r : Rot) (a : Air) (p : Span) (v : Int) : Int := if errC r a (onMargin r a p) = 0 then (if heavyOf r a p v < a.weight.lo then 3 else 0) else errC r a (onMargin r a p)
theorem upTo_ok {a : Air} {w : Int} (ha : airOk a = true) (h1 : a.weight.lo ≤ w) (h2 : w ≤ a.weight.hi) : airOk (upTo_ a w) = true := by
  rw [airOk_iff] at *
  have := (Span.ok_iff _).1 ha.1
  exact ⟨by rw [Span.ok_iff]; simp only [upTo_]; omega, ha.2⟩
theorem onMargin_upTo {r : Rot} {a : Air} {p : Span} {w : Int} (h : onMargin r a p = true) (h2 : w ≤ a.weight.hi) : onMargin r (upTo_ a w) p = true := by
  simp only [onMargin, onNeeds, onHas, Bool.and_eq_true] at *
  refine ⟨⟨h.1.1, liesT_sub h.1.2.1 ⟨Int.le_refl _, ?_⟩ ⟨Int.le_refl _, Int.le_refl _⟩, h.1.2.2⟩, h.2⟩
  exact h2
theorem need_mono {a b c d : Int} (h0 : 0 ≤ a) (h1 : a ≤ b) (h2 : 0 ≤ c) (h3 : c ≤ d) : (a * c) / 100 ≤ (b * d) / 100 ∧ (a * c + 99) / 100 ≤ (b * d + 99) / 100 := by
  have : a * c ≤ b * d := Int.mul_le_mul h1 h3 h2 (by omega)
  omega
/-- What is needed lies within what is said of a wider air. -/
theorem needs_sub {r : Rot} (hr : rotOk r = true) {a b : Air} (ha : airOk a = true) (hb : airOk b = true) {p q : Span} (hp : onNeeds r a p = true) (hq : q.ok = true) (h1 : spanIn b.weight a.weight) (h2 : spanIn b.temp a.temp) (h3 : spanIn b.wind a.wind) (h4 : spanIn q p) : onNeeds r b q = true ∧ spanIn (needsOf r b q) (needsOf r a p) := by
  have hR := rot_p hr
  rw [airOk_iff] at ha hb
  simp only [onNeeds, Bool.and_eq_true] at *
  have l1 := liesT_sub hp.2.1 h1 h2; have l2 := liesT_sub hp.2.2 h4 h3
  refine ⟨⟨hq, l1, l2⟩, ?_⟩
  have s1 := bnd_sub hR.hover.1 ha.1 ha.2.1 hb.1 hb.2.1 hp.2.1 h1 h2
  have s2 := bnd_sub hR.ground.1 hp.1 ha.2.2.2 hq hb.2.2.2 hp.2.2 h4 h3
  have w1 := bnd_in hR.hover ha.1 ha.2.1 hp.2.1; have w2 := bnd_in hR.ground hp.1 ha.2.2.2 hp.2.2
  have v1 := bnd_in hR.hover hb.1 hb.2.1 l1; have v2 := bnd_in hR.ground hq hb.2.2.2 l2
  exact ⟨(need_mono w1.1 s1.1 w2.1 s2.1).1, (need_mono (by omega) s1.2 (by omega) s2.2).2⟩
theorem has_sub {r : Rot} (hr : rotOk r = true) {a b : Air} (ha : airOk a = true) (hb : airOk b = true) (hp : onHas r a = true) (h1 : spanIn b.temp a.temp) (h2 : spanIn b.height a.height) : onHas r b = true ∧ spanIn (hasOf r b) (hasOf r a) := by
  have hR := rot_p hr
  rw [airOk_iff] at ha hb
  exact ⟨liesT_sub hp h1 h2, bnd_sub hR.power.1 ha.2.1 ha.2.2.1 hb.2.1 hb.2.2.1 hp h1 h2⟩
theorem margin_mono {r : Rot} (hr : rotOk r = true) {a : Air} (ha : airOk a = true) {p : Span} (hm : onMargin r a p = true) {w w' : Int} (h0 : a.weight.lo ≤ w) (h1 : w ≤ w') (h2 : w' ≤ a.weight.hi) : marginOf r (upTo_ a w') p ≤ marginOf r (upTo_ a w) p := by
  have hm' := onMargin_upTo (w := w') hm h2
  simp only [onMargin, Bool.and_eq_true] at hm'
  have hpo : p.ok = true := by simp only [onMargin, onNeeds, Bool.and_eq_true] at hm; exact hm.1.1
  have := (needs_sub (b := upTo_ a w) (q := p) hr (upTo_ok (w := w') ha (by omega) h2) (upTo_ok ha h0 (by omega)) hm'.1 hpo ⟨Int.le_refl _, h1⟩ ⟨Int.le_refl _, Int.le_refl _⟩ ⟨Int.le_refl _, Int.le_refl _⟩ ⟨Int.le_refl _, Int.le_refl _⟩).2.2
  unfold marginOf
  have e : hasOf r (upTo_ a w') = hasOf r (upTo_ a w) := rfl
  rw [e]; omega
/-- How great these numbers are. -/
theorem needs_in {r : Rot} (hr : rotOk r = true) {a : Air} (ha : airOk a = true) {p : Span} (hp : onNeeds r a p = true) : (0 ≤ (bnd r.hover a.weight a.temp).lo ∧ (bnd r.hover a.weight a.temp).lo ≤ 100000 ∧ 0 ≤ (bnd r.hover a.weight a.temp).hi ∧ (bnd r.hover a.weight a.temp).hi ≤ 100000) ∧
    (0 ≤ (bnd r.ground p a.wind).lo ∧ (bnd r.ground p a.wind).lo ≤ 100 ∧ 0 ≤ (bnd r.ground p a.wind).hi ∧ (bnd r.ground p a.wind).hi ≤ 100) := by
  have hR := rot_p hr
  rw [airOk_iff] at ha
  simp only [onNeeds, Bool.and_eq_true] at hp
  have w1 := bnd_in hR.hover ha.1 ha.2.1 hp.2.1; have w2 := bnd_in hR.ground hp.1 ha.2.2.2 hp.2.2
  omega
theorem prod_in {a b A B : Int} (h0 : 0 ≤ a) (h1 : a ≤ A) (h2 : 0 ≤ b) (h3 : b ≤ B) : 0 ≤ a * b ∧ a * b ≤ A * B := ⟨Int.mul_nonneg h0 h2, Int.mul_le_mul h1 h3 h2 (by omega)⟩
theorem needsOf_in {r : Rot} (hr : rotOk r = true) {a : Air} (ha : airOk a = true) {p : Span} (hp : onNeeds r a p = true) : 0 ≤ (needsOf r a p).lo ∧ (needsOf r a p).lo ≤ 100000 ∧ 0 ≤ (needsOf r a p).hi ∧ (needsOf r a p).hi ≤ 100000 := by
  have h := needs_in hr ha hp
  have p1 := prod_in h.1.1 h.1.2.1 h.2.1 h.2.2.1
  have p2 := prod_in h.1.2.2.1 h.1.2.2.2 h.2.2.2.1 h.2.2.2.2
  unfold needsOf
  simp only
  omega
theorem hasOf_in {r : Rot} (hr : rotOk r = true) {a : Air} (ha : airOk a = true) (hp : onHas r a = true) : 0 ≤ (hasOf r a).lo ∧ (hasOf r a).lo ≤ 100000 ∧ 0 ≤ (hasOf r a).hi ∧ (hasOf r a).hi ≤ 100000 := by
  have hR := rot_p hr
  rw [airOk_iff] at ha
  have w1 := bnd_in hR.power ha.2.1 ha.2.2.1 hp
  unfold hasOf; omega

/-! ### level flight -/
def levelOf (r : Rot) (a : Air) (v : Span) : Span := bnd r.level v a.weight
def onLevel (r : Rot) (a : Air) (v : Span) : Bool := v.ok && liesT r.level v a.weight
def partOf (p : Span) (n d : Int) : Span := ⟨fl (p.lo * n) d, ce (p.hi * n) d⟩
def partE (p : Span) (n d : Int) : Int := if p.ok then (if within n 0 1000 && within d 1 1000 then (if (partOf p n d).ok then 0 else 2) else 1) else 10
def addE (p q : Span) : Int := if p.ok && q.ok then (if (⟨p.lo + q.lo, p.hi + q.hi⟩ : Span).ok then 0 else 2) else 10
def rateOf (r : Rot) (a : Air) (v : Int) : Int := fl ((hasOf r a).lo - (levelOf r a (one v)).hi) r.climb
def onRate (r : Rot) (a : Air) (v : Int) : Bool := onHas r a && onLevel r a (one v)
theorem levelOf_in {r : Rot} (hr : rotOk r = true) {a : Air} (ha : airOk a = true) {v : Span} (hp : onLevel r a v = true) : 0 ≤ (levelOf r a v).lo ∧ (levelOf r a v).lo ≤ (levelOf r a v).hi ∧ (levelOf r a v).hi ≤ 100000 := by
  have hR := rot_p hr
  rw [airOk_iff] at ha
  simp only [onLevel, Bool.and_eq_true] at hp
  have w1 := bnd_in hR.level hp.1 ha.1 hp.2
  unfold levelOf; omega
theorem levelOf_ok {r : Rot} (hr : rotOk r = true) {a : Air} (ha : airOk a = true) {v : Span} (hp : onLevel r a v = true) : (levelOf r a v).ok = true := by
  rw [Span.ok_iff]; have := levelOf_in hr ha hp; omega
theorem flow_ok {p : Span} (h : 0 ≤ p.lo ∧ p.lo ≤ p.hi ∧ p.hi ≤ 100000) {n : Int} (hn : 1 ≤ n ∧ n ≤ 1000) : partE p n 1000 = 0 := by
  have p1 := prod_in h.1 (show p.lo ≤ 100000 by omega) (show 0 ≤ n by omega) hn.2
  have p2 := prod_in (show 0 ≤ p.hi by omega) h.2.2 (show 0 ≤ n by omega) hn.2
  have p3 : p.lo * n ≤ p.hi * n := Int.mul_le_mul_of_nonneg_right h.2.1 (by omega)
  have h1 : p.ok = true := by rw [Span.ok_iff]; omega
  have h2 : (partOf p n 1000).ok = true := by
    rw [Span.ok_iff]; unfold partOf fl ce; simp only; omega
  have h3 : (within n 0 1000 && within 1000 1 1000) = true := by simp [within]; omega
  unfold partE; simp only [h1, h2, h3, if_true]

/-! ### the wake -/
def wakeOf (r : Rot) (a : Air) (v s : Span) : Bool := decide ((bnd r.low v a.weight).lo ≤ s.hi) && decide (s.lo ≤ (bnd r.high v a.weight).hi)
def onRing (r : Rot) (a : Air) (v : Span) : Bool := v.ok && liesT r.low v a.weight
structure Drop where
  speed : Span
  sink : Span
  ticks : Int

/-! ### gliding -/
def onGlide (r : Rot) (a : Air) (v h : Int) : Bool := (one v).ok && liesT r.glide (one v) a.weight && within v 0 1000000 && within h 0 1000000
def glideBy (r : Rot) (a : Air) (v n : Int) : Span := ⟨n / (bnd r.glide (one v) a.weight).hi, (n + (bnd r.glide (one v) a.weight).lo - 1) / (bnd r.glide (one v) a.weight).lo⟩
theorem glide_in {r : Rot} (hr : rotOk r = true) {a : Air} (ha : airOk a = true) {v : Int} (h1 : (one v).ok = true) (h2 : liesT r.glide (one v) a.weight = true) : 1 ≤ (bnd r.glide (one v) a.weight).lo ∧ (bnd r.glide (one v) a.weight).lo ≤ (bnd r.glide (one v) a.weight).hi ∧ (bnd r.glide (one v) a.weight).hi ≤ 10000 := by
  have hR := rot_p hr
  rw [airOk_iff] at ha
  have w1 := bnd_in hR.glide h1 ha.1 h2
  omega
/-! ### what a call returns -/
theorem one_lies {t : Tab} (ht : tabOk t = true) {q : Span} {v : Int} (h : liesT t (one v) q = true) : (one v).ok = true := by
  obtain ⟨hX, _, _, _⟩ := tab_axes ht
  simp only [liesT, lies, one, Bool.and_eq_true, decide_eq_true_eq] at h
  have h1 := hX.low 0 (by have := hX.two; omega)
  have h2 := hX.high (t.X.length - 1) (by have := hX.two; omega)
  have h3 : ix t.X 0 ≤ v ∧ v ≤ ix t.X (t.X.length - 1) := ⟨of_decide_eq_true h.1.1, of_decide_eq_true h.1.2⟩
  rw [one_ok]; omega
theorem errC_congr {r : Rot} {a : Air} {b c : Bool} (h : rotOk r = true → b = c) : errC r a b = errC r a c := by
  unfold errC
  cases h1 : rotOk r with
  | true => rw [h h1]
  | false => rfl
def onWake (r : Rot) (a : Air) (p q : Span) : Bool := q.ok && onRing r a p
def needsV (r : Rot) (a : Air) (p : Span) : Span := if errC r a (onNeeds r a p) = 0 then needsOf r a p else ⟨0, 0⟩
def hasV (r : Rot) (a : Air) : Span := if errC r a (onHas r a) = 0 then hasOf r a else ⟨0, 0⟩
def levelV (r : Rot) (a : Air) (p : Span) : Span := if errC r a (onLevel r a p) = 0 then levelOf r a p else ⟨0, 0⟩
def flowV (r : Rot) (a : Air) (p : Span) : Span := if errC r a (onLevel r a p) = 0 then partOf (levelOf r a p) r.burn 1000 else ⟨0, 0⟩
def rateV (r : Rot) (a : Air) (v : Int) : Int := if errC r a (onRate r a v) = 0 then rateOf r a v else 0
def wakeV (r : Rot) (a : Air) (p q : Span) : Bool := if errC r a (onWake r a p q) = 0 then wakeOf r a p q else false
theorem ring_same {r : Rot} (h : RotP r) {p q : Span} : liesT r.high p q = liesT r.low p q := by simp only [liesT, h.sameX, h.sameY]
def marginV (r : Rot) (a : Air) (p : Span) : Int := if errC r a (onMargin r a p) = 0 then marginOf r a p else 0
def heavyV (r : Rot) (a : Air) (p : Span) (v : Int) : Int := if heavyE r a p v = 0 then heavyOf r a p v else 0
theorem topW_is {P : Int → Bool} {lo : Int} : ∀ {k : Nat}, (∀ w w', lo ≤ w → w ≤ w' → w' < lo + k → P w' = true → P w = true) → IsTop P lo (lo + k - 1) (topW P lo k)
  | 0, _ => ⟨Int.le_refl _, by simp only [topW]; omega, fun w h1 h2 => by simp only [topW] at h2; omega, fun w h1 h2 => by simp only [topW] at h1; omega⟩
  | k + 1, hm => by
    simp only [topW]
    by_cases hc : P (lo + k) = true
    · rw [if_pos hc]
      exact ⟨by omega, by omega, fun w h1 h2 => hm w (lo + k) h1 h2 (by omega) hc, fun w h1 h2 => by omega⟩
    · rw [if_neg hc]
      have ih := topW_is (P := P) (lo := lo) (k := k) (fun w w' h1 h2 h3 => hm w w' h1 h2 (by omega))
      exact ⟨ih.lo_, by have := ih.hi_; omega, ih.yes, fun w h1 h2 => by
        by_cases e : w = lo + k
        · rw [e]; simpa using hc
        · exact ih.no w h1 (by omega)⟩
theorem heavy_top {r : Rot} {a : Air} {p : Span} {v : Int} (hr : rotOk r = true) (ha : airOk a = true) (hm : onMargin r a p = true) : IsTop (fun w => decide (v ≤ marginOf r (upTo_ a w) p)) a.weight.lo a.weight.hi (heavyOf r a p v) := by
  have hw := (Span.ok_iff _).1 ((airOk_iff a).1 ha).1
  have := topW_is (P := fun w => decide (v ≤ marginOf r (upTo_ a w) p)) (lo := a.weight.lo) (k := (a.weight.hi - a.weight.lo + 1).toNat) (fun w w' h1 h2 h3 h4 => by
    have hmm := margin_mono hr ha hm (w := w) (w' := w') h1 h2 (by omega)
    simp only [decide_eq_true_eq] at h4 ⊢; omega)
  rw [show a.weight.lo + ((a.weight.hi - a.weight.lo + 1).toNat : Int) - 1 = a.weight.hi by omega] at this
  exact this
theorem heavyE_ok {r : Rot} {a : Air} {p : Span} {v : Int} (h : heavyE r a p v = 0) : rotOk r = true ∧ airOk a = true ∧ onMargin r a p = true ∧ a.weight.lo ≤ heavyOf r a p v := by
  unfold heavyE at h
  by_cases h1 : errC r a (onMargin r a p) = 0
  · rw [if_pos h1] at h
    by_cases h2 : heavyOf r a p v < a.weight.lo
    · rw [if_pos h2] at h; cases h
    · obtain ⟨a1, a2, a3⟩ := errC_ok h1
      exact ⟨a1, a2, a3, by omega⟩
  · rw [if_neg h1] at h; exact absurd h h1
/-! ### the example -/
def exRot : Rot := ⟨⟨[1000, 2000], [0, 40], [[400, 500], [900, 1100]]⟩, ⟨[0, 20], [0, 30], [[70, 80], [100, 100]]⟩, ⟨[0, 50, 100], [1000, 2000], [[400, 900], [250, 500], [500, 800]]⟩, ⟨[0, 40], [0, 1000], [[1200, 1000], [1000, 800]]⟩,
  ⟨[1000, 2000], [0, 40], [[120, 110], [100, 90]]⟩, ⟨[0, 30], [1000, 2000], [[5, 6], [12, 14]]⟩, ⟨[0, 30], [1000, 2000], [[15, 18], [12, 14]]⟩, ⟨[30, 90], [1000, 2000], [[20, 24], [16, 20]]⟩, 10, 200⟩
def exAir : Air := ⟨⟨1000, 1500⟩, ⟨0, 20⟩, ⟨0, 0⟩, ⟨0, 30⟩⟩
theorem ex_margin : errC exRot exAir (onMargin exRot exAir ⟨20, 20⟩) = 0 ∧ marginOf exRot exAir ⟨20, 20⟩ = 375 := by decide +kernel
theorem ex_heavy : heavyE exRot exAir ⟨20, 20⟩ 400 = 0 ∧ heavyOf exRot exAir ⟨20, 20⟩ 400 = 1454 := by decide +kernel
end Go.Proofs.Ytdnodlgebpnfoaa.Sw
