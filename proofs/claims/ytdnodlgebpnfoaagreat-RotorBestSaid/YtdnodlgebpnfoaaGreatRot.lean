/- Plain mathematics of rotors: what the document's chapter 2 computes. No program in sight. -/
import Derived.Test.YtdnodlgebpnfoaaGreatTab
namespace Go.Proofs.YtdnodlgebpnfoaaGreat.Sw

structure Span where
  lo : Int
  hi : Int
  deriving DecidableEq
def Span.ok (a : Span) : Bool := within a.lo (-1000000) a.hi && decide (a.hi ≤ 1000000)
theorem Span.ok_iff (a : Span) : a.ok = true ↔ -1000000 ≤ a.lo ∧ a.lo ≤ a.hi ∧ a.hi ≤ 1000000 := by
  simp [Span.ok, within, and_assoc]
structure Air where
  weight : Span
  temp : Span
  height : Span
  wind : Span
structure Rot where
  hover : Tab
  ground : Tab
  level : Tab
  power : Tab
  never : Tab
  low : Tab
  high : Tab
  glide : Tab
  climb : Int
  burn : Int
def inAll (t : Tab) (lo hi : Int) : Bool := t.V.all fun row => row.all fun n => within n lo hi
def filled (t : Tab) (lo hi : Int) : Bool := tabOk t && inAll t lo hi
def notAbove (s t : Tab) : Bool := (List.range s.X.length).all fun i => (List.range s.Y.length).all fun k => decide (vat s i k ≤ vat t i k)
def rotOk (r : Rot) : Bool :=
  filled r.hover 0 100000 && filled r.ground 0 100 && filled r.level 0 100000 && filled r.power 0 100000 && filled r.never 0 10000 && filled r.low 0 10000 && filled r.high 0 10000 && filled r.glide 1 10000 &&
    (decide (r.low.X = r.high.X) && decide (r.low.Y = r.high.Y) && within r.climb 1 1000 && within r.burn 1 1000 && notAbove r.low r.high)
def airOk (a : Air) : Bool := a.weight.ok && a.temp.ok && a.height.ok && a.wind.ok
def checkRot (r : Rot) : Int := if rotOk r then 0 else 20
def checkAir (r : Rot) (a : Air) : Int := if rotOk r then (if airOk a then 0 else 21) else 20
def liesT (t : Tab) (x y : Span) : Bool := lies t.X x.lo x.hi && lies t.Y y.lo y.hi
def bnd (t : Tab) (x y : Span) : Span := ⟨boundLow t x.lo x.hi y.lo y.hi, boundHigh t x.lo x.hi y.lo y.hi⟩

/-! ### tables in use -/
theorem tab_axes {t : Tab} (h : tabOk t = true) : Axis t.X ∧ Axis t.Y ∧ t.V.length = t.X.length ∧ ∀ row ∈ t.V, row.length = t.Y.length ∧ ∀ n ∈ row, -1000000 ≤ n ∧ n ≤ 1000000 := by
  unfold tabOk at h
  simp only [Bool.and_eq_true, decide_eq_true_eq, List.all_eq_true, within] at h
  obtain ⟨⟨⟨h1, h2⟩, h3⟩, h4⟩ := h
  exact ⟨(axis_iff _).1 h1, (axis_iff _).1 h2, h3, fun row hr => ⟨(h4 row hr).1, fun n hn => (h4 row hr).2 n hn⟩⟩
theorem vat_mem {t : Tab} (h : tabOk t = true) {i k : Nat} (hi : i < t.X.length) (hk : k < t.Y.length) : ∃ row ∈ t.V, vat t i k ∈ row := by
  obtain ⟨_, _, h3, h4⟩ := tab_axes h
  have hi' : i < t.V.length := by omega
  refine ⟨t.V[i], List.getElem_mem hi', ?_⟩
  have hk' : k < t.V[i].length := by rw [(h4 _ (List.getElem_mem hi')).1]; exact hk
  have : vat t i k = t.V[i][k] := by simp [vat, ix, rowOf, List.getD_eq_getElem?_getD, hi', hk']
  rw [this]
  exact List.getElem_mem hk'
theorem tab_within {t : Tab} (h : tabOk t = true) : Within t (-1000000) 1000000 := by
  intro i k hi hk
  obtain ⟨row, hr, hm⟩ := vat_mem h hi hk
  exact ((tab_axes h).2.2.2 row hr).2 _ hm
theorem filled_within {t : Tab} {lo hi : Int} (h : filled t lo hi = true) : tabOk t = true ∧ Within t lo hi := by
  unfold filled at h
  simp only [Bool.and_eq_true] at h
  refine ⟨h.1, fun i k hi hk => ?_⟩
  obtain ⟨row, hr, hm⟩ := vat_mem h.1 hi hk
  have h2 := h.2
  simp only [inAll, List.all_eq_true, within, Bool.and_eq_true, decide_eq_true_eq] at h2
  exact h2 row hr _ hm
theorem on_of {t : Tab} {x y : Span} (hx : x.ok = true) (hy : y.ok = true) (h : liesT t x y = true) : On t x.lo x.hi y.lo y.hi := by
  simp only [liesT, lies, Bool.and_eq_true, decide_eq_true_eq] at h
  have h1 := (Span.ok_iff x).1 hx
  have h2 := (Span.ok_iff y).1 hy
  exact ⟨h.1.1, h1.2.1, h.1.2, h.2.1, h2.2.1, h.2.2⟩
end Go.Proofs.YtdnodlgebpnfoaaGreat.Sw
