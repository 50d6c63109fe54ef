/- Lifts: how they lie in memory; the fuel that is burnt in a smaller air. -/
import Derived.Test.YtdnodlgebpnfoaaCut
import Derived.Test.YtdnodlgebpnfoaaCopy
import Derived.Test.YtdnodlgebpnfoaaLaw2
namespace Go.Proofs.Ytdnodlgebpnfoaa
open Go Go.RowKit Go.Shelf Sw

/-- A craft, an air, a field, a departure. -/
abbrev liftC (V : RV) (r : Rot) (c : Nat → Int) (A : Air) (f : Nat → Int) (ha : Option Addr) (hn hc : Nat) (da : Option Addr) (dn dc : Nat) : List Value :=
  [.slice V.hover.x.a r.hover.X.length V.hover.x.c, .slice V.hover.y.a r.hover.Y.length V.hover.y.c, .slice V.hover.v.a r.hover.V.length V.hover.v.c, .slice V.ground.x.a r.ground.X.length V.ground.x.c, .slice V.ground.y.a r.ground.Y.length V.ground.y.c, .slice V.ground.v.a r.ground.V.length V.ground.v.c, .slice V.level.x.a r.level.X.length V.level.x.c, .slice V.level.y.a r.level.Y.length V.level.y.c, .slice V.level.v.a r.level.V.length V.level.v.c, .slice V.power.x.a r.power.X.length V.power.x.c, .slice V.power.y.a r.power.Y.length V.power.y.c, .slice V.power.v.a r.power.V.length V.power.v.c, .slice V.never.x.a r.never.X.length V.never.x.c, .slice V.never.y.a r.never.Y.length V.never.y.c, .slice V.never.v.a r.never.V.length V.never.v.c, .slice V.low.x.a r.low.X.length V.low.x.c, .slice V.low.y.a r.low.Y.length V.low.y.c, .slice V.low.v.a r.low.V.length V.low.v.c, .slice V.high.x.a r.high.X.length V.high.x.c, .slice V.high.y.a r.high.Y.length V.high.y.c, .slice V.high.v.a r.high.V.length V.high.v.c, .slice V.glide.x.a r.glide.X.length V.glide.x.c, .slice V.glide.y.a r.glide.Y.length V.glide.y.c, .slice V.glide.v.a r.glide.V.length V.glide.v.c, .int .i64 r.climb, .int .i64 r.burn, .int .i64 (c 0), .int .i64 (c 1), .int .i64 (c 2), .int .i64 (c 3), .int .i64 (c 4), .int .i64 (c 5), .int .i64 (c 6), .int .i64 A.weight.lo, .int .i64 A.weight.hi, .int .i64 A.temp.lo, .int .i64 A.temp.hi, .int .i64 A.height.lo, .int .i64 A.height.hi, .int .i64 A.wind.lo, .int .i64 A.wind.hi, .int .i64 (f 0), .int .i64 (f 1), .int .i64 (f 2), .slice ha hn hc, .slice da dn dc, .int .i64 (f 3)]
abbrev cruiseC (sp tk : Int) (n : Nat → Int) : List Value := [.int .i64 sp, .int .i64 tk, .int .i64 (n 0), .int .i64 (n 1), .int .i64 (n 2), .int .i64 (n 3), .int .i64 (n 4), .int .i64 (n 5), .int .i64 (n 6), .int .i64 (n 7)]
def exTab : Tab := ⟨[0, 10, 20], [0, 5], [[0, 10], [20, 30], [10, 50]]⟩
theorem ex_tab : (if tabOk exTab then (if (⟨5, 15⟩ : Span).ok && (⟨0, 5⟩ : Span).ok then (if liesT exTab ⟨5, 15⟩ ⟨0, 5⟩ then 0 else 1) else 10) else 11 : Int) = 0 ∧ bnd exTab ⟨5, 15⟩ ⟨0, 5⟩ = ⟨10, 40⟩ := by decide +kernel
theorem pick_eq (p : Span) (m n : Int) : (⟨min2 (p.lo + inW p m) (p.lo + inW p n), max2 (p.lo + inW p m) (p.lo + inW p n)⟩ : Span) = pickOf p m n := by
  unfold pickOf min2 max2
  simp only [Span.mk.injEq]
  constructor <;> split <;> split <;> omega
theorem flow_in {r : Rot} {A : Air} {p : Span} (h : errC r A (onLevel r A p) = 0) : 0 ≤ (flowV r A p).lo ∧ (flowV r A p).hi ≤ 1000000 ∧ (flowV r A p).lo ≤ (flowV r A p).hi := by
  obtain ⟨hr, ha, ho⟩ := errC_ok h
  have hl := levelOf_in hr ha ho
  have hb := (rot_p hr).burn
  have hf := flow_ok hl hb
  unfold flowV
  rw [if_pos h]
  have hk : (partOf (levelOf r A p) r.burn 1000).ok = true := by
    unfold partE at hf
    by_cases h1 : (levelOf r A p).ok = true
    · rw [if_pos h1] at hf
      by_cases h2 : (within r.burn 0 1000 && within 1000 1 1000) = true
      · rw [if_pos h2] at hf
        by_cases h3 : (partOf (levelOf r A p) r.burn 1000).ok = true
        · exact h3
        · rw [if_neg h3] at hf; cases hf
      · rw [if_neg h2] at hf; cases hf
    · rw [if_neg h1] at hf; cases hf
  have hs := (Span.ok_iff _).1 hk
  have h0 : 0 ≤ (partOf (levelOf r A p) r.burn 1000).lo := by
    have := Int.mul_nonneg hl.1 (show 0 ≤ r.burn by omega)
    exact Int.ediv_nonneg this (by decide)
  omega
/-- In a smaller air no more is burnt. -/
theorem less_fuel {r : Rot} {A : Air} {p : Span} (n : Nat → Int) (h : errC r A (onLevel r A p) = 0) : errC r (smallOf A n) (onLevel r (smallOf A n) p) = 0 ∧ (flowV r (smallOf A n) p).hi ≤ (flowV r A p).hi := by
  obtain ⟨hr, ha, ho⟩ := errC_ok h
  have hb := small_ok ha n
  have hp : p.ok = true := by simp only [onLevel, Bool.and_eq_true] at ho; exact ho.1
  have hx := level_sub hr ha hb ho hp (small_sub ha n).1 ⟨Int.le_refl _, Int.le_refl _⟩
  have e := errC_of hr hb hx.1
  refine ⟨e, ?_⟩
  rw [flowV, flowV, if_pos h, if_pos e]
  have hb0 := (rot_p hr).burn
  exact (part_sub (by omega) hx.2).2
end Go.Proofs.Ytdnodlgebpnfoaa
