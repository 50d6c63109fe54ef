/- Rows of structs: how they lie in memory; rows of one's own that are written no more. -/
import Derived.Test.YtdnodlgebpnfoaaGreatRange
namespace Go.Proofs.YtdnodlgebpnfoaaGreat
open Go Go.RowKit Go.Shelf Sw

/-- A table with limits. -/
structure LimV where
  V : TV
  t : Tab
  lo : Int
  hi : Int
abbrev limC (x : LimV) : List Value := [.slice x.V.x.a x.t.X.length x.V.x.c, .slice x.V.y.a x.t.Y.length x.V.y.c, .slice x.V.v.a x.t.V.length x.V.v.c, .int .i64 x.lo, .int .i64 x.hi]
abbrev kLim : Kd LimV := kOf limC 5 88 (by decide) (fun _ => rfl)
/-- A table that is looked up at two spans. -/
structure LookV where
  V : TV
  t : Tab
  p : Span
  q : Span
abbrev lookC (x : LookV) : List Value := [.slice x.V.x.a x.t.X.length x.V.x.c, .slice x.V.y.a x.t.Y.length x.V.y.c, .slice x.V.v.a x.t.V.length x.V.v.c, .int .i64 x.p.lo, .int .i64 x.p.hi, .int .i64 x.q.lo, .int .i64 x.q.hi]
abbrev kLook : Kd LookV := kOf lookC 7 104 (by decide) (fun _ => rfl)
/-- A machine: a rotor, an air. -/
abbrev machC (V : RV) (r : Rot) (a : Air) : List Value :=
  [.slice V.hover.x.a r.hover.X.length V.hover.x.c, .slice V.hover.y.a r.hover.Y.length V.hover.y.c, .slice V.hover.v.a r.hover.V.length V.hover.v.c,
   .slice V.ground.x.a r.ground.X.length V.ground.x.c, .slice V.ground.y.a r.ground.Y.length V.ground.y.c, .slice V.ground.v.a r.ground.V.length V.ground.v.c,
   .slice V.level.x.a r.level.X.length V.level.x.c, .slice V.level.y.a r.level.Y.length V.level.y.c, .slice V.level.v.a r.level.V.length V.level.v.c,
   .slice V.power.x.a r.power.X.length V.power.x.c, .slice V.power.y.a r.power.Y.length V.power.y.c, .slice V.power.v.a r.power.V.length V.power.v.c,
   .slice V.never.x.a r.never.X.length V.never.x.c, .slice V.never.y.a r.never.Y.length V.never.y.c, .slice V.never.v.a r.never.V.length V.never.v.c,
   .slice V.low.x.a r.low.X.length V.low.x.c, .slice V.low.y.a r.low.Y.length V.low.y.c, .slice V.low.v.a r.low.V.length V.low.v.c,
   .slice V.high.x.a r.high.X.length V.high.x.c, .slice V.high.y.a r.high.Y.length V.high.y.c, .slice V.high.v.a r.high.V.length V.high.v.c,
   .slice V.glide.x.a r.glide.X.length V.glide.x.c, .slice V.glide.y.a r.glide.Y.length V.glide.y.c, .slice V.glide.v.a r.glide.V.length V.glide.v.c,
   .int .i64 r.climb, .int .i64 r.burn,
   .int .i64 a.weight.lo, .int .i64 a.weight.hi, .int .i64 a.temp.lo, .int .i64 a.temp.hi, .int .i64 a.height.lo, .int .i64 a.height.hi, .int .i64 a.wind.lo, .int .i64 a.wind.hi]
abbrev lessC (n : Nat → Int) (s p : Span) : List Value := [.int .i64 (n 0), .int .i64 (n 1), .int .i64 (n 2), .int .i64 (n 3), .int .i64 (n 4), .int .i64 (n 5), .int .i64 (n 6), .int .i64 (n 7), .int .i64 (n 8), .int .i64 (n 9), .int .i64 (n 10), .int .i64 (n 11), .int .i64 s.lo, .int .i64 s.hi, .int .i64 p.lo, .int .i64 p.hi]
abbrev n12C (n : Nat → Int) : List Value := [.int .i64 (n 0), .int .i64 (n 1), .int .i64 (n 2), .int .i64 (n 3), .int .i64 (n 4), .int .i64 (n 5), .int .i64 (n 6), .int .i64 (n 7), .int .i64 (n 8), .int .i64 (n 9), .int .i64 (n 10), .int .i64 (n 11)]
abbrev loadC (p : Span) (rs : Int) : List Value := [.int .i64 p.lo, .int .i64 p.hi, .int .i64 rs]
def limAt (xs : List LimV) (j : Nat) : LimV := xs.getD j ⟨⟨⟨none, 0⟩, ⟨none, 0⟩, ⟨none, 0⟩⟩, ⟨[], [], []⟩, 0, 0⟩
def lookD : LookV := ⟨⟨⟨none, 0⟩, ⟨none, 0⟩, ⟨none, 0⟩⟩, ⟨[], [], []⟩, ⟨0, 0⟩, ⟨0, 0⟩⟩
def lookAt (xs : List LookV) (j : Nat) : LookV := xs.getD j lookD
theorem limAt_mem {xs : List LimV} {j : Nat} (h : j < xs.length) : limAt xs j ∈ xs := getD_mem h
theorem lookAt_mem {xs : List LookV} {j : Nat} (h : j < xs.length) : lookAt xs j ∈ xs := getD_mem h

section
variable {ds : List Nat} {w W W0 : World} {n : Nat} {a : Act} {κ : KV} {l : List Blk} {Φ : World → Prop} {T : TypeId} {C : World → Prop} {F : Nat → Prop} {s : SV}
theorem sl_of {α : Type} {enc : α → List Value} {nn bb : Nat} {hb : 0 < bb} {hl : ∀ x, (enc x).length = nn} {xs : List α} (H : ∀ W, C W → Sl (kOf enc nn bb hb hl) F W s xs) (h0 : C W0) (d : α) {i : Int} {j : Nat} (e : i = (j : Int)) (hj : j < xs.length) :
    ∃ ad, s.a = some ad ∧ ∀ W, C W → CellsAt W (ad.add (i.toNat * nn)) (enc (xs.getD j d)) := by
  subst e
  have key : ∀ W, Sl (kOf enc nn bb hb hl) F W s xs → ∃ ad, s.a = some ad ∧ CellsAt W (ad.add (j * nn)) (enc (xs.getD j d)) := by
    intro W h
    obtain ⟨ad, cs, h1, _, h3, h4⟩ := h.2.2 j hj
    have h3' : cs = enc xs[j] := h3
    subst h3'
    refine ⟨ad, h1, fun k u hu => ?_⟩
    rw [add_add]
    refine h4 k u ?_
    rwa [show xs.getD j d = xs[j] by simp [List.getD_eq_getElem?_getD, hj]] at hu
  obtain ⟨ad, h1, _⟩ := key W0 (H W0 h0)
  refine ⟨ad, h1, fun W hC => ?_⟩
  obtain ⟨ad', h3, h4⟩ := key W (H W hC)
  rw [h1] at h3; cases h3
  rw [Int.toNat_natCast]; exact h4
/-- One's own newest row, written no more. -/
theorem St.freeze {α : Type} {enc : α → List Value} {nn bb b : Nat} {hb : 0 < bb} {hl : ∀ x, (enc x).length = nn} {cs : List Value} (xs : List α) (hS : St ds w W n a κ (⟨b, cs, T⟩ :: l) Φ) (hcs : cs = xs.flatMap enc) (hbd : xs.length * bb ≤ 140737488355328) :
    St ds w W n a κ l (fun W => Φ W ∧ Sl (kOf enc nn bb hb hl) (fun k => k = b) W ⟨some ⟨b, 0, none⟩, xs.length⟩ xs) := by
  subst hcs
  have h1 := own_sl_of (dk := kOf enc nn bb hb hl) (enc := enc) (xs := xs) (fun _ _ _ => rfl) hS (i := 0) rfl hbd
  have h2 : Sl (kOf enc nn bb hb hl) (fun k => k = b) W ⟨some ⟨b, 0, none⟩, xs.length⟩ xs := by
    refine ⟨h1.1, h1.2.1, fun j hj => ?_⟩
    obtain ⟨ad, cs, e1, _, e3, e4⟩ := h1.2.2 j hj
    refine ⟨ad, cs, e1, ?_, e3, e4⟩
    have : ad = ⟨b, 0, none⟩ := (Option.some.inj e1).symm
    rw [this]
  have hd := List.pairwise_cons.1 hS.dist
  exact (hS.drop (List.sublist_cons_self _ _)).more fun W' ho _ => h2.move fun k hk hlt => ho.same k hlt fun B hB e => hd.1 B hB (by rw [← e]; exact hk.symm)
theorem run_field {P : Program} {x : Operand} {ty : TypeId} {pos : String} {af : Array Edge} {g : Option (Nat × Bool)} {d f : Nat} {v u : Value} (hf : ∀ W, (Instr.field T v f).run P W = .ok u W) (hS : St ds w W n a κ l Φ) (hx : ev κ x = some v) : (execOp a.eval ⟨some d, .field T x f, ty, pos, af, g⟩).run P W = .ok (.value u) W := by
  simp only [execOp, hS.ev hx]
  rw [Sem.run_bind, hf W]; rfl
theorem run_idxArr {P : Program} {x y : Operand} {ty : TypeId} {pos : String} {af : Array Edge} {g : Option (Nat × Bool)} {d : Nat} {v1 v2 u : Value} (hf : ∀ W, (Instr.indexAt T v1 v2).run P W = .ok u W) (hS : St ds w W n a κ l Φ) (hx : ev κ x = some v1) (hy : ev κ y = some v2) : (execOp a.eval ⟨some d, .indexAddr T x y, ty, pos, af, g⟩).run P W = .ok (.value u) W := by
  simp only [execOp, hS.ev hx, hS.ev hy]
  rw [Sem.run_bind, hf W]; rfl
/-- One's own row, as new memory. -/
theorem own_new {α : Type} {enc : α → List Value} {nn bb b i : Nat} {hb : 0 < bb} {hl : ∀ x, (enc x).length = nn} {cs : List Value} (xs : List α) (hS : St ds w W n a κ l Φ) (hB : nthB l i = some ⟨b, cs, T⟩) (hcs : cs = xs.flatMap enc) (hbd : xs.length * bb ≤ 140737488355328) :
    Sl (kOf enc nn bb hb hl) (fun k => w.heap.size ≤ k) W ⟨some ⟨b, 0, none⟩, xs.length⟩ xs := by
  subst hcs
  have h1 := own_sl_of (dk := kOf enc nn bb hb hl) (enc := enc) (xs := xs) (fun _ _ _ => rfl) hS hB hbd
  refine ⟨h1.1, h1.2.1, fun j hj => ?_⟩
  obtain ⟨ad, cs, e1, _, e3, e4⟩ := h1.2.2 j hj
  refine ⟨ad, cs, e1, ?_, e3, e4⟩
  have : ad = ⟨b, 0, none⟩ := (Option.some.inj e1).symm
  rw [this]; exact hS.old _ (nthB_in hB)
theorem sl_nil {α : Type} (dk : Kd α) (F : Nat → Prop) (W : World) : Sl dk F W ⟨none, 0⟩ [] := ⟨Nat.zero_le _, by simp, fun j hj => by simp at hj⟩
end
/-- The rotor's tables with their limits. -/
def lims (V : RV) (r : Rot) : List LimV := [⟨V.hover, r.hover, 0, 100000⟩, ⟨V.ground, r.ground, 0, 100⟩, ⟨V.level, r.level, 0, 100000⟩, ⟨V.power, r.power, 0, 100000⟩, ⟨V.never, r.never, 0, 10000⟩, ⟨V.low, r.low, 0, 10000⟩, ⟨V.high, r.high, 0, 10000⟩, ⟨V.glide, r.glide, 1, 10000⟩]
theorem lims_tab {F : Nat → Prop} {W : World} {V : RV} {r : Rot} (h : RotR F W V r) : ∀ x ∈ lims V r, TabR F W x.V x.t := by
  intro x hx
  simp only [lims, List.mem_cons, List.not_mem_nil, or_false] at hx
  rcases hx with rfl | rfl | rfl | rfl | rfl | rfl | rfl | rfl
  · exact h.hover
  · exact h.ground
  · exact h.level
  · exact h.power
  · exact h.never
  · exact h.low
  · exact h.high
  · exact h.glide
def limsOk (r : Rot) : Bool := filled r.hover 0 100000 && filled r.ground 0 100 && filled r.level 0 100000 && filled r.power 0 100000 && filled r.never 0 10000 && filled r.low 0 10000 && filled r.high 0 10000 && filled r.glide 1 10000
theorem lims_all (V : RV) (r : Rot) : (lims V r).all (fun x => filled x.t x.lo x.hi) = limsOk r := by
  simp [lims, limsOk, Bool.and_assoc]
end Go.Proofs.YtdnodlgebpnfoaaGreat
