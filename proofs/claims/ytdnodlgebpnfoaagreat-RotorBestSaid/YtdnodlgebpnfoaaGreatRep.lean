/- How data lie in memory. -/
import Derived.Test.YtdnodlgebpnfoaaGreatMix
import Derived.Test.YtdnodlgebpnfoaaGreatRot
namespace Go.Proofs.YtdnodlgebpnfoaaGreat
open Go Go.RowKit Go.Shelf Sw

/-- A kind of value: how many cells it takes, what its cells are. F: the blocks that it may lead to. -/
structure Kd (α : Type) where
  sz : Nat
  by_ : Nat
  pos : 0 < by_
  R : (Nat → Prop) → World → α → List Value → Prop
  len : ∀ {F : Nat → Prop} {W : World} {x : α} {cs : List Value}, R F W x cs → cs.length = sz
  move : ∀ {F : Nat → Prop} {W W' : World} {x : α} {cs : List Value}, (∀ k, F k → k < W.heap.size → W'.heap[k]? = W.heap[k]?) → R F W x cs → R F W' x cs
  wide : ∀ {F F' : Nat → Prop} {W : World} {x : α} {cs : List Value}, (∀ k, F k → k < W.heap.size → F' k) → R F W x cs → R F' W x cs

/-- A slice that reads as a list: its address, its capacity. -/
structure SV where
  a : Option Addr
  c : Nat
def Sl {α : Type} (d : Kd α) (F : Nat → Prop) (W : World) (s : SV) (xs : List α) : Prop :=
  xs.length ≤ s.c ∧ xs.length * d.by_ ≤ 140737488355328 ∧ ∀ j (h : j < xs.length), ∃ ad cs, s.a = some ad ∧ F ad.block ∧ d.R F W xs[j] cs ∧ ∀ i u, cs[i]? = some u → W.cell? (ad.add (j * d.sz + i)) = some u

theorem cell_lt {W : World} {p : Addr} {u : Value} (h : W.cell? p = some u) : p.block < W.heap.size := World.block_lt_of_cell? W p h
theorem add_block (p : Addr) (k : Nat) : (p.add k).block = p.block := by unfold Addr.add; split <;> rfl
theorem add_add (p : Addr) (i j : Nat) : (p.add i).add j = p.add (i + j) := by
  unfold Addr.add
  by_cases hi : i = 0
  · subst hi; simp
  · by_cases hj : j = 0
    · subst hj; simp [hi]
    · have h : ¬ i + j = 0 := by omega
      simp only [hi, hj, h, if_false]
      rw [Nat.add_assoc]
theorem cell_same {W W' : World} {p : Addr} {u : Value} (h : W.cell? p = some u) (hk : W'.heap[p.block]? = W.heap[p.block]?) : W'.cell? p = some u := by
  unfold World.cell? at *; rw [hk]; exact h

theorem Sl.move {α : Type} {d : Kd α} {F : Nat → Prop} {W W' : World} {s : SV} {xs : List α} (h : Sl d F W s xs) (hm : ∀ k, F k → k < W.heap.size → W'.heap[k]? = W.heap[k]?) : Sl d F W' s xs := by
  refine ⟨h.1, h.2.1, fun j hj => ?_⟩
  obtain ⟨ad, cs, h1, h2, h3, h4⟩ := h.2.2 j hj
  refine ⟨ad, cs, h1, h2, d.move hm h3, fun i u hu => ?_⟩
  have hc := h4 i u hu
  have hlt := cell_lt hc
  rw [add_block] at hlt
  exact cell_same hc (by rw [add_block]; exact hm _ h2 hlt)
theorem Sl.wide {α : Type} {d : Kd α} {F F' : Nat → Prop} {W : World} {s : SV} {xs : List α} (h : Sl d F W s xs) (hm : ∀ k, F k → k < W.heap.size → F' k) (h0 : ∀ (j : Nat), j < xs.length → 0 < d.sz) : Sl d F' W s xs := by
  refine ⟨h.1, h.2.1, fun j hj => ?_⟩
  obtain ⟨ad, cs, h1, h2, h3, h4⟩ := h.2.2 j hj
  have hl := d.len h3
  have hp := h0 j hj
  have hc := h4 0 (cs[0]'(by omega)) (by simp)
  have hlt := cell_lt hc
  rw [add_block] at hlt
  exact ⟨ad, cs, h1, hm _ h2 hlt, d.wide hm h3, h4⟩

/-- What came in lies there still. -/
theorem keep_of {w W : World} {F : Nat → Prop} (h : Below w.heap.size w W) : ∀ k, F k → k < w.heap.size → W.heap[k]? = w.heap[k]? := fun k _ hk => h.block k hk
def kOf {α : Type} (enc : α → List Value) (n b : Nat) (hb : 0 < b) (h : ∀ x, (enc x).length = n) : Kd α where
  sz := n
  by_ := b
  pos := hb
  R := fun _ _ x cs => cs = enc x
  len := fun h' => by rw [h']; exact h _
  move := fun _ h => h
  wide := fun _ h => h
abbrev kInt : Kd Int := kOf (fun x => [.int .i64 x]) 1 8 (by decide) (fun _ => rfl)
abbrev kBool : Kd Bool := kOf (fun x => [.bool x]) 1 1 (by decide) (fun _ => rfl)
abbrev spanC (a : Span) : List Value := [.int .i64 a.lo, .int .i64 a.hi]
abbrev kSpan : Kd Span := kOf spanC 2 16 (by decide) (fun _ => rfl)
def kSl {α : Type} (d : Kd α) (h0 : 0 < d.sz) : Kd (List α) where
  sz := 1
  by_ := 24
  pos := by decide
  R := fun F W xs cs => ∃ s : SV, cs = [.slice s.a xs.length s.c] ∧ Sl d F W s xs
  len := by rintro F W x cs ⟨s, rfl, _⟩; rfl
  move := by rintro F W W' x cs hm ⟨s, rfl, h⟩; exact ⟨s, rfl, h.move hm⟩
  wide := by rintro F F' W x cs hm ⟨s, rfl, h⟩; exact ⟨s, rfl, h.wide hm (fun _ _ => h0)⟩
abbrev kRow : Kd (List Int) := kSl kInt (by decide)

theorem Sl.len {α : Type} {d : Kd α} {F : Nat → Prop} {W : World} {s : SV} {xs : List α} (h : Sl d F W s xs) : xs.length ≤ 140737488355328 := by
  have h1 := h.2.1
  have := Nat.le_mul_of_pos_right xs.length d.pos
  omega
/-- A number of a slice of numbers. -/
theorem Sl.int {F : Nat → Prop} {W : World} {s : SV} {xs : List Int} (h : Sl kInt F W s xs) {j : Nat} (hj : j < xs.length) : ∃ ad, s.a = some ad ∧ W.cell? (ad.add (j * 1)) = some (.int .i64 (ix xs j)) := by
  obtain ⟨ad, cs, h1, _, h3, h4⟩ := h.2.2 j hj
  have h3' : cs = [.int .i64 xs[j]] := h3
  subst h3'
  refine ⟨ad, h1, ?_⟩
  have := h4 0 _ rfl
  rw [show ix xs j = xs[j] by simp [ix, List.getD_eq_getElem?_getD, hj]]
  exact this
theorem Sl.intAt {F : Nat → Prop} {w : World} {s : SV} {xs : List Int} (h : Sl kInt F w s xs) (i : Int) (h0 : 0 ≤ i) (h1 : i < xs.length) : ∃ ad, s.a = some ad ∧ ∀ W, Below w.heap.size w W → W.cell? (ad.add (i.toNat * 1)) = some (.int .i64 (ix xs i.toNat)) := by
  obtain ⟨ad, h2, h3⟩ := h.int (j := i.toNat) (by omega)
  exact ⟨ad, h2, fun W hb => cell_same h3 (hb.block _ (cell_lt h3))⟩
theorem Sl.row {F : Nat → Prop} {W : World} {s : SV} {xs : List (List Int)} (h : Sl kRow F W s xs) {j : Nat} (hj : j < xs.length) : ∃ ad s', s.a = some ad ∧ W.cell? (ad.add (j * 1)) = some (.slice s'.a (rowOf xs j).length s'.c) ∧ Sl kInt F W s' (rowOf xs j) := by
  obtain ⟨ad, cs, h1, _, ⟨s', h3, h5⟩, h4⟩ := h.2.2 j hj
  subst h3
  have := h4 0 _ rfl
  have e : rowOf xs j = xs[j] := by simp [rowOf, List.getD_eq_getElem?_getD, hj]
  rw [e]
  exact ⟨ad, s', h1, this, h5⟩
theorem Sl.rowAt {F : Nat → Prop} {w : World} {s : SV} {xs : List (List Int)} (h : Sl kRow F w s xs) (i : Int) (h0 : 0 ≤ i) (h1 : i < xs.length) : ∃ ad s', s.a = some ad ∧ (∀ W, Below w.heap.size w W → W.cell? (ad.add (i.toNat * 1)) = some (.slice s'.a (rowOf xs i.toNat).length s'.c)) ∧ Sl kInt F w s' (rowOf xs i.toNat) := by
  obtain ⟨ad, s', h2, h3, h4⟩ := h.row (j := i.toNat) (by omega)
  exact ⟨ad, s', h2, fun W hb => cell_same h3 (hb.block _ (cell_lt h3)), h4⟩
theorem Sl.at_ {α : Type} {d : Kd α} {F : Nat → Prop} {w W : World} {s : SV} {xs : List α} (h : Sl d F w s xs) (hb : Below w.heap.size w W) : Sl d F W s xs := h.move (keep_of hb)
theorem Sl.span {F : Nat → Prop} {W : World} {s : SV} {xs : List Span} (h : Sl kSpan F W s xs) {j : Nat} (hj : j < xs.length) : ∃ ad, s.a = some ad ∧ ∀ i u, (spanC (xs[j]'hj))[i]? = some u → W.cell? ((ad.add (j * 2)).add i) = some u := by
  obtain ⟨ad, cs, h1, _, h3, h4⟩ := h.2.2 j hj
  have h3' : cs = spanC xs[j] := h3
  subst h3'
  refine ⟨ad, h1, fun i u hu => ?_⟩
  have := h4 i u hu
  rw [add_add]; exact this

/-- A table. -/
structure TV where
  x : SV
  y : SV
  v : SV
def TabR (F : Nat → Prop) (W : World) (V : TV) (t : Tab) : Prop := Sl kInt F W V.x t.X ∧ Sl kInt F W V.y t.Y ∧ Sl kRow F W V.v t.V
abbrev tabC (V : TV) (t : Tab) : List Value := [.slice V.x.a t.X.length V.x.c, .slice V.y.a t.Y.length V.y.c, .slice V.v.a t.V.length V.v.c]
theorem TabR.move {F : Nat → Prop} {W W' : World} {V : TV} {t : Tab} (h : TabR F W V t) (hm : ∀ k, F k → k < W.heap.size → W'.heap[k]? = W.heap[k]?) : TabR F W' V t := ⟨h.1.move hm, h.2.1.move hm, h.2.2.move hm⟩
/-- A rotor. -/
structure RV where
  hover : TV
  ground : TV
  level : TV
  power : TV
  never : TV
  low : TV
  high : TV
  glide : TV
structure RotR (F : Nat → Prop) (W : World) (V : RV) (r : Rot) : Prop where
  hover : TabR F W V.hover r.hover
  ground : TabR F W V.ground r.ground
  level : TabR F W V.level r.level
  power : TabR F W V.power r.power
  never : TabR F W V.never r.never
  low : TabR F W V.low r.low
  high : TabR F W V.high r.high
  glide : TabR F W V.glide r.glide
theorem RotR.move {F : Nat → Prop} {W W' : World} {V : RV} {r : Rot} (h : RotR F W V r) (hm : ∀ k, F k → k < W.heap.size → W'.heap[k]? = W.heap[k]?) : RotR F W' V r :=
  ⟨h.hover.move hm, h.ground.move hm, h.level.move hm, h.power.move hm, h.never.move hm, h.low.move hm, h.high.move hm, h.glide.move hm⟩
abbrev rotC (V : RV) (r : Rot) : List Value :=
  [.slice V.hover.x.a r.hover.X.length V.hover.x.c, .slice V.hover.y.a r.hover.Y.length V.hover.y.c, .slice V.hover.v.a r.hover.V.length V.hover.v.c,
   .slice V.ground.x.a r.ground.X.length V.ground.x.c, .slice V.ground.y.a r.ground.Y.length V.ground.y.c, .slice V.ground.v.a r.ground.V.length V.ground.v.c,
   .slice V.level.x.a r.level.X.length V.level.x.c, .slice V.level.y.a r.level.Y.length V.level.y.c, .slice V.level.v.a r.level.V.length V.level.v.c,
   .slice V.power.x.a r.power.X.length V.power.x.c, .slice V.power.y.a r.power.Y.length V.power.y.c, .slice V.power.v.a r.power.V.length V.power.v.c,
   .slice V.never.x.a r.never.X.length V.never.x.c, .slice V.never.y.a r.never.Y.length V.never.y.c, .slice V.never.v.a r.never.V.length V.never.v.c,
   .slice V.low.x.a r.low.X.length V.low.x.c, .slice V.low.y.a r.low.Y.length V.low.y.c, .slice V.low.v.a r.low.V.length V.low.v.c,
   .slice V.high.x.a r.high.X.length V.high.x.c, .slice V.high.y.a r.high.Y.length V.high.y.c, .slice V.high.v.a r.high.V.length V.high.v.c,
   .slice V.glide.x.a r.glide.X.length V.glide.x.c, .slice V.glide.y.a r.glide.Y.length V.glide.y.c, .slice V.glide.v.a r.glide.V.length V.glide.v.c,
   .int .i64 r.climb, .int .i64 r.burn]
abbrev airC (a : Air) : List Value := [.int .i64 a.weight.lo, .int .i64 a.weight.hi, .int .i64 a.temp.lo, .int .i64 a.temp.hi, .int .i64 a.height.lo, .int .i64 a.height.hi, .int .i64 a.wind.lo, .int .i64 a.wind.hi]
theorem w64 {x : Int} (h0 : -9223372036854775808 ≤ x) (h1 : x ≤ 9223372036854775807) : IntKind.i64.wrap x = x := by
  rw [IntKind.wrap_i64]
  omega
theorem vb {x y : Bool} (h : x = true ↔ y = true) : Value.bool x = .bool y := by rw [Bool.eq_iff_iff.2 h]

/-! ### what the printed walks lean on -/
section
variable {P : Program} {ds : List Nat} {w W0 W : World} {n d : Nat} {a : Act} {κ : KV} {l : List Blk} {Φ : World → Prop} {x y : Operand} {ty T T2 : TypeId} {pos : String} {af : Array Edge} {g : Option (Nat × Bool)} {C : World → Prop} {F : Nat → Prop} {s : SV}
theorem run_add {p q t : Int} (hS : St ds w W n a κ l Φ) (hx : ev κ x = some (.int .i64 p)) (hy : ev κ y = some (.int .i64 q)) (e : p + q = t) (h0 : -9223372036854775808 ≤ t) (h1 : t ≤ 9223372036854775807) : (execOp a.eval ⟨some d, .binOp .add T x y T2, ty, pos, af, g⟩).run P W = .ok (.value (.int .i64 t)) W := by
  have := run_bin (P := P) (d := d) (T := T) (T2 := T2) (ty := ty) (pos := pos) (af := af) (g := g) (op := .add) hS hx hy rfl
  rwa [w64 (by omega) (by omega), e] at this
theorem run_sub {p q t : Int} (hS : St ds w W n a κ l Φ) (hx : ev κ x = some (.int .i64 p)) (hy : ev κ y = some (.int .i64 q)) (e : p - q = t) (h0 : -9223372036854775808 ≤ t) (h1 : t ≤ 9223372036854775807) : (execOp a.eval ⟨some d, .binOp .sub T x y T2, ty, pos, af, g⟩).run P W = .ok (.value (.int .i64 t)) W := by
  have := run_bin (P := P) (d := d) (T := T) (T2 := T2) (ty := ty) (pos := pos) (af := af) (g := g) (op := .sub) hS hx hy rfl
  rwa [w64 (by omega) (by omega), e] at this
theorem run_mul {p q t : Int} (hS : St ds w W n a κ l Φ) (hx : ev κ x = some (.int .i64 p)) (hy : ev κ y = some (.int .i64 q)) (e : p * q = t) (h : -9223372036854775808 ≤ t ∧ t ≤ 9223372036854775807) : (execOp a.eval ⟨some d, .binOp .mul T x y T2, ty, pos, af, g⟩).run P W = .ok (.value (.int .i64 t)) W := by
  have := run_bin (P := P) (d := d) (T := T) (T2 := T2) (ty := ty) (pos := pos) (af := af) (g := g) (op := .mul) hS hx hy rfl
  rwa [w64 (by rw [e]; exact h.1) (by rw [e]; exact h.2), e] at this
theorem run_div {p q t : Int} (hS : St ds w W n a κ l Φ) (hx : ev κ x = some (.int .i64 p)) (hy : ev κ y = some (.int .i64 q)) (hq : q ≠ 0) (e : p.tdiv q = t) (h : -9223372036854775808 ≤ t ∧ t ≤ 9223372036854775807) : (execOp a.eval ⟨some d, .binOp .quo T x y T2, ty, pos, af, g⟩).run P W = .ok (.value (.int .i64 t)) W := by
  have := run_quo (P := P) (d := d) (T := T) (T2 := T2) (ty := ty) (pos := pos) (af := af) (g := g) hS hx hy hq
  rwa [w64 (by rw [e]; exact h.1) (by rw [e]; exact h.2), e] at this
theorem run_rem' {p q t : Int} (hS : St ds w W n a κ l Φ) (hx : ev κ x = some (.int .i64 p)) (hy : ev κ y = some (.int .i64 q)) (hq : q ≠ 0) (e : p.tmod q = t) : (execOp a.eval ⟨some d, .binOp .rem T x y T2, ty, pos, af, g⟩).run P W = .ok (.value (.int .i64 t)) W := by
  have := run_rem (P := P) (d := d) (T := T) (T2 := T2) (ty := ty) (pos := pos) (af := af) (g := g) hS hx hy hq
  rwa [e] at this
theorem run_negI {p t : Int} (hS : St ds w W n a κ l Φ) (hx : ev κ x = some (.int .i64 p)) (e : 0 - p = t) (h0 : -9223372036854775808 ≤ t) (h1 : t ≤ 9223372036854775807) : (execOp a.eval ⟨some d, .unOp .neg T x, ty, pos, af, g⟩).run P W = .ok (.value (.int .i64 t)) W := by
  have := run_neg (P := P) (d := d) (T := T) (ty := ty) (pos := pos) (af := af) (g := g) hS hx
  rwa [w64 (by omega) (by omega), e] at this
/-- An element of a list of numbers. -/
theorem sl_int {xs : List Int} (H : ∀ W, C W → Sl kInt F W s xs) (h0 : C W0) {i : Int} {j : Nat} (e : i = (j : Int)) (hj : j < xs.length) : ∃ ad, s.a = some ad ∧ ∀ W, C W → W.cell? (ad.add (i.toNat * 1)) = some (.int .i64 (ix xs j)) := by
  subst e
  obtain ⟨ad, h1, h2⟩ := (H W0 h0).int hj
  refine ⟨ad, h1, fun W hC => ?_⟩
  obtain ⟨ad', h3, h4⟩ := (H W hC).int hj
  rw [h1] at h3; cases h3
  rw [Int.toNat_natCast]; exact h4
/-- An element of a list of lists. -/
theorem sl_row {xs : List (List Int)} (H : ∀ W, C W → Sl kRow F W s xs) (h0 : C W0) {i : Int} {j : Nat} (e : i = (j : Int)) (hj : j < xs.length) : ∃ (ad : Addr) (s' : World → SV), s.a = some ad ∧ ∀ W, C W → W.cell? (ad.add (i.toNat * 1)) = some (.slice (s' W).a (rowOf xs j).length (s' W).c) ∧ Sl kInt F W (s' W) (rowOf xs j) := by
  subst e
  obtain ⟨ad, s0, h1, h2, _⟩ := (H W0 h0).row hj
  have hex : ∀ W, ∃ s', C W → W.cell? (ad.add (((j : Nat) : Int).toNat * 1)) = some (.slice s'.a (rowOf xs j).length s'.c) ∧ Sl kInt F W s' (rowOf xs j) := by
    intro W
    by_cases hC : C W
    · obtain ⟨ad', s', h3, h4, h5⟩ := (H W hC).row hj
      rw [h1] at h3; cases h3
      exact ⟨s', fun _ => by rw [Int.toNat_natCast]; exact ⟨h4, h5⟩⟩
    · exact ⟨s0, fun h => absurd h hC⟩
  exact ⟨ad, fun W => Classical.choose (hex W), h1, fun W hC => Classical.choose_spec (hex W) hC⟩
/-- The same in memory that was there at w's time: the row's place is one and the same. -/
theorem sl_rowB {xs : List (List Int)} (H : Sl kRow F w s xs) {i : Int} {j : Nat} (e : i = (j : Int)) (hj : j < xs.length) : ∃ (ad : Addr) (s' : SV), s.a = some ad ∧ (∀ W, Below w.heap.size w W → W.cell? (ad.add (i.toNat * 1)) = some (.slice s'.a (rowOf xs j).length s'.c)) ∧ ∀ W, Below w.heap.size w W → Sl kInt F W s' (rowOf xs j) := by
  subst e
  obtain ⟨ad, s', h2, h3, h4⟩ := H.row hj
  exact ⟨ad, s', h2, fun W hb => by rw [Int.toNat_natCast]; exact cell_same h3 (hb.block _ (cell_lt h3)), fun W hb => h4.at_ hb⟩
/-- A slice that has been made since. -/
theorem St.moreSl {α : Type} {dk : Kd α} {m0 : Nat} {xs : List α} (hS : St ds w W n a κ l Φ) (hlt : ∀ B ∈ l, B.b < m0) (h : Sl dk (fun k => m0 ≤ k) W s xs) : St ds w W n a κ l (fun W => Φ W ∧ Sl dk (fun k => m0 ≤ k) W s xs) :=
  hS.more fun W' ho _ => h.move fun k hk hlt' => ho.same k hlt' fun B hB e => by have := hlt B hB; omega
def spanAt (xs : List Span) (j : Nat) : Span := xs.getD j ⟨0, 0⟩
theorem sl_span {xs : List Span} (H : ∀ W, C W → Sl kSpan F W s xs) (h0 : C W0) {i : Int} {j : Nat} (e : i = (j : Int)) (hj : j < xs.length) : ∃ ad, s.a = some ad ∧ ∀ W, C W → ∀ k u, (spanC (spanAt xs j))[k]? = some u → W.cell? ((ad.add (i.toNat * 2)).add k) = some u := by
  subst e
  obtain ⟨ad, h1, _⟩ := (H W0 h0).span hj
  refine ⟨ad, h1, fun W hC k u hu => ?_⟩
  obtain ⟨ad', h3, h4⟩ := (H W hC).span hj
  rw [h1] at h3; cases h3
  rw [Int.toNat_natCast]
  refine h4 k u ?_
  rwa [show spanAt xs j = xs[j] by simp [spanAt, List.getD_eq_getElem?_getD, hj]] at hu
/-- A slice that a call has made, in a region that draws its order. -/
def RSl {α : Type} (dk : Kd α) (m0 : Nat) (xs : List α) (v : Value) (W : World) : Prop := ∃ s : SV, v = .slice s.a xs.length s.c ∧ Sl dk (fun k => m0 ≤ k) W s xs
theorem RSl.stable {α : Type} {dk : Kd α} {m0 : Nat} {xs : List α} (u : Value) (W W' : World) (h : RSl dk m0 xs u W) (hl : Later W W') : RSl dk m0 xs u W' := by
  obtain ⟨s, e, h⟩ := h
  exact ⟨s, e, h.move fun k _ hk => hl.block k hk⟩
theorem RSl.of {α : Type} {dk : Kd α} {xs : List α} {f : FuncId} {vs : List Value} {W0 W : World} (hB : Later W0 W) (h0 : 0 < dk.sz) (h : Ret P f vs W (fun v W' => ∃ s : SV, v = .slice s.a xs.length s.c ∧ Sl dk (fun k => W.heap.size ≤ k) W' s xs)) : Ret P f vs W (RSl dk W0.heap.size xs) :=
  h.mono fun v W' _ ⟨s, e, hs⟩ => ⟨s, e, hs.wide (fun k hk _ => Nat.le_trans hB.size hk) (fun _ _ => h0)⟩
end
end Go.Proofs.YtdnodlgebpnfoaaGreat
