/- What the proof of EngineRates leans on, part 3: plain mathematics, the engine of the walks, the walks. -/
import Derived.Test.YtdnodlgebpnfoaaGreatK2EngineRates
set_option linter.unusedVariables false
set_option linter.unusedSimpArgs false
set_option linter.unnecessarySimpa false
namespace Go.Proofs.YtdnodlgebpnfoaaGreat
open Go Go.RowKit Go.Shelf Sw
structure LimV where
  V : TV
  t : Tab
  lo : Int
  hi : Int
abbrev limC (x : LimV) : List Value := [.slice x.V.x.a x.t.X.length x.V.x.c, .slice x.V.y.a x.t.Y.length x.V.y.c, .slice x.V.v.a x.t.V.length x.V.v.c, .int .i64 x.lo, .int .i64 x.hi]
structure LookV where
  V : TV
  t : Tab
  p : Span
  q : Span
abbrev lookC (x : LookV) : List Value := [.slice x.V.x.a x.t.X.length x.V.x.c, .slice x.V.y.a x.t.Y.length x.V.y.c, .slice x.V.v.a x.t.V.length x.V.v.c, .int .i64 x.p.lo, .int .i64 x.p.hi, .int .i64 x.q.lo, .int .i64 x.q.hi]
abbrev kLook : Kd LookV := kOf lookC 7 104 (by decide) (fun _ => rfl)
abbrev machC (V : RV) (r : Rot) (a : Air) : List Value :=
  [.slice V.hover.x.a r.hover.X.length V.hover.x.c, .slice V.hover.y.a r.hover.Y.length V.hover.y.c, .slice V.hover.v.a r.hover.V.length V.hover.v.c,
   .slice V.ground.x.a r.ground.X.length V.ground.x.c, .slice V.ground.y.a r.ground.Y.length V.ground.y.c, .slice V.ground.v.a r.ground.V.length V.ground.v.c,
   .slice V.level.x.a r.level.X.length V.level.x.c, .slice V.level.y.a r.level.Y.length V.level.y.c, .slice V.level.v.a r.level.V.length V.level.v.c,
   .slice V.power.x.a r.power.X.length V.power.x.c, .slice V.power.y.a r.power.Y.length V.power.y.c, .slice V.power.v.a r.power.V.length V.power.v.c,
   .slice V.never.x.a r.never.X.length V.never.x.c, .slice V.never.y.a r.never.Y.length V.never.y.c, .slice V.never.v.a r.never.V.length V.never.v.c,
   .slice V.low.x.a r.low.X.length V.low.x.c, .slice V.low.y.a r.low.Y.length V.low.y.c, .slice V.low.v.a r.low.V.length V.low.v.c,
   .slice V.high.x.a r.high.X.length V.high.x.c, .slice V.high.y.a r.high.Y.length V.high.y.c, .slice V.high.v.a r.high.V.length V.high.v.c,
   .slice V.glide.x.a r.glide.X.length V.glide.x.c, .slice V.glide.y.a r.glide.Y.length V.glide.y.c, .slice V.glide.v.a r.glide.V.length V.glide.v.c,
   .int .i64 r.climb, .int .i64 r.burn,
   .int .i64 a.weight.lo, .int .i64 a.weight.hi, .int .i64 a.temp.lo, .int .i64 a.temp.hi, .int .i64 a.height.lo, .int .i64 a.height.hi, .int .i64 a.wind.lo, .int .i64 a.wind.hi]
def limAt (xs : List LimV) (j : Nat) : LimV := xs.getD j ⟨⟨⟨none, 0⟩, ⟨none, 0⟩, ⟨none, 0⟩⟩, ⟨[], [], []⟩, 0, 0⟩
def lookD : LookV := ⟨⟨⟨none, 0⟩, ⟨none, 0⟩, ⟨none, 0⟩⟩, ⟨[], [], []⟩, ⟨0, 0⟩, ⟨0, 0⟩⟩
def lookAt (xs : List LookV) (j : Nat) : LookV := xs.getD j lookD
theorem limAt_mem {xs : List LimV} {j : Nat} (h : j < xs.length) : limAt xs j ∈ xs := getD_mem h
theorem lookAt_mem {xs : List LookV} {j : Nat} (h : j < xs.length) : lookAt xs j ∈ xs := getD_mem h
section
variable {ds : List Nat} {w W W0 : World} {n : Nat} {a : Act} {κ : KV} {l : List Blk} {Φ : World → Prop} {T : TypeId} {C : World → Prop} {F : Nat → Prop} {s : SV}
theorem sl_of {α : Type} {enc : α → List Value} {nn bb : Nat} {hb : 0 < bb} {hl : ∀ x, (enc x).length = nn} {xs : List α} (H : ∀ W, C W → Sl (kOf enc nn bb hb hl) F W s xs) (h0 : C W0) (d : α) {i : Int} {j : Nat} (e : i = (j : Int)) (hj : j < xs.length) :
    ∃ ad, s.a = some ad ∧ ∀ W, C W → CellsAt W (ad.add (i.toNat * nn)) (enc (xs.getD j d)) := by
  subst e
  have key : ∀ W, Sl (kOf enc nn bb hb hl) F W s xs → ∃ ad, s.a = some ad ∧ CellsAt W (ad.add (j * nn)) (enc (xs.getD j d)) := by
    intro W h
    obtain ⟨ad, cs, h1, _, h3, h4⟩ := h.2.2 j hj
    have h3' : cs = enc xs[j] := h3
    subst h3'
    refine ⟨ad, h1, fun k u hu => ?_⟩
    rw [add_add]
    refine h4 k u ?_
    rwa [show xs.getD j d = xs[j] by simp [List.getD_eq_getElem?_getD, hj]] at hu
  obtain ⟨ad, h1, _⟩ := key W0 (H W0 h0)
  refine ⟨ad, h1, fun W hC => ?_⟩
  obtain ⟨ad', h3, h4⟩ := key W (H W hC)
  rw [h1] at h3; cases h3
  rw [Int.toNat_natCast]; exact h4
theorem St.freeze {α : Type} {enc : α → List Value} {nn bb b : Nat} {hb : 0 < bb} {hl : ∀ x, (enc x).length = nn} {cs : List Value} (xs : List α) (hS : St ds w W n a κ (⟨b, cs, T⟩ :: l) Φ) (hcs : cs = xs.flatMap enc) (hbd : xs.length * bb ≤ 140737488355328) :
    St ds w W n a κ l (fun W => Φ W ∧ Sl (kOf enc nn bb hb hl) (fun k => k = b) W ⟨some ⟨b, 0, none⟩, xs.length⟩ xs) := by
  subst hcs
  have h1 := own_sl_of (dk := kOf enc nn bb hb hl) (enc := enc) (xs := xs) (fun _ _ _ => rfl) hS (i := 0) rfl hbd
  have h2 : Sl (kOf enc nn bb hb hl) (fun k => k = b) W ⟨some ⟨b, 0, none⟩, xs.length⟩ xs := by
    refine ⟨h1.1, h1.2.1, fun j hj => ?_⟩
    obtain ⟨ad, cs, e1, _, e3, e4⟩ := h1.2.2 j hj
    refine ⟨ad, cs, e1, ?_, e3, e4⟩
    have : ad = ⟨b, 0, none⟩ := (Option.some.inj e1).symm
    rw [this]
  have hd := List.pairwise_cons.1 hS.dist
  exact (hS.drop (List.sublist_cons_self _ _)).more fun W' ho _ => h2.move fun k hk hlt => ho.same k hlt fun B hB e => hd.1 B hB (by rw [← e]; exact hk.symm)
theorem run_field {P : Program} {x : Operand} {ty : TypeId} {pos : String} {af : Array Edge} {g : Option (Nat × Bool)} {d f : Nat} {v u : Value} (hf : ∀ W, (Instr.field T v f).run P W = .ok u W) (hS : St ds w W n a κ l Φ) (hx : ev κ x = some v) : (execOp a.eval ⟨some d, .field T x f, ty, pos, af, g⟩).run P W = .ok (.value u) W := by
  simp only [execOp, hS.ev hx]
  rw [Sem.run_bind, hf W]; rfl
theorem run_idxArr {P : Program} {x y : Operand} {ty : TypeId} {pos : String} {af : Array Edge} {g : Option (Nat × Bool)} {d : Nat} {v1 v2 u : Value} (hf : ∀ W, (Instr.indexAt T v1 v2).run P W = .ok u W) (hS : St ds w W n a κ l Φ) (hx : ev κ x = some v1) (hy : ev κ y = some v2) : (execOp a.eval ⟨some d, .indexAddr T x y, ty, pos, af, g⟩).run P W = .ok (.value u) W := by
  simp only [execOp, hS.ev hx, hS.ev hy]
  rw [Sem.run_bind, hf W]; rfl
theorem own_new {α : Type} {enc : α → List Value} {nn bb b i : Nat} {hb : 0 < bb} {hl : ∀ x, (enc x).length = nn} {cs : List Value} (xs : List α) (hS : St ds w W n a κ l Φ) (hB : nthB l i = some ⟨b, cs, T⟩) (hcs : cs = xs.flatMap enc) (hbd : xs.length * bb ≤ 140737488355328) :
    Sl (kOf enc nn bb hb hl) (fun k => w.heap.size ≤ k) W ⟨some ⟨b, 0, none⟩, xs.length⟩ xs := by
  subst hcs
  have h1 := own_sl_of (dk := kOf enc nn bb hb hl) (enc := enc) (xs := xs) (fun _ _ _ => rfl) hS hB hbd
  refine ⟨h1.1, h1.2.1, fun j hj => ?_⟩
  obtain ⟨ad, cs, e1, _, e3, e4⟩ := h1.2.2 j hj
  refine ⟨ad, cs, e1, ?_, e3, e4⟩
  have : ad = ⟨b, 0, none⟩ := (Option.some.inj e1).symm
  rw [this]; exact hS.old _ (nthB_in hB)
theorem sl_nil {α : Type} (dk : Kd α) (F : Nat → Prop) (W : World) : Sl dk F W ⟨none, 0⟩ [] := ⟨Nat.zero_le _, by simp, fun j hj => by simp at hj⟩
end
def lims (V : RV) (r : Rot) : List LimV := [⟨V.hover, r.hover, 0, 100000⟩, ⟨V.ground, r.ground, 0, 100⟩, ⟨V.level, r.level, 0, 100000⟩, ⟨V.power, r.power, 0, 100000⟩, ⟨V.never, r.never, 0, 10000⟩, ⟨V.low, r.low, 0, 10000⟩, ⟨V.high, r.high, 0, 10000⟩, ⟨V.glide, r.glide, 1, 10000⟩]
theorem lims_tab {F : Nat → Prop} {W : World} {V : RV} {r : Rot} (h : RotR F W V r) : ∀ x ∈ lims V r, TabR F W x.V x.t := by
  intro x hx
  simp only [lims, List.mem_cons, List.not_mem_nil, or_false] at hx
  rcases hx with rfl | rfl | rfl | rfl | rfl | rfl | rfl | rfl
  · exact h.hover
  · exact h.ground
  · exact h.level
  · exact h.power
  · exact h.never
  · exact h.low
  · exact h.high
  · exact h.glide
def limsOk (r : Rot) : Bool := filled r.hover 0 100000 && filled r.ground 0 100 && filled r.level 0 100000 && filled r.power 0 100000 && filled r.never 0 10000 && filled r.low 0 10000 && filled r.high 0 10000 && filled r.glide 1 10000
theorem lims_all (V : RV) (r : Rot) : (lims V r).all (fun x => filled x.t x.lo x.hi) = limsOk r := by
  simp [lims, limsOk, Bool.and_assoc]
end Go.Proofs.YtdnodlgebpnfoaaGreat
namespace Go.Proofs.YtdnodlgebpnfoaaGreat
open Go Go.RowKit Go.Shelf Sw
set_option maxHeartbeats 2000000 in
set_option maxRecDepth 100000 in
theorem rotor_lim1 {x : LimV} {n : Int} (pc1 : Addr) {w : World} (hc1 : CellsAt w pc1 (limC x))  : Ret Tryz.prog 241 [.int .i64 n, .pointer (some pc1)] w (fun v _ => v = .bool (!(within n x.lo x.hi))) := by
 refine ret_start (n := 11) Tryz.func241 rfl rfl rfl (fun a hS => ?_)
 have Hc1 : ∀ W, Below w.heap.size w W → CellsAt W pc1 (limC x) := fun W hb => hc1.at_ hb
 refine wpIn_seq ?_
 refine wpIn_region_lit ?_
 refine st_v hS rfl rfl (run_assign hS rfl) fun a hS => wl_nil ?_
 refine wpIn_seq ?_
 refine wpIn_region_lit ?_
 refine st_v hS rfl rfl (run_move hS rfl) fun a hS => st_v hS rfl rfl (run_fieldAddrE fe223_1 hS rfl) fun a hS => st_v hS rfl rfl (run_load_cell Tryz.isAgg3 hS rfl (Hc1 _ hS.below 3 _ rfl)) fun a hS => st_v hS rfl rfl (run_fieldAddrE fe223_2 hS rfl) fun a hS => st_v hS rfl rfl (run_load_cell Tryz.isAgg3 hS rfl (Hc1 _ hS.below 4 _ rfl)) fun a hS => st_call (rotor_within) Tryz.call81 hS rfl rfl rfl fun v W a hR hB hlt hS => ?_
 subst hR
 refine st_v hS rfl rfl (run_not hS rfl) fun a hS => st_v hS rfl rfl (run_assign hS rfl) fun a hS => wl_nil ?_
 refine wpIn_ret ?_
 repeat (first | refine q_ret ?_ | refine q_block_ret ?_)
 refine hS.done (res1 (fn := Tryz.f241) (r1 := .tmp 3) rfl (rv_tmp hS rfl)) ?_
 rfl
set_option maxHeartbeats 2000000 in
set_option maxRecDepth 100000 in
theorem rotor_lim2 {x : LimV} {p1 : Addr} (srow : SV) (row : List Int) (pc1 : Addr) {w : World} {Frow : Nat → Prop} (hrow : Sl kInt Frow w srow row) (hc1 : w.cell? pc1 = some (.func (.func 241) #[] #[.pointer (some p1)])) (hp1 : CellsAt w p1 (limC x)) : Ret Tryz.prog 242 [.slice srow.a row.length srow.c, .pointer (some pc1)] w (fun v _ => v = .bool (row.any fun n => !(within n x.lo x.hi))) := by
 refine ret_start (n := 7) Tryz.func242 rfl rfl rfl (fun a hS => ?_)
 have Hrow : ∀ W, Below w.heap.size w W → Sl kInt Frow W srow row := fun W hb => hrow.at_ hb
 have hmrow := hrow.len
 have Hc1 : ∀ W, Below w.heap.size w W → W.cell? pc1 = some (.func (.func 241) #[] #[.pointer (some p1)]) := fun W hb => cell_at hc1 hb
 refine wpIn_seq ?_
 refine wpIn_region_lit ?_
 refine st_v hS rfl rfl (run_assign hS rfl) fun a hS => wl_nil ?_
 refine wpIn_seq ?_
 refine wpIn_region_lit ?_
 refine st_v hS rfl rfl (run_move hS rfl) fun a hS => st_v hS rfl rfl (run_load_cell Tryz.isAgg187 hS rfl (Hc1 _ hS.below)) fun a hS => st_call (has_int srow row 241 [.pointer (some p1)] (fun n => !(within n x.lo x.hi)) (Hrow _ hS.below) Tryz.call241 (fun W' hb n hn => rotor_lim1 _ (hp1.at_ (hS.below.trans (hb.mono hS.below.size))))) Tryz.call227 hS rfl rfl rfl fun v W a hR hB hlt hS => ?_
 subst hR
 refine st_v hS rfl rfl (run_assign hS rfl) fun a hS => wl_nil ?_
 refine wpIn_ret ?_
 repeat (first | refine q_ret ?_ | refine q_block_ret ?_)
 refine hS.done (res1 (fn := Tryz.f242) (r1 := .tmp 3) rfl (rv_tmp hS rfl)) ?_
 rfl
set_option maxHeartbeats 2000000 in
set_option maxRecDepth 100000 in
theorem rotor_right  (x : LimV) {w : World} {Fx : Nat → Prop} (hx : TabR Fx w x.V x.t)  : Ret Tryz.prog 205 [.agg (limC x).toArray] w (fun v _ => v = .bool (filled x.t x.lo x.hi)) := by
 refine ret_start (n := 17) Tryz.func205 rfl rfl rfl (fun a hS => ?_)
 have Hx : ∀ W, Below w.heap.size w W → TabR Fx W x.V x.t := fun W hb => hx.move (keep_of hb)
 have hmxx := hx.1.len
 have hmxy := hx.2.1.len
 have hmxv := hx.2.2.len
 refine wpIn_seq ?_
 refine wpIn_region_lit ?_
 refine st_box_agg hS rfl rfl rfl fun W a b0 hS => st_v hS rfl rfl (run_assign hS rfl) fun a hS => wl_nil ?_
 refine wpIn_seq ?_
 refine wpIn_region_lit ?_
 refine st_v hS rfl rfl (run_makeFunc hS rfl rfl) fun a hS => st_alloc_one Tryz.zeroValue187 rfl hS rfl rfl fun W a b1 hS => st_store (i := 0) Tryz.sizeOf187 hS rfl rfl rfl rfl rfl rfl rfl rfl rfl fun W a hS => wl_nil ?_
 refine wpIn_seq ?_
 refine wpIn_region_lit ?_
 refine st_v hS rfl rfl (run_fieldAddr fa223_0 hS rfl) fun a hS => st_v hS rfl rfl (run_load_agg (i := 1) (vs := [_, _, _]) Tryz.isAgg25 Tryz.sizeOf25 hS rfl rfl rfl ⟨rfl, rfl, rfl, trivial⟩) fun a hS => st_call (spans_CheckTable x.V x.t (Hx _ hS.below)) Tryz.call186 hS rfl rfl rfl fun v W a hR hB hlt hS => ?_
 subst hR
 refine st_v hS rfl rfl (run_bin hS rfl rfl rfl) fun a hS => st_v hS rfl rfl (run_move hS rfl) fun a hS => ?_
 refine st_split (d := 9) hS rfl (fun hc1 hS => ?_) (fun hc1 hS => ?_)
 ·
  try simp only [ty] at hc1
  refine st_v hS (hS.wanted rfl rfl rfl) rfl (run_fieldAddr fa223_0 hS rfl) fun a hS => st_v hS (hS.wanted rfl rfl rfl) rfl (run_fieldAddr fa25_2 hS rfl) fun a hS => st_v hS (hS.wanted rfl rfl rfl) rfl (run_load_one (i := 1) Tryz.isAgg23 hS rfl rfl rfl) fun a hS => st_v hS (hS.wanted rfl rfl rfl) rfl (run_makeFunc hS rfl rfl) fun a hS => st_call (has_row x.V.v x.t.V 242 [.pointer (some ⟨b1, 0, none⟩)] (fun row => row.any fun n => !(within n x.lo x.hi)) (Hx _ hS.below).2.2 Tryz.call242 (fun W' hb s' row hm hrow => rotor_lim2 s' row _ hrow (hS.cell0 (i := 0) rfl _ hb) (hS.cells (i := 1) rfl _ hb))) Tryz.call229 hS (hS.wanted rfl rfl rfl) rfl rfl fun v W a hR hB hlt hS => ?_
  subst hR
  refine st_v hS (hS.wanted rfl rfl rfl) rfl (run_not hS rfl) fun a hS => st_v hS rfl rfl (run_pick_t hS rfl rfl) fun a hS => st_v hS rfl rfl (run_assign hS rfl) fun a hS => wl_nil ?_
  refine wpIn_ret ?_
  repeat (first | refine q_ret ?_ | refine q_block_ret ?_)
  refine hS.done (res1 (fn := Tryz.f205) (r1 := .tmp 2) rfl (rv_tmp hS rfl)) ?_
  have h : tabOk x.t = true := by simpa using hc1
  refine vb ?_; simp [filled, inAll, h]
 ·
  try simp only [ty] at hc1
  refine st_skip hS (hS.unwanted rfl rfl rfl rfl) rfl fun a hS => st_skip hS (hS.unwanted rfl rfl rfl rfl) rfl fun a hS => st_skip hS (hS.unwanted rfl rfl rfl rfl) rfl fun a hS => st_skip hS (hS.unwanted rfl rfl rfl rfl) rfl fun a hS => st_skip hS (hS.unwanted rfl rfl rfl rfl) rfl fun a hS => st_skip hS (hS.unwanted rfl rfl rfl rfl) rfl fun a hS => st_v hS rfl rfl (run_pick_f hS rfl rfl) fun a hS => st_v hS rfl rfl (run_assign hS rfl) fun a hS => wl_nil ?_
  refine wpIn_ret ?_
  repeat (first | refine q_ret ?_ | refine q_block_ret ?_)
  refine hS.done (res1 (fn := Tryz.f205) (r1 := .tmp 2) rfl (rv_tmp hS rfl)) ?_
  have h : tabOk x.t = false := by simpa using hc1
  refine vb ?_; simp [filled, h]
theorem ix_ext {l m : List Int} (h : l.length = m.length) (hj : ∀ j, j < l.length → ix l j = ix m j) : l = m := by
  refine List.ext_getElem h fun j h1 h2 => ?_
  have := hj j h1
  simpa [ix, List.getD_eq_getElem?_getD, h1, h2] using this
theorem rotOk_eq (r : Rot) : rotOk r = (limsOk r && (decide (r.low.X = r.high.X) && decide (r.low.Y = r.high.Y) && within r.climb 1 1000 && within r.burn 1 1000 && notAbove r.low r.high)) := rfl
theorem lims_bad {V : RV} {r : Rot} {x : Nat} (h : x < 8) (hb : filled (limAt (lims V r) x).t (limAt (lims V r) x).lo (limAt (lims V r) x).hi = false) : rotOk r = false := by
  rw [rotOk_eq, ← lims_all V r, all_bad (l := lims V r) (p := fun x => filled x.t x.lo x.hi) (i := x) h hb, Bool.false_and]
theorem lims_good {V : RV} {r : Rot} (hb : ∀ x, x < 8 → filled (limAt (lims V r) x).t (limAt (lims V r) x).lo (limAt (lims V r) x).hi = true) : limsOk r = true := by
  rw [← lims_all V r]; exact all_good (l := lims V r) (p := fun x => filled x.t x.lo x.hi) fun i hi => hb i hi
theorem above_bad {s t : Tab} {i k : Nat} (hi : i < s.X.length) (hk : k < s.Y.length) (h : vat s i k > vat t i k) : notAbove s t = false := by
  unfold notAbove
  rw [List.all_eq_false]
  refine ⟨i, by simpa using hi, ?_⟩
  rw [Bool.not_eq_true, List.all_eq_false]
  exact ⟨k, by simpa using hk, by simp; omega⟩
theorem above_good {s t : Tab} (h : ∀ i k, i < s.X.length → k < s.Y.length → vat s i k ≤ vat t i k) : notAbove s t = true := by
  unfold notAbove
  simp only [List.all_eq_true, List.mem_range, decide_eq_true_eq]
  intro i hi k hk; exact h i k hi hk
theorem lims_low {r : Rot} (h : limsOk r = true) : tabOk r.low = true ∧ tabOk r.high = true := by
  simp only [limsOk, filled, Bool.and_eq_true] at h
  exact ⟨h.1.1.2.1, h.1.2.1⟩
set_option maxHeartbeats 2000000 in
set_option maxRecDepth 100000 in
theorem slices_Equal  (sl : SV) (l : List Int) (sm : SV) (m : List Int) {w : World} {Fl : Nat → Prop} (hl : Sl kInt Fl w sl l) {Fm : Nat → Prop} (hm : Sl kInt Fm w sm m)  : Ret Tryz.prog 206 [.slice sl.a l.length sl.c, .slice sm.a m.length sm.c] w (fun v _ => v = .bool (decide (l = m))) := by
 refine ret_start (n := 26) Tryz.func206 rfl rfl rfl (fun a hS => ?_)
 have Hl : ∀ W, Below w.heap.size w W → Sl kInt Fl W sl l := fun W hb => hl.at_ hb
 have hml := hl.len
 have Hm : ∀ W, Below w.heap.size w W → Sl kInt Fm W sm m := fun W hb => hm.at_ hb
 have hmm := hm.len
 refine wpIn_seq ?_
 refine wpIn_region_lit ?_
 refine st_v hS rfl rfl (run_assign hS rfl) fun a hS => wl_nil ?_
 refine wpIn_seq ?_
 refine wpIn_seq ?_
 refine wpIn_region_lit ?_
 refine st_v hS rfl rfl (run_move hS rfl) fun a hS => st_v hS rfl rfl (run_len_slice Tryz.underlying22 hS rfl) fun a hS => st_v hS rfl rfl (run_move hS rfl) fun a hS => st_v hS rfl rfl (run_len_slice Tryz.underlying22 hS rfl) fun a hS => st_v hS rfl rfl (run_bin hS rfl rfl rfl) fun a hS => wl_nil ?_
 refine st_cond hS rfl (fun hc1 => ?_) (fun hc1 => ?_)
 ·
  try simp only [ty] at hc1
  refine wpIn_seq ?_
  refine wpIn_region_lit ?_
  refine st_v hS rfl rfl (run_assign hS rfl) fun a hS => wl_nil ?_
  refine wpIn_ret ?_
  repeat (first | refine q_ret ?_ | refine q_block_ret ?_)
  refine hS.done (res1 (fn := Tryz.f206) (r1 := .tmp 4) rfl (rv_tmp hS rfl)) ?_
  refine vb ?_; simp only [Bool.false_eq_true, decide_eq_true_eq, false_iff]; intro e; subst e; omega
 ·
  try simp only [ty] at hc1
  refine wpIn_skip ?_
  refine wpIn_seq ?_
  refine wpIn_seq ?_
  refine wpIn_region_lit ?_
  refine st_v hS rfl rfl (run_move hS rfl) fun a hS => st_v hS rfl rfl (run_len_slice Tryz.underlying22 hS rfl) fun a hS => st_v hS rfl rfl (run_move hS rfl) fun a hS => wl_nil ?_
  refine wpIn_block ?_
  refine st_loop2 (α := Nat) (fun x => [(13, .int .i64 (((x : Nat) : Int)))]) [(0, _), (1, _), (12, _)] (fun l _ => l) (fun x => x ≤ l.length ∧ ∀ j, j < x → ix l j = ix m j) (fun x => l.length - x) (0) hS (Sub.cons rfl (Sub.cons rfl (Sub.cons rfl (Sub.cons rfl Sub.nil)))) rfl (⟨Nat.zero_le _, fun j hj => absurd hj (Nat.not_lt_zero j)⟩) (fun x W a hφ hS => ?_)
  dsimp only [setB, List.cons_append, List.nil_append, List.take] at hS
  obtain ⟨hx, hg⟩ := hφ
  refine wpIn_seq ?_
  refine wpIn_region_lit ?_
  refine st_v hS rfl rfl (run_bin hS rfl rfl rfl) fun a hS => wl_nil ?_
  refine wpIn_seq ?_
  refine st_cond hS rfl (fun hc2 => ?_) (fun hc2 => ?_)
  ·
   try simp only [ty] at hc2
   refine wpIn_skip ?_
   refine wpIn_seq ?_
   refine wpIn_block ?_
   refine wpIn_seq ?_
   refine wpIn_region_lit ?_
   refine st_v hS rfl rfl (run_move hS rfl) fun a hS => st_v hS rfl rfl (run_assign hS rfl) fun a hS => wl_nil ?_
   refine wpIn_seq ?_
   refine st_draw (by kernel_rfl) (by kernel_rfl) hS ?_
   refine qt_v hS rfl rfl (fun W hB hS => run_move hS rfl) fun a hS => qt_v hS rfl rfl (fun W hB hS => run_move hS rfl) fun a hS => ?_
   obtain ⟨ad0, hA0, hL0⟩ := sl_int Hl (Below.refl _ _) (i := ((x : Nat) : Int)) (j := x) (by omega) (by omega)
   refine qt_v hS rfl rfl (fun W hB hS => run_indexAddr Tryz.underlying22 Tryz.sizeOf3 hS rfl rfl hA0 (by omega) (by omega)) fun a hS => qt_v hS rfl rfl (fun W hB hS => run_load_cell Tryz.isAgg3 hS rfl (hL0 _ hS.below)) fun a hS => qt_v hS rfl rfl (fun W hB hS => run_move hS rfl) fun a hS => qt_v hS rfl rfl (fun W hB hS => run_move hS rfl) fun a hS => ?_
   obtain ⟨ad1, hA1, hL1⟩ := sl_int Hm (Below.refl _ _) (i := ((x : Nat) : Int)) (j := x) (by omega) (by omega)
   refine qt_v hS rfl rfl (fun W hB hS => run_indexAddr Tryz.underlying22 Tryz.sizeOf3 hS rfl rfl hA1 (by omega) (by omega)) fun a hS => qt_v hS rfl rfl (fun W hB hS => run_load_cell Tryz.isAgg3 hS rfl (hL1 _ hS.below)) fun a hS => qt_v hS rfl rfl (fun W hB hS => run_bin hS rfl rfl rfl) fun a hS => qt_nil hS fun W hS => ?_
   refine st_cond hS rfl (fun hc3 => ?_) (fun hc3 => ?_)
   ·
    try simp only [ty] at hc3
    refine wpIn_seq ?_
    refine wpIn_region_lit ?_
    refine st_v hS rfl rfl (run_assign hS rfl) fun a hS => wl_nil ?_
    refine wpIn_ret ?_
    repeat (first | refine q_ret ?_ | refine q_block_ret ?_)
    refine hS.done (res1 (fn := Tryz.f206) (r1 := .tmp 4) rfl (rv_tmp hS rfl)) ?_
    refine vb ?_; simp only [Bool.false_eq_true, decide_eq_true_eq, false_iff]; intro e; subst e; simp at hc3
   ·
    try simp only [ty] at hc3
    refine wpIn_skip ?_
    refine wpIn_region_lit ?_
    refine st_v hS rfl rfl (run_add (t := ((x + 1 : Nat) : Int)) hS rfl rfl (by omega) (by omega) (by omega)) fun a hS => st_v hS rfl rfl (run_move hS rfl) fun a hS => wl_nil ?_
    refine ⟨x + 1, ⟨⟨by omega, fun j hj => ?_⟩, by omega⟩, (hS.sub (Sub.cons rfl (Sub.cons rfl (Sub.cons rfl (Sub.cons rfl Sub.nil)))))⟩
    by_cases e : j = x
    · subst e; simpa using hc3
    · exact hg j (by omega)
  ·
   try simp only [ty] at hc2
   refine wpIn_exit ?_
   refine wpIn_seq ?_
   refine wpIn_region_lit ?_
   refine st_v hS rfl rfl (run_assign hS rfl) fun a hS => wl_nil ?_
   refine wpIn_ret ?_
   repeat (first | refine q_ret ?_ | refine q_block_ret ?_)
   refine hS.done (res1 (fn := Tryz.f206) (r1 := .tmp 4) rfl (rv_tmp hS rfl)) ?_
   refine vb ?_; simp only [decide_eq_true_eq, true_iff]; exact ix_ext (by omega) (fun j hj => hg j (by omega))
set_option maxHeartbeats 4000000 in
set_option maxRecDepth 100000 in
theorem rotor_Check  (Vr : RV) (r : Rot) {w : World} {Fr : Nat → Prop} (hr : RotR Fr w Vr r)  : Ret Tryz.prog 154 [.agg (rotC Vr r).toArray] w (fun v _ => v = .int .i64 (checkRot r)) := by
 refine ret_start (n := 102) Tryz.func154 rfl rfl rfl (fun a hS => ?_)
 have Hr : ∀ W, Below w.heap.size w W → RotR Fr W Vr r := fun W hb => hr.move (keep_of hb)
 refine wpIn_seq ?_
 refine wpIn_region_lit ?_
 refine st_box_agg hS rfl rfl rfl fun W a b0 hS => st_v hS rfl rfl (run_assign hS rfl) fun a hS => wl_nil ?_
 refine wpIn_seq ?_
 refine wpIn_seq ?_
 refine wpIn_region_lit ?_
 refine st_v hS rfl rfl (run_fieldAddr fa27_0 hS rfl) fun a hS => st_v hS rfl rfl (run_load_agg (i := 0) (vs := [_, _, _]) Tryz.isAgg25 Tryz.sizeOf25 hS rfl rfl rfl ⟨rfl, rfl, rfl, trivial⟩) fun a hS => st_v hS rfl rfl (run_build (pv := [(0, .agg #[.slice _ _ _, .slice _ _ _, .slice _ _ _]), (1, .int .i64 _), (2, .int .i64 _)]) (fun W => bd223_0_1_2 _ _ _ _ _ _ _ _ _ _ _ W) hS rfl) fun a hS => st_v hS rfl rfl (run_fieldAddr fa27_1 hS rfl) fun a hS => st_v hS rfl rfl (run_load_agg (i := 0) (vs := [_, _, _]) Tryz.isAgg25 Tryz.sizeOf25 hS rfl rfl rfl ⟨rfl, rfl, rfl, trivial⟩) fun a hS => st_v hS rfl rfl (run_build (pv := [(0, .agg #[.slice _ _ _, .slice _ _ _, .slice _ _ _]), (1, .int .i64 _), (2, .int .i64 _)]) (fun W => bd223_0_1_2 _ _ _ _ _ _ _ _ _ _ _ W) hS rfl) fun a hS => st_v hS rfl rfl (run_fieldAddr fa27_2 hS rfl) fun a hS => st_v hS rfl rfl (run_load_agg (i := 0) (vs := [_, _, _]) Tryz.isAgg25 Tryz.sizeOf25 hS rfl rfl rfl ⟨rfl, rfl, rfl, trivial⟩) fun a hS => st_v hS rfl rfl (run_build (pv := [(0, .agg #[.slice _ _ _, .slice _ _ _, .slice _ _ _]), (1, .int .i64 _), (2, .int .i64 _)]) (fun W => bd223_0_1_2 _ _ _ _ _ _ _ _ _ _ _ W) hS rfl) fun a hS => st_v hS rfl rfl (run_fieldAddr fa27_3 hS rfl) fun a hS => st_v hS rfl rfl (run_load_agg (i := 0) (vs := [_, _, _]) Tryz.isAgg25 Tryz.sizeOf25 hS rfl rfl rfl ⟨rfl, rfl, rfl, trivial⟩) fun a hS => st_v hS rfl rfl (run_build (pv := [(0, .agg #[.slice _ _ _, .slice _ _ _, .slice _ _ _]), (1, .int .i64 _), (2, .int .i64 _)]) (fun W => bd223_0_1_2 _ _ _ _ _ _ _ _ _ _ _ W) hS rfl) fun a hS => st_v hS rfl rfl (run_fieldAddr fa27_4 hS rfl) fun a hS => st_v hS rfl rfl (run_load_agg (i := 0) (vs := [_, _, _]) Tryz.isAgg25 Tryz.sizeOf25 hS rfl rfl rfl ⟨rfl, rfl, rfl, trivial⟩) fun a hS => st_v hS rfl rfl (run_build (pv := [(0, .agg #[.slice _ _ _, .slice _ _ _, .slice _ _ _]), (1, .int .i64 _), (2, .int .i64 _)]) (fun W => bd223_0_1_2 _ _ _ _ _ _ _ _ _ _ _ W) hS rfl) fun a hS => st_v hS rfl rfl (run_fieldAddr fa27_5 hS rfl) fun a hS => st_v hS rfl rfl (run_load_agg (i := 0) (vs := [_, _, _]) Tryz.isAgg25 Tryz.sizeOf25 hS rfl rfl rfl ⟨rfl, rfl, rfl, trivial⟩) fun a hS => st_v hS rfl rfl (run_build (pv := [(0, .agg #[.slice _ _ _, .slice _ _ _, .slice _ _ _]), (1, .int .i64 _), (2, .int .i64 _)]) (fun W => bd223_0_1_2 _ _ _ _ _ _ _ _ _ _ _ W) hS rfl) fun a hS => st_v hS rfl rfl (run_fieldAddr fa27_6 hS rfl) fun a hS => st_v hS rfl rfl (run_load_agg (i := 0) (vs := [_, _, _]) Tryz.isAgg25 Tryz.sizeOf25 hS rfl rfl rfl ⟨rfl, rfl, rfl, trivial⟩) fun a hS => st_v hS rfl rfl (run_build (pv := [(0, .agg #[.slice _ _ _, .slice _ _ _, .slice _ _ _]), (1, .int .i64 _), (2, .int .i64 _)]) (fun W => bd223_0_1_2 _ _ _ _ _ _ _ _ _ _ _ W) hS rfl) fun a hS => st_v hS rfl rfl (run_fieldAddr fa27_7 hS rfl) fun a hS => st_v hS rfl rfl (run_load_agg (i := 0) (vs := [_, _, _]) Tryz.isAgg25 Tryz.sizeOf25 hS rfl rfl rfl ⟨rfl, rfl, rfl, trivial⟩) fun a hS => st_v hS rfl rfl (run_build (pv := [(0, .agg #[.slice _ _ _, .slice _ _ _, .slice _ _ _]), (1, .int .i64 _), (2, .int .i64 _)]) (fun W => bd223_0_1_2 _ _ _ _ _ _ _ _ _ _ _ W) hS rfl) fun a hS => st_buildSlice (pv := [(0, .agg #[.slice _ _ _, .slice _ _ _, .slice _ _ _, .int .i64 _, .int .i64 _]), (1, .agg #[.slice _ _ _, .slice _ _ _, .slice _ _ _, .int .i64 _, .int .i64 _]), (2, .agg #[.slice _ _ _, .slice _ _ _, .slice _ _ _, .int .i64 _, .int .i64 _]), (3, .agg #[.slice _ _ _, .slice _ _ _, .slice _ _ _, .int .i64 _, .int .i64 _]), (4, .agg #[.slice _ _ _, .slice _ _ _, .slice _ _ _, .int .i64 _, .int .i64 _]), (5, .agg #[.slice _ _ _, .slice _ _ _, .slice _ _ _, .int .i64 _, .int .i64 _]), (6, .agg #[.slice _ _ _, .slice _ _ _, .slice _ _ _, .int .i64 _, .int .i64 _]), (7, .agg #[.slice _ _ _, .slice _ _ _, .slice _ _ _, .int .i64 _, .int .i64 _])]) (fun W => bs224_8_0_1_2_3_4_5_6_7 _ _ _ _ _ _ _ _ _ _ _ _ _ _ _ _ _ _ _ _ _ _ _ _ _ _ _ _ _ _ _ _ _ _ _ _ _ _ _ _ _ _ _ _ _ _ _ _ _ _ _ _ _ _ _ _ _ _ _ _ _ _ _ _ _ _ _ _ _ _ _ _ _ _ _ _ _ _ _ _ _ _ _ _ _ _ _ _ W) hS rfl rfl rfl fun W a b1 hS => ?_
 have hS := hS.freeze (enc := limC) (nn := 5) (bb := 88) (hb := by decide) (hl := fun _ => rfl) (lims Vr r) rfl (Nat.le_of_ble_eq_true rfl)
 refine st_v hS rfl rfl (run_len_slice Tryz.underlying224 hS rfl) fun a hS => st_v hS rfl rfl (run_move hS rfl) fun a hS => wl_nil ?_
 refine wpIn_block ?_
 refine st_loop2 (α := Nat) (fun x => [(37, .int .i64 (((x : Nat) : Int)))]) [(0, _), (1, _), (35, _), (36, _)] (fun l _ => l) (fun x => x ≤ 8 ∧ ∀ j, j < x → filled (limAt (lims Vr r) j).t (limAt (lims Vr r) j).lo (limAt (lims Vr r) j).hi = true) (fun x => 8 - x) (0) hS (Sub.cons rfl (Sub.cons rfl (Sub.cons rfl (Sub.cons rfl (Sub.cons rfl Sub.nil))))) rfl (⟨Nat.zero_le _, fun j hj => absurd hj (Nat.not_lt_zero j)⟩) (fun x W a hφ hS => ?_)
 dsimp only [setB, List.cons_append, List.nil_append, List.take] at hS
 obtain ⟨hx, hg⟩ := hφ
 have h8 : (lims Vr r).length = 8 := rfl
 refine wpIn_seq ?_
 refine wpIn_region_lit ?_
 refine st_v hS rfl rfl (run_bin hS rfl rfl rfl) fun a hS => wl_nil ?_
 refine wpIn_seq ?_
 refine st_cond hS rfl (fun hc1 => ?_) (fun hc1 => ?_)
 ·
  try simp only [ty] at hc1
  refine wpIn_skip ?_
  refine wpIn_seq ?_
  refine wpIn_block ?_
  refine wpIn_seq ?_
  refine wpIn_region_lit ?_
  obtain ⟨ad0, hA0, hL0⟩ := sl_of (fun _ h => h) hS.now.2 _ (i := ((x : Nat) : Int)) (j := x) (by omega) (by omega)
  refine st_v hS rfl rfl (run_indexAddr Tryz.underlying224 Tryz.sizeOf223 hS rfl rfl hA0 (by omega) (by omega)) fun a hS => st_v hS rfl rfl (run_load_ext Tryz.isAgg223 Tryz.sizeOf223 hS rfl rfl (hL0 _ hS.now.2)) fun a hS => st_alloc_agg Tryz.zeroValue223 hS rfl rfl fun W a b2 hS => st_store (cs' := [.slice ((((limAt (lims Vr r) (x))).V).x).a ((((limAt (lims Vr r) (x))).t).X).length ((((limAt (lims Vr r) (x))).V).x).c, .slice ((((limAt (lims Vr r) (x))).V).y).a ((((limAt (lims Vr r) (x))).t).Y).length ((((limAt (lims Vr r) (x))).V).y).c, .slice ((((limAt (lims Vr r) (x))).V).v).a ((((limAt (lims Vr r) (x))).t).V).length ((((limAt (lims Vr r) (x))).V).v).c, .int .i64 (((limAt (lims Vr r) (x))).lo), .int .i64 (((limAt (lims Vr r) (x))).hi)]) (i := 0) Tryz.sizeOf223 hS rfl rfl rfl rfl rfl rfl rfl rfl rfl fun W a hS => wl_nil ?_
  refine wpIn_seq ?_
  refine wpIn_region_lit ?_
  refine st_v hS rfl rfl (run_load_all (i := 0) Tryz.isAgg223 Tryz.sizeOf223 hS rfl rfl rfl) fun a hS => st_call (rotor_right (limAt (lims Vr r) (x)) ((fun W hC => (fun W hb x hx => lims_tab (Hr W hb) x hx) W hC _ (limAt_mem (by omega))) _ hS.below)) Tryz.call205 hS rfl rfl rfl fun v W a hR hB hlt hS => ?_
  subst hR
  refine st_v hS rfl rfl (run_not hS rfl) fun a hS => wl_nil ?_
  refine st_cond hS rfl (fun hc2 => ?_) (fun hc2 => ?_)
  ·
   try simp only [ty] at hc2
   refine wpIn_seq ?_
   refine wpIn_region_lit ?_
   refine st_v hS rfl rfl (run_assign hS rfl) fun a hS => wl_nil ?_
   refine wpIn_ret ?_
   repeat (first | refine q_ret ?_ | refine q_block_ret ?_)
   refine hS.done (res1 (fn := Tryz.f154) (r1 := .tmp 2) rfl (rv_tmp hS rfl)) ?_
   rw [checkRot, lims_bad (V := Vr) (x := x) (by omega) (by simpa using hc2)]; rfl
  ·
   try simp only [ty] at hc2
   refine wpIn_skip ?_
   refine wpIn_region_lit ?_
   refine st_v hS rfl rfl (run_add (t := ((x + 1 : Nat) : Int)) hS rfl rfl (by omega) (by omega) (by omega)) fun a hS => st_v hS rfl rfl (run_move hS rfl) fun a hS => wl_nil ?_
   refine ⟨x + 1, ⟨⟨by omega, fun j hj => ?_⟩, by omega⟩, (hS.sub (Sub.cons rfl (Sub.cons rfl (Sub.cons rfl (Sub.cons rfl (Sub.cons rfl Sub.nil)))))).drop (List.Sublist.cons _ (List.Sublist.refl _))⟩
   by_cases e : j = x
   · subst e; simpa using hc2
   · exact hg j (by omega)
 ·
  try simp only [ty] at hc1
  refine wpIn_exit ?_
  refine wpIn_seq ?_
  refine anyh_start (by kernel_rfl) [true] hS fun W hS => ?_
  refine anyh_take (i := 0) [true] hS (fun _ h => h) rfl rfl (by kernel_rfl) (by kernel_rfl) (by kernel_rfl) rfl rfl (fun W' hS => run_fieldAddr fa27_5 hS rfl) fun a hS => ?_
  refine anyh_take (i := 1) [true] hS (fun _ h => h) rfl rfl (by kernel_rfl) (by kernel_rfl) (by kernel_rfl) rfl rfl (fun W' hS => run_load_agg (i := 0) (vs := [_, _, _]) Tryz.isAgg25 Tryz.sizeOf25 hS rfl rfl rfl ⟨rfl, rfl, rfl, trivial⟩) fun a hS => ?_
  refine anyh_take (i := 2) [true] hS (fun _ h => h) rfl rfl (by kernel_rfl) (by kernel_rfl) (by kernel_rfl) rfl rfl (fun W' hS => run_fieldAddr fa27_6 hS rfl) fun a hS => ?_
  refine anyh_take (i := 3) [true] hS (fun _ h => h) rfl rfl (by kernel_rfl) (by kernel_rfl) (by kernel_rfl) rfl rfl (fun W' hS => run_load_agg (i := 0) (vs := [_, _, _]) Tryz.isAgg25 Tryz.sizeOf25 hS rfl rfl rfl ⟨rfl, rfl, rfl, trivial⟩) fun a hS => ?_
  refine anyh_go (rs := [4, 5]) (by kernel_rfl) (by simp) ⟨⟨_, rfl, ?_⟩, ⟨_, rfl, ?_⟩, trivial⟩
  ·
   refine st_alloc_agg Tryz.zeroValue25 hS rfl rfl fun W a b3 hS => wl_nil ?_
   refine anyh_next [false, true] hS (fun _ h => h) rfl ?_
   refine anyh_go (rs := [5]) (by kernel_rfl) (by simp) ⟨⟨_, rfl, ?_⟩, trivial⟩
   refine st_alloc_agg Tryz.zeroValue25 hS rfl rfl fun W a b4 hS => wl_nil ?_
   refine anyh_next [false, false, true] hS (fun _ h => h) rfl ?_
   refine anyh_go (rs := [6]) (by kernel_rfl) (by simp) ⟨⟨_, rfl, ?_⟩, trivial⟩
   refine st_store (i := 1) Tryz.sizeOf25 hS rfl rfl rfl rfl rfl rfl rfl rfl rfl fun W a hS => wl_nil ?_
   refine anyh_next [false, false, true] hS (fun _ h => h) rfl ?_
   refine anyh_go (rs := [7]) (by kernel_rfl) (by simp) ⟨⟨_, rfl, ?_⟩, trivial⟩
   refine st_store (i := 0) Tryz.sizeOf25 hS rfl rfl rfl rfl rfl rfl rfl rfl rfl fun W a hS => wl_nil ?_
   refine anyh_next [false, false, true] hS (fun _ h => h) rfl ?_
   refine anyh_done (by kernel_rfl) ?_ _
   refine wpIn_seq ?_
   refine wpIn_seq ?_
   refine wpIn_region_lit ?_
   refine st_v hS rfl rfl (run_fieldAddr fa25_0 hS rfl) fun a hS => st_v hS rfl rfl (run_load_one (i := 1) Tryz.isAgg22 hS rfl rfl rfl) fun a hS => st_v hS rfl rfl (run_fieldAddr fa25_0 hS rfl) fun a hS => st_v hS rfl rfl (run_load_one (i := 0) Tryz.isAgg22 hS rfl rfl rfl) fun a hS => st_call (slices_Equal Vr.low.x r.low.X Vr.high.x r.high.X ((fun W hC => ((fun W hC => (Hr W hC).low) W hC).1) _ hS.below) ((fun W hC => ((fun W hC => (Hr W hC).high) W hC).1) _ hS.below)) Tryz.call206 hS rfl rfl rfl fun v W a hR hB hlt hS => ?_
   subst hR
   refine st_v hS rfl rfl (run_not hS rfl) fun a hS => st_v hS rfl rfl (run_move hS rfl) fun a hS => ?_
   refine st_split (d := 55) hS rfl (fun hc3 hS => ?_) (fun hc3 hS => ?_)
   ·
    try simp only [ty] at hc3
    refine st_skip hS (hS.unwanted rfl rfl rfl rfl) rfl fun a hS => st_skip hS (hS.unwanted rfl rfl rfl rfl) rfl fun a hS => st_skip hS (hS.unwanted rfl rfl rfl rfl) rfl fun a hS => st_skip hS (hS.unwanted rfl rfl rfl rfl) rfl fun a hS => st_skip hS (hS.unwanted rfl rfl rfl rfl) rfl fun a hS => st_skip hS (hS.unwanted rfl rfl rfl rfl) rfl fun a hS => st_v hS rfl rfl (run_pick_t hS rfl rfl) fun a hS => st_v hS rfl rfl (run_move hS rfl) fun a hS => st_skip hS (hS.unwanted rfl rfl rfl rfl) rfl fun a hS => st_skip hS (hS.unwanted rfl rfl rfl rfl) rfl fun a hS => st_skip hS (hS.unwanted rfl rfl rfl rfl) rfl fun a hS => st_skip hS (hS.unwanted rfl rfl rfl rfl) rfl fun a hS => st_v hS rfl rfl (run_pick_t hS rfl rfl) fun a hS => st_v hS rfl rfl (run_move hS rfl) fun a hS => st_skip hS (hS.unwanted rfl rfl rfl rfl) rfl fun a hS => st_skip hS (hS.unwanted rfl rfl rfl rfl) rfl fun a hS => st_skip hS (hS.unwanted rfl rfl rfl rfl) rfl fun a hS => st_skip hS (hS.unwanted rfl rfl rfl rfl) rfl fun a hS => st_v hS rfl rfl (run_pick_t hS rfl rfl) fun a hS => wl_nil ?_
    have hS := hS.sub (κ' := [(0, _), (1, _), (35, _), (36, _), (37, _), (5, _), (6, _), (74, _)]) (Sub.cons rfl (Sub.cons rfl (Sub.cons rfl (Sub.cons rfl (Sub.cons rfl (Sub.cons rfl (Sub.cons rfl (Sub.cons rfl Sub.nil))))))))
    refine st_cond_t hS rfl ?_
    refine wpIn_seq ?_
    refine wpIn_region_lit ?_
    refine st_v hS rfl rfl (run_assign hS rfl) fun a hS => wl_nil ?_
    refine wpIn_ret ?_
    repeat (first | refine q_ret ?_ | refine q_block_ret ?_)
    refine hS.done (res1 (fn := Tryz.f154) (r1 := .tmp 2) rfl (rv_tmp hS rfl)) ?_
    have h : rotOk r = false := by rw [rotOk_eq]; simp [hc1, hc3]
    rw [checkRot, h]; rfl
   ·
    try simp only [ty] at hc3
    refine st_v hS (hS.wanted rfl rfl rfl) rfl (run_fieldAddr fa25_1 hS rfl) fun a hS => st_v hS (hS.wanted rfl rfl rfl) rfl (run_load_one (i := 1) Tryz.isAgg22 hS rfl rfl rfl) fun a hS => st_v hS (hS.wanted rfl rfl rfl) rfl (run_fieldAddr fa25_1 hS rfl) fun a hS => st_v hS (hS.wanted rfl rfl rfl) rfl (run_load_one (i := 0) Tryz.isAgg22 hS rfl rfl rfl) fun a hS => st_call (slices_Equal Vr.low.y r.low.Y Vr.high.y r.high.Y ((fun W hC => ((fun W hC => (Hr W hC).low) W hC).2.1) _ hS.below) ((fun W hC => ((fun W hC => (Hr W hC).high) W hC).2.1) _ hS.below)) Tryz.call206 hS (hS.wanted rfl rfl rfl) rfl rfl fun v W a hR hB hlt hS => ?_
    subst hR
    refine st_v hS (hS.wanted rfl rfl rfl) rfl (run_not hS rfl) fun a hS => st_v hS rfl rfl (run_pick_f hS rfl rfl) fun a hS => st_v hS rfl rfl (run_move hS rfl) fun a hS => ?_
    refine st_split (d := 63) hS rfl (fun hc4 hS => ?_) (fun hc4 hS => ?_)
    ·
     try simp only [ty] at hc4
     refine st_skip hS (hS.unwanted rfl rfl rfl rfl) rfl fun a hS => st_skip hS (hS.unwanted rfl rfl rfl rfl) rfl fun a hS => st_skip hS (hS.unwanted rfl rfl rfl rfl) rfl fun a hS => st_skip hS (hS.unwanted rfl rfl rfl rfl) rfl fun a hS => st_v hS rfl rfl (run_pick_t hS rfl rfl) fun a hS => st_v hS rfl rfl (run_move hS rfl) fun a hS => st_skip hS (hS.unwanted rfl rfl rfl rfl) rfl fun a hS => st_skip hS (hS.unwanted rfl rfl rfl rfl) rfl fun a hS => st_skip hS (hS.unwanted rfl rfl rfl rfl) rfl fun a hS => st_skip hS (hS.unwanted rfl rfl rfl rfl) rfl fun a hS => st_v hS rfl rfl (run_pick_t hS rfl rfl) fun a hS => wl_nil ?_
     have hS := hS.sub (κ' := [(0, _), (1, _), (35, _), (36, _), (37, _), (5, _), (6, _), (74, _)]) (Sub.cons rfl (Sub.cons rfl (Sub.cons rfl (Sub.cons rfl (Sub.cons rfl (Sub.cons rfl (Sub.cons rfl (Sub.cons rfl Sub.nil))))))))
     refine st_cond_t hS rfl ?_
     refine wpIn_seq ?_
     refine wpIn_region_lit ?_
     refine st_v hS rfl rfl (run_assign hS rfl) fun a hS => wl_nil ?_
     refine wpIn_ret ?_
     repeat (first | refine q_ret ?_ | refine q_block_ret ?_)
     refine hS.done (res1 (fn := Tryz.f154) (r1 := .tmp 2) rfl (rv_tmp hS rfl)) ?_
     have h : rotOk r = false := by rw [rotOk_eq]; simp [hc1, hc3, hc4]
     rw [checkRot, h]; rfl
    ·
     try simp only [ty] at hc4
     refine st_v hS (hS.wanted rfl rfl rfl) rfl (run_fieldAddr fa27_8 hS rfl) fun a hS => st_v hS (hS.wanted rfl rfl rfl) rfl (run_load_one (i := 2) Tryz.isAgg3 hS rfl rfl rfl) fun a hS => st_call (rotor_within) Tryz.call81 hS (hS.wanted rfl rfl rfl) rfl rfl fun v W a hR hB hlt hS => ?_
     subst hR
     refine st_v hS (hS.wanted rfl rfl rfl) rfl (run_not hS rfl) fun a hS => st_v hS rfl rfl (run_pick_f hS rfl rfl) fun a hS => st_v hS rfl rfl (run_move hS rfl) fun a hS => ?_
     refine st_split (d := 69) hS rfl (fun hc5 hS => ?_) (fun hc5 hS => ?_)
     ·
      try simp only [ty] at hc5
      refine st_skip hS (hS.unwanted rfl rfl rfl rfl) rfl fun a hS => st_skip hS (hS.unwanted rfl rfl rfl rfl) rfl fun a hS => st_skip hS (hS.unwanted rfl rfl rfl rfl) rfl fun a hS => st_skip hS (hS.unwanted rfl rfl rfl rfl) rfl fun a hS => st_v hS rfl rfl (run_pick_t hS rfl rfl) fun a hS => wl_nil ?_
      have hS := hS.sub (κ' := [(0, _), (1, _), (35, _), (36, _), (37, _), (5, _), (6, _), (74, _)]) (Sub.cons rfl (Sub.cons rfl (Sub.cons rfl (Sub.cons rfl (Sub.cons rfl (Sub.cons rfl (Sub.cons rfl (Sub.cons rfl Sub.nil))))))))
      refine st_cond_t hS rfl ?_
      refine wpIn_seq ?_
      refine wpIn_region_lit ?_
      refine st_v hS rfl rfl (run_assign hS rfl) fun a hS => wl_nil ?_
      refine wpIn_ret ?_
      repeat (first | refine q_ret ?_ | refine q_block_ret ?_)
      refine hS.done (res1 (fn := Tryz.f154) (r1 := .tmp 2) rfl (rv_tmp hS rfl)) ?_
      have h : rotOk r = false := by rw [rotOk_eq]; simp [hc1, hc3, hc4, hc5]
      rw [checkRot, h]; rfl
     ·
      try simp only [ty] at hc5
      refine st_v hS (hS.wanted rfl rfl rfl) rfl (run_fieldAddr fa27_9 hS rfl) fun a hS => st_v hS (hS.wanted rfl rfl rfl) rfl (run_load_one (i := 2) Tryz.isAgg3 hS rfl rfl rfl) fun a hS => st_call (rotor_within) Tryz.call81 hS (hS.wanted rfl rfl rfl) rfl rfl fun v W a hR hB hlt hS => ?_
      subst hR
      refine st_v hS (hS.wanted rfl rfl rfl) rfl (run_not hS rfl) fun a hS => st_v hS rfl rfl (run_pick_f hS rfl rfl) fun a hS => wl_nil ?_
      have hS := hS.sub (κ' := [(0, _), (1, _), (35, _), (36, _), (37, _), (5, _), (6, _), (74, _)]) (Sub.cons rfl (Sub.cons rfl (Sub.cons rfl (Sub.cons rfl (Sub.cons rfl (Sub.cons rfl (Sub.cons rfl (Sub.cons rfl Sub.nil))))))))
      refine st_cond hS rfl (fun hc6 => ?_) (fun hc6 => ?_)
      ·
       try simp only [ty] at hc6
       refine wpIn_seq ?_
       refine wpIn_region_lit ?_
       refine st_v hS rfl rfl (run_assign hS rfl) fun a hS => wl_nil ?_
       refine wpIn_ret ?_
       repeat (first | refine q_ret ?_ | refine q_block_ret ?_)
       refine hS.done (res1 (fn := Tryz.f154) (r1 := .tmp 2) rfl (rv_tmp hS rfl)) ?_
       have h : rotOk r = false := by rw [rotOk_eq]; simp [hc1, hc3, hc4, hc5, hc6]
       rw [checkRot, h]; rfl
      ·
       try simp only [ty] at hc6
       have hlims : limsOk r = true := lims_good (V := Vr) fun j hj => hg j (by omega)
       have hlh := lims_low hlims
       obtain ⟨hlX, hlY, hlV, hlR⟩ := tab_axes hlh.1; obtain ⟨hhX, hhY, hhV, hhR⟩ := tab_axes hlh.2
       have hsX : r.low.X = r.high.X := by first | assumption | simp_all
       have hsY : r.low.Y = r.high.Y := by first | assumption | simp_all
       have hcl : within r.climb 1 1000 = true := by first | assumption | simp_all
       have hbu : within r.burn 1 1000 = true := by first | assumption | simp_all
       have hl12 := hlX.most; have hl13 := hlY.most
       have hsXl : r.low.X.length = r.high.X.length := by rw [hsX]
       have hsYl : r.low.Y.length = r.high.Y.length := by rw [hsY]
       have hlowR : ∀ i, i < r.low.V.length → (rowOf r.low.V i).length = r.low.Y.length := fun i hi => (hlR _ (getD_mem hi)).1
       have hhighR : ∀ i, i < r.high.V.length → (rowOf r.high.V i).length = r.high.Y.length := fun i hi => (hhR _ (getD_mem hi)).1
       refine wpIn_skip ?_
       refine wpIn_seq ?_
       refine wpIn_seq ?_
       refine wpIn_region_lit ?_
       refine st_v hS rfl rfl (run_fieldAddr fa25_2 hS rfl) fun a hS => st_v hS rfl rfl (run_load_one (i := 1) Tryz.isAgg23 hS rfl rfl rfl) fun a hS => st_v hS rfl rfl (run_len_slice Tryz.underlying23 hS rfl) fun a hS => st_v hS rfl rfl (run_move hS rfl) fun a hS => wl_nil ?_
       refine wpIn_block ?_
       refine st_loop2 (α := Nat) (fun i => [(78, .int .i64 (((i : Nat) : Int)))]) [(0, _), (1, _), (35, _), (36, _), (37, _), (5, _), (6, _), (76, _), (77, _)] (fun l _ => l) (fun i => i ≤ r.low.V.length ∧ ∀ j k, j < i → k < r.low.Y.length → vat r.low j k ≤ vat r.high j k) (fun i => r.low.V.length - i) (0) hS (Sub.cons rfl (Sub.cons rfl (Sub.cons rfl (Sub.cons rfl (Sub.cons rfl (Sub.cons rfl (Sub.cons rfl (Sub.cons rfl (Sub.cons rfl (Sub.cons rfl Sub.nil)))))))))) rfl (⟨Nat.zero_le _, fun j k hj => absurd hj (Nat.not_lt_zero j)⟩) (fun i W a hφ hS => ?_)
       dsimp only [setB, List.cons_append, List.nil_append, List.take] at hS
       obtain ⟨hi, hgi⟩ := hφ
       refine wpIn_seq ?_
       refine wpIn_region_lit ?_
       refine st_v hS rfl rfl (run_bin hS rfl rfl rfl) fun a hS => wl_nil ?_
       refine wpIn_seq ?_
       refine st_cond hS rfl (fun hc7 => ?_) (fun hc7 => ?_)
       ·
        try simp only [ty] at hc7
        refine wpIn_skip ?_
        refine wpIn_seq ?_
        refine wpIn_block ?_
        refine wpIn_seq ?_
        refine wpIn_region_lit ?_
        refine st_v hS rfl rfl (run_move hS rfl) fun a hS => ?_
        obtain ⟨ad1, s1, hA1, hL1, hR1⟩ := sl_rowB ((fun W hC => ((fun W hC => (Hr W hC).low) W hC).2.2) _ (Below.refl _ _)) (i := ((i : Nat) : Int)) (j := i) (by omega) (by omega)
        refine st_v hS rfl rfl (run_indexAddr Tryz.underlying23 Tryz.sizeOf22 hS rfl rfl hA1 (by omega) (by omega)) fun a hS => st_v hS rfl rfl (run_load_cell Tryz.isAgg22 hS rfl (hL1 _ hS.below)) fun a hS => st_v hS rfl rfl (run_assign hS rfl) fun a hS => st_v hS rfl rfl (run_assign hS rfl) fun a hS => wl_nil ?_
        refine wpIn_seq ?_
        refine wpIn_region_lit ?_
        refine st_v hS rfl rfl (run_move hS rfl) fun a hS => st_v hS rfl rfl (run_len_slice Tryz.underlying22 hS rfl) fun a hS => st_v hS rfl rfl (run_move hS rfl) fun a hS => wl_nil ?_
        refine wpIn_block ?_
        refine st_loop2 (α := Nat) (fun k => [(85, .int .i64 (((k : Nat) : Int)))]) [(0, _), (1, _), (35, _), (36, _), (37, _), (5, _), (6, _), (76, _), (77, _), (78, _), (7, _), (8, _), (83, _), (84, _)] (fun l _ => l) (fun k => k ≤ (rowOf r.low.V i).length ∧ ∀ j, j < k → vat r.low i j ≤ vat r.high i j) (fun k => (rowOf r.low.V i).length - k) (0) hS (Sub.cons rfl (Sub.cons rfl (Sub.cons rfl (Sub.cons rfl (Sub.cons rfl (Sub.cons rfl (Sub.cons rfl (Sub.cons rfl (Sub.cons rfl (Sub.cons rfl (Sub.cons rfl (Sub.cons rfl (Sub.cons rfl (Sub.cons rfl (Sub.cons rfl Sub.nil))))))))))))))) rfl (⟨Nat.zero_le _, fun j hj => absurd hj (Nat.not_lt_zero j)⟩) (fun k W a hφ hS => ?_)
        dsimp only [setB, List.cons_append, List.nil_append, List.take] at hS
        obtain ⟨hk, hgk⟩ := hφ
        have hll := hlowR i (by omega); have hhl := hhighR i (by omega)
        refine wpIn_seq ?_
        refine wpIn_region_lit ?_
        refine st_v hS rfl rfl (run_bin hS rfl rfl rfl) fun a hS => wl_nil ?_
        refine wpIn_seq ?_
        refine st_cond hS rfl (fun hc8 => ?_) (fun hc8 => ?_)
        ·
         try simp only [ty] at hc8
         refine wpIn_skip ?_
         refine wpIn_seq ?_
         refine wpIn_block ?_
         refine wpIn_seq ?_
         refine wpIn_region_lit ?_
         refine st_v hS rfl rfl (run_move hS rfl) fun a hS => ?_
         obtain ⟨ad2, hA2, hL2⟩ := sl_int hR1 (Below.refl _ _) (i := ((k : Nat) : Int)) (j := k) (by omega) (by omega)
         refine st_v hS rfl rfl (run_indexAddr Tryz.underlying22 Tryz.sizeOf3 hS rfl rfl hA2 (by omega) (by omega)) fun a hS => st_v hS rfl rfl (run_load_cell Tryz.isAgg3 hS rfl (hL2 _ hS.below)) fun a hS => st_v hS rfl rfl (run_assign hS rfl) fun a hS => st_v hS rfl rfl (run_assign hS rfl) fun a hS => wl_nil ?_
         refine wpIn_seq ?_
         refine wpIn_region_lit ?_
         refine st_v hS rfl rfl (run_move hS rfl) fun a hS => st_v hS rfl rfl (run_fieldAddr fa25_2 hS rfl) fun a hS => st_v hS rfl rfl (run_load_one (i := 0) Tryz.isAgg23 hS rfl rfl rfl) fun a hS => st_v hS rfl rfl (run_move hS rfl) fun a hS => ?_
         obtain ⟨ad3, s3, hA3, hL3, hR3⟩ := sl_rowB ((fun W hC => ((fun W hC => (Hr W hC).high) W hC).2.2) _ (Below.refl _ _)) (i := ((i : Nat) : Int)) (j := i) (by omega) (by omega)
         refine st_v hS rfl rfl (run_indexAddr Tryz.underlying23 Tryz.sizeOf22 hS rfl rfl hA3 (by omega) (by omega)) fun a hS => st_v hS rfl rfl (run_load_cell Tryz.isAgg22 hS rfl (hL3 _ hS.below)) fun a hS => st_v hS rfl rfl (run_move hS rfl) fun a hS => ?_
         obtain ⟨ad4, hA4, hL4⟩ := sl_int hR3 (Below.refl _ _) (i := ((k : Nat) : Int)) (j := k) (by omega) (by omega)
         refine st_v hS rfl rfl (run_indexAddr Tryz.underlying22 Tryz.sizeOf3 hS rfl rfl hA4 (by omega) (by omega)) fun a hS => st_v hS rfl rfl (run_load_cell Tryz.isAgg3 hS rfl (hL4 _ hS.below)) fun a hS => st_v hS rfl rfl (run_bin hS rfl rfl rfl) fun a hS => wl_nil ?_
         refine st_cond hS rfl (fun hc9 => ?_) (fun hc9 => ?_)
         ·
          try simp only [ty] at hc9
          refine wpIn_seq ?_
          refine wpIn_region_lit ?_
          refine st_v hS rfl rfl (run_assign hS rfl) fun a hS => wl_nil ?_
          refine wpIn_ret ?_
          repeat (first | refine q_ret ?_ | refine q_block_ret ?_)
          refine hS.done (res1 (fn := Tryz.f154) (r1 := .tmp 2) rfl (rv_tmp hS rfl)) ?_
          have h : notAbove r.low r.high = false := above_bad (i := i) (k := k) (by omega) (by omega) (by assumption)
          rw [checkRot, rotOk_eq, h, Bool.and_false, Bool.and_false]; rfl
         ·
          try simp only [ty] at hc9
          refine wpIn_skip ?_
          refine wpIn_region_lit ?_
          refine st_v hS rfl rfl (run_add (t := ((k + 1 : Nat) : Int)) hS rfl rfl (by omega) (by omega) (by omega)) fun a hS => st_v hS rfl rfl (run_move hS rfl) fun a hS => wl_nil ?_
          refine ⟨k + 1, ⟨⟨by omega, fun j hj => ?_⟩, by omega⟩, (hS.sub (Sub.cons rfl (Sub.cons rfl (Sub.cons rfl (Sub.cons rfl (Sub.cons rfl (Sub.cons rfl (Sub.cons rfl (Sub.cons rfl (Sub.cons rfl (Sub.cons rfl (Sub.cons rfl (Sub.cons rfl (Sub.cons rfl (Sub.cons rfl (Sub.cons rfl Sub.nil))))))))))))))))⟩
          by_cases e : j = k
          · subst e; assumption
          · exact hgk j (by omega)
        ·
         try simp only [ty] at hc8
         refine wpIn_exit ?_
         refine wpIn_region_lit ?_
         refine st_v hS rfl rfl (run_add (t := ((i + 1 : Nat) : Int)) hS rfl rfl (by omega) (by omega) (by omega)) fun a hS => st_v hS rfl rfl (run_move hS rfl) fun a hS => wl_nil ?_
         refine ⟨i + 1, ⟨⟨by omega, fun j k hj hk => ?_⟩, by omega⟩, (hS.sub (Sub.cons rfl (Sub.cons rfl (Sub.cons rfl (Sub.cons rfl (Sub.cons rfl (Sub.cons rfl (Sub.cons rfl (Sub.cons rfl (Sub.cons rfl (Sub.cons rfl Sub.nil)))))))))))⟩
         by_cases e : j = i
         · subst e; exact hgk k (by omega)
         · exact hgi j k (by omega) hk
       ·
        try simp only [ty] at hc7
        refine wpIn_exit ?_
        refine wpIn_seq ?_
        refine wpIn_region_lit ?_
        refine st_v hS rfl rfl (run_assign hS rfl) fun a hS => wl_nil ?_
        refine wpIn_ret ?_
        repeat (first | refine q_ret ?_ | refine q_block_ret ?_)
        refine hS.done (res1 (fn := Tryz.f154) (r1 := .tmp 2) rfl (rv_tmp hS rfl)) ?_
        have h : notAbove r.low r.high = true := above_good fun j k hj hk => hgi j k (by omega) hk
        rw [checkRot, rotOk_eq, h, hlims]; simp [hsX, hsY, hcl, hbu]
  ·
   refine st_alloc_agg Tryz.zeroValue25 hS rfl rfl fun W a b5 hS => wl_nil ?_
   refine anyh_next [false, true] hS (fun _ h => h) rfl ?_
   refine anyh_go (rs := [4]) (by kernel_rfl) (by simp) ⟨⟨_, rfl, ?_⟩, trivial⟩
   refine st_alloc_agg Tryz.zeroValue25 hS rfl rfl fun W a b6 hS => wl_nil ?_
   refine anyh_next [false, false, true] hS (fun _ h => h) rfl ?_
   refine anyh_go (rs := [6]) (by kernel_rfl) (by simp) ⟨⟨_, rfl, ?_⟩, trivial⟩
   refine st_store (i := 0) Tryz.sizeOf25 hS rfl rfl rfl rfl rfl rfl rfl rfl rfl fun W a hS => wl_nil ?_
   refine anyh_next [false, false, true] hS (fun _ h => h) rfl ?_
   refine anyh_go (rs := [7]) (by kernel_rfl) (by simp) ⟨⟨_, rfl, ?_⟩, trivial⟩
   refine st_store (i := 1) Tryz.sizeOf25 hS rfl rfl rfl rfl rfl rfl rfl rfl rfl fun W a hS => wl_nil ?_
   refine anyh_next [false, false, true] hS (fun _ h => h) rfl ?_
   refine anyh_done (by kernel_rfl) ?_ _
   refine wpIn_seq ?_
   refine wpIn_seq ?_
   refine wpIn_region_lit ?_
   refine st_v hS rfl rfl (run_fieldAddr fa25_0 hS rfl) fun a hS => st_v hS rfl rfl (run_load_one (i := 0) Tryz.isAgg22 hS rfl rfl rfl) fun a hS => st_v hS rfl rfl (run_fieldAddr fa25_0 hS rfl) fun a hS => st_v hS rfl rfl (run_load_one (i := 1) Tryz.isAgg22 hS rfl rfl rfl) fun a hS => st_call (slices_Equal Vr.low.x r.low.X Vr.high.x r.high.X ((fun W hC => ((fun W hC => (Hr W hC).low) W hC).1) _ hS.below) ((fun W hC => ((fun W hC => (Hr W hC).high) W hC).1) _ hS.below)) Tryz.call206 hS rfl rfl rfl fun v W a hR hB hlt hS => ?_
   subst hR
   refine st_v hS rfl rfl (run_not hS rfl) fun a hS => st_v hS rfl rfl (run_move hS rfl) fun a hS => ?_
   refine st_split (d := 55) hS rfl (fun hc3 hS => ?_) (fun hc3 hS => ?_)
   ·
    try simp only [ty] at hc3
    refine st_skip hS (hS.unwanted rfl rfl rfl rfl) rfl fun a hS => st_skip hS (hS.unwanted rfl rfl rfl rfl) rfl fun a hS => st_skip hS (hS.unwanted rfl rfl rfl rfl) rfl fun a hS => st_skip hS (hS.unwanted rfl rfl rfl rfl) rfl fun a hS => st_skip hS (hS.unwanted rfl rfl rfl rfl) rfl fun a hS => st_skip hS (hS.unwanted rfl rfl rfl rfl) rfl fun a hS => st_v hS rfl rfl (run_pick_t hS rfl rfl) fun a hS => st_v hS rfl rfl (run_move hS rfl) fun a hS => st_skip hS (hS.unwanted rfl rfl rfl rfl) rfl fun a hS => st_skip hS (hS.unwanted rfl rfl rfl rfl) rfl fun a hS => st_skip hS (hS.unwanted rfl rfl rfl rfl) rfl fun a hS => st_skip hS (hS.unwanted rfl rfl rfl rfl) rfl fun a hS => st_v hS rfl rfl (run_pick_t hS rfl rfl) fun a hS => st_v hS rfl rfl (run_move hS rfl) fun a hS => st_skip hS (hS.unwanted rfl rfl rfl rfl) rfl fun a hS => st_skip hS (hS.unwanted rfl rfl rfl rfl) rfl fun a hS => st_skip hS (hS.unwanted rfl rfl rfl rfl) rfl fun a hS => st_skip hS (hS.unwanted rfl rfl rfl rfl) rfl fun a hS => st_v hS rfl rfl (run_pick_t hS rfl rfl) fun a hS => wl_nil ?_
    have hS := hS.sub (κ' := [(0, _), (1, _), (35, _), (36, _), (37, _), (6, _), (5, _), (74, _)]) (Sub.cons rfl (Sub.cons rfl (Sub.cons rfl (Sub.cons rfl (Sub.cons rfl (Sub.cons rfl (Sub.cons rfl (Sub.cons rfl Sub.nil))))))))
    refine st_cond_t hS rfl ?_
    refine wpIn_seq ?_
    refine wpIn_region_lit ?_
    refine st_v hS rfl rfl (run_assign hS rfl) fun a hS => wl_nil ?_
    refine wpIn_ret ?_
    repeat (first | refine q_ret ?_ | refine q_block_ret ?_)
    refine hS.done (res1 (fn := Tryz.f154) (r1 := .tmp 2) rfl (rv_tmp hS rfl)) ?_
    have h : rotOk r = false := by rw [rotOk_eq]; simp [hc1, hc3]
    rw [checkRot, h]; rfl
   ·
    try simp only [ty] at hc3
    refine st_v hS (hS.wanted rfl rfl rfl) rfl (run_fieldAddr fa25_1 hS rfl) fun a hS => st_v hS (hS.wanted rfl rfl rfl) rfl (run_load_one (i := 0) Tryz.isAgg22 hS rfl rfl rfl) fun a hS => st_v hS (hS.wanted rfl rfl rfl) rfl (run_fieldAddr fa25_1 hS rfl) fun a hS => st_v hS (hS.wanted rfl rfl rfl) rfl (run_load_one (i := 1) Tryz.isAgg22 hS rfl rfl rfl) fun a hS => st_call (slices_Equal Vr.low.y r.low.Y Vr.high.y r.high.Y ((fun W hC => ((fun W hC => (Hr W hC).low) W hC).2.1) _ hS.below) ((fun W hC => ((fun W hC => (Hr W hC).high) W hC).2.1) _ hS.below)) Tryz.call206 hS (hS.wanted rfl rfl rfl) rfl rfl fun v W a hR hB hlt hS => ?_
    subst hR
    refine st_v hS (hS.wanted rfl rfl rfl) rfl (run_not hS rfl) fun a hS => st_v hS rfl rfl (run_pick_f hS rfl rfl) fun a hS => st_v hS rfl rfl (run_move hS rfl) fun a hS => ?_
    refine st_split (d := 63) hS rfl (fun hc4 hS => ?_) (fun hc4 hS => ?_)
    ·
     try simp only [ty] at hc4
     refine st_skip hS (hS.unwanted rfl rfl rfl rfl) rfl fun a hS => st_skip hS (hS.unwanted rfl rfl rfl rfl) rfl fun a hS => st_skip hS (hS.unwanted rfl rfl rfl rfl) rfl fun a hS => st_skip hS (hS.unwanted rfl rfl rfl rfl) rfl fun a hS => st_v hS rfl rfl (run_pick_t hS rfl rfl) fun a hS => st_v hS rfl rfl (run_move hS rfl) fun a hS => st_skip hS (hS.unwanted rfl rfl rfl rfl) rfl fun a hS => st_skip hS (hS.unwanted rfl rfl rfl rfl) rfl fun a hS => st_skip hS (hS.unwanted rfl rfl rfl rfl) rfl fun a hS => st_skip hS (hS.unwanted rfl rfl rfl rfl) rfl fun a hS => st_v hS rfl rfl (run_pick_t hS rfl rfl) fun a hS => wl_nil ?_
     have hS := hS.sub (κ' := [(0, _), (1, _), (35, _), (36, _), (37, _), (6, _), (5, _), (74, _)]) (Sub.cons rfl (Sub.cons rfl (Sub.cons rfl (Sub.cons rfl (Sub.cons rfl (Sub.cons rfl (Sub.cons rfl (Sub.cons rfl Sub.nil))))))))
     refine st_cond_t hS rfl ?_
     refine wpIn_seq ?_
     refine wpIn_region_lit ?_
     refine st_v hS rfl rfl (run_assign hS rfl) fun a hS => wl_nil ?_
     refine wpIn_ret ?_
     repeat (first | refine q_ret ?_ | refine q_block_ret ?_)
     refine hS.done (res1 (fn := Tryz.f154) (r1 := .tmp 2) rfl (rv_tmp hS rfl)) ?_
     have h : rotOk r = false := by rw [rotOk_eq]; simp [hc1, hc3, hc4]
     rw [checkRot, h]; rfl
    ·
     try simp only [ty] at hc4
     refine st_v hS (hS.wanted rfl rfl rfl) rfl (run_fieldAddr fa27_8 hS rfl) fun a hS => st_v hS (hS.wanted rfl rfl rfl) rfl (run_load_one (i := 2) Tryz.isAgg3 hS rfl rfl rfl) fun a hS => st_call (rotor_within) Tryz.call81 hS (hS.wanted rfl rfl rfl) rfl rfl fun v W a hR hB hlt hS => ?_
     subst hR
     refine st_v hS (hS.wanted rfl rfl rfl) rfl (run_not hS rfl) fun a hS => st_v hS rfl rfl (run_pick_f hS rfl rfl) fun a hS => st_v hS rfl rfl (run_move hS rfl) fun a hS => ?_
     refine st_split (d := 69) hS rfl (fun hc5 hS => ?_) (fun hc5 hS => ?_)
     ·
      try simp only [ty] at hc5
      refine st_skip hS (hS.unwanted rfl rfl rfl rfl) rfl fun a hS => st_skip hS (hS.unwanted rfl rfl rfl rfl) rfl fun a hS => st_skip hS (hS.unwanted rfl rfl rfl rfl) rfl fun a hS => st_skip hS (hS.unwanted rfl rfl rfl rfl) rfl fun a hS => st_v hS rfl rfl (run_pick_t hS rfl rfl) fun a hS => wl_nil ?_
      have hS := hS.sub (κ' := [(0, _), (1, _), (35, _), (36, _), (37, _), (6, _), (5, _), (74, _)]) (Sub.cons rfl (Sub.cons rfl (Sub.cons rfl (Sub.cons rfl (Sub.cons rfl (Sub.cons rfl (Sub.cons rfl (Sub.cons rfl Sub.nil))))))))
      refine st_cond_t hS rfl ?_
      refine wpIn_seq ?_
      refine wpIn_region_lit ?_
      refine st_v hS rfl rfl (run_assign hS rfl) fun a hS => wl_nil ?_
      refine wpIn_ret ?_
      repeat (first | refine q_ret ?_ | refine q_block_ret ?_)
      refine hS.done (res1 (fn := Tryz.f154) (r1 := .tmp 2) rfl (rv_tmp hS rfl)) ?_
      have h : rotOk r = false := by rw [rotOk_eq]; simp [hc1, hc3, hc4, hc5]
      rw [checkRot, h]; rfl
     ·
      try simp only [ty] at hc5
      refine st_v hS (hS.wanted rfl rfl rfl) rfl (run_fieldAddr fa27_9 hS rfl) fun a hS => st_v hS (hS.wanted rfl rfl rfl) rfl (run_load_one (i := 2) Tryz.isAgg3 hS rfl rfl rfl) fun a hS => st_call (rotor_within) Tryz.call81 hS (hS.wanted rfl rfl rfl) rfl rfl fun v W a hR hB hlt hS => ?_
      subst hR
      refine st_v hS (hS.wanted rfl rfl rfl) rfl (run_not hS rfl) fun a hS => st_v hS rfl rfl (run_pick_f hS rfl rfl) fun a hS => wl_nil ?_
      have hS := hS.sub (κ' := [(0, _), (1, _), (35, _), (36, _), (37, _), (6, _), (5, _), (74, _)]) (Sub.cons rfl (Sub.cons rfl (Sub.cons rfl (Sub.cons rfl (Sub.cons rfl (Sub.cons rfl (Sub.cons rfl (Sub.cons rfl Sub.nil))))))))
      refine st_cond hS rfl (fun hc6 => ?_) (fun hc6 => ?_)
      ·
       try simp only [ty] at hc6
       refine wpIn_seq ?_
       refine wpIn_region_lit ?_
       refine st_v hS rfl rfl (run_assign hS rfl) fun a hS => wl_nil ?_
       refine wpIn_ret ?_
       repeat (first | refine q_ret ?_ | refine q_block_ret ?_)
       refine hS.done (res1 (fn := Tryz.f154) (r1 := .tmp 2) rfl (rv_tmp hS rfl)) ?_
       have h : rotOk r = false := by rw [rotOk_eq]; simp [hc1, hc3, hc4, hc5, hc6]
       rw [checkRot, h]; rfl
      ·
       try simp only [ty] at hc6
       have hlims : limsOk r = true := lims_good (V := Vr) fun j hj => hg j (by omega)
       have hlh := lims_low hlims
       obtain ⟨hlX, hlY, hlV, hlR⟩ := tab_axes hlh.1; obtain ⟨hhX, hhY, hhV, hhR⟩ := tab_axes hlh.2
       have hsX : r.low.X = r.high.X := by first | assumption | simp_all
       have hsY : r.low.Y = r.high.Y := by first | assumption | simp_all
       have hcl : within r.climb 1 1000 = true := by first | assumption | simp_all
       have hbu : within r.burn 1 1000 = true := by first | assumption | simp_all
       have hl12 := hlX.most; have hl13 := hlY.most
       have hsXl : r.low.X.length = r.high.X.length := by rw [hsX]
       have hsYl : r.low.Y.length = r.high.Y.length := by rw [hsY]
       have hlowR : ∀ i, i < r.low.V.length → (rowOf r.low.V i).length = r.low.Y.length := fun i hi => (hlR _ (getD_mem hi)).1
       have hhighR : ∀ i, i < r.high.V.length → (rowOf r.high.V i).length = r.high.Y.length := fun i hi => (hhR _ (getD_mem hi)).1
       refine wpIn_skip ?_
       refine wpIn_seq ?_
       refine wpIn_seq ?_
       refine wpIn_region_lit ?_
       refine st_v hS rfl rfl (run_fieldAddr fa25_2 hS rfl) fun a hS => st_v hS rfl rfl (run_load_one (i := 0) Tryz.isAgg23 hS rfl rfl rfl) fun a hS => st_v hS rfl rfl (run_len_slice Tryz.underlying23 hS rfl) fun a hS => st_v hS rfl rfl (run_move hS rfl) fun a hS => wl_nil ?_
       refine wpIn_block ?_
       refine st_loop2 (α := Nat) (fun i => [(78, .int .i64 (((i : Nat) : Int)))]) [(0, _), (1, _), (35, _), (36, _), (37, _), (6, _), (5, _), (76, _), (77, _)] (fun l _ => l) (fun i => i ≤ r.low.V.length ∧ ∀ j k, j < i → k < r.low.Y.length → vat r.low j k ≤ vat r.high j k) (fun i => r.low.V.length - i) (0) hS (Sub.cons rfl (Sub.cons rfl (Sub.cons rfl (Sub.cons rfl (Sub.cons rfl (Sub.cons rfl (Sub.cons rfl (Sub.cons rfl (Sub.cons rfl (Sub.cons rfl Sub.nil)))))))))) rfl (⟨Nat.zero_le _, fun j k hj => absurd hj (Nat.not_lt_zero j)⟩) (fun i W a hφ hS => ?_)
       dsimp only [setB, List.cons_append, List.nil_append, List.take] at hS
       obtain ⟨hi, hgi⟩ := hφ
       refine wpIn_seq ?_
       refine wpIn_region_lit ?_
       refine st_v hS rfl rfl (run_bin hS rfl rfl rfl) fun a hS => wl_nil ?_
       refine wpIn_seq ?_
       refine st_cond hS rfl (fun hc7 => ?_) (fun hc7 => ?_)
       ·
        try simp only [ty] at hc7
        refine wpIn_skip ?_
        refine wpIn_seq ?_
        refine wpIn_block ?_
        refine wpIn_seq ?_
        refine wpIn_region_lit ?_
        refine st_v hS rfl rfl (run_move hS rfl) fun a hS => ?_
        obtain ⟨ad5, s5, hA5, hL5, hR5⟩ := sl_rowB ((fun W hC => ((fun W hC => (Hr W hC).low) W hC).2.2) _ (Below.refl _ _)) (i := ((i : Nat) : Int)) (j := i) (by omega) (by omega)
        refine st_v hS rfl rfl (run_indexAddr Tryz.underlying23 Tryz.sizeOf22 hS rfl rfl hA5 (by omega) (by omega)) fun a hS => st_v hS rfl rfl (run_load_cell Tryz.isAgg22 hS rfl (hL5 _ hS.below)) fun a hS => st_v hS rfl rfl (run_assign hS rfl) fun a hS => st_v hS rfl rfl (run_assign hS rfl) fun a hS => wl_nil ?_
        refine wpIn_seq ?_
        refine wpIn_region_lit ?_
        refine st_v hS rfl rfl (run_move hS rfl) fun a hS => st_v hS rfl rfl (run_len_slice Tryz.underlying22 hS rfl) fun a hS => st_v hS rfl rfl (run_move hS rfl) fun a hS => wl_nil ?_
        refine wpIn_block ?_
        refine st_loop2 (α := Nat) (fun k => [(85, .int .i64 (((k : Nat) : Int)))]) [(0, _), (1, _), (35, _), (36, _), (37, _), (6, _), (5, _), (76, _), (77, _), (78, _), (7, _), (8, _), (83, _), (84, _)] (fun l _ => l) (fun k => k ≤ (rowOf r.low.V i).length ∧ ∀ j, j < k → vat r.low i j ≤ vat r.high i j) (fun k => (rowOf r.low.V i).length - k) (0) hS (Sub.cons rfl (Sub.cons rfl (Sub.cons rfl (Sub.cons rfl (Sub.cons rfl (Sub.cons rfl (Sub.cons rfl (Sub.cons rfl (Sub.cons rfl (Sub.cons rfl (Sub.cons rfl (Sub.cons rfl (Sub.cons rfl (Sub.cons rfl (Sub.cons rfl Sub.nil))))))))))))))) rfl (⟨Nat.zero_le _, fun j hj => absurd hj (Nat.not_lt_zero j)⟩) (fun k W a hφ hS => ?_)
        dsimp only [setB, List.cons_append, List.nil_append, List.take] at hS
        obtain ⟨hk, hgk⟩ := hφ
        have hll := hlowR i (by omega); have hhl := hhighR i (by omega)
        refine wpIn_seq ?_
        refine wpIn_region_lit ?_
        refine st_v hS rfl rfl (run_bin hS rfl rfl rfl) fun a hS => wl_nil ?_
        refine wpIn_seq ?_
        refine st_cond hS rfl (fun hc8 => ?_) (fun hc8 => ?_)
        ·
         try simp only [ty] at hc8
         refine wpIn_skip ?_
         refine wpIn_seq ?_
         refine wpIn_block ?_
         refine wpIn_seq ?_
         refine wpIn_region_lit ?_
         refine st_v hS rfl rfl (run_move hS rfl) fun a hS => ?_
         obtain ⟨ad6, hA6, hL6⟩ := sl_int hR5 (Below.refl _ _) (i := ((k : Nat) : Int)) (j := k) (by omega) (by omega)
         refine st_v hS rfl rfl (run_indexAddr Tryz.underlying22 Tryz.sizeOf3 hS rfl rfl hA6 (by omega) (by omega)) fun a hS => st_v hS rfl rfl (run_load_cell Tryz.isAgg3 hS rfl (hL6 _ hS.below)) fun a hS => st_v hS rfl rfl (run_assign hS rfl) fun a hS => st_v hS rfl rfl (run_assign hS rfl) fun a hS => wl_nil ?_
         refine wpIn_seq ?_
         refine wpIn_region_lit ?_
         refine st_v hS rfl rfl (run_move hS rfl) fun a hS => st_v hS rfl rfl (run_fieldAddr fa25_2 hS rfl) fun a hS => st_v hS rfl rfl (run_load_one (i := 1) Tryz.isAgg23 hS rfl rfl rfl) fun a hS => st_v hS rfl rfl (run_move hS rfl) fun a hS => ?_
         obtain ⟨ad7, s7, hA7, hL7, hR7⟩ := sl_rowB ((fun W hC => ((fun W hC => (Hr W hC).high) W hC).2.2) _ (Below.refl _ _)) (i := ((i : Nat) : Int)) (j := i) (by omega) (by omega)
         refine st_v hS rfl rfl (run_indexAddr Tryz.underlying23 Tryz.sizeOf22 hS rfl rfl hA7 (by omega) (by omega)) fun a hS => st_v hS rfl rfl (run_load_cell Tryz.isAgg22 hS rfl (hL7 _ hS.below)) fun a hS => st_v hS rfl rfl (run_move hS rfl) fun a hS => ?_
         obtain ⟨ad8, hA8, hL8⟩ := sl_int hR7 (Below.refl _ _) (i := ((k : Nat) : Int)) (j := k) (by omega) (by omega)
         refine st_v hS rfl rfl (run_indexAddr Tryz.underlying22 Tryz.sizeOf3 hS rfl rfl hA8 (by omega) (by omega)) fun a hS => st_v hS rfl rfl (run_load_cell Tryz.isAgg3 hS rfl (hL8 _ hS.below)) fun a hS => st_v hS rfl rfl (run_bin hS rfl rfl rfl) fun a hS => wl_nil ?_
         refine st_cond hS rfl (fun hc9 => ?_) (fun hc9 => ?_)
         ·
          try simp only [ty] at hc9
          refine wpIn_seq ?_
          refine wpIn_region_lit ?_
          refine st_v hS rfl rfl (run_assign hS rfl) fun a hS => wl_nil ?_
          refine wpIn_ret ?_
          repeat (first | refine q_ret ?_ | refine q_block_ret ?_)
          refine hS.done (res1 (fn := Tryz.f154) (r1 := .tmp 2) rfl (rv_tmp hS rfl)) ?_
          have h : notAbove r.low r.high = false := above_bad (i := i) (k := k) (by omega) (by omega) (by assumption)
          rw [checkRot, rotOk_eq, h, Bool.and_false, Bool.and_false]; rfl
         ·
          try simp only [ty] at hc9
          refine wpIn_skip ?_
          refine wpIn_region_lit ?_
          refine st_v hS rfl rfl (run_add (t := ((k + 1 : Nat) : Int)) hS rfl rfl (by omega) (by omega) (by omega)) fun a hS => st_v hS rfl rfl (run_move hS rfl) fun a hS => wl_nil ?_
          refine ⟨k + 1, ⟨⟨by omega, fun j hj => ?_⟩, by omega⟩, (hS.sub (Sub.cons rfl (Sub.cons rfl (Sub.cons rfl (Sub.cons rfl (Sub.cons rfl (Sub.cons rfl (Sub.cons rfl (Sub.cons rfl (Sub.cons rfl (Sub.cons rfl (Sub.cons rfl (Sub.cons rfl (Sub.cons rfl (Sub.cons rfl (Sub.cons rfl Sub.nil))))))))))))))))⟩
          by_cases e : j = k
          · subst e; assumption
          · exact hgk j (by omega)
        ·
         try simp only [ty] at hc8
         refine wpIn_exit ?_
         refine wpIn_region_lit ?_
         refine st_v hS rfl rfl (run_add (t := ((i + 1 : Nat) : Int)) hS rfl rfl (by omega) (by omega) (by omega)) fun a hS => st_v hS rfl rfl (run_move hS rfl) fun a hS => wl_nil ?_
         refine ⟨i + 1, ⟨⟨by omega, fun j k hj hk => ?_⟩, by omega⟩, (hS.sub (Sub.cons rfl (Sub.cons rfl (Sub.cons rfl (Sub.cons rfl (Sub.cons rfl (Sub.cons rfl (Sub.cons rfl (Sub.cons rfl (Sub.cons rfl (Sub.cons rfl Sub.nil)))))))))))⟩
         by_cases e : j = i
         · subst e; exact hgk k (by omega)
         · exact hgi j k (by omega) hk
       ·
        try simp only [ty] at hc7
        refine wpIn_exit ?_
        refine wpIn_seq ?_
        refine wpIn_region_lit ?_
        refine st_v hS rfl rfl (run_assign hS rfl) fun a hS => wl_nil ?_
        refine wpIn_ret ?_
        repeat (first | refine q_ret ?_ | refine q_block_ret ?_)
        refine hS.done (res1 (fn := Tryz.f154) (r1 := .tmp 2) rfl (rv_tmp hS rfl)) ?_
        have h : notAbove r.low r.high = true := above_good fun j k hj hk => hgi j k (by omega) hk
        rw [checkRot, rotOk_eq, h, hlims]; simp [hsX, hsY, hcl, hbu]
set_option maxHeartbeats 2000000 in
set_option maxRecDepth 100000 in
theorem ref02_same  (sl : SV) (l : List Int) (sm : SV) (m : List Int) {w : World} {Fl : Nat → Prop} (hl : Sl kInt Fl w sl l) {Fm : Nat → Prop} (hm : Sl kInt Fm w sm m)  : Ret Tryz.prog 173 [.slice sl.a l.length sl.c, .slice sm.a m.length sm.c] w (fun v _ => v = .bool (decide (l = m))) := by
 refine ret_start (n := 26) Tryz.func173 rfl rfl rfl (fun a hS => ?_)
 have Hl : ∀ W, Below w.heap.size w W → Sl kInt Fl W sl l := fun W hb => hl.at_ hb
 have hml := hl.len
 have Hm : ∀ W, Below w.heap.size w W → Sl kInt Fm W sm m := fun W hb => hm.at_ hb
 have hmm := hm.len
 refine wpIn_seq ?_
 refine wpIn_region_lit ?_
 refine st_v hS rfl rfl (run_assign hS rfl) fun a hS => wl_nil ?_
 refine wpIn_seq ?_
 refine wpIn_seq ?_
 refine wpIn_region_lit ?_
 refine st_v hS rfl rfl (run_move hS rfl) fun a hS => st_v hS rfl rfl (run_len_slice Tryz.underlying22 hS rfl) fun a hS => st_v hS rfl rfl (run_move hS rfl) fun a hS => st_v hS rfl rfl (run_len_slice Tryz.underlying22 hS rfl) fun a hS => st_v hS rfl rfl (run_bin hS rfl rfl rfl) fun a hS => wl_nil ?_
 refine st_cond hS rfl (fun hc1 => ?_) (fun hc1 => ?_)
 ·
  try simp only [ty] at hc1
  refine wpIn_seq ?_
  refine wpIn_region_lit ?_
  refine st_v hS rfl rfl (run_assign hS rfl) fun a hS => wl_nil ?_
  refine wpIn_ret ?_
  repeat (first | refine q_ret ?_ | refine q_block_ret ?_)
  refine hS.done (res1 (fn := Tryz.f173) (r1 := .tmp 4) rfl (rv_tmp hS rfl)) ?_
  refine vb ?_; simp only [Bool.false_eq_true, decide_eq_true_eq, false_iff]; intro e; subst e; omega
 ·
  try simp only [ty] at hc1
  refine wpIn_skip ?_
  refine wpIn_seq ?_
  refine wpIn_seq ?_
  refine wpIn_region_lit ?_
  refine st_v hS rfl rfl (run_assign hS rfl) fun a hS => wl_nil ?_
  refine wpIn_block ?_
  refine st_loop2 (α := Nat) (fun x => [(5, .int .i64 (((x : Nat) : Int)))]) [(0, _), (1, _)] (fun l _ => l) (fun x => x ≤ l.length ∧ ∀ j, j < x → ix l j = ix m j) (fun x => l.length - x) (0) hS (Sub.cons rfl (Sub.cons rfl (Sub.cons rfl Sub.nil))) rfl (⟨Nat.zero_le _, fun j hj => absurd hj (Nat.not_lt_zero j)⟩) (fun x W a hφ hS => ?_)
  dsimp only [setB, List.cons_append, List.nil_append, List.take] at hS
  obtain ⟨hx, hg⟩ := hφ
  refine wpIn_seq ?_
  refine wpIn_seq ?_
  refine wpIn_region_lit ?_
  refine st_v hS rfl rfl (run_move hS rfl) fun a hS => st_v hS rfl rfl (run_move hS rfl) fun a hS => st_v hS rfl rfl (run_len_slice Tryz.underlying22 hS rfl) fun a hS => st_v hS rfl rfl (run_bin hS rfl rfl rfl) fun a hS => wl_nil ?_
  refine st_cond hS rfl (fun hc2 => ?_) (fun hc2 => ?_)
  ·
   try simp only [ty] at hc2
   refine wpIn_skip ?_
   refine wpIn_seq ?_
   refine wpIn_block ?_
   refine wpIn_seq ?_
   refine st_draw (by kernel_rfl) (by kernel_rfl) hS ?_
   refine qt_v hS rfl rfl (fun W hB hS => run_move hS rfl) fun a hS => qt_v hS rfl rfl (fun W hB hS => run_move hS rfl) fun a hS => ?_
   obtain ⟨ad0, hA0, hL0⟩ := sl_int Hl (Below.refl _ _) (i := ((x : Nat) : Int)) (j := x) (by omega) (by omega)
   refine qt_v hS rfl rfl (fun W hB hS => run_indexAddr Tryz.underlying22 Tryz.sizeOf3 hS rfl rfl hA0 (by omega) (by omega)) fun a hS => qt_v hS rfl rfl (fun W hB hS => run_load_cell Tryz.isAgg3 hS rfl (hL0 _ hS.below)) fun a hS => qt_v hS rfl rfl (fun W hB hS => run_move hS rfl) fun a hS => qt_v hS rfl rfl (fun W hB hS => run_move hS rfl) fun a hS => ?_
   obtain ⟨ad1, hA1, hL1⟩ := sl_int Hm (Below.refl _ _) (i := ((x : Nat) : Int)) (j := x) (by omega) (by omega)
   refine qt_v hS rfl rfl (fun W hB hS => run_indexAddr Tryz.underlying22 Tryz.sizeOf3 hS rfl rfl hA1 (by omega) (by omega)) fun a hS => qt_v hS rfl rfl (fun W hB hS => run_load_cell Tryz.isAgg3 hS rfl (hL1 _ hS.below)) fun a hS => qt_v hS rfl rfl (fun W hB hS => run_bin hS rfl rfl rfl) fun a hS => qt_nil hS fun W hS => ?_
   refine st_cond hS rfl (fun hc3 => ?_) (fun hc3 => ?_)
   ·
    try simp only [ty] at hc3
    refine wpIn_seq ?_
    refine wpIn_region_lit ?_
    refine st_v hS rfl rfl (run_assign hS rfl) fun a hS => wl_nil ?_
    refine wpIn_ret ?_
    repeat (first | refine q_ret ?_ | refine q_block_ret ?_)
    refine hS.done (res1 (fn := Tryz.f173) (r1 := .tmp 4) rfl (rv_tmp hS rfl)) ?_
    refine vb ?_; simp only [Bool.false_eq_true, decide_eq_true_eq, false_iff]; intro e; subst e; simp at hc3
   ·
    try simp only [ty] at hc3
    refine wpIn_skip ?_
    refine wpIn_region_lit ?_
    refine st_v hS rfl rfl (run_move hS rfl) fun a hS => st_v hS rfl rfl (run_add (t := ((x + 1 : Nat) : Int)) hS rfl rfl (by omega) (by omega) (by omega)) fun a hS => st_v hS rfl rfl (run_assign hS rfl) fun a hS => wl_nil ?_
    refine ⟨x + 1, ⟨⟨by omega, fun j hj => ?_⟩, by omega⟩, (hS.sub (Sub.cons rfl (Sub.cons rfl (Sub.cons rfl Sub.nil))))⟩
    by_cases e : j = x
    · subst e; simpa using hc3
    · exact hg j (by omega)
  ·
   try simp only [ty] at hc2
   refine wpIn_exit ?_
   refine wpIn_seq ?_
   refine wpIn_region_lit ?_
   refine st_v hS rfl rfl (run_assign hS rfl) fun a hS => wl_nil ?_
   refine wpIn_ret ?_
   repeat (first | refine q_ret ?_ | refine q_block_ret ?_)
   refine hS.done (res1 (fn := Tryz.f173) (r1 := .tmp 4) rfl (rv_tmp hS rfl)) ?_
   refine vb ?_; simp only [decide_eq_true_eq, true_iff]; exact ix_ext (by omega) (fun j hj => hg j (by omega))
theorem inAll_bad {t : Tab} {lo hi : Int} {i k : Nat} (hi' : i < t.V.length) (hk : k < (rowOf t.V i).length) (h : within (ix (rowOf t.V i) k) lo hi = false) : inAll t lo hi = false := by
  unfold inAll
  exact all_bad (d := []) hi' (all_bad (d := 0) hk h)
theorem inAll_good {t : Tab} {lo hi : Int} (h : ∀ i k, i < t.V.length → k < (rowOf t.V i).length → within (ix (rowOf t.V i) k) lo hi = true) : inAll t lo hi = true := by
  unfold inAll
  exact all_good (d := []) fun i hi' => all_good (d := 0) fun k hk => h i k hi' hk
set_option maxHeartbeats 2000000 in
set_option maxRecDepth 100000 in
theorem ref02_filled  (Vt : TV) (t : Tab) {lo : Int} {hi : Int} {w : World} {Ft : Nat → Prop} (ht : TabR Ft w Vt t)  : Ret Tryz.prog 172 [.agg (tabC Vt t).toArray, .int .i64 lo, .int .i64 hi] w (fun v _ => v = .bool (filled t lo hi)) := by
 refine ret_start (n := 38) Tryz.func172 rfl rfl rfl (fun a hS => ?_)
 have Ht : ∀ W, Below w.heap.size w W → TabR Ft W Vt t := fun W hb => ht.move (keep_of hb)
 have hmtx := ht.1.len
 have hmty := ht.2.1.len
 have hmtv := ht.2.2.len
 refine wpIn_seq ?_
 refine wpIn_region_lit ?_
 refine st_box_agg hS rfl rfl rfl fun W a b0 hS => st_v hS rfl rfl (run_assign hS rfl) fun a hS => wl_nil ?_
 refine wpIn_seq ?_
 refine wpIn_seq ?_
 refine wpIn_region_lit ?_
 refine st_v hS rfl rfl (run_load_all (i := 0) Tryz.isAgg25 Tryz.sizeOf25 hS rfl rfl rfl) fun a hS => st_call (ref01_CheckTable Vt t (Ht _ hS.below)) Tryz.call216 hS rfl rfl rfl fun v W a hR hB hlt hS => ?_
 subst hR
 refine st_v hS rfl rfl (run_bin hS rfl rfl rfl) fun a hS => wl_nil ?_
 refine st_cond hS rfl (fun hc1 => ?_) (fun hc1 => ?_)
 ·
  try simp only [ty] at hc1
  refine wpIn_seq ?_
  refine wpIn_region_lit ?_
  refine st_v hS rfl rfl (run_assign hS rfl) fun a hS => wl_nil ?_
  refine wpIn_ret ?_
  repeat (first | refine q_ret ?_ | refine q_block_ret ?_)
  refine hS.done (res1 (fn := Tryz.f172) (r1 := .tmp 6) rfl (rv_tmp hS rfl)) ?_
  have h : tabOk t = false := by simpa using hc1
  refine vb ?_; simp [filled, h]
 ·
  try simp only [ty] at hc1
  have hok : tabOk t = true := by
    cases h : tabOk t <;> simp [h] at hc1 ⊢
  obtain ⟨hX, hY, hV, hR⟩ := tab_axes hok
  have hl12 := hX.most; have hl13 := hY.most
  have hrows : ∀ i, i < t.V.length → (rowOf t.V i).length = t.Y.length := fun i hi => (hR _ (getD_mem hi)).1
  refine wpIn_skip ?_
  refine wpIn_seq ?_
  refine wpIn_seq ?_
  refine wpIn_region_lit ?_
  refine st_v hS rfl rfl (run_assign hS rfl) fun a hS => wl_nil ?_
  refine wpIn_block ?_
  refine st_loop2 (α := Nat) (fun i => [(7, .int .i64 (((i : Nat) : Int)))]) [(0, _), (1, _), (2, _), (3, _)] (fun l _ => l) (fun i => i ≤ t.X.length ∧ ∀ j k, j < i → k < t.Y.length → within (ix (rowOf t.V j) k) lo hi = true) (fun i => t.X.length - i) (0) hS (Sub.cons rfl (Sub.cons rfl (Sub.cons rfl (Sub.cons rfl (Sub.cons rfl Sub.nil))))) rfl (⟨Nat.zero_le _, fun j k hj => absurd hj (Nat.not_lt_zero j)⟩) (fun i W a hφ hS => ?_)
  dsimp only [setB, List.cons_append, List.nil_append, List.take] at hS
  obtain ⟨hi_, hgi⟩ := hφ
  refine wpIn_seq ?_
  refine wpIn_seq ?_
  refine wpIn_region_lit ?_
  refine st_v hS rfl rfl (run_move hS rfl) fun a hS => st_v hS rfl rfl (run_fieldAddr fa25_0 hS rfl) fun a hS => st_v hS rfl rfl (run_load_one (i := 0) Tryz.isAgg22 hS rfl rfl rfl) fun a hS => st_v hS rfl rfl (run_len_slice Tryz.underlying22 hS rfl) fun a hS => st_v hS rfl rfl (run_bin hS rfl rfl rfl) fun a hS => wl_nil ?_
  refine st_cond hS rfl (fun hc2 => ?_) (fun hc2 => ?_)
  ·
   try simp only [ty] at hc2
   refine wpIn_skip ?_
   refine wpIn_seq ?_
   refine wpIn_block ?_
   refine wpIn_seq ?_
   refine wpIn_region_lit ?_
   refine st_v hS rfl rfl (run_assign hS rfl) fun a hS => wl_nil ?_
   refine wpIn_block ?_
   refine st_loop2 (α := Nat) (fun k => [(8, .int .i64 (((k : Nat) : Int)))]) [(0, _), (1, _), (2, _), (3, _), (7, _)] (fun l _ => l) (fun k => k ≤ t.Y.length ∧ ∀ j, j < k → within (ix (rowOf t.V i) j) lo hi = true) (fun k => t.Y.length - k) (0) hS (Sub.cons rfl (Sub.cons rfl (Sub.cons rfl (Sub.cons rfl (Sub.cons rfl (Sub.cons rfl Sub.nil)))))) rfl (⟨Nat.zero_le _, fun j hj => absurd hj (Nat.not_lt_zero j)⟩) (fun k W a hφ hS => ?_)
   dsimp only [setB, List.cons_append, List.nil_append, List.take] at hS
   obtain ⟨hk, hgk⟩ := hφ
   have hll := hrows i (by omega)
   refine wpIn_seq ?_
   refine wpIn_seq ?_
   refine wpIn_region_lit ?_
   refine st_v hS rfl rfl (run_move hS rfl) fun a hS => st_v hS rfl rfl (run_fieldAddr fa25_1 hS rfl) fun a hS => st_v hS rfl rfl (run_load_one (i := 0) Tryz.isAgg22 hS rfl rfl rfl) fun a hS => st_v hS rfl rfl (run_len_slice Tryz.underlying22 hS rfl) fun a hS => st_v hS rfl rfl (run_bin hS rfl rfl rfl) fun a hS => wl_nil ?_
   refine st_cond hS rfl (fun hc3 => ?_) (fun hc3 => ?_)
   ·
    try simp only [ty] at hc3
    refine wpIn_skip ?_
    refine wpIn_seq ?_
    refine wpIn_block ?_
    refine wpIn_seq ?_
    refine wpIn_region_lit ?_
    refine st_v hS rfl rfl (run_fieldAddr fa25_2 hS rfl) fun a hS => st_v hS rfl rfl (run_load_one (i := 0) Tryz.isAgg23 hS rfl rfl rfl) fun a hS => st_v hS rfl rfl (run_move hS rfl) fun a hS => ?_
    obtain ⟨ad0, s0, hA0, hL0, hR0⟩ := sl_rowB ((fun W hC => (Ht W hC).2.2) _ (Below.refl _ _)) (i := ((i : Nat) : Int)) (j := i) (by omega) (by omega)
    refine st_v hS rfl rfl (run_indexAddr Tryz.underlying23 Tryz.sizeOf22 hS rfl rfl hA0 (by omega) (by omega)) fun a hS => st_v hS rfl rfl (run_load_cell Tryz.isAgg22 hS rfl (hL0 _ hS.below)) fun a hS => st_v hS rfl rfl (run_move hS rfl) fun a hS => ?_
    obtain ⟨ad1, hA1, hL1⟩ := sl_int hR0 (Below.refl _ _) (i := ((k : Nat) : Int)) (j := k) (by omega) (by omega)
    refine st_v hS rfl rfl (run_indexAddr Tryz.underlying22 Tryz.sizeOf3 hS rfl rfl hA1 (by omega) (by omega)) fun a hS => st_v hS rfl rfl (run_load_cell Tryz.isAgg3 hS rfl (hL1 _ hS.below)) fun a hS => st_v hS rfl rfl (run_move hS rfl) fun a hS => st_v hS rfl rfl (run_move hS rfl) fun a hS => st_call (ref02_from) Tryz.call174 hS rfl rfl rfl fun v W a hR hB hlt hS => ?_
    subst hR
    refine st_v hS rfl rfl (run_not hS rfl) fun a hS => wl_nil ?_
    refine st_cond hS rfl (fun hc4 => ?_) (fun hc4 => ?_)
    ·
     try simp only [ty] at hc4
     refine wpIn_seq ?_
     refine wpIn_region_lit ?_
     refine st_v hS rfl rfl (run_assign hS rfl) fun a hS => wl_nil ?_
     refine wpIn_ret ?_
     repeat (first | refine q_ret ?_ | refine q_block_ret ?_)
     refine hS.done (res1 (fn := Tryz.f172) (r1 := .tmp 6) rfl (rv_tmp hS rfl)) ?_
     have h2 : inAll t lo hi = false := inAll_bad (t := t) (i := i) (k := k) (by omega) (by omega) (by simpa using hc4)
     refine vb ?_; simp [filled, h2]
    ·
     try simp only [ty] at hc4
     refine wpIn_skip ?_
     refine wpIn_region_lit ?_
     refine st_v hS rfl rfl (run_move hS rfl) fun a hS => st_v hS rfl rfl (run_add (t := ((k + 1 : Nat) : Int)) hS rfl rfl (by omega) (by omega) (by omega)) fun a hS => st_v hS rfl rfl (run_assign hS rfl) fun a hS => wl_nil ?_
     refine ⟨k + 1, ⟨⟨by omega, fun j hj => ?_⟩, by omega⟩, (hS.sub (Sub.cons rfl (Sub.cons rfl (Sub.cons rfl (Sub.cons rfl (Sub.cons rfl (Sub.cons rfl Sub.nil)))))))⟩
     by_cases e : j = k
     · subst e; simpa using hc4
     · exact hgk j (by omega)
   ·
    try simp only [ty] at hc3
    refine wpIn_exit ?_
    refine wpIn_region_lit ?_
    refine st_v hS rfl rfl (run_move hS rfl) fun a hS => st_v hS rfl rfl (run_add (t := ((i + 1 : Nat) : Int)) hS rfl rfl (by omega) (by omega) (by omega)) fun a hS => st_v hS rfl rfl (run_assign hS rfl) fun a hS => wl_nil ?_
    refine ⟨i + 1, ⟨⟨by omega, fun j k hj hk => ?_⟩, by omega⟩, (hS.sub (Sub.cons rfl (Sub.cons rfl (Sub.cons rfl (Sub.cons rfl (Sub.cons rfl Sub.nil))))))⟩
    by_cases e : j = i
    · subst e; exact hgk k (by omega)
    · exact hgi j k (by omega) hk
  ·
   try simp only [ty] at hc2
   refine wpIn_exit ?_
   refine wpIn_seq ?_
   refine wpIn_region_lit ?_
   refine st_v hS rfl rfl (run_assign hS rfl) fun a hS => wl_nil ?_
   refine wpIn_ret ?_
   repeat (first | refine q_ret ?_ | refine q_block_ret ?_)
   refine hS.done (res1 (fn := Tryz.f172) (r1 := .tmp 6) rfl (rv_tmp hS rfl)) ?_
   have h2 : inAll t lo hi = true := inAll_good fun j k hj hk => hgi j k (by omega) (by have := hrows j hj; omega)
   refine vb ?_; simp [filled, hok, h2]
set_option maxHeartbeats 4000000 in
set_option maxRecDepth 100000 in
theorem ref02_Check  (Vr : RV) (r : Rot) {w : World} {Fr : Nat → Prop} (hr : RotR Fr w Vr r)  : Ret Tryz.prog 99 [.agg (rotC Vr r).toArray] w (fun v _ => v = .int .i64 (checkRot r)) := by
 refine ret_start (n := 114) Tryz.func99 rfl rfl rfl (fun a hS => ?_)
 have Hr : ∀ W, Below w.heap.size w W → RotR Fr W Vr r := fun W hb => hr.move (keep_of hb)
 refine wpIn_seq ?_
 refine wpIn_region_lit ?_
 refine st_box_agg hS rfl rfl rfl fun W a b0 hS => st_v hS rfl rfl (run_assign hS rfl) fun a hS => wl_nil ?_
 refine wpIn_seq ?_
 refine wpIn_seq ?_
 refine wpIn_region_lit ?_
 refine st_v hS rfl rfl (run_fieldAddr fa27_0 hS rfl) fun a hS => st_v hS rfl rfl (run_load_agg (i := 0) (vs := [_, _, _]) Tryz.isAgg25 Tryz.sizeOf25 hS rfl rfl rfl ⟨rfl, rfl, rfl, trivial⟩) fun a hS => st_call (ref02_filled Vr.hover r.hover ((fun W hC => (Hr W hC).hover) _ hS.below)) Tryz.call172 hS rfl rfl rfl fun v W a hR hB hlt hS => ?_
 subst hR
 refine st_v hS rfl rfl (run_not hS rfl) fun a hS => st_v hS rfl rfl (run_move hS rfl) fun a hS => ?_
 refine st_split (d := 9) hS rfl (fun hc1 hS => ?_) (fun hc1 hS => ?_)
 ·
  try simp only [ty] at hc1
  refine st_skip hS (hS.unwanted rfl rfl rfl rfl) rfl fun a hS => st_skip hS (hS.unwanted rfl rfl rfl rfl) rfl fun a hS => st_skip hS (hS.unwanted rfl rfl rfl rfl) rfl fun a hS => st_skip hS (hS.unwanted rfl rfl rfl rfl) rfl fun a hS => st_v hS rfl rfl (run_pick_t hS rfl rfl) fun a hS => st_v hS rfl rfl (run_move hS rfl) fun a hS => st_skip hS (hS.unwanted rfl rfl rfl rfl) rfl fun a hS => st_skip hS (hS.unwanted rfl rfl rfl rfl) rfl fun a hS => st_skip hS (hS.unwanted rfl rfl rfl rfl) rfl fun a hS => st_skip hS (hS.unwanted rfl rfl rfl rfl) rfl fun a hS => st_v hS rfl rfl (run_pick_t hS rfl rfl) fun a hS => st_v hS rfl rfl (run_move hS rfl) fun a hS => st_skip hS (hS.unwanted rfl rfl rfl rfl) rfl fun a hS => st_skip hS (hS.unwanted rfl rfl rfl rfl) rfl fun a hS => st_skip hS (hS.unwanted rfl rfl rfl rfl) rfl fun a hS => st_skip hS (hS.unwanted rfl rfl rfl rfl) rfl fun a hS => st_v hS rfl rfl (run_pick_t hS rfl rfl) fun a hS => wl_nil ?_
  refine st_cond_t hS rfl ?_
  refine wpIn_seq ?_
  refine wpIn_region_lit ?_
  refine st_v hS rfl rfl (run_assign hS rfl) fun a hS => wl_nil ?_
  refine wpIn_ret ?_
  repeat (first | refine q_ret ?_ | refine q_block_ret ?_)
  refine hS.done (res1 (fn := Tryz.f99) (r1 := .tmp 2) rfl (rv_tmp hS rfl)) ?_
  have h : rotOk r = false := by rw [rotOk_eq]; simp [limsOk, hc1]
  rw [checkRot, h]; rfl
 ·
  try simp only [ty] at hc1
  refine st_v hS (hS.wanted rfl rfl rfl) rfl (run_fieldAddr fa27_1 hS rfl) fun a hS => st_v hS (hS.wanted rfl rfl rfl) rfl (run_load_agg (i := 0) (vs := [_, _, _]) Tryz.isAgg25 Tryz.sizeOf25 hS rfl rfl rfl ⟨rfl, rfl, rfl, trivial⟩) fun a hS => st_call (ref02_filled Vr.ground r.ground ((fun W hC => (Hr W hC).ground) _ hS.below)) Tryz.call172 hS (hS.wanted rfl rfl rfl) rfl rfl fun v W a hR hB hlt hS => ?_
  subst hR
  refine st_v hS (hS.wanted rfl rfl rfl) rfl (run_not hS rfl) fun a hS => st_v hS rfl rfl (run_pick_f hS rfl rfl) fun a hS => st_v hS rfl rfl (run_move hS rfl) fun a hS => ?_
  refine st_split (d := 15) hS rfl (fun hc2 hS => ?_) (fun hc2 hS => ?_)
  ·
   try simp only [ty] at hc2
   refine st_skip hS (hS.unwanted rfl rfl rfl rfl) rfl fun a hS => st_skip hS (hS.unwanted rfl rfl rfl rfl) rfl fun a hS => st_skip hS (hS.unwanted rfl rfl rfl rfl) rfl fun a hS => st_skip hS (hS.unwanted rfl rfl rfl rfl) rfl fun a hS => st_v hS rfl rfl (run_pick_t hS rfl rfl) fun a hS => st_v hS rfl rfl (run_move hS rfl) fun a hS => st_skip hS (hS.unwanted rfl rfl rfl rfl) rfl fun a hS => st_skip hS (hS.unwanted rfl rfl rfl rfl) rfl fun a hS => st_skip hS (hS.unwanted rfl rfl rfl rfl) rfl fun a hS => st_skip hS (hS.unwanted rfl rfl rfl rfl) rfl fun a hS => st_v hS rfl rfl (run_pick_t hS rfl rfl) fun a hS => wl_nil ?_
   refine st_cond_t hS rfl ?_
   refine wpIn_seq ?_
   refine wpIn_region_lit ?_
   refine st_v hS rfl rfl (run_assign hS rfl) fun a hS => wl_nil ?_
   refine wpIn_ret ?_
   repeat (first | refine q_ret ?_ | refine q_block_ret ?_)
   refine hS.done (res1 (fn := Tryz.f99) (r1 := .tmp 2) rfl (rv_tmp hS rfl)) ?_
   have h : rotOk r = false := by rw [rotOk_eq]; simp [limsOk, hc1, hc2]
   rw [checkRot, h]; rfl
  ·
   try simp only [ty] at hc2
   refine st_v hS (hS.wanted rfl rfl rfl) rfl (run_fieldAddr fa27_2 hS rfl) fun a hS => st_v hS (hS.wanted rfl rfl rfl) rfl (run_load_agg (i := 0) (vs := [_, _, _]) Tryz.isAgg25 Tryz.sizeOf25 hS rfl rfl rfl ⟨rfl, rfl, rfl, trivial⟩) fun a hS => st_call (ref02_filled Vr.level r.level ((fun W hC => (Hr W hC).level) _ hS.below)) Tryz.call172 hS (hS.wanted rfl rfl rfl) rfl rfl fun v W a hR hB hlt hS => ?_
   subst hR
   refine st_v hS (hS.wanted rfl rfl rfl) rfl (run_not hS rfl) fun a hS => st_v hS rfl rfl (run_pick_f hS rfl rfl) fun a hS => st_v hS rfl rfl (run_move hS rfl) fun a hS => ?_
   refine st_split (d := 21) hS rfl (fun hc3 hS => ?_) (fun hc3 hS => ?_)
   ·
    try simp only [ty] at hc3
    refine st_skip hS (hS.unwanted rfl rfl rfl rfl) rfl fun a hS => st_skip hS (hS.unwanted rfl rfl rfl rfl) rfl fun a hS => st_skip hS (hS.unwanted rfl rfl rfl rfl) rfl fun a hS => st_skip hS (hS.unwanted rfl rfl rfl rfl) rfl fun a hS => st_v hS rfl rfl (run_pick_t hS rfl rfl) fun a hS => wl_nil ?_
    refine st_cond_t hS rfl ?_
    refine wpIn_seq ?_
    refine wpIn_region_lit ?_
    refine st_v hS rfl rfl (run_assign hS rfl) fun a hS => wl_nil ?_
    refine wpIn_ret ?_
    repeat (first | refine q_ret ?_ | refine q_block_ret ?_)
    refine hS.done (res1 (fn := Tryz.f99) (r1 := .tmp 2) rfl (rv_tmp hS rfl)) ?_
    have h : rotOk r = false := by rw [rotOk_eq]; simp [limsOk, hc1, hc2, hc3]
    rw [checkRot, h]; rfl
   ·
    try simp only [ty] at hc3
    refine st_v hS (hS.wanted rfl rfl rfl) rfl (run_fieldAddr fa27_3 hS rfl) fun a hS => st_v hS (hS.wanted rfl rfl rfl) rfl (run_load_agg (i := 0) (vs := [_, _, _]) Tryz.isAgg25 Tryz.sizeOf25 hS rfl rfl rfl ⟨rfl, rfl, rfl, trivial⟩) fun a hS => st_call (ref02_filled Vr.power r.power ((fun W hC => (Hr W hC).power) _ hS.below)) Tryz.call172 hS (hS.wanted rfl rfl rfl) rfl rfl fun v W a hR hB hlt hS => ?_
    subst hR
    refine st_v hS (hS.wanted rfl rfl rfl) rfl (run_not hS rfl) fun a hS => st_v hS rfl rfl (run_pick_f hS rfl rfl) fun a hS => wl_nil ?_
    refine st_cond hS rfl (fun hc4 => ?_) (fun hc4 => ?_)
    ·
     try simp only [ty] at hc4
     refine wpIn_seq ?_
     refine wpIn_region_lit ?_
     refine st_v hS rfl rfl (run_assign hS rfl) fun a hS => wl_nil ?_
     refine wpIn_ret ?_
     repeat (first | refine q_ret ?_ | refine q_block_ret ?_)
     refine hS.done (res1 (fn := Tryz.f99) (r1 := .tmp 2) rfl (rv_tmp hS rfl)) ?_
     have h : rotOk r = false := by rw [rotOk_eq]; simp [limsOk, hc1, hc2, hc3, hc4]
     rw [checkRot, h]; rfl
    ·
     try simp only [ty] at hc4
     refine wpIn_skip ?_
     refine wpIn_seq ?_
     refine wpIn_seq ?_
     refine wpIn_region_lit ?_
     refine st_v hS rfl rfl (run_fieldAddr fa27_4 hS rfl) fun a hS => st_v hS rfl rfl (run_load_agg (i := 0) (vs := [_, _, _]) Tryz.isAgg25 Tryz.sizeOf25 hS rfl rfl rfl ⟨rfl, rfl, rfl, trivial⟩) fun a hS => st_call (ref02_filled Vr.never r.never ((fun W hC => (Hr W hC).never) _ hS.below)) Tryz.call172 hS rfl rfl rfl fun v W a hR hB hlt hS => ?_
     subst hR
     refine st_v hS rfl rfl (run_not hS rfl) fun a hS => st_v hS rfl rfl (run_move hS rfl) fun a hS => ?_
     refine st_split (d := 31) hS rfl (fun hc5 hS => ?_) (fun hc5 hS => ?_)
     ·
      try simp only [ty] at hc5
      refine st_skip hS (hS.unwanted rfl rfl rfl rfl) rfl fun a hS => st_skip hS (hS.unwanted rfl rfl rfl rfl) rfl fun a hS => st_skip hS (hS.unwanted rfl rfl rfl rfl) rfl fun a hS => st_skip hS (hS.unwanted rfl rfl rfl rfl) rfl fun a hS => st_v hS rfl rfl (run_pick_t hS rfl rfl) fun a hS => st_v hS rfl rfl (run_move hS rfl) fun a hS => st_skip hS (hS.unwanted rfl rfl rfl rfl) rfl fun a hS => st_skip hS (hS.unwanted rfl rfl rfl rfl) rfl fun a hS => st_skip hS (hS.unwanted rfl rfl rfl rfl) rfl fun a hS => st_skip hS (hS.unwanted rfl rfl rfl rfl) rfl fun a hS => st_v hS rfl rfl (run_pick_t hS rfl rfl) fun a hS => st_v hS rfl rfl (run_move hS rfl) fun a hS => st_skip hS (hS.unwanted rfl rfl rfl rfl) rfl fun a hS => st_skip hS (hS.unwanted rfl rfl rfl rfl) rfl fun a hS => st_skip hS (hS.unwanted rfl rfl rfl rfl) rfl fun a hS => st_skip hS (hS.unwanted rfl rfl rfl rfl) rfl fun a hS => st_v hS rfl rfl (run_pick_t hS rfl rfl) fun a hS => wl_nil ?_
      have hS := hS.sub (κ' := [(0, _), (1, _), (2, _), (48, _)]) (Sub.cons rfl (Sub.cons rfl (Sub.cons rfl (Sub.cons rfl Sub.nil))))
      refine st_cond_t hS rfl ?_
      refine wpIn_seq ?_
      refine wpIn_region_lit ?_
      refine st_v hS rfl rfl (run_assign hS rfl) fun a hS => wl_nil ?_
      refine wpIn_ret ?_
      repeat (first | refine q_ret ?_ | refine q_block_ret ?_)
      refine hS.done (res1 (fn := Tryz.f99) (r1 := .tmp 2) rfl (rv_tmp hS rfl)) ?_
      have h : rotOk r = false := by rw [rotOk_eq]; simp [limsOk, hc1, hc2, hc3, hc4, hc5]
      rw [checkRot, h]; rfl
     ·
      try simp only [ty] at hc5
      refine st_v hS (hS.wanted rfl rfl rfl) rfl (run_fieldAddr fa27_5 hS rfl) fun a hS => st_v hS (hS.wanted rfl rfl rfl) rfl (run_load_agg (i := 0) (vs := [_, _, _]) Tryz.isAgg25 Tryz.sizeOf25 hS rfl rfl rfl ⟨rfl, rfl, rfl, trivial⟩) fun a hS => st_call (ref02_filled Vr.low r.low ((fun W hC => (Hr W hC).low) _ hS.below)) Tryz.call172 hS (hS.wanted rfl rfl rfl) rfl rfl fun v W a hR hB hlt hS => ?_
      subst hR
      refine st_v hS (hS.wanted rfl rfl rfl) rfl (run_not hS rfl) fun a hS => st_v hS rfl rfl (run_pick_f hS rfl rfl) fun a hS => st_v hS rfl rfl (run_move hS rfl) fun a hS => ?_
      refine st_split (d := 37) hS rfl (fun hc6 hS => ?_) (fun hc6 hS => ?_)
      ·
       try simp only [ty] at hc6
       refine st_skip hS (hS.unwanted rfl rfl rfl rfl) rfl fun a hS => st_skip hS (hS.unwanted rfl rfl rfl rfl) rfl fun a hS => st_skip hS (hS.unwanted rfl rfl rfl rfl) rfl fun a hS => st_skip hS (hS.unwanted rfl rfl rfl rfl) rfl fun a hS => st_v hS rfl rfl (run_pick_t hS rfl rfl) fun a hS => st_v hS rfl rfl (run_move hS rfl) fun a hS => st_skip hS (hS.unwanted rfl rfl rfl rfl) rfl fun a hS => st_skip hS (hS.unwanted rfl rfl rfl rfl) rfl fun a hS => st_skip hS (hS.unwanted rfl rfl rfl rfl) rfl fun a hS => st_skip hS (hS.unwanted rfl rfl rfl rfl) rfl fun a hS => st_v hS rfl rfl (run_pick_t hS rfl rfl) fun a hS => wl_nil ?_
       have hS := hS.sub (κ' := [(0, _), (1, _), (2, _), (48, _)]) (Sub.cons rfl (Sub.cons rfl (Sub.cons rfl (Sub.cons rfl Sub.nil))))
       refine st_cond_t hS rfl ?_
       refine wpIn_seq ?_
       refine wpIn_region_lit ?_
       refine st_v hS rfl rfl (run_assign hS rfl) fun a hS => wl_nil ?_
       refine wpIn_ret ?_
       repeat (first | refine q_ret ?_ | refine q_block_ret ?_)
       refine hS.done (res1 (fn := Tryz.f99) (r1 := .tmp 2) rfl (rv_tmp hS rfl)) ?_
       have h : rotOk r = false := by rw [rotOk_eq]; simp [limsOk, hc1, hc2, hc3, hc4, hc5, hc6]
       rw [checkRot, h]; rfl
      ·
       try simp only [ty] at hc6
       refine st_v hS (hS.wanted rfl rfl rfl) rfl (run_fieldAddr fa27_6 hS rfl) fun a hS => st_v hS (hS.wanted rfl rfl rfl) rfl (run_load_agg (i := 0) (vs := [_, _, _]) Tryz.isAgg25 Tryz.sizeOf25 hS rfl rfl rfl ⟨rfl, rfl, rfl, trivial⟩) fun a hS => st_call (ref02_filled Vr.high r.high ((fun W hC => (Hr W hC).high) _ hS.below)) Tryz.call172 hS (hS.wanted rfl rfl rfl) rfl rfl fun v W a hR hB hlt hS => ?_
       subst hR
       refine st_v hS (hS.wanted rfl rfl rfl) rfl (run_not hS rfl) fun a hS => st_v hS rfl rfl (run_pick_f hS rfl rfl) fun a hS => st_v hS rfl rfl (run_move hS rfl) fun a hS => ?_
       refine st_split (d := 43) hS rfl (fun hc7 hS => ?_) (fun hc7 hS => ?_)
       ·
        try simp only [ty] at hc7
        refine st_skip hS (hS.unwanted rfl rfl rfl rfl) rfl fun a hS => st_skip hS (hS.unwanted rfl rfl rfl rfl) rfl fun a hS => st_skip hS (hS.unwanted rfl rfl rfl rfl) rfl fun a hS => st_skip hS (hS.unwanted rfl rfl rfl rfl) rfl fun a hS => st_v hS rfl rfl (run_pick_t hS rfl rfl) fun a hS => wl_nil ?_
        have hS := hS.sub (κ' := [(0, _), (1, _), (2, _), (48, _)]) (Sub.cons rfl (Sub.cons rfl (Sub.cons rfl (Sub.cons rfl Sub.nil))))
        refine st_cond_t hS rfl ?_
        refine wpIn_seq ?_
        refine wpIn_region_lit ?_
        refine st_v hS rfl rfl (run_assign hS rfl) fun a hS => wl_nil ?_
        refine wpIn_ret ?_
        repeat (first | refine q_ret ?_ | refine q_block_ret ?_)
        refine hS.done (res1 (fn := Tryz.f99) (r1 := .tmp 2) rfl (rv_tmp hS rfl)) ?_
        have h : rotOk r = false := by rw [rotOk_eq]; simp [limsOk, hc1, hc2, hc3, hc4, hc5, hc6, hc7]
        rw [checkRot, h]; rfl
       ·
        try simp only [ty] at hc7
        refine st_v hS (hS.wanted rfl rfl rfl) rfl (run_fieldAddr fa27_7 hS rfl) fun a hS => st_v hS (hS.wanted rfl rfl rfl) rfl (run_load_agg (i := 0) (vs := [_, _, _]) Tryz.isAgg25 Tryz.sizeOf25 hS rfl rfl rfl ⟨rfl, rfl, rfl, trivial⟩) fun a hS => st_call (ref02_filled Vr.glide r.glide ((fun W hC => (Hr W hC).glide) _ hS.below)) Tryz.call172 hS (hS.wanted rfl rfl rfl) rfl rfl fun v W a hR hB hlt hS => ?_
        subst hR
        refine st_v hS (hS.wanted rfl rfl rfl) rfl (run_not hS rfl) fun a hS => st_v hS rfl rfl (run_pick_f hS rfl rfl) fun a hS => wl_nil ?_
        have hS := hS.sub (κ' := [(0, _), (1, _), (2, _), (48, _)]) (Sub.cons rfl (Sub.cons rfl (Sub.cons rfl (Sub.cons rfl Sub.nil))))
        refine st_cond hS rfl (fun hc8 => ?_) (fun hc8 => ?_)
        ·
         try simp only [ty] at hc8
         refine wpIn_seq ?_
         refine wpIn_region_lit ?_
         refine st_v hS rfl rfl (run_assign hS rfl) fun a hS => wl_nil ?_
         refine wpIn_ret ?_
         repeat (first | refine q_ret ?_ | refine q_block_ret ?_)
         refine hS.done (res1 (fn := Tryz.f99) (r1 := .tmp 2) rfl (rv_tmp hS rfl)) ?_
         have h : rotOk r = false := by rw [rotOk_eq]; simp [limsOk, hc1, hc2, hc3, hc4, hc5, hc6, hc7, hc8]
         rw [checkRot, h]; rfl
        ·
         try simp only [ty] at hc8
         refine wpIn_skip ?_
         refine wpIn_seq ?_
         refine wpIn_seq ?_
         refine wpIn_region_lit ?_
         refine st_v hS rfl rfl (run_fieldAddr fa27_5 hS rfl) fun a hS => st_v hS rfl rfl (run_fieldAddr fa25_0 hS rfl) fun a hS => st_v hS rfl rfl (run_load_one (i := 0) Tryz.isAgg22 hS rfl rfl rfl) fun a hS => st_v hS rfl rfl (run_fieldAddr fa27_6 hS rfl) fun a hS => st_v hS rfl rfl (run_fieldAddr fa25_0 hS rfl) fun a hS => st_v hS rfl rfl (run_load_one (i := 0) Tryz.isAgg22 hS rfl rfl rfl) fun a hS => st_call (ref02_same Vr.low.x r.low.X Vr.high.x r.high.X ((fun W hC => ((fun W hC => (Hr W hC).low) W hC).1) _ hS.below) ((fun W hC => ((fun W hC => (Hr W hC).high) W hC).1) _ hS.below)) Tryz.call173 hS rfl rfl rfl fun v W a hR hB hlt hS => ?_
         subst hR
         refine st_v hS rfl rfl (run_not hS rfl) fun a hS => st_v hS rfl rfl (run_move hS rfl) fun a hS => ?_
         refine st_split (d := 57) hS rfl (fun hc9 hS => ?_) (fun hc9 hS => ?_)
         ·
          try simp only [ty] at hc9
          refine st_skip hS (hS.unwanted rfl rfl rfl rfl) rfl fun a hS => st_skip hS (hS.unwanted rfl rfl rfl rfl) rfl fun a hS => st_skip hS (hS.unwanted rfl rfl rfl rfl) rfl fun a hS => st_skip hS (hS.unwanted rfl rfl rfl rfl) rfl fun a hS => st_skip hS (hS.unwanted rfl rfl rfl rfl) rfl fun a hS => st_skip hS (hS.unwanted rfl rfl rfl rfl) rfl fun a hS => st_skip hS (hS.unwanted rfl rfl rfl rfl) rfl fun a hS => st_skip hS (hS.unwanted rfl rfl rfl rfl) rfl fun a hS => st_v hS rfl rfl (run_pick_t hS rfl rfl) fun a hS => st_v hS rfl rfl (run_move hS rfl) fun a hS => st_skip hS (hS.unwanted rfl rfl rfl rfl) rfl fun a hS => st_skip hS (hS.unwanted rfl rfl rfl rfl) rfl fun a hS => st_skip hS (hS.unwanted rfl rfl rfl rfl) rfl fun a hS => st_skip hS (hS.unwanted rfl rfl rfl rfl) rfl fun a hS => st_v hS rfl rfl (run_pick_t hS rfl rfl) fun a hS => st_v hS rfl rfl (run_move hS rfl) fun a hS => st_skip hS (hS.unwanted rfl rfl rfl rfl) rfl fun a hS => st_skip hS (hS.unwanted rfl rfl rfl rfl) rfl fun a hS => st_skip hS (hS.unwanted rfl rfl rfl rfl) rfl fun a hS => st_skip hS (hS.unwanted rfl rfl rfl rfl) rfl fun a hS => st_v hS rfl rfl (run_pick_t hS rfl rfl) fun a hS => wl_nil ?_
          have hS := hS.sub (κ' := [(0, _), (1, _), (2, _), (78, _)]) (Sub.cons rfl (Sub.cons rfl (Sub.cons rfl (Sub.cons rfl Sub.nil))))
          refine st_cond_t hS rfl ?_
          refine wpIn_seq ?_
          refine wpIn_region_lit ?_
          refine st_v hS rfl rfl (run_assign hS rfl) fun a hS => wl_nil ?_
          refine wpIn_ret ?_
          repeat (first | refine q_ret ?_ | refine q_block_ret ?_)
          refine hS.done (res1 (fn := Tryz.f99) (r1 := .tmp 2) rfl (rv_tmp hS rfl)) ?_
          have h : rotOk r = false := by rw [rotOk_eq]; simp [limsOk, hc1, hc2, hc3, hc4, hc5, hc6, hc7, hc8, hc9]
          rw [checkRot, h]; rfl
         ·
          try simp only [ty] at hc9
          refine st_v hS (hS.wanted rfl rfl rfl) rfl (run_fieldAddr fa27_5 hS rfl) fun a hS => st_v hS (hS.wanted rfl rfl rfl) rfl (run_fieldAddr fa25_1 hS rfl) fun a hS => st_v hS (hS.wanted rfl rfl rfl) rfl (run_load_one (i := 0) Tryz.isAgg22 hS rfl rfl rfl) fun a hS => st_v hS (hS.wanted rfl rfl rfl) rfl (run_fieldAddr fa27_6 hS rfl) fun a hS => st_v hS (hS.wanted rfl rfl rfl) rfl (run_fieldAddr fa25_1 hS rfl) fun a hS => st_v hS (hS.wanted rfl rfl rfl) rfl (run_load_one (i := 0) Tryz.isAgg22 hS rfl rfl rfl) fun a hS => st_call (ref02_same Vr.low.y r.low.Y Vr.high.y r.high.Y ((fun W hC => ((fun W hC => (Hr W hC).low) W hC).2.1) _ hS.below) ((fun W hC => ((fun W hC => (Hr W hC).high) W hC).2.1) _ hS.below)) Tryz.call173 hS (hS.wanted rfl rfl rfl) rfl rfl fun v W a hR hB hlt hS => ?_
          subst hR
          refine st_v hS (hS.wanted rfl rfl rfl) rfl (run_not hS rfl) fun a hS => st_v hS rfl rfl (run_pick_f hS rfl rfl) fun a hS => st_v hS rfl rfl (run_move hS rfl) fun a hS => ?_
          refine st_split (d := 67) hS rfl (fun hc10 hS => ?_) (fun hc10 hS => ?_)
          ·
           try simp only [ty] at hc10
           refine st_skip hS (hS.unwanted rfl rfl rfl rfl) rfl fun a hS => st_skip hS (hS.unwanted rfl rfl rfl rfl) rfl fun a hS => st_skip hS (hS.unwanted rfl rfl rfl rfl) rfl fun a hS => st_skip hS (hS.unwanted rfl rfl rfl rfl) rfl fun a hS => st_v hS rfl rfl (run_pick_t hS rfl rfl) fun a hS => st_v hS rfl rfl (run_move hS rfl) fun a hS => st_skip hS (hS.unwanted rfl rfl rfl rfl) rfl fun a hS => st_skip hS (hS.unwanted rfl rfl rfl rfl) rfl fun a hS => st_skip hS (hS.unwanted rfl rfl rfl rfl) rfl fun a hS => st_skip hS (hS.unwanted rfl rfl rfl rfl) rfl fun a hS => st_v hS rfl rfl (run_pick_t hS rfl rfl) fun a hS => wl_nil ?_
           have hS := hS.sub (κ' := [(0, _), (1, _), (2, _), (78, _)]) (Sub.cons rfl (Sub.cons rfl (Sub.cons rfl (Sub.cons rfl Sub.nil))))
           refine st_cond_t hS rfl ?_
           refine wpIn_seq ?_
           refine wpIn_region_lit ?_
           refine st_v hS rfl rfl (run_assign hS rfl) fun a hS => wl_nil ?_
           refine wpIn_ret ?_
           repeat (first | refine q_ret ?_ | refine q_block_ret ?_)
           refine hS.done (res1 (fn := Tryz.f99) (r1 := .tmp 2) rfl (rv_tmp hS rfl)) ?_
           have h : rotOk r = false := by rw [rotOk_eq]; simp [limsOk, hc1, hc2, hc3, hc4, hc5, hc6, hc7, hc8, hc9, hc10]
           rw [checkRot, h]; rfl
          ·
           try simp only [ty] at hc10
           refine st_v hS (hS.wanted rfl rfl rfl) rfl (run_fieldAddr fa27_8 hS rfl) fun a hS => st_v hS (hS.wanted rfl rfl rfl) rfl (run_load_one (i := 0) Tryz.isAgg3 hS rfl rfl rfl) fun a hS => st_call (ref02_from) Tryz.call174 hS (hS.wanted rfl rfl rfl) rfl rfl fun v W a hR hB hlt hS => ?_
           subst hR
           refine st_v hS (hS.wanted rfl rfl rfl) rfl (run_not hS rfl) fun a hS => st_v hS rfl rfl (run_pick_f hS rfl rfl) fun a hS => st_v hS rfl rfl (run_move hS rfl) fun a hS => ?_
           refine st_split (d := 73) hS rfl (fun hc11 hS => ?_) (fun hc11 hS => ?_)
           ·
            try simp only [ty] at hc11
            refine st_skip hS (hS.unwanted rfl rfl rfl rfl) rfl fun a hS => st_skip hS (hS.unwanted rfl rfl rfl rfl) rfl fun a hS => st_skip hS (hS.unwanted rfl rfl rfl rfl) rfl fun a hS => st_skip hS (hS.unwanted rfl rfl rfl rfl) rfl fun a hS => st_v hS rfl rfl (run_pick_t hS rfl rfl) fun a hS => wl_nil ?_
            have hS := hS.sub (κ' := [(0, _), (1, _), (2, _), (78, _)]) (Sub.cons rfl (Sub.cons rfl (Sub.cons rfl (Sub.cons rfl Sub.nil))))
            refine st_cond_t hS rfl ?_
            refine wpIn_seq ?_
            refine wpIn_region_lit ?_
            refine st_v hS rfl rfl (run_assign hS rfl) fun a hS => wl_nil ?_
            refine wpIn_ret ?_
            repeat (first | refine q_ret ?_ | refine q_block_ret ?_)
            refine hS.done (res1 (fn := Tryz.f99) (r1 := .tmp 2) rfl (rv_tmp hS rfl)) ?_
            have h : rotOk r = false := by rw [rotOk_eq]; simp [limsOk, hc1, hc2, hc3, hc4, hc5, hc6, hc7, hc8, hc9, hc10, hc11]
            rw [checkRot, h]; rfl
           ·
            try simp only [ty] at hc11
            refine st_v hS (hS.wanted rfl rfl rfl) rfl (run_fieldAddr fa27_9 hS rfl) fun a hS => st_v hS (hS.wanted rfl rfl rfl) rfl (run_load_one (i := 0) Tryz.isAgg3 hS rfl rfl rfl) fun a hS => st_call (ref02_from) Tryz.call174 hS (hS.wanted rfl rfl rfl) rfl rfl fun v W a hR hB hlt hS => ?_
            subst hR
            refine st_v hS (hS.wanted rfl rfl rfl) rfl (run_not hS rfl) fun a hS => st_v hS rfl rfl (run_pick_f hS rfl rfl) fun a hS => wl_nil ?_
            have hS := hS.sub (κ' := [(0, _), (1, _), (2, _), (78, _)]) (Sub.cons rfl (Sub.cons rfl (Sub.cons rfl (Sub.cons rfl Sub.nil))))
            refine st_cond hS rfl (fun hc12 => ?_) (fun hc12 => ?_)
            ·
             try simp only [ty] at hc12
             refine wpIn_seq ?_
             refine wpIn_region_lit ?_
             refine st_v hS rfl rfl (run_assign hS rfl) fun a hS => wl_nil ?_
             refine wpIn_ret ?_
             repeat (first | refine q_ret ?_ | refine q_block_ret ?_)
             refine hS.done (res1 (fn := Tryz.f99) (r1 := .tmp 2) rfl (rv_tmp hS rfl)) ?_
             have h : rotOk r = false := by rw [rotOk_eq]; simp [limsOk, hc1, hc2, hc3, hc4, hc5, hc6, hc7, hc8, hc9, hc10, hc11, hc12]
             rw [checkRot, h]; rfl
            ·
             try simp only [ty] at hc12
             have hlims : limsOk r = true := by simp [limsOk, hc1, hc2, hc3, hc4, hc5, hc6, hc7, hc8, hc9, hc10, hc11, hc12]
             have hlh := lims_low hlims
             obtain ⟨hlX, hlY, hlV, hlR⟩ := tab_axes hlh.1; obtain ⟨hhX, hhY, hhV, hhR⟩ := tab_axes hlh.2
             have hsX : r.low.X = r.high.X := by first | assumption | simp_all
             have hsY : r.low.Y = r.high.Y := by first | assumption | simp_all
             have hcl : within r.climb 1 1000 = true := by first | assumption | simp_all
             have hbu : within r.burn 1 1000 = true := by first | assumption | simp_all
             have hl12 := hlX.most; have hl13 := hlY.most
             have hsXl : r.low.X.length = r.high.X.length := by rw [hsX]
             have hsYl : r.low.Y.length = r.high.Y.length := by rw [hsY]
             have hlowR : ∀ i, i < r.low.V.length → (rowOf r.low.V i).length = r.low.Y.length := fun i hi => (hlR _ (getD_mem hi)).1
             have hhighR : ∀ i, i < r.high.V.length → (rowOf r.high.V i).length = r.high.Y.length := fun i hi => (hhR _ (getD_mem hi)).1
             refine wpIn_skip ?_
             refine wpIn_seq ?_
             refine wpIn_seq ?_
             refine wpIn_region_lit ?_
             refine st_v hS rfl rfl (run_assign hS rfl) fun a hS => wl_nil ?_
             refine wpIn_block ?_
             refine st_loop2 (α := Nat) (fun i => [(3, .int .i64 (((i : Nat) : Int)))]) [(0, _), (1, _)] (fun l _ => l) (fun i => i ≤ r.low.X.length ∧ ∀ j k, j < i → k < r.low.Y.length → vat r.low j k ≤ vat r.high j k) (fun i => r.low.X.length - i) (0) hS (Sub.cons rfl (Sub.cons rfl (Sub.cons rfl Sub.nil))) rfl (⟨Nat.zero_le _, fun j k hj => absurd hj (Nat.not_lt_zero j)⟩) (fun i W a hφ hS => ?_)
             dsimp only [setB, List.cons_append, List.nil_append, List.take] at hS
             obtain ⟨hi, hgi⟩ := hφ
             refine wpIn_seq ?_
             refine wpIn_seq ?_
             refine wpIn_region_lit ?_
             refine st_v hS rfl rfl (run_move hS rfl) fun a hS => st_v hS rfl rfl (run_fieldAddr fa27_5 hS rfl) fun a hS => st_v hS rfl rfl (run_fieldAddr fa25_0 hS rfl) fun a hS => st_v hS rfl rfl (run_load_one (i := 0) Tryz.isAgg22 hS rfl rfl rfl) fun a hS => st_v hS rfl rfl (run_len_slice Tryz.underlying22 hS rfl) fun a hS => st_v hS rfl rfl (run_bin hS rfl rfl rfl) fun a hS => wl_nil ?_
             refine st_cond hS rfl (fun hc13 => ?_) (fun hc13 => ?_)
             ·
              try simp only [ty] at hc13
              refine wpIn_skip ?_
              refine wpIn_seq ?_
              refine wpIn_block ?_
              refine wpIn_seq ?_
              refine wpIn_region_lit ?_
              refine st_v hS rfl rfl (run_assign hS rfl) fun a hS => wl_nil ?_
              refine wpIn_block ?_
              refine st_loop2 (α := Nat) (fun k => [(4, .int .i64 (((k : Nat) : Int)))]) [(0, _), (1, _), (3, _)] (fun l _ => l) (fun k => k ≤ r.low.Y.length ∧ ∀ j, j < k → vat r.low i j ≤ vat r.high i j) (fun k => r.low.Y.length - k) (0) hS (Sub.cons rfl (Sub.cons rfl (Sub.cons rfl (Sub.cons rfl Sub.nil)))) rfl (⟨Nat.zero_le _, fun j hj => absurd hj (Nat.not_lt_zero j)⟩) (fun k W a hφ hS => ?_)
              dsimp only [setB, List.cons_append, List.nil_append, List.take] at hS
              obtain ⟨hk, hgk⟩ := hφ
              have hll := hlowR i (by omega); have hhl := hhighR i (by omega)
              refine wpIn_seq ?_
              refine wpIn_seq ?_
              refine wpIn_region_lit ?_
              refine st_v hS rfl rfl (run_move hS rfl) fun a hS => st_v hS rfl rfl (run_fieldAddr fa27_5 hS rfl) fun a hS => st_v hS rfl rfl (run_fieldAddr fa25_1 hS rfl) fun a hS => st_v hS rfl rfl (run_load_one (i := 0) Tryz.isAgg22 hS rfl rfl rfl) fun a hS => st_v hS rfl rfl (run_len_slice Tryz.underlying22 hS rfl) fun a hS => st_v hS rfl rfl (run_bin hS rfl rfl rfl) fun a hS => wl_nil ?_
              refine st_cond hS rfl (fun hc14 => ?_) (fun hc14 => ?_)
              ·
               try simp only [ty] at hc14
               refine wpIn_skip ?_
               refine wpIn_seq ?_
               refine wpIn_block ?_
               refine wpIn_seq ?_
               have hlt0 := fun B hB => hS.lt (b := B) hB
               refine st_mix (k := 19) (by kernel_rfl) (by kernel_rfl) hS rfl rfl ?_
               refine mx_v (fun a W hS hB => run_fieldAddr fa27_5 hS rfl) <| mx_v (fun a W hS hB => run_fieldAddr fa25_2 hS rfl) <| mx_v (fun a W hS hB => run_load_one (i := 0) Tryz.isAgg23 hS rfl rfl rfl) <| mx_v (fun a W hS hB => run_move hS rfl) <| ?_
               obtain ⟨ad0, s0, hA0, hL0, hR0⟩ := sl_rowB ((fun W hC => ((fun W hC => (Hr W hC).low) W hC).2.2) _ (Below.refl _ _)) (i := ((i : Nat) : Int)) (j := i) (by omega) (by omega)
               refine mx_v (fun a W hS hB => run_indexAddr Tryz.underlying23 Tryz.sizeOf22 hS rfl rfl hA0 (by omega) (by omega)) <| mx_v (fun a W hS hB => run_load_cell Tryz.isAgg22 hS rfl (hL0 _ hS.below)) <| mx_v (fun a W hS hB => run_move hS rfl) <| ?_
               obtain ⟨ad1, hA1, hL1⟩ := sl_int hR0 (Below.refl _ _) (i := ((k : Nat) : Int)) (j := k) (by omega) (by omega)
               refine mx_v (fun a W hS hB => run_indexAddr Tryz.underlying22 Tryz.sizeOf3 hS rfl rfl hA1 (by omega) (by omega)) <| mx_v (fun a W hS hB => run_load_cell Tryz.isAgg3 hS rfl (hL1 _ hS.below)) <| mx_v (fun a W hS hB => run_fieldAddr fa27_6 hS rfl) <| mx_v (fun a W hS hB => run_fieldAddr fa25_2 hS rfl) <| mx_v (fun a W hS hB => run_load_one (i := 0) Tryz.isAgg23 hS rfl rfl rfl) <| mx_v (fun a W hS hB => run_move hS rfl) <| ?_
               obtain ⟨ad2, s2, hA2, hL2, hR2⟩ := sl_rowB ((fun W hC => ((fun W hC => (Hr W hC).high) W hC).2.2) _ (Below.refl _ _)) (i := ((i : Nat) : Int)) (j := i) (by omega) (by omega)
               refine mx_v (fun a W hS hB => run_indexAddr Tryz.underlying23 Tryz.sizeOf22 hS rfl rfl hA2 (by omega) (by omega)) <| mx_v (fun a W hS hB => run_load_cell Tryz.isAgg22 hS rfl (hL2 _ hS.below)) <| mx_v (fun a W hS hB => run_move hS rfl) <| ?_
               obtain ⟨ad3, hA3, hL3⟩ := sl_int hR2 (Below.refl _ _) (i := ((k : Nat) : Int)) (j := k) (by omega) (by omega)
               refine mx_v (fun a W hS hB => run_indexAddr Tryz.underlying22 Tryz.sizeOf3 hS rfl rfl hA3 (by omega) (by omega)) <| mx_v (fun a W hS hB => run_load_cell Tryz.isAgg3 hS rfl (hL3 _ hS.below)) <| mx_v (fun a W hS hB => run_bin hS rfl rfl rfl) <| ?_
               refine mx_end fun a W bs us hS hB hL => ?_
               dsimp only [kall, ball, List.cons_append, List.nil_append] at hS
               refine wl_nil ?_
               have hS := hS.sub (κ' := [(0, _), (1, _), (3, _), (4, _), (113, _)]) (Sub.cons rfl (Sub.cons rfl (Sub.cons rfl (Sub.cons rfl (Sub.cons rfl Sub.nil)))))
               refine st_cond hS rfl (fun hc15 => ?_) (fun hc15 => ?_)
               ·
                try simp only [ty] at hc15
                refine wpIn_seq ?_
                refine wpIn_region_lit ?_
                refine st_v hS rfl rfl (run_assign hS rfl) fun a hS => wl_nil ?_
                refine wpIn_ret ?_
                repeat (first | refine q_ret ?_ | refine q_block_ret ?_)
                refine hS.done (res1 (fn := Tryz.f99) (r1 := .tmp 2) rfl (rv_tmp hS rfl)) ?_
                have h : notAbove r.low r.high = false := above_bad (i := i) (k := k) (by omega) (by omega) (by assumption)
                rw [checkRot, rotOk_eq, h, Bool.and_false, Bool.and_false]; rfl
               ·
                try simp only [ty] at hc15
                refine wpIn_skip ?_
                refine wpIn_region_lit ?_
                refine st_v hS rfl rfl (run_move hS rfl) fun a hS => st_v hS rfl rfl (run_add (t := ((k + 1 : Nat) : Int)) hS rfl rfl (by omega) (by omega) (by omega)) fun a hS => st_v hS rfl rfl (run_assign hS rfl) fun a hS => wl_nil ?_
                refine ⟨k + 1, ⟨⟨by omega, fun j hj => ?_⟩, by omega⟩, (hS.sub (Sub.cons rfl (Sub.cons rfl (Sub.cons rfl (Sub.cons rfl Sub.nil)))))⟩
                by_cases e : j = k
                · subst e; assumption
                · exact hgk j (by omega)
              ·
               try simp only [ty] at hc14
               refine wpIn_exit ?_
               refine wpIn_region_lit ?_
               refine st_v hS rfl rfl (run_move hS rfl) fun a hS => st_v hS rfl rfl (run_add (t := ((i + 1 : Nat) : Int)) hS rfl rfl (by omega) (by omega) (by omega)) fun a hS => st_v hS rfl rfl (run_assign hS rfl) fun a hS => wl_nil ?_
               refine ⟨i + 1, ⟨⟨by omega, fun j k hj hk => ?_⟩, by omega⟩, (hS.sub (Sub.cons rfl (Sub.cons rfl (Sub.cons rfl Sub.nil))))⟩
               by_cases e : j = i
               · subst e; exact hgk k (by omega)
               · exact hgi j k (by omega) hk
             ·
              try simp only [ty] at hc13
              refine wpIn_exit ?_
              refine wpIn_seq ?_
              refine wpIn_region_lit ?_
              refine st_v hS rfl rfl (run_assign hS rfl) fun a hS => wl_nil ?_
              refine wpIn_ret ?_
              repeat (first | refine q_ret ?_ | refine q_block_ret ?_)
              refine hS.done (res1 (fn := Tryz.f99) (r1 := .tmp 2) rfl (rv_tmp hS rfl)) ?_
              have h : notAbove r.low r.high = true := above_good fun j k hj hk => hgi j k (by omega) hk
              rw [checkRot, rotOk_eq, h, hlims]; simp [hsX, hsY, hcl, hbu]
end Go.Proofs.YtdnodlgebpnfoaaGreat
namespace Go.Proofs.YtdnodlgebpnfoaaGreat
open Go Go.RowKit Go.Shelf Sw
section
variable {P : Program} {r : Option Nat} {m : Nat} {ops : Array Oper} {Q : Exit → Act → World → Prop} {ds : List Nat} {w W0 W : World} {n k d : Nat} {κ κ0 : KV} {l : List Blk} {Φ Ψ : World → Prop} {a : Act}
  {ρ : List (Nat × Role)} {rest : List Oper} {op : Op} {ty T E tx e' : TypeId} {pos : String} {af : Array Edge} {g : Option (Nat × Bool)} {v : Value} {F : Nat → Prop} {s : SV}
theorem Hd.al {ts : List Nat} {t : Nat} {f : Nat → Value} {cs : List Value} (hH : Hd ts ρ a W) (ht : inL ts t = true) (hm : (t, Role.al f cs E) ∈ ρ) : ∃ b, a.tmps.getD t undef = f b ∧ W.heap[b]? = some (.cells cs.toArray E (0, 0)) := hH _ hm ht
theorem Hd.lo {ts : List Nat} {t : Nat} {R : Value → World → Prop} (hH : Hd ts ρ a W) (ht : inL ts t = true) (hm : (t, Role.l R) ∈ ρ) : R (a.tmps.getD t undef) W := (hH _ hm ht).choose_spec
theorem allc {α : Type} {x : α} {xs : List α} {p : α → Bool} (h : p x = true) (hs : xs.all p = true) : (x :: xs).all p = true := by rw [List.all_cons, h, hs]; rfl
theorem OwnR.one1 {v : Value} {N sz : Nat} {xs cs : List Value} (h : OwnR v N sz xs cs) : v.oneCell' = true := by
  rcases h.2 with ⟨rfl, _⟩ | ⟨b, cap, rfl, _⟩ <;> rfl
theorem OwnR.cells1 {v : Value} {N sz : Nat} {xs cs : List Value} (h : OwnR v N sz xs cs) : v.cells.toList = [v] := by
  rcases h.2 with ⟨rfl, _⟩ | ⟨b, cap, rfl, _⟩ <;> rfl
abbrev eRow (y : SV × List Int) : List Value := [.slice y.1.a y.2.length y.1.c]
theorem sl_rows {ys : List (SV × List Int)} (h : Sl (kOf eRow 1 24 (by decide) (fun _ => rfl)) F W s ys) (hy : ∀ y ∈ ys, Sl kInt F W y.1 y.2) : Sl kRow F W s (ys.map Prod.snd) := by
  refine ⟨by simpa using h.1, by rw [List.length_map]; exact h.2.1, fun j hj => ?_⟩
  have hj' : j < ys.length := by simpa using hj
  obtain ⟨ad, cs, h1, h2, h3, h4⟩ := h.2.2 j hj'
  refine ⟨ad, cs, h1, h2, ⟨ys[j].1, ?_, ?_⟩, h4⟩
  · have h3' : cs = eRow ys[j] := h3
    rw [h3', List.getElem_map]
  · rw [List.getElem_map]; exact hy _ (List.getElem_mem hj')
theorem Sl.apart {b : Nat} {xs : List Int} {cs : List Value} (h : Sl kInt F W s xs) (hb : W.heap[b]? = some (.cells cs.toArray T (0, 0))) (hn : ∀ (o : Nat) (z : Int), cs[o]? ≠ some (.int .i64 z)) : Sl kInt (fun k => F k ∧ k ≠ b) W s xs := by
  refine ⟨h.1, h.2.1, fun j hj => ?_⟩
  obtain ⟨ad, cs', h1, h2, h3, h4⟩ := h.2.2 j hj
  refine ⟨ad, cs', h1, ⟨h2, fun e => ?_⟩, h3, h4⟩
  have h3' : cs' = [.int .i64 xs[j]] := h3
  subst h3'
  have h5 := h4 0 _ rfl
  obtain ⟨o, ho, hc⟩ := cells_of_cell h5
  rw [add_block, e, hb] at ho
  have : o = .cells cs.toArray T (0, 0) := (Option.some.inj ho).symm
  subst this
  unfold World.cell? at h5
  rw [add_block, e, hb] at h5
  simp only at h5
  split at h5 <;> first | (cases h5; done) | (simp only [List.getElem?_toArray] at h5; exact hn _ _ h5) | skip
theorem st_loop3 {A : Code} {α : Type} (κI : α → KV) (lI : α → List Blk) (ΦI : α → World → Prop) (φ : α → Prop) (μ : α → Nat) (x0 : α) (hS : St ds w W n a (κI x0) (lI x0) (ΦI x0)) (h0 : φ x0)
    (body : ∀ x W a, φ x → St ds w W n a (κI x) (lI x) (ΦI x) → A.wpIn (Fw r) m P (Exit.then (fun a' W' => ∃ x', (φ x' ∧ μ x' < μ x) ∧ St ds w W' n a' (κI x') (lI x') (ΦI x')) Q) a W) : (Code.loop A).wpIn (Fw r) m P Q a W := by
  classical
  have mn : ∀ a W, (∃ k x, φ x ∧ St ds w W n a (κI x) (lI x) (ΦI x) ∧ μ x = k) → _ := fun a W h => exists_min (fun k => ∃ x, φ x ∧ St ds w W n a (κI x) (lI x) (ΦI x) ∧ μ x = k) h
  refine wpIn_loop (fun a W => ∃ x, φ x ∧ St ds w W n a (κI x) (lI x) (ΦI x)) (fun a W => if h : ∃ k x, φ x ∧ St ds w W n a (κI x) (lI x) (ΦI x) ∧ μ x = k then Classical.choose (mn a W h) else 0) ⟨x0, h0, hS⟩ ?_
  rintro a W ⟨x, hφ, hS⟩
  have hex : ∃ k x, φ x ∧ St ds w W n a (κI x) (lI x) (ΦI x) ∧ μ x = k := ⟨_, x, hφ, hS, rfl⟩
  obtain ⟨⟨x1, hφ1, hS1, hμ1⟩, _⟩ := Classical.choose_spec (mn a W hex)
  refine wpIn_mono (body x1 W a hφ1 hS1) ?_
  intro e a' W' hq
  cases e with
  | normal =>
    obtain ⟨x', ⟨hφ', hlt⟩, hS'⟩ := hq
    refine ⟨⟨x', hφ', hS'⟩, ?_⟩
    have hex' : ∃ k x, φ x ∧ St ds w W' n a' (κI x) (lI x) (ΦI x) ∧ μ x = k := ⟨_, x', hφ', hS', rfl⟩
    simp only [hex, hex', dif_pos]
    exact Nat.lt_of_le_of_lt ((Classical.choose_spec (mn a' W' hex')).2 _ ⟨x', hφ', hS', rfl⟩) (by rw [← hμ1]; exact hlt)
  | exit => exact hq
  | goto => exact hq
  | ret => exact hq
  | panic => exact hq
  | outgrown => exact hq
theorem st_loop4 {A : Code} {α : Type} (κv : α → KV) (κ0 : KV) (lf : List Blk → α → List Blk) (G : α → World → Prop) (φ : α → Prop) (μ : α → Nat) (x0 : α) (hS : St ds w W n a κ l (fun W => Φ W ∧ G x0 W)) (hκ : Sub (κv x0 ++ κ0) κ) (hl : lf l x0 = l) (h0 : φ x0)
    (body : ∀ x W a, φ x → St ds w W n a (κv x ++ κ0) (lf l x) (fun W => Φ W ∧ G x W) → A.wpIn (Fw r) m P (Exit.then (fun a' W' => ∃ x', (φ x' ∧ μ x' < μ x) ∧ St ds w W' n a' (κv x' ++ κ0) (lf l x') (fun W => Φ W ∧ G x' W)) Q) a W) : (Code.loop A).wpIn (Fw r) m P Q a W :=
  st_loop3 (fun x => κv x ++ κ0) (lf l) (fun x W => Φ W ∧ G x W) φ μ x0 (by rw [hl]; exact hS.sub hκ) h0 body
end
section
variable {ds : List Nat} {w W : World} {n : Nat} {κ : KV} {l : List Blk} {Φ : World → Prop} {a : Act} {F F' : Nat → Prop} {m0 : Nat}
theorem TabR.wide {V : TV} {t : Tab} (h : TabR F W V t) (hF : ∀ k, F k → F' k) : TabR F' W V t := ⟨h.1.wide (fun k hk _ => hF k hk) (fun _ _ => by decide), h.2.1.wide (fun k hk _ => hF k hk) (fun _ _ => by decide), h.2.2.wide (fun k hk _ => hF k hk) (fun _ _ => by decide)⟩
theorem RotR.wide {V : RV} {t : Rot} (h : RotR F W V t) (hF : ∀ k, F k → F' k) : RotR F' W V t :=
  ⟨h.hover.wide hF, h.ground.wide hF, h.level.wide hF, h.power.wide hF, h.never.wide hF, h.low.wide hF, h.high.wide hF, h.glide.wide hF⟩
theorem St.moreRot {V : RV} {t : Rot} (hS : St ds w W n a κ l Φ) (hw : w.heap.size ≤ m0) (hlt : ∀ B ∈ l, B.b < m0) (h : RotR (fun k => m0 ≤ k) W V t) : St ds w W n a κ l (fun W => Φ W ∧ RotR (fun k => w.heap.size ≤ k) W V t) :=
  (hS.more (Ψ := fun W => RotR (fun k => m0 ≤ k) W V t) fun W' ho _ => h.move fun k hk hlt' => ho.same k hlt' fun B hB e => by have := hlt B hB; omega).less fun _ h => ⟨h.1, h.2.wide fun _ hk => Nat.le_trans hw hk⟩
def RRot (m0 : Nat) (r : Rot) (v : Value) (W : World) : Prop := ∃ V : RV, v = .agg (rotC V r).toArray ∧ RotR (fun k => m0 ≤ k) W V r
theorem RRot.stable {m0 : Nat} {r : Rot} (u : Value) (W W' : World) (h : RRot m0 r u W) (hl : Later W W') : RRot m0 r u W' := by
  obtain ⟨V, e, h⟩ := h
  exact ⟨V, e, h.move fun k _ hk => hl.block k hk⟩
end
end Go.Proofs.YtdnodlgebpnfoaaGreat
namespace Go.Proofs.YtdnodlgebpnfoaaGreat
open Go Go.RowKit Go.Shelf Sw
set_option maxHeartbeats 2000000 in
set_option maxRecDepth 100000 in
theorem rotor_valid  (p : Span) {w : World}   : Ret Tryz.prog 82 [.agg (spanC p).toArray] w (fun v _ => v = .bool p.ok) := by
 refine ret_start (n := 7) Tryz.func82 rfl rfl rfl (fun a hS => ?_)
 refine wpIn_seq ?_
 refine wpIn_region_lit ?_
 refine st_box_agg hS rfl rfl rfl fun W a b0 hS => st_v hS rfl rfl (run_assign hS rfl) fun a hS => wl_nil ?_
 refine wpIn_seq ?_
 refine wpIn_region_lit ?_
 refine st_v hS rfl rfl (run_load_all (i := 0) Tryz.isAgg31 Tryz.sizeOf31 hS rfl rfl rfl) fun a hS => st_buildSlice (pv := [(0, .agg #[.int .i64 _, .int .i64 _])]) (fun W => bs62_1_0 _ _ W) hS rfl rfl rfl fun W a b1 hS => st_call (spans_Check (⟨some ⟨b1, 0, none⟩, 1⟩ : SV) [p] (own_sl_of (dk := kSpan) (enc := spanC) (xs := [p]) (fun _ _ _ => rfl) hS (i := 0) rfl (Nat.le_of_ble_eq_true rfl))) Tryz.call159 hS rfl rfl rfl fun v W a hR hB hlt hS => ?_
 subst hR
 refine st_v hS rfl rfl (run_bin hS rfl rfl rfl) fun a hS => st_v hS rfl rfl (run_assign hS rfl) fun a hS => wl_nil ?_
 refine wpIn_ret ?_
 repeat (first | refine q_ret ?_ | refine q_block_ret ?_)
 refine hS.done (res1 (fn := Tryz.f82) (r1 := .tmp 2) rfl (rv_tmp hS rfl)) ?_
 refine vb ?_; simp [within]
set_option maxHeartbeats 2000000 in
set_option maxRecDepth 100000 in
theorem rotor_chk1  (p : Span) {w : World}   : Ret Tryz.prog 156 [.agg (spanC p).toArray] w (fun v _ => v = .bool (!(p.ok))) := by
 refine ret_start (n := 6) Tryz.func156 rfl rfl rfl (fun a hS => ?_)
 refine wpIn_seq ?_
 refine wpIn_region_lit ?_
 refine st_box_agg hS rfl rfl rfl fun W a b0 hS => st_v hS rfl rfl (run_assign hS rfl) fun a hS => wl_nil ?_
 refine wpIn_seq ?_
 refine wpIn_region_lit ?_
 refine st_v hS rfl rfl (run_load_all (i := 0) Tryz.isAgg31 Tryz.sizeOf31 hS rfl rfl rfl) fun a hS => st_call (rotor_valid p) Tryz.call82 hS rfl rfl rfl fun v W a hR hB hlt hS => ?_
 subst hR
 refine st_v hS rfl rfl (run_not hS rfl) fun a hS => st_v hS rfl rfl (run_assign hS rfl) fun a hS => wl_nil ?_
 refine wpIn_ret ?_
 repeat (first | refine q_ret ?_ | refine q_block_ret ?_)
 refine hS.done (res1 (fn := Tryz.f156) (r1 := .tmp 2) rfl (rv_tmp hS rfl)) ?_
 rfl
set_option maxHeartbeats 2000000 in
set_option maxRecDepth 100000 in
theorem rotor_lies  (x : LookV) {w : World} {Fx : Nat → Prop} (hx : TabR Fx w x.V x.t) (hok : tabOk x.t = true) : Ret Tryz.prog 83 [.agg (lookC x).toArray] w (fun v _ => v = .bool (liesT x.t x.p x.q)) := by
 refine ret_start (n := 55) Tryz.func83 rfl rfl rfl (fun a hS => ?_)
 have Hx : ∀ W, Below w.heap.size w W → TabR Fx W x.V x.t := fun W hb => hx.move (keep_of hb)
 have hmxx := hx.1.len
 have hmxy := hx.2.1.len
 have hmxv := hx.2.2.len
 obtain ⟨hX, hY, _, _⟩ := tab_axes hok
 have h2 := hX.two; have h3 := hY.two
 refine wpIn_seq ?_
 refine wpIn_region_lit ?_
 refine st_box_agg hS rfl rfl rfl fun W a b0 hS => st_v hS rfl rfl (run_assign hS rfl) fun a hS => wl_nil ?_
 refine wpIn_seq ?_
 refine st_draw (by kernel_rfl) (by kernel_rfl) hS ?_
 refine qt_v hS rfl rfl (fun W hB hS => run_fieldAddr fa122_1 hS rfl) fun a hS => qt_v hS rfl rfl (fun W hB hS => run_fieldAddr fa31_0 hS rfl) fun a hS => qt_v hS rfl rfl (fun W hB hS => run_load_one (i := 0) Tryz.isAgg3 hS rfl rfl rfl) fun a hS => qt_v hS rfl rfl (fun W hB hS => run_fieldAddr fa122_0 hS rfl) fun a hS => qt_v hS rfl rfl (fun W hB hS => run_fieldAddr fa25_0 hS rfl) fun a hS => qt_v hS rfl rfl (fun W hB hS => run_load_one (i := 0) Tryz.isAgg22 hS rfl rfl rfl) fun a hS => ?_
 obtain ⟨ad0, hA0, hL0⟩ := sl_int (fun W hC => (Hx W hC).1) (Below.refl _ _) (i := 0) (j := 0) (by omega) (by omega)
 refine qt_v hS rfl rfl (fun W hB hS => run_indexAddr Tryz.underlying22 Tryz.sizeOf3 hS rfl rfl hA0 (by omega) (by omega)) fun a hS => qt_v hS rfl rfl (fun W hB hS => run_load_cell Tryz.isAgg3 hS rfl (hL0 _ hS.below)) fun a hS => qt_v hS rfl rfl (fun W hB hS => run_bin hS rfl rfl rfl) fun a hS => qt_v hS rfl rfl (fun W hB hS => run_move hS rfl) fun a hS => ?_
 refine st_split (d := 12) hS rfl (fun hc1 hS => ?_) (fun hc1 hS => ?_)
 ·
  try simp only [ty] at hc1
  refine qt_v hS (hS.wanted rfl rfl rfl) rfl (fun W hB hS => run_fieldAddr fa122_1 hS rfl) fun a hS => qt_v hS (hS.wanted rfl rfl rfl) rfl (fun W hB hS => run_fieldAddr fa31_1 hS rfl) fun a hS => qt_v hS (hS.wanted rfl rfl rfl) rfl (fun W hB hS => run_load_one (i := 0) Tryz.isAgg3 hS rfl rfl rfl) fun a hS => qt_v hS (hS.wanted rfl rfl rfl) rfl (fun W hB hS => run_fieldAddr fa122_0 hS rfl) fun a hS => qt_v hS (hS.wanted rfl rfl rfl) rfl (fun W hB hS => run_fieldAddr fa25_0 hS rfl) fun a hS => qt_v hS (hS.wanted rfl rfl rfl) rfl (fun W hB hS => run_load_one (i := 0) Tryz.isAgg22 hS rfl rfl rfl) fun a hS => qt_v hS (hS.wanted rfl rfl rfl) rfl (fun W hB hS => run_fieldAddr fa122_0 hS rfl) fun a hS => qt_v hS (hS.wanted rfl rfl rfl) rfl (fun W hB hS => run_fieldAddr fa25_0 hS rfl) fun a hS => qt_v hS (hS.wanted rfl rfl rfl) rfl (fun W hB hS => run_load_one (i := 0) Tryz.isAgg22 hS rfl rfl rfl) fun a hS => qt_v hS (hS.wanted rfl rfl rfl) rfl (fun W hB hS => run_len_slice Tryz.underlying22 hS rfl) fun a hS => qt_v hS (hS.wanted rfl rfl rfl) rfl (fun W hB hS => run_sub (t := ((x.t.X.length - 1 : Nat) : Int)) hS rfl rfl (by omega) (by omega) (by omega)) fun a hS => ?_
  obtain ⟨ad1, hA1, hL1⟩ := sl_int (fun W hC => (Hx W hC).1) (Below.refl _ _) (i := ((x.t.X.length - 1 : Nat) : Int)) (j := x.t.X.length - 1) (by omega) (by omega)
  refine qt_v hS (hS.wanted rfl rfl rfl) rfl (fun W hB hS => run_indexAddr Tryz.underlying22 Tryz.sizeOf3 hS rfl rfl hA1 (by omega) (by omega)) fun a hS => qt_v hS (hS.wanted rfl rfl rfl) rfl (fun W hB hS => run_load_cell Tryz.isAgg3 hS rfl (hL1 _ hS.below)) fun a hS => qt_v hS (hS.wanted rfl rfl rfl) rfl (fun W hB hS => run_bin hS rfl rfl rfl) fun a hS => qt_v hS rfl rfl (fun W hB hS => run_pick_t hS rfl rfl) fun a hS => qt_v hS rfl rfl (fun W hB hS => run_move hS rfl) fun a hS => ?_
  refine st_split (d := 28) hS rfl (fun hc2 hS => ?_) (fun hc2 hS => ?_)
  ·
   try simp only [ty] at hc2
   refine qt_v hS (hS.wanted rfl rfl rfl) rfl (fun W hB hS => run_fieldAddr fa122_2 hS rfl) fun a hS => qt_v hS (hS.wanted rfl rfl rfl) rfl (fun W hB hS => run_fieldAddr fa31_0 hS rfl) fun a hS => qt_v hS (hS.wanted rfl rfl rfl) rfl (fun W hB hS => run_load_one (i := 0) Tryz.isAgg3 hS rfl rfl rfl) fun a hS => qt_v hS (hS.wanted rfl rfl rfl) rfl (fun W hB hS => run_fieldAddr fa122_0 hS rfl) fun a hS => qt_v hS (hS.wanted rfl rfl rfl) rfl (fun W hB hS => run_fieldAddr fa25_1 hS rfl) fun a hS => qt_v hS (hS.wanted rfl rfl rfl) rfl (fun W hB hS => run_load_one (i := 0) Tryz.isAgg22 hS rfl rfl rfl) fun a hS => ?_
   obtain ⟨ad2, hA2, hL2⟩ := sl_int (fun W hC => (Hx W hC).2.1) (Below.refl _ _) (i := 0) (j := 0) (by omega) (by omega)
   refine qt_v hS (hS.wanted rfl rfl rfl) rfl (fun W hB hS => run_indexAddr Tryz.underlying22 Tryz.sizeOf3 hS rfl rfl hA2 (by omega) (by omega)) fun a hS => qt_v hS (hS.wanted rfl rfl rfl) rfl (fun W hB hS => run_load_cell Tryz.isAgg3 hS rfl (hL2 _ hS.below)) fun a hS => qt_v hS (hS.wanted rfl rfl rfl) rfl (fun W hB hS => run_bin hS rfl rfl rfl) fun a hS => qt_v hS rfl rfl (fun W hB hS => run_pick_t hS rfl rfl) fun a hS => qt_v hS rfl rfl (fun W hB hS => run_move hS rfl) fun a hS => ?_
   refine st_split (d := 39) hS rfl (fun hc3 hS => ?_) (fun hc3 hS => ?_)
   ·
    try simp only [ty] at hc3
    refine qt_v hS (hS.wanted rfl rfl rfl) rfl (fun W hB hS => run_fieldAddr fa122_2 hS rfl) fun a hS => qt_v hS (hS.wanted rfl rfl rfl) rfl (fun W hB hS => run_fieldAddr fa31_1 hS rfl) fun a hS => qt_v hS (hS.wanted rfl rfl rfl) rfl (fun W hB hS => run_load_one (i := 0) Tryz.isAgg3 hS rfl rfl rfl) fun a hS => qt_v hS (hS.wanted rfl rfl rfl) rfl (fun W hB hS => run_fieldAddr fa122_0 hS rfl) fun a hS => qt_v hS (hS.wanted rfl rfl rfl) rfl (fun W hB hS => run_fieldAddr fa25_1 hS rfl) fun a hS => qt_v hS (hS.wanted rfl rfl rfl) rfl (fun W hB hS => run_load_one (i := 0) Tryz.isAgg22 hS rfl rfl rfl) fun a hS => qt_v hS (hS.wanted rfl rfl rfl) rfl (fun W hB hS => run_fieldAddr fa122_0 hS rfl) fun a hS => qt_v hS (hS.wanted rfl rfl rfl) rfl (fun W hB hS => run_fieldAddr fa25_1 hS rfl) fun a hS => qt_v hS (hS.wanted rfl rfl rfl) rfl (fun W hB hS => run_load_one (i := 0) Tryz.isAgg22 hS rfl rfl rfl) fun a hS => qt_v hS (hS.wanted rfl rfl rfl) rfl (fun W hB hS => run_len_slice Tryz.underlying22 hS rfl) fun a hS => qt_v hS (hS.wanted rfl rfl rfl) rfl (fun W hB hS => run_sub (t := ((x.t.Y.length - 1 : Nat) : Int)) hS rfl rfl (by omega) (by omega) (by omega)) fun a hS => ?_
    obtain ⟨ad3, hA3, hL3⟩ := sl_int (fun W hC => (Hx W hC).2.1) (Below.refl _ _) (i := ((x.t.Y.length - 1 : Nat) : Int)) (j := x.t.Y.length - 1) (by omega) (by omega)
    refine qt_v hS (hS.wanted rfl rfl rfl) rfl (fun W hB hS => run_indexAddr Tryz.underlying22 Tryz.sizeOf3 hS rfl rfl hA3 (by omega) (by omega)) fun a hS => qt_v hS (hS.wanted rfl rfl rfl) rfl (fun W hB hS => run_load_cell Tryz.isAgg3 hS rfl (hL3 _ hS.below)) fun a hS => qt_v hS (hS.wanted rfl rfl rfl) rfl (fun W hB hS => run_bin hS rfl rfl rfl) fun a hS => qt_v hS rfl rfl (fun W hB hS => run_pick_t hS rfl rfl) fun a hS => qt_v hS rfl rfl (fun W hB hS => run_assign hS rfl) fun a hS => qt_nil hS fun W hS => ?_
    have hS := hS.sub (κ' := [(0, _), (1, _), (2, _)]) (Sub.cons rfl (Sub.cons rfl (Sub.cons rfl Sub.nil)))
    refine wpIn_ret ?_
    repeat (first | refine q_ret ?_ | refine q_block_ret ?_)
    refine hS.done (res1 (fn := Tryz.f83) (r1 := .tmp 2) rfl (rv_tmp hS rfl)) ?_
    refine vb ?_; simp only [liesT, lies, Bool.and_eq_true, decide_eq_true_eq, Bool.false_eq_true, false_iff, true_iff]; unfold lastOf; omega
   ·
    try simp only [ty] at hc3
    refine qt_skip hS (hS.unwanted rfl rfl rfl rfl) rfl fun a hS => qt_skip hS (hS.unwanted rfl rfl rfl rfl) rfl fun a hS => qt_skip hS (hS.unwanted rfl rfl rfl rfl) rfl fun a hS => qt_skip hS (hS.unwanted rfl rfl rfl rfl) rfl fun a hS => qt_skip hS (hS.unwanted rfl rfl rfl rfl) rfl fun a hS => qt_skip hS (hS.unwanted rfl rfl rfl rfl) rfl fun a hS => qt_skip hS (hS.unwanted rfl rfl rfl rfl) rfl fun a hS => qt_skip hS (hS.unwanted rfl rfl rfl rfl) rfl fun a hS => qt_skip hS (hS.unwanted rfl rfl rfl rfl) rfl fun a hS => qt_skip hS (hS.unwanted rfl rfl rfl rfl) rfl fun a hS => qt_skip hS (hS.unwanted rfl rfl rfl rfl) rfl fun a hS => qt_skip hS (hS.unwanted rfl rfl rfl rfl) rfl fun a hS => qt_skip hS (hS.unwanted rfl rfl rfl rfl) rfl fun a hS => qt_skip hS (hS.unwanted rfl rfl rfl rfl) rfl fun a hS => qt_v hS rfl rfl (fun W hB hS => run_pick_f hS rfl rfl) fun a hS => qt_v hS rfl rfl (fun W hB hS => run_assign hS rfl) fun a hS => qt_nil hS fun W hS => ?_
    have hS := hS.sub (κ' := [(0, _), (1, _), (2, _)]) (Sub.cons rfl (Sub.cons rfl (Sub.cons rfl Sub.nil)))
    refine wpIn_ret ?_
    repeat (first | refine q_ret ?_ | refine q_block_ret ?_)
    refine hS.done (res1 (fn := Tryz.f83) (r1 := .tmp 2) rfl (rv_tmp hS rfl)) ?_
    refine vb ?_; simp only [liesT, lies, Bool.and_eq_true, decide_eq_true_eq, Bool.false_eq_true, false_iff, true_iff]; unfold lastOf; omega
  ·
   try simp only [ty] at hc2
   refine qt_skip hS (hS.unwanted rfl rfl rfl rfl) rfl fun a hS => qt_skip hS (hS.unwanted rfl rfl rfl rfl) rfl fun a hS => qt_skip hS (hS.unwanted rfl rfl rfl rfl) rfl fun a hS => qt_skip hS (hS.unwanted rfl rfl rfl rfl) rfl fun a hS => qt_skip hS (hS.unwanted rfl rfl rfl rfl) rfl fun a hS => qt_skip hS (hS.unwanted rfl rfl rfl rfl) rfl fun a hS => qt_skip hS (hS.unwanted rfl rfl rfl rfl) rfl fun a hS => qt_skip hS (hS.unwanted rfl rfl rfl rfl) rfl fun a hS => qt_skip hS (hS.unwanted rfl rfl rfl rfl) rfl fun a hS => qt_v hS rfl rfl (fun W hB hS => run_pick_f hS rfl rfl) fun a hS => qt_v hS rfl rfl (fun W hB hS => run_move hS rfl) fun a hS => qt_skip hS (hS.unwanted rfl rfl rfl rfl) rfl fun a hS => qt_skip hS (hS.unwanted rfl rfl rfl rfl) rfl fun a hS => qt_skip hS (hS.unwanted rfl rfl rfl rfl) rfl fun a hS => qt_skip hS (hS.unwanted rfl rfl rfl rfl) rfl fun a hS => qt_skip hS (hS.unwanted rfl rfl rfl rfl) rfl fun a hS => qt_skip hS (hS.unwanted rfl rfl rfl rfl) rfl fun a hS => qt_skip hS (hS.unwanted rfl rfl rfl rfl) rfl fun a hS => qt_skip hS (hS.unwanted rfl rfl rfl rfl) rfl fun a hS => qt_skip hS (hS.unwanted rfl rfl rfl rfl) rfl fun a hS => qt_skip hS (hS.unwanted rfl rfl rfl rfl) rfl fun a hS => qt_skip hS (hS.unwanted rfl rfl rfl rfl) rfl fun a hS => qt_skip hS (hS.unwanted rfl rfl rfl rfl) rfl fun a hS => qt_skip hS (hS.unwanted rfl rfl rfl rfl) rfl fun a hS => qt_skip hS (hS.unwanted rfl rfl rfl rfl) rfl fun a hS => qt_v hS rfl rfl (fun W hB hS => run_pick_f hS rfl rfl) fun a hS => qt_v hS rfl rfl (fun W hB hS => run_assign hS rfl) fun a hS => qt_nil hS fun W hS => ?_
   have hS := hS.sub (κ' := [(0, _), (1, _), (2, _)]) (Sub.cons rfl (Sub.cons rfl (Sub.cons rfl Sub.nil)))
   refine wpIn_ret ?_
   repeat (first | refine q_ret ?_ | refine q_block_ret ?_)
   refine hS.done (res1 (fn := Tryz.f83) (r1 := .tmp 2) rfl (rv_tmp hS rfl)) ?_
   refine vb ?_; simp only [liesT, lies, Bool.and_eq_true, decide_eq_true_eq, Bool.false_eq_true, false_iff, true_iff]; unfold lastOf; omega
 ·
  try simp only [ty] at hc1
  refine qt_skip hS (hS.unwanted rfl rfl rfl rfl) rfl fun a hS => qt_skip hS (hS.unwanted rfl rfl rfl rfl) rfl fun a hS => qt_skip hS (hS.unwanted rfl rfl rfl rfl) rfl fun a hS => qt_skip hS (hS.unwanted rfl rfl rfl rfl) rfl fun a hS => qt_skip hS (hS.unwanted rfl rfl rfl rfl) rfl fun a hS => qt_skip hS (hS.unwanted rfl rfl rfl rfl) rfl fun a hS => qt_skip hS (hS.unwanted rfl rfl rfl rfl) rfl fun a hS => qt_skip hS (hS.unwanted rfl rfl rfl rfl) rfl fun a hS => qt_skip hS (hS.unwanted rfl rfl rfl rfl) rfl fun a hS => qt_skip hS (hS.unwanted rfl rfl rfl rfl) rfl fun a hS => qt_skip hS (hS.unwanted rfl rfl rfl rfl) rfl fun a hS => qt_skip hS (hS.unwanted rfl rfl rfl rfl) rfl fun a hS => qt_skip hS (hS.unwanted rfl rfl rfl rfl) rfl fun a hS => qt_skip hS (hS.unwanted rfl rfl rfl rfl) rfl fun a hS => qt_v hS rfl rfl (fun W hB hS => run_pick_f hS rfl rfl) fun a hS => qt_v hS rfl rfl (fun W hB hS => run_move hS rfl) fun a hS => qt_skip hS (hS.unwanted rfl rfl rfl rfl) rfl fun a hS => qt_skip hS (hS.unwanted rfl rfl rfl rfl) rfl fun a hS => qt_skip hS (hS.unwanted rfl rfl rfl rfl) rfl fun a hS => qt_skip hS (hS.unwanted rfl rfl rfl rfl) rfl fun a hS => qt_skip hS (hS.unwanted rfl rfl rfl rfl) rfl fun a hS => qt_skip hS (hS.unwanted rfl rfl rfl rfl) rfl fun a hS => qt_skip hS (hS.unwanted rfl rfl rfl rfl) rfl fun a hS => qt_skip hS (hS.unwanted rfl rfl rfl rfl) rfl fun a hS => qt_skip hS (hS.unwanted rfl rfl rfl rfl) rfl fun a hS => qt_v hS rfl rfl (fun W hB hS => run_pick_f hS rfl rfl) fun a hS => qt_v hS rfl rfl (fun W hB hS => run_move hS rfl) fun a hS => qt_skip hS (hS.unwanted rfl rfl rfl rfl) rfl fun a hS => qt_skip hS (hS.unwanted rfl rfl rfl rfl) rfl fun a hS => qt_skip hS (hS.unwanted rfl rfl rfl rfl) rfl fun a hS => qt_skip hS (hS.unwanted rfl rfl rfl rfl) rfl fun a hS => qt_skip hS (hS.unwanted rfl rfl rfl rfl) rfl fun a hS => qt_skip hS (hS.unwanted rfl rfl rfl rfl) rfl fun a hS => qt_skip hS (hS.unwanted rfl rfl rfl rfl) rfl fun a hS => qt_skip hS (hS.unwanted rfl rfl rfl rfl) rfl fun a hS => qt_skip hS (hS.unwanted rfl rfl rfl rfl) rfl fun a hS => qt_skip hS (hS.unwanted rfl rfl rfl rfl) rfl fun a hS => qt_skip hS (hS.unwanted rfl rfl rfl rfl) rfl fun a hS => qt_skip hS (hS.unwanted rfl rfl rfl rfl) rfl fun a hS => qt_skip hS (hS.unwanted rfl rfl rfl rfl) rfl fun a hS => qt_skip hS (hS.unwanted rfl rfl rfl rfl) rfl fun a hS => qt_v hS rfl rfl (fun W hB hS => run_pick_f hS rfl rfl) fun a hS => qt_v hS rfl rfl (fun W hB hS => run_assign hS rfl) fun a hS => qt_nil hS fun W hS => ?_
  have hS := hS.sub (κ' := [(0, _), (1, _), (2, _)]) (Sub.cons rfl (Sub.cons rfl (Sub.cons rfl Sub.nil)))
  refine wpIn_ret ?_
  repeat (first | refine q_ret ?_ | refine q_block_ret ?_)
  refine hS.done (res1 (fn := Tryz.f83) (r1 := .tmp 2) rfl (rv_tmp hS rfl)) ?_
  refine vb ?_; simp only [liesT, lies, Bool.and_eq_true, decide_eq_true_eq, Bool.false_eq_true, false_iff, true_iff]; unfold lastOf; omega
set_option maxHeartbeats 2000000 in
set_option maxRecDepth 100000 in
theorem rotor_chk2  (x : LookV) {w : World} {Fx : Nat → Prop} (hx : TabR Fx w x.V x.t) (hok : tabOk x.t = true) : Ret Tryz.prog 158 [.agg (lookC x).toArray] w (fun v _ => v = .bool (!(liesT x.t x.p x.q))) := by
 refine ret_start (n := 6) Tryz.func158 rfl rfl rfl (fun a hS => ?_)
 have Hx : ∀ W, Below w.heap.size w W → TabR Fx W x.V x.t := fun W hb => hx.move (keep_of hb)
 have hmxx := hx.1.len
 have hmxy := hx.2.1.len
 have hmxv := hx.2.2.len
 refine wpIn_seq ?_
 refine wpIn_region_lit ?_
 refine st_box_agg hS rfl rfl rfl fun W a b0 hS => st_v hS rfl rfl (run_assign hS rfl) fun a hS => wl_nil ?_
 refine wpIn_seq ?_
 refine wpIn_region_lit ?_
 refine st_v hS rfl rfl (run_load_all (i := 0) Tryz.isAgg122 Tryz.sizeOf122 hS rfl rfl rfl) fun a hS => st_call (rotor_lies x (Hx _ hS.below) (by assumption)) Tryz.call83 hS rfl rfl rfl fun v W a hR hB hlt hS => ?_
 subst hR
 refine st_v hS rfl rfl (run_not hS rfl) fun a hS => st_v hS rfl rfl (run_assign hS rfl) fun a hS => wl_nil ?_
 refine wpIn_ret ?_
 repeat (first | refine q_ret ?_ | refine q_block_ret ?_)
 refine hS.done (res1 (fn := Tryz.f158) (r1 := .tmp 2) rfl (rv_tmp hS rfl)) ?_
 rfl
set_option maxHeartbeats 2000000 in
set_option maxRecDepth 100000 in
theorem rotor_bound  (x : LookV) {w : World} {Fx : Nat → Prop} (hx : TabR Fx w x.V x.t) (hok : tabOk x.t = true) (hp : x.p.ok = true) (hq : x.q.ok = true) (hl : liesT x.t x.p x.q = true) : Ret Tryz.prog 95 [.agg (lookC x).toArray] w (fun v _ => v = .agg (spanC (bnd x.t x.p x.q)).toArray) := by
 refine ret_start (n := 16) Tryz.func95 rfl rfl rfl (fun a hS => ?_)
 have Hx : ∀ W, Below w.heap.size w W → TabR Fx W x.V x.t := fun W hb => hx.move (keep_of hb)
 have hmxx := hx.1.len
 have hmxy := hx.2.1.len
 have hmxv := hx.2.2.len
 refine wpIn_seq ?_
 refine wpIn_region_lit ?_
 refine st_box_agg hS rfl rfl rfl fun W a b0 hS => st_alloc_agg Tryz.zeroValue31 hS rfl rfl fun W a b1 hS => wl_nil ?_
 refine wpIn_seq ?_
 refine wpIn_region_lit ?_
 refine st_v hS rfl rfl (run_fieldAddr fa122_0 hS rfl) fun a hS => st_v hS rfl rfl (run_load_agg (i := 1) (vs := [_, _, _]) Tryz.isAgg25 Tryz.sizeOf25 hS rfl rfl rfl ⟨rfl, rfl, rfl, trivial⟩) fun a hS => st_v hS rfl rfl (run_fieldAddr fa122_1 hS rfl) fun a hS => st_v hS rfl rfl (run_load_agg (i := 1) (vs := [_, _]) Tryz.isAgg31 Tryz.sizeOf31 hS rfl rfl rfl ⟨rfl, rfl, trivial⟩) fun a hS => st_v hS rfl rfl (run_fieldAddr fa122_2 hS rfl) fun a hS => st_v hS rfl rfl (run_load_agg (i := 1) (vs := [_, _]) Tryz.isAgg31 Tryz.sizeOf31 hS rfl rfl rfl ⟨rfl, rfl, trivial⟩) fun a hS => st_call (spans_Bound x.V x.t x.p x.q (Hx _ hS.below)) Tryz.call41 hS rfl rfl rfl fun v W a hR hB hlt hS => ?_
 subst hR
 refine st_v hS rfl rfl (run_move hS rfl) fun a hS => st_v hS rfl rfl (run_extract hS rfl rfl) fun a hS => st_v hS rfl rfl (run_extract hS rfl rfl) fun a hS => st_alloc_agg Tryz.zeroValue31 hS rfl rfl fun W a b2 hS => st_store (i := 0) Tryz.sizeOf31 hS rfl rfl rfl rfl rfl rfl rfl rfl rfl fun W a hS => st_v hS rfl rfl (run_assign hS rfl) fun a hS => wl_nil ?_
 refine wpIn_seq ?_
 refine wpIn_region_lit ?_
 refine st_v hS rfl rfl (run_load_all (i := 0) Tryz.isAgg31 Tryz.sizeOf31 hS rfl rfl rfl) fun a hS => st_store (i := 1) Tryz.sizeOf31 hS rfl rfl rfl rfl rfl rfl rfl rfl rfl fun W a hS => wl_nil ?_
 refine wpIn_ret ?_
 repeat (first | refine q_ret ?_ | refine q_block_ret ?_)
 refine hS.done (res1 (fn := Tryz.f95) (r1 := .cell 2 31) rfl (rv_agg (i := 1) Tryz.isAgg31 Tryz.sizeOf31 hS rfl rfl rfl)) ?_
 simp only [hok, hp, hq, hl, Bool.and_self, if_true]; rfl
set_option maxHeartbeats 2000000 in
set_option maxRecDepth 100000 in
theorem idx_look (sxs : SV) (xs : List LookV) (f : FuncId) (cap : List Value) (p : LookV → Bool) {F : Nat → Prop} {w : World} (hxs : Sl kLook F w sxs xs) (hf : Enters Tryz.prog f) (hp : ∀ W, Below w.heap.size w W → ∀ x ∈ xs, Ret Tryz.prog f (.agg (lookC x).toArray :: cap) W (fun v _ => v = .bool (p x))) : Ret Tryz.prog 208 [.slice sxs.a xs.length sxs.c, .func (.func f) #[] cap.toArray] w (fun v _ => v = .int .i64 (idxOf p xs)) := by
 refine ret_start (n := 19) Tryz.func208 rfl rfl rfl (fun a hS => ?_)
 have Hxs : ∀ W, Below w.heap.size w W → Sl kLook F W sxs xs := fun W hb => hxs.at_ hb
 have hmxs := hxs.len
 refine wpIn_seq ?_
 refine wpIn_region_lit ?_
 refine st_v hS rfl rfl (run_assign hS rfl) fun a hS => wl_nil ?_
 refine wpIn_seq ?_
 refine wpIn_seq ?_
 refine wpIn_region_lit ?_
 refine st_v hS rfl rfl (run_move hS rfl) fun a hS => st_v hS rfl rfl (run_len_slice Tryz.underlying120 hS rfl) fun a hS => st_v hS rfl rfl (run_move hS rfl) fun a hS => wl_nil ?_
 refine wpIn_block ?_
 refine st_loop2 (α := Nat) (fun x => [(8, .int .i64 (((x : Nat) : Int)))]) [(0, _), (1, _), (7, _)] (fun l _ => l) (fun x => x ≤ xs.length ∧ ∀ j, j < x → p (xs.getD j lookD) = false) (fun x => xs.length - x) (0) hS (Sub.cons rfl (Sub.cons rfl (Sub.cons rfl (Sub.cons rfl Sub.nil)))) rfl (⟨Nat.zero_le _, fun j hj => absurd hj (Nat.not_lt_zero j)⟩) (fun x W a hφ hS => ?_)
 dsimp only [setB, List.cons_append, List.nil_append, List.take] at hS
 obtain ⟨hx, hg⟩ := hφ
 refine wpIn_seq ?_
 refine wpIn_region_lit ?_
 refine st_v hS rfl rfl (run_bin hS rfl rfl rfl) fun a hS => wl_nil ?_
 refine wpIn_seq ?_
 refine st_cond hS rfl (fun hc1 => ?_) (fun hc1 => ?_)
 ·
  try simp only [ty] at hc1
  refine wpIn_skip ?_
  refine wpIn_seq ?_
  refine wpIn_block ?_
  refine wpIn_seq ?_
  refine wpIn_region_lit ?_
  refine st_v hS rfl rfl (run_move hS rfl) fun a hS => st_v hS rfl rfl (run_assign hS rfl) fun a hS => wl_nil ?_
  refine wpIn_seq ?_
  refine wpIn_region_lit ?_
  refine st_v hS rfl rfl (run_move hS rfl) fun a hS => st_v hS rfl rfl (run_move hS rfl) fun a hS => st_v hS rfl rfl (run_move hS rfl) fun a hS => ?_
  obtain ⟨ad0, hA0, hL0⟩ := sl_of Hxs (Below.refl _ _) _ (i := ((x : Nat) : Int)) (j := x) (by omega) (by omega)
  refine st_v hS rfl rfl (run_indexAddr Tryz.underlying120 Tryz.sizeOf122 hS rfl rfl hA0 (by omega) (by omega)) fun a hS => st_v hS rfl rfl (run_load_ext Tryz.isAgg122 Tryz.sizeOf122 hS rfl rfl (hL0 _ hS.below)) fun a hS => st_callv hS rfl rfl (hf) (hp _ hS.below (lookAt xs x) (lookAt_mem (by omega))) rfl rfl fun v W a hR hB hlt hS => ?_
  subst hR
  refine wl_nil ?_
  refine st_cond hS rfl (fun hc2 => ?_) (fun hc2 => ?_)
  ·
   try simp only [ty] at hc2
   refine wpIn_seq ?_
   refine wpIn_region_lit ?_
   refine st_v hS rfl rfl (run_move hS rfl) fun a hS => st_v hS rfl rfl (run_assign hS rfl) fun a hS => wl_nil ?_
   refine wpIn_ret ?_
   repeat (first | refine q_ret ?_ | refine q_block_ret ?_)
   refine hS.done (res1 (fn := Tryz.f208) (r1 := .tmp 4) rfl (rv_tmp hS rfl)) ?_
   rw [idxOf_some (d := lookD) (i := x) (by omega) hg (by assumption)]
  ·
   try simp only [ty] at hc2
   refine wpIn_skip ?_
   refine wpIn_region_lit ?_
   refine st_v hS rfl rfl (run_add (t := ((x + 1 : Nat) : Int)) hS rfl rfl (by omega) (by omega) (by omega)) fun a hS => st_v hS rfl rfl (run_move hS rfl) fun a hS => wl_nil ?_
   refine ⟨x + 1, ⟨⟨by omega, fun j hj => ?_⟩, by omega⟩, (hS.sub (Sub.cons rfl (Sub.cons rfl (Sub.cons rfl (Sub.cons rfl Sub.nil)))))⟩
   by_cases e : j = x
   · subst e; assumption
   · exact hg j (by omega)
 ·
  try simp only [ty] at hc1
  refine wpIn_exit ?_
  refine wpIn_seq ?_
  refine wpIn_region_lit ?_
  refine st_v hS rfl rfl (run_assign hS rfl) fun a hS => wl_nil ?_
  refine wpIn_ret ?_
  repeat (first | refine q_ret ?_ | refine q_block_ret ?_)
  refine hS.done (res1 (fn := Tryz.f208) (r1 := .tmp 4) rfl (rv_tmp hS rfl)) ?_
  rw [idxOf_none (d := lookD) (fun j hj => hg j (by omega))]
set_option maxHeartbeats 2000000 in
set_option maxRecDepth 100000 in
theorem has_look (sxs : SV) (xs : List LookV) (f : FuncId) (cap : List Value) (p : LookV → Bool) {F : Nat → Prop} {w : World} (hxs : Sl kLook F w sxs xs) (hf : Enters Tryz.prog f) (hp : ∀ W, Below w.heap.size w W → ∀ x ∈ xs, Ret Tryz.prog f (.agg (lookC x).toArray :: cap) W (fun v _ => v = .bool (p x))) : Ret Tryz.prog 157 [.slice sxs.a xs.length sxs.c, .func (.func f) #[] cap.toArray] w (fun v _ => v = .bool (xs.any p)) := by
 refine ret_start (n := 9) Tryz.func157 rfl rfl rfl (fun a hS => ?_)
 have Hxs : ∀ W, Below w.heap.size w W → Sl kLook F W sxs xs := fun W hb => hxs.at_ hb
 have hmxs := hxs.len
 refine wpIn_seq ?_
 refine wpIn_region_lit ?_
 refine st_v hS rfl rfl (run_assign hS rfl) fun a hS => wl_nil ?_
 refine wpIn_seq ?_
 refine wpIn_region_lit ?_
 refine st_v hS rfl rfl (run_move hS rfl) fun a hS => st_v hS rfl rfl (run_move hS rfl) fun a hS => st_call (idx_look sxs xs f cap p (Hxs _ hS.below) hf (fun W' hb => hp W' (hS.below.trans (hb.mono hS.below.size)))) Tryz.call208 hS rfl rfl rfl fun v W a hR hB hlt hS => ?_
 subst hR
 refine st_v hS rfl rfl (run_bin hS rfl rfl rfl) fun a hS => st_v hS rfl rfl (run_assign hS rfl) fun a hS => wl_nil ?_
 refine wpIn_ret ?_
 repeat (first | refine q_ret ?_ | refine q_block_ret ?_)
 refine hS.done (res1 (fn := Tryz.f157) (r1 := .tmp 4) rfl (rv_tmp hS rfl)) ?_
 rw [idxOf_ge]
def airs (a : Air) : List Span := [a.weight, a.temp, a.height, a.wind]
theorem airs_all (a : Air) : (airs a).all Span.ok = airOk a := by simp [airs, airOk, Bool.and_assoc]
theorem errC_if {r : Rot} {a : Air} {b : Bool} (h1 : rotOk r = true) (h2 : airOk a = true) : errC r a b = if b then 0 else 1 := by unfold errC; rw [if_pos h1, if_pos h2]
theorem errC_rot {r : Rot} {a : Air} {b : Bool} (h1 : rotOk r = false) : errC r a b = 20 := by unfold errC; rw [h1]; rfl
theorem errC_air {r : Rot} {a : Air} {b : Bool} (h1 : rotOk r = true) (h2 : airOk a = false) : errC r a b = 21 := by unfold errC; rw [h1, h2]; rfl
theorem chk_ok {r : Rot} (h : checkRot r = 0) : rotOk r = true := by
  unfold checkRot at h; cases h1 : rotOk r <;> simp [h1] at h ⊢
theorem chk_no {r : Rot} (h : ¬ checkRot r = 0) : rotOk r = false := by
  unfold checkRot at h; cases h1 : rotOk r <;> simp [h1] at h ⊢
set_option maxHeartbeats 4000000 in
set_option maxRecDepth 100000 in
theorem rotor_check (Vr : RV) (r : Rot) (A : Air) (sfu : SV) (fu : List Span) (ft : FuncId) (capt : List Value) (L : List LookV) {w : World} {Fr Ff FL : Nat → Prop} (hr : RotR Fr w Vr r) (hfu : Sl kSpan Ff w sfu fu) (hft : Enters Tryz.prog ft)
    (htab : ∀ W, Below w.heap.size w W → rotOk r = true → Ret Tryz.prog ft capt W (fun v W' => ∃ s : SV, v = .slice s.a L.length s.c ∧ Sl kLook (fun k => W.heap.size ≤ k) W' s L)) (hL : rotOk r = true → ∀ x ∈ L, TabR FL w x.V x.t ∧ tabOk x.t = true) :
    Ret Tryz.prog 77 [.agg (rotC Vr r).toArray, .agg (airC A).toArray, .slice sfu.a fu.length sfu.c, .func (.func ft) #[] capt.toArray] w (fun v _ => v = .int .i64 (errC r A (fu.all Span.ok && L.all fun x => liesT x.t x.p x.q))) := by
 refine ret_start (n := 42) Tryz.func77 rfl rfl rfl (fun a hS => ?_)
 have Hr : ∀ W, Below w.heap.size w W → RotR Fr W Vr r := fun W hb => hr.move (keep_of hb)
 have Hfu : ∀ W, Below w.heap.size w W → Sl kSpan Ff W sfu fu := fun W hb => hfu.at_ hb
 have hmf := hfu.len
 have h4 : (airs A).length = 4 := rfl
 refine wpIn_seq ?_
 refine wpIn_region_lit ?_
 refine st_box_agg hS rfl rfl rfl fun W a b0 hS => st_box_agg hS rfl rfl rfl fun W a b1 hS => st_v hS rfl rfl (run_assign hS rfl) fun a hS => wl_nil ?_
 refine wpIn_seq ?_
 refine wpIn_seq ?_
 refine wpIn_region_lit ?_
 refine st_v hS rfl rfl (run_load_all (i := 1) Tryz.isAgg27 Tryz.sizeOf27 hS rfl rfl rfl) fun a hS => st_call (rotor_Check Vr r (Hr _ hS.below)) Tryz.call154 hS rfl rfl rfl fun v W a hR hB hlt hS => ?_
 subst hR
 refine st_v hS rfl rfl (run_assign hS rfl) fun a hS => wl_nil ?_
 refine wpIn_seq ?_
 refine wpIn_region_lit ?_
 refine st_v hS rfl rfl (run_move hS rfl) fun a hS => st_v hS rfl rfl (run_bin hS rfl rfl rfl) fun a hS => wl_nil ?_
 refine st_cond hS rfl (fun hc1 => ?_) (fun hc1 => ?_)
 ·
  try simp only [ty] at hc1
  refine wpIn_seq ?_
  refine wpIn_region_lit ?_
  refine st_v hS rfl rfl (run_move hS rfl) fun a hS => st_v hS rfl rfl (run_assign hS rfl) fun a hS => wl_nil ?_
  refine wpIn_ret ?_
  repeat (first | refine q_ret ?_ | refine q_block_ret ?_)
  refine hS.done (res1 (fn := Tryz.f77) (r1 := .tmp 8) rfl (rv_tmp hS rfl)) ?_
  rw [errC_rot (chk_no hc1), checkRot, chk_no hc1]; rfl
 ·
  try simp only [ty] at hc1
  have hrok := chk_ok hc1
  refine wpIn_skip ?_
  refine wpIn_seq ?_
  refine wpIn_seq ?_
  refine wpIn_region_lit ?_
  refine st_v hS rfl rfl (run_fieldAddr fa33_0 hS rfl) fun a hS => st_v hS rfl rfl (run_load_agg (i := 0) (vs := [_, _]) Tryz.isAgg31 Tryz.sizeOf31 hS rfl rfl rfl ⟨rfl, rfl, trivial⟩) fun a hS => st_v hS rfl rfl (run_fieldAddr fa33_1 hS rfl) fun a hS => st_v hS rfl rfl (run_load_agg (i := 0) (vs := [_, _]) Tryz.isAgg31 Tryz.sizeOf31 hS rfl rfl rfl ⟨rfl, rfl, trivial⟩) fun a hS => st_v hS rfl rfl (run_fieldAddr fa33_2 hS rfl) fun a hS => st_v hS rfl rfl (run_load_agg (i := 0) (vs := [_, _]) Tryz.isAgg31 Tryz.sizeOf31 hS rfl rfl rfl ⟨rfl, rfl, trivial⟩) fun a hS => st_v hS rfl rfl (run_fieldAddr fa33_3 hS rfl) fun a hS => st_v hS rfl rfl (run_load_agg (i := 0) (vs := [_, _]) Tryz.isAgg31 Tryz.sizeOf31 hS rfl rfl rfl ⟨rfl, rfl, trivial⟩) fun a hS => st_buildSlice (pv := [(0, .agg #[.int .i64 _, .int .i64 _]), (1, .agg #[.int .i64 _, .int .i64 _]), (2, .agg #[.int .i64 _, .int .i64 _]), (3, .agg #[.int .i64 _, .int .i64 _])]) (fun W => bs61_4_0_1_2_3 _ _ _ _ _ _ _ _ W) hS rfl rfl rfl fun W a b2 hS => ?_
  have hS := hS.freeze (enc := spanC) (nn := 2) (bb := 16) (hb := by decide) (hl := fun _ => rfl) (airs A) rfl (Nat.le_of_ble_eq_true rfl)
  refine st_v hS rfl rfl (run_len_slice Tryz.underlying61 hS rfl) fun a hS => st_v hS rfl rfl (run_move hS rfl) fun a hS => wl_nil ?_
  refine wpIn_block ?_
  refine st_loop2 (α := Nat) (fun x => [(27, .int .i64 (((x : Nat) : Int)))]) [(0, _), (1, _), (2, _), (3, _), (4, _), (5, _), (9, _), (25, _), (26, _)] (fun l _ => l) (fun x => x ≤ 4 ∧ ∀ j, j < x → (spanAt (airs A) j).ok = true) (fun x => 4 - x) (0) hS (Sub.cons rfl (Sub.cons rfl (Sub.cons rfl (Sub.cons rfl (Sub.cons rfl (Sub.cons rfl (Sub.cons rfl (Sub.cons rfl (Sub.cons rfl (Sub.cons rfl Sub.nil)))))))))) rfl (⟨Nat.zero_le _, fun j hj => absurd hj (Nat.not_lt_zero j)⟩) (fun x W a hφ hS => ?_)
  dsimp only [setB, List.cons_append, List.nil_append, List.take] at hS
  obtain ⟨hx, hg⟩ := hφ
  refine wpIn_seq ?_
  refine wpIn_region_lit ?_
  refine st_v hS rfl rfl (run_bin hS rfl rfl rfl) fun a hS => wl_nil ?_
  refine wpIn_seq ?_
  refine st_cond hS rfl (fun hc2 => ?_) (fun hc2 => ?_)
  ·
   try simp only [ty] at hc2
   refine wpIn_skip ?_
   refine wpIn_seq ?_
   refine wpIn_block ?_
   refine wpIn_seq ?_
   refine wpIn_region_lit ?_
   obtain ⟨ad0, hA0, hL0⟩ := sl_span (fun _ h => h) hS.now.2 (i := ((x : Nat) : Int)) (j := x) (by omega) (by omega)
   refine st_v hS rfl rfl (run_indexAddr Tryz.underlying61 Tryz.sizeOf31 hS rfl rfl hA0 (by omega) (by omega)) fun a hS => st_v hS rfl rfl (run_load_ext Tryz.isAgg31 Tryz.sizeOf31 hS rfl rfl (hL0 _ hS.now.2)) fun a hS => st_alloc_agg Tryz.zeroValue31 hS rfl rfl fun W a b3 hS => st_store (i := 0) Tryz.sizeOf31 hS rfl rfl rfl rfl rfl rfl rfl rfl rfl fun W a hS => wl_nil ?_
   refine wpIn_seq ?_
   refine wpIn_region_lit ?_
   refine st_v hS rfl rfl (run_load_all (i := 0) Tryz.isAgg31 Tryz.sizeOf31 hS rfl rfl rfl) fun a hS => st_call (rotor_valid (spanAt (airs A) (x))) Tryz.call82 hS rfl rfl rfl fun v W a hR hB hlt hS => ?_
   subst hR
   refine st_v hS rfl rfl (run_not hS rfl) fun a hS => wl_nil ?_
   refine st_cond hS rfl (fun hc3 => ?_) (fun hc3 => ?_)
   ·
    try simp only [ty] at hc3
    refine wpIn_seq ?_
    refine wpIn_region_lit ?_
    refine st_v hS rfl rfl (run_assign hS rfl) fun a hS => wl_nil ?_
    refine wpIn_ret ?_
    repeat (first | refine q_ret ?_ | refine q_block_ret ?_)
    refine hS.done (res1 (fn := Tryz.f77) (r1 := .tmp 8) rfl (rv_tmp hS rfl)) ?_
    have h : airOk A = false := by rw [← airs_all]; exact all_bad (d := ⟨0, 0⟩) (i := x) (by omega) (by simpa [spanAt] using hc3)
    rw [errC_air hrok h]
   ·
    try simp only [ty] at hc3
    refine wpIn_skip ?_
    refine wpIn_region_lit ?_
    refine st_v hS rfl rfl (run_add (t := ((x + 1 : Nat) : Int)) hS rfl rfl (by omega) (by omega) (by omega)) fun a hS => st_v hS rfl rfl (run_move hS rfl) fun a hS => wl_nil ?_
    refine ⟨x + 1, ⟨⟨by omega, fun j hj => ?_⟩, by omega⟩, (hS.sub (Sub.cons rfl (Sub.cons rfl (Sub.cons rfl (Sub.cons rfl (Sub.cons rfl (Sub.cons rfl (Sub.cons rfl (Sub.cons rfl (Sub.cons rfl (Sub.cons rfl Sub.nil))))))))))).drop (List.Sublist.cons _ (List.Sublist.refl _))⟩
    by_cases e : j = x
    · subst e; simpa using hc3
    · exact hg j (by omega)
  ·
   try simp only [ty] at hc2
   refine wpIn_exit ?_
   refine wpIn_seq ?_
   refine wpIn_seq ?_
   refine wpIn_region_lit ?_
   refine st_v hS rfl rfl (run_move hS rfl) fun a hS => st_call (has_span sfu fu 156 [] (fun p => !(p.ok)) (Hfu _ hS.below) Tryz.call156 (fun W' hb x hx => rotor_chk1 _)) Tryz.call155 hS rfl rfl rfl fun v W a hR hB hlt hS => ?_
   subst hR
   have haok : airOk A = true := by
     rw [← airs_all]; exact all_good (d := ⟨0, 0⟩) fun i hi => hg i (by omega)
   refine st_v hS rfl rfl (run_move hS rfl) fun a hS => ?_
   refine st_split (d := 37) hS rfl (fun hc4 hS => ?_) (fun hc4 hS => ?_)
   ·
    try simp only [ty] at hc4
    refine st_skip hS (hS.unwanted rfl rfl rfl rfl) rfl fun a hS => st_skip hS (hS.unwanted rfl rfl rfl rfl) rfl fun a hS => st_skip hS (hS.unwanted rfl rfl rfl rfl) rfl fun a hS => st_v hS rfl rfl (run_pick_t hS rfl rfl) fun a hS => wl_nil ?_
    refine st_cond_t hS rfl ?_
    refine wpIn_seq ?_
    refine wpIn_region_lit ?_
    refine st_v hS rfl rfl (run_assign hS rfl) fun a hS => wl_nil ?_
    refine wpIn_ret ?_
    repeat (first | refine q_ret ?_ | refine q_block_ret ?_)
    refine hS.done (res1 (fn := Tryz.f77) (r1 := .tmp 8) rfl (rv_tmp hS rfl)) ?_
    have hf : fu.all Span.ok = false := by rw [List.all_eq_not_any_not]; simp [hc4]
    rw [errC_if hrok haok, hf]; rfl
   ·
    try simp only [ty] at hc4
    refine st_v hS (hS.wanted rfl rfl rfl) rfl (run_move hS rfl) fun a hS => st_callv hS rfl rfl (hft) (htab _ hS.below hrok) (hS.wanted rfl rfl rfl) rfl fun v W a hR hB hlt hS => ?_
    obtain ⟨s0, rfl, hs0⟩ := hR
    refine st_call (has_look s0 L 158 [] (fun x => !(liesT x.t x.p x.q)) hs0 Tryz.call158 (fun W' hb x hx => rotor_chk2 _ ((hL hrok x hx).1.move (keep_of (hS.below.trans (hb.mono hS.below.size)))) (hL hrok x hx).2)) Tryz.call157 hS (hS.wanted rfl rfl rfl) rfl rfl fun v W a hR hB hlt hS => ?_
    subst hR
    refine st_v hS rfl rfl (run_pick_f hS rfl rfl) fun a hS => wl_nil ?_
    refine st_cond hS rfl (fun hc5 => ?_) (fun hc5 => ?_)
    ·
     try simp only [ty] at hc5
     refine wpIn_seq ?_
     refine wpIn_region_lit ?_
     refine st_v hS rfl rfl (run_assign hS rfl) fun a hS => wl_nil ?_
     refine wpIn_ret ?_
     repeat (first | refine q_ret ?_ | refine q_block_ret ?_)
     refine hS.done (res1 (fn := Tryz.f77) (r1 := .tmp 8) rfl (rv_tmp hS rfl)) ?_
     have hf : (L.all fun x => liesT x.t x.p x.q) = false := by rw [List.all_eq_not_any_not]; simp only [hc5]; rfl
     rw [errC_if hrok haok, hf, Bool.and_false]; rfl
    ·
     try simp only [ty] at hc5
     refine wpIn_skip ?_
     refine wpIn_seq ?_
     refine wpIn_region_lit ?_
     refine st_v hS rfl rfl (run_assign hS rfl) fun a hS => wl_nil ?_
     refine wpIn_ret ?_
     repeat (first | refine q_ret ?_ | refine q_block_ret ?_)
     refine hS.done (res1 (fn := Tryz.f77) (r1 := .tmp 8) rfl (rv_tmp hS rfl)) ?_
     have hf : fu.all Span.ok = true := by rw [List.all_eq_not_any_not]; simp [hc4]
     have hf2 : (L.all fun x => liesT x.t x.p x.q) = true := by rw [List.all_eq_not_any_not]; simp only [hc5]; rfl
     rw [errC_if hrok haok, hf, hf2]; rfl
end Go.Proofs.YtdnodlgebpnfoaaGreat
namespace Go.Proofs.YtdnodlgebpnfoaaGreat
open Go Go.RowKit Go.Shelf Sw
set_option maxHeartbeats 2000000 in
set_option maxRecDepth 100000 in
theorem mach_power  (Vr : RV) (r : Rot) (A : Air) {w : World} {Fr : Nat → Prop} (hr : RotR Fr w Vr r)  : Ret Tryz.prog 94 [.agg (machC Vr r A).toArray] w (fun v _ => v = .agg (lookC (⟨Vr.power, r.power, A.temp, A.height⟩ : LookV)).toArray) := by
 refine ret_start (n := 13) Tryz.func94 rfl rfl rfl (fun a hS => ?_)
 have Hr : ∀ W, Below w.heap.size w W → RotR Fr W Vr r := fun W hb => hr.move (keep_of hb)
 refine wpIn_seq ?_
 refine wpIn_region_lit ?_
 refine st_box_agg hS rfl rfl rfl fun W a b0 hS => st_alloc_agg Tryz.zeroValue122 hS rfl rfl fun W a b1 hS => wl_nil ?_
 refine wpIn_seq ?_
 refine wpIn_region_lit ?_
 refine st_v hS rfl rfl (run_fieldAddr fa118_0 hS rfl) fun a hS => st_v hS rfl rfl (run_fieldAddr fa27_3 hS rfl) fun a hS => st_v hS rfl rfl (run_load_agg (i := 1) (vs := [_, _, _]) Tryz.isAgg25 Tryz.sizeOf25 hS rfl rfl rfl ⟨rfl, rfl, rfl, trivial⟩) fun a hS => st_v hS rfl rfl (run_fieldAddr fa118_1 hS rfl) fun a hS => st_v hS rfl rfl (run_fieldAddr fa33_1 hS rfl) fun a hS => st_v hS rfl rfl (run_load_agg (i := 1) (vs := [_, _]) Tryz.isAgg31 Tryz.sizeOf31 hS rfl rfl rfl ⟨rfl, rfl, trivial⟩) fun a hS => st_v hS rfl rfl (run_fieldAddr fa118_1 hS rfl) fun a hS => st_v hS rfl rfl (run_fieldAddr fa33_2 hS rfl) fun a hS => st_v hS rfl rfl (run_load_agg (i := 1) (vs := [_, _]) Tryz.isAgg31 Tryz.sizeOf31 hS rfl rfl rfl ⟨rfl, rfl, trivial⟩) fun a hS => st_v hS rfl rfl (run_build (pv := [(0, .agg #[.slice _ _ _, .slice _ _ _, .slice _ _ _]), (1, .agg #[.int .i64 _, .int .i64 _]), (2, .agg #[.int .i64 _, .int .i64 _])]) (fun W => bd122_0_1_2 _ _ _ _ _ _ _ _ _ _ _ _ _ W) hS rfl) fun a hS => st_store (cs' := [.slice Vr.power.x.a r.power.X.length Vr.power.x.c, .slice Vr.power.y.a r.power.Y.length Vr.power.y.c, .slice Vr.power.v.a r.power.V.length Vr.power.v.c, .int .i64 A.temp.lo, .int .i64 A.temp.hi, .int .i64 A.height.lo, .int .i64 A.height.hi]) (i := 0) Tryz.sizeOf122 hS rfl rfl rfl rfl rfl rfl rfl rfl rfl fun W a hS => wl_nil ?_
 refine wpIn_ret ?_
 repeat (first | refine q_ret ?_ | refine q_block_ret ?_)
 refine hS.done (res1 (fn := Tryz.f94) (r1 := .cell 2 122) rfl (rv_agg (i := 0) Tryz.isAgg122 Tryz.sizeOf122 hS rfl rfl rfl)) ?_
 rfl
set_option maxHeartbeats 2000000 in
set_option maxRecDepth 100000 in
theorem mach_level  (Vr : RV) (r : Rot) (A : Air) (p : Span) {w : World} {Fr : Nat → Prop} (hr : RotR Fr w Vr r)  : Ret Tryz.prog 115 [.agg (machC Vr r A).toArray, .agg (spanC p).toArray] w (fun v _ => v = .agg (lookC (⟨Vr.level, r.level, p, A.weight⟩ : LookV)).toArray) := by
 refine ret_start (n := 13) Tryz.func115 rfl rfl rfl (fun a hS => ?_)
 have Hr : ∀ W, Below w.heap.size w W → RotR Fr W Vr r := fun W hb => hr.move (keep_of hb)
 refine wpIn_seq ?_
 refine wpIn_region_lit ?_
 refine st_box_agg hS rfl rfl rfl fun W a b0 hS => st_box_agg hS rfl rfl rfl fun W a b1 hS => st_alloc_agg Tryz.zeroValue122 hS rfl rfl fun W a b2 hS => wl_nil ?_
 refine wpIn_seq ?_
 refine wpIn_region_lit ?_
 refine st_v hS rfl rfl (run_fieldAddr fa118_0 hS rfl) fun a hS => st_v hS rfl rfl (run_fieldAddr fa27_2 hS rfl) fun a hS => st_v hS rfl rfl (run_load_agg (i := 2) (vs := [_, _, _]) Tryz.isAgg25 Tryz.sizeOf25 hS rfl rfl rfl ⟨rfl, rfl, rfl, trivial⟩) fun a hS => st_v hS rfl rfl (run_load_all (i := 1) Tryz.isAgg31 Tryz.sizeOf31 hS rfl rfl rfl) fun a hS => st_v hS rfl rfl (run_fieldAddr fa118_1 hS rfl) fun a hS => st_v hS rfl rfl (run_fieldAddr fa33_0 hS rfl) fun a hS => st_v hS rfl rfl (run_load_agg (i := 2) (vs := [_, _]) Tryz.isAgg31 Tryz.sizeOf31 hS rfl rfl rfl ⟨rfl, rfl, trivial⟩) fun a hS => st_v hS rfl rfl (run_build (pv := [(0, .agg #[.slice _ _ _, .slice _ _ _, .slice _ _ _]), (1, .agg #[.int .i64 _, .int .i64 _]), (2, .agg #[.int .i64 _, .int .i64 _])]) (fun W => bd122_0_1_2 _ _ _ _ _ _ _ _ _ _ _ _ _ W) hS rfl) fun a hS => st_store (cs' := [.slice Vr.level.x.a r.level.X.length Vr.level.x.c, .slice Vr.level.y.a r.level.Y.length Vr.level.y.c, .slice Vr.level.v.a r.level.V.length Vr.level.v.c, .int .i64 p.lo, .int .i64 p.hi, .int .i64 A.weight.lo, .int .i64 A.weight.hi]) (i := 0) Tryz.sizeOf122 hS rfl rfl rfl rfl rfl rfl rfl rfl rfl fun W a hS => wl_nil ?_
 refine wpIn_ret ?_
 repeat (first | refine q_ret ?_ | refine q_block_ret ?_)
 refine hS.done (res1 (fn := Tryz.f115) (r1 := .cell 4 122) rfl (rv_agg (i := 0) Tryz.isAgg122 Tryz.sizeOf122 hS rfl rfl rfl)) ?_
 rfl
set_option maxHeartbeats 2000000 in
set_option maxRecDepth 100000 in
theorem mach_ring  (Vr : RV) (r : Rot) (A : Air) (p : Span) {w : World} {Fr : Nat → Prop} (hr : RotR Fr w Vr r)  : Ret Tryz.prog 79 [.agg (machC Vr r A).toArray, .agg (spanC p).toArray] w (fun v _ => v = .agg (lookC (⟨Vr.low, r.low, p, A.weight⟩ : LookV)).toArray) := by
 refine ret_start (n := 13) Tryz.func79 rfl rfl rfl (fun a hS => ?_)
 have Hr : ∀ W, Below w.heap.size w W → RotR Fr W Vr r := fun W hb => hr.move (keep_of hb)
 refine wpIn_seq ?_
 refine wpIn_region_lit ?_
 refine st_box_agg hS rfl rfl rfl fun W a b0 hS => st_box_agg hS rfl rfl rfl fun W a b1 hS => st_alloc_agg Tryz.zeroValue122 hS rfl rfl fun W a b2 hS => wl_nil ?_
 refine wpIn_seq ?_
 refine wpIn_region_lit ?_
 refine st_v hS rfl rfl (run_fieldAddr fa118_0 hS rfl) fun a hS => st_v hS rfl rfl (run_fieldAddr fa27_5 hS rfl) fun a hS => st_v hS rfl rfl (run_load_agg (i := 2) (vs := [_, _, _]) Tryz.isAgg25 Tryz.sizeOf25 hS rfl rfl rfl ⟨rfl, rfl, rfl, trivial⟩) fun a hS => st_v hS rfl rfl (run_load_all (i := 1) Tryz.isAgg31 Tryz.sizeOf31 hS rfl rfl rfl) fun a hS => st_v hS rfl rfl (run_fieldAddr fa118_1 hS rfl) fun a hS => st_v hS rfl rfl (run_fieldAddr fa33_0 hS rfl) fun a hS => st_v hS rfl rfl (run_load_agg (i := 2) (vs := [_, _]) Tryz.isAgg31 Tryz.sizeOf31 hS rfl rfl rfl ⟨rfl, rfl, trivial⟩) fun a hS => st_v hS rfl rfl (run_build (pv := [(0, .agg #[.slice _ _ _, .slice _ _ _, .slice _ _ _]), (1, .agg #[.int .i64 _, .int .i64 _]), (2, .agg #[.int .i64 _, .int .i64 _])]) (fun W => bd122_0_1_2 _ _ _ _ _ _ _ _ _ _ _ _ _ W) hS rfl) fun a hS => st_store (cs' := [.slice Vr.low.x.a r.low.X.length Vr.low.x.c, .slice Vr.low.y.a r.low.Y.length Vr.low.y.c, .slice Vr.low.v.a r.low.V.length Vr.low.v.c, .int .i64 p.lo, .int .i64 p.hi, .int .i64 A.weight.lo, .int .i64 A.weight.hi]) (i := 0) Tryz.sizeOf122 hS rfl rfl rfl rfl rfl rfl rfl rfl rfl fun W a hS => wl_nil ?_
 refine wpIn_ret ?_
 repeat (first | refine q_ret ?_ | refine q_block_ret ?_)
 refine hS.done (res1 (fn := Tryz.f79) (r1 := .cell 4 122) rfl (rv_agg (i := 0) Tryz.isAgg122 Tryz.sizeOf122 hS rfl rfl rfl)) ?_
 rfl
end Go.Proofs.YtdnodlgebpnfoaaGreat
namespace Go.Proofs.YtdnodlgebpnfoaaGreat
open Go Go.RowKit Go.Shelf Sw
theorem errC_t {r : Rot} {a : Air} {b : Bool} (h : ¬ errC r a true = 0) : errC r a b = errC r a true := by
  unfold errC at *
  cases h1 : rotOk r <;> cases h2 : airOk a <;> simp [h1, h2] at h ⊢
theorem errC_tf {r : Rot} {a : Air} {b : Bool} (h1 : rotOk r = true) (h2 : airOk a = true) (h : b = false) : errC r a b = 1 := by subst h; exact errC_if h1 h2
theorem errC_tt {r : Rot} {a : Air} {b : Bool} (h1 : rotOk r = true) (h2 : airOk a = true) (h : b = true) : errC r a b = 0 := by subst h; exact errC_if h1 h2
set_option maxHeartbeats 2000000 in
set_option maxRecDepth 100000 in
theorem ref02_CheckAir  (Vr : RV) (r : Rot) (A : Air) {w : World} {Fr : Nat → Prop} (hr : RotR Fr w Vr r)  : Ret Tryz.prog 160 [.agg (rotC Vr r).toArray, .agg (airC A).toArray] w (fun v _ => v = .int .i64 (errC r A true)) := by
 refine ret_start (n := 33) Tryz.func160 rfl rfl rfl (fun a hS => ?_)
 have Hr : ∀ W, Below w.heap.size w W → RotR Fr W Vr r := fun W hb => hr.move (keep_of hb)
 refine wpIn_seq ?_
 refine wpIn_region_lit ?_
 refine st_box_agg hS rfl rfl rfl fun W a b0 hS => st_box_agg hS rfl rfl rfl fun W a b1 hS => st_v hS rfl rfl (run_assign hS rfl) fun a hS => wl_nil ?_
 refine wpIn_seq ?_
 refine wpIn_region_lit ?_
 refine st_v hS rfl rfl (run_load_all (i := 1) Tryz.isAgg27 Tryz.sizeOf27 hS rfl rfl rfl) fun a hS => st_call (ref02_Check Vr r (Hr _ hS.below)) Tryz.call99 hS rfl rfl rfl fun v W a hR hB hlt hS => ?_
 subst hR
 refine st_v hS rfl rfl (run_assign hS rfl) fun a hS => wl_nil ?_
 refine wpIn_seq ?_
 refine wpIn_seq ?_
 refine wpIn_region_lit ?_
 refine st_v hS rfl rfl (run_move hS rfl) fun a hS => st_v hS rfl rfl (run_bin hS rfl rfl rfl) fun a hS => wl_nil ?_
 refine st_cond hS rfl (fun hc1 => ?_) (fun hc1 => ?_)
 ·
  try simp only [ty] at hc1
  refine wpIn_seq ?_
  refine wpIn_region_lit ?_
  refine st_v hS rfl rfl (run_move hS rfl) fun a hS => st_v hS rfl rfl (run_assign hS rfl) fun a hS => wl_nil ?_
  refine wpIn_ret ?_
  repeat (first | refine q_ret ?_ | refine q_block_ret ?_)
  refine hS.done (res1 (fn := Tryz.f160) (r1 := .tmp 4) rfl (rv_tmp hS rfl)) ?_
  rw [errC_rot (chk_no hc1), checkRot, chk_no hc1]; rfl
 ·
  try simp only [ty] at hc1
  have hrok := chk_ok hc1
  refine wpIn_skip ?_
  refine wpIn_seq ?_
  refine wpIn_seq ?_
  refine wpIn_region_lit ?_
  refine st_v hS rfl rfl (run_fieldAddr fa33_0 hS rfl) fun a hS => st_v hS rfl rfl (run_load_agg (i := 0) (vs := [_, _]) Tryz.isAgg31 Tryz.sizeOf31 hS rfl rfl rfl ⟨rfl, rfl, trivial⟩) fun a hS => st_call (ref01_Valid A.weight) Tryz.call184 hS rfl rfl rfl fun v W a hR hB hlt hS => ?_
  subst hR
  refine st_v hS rfl rfl (run_not hS rfl) fun a hS => st_v hS rfl rfl (run_move hS rfl) fun a hS => ?_
  refine st_split (d := 15) hS rfl (fun hc2 hS => ?_) (fun hc2 hS => ?_)
  ·
   try simp only [ty] at hc2
   refine st_skip hS (hS.unwanted rfl rfl rfl rfl) rfl fun a hS => st_skip hS (hS.unwanted rfl rfl rfl rfl) rfl fun a hS => st_skip hS (hS.unwanted rfl rfl rfl rfl) rfl fun a hS => st_skip hS (hS.unwanted rfl rfl rfl rfl) rfl fun a hS => st_v hS rfl rfl (run_pick_t hS rfl rfl) fun a hS => st_v hS rfl rfl (run_move hS rfl) fun a hS => st_skip hS (hS.unwanted rfl rfl rfl rfl) rfl fun a hS => st_skip hS (hS.unwanted rfl rfl rfl rfl) rfl fun a hS => st_skip hS (hS.unwanted rfl rfl rfl rfl) rfl fun a hS => st_skip hS (hS.unwanted rfl rfl rfl rfl) rfl fun a hS => st_v hS rfl rfl (run_pick_t hS rfl rfl) fun a hS => st_v hS rfl rfl (run_move hS rfl) fun a hS => st_skip hS (hS.unwanted rfl rfl rfl rfl) rfl fun a hS => st_skip hS (hS.unwanted rfl rfl rfl rfl) rfl fun a hS => st_skip hS (hS.unwanted rfl rfl rfl rfl) rfl fun a hS => st_skip hS (hS.unwanted rfl rfl rfl rfl) rfl fun a hS => st_v hS rfl rfl (run_pick_t hS rfl rfl) fun a hS => wl_nil ?_
   have hS := hS.sub (κ' := [(0, _), (1, _), (2, _), (3, _), (4, _), (5, _), (32, _)]) (Sub.cons rfl (Sub.cons rfl (Sub.cons rfl (Sub.cons rfl (Sub.cons rfl (Sub.cons rfl (Sub.cons rfl Sub.nil)))))))
   refine st_cond_t hS rfl ?_
   refine wpIn_seq ?_
   refine wpIn_region_lit ?_
   refine st_v hS rfl rfl (run_assign hS rfl) fun a hS => wl_nil ?_
   refine wpIn_ret ?_
   repeat (first | refine q_ret ?_ | refine q_block_ret ?_)
   refine hS.done (res1 (fn := Tryz.f160) (r1 := .tmp 4) rfl (rv_tmp hS rfl)) ?_
   rw [errC_air hrok (by simp [airOk, hc1, hc2])]
  ·
   try simp only [ty] at hc2
   refine st_v hS (hS.wanted rfl rfl rfl) rfl (run_fieldAddr fa33_1 hS rfl) fun a hS => st_v hS (hS.wanted rfl rfl rfl) rfl (run_load_agg (i := 0) (vs := [_, _]) Tryz.isAgg31 Tryz.sizeOf31 hS rfl rfl rfl ⟨rfl, rfl, trivial⟩) fun a hS => st_call (ref01_Valid A.temp) Tryz.call184 hS (hS.wanted rfl rfl rfl) rfl rfl fun v W a hR hB hlt hS => ?_
   subst hR
   refine st_v hS (hS.wanted rfl rfl rfl) rfl (run_not hS rfl) fun a hS => st_v hS rfl rfl (run_pick_f hS rfl rfl) fun a hS => st_v hS rfl rfl (run_move hS rfl) fun a hS => ?_
   refine st_split (d := 21) hS rfl (fun hc3 hS => ?_) (fun hc3 hS => ?_)
   ·
    try simp only [ty] at hc3
    refine st_skip hS (hS.unwanted rfl rfl rfl rfl) rfl fun a hS => st_skip hS (hS.unwanted rfl rfl rfl rfl) rfl fun a hS => st_skip hS (hS.unwanted rfl rfl rfl rfl) rfl fun a hS => st_skip hS (hS.unwanted rfl rfl rfl rfl) rfl fun a hS => st_v hS rfl rfl (run_pick_t hS rfl rfl) fun a hS => st_v hS rfl rfl (run_move hS rfl) fun a hS => st_skip hS (hS.unwanted rfl rfl rfl rfl) rfl fun a hS => st_skip hS (hS.unwanted rfl rfl rfl rfl) rfl fun a hS => st_skip hS (hS.unwanted rfl rfl rfl rfl) rfl fun a hS => st_skip hS (hS.unwanted rfl rfl rfl rfl) rfl fun a hS => st_v hS rfl rfl (run_pick_t hS rfl rfl) fun a hS => wl_nil ?_
    have hS := hS.sub (κ' := [(0, _), (1, _), (2, _), (3, _), (4, _), (5, _), (32, _)]) (Sub.cons rfl (Sub.cons rfl (Sub.cons rfl (Sub.cons rfl (Sub.cons rfl (Sub.cons rfl (Sub.cons rfl Sub.nil)))))))
    refine st_cond_t hS rfl ?_
    refine wpIn_seq ?_
    refine wpIn_region_lit ?_
    refine st_v hS rfl rfl (run_assign hS rfl) fun a hS => wl_nil ?_
    refine wpIn_ret ?_
    repeat (first | refine q_ret ?_ | refine q_block_ret ?_)
    refine hS.done (res1 (fn := Tryz.f160) (r1 := .tmp 4) rfl (rv_tmp hS rfl)) ?_
    rw [errC_air hrok (by simp [airOk, hc1, hc2, hc3])]
   ·
    try simp only [ty] at hc3
    refine st_v hS (hS.wanted rfl rfl rfl) rfl (run_fieldAddr fa33_2 hS rfl) fun a hS => st_v hS (hS.wanted rfl rfl rfl) rfl (run_load_agg (i := 0) (vs := [_, _]) Tryz.isAgg31 Tryz.sizeOf31 hS rfl rfl rfl ⟨rfl, rfl, trivial⟩) fun a hS => st_call (ref01_Valid A.height) Tryz.call184 hS (hS.wanted rfl rfl rfl) rfl rfl fun v W a hR hB hlt hS => ?_
    subst hR
    refine st_v hS (hS.wanted rfl rfl rfl) rfl (run_not hS rfl) fun a hS => st_v hS rfl rfl (run_pick_f hS rfl rfl) fun a hS => st_v hS rfl rfl (run_move hS rfl) fun a hS => ?_
    refine st_split (d := 27) hS rfl (fun hc4 hS => ?_) (fun hc4 hS => ?_)
    ·
     try simp only [ty] at hc4
     refine st_skip hS (hS.unwanted rfl rfl rfl rfl) rfl fun a hS => st_skip hS (hS.unwanted rfl rfl rfl rfl) rfl fun a hS => st_skip hS (hS.unwanted rfl rfl rfl rfl) rfl fun a hS => st_skip hS (hS.unwanted rfl rfl rfl rfl) rfl fun a hS => st_v hS rfl rfl (run_pick_t hS rfl rfl) fun a hS => wl_nil ?_
     have hS := hS.sub (κ' := [(0, _), (1, _), (2, _), (3, _), (4, _), (5, _), (32, _)]) (Sub.cons rfl (Sub.cons rfl (Sub.cons rfl (Sub.cons rfl (Sub.cons rfl (Sub.cons rfl (Sub.cons rfl Sub.nil)))))))
     refine st_cond_t hS rfl ?_
     refine wpIn_seq ?_
     refine wpIn_region_lit ?_
     refine st_v hS rfl rfl (run_assign hS rfl) fun a hS => wl_nil ?_
     refine wpIn_ret ?_
     repeat (first | refine q_ret ?_ | refine q_block_ret ?_)
     refine hS.done (res1 (fn := Tryz.f160) (r1 := .tmp 4) rfl (rv_tmp hS rfl)) ?_
     rw [errC_air hrok (by simp [airOk, hc1, hc2, hc3, hc4])]
    ·
     try simp only [ty] at hc4
     refine st_v hS (hS.wanted rfl rfl rfl) rfl (run_fieldAddr fa33_3 hS rfl) fun a hS => st_v hS (hS.wanted rfl rfl rfl) rfl (run_load_agg (i := 0) (vs := [_, _]) Tryz.isAgg31 Tryz.sizeOf31 hS rfl rfl rfl ⟨rfl, rfl, trivial⟩) fun a hS => st_call (ref01_Valid A.wind) Tryz.call184 hS (hS.wanted rfl rfl rfl) rfl rfl fun v W a hR hB hlt hS => ?_
     subst hR
     refine st_v hS (hS.wanted rfl rfl rfl) rfl (run_not hS rfl) fun a hS => st_v hS rfl rfl (run_pick_f hS rfl rfl) fun a hS => wl_nil ?_
     have hS := hS.sub (κ' := [(0, _), (1, _), (2, _), (3, _), (4, _), (5, _), (32, _)]) (Sub.cons rfl (Sub.cons rfl (Sub.cons rfl (Sub.cons rfl (Sub.cons rfl (Sub.cons rfl (Sub.cons rfl Sub.nil)))))))
     refine st_cond hS rfl (fun hc5 => ?_) (fun hc5 => ?_)
     ·
      try simp only [ty] at hc5
      refine wpIn_seq ?_
      refine wpIn_region_lit ?_
      refine st_v hS rfl rfl (run_assign hS rfl) fun a hS => wl_nil ?_
      refine wpIn_ret ?_
      repeat (first | refine q_ret ?_ | refine q_block_ret ?_)
      refine hS.done (res1 (fn := Tryz.f160) (r1 := .tmp 4) rfl (rv_tmp hS rfl)) ?_
      rw [errC_air hrok (by simp [airOk, hc1, hc2, hc3, hc4, hc5])]
     ·
      try simp only [ty] at hc5
      refine wpIn_skip ?_
      refine wpIn_seq ?_
      refine wpIn_region_lit ?_
      refine st_v hS rfl rfl (run_assign hS rfl) fun a hS => wl_nil ?_
      refine wpIn_ret ?_
      repeat (first | refine q_ret ?_ | refine q_block_ret ?_)
      refine hS.done (res1 (fn := Tryz.f160) (r1 := .tmp 4) rfl (rv_tmp hS rfl)) ?_
      rw [errC_if hrok (by simp [airOk, hc1, hc2, hc3, hc4, hc5])]; rfl
set_option maxHeartbeats 2000000 in
set_option maxRecDepth 100000 in
theorem ref02_lies  (Vt : TV) (t : Tab) (p : Span) (q : Span) {w : World} {Ft : Nat → Prop} (ht : TabR Ft w Vt t) (hok : tabOk t = true) : Ret Tryz.prog 112 [.agg (tabC Vt t).toArray, .agg (spanC p).toArray, .agg (spanC q).toArray] w (fun v _ => v = .bool (p.ok && q.ok && liesT t p q)) := by
 refine ret_start (n := 25) Tryz.func112 rfl rfl rfl (fun a hS => ?_)
 have Ht : ∀ W, Below w.heap.size w W → TabR Ft W Vt t := fun W hb => ht.move (keep_of hb)
 have hmtx := ht.1.len
 have hmty := ht.2.1.len
 have hmtv := ht.2.2.len
 obtain ⟨hX, hY, _, _⟩ := tab_axes hok
 have h2 := hX.two; have h3 := hY.two
 refine wpIn_seq ?_
 refine wpIn_region_lit ?_
 refine st_box_agg hS rfl rfl rfl fun W a b0 hS => st_box_agg hS rfl rfl rfl fun W a b1 hS => st_box_agg hS rfl rfl rfl fun W a b2 hS => st_v hS rfl rfl (run_assign hS rfl) fun a hS => wl_nil ?_
 refine wpIn_seq ?_
 refine wpIn_region_lit ?_
 refine st_v hS rfl rfl (run_load_all (i := 1) Tryz.isAgg31 Tryz.sizeOf31 hS rfl rfl rfl) fun a hS => st_call (ref01_Valid p) Tryz.call184 hS rfl rfl rfl fun v W a hR hB hlt hS => ?_
 subst hR
 refine st_v hS rfl rfl (run_move hS rfl) fun a hS => ?_
 refine st_split (d := 9) hS rfl (fun hc1 hS => ?_) (fun hc1 hS => ?_)
 ·
  try simp only [ty] at hc1
  refine st_v hS (hS.wanted rfl rfl rfl) rfl (run_load_all (i := 0) Tryz.isAgg31 Tryz.sizeOf31 hS rfl rfl rfl) fun a hS => st_call (ref01_Valid q) Tryz.call184 hS (hS.wanted rfl rfl rfl) rfl rfl fun v W a hR hB hlt hS => ?_
  subst hR
  refine st_v hS rfl rfl (run_pick_t hS rfl rfl) fun a hS => st_v hS rfl rfl (run_move hS rfl) fun a hS => ?_
  refine st_split (d := 13) hS rfl (fun hc2 hS => ?_) (fun hc2 hS => ?_)
  ·
   try simp only [ty] at hc2
   refine st_v hS (hS.wanted rfl rfl rfl) rfl (run_fieldAddr fa25_0 hS rfl) fun a hS => st_v hS (hS.wanted rfl rfl rfl) rfl (run_load_one (i := 2) Tryz.isAgg22 hS rfl rfl rfl) fun a hS => st_v hS (hS.wanted rfl rfl rfl) rfl (run_load_all (i := 1) Tryz.isAgg31 Tryz.sizeOf31 hS rfl rfl rfl) fun a hS => st_call (ref01_Between Vt.x t.X p ((fun W hC => (Ht W hC).1) _ hS.below) (by omega)) Tryz.call161 hS (hS.wanted rfl rfl rfl) rfl rfl fun v W a hR hB hlt hS => ?_
   subst hR
   refine st_v hS rfl rfl (run_pick_t hS rfl rfl) fun a hS => st_v hS rfl rfl (run_move hS rfl) fun a hS => ?_
   refine st_split (d := 19) hS rfl (fun hc3 hS => ?_) (fun hc3 hS => ?_)
   ·
    try simp only [ty] at hc3
    refine st_v hS (hS.wanted rfl rfl rfl) rfl (run_fieldAddr fa25_1 hS rfl) fun a hS => st_v hS (hS.wanted rfl rfl rfl) rfl (run_load_one (i := 2) Tryz.isAgg22 hS rfl rfl rfl) fun a hS => st_v hS (hS.wanted rfl rfl rfl) rfl (run_load_all (i := 0) Tryz.isAgg31 Tryz.sizeOf31 hS rfl rfl rfl) fun a hS => st_call (ref01_Between Vt.y t.Y q ((fun W hC => (Ht W hC).2.1) _ hS.below) (by omega)) Tryz.call161 hS (hS.wanted rfl rfl rfl) rfl rfl fun v W a hR hB hlt hS => ?_
    subst hR
    refine st_v hS rfl rfl (run_pick_t hS rfl rfl) fun a hS => st_v hS rfl rfl (run_assign hS rfl) fun a hS => wl_nil ?_
    refine wpIn_ret ?_
    repeat (first | refine q_ret ?_ | refine q_block_ret ?_)
    refine hS.done (res1 (fn := Tryz.f112) (r1 := .tmp 6) rfl (rv_tmp hS rfl)) ?_
    refine vb ?_; simp [liesT, hc1, hc2, hc3]
   ·
    try simp only [ty] at hc3
    refine st_skip hS (hS.unwanted rfl rfl rfl rfl) rfl fun a hS => st_skip hS (hS.unwanted rfl rfl rfl rfl) rfl fun a hS => st_skip hS (hS.unwanted rfl rfl rfl rfl) rfl fun a hS => st_skip hS (hS.unwanted rfl rfl rfl rfl) rfl fun a hS => st_v hS rfl rfl (run_pick_f hS rfl rfl) fun a hS => st_v hS rfl rfl (run_assign hS rfl) fun a hS => wl_nil ?_
    refine wpIn_ret ?_
    repeat (first | refine q_ret ?_ | refine q_block_ret ?_)
    refine hS.done (res1 (fn := Tryz.f112) (r1 := .tmp 6) rfl (rv_tmp hS rfl)) ?_
    refine vb ?_; simp [liesT, hc1, hc2, hc3]
  ·
   try simp only [ty] at hc2
   refine st_skip hS (hS.unwanted rfl rfl rfl rfl) rfl fun a hS => st_skip hS (hS.unwanted rfl rfl rfl rfl) rfl fun a hS => st_skip hS (hS.unwanted rfl rfl rfl rfl) rfl fun a hS => st_skip hS (hS.unwanted rfl rfl rfl rfl) rfl fun a hS => st_v hS rfl rfl (run_pick_f hS rfl rfl) fun a hS => st_v hS rfl rfl (run_move hS rfl) fun a hS => st_skip hS (hS.unwanted rfl rfl rfl rfl) rfl fun a hS => st_skip hS (hS.unwanted rfl rfl rfl rfl) rfl fun a hS => st_skip hS (hS.unwanted rfl rfl rfl rfl) rfl fun a hS => st_skip hS (hS.unwanted rfl rfl rfl rfl) rfl fun a hS => st_v hS rfl rfl (run_pick_f hS rfl rfl) fun a hS => st_v hS rfl rfl (run_assign hS rfl) fun a hS => wl_nil ?_
   refine wpIn_ret ?_
   repeat (first | refine q_ret ?_ | refine q_block_ret ?_)
   refine hS.done (res1 (fn := Tryz.f112) (r1 := .tmp 6) rfl (rv_tmp hS rfl)) ?_
   refine vb ?_; simp [liesT, hc1, hc2]
 ·
  try simp only [ty] at hc1
  refine st_skip hS (hS.unwanted rfl rfl rfl rfl) rfl fun a hS => st_skip hS (hS.unwanted rfl rfl rfl rfl) rfl fun a hS => st_v hS rfl rfl (run_pick_f hS rfl rfl) fun a hS => st_v hS rfl rfl (run_move hS rfl) fun a hS => st_skip hS (hS.unwanted rfl rfl rfl rfl) rfl fun a hS => st_skip hS (hS.unwanted rfl rfl rfl rfl) rfl fun a hS => st_skip hS (hS.unwanted rfl rfl rfl rfl) rfl fun a hS => st_skip hS (hS.unwanted rfl rfl rfl rfl) rfl fun a hS => st_v hS rfl rfl (run_pick_f hS rfl rfl) fun a hS => st_v hS rfl rfl (run_move hS rfl) fun a hS => st_skip hS (hS.unwanted rfl rfl rfl rfl) rfl fun a hS => st_skip hS (hS.unwanted rfl rfl rfl rfl) rfl fun a hS => st_skip hS (hS.unwanted rfl rfl rfl rfl) rfl fun a hS => st_skip hS (hS.unwanted rfl rfl rfl rfl) rfl fun a hS => st_v hS rfl rfl (run_pick_f hS rfl rfl) fun a hS => st_v hS rfl rfl (run_assign hS rfl) fun a hS => wl_nil ?_
  refine wpIn_ret ?_
  repeat (first | refine q_ret ?_ | refine q_block_ret ?_)
  refine hS.done (res1 (fn := Tryz.f112) (r1 := .tmp 6) rfl (rv_tmp hS rfl)) ?_
  refine vb ?_; simp [liesT, hc1]
set_option maxHeartbeats 2000000 in
set_option maxRecDepth 100000 in
theorem ref02_bound  (Vt : TV) (t : Tab) (p : Span) (q : Span) {w : World} {Ft : Nat → Prop} (ht : TabR Ft w Vt t) (hok : tabOk t = true) (hp : p.ok = true) (hq : q.ok = true) (hl : liesT t p q = true) : Ret Tryz.prog 113 [.agg (tabC Vt t).toArray, .agg (spanC p).toArray, .agg (spanC q).toArray] w (fun v _ => v = .agg (spanC (bnd t p q)).toArray) := by
 refine ret_start (n := 17) Tryz.func113 rfl rfl rfl (fun a hS => ?_)
 have Ht : ∀ W, Below w.heap.size w W → TabR Ft W Vt t := fun W hb => ht.move (keep_of hb)
 have hmtx := ht.1.len
 have hmty := ht.2.1.len
 have hmtv := ht.2.2.len
 refine wpIn_seq ?_
 refine wpIn_region_lit ?_
 refine st_box_agg hS rfl rfl rfl fun W a b0 hS => st_box_agg hS rfl rfl rfl fun W a b1 hS => st_box_agg hS rfl rfl rfl fun W a b2 hS => st_alloc_agg Tryz.zeroValue31 hS rfl rfl fun W a b3 hS => wl_nil ?_
 refine wpIn_seq ?_
 refine wpIn_region_lit ?_
 refine st_v hS rfl rfl (run_load_all (i := 3) Tryz.isAgg25 Tryz.sizeOf25 hS rfl rfl rfl) fun a hS => st_v hS rfl rfl (run_load_all (i := 2) Tryz.isAgg31 Tryz.sizeOf31 hS rfl rfl rfl) fun a hS => st_v hS rfl rfl (run_load_all (i := 1) Tryz.isAgg31 Tryz.sizeOf31 hS rfl rfl rfl) fun a hS => st_call (ref01_Bound Vt t p q (Ht _ hS.below)) Tryz.call185 hS rfl rfl rfl fun v W a hR hB hlt hS => ?_
 subst hR
 refine st_v hS rfl rfl (run_move hS rfl) fun a hS => st_v hS rfl rfl (run_extract hS rfl rfl) fun a hS => st_v hS rfl rfl (run_extract hS rfl rfl) fun a hS => st_alloc_agg Tryz.zeroValue31 hS rfl rfl fun W a b4 hS => st_store (i := 0) Tryz.sizeOf31 hS rfl rfl rfl rfl rfl rfl rfl rfl rfl fun W a hS => st_v hS rfl rfl (run_assign hS rfl) fun a hS => wl_nil ?_
 refine wpIn_seq ?_
 refine wpIn_region_lit ?_
 refine st_v hS rfl rfl (run_load_all (i := 0) Tryz.isAgg31 Tryz.sizeOf31 hS rfl rfl rfl) fun a hS => st_store (i := 1) Tryz.sizeOf31 hS rfl rfl rfl rfl rfl rfl rfl rfl rfl fun W a hS => wl_nil ?_
 refine wpIn_ret ?_
 repeat (first | refine q_ret ?_ | refine q_block_ret ?_)
 refine hS.done (res1 (fn := Tryz.f113) (r1 := .cell 6 31) rfl (rv_agg (i := 1) Tryz.isAgg31 Tryz.sizeOf31 hS rfl rfl rfl)) ?_
 simp only [hok, hp, hq, hl, Bool.and_self, if_true]; rfl
set_option maxHeartbeats 2000000 in
set_option maxRecDepth 100000 in
theorem ref02_Has  (Vr : RV) (r : Rot) (A : Air) {w : World} {Fr : Nat → Prop} (hr : RotR Fr w Vr r)  : Ret Tryz.prog 180 [.agg (rotC Vr r).toArray, .agg (airC A).toArray] w (fun v _ => v = .tuple #[.agg (spanC (if errC r A (onHas r A) = 0 then hasOf r A else ⟨0, 0⟩)).toArray, .int .i64 (errC r A (onHas r A))]) := by
 refine ret_start (n := 30) Tryz.func180 rfl rfl rfl (fun a hS => ?_)
 have Hr : ∀ W, Below w.heap.size w W → RotR Fr W Vr r := fun W hb => hr.move (keep_of hb)
 refine wpIn_seq ?_
 refine wpIn_region_lit ?_
 refine st_box_agg hS rfl rfl rfl fun W a b0 hS => st_box_agg hS rfl rfl rfl fun W a b1 hS => st_alloc_agg Tryz.zeroValue31 hS rfl rfl fun W a b2 hS => st_v hS rfl rfl (run_assign hS rfl) fun a hS => wl_nil ?_
 refine wpIn_seq ?_
 refine wpIn_region_lit ?_
 refine st_v hS rfl rfl (run_load_all (i := 2) Tryz.isAgg27 Tryz.sizeOf27 hS rfl rfl rfl) fun a hS => st_v hS rfl rfl (run_load_all (i := 1) Tryz.isAgg33 Tryz.sizeOf33 hS rfl rfl rfl) fun a hS => st_call (ref02_CheckAir Vr r A (Hr _ hS.below)) Tryz.call160 hS rfl rfl rfl fun v W a hR hB hlt hS => ?_
 subst hR
 refine st_v hS rfl rfl (run_assign hS rfl) fun a hS => wl_nil ?_
 refine wpIn_seq ?_
 refine wpIn_seq ?_
 refine wpIn_region_lit ?_
 refine st_v hS rfl rfl (run_move hS rfl) fun a hS => st_v hS rfl rfl (run_bin hS rfl rfl rfl) fun a hS => wl_nil ?_
 refine st_cond hS rfl (fun hc1 => ?_) (fun hc1 => ?_)
 ·
  try simp only [ty] at hc1
  refine wpIn_seq ?_
  refine wpIn_region_lit ?_
  refine st_v hS rfl rfl (run_build (pv := []) (fun W => bd31_ W) hS rfl) fun a hS => st_v hS rfl rfl (run_move hS rfl) fun a hS => st_store (i := 0) Tryz.sizeOf31 hS rfl rfl rfl rfl rfl rfl rfl rfl rfl fun W a hS => st_v hS rfl rfl (run_assign hS rfl) fun a hS => wl_nil ?_
  refine wpIn_ret ?_
  repeat (first | refine q_ret ?_ | refine q_block_ret ?_)
  refine hS.done (res2 (fn := Tryz.f180) (r1 := .cell 4 31) (r2 := .tmp 5) rfl (rv_agg (i := 0) Tryz.isAgg31 Tryz.sizeOf31 hS rfl rfl rfl) (rv_tmp hS rfl)) ?_
  have hE : errC r A (onHas r A) = errC r A true := errC_t hc1
  exact t2s (p := ⟨0, 0⟩) (by rw [hE, if_neg hc1]) hE.symm
 ·
  try simp only [ty] at hc1
  obtain ⟨hrok, haok, _⟩ := errC_ok hc1
  obtain ⟨hA1, hA2, hA3, hA4⟩ := (airOk_iff A).1 haok
  have hRp := rot_p hrok
  refine wpIn_skip ?_
  refine wpIn_seq ?_
  refine wpIn_seq ?_
  refine wpIn_region_lit ?_
  refine st_v hS rfl rfl (run_fieldAddr fa27_3 hS rfl) fun a hS => st_v hS rfl rfl (run_load_agg (i := 2) (vs := [_, _, _]) Tryz.isAgg25 Tryz.sizeOf25 hS rfl rfl rfl ⟨rfl, rfl, rfl, trivial⟩) fun a hS => st_v hS rfl rfl (run_fieldAddr fa33_1 hS rfl) fun a hS => st_v hS rfl rfl (run_load_agg (i := 1) (vs := [_, _]) Tryz.isAgg31 Tryz.sizeOf31 hS rfl rfl rfl ⟨rfl, rfl, trivial⟩) fun a hS => st_v hS rfl rfl (run_fieldAddr fa33_2 hS rfl) fun a hS => st_v hS rfl rfl (run_load_agg (i := 1) (vs := [_, _]) Tryz.isAgg31 Tryz.sizeOf31 hS rfl rfl rfl ⟨rfl, rfl, trivial⟩) fun a hS => st_call (ref02_lies Vr.power r.power A.temp A.height ((fun W hC => (Hr W hC).power) _ hS.below) (by exact hRp.power.1)) Tryz.call112 hS rfl rfl rfl fun v W a hR hB hlt hS => ?_
  subst hR
  refine st_v hS rfl rfl (run_not hS rfl) fun a hS => wl_nil ?_
  refine st_cond hS rfl (fun hc2 => ?_) (fun hc2 => ?_)
  ·
   try simp only [ty] at hc2
   refine wpIn_seq ?_
   refine wpIn_region_lit ?_
   refine st_v hS rfl rfl (run_build (pv := []) (fun W => bd31_ W) hS rfl) fun a hS => st_store (i := 0) Tryz.sizeOf31 hS rfl rfl rfl rfl rfl rfl rfl rfl rfl fun W a hS => st_v hS rfl rfl (run_assign hS rfl) fun a hS => wl_nil ?_
   refine wpIn_ret ?_
   repeat (first | refine q_ret ?_ | refine q_block_ret ?_)
   refine hS.done (res2 (fn := Tryz.f180) (r1 := .cell 4 31) (r2 := .tmp 5) rfl (rv_agg (i := 0) Tryz.isAgg31 Tryz.sizeOf31 hS rfl rfl rfl) (rv_tmp hS rfl)) ?_
   have hf : onHas r A = false := by
     revert hc2
     unfold onHas
     cases liesT r.power A.temp A.height <;> simp [hA1, hA2, hA3, hA4]
   have hE : errC r A (onHas r A) = 1 := errC_tf hrok haok hf
   exact t2s (p := ⟨0, 0⟩) (by rw [hE]; rfl) hE.symm
  ·
   try simp only [ty] at hc2
   have ht : onHas r A = true := by
     revert hc2
     unfold onHas
     cases liesT r.power A.temp A.height <;> simp [hA1, hA2, hA3, hA4]
   refine wpIn_skip ?_
   refine wpIn_seq ?_
   refine wpIn_region_lit ?_
   refine st_v hS rfl rfl (run_fieldAddr fa27_3 hS rfl) fun a hS => st_v hS rfl rfl (run_load_agg (i := 2) (vs := [_, _, _]) Tryz.isAgg25 Tryz.sizeOf25 hS rfl rfl rfl ⟨rfl, rfl, rfl, trivial⟩) fun a hS => st_v hS rfl rfl (run_fieldAddr fa33_1 hS rfl) fun a hS => st_v hS rfl rfl (run_load_agg (i := 1) (vs := [_, _]) Tryz.isAgg31 Tryz.sizeOf31 hS rfl rfl rfl ⟨rfl, rfl, trivial⟩) fun a hS => st_v hS rfl rfl (run_fieldAddr fa33_2 hS rfl) fun a hS => st_v hS rfl rfl (run_load_agg (i := 1) (vs := [_, _]) Tryz.isAgg31 Tryz.sizeOf31 hS rfl rfl rfl ⟨rfl, rfl, trivial⟩) fun a hS => st_call (ref02_bound Vr.power r.power A.temp A.height ((fun W hC => (Hr W hC).power) _ hS.below) (by exact hRp.power.1) (by exact hA2) (by exact hA3) (by exact ht)) Tryz.call113 hS rfl rfl rfl fun v W a hR hB hlt hS => ?_
   subst hR
   refine st_store (i := 0) Tryz.sizeOf31 hS rfl rfl rfl rfl rfl rfl rfl rfl rfl fun W a hS => st_v hS rfl rfl (run_assign hS rfl) fun a hS => wl_nil ?_
   refine wpIn_ret ?_
   repeat (first | refine q_ret ?_ | refine q_block_ret ?_)
   refine hS.done (res2 (fn := Tryz.f180) (r1 := .cell 4 31) (r2 := .tmp 5) rfl (rv_agg (i := 0) Tryz.isAgg31 Tryz.sizeOf31 hS rfl rfl rfl) (rv_tmp hS rfl)) ?_
   have hE : errC r A (onHas r A) = 0 := errC_tt hrok haok ht
   exact t2s (p := hasOf r A) (by rw [hE]; rfl) hE.symm
end Go.Proofs.YtdnodlgebpnfoaaGreat
